/-
  The indices while the faces are gone through, plain: one face more; bounds; the table's faces are all faces.
-/
import Derived.Test.YtddnjimpdidpaaaGreatDoorIxO
set_option linter.unusedSimpArgs false
set_option linter.unusedVariables false
namespace Go.Proofs.YtddnjimpdidpaaaGreatDoor
open Go Go.RowKit Go.Maps

theorem idxF_snoc (P : List (List Int)) (hi : Int → Int) (v : Int) (f : List Int) : idxF (P ++ [f]) hi v = idxF P hi v - dnF hi v f := by
  unfold idxF
  rw [List.map_append, List.sum_append]
  simp; omega
theorem dnF_bd (hi : Int → Int) (v : Int) (f : List Int) : -1 ≤ dnF hi v f ∧ dnF hi v f ≤ 1 := by
  unfold dnF wgtF
  split
  · split <;> omega
  · omega
theorem idxF_bd (hi : Int → Int) (v : Int) : ∀ P : List (List Int), -(P.length : Int) ≤ idxF P hi v ∧ idxF P hi v ≤ 1 + P.length := fun P => by
  have h : ∀ P : List (List Int), -(P.length : Int) ≤ (P.map (dnF hi v)).sum ∧ (P.map (dnF hi v)).sum ≤ P.length := fun P => by
    induction P with
    | nil => simp
    | cons f P ih =>
      have := dnF_bd hi v f
      rw [List.map_cons, List.sum_cons, List.length_cons]
      push_cast
      omega
  have := h P
  unfold idxF
  omega
/-- a face of one vertex changes nothing -/
theorem idxF_one {P : List (List Int)} {hi : Int → Int} {f : List Int} (hf : f.length ≤ 1) (V : List Int) : V.map (idxF (P ++ [f]) hi) = V.map (idxF P hi) := List.map_congr_left fun v _ => by
  rw [idxF_snoc]
  unfold dnF
  rw [if_neg (fun hh => by omega)]
  omega
/-- a face of more changes the index of its highest vertex -/
theorem idxF_top {P : List (List Int)} {hi : Int → Int} {f V : List Int} {k : Nat} (hf : 2 ≤ f.length) (hn : V.Nodup) (hk : k < V.length) (ht : topB hi f (V.getD k 0) = true) :
    V.map (idxF (P ++ [f]) hi) = (V.map (idxF P hi)).set k (idxF P hi (V.getD k 0) - wgtF f) := by
  apply List.ext_getElem?
  intro i
  rw [List.getElem?_set, List.getElem?_map]
  by_cases hki : k = i
  · subst hki
    rw [if_pos rfl, if_pos (by rw [List.length_map]; exact hk), List.getElem?_eq_getElem hk, Option.map_some, idxF_snoc]
    have e : V[k] = V.getD k 0 := (getD_elem hk).symm
    rw [e]
    unfold dnF
    rw [if_pos ⟨hf, ht⟩]
  · rw [if_neg hki, List.getElem?_map]
    cases hi2 : V[i]? with
    | none => rfl
    | some x =>
      rw [Option.map_some, Option.map_some, idxF_snoc]
      obtain ⟨hlt, hx⟩ := List.getElem?_eq_some_iff.1 hi2
      have hne : ¬ topB hi f x = true := fun hh => by
        have e := top_one ht hh
        rw [← hx, getD_elem hk] at e
        exact hki ((List.getElem_inj hn).1 e).symm
      unfold dnF
      rw [if_neg (fun hh => hne hh.2)]
      congr 1; omega
/-- the highest by comparison is the highest -/
theorem top_of_le {hi : Int → Int} {f V : List Int} {v : Int} (hf : ∀ x ∈ f, x ∈ V) (hinj : ∀ x ∈ V, ∀ y ∈ V, hi x = hi y → x = y) (hv : v ∈ f) (hle : ∀ y ∈ f, hi y ≤ hi v) : topB hi f v = true := topB_iff.2 ⟨hv, fun y hy hn => by
  have h1 := hle y hy
  have h2 : hi y ≠ hi v := fun e => hn (hinj y (hf y hy) v (hf v hv) e)
  omega⟩
/-- the table's faces are all faces -/
theorem tab_perm {A : List (List Int)} (hne : ∀ g ∈ A, g ≠ []) (hnd : A.Nodup) : (tableF A).flatten.Perm A := by
  refine (List.perm_ext_iff_of_nodup ?_ hnd).2 fun x => mem_flat hne
  unfold tableF List.Nodup
  rw [List.pairwise_flatten]
  refine ⟨fun l hl => ?_, ?_⟩
  · obtain ⟨d, -, rfl⟩ := List.mem_map.1 hl
    exact hnd.sublist List.filter_sublist
  · rw [List.pairwise_map]
    refine (List.nodup_range (n := topN A)).imp fun {d d'} hdd => ?_
    intro x hx y hy e
    subst e
    have h1 := of_decide_eq_true (List.mem_filter.1 hx).2
    have h2 := of_decide_eq_true (List.mem_filter.1 hy).2
    exact hdd (by omega)

/-- the indices in their block -/
def OutS (w : World) (g : Nat) (V : List Int) (hi : Int → Int) (P : List (List Int)) : Prop := w.heap[g]? = some (.cells (intVs (V.map (idxF P hi))).toArray 3 (0, 0))
theorem OutS.at {w : World} {g k : Nat} {V : List Int} {hi : Int → Int} {P : List (List Int)} (h : OutS w g V hi P) (hk : k < V.length) : w.cell? ⟨g, k, none⟩ = some (.int .i64 (idxF P hi (V.getD k 0))) ∧ w.frozen? ⟨g, k, none⟩ = false := by
  unfold OutS at h
  refine ⟨?_, frozen_of_row w g k _ _ h⟩
  rw [cell_of_row w g k _ _ (0, 0) h, List.getElem?_toArray]
  unfold intVs
  rw [List.getElem?_map, List.getElem?_map, List.getElem?_eq_getElem hk, getD_elem hk]
  rfl
theorem OutS.set {w : World} {g k : Nat} {z : Int} {V : List Int} {hi : Int → Int} {P P' : List (List Int)} (h : OutS w g V hi P) (he : V.map (idxF P' hi) = (V.map (idxF P hi)).set k z) : OutS (w.setCell ⟨g, k, none⟩ (.int .i64 z)) g V hi P' := by
  unfold OutS at h ⊢
  rw [he, set_block (k := k) (v := .int .i64 z) h]
  congr 2
  unfold intVs
  rw [List.map_set]
  apply Array.ext'
  simp
theorem OutS.below {w w' : World} {g C : Nat} {V : List Int} {hi : Int → Int} {P : List (List Int)} (h : OutS w g V hi P) (hb : Below C w w') (hg : g < C) : OutS w' g V hi P := (hb.block g hg).trans h
theorem OutS.start {w : World} {g n : Nat} {V : List Int} {hi : Int → Int} (h : w.heap[g]? = some (.cells (List.replicate n (.int .i64 1)).toArray 3 (0, 0))) (hn : V.length = n) : OutS w g V hi [] := by
  unfold OutS
  rw [h]
  congr 2
  congr 1
  unfold intVs
  rw [List.map_map]
  apply List.ext_getElem?
  intro i
  rw [List.getElem?_map, List.getElem?_replicate]
  by_cases hin : i < n
  · rw [if_pos hin, List.getElem?_eq_getElem (by omega)]; rfl
  · rw [if_neg hin, List.getElem?_eq_none (by omega)]; rfl
theorem OutS.reads {w : World} {g n B : Nat} {V : List Int} {hi : Int → Int} {P : List (List Int)} (h : OutS w g V hi P) (hn : V.length = n) : IntsIn B w (.slice (some ⟨g, 0, none⟩) n n) (V.map (idxF P hi)) := by
  have hl : (V.map (idxF P hi)).length = n := by rw [List.length_map]; exact hn
  refine ⟨_, n, by rw [hl], by rw [hl]; exact Nat.le_refl _, (fun e => by cases e), fun i hi2 => ⟨g, 0, rfl, ?_, Or.inr ⟨_, h⟩⟩⟩
  rw [hl] at hi2
  have e : (V.map (idxF P hi)).getD i 0 = idxF P hi (V.getD i 0) := by rw [getD_elem (l := V.map (idxF P hi)) (by rw [List.length_map]; omega), List.getElem_map, getD_elem (l := V) (by omega)]
  rw [Nat.zero_add, (h.at (by omega)).1, e]
end Go.Proofs.YtddnjimpdidpaaaGreatDoor
