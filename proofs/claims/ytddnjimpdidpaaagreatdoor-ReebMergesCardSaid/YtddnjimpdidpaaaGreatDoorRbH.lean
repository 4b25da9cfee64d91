/-
  The indices while the faces are gone through, plain: one face more; bounds; the table's faces are all faces.
  reeb.Merge and reeb.Bars by contracts.
  The law's hill: a path over a top (a closed fact).
-/
import Derived.Test.YtddnjimpdidpaaaGreatDoorIxO
import Derived.Test.YtddnjimpdidpaaaGreatDoorRbN
import Derived.Test.YtddnjimpdidpaaaGreatDoorRbE
import Derived.Test.YtddnjimpdidpaaaGreatDoorCelQ
set_option linter.unusedSimpArgs false
set_option linter.unusedVariables false
namespace Go.Proofs.YtddnjimpdidpaaaGreatDoor
open Go Go.RowKit Go.Maps

theorem idxF_snoc (P : List (List Int)) (hi : Int → Int) (v : Int) (f : List Int) : idxF (P ++ [f]) hi v = idxF P hi v - dnF hi v f := by
  unfold idxF
  rw [List.map_append, List.sum_append]
  simp; omega
theorem dnF_bd (hi : Int → Int) (v : Int) (f : List Int) : -1 ≤ dnF hi v f ∧ dnF hi v f ≤ 1 := by
  unfold dnF wgtF
  split
  · split <;> omega
  · omega
theorem idxF_bd (hi : Int → Int) (v : Int) : ∀ P : List (List Int), -(P.length : Int) ≤ idxF P hi v ∧ idxF P hi v ≤ 1 + P.length := fun P => by
  have h : ∀ P : List (List Int), -(P.length : Int) ≤ (P.map (dnF hi v)).sum ∧ (P.map (dnF hi v)).sum ≤ P.length := fun P => by
    induction P with
    | nil => simp
    | cons f P ih =>
      have := dnF_bd hi v f
      rw [List.map_cons, List.sum_cons, List.length_cons]
      push_cast
      omega
  have := h P
  unfold idxF
  omega
/-- a face of one vertex changes nothing -/
theorem idxF_one {P : List (List Int)} {hi : Int → Int} {f : List Int} (hf : f.length ≤ 1) (V : List Int) : V.map (idxF (P ++ [f]) hi) = V.map (idxF P hi) := List.map_congr_left fun v _ => by
  rw [idxF_snoc]
  unfold dnF
  rw [if_neg (fun hh => by omega)]
  omega
/-- a face of more changes the index of its highest vertex -/
theorem idxF_top {P : List (List Int)} {hi : Int → Int} {f V : List Int} {k : Nat} (hf : 2 ≤ f.length) (hn : V.Nodup) (hk : k < V.length) (ht : topB hi f (V.getD k 0) = true) :
    V.map (idxF (P ++ [f]) hi) = (V.map (idxF P hi)).set k (idxF P hi (V.getD k 0) - wgtF f) := by
  apply List.ext_getElem?
  intro i
  rw [List.getElem?_set, List.getElem?_map]
  by_cases hki : k = i
  · subst hki
    rw [if_pos rfl, if_pos (by rw [List.length_map]; exact hk), List.getElem?_eq_getElem hk, Option.map_some, idxF_snoc]
    have e : V[k] = V.getD k 0 := (getD_elem hk).symm
    rw [e]
    unfold dnF
    rw [if_pos ⟨hf, ht⟩]
  · rw [if_neg hki, List.getElem?_map]
    cases hi2 : V[i]? with
    | none => rfl
    | some x =>
      rw [Option.map_some, Option.map_some, idxF_snoc]
      obtain ⟨hlt, hx⟩ := List.getElem?_eq_some_iff.1 hi2
      have hne : ¬ topB hi f x = true := fun hh => by
        have e := top_one ht hh
        rw [← hx, getD_elem hk] at e
        exact hki ((List.getElem_inj hn).1 e).symm
      unfold dnF
      rw [if_neg (fun hh => hne hh.2)]
      congr 1; omega
/-- the highest by comparison is the highest -/
theorem top_of_le {hi : Int → Int} {f V : List Int} {v : Int} (hf : ∀ x ∈ f, x ∈ V) (hinj : ∀ x ∈ V, ∀ y ∈ V, hi x = hi y → x = y) (hv : v ∈ f) (hle : ∀ y ∈ f, hi y ≤ hi v) : topB hi f v = true := topB_iff.2 ⟨hv, fun y hy hn => by
  have h1 := hle y hy
  have h2 : hi y ≠ hi v := fun e => hn (hinj y (hf y hy) v (hf v hv) e)
  omega⟩
/-- the table's faces are all faces -/
theorem tab_perm {A : List (List Int)} (hne : ∀ g ∈ A, g ≠ []) (hnd : A.Nodup) : (tableF A).flatten.Perm A := by
  refine (List.perm_ext_iff_of_nodup ?_ hnd).2 fun x => mem_flat hne
  unfold tableF List.Nodup
  rw [List.pairwise_flatten]
  refine ⟨fun l hl => ?_, ?_⟩
  · obtain ⟨d, -, rfl⟩ := List.mem_map.1 hl
    exact hnd.sublist List.filter_sublist
  · rw [List.pairwise_map]
    refine (List.nodup_range (n := topN A)).imp fun {d d'} hdd => ?_
    intro x hx y hy e
    subst e
    have h1 := of_decide_eq_true (List.mem_filter.1 hx).2
    have h2 := of_decide_eq_true (List.mem_filter.1 hy).2
    exact hdd (by omega)

/-- the indices in their block -/
def OutS (w : World) (g : Nat) (V : List Int) (hi : Int → Int) (P : List (List Int)) : Prop := w.heap[g]? = some (.cells (intVs (V.map (idxF P hi))).toArray 3 (0, 0))
theorem OutS.at {w : World} {g k : Nat} {V : List Int} {hi : Int → Int} {P : List (List Int)} (h : OutS w g V hi P) (hk : k < V.length) : w.cell? ⟨g, k, none⟩ = some (.int .i64 (idxF P hi (V.getD k 0))) ∧ w.frozen? ⟨g, k, none⟩ = false := by
  unfold OutS at h
  refine ⟨?_, frozen_of_row w g k _ _ h⟩
  rw [cell_of_row w g k _ _ (0, 0) h, List.getElem?_toArray]
  unfold intVs
  rw [List.getElem?_map, List.getElem?_map, List.getElem?_eq_getElem hk, getD_elem hk]
  rfl
theorem OutS.set {w : World} {g k : Nat} {z : Int} {V : List Int} {hi : Int → Int} {P P' : List (List Int)} (h : OutS w g V hi P) (he : V.map (idxF P' hi) = (V.map (idxF P hi)).set k z) : OutS (w.setCell ⟨g, k, none⟩ (.int .i64 z)) g V hi P' := by
  unfold OutS at h ⊢
  rw [he, set_block (k := k) (v := .int .i64 z) h]
  congr 2
  unfold intVs
  rw [List.map_set]
  apply Array.ext'
  simp
theorem OutS.below {w w' : World} {g C : Nat} {V : List Int} {hi : Int → Int} {P : List (List Int)} (h : OutS w g V hi P) (hb : Below C w w') (hg : g < C) : OutS w' g V hi P := (hb.block g hg).trans h
theorem OutS.start {w : World} {g n : Nat} {V : List Int} {hi : Int → Int} (h : w.heap[g]? = some (.cells (List.replicate n (.int .i64 1)).toArray 3 (0, 0))) (hn : V.length = n) : OutS w g V hi [] := by
  unfold OutS
  rw [h]
  congr 2
  congr 1
  unfold intVs
  rw [List.map_map]
  apply List.ext_getElem?
  intro i
  rw [List.getElem?_map, List.getElem?_replicate]
  by_cases hin : i < n
  · rw [if_pos hin, List.getElem?_eq_getElem (by omega)]; rfl
  · rw [if_neg hin, List.getElem?_eq_none (by omega)]; rfl
theorem OutS.reads {w : World} {g n B : Nat} {V : List Int} {hi : Int → Int} {P : List (List Int)} (h : OutS w g V hi P) (hn : V.length = n) : IntsIn B w (.slice (some ⟨g, 0, none⟩) n n) (V.map (idxF P hi)) := by
  have hl : (V.map (idxF P hi)).length = n := by rw [List.length_map]; exact hn
  refine ⟨_, n, by rw [hl], by rw [hl]; exact Nat.le_refl _, (fun e => by cases e), fun i hi2 => ⟨g, 0, rfl, ?_, Or.inr ⟨_, h⟩⟩⟩
  rw [hl] at hi2
  have e : (V.map (idxF P hi)).getD i 0 = idxF P hi (V.getD i 0) := by rw [getD_elem (l := V.map (idxF P hi)) (by rw [List.length_map]; omega), List.getElem_map, getD_elem (l := V) (by omega)]
  rw [Nat.zero_add, (h.at (by omega)).1, e]

/-- the neighbours of a complex's vertices, by numbers -/
def adL (L : List (List Int)) : Nat → Nat → Prop := AdE (edgN (vertA L) (dimF (allF L) 1))
def htF (ht : List Int) : Nat → Int := fun i => ht.getD i 0
def NodR (L : List (List Int)) (ht : List Int) (B : Nat) (w' : World) (v : Value) : Prop :=
  ∃ (k : Nat) (par : Nat → Option Nat), v = .slice (some ⟨k, 0, none⟩) ht.length ht.length ∧ B ≤ k ∧ w'.heap[k]? = some (.cells (nodA (vertA L) par ht.length) 45 (0, 0)) ∧ ∀ i, i < ht.length → FirstH (htF ht) (TQ (htF ht) (adL L) i) (par i)
def BarR (L : List (List Int)) (ht : List Int) (B : Nat) (w' : World) (v : Value) : Prop :=
  ∃ (B' : List (Int × Int)), w'.ownsRow B 48 3 v B'.length (barVs B') ∧ LowS ht.length ht (adL L) ht.length B'
def MergeR (a : Nat → Addr) (L : List (List Int)) (ht : List Int) (w : World) (e : Ending) (w' : World) : Prop :=
  ∃ v, e = .returned (.tuple #[v, errV a (errR L ht)]) ∧ Below w.heap.size w w' ∧ (errR L ht ≠ 0 → v = .slice none 0 0) ∧ (errR L ht = 0 → NodR L ht w.heap.size w' v)
def BarsR (a : Nat → Addr) (L : List (List Int)) (ht : List Int) (w : World) (e : Ending) (w' : World) : Prop :=
  ∃ v, e = .returned (.tuple #[v, errV a (errR L ht)]) ∧ Below w.heap.size w w' ∧ (errR L ht ≠ 0 → v = .slice none 0 0) ∧ (errR L ht = 0 → BarR L ht w.heap.size w' v)
/-- both from merging -/
theorem mergeP_both {B0 n : Nat} {w w' w0 : World} {L : List (List Int)} {ht : List Int} {e : Ending} (hn : ht.length = n) (g : Gr n (htF ht) (adL L)) (h : MergeP B0 w (vertA L) ht n (adL L) e w') (hw : w0.heap.size ≤ w.heap.size) :
    ∃ v s, e = .returned (.tuple #[v, s]) ∧ Below w.heap.size w w' ∧ NodR L ht w0.heap.size w' v ∧ BarR L ht w0.heap.size w' s := by
  obtain ⟨s, o, hd, par, bars, B', t, he, hB0, hb, hc, hlt, hP, hpe, hri, hown⟩ := h
  subst hn
  refine ⟨_, s, he, hb, ⟨B0, par, rfl, by omega, hc, fun i hi => pst_par g hP hlt hi⟩, B', ?_, hri, fun p => ?_⟩
  · exact Joins.ownsRow_le hown (by omega)
  · rw [hpe.mem_iff, allBars_mem g hP hlt p]
    constructor
    · rintro ⟨r, q, h1, h2, h3⟩; exact ⟨r, q, h1.1, h1, h2, h3⟩
    · rintro ⟨r, q, -, h1, h2, h3⟩; exact ⟨r, q, h1, h2, h3⟩
theorem errR_00 {L : List (List Int)} {h : List Int} (he : errR L h = 0) : errX L = 0 ∧ okH (vertA L) h := by
  by_cases h0 : errX L = 0
  · by_cases hk : okH (vertA L) h
    · exact ⟨h0, hk⟩
    · rw [errR_3 h0 hk] at he; cases he
  · unfold errR at he; rw [if_neg h0] at he; exact absurd he h0
theorem okH_facts {L : List (List Int)} {ht : List Int} (h0 : errX L = 0) (hok : okH (vertA L) ht) : (vertA L).length = ht.length ∧ ht.length ≤ 1000 ∧ (∀ x ∈ ht, -1048576 ≤ x ∧ x ≤ 1048576) ∧ ht.Nodup ∧ Gr ht.length (htF ht) (adL L) ∧ (dimF (allF L) 1).length ≤ 600 := by
  have hnd : ht.Nodup := unlike_nodup.1 fun j hj k hk => (hok.2 j hj).2 k hk
  have h6 := (errC_ok (errX_ok h0).1).2.2
  have hv : (vertA L).length ≤ 600 := by
    rw [← vert_same h0]
    exact Nat.le_trans (vertR_len _) h6
  refine ⟨hok.1, by rw [← hok.1]; omega, fun x hx => ?_, hnd, gr_of (edg_of h0) hok.1 rfl hnd, Nat.le_trans (List.length_filter_le _ _) h6⟩
  obtain ⟨j, hj, rfl⟩ := List.getElem_of_mem hx
  have := (hok.2 j hj).1
  rwa [getD_elem hj] at this

set_option maxRecDepth 100000 in
set_option maxHeartbeats 16000000 in
theorem mergeT_any (a : Nat → Addr) (B : Nat) (L : List (List Int)) (ht : List Int) (v vh : Value) (w : World) (hS : Sents w a) (hB : B ≤ w.heap.size) (hv : ListsIn B w v L) (hn : L.length ≤ 100000) (hl : ∀ l ∈ L, l.length ≤ 100000) (hvh : IntsIn B w vh ht) (hlen : ht.length ≤ 100000) :
    Calls Tryz.prog 9 #[.agg #[v], vh] w (MergeR a L ht w) := by
  obtain ⟨pv, cv, hve, -⟩ := id hv
  obtain ⟨ph, ch, hhe, -⟩ := id hvh
  obtain ⟨nL, hnL⟩ : ∃ n, L.length = n := ⟨_, rfl⟩
  obtain ⟨n, hnn⟩ : ∃ n, ht.length = n := ⟨_, rfl⟩
  rw [hnL] at hve
  rw [hnn] at hhe
  subst hve
  subst hhe
  obtain ⟨w0, hw0⟩ : ∃ w0, w.alloc (.cells #[.slice pv nL cv] 34) = w0 := ⟨_, rfl⟩
  have HB0 := Lib.hid (lit_below' w (.cells #[.slice pv nL cv] 34))
  have HK0 := Lib.hid (heap_alloc_new w (.cells #[.slice pv nL cv] 34))
  rw [hw0] at HB0 HK0
  have HW0 := Lib.hid hw0
  have HCK := Lib.hid (check_any a B L ht (.slice pv nL cv) (.slice ph n ch) w0 (hS.below HB0.out (Nat.le_refl _)) (Nat.le_trans hB HB0.out.size) (hv.below HB0.out (Nat.le_refl _)) hn hl (hvh.below HB0.out (Nat.le_refl _)) hlen)
  by_cases he : errR L ht = 0
  rotate_left
  · obtain ⟨k, hk⟩ : ∃ k, errR L ht = k + 1 := ⟨errR L ht - 1, by omega⟩
    unfold MergeR
    rw [hk, errV_succ] at HCK
    rw [hk, errV_succ]
    unfold errE
    unfold errE at HCK
    clear hS hB hv hn hl hvh hlen hnL hnn hw0 he hk
    go_enter Tryz.func9, Tryz.ntmps9
    go_wp2_with fail
    rw [HW0.out]
    refine HCK.out.mono ?_
    rintro e w1 ⟨rfl, hb⟩
    have HB1 := Lib.hid (HB0.out.trans (hb.mono HB0.out.size))
    clear hb HCK
    go_wp2_with fail
    go_ret2
    exact ⟨_, rfl, HB1.out, fun _ => rfl, fun h => by cases h⟩
  · obtain ⟨h0, hok⟩ := errR_00 he
    obtain ⟨q1, q2, q3, q4, q5, q6⟩ := okH_facts h0 hok
    have HOF := Lib.hid (fun wx (hx : Below w.heap.size w wx) => of_any a B L ht (.slice pv nL cv) (.slice ph n ch) wx (hS.below hx (Nat.le_refl _)) (Nat.le_trans hB hx.size) (hv.below hx (Nat.le_refl _)) hn hl (hvh.below hx (Nat.le_refl _)) h0 hok)
    have HVH := Lib.hid (fun wx (hx : Below w.heap.size w wx) => (hvh.below hx (Nat.le_refl _)).at)
    rw [he, errV_0] at HCK
    have HE := Lib.hid he
    have HNN := Lib.hid hnn
    have HQ := Lib.hid (And.intro q1 (And.intro q2 (And.intro q3 (And.intro q5 q6))))
    clear hS hB hv hn hl hvh hlen hnL hnn hw0 he h0 hok q1 q2 q3 q4 q5 q6
    go_enter Tryz.func9, Tryz.ntmps9
    go_wp2_with fail
    rw [HW0.out]
    refine HCK.out.mono ?_
    rintro e w1 ⟨rfl, hb⟩
    have HB1 := Lib.hid (HB0.out.trans (hb.mono HB0.out.size))
    have c1 : w1.cell? ⟨w.heap.size, 0, none⟩ = some (.slice pv nL cv) := (one_at ((hb.block _ (Array.getElem?_eq_some_iff.1 HK0.out).1).trans HK0.out)).1
    have HOF1 := Lib.hid (HOF.out w1 HB1.out)
    clear hb HCK HOF
    go_wp2_with fail
    refine HOF1.out.mono ?_
    rintro e w2 ⟨pV, cV, po, co, hh, pe, ce, M, rfl, hb2, hiV, hMp, hMs, hiM, hiE⟩
    have hml : M.length = ht.length := by rw [hMp.length_eq, List.length_range]
    have hle : (edgP (vertA L) (dimF (allF L) 1)).length = (dimF (allF L) 1).length := List.length_map ..
    have HB2 := Lib.hid (HB1.out.trans (hb2.mono HB1.out.size))
    have hMG := merging_any (vertA L) ht M (edgN (vertA L) (dimF (allF L) 1)) n (dimF (allF L) 1).length pV po pe ph cV co ce ch hh w2
    obtain ⟨q1, q2, q3, q5, q6⟩ := HQ.out
    rw [hml, q1, hle, HNN.out]
    rw [q1, HNN.out] at hiV
    rw [hml, HNN.out] at hiM
    rw [hle, edgP_cast] at hiE
    have hMG2 := Lib.hid (hMG hiV hiM hiE (HVH.out w2 HB2.out) (by rw [q1, HNN.out]) HNN.out (edgN_len _ _) (by rw [← HNN.out]; exact q2) (by omega) (by rw [← HNN.out]; exact hMp) hMs (by rw [← HNN.out]; exact q5) q3)
    obtain ⟨V, hV⟩ : ∃ V, vertA L = V := ⟨_, rfl⟩
    obtain ⟨E, hE⟩ : ∃ E, dimF (allF L) 1 = E := ⟨_, rfl⟩
    obtain ⟨ne, hne⟩ : ∃ n, E.length = n := ⟨_, rfl⟩
    have HVE := Lib.hid hV
    have HEE := Lib.hid hE
    rw [hV, hE, hne] at hMG2
    rw [hE, hne]
    clear hb2 hiV hMp hMs hiM hiE hml hle hMG q1 q2 q3 q5 q6 hV hE hne HOF1 c1
    go_wp2_with fail
    refine hMG2.out.mono ?_
    rintro e w3 ⟨B0, hP⟩
    rw [← HVE.out, ← HEE.out] at hP
    obtain ⟨v3, s3, rfl, hb3, hN3, hR3⟩ := mergeP_both (w0 := w) (L := L) (ht := ht) HNN.out (by rw [← HNN.out]; exact HQ.out.2.2.2.1) hP HB2.out.size
    have HB3 := Lib.hid (HB2.out.trans (hb3.mono HB2.out.size))
    have HR := Lib.hid hN3
    clear hP hb3 hN3 hR3 hMG2
    go_wp2_with fail
    go_ret2
    unfold MergeR
    rw [HE.out]
    exact ⟨_, rfl, HB3.out, fun h => absurd rfl h, fun _ => HR.out⟩

set_option maxRecDepth 100000 in
set_option maxHeartbeats 16000000 in
theorem barsT_any (a : Nat → Addr) (B : Nat) (L : List (List Int)) (ht : List Int) (v vh : Value) (w : World) (hS : Sents w a) (hB : B ≤ w.heap.size) (hv : ListsIn B w v L) (hn : L.length ≤ 100000) (hl : ∀ l ∈ L, l.length ≤ 100000) (hvh : IntsIn B w vh ht) (hlen : ht.length ≤ 100000) :
    Calls Tryz.prog 12 #[.agg #[v], vh] w (BarsR a L ht w) := by
  obtain ⟨pv, cv, hve, -⟩ := id hv
  obtain ⟨ph, ch, hhe, -⟩ := id hvh
  obtain ⟨nL, hnL⟩ : ∃ n, L.length = n := ⟨_, rfl⟩
  obtain ⟨n, hnn⟩ : ∃ n, ht.length = n := ⟨_, rfl⟩
  rw [hnL] at hve
  rw [hnn] at hhe
  subst hve
  subst hhe
  obtain ⟨w0, hw0⟩ : ∃ w0, w.alloc (.cells #[.slice pv nL cv] 34) = w0 := ⟨_, rfl⟩
  have HB0 := Lib.hid (lit_below' w (.cells #[.slice pv nL cv] 34))
  have HK0 := Lib.hid (heap_alloc_new w (.cells #[.slice pv nL cv] 34))
  rw [hw0] at HB0 HK0
  have HW0 := Lib.hid hw0
  have HCK := Lib.hid (check_any a B L ht (.slice pv nL cv) (.slice ph n ch) w0 (hS.below HB0.out (Nat.le_refl _)) (Nat.le_trans hB HB0.out.size) (hv.below HB0.out (Nat.le_refl _)) hn hl (hvh.below HB0.out (Nat.le_refl _)) hlen)
  by_cases he : errR L ht = 0
  rotate_left
  · obtain ⟨k, hk⟩ : ∃ k, errR L ht = k + 1 := ⟨errR L ht - 1, by omega⟩
    unfold BarsR
    rw [hk, errV_succ] at HCK
    rw [hk, errV_succ]
    unfold errE
    unfold errE at HCK
    clear hS hB hv hn hl hvh hlen hnL hnn hw0 he hk
    go_enter Tryz.func12, Tryz.ntmps12
    go_wp2_with fail
    rw [HW0.out]
    refine HCK.out.mono ?_
    rintro e w1 ⟨rfl, hb⟩
    have HB1 := Lib.hid (HB0.out.trans (hb.mono HB0.out.size))
    clear hb HCK
    go_wp2_with fail
    go_ret2
    exact ⟨_, rfl, HB1.out, fun _ => rfl, fun h => by cases h⟩
  · obtain ⟨h0, hok⟩ := errR_00 he
    obtain ⟨q1, q2, q3, q4, q5, q6⟩ := okH_facts h0 hok
    have HOF := Lib.hid (fun wx (hx : Below w.heap.size w wx) => of_any a B L ht (.slice pv nL cv) (.slice ph n ch) wx (hS.below hx (Nat.le_refl _)) (Nat.le_trans hB hx.size) (hv.below hx (Nat.le_refl _)) hn hl (hvh.below hx (Nat.le_refl _)) h0 hok)
    have HVH := Lib.hid (fun wx (hx : Below w.heap.size w wx) => (hvh.below hx (Nat.le_refl _)).at)
    rw [he, errV_0] at HCK
    have HE := Lib.hid he
    have HNN := Lib.hid hnn
    have HQ := Lib.hid (And.intro q1 (And.intro q2 (And.intro q3 (And.intro q5 q6))))
    clear hS hB hv hn hl hvh hlen hnL hnn hw0 he h0 hok q1 q2 q3 q4 q5 q6
    go_enter Tryz.func12, Tryz.ntmps12
    go_wp2_with fail
    rw [HW0.out]
    refine HCK.out.mono ?_
    rintro e w1 ⟨rfl, hb⟩
    have HB1 := Lib.hid (HB0.out.trans (hb.mono HB0.out.size))
    have c1 : w1.cell? ⟨w.heap.size, 0, none⟩ = some (.slice pv nL cv) := (one_at ((hb.block _ (Array.getElem?_eq_some_iff.1 HK0.out).1).trans HK0.out)).1
    have HOF1 := Lib.hid (HOF.out w1 HB1.out)
    clear hb HCK HOF
    go_wp2_with fail
    refine HOF1.out.mono ?_
    rintro e w2 ⟨pV, cV, po, co, hh, pe, ce, M, rfl, hb2, hiV, hMp, hMs, hiM, hiE⟩
    have hml : M.length = ht.length := by rw [hMp.length_eq, List.length_range]
    have hle : (edgP (vertA L) (dimF (allF L) 1)).length = (dimF (allF L) 1).length := List.length_map ..
    have HB2 := Lib.hid (HB1.out.trans (hb2.mono HB1.out.size))
    have hMG := merging_any (vertA L) ht M (edgN (vertA L) (dimF (allF L) 1)) n (dimF (allF L) 1).length pV po pe ph cV co ce ch hh w2
    obtain ⟨q1, q2, q3, q5, q6⟩ := HQ.out
    rw [hml, q1, hle, HNN.out]
    rw [q1, HNN.out] at hiV
    rw [hml, HNN.out] at hiM
    rw [hle, edgP_cast] at hiE
    have hMG2 := Lib.hid (hMG hiV hiM hiE (HVH.out w2 HB2.out) (by rw [q1, HNN.out]) HNN.out (edgN_len _ _) (by rw [← HNN.out]; exact q2) (by omega) (by rw [← HNN.out]; exact hMp) hMs (by rw [← HNN.out]; exact q5) q3)
    obtain ⟨V, hV⟩ : ∃ V, vertA L = V := ⟨_, rfl⟩
    obtain ⟨E, hE⟩ : ∃ E, dimF (allF L) 1 = E := ⟨_, rfl⟩
    obtain ⟨ne, hne⟩ : ∃ n, E.length = n := ⟨_, rfl⟩
    have HVE := Lib.hid hV
    have HEE := Lib.hid hE
    rw [hV, hE, hne] at hMG2
    rw [hE, hne]
    clear hb2 hiV hMp hMs hiM hiE hml hle hMG q1 q2 q3 q5 q6 hV hE hne HOF1 c1
    go_wp2_with fail
    refine hMG2.out.mono ?_
    rintro e w3 ⟨B0, hP⟩
    rw [← HVE.out, ← HEE.out] at hP
    obtain ⟨v3, s3, rfl, hb3, hN3, hR3⟩ := mergeP_both (w0 := w) (L := L) (ht := ht) HNN.out (by rw [← HNN.out]; exact HQ.out.2.2.2.1) hP HB2.out.size
    have HB3 := Lib.hid (HB2.out.trans (hb3.mono HB2.out.size))
    have HR := Lib.hid hR3
    clear hP hb3 hN3 hR3 hMG2
    go_wp2_with fail
    go_ret2
    unfold BarsR
    rw [HE.out]
    exact ⟨_, rfl, HB3.out, fun h => absurd rfl h, fun _ => HR.out⟩

def hilL : List (List Int) := [[0, 1], [1, 2]]
theorem sort_01h : sortI [0, 1] = [0, 1] := rise_ext (rise_sortI (by decide)) (by unfold Rise; decide) fun x => by rw [mem_sortI]
theorem sort_12h : sortI [1, 2] = [1, 2] := rise_ext (rise_sortI (by decide)) (by unfold Rise; decide) fun x => by rw [mem_sortI]
theorem hil_all : allF hilL = [[0], [0, 1], [1], [1, 2], [2]] := by
  unfold allF hilL
  simp only [List.flatMap_cons, List.flatMap_nil, sort_01h, sort_12h]
  decide
theorem hil_ok : errC hilL = 0 := errC_0 (by unfold okSet hilL; decide) (by unfold hilL; decide) (by rw [hil_all]; decide)
theorem hil_made : madeF hilL = hilL := by
  unfold madeF
  rw [hil_all]
  decide
theorem hil_x : errX hilL = 0 := by unfold errX; rw [if_pos hil_ok, if_pos hil_made.symm]
theorem hil_V : vertA hilL = [0, 1, 2] := by rw [← vert_same hil_x, hil_all]; decide
theorem hil_okH : okH (vertA hilL) [0, 5, 1] := by
  rw [hil_V]
  refine ⟨rfl, fun j hj => ?_⟩
  have h3 : j < 3 := hj
  match j, h3 with
  | 0, _ => exact ⟨by decide, fun k hk => absurd hk (Nat.not_lt_zero k)⟩
  | 1, _ => exact ⟨by decide, fun k hk => by obtain rfl : k = 0 := by omega
                                             decide⟩
  | 2, _ => exact ⟨by decide, fun k hk => by
      rcases (show k = 0 ∨ k = 1 by omega) with rfl | rfl <;> decide⟩
theorem hil_err : errR hilL [0, 5, 1] = 0 := errR_ok hil_x hil_okH
theorem hil_edg : edgN (vertA hilL) (dimF (allF hilL) 1) = [(0, 1), (1, 2)] := by rw [hil_V, hil_all]; decide
theorem hil_adj (x y : Nat) : adL hilL x y ↔ (x = 0 ∧ y = 1) ∨ (x = 1 ∧ y = 2) ∨ (y = 0 ∧ x = 1) ∨ (y = 1 ∧ x = 2) := by
  unfold adL AdE
  rw [hil_edg]
  simp
  omega
theorem hil_h (k : Nat) : htF [0, 5, 1] k = if k = 1 then 5 else if k = 2 then 1 else 0 := by
  match k with
  | 0 => rfl
  | 1 => rfl
  | 2 => rfl
  | k + 3 => unfold htF; simp
theorem hil_par {par : Nat → Option Nat} (h : ∀ i, i < 3 → FirstH (htF [0, 5, 1]) (TQ (htF [0, 5, 1]) (adL hilL) i) (par i)) : par 0 = some 1 ∧ par 1 = none ∧ par 2 = some 1 := by
  have cl : ∀ i x, i ≠ 1 → Cl (htF [0, 5, 1]) (adL hilL) i x → x = i := fun i x hi k => by
    unfold Cl at k
    induction k with
    | refl => rfl
    | @tail x z k a ih =>
      subst ih
      obtain ⟨a, b, c⟩ := a
      rw [hil_adj] at a
      rw [hil_h, hil_h x] at c
      rcases a with ⟨rfl, rfl⟩ | ⟨rfl, rfl⟩ | ⟨rfl, rfl⟩ | ⟨rfl, rfl⟩
      · simp at c
      · exact absurd rfl hi
      · exact absurd rfl hi
      · simp at c
  have t1 : ∀ i, i = 0 ∨ i = 2 → TQ (htF [0, 5, 1]) (adL hilL) i 1 ∧ ∀ k, TQ (htF [0, 5, 1]) (adL hilL) i k → k = 1 := fun i hi => by
    refine ⟨⟨?_, i, .refl _, ?_⟩, fun k hk => ?_⟩
    · rcases hi with rfl | rfl <;> decide
    · rw [hil_adj]; rcases hi with rfl | rfl <;> simp
    · obtain ⟨h1, x, h2, h3⟩ := hk
      have := cl i x (by omega) h2
      subst this
      rw [hil_adj] at h3
      omega
  refine ⟨?_, ?_, ?_⟩
  · obtain ⟨a, b⟩ := t1 0 (Or.inl rfl)
    rcases h 0 (by omega) with ⟨-, hn⟩ | ⟨k, e, hk, -⟩
    · exact absurd a (hn 1)
    · rw [e, b k hk]
  · rcases h 1 (by omega) with ⟨e, -⟩ | ⟨k, e, hk, -⟩
    · exact e
    · have := hk.1
      rw [hil_h, hil_h] at this
      simp at this
      split at this
      · omega
      · split at this <;> omega
  · obtain ⟨a, b⟩ := t1 2 (Or.inr rfl)
    rcases h 2 (by omega) with ⟨-, hn⟩ | ⟨k, e, hk, -⟩
    · exact absurd a (hn 1)
    · rw [e, b k hk]
theorem two_in (w : World) (x1 x2 : List Int) : ListsIn 0 (((w.alloc (.cells (intVs x1).toArray 3)).alloc (.cells (intVs x2).toArray 3)).alloc
    (.cells #[.slice (some ⟨w.heap.size, 0, none⟩) x1.length x1.length, .slice (some ⟨w.heap.size + 1, 0, none⟩) x2.length x2.length] 23))
    (.slice (some ⟨w.heap.size + 1 + 1, 0, none⟩) 2 2) [x1, x2] := by
  have h1 := (ints_lit 0 w x1).below (lit_below _ (.cells (intVs x2).toArray 3)) (Nat.le_refl _)
  have h2 := ints_lit 0 (w.alloc (.cells (intVs x1).toArray 3)) x2
  rw [lit_size] at h2
  have h := lists_lit 0 _ [x1, x2] [.slice (some ⟨w.heap.size, 0, none⟩) x1.length x1.length, .slice (some ⟨w.heap.size + 1, 0, none⟩) x2.length x2.length] rfl (fun i hi => by
    match i, hi with
    | 0, _ => exact h1
    | 1, _ => exact h2
    | n + 2, hi => exact absurd hi (by simp))
  rw [lit_size, lit_size] at h
  exact h
/-- the nodes' cells -/
theorem node_cells {w : World} {k n i : Nat} {V : List Int} {par : Nat → Option Nat} (h : w.heap[k]? = some (.cells (nodA V par n) 45 (0, 0))) (hi : i < n) : w.cell? ⟨k, i * 2, none⟩ = some (.int .i64 (V.getD i 0)) ∧ w.cell? ⟨k, i * 2 + 1, none⟩ = some (.int .i64 (parI V (par i))) :=
  ⟨(cell_of_row _ _ _ _ _ _ h).trans (nodA_fst hi), (cell_of_row _ _ _ _ _ _ h).trans (nodA_snd hi)⟩

set_option maxRecDepth 100000 in
set_option maxHeartbeats 8000000 in
theorem hill_any (a : Nat → Addr) (w : World) (hS : Sents w a) :
    Calls Tryz.prog 6 #[] w (fun e w' => e = .returned (.bool true) ∧ Below w.heap.size w w') := by
  have hb0 : Below w.heap.size w _ := ((((Below.refl w.heap.size w).alloc (Nat.le_refl _) (.cells (intVs [0, 1]).toArray 3)).alloc (by simp) (.cells (intVs [1, 2]).toArray 3)).alloc (by simp; omega)
    (.cells #[.slice (some ⟨w.heap.size, 0, none⟩) 2 2, .slice (some ⟨w.heap.size + 1, 0, none⟩) 2 2] 23)).alloc (by simp; omega) (.cells (intVs [0, 5, 1]).toArray 3)
  have h3 := (two_in w [0, 1] [1, 2]).below (lit_below _ (.cells (intVs [0, 5, 1]).toArray 3)) (Nat.le_refl _)
  have h4 := ints_lit 0 (((w.alloc (.cells (intVs [0, 1]).toArray 3)).alloc (.cells (intVs [1, 2]).toArray 3)).alloc (.cells #[.slice (some ⟨w.heap.size, 0, none⟩) 2 2, .slice (some ⟨w.heap.size + 1, 0, none⟩) 2 2] 23)) [0, 5, 1]
  have HC := mergeT_any a 0 hilL [0, 5, 1] _ _ _ (hS.below hb0 (Nat.le_refl _)) (Nat.zero_le _) h3 (by decide) (by decide) h4 (by decide)
  rw [lit_size, lit_size, lit_size] at HC
  have HCH := Lib.hid HC
  have HB0 := Lib.hid hb0
  unfold MergeR at HCH
  rw [hil_err] at HCH
  clear hS hb0 HC h3 h4
  go_enter Tryz.func6, Tryz.ntmps6
  go_wp2_with fail
  refine HCH.out.mono ?_
  rintro e w1 ⟨v, rfl, hb1, -, hok⟩
  obtain ⟨k, par, rfl, hk, hnod, hpar⟩ := hok (by trivial)
  obtain ⟨p0, p1, p2⟩ := hil_par (fun i hi => hpar i hi)
  have HB1 := Lib.hid (HB0.out.trans (hb1.mono HB0.out.size))
  have c0 := (node_cells hnod (i := 0) (by decide)).2
  have c1 := (node_cells hnod (i := 1) (by decide)).2
  have c2 := (node_cells hnod (i := 2) (by decide)).2
  rw [p0, hil_V] at c0
  rw [p1, hil_V] at c1
  rw [p2, hil_V] at c2
  have c0' : w1.cell? ⟨k, 1, none⟩ = some (.int .i64 1) := c0
  have c1' : w1.cell? ⟨k, 3, none⟩ = some (.int .i64 (-1)) := c1
  have c2' : w1.cell? ⟨k, 5, none⟩ = some (.int .i64 1) := c2
  rw [show errV a 0 = Value.nilIface from rfl]
  clear hb1 hok hk hnod hpar p0 p1 p2 c0 c1 c2 HCH
  go_wp2_with fail
  go_ret
  exact ⟨rfl, HB1.out⟩
end Go.Proofs.YtddnjimpdidpaaaGreatDoor
