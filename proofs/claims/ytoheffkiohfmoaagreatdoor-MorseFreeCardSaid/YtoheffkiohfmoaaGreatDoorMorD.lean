/-
  The diagram's memory while it is made: a struct of three headers, two tables in place.
  slices.Grow from nothing, slices.Concat of lists of numbers and of two lists of lists, by contracts.
  slices.Contains, IndexFunc, ContainsFunc with closures; cells.Within by contracts.
  The program's diagram of all faces by a contract.
-/
import Derived.Test.YtoheffkiohfmoaaGreatDoorTwoH
import Derived.Test.YtoheffkiohfmoaaGreatDoorMorB
import Derived.Test.YtoheffkiohfmoaaGreatDoorTabB
import Derived.Lib.AppendZeros
import Derived.Test.YtoheffkiohfmoaaGreatDoorFacB
import Derived.Deep.DeepCutAuto
set_option linter.unusedVariables false
set_option linter.unusedSimpArgs false
namespace Go.Proofs.YtoheffkiohfmoaaGreatDoor
open Go Go.RowKit Go.Maps

def DiaS (hb gd gu n cf : Nat) (pf : Option Addr) (w3 w : World) (D U : List (List Int)) : Prop :=
  Below hb w3 w ∧ w.heap[hb]? = some (.cells #[.slice pf n cf, .slice (some ⟨gd, 0, none⟩) n n, .slice (some ⟨gu, 0, none⟩) n n] 81 (0, 0)) ∧
    ∃ hd hu, TwoH (hb + 1) w (.slice (some ⟨gd, 0, none⟩) n n) (.slice (some ⟨gu, 0, none⟩) n n) D U hd hu
theorem DiaS.below {hb gd gu n cf : Nat} {pf : Option Addr} {w3 w w' : World} {D U : List (List Int)} (h : DiaS hb gd gu n cf pf w3 w D U) (hw : Below w.heap.size w w') : DiaS hb gd gu n cf pf w3 w' D U := by
  obtain ⟨h1, h2, hd, hu, h3⟩ := h
  have hlt := (Array.getElem?_eq_some_iff.1 h2).1
  exact ⟨h1.trans (hw.mono (Nat.le_of_lt hlt)), (hw.block hb hlt).trans h2, hd, hu, h3.below hw (Nat.le_refl _)⟩
theorem DiaS.lt {hb gd gu n cf : Nat} {pf : Option Addr} {w3 w : World} {D U : List (List Int)} (h : DiaS hb gd gu n cf pf w3 w D U) : hb < w.heap.size := (Array.getElem?_eq_some_iff.1 h.2.1).1
theorem three_of {w : World} {b : Nat} {x y z : Value} {t : TypeId} (h : w.heap[b]? = some (.cells #[x, y, z] t (0, 0))) : w.cell? ⟨b, 0, none⟩ = some x ∧ w.cell? ⟨b, 1, none⟩ = some y ∧ w.cell? ⟨b, 2, none⟩ = some z ∧ w.frozen? ⟨b, 0, none⟩ = false ∧ w.frozen? ⟨b, 1, none⟩ = false ∧ w.frozen? ⟨b, 2, none⟩ = false := by
  simp [World.cell?, World.frozen?, h]
theorem setCell_blk {w : World} {g o k : Nat} {v : Value} (h : k ≠ g) : (w.setCell ⟨g, o, none⟩ v).heap[k]? = w.heap[k]? := by
  simp only [World.setCell, Array.getElem?_modify]
  rw [if_neg (fun e => h e.symm)]
theorem set3 {w : World} {b : Nat} {x y z : Value} {t : TypeId} (h : w.heap[b]? = some (.cells #[x, y, z] t (0, 0))) (x' y' z' : Value) :
    (w.setCell ⟨b, 0, none⟩ x').heap[b]? = some (.cells #[x', y, z] t (0, 0)) ∧ (w.setCell ⟨b, 1, none⟩ y').heap[b]? = some (.cells #[x, y', z] t (0, 0)) ∧ (w.setCell ⟨b, 2, none⟩ z').heap[b]? = some (.cells #[x, y, z'] t (0, 0)) := by
  have hlt := (Array.getElem?_eq_some_iff.1 h).1
  have he := (Array.getElem?_eq_some_iff.1 h).2
  refine ⟨?_, ?_, ?_⟩ <;> simp [World.setCell, Array.getElem_modify, hlt, he]
theorem set3all {w : World} {b : Nat} {x y z : Value} {t : TypeId} (h : w.heap[b]? = some (.cells #[x, y, z] t (0, 0))) (x' y' z' : Value) :
    (((w.setCell ⟨b, 0, none⟩ x').setCell ⟨b, 1, none⟩ y').setCell ⟨b, 2, none⟩ z').heap[b]? = some (.cells #[x', y', z'] t (0, 0)) :=
  (set3 (set3 (set3 h x' y z).1 x' y' z).2.1 x' y' z').2.2
theorem DiaS.drew {hb gd gu n cf : Nat} {pf : Option Addr} {w3 w : World} {D U : List (List Int)} (h : DiaS hb gd gu n cf pf w3 w D U) : DiaS hb gd gu n cf pf w3 w.drew D U := h.below ((Below.refl _ _).drew)
/-- the two headers are stored, in any order -/
theorem DiaS.made {hb gd gu n cf : Nat} {pf : Option Addr} {w3 w : World} {D U : List (List Int)} {hd hu : List Value} {y z : Value} (hb0 : Below hb w3 w) (hk : w.heap[hb]? = some (.cells #[.slice pf n cf, y, z] 81 (0, 0)))
    (h : TwoH (hb + 1) w (.slice (some ⟨gd, 0, none⟩) n n) (.slice (some ⟨gu, 0, none⟩) n n) D U hd hu) :
    DiaS hb gd gu n cf pf w3 ((w.setCell ⟨hb, 1, none⟩ (.slice (some ⟨gd, 0, none⟩) n n)).setCell ⟨hb, 2, none⟩ (.slice (some ⟨gu, 0, none⟩) n n)) D U ∧
    DiaS hb gd gu n cf pf w3 ((w.setCell ⟨hb, 2, none⟩ (.slice (some ⟨gu, 0, none⟩) n n)).setCell ⟨hb, 1, none⟩ (.slice (some ⟨gd, 0, none⟩) n n)) D U := by
  have far : ∀ (w' : World), (∀ k, k ≠ hb → w'.heap[k]? = w.heap[k]?) → TwoH (hb + 1) w' (.slice (some ⟨gd, 0, none⟩) n n) (.slice (some ⟨gu, 0, none⟩) n n) D U hd hu := fun w' hk' => by
    have one : ∀ {v : Value} {T : List (List Int)} {hs : List Value}, HasH (hb + 1) w v T hs → HasH (hb + 1) w' v T hs := fun {v T hs} hh =>
      ⟨owns_keep hh.1 fun k e => hk' k (by have := (hh.1.lt k e).1; omega), hh.2.1, fun i hi => owns_keep (hh.2.2.1 i hi) fun k e => hk' k (by have := ((hh.2.2.1 i hi).lt k e).1; omega), hh.2.2.2⟩
    exact ⟨one h.d, one h.u, h.ap, h.hh⟩
  refine ⟨⟨(hb0.setCell (Nat.le_refl _) _).setCell (Nat.le_refl _) _, (set3 (set3 hk y (.slice (some ⟨gd, 0, none⟩) n n) z).2.1 y y _).2.2, hd, hu, far _ fun k hne => (setCell_blk hne).trans (setCell_blk hne)⟩,
    ⟨(hb0.setCell (Nat.le_refl _) _).setCell (Nat.le_refl _) _, (set3 (set3 hk y y (.slice (some ⟨gu, 0, none⟩) n n)).2.2 y _ y).2.1, hd, hu, far _ fun k hne => (setCell_blk hne).trans (setCell_blk hne)⟩⟩
/-- the row that an entry is put to: its header, in memory -/
theorem DiaS.rowD {hb gd gu n cf : Nat} {pf : Option Addr} {w3 w : World} {D U : List (List Int)} (h : DiaS hb gd gu n cf pf w3 w D U) {i : Nat} (hi : i < D.length) :
    ∃ p q, w.cell? ⟨gd, i, none⟩ = some (.slice p (D.getD i []).length q) ∧ w.frozen? ⟨gd, i, none⟩ = false ∧ w.ownsRow (hb + 1) 3 1 (.slice p (D.getD i []).length q) (D.getD i []).length (intVs (D.getD i [])) ∧
      ∀ (x : Int) (g2 c2 : Nat) (w9 : World), w9.ownsRow (hb + 1) 3 1 (.slice (some ⟨g2, 0, none⟩) ((D.getD i []).length + 1) c2) ((D.getD i []).length + 1) (intVs (D.getD i []) ++ [.int .i64 x]) → (w.alloc (.cells #[.int .i64 x] 3)).grownBy w9 (Value.slice p (D.getD i []).length q).ownBlock →
        ((Value.slice (some ⟨g2, 0, none⟩) ((D.getD i []).length + 1) c2).ownBlock = (Value.slice p (D.getD i []).length q).ownBlock ∨ (Value.slice (some ⟨g2, 0, none⟩) ((D.getD i []).length + 1) c2).ownBlock = some (w.heap.size + 1)) →
        w9.cell? ⟨gd, i, none⟩ = some (.slice p (D.getD i []).length q) ∧ w9.frozen? ⟨gd, i, none⟩ = false ∧ w9.heap[hb]? = some (.cells #[.slice pf n cf, .slice (some ⟨gd, 0, none⟩) n n, .slice (some ⟨gu, 0, none⟩) n n] 81 (0, 0)) ∧ DiaS hb gd gu n cf pf w3 (w9.setCell ⟨gd, i, none⟩ (.slice (some ⟨g2, 0, none⟩) ((D.getD i []).length + 1) c2)) (D.set i (D.getD i [] ++ [x])) U := by
  obtain ⟨h1, h2, hd, hu, h3⟩ := h
  have hlt := (Array.getElem?_eq_some_iff.1 h2).1
  obtain ⟨p, q, he, hc, hf⟩ := h3.cellD hi
  have hr := h3.d.2.2.1 i hi
  rw [he] at hr
  refine ⟨p, q, hc, hf, hr, fun x g2 c2 w9 ho hg hat => ?_⟩
  have hba : Below w.heap.size w (w.alloc (.cells #[.int .i64 x] 3)) := (Below.refl _ _).alloc (Nat.le_refl _) _
  have h3a := h3.below hba (Nat.le_refl _)
  have hra : ∀ k, (Value.slice p (D.getD i []).length q).ownBlock = some k → hb + 1 ≤ k := fun k hk => (hr.lt k hk).1
  have hgd : ∀ k, (Value.slice p (D.getD i []).length q).ownBlock = some k → k ≠ gd := fun k hk e => by
    subst e
    exact (h3.rowApart hi k (by rw [he]; exact hk)).1 rfl
  have hgdl := (h3.d.1.lt gd rfl)
  have hs : (w.alloc (.cells #[.int .i64 x] 3)).heap.size = w.heap.size + 1 := by simp
  have hb9 : w9.heap[gd]? = w.heap[gd]? := (hg.block gd (by rw [hs]; omega) (fun e => hgd gd e.symm rfl)).trans (hba.block gd hgdl.2)
  have hbk9 := (hg.block hb (by rw [hs]; omega) (fun e => by have := hra hb e.symm; omega)).trans ((hba.block hb hlt).trans h2)
  refine ⟨?_, ?_, hbk9, ?_⟩
  · simp only [World.cell?, hb9]; exact hc
  · simp only [World.frozen?, hb9]; exact hf
  · have hst := h3a.store (i := i) (v' := .slice (some ⟨g2, 0, none⟩) ((D.getD i []).length + 1) c2) (xs' := D.getD i [] ++ [x]) hi (by rw [he]; exact hg) (by
      unfold IntO intVs at *
      rw [List.length_append, List.length_singleton, List.map_append]
      exact ho) (by rw [he, hs]; exact hat)
    refine ⟨?_, ?_, _, _, hst⟩
    · have hb1 : Below hb w3 w9 := (h1.alloc (Nat.le_of_lt hlt) (.cells #[.int .i64 x] 3)).grown hg (by rw [hs]; omega) fun k hk => by have := hra k hk; omega
      exact hb1.setCell (Nat.le_of_lt (show hb < gd by omega)) _
    · rw [setCell_blk (by omega)]
      exact hbk9
theorem DiaS.swap {hb gd gu n cf : Nat} {pf : Option Addr} {w3 w : World} {D U : List (List Int)} {i : Nat} (h : DiaS hb gd gu n cf pf w3 w D U) (hi : i < U.length) :
    ∃ p q, w.cell? ⟨gu, i, none⟩ = some (.slice p (U.getD i []).length q) ∧ w.frozen? ⟨gu, i, none⟩ = false ∧ w.ownsRow (hb + 1) 3 1 (.slice p (U.getD i []).length q) (U.getD i []).length (intVs (U.getD i [])) ∧
      ∀ (x : Int) (g2 c2 : Nat) (w9 : World), w9.ownsRow (hb + 1) 3 1 (.slice (some ⟨g2, 0, none⟩) ((U.getD i []).length + 1) c2) ((U.getD i []).length + 1) (intVs (U.getD i []) ++ [.int .i64 x]) → (w.alloc (.cells #[.int .i64 x] 3)).grownBy w9 (Value.slice p (U.getD i []).length q).ownBlock →
        ((Value.slice (some ⟨g2, 0, none⟩) ((U.getD i []).length + 1) c2).ownBlock = (Value.slice p (U.getD i []).length q).ownBlock ∨ (Value.slice (some ⟨g2, 0, none⟩) ((U.getD i []).length + 1) c2).ownBlock = some (w.heap.size + 1)) →
        w9.cell? ⟨gu, i, none⟩ = some (.slice p (U.getD i []).length q) ∧ w9.frozen? ⟨gu, i, none⟩ = false ∧ w9.heap[hb]? = some (.cells #[.slice pf n cf, .slice (some ⟨gd, 0, none⟩) n n, .slice (some ⟨gu, 0, none⟩) n n] 81 (0, 0)) ∧ DiaS hb gd gu n cf pf w3 (w9.setCell ⟨gu, i, none⟩ (.slice (some ⟨g2, 0, none⟩) ((U.getD i []).length + 1) c2)) D (U.set i (U.getD i [] ++ [x])) := by
  obtain ⟨h1, h2, hd, hu, h30⟩ := h
  have h3 := h30.swap
  have hlt := (Array.getElem?_eq_some_iff.1 h2).1
  obtain ⟨p, q, he, hc, hf⟩ := h3.cellD hi
  have hr := h3.d.2.2.1 i hi
  rw [he] at hr
  refine ⟨p, q, hc, hf, hr, fun x g2 c2 w9 ho hg hat => ?_⟩
  have hba : Below w.heap.size w (w.alloc (.cells #[.int .i64 x] 3)) := (Below.refl _ _).alloc (Nat.le_refl _) _
  have h3a := h3.below hba (Nat.le_refl _)
  have hra : ∀ k, (Value.slice p (U.getD i []).length q).ownBlock = some k → hb + 1 ≤ k := fun k hk => (hr.lt k hk).1
  have hgd : ∀ k, (Value.slice p (U.getD i []).length q).ownBlock = some k → k ≠ gu := fun k hk e => by
    subst e
    exact (h3.rowApart hi k (by rw [he]; exact hk)).1 rfl
  have hgdl := (h3.d.1.lt gu rfl)
  have hs : (w.alloc (.cells #[.int .i64 x] 3)).heap.size = w.heap.size + 1 := by simp
  have hb9 : w9.heap[gu]? = w.heap[gu]? := (hg.block gu (by rw [hs]; omega) (fun e => hgd gu e.symm rfl)).trans (hba.block gu hgdl.2)
  have hbk9 := (hg.block hb (by rw [hs]; omega) (fun e => by have := hra hb e.symm; omega)).trans ((hba.block hb hlt).trans h2)
  refine ⟨?_, ?_, hbk9, ?_⟩
  · simp only [World.cell?, hb9]; exact hc
  · simp only [World.frozen?, hb9]; exact hf
  · have hst := h3a.store (i := i) (v' := .slice (some ⟨g2, 0, none⟩) ((U.getD i []).length + 1) c2) (xs' := U.getD i [] ++ [x]) hi (by rw [he]; exact hg) (by
      unfold IntO intVs at *
      rw [List.length_append, List.length_singleton, List.map_append]
      exact ho) (by rw [he, hs]; exact hat)
    refine ⟨?_, ?_, _, _, hst.swap⟩
    · have hb1 : Below hb w3 w9 := (h1.alloc (Nat.le_of_lt hlt) (.cells #[.int .i64 x] 3)).grown hg (by rw [hs]; omega) fun k hk => by have := hra k hk; omega
      exact hb1.setCell (Nat.le_of_lt (show hb < gu by omega)) _
    · rw [setCell_blk (by omega)]
      exact hbk9

/-- an owned row of no elements yet, in new memory -/
def GrowP (t : TypeId) (w : World) (e : Ending) (w' : World) : Prop := ∃ p c, e = .returned (.slice p 0 c) ∧ Below w.heap.size w w' ∧ w'.ownsRow w.heap.size t 1 (.slice p 0 c) 0 []
theorem zero_row {w : World} {n cap : Nat} {t : TypeId} {z : Value} (hz : z.cells.size = 1) (hn : n ≤ cap) (hc : cap ≤ maxLen) :
    (w.drew.alloc (.cells (Builtin.zeroCells z.cells n ++ Builtin.zeroCells z.cells (cap - n)) t)).ownsRow w.heap.size t 1 (.slice (some ⟨w.heap.size, 0, none⟩) 0 cap) 0 [] := by
  refine ⟨rfl, Or.inr ⟨w.heap.size, cap, _, rfl, Nat.le_refl _, heap_alloc_new w.drew _, Nat.zero_le _, hc, ?_, by simp⟩⟩
  rw [Array.size_append]
  have h : ∀ m, (Builtin.zeroCells z.cells m).size = m := fun m => by
    unfold Builtin.zeroCells
    simp [hz]
  rw [h, h]
  omega
set_option maxRecDepth 100000 in
set_option maxHeartbeats 4000000 in
theorem growR_any (n : Nat) (w : World) (hn : n ≤ 1000000) : Calls Tryz.prog 96 #[.slice none 0 0, .int .i64 (n : Int)] w (GrowP 51 w) := by
  obtain ⟨i3, hi3, hy0, hy1, hy2⟩ := info_parts Tryz.info51
  unfold GrowP
  by_cases h0 : n = 0
  · subst h0
    go_enter Tryz.func96, Tryz.ntmps96
    go_wp2_with fail
    go_ret
    exact ⟨none, 0, rfl, Below.refl _ _, World.ownsRow_nil _ _ _ _⟩
  · have hr := Lib.run_append_nil_zeros w 22 3 22 51 i3 (.slice none 0 0) .i64 .i64 Tryz.underlying22 Tryz.underlying3 hi3 hy0 n (by omega) (by omega) (by omega) (by rw [hy2]; omega)
    have HRUN := Lib.hid hr
    have hge := grownCap_ge w n 0 51
    have hle := grownCap_le_maxLen w n 0 51 (by unfold maxLen; omega)
    have HZ := Lib.hid (zero_row (w := w) (t := 51) (z := .slice none 0 0) rfl hge hle)
    generalize grownCap w n 0 51 = cap at hge hle HRUN HZ
    unfold maxLen at hle
    have hb : Below w.heap.size w (w.drew.alloc (.cells (Builtin.zeroCells (Value.slice none 0 0).cells n ++ Builtin.zeroCells (Value.slice none 0 0).cells (cap - n)) 51)) := (Below.refl _ _).drew.alloc (Nat.le_refl _) _
    obtain ⟨W, hW⟩ : ∃ W, W = w.drew.alloc (.cells (Builtin.zeroCells (Value.slice none 0 0).cells n ++ Builtin.zeroCells (Value.slice none 0 0).cells (cap - n)) 51) := ⟨_, rfl⟩
    have HRW := HRUN.out
    have HZW := HZ.out
    rw [← hW] at HRW hb HZW
    have HRUN2 := Lib.hid HRW
    have HZ2 := Lib.hid HZW
    have HB := Lib.hid hb
    clear hr hb HRW HZW HRUN HZ hW
    go_enter Tryz.func96, Tryz.ntmps96
    go_wp2_with (at_builtin; refine Lib.wpList_append_run w rfl (.tmp 20) (.tmp 21) 22 3 rfl _ _ rfl rfl _ _ HRUN2.out ?_)
    go_ret
    exact ⟨_, cap, rfl, HB.out, HZ2.out⟩

theorem flat_step {α : Type} {L : List (List α)} {j : Nat} (h : j < L.length) : (L.take (j + 1)).flatten = (L.take j).flatten ++ L.getD j [] := by
  rw [take_snoc_getD [] L j h, List.flatten_append]
  simp
theorem flat_len {α : Type} (L : List (List α)) (j : Nat) : (L.take j).flatten.length ≤ L.flatten.length := by
  have h : L = L.take j ++ L.drop j := (List.take_append_drop j L).symm
  have h2 : L.flatten.length = (L.take j).flatten.length + (L.drop j).flatten.length := by
    rw [← List.length_append, ← List.flatten_append, ← h]
  omega
theorem flat_succ {α : Type} {L : List (List α)} {j : Nat} (h : j < L.length) : (L.take j).flatten.length + (L.getD j []).length ≤ L.flatten.length := by
  have h1 := flat_len L (j + 1)
  rw [flat_step h, List.length_append] at h1
  exact h1

/-- the headers of a slice of lists -/
theorem ListsIn.heads {B : Nat} {w : World} {p : Option Addr} {m c : Nat} {L : List (List Int)} (h : ListsIn B w (.slice p m c) L) :
    ∃ news : List Value, news.length = m ∧ (p = none → c = 0 ∧ m = 0) ∧ (∀ ad, p = some ad → ∀ j u, news[j]? = some u → w.cell? (ad.add j) = some u) ∧ (∀ i, i < L.length → IntsIn B w (news.getD i .nilIface) (L.getD i [])) ∧ (∀ u ∈ news, u.oneCell' = true) ∧ L.length = m := by
  rcases Nat.eq_zero_or_pos L.length with h0 | h0
  · obtain ⟨p', c', e, h1, h2, -⟩ := h
    cases e
    refine ⟨[], by rw [h0]; rfl, fun e => ⟨h2 e, h0⟩, fun ad _ j u hu => by simp at hu, fun i hi => by omega, fun u hu => by simp at hu, rfl⟩
  · obtain ⟨b, off, c', hs, e, h1, h2, h3, h4, h5⟩ := h.src h0
    cases e
    refine ⟨hs, h2, fun e => (by cases e), fun ad e j u hu => ?_, h4, h5, rfl⟩
    cases e
    rw [add_off]
    exact h3 j u hu

set_option maxRecDepth 100000 in
set_option maxHeartbeats 8000000 in
theorem catR_any (B : Nat) (T : List (List (List Int))) (v : Value) (w : World) (hB : B ≤ w.heap.size) (hv : TabIn B w v T) (hn : T.length ≤ 1000000) (hs : T.flatten.length ≤ 1000000) :
    Calls Tryz.prog 70 #[v] w (ListPost B T.flatten w) := by
  obtain ⟨i39, hi39, hz0, hz1, hz2⟩ := info_parts Tryz.info51
  obtain ⟨pv, cv, hve, -⟩ := id hv
  obtain ⟨n, hLn⟩ : ∃ n, T.length = n := ⟨_, rfl⟩
  rw [hLn] at hve hn
  subst hve
  have HLN := Lib.hid hLn
  have HV := Lib.hid hv
  have HBB := Lib.hid hB
  obtain ⟨m, hm⟩ : ∃ m, T.flatten.length = m := ⟨_, rfl⟩
  have HM := Lib.hid hm
  rw [hm] at hs
  have HU := Lib.hid (under_tab)
  clear hLn hv hm hB
  unfold ListPost
  go_enter Tryz.func70, Tryz.ntmps70
  go_wp2_with fail
  go_loop [3, 5, 11] (fun s _ i => ∃ j k : Nat, j ≤ n ∧ i = .int .i64 j ∧ s = .int .i64 k ∧ Hid ((T.take j).flatten.length = k)) (fun _ _ i => n - (intOf i).toNat)
  case atStart => exact ⟨0, 0, Nat.zero_le _, rfl, rfl, rfl⟩
  case round =>
    obtain ⟨j, k, hj, rfl, rfl, HK⟩ := hrel
    have hkm : k ≤ m := by rw [← HK.out, ← HM.out]; exact flat_len T j
    by_cases hjn : j < n
    · have hjL : j < T.length := by rw [HLN.out]; exact hjn
      obtain ⟨pv', cv', hve, -, -, hx⟩ := id HV.out
      obtain ⟨b, off, u, e1, e2, e3⟩ := hx j hjL
      obtain ⟨rfl, rfl⟩ : pv = pv' ∧ cv = cv' := by cases hve; exact ⟨rfl, rfl⟩
      subst e1
      obtain ⟨pj, cj, hue, -⟩ := id e3
      have hsc := flat_succ hjL
      have HST := Lib.hid (flat_step hjL)
      obtain ⟨nj, hnj⟩ : ∃ nj, (T.getD j []).length = nj := ⟨_, rfl⟩
      rw [hnj] at hue hsc
      subst hue
      rw [HK.out, HM.out] at hsc
      have HNJ := Lib.hid hnj
      have q1 : decide (((k : Int) + (nj : Int)) < 0) = false := decide_eq_false (by omega)
      clear hve hnj hjL hx e3
      go_wp2_with fail
      go_round
      case rel => exact ⟨j + 1, k + nj, by omega, by go_num, by go_num, by unfold Hid; rw [HST.out, List.length_append, HK.out, HNJ.out]⟩
      case measure => simp [intOf]; omega
    · obtain rfl : n = j := by omega
      obtain rfl : k = m := by rw [← HK.out, ← HM.out, ← HLN.out, List.take_length]
      have HG := Lib.hid (growR_any k w (by omega))
      unfold GrowP at HG
      go_wp2_with fail
      refine HG.out.mono ?_
      rintro e w1 ⟨p1, c1, rfl, hb1, ho1⟩
      have HB1 := Lib.hid hb1
      have HO1 := Lib.hid ho1
      have hs1 := hb1.size
      clear hb1 ho1 HK hkm
      go_wp2_with fail
      go_loopw [6, 8, 27] (fun s _ i wr => ∃ j : Nat, j ≤ n ∧ i = .int .i64 j ∧ Below w.heap.size w wr ∧ RowsO w.heap.size B wr s (T.take j).flatten) (fun _ _ i _ => n - (intOf i).toNat)
      case atStart => exact ⟨0, Nat.zero_le _, rfl, HB1.out, ⟨[], HO1.out, rfl, fun i h => absurd h (by simp)⟩⟩
      case round =>
        obtain ⟨j, hj, rfl, hb, hR⟩ := hrel
        have HB := Lib.hid hb
        have hsr := hb.size
        by_cases hjn : j < n
        · have hjL : j < T.length := by rw [HLN.out]; exact hjn
          obtain ⟨pv', cv', hve, -, -, hx⟩ := id (HV.out.below hb (Nat.le_refl _))
          obtain ⟨b, off, u, e1, e2, e3⟩ := hx j hjL
          obtain ⟨rfl, rfl⟩ : pv = pv' ∧ cv = cv' := by cases hve; exact ⟨rfl, rfl⟩
          subst e1
          obtain ⟨pj, cj, hue, -⟩ := id e3
          have hsc := flat_succ hjL
          have HST := Lib.hid (flat_step hjL)
          obtain ⟨nj, hnj⟩ : ∃ nj, (T.getD j []).length = nj := ⟨_, rfl⟩
          rw [hnj] at hue hsc
          subst hue
          rw [HM.out] at hsc
          obtain ⟨news, d1, d2, d3, d4, d5, -⟩ := e3.heads
          obtain ⟨hs', h1, h2, h3⟩ := hR
          have H1 := Lib.hid h1
          have H2 := Lib.hid h2
          have H3 := Lib.hid h3
          have D1 := Lib.hid d1
          have D2 := Lib.hid d2
          have D3 := Lib.hid d3
          have D4 := Lib.hid d4
          have D5 := Lib.hid d5
          obtain ⟨q, hq⟩ : ∃ q, (T.take j).flatten.length = q := ⟨_, rfl⟩
          have HQ := Lib.hid hq
          have hqs : q + nj ≤ k := by rw [← hq]; exact hsc
          rw [hq] at H1
          have HNJ := Lib.hid hnj
          clear hve hnj hjL hx e3 hb h1 h2 h3 d1 d2 d3 d4 d5 hq hsc
          go_wp2_with (at_builtin; refine wpList_app_any wr rfl (.tmp 31) (.tmp 32) 22 rfl w.heap.size 51 i39 (.slice none 0 0) 24 Tryz.underlying22 hi39 hz0 hz1 hz2 rfl _ q hs' rfl H1.out pj nj cj news rfl D1.out D2.out D3.out D5.out (by unfold maxLen; omega) (by omega) hsr _ rfl ?_; intro p2 c2 w2 ho2 hg2 hat2; have HO2 := Lib.hid ho2; have HG2 := Lib.hid hg2; have HB2 := Lib.hid (HB.out.grown hg2 hsr (fun k e => (H1.out.lt k e).1)); clear ho2 hg2 hat2)
          go_roundw
          case rel =>
            refine ⟨j + 1, by omega, by go_num, HB2.out, ?_⟩
            rw [HST.out]
            exact rowsO_app HBB.out (by rw [HQ.out]; exact H1.out) H2.out H3.out (by rw [D1.out, HNJ.out]) D4.out (by rw [HQ.out, HNJ.out]; exact HO2.out) HG2.out
          case measure => simp [intOf]; omega
        · obtain rfl : n = j := by omega
          have HF : Hid ((T.take n) = T) := by unfold Hid; rw [← HLN.out, List.take_length]
          rw [HF.out] at hR
          have HR := Lib.hid hR
          clear hb hR
          go_wp2_with fail
          go_ret
          exact ⟨_, rfl, HB.out, HR.out⟩

theorem slContains_any (xs : List Int) (v : Value) (x : Int) (w : World) (hv : IntsAt w v xs) (hx : xs.length ≤ 1000000) :
    Calls Tryz.prog 84 #[v, .int .i64 x] w (Same (.bool (decide (x ∈ xs))) w) := by
  rcases hv.cases with ⟨rfl, p, c, rfl⟩ | ⟨h0, b, off, c, rfl, hc, hx2⟩
  · refine (Tryz.slices_Contains_int_empty p c x w).mono ?_
    rintro e w' ⟨rfl, rfl⟩
    exact ⟨by simp, rfl⟩
  · refine (Tryz.slices_Contains_int b off xs.length c xs x w (Nat.le_refl _) (by omega) hx2).mono ?_
    rintro e w' ⟨rfl, rfl⟩
    refine ⟨ret_bool ?_, rfl⟩
    rw [List.take_length, Bool.eq_iff_iff]
    simp

/-- a function of one number, by a closure with one box -/
def FnI (w0 : World) (c : Value) (p : Int → Bool) : Prop := ∀ w, Below w0.heap.size w0 w → ∀ x, Calls Tryz.prog 98 #[.int .i64 x, c] w (fun e w' => e = .returned (.bool (p x)) ∧ Below w.heap.size w w')
def AnyPost (r : Bool) (w : World) (e : Ending) (w' : World) : Prop := ∃ x : Int, e = .returned (.int .i64 x) ∧ Below w.heap.size w w' ∧ r = decide (0 ≤ x)

set_option maxRecDepth 100000 in
set_option maxHeartbeats 8000000 in
theorem indexI_any (c : Value) (p : Int → Bool) (xs : List Int) (v : Value) (w : World) (hf : FnI w c p) (hv : IntsAt w v xs) (hn : xs.length ≤ 1000000) :
    Calls Tryz.prog 122 #[v, .func (.func 98) #[] #[c]] w (AnyPost (xs.any p) w) := by
  obtain ⟨pv, cv, hve, -⟩ := id hv
  obtain ⟨n, hLn⟩ : ∃ n, xs.length = n := ⟨_, rfl⟩
  rw [hLn] at hve hn
  subst hve
  have HLN := Lib.hid hLn
  have HV := Lib.hid hv
  have HF := Lib.hid hf
  unfold FnI at HF
  clear hLn hv hf
  go_enter Tryz.func122, Tryz.ntmps122
  go_wp2_with fail
  go_loopw [5, 8] (fun _ i wr => ∃ j : Nat, j ≤ n ∧ i = .int .i64 j ∧ Below w.heap.size w wr ∧ ∀ k, k < j → p (xs.getD k 0) = false) (fun _ i _ => n - (intOf i).toNat)
  case atStart => exact ⟨0, Nat.zero_le _, rfl, Below.refl _ _, fun k h => absurd h (by omega)⟩
  case round =>
    obtain ⟨j, hj, rfl, hb, hno⟩ := hrel
    have HB := Lib.hid hb
    have HNO := Lib.hid hno
    have hIA := HV.out.below hb (Nat.le_refl _)
    clear hb hno
    by_cases hjn : j < n
    · have hjL : j < xs.length := by rw [HLN.out]; exact hjn
      obtain ⟨p', c', hv', -, -, hx⟩ := id hIA
      obtain ⟨b, off, e1, e2⟩ := hx j hjL
      cases hv'
      subst e1
      have HC := Lib.hid (HF.out wr HB.out (xs.getD j 0))
      have HM : Hid (xs.getD j 0 ∈ xs) := by unfold Hid; rw [List.getD_eq_getElem?_getD, List.getElem?_eq_getElem hjL]; exact List.getElem_mem _
      obtain ⟨x, hxx⟩ : ∃ x, xs.getD j 0 = x := ⟨_, rfl⟩
      rw [hxx] at e2 HC HM
      obtain ⟨r, hr⟩ : ∃ r, p x = r := ⟨_, rfl⟩
      rw [hr] at HC
      have HX := Lib.hid hxx
      have HR := Lib.hid hr
      clear hx hxx hr hIA hjL
      cases r with
      | true =>
        go_wp2_with fail
        refine HC.out.mono ?_
        rintro e w1 ⟨rfl, hb1⟩
        have HB1 := Lib.hid (HB.out.trans (hb1.mono HB.out.size))
        clear hb1
        go_wp2_with fail
        go_ret
        refine ⟨_, rfl, HB1.out, ?_⟩
        rw [List.any_eq_true.2 ⟨x, HM.out, HR.out⟩]
        exact (decide_eq_true (by omega)).symm
      | false =>
        go_wp2_with fail
        refine HC.out.mono ?_
        rintro e w1 ⟨rfl, hb1⟩
        have HB1 := Lib.hid (HB.out.trans (hb1.mono HB.out.size))
        clear hb1
        go_wp2_with fail
        go_roundw
        case rel =>
          refine ⟨j + 1, by omega, by go_num, HB1.out, fun k hk => ?_⟩
          rcases (show k < j ∨ k = j by omega) with h | rfl
          · exact HNO.out k h
          · rw [HX.out]; exact HR.out
        case measure => simp [intOf]; omega
    · obtain rfl : j = n := by omega
      have HA : Hid (xs.any p = false) := by
        unfold Hid
        rw [List.any_eq_false]
        intro x hm
        obtain ⟨k, hk, rfl⟩ := List.getElem_of_mem hm
        have := HNO.out k (by rw [← HLN.out]; exact hk)
        rw [List.getD_eq_getElem?_getD, List.getElem?_eq_getElem hk] at this
        simpa using this
      go_wp2_with fail
      go_ret
      refine ⟨_, rfl, HB.out, ?_⟩
      rw [HA.out]
      exact (decide_eq_false (by decide)).symm

set_option maxHeartbeats 4000000 in
theorem containsI_any (c : Value) (p : Int → Bool) (xs : List Int) (v : Value) (w : World) (hf : FnI w c p) (hv : IntsAt w v xs) (hn : xs.length ≤ 1000000) :
    Calls Tryz.prog 97 #[v, .func (.func 98) #[] #[c]] w (Gives (.bool (xs.any p)) w) := by
  have HC := Lib.hid (indexI_any c p xs v w hf hv hn)
  unfold AnyPost at HC
  obtain ⟨r, hr⟩ : ∃ r, xs.any p = r := ⟨_, rfl⟩
  rw [hr] at HC ⊢
  clear hf hv hn hr
  go_enter Tryz.func97, Tryz.ntmps97
  go_wp2_with fail
  refine HC.out.mono ?_
  rintro e w1 ⟨x, rfl, hb, hrx⟩
  have HB := Lib.hid hb
  have HRX := Lib.hid hrx
  clear hb hrx
  go_wp2_with fail
  go_ret
  exact ⟨ret_bool HRX.out.symm, HB.out⟩

/-- Within's inner question -/
theorem within1_any (b : Nat) (xs : List Int) (v : Value) (x : Int) (w : World) (hc : w.cell? ⟨b, 0, none⟩ = some v) (hv : IntsAt w v xs) (hx : xs.length ≤ 1000000) :
    Calls Tryz.prog 98 #[.int .i64 x, .pointer (some ⟨b, 0, none⟩)] w (fun e w' => e = .returned (.bool (!decide (x ∈ xs))) ∧ Below w.heap.size w w') := by
  have HC := Lib.hid (slContains_any xs v x w hv hx)
  unfold Same at HC
  obtain ⟨r, hr⟩ : ∃ r, decide (x ∈ xs) = r := ⟨_, rfl⟩
  rw [hr] at HC ⊢
  clear hv hx hr
  go_enter Tryz.func98, Tryz.ntmps98
  go_wp2_with fail
  refine HC.out.mono ?_
  rintro e w1 ⟨rfl, rfl⟩
  go_wp2_with fail
  go_ret
  exact ⟨rfl, Below.refl _ _⟩

set_option maxHeartbeats 4000000 in
theorem within_any (xs ys : List Int) (u v : Value) (w : World) (hu : IntsAt w u xs) (hv : IntsAt w v ys) (hx : xs.length ≤ 1000000) (hy : ys.length ≤ 1000000) :
    Calls Tryz.prog 71 #[u, v] w (Gives (.bool (partB xs ys)) w) := by
  obtain ⟨pv, cv, hve, -⟩ := id hv
  generalize ys.length = ny at hve
  subst hve
  have hb : Below w.heap.size w (w.alloc (.cells #[.slice pv ny cv] 51)) := (Below.refl _ _).alloc (Nat.le_refl _) _
  have HB := Lib.hid hb
  have HC := Lib.hid (containsI_any (.pointer (some ⟨w.heap.size, 0, none⟩)) (fun x => !decide (x ∈ ys)) xs u (w.alloc (.cells #[.slice pv ny cv] 51)) (fun w' hb' x => by
      have hc : w'.cell? ⟨w.heap.size, 0, none⟩ = some (.slice pv ny cv) := (one_at (t := 51) ((hb'.block _ (by simp)).trans (heap_alloc_new w _))).1
      exact within1_any w.heap.size ys (.slice pv ny cv) x w' hc ((hv.below hb (Nat.le_refl _)).below hb' (Nat.le_refl _)) hy) (hu.below hb (Nat.le_refl _)) hx)
  unfold Gives at HC
  have hpb : partB xs ys = !(xs.any fun x => !decide (x ∈ ys)) := by
    unfold partB
    rw [Bool.eq_iff_iff]
    simp [List.all_eq_true]
  have HPB := Lib.hid hpb
  obtain ⟨r, hr⟩ : ∃ r, (xs.any fun x => !decide (x ∈ ys)) = r := ⟨_, rfl⟩
  rw [hr] at HC HPB
  clear hb hu hv hx hy hpb hr
  rw [HPB.out]
  go_enter Tryz.func71, Tryz.ntmps71
  go_wp2_with fail
  refine HC.out.mono ?_
  rintro e w1 ⟨rfl, hb1⟩
  have HB1 := Lib.hid (HB.out.trans (hb1.mono HB.out.size))
  clear hb1
  go_wp2_with fail
  go_ret
  exact ⟨rfl, HB1.out⟩

theorem make_rows (N : Nat) (hN : N ≤ 100000) (w : World) : Sem.run Tryz.prog (Instr.makeSlice 22 (.int .i64 (N : Int)) (.int .i64 (N : Int))) w = .ok (.slice (some ⟨w.heap.size, 0, none⟩) N N) (w.alloc (.cells (Array.replicate N (.slice none 0 0)) 51)) := by
  obtain ⟨i39, hi39, hz0, hz1, hz2⟩ := info_parts Tryz.info51
  have h := run_make (P := Tryz.prog) w 22 51 i39 (.slice none 0 0) Tryz.underlying22 hi39 hz0 .i64 .i64 (N : Int) (N : Int) (by omega) (by omega) (by rw [hz2]; omega) (by omega)
  rw [Int.toNat_natCast, hz1, Nat.mul_one] at h
  have e2 : madeCells (Value.slice none 0 0).cells N = Array.replicate N (.slice none 0 0) := by
    apply Array.ext
    · simp [madeCells]
    · intro i h1 h2; simp [madeCells, Value.cells, Nat.mod_one]
  rw [← e2]
  exact h
theorem rows_made {O N : Nat} {w : World} (hN : N ≤ 100000) (hO : O ≤ w.heap.size) : HasH O (w.alloc (.cells (Array.replicate N (.slice none 0 0)) 51)) (.slice (some ⟨w.heap.size, 0, none⟩) N N) (List.replicate N []) (List.replicate N (.slice none 0 0)) := by
  refine HasH.made ⟨by simp, Or.inr ⟨w.heap.size, N, _, rfl, hO, heap_alloc_new _ _, Nat.le_refl _, by unfold maxLen; omega, by simp, ?_⟩⟩
  simp
/-- two tables of nothing -/
theorem two_made {O N : Nat} {w : World} (hN : N ≤ 100000) (hO : O ≤ w.heap.size) :
    TwoH O ((w.alloc (.cells (Array.replicate N (.slice none 0 0)) 51)).alloc (.cells (Array.replicate N (.slice none 0 0)) 51)) (.slice (some ⟨w.heap.size, 0, none⟩) N N) (.slice (some ⟨w.heap.size + 1, 0, none⟩) N N) (List.replicate N []) (List.replicate N []) (List.replicate N (.slice none 0 0)) (List.replicate N (.slice none 0 0)) := by
  have h1 := rows_made (N := N) hN hO
  have h2 := rows_made (N := N) (O := O) (w := w.alloc (.cells (Array.replicate N (.slice none 0 0)) 51)) hN (by simp; omega)
  have hs : (w.alloc (.cells (Array.replicate N (.slice none 0 0)) 51)).heap.size = w.heap.size + 1 := by simp
  rw [hs] at h2
  refine ⟨h1.below ((Below.refl _ _).alloc (Nat.le_refl _) _) (Nat.le_refl _), h2, fun i j k hi hj e => ?_, fun k e e2 => ?_⟩
  · rw [List.length_replicate] at hi
    have e3 : (List.replicate N (Value.slice none 0 0)).getD i .nilIface = .slice none 0 0 := by simp [List.getD_eq_getElem?_getD, hi]
    rw [e3] at e; cases e
  · have := (Option.some.inj e).trans (Option.some.inj e2).symm
    exact absurd (show w.heap.size = w.heap.size + 1 from this) (by omega)
theorem faceN_len {L : List (List Int)} : (faceN (allF L)).length ≤ (allF L).length := by
  have key : ∀ (A : List (List Int)) (n : Nat), (((List.range n).map (rowF A)).flatten).length ≤ (A.filter fun f => decide (f.length ≤ n)).length := by
    intro A n
    induction n with
    | zero => simp
    | succ n ih =>
      rw [List.range_succ, List.map_append, List.flatten_append, List.length_append]
      have h2 : ([n].map (rowF A)).flatten.length = (rowF A n).length := by simp
      rw [h2]
      have h3 : ∀ (A : List (List Int)), (A.filter fun f => decide (f.length ≤ n)).length + (rowF A n).length ≤ (A.filter fun f => decide (f.length ≤ n + 1)).length := by
        intro A
        induction A with
        | nil => exact Nat.le_refl _
        | cons f A ihA =>
          unfold rowF at *
          simp only [List.filter_cons]
          by_cases c1 : f.length ≤ n
          · have e1 : decide (f.length ≤ n) = true := decide_eq_true c1
            have e2 : decide (f.length = n + 1) = false := decide_eq_false (by omega)
            have e3 : decide (f.length ≤ n + 1) = true := decide_eq_true (by omega)
            rw [e1, e2, e3, if_pos rfl, if_neg (by decide), if_pos rfl, List.length_cons, List.length_cons]
            omega
          · by_cases c2 : f.length = n + 1
            · have e1 : decide (f.length ≤ n) = false := decide_eq_false c1
              have e2 : decide (f.length = n + 1) = true := decide_eq_true c2
              have e3 : decide (f.length ≤ n + 1) = true := decide_eq_true (by omega)
              rw [e1, e2, e3, if_neg (by decide), if_pos rfl, if_pos rfl, List.length_cons, List.length_cons]
              omega
            · have e1 : decide (f.length ≤ n) = false := decide_eq_false c1
              have e2 : decide (f.length = n + 1) = false := decide_eq_false c2
              have e3 : decide (f.length ≤ n + 1) = false := decide_eq_false (by omega)
              rw [e1, e2, e3, if_neg (by decide), if_neg (by decide), if_neg (by decide)]
              exact ihA
      exact Nat.le_trans (Nat.add_le_add_right ih _) (h3 A)
  unfold faceN tableF
  exact Nat.le_trans (key _ _) (List.length_filter_le _ _)
def DiaR (B : Nat) (w : World) (f d u : Value) (F : List (List Int)) : Prop := ListsIn B w f F ∧ ListsIn B w d (dnF F) ∧ ListsIn B w u (upF F)
theorem DiaR.below {B C : Nat} {w w' : World} {f d u : Value} {F : List (List Int)} (h : DiaR B w f d u F) (hb : Below C w w') (hC : w.heap.size ≤ C) : DiaR B w' f d u F := ⟨h.1.below hb hC, h.2.1.below hb hC, h.2.2.below hb hC⟩
def DiaP (a : Nat → Addr) (B : Nat) (L : List (List Int)) (w : World) (e : Ending) (w' : World) : Prop :=
  Below w.heap.size w w' ∧
  ((errX L = 0 ∧ ∃ f d u, e = .returned (.tuple #[.agg #[f, d, u], .nilIface]) ∧ DiaR B w' f d u (faceN (allF L))) ∨
   (∃ k, k < 8 ∧ errX L = k + 1 ∧ e = .returned (.tuple #[.agg #[.slice none 0 0, .slice none 0 0, .slice none 0 0], errE (a k)])))

/-- a list of faces stays, where a block of another type is written -/
theorem faces_kept {O B z : Nat} {wo wf : World} {v : Value} {F : List (List Int)} {c : Array Value} (hg : wo.grownBy wf (some z)) (h : RowsO O B wo v F) (hz : wo.heap[z]? = some (.cells c 81 (0, 0))) (hO : z < O) (hB : B ≤ z) : RowsO O B wf v F := by
  obtain ⟨hs, h1, h2, h3⟩ := h
  refine ⟨hs, owns_keep h1 fun k e => hg.block k (h1.lt k e).2 (fun e2 => by have := (h1.lt k e).1; have := Option.some.inj e2; omega), h2, fun i hi => (h3 i hi).grown hg fun k e => ?_⟩
  obtain rfl := Option.some.inj e
  exact ⟨hB, fun x e2 => by rw [hz] at e2; cases e2⟩
set_option maxRecDepth 100000 in
set_option maxHeartbeats 16000000 in
theorem diagram_any (a : Nat → Addr) (B : Nat) (L : List (List Int)) (v : Value) (w : World) (hS : Sents w a) (hB : B ≤ w.heap.size) (hv : ListsIn B w v L) (hn : L.length ≤ 100000) (hl : ∀ l ∈ L, l.length ≤ 100000) :
    Calls Tryz.prog 41 #[.agg #[v]] w (DiaP a B L w) := by
  obtain ⟨i3, hi3, hy0, hy1, hy2⟩ := info_parts Tryz.info3
  obtain ⟨pv, cv, hve, -⟩ := id hv
  obtain ⟨n0, hLn⟩ : ∃ n, L.length = n := ⟨_, rfl⟩
  rw [hLn] at hve
  subst hve
  have hb0 : Below w.heap.size w ((w.alloc (.cells #[.slice pv n0 cv] 32)).alloc (.cells #[.slice none 0 0, .slice none 0 0, .slice none 0 0] 81)) := ((Below.refl _ _).alloc (Nat.le_refl _) _).alloc (by simp) _
  obtain ⟨w1, hw1⟩ : ∃ w1, (w.alloc (.cells #[.slice pv n0 cv] 32)).alloc (.cells #[.slice none 0 0, .slice none 0 0, .slice none 0 0] 81) = w1 := ⟨_, rfl⟩
  have hg0 : w1.heap[w.heap.size]? = some (.cells #[.slice pv n0 cv] 32 (0, 0)) := by
    rw [← hw1]
    exact (((Below.refl _ (w.alloc (.cells #[.slice pv n0 cv] 32))).alloc (Nat.le_refl _) _).block w.heap.size (by simp)).trans (heap_alloc_new _ _)
  have hg1 : w1.heap[w.heap.size + 1]? = some (.cells #[.slice none 0 0, .slice none 0 0, .slice none 0 0] 81 (0, 0)) := by
    rw [← hw1]
    have h := heap_alloc_new (w.alloc (.cells #[.slice pv n0 cv] 32)) (.cells #[.slice none 0 0, .slice none 0 0, .slice none 0 0] 81)
    rwa [show (w.alloc (.cells #[.slice pv n0 cv] 32)).heap.size = w.heap.size + 1 by simp] at h
  have hs1 : w1.heap.size = w.heap.size + 2 := by rw [← hw1]; simp
  rw [hw1] at hb0
  have HG0 := Lib.hid hg0
  have HG1 := Lib.hid hg1
  have HB0 := Lib.hid hb0
  have HW1 := Lib.hid hw1
  have HTB := Lib.hid (table_any a B L (.slice pv n0 cv) w1 (hS.below hb0 (Nat.le_refl _)) (by omega) (hv.below hb0 (Nat.le_refl _)) hn hl)
  have HBB := Lib.hid hB
  have c0 : w1.cell? ⟨w.heap.size, 0, none⟩ = some (.slice pv n0 cv) := by simp [World.cell?, hg0]
  unfold TabPost errE at HTB
  unfold DiaP errE
  clear hS hB hv hn hl hb0 hg0 hg1 hw1 hLn
  go_enter Tryz.func41, Tryz.ntmps41
  go_upto_region 1 with fail
  rw [HW1.out]
  go_wp2_with fail
  refine HTB.out.mono ?_
  rintro e w2 ⟨hb2, ⟨h0, vt, rfl, hT⟩ | ⟨k, hk, hek, rfl⟩⟩
  rotate_left
  · have hg2 := (hb2.block (w.heap.size + 1) (by omega)).trans HG1.out
    obtain ⟨d0, d1, d2, f0, f1, f2⟩ := three_of hg2
    have HB2 := Lib.hid (HB0.out.trans (hb2.mono HB0.out.size))
    have HEK := Lib.hid hek
    obtain ⟨wf, hwf⟩ : ∃ wf, wf = ((w2.setCell ⟨w.heap.size + 1, 0, none⟩ (.slice none 0 0)).setCell ⟨w.heap.size + 1, 1, none⟩ (.slice none 0 0)).setCell ⟨w.heap.size + 1, 2, none⟩ (.slice none 0 0) := ⟨_, rfl⟩
    have hkf : wf.heap[w.heap.size + 1]? = some (.cells #[.slice none 0 0, .slice none 0 0, .slice none 0 0] 81 (0, 0)) := by rw [hwf]; exact set3all hg2 _ _ _
    obtain ⟨r0, r1, r2, -⟩ := three_of hkf
    have HBF : Hid (Below w.heap.size w wf) := by unfold Hid; rw [hwf]; exact ((HB2.out.setCell (Nat.le_succ _) _).setCell (Nat.le_succ _) _).setCell (Nat.le_succ _) _
    have HWF := Lib.hid hwf
    have R0 := Lib.hid r0
    have R1 := Lib.hid r1
    have R2 := Lib.hid r2
    clear hb2 hek c0 hg2 hwf hkf r0 r1 r2
    go_wp2_with fail
    rw [← HWF.out]
    refine bodyPost_ret (v := .tuple #[.agg #[.slice none 0 0, .slice none 0 0, .slice none 0 0], .iface 251 (.pointer (some (a k)))]) (by simp [results, Tryz.results41, go_sem, R0.out, R1.out, R2.out]) rfl ?_
    exact ⟨HBF.out, Or.inr ⟨k, hk, HEK.out, rfl⟩⟩
  · have HT := Lib.hid hT.tab
    have hg2 := (hb2.block (w.heap.size + 1) (by omega)).trans HG1.out
    have HG2 := Lib.hid hg2
    have HB2 := Lib.hid (HB0.out.trans (hb2.mono HB0.out.size))
    have HE := Lib.hid h0
    have htl : (tableF (allF L)).length ≤ 7 := by rw [tableF_len]; exact topN_7 (errX_ok h0).1
    obtain ⟨F, hF⟩ : ∃ F, faceN (allF L) = F := ⟨_, rfl⟩
    have hfl : (tableF (allF L)).flatten = F := hF
    have hFb : F.length ≤ 600 ∧ ∀ f ∈ F, f.length ≤ 7 := by
      have hc := (errX_ok h0).1
      rw [← hF]
      refine ⟨?_, fun f hf => allF_bd hc f ((mem_flat allF_ne).1 hf)⟩
      have h1 := faceN_len (L := L)
      have h2 := (errC_ok hc).2.2
      omega
    have HF := Lib.hid hF
    have HFB := Lib.hid hFb
    obtain ⟨pt, ct, hte, -⟩ := hT.tab
    obtain ⟨nt, hnt⟩ : ∃ nt, (tableF (allF L)).length = nt := ⟨_, rfl⟩
    rw [hnt] at hte htl
    subst hte
    have hs2 := hb2.size
    have HCA := Lib.hid (catR_any B (tableF (allF L)) (.slice pt nt ct) w2 (by have := HBB.out; omega) HT.out (by rw [hnt]; omega) (by rw [hfl]; have := hFb.1; omega))
    rw [hfl] at HCA
    unfold ListPost at HCA
    have HTE : Hid (faceN (allF L) = F) := hF
    clear hb2 h0 hT c0 hg2 hnt hF hfl hFb
    go_wp2_with fail
    refine HCA.out.mono ?_
    rintro e w3 ⟨v3, rfl, hb3, hR3⟩
    obtain ⟨pf, cf, hve, hcf, -⟩ := id hR3.lists
    obtain ⟨n, hn⟩ : ∃ n, F.length = n := ⟨_, rfl⟩
    rw [hn] at hve hcf
    subst hve
    have HN := Lib.hid hn
    have HLF := Lib.hid (hR3.lists (B := B))
    have HRF := Lib.hid hR3
    obtain ⟨hn600, -⟩ := HFB.out
    rw [hn] at hn600
    have hg3 := (hb3.block (w.heap.size + 1) (Array.getElem?_eq_some_iff.1 HG2.out).1).trans HG2.out
    have HG3 := Lib.hid hg3
    have HB3 := Lib.hid (HB2.out.trans (hb3.mono HB2.out.size))
    have HMK := make_rows n (by omega)
    clear hb3 hR3 hn HCA
    go_upto_region 5 with fail
    obtain ⟨w4, hw4⟩ : ∃ w4, w3.alloc (.cells #[.slice pf n cf, .slice none 0 0, .slice none 0 0] 81) = w4 := ⟨_, rfl⟩
    obtain ⟨hb, hhb⟩ : ∃ hb, w3.heap.size = hb := ⟨_, rfl⟩
    have hk4 : w4.heap[hb]? = some (.cells #[.slice pf n cf, .slice none 0 0, .slice none 0 0] 81 (0, 0)) := by rw [← hw4, ← hhb]; exact heap_alloc_new _ _
    have hs4 : w4.heap.size = hb + 1 := by rw [← hw4, ← hhb]; simp
    have hb4 : Below hb w3 w4 := by rw [← hw4]; exact (Below.refl _ _).alloc (by omega) _
    have hbA : Below w4.heap.size w4 (w4.alloc (.cells (Array.replicate n (.slice none 0 0)) 51)) := (Below.refl _ _).alloc (Nat.le_refl _) _
    have hsA : (w4.alloc (.cells (Array.replicate n (.slice none 0 0)) 51)).heap.size = hb + 2 := by simp [hs4]
    have hbB : Below w4.heap.size w4 ((w4.alloc (.cells (Array.replicate n (.slice none 0 0)) 51)).alloc (.cells (Array.replicate n (.slice none 0 0)) 51)) := hbA.alloc (by simp) _
    have hkA := (hbA.block hb (by omega)).trans hk4
    have hkB := (hbB.block hb (by omega)).trans hk4
    have htw := two_made (N := n) (O := hb + 1) (w := w4) (by omega) (by omega)
    rw [hs4] at htw
    have hM1 := DiaS.made (hb4.trans (hbB.mono (by omega))) hkB htw
    have hM2 := DiaS.made (hb4.trans (hbB.mono (by omega))) hkB htw.swap
    have eW : ∀ X Y, (((w4.alloc (.cells (Array.replicate n (.slice none 0 0)) 51)).alloc (.cells (Array.replicate n (.slice none 0 0)) 51)).setCell ⟨hb, 1, none⟩ X).setCell ⟨hb, 2, none⟩ Y = (((w4.setCell ⟨hb, 1, none⟩ X).setCell ⟨hb, 2, none⟩ Y).alloc (.cells (Array.replicate n (.slice none 0 0)) 51)).alloc (.cells (Array.replicate n (.slice none 0 0)) 51) := by
      intro X Y
      rw [World.setCell_alloc_past _ _ _ _ (by first | omega | (simp; omega)), World.setCell_alloc_past _ _ _ _ (by first | omega | (simp; omega)), World.setCell_alloc_past _ _ _ _ (by first | omega | (simp; omega)), World.setCell_alloc_past _ _ _ _ (by first | omega | (simp; omega))]
    have HM1 := Lib.hid (eW _ _ ▸ hM1.1)
    have HM2 := Lib.hid (eW _ _ ▸ hM2.1)
    obtain ⟨a0, a1, a2, -, g1, g2⟩ := three_of hk4
    obtain ⟨b0, b1, b2, -, g3, g4⟩ := three_of hkA
    obtain ⟨e0, e1, e2, -, g5, g6⟩ := three_of hkB
    rw [hhb, hw4]
    have hnn : 0 ≤ (n : Int) := by omega
    clear hk4 hb4 hbA hbB hkA hkB htw hM1 hM2 hw4 eW
    go_cut [] (fun wx => ∃ gd gu, DiaS hb gd gu n cf pf w3 wx (List.replicate n []) (List.replicate n []))
    case first =>
      go_region
      all_goals
        go_wp2
        go_meet
        first
          | exact ⟨_, _, HM1.out⟩
          | exact ⟨_, _, HM2.out⟩
          | exact ⟨_, _, HM1.out.drew⟩
          | exact ⟨_, _, HM2.out.drew⟩
    case rest =>
    obtain ⟨gd, gu, hD0'⟩ := hcut
    have hD0 : DiaS hb gd gu n cf pf w3 wc (dnT F 0 0) (upT F 0 0) := by rw [dnT_zero, upT_zero, HN.out]; exact hD0'
    obtain ⟨d0, -⟩ := three_of hD0.2.1
    have HD0 := Lib.hid hD0
    have HHB := Lib.hid hhb
    have hbw : w.heap.size + 1 < hb := by rw [← hhb]; exact (Array.getElem?_eq_some_iff.1 HG3.out).1
    clear hD0 hD0' HM1 HM2 a0 a1 a2 g1 g2 b0 b1 b2 g3 g4 e0 e1 e2 g5 g6 hsA hs4 HMK hhb
    go_wp2_with fail
    clear d0
    go_loopw [36] (fun i wr => ∃ b : Nat, b ≤ n ∧ i = .int .i64 (b : Int) ∧ DiaS hb gd gu n cf pf w3 wr (dnT F b 0) (upT F b 0)) (fun i _ => n - (intOf i).toNat)
    case atStart => exact ⟨0, Nat.zero_le _, rfl, HD0.out⟩
    case round =>
      obtain ⟨b, hbn, rfl, hD⟩ := hrel
      obtain ⟨wo, rfl⟩ : ∃ wo : World, wo = wr := ⟨_, rfl⟩
      have HDO := Lib.hid hD
      obtain ⟨d0, d1, d2, -⟩ := three_of hD.2.1
      by_cases hbl : b < n
      · have hbF : b < F.length := by rw [HN.out]; exact hbl
        obtain ⟨bf, off, cf', hve⟩ := HLF.out.form (by omega)
        rw [HN.out] at hve
        obtain ⟨rfl, rfl⟩ : pf = some ⟨bf, off, none⟩ ∧ cf = cf' := by cases hve; exact ⟨rfl, rfl⟩
        obtain ⟨pg, cg, hcg3, hig3⟩ := cells_at HLF.out b hbF
        have hgb := HFB.out.2 _ (getL_mem hbF)
        have hcg := (hD.1.cell (p := ⟨bf, off + b, none⟩) (by rw [← HHB.out]; exact mem_lt hcg3)).trans hcg3
        obtain ⟨ng, hng⟩ : ∃ ng, (F.getD b []).length = ng := ⟨_, rfl⟩
        rw [hng] at hcg hig3 hgb
        have HIG := Lib.hid hig3
        have HNG := Lib.hid hng
        clear hD hve hcg3 hig3 hng hbF
        go_wp2_with fail
        go_loopw [46] (fun i wr => ∃ a' : Nat, a' ≤ b ∧ i = .int .i64 (a' : Int) ∧ DiaS hb gd gu n cf (some ⟨bf, off, none⟩) w3 wr (dnT F b a') (upT F b a')) (fun i _ => b - (intOf i).toNat)
        case atStart => exact ⟨0, Nat.zero_le _, rfl, HDO.out⟩
        case round =>
          obtain ⟨x, hxb, rfl, hD⟩ := hrel
          have HDS := Lib.hid hD
          by_cases hxl : x < b
          · have hxF : x < F.length := by rw [HN.out]; omega
            obtain ⟨pf', cf', hcf3, hif3⟩ := cells_at HLF.out x hxF
            have hfb := HFB.out.2 _ (getL_mem hxF)
            have hcx := (hD.1.cell (p := ⟨bf, off + x, none⟩) (by rw [← HHB.out]; exact mem_lt hcf3)).trans hcf3
            have hBw3 := hD.1
            obtain ⟨nf, hnf⟩ : ∃ nf, (F.getD x []).length = nf := ⟨_, rfl⟩
            rw [hnf] at hcx hif3 hfb
            have HNF := Lib.hid hnf
            have HIF := Lib.hid (hif3.below hBw3 (by rw [HHB.out]; exact Nat.le_refl _))
            have HIG2 := Lib.hid (HIG.out.below hBw3 (by rw [HHB.out]; exact Nat.le_refl _))
            clear hD hcf3 hif3 hnf hxF hBw3
            by_cases hq : nf + 1 = ng
            · have q1 : ((nf : Int) + 1 == (ng : Int)) = true := beq_iff_eq.2 (by omega)
              have HWI := Lib.hid (within_any (F.getD x []) (F.getD b []) (.slice pf' nf cf') (.slice pg ng cg) wr HIF.out.at HIG2.out.at (by rw [HNF.out]; omega) (by rw [HNG.out]; omega))
              unfold Gives at HWI
              have HUN : Hid (unB F x b = partB (F.getD x []) (F.getD b [])) := by unfold Hid unB; rw [HNF.out, HNG.out, decide_eq_true hq]; rfl
              clear hq
              cases hpb : partB (F.getD x []) (F.getD b []) with
              | false =>
                rw [hpb] at HWI HUN
                clear hpb
                go_wp2_with fail
                refine HWI.out.mono ?_
                rintro e w5 ⟨rfl, hb5⟩
                have HD5 := Lib.hid (HDS.out.below hb5)
                clear hb5
                go_wp2_with fail
                go_roundw
                case rel => exact ⟨x + 1, hxl, by go_num, by rw [dnT_no HUN.out, upT_no HUN.out]; exact HD5.out⟩
                case measure => simp [intOf]; omega
              | true =>
                rw [hpb] at HWI HUN
                clear hpb
                go_wp2_with fail
                refine HWI.out.mono ?_
                rintro e w5 ⟨rfl, hb5⟩
                have hD5 := HDS.out.below hb5
                have HDS5 := Lib.hid hD5
                go_upto_region 13 with fail
                clear d0 d1 d2
                obtain ⟨pr, qr, hrc, hrf, hro, hrn⟩ := hD5.rowD (i := b) (by rw [dnT_len, HN.out]; omega)
                have hml : ((dnT F b x).getD b []).length ≤ 1200 := by
                  rw [dnT_at (by rw [HN.out]; omega)]
                  rw [if_neg (by omega), if_pos rfl, natI_len]; have := dnRow_len F b x; omega
                have HYES := Lib.hid (dnT_yes (by rw [HN.out]; exact hbl) HUN.out)
                obtain ⟨row, hrow⟩ : ∃ row, (dnT F b x).getD b [] = row := ⟨_, rfl⟩
                rw [hrow] at hrc hro hrn hml HYES
                obtain ⟨m, hm⟩ : ∃ m, row.length = m := ⟨_, rfl⟩
                rw [hm] at hrc hro hrn hml
                have hlt5 := hD5.lt
                obtain ⟨k0, k1, k2, -⟩ := three_of hD5.2.1
                have hba5 : Below w5.heap.size w5 (w5.alloc (.cells #[.int .i64 (x : Int)] 3)) := (Below.refl _ _).alloc (Nat.le_refl _) _
                obtain ⟨l0, l1, l2, -⟩ := three_of ((hba5.block hb hlt5).trans hD5.2.1)
                have hrl := (hba5.cell (p := ⟨gd, b, none⟩) (mem_lt hrc)).trans hrc
                have HRO := Lib.hid hro
                have HRN := Lib.hid hrn
                clear hba5 hro hrn hrow hm hrf
                go_cut [] (fun wx => DiaS hb gd gu n cf (some ⟨bf, off, none⟩) w3 wx (dnT F b (x + 1)) (upT F b x))
                case first =>
                  go_region_law (refine step_append_lies _ (by rfl) (.tmp 69) (.tmp 71) 51 (by rfl) (hb + 1) 3 i3 (.int .i64 0) 1 8 Tryz.underlying51 hi3 hy0 hy1 hy2 rfl (by decide) _ m (intVs row) (by rfl) (HRO.out.alloc _) ⟨w5.heap.size, 0, none⟩ 1 1 [.int .i64 (x : Int)] (by rfl) (by rfl) (World.news_of_block (cs := #[.int .i64 (x : Int)]) (t := 3) (fr := (0, 0)) (heap_alloc_new w5 _)) (by simp [Value.oneCell']) (by decide) (by unfold maxLen; omega) (by omega) (by simp; omega) (w5.heap.size + 1) (by simp) ?_
                                 intro g2 c2 w9 hown2 hgr2 hat2 hlt2
                                 obtain ⟨n1, n2, n3, n4⟩ := HRN.out x g2 c2 w9 hown2 ⟨hgr2.os, hgr2.tape, hgr2.output, hgr2.size, hgr2.block⟩ (hat2.imp (fun e => e.symm) (fun e => congrArg some e))
                                 obtain ⟨m0, m1, m2, -⟩ := three_of n3
                                 have HN4 := Lib.hid n4
                                 clear hown2 hgr2 hat2 hlt2 n3 n4)
                  all_goals
                    go_wp2
                    go_meet
                    rw [HYES.out]
                    first | exact HN4.out | exact HN4.out.drew
                case rest =>
                clear k0 k1 k2 l0 l1 l2 hrc hrl HRO HRN HYES hml hlt5 hD5
                have hxn : x < n := by omega
                go_upto_region 14 with fail
                obtain ⟨pr, qr, hrc, hrf, hro, hrn⟩ := hcut.swap (i := x) (by rw [upT_len, HN.out]; omega)
                have hml : ((upT F b x).getD x []).length ≤ 1200 := by
                  rw [upT_at (by rw [HN.out]; omega)]
                  rw [if_neg (by omega), List.append_nil, natI_len]; have := upRow_len F x b; omega
                have HYES := Lib.hid (upT_yes (by rw [HN.out]; omega) HUN.out)
                obtain ⟨row, hrow⟩ : ∃ row, (upT F b x).getD x [] = row := ⟨_, rfl⟩
                rw [hrow] at hrc hro hrn hml HYES
                obtain ⟨m, hm⟩ : ∃ m, row.length = m := ⟨_, rfl⟩
                rw [hm] at hrc hro hrn hml
                have hlt5 := hcut.lt
                obtain ⟨k0, k1, k2, -⟩ := three_of hcut.2.1
                have hba5 : Below wc.heap.size wc (wc.alloc (.cells #[.int .i64 (b : Int)] 3)) := (Below.refl _ _).alloc (Nat.le_refl _) _
                obtain ⟨l0, l1, l2, -⟩ := three_of ((hba5.block hb hlt5).trans hcut.2.1)
                have hrl := (hba5.cell (p := ⟨gu, x, none⟩) (mem_lt hrc)).trans hrc
                have HRO := Lib.hid hro
                have HRN := Lib.hid hrn
                clear hba5 hro hrn hrow hm hrf
                go_region_law (refine step_append_lies _ (by rfl) (.tmp 81) (.tmp 83) 51 (by rfl) (hb + 1) 3 i3 (.int .i64 0) 1 8 Tryz.underlying51 hi3 hy0 hy1 hy2 rfl (by decide) _ m (intVs row) (by rfl) (HRO.out.alloc _) ⟨wc.heap.size, 0, none⟩ 1 1 [.int .i64 (b : Int)] (by rfl) (by rfl) (World.news_of_block (cs := #[.int .i64 (b : Int)]) (t := 3) (fr := (0, 0)) (heap_alloc_new wc _)) (by simp [Value.oneCell']) (by decide) (by unfold maxLen; omega) (by omega) (by simp; omega) (wc.heap.size + 1) (by simp) ?_
                               intro g2 c2 w9 hown2 hgr2 hat2 hlt2
                               obtain ⟨n1, n2, n3, n4⟩ := HRN.out b g2 c2 w9 hown2 ⟨hgr2.os, hgr2.tape, hgr2.output, hgr2.size, hgr2.block⟩ (hat2.imp (fun e => e.symm) (fun e => congrArg some e))
                               obtain ⟨m0, m1, m2, -⟩ := three_of n3
                               have HN4 := Lib.hid n4
                               clear hown2 hgr2 hat2 hlt2 n3 n4)
                all_goals
                  go_wp2_with fail
                  go_roundw
                  case rel => exact ⟨x + 1, hxl, by go_num, by rw [HYES.out]; first | exact HN4.out | exact HN4.out.drew⟩
                  case measure => simp [intOf]; omega
            · have q1 : ((nf : Int) + 1 == (ng : Int)) = false := beq_eq_false_iff_ne.2 (by omega)
              have HUN : Hid (unB F x b = false) := by unfold Hid unB; rw [HNF.out, HNG.out, decide_eq_false hq]; rfl
              clear hq
              go_wp2_with fail
              go_roundw
              case rel => exact ⟨x + 1, hxl, by go_num, by rw [dnT_no HUN.out, upT_no HUN.out]; exact HDS.out⟩
              case measure => simp [intOf]; omega
          · obtain rfl : x = b := by omega
            have h := hD
            rw [dnT_next, upT_next] at h
            have HDN := Lib.hid h
            clear hD h
            go_wp2_with fail
            go_roundw
            case rel => exact ⟨x + 1, hbl, by go_num, HDN.out⟩
            case measure => simp [intOf]; omega
      · obtain rfl : b = n := by omega
        have hgz := (hD.1.block (w.heap.size + 1) hbw).trans HG3.out
        obtain ⟨wf, hwf⟩ : ∃ wf, wf = ((wo.setCell ⟨w.heap.size + 1, 0, none⟩ (.slice pf b cf)).setCell ⟨w.heap.size + 1, 1, none⟩ (.slice (some ⟨gd, 0, none⟩) b b)).setCell ⟨w.heap.size + 1, 2, none⟩ (.slice (some ⟨gu, 0, none⟩) b b) := ⟨_, rfl⟩
        have hkf : wf.heap[w.heap.size + 1]? = some (.cells #[.slice pf b cf, .slice (some ⟨gd, 0, none⟩) b b, .slice (some ⟨gu, 0, none⟩) b b] 81 (0, 0)) := by rw [hwf]; exact set3all hgz _ _ _
        have hgr : wo.grownBy wf (some (w.heap.size + 1)) := by rw [hwf]; exact ((grown_at _ (w.heap.size + 1) 0 _).trans (grown_at _ (w.heap.size + 1) 1 _)).trans (grown_at _ (w.heap.size + 1) 2 _)
        obtain ⟨r0, r1, r2, -⟩ := three_of hkf
        obtain ⟨z0, z1, z2, y0, y1, y2⟩ := three_of hgz
        have hbo : Below w.heap.size w wo := HB3.out.trans (hD.1.mono (by omega))
        have HBF : Hid (Below w.heap.size w wf) := by unfold Hid; rw [hwf]; exact ((hbo.setCell (Nat.le_succ _) _).setCell (Nat.le_succ _) _).setCell (Nat.le_succ _) _
        have HRR : Hid (DiaR B wf (.slice pf b cf) (.slice (some ⟨gd, 0, none⟩) b b) (.slice (some ⟨gu, 0, none⟩) b b) F) := by
          obtain ⟨h1, h2, hd, hu, h3⟩ := hD
          have keep : ∀ {v : Value} {T : List (List Int)} {hs : List Value}, HasH (hb + 1) wo v T hs → ListsIn B wf v T := fun {v T hs} hh => by
            have h4 : HasH (hb + 1) wf v T hs := hh.far hgr fun k e => by
              obtain rfl := Option.some.inj e
              exact ⟨fun e2 => by have := (hh.1.lt _ e2).1; omega, fun i hi e2 => by have := ((hh.2.2.1 i hi).lt _ e2).1; omega⟩
            exact (HasO.rows ⟨hs, h4⟩).lists
          refine ⟨?_, ?_, ?_⟩
          · exact (faces_kept hgr (HRF.out.below h1 (by rw [HHB.out]; exact Nat.le_refl _)) hgz (by omega) (by have := HBB.out; omega)).lists
          · have := keep h3.d
            rw [show dnT F b 0 = dnF F by unfold dnF; rw [HN.out]] at this
            exact this
          · have := keep h3.u
            rw [show upT F b 0 = upF F by unfold upF; rw [HN.out]] at this
            exact this
        have HWF := Lib.hid hwf
        have R0 := Lib.hid r0
        have R1 := Lib.hid r1
        have R2 := Lib.hid r2
        clear hD hgz hwf hkf r0 r1 r2 hbo hgr
        go_wp2_with fail
        rw [← HWF.out]
        refine bodyPost_ret (v := .tuple #[.agg #[.slice pf b cf, .slice (some ⟨gd, 0, none⟩) b b, .slice (some ⟨gu, 0, none⟩) b b], .nilIface]) (by simp [results, Tryz.results41, go_sem, R0.out, R1.out, R2.out]) rfl ?_
        refine ⟨HBF.out, Or.inl ⟨HE.out, _, _, _, rfl, ?_⟩⟩
        rw [HTE.out]
        exact HRR.out
end Go.Proofs.YtoheffkiohfmoaaGreatDoor
