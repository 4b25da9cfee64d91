/-
  The walker's way through, plain: one step's search and one step's sides, in the house's words; the boxes behind two stores.
-/
import Derived.Test.YtnijedeopnjklaaGreatDoorOddI
import Derived.OneCell
namespace Go.Proofs.YtnijedeopnjklaaGreatDoor
open Go Go.RowKit Sper

def sdN (t : Nat × Nat × Nat) : Nat → Nat × Nat
  | 0 => (t.1, t.2.1)
  | 1 => (t.1, t.2.2)
  | _ => (t.2.1, t.2.2)
/-- of the first j sides none is another door -/
def NoneYet (lab : Nat → Int) (t : Nat × Nat × Nat) (e : Nat × Nat) (j : Nat) : Prop := ∀ i, i < j → ¬ (sdN t i ≠ e ∧ isDoor lab (sdN t i) = true)

section
variable {lab : Nat → Int} {t : Nat × Nat × Nat} {e : Nat × Nat} {j : Nat}
theorem noneYet_zero (lab : Nat → Int) (t : Nat × Nat × Nat) (e : Nat × Nat) : NoneYet lab t e 0 := fun i h => absurd h (by omega)
theorem noneYet_step (h : NoneYet lab t e j) (h1 : ¬ (sdN t j ≠ e ∧ isDoor lab (sdN t j) = true)) : NoneYet lab t e (j + 1) := fun i hi => by
  rcases (show i < j ∨ i = j by omega) with h' | rfl
  · exact h i h'
  · exact h1
theorem noneYet_same (h : NoneYet lab t e j) (hs : sdN t j = e) : NoneYet lab t e (j + 1) := noneYet_step h fun x => x.1 hs
theorem noneYet_nodoor (h : NoneYet lab t e j) (hs : isDoor lab (sdN t j) = false) : NoneYet lab t e (j + 1) := noneYet_step h fun x => by rw [hs] at x; cases x.2
theorem test_of (x : Nat × Nat) : (decide (x ≠ e) && isDoor lab x) = true ↔ (x ≠ e ∧ isDoor lab x = true) := by simp
theorem test_no {x : Nat × Nat} (h : ¬ (x ≠ e ∧ isDoor lab x = true)) : (decide (x ≠ e) && isDoor lab x) = false := by
  rw [Bool.eq_false_iff]; exact fun h' => h ((test_of x).1 h')
theorem find_hit (h : NoneYet lab t e j) (hj : j < 3) (h1 : sdN t j ≠ e) (h2 : isDoor lab (sdN t j) = true) : (sides t).find? (fun e' => decide (e' ≠ e) && isDoor lab e') = some (sdN t j) := by
  have hy := (test_of (e := e) (lab := lab) (sdN t j)).2 ⟨h1, h2⟩
  obtain ⟨x, y, z⟩ := t
  rcases (show j = 0 ∨ j = 1 ∨ j = 2 by omega) with rfl | rfl | rfl
  · simp only [sides, sdN] at hy ⊢
    simp only [List.find?, hy]
  · have n0 := test_no (h 0 (by omega))
    simp only [sides, sdN] at hy n0 ⊢
    simp only [List.find?, n0, hy]
  · have n0 := test_no (h 0 (by omega))
    have n1 := test_no (h 1 (by omega))
    simp only [sides, sdN] at hy n0 n1 ⊢
    simp only [List.find?, n0, n1, hy]
theorem find_miss (h : NoneYet lab t e 3) : (sides t).find? (fun e' => decide (e' ≠ e) && isDoor lab e') = none := by
  have n0 := test_no (h 0 (by omega))
  have n1 := test_no (h 1 (by omega))
  have n2 := test_no (h 2 (by omega))
  obtain ⟨x, y, z⟩ := t
  simp only [sides, sdN] at n0 n1 n2 ⊢
  simp only [List.find?, n0, n1, n2]
theorem sdN_mem (j : Nat) : sdN t j ∈ sides t := by
  match j with
  | 0 => simp [sdN, sides]
  | 1 => simp [sdN, sides]
  | n + 2 => simp [sdN, sides]
end
theorem odD_hit {L : List (Nat × Nat × Nat)} {lab : Nat → Int} {r : Nat} {e : Nat × Nat} {j : Nat} (hh : hasD L lab r e) (h : NoneYet lab (tri L r) e j) (hj : j < 3) (h1 : sdN (tri L r) j ≠ e) (h2 : isDoor lab (sdN (tri L r) j) = true) : odD L lab r e = some (sdN (tri L r) j) := by
  unfold odD; rw [if_pos hh]; exact find_hit h hj h1 h2
theorem odD_miss {L : List (Nat × Nat × Nat)} {lab : Nat → Int} {r : Nat} {e : Nat × Nat} (h : NoneYet lab (tri L r) e 3) : odD L lab r e = none := by
  unfold odD
  split
  · exact find_miss h
  · rfl

theorem step_search {L P : List (Nat × Nat × Nat)} {B : List (Nat × Nat)} {lab : Nat → Int} (hk : chk L P B = true) {T : Nat → Nat} {E : Nat → Nat × Nat} {K : Nat} (hW : Walk (house L P B lab hk) T E K) {k : Nat} (hkK : k ≤ K) {a b : Nat} (hab : Ends (E k) a b) :
    (firstFrom L 0 a b = (T k : Int) ∧ ((T k : Int) == lastI T k) = false) ∨ ∃ n1 d : Nat, T k = n1 + 1 + d ∧ lastI T k = (n1 : Int) ∧ firstFrom L 0 a b = (n1 : Int) ∧ firstFrom L (n1 + 1) a b = (d : Int) := by
  cases k with
  | zero =>
    refine Or.inl ⟨(search_one hk (hW.has 0 (Nat.zero_le _)) hab hW.start).1, ?_⟩
    simp only [lastI]
    exact beq_eq_false_iff_ne.2 (by omega)
  | succ k =>
    have h1 := ((house L P B lab hk).od_has (hW.door k (by omega))).2.1
    have h2 := (house L P B lab hk).ot_has h1 (hW.room k (by omega))
    rcases search_two hk h1 h2.1 (Ne.symm h2.2) hab with ⟨h, hf⟩ | ⟨h, hf, hs⟩
    · refine Or.inl ⟨hf, ?_⟩
      simp only [lastI]
      exact beq_eq_false_iff_ne.2 (by omega)
    · exact Or.inr ⟨T k, T (k + 1) - (T k + 1), by omega, rfl, hf, hs⟩

theorem ThrSt.two {Z : Nat} {w wr : World} {ls al : Value} {a b c d : Nat} {v : Value} {l : List Int} (h : ThrSt Z w wr ls al a b v l) :
    ThrSt Z w ((wr.setCell ⟨Z + 1, 0, none⟩ (.int .i64 (c : Int))).setCell ⟨Z + 2, 0, none⟩ (.int .i64 (d : Int))) ls al c d v l where
  hw := by
    rw [Below.heap_setCell _ _ _ _ (by simp), Below.heap_setCell _ _ _ _ (by simp)]; exact h.hw
  ha := by
    rw [Below.heap_setCell _ _ _ _ (by simp)]; exact one_setCell h.ha
  hb := by
    refine one_setCell (v := .int .i64 (b : Int)) ?_
    rw [Below.heap_setCell _ _ _ _ (by simp)]; exact h.hb
  hv := ownsRow_setCell_other (ownsRow_setCell_other h.hv (fun e => by have := (h.hv.lt _ e).1; simp at this) _) (fun e => by have := (h.hv.lt _ e).1; simp at this) _
  hbl := (h.hbl.setCell (by simp) _).setCell (by simp) _
theorem ThrSt.start (w : World) (ls al : Value) (a b : Nat) :
    ThrSt w.heap.size w (((w.alloc (.cells #[ls, al] 60)).alloc (.cells #[.int .i64 (a : Int)] 3)).alloc (.cells #[.int .i64 (b : Int)] 3)) ls al a b (.slice none 0 0) [] where
  hw := by
    rw [Below.heap_alloc _ _ _ (by simp; omega), Below.heap_alloc _ _ _ (by simp), heap_alloc_new]
  ha := by
    have h := heap_alloc_new (w.alloc (.cells #[ls, al] 60)) (.cells #[.int .i64 (a : Int)] 3)
    rw [World.size_alloc] at h
    rw [Below.heap_alloc _ _ _ (by simp), h]
  hb := by
    have h := heap_alloc_new ((w.alloc (.cells #[ls, al] 60)).alloc (.cells #[.int .i64 (a : Int)] 3)) (.cells #[.int .i64 (b : Int)] 3)
    rw [World.size_alloc, World.size_alloc] at h
    exact h
  hv := ⟨by simp [intVs], Or.inl ⟨rfl, rfl⟩⟩
  hbl := (((Below.refl _ _).alloc (Nat.le_refl _) _).alloc (by simp) _).alloc (by simp; omega) _
theorem range_snoc (T : Nat → Nat) (k : Nat) : ((List.range k).map fun i => (T i : Int)) ++ [(T k : Int)] = (List.range (k + 1)).map fun i => (T i : Int) := by
  rw [List.range_succ, List.map_append]; rfl
theorem ThrSt.snoc {Z : Nat} {w wr : World} {ls al : Value} {a b k : Nat} {v : Value} {T : Nat → Nat} (h : ThrSt Z w wr ls al a b v (((List.range k).map fun i => (T i : Int)) ++ [(T k : Int)])) :
    ThrSt Z w wr ls al a b v ((List.range (k + 1)).map fun i => (T i : Int)) := range_snoc T k ▸ h
theorem ThrSt.done {Z : Nat} {w wr : World} {ls al : Value} {a b k : Nat} {v : Value} {T : Nat → Nat} (h : ThrSt Z w wr ls al a b v (((List.range k).map fun i => (T i : Int)) ++ [(T k : Int)])) :
    wr.ownsRow Z 3 1 v (k + 1) (intVs ((List.range (k + 1)).map fun i => (T i : Int))) := by
  have h1 := h.snoc.hv
  rw [List.length_map, List.length_range] at h1
  exact ⟨h1.1, h1.2.imp id fun ⟨g, cap, cur, a, b, c⟩ => ⟨g, cap, cur, a, by omega, c⟩⟩
theorem lenV_of {w : World} {b e s n : Nat} {v : Value} {xs : List Value} (h : w.ownsRow b e s v n xs) : lenV v = n := by
  rcases h.2 with ⟨h1, h2⟩ | ⟨g, cap, cur, h1, -⟩
  · rw [h1, h2]; rfl
  · rw [h1]; rfl
theorem ThrSt.len {Z : Nat} {w wr : World} {ls al : Value} {a b k : Nat} {v : Value} {T : Nat → Nat} (h : ThrSt Z w wr ls al a b v ((List.range k).map fun i => (T i : Int))) : lenV v = k := by
  rw [lenV_of h.hv, List.length_map, List.length_range]
theorem ThrSt.two_drew {Z : Nat} {w wr : World} {ls al : Value} {a b k : Nat} {v : Value} {T : Nat → Nat} (h : ThrSt Z w wr ls al a b v (((List.range k).map fun i => (T i : Int)) ++ [(T k : Int)])) (c d : Nat) :
    ThrSt Z w ((wr.setCell ⟨Z + 1, 0, none⟩ (.int .i64 (c : Int))).setCell ⟨Z + 1 + 1, 0, none⟩ (.int .i64 (d : Int))).drew ls al c d v ((List.range (k + 1)).map fun i => (T i : Int)) :=
  (h.two (c := c) (d := d)).snoc.below ⟨rfl, rfl, rfl, Nat.le_refl _, fun _ _ => rfl⟩
end Go.Proofs.YtnijedeopnjklaaGreatDoor
