/-
  The references' way through, plain: one step's search and the other door, in the house's words.
-/
import Derived.Test.YtnijedeopnjklaaGreatDoorSpH
import Derived.Test.YtnijedeopnjklaaGreatDoorOddR
namespace Go.Proofs.YtnijedeopnjklaaGreatDoor
open Go Go.RowKit Sper

/-- the room that step k comes to; none: the number of all rooms -/
def nextR (L : List (Nat × Nat × Nat)) (T : Nat → Nat) (K k : Nat) : Nat := if k ≤ K then T k else L.length

theorem step_find {L P : List (Nat × Nat × Nat)} {B : List (Nat × Nat)} {lab : Nat → Int} (hk : chk L P B = true) {T : Nat → Nat} {E : Nat → Nat × Nat} {K : Nat} (hW : Walk (house L P B lab hk) T E K) {k : Nat} (hkK : k ≤ K + 1)
    (hout : k = K + 1 → odD L lab (T K) (E K) = some (E (K + 1)) ∧ otD L (E (K + 1)) (T K) = none) {j : Nat} (hj : j < L.length) :
    (holds2 (E k).1 (E k).2 (tri L j) && ((j : Int) != lastI T k)) = decide (j = nextR L T K k) := by
  have hE : Ends (E k) (E k).1 (E k).2 := Or.inl ⟨rfl, rfl⟩
  unfold nextR
  rcases (show k = 0 ∨ (0 < k ∧ k ≤ K) ∨ k = K + 1 by omega) with rfl | ⟨h0, h1⟩ | rfl
  · rw [if_pos (Nat.zero_le _)]
    have hh := hW.has 0 (Nat.zero_le _)
    have hlt := (side_lt hk _ (tri_mem hh.1) (E 0) hh.2.1).2.2
    rw [holds_iff hk hlt hE hj]
    have hl : ((j : Int) != lastI T 0) = true := by simp only [lastI]; exact bne_iff_ne.2 (by omega)
    rw [hl, Bool.and_true, Bool.eq_iff_iff, decide_eq_true_eq]
    constructor
    · intro h
      apply Classical.byContradiction
      intro hne
      have := (house L P B lab hk).ot_two hh ⟨hj, List.contains_iff_mem.1 h, hh.2.2⟩ hne
      rw [hW.start] at this; cases this
    · rintro rfl
      exact List.contains_iff_mem.2 hh.2.1
  · rw [if_pos h1]
    obtain ⟨k, rfl⟩ : ∃ q, k = q + 1 := ⟨k - 1, by omega⟩
    have ha := ((house L P B lab hk).od_has (hW.door k (by omega))).2.1
    have hb := (house L P B lab hk).ot_has ha (hW.room k (by omega))
    have hlt := (side_lt hk _ (tri_mem ha.1) (E (k + 1)) ha.2.1).2.2
    rw [holds_iff hk hlt hE hj, Bool.eq_iff_iff, decide_eq_true_eq, Bool.and_eq_true]
    simp only [lastI]
    rw [bne_iff_ne]
    constructor
    · rintro ⟨h, hne⟩
      apply Classical.byContradiction
      intro hne2
      exact two_rooms hk (lab := lab) ha hb.1 ⟨hj, List.contains_iff_mem.1 h, ha.2.2⟩ (Ne.symm hb.2) (fun e => hne (by rw [e])) (fun e => hne2 e.symm)
    · rintro rfl
      exact ⟨List.contains_iff_mem.2 hb.1.2.1, fun e => hb.2 (by omega)⟩
  · rw [if_neg (by omega)]
    obtain ⟨h1, h2⟩ := hout rfl
    have ha := ((house L P B lab hk).od_has (t := T K) (e := E K) h1).2.1
    have hlt := (side_lt hk _ (tri_mem ha.1) (E (K + 1)) ha.2.1).2.2
    rw [holds_iff hk hlt hE hj, decide_eq_false (show ¬ j = L.length by omega), Bool.and_eq_false_iff]
    simp only [lastI]
    by_cases hjT : j = T K
    · right
      rw [hjT]; simp
    · left
      have := List.find?_eq_none.1 h2 j (List.mem_range.2 hj)
      simp only [Bool.and_eq_true, decide_eq_true_eq, not_and, Bool.not_eq_true] at this
      exact this hjT

/-- a door of a room other than the one entered by is the other door -/
theorem other_door {L P : List (Nat × Nat × Nat)} {B : List (Nat × Nat)} {lab : Nat → Int} (hk : chk L P B = true) {t : Nat} {e e' : Nat × Nat} (h : hasD L lab t e) (h' : e' ∈ doors lab (tri L t)) (hne : e' ≠ e) : odD L lab t e = some e' := by
  unfold doors at h'
  obtain ⟨a, b⟩ := List.mem_filter.1 h'
  exact (house L P B lab hk).od_two h ⟨h.1, a, b⟩ hne
theorem no_other {L : List (Nat × Nat × Nat)} {lab : Nat → Int} {t : Nat} {e : Nat × Nat} (h : ∀ e' ∈ doors lab (tri L t), e' = e) : odD L lab t e = none := by
  unfold odD
  split
  · rw [List.find?_eq_none]
    intro e' he'
    simp only [Bool.and_eq_true, decide_eq_true_eq, not_and]
    intro hne hd
    exact hne (h e' (List.mem_filter.2 ⟨he', hd⟩))
  · rfl
end Go.Proofs.YtnijedeopnjklaaGreatDoor
