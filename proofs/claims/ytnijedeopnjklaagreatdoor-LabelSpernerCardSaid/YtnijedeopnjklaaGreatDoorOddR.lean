/-
  SPERNER's law, plain: the side's labels; a walk comes to a dead end; an odd number of full ones; two that follow each other share a side.
-/
import Derived.Test.YtnijedeopnjklaaGreatDoorOddQ
namespace Go.Proofs.YtnijedeopnjklaaGreatDoor
open Go Go.RowKit Sper

def rimChk (n : Nat) : Bool := (List.range (n + 1)).all (fun i => Nat.blt (rimQ n i) (ptsL n).length && k0 (ptsL n) (rimQ n i)) && i0 (ptsL n) (rimQ n 0) && j0 (ptsL n) (rimQ n n) && decide (rim n).Nodup
theorem rimChk_all : (List.range 13).all rimChk = true := by kernel_rfl
theorem rim_facts (n : Nat) (hn : n ≤ 12) : (∀ i, i ≤ n → rimQ n i < (ptsL n).length ∧ k0 (ptsL n) (rimQ n i) = true) ∧ i0 (ptsL n) (rimQ n 0) = true ∧ j0 (ptsL n) (rimQ n n) = true ∧ (rim n).Nodup := by
  have h := List.all_eq_true.1 rimChk_all n (List.mem_range.2 (by omega))
  unfold rimChk at h
  simp only [Bool.and_eq_true, decide_eq_true_eq] at h
  obtain ⟨⟨⟨h1, h2⟩, h3⟩, h4⟩ := h
  refine ⟨fun i hi => ?_, h2, h3, h4⟩
  have := List.all_eq_true.1 h1 i (List.mem_range.2 (by omega))
  simp only [Bool.and_eq_true, Nat.blt_eq] at this
  exact this

theorem rim_labels {n : Nat} (hn : n ≤ 12) {lab : Nat → Int} (hl : Labels (ptsL n) lab) : ((rim n).filter (isDoor lab)).length % 2 = 1 := by
  obtain ⟨h1, h2, h3, -⟩ := rim_facts n hn
  have hr : ∀ i, i ≤ n → lab (rimQ n i) = 0 ∨ lab (rimQ n i) = 1 := fun i hi => by
    obtain ⟨a, b⟩ := h1 i hi
    rcases hl.rng _ a with h | h | h
    · exact Or.inl h
    · exact Or.inr h
    · have := hl.two _ a h; rw [b] at this; cases this
  have e0 : lab (rimQ n 0) = 1 := by
    rcases hr 0 (Nat.zero_le _) with h | h
    · have := hl.zero _ (h1 0 (Nat.zero_le _)).1 h; rw [h2] at this; cases this
    · exact h
  have en : lab (rimQ n n) = 0 := by
    rcases hr n (Nat.le_refl _) with h | h
    · exact h
    · have := hl.one _ (h1 n (Nat.le_refl _)).1 h; rw [h3] at this; cases this
  have := rim_odd (rimQ n) e0 n hr
  rw [if_pos en] at this
  exact this

theorem good_some {n : Nat} (hn1 : 1 ≤ n) (hn : n ≤ 12) {lab : Nat → Int} (hl : Labels (ptsL n) lab) : ∃ i, 1 ≤ i ∧ i ≤ n ∧ Good (smallL n) (ptsL n) (rim n) lab (chk_all n hn1 hn) (rimE n i) := by
  obtain ⟨e, he, hd, T, E, K, hW, h0, h1⟩ := dead_end' (chk_all n hn1 hn) hl (rim_facts n hn).2.2.2 (rim_labels hn hl) (rim_in n hn1 hn)
  unfold rim at he
  obtain ⟨i, hi, rfl⟩ := List.mem_map.1 he
  have := List.mem_range.1 hi
  exact ⟨i + 1, by omega, by omega, T, E, K, hW, h0, h1⟩

theorem full_len (L : List (Nat × Nat × Nat)) (xs : List Int) : (fullTo L xs L.length).length = (L.filter (isFull (labF xs))).length := by
  unfold fullTo
  rw [List.length_map]
  have h : L.filter (isFull (labF xs)) = ((List.range L.length).map (tri L)).filter (isFull (labF xs)) := by rw [range_map_tri]
  rw [h, List.filter_map, List.length_map]
  rfl
theorem full_len_odd {n : Nat} (hn1 : 1 ≤ n) (hn : n ≤ 12) {xs : List Int} (hl : Labels (ptsL n) (labF xs)) : (fullTo (smallL n) xs (smallL n).length).length % 2 = 1 := by
  rw [full_len]
  exact full_odd (chk_all n hn1 hn) hl (rim_facts n hn).2.2.2 (rim_labels hn hl)
theorem full_has (L : List (Nat × Nat × Nat)) (xs : List Int) {t : Nat} (ht : t < L.length) (hf : isFull (labF xs) (tri L t) = true) : (fullTo L xs L.length).contains (t : Int) = true := by
  unfold fullTo
  rw [List.contains_iff_mem]
  exact List.mem_map.2 ⟨t, List.mem_filter.2 ⟨List.mem_range.2 ht, hf⟩, rfl⟩

theorem small_sorted (n : Nat) (h1 : 1 ≤ n) (h2 : n ≤ 12) : (smallL n).Pairwise fun x y => lt3 x y = true := by
  rcases (show n = 1 ∨ n = 2 ∨ n = 3 ∨ n = 4 ∨ n = 5 ∨ n = 6 ∨ n = 7 ∨ n = 8 ∨ n = 9 ∨ n = 10 ∨ n = 11 ∨ n = 12 by omega) with rfl | rfl | rfl | rfl | rfl | rfl | rfl | rfl | rfl | rfl | rfl | rfl
  · rw [small_is_1]; exact sortedB_pairwise _ (by kernel_rfl)
  · rw [small_is_2]; exact sortedB_pairwise _ (by kernel_rfl)
  · rw [small_is_3]; exact sortedB_pairwise _ (by kernel_rfl)
  · rw [small_is_4]; exact sortedB_pairwise _ (by kernel_rfl)
  · rw [small_is_5]; exact sortedB_pairwise _ (by kernel_rfl)
  · rw [small_is_6]; exact sortedB_pairwise _ (by kernel_rfl)
  · rw [small_is_7]; exact sortedB_pairwise _ (by kernel_rfl)
  · rw [small_is_8]; exact sortedB_pairwise _ (by kernel_rfl)
  · rw [small_is_9]; exact sortedB_pairwise _ (by kernel_rfl)
  · rw [small_is_10]; exact sortedB_pairwise _ (by kernel_rfl)
  · rw [small_is_11]; exact sortedB_pairwise _ (by kernel_rfl)
  · rw [small_is_12]; exact sortedB_pairwise _ (by kernel_rfl)
theorem tri_ne {L : List (Nat × Nat × Nat)} (h : L.Pairwise fun x y => lt3 x y = true) {i j : Nat} (hi : i < L.length) (hj : j < L.length) (hne : i ≠ j) : tri L i ≠ tri L j := by
  have key : ∀ i j, i < j → j < L.length → tri L i ≠ tri L j := fun i j hij hj he => by
    have h1 := List.pairwise_iff_getElem.1 h i j (by omega) hj hij
    have e1 : tri L i = L[i]'(by omega) := by unfold tri; rw [List.getD_eq_getElem?_getD, List.getElem?_eq_getElem (by omega)]; rfl
    have e2 : tri L j = L[j] := by unfold tri; rw [List.getD_eq_getElem?_getD, List.getElem?_eq_getElem hj]; rfl
    rw [← e1, ← e2, he] at h1
    unfold lt3 at h1
    simp at h1
  rcases Nat.lt_or_ge i j with h1 | h1
  · exact key i j h1 hj
  · exact fun e => key j i (by omega) hi e.symm

theorem minus_one {t t' : Nat × Nat × Nat} (o1 : t.1 < t.2.1) (o2 : t.2.1 < t.2.2) (o3 : t'.1 < t'.2.1) (o4 : t'.2.1 < t'.2.2) {e : Nat × Nat} (he : e ∈ sides t) (he' : e ∈ sides t') (hne : t ≠ t') : (minusL (tripL t) (tripL t')).length = 1 := by
  obtain ⟨x, y, z⟩ := t
  obtain ⟨x', y', z'⟩ := t'
  obtain ⟨p, q⟩ := e
  simp only at o1 o2 o3 o4
  have hne' : ¬ (x = x' ∧ y = y' ∧ z = z') := fun ⟨a, b, c⟩ => hne (by rw [a, b, c])
  have hin : ∀ k : Nat, (tripL (x', y', z')).contains (k : Int) = (decide (k = x') || decide (k = y') || decide (k = z')) := fun k => by
    rw [Bool.eq_iff_iff, List.contains_iff_mem]
    simp only [tripL, List.mem_cons, List.not_mem_nil, or_false, Bool.or_eq_true, decide_eq_true_eq]
    omega
  simp only [sides, List.mem_cons, Prod.mk.injEq, List.not_mem_nil, or_false] at he he'
  unfold minusL
  rw [show tripL (x, y, z) = [(x : Int), (y : Int), (z : Int)] from rfl]
  have c : ∀ k : Nat, (!(tripL (x', y', z')).contains (k : Int)) = true ↔ ¬ (k = x' ∨ k = y' ∨ k = z') := fun k => by
    rw [hin, Bool.not_eq_true', Bool.eq_false_iff]
    simp only [ne_eq, Bool.or_eq_true, decide_eq_true_eq]
    omega
  have cx := c x
  have cy := c y
  have cz := c z
  clear hin c hne
  by_cases hx : (x = x' ∨ x = y' ∨ x = z') <;> by_cases hy : (y = x' ∨ y = y' ∨ y = z') <;> by_cases hz : (z = x' ∨ z = y' ∨ z = z')
  all_goals
    simp only [hx, hy, hz, not_true_eq_false, not_false_eq_true, iff_false, iff_true, Bool.not_eq_true] at cx cy cz
    first
      | (simp only [List.filter, cx, cy, cz, List.length]; done)
      | (exfalso; omega)
end Go.Proofs.YtnijedeopnjklaaGreatDoor
