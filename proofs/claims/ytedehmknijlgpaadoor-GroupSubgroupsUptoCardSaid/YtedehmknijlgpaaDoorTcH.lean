/-
  TODD and COXETER: the told table is numbered as it must be; of all generators there is one coset.
-/
import Derived.Test.YtedehmknijlgpaaDoorTcG
set_option linter.unusedVariables false
namespace Go.Proofs.YtedehmknijlgpaaDoor.TC

/-- the document's Standard: what comes next, behind so many columns of a row; none: it is not standard -/
def stdC (row : List Int) : Nat → Nat → Option Nat
  | 0, nx => some nx
  | k + 1, nx => match stdC row k nx with
    | none => none
    | some n => if (n : Int) < row.getD k (-1) then none else some (if row.getD k (-1) = (n : Int) then n + 1 else n)
def stdN (T : List (List Int)) : Nat → Option Nat
  | 0 => some 1
  | i + 1 => match stdN T i with
    | none => none
    | some nx => if nx ≤ i then none else stdC (T.getD i []) (T.getD i []).length nx
def stdB (T : List (List Int)) : Bool := stdN T T.length == some T.length
theorem ordO_run {m : St} {W n : Nat} (hn : (ordO m W n).length = n) {i : Nat} (hi : i < n) : i < (ordO m W i).length := by
  rcases Nat.lt_or_ge i (ordO m W i).length with h1 | h1
  · exact h1
  · have stop : ∀ j, i ≤ j → ordO m W j = ordO m W i := fun j hj => by
      induction j with
      | zero => obtain rfl : i = 0 := by omega
                rfl
      | succ j ih =>
        rcases Nat.eq_or_lt_of_le hj with rfl | hlt
        · rfl
        · have e := ih (by omega)
          rw [ordO, e, if_neg (by omega)]
    have := stop n (by omega)
    rw [this] at hn
    omega
theorem rowT_at (m : St) (W i : Nat) {k : Nat} (hk : k < W) : (rowT m W i).getD k (-1) = (((ordO m W (i + 1)).idxOf (toM m ((ordO m W i).getD i 0) k) : Nat) : Int) := by
  unfold rowT
  rw [List.getD_eq_getElem?_getD, List.getElem?_map, List.getElem?_range hk]; rfl
theorem stdC_row {m : St} {W i : Nat} (hi : i < (ordO m W i).length) : ∀ k, k ≤ W → stdC (rowT m W i) k (ordO m W i).length = some (rowO m (ordO m W i) ((ordO m W i).getD i 0) k).length
  | 0, _ => rfl
  | k + 1, hk => by
    rw [stdC, stdC_row hi k (by omega)]
    have e1 : ordO m W (i + 1) = rowO m (ordO m W i) ((ordO m W i).getD i 0) W := by rw [ordO, if_pos hi]
    have hp : rowO m (ordO m W i) ((ordO m W i).getD i 0) (k + 1) <+: ordO m W (i + 1) := by rw [e1]; exact rowO_pre m _ _ hk
    have hm : toM m ((ordO m W i).getD i 0) k ∈ rowO m (ordO m W i) ((ordO m W i).getD i 0) (k + 1) := mem_rowO.2 (Or.inr ⟨k, by omega, rfl⟩)
    have e2 : (rowT m W i).getD k (-1) = (((rowO m (ordO m W i) ((ordO m W i).getD i 0) (k + 1)).idxOf (toM m ((ordO m W i).getD i 0) k) : Nat) : Int) := by
      rw [rowT_at m W i (by omega), pre_idx hp hm]
    simp only [e2]
    have e3 : rowO m (ordO m W i) ((ordO m W i).getD i 0) (k + 1) = addO (rowO m (ordO m W i) ((ordO m W i).getD i 0) k) (toM m ((ordO m W i).getD i 0) k) := rfl
    rw [e3]
    generalize rowO m (ordO m W i) ((ordO m W i).getD i 0) k = O
    generalize toM m ((ordO m W i).getD i 0) k = y
    unfold addO
    by_cases hy : y ∈ O
    · rw [if_pos hy]
      have := List.idxOf_lt_length_of_mem hy
      rw [if_neg (by omega), if_neg (by omega)]
    · rw [if_neg hy]
      have e4 : (O ++ [y]).idxOf y = O.length := by
        rw [List.idxOf_append, if_neg hy]; simp
      rw [e4, if_neg (by omega), if_pos rfl, List.length_append]; rfl
theorem stdN_tab {m : St} {W n : Nat} (hn : (ordO m W n).length = n) : ∀ i, i ≤ n → stdN (tabT m W n) i = some (ordO m W i).length
  | 0, _ => rfl
  | i + 1, hi => by
    rw [stdN, stdN_tab hn i (by omega)]
    have h1 := ordO_run hn (show i < n by omega)
    rw [tabT_at m W (show i < n by omega), rowT_len]
    simp only
    rw [if_neg (by omega), stdC_row h1 W (Nat.le_refl _), ordO, if_pos h1]
theorem stdB_tab {m : St} {W n : Nat} (hn : (ordO m W n).length = n) : stdB (tabT m W n) = true := by
  unfold stdB
  rw [tabT_len, stdN_tab hn n (Nat.le_refl _), hn]
  simp

theorem Path.stop {R : Rows} {S : List Nat} {x y : Nat} (h : Path R S x [] y) : x = y := by
  cases h with
  | nil => rfl
theorem Path.head {R : Rows} {S : List Nat} {x y k : Nat} {w : List Nat} (h : Path R S x (k :: w) y) : ∃ u : Nat, ent R x k = (u : Int) ∧ Path R S (rep S u) w y := by
  cases h with
  | cons e hp => exact ⟨_, e, hp⟩
/-- where each letter leads from the first row back, there is no other row -/
theorem one_coset {m : St} {W : Nat} (h : MOk W m) (hW2 : W % 2 = 0) (hl : ∀ k, k < W → k % 2 = 0 → Loop m 0 [k]) (n : Nat) : ordO m W n = [0] := by
  have r0 : rep m.S 0 = 0 := by have := rep_le h.good.wf 0; omega
  have even : ∀ k, k < W → k % 2 = 0 → ∃ u : Nat, ent m.R 0 k = (u : Int) ∧ rep m.S u = 0 := fun k hk hk2 => by
    have := hl k hk hk2
    unfold Loop at this
    rw [r0] at this
    obtain ⟨u, e, hp⟩ := this.head
    exact ⟨u, e, hp.stop⟩
  have ho : ∀ k, k < W → toM m 0 k = 0 := fun k hk => by
    unfold toM
    rcases Nat.mod_two_eq_zero_or_one k with e | e
    · obtain ⟨u, h1, h2⟩ := even k hk e
      rw [h1, Int.toNat_natCast, h2]
    · obtain ⟨j, rfl⟩ : ∃ j, k = 2 * j + 1 := ⟨k / 2, by omega⟩
      obtain ⟨u, h1, h2⟩ := even (2 * j) (by omega) (by omega)
      obtain ⟨z, h3, h4⟩ := h.good.back _ _ _ h1
      have e3 : opp (2 * j) = 2 * j + 1 := by
        have := opp_lt (W := 2 * j + 2) (by omega) (k := 2 * j) (by omega)
        have h5 := opp_ne (2 * j)
        have h6 : opp (2 * j) / 2 = j := by
          unfold opp
          apply Nat.eq_of_testBit_eq
          intro i
          rw [← Nat.testBit_succ, Nat.testBit_xor, Nat.testBit_succ]
          simp [Nat.testBit_succ]
        omega
      rw [h2, e3] at h3
      rw [h3, Int.toNat_natCast, h4, r0]
  have row : ∀ k, k ≤ W → rowO m [0] 0 k = [0] := fun k => by
    induction k with
    | zero => intro _; rfl
    | succ k ih =>
      intro hk
      rw [rowO, ih (by omega), ho k (by omega)]
      unfold addO
      rw [if_pos (by simp)]
  induction n with
  | zero => rfl
  | succ n ih =>
    rw [ordO, ih]
    split
    · next h1 =>
      have : n = 0 := by simpa using h1
      subst this
      exact row W (Nat.le_refl _)
    · rfl
end Go.Proofs.YtedehmknijlgpaaDoor.TC
