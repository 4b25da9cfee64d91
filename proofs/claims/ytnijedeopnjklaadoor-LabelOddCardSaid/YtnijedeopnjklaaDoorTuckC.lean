/-
  The walks that 'LabelTucker' needs, two: 'SquareFault' of the reference.
-/
import Derived.Test.YtnijedeopnjklaaDoorTuckA
import Derived.Deep.DeepCutAuto
namespace Go.Proofs.YtnijedeopnjklaaDoor
open Go Go.RowKit

def isNone (v : Int) : Bool := v != 1 && v != -1 && v != 2 && v != -2
/-- column c, row r of a square of 2m+1: is a point on the rim? -/
def isRim (m c r : Nat) : Bool := c == 2 * m || r == 2 * m || c == 0 || r == 0
def badAt (m : Nat) (xs : List Int) (c r : Nat) : Bool :=
  let v := xs.getD (r * (2 * m + 1) + c) 0
  isNone v || isRim m c r && !(xs.getD ((2 * m - r) * (2 * m + 1) + (2 * m - c)) 0 == -v)

/-- none is wrong ahead of column c, row r -/
def fineTo (m : Nat) (xs : List Int) (c r : Nat) : Prop := ∀ r' c', c' < 2 * m + 1 → r' < 2 * m + 1 → r' * (2 * m + 1) + c' < r * (2 * m + 1) + c → badAt m xs c' r' = false

def SFPost (m : Nat) (xs : List Int) (w : World) (e : Ending) (w' : World) : Prop :=
  ∃ c n : Int, e = .returned (.agg #[.int .i64 c, .int .i64 n]) ∧ Below w.heap.size w w' ∧
    ((c = 0 ∧ n = -1 ∧ fineTo m xs 0 (2 * m + 1)) ∨ (c = 8 ∧ ∃ c' r' : Nat, c' < 2 * m + 1 ∧ r' < 2 * m + 1 ∧ n = (r' : Int) * (2 * m + 1) + c' ∧ fineTo m xs c' r' ∧ badAt m xs c' r' = true))

theorem fineTo_step {m : Nat} {xs : List Int} {c r : Nat} (h : fineTo m xs c r) (hb : badAt m xs c r = false) (hc : c < 2 * m + 1) : fineTo m xs (c + 1) r := by
  intro r' c' h1 h2 h3
  by_cases e : r' * (2 * m + 1) + c' < r * (2 * m + 1) + c
  · exact h r' c' h1 h2 e
  · have e' : r' * (2 * m + 1) + c' = r * (2 * m + 1) + c := by omega
    have hr : r' = r := by
      have a1 : (r' * (2 * m + 1) + c') / (2 * m + 1) = r' := by
        rw [Nat.mul_comm, Nat.mul_add_div (by omega), Nat.div_eq_of_lt h1]; rfl
      have a2 : (r * (2 * m + 1) + c) / (2 * m + 1) = r := by
        rw [Nat.mul_comm, Nat.mul_add_div (by omega), Nat.div_eq_of_lt hc]; rfl
      rw [← a1, e', a2]
    subst hr
    have hcc : c' = c := by omega
    subst hcc
    exact hb
theorem fineTo_row {m : Nat} {xs : List Int} {r : Nat} (h : fineTo m xs (2 * m + 1) r) : fineTo m xs 0 (r + 1) := by
  intro r' c' h1 h2 h3
  exact h r' c' h1 h2 (by rw [Nat.add_mul] at h3; omega)
theorem isNone_cases (v : Int) : (isNone v = true ∧ (v != 1) = true ∧ (v != -1) = true ∧ (v != 2) = true ∧ (v != -2) = true) ∨ (isNone v = false ∧ (v = 1 ∨ v = -1 ∨ v = 2 ∨ v = -2)) := by
  unfold isNone
  by_cases h1 : v = 1
  · right; subst h1; exact ⟨by decide, Or.inl rfl⟩
  by_cases h2 : v = -1
  · right; subst h2; exact ⟨by decide, Or.inr (Or.inl rfl)⟩
  by_cases h3 : v = 2
  · right; subst h3; exact ⟨by decide, Or.inr (Or.inr (Or.inl rfl))⟩
  by_cases h4 : v = -2
  · right; subst h4; exact ⟨by decide, Or.inr (Or.inr (Or.inr rfl))⟩
  left
  simp [h1, h2, h3, h4]
end Go.Proofs.YtnijedeopnjklaaDoor
