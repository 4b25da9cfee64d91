/-
  WalkOf of the references, at right labels: the walk from the first door, from n down, that comes to a dead end.
-/
import Derived.Test.YtnijedeopnjklaaGreatDoorSpJ
namespace Go.Proofs.YtnijedeopnjklaaGreatDoor
open Go Go.RowKit Sper

/-- is a point on the side, an end of door i? -/
def endB (p : Nat × Nat × Nat) (i : Nat) : Bool := decide (p.2.2 = 0) && (decide (p.1 = i) || decide (p.1 = i - 1))
def endsTo (P : List (Nat × Nat × Nat)) (i m : Nat) : List Nat := (List.range m).filter fun k => endB (tri P k) i
theorem endsTo_step (P : List (Nat × Nat × Nat)) (i m : Nat) : endsTo P i (m + 1) = endsTo P i m ++ (if endB (tri P m) i = true then [m] else []) := by
  unfold endsTo
  rw [List.range_succ, List.filter_append]
  by_cases h : endB (tri P m) i = true
  · rw [if_pos h, List.filter_cons_of_pos (p := fun k => endB (tri P k) i) h]; rfl
  · rw [if_neg h, List.filter_cons_of_neg (p := fun k => endB (tri P k) i) h]; rfl
def endsChk (n : Nat) : Bool := (List.range n).all fun i => endsTo (ptsL n) (i + 1) (ptsL n).length == [rimQ n i, rimQ n (i + 1)]
theorem endsChk_all : (List.range 13).all endsChk = true := by kernel_rfl
theorem ends_is (n : Nat) (hn : n ≤ 12) (i : Nat) (hi : 1 ≤ i) (hin : i ≤ n) : endsTo (ptsL n) i (ptsL n).length = [(rimE n i).1, (rimE n i).2] := by
  have h := List.all_eq_true.1 endsChk_all n (List.mem_range.2 (by omega))
  unfold endsChk at h
  have h2 := eq_of_beq (List.all_eq_true.1 h (i - 1) (List.mem_range.2 (by omega)))
  rw [show i - 1 + 1 = i from by omega] at h2
  exact h2
theorem endsTo_len (P : List (Nat × Nat × Nat)) (i m : Nat) : (endsTo P i m).length ≤ m := by
  unfold endsTo
  have := List.length_filter_le (fun k => endB (tri P k) i) (List.range m)
  simpa using this
end Go.Proofs.YtnijedeopnjklaaGreatDoor
