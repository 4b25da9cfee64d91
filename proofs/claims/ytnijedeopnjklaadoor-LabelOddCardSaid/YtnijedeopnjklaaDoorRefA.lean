/-
  OppositeOf of the document's answer: what it hands back, in words.
-/
import Derived.Test.YtnijedeopnjklaaDoorLists
import Derived.Test.YtnijedeopnjklaaDoorOppC
namespace Go.Proofs.YtnijedeopnjklaaDoor
open Go Go.RowKit

theorem Tryd.info3 : (Tryd.prog.info? 3).map (fun i => (i.zero, i.size, i.bytes)) = some (some (.int .i64 0), 1, 8) := by kernel_rfl
theorem Tryd.info22 : (Tryd.prog.info? 22).map (fun i => (i.zero, i.size, i.bytes)) = some (some (.slice none 0 0), 1, 24) := by kernel_rfl

def joinedB (m : Nat) (k q : Nat) : Bool := sidedB ((k : Int) % (2 * m + 1 : Nat) - m) ((k : Int) / (2 * m + 1 : Nat) - m) ((q : Int) % (2 * m + 1 : Nat) - m) ((q : Int) / (2 * m + 1 : Nat) - m)
def refOne (m : Nat) (xs : List Int) (k q : Nat) : List (List Int) := if joinedB m k q = true ∧ xs.getD k 0 + xs.getD q 0 = 0 then [[(k : Int), (q : Int)]] else []
def refRow (m : Nat) (xs : List Int) (k j : Nat) : List (List Int) := (List.range j).flatMap fun i => refOne m xs k (k + 1 + i)
def refTo (m : Nat) (xs : List Int) (N k : Nat) : List (List Int) := (List.range k).flatMap fun i => refRow m xs i (N - (i + 1))
theorem refOne_length (m : Nat) (xs : List Int) (k q : Nat) : (refOne m xs k q).length ≤ 1 := by unfold refOne; split <;> simp
theorem refRow_succ (m : Nat) (xs : List Int) (k q : Nat) (h : k + 1 ≤ q) : refRow m xs k (q + 1 - (k + 1)) = refRow m xs k (q - (k + 1)) ++ refOne m xs k q := by
  rw [show q + 1 - (k + 1) = q - (k + 1) + 1 from by omega]
  simp [refRow, List.range_succ, show k + 1 + (q - (k + 1)) = q from by omega]
theorem refTo_succ (m : Nat) (xs : List Int) (N k : Nat) : refTo m xs N (k + 1) = refTo m xs N k ++ refRow m xs k (N - (k + 1)) := by simp [refTo, List.range_succ]
theorem refRow_length (m : Nat) (xs : List Int) (k : Nat) : ∀ j, (refRow m xs k j).length ≤ j
  | 0 => by simp [refRow]
  | j + 1 => by
    have h := refRow_length m xs k j
    have h1 := refOne_length m xs k (k + 1 + j)
    have e : refRow m xs k (j + 1) = refRow m xs k j ++ refOne m xs k (k + 1 + j) := by simp [refRow, List.range_succ]
    rw [e, List.length_append]; omega
theorem refTo_length (m : Nat) (xs : List Int) (N : Nat) : ∀ k, (refTo m xs N k).length ≤ k * N
  | 0 => by simp [refTo]
  | k + 1 => by
    have h := refTo_length m xs N k
    have h1 := refRow_length m xs k (N - (k + 1))
    rw [refTo_succ, List.length_append, Nat.succ_mul]; omega
theorem ref_len (m : Nat) (xs : List Int) (N k q : Nat) (hk : k ≤ N) (hq : q ≤ N) (hN : N ≤ 170) : (refTo m xs N k ++ refRow m xs k (q - (k + 1))).length ≤ 100000 := by
  have h := refTo_length m xs N k
  have h1 := refRow_length m xs k (q - (k + 1))
  have h2 : k * N ≤ 170 * 170 := Nat.mul_le_mul (by omega) hN
  rw [List.length_append]; omega

def RefSt (w wr : World) (v : Value) (L : List (List Int)) : Prop := RowsAt 22 3 wr w.heap.size v L ∧ Below w.heap.size w wr
theorem RefSt.drewN {w wr : World} {v : Value} {L : List (List Int)} (h : RefSt w wr v L) (n : Nat) : RefSt w (wr.drewN n) v L :=
  ⟨h.1, h.2.trans ⟨rfl, rfl, rfl, Nat.le_refl _, fun _ _ => rfl⟩⟩
def RefPost (m : Nat) (xs : List Int) (w : World) (e : Ending) (w' : World) : Prop :=
  ∃ v, e = .returned v ∧ Below w.heap.size w w' ∧ RowsAt 22 3 w' w.heap.size v (refTo m xs ((2 * m + 1) * (2 * m + 1)) ((2 * m + 1) * (2 * m + 1)))
end Go.Proofs.YtnijedeopnjklaaDoor
