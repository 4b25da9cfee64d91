/-
  The sentinels of package api that complexes give, laid. Condition: 'Sents': the variables of ErrBound, ErrShape, ErrFace hold their addresses (other numbers stand for the first).
  Nothing of its own: what later texts import.
  plain.Code of any error that a law meets; 'coded'. Conditions: 'Sents'; 'ErrAt' says what the error is.
-/
import Derived.Test.YtipblphfjejpbaaGreatDoorProg
import Derived.WalkKit
import Derived.LaidEql
import Derived.RowKitTokens
import Derived.Outline

namespace Go.Proofs.YtipblphfjejpbaaGreatDoor
open Go.RowKit Go

/-- the sentinels' variables, by their number in plain.Code's order, as far as they are laid -/
def gnum : Nat → Nat
  | 0 => 0
  | 1 => 0
  | 2 => 3
  | 3 => 1
  | _ => 0

/-- an error value of errors.New's make -/
def errE (a : Addr) : Value := .iface 225 (.pointer (some a))
/-- an error value that is an *api.Fault -/
def errF (a : Addr) : Value := .iface 118 (.pointer (some a))

structure Sents (w : World) (a : Nat → Addr) : Prop where
  g : ∀ j, j < 8 → w.cell? ⟨gnum j, 0, none⟩ = some (.iface 225 (.pointer (some (a j))))

theorem lt_of_cell {w : World} {p : Addr} {v : Value} (h : w.cell? p = some v) : p.block < w.heap.size := by
  rcases Nat.lt_or_ge p.block w.heap.size with h' | h'
  · exact h'
  · simp [World.cell?, Array.getElem?_eq_none h'] at h
theorem lt_of_blk {w : World} {b : Nat} {o : Obj} (h : w.heap[b]? = some o) : b < w.heap.size :=
  (Array.getElem?_eq_some_iff.1 h).1

theorem Sents.below {w w' : World} {a : Nat → Addr} {B : Nat} (h : Sents w a) (hb : Below B w w') (hB : w.heap.size ≤ B) : Sents w' a where
  g j hj := by rw [hb.cell (Nat.lt_of_lt_of_le (lt_of_cell (h.g j hj)) hB)]; exact h.g j hj



/-- the error 'v' has code 'c' and place 'n' -/
def ErrAt (a : Nat → Addr) (w : World) (v : Value) (c n : Int) : Prop :=
  (v = .nilIface ∧ c = 0 ∧ n = -1) ∨
  (∃ k : Nat, k < 8 ∧ v = .iface 225 (.pointer (some (a k))) ∧ c = (k : Int) + 1 ∧ n = -1) ∨
  (∃ k pb po : Nat, k < 8 ∧ v = .iface 118 (.pointer (some ⟨pb, po, none⟩)) ∧ c = (k : Int) + 1 ∧ w.cell? ⟨pb, po, none⟩ = some (.int .i64 n) ∧ w.cell? ⟨pb, po + 1, none⟩ = some (.iface 225 (.pointer (some (a k)))))

theorem ErrAt.nil (a : Nat → Addr) (w : World) : ErrAt a w .nilIface 0 (-1) := Or.inl ⟨rfl, rfl, rfl⟩
theorem ErrAt.sent (a : Nat → Addr) (w : World) (k : Nat) (hk : k < 8) : ErrAt a w (.iface 225 (.pointer (some (a k)))) ((k : Int) + 1) (-1) := Or.inr (Or.inl ⟨k, hk, rfl, rfl, rfl⟩)

theorem ErrAt.below {a : Nat → Addr} {w w' : World} {v : Value} {c n : Int} {B : Nat} (h : ErrAt a w v c n) (hb : Below B w w') (hB : w.heap.size ≤ B) : ErrAt a w' v c n := by
  rcases h with h | h | ⟨k, pb, po, hk, hv, hc, h0, h1⟩
  · exact Or.inl h
  · exact Or.inr (Or.inl h)
  · exact Or.inr (Or.inr ⟨k, pb, po, hk, hv, hc, by rw [hb.cell (Nat.lt_of_lt_of_le (lt_of_cell h0) hB)]; exact h0, by rw [hb.cell (Nat.lt_of_lt_of_le (lt_of_cell h1) hB)]; exact h1⟩)

/-- an error is nil just if its code is 0 -/
theorem ErrAt.zero {a : Nat → Addr} {w : World} {v : Value} {c n : Int} (h : ErrAt a w v c n) (hc : c = 0) : v = .nilIface := by
  rcases h with h | ⟨k, _, _, h, _⟩ | ⟨k, pb, po, _, _, h, _⟩
  · exact h.1
  · omega
  · omega
theorem ErrAt.some_iface {a : Nat → Addr} {w : World} {v : Value} {c n : Int} (h : ErrAt a w v c n) (hc : c ≠ 0) : ∃ t p, v = .iface t p := by
  rcases h with h | ⟨k, _, h, _⟩ | ⟨k, pb, po, _, h, _⟩
  · exact absurd h.2.1 hc
  · exact ⟨_, _, h⟩
  · exact ⟨_, _, h⟩
theorem ErrAt.range {a : Nat → Addr} {w : World} {v : Value} {c n : Int} (h : ErrAt a w v c n) : 0 ≤ c ∧ c ≤ 8 := by
  rcases h with h | ⟨k, _, _, h, _⟩ | ⟨k, pb, po, _, _, h, _⟩ <;> omega
end Go.Proofs.YtipblphfjejpbaaGreatDoor
