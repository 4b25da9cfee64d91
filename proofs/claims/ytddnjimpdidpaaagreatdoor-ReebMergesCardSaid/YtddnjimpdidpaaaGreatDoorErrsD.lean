/-
  plain.Code of any error that a law meets; 'coded'. Conditions: 'Sents'; 'ErrAt' says what the error is.
-/
import Derived.Test.YtddnjimpdidpaaaGreatDoorErrsC
namespace Go.Proofs.YtddnjimpdidpaaaGreatDoor
open Go Go.RowKit

/-- the error 'v' has code 'c' and place 'n' -/
def ErrAt (a : Nat → Addr) (w : World) (v : Value) (c n : Int) : Prop :=
  (v = .nilIface ∧ c = 0 ∧ n = -1) ∨
  (∃ k : Nat, k < 8 ∧ v = .iface 237 (.pointer (some (a k))) ∧ c = (k : Int) + 1 ∧ n = -1) ∨
  (∃ k pb po : Nat, k < 8 ∧ v = .iface 104 (.pointer (some ⟨pb, po, none⟩)) ∧ c = (k : Int) + 1 ∧ w.cell? ⟨pb, po, none⟩ = some (.int .i64 n) ∧ w.cell? ⟨pb, po + 1, none⟩ = some (.iface 237 (.pointer (some (a k)))))

theorem ErrAt.nil (a : Nat → Addr) (w : World) : ErrAt a w .nilIface 0 (-1) := Or.inl ⟨rfl, rfl, rfl⟩
theorem ErrAt.sent (a : Nat → Addr) (w : World) (k : Nat) (hk : k < 8) : ErrAt a w (.iface 237 (.pointer (some (a k)))) ((k : Int) + 1) (-1) := Or.inr (Or.inl ⟨k, hk, rfl, rfl, rfl⟩)

theorem ErrAt.below {a : Nat → Addr} {w w' : World} {v : Value} {c n : Int} {B : Nat} (h : ErrAt a w v c n) (hb : Below B w w') (hB : w.heap.size ≤ B) : ErrAt a w' v c n := by
  rcases h with h | h | ⟨k, pb, po, hk, hv, hc, h0, h1⟩
  · exact Or.inl h
  · exact Or.inr (Or.inl h)
  · exact Or.inr (Or.inr ⟨k, pb, po, hk, hv, hc, by rw [hb.cell (Nat.lt_of_lt_of_le (lt_of_cell h0) hB)]; exact h0, by rw [hb.cell (Nat.lt_of_lt_of_le (lt_of_cell h1) hB)]; exact h1⟩)

/-- an error is nil just if its code is 0 -/
theorem ErrAt.zero {a : Nat → Addr} {w : World} {v : Value} {c n : Int} (h : ErrAt a w v c n) (hc : c = 0) : v = .nilIface := by
  rcases h with h | ⟨k, _, _, h, _⟩ | ⟨k, pb, po, _, _, h, _⟩
  · exact h.1
  · omega
  · omega
theorem ErrAt.some_iface {a : Nat → Addr} {w : World} {v : Value} {c n : Int} (h : ErrAt a w v c n) (hc : c ≠ 0) : ∃ t p, v = .iface t p := by
  rcases h with h | ⟨k, _, h, _⟩ | ⟨k, pb, po, _, h, _⟩
  · exact absurd h.2.1 hc
  · exact ⟨_, _, h⟩
  · exact ⟨_, _, h⟩
theorem ErrAt.range {a : Nat → Addr} {w : World} {v : Value} {c n : Int} (h : ErrAt a w v c n) : 0 ≤ c ∧ c ≤ 8 := by
  rcases h with h | ⟨k, _, _, h, _⟩ | ⟨k, pb, po, _, _, h, _⟩ <;> omega

theorem code_any (a : Nat → Addr) (v : Value) (c n : Int) (w : World) (hS : Sents w a) (h : ErrAt a w v c n) :
    Calls Tryz.prog 37 #[v] w fun e w' => e = .returned (.tuple #[.int .i64 c, .int .i64 n]) ∧ Below w.heap.size w w' := by
  rcases h with ⟨rfl, rfl, rfl⟩ | ⟨k, hk, rfl, rfl, rfl⟩ | ⟨k, pb, po, hk, rfl, rfl, h0, h1⟩
  · exact (code_nil w).mono fun e w' ⟨h, hw⟩ => ⟨h, hw ▸ Below.refl _ _⟩
  · exact code_sent a k hk w hS
  · exact code_fault a k hk pb po n w hS h0 h1

theorem coded_yes (a : Nat → Addr) (v : Value) (c n x : Int) (w : World) (hS : Sents w a) (h : ErrAt a w v c n) (hx : c = x ∧ n = -1) :
    Calls Tryz.prog 13 #[v, .int .i64 x] w fun e w' => e = .returned (.bool true) ∧ Below w.heap.size w w' := by
  obtain ⟨rfl, rfl⟩ := hx
  go_enter Tryz.func13, Tryz.ntmps13
  go_wp2_with (go_at_call 37; refine (code_any a _ _ _ _ hS h).mono ?_; rintro e w' ⟨rfl, hb⟩)
  go_ret
  exact ⟨rfl, hb⟩

theorem coded_no (a : Nat → Addr) (v : Value) (c n x : Int) (w : World) (hS : Sents w a) (h : ErrAt a w v c n) (hx : ¬ (c = x ∧ n = -1)) :
    Calls Tryz.prog 13 #[v, .int .i64 x] w fun e w' => e = .returned (.bool false) ∧ Below w.heap.size w w' := by
  by_cases h1 : c = x
  · subst h1
    have h2 : (n == -1) = false := beq_eq_false_iff_ne.2 (fun e => hx ⟨rfl, e⟩)
    clear hx
    go_enter Tryz.func13, Tryz.ntmps13
    go_wp2_with (go_at_call 37; refine (code_any a _ _ _ _ hS h).mono ?_; rintro e w' ⟨rfl, hb⟩)
    go_ret
    exact ⟨rfl, hb⟩
  · have h2 : (c == x) = false := beq_eq_false_iff_ne.2 h1
    clear hx
    go_enter Tryz.func13, Tryz.ntmps13
    go_wp2_with (go_at_call 37; refine (code_any a _ _ _ _ hS h).mono ?_; rintro e w' ⟨rfl, hb⟩)
    go_ret
    exact ⟨rfl, hb⟩

theorem coded_any (a : Nat → Addr) (v : Value) (c n x : Int) (w : World) (hS : Sents w a) (h : ErrAt a w v c n) :
    Calls Tryz.prog 13 #[v, .int .i64 x] w fun e w' => e = .returned (.bool (decide (c = x ∧ n = -1))) ∧ Below w.heap.size w w' := by
  by_cases hx : c = x ∧ n = -1
  · rw [decide_eq_true hx]; exact coded_yes a v c n x w hS h hx
  · rw [decide_eq_false hx]; exact coded_no a v c n x w hS h hx
end Go.Proofs.YtddnjimpdidpaaaGreatDoor
