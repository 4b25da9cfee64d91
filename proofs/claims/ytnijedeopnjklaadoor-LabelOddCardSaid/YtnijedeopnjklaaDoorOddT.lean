/-
  The walk of the law LabelOdd, at every input.
-/
import Derived.Test.YtnijedeopnjklaaDoorOddS
namespace Go.Proofs.YtnijedeopnjklaaDoor
open Go Go.RowKit Sper

set_option maxRecDepth 100000 in
set_option maxHeartbeats 4000000 in
theorem odd_low (n : Int) (p : Option Addr) (len cap : Nat) (w : World) (h : n < 1) : Calls Tryd.prog 3 #[.int .i64 n, .slice p len cap] w (TruePost w) := by
  have d1 : decide (n < 1) = true := decide_eq_true h
  go_enter Tryd.func3, Tryd.ntmps3
  go_wp2_with fail
  refine (corner_any _).mono ?_
  rintro e w1 ⟨rfl, hb⟩
  go_wp2_with fail
  go_ret
  exact ⟨rfl, hb⟩

set_option maxRecDepth 100000 in
set_option maxHeartbeats 4000000 in
theorem odd_high (n : Int) (p : Option Addr) (len cap : Nat) (w : World) (h : 12 < n) : Calls Tryd.prog 3 #[.int .i64 n, .slice p len cap] w (TruePost w) := by
  have d1 : decide (n < 1) = false := decide_eq_false (by omega)
  have d2 : decide (12 < n) = true := decide_eq_true h
  go_enter Tryd.func3, Tryd.ntmps3
  go_wp2_with fail
  refine (corner_any _).mono ?_
  rintro e w1 ⟨rfl, hb⟩
  go_wp2_with fail
  go_ret
  exact ⟨rfl, hb⟩

set_option maxRecDepth 100000 in
set_option maxHeartbeats 4000000 in
theorem odd_none (n : Int) (p : Option Addr) (cap : Nat) (w : World) (h1 : 1 ≤ n) (h2 : n ≤ 12) : Calls Tryd.prog 3 #[.int .i64 n, .slice p 0 cap] w (TruePost w) := by
  have d1 : decide (n < 1) = false := decide_eq_false (by omega)
  have d2 : decide (12 < n) = false := decide_eq_false (by omega)
  go_enter Tryd.func3, Tryd.ntmps3
  go_wp2_with fail
  refine (corner_any _).mono ?_
  rintro e w1 ⟨rfl, hb⟩
  go_wp2_with fail
  go_ret
  exact ⟨rfl, hb⟩

theorem labelOdd_walk (n : Int) (ss : List Int) (v : Value) (w : World) (hv : IntsAt w v ss) (hwf : ∀ i, -9223372036854775808 ≤ ss.getD i 0 ∧ ss.getD i 0 ≤ 9223372036854775807) : Calls Tryd.prog 3 #[.int .i64 n, v] w (TruePost w) := by
  rcases (show n < 1 ∨ 12 < n ∨ (1 ≤ n ∧ n ≤ 12) by omega) with h | h | ⟨h1, h2⟩
  · obtain ⟨p, c, rfl, -⟩ := hv; exact odd_low n p _ c w h
  · obtain ⟨p, c, rfl, -⟩ := hv; exact odd_high n p _ c w h
  · rcases hv.cases with ⟨-, p, c, rfl⟩ | ⟨hpos, b, off, c, rfl, -, hc⟩
    · exact odd_none n p c w h1 h2
    · obtain ⟨m, rfl⟩ : ∃ m : Nat, n = (m : Int) := ⟨n.toNat, by omega⟩
      exact odd_in m (by omega) (by omega) ss b off c w hpos hc hwf
end Go.Proofs.YtnijedeopnjklaaDoor
