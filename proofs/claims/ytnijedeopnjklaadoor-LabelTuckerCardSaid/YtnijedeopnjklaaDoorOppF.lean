/-
  Opposite and SquareFault where the number of parts or of labels is out of bounds.
-/
import Derived.Test.YtnijedeopnjklaaDoorOppC
namespace Go.Proofs.YtnijedeopnjklaaDoor
open Go Go.RowKit

def EarlyPost (a : Nat → Addr) (c : Int) (w : World) (e : Ending) (w' : World) : Prop :=
  ∃ v, e = .returned (.tuple #[.slice none 0 0, v]) ∧ Below w.heap.size w w' ∧ ErrAt a w' v c (-1)
def EarlySF (c : Int) (w : World) (e : Ending) (w' : World) : Prop := e = .returned (.agg #[.int .i64 c, .int .i64 (-1)]) ∧ Below w.heap.size w w'

set_option maxRecDepth 100000 in
set_option maxHeartbeats 4000000 in
theorem opp_bound (a : Nat → Addr) (n : Int) (p : Option Addr) (len cap : Nat) (w : World) (hS : Sents w a) (h : n < 1 ∨ 6 < n) :
    Calls Tryd.prog 12 #[.int .i64 n, .slice p len cap] w (EarlyPost a 2 w) := by
  have hbb : Below w.heap.size w (w.alloc (.cells #[.slice p len cap] 22)) := (Below.refl _ _).alloc (Nat.le_refl _) _
  have hg : (w.alloc (.cells #[.slice p len cap] 22)).cell? ⟨gnum 1, 0, none⟩ = some (.iface 153 (.pointer (some (a 1)))) := (hS.below hbb (Nat.le_refl _)).g 1 (by decide)
  simp only [gnum] at hg
  have HB := Lib.hid hbb
  clear hbb
  rcases (show n < 1 ∨ 1 ≤ n by omega) with h1 | h1
  · have d1 : decide (n < 1) = true := decide_eq_true h1
    clear h h1
    go_enter Tryd.func12, Tryd.ntmps12
    go_wp2_with fail
    go_quiet (fail)
    go_wp2_with fail
    go_ret2
    exact ⟨_, rfl, HB.out.trans ⟨rfl, rfl, rfl, Nat.le_refl _, fun _ _ => rfl⟩, ErrAt.sent a _ 1 (by decide)⟩
  · have d1 : decide (n < 1) = false := decide_eq_false (by omega)
    have d2 : decide (6 < n) = true := decide_eq_true (by omega)
    clear h h1
    go_enter Tryd.func12, Tryd.ntmps12
    go_wp2_with fail
    go_quiet (fail)
    go_wp2_with fail
    go_ret2
    exact ⟨_, rfl, HB.out.trans ⟨rfl, rfl, rfl, Nat.le_refl _, fun _ _ => rfl⟩, ErrAt.sent a _ 1 (by decide)⟩

set_option maxRecDepth 100000 in
set_option maxHeartbeats 8000000 in
theorem opp_shape (a : Nat → Addr) (n : Nat) (hn1 : 1 ≤ n) (hn : n ≤ 6) (p : Option Addr) (len cap : Nat) (w : World) (hS : Sents w a) (h : len ≠ (2 * n + 1) * (2 * n + 1)) :
    Calls Tryd.prog 12 #[.int .i64 (n : Int), .slice p len cap] w (EarlyPost a 3 w) := by
  have hbb : Below w.heap.size w (w.alloc (.cells #[.slice p len cap] 22)) := (Below.refl _ _).alloc (Nat.le_refl _) _
  have hg : (w.alloc (.cells #[.slice p len cap] 22)).cell? ⟨gnum 2, 0, none⟩ = some (.iface 153 (.pointer (some (a 2)))) := (hS.below hbb (Nat.le_refl _)).g 2 (by decide)
  simp only [gnum] at hg
  have HB := Lib.hid hbb
  clear hbb
  rcases (show n = 1 ∨ n = 2 ∨ n = 3 ∨ n = 4 ∨ n = 5 ∨ n = 6 by omega) with rfl | rfl | rfl | rfl | rfl | rfl
  all_goals
    have d1 := beq_eq_false_iff_ne.2 (show (len : Int) ≠ _ from fun e => h (Int.ofNat.inj e))
    have d2 := bne_iff_ne.2 (show (len : Int) ≠ _ from fun e => h (Int.ofNat.inj e))
    simp only [Nat.reduceMul, Nat.reduceAdd, Int.ofNat_eq_natCast, Int.cast_ofNat_Int] at d1 d2
    clear h
    go_enter Tryd.func12, Tryd.ntmps12
    go_wp2_with fail
    go_quiet (fail)
    go_wp2_with fail
    go_ret2
    exact ⟨_, rfl, HB.out.trans ⟨rfl, rfl, rfl, Nat.le_refl _, fun _ _ => rfl⟩, ErrAt.sent a _ 2 (by decide)⟩

set_option maxRecDepth 100000 in
set_option maxHeartbeats 4000000 in
theorem sf_bound (n : Int) (p : Option Addr) (len cap : Nat) (w : World) (h : n < 1 ∨ 6 < n) :
    Calls Tryd.prog 13 #[.int .i64 n, .slice p len cap] w (EarlySF 2 w) := by
  rcases (show n < 1 ∨ 1 ≤ n by omega) with h1 | h1
  · have d1 : decide (n < 1) = true := decide_eq_true h1
    clear h h1
    go_enter Tryd.func13, Tryd.ntmps13
    go_wp2
    exact bodyPost_ret (v := .agg #[.int .i64 2, .int .i64 (-1)]) (by simp [results, Tryd.results13, go_sem]) rfl ⟨rfl, by go_grown⟩
  · have d1 : decide (n < 1) = false := decide_eq_false (by omega)
    have d2 : decide (6 < n) = true := decide_eq_true (by omega)
    clear h h1
    go_enter Tryd.func13, Tryd.ntmps13
    go_wp2
    exact bodyPost_ret (v := .agg #[.int .i64 2, .int .i64 (-1)]) (by simp [results, Tryd.results13, go_sem]) rfl ⟨rfl, by go_grown⟩

set_option maxRecDepth 100000 in
set_option maxHeartbeats 8000000 in
theorem sf_shape (n : Nat) (hn1 : 1 ≤ n) (hn : n ≤ 6) (p : Option Addr) (len cap : Nat) (w : World) (h : len ≠ (2 * n + 1) * (2 * n + 1)) :
    Calls Tryd.prog 13 #[.int .i64 (n : Int), .slice p len cap] w (EarlySF 3 w) := by
  rcases (show n = 1 ∨ n = 2 ∨ n = 3 ∨ n = 4 ∨ n = 5 ∨ n = 6 by omega) with rfl | rfl | rfl | rfl | rfl | rfl
  all_goals
    have d1 := beq_eq_false_iff_ne.2 (show (len : Int) ≠ _ from fun e => h (Int.ofNat.inj e))
    have d2 := bne_iff_ne.2 (show (len : Int) ≠ _ from fun e => h (Int.ofNat.inj e))
    simp only [Nat.reduceMul, Nat.reduceAdd, Int.ofNat_eq_natCast, Int.cast_ofNat_Int] at d1 d2
    clear h
    go_enter Tryd.func13, Tryd.ntmps13
    go_wp2
    exact bodyPost_ret (v := .agg #[.int .i64 3, .int .i64 (-1)]) (by simp [results, Tryd.results13, go_sem]) rfl ⟨rfl, by go_grown⟩
end Go.Proofs.YtnijedeopnjklaaDoor
