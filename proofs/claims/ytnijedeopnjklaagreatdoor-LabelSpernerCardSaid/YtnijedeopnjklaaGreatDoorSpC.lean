/-
  Points, Small, Full, Walk at any arguments, each by one contract. Conditions: 'Sents'.
-/
import Derived.Test.YtnijedeopnjklaaGreatDoorSpB
import Derived.Test.YtnijedeopnjklaaGreatDoorOddR
namespace Go.Proofs.YtnijedeopnjklaaGreatDoor
open Go Go.RowKit Sper

set_option maxRecDepth 100000 in
set_option maxHeartbeats 4000000 in
theorem points_bad (a : Nat → Addr) (n : Int) (w : World) (hS : Sents w a) (h : n < 1 ∨ 12 < n) :
    Calls Tryz.prog 5 #[.int .i64 n] w fun e w' => e = .returned (.tuple #[.int .i64 0, .iface 146 (.pointer (some (a 1)))]) ∧ Below w.heap.size w w' := by
  have hg : w.cell? ⟨gnum 1, 0, none⟩ = some (.iface 146 (.pointer (some (a 1)))) := hS.g 1 (by decide)
  simp only [gnum] at hg
  have HB : Hid (∀ k, Below w.heap.size w (w.drewN k)) := fun k => ⟨rfl, rfl, rfl, Nat.le_refl _, fun _ _ => rfl⟩
  rcases (show n < 1 ∨ 1 ≤ n by omega) with h1 | h1
  · have d1 : decide (n < 1) = true := decide_eq_true h1
    clear h h1
    go_enter Tryz.func5, Tryz.ntmps5
    go_wp2_with fail
    go_quiet (fail)
    go_wp2_with fail
    go_ret2
    exact ⟨rfl, HB.out _⟩
  · have d1 : decide (n < 1) = false := decide_eq_false (by omega)
    have d2 : decide (12 < n) = true := decide_eq_true (by omega)
    clear h h1
    go_enter Tryz.func5, Tryz.ntmps5
    go_wp2_with fail
    go_quiet (fail)
    go_wp2_with fail
    go_ret2
    exact ⟨rfl, HB.out _⟩

set_option maxRecDepth 100000 in
set_option maxHeartbeats 4000000 in
theorem points_good (n : Nat) (hn1 : 1 ≤ n) (hn : n ≤ 12) (w : World) :
    Calls Tryz.prog 5 #[.int .i64 (n : Int)] w fun e w' => e = .returned (.tuple #[.int .i64 ((ptsL n).length : Int), .nilIface]) ∧ Below w.heap.size w w' := by
  have d1 : decide ((n : Int) < 1) = false := decide_eq_false (by omega)
  have d2 : decide (12 < (n : Int)) = false := decide_eq_false (by omega)
  have HP := Lib.hid (points_int n hn (n : Int) rfl w)
  go_enter Tryz.func5, Tryz.ntmps5
  go_wp2_with fail
  refine HP.out.mono ?_
  rintro e w2 ⟨g, cP, rfl, hb, -⟩
  have HB := Lib.hid hb
  clear hb
  go_wp2_with fail
  go_ret2
  exact ⟨rfl, HB.out⟩

set_option maxRecDepth 100000 in
set_option maxHeartbeats 4000000 in
theorem small_bad (a : Nat → Addr) (n : Int) (w : World) (hS : Sents w a) (h : n < 1 ∨ 12 < n) :
    Calls Tryz.prog 6 #[.int .i64 n] w fun e w' => e = .returned (.tuple #[.slice none 0 0, .iface 146 (.pointer (some (a 1)))]) ∧ Below w.heap.size w w' := by
  have hg : w.cell? ⟨gnum 1, 0, none⟩ = some (.iface 146 (.pointer (some (a 1)))) := hS.g 1 (by decide)
  simp only [gnum] at hg
  have HB : Hid (∀ k, Below w.heap.size w (w.drewN k)) := fun k => ⟨rfl, rfl, rfl, Nat.le_refl _, fun _ _ => rfl⟩
  rcases (show n < 1 ∨ 1 ≤ n by omega) with h1 | h1
  · have d1 : decide (n < 1) = true := decide_eq_true h1
    clear h h1
    go_enter Tryz.func6, Tryz.ntmps6
    go_wp2_with fail
    go_quiet (fail)
    go_wp2_with fail
    go_ret2
    exact ⟨rfl, HB.out _⟩
  · have d1 : decide (n < 1) = false := decide_eq_false (by omega)
    have d2 : decide (12 < n) = true := decide_eq_true (by omega)
    clear h h1
    go_enter Tryz.func6, Tryz.ntmps6
    go_wp2_with fail
    go_quiet (fail)
    go_wp2_with fail
    go_ret2
    exact ⟨rfl, HB.out _⟩

/-- an error: a nil list and the error -/
def BadList (a : Nat → Addr) (c k : Int) (w : World) (e : Ending) (w' : World) : Prop := ∃ v, e = .returned (.tuple #[.slice none 0 0, v]) ∧ Below w.heap.size w w' ∧ ErrAt a w' v c k

set_option maxRecDepth 100000 in
set_option maxHeartbeats 4000000 in
theorem full_bad (a : Nat → Addr) (n : Int) (xs : List Int) (v : Value) (c k : Int) (w : World) (hS : Sents w a) (hv : IntsAt w v xs) (hV : LV n xs c k) (hc : c ≠ 0) : Calls Tryz.prog 12 #[.int .i64 n, v] w (BadList a c k w) := by
  have HC := Lib.hid (check_any a n xs v c k w hS hv hV)
  have HZ := Lib.hid hc
  obtain ⟨p, cap, rfl, -⟩ := hv
  clear hV hc hS
  go_enter Tryz.func12, Tryz.ntmps12
  go_wp2_with fail
  refine HC.out.mono ?_
  rintro e w2 ⟨err, rfl, hb, hE⟩
  obtain ⟨t, q, rfl⟩ := hE.some_iface HZ.out
  have HB := Lib.hid hb
  have HE := Lib.hid hE
  clear hb hE
  go_wp2_with fail
  go_ret2
  exact ⟨_, rfl, HB.out, HE.out⟩

set_option maxRecDepth 100000 in
set_option maxHeartbeats 4000000 in
theorem walk_bad (a : Nat → Addr) (n : Int) (xs : List Int) (v : Value) (c k : Int) (w : World) (hS : Sents w a) (hv : IntsAt w v xs) (hV : LV n xs c k) (hc : c ≠ 0) : Calls Tryz.prog 13 #[.int .i64 n, v] w (BadList a c k w) := by
  have HC := Lib.hid (check_any a n xs v c k w hS hv hV)
  have HZ := Lib.hid hc
  obtain ⟨p, cap, rfl, -⟩ := hv
  clear hV hc hS
  go_enter Tryz.func13, Tryz.ntmps13
  go_wp2_with fail
  refine HC.out.mono ?_
  rintro e w2 ⟨err, rfl, hb, hE⟩
  obtain ⟨t, q, rfl⟩ := hE.some_iface HZ.out
  have HB := Lib.hid hb
  have HE := Lib.hid hE
  clear hb hE
  go_wp2_with fail
  go_ret2
  exact ⟨_, rfl, HB.out, HE.out⟩
end Go.Proofs.YtnijedeopnjklaaGreatDoor
