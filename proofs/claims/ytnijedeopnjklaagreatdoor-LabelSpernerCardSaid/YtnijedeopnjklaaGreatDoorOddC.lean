/-
  The walker's two closures: does a small triangle hold two points?
-/
import Derived.Test.YtnijedeopnjklaaGreatDoorOddB
namespace Go.Proofs.YtnijedeopnjklaaGreatDoor
open Go Go.RowKit Sper

def holds2 (a b : Nat) (x : Nat × Nat × Nat) : Bool := (tripL x).contains (a : Int) && (tripL x).contains (b : Int)

set_option maxRecDepth 100000 in
set_option maxHeartbeats 4000000 in
theorem clos33_any (A C a b : Nat) (x : Nat × Nat × Nat) (W : World) (hA : W.cell? ⟨A, 0, none⟩ = some (.int .i64 (a : Int))) (hC : W.cell? ⟨C, 0, none⟩ = some (.int .i64 (b : Int))) :
    Calls Tryz.prog 35 #[.agg #[.int .i64 (x.1 : Int), .int .i64 (x.2.1 : Int), .int .i64 (x.2.2 : Int)], .pointer (some ⟨A, 0, none⟩), .pointer (some ⟨C, 0, none⟩)] W fun e w' => e = .returned (.bool (holds2 a b x)) ∧ Below W.heap.size W w' := by
  obtain ⟨x1, x2, x3⟩ := x
  simp only
  have hbb : Below W.heap.size W (W.alloc (.cells #[.int .i64 (x1 : Int), .int .i64 (x2 : Int), .int .i64 (x3 : Int)] 36)) := (Below.refl _ _).alloc (Nat.le_refl _) _
  have cA := (hbb.cell (p := ⟨A, 0, none⟩) (mem_lt hA)).trans hA
  have cC := (hbb.cell (p := ⟨C, 0, none⟩) (mem_lt hC)).trans hC
  have HB := Lib.hid hbb
  have H : ∀ (n : Nat) (z : Int), Calls Tryz.prog 36 #[.slice (some ⟨W.heap.size, 0, none⟩) 3 3, .int .i64 z] ((W.alloc (.cells #[.int .i64 (x1 : Int), .int .i64 (x2 : Int), .int .i64 (x3 : Int)] 36)).drewN n)
      fun e w' => e = .returned (.bool ((tripL (x1, x2, x3)).contains z)) ∧ w' = (W.alloc (.cells #[.int .i64 (x1 : Int), .int .i64 (x2 : Int), .int .i64 (x3 : Int)] 36)).drewN n := fun n z =>
    Tryz.slices_Contains_int W.heap.size 0 3 3 (tripL (x1, x2, x3)) z _ (Nat.le_refl 3) (by decide) (fun j hj => by
      have hj3 : j < 3 := hj
      rcases (show j = 0 ∨ j = 1 ∨ j = 2 by omega) with rfl | rfl | rfl <;> simp [tripL])
  have H1 := fun n => H n (a : Int)
  have H2 := fun n => H n (b : Int)
  clear hbb H hA hC
  unfold holds2
  cases h1 : (tripL (x1, x2, x3)).contains (a : Int) <;> cases h2 : (tripL (x1, x2, x3)).contains (b : Int)
  all_goals
    rw [h1] at H1
    rw [h2] at H2
    have HH1 := Lib.hid H1
    have HH2 := Lib.hid H2
    clear H1 H2 h1 h2
    go_enter Tryz.func35, Tryz.ntmps35
    go_wp2_with fail
    go_quiet ((go_at_call 36; first | exact Calls.quiet_of_same (HH1.out _) | exact Calls.quiet_of_same (HH2.out _)))
    go_wp2
    go_ret
    exact ⟨rfl, HB.out.trans ⟨rfl, rfl, rfl, Nat.le_refl _, fun _ _ => rfl⟩⟩

set_option maxRecDepth 100000 in
set_option maxHeartbeats 4000000 in
theorem clos35_any (A C a b : Nat) (x : Nat × Nat × Nat) (W : World) (hA : W.cell? ⟨A, 0, none⟩ = some (.int .i64 (a : Int))) (hC : W.cell? ⟨C, 0, none⟩ = some (.int .i64 (b : Int))) :
    Calls Tryz.prog 37 #[.agg #[.int .i64 (x.1 : Int), .int .i64 (x.2.1 : Int), .int .i64 (x.2.2 : Int)], .pointer (some ⟨A, 0, none⟩), .pointer (some ⟨C, 0, none⟩)] W fun e w' => e = .returned (.bool (holds2 a b x)) ∧ Below W.heap.size W w' := by
  obtain ⟨x1, x2, x3⟩ := x
  simp only
  have hbb : Below W.heap.size W (W.alloc (.cells #[.int .i64 (x1 : Int), .int .i64 (x2 : Int), .int .i64 (x3 : Int)] 36)) := (Below.refl _ _).alloc (Nat.le_refl _) _
  have cA := (hbb.cell (p := ⟨A, 0, none⟩) (mem_lt hA)).trans hA
  have cC := (hbb.cell (p := ⟨C, 0, none⟩) (mem_lt hC)).trans hC
  have HB := Lib.hid hbb
  have H : ∀ (n : Nat) (z : Int), Calls Tryz.prog 36 #[.slice (some ⟨W.heap.size, 0, none⟩) 3 3, .int .i64 z] ((W.alloc (.cells #[.int .i64 (x1 : Int), .int .i64 (x2 : Int), .int .i64 (x3 : Int)] 36)).drewN n)
      fun e w' => e = .returned (.bool ((tripL (x1, x2, x3)).contains z)) ∧ w' = (W.alloc (.cells #[.int .i64 (x1 : Int), .int .i64 (x2 : Int), .int .i64 (x3 : Int)] 36)).drewN n := fun n z =>
    Tryz.slices_Contains_int W.heap.size 0 3 3 (tripL (x1, x2, x3)) z _ (Nat.le_refl 3) (by decide) (fun j hj => by
      have hj3 : j < 3 := hj
      rcases (show j = 0 ∨ j = 1 ∨ j = 2 by omega) with rfl | rfl | rfl <;> simp [tripL])
  have H1 := fun n => H n (a : Int)
  have H2 := fun n => H n (b : Int)
  clear hbb H hA hC
  unfold holds2
  cases h1 : (tripL (x1, x2, x3)).contains (a : Int) <;> cases h2 : (tripL (x1, x2, x3)).contains (b : Int)
  all_goals
    rw [h1] at H1
    rw [h2] at H2
    have HH1 := Lib.hid H1
    have HH2 := Lib.hid H2
    clear H1 H2 h1 h2
    go_enter Tryz.func37, Tryz.ntmps37
    go_wp2_with fail
    go_quiet ((go_at_call 36; first | exact Calls.quiet_of_same (HH1.out _) | exact Calls.quiet_of_same (HH2.out _)))
    go_wp2
    go_ret
    exact ⟨rfl, HB.out.trans ⟨rfl, rfl, rfl, Nat.le_refl _, fun _ _ => rfl⟩⟩
end Go.Proofs.YtnijedeopnjklaaGreatDoor
