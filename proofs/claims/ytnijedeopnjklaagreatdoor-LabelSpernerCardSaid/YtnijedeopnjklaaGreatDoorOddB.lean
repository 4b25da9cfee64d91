/-
  The walker's door; the walker's two closures; slices.IndexFunc over the triangles.
-/
import Derived.Test.YtnijedeopnjklaaGreatDoorOddA
namespace Go.Proofs.YtnijedeopnjklaaGreatDoor
open Go Go.RowKit Sper

set_option maxRecDepth 100000 in
set_option maxHeartbeats 4000000 in
theorem door_any (xs : List Int) (lb lo lc : Nat) (N : Nat) (all : Value) (a b : Nat) (p q : Int) (hp : p = (a : Int)) (hq : q = (b : Int)) (w : World) (ha : a < N) (hb : b < N)
    (hc : ∀ i, i < N → w.cell? ⟨lb, lo + i, none⟩ = some (.int .i64 (xs.getD i 0))) (hr : ∀ i, i < N → xs.getD i 0 = 0 ∨ xs.getD i 0 = 1 ∨ xs.getD i 0 = 2) :
    Calls Tryz.prog 23 #[.agg #[.slice (some ⟨lb, lo, none⟩) N lc, all], .int .i64 p, .int .i64 q] w fun e w' => e = .returned (.bool (isDoor (labF xs) (a, b))) ∧ Below w.heap.size w w' := by
  subst hp; subst hq
  have hbb : Below w.heap.size w (w.alloc (.cells #[.slice (some ⟨lb, lo, none⟩) N lc, all] 60)) := (Below.refl _ _).alloc (Nat.le_refl _) _
  have ca := (hbb.cell (p := ⟨lb, lo + a, none⟩) (mem_lt (hc a ha))).trans (hc a ha)
  have cb := (hbb.cell (p := ⟨lb, lo + b, none⟩) (mem_lt (hc b hb))).trans (hc b hb)
  have ra := hr a ha
  have rb := hr b hb
  obtain ⟨r, hres⟩ : ∃ r, isDoor (labF xs) (a, b) = r := ⟨_, rfl⟩
  rw [hres]
  unfold isDoor labF at hres
  simp only at hres
  obtain ⟨x, hx⟩ : ∃ x, xs.getD a 0 = x := ⟨_, rfl⟩
  obtain ⟨y, hy⟩ : ∃ y, xs.getD b 0 = y := ⟨_, rfl⟩
  rw [hx] at ca ra hres
  rw [hy] at cb rb hres
  have HB := Lib.hid hbb
  clear hx hy hc hr hbb
  rcases ra with rfl | rfl | rfl <;> rcases rb with rfl | rfl | rfl
  all_goals
    have hres' := hres.symm
    simp at hres'
    subst hres'
    clear hres
    go_enter Tryz.func23, Tryz.ntmps23
    go_wp2_with fail
    go_quiet (fail)
    go_wp2
    go_ret
    exact ⟨rfl, HB.out.trans ⟨rfl, rfl, rfl, Nat.le_refl _, fun _ _ => rfl⟩⟩
end Go.Proofs.YtnijedeopnjklaaGreatDoor
