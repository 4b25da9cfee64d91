/-
  Small of package label; the law's closed fact on the corner.
-/
import Derived.Test.YtnijedeopnjklaaGreatDoorSmallD
namespace Go.Proofs.YtnijedeopnjklaaGreatDoor
open Go Go.RowKit Go.Sort Go.Lib

def SmallPost2 (n : Nat) (w : World) (e : Ending) (w' : World) : Prop :=
  ∃ v, e = .returned (.tuple #[v, .nilIface]) ∧ Below w.heap.size w w' ∧ w'.ownsRow w.heap.size 36 3 v (smallL n).length (cells3 (smallL n))
set_option maxHeartbeats 2000000 in
theorem small2_any (n : Nat) (hn1 : 1 ≤ n) (hn : n ≤ 12) (w : World) : Calls Tryz.prog 6 #[.int .i64 (n : Int)] w (SmallPost2 n w) := by
  have d1 : decide ((n : Int) < 1) = false := decide_eq_false (by omega)
  have d2 : decide (12 < (n : Int)) = false := decide_eq_false (by omega)
  go_enter Tryz.func6, Tryz.ntmps6
  go_wp2_with fail
  refine (small_any n hn1 hn _).mono ?_
  rintro e w2 ⟨v, rfl, hb, ho⟩
  have HB := Lib.hid hb
  have HO := Lib.hid ho
  clear hb ho
  go_wp2_with fail
  go_ret2
  exact ⟨_, rfl, HB.out, HO.out⟩

theorem small_one : smallL 1 = [(0, 1, 2)] := by
  have h : rawL 1 = [(0, 1, 2)] := by decide
  unfold smallL
  rw [h]
  unfold sort3
  exact List.mergeSort_singleton _

theorem eq36 (w : World) : Sem.run Tryz.prog (Op.equalIn 10000 36 (.agg #[.int .i64 0, .int .i64 1, .int .i64 2]) (.agg #[.int .i64 0, .int .i64 1, .int .i64 2])) w = .ok true w := by
  kernel_rfl
def TruePost (w : World) (e : Ending) (w' : World) : Prop := e = .returned (.bool true) ∧ Below w.heap.size w w'
set_option maxRecDepth 100000 in
set_option maxHeartbeats 2000000 in
theorem corner_any (w : World) : Calls Tryz.prog 4 #[] w (TruePost w) := by
  have H := small2_any 1 (by decide) (by decide) w
  unfold SmallPost2 at H
  rw [small_one] at H
  go_enter Tryz.func4, Tryz.ntmps4
  go_wp2_with fail
  refine H.mono ?_
  rintro e w2 ⟨v, rfl, hb, ho⟩
  obtain ⟨g, cap, rfl⟩ := Joins.ownsRow_form ho (by simp)
  have hadd : ∀ b j, (⟨b, 0, none⟩ : Addr).add j = ⟨b, j, none⟩ := fun b j => by unfold Addr.add; split <;> simp_all
  have c0 := ho.cells (g := g) rfl 0 _ rfl
  have c1 := ho.cells (g := g) rfl 1 _ rfl
  have c2 := ho.cells (g := g) rfl 2 _ rfl
  rw [hadd] at c0 c1 c2
  have HB := Lib.hid hb
  clear hb ho H hadd
  have HE := eq36 w2
  go_wp2_with fail
  go_ret
  exact ⟨rfl, HB.out⟩
end Go.Proofs.YtnijedeopnjklaaGreatDoor
