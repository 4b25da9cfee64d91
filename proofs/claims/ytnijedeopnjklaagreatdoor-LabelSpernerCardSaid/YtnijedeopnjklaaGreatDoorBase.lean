/-
  Small lemmas that the texts of 'small' and its kin share: a block of one cell; products that fit; the element types' rows.
-/
import Derived.Test.YtnijedeopnjklaaGreatDoorSortK
import Derived.Test.YtnijedeopnjklaaGreatDoorCmp
import Derived.Test.YtnijedeopnjklaaGreatDoorShelf
import Derived.Test.YtnijedeopnjklaaGreatDoorLists
import Derived.RegionTactic
import Derived.Deep.QuietTactic
import Derived.BigQuiet
import Derived.Lib.QuietBelow
import Derived.Outline
import Derived.WalkSpells
import Derived.Lib.SmallJoins
import Derived.Lib.Hide
import Derived.Handy
import Derived.Deep.DeepCutAuto
namespace Go.Proofs.YtnijedeopnjklaaGreatDoor
open Go Go.RowKit Go.Sort Go.Lib

theorem cell_of_block {w : World} {B : Nat} {v : Value} {t : TypeId} (h : w.heap[B]? = some (.cells #[v] t (0, 0))) : w.cell? ⟨B, 0, none⟩ = some v ∧ w.frozen? ⟨B, 0, none⟩ = false := by
  simp [World.cell?, World.frozen?, h]
theorem heap_setCell_one {w : World} {B : Nat} {v u : Value} {t : TypeId} (h : w.heap[B]? = some (.cells #[v] t (0, 0))) : (w.setCell ⟨B, 0, none⟩ u).heap[B]? = some (.cells #[u] t (0, 0)) := by
  simp [World.setCell, Array.getElem?_modify, h]
theorem mul_bd2 (a b : Int) (h1 : -200 ≤ a) (h2 : a ≤ 200) (h3 : -200 ≤ b) (h4 : b ≤ 200) : -40000 ≤ a * b ∧ a * b ≤ 40000 := by
  have h : (a * b).natAbs ≤ 200 * 200 := by rw [Int.natAbs_mul]; exact Nat.mul_le_mul (by omega) (by omega)
  omega
theorem mul_bd (a : Int) (h1 : -100 ≤ a) (h2 : a ≤ 100) : 0 ≤ a * a ∧ a * a ≤ 10000 := by
  have e := Int.natAbs_mul_self' a
  have h0 : (0 : Int) ≤ (a.natAbs : Int) * (a.natAbs : Int) := Int.mul_nonneg (by omega) (by omega)
  have h : (a * a).natAbs ≤ 100 * 100 := by rw [Int.natAbs_mul]; exact Nat.mul_le_mul (by omega) (by omega)
  omega
theorem Tryz.info3 : (Tryz.prog.info? 3).map (fun i => (i.zero, i.size, i.bytes)) = some (some (.int .i64 0), 1, 8) := by kernel_rfl
theorem Tryz.info22 : (Tryz.prog.info? 22).map (fun i => (i.zero, i.size, i.bytes)) = some (some (.slice none 0 0), 1, 24) := by kernel_rfl
end Go.Proofs.YtnijedeopnjklaaGreatDoor
