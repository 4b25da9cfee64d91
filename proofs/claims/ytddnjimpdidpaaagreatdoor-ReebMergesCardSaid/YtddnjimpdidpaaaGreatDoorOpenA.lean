/-
  An argument of ints reads as a list; an argument of lists of ints as a list of lists.
-/
import Derived.Test.YtddnjimpdidpaaaGreatDoorRd
import Derived.ProofKit
import Derived.OpenShut
import Derived.Carry
import Derived.Deep.DeepHandedRow
import Derived.Deep.Matrix
import Derived.LaidMore
namespace Go.Proofs.YtddnjimpdidpaaaGreatDoor
open Go Go.ChangeShapes Go.WideShapes Go.ChangeAt Go.RowKit Go.Deep

theorem Tryz.cellsInt : Tryz.prog.cellsOf 3 = 1 := by kernel_rfl
theorem Tryz.cellsInts : Tryz.prog.cellsOf 23 = 1 := by kernel_rfl

set_option maxRecDepth 100000 in
theorem ints_of_trod {H : Type} {enc : TypeId × Value → H} {W : World} {v : Value} {d : DataW H} {ps : List MemPlace} {r : Reach} {b0 : Nat} (hval : Value.okWide Tryz.prog W r b0 23 v)
    (hd : DataW.Trod enc Tryz.prog W 0 (fun _ => true) true 23 v d ps) :
    ∃ xs, IntsAt W v xs ∧ ∀ i, -9223372036854775808 ≤ xs.getD i 0 ∧ xs.getD i 0 ≤ 9223372036854775807 := by
  obtain ⟨a0, len, cap, rfl⟩ := okWide_slice Tryz.underlying23 hval
  obtain ⟨fuel, hf⟩ := hd
  rcases open_ints Tryz.underlying23 Tryz.underlying3 Tryz.cellsInt hf with ⟨hcs, -⟩ | ⟨a, len', cap', zs, hcs, -, hle, -, hall, -, cell, wf⟩
  · simp [Value.cells] at hcs
    obtain ⟨rfl, rfl, rfl⟩ := hcs
    exact ⟨[], IntsAt.nil W, fun i => by simp⟩
  · simp [Value.cells] at hcs
    obtain ⟨rfl, rfl, rfl⟩ := hcs
    simp only [if_true] at hall
    have hwz : ∀ i, -9223372036854775808 ≤ zs.getD i 0 ∧ zs.getD i 0 ≤ 9223372036854775807 := fun i => by
      by_cases hi : i < zs.length
      · have hm : zs.getD i 0 ∈ zs := by
          rw [List.getD_eq_getElem?_getD, List.getElem?_eq_getElem hi]
          exact List.getElem_mem hi
        exact bounds_i64 (wf _ hm)
      · rw [List.getD_eq_getElem?_getD, List.getElem?_eq_none (by omega)]
        simp
    have hget : ∀ i, i < len → (zs.take len).getD i 0 = zs.getD i 0 := fun i hi => by
      simp [List.getD_eq_getElem?_getD, hi]
    have hlen : (zs.take len).length = len := by rw [List.length_take]; omega
    refine ⟨zs.take len, ⟨some a, cap, by rw [hlen], by rw [hlen]; exact hle, (fun e => by cases e), fun i hi => ?_⟩, fun i => ?_⟩
    · rw [hlen] at hi
      obtain ⟨b, off, rfl, hcell⟩ := ints_at cell (by omega)
      exact ⟨b, off, rfl, by rw [hget i hi]; exact hcell i (by omega)⟩
    · by_cases hi : i < len
      · rw [hget i hi]; exact hwz i
      · rw [List.getD_eq_getElem?_getD, List.getElem?_eq_none (by omega)]
        simp

theorem plain_addr {W : World} {a : Addr} {v : Value} (h : W.cell? (a.add 0) = some v) : ∃ b off, a = ⟨b, off, none⟩ ∧ ∀ j, a.add j = ⟨b, off + j, none⟩ := by
  obtain ⟨b, off, spot⟩ := a
  have hspot : spot = none := by simpa [Addr.add] using World.cell?_spot h
  subst hspot
  exact ⟨b, off, rfl, fun j => add_off b off j⟩

set_option maxRecDepth 100000 in
theorem lists_of_trod {H : Type} {enc : TypeId × Value → H} {W : World} {v : Value} {d : DataW H} {ps : List MemPlace} {r : Reach} {b0 : Nat} (hval : Value.okWide Tryz.prog W r b0 22 v)
    (hd : DataW.Trod enc Tryz.prog W 0 (fun _ => true) true 22 v d ps) : ∃ L, ListsIn W.heap.size W v L ∧ ∀ l ∈ L, ∀ x ∈ l, -9223372036854775808 ≤ x ∧ x ≤ 9223372036854775807 := by
  obtain ⟨a0, len, cap, rfl⟩ := okWide_slice Tryz.underlying22 hval
  obtain ⟨fuel, hf⟩ := hd
  rcases open_int_rows Tryz.underlying22 Tryz.underlying23 Tryz.underlying3 Tryz.cellsInts Tryz.cellsInt hf with ⟨hcs, -⟩ | ⟨a, len', cap', A, Ln, C, Z, hcs, -, hle, -, -, hx⟩
  · simp [Value.cells] at hcs
    obtain ⟨rfl, rfl, rfl⟩ := hcs
    exact ⟨[], ListsIn.nil _ W, fun l h => by cases h⟩
  · simp [Value.cells] at hcs
    obtain ⟨rfl, rfl, rfl⟩ := hcs
    have hlen : ((List.range len).map fun r => (Z r).take (Ln r)).length = len := by simp
    refine ⟨(List.range len).map fun r => (Z r).take (Ln r), ⟨some a, cap, by rw [hlen], by rw [hlen]; exact hle, (fun e => by cases e), fun i hi => ?_⟩, ?_⟩
    · rw [hlen] at hi
      obtain ⟨h1, h2, -, h4, -, h6, h7⟩ := hx i (by omega)
      obtain ⟨b, off, rfl, hadd⟩ := plain_addr (hx 0 (by omega)).1
      have e1 : ((List.range len).map fun r => (Z r).take (Ln r)).getD i [] = (Z i).take (Ln i) := by
        rw [List.getD_eq_getElem?_getD, List.getElem?_map, List.getElem?_range hi]; rfl
      have hl2 : ((Z i).take (Ln i)).length = Ln i := by rw [List.length_take]; omega
      refine ⟨b, off, _, rfl, by rw [← hadd]; exact h1, ?_⟩
      rw [e1]
      refine ⟨A i, C i, by rw [hl2], by rw [hl2]; exact h2, h6, fun k hk => ?_⟩
      rw [hl2] at hk
      cases hA : A i with
      | none => have := h6 hA; omega
      | some a' =>
        obtain ⟨-, h8⟩ := h7 a' hA
        have h9 := h8 k (by omega)
        obtain ⟨b', off', rfl, hadd'⟩ := plain_addr (h8 0 (by omega))
        rw [hadd'] at h9
        exact ⟨b', off', rfl, by rw [h9]; simp [List.getD_eq_getElem?_getD, hk], Or.inl (mem_lt h9)⟩
    · intro l hl x hxm
      obtain ⟨i, hi, rfl⟩ := List.mem_map.1 hl
      have hi := List.mem_range.1 hi
      obtain ⟨-, -, -, -, h5, -, -⟩ := hx i (by omega)
      exact bounds_i64 (h5 x (List.mem_of_mem_take hxm))
end Go.Proofs.YtddnjimpdidpaaaGreatDoor
