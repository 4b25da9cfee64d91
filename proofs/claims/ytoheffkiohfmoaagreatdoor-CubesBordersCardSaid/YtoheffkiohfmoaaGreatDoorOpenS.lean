/-
  An argument of strings reads as a list of strings.
-/
import Derived.Test.YtoheffkiohfmoaaGreatDoorStr
import Derived.ProofKit
import Derived.OpenShut
import Derived.Carry
import Derived.SliceStrings
import Derived.Deep.DeepHandedRow
import Derived.LaidMore
namespace Go.Proofs.YtoheffkiohfmoaaGreatDoor
open Go Go.ChangeShapes Go.WideShapes Go.ChangeAt Go.RowKit Go.Deep FL

theorem Tryz.cellsStr : Tryz.prog.cellsOf 9 = 1 := by kernel_rfl
theorem plain_addrS {W : World} {a : Addr} {v : Value} (h : W.cell? (a.add 0) = some v) : ∃ b off, a = ⟨b, off, none⟩ ∧ ∀ j, a.add j = ⟨b, off + j, none⟩ := by
  obtain ⟨b, off, spot⟩ := a
  have hspot : spot = none := by simpa [Addr.add] using World.cell?_spot h
  subst hspot
  exact ⟨b, off, rfl, fun j => add_off b off j⟩
set_option maxRecDepth 100000 in
theorem strs_of_trod {H : Type} {enc : TypeId × Value → H} {W : World} {v : Value} {d : DataW H} {ps : List MemPlace} {r : Reach} {b0 : Nat} (hval : Value.okWide Tryz.prog W r b0 69 v)
    (hd : DataW.Trod enc Tryz.prog W 0 (fun _ => true) true 69 v d ps) :
    ∃ ms, StrsAt W v ms ∧ ms.length ≤ 9223372036854775807 ∧ ∀ j, (rowB ms j).size ≤ 9223372036854775807 := by
  obtain ⟨a0, len, cap, rfl⟩ := okWide_slice Tryz.underlying69 hval
  obtain ⟨fuel, hf⟩ := hd
  rcases open_strings Tryz.underlying69 Tryz.underlying9 Tryz.cellsStr hf with ⟨hcs, -⟩ | ⟨a, len', cap', ss, hcs, -, hle, hmx, hall, -, cell, wf⟩
  · simp [Value.cells] at hcs
    obtain ⟨rfl, rfl, rfl⟩ := hcs
    exact ⟨[], StrsAt.nil W, by simp, fun j => by unfold rowB; simp; exact Nat.zero_le _⟩
  · simp [Value.cells] at hcs
    obtain ⟨rfl, rfl, rfl⟩ := hcs
    simp only [if_true] at hall
    have hlen : (ss.take len).length = len := by rw [List.length_take]; omega
    have hget : ∀ i, i < len → rowB (ss.take len) i = ss.getD i ByteArray.empty := fun i hi => by
      unfold rowB
      rw [List.getD_eq_getElem?_getD, List.getD_eq_getElem?_getD, List.getElem?_take, if_pos hi, List.getElem?_eq_getElem (by omega)]; rfl
    unfold maxLen at hmx
    refine ⟨ss.take len, ⟨some a, cap, by rw [hlen], by rw [hlen]; exact hle, (fun e => by cases e), fun i hi => ?_⟩, by omega, fun j => ?_⟩
    · rw [hlen] at hi
      obtain ⟨b, off, rfl, hadd⟩ := plain_addrS (cell 0 (by omega))
      exact ⟨b, off, rfl, by rw [hget i hi, ← hadd]; exact cell i (by omega)⟩
    · by_cases hj : j < len
      · rw [hget j hj, List.getD_eq_getElem?_getD, List.getElem?_eq_getElem (by omega)]
        have := wf _ (List.getElem_mem (l := ss) (show j < ss.length by omega))
        unfold maxLen at this
        exact this
      · unfold rowB
        rw [List.getD_eq_getElem?_getD, List.getElem?_eq_none (by rw [hlen]; omega)]
        exact Nat.zero_le _
end Go.Proofs.YtoheffkiohfmoaaGreatDoor
