/-
  Arguments within the bound of 'uptoSmall': lists of lists of ints, how long they are.
-/
import Derived.Test.YtedehmknijlgpaaDoorRows
import Derived.Test.YtedehmknijlgpaaDoorGrp
import Derived.ProofKit
import Derived.OpenShut
import Derived.Carry
import Derived.Deep.DeepHandedRow
import Derived.Deep.Matrix
import Derived.LaidMore
import Derived.Lib.SmallJoins
set_option linter.unusedVariables false
namespace Go.Proofs.YtedehmknijlgpaaDoor
open Go Go.ChangeShapes Go.WideShapes Go.ChangeAt Go.RowKit Go.Deep

theorem Tryd.cellsInt : Tryd.prog.cellsOf 3 = 1 := by kernel_rfl
theorem Tryd.cellsInts : Tryd.prog.cellsOf 27 = 1 := by kernel_rfl

theorem bulk_one {H : Type} (d : DataW H) : 1 ≤ Rows.uptoBulk d := by
  cases d with
  | lit l => cases l <;> simp [Rows.uptoBulk]
  | nil => simp [Rows.uptoBulk]
  | ptr d => simp [Rows.uptoBulk]
  | slice elems spare => simp [Rows.uptoBulk]
  | agg parts => simp [Rows.uptoBulk]
  | iface t d => simp [Rows.uptoBulk]
  | map entries => simp [Rows.uptoBulk]
  | held h => simp [Rows.uptoBulk]
theorem bulk_len {H : Type} (l : List (DataW H)) : l.length ≤ Rows.uptoBulkAll l := by
  induction l with
  | nil => simp [Rows.uptoBulkAll]
  | cons x r ih => have := bulk_one x; simp only [Rows.uptoBulkAll, List.length_cons]; omega
theorem bulk_rows {H : Type} {f : Nat → DataW H} {g : Nat → List Int} : ∀ is : List Nat, (∀ i ∈ is, 1 + (g i).length ≤ Rows.uptoBulk (f i)) → is.length + ((is.map g).flatten).length ≤ Rows.uptoBulkAll (is.map f)
  | [], _ => by simp
  | i :: is, h => by
    have h1 := h i List.mem_cons_self
    have h2 := bulk_rows is (fun j hj => h j (List.mem_cons_of_mem _ hj))
    simp only [List.map_cons, Rows.uptoBulkAll, List.flatten_cons, List.length_append, List.length_cons]
    omega
theorem bulk_row {H : Type} (A : Option Addr) (n C : Nat) (Z : List Int) (hn : n ≤ C) (hZ : Z.length = C) (hA : A = none → C = 0) : 1 + (Z.take n).length ≤ Rows.uptoBulk (intRow (H := H) .i64 A n Z) := by
  unfold intRow
  cases A with
  | none =>
    have := hA rfl
    simp only [Rows.uptoBulk, List.length_take]
    omega
  | some a =>
    have h1 := bulk_len (H := H) (lits .i64 (Z.take n))
    have h2 : (lits (H := H) .i64 (Z.take n)).length = (Z.take n).length := by simp [lits]
    simp only [Rows.uptoBulk]
    omega
theorem plain_addr {W : World} {a : Addr} {v : Value} (h : W.cell? (a.add 0) = some v) : ∃ b off, a = ⟨b, off, none⟩ ∧ ∀ j, a.add j = ⟨b, off + j, none⟩ := by
  obtain ⟨b, off, spot⟩ := a
  have hspot : spot = none := by simpa [Addr.add] using World.cell?_spot h
  subst hspot
  exact ⟨b, off, rfl, fun j => add_off b off j⟩
set_option maxRecDepth 100000 in
theorem lists_of_cells {H : Type} {enc : TypeId × Value → H} {W : World} {fuel : Nat} {v : Value} {x : DataW H × List MemPlace} (hf : DataW.trod enc Tryd.prog W 0 (fun _ => true) true fuel 22 [v] = some x) :
    ∃ L, ListsIn W.heap.size W v L ∧ L.length + L.flatten.length ≤ Rows.uptoBulk x.1 := by
  rcases open_int_rows Tryd.underlying22 Tryd.underlying27 Tryd.underlying3 Tryd.cellsInts Tryd.cellsInt hf with ⟨hcs, rfl⟩ | ⟨a, len, cap, A, Ln, C, Z, hcs, -, hle, -, rfl, hx⟩
  · simp at hcs
    subst hcs
    exact ⟨[], ListsIn.nil _ W, by simp [Rows.uptoBulk]⟩
  · simp at hcs
    subst hcs
    have hlen : ((List.range len).map fun r => (Z r).take (Ln r)).length = len := by simp
    refine ⟨(List.range len).map fun r => (Z r).take (Ln r), ⟨some a, cap, by rw [hlen], by rw [hlen]; exact hle, (fun e => by cases e), fun i hi => ?_⟩, ?_⟩
    · rw [hlen] at hi
      obtain ⟨h1, h2, -, h4, -, h6, h7⟩ := hx i (by omega)
      obtain ⟨b, off, rfl, hadd⟩ := plain_addr (hx 0 (by omega)).1
      have e1 : ((List.range len).map fun r => (Z r).take (Ln r)).getD i [] = (Z i).take (Ln i) := by
        rw [List.getD_eq_getElem?_getD, List.getElem?_map, List.getElem?_range hi]; rfl
      have hl2 : ((Z i).take (Ln i)).length = Ln i := by rw [List.length_take]; omega
      refine ⟨b, off, _, rfl, by rw [← hadd]; exact h1, ?_⟩
      rw [e1]
      refine ⟨A i, C i, by rw [hl2], by rw [hl2]; exact h2, h6, fun k hk => ?_⟩
      rw [hl2] at hk
      cases hA : A i with
      | none => have := h6 hA; omega
      | some a' =>
        obtain ⟨-, h8⟩ := h7 a' hA
        have h9 := h8 k (by omega)
        obtain ⟨b', off', rfl, hadd'⟩ := plain_addr (h8 0 (by omega))
        rw [hadd'] at h9
        exact ⟨b', off', rfl, by rw [h9]; simp [List.getD_eq_getElem?_getD, hk], Or.inl (mem_lt h9)⟩
    · have h := bulk_rows (H := H) (f := fun r => intRow .i64 (A r) (Ln r) (Z r)) (g := fun r => (Z r).take (Ln r)) (List.range len) (fun i hi => by
        obtain ⟨-, h2, -, h4, -, h6, -⟩ := hx i (by have := List.mem_range.1 hi; omega)
        exact bulk_row (A i) (Ln i) (C i) (Z i) h2 h4 h6)
      rw [List.length_range] at h
      simp only [Rows.uptoBulk]
      rw [hlen]
      omega
end Go.Proofs.YtedehmknijlgpaaDoor
