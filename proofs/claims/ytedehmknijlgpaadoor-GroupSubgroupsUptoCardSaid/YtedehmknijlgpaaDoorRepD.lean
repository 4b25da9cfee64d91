/-
  A row of -1, as slices.Repeat makes it.
-/
import Derived.Test.YtedehmknijlgpaaDoorCosC
import Derived.Test.YtedehmknijlgpaaDoorShelf
import Derived.Laws.CopyOwn
set_option linter.unusedSimpArgs false
set_option linter.unusedVariables false
namespace Go.Proofs.YtedehmknijlgpaaDoor
open Go Go.RowKit Go.Maps

/-- a row of W places, the first n are -1 -/
def negs (n W : Nat) : List Value := List.replicate n (.int .i64 (-1)) ++ List.replicate (W - n) (.int .i64 0)
theorem negs_len {n W : Nat} (h : n ≤ W) : (negs n W).length = W := by unfold negs; simp; omega
theorem negs_splice {n k W : Nat} (h : n + k ≤ W) : splice (negs n W) n (List.replicate k (.int .i64 (-1))) = negs (n + k) W := by
  unfold splice negs
  rw [List.take_left' (by simp), List.drop_append, List.drop_eq_nil_of_le (by simp), List.nil_append, List.length_replicate, List.length_replicate, List.drop_replicate, ← List.append_assoc, List.replicate_append_replicate]
  congr 2
  omega
theorem negs_at {n W k : Nat} (hk : k < n) : (negs n W)[k]? = some (.int .i64 (-1)) := by
  unfold negs
  rw [List.getElem?_append_left (by simpa using hk)]
  simp [hk]
theorem make_negs (N : Nat) (hN : N ≤ 400000) (w : World) : Sem.run Tryd.prog (Instr.makeSlice 27 (.int .i64 (N : Int)) (.int .i64 (N : Int))) w = .ok (.slice (some ⟨w.heap.size, 0, none⟩) N N) (w.alloc (.cells (negs 0 N).toArray 3)) := by
  obtain ⟨i3, hi3, hy0, hy1, hy2⟩ := info_parts Tryd.info3
  have h := run_make (P := Tryd.prog) w 27 3 i3 (.int .i64 0) Tryd.underlying27 hi3 hy0 .i64 .i64 (N : Int) (N : Int) (by omega) (by omega) (by rw [hy2]; omega) (by omega)
  rw [Int.toNat_natCast, hy1, Nat.mul_one] at h
  have e : (negs 0 N).toArray = Array.replicate N (.int .i64 0) := by unfold negs; simp
  rw [e]
  have e2 : madeCells (Value.int IntKind.i64 0).cells N = Array.replicate N (.int .i64 0) := by
    apply Array.ext
    · simp [madeCells]
    · intro i h1 h2; simp [madeCells, Value.cells, Nat.mod_one]
  rw [← e2]
  exact h
def RepP (W : Nat) (w : World) (e : Ending) (w' : World) : Prop := ∃ g, w.heap.size ≤ g ∧ e = .returned (.slice (some ⟨g, 0, none⟩) W W) ∧ w'.heap[g]? = some (.cells (negs W W).toArray 3 (0, 0)) ∧ Below w.heap.size w w'
end Go.Proofs.YtedehmknijlgpaaDoor
