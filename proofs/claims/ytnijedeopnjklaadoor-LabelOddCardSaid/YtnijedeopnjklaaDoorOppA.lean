/-
  'Opposite' of package label, one: its closure 'put', its comparison. Conditions: labels from -2 to 2, what the captured variables hold.
-/
import Derived.Test.YtnijedeopnjklaaDoorSortK
import Derived.Test.YtnijedeopnjklaaDoorCmp
import Derived.Test.YtnijedeopnjklaaDoorShelf
import Derived.RegionTactic
import Derived.Deep.QuietTactic
import Derived.BigQuiet
import Derived.Lib.QuietBelow
import Derived.Outline
import Derived.WalkSpells
import Derived.Lib.SmallJoins
namespace Go.Proofs.YtnijedeopnjklaaDoor
open Go Go.RowKit

theorem Tryd.info48 : (Tryd.prog.info? 48).map (fun i => (i.zero, i.size, i.bytes)) = some (some (.agg #[.int .i64 0, .int .i64 0]), 2, 16) := by kernel_rfl

def enc2 (p : Nat × Nat) : List Value := [.int .i64 (p.1 : Int), .int .i64 (p.2 : Int)]
theorem enc2_len (p : Nat × Nat) : (enc2 p).length = 2 := rfl
def cells2 (l : List (Nat × Nat)) : List Value := l.flatMap enc2
theorem cells2_snoc (l : List (Nat × Nat)) (p : Nat × Nat) : cells2 (l ++ [p]) = cells2 l ++ enc2 p := by simp [cells2, List.flatMap_append]

theorem cell_of_block {w : World} {B : Nat} {v : Value} {t : TypeId} (h : w.heap[B]? = some (.cells #[v] t (0, 0))) : w.cell? ⟨B, 0, none⟩ = some v ∧ w.frozen? ⟨B, 0, none⟩ = false := by
  simp [World.cell?, World.frozen?, h]
theorem heap_setCell_one {w : World} {B : Nat} {v u : Value} {t : TypeId} (h : w.heap[B]? = some (.cells #[v] t (0, 0))) : (w.setCell ⟨B, 0, none⟩ u).heap[B]? = some (.cells #[u] t (0, 0)) := by
  simp [World.setCell, Array.getElem?_modify, h]

/-- behind 'put': the captured variable holds v', an owned row of the pairs l'; below B nothing has turned -/
def PutPost (B : Nat) (w : World) (l' : List (Nat × Nat)) (e : Ending) (w' : World) : Prop :=
  e = .returned (.tuple #[]) ∧ ∃ v', w'.heap[B]? = some (.cells #[v'] 39 (0, 0)) ∧ w'.ownsRow (B + 1) 48 2 v' l'.length (cells2 l') ∧ Below B w w'

set_option maxRecDepth 100000 in
set_option maxHeartbeats 2000000 in
theorem put_no (xs : List Int) (lb lo lc : Nat) (a b LV B : Nat) (v : Value) (l : List (Nat × Nat)) (x y : Int) (w : World) (ha : a < xs.length) (hb : b < xs.length) 
    (hL : w.cell? ⟨LV, 0, none⟩ = some (.slice (some ⟨lb, lo, none⟩) xs.length lc))
    (hx : w.cell? ⟨lb, lo + a, none⟩ = some (.int .i64 x)) (hy : w.cell? ⟨lb, lo + b, none⟩ = some (.int .i64 y)) (hy1 : -2 ≤ y) (hy2 : y ≤ 2)
    (hB : w.heap[B]? = some (.cells #[v] 39 (0, 0))) (hown : w.ownsRow (B + 1) 48 2 v l.length (cells2 l)) (hne : x ≠ -y) :
    Calls Tryd.prog 21 #[.int .i64 (a : Int), .int .i64 (b : Int), .pointer (some ⟨LV, 0, none⟩), .pointer (some ⟨B, 0, none⟩)] w (PutPost B w l) := by
  have HB := Lib.hid hB
  have HO := Lib.hid hown
  have hq : (x == -y) = false := beq_eq_false_iff_ne.2 hne
  have ha0 : (0 : Int) ≤ (a : Int) := by omega
  have ha1 : (a : Int) < (xs.length : Int) := by omega
  have hb0 : (0 : Int) ≤ (b : Int) := by omega
  have hb1 : (b : Int) < (xs.length : Int) := by omega
  clear hB hown hne ha hb
  generalize xs.length = n at *
  go_enter Tryd.func21, Tryd.ntmps21
  go_wp2_with fail
  go_quiet (fail)
  go_wp2
  go_end0
  exact ⟨rfl, v, HB.out, HO.out, ⟨rfl, rfl, rfl, Nat.le_refl _, fun _ _ => rfl⟩⟩

set_option maxRecDepth 100000 in
set_option maxHeartbeats 2000000 in
theorem put_yes (xs : List Int) (lb lo lc : Nat) (a b LV B : Nat) (v : Value) (l : List (Nat × Nat)) (y : Int) (w : World) (ha : a < xs.length) (hb : b < xs.length) (hab : a < b) (hll : l.length ≤ 100000)
    (hL : w.cell? ⟨LV, 0, none⟩ = some (.slice (some ⟨lb, lo, none⟩) xs.length lc))
    (hx : w.cell? ⟨lb, lo + a, none⟩ = some (.int .i64 (-y))) (hy : w.cell? ⟨lb, lo + b, none⟩ = some (.int .i64 y)) (hy1 : -2 ≤ y) (hy2 : y ≤ 2)
    (hB : w.heap[B]? = some (.cells #[v] 39 (0, 0))) (hown : w.ownsRow (B + 1) 48 2 v l.length (cells2 l)) :
    Calls Tryd.prog 21 #[.int .i64 (a : Int), .int .i64 (b : Int), .pointer (some ⟨LV, 0, none⟩), .pointer (some ⟨B, 0, none⟩)] w (PutPost B w (l ++ [(a, b)])) := by
  obtain ⟨i0, hi, hz0, hz1, hz2⟩ := info_parts Tryd.info48
  have hBlt : B < w.heap.size := (Array.getElem?_eq_some_iff.1 hB).1
  obtain ⟨cB, fB⟩ := cell_of_block hB
  have hlt := hown.lt
  have HB := Lib.hid hB
  have ha0 : (0 : Int) ≤ (a : Int) := by omega
  have ha1 : (a : Int) < (xs.length : Int) := by omega
  have hb0 : (0 : Int) ≤ (b : Int) := by omega
  have hb1 : (b : Int) < (xs.length : Int) := by omega
  have hmin : min (a : Int) (b : Int) = (a : Int) := by omega
  have hmax : max (a : Int) (b : Int) = (b : Int) := by omega
  have HST := Lib.hid (fun (v' : Value) (w1 : World) (h : w1.ownsRow (B + 1) 48 2 v' (l.length + 1) (cells2 l ++ [.int .i64 (a : Int), .int .i64 (b : Int)])) => (by
    rw [cells2_snoc, List.length_append]; exact h : w1.ownsRow (B + 1) 48 2 v' (l ++ [(a, b)]).length (cells2 (l ++ [(a, b)]))))
  clear ha hb hB
  generalize xs.length = n at *
  generalize l.length = M at hown hll HST
  generalize cells2 l = CS at hown HST
  go_enter Tryd.func21, Tryd.ntmps21
  go_wp2_with fail
  go_quiet (fail)
  have hown1 : (w.drewN nq).ownsRow (B + 1) 48 2 v M CS := hown
  clear hL hx hy hown
  go_wp2_with (
    at_builtin
    go_must (refine wpList_append_own _ rfl _ _ 39 rfl (B + 1) 48 i0 (.agg #[.int .i64 0, .int .i64 0]) 2 16 Tryd.underlying39 hi hz0 hz1 hz2 rfl (by decide) _ _ _ rfl (hown1.alloc _) ⟨w.heap.size, 0, none⟩ 1 1 [.int .i64 (a : Int), .int .i64 (b : Int)] rfl rfl (cells_new _ _ _) (fun u hu => by simp at hu; rcases hu with rfl | rfl <;> rfl) (by unfold maxLen; omega) (by omega) (by simp; omega) ?_)
    intro v' w1 hown' hgrow _
    obtain ⟨gg, cc, rfl⟩ := Joins.ownsRow_form hown' (Nat.succ_pos _)
    have hgr : ((w.drewN nq).alloc (.cells #[.int .i64 (a : Int), .int .i64 (b : Int)] 48)).grownBy w1 v.ownBlock := hgrow
    clear hgrow
    have hbq : Below B w (w.drewN nq) := ⟨rfl, rfl, rfl, Nat.le_refl _, fun _ _ => rfl⟩
    have hBq : B ≤ (w.drewN nq).heap.size := Nat.le_of_lt hBlt
    have hb1' : Below B w w1 := (hbq.alloc hBq _).grown hgr (by simp; omega) (fun k hk => by have := (hlt k hk).1; omega)
    have hBne : some B ≠ v.ownBlock := fun e => by have := (hlt B e.symm).1; omega
    have hB1 : w1.heap[B]? = some (.cells #[v] 39 (0, 0)) := by
      rw [hgr.block B (by simp; omega) hBne, Below.heap_alloc _ _ _ (show B < (w.drewN nq).heap.size from hBlt)]; exact HB.out
    obtain ⟨cB1, fB1⟩ := cell_of_block hB1
    have HB1 := Lib.hid hB1
    have HO1 := Lib.hid (HST.out _ _ hown')
    clear hB1 hown' hgr hown1 HST cB fB hlt hBne)
  go_end0
  exact ⟨rfl, _, heap_setCell_one HB1.out, ownsRow_setCell_below HO1.out (Nat.lt_succ_self _) _, hb1'.setCell (Nat.le_refl _) _⟩
end Go.Proofs.YtnijedeopnjklaaDoor
