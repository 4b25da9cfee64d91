/-
  'small' of package label, three: the sort of triples.
-/
import Derived.Test.YtnijedeopnjklaaGreatDoorSmallB
namespace Go.Proofs.YtnijedeopnjklaaGreatDoor
open Go Go.RowKit Go.Sort Go.Lib

def tripL (p : Nat × Nat × Nat) : List Int := [(p.1 : Int), (p.2.1 : Int), (p.2.2 : Int)]
def cmp3 (x y : Nat × Nat × Nat) : Int := cmpL (tripL x) (tripL y)

theorem intsAt_triple (w : World) (b : Nat) (p q r : Int) (h0 : w.cell? ⟨b, 0, none⟩ = some (.int .i64 p)) (h1 : w.cell? ⟨b, 1, none⟩ = some (.int .i64 q)) (h2 : w.cell? ⟨b, 2, none⟩ = some (.int .i64 r)) : IntsAt w (.slice (some ⟨b, 0, none⟩) 3 3) [p, q, r] :=
  ⟨_, _, rfl, Nat.le_refl _, (fun h => by cases h), fun i hi => ⟨b, 0, rfl, by
    match i, hi with
    | 0, _ => exact h0
    | 1, _ => exact h1
    | 2, _ => exact h2
    | i + 3, hi => exact absurd hi (by simp only [List.length_cons, List.length_nil]; omega)⟩⟩

set_option maxHeartbeats 1000000 in
theorem cmp3_any (x1 x2 x3 y1 y2 y3 : Int) (W : World) :
    Calls Tryz.prog 30 #[.agg #[.int .i64 x1, .int .i64 x2, .int .i64 x3], .agg #[.int .i64 y1, .int .i64 y2, .int .i64 y3]] W fun e w' => e = .returned (.int .i64 (cmpL [x1, x2, x3] [y1, y2, y3])) ∧ ∃ q os', w' = grow (W.drewN q) os' := by
  have H : ∀ n, Calls Tryz.prog 31 #[.slice (some ⟨W.heap.size, 0, none⟩) 3 3, .slice (some ⟨W.heap.size + 1, 0, none⟩) 3 3] (((W.alloc (.cells #[.int .i64 x1, .int .i64 x2, .int .i64 x3] 36)).alloc (.cells #[.int .i64 y1, .int .i64 y2, .int .i64 y3] 36)).drewN n)
      fun e w' => e = .returned (.int .i64 (cmpL [x1, x2, x3] [y1, y2, y3])) ∧ w' = ((W.alloc (.cells #[.int .i64 x1, .int .i64 x2, .int .i64 x3] 36)).alloc (.cells #[.int .i64 y1, .int .i64 y2, .int .i64 y3] 36)).drewN n := fun n =>
    (compare_any _ _ [x1, x2, x3] [y1, y2, y3] _ (intsAt_triple _ _ _ _ _ (by simp) (by simp) (by simp)) (intsAt_triple _ _ _ _ _ (by simp) (by simp) (by simp)) (by simp) (by simp)).mono fun e w' h => ⟨h.1, h.2.symm⟩
  go_enter Tryz.func30, Tryz.ntmps30
  go_wp2_with fail
  go_quiet ((go_at_call 31; exact Calls.quiet_of_same (H _)))
  go_wp2
  go_ret
  exact ⟨rfl, nq, #[.cells #[.int .i64 x1, .int .i64 x2, .int .i64 x3] 36, .cells #[.int .i64 y1, .int .i64 y2, .int .i64 y3] 36], by
    rw [alloc_eq_grow, alloc_eq_grow, grow_grow]; rfl⟩

theorem cmpLays3 (blk off size : Nat) (w : World) : Go.Proofs.CmpLays Tryz.prog 30 #[] enc3 3 cmp3 blk off size w := by
  intro m os dk _ x y
  exact cmp3_any x.1 x.2.1 x.2.2 y.1 y.2.1 y.2.2 _

def lt3 (x y : Nat × Nat × Nat) : Bool := decide (x.1 < y.1 ∨ x.1 = y.1 ∧ (x.2.1 < y.2.1 ∨ x.2.1 = y.2.1 ∧ x.2.2 < y.2.2))
theorem ltOf3 (x y : Nat × Nat × Nat) : Go.Proofs.ltOf cmp3 x y = lt3 x y := by
  have h : cmp3 x y < 0 ↔ (x.1 < y.1 ∨ x.1 = y.1 ∧ (x.2.1 < y.2.1 ∨ x.2.1 = y.2.1 ∧ x.2.2 < y.2.2)) := by
    unfold cmp3 tripL
    simp only [cmpL]
    (repeat' split) <;> omega
  exact decide_eq_decide.2 h
theorem ltOf3_eq : Go.Proofs.ltOf cmp3 = lt3 := funext fun x => funext fun y => ltOf3 x y
theorem swo3 : SWO (Go.Proofs.ltOf cmp3) where
  irrefl x := by rw [ltOf3]; simp [lt3]
  trans x y z h1 h2 := by rw [ltOf3] at *; simp only [lt3, decide_eq_true_eq] at *; omega
  ntrans x y z h1 h2 := by rw [ltOf3] at *; simp only [lt3, decide_eq_false_iff_not] at *; omega
theorem tot3 (x y : Nat × Nat × Nat) (h1 : Go.Proofs.ltOf cmp3 x y = false) (h2 : Go.Proofs.ltOf cmp3 y x = false) : x = y := by
  rw [ltOf3] at *
  simp only [lt3, decide_eq_false_iff_not] at *
  exact Prod.ext (by omega) (Prod.ext (by omega) (by omega))

/-- the list sorted -/
def sort3 (l : List (Nat × Nat × Nat)) : List (Nat × Nat × Nat) := l.mergeSort fun x y => !lt3 y x

def SortPost3 (B : Nat) (w : World) (v : Value) (l : List (Nat × Nat × Nat)) (e : Ending) (w' : World) : Prop :=
  e = .returned (.tuple #[]) ∧ w'.ownsRow B 36 3 v (sort3 l).length (cells3 (sort3 l)) ∧ w.grownBy w' v.ownBlock

theorem sort3_any (B : Nat) (v : Value) (l : List (Nat × Nat × Nat)) (w : World) (hl : l.length ≤ 100000) (hown : w.ownsRow B 36 3 v l.length (cells3 l)) :
    Calls Tryz.prog 29 #[v, .func (.func 30) #[] #[]] w (SortPost3 B w v l) := by
  have hlen : (sort3 l).length = l.length := List.length_mergeSort _
  rcases Joins.ownsRow_forms hown with ⟨rfl, h0⟩ | ⟨g, cap, rfl⟩
  · have hl0 : l = [] := List.length_eq_zero_iff.1 h0
    subst hl0
    exact (Tryz.slices_SortFunc_none (α := Nat) none 0 (.func (.func 30) #[] #[]) w).mono fun e w' ⟨he, hw⟩ => ⟨he, by rw [hw, show sort3 [] = [] from by simp [sort3]]; exact World.ownsRow_nil _ _ _ _, by rw [hw]; exact World.grownBy.refl _ _⟩
  · have eg : ∀ args w, (callFunc 30 args).run Tryz.prog w = .ok (.enter 30 args) w := enters_of Tryz.func30 (by kernel_rfl) rfl
    have hg : g < w.heap.size := ((hown.lt g rfl)).2
    rw [cells3_flat] at hown
    have hH := holdsK_of_owns enc3_len (by decide) rfl hown
    have h := Tryz.slices_SortFunc_total 3 Tryz.isAgg36 Tryz.sizeOf36 enc3 enc3_len (fun x v hv => by simp [enc3] at hv; rcases hv with rfl | rfl | rfl <;> rfl) cmp3 swo3 30 #[] g 0 cap l.toArray w eg (cmpLays3 g 0 _ w) hH hg (by simp; omega) tot3
    have e1 : l.toArray.size = l.length := by simp
    rw [e1] at h
    refine h.mono fun e w' ⟨he, n, os, hw⟩ => ⟨he, ?_, ?_⟩
    · rw [hw, hlen]
      have e2 : (l.toArray.toList.mergeSort fun x y => !(Go.Proofs.ltOf cmp3) y x) = sort3 l := by rw [ltOf3_eq]; rfl
      rw [e2, cells3_flat]
      exact sortK_owns enc3_len (by decide) hlen hown
    · rw [hw]; exact sortK_grown _
end Go.Proofs.YtnijedeopnjklaaGreatDoor
