/-
  'Opposite' of package label, two: the comparison that it hands to the sort, and the sort of pairs.
-/
import Derived.Test.YtnijedeopnjklaaDoorOppA
namespace Go.Proofs.YtnijedeopnjklaaDoor
open Go Go.RowKit Go.Sort Go.Lib

def pairL (p : Nat × Nat) : List Int := [(p.1 : Int), (p.2 : Int)]
def cmp2 (x y : Nat × Nat) : Int := cmpL (pairL x) (pairL y)

theorem intsAt_pair (w : World) (b : Nat) (p q : Int) (h0 : w.cell? ⟨b, 0, none⟩ = some (.int .i64 p)) (h1 : w.cell? ⟨b, 1, none⟩ = some (.int .i64 q)) : IntsAt w (.slice (some ⟨b, 0, none⟩) 2 2) [p, q] :=
  ⟨_, _, rfl, Nat.le_refl _, (fun h => by cases h), fun i hi => ⟨b, 0, rfl, by
    match i, hi with
    | 0, _ => exact h0
    | 1, _ => exact h1
    | i + 2, hi => exact absurd hi (by simp only [List.length_cons, List.length_nil]; omega)⟩⟩

set_option maxHeartbeats 1000000 in
theorem cmp2_any (x1 x2 y1 y2 : Int) (W : World) :
    Calls Tryd.prog 23 #[.agg #[.int .i64 x1, .int .i64 x2], .agg #[.int .i64 y1, .int .i64 y2]] W fun e w' => e = .returned (.int .i64 (cmpL [x1, x2] [y1, y2])) ∧ ∃ q os', w' = grow (W.drewN q) os' := by
  have H : ∀ n, Calls Tryd.prog 24 #[.slice (some ⟨W.heap.size, 0, none⟩) 2 2, .slice (some ⟨W.heap.size + 1, 0, none⟩) 2 2] (((W.alloc (.cells #[.int .i64 x1, .int .i64 x2] 48)).alloc (.cells #[.int .i64 y1, .int .i64 y2] 48)).drewN n)
      fun e w' => e = .returned (.int .i64 (cmpL [x1, x2] [y1, y2])) ∧ w' = ((W.alloc (.cells #[.int .i64 x1, .int .i64 x2] 48)).alloc (.cells #[.int .i64 y1, .int .i64 y2] 48)).drewN n := fun n =>
    (compare_any _ _ [x1, x2] [y1, y2] _ (intsAt_pair _ _ _ _ (by simp) (by simp)) (intsAt_pair _ _ _ _ (by simp) (by simp)) (by simp) (by simp)).mono fun e w' h => ⟨h.1, h.2.symm⟩
  go_enter Tryd.func23, Tryd.ntmps23
  go_wp2_with fail
  go_quiet ((go_at_call 24; exact Calls.quiet_of_same (H _)))
  go_wp2
  go_ret
  exact ⟨rfl, nq, #[.cells #[.int .i64 x1, .int .i64 x2] 48, .cells #[.int .i64 y1, .int .i64 y2] 48], by
    rw [alloc_eq_grow, alloc_eq_grow, grow_grow]; rfl⟩

theorem cmpLays2 (blk off size : Nat) (w : World) : Go.Proofs.CmpLays Tryd.prog 23 #[] enc2 2 cmp2 blk off size w := by
  intro m os dk _ x y
  exact cmp2_any x.1 x.2 y.1 y.2 _

def lt2 (x y : Nat × Nat) : Bool := decide (x.1 < y.1 ∨ x.1 = y.1 ∧ x.2 < y.2)
theorem ltOf2 (x y : Nat × Nat) : Go.Proofs.ltOf cmp2 x y = lt2 x y := by
  have h : cmp2 x y < 0 ↔ (x.1 < y.1 ∨ x.1 = y.1 ∧ x.2 < y.2) := by
    unfold cmp2 pairL
    simp only [cmpL]
    (repeat' split) <;> omega
  exact decide_eq_decide.2 h
theorem ltOf2_eq : Go.Proofs.ltOf cmp2 = lt2 := funext fun x => funext fun y => ltOf2 x y
theorem swo2 : SWO (Go.Proofs.ltOf cmp2) where
  irrefl x := by rw [ltOf2]; simp [lt2]
  trans x y z h1 h2 := by rw [ltOf2] at *; simp only [lt2, decide_eq_true_eq] at *; omega
  ntrans x y z h1 h2 := by rw [ltOf2] at *; simp only [lt2, decide_eq_false_iff_not] at *; omega
theorem tot2 (x y : Nat × Nat) (h1 : Go.Proofs.ltOf cmp2 x y = false) (h2 : Go.Proofs.ltOf cmp2 y x = false) : x = y := by
  rw [ltOf2] at *
  simp only [lt2, decide_eq_false_iff_not] at *
  exact Prod.ext (by omega) (by omega)

/-- the list sorted -/
def sort2 (l : List (Nat × Nat)) : List (Nat × Nat) := l.mergeSort fun x y => !lt2 y x

def SortPost (B : Nat) (w : World) (v : Value) (l : List (Nat × Nat)) (e : Ending) (w' : World) : Prop :=
  e = .returned (.tuple #[]) ∧ w'.ownsRow B 48 2 v (sort2 l).length (cells2 (sort2 l)) ∧ w.grownBy w' v.ownBlock

theorem sort2_any (B : Nat) (v : Value) (l : List (Nat × Nat)) (w : World) (hl : l.length ≤ 100000) (hown : w.ownsRow B 48 2 v l.length (cells2 l)) :
    Calls Tryd.prog 22 #[v, .func (.func 23) #[] #[]] w (SortPost B w v l) := by
  have hlen : (sort2 l).length = l.length := List.length_mergeSort _
  rcases Joins.ownsRow_forms hown with ⟨rfl, h0⟩ | ⟨g, cap, rfl⟩
  · have hl0 : l = [] := List.length_eq_zero_iff.1 h0
    subst hl0
    exact (Tryd.slices_SortFunc_none_f22 (α := Nat) none 0 (.func (.func 23) #[] #[]) w).mono fun e w' ⟨he, hw⟩ => ⟨he, by rw [hw, show sort2 [] = [] from by simp [sort2]]; exact World.ownsRow_nil _ _ _ _, by rw [hw]; exact World.grownBy.refl _ _⟩
  · have eg : ∀ args w, (callFunc 23 args).run Tryd.prog w = .ok (.enter 23 args) w := enters_of Tryd.func23 (by kernel_rfl) rfl
    have hg : g < w.heap.size := ((hown.lt g rfl)).2
    have hH := holdsK_of_owns enc2_len (by decide) rfl hown
    have h := Tryd.slices_SortFunc_total_f22 2 Tryd.isAgg48 Tryd.sizeOf48 enc2 enc2_len (fun x v hv => by simp [enc2] at hv; rcases hv with rfl | rfl <;> rfl) cmp2 swo2 23 #[] g 0 cap l.toArray w eg (cmpLays2 g 0 _ w) hH hg (by simp; omega) tot2
    have e1 : l.toArray.size = l.length := by simp
    rw [e1] at h
    refine h.mono fun e w' ⟨he, n, os, hw⟩ => ⟨he, ?_, ?_⟩
    · rw [hw, hlen]
      have e2 : (l.toArray.toList.mergeSort fun x y => !(Go.Proofs.ltOf cmp2) y x) = sort2 l := by rw [ltOf2_eq]; rfl
      rw [e2]
      exact sortK_owns enc2_len (by decide) hlen hown
    · rw [hw]; exact sortK_grown _
end Go.Proofs.YtnijedeopnjklaaDoor
