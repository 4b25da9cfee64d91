/-
  Matrices: what reads as one; SameMatrix, ref; a matrix that grows by appending (the document's), one that is filled in place (the program's); cells.Make at any sets.
-/
import Derived.Test.YtoheffkiohfmoaaGreatDoorPut
import Derived.Test.YtoheffkiohfmoaaGreatDoorCmp
import Derived.IntWalk
import Derived.Test.YtoheffkiohfmoaaGreatDoorInP
set_option linter.unusedSimpArgs false
set_option linter.unusedVariables false
namespace Go.Proofs.YtoheffkiohfmoaaGreatDoor
open Go Go.RowKit Go.Maps

/-- one goal for the many orders of a region -/
theorem once_more {P Q : Prop} (h : Hid P → Q) (p : P) : Q := h p
theorem once_four {Q : Prop} (H : World → World → Nat → Nat → Prop) {P : World → World → Nat → Nat → Prop} (h : Hid (∀ a b c d, H a b c d → P a b c d) → Q) (p : ∀ a b c d, H a b c d → P a b c d) : Q := h p
theorem lit_size (w : World) (o : Obj) : (w.alloc o).heap.size = w.heap.size + 1 := by simp
theorem lit_below (w : World) (o : Obj) : Below w.heap.size w (w.alloc o) := (Below.refl _ _).alloc (Nat.le_refl _) _
theorem alloc_old {w : World} {o x : Obj} {k : Nat} (h : w.heap[k]? = some x) : (w.alloc o).heap[k]? = some x := ((lit_below w o).block k (Array.getElem?_eq_some_iff.1 h).1).trans h
theorem grown_at (w : World) (b k : Nat) (v : Value) : w.grownBy (w.setCell ⟨b, k, none⟩ v) (some b) :=
  ⟨rfl, rfl, rfl, Nat.le_of_eq (by simp [World.setCell]), fun j _ hj => Below.heap_setCell _ _ _ j (fun e => hj (by rw [e]))⟩

theorem intVs_snoc (xs : List Int) (x : Int) : intVs (xs ++ [x]) = intVs xs ++ [.int .i64 x] := by simp [intVs]
/-- cells of a block that is known whole -/
theorem blk_at {w : World} {b : Nat} {cs : Array Value} {t : TypeId} (h : w.heap[b]? = some (.cells cs t (0, 0))) (k : Nat) : w.cell? ⟨b, k, none⟩ = cs[k]? ∧ w.frozen? ⟨b, k, none⟩ = false :=
  ⟨cell_of_row w b k cs t (0, 0) h, frozen_of_row w b k cs t h⟩

def MatPost (B R C : Nat) (l : List Int) (w : World) (e : Ending) (w' : World) : Prop := ∃ p c, e = .returned (.agg #[.int .i64 R, .int .i64 C, .slice p l.length c]) ∧ Below w.heap.size w w' ∧ IntsIn B w' (.slice p l.length c) l

/-- a matrix that grows: the result's block, the matrix's, its numbers -/
def BordSt (w wr : World) (n m : Nat) (x : Value) (l : List Int) : Prop :=
  Below w.heap.size w wr ∧ wr.heap[w.heap.size]? = some (.cells #[.int .i64 0, .int .i64 0, .slice none 0 0] 63 (0, 0)) ∧ wr.heap[w.heap.size + 1]? = some (.cells #[.int .i64 n, .int .i64 m, x] 63 (0, 0)) ∧
    wr.ownsRow (w.heap.size + 2) 3 1 x l.length (intVs l)
theorem BordSt.start (w : World) (n m : Nat) : BordSt w ((w.alloc (.cells #[.int .i64 0, .int .i64 0, .slice none 0 0] 63)).alloc (.cells #[.int .i64 n, .int .i64 m, .slice none 0 0] 63)) n m (.slice none 0 0) [] := by
  refine ⟨((Below.refl _ _).alloc (Nat.le_refl _) _).alloc (by simp) _, ?_, ?_, World.ownsRow_nil _ _ _ _⟩
  · exact ((lit_below _ _).block _ (by simp)).trans (heap_alloc_new w _)
  · have h := heap_alloc_new (w.alloc (.cells #[.int .i64 0, .int .i64 0, .slice none 0 0] 63)) (.cells #[.int .i64 n, .int .i64 m, .slice none 0 0] 63)
    rw [lit_size] at h
    exact h
theorem BordSt.below {w wr w' : World} {n m : Nat} {x : Value} {l : List Int} (h : BordSt w wr n m x l) (hb : Below wr.heap.size wr w') : BordSt w w' n m x l :=
  ⟨h.1.trans (hb.mono h.1.size), (hb.block _ (Array.getElem?_eq_some_iff.1 h.2.1).1).trans h.2.1, (hb.block _ (Array.getElem?_eq_some_iff.1 h.2.2.1).1).trans h.2.2.1, owns_keep h.2.2.2 fun k hk => hb.block k (h.2.2.2.lt k hk).2⟩
theorem BordSt.slice {w wr : World} {n m : Nat} {x : Value} {l : List Int} (h : BordSt w wr n m x l) : ∃ p c, x = .slice p l.length c := (ints_owned (B := 0) h.2.2.2 rfl).len
theorem BordSt.push {w wr w9 : World} {n m : Nat} {x v' : Value} {l : List Int} {e : Int} (h : BordSt w wr n m x l) (h' : w9.ownsRow (w.heap.size + 2) 3 1 v' (l.length + 1) (intVs l ++ [.int .i64 e])) (hg : (wr.alloc (.cells #[.int .i64 e] 3)).grownBy w9 x.ownBlock) :
    w9.heap[w.heap.size + 1]? = some (.cells #[.int .i64 n, .int .i64 m, x] 63 (0, 0)) ∧ BordSt w (w9.setCell ⟨w.heap.size + 1, 2, none⟩ v') n m v' (l ++ [e]) := by
  have hb : Below wr.heap.size wr (wr.alloc (.cells #[.int .i64 e] 3)) := (Below.refl _ _).alloc (Nat.le_refl _) _
  have h1 := h.below hb
  have hlt := h1.2.2.2.lt
  have hk1 : w9.heap[w.heap.size]? = some (.cells #[.int .i64 0, .int .i64 0, .slice none 0 0] 63 (0, 0)) := (hg.block _ (Array.getElem?_eq_some_iff.1 h1.2.1).1 (fun e => by have := (hlt _ e.symm).1; omega)).trans h1.2.1
  have hk2 : w9.heap[w.heap.size + 1]? = some (.cells #[.int .i64 n, .int .i64 m, x] 63 (0, 0)) := (hg.block _ (Array.getElem?_eq_some_iff.1 h1.2.2.1).1 (fun e => by have := (hlt _ e.symm).1; omega)).trans h1.2.2.1
  refine ⟨hk2, ((h1.1.grown hg h1.1.size (fun k e => by have := (hlt k e).1; omega)).setCell (Nat.le_succ _) _), ?_, ?_, ?_⟩
  · rw [(grown_at w9 (w.heap.size + 1) 2 v').block _ (Array.getElem?_eq_some_iff.1 hk1).1 (fun e => by have := Option.some.inj e; omega)]
    exact hk1
  · exact set_block hk2
  · have hne : ∀ k, v'.ownBlock = some k → some k ≠ some (w.heap.size + 1) := fun k hk e => by
      have h5 := (h'.lt k hk).1
      have h6 := Option.some.inj e
      omega
    have h7 : (w9.setCell ⟨w.heap.size + 1, 2, none⟩ v').ownsRow (w.heap.size + 2) 3 1 v' (l.length + 1) (intVs l ++ [.int .i64 e]) := owns_keep h' fun k hk => (grown_at w9 (w.heap.size + 1) 2 v').block k (h'.lt k hk).2 (hne k hk)
    rw [List.length_append, intVs_snoc]
    exact h7

/-- a matrix's value reads -/
def MatIn (B R C : Nat) (w : World) (v : Value) (l : List Int) : Prop := ∃ p c, v = .agg #[.int .i64 R, .int .i64 C, .slice p l.length c] ∧ IntsIn B w (.slice p l.length c) l
theorem MatIn.below {B R C D : Nat} {w w' : World} {v : Value} {l : List Int} (h : MatIn B R C w v l) (hb : Below D w w') (hD : w.heap.size ≤ D) : MatIn B R C w' v l := by
  obtain ⟨p, c, e, hi⟩ := h
  exact ⟨p, c, e, hi.below hb hD⟩

set_option maxHeartbeats 8000000 in
theorem sameMatrix_any (B B' R C : Nat) (l : List Int) (u v : Value) (w : World) (hu : MatIn B R C w u l) (hv : MatIn B' R C w v l) (hl : l.length ≤ 1000000) :
    Calls Tryz.prog 30 #[u, v] w (Gives (.bool true) w) := by
  obtain ⟨p, c, rfl, hi⟩ := hu
  obtain ⟨p', c', rfl, hi'⟩ := hv
  obtain ⟨s, hs⟩ : ∃ s, l.length = s := ⟨_, rfl⟩
  rw [hs] at hi hi' ⊢
  obtain ⟨w0, hw0⟩ : ∃ w0, w0 = (w.alloc (.cells #[.int .i64 R, .int .i64 C, .slice p s c] 63)).alloc (.cells #[.int .i64 R, .int .i64 C, .slice p' s c'] 63) := ⟨_, rfl⟩
  have hb0 : Below w.heap.size w w0 := by rw [hw0]; exact ((Below.refl _ _).alloc (Nat.le_refl _) _).alloc (by simp) _
  have hk1 : w0.heap[w.heap.size]? = some (.cells #[.int .i64 R, .int .i64 C, .slice p s c] 63 (0, 0)) := by
    rw [hw0]; exact ((lit_below _ _).block _ (by simp)).trans (heap_alloc_new w _)
  have hk2 : w0.heap[w.heap.size + 1]? = some (.cells #[.int .i64 R, .int .i64 C, .slice p' s c'] 63 (0, 0)) := by
    rw [hw0]
    have h := heap_alloc_new (w.alloc (.cells #[.int .i64 R, .int .i64 C, .slice p s c] 63)) (.cells #[.int .i64 R, .int .i64 C, .slice p' s c'] 63)
    rw [lit_size] at h
    exact h
  have a0 : w0.cell? ⟨w.heap.size, 0, none⟩ = some (.int .i64 R) := (blk_at hk1 0).1
  have a1 : w0.cell? ⟨w.heap.size, 1, none⟩ = some (.int .i64 C) := (blk_at hk1 1).1
  have a2 : w0.cell? ⟨w.heap.size, 2, none⟩ = some (.slice p s c) := (blk_at hk1 2).1
  have b0 : w0.cell? ⟨w.heap.size + 1, 0, none⟩ = some (.int .i64 R) := (blk_at hk2 0).1
  have b1 : w0.cell? ⟨w.heap.size + 1, 1, none⟩ = some (.int .i64 C) := (blk_at hk2 1).1
  have b2 : w0.cell? ⟨w.heap.size + 1, 2, none⟩ = some (.slice p' s c') := (blk_at hk2 2).1
  have HSI := Lib.hid (sameInts_any _ _ l l w0 (hi.below hb0 (Nat.le_refl _)).at (hi'.below hb0 (Nat.le_refl _)).at (by omega) (by omega))
  rw [show decide (l = l) = true by simp] at HSI
  have HB0 := Lib.hid hb0
  have HW0 := Lib.hid hw0
  clear hi hi' hb0 hk1 hk2 hw0 hl hs
  go_enter Tryz.func30, Tryz.ntmps30
  go_wp2_with fail
  rw [← HW0.out]
  refine HSI.out.mono ?_
  rintro e w1 ⟨rfl, n1, rfl⟩
  go_wp2_with fail
  go_ret
  exact ⟨rfl, HB0.out.trans ((Below.drewN w0 n1).mono HB0.out.size)⟩

theorem wrap_nat {x : Int} {n : Nat} (h : x = (n : Int)) (hn : n ≤ 9000000000000000000) : IntKind.i64.wrap x = (n : Int) := by
  subst h
  exact IntWalk.i64_in _ (by omega)
theorem wrap_int {x : Int} (h1 : -9000000000000000000 ≤ x) (h2 : x ≤ 9000000000000000000) : IntKind.i64.wrap x = x := IntWalk.i64_in _ (by omega)

/-- numbers in a block -/
def numArr (F : Nat → Int) (n : Nat) : Array Value := ((List.range n).map fun i => Value.int .i64 (F i)).toArray
theorem numArr_at (F : Nat → Int) (n i : Nat) (h : i < n) : (numArr F n)[i]? = some (.int .i64 (F i)) := by
  unfold numArr
  rw [List.getElem?_toArray, List.getElem?_map, List.getElem?_range h]; rfl
theorem numArr_zero (n : Nat) : madeCells #[Value.int .i64 0] n = numArr (fun _ => 0) n := by
  unfold madeCells numArr
  apply Array.ext'
  rw [Array.toList_map, Array.toList_range]
  refine List.map_congr_left fun i _ => ?_
  have : i % (#[Value.int .i64 0] : Array Value).size = 0 := Nat.mod_one i
  rw [this]; rfl
theorem numArr_set (F : Nat → Int) (n k : Nat) (x : Int) : (numArr F n).setIfInBounds k (.int .i64 x) = numArr (upd F k x) n := by
  apply Array.ext_getElem?
  intro i
  rw [Array.getElem?_setIfInBounds]
  by_cases hi : i < n
  · rw [numArr_at F n i hi, numArr_at _ n i hi]
    unfold upd
    by_cases hk : k = i
    · subst hk
      rw [if_pos rfl, if_pos (show k < (numArr F n).size by unfold numArr; simpa using hi), if_pos rfl]
    · rw [if_neg hk, if_neg (fun e => hk e.symm)]
  · have e1 : (numArr F n)[i]? = none := Array.getElem?_eq_none (by unfold numArr; simp; omega)
    have e2 : (numArr (upd F k x) n)[i]? = none := Array.getElem?_eq_none (by unfold numArr; simp; omega)
    rw [e1, e2]
    by_cases hk : k = i
    · subst hk
      rw [if_pos rfl, if_neg (show ¬ k < (numArr F n).size by unfold numArr; simpa using hi)]
    · rw [if_neg hk]
theorem make_ints (N : Nat) (hN : N ≤ 1000000) (w : World) : Sem.run Tryz.prog (Instr.makeSlice 51 (.int .i64 (N : Int)) (.int .i64 (N : Int))) w = .ok (.slice (some ⟨w.heap.size, 0, none⟩) N N) (w.alloc (.cells (numArr (fun _ => 0) N) 3)) := by
  obtain ⟨i3, hi3, hy0, hy1, hy2⟩ := info_parts Tryz.info3
  have h := run_make (P := Tryz.prog) w 51 3 i3 (.int .i64 0) Tryz.underlying51 hi3 hy0 .i64 .i64 (N : Int) (N : Int) (by omega) (by omega) (by rw [hy2]; omega) (by omega)
  rw [Int.toNat_natCast, hy1, Nat.mul_one] at h
  rw [← numArr_zero]
  exact h
theorem numIn {w : World} {B g N : Nat} {F : Nat → Int} {l : List Int} (h : w.heap[g]? = some (.cells (numArr F N) 3 (0, 0))) (hl : l.length = N) (hF : ∀ ix, ix < N → F ix = l.getD ix 0) : IntsIn B w (.slice (some ⟨g, 0, none⟩) N N) l := by
  refine ⟨_, N, by rw [hl], by rw [hl]; exact Nat.le_refl _, (fun e => by cases e), fun i hi => ⟨g, 0, rfl, ?_, Or.inr ⟨_, h⟩⟩⟩
  rw [hl] at hi
  rw [Nat.zero_add, (blk_at h i).1, numArr_at F N i hi, hF i hi]

def RefPost (v : Value) (w : World) (e : Ending) (w' : World) : Prop := e = .returned v ∧ Below w.heap.size w w'
set_option maxRecDepth 100000 in
set_option maxHeartbeats 4000000 in
theorem ref_any (R C : Int) (p : Option Addr) (n c : Nat) (w : World) :
    Calls Tryz.prog 31 #[.agg #[.int .i64 R, .int .i64 C, .slice p n c]] w (RefPost (.agg #[.int .i64 R, .int .i64 C, .slice p n c]) w) := by
  obtain ⟨wf, hwf⟩ : ∃ wf, wf = (w.alloc (.cells #[.int .i64 R, .int .i64 C, .slice p n c] 58)).alloc (.cells #[.int .i64 R, .int .i64 C, .slice p n c] 63) := ⟨_, rfl⟩
  have HBF : Hid (Below w.heap.size w wf) := by unfold Hid; rw [hwf]; exact ((Below.refl _ _).alloc (Nat.le_refl _) _).alloc (by simp) _
  have hkf : wf.heap[w.heap.size + 1]? = some (.cells #[.int .i64 R, .int .i64 C, .slice p n c] 63 (0, 0)) := by
    rw [hwf]
    have h := heap_alloc_new (w.alloc (.cells #[.int .i64 R, .int .i64 C, .slice p n c] 58)) (.cells #[.int .i64 R, .int .i64 C, .slice p n c] 63)
    rw [lit_size] at h
    exact h
  have R0 : Hid (wf.cell? ⟨w.heap.size + 1, 0, none⟩ = some (.int .i64 R)) := (blk_at hkf 0).1
  have R1 : Hid (wf.cell? ⟨w.heap.size + 1, 1, none⟩ = some (.int .i64 C)) := (blk_at hkf 1).1
  have R2 : Hid (wf.cell? ⟨w.heap.size + 1, 2, none⟩ = some (.slice p n c)) := (blk_at hkf 2).1
  have HWF := Lib.hid hwf
  clear hwf hkf
  go_enter Tryz.func31, Tryz.ntmps31
  go_wp2_with fail
  rw [← HWF.out]
  refine bodyPost_ret (v := .agg #[.int .i64 R, .int .i64 C, .slice p n c]) (by simp [results, Tryz.results31, go_sem, R0.out, R1.out, R2.out]) rfl ?_
  exact ⟨rfl, HBF.out⟩

end Go.Proofs.YtoheffkiohfmoaaGreatDoor
