/-
  The closed fact: of one generator whose third power is nothing there are three cosets.
-/
import Derived.Test.YtedehmknijlgpaaDoorCst
import Derived.Test.YtedehmknijlgpaaDoorSame
set_option linter.unusedSimpArgs false
set_option linter.unusedVariables false
namespace Go.Proofs.YtedehmknijlgpaaDoor
open Go Go.RowKit Go.Maps

theorem three_full : (cosM 1 [[1, 1, 1]] []).full = false := by decide +kernel
theorem three_ord : (TC.ordO (cosM 1 [[1, 1, 1]] []) 2 3).length = 3 := by decide +kernel
theorem three_tab : TC.tabT (cosM 1 [[1, 1, 1]] []) 2 3 = [[1, 2], [2, 0], [0, 1]] := by decide +kernel
theorem three_cos : cosA 1 [[1, 1, 1]] [] = (0, [[1, 2], [2, 0], [0, 1]]) := by
  have h0 : groupErr 1 [[1, 1, 1]] = 0 := by decide +kernel
  unfold cosA
  rw [h0, if_neg (by decide), if_neg (by decide), if_neg (by decide)]
  show cosT 1 [[1, 1, 1]] [] = _
  unfold cosT
  rw [three_full, if_neg (by decide)]
  have e := TC.ordO_stop three_ord 5001 (by decide)
  show (if 400 < (TC.ordO (cosM 1 [[1, 1, 1]] []) 2 5001).length then _ else _) = _
  rw [e, three_ord, if_neg (by decide)]
  rw [three_tab]

theorem ints_lit (B : Nat) (w : World) (xs : List Int) : IntsIn B (w.alloc (.cells (intVs xs).toArray 3)) (.slice (some ⟨w.heap.size, 0, none⟩) xs.length xs.length) xs := by
  refine ⟨some ⟨w.heap.size, 0, none⟩, xs.length, rfl, Nat.le_refl _, (fun e => by cases e), fun i hi => ⟨w.heap.size, 0, rfl, ?_, Or.inr ⟨_, heap_alloc_new w _⟩⟩⟩
  have h := heap_alloc_new w (.cells (intVs xs).toArray 3)
  simp only [World.cell?, h]
  simp [intVs, List.getD_eq_getElem?_getD, List.getElem?_eq_getElem hi]
theorem lists_lit (B : Nat) (w : World) (L : List (List Int)) (hs : List Value) (hl : hs.length = L.length) (hi : ∀ i, i < L.length → IntsIn B w (hs.getD i .nilIface) (L.getD i [])) :
    ListsIn B (w.alloc (.cells hs.toArray 27)) (.slice (some ⟨w.heap.size, 0, none⟩) L.length L.length) L := by
  have hb : Below w.heap.size w (w.alloc (.cells hs.toArray 27)) := (Below.refl _ _).alloc (Nat.le_refl _) _
  refine ⟨some ⟨w.heap.size, 0, none⟩, L.length, rfl, Nat.le_refl _, (fun e => by cases e), fun i h => ⟨w.heap.size, 0, hs.getD i .nilIface, rfl, ?_, (hi i h).below hb (Nat.le_refl _)⟩⟩
  have h2 := heap_alloc_new w (.cells hs.toArray 27)
  have h3 : i < hs.length := by omega
  simp only [World.cell?, h2]
  simp [List.getD_eq_getElem?_getD, List.getElem?_eq_getElem h3]

theorem lit_size (w : World) (o : Obj) : (w.alloc o).heap.size = w.heap.size + 1 := by simp
theorem lit_below (w : World) (o : Obj) : Below w.heap.size w (w.alloc o) := (Below.refl _ _).alloc (Nat.le_refl _) _
theorem three_in (w : World) (x1 x2 x3 : List Int) : ListsIn 0 ((((w.alloc (.cells (intVs x1).toArray 3)).alloc (.cells (intVs x2).toArray 3)).alloc (.cells (intVs x3).toArray 3)).alloc
    (.cells #[.slice (some ⟨w.heap.size, 0, none⟩) x1.length x1.length, .slice (some ⟨w.heap.size + 1, 0, none⟩) x2.length x2.length, .slice (some ⟨w.heap.size + 1 + 1, 0, none⟩) x3.length x3.length] 27))
    (.slice (some ⟨w.heap.size + 1 + 1 + 1, 0, none⟩) 3 3) [x1, x2, x3] := by
  have h1 := (((ints_lit 0 w x1).below (lit_below _ (.cells (intVs x2).toArray 3)) (Nat.le_refl _))).below (lit_below _ (.cells (intVs x3).toArray 3)) (Nat.le_refl _)
  have h2 := (ints_lit 0 (w.alloc (.cells (intVs x1).toArray 3)) x2).below (lit_below _ (.cells (intVs x3).toArray 3)) (Nat.le_refl _)
  have h3 := ints_lit 0 ((w.alloc (.cells (intVs x1).toArray 3)).alloc (.cells (intVs x2).toArray 3)) x3
  rw [lit_size] at h2
  rw [lit_size, lit_size] at h3
  have h := lists_lit 0 _ [x1, x2, x3] [.slice (some ⟨w.heap.size, 0, none⟩) x1.length x1.length, .slice (some ⟨w.heap.size + 1, 0, none⟩) x2.length x2.length, .slice (some ⟨w.heap.size + 1 + 1, 0, none⟩) x3.length x3.length] rfl (fun i hi => by
    match i, hi with
    | 0, _ => exact h1
    | 1, _ => exact h2
    | 2, _ => exact h3
    | n + 3, hi => exact absurd hi (by simp))
  rw [lit_size, lit_size, lit_size] at h
  exact h
theorem one_in (w : World) (x : List Int) : ListsIn 0 ((w.alloc (.cells (intVs x).toArray 3)).alloc (.cells #[.slice (some ⟨w.heap.size, 0, none⟩) x.length x.length] 27)) (.slice (some ⟨w.heap.size + 1, 0, none⟩) 1 1) [x] := by
  have h1 := ints_lit 0 w x
  have h := lists_lit 0 _ [x] [.slice (some ⟨w.heap.size, 0, none⟩) x.length x.length] rfl (fun i hi => by
    match i, hi with
    | 0, _ => exact h1
    | n + 1, hi => exact absurd hi (by simp))
  rw [lit_size] at h
  exact h
set_option maxRecDepth 100000 in
set_option maxHeartbeats 8000000 in
theorem three_any (a1 a2 : Addr) (w : World) (hS : Sen w a1 a2) : Calls Tryd.prog 6 #[] w (Gives (.bool true) w) := by
  have hb0 : Below w.heap.size w ((w.alloc (.cells (intVs [1, 1, 1]).toArray 3)).alloc (.cells #[.slice (some ⟨w.heap.size, 0, none⟩) 3 3] 27)) := ((Below.refl w.heap.size w).alloc (Nat.le_refl _) _).alloc (by simp) _
  have HB0 := Lib.hid hb0
  have HC := Lib.hid (cosets_any 0 1 [[1, 1, 1]] [] _ (.slice none 0 0) a1 a2 _ (hS.below hb0 (Nat.le_refl _)) (one_in w [1, 1, 1]) (ListsIn.nil _ _) (by decide) (by decide) (by decide) (by decide))
  rw [three_cos] at HC
  unfold CosP at HC
  unfold Gives
  clear hS hb0
  go_enter Tryd.func6, Tryd.ntmps6
  go_wp2_with fail
  refine HC.out.mono ?_
  rintro e w1 ⟨hb1, v, rfl, hl⟩
  rw [show errV a1 a2 ((0, [[1, 2], [2, 0], [0, 1]]) : Nat × List (List Int)).1 = Value.nilIface from rfl]
  have HB1 := Lib.hid (HB0.out.trans (hb1.mono (by simp; omega)))
  have HL := Lib.hid (hl 0)
  have hb3 : Below w1.heap.size w1 ((((w1.alloc (.cells (intVs [1, 2]).toArray 3)).alloc (.cells (intVs [2, 0]).toArray 3)).alloc (.cells (intVs [0, 1]).toArray 3)).alloc (.cells #[.slice (some ⟨w1.heap.size, 0, none⟩) 2 2, .slice (some ⟨w1.heap.size + 1, 0, none⟩) 2 2, .slice (some ⟨w1.heap.size + 1 + 1, 0, none⟩) 2 2] 27)) :=
    ((((Below.refl w1.heap.size w1).alloc (Nat.le_refl _) _).alloc (by simp) _).alloc (by simp; omega) _).alloc (by simp; omega) _
  have HB3 := Lib.hid hb3
  have HSL := Lib.hid (sameLists_any true 0 0 [[1, 2], [2, 0], [0, 1]] [[1, 2], [2, 0], [0, 1]] v _ _ (by decide) (HL.out.below hb3 (Nat.le_refl _)) (three_in w1 [1, 2] [2, 0] [0, 1]) (by decide) (by decide) (by decide) (by decide))
  unfold Drew at HSL
  clear hb1 hl hb3
  go_wp2_with fail
  refine HSL.out.mono ?_
  rintro e w2 ⟨rfl, z, hz⟩
  have HBF : Hid (Below w.heap.size w w2) := by
    unfold Hid
    rw [hz]
    have h := HB1.out.trans (HB3.out.mono HB1.out.size)
    exact ⟨h.os, h.tape, h.output, h.size, h.block⟩
  clear hz
  go_wp2_with fail
  go_ret
  exact ⟨rfl, HBF.out⟩
end Go.Proofs.YtedehmknijlgpaaDoor
