import Derived.Test.YtddnjimpdidpaaaGreatDoorCelV
import Derived.Test.YtddnjimpdidpaaaGreatDoorErrsD
set_option linter.unusedSimpArgs false
set_option linter.unusedVariables false
/-! The law's circle. -/
namespace Go.Proofs.YtddnjimpdidpaaaGreatDoor
open Go Go.RowKit Go.Maps

theorem ints_lit (B : Nat) (w : World) (xs : List Int) : IntsIn B (w.alloc (.cells (intVs xs).toArray 3)) (.slice (some ⟨w.heap.size, 0, none⟩) xs.length xs.length) xs := by
  refine ⟨some ⟨w.heap.size, 0, none⟩, xs.length, rfl, Nat.le_refl _, (fun e => by cases e), fun i hi => ⟨w.heap.size, 0, rfl, ?_, Or.inr ⟨_, heap_alloc_new w _⟩⟩⟩
  have h := heap_alloc_new w (.cells (intVs xs).toArray 3)
  simp only [World.cell?, h]
  simp [intVs, List.getD_eq_getElem?_getD, List.getElem?_eq_getElem hi]
theorem lists_lit (B : Nat) (w : World) (L : List (List Int)) (hs : List Value) (hl : hs.length = L.length) (hi : ∀ i, i < L.length → IntsIn B w (hs.getD i .nilIface) (L.getD i [])) :
    ListsIn B (w.alloc (.cells hs.toArray 23)) (.slice (some ⟨w.heap.size, 0, none⟩) L.length L.length) L := by
  have hb : Below w.heap.size w (w.alloc (.cells hs.toArray 23)) := (Below.refl _ _).alloc (Nat.le_refl _) _
  refine ⟨some ⟨w.heap.size, 0, none⟩, L.length, rfl, Nat.le_refl _, (fun e => by cases e), fun i h => ⟨w.heap.size, 0, hs.getD i .nilIface, rfl, ?_, (hi i h).below hb (Nat.le_refl _)⟩⟩
  have h2 := heap_alloc_new w (.cells hs.toArray 23)
  have h3 : i < hs.length := by omega
  simp only [World.cell?, h2]
  simp [List.getD_eq_getElem?_getD, List.getElem?_eq_getElem h3]

theorem lit_size (w : World) (o : Obj) : (w.alloc o).heap.size = w.heap.size + 1 := by simp
theorem lit_below (w : World) (o : Obj) : Below w.heap.size w (w.alloc o) := (Below.refl _ _).alloc (Nat.le_refl _) _
theorem three_in (w : World) (x1 x2 x3 : List Int) : ListsIn 0 ((((w.alloc (.cells (intVs x1).toArray 3)).alloc (.cells (intVs x2).toArray 3)).alloc (.cells (intVs x3).toArray 3)).alloc
    (.cells #[.slice (some ⟨w.heap.size, 0, none⟩) x1.length x1.length, .slice (some ⟨w.heap.size + 1, 0, none⟩) x2.length x2.length, .slice (some ⟨w.heap.size + 1 + 1, 0, none⟩) x3.length x3.length] 23))
    (.slice (some ⟨w.heap.size + 1 + 1 + 1, 0, none⟩) 3 3) [x1, x2, x3] := by
  have h1 := (((ints_lit 0 w x1).below (lit_below _ (.cells (intVs x2).toArray 3)) (Nat.le_refl _))).below (lit_below _ (.cells (intVs x3).toArray 3)) (Nat.le_refl _)
  have h2 := (ints_lit 0 (w.alloc (.cells (intVs x1).toArray 3)) x2).below (lit_below _ (.cells (intVs x3).toArray 3)) (Nat.le_refl _)
  have h3 := ints_lit 0 ((w.alloc (.cells (intVs x1).toArray 3)).alloc (.cells (intVs x2).toArray 3)) x3
  rw [lit_size] at h2
  rw [lit_size, lit_size] at h3
  have h := lists_lit 0 _ [x1, x2, x3] [.slice (some ⟨w.heap.size, 0, none⟩) x1.length x1.length, .slice (some ⟨w.heap.size + 1, 0, none⟩) x2.length x2.length, .slice (some ⟨w.heap.size + 1 + 1, 0, none⟩) x3.length x3.length] rfl (fun i hi => by
    match i, hi with
    | 0, _ => exact h1
    | 1, _ => exact h2
    | 2, _ => exact h3
    | n + 3, hi => exact absurd hi (by simp))
  rw [lit_size, lit_size, lit_size] at h
  exact h
theorem four_in (w : World) (x1 x2 x3 x4 : List Int) : ListsIn 0 (((((w.alloc (.cells (intVs x1).toArray 3)).alloc (.cells (intVs x2).toArray 3)).alloc (.cells (intVs x3).toArray 3)).alloc (.cells (intVs x4).toArray 3)).alloc
    (.cells #[.slice (some ⟨w.heap.size, 0, none⟩) x1.length x1.length, .slice (some ⟨w.heap.size + 1, 0, none⟩) x2.length x2.length, .slice (some ⟨w.heap.size + 1 + 1, 0, none⟩) x3.length x3.length, .slice (some ⟨w.heap.size + 1 + 1 + 1, 0, none⟩) x4.length x4.length] 23))
    (.slice (some ⟨w.heap.size + 1 + 1 + 1 + 1, 0, none⟩) 4 4) [x1, x2, x3, x4] := by
  have h1 := ((((ints_lit 0 w x1).below (lit_below _ (.cells (intVs x2).toArray 3)) (Nat.le_refl _))).below (lit_below _ (.cells (intVs x3).toArray 3)) (Nat.le_refl _)).below (lit_below _ (.cells (intVs x4).toArray 3)) (Nat.le_refl _)
  have h2 := ((ints_lit 0 (w.alloc (.cells (intVs x1).toArray 3)) x2).below (lit_below _ (.cells (intVs x3).toArray 3)) (Nat.le_refl _)).below (lit_below _ (.cells (intVs x4).toArray 3)) (Nat.le_refl _)
  have h3 := (ints_lit 0 ((w.alloc (.cells (intVs x1).toArray 3)).alloc (.cells (intVs x2).toArray 3)) x3).below (lit_below _ (.cells (intVs x4).toArray 3)) (Nat.le_refl _)
  have h4 := ints_lit 0 (((w.alloc (.cells (intVs x1).toArray 3)).alloc (.cells (intVs x2).toArray 3)).alloc (.cells (intVs x3).toArray 3)) x4
  rw [lit_size] at h2
  rw [lit_size, lit_size] at h3
  rw [lit_size, lit_size, lit_size] at h4
  have h := lists_lit 0 _ [x1, x2, x3, x4] [.slice (some ⟨w.heap.size, 0, none⟩) x1.length x1.length, .slice (some ⟨w.heap.size + 1, 0, none⟩) x2.length x2.length, .slice (some ⟨w.heap.size + 1 + 1, 0, none⟩) x3.length x3.length, .slice (some ⟨w.heap.size + 1 + 1 + 1, 0, none⟩) x4.length x4.length] rfl (fun i hi => by
    match i, hi with
    | 0, _ => exact h1
    | 1, _ => exact h2
    | 2, _ => exact h3
    | 3, _ => exact h4
    | n + 4, hi => exact absurd hi (by simp))
  rw [lit_size, lit_size, lit_size, lit_size] at h
  exact h

end Go.Proofs.YtddnjimpdidpaaaGreatDoor
