/-
  'small' of package label, one: number, the sort of a triple's points, the closure 'put'.
-/
import Derived.Test.YtnijedeopnjklaaGreatDoorPts
import Derived.Test.YtnijedeopnjklaaGreatDoorBase
namespace Go.Proofs.YtnijedeopnjklaaGreatDoor
open Go Go.RowKit Go.Sort Go.Lib

theorem Tryz.info36 : (Tryz.prog.info? 36).map (fun i => (i.zero, i.size, i.bytes)) = some (some (.agg #[.int .i64 0, .int .i64 0, .int .i64 0]), 3, 24) := by kernel_rfl

/-- the number of a point -/
def numN (n i j : Nat) : Nat := i * (n + 1) - i * (i - 1) / 2 + j
def numI (n i : Nat) : Int := (i : Int) * ((n : Int) + 1) - ((i : Int) * ((i : Int) - 1)).tdiv 2
theorem numI_eq : ∀ n, n ≤ 12 → ∀ i, i ≤ n → numI n i = ((i * (n + 1) - i * (i - 1) / 2 : Nat) : Int) := by decide

set_option maxHeartbeats 1000000 in
theorem number_any (n i j : Nat) (hn : n ≤ 12) (hi : i ≤ n) (hj : j ≤ 12) (p q : Int) (hp : p = (i : Int)) (hq : q = (j : Int)) (w : World) :
    Calls Tryz.prog 22 #[.int .i64 (n : Int), .int .i64 p, .int .i64 q] w fun e w' => e = .returned (.int .i64 (numN n i j : Nat)) ∧ w' = w := by
  subst hp; subst hq
  have h0 := numI_eq n hn i hi
  unfold numI at h0
  have hN : (numN n i j : Int) = ((i : Int) * ((n : Int) + 1) - ((i : Int) * ((i : Int) - 1)).tdiv 2) + j := by
    rw [h0]; unfold numN; omega
  have b1 := mul_bd2 (i : Int) ((n : Int) + 1) (by omega) (by omega) (by omega) (by omega)
  have b2 := mul_bd2 (i : Int) ((i : Int) - 1) (by omega) (by omega) (by omega) (by omega)
  rw [hN]
  clear hN
  obtain ⟨b1, b1'⟩ := b1
  obtain ⟨b2, b2'⟩ := b2
  have b0 : i * (n + 1) ≤ 12 * 13 := Nat.mul_le_mul (by omega) (by omega)
  have b3 : -50000 ≤ ((i : Int) * ((i : Int) - 1)).tdiv 2 ∧ ((i : Int) * ((i : Int) - 1)).tdiv 2 ≤ 50000 := by omega
  clear h0 b0
  obtain ⟨b3, b3'⟩ := b3
  go_enter Tryz.func22, Tryz.ntmps22
  go_wp2
  go_ret
  exact ⟨rfl, rfl⟩

def enc3 (p : Nat × Nat × Nat) : List Value := [.int .i64 (p.1 : Int), .int .i64 (p.2.1 : Int), .int .i64 (p.2.2 : Int)]
theorem enc3_len (p : Nat × Nat × Nat) : (enc3 p).length = 3 := rfl
theorem cells3_flat (l : List (Nat × Nat × Nat)) : cells3 l = l.flatMap enc3 := rfl

/-- [a, b, c] sorted is [x, y, z] -/
def Sorts (a b c x y z : Nat) : Prop := ([(a : Int), (b : Int), (c : Int)] : List Int).mergeSort (fun x y => decide (x ≤ y)) = [(x : Int), (y : Int), (z : Int)]
theorem sorts_up {a b c : Nat} (h1 : a < b) (h2 : b < c) : Sorts a b c a b c := by
  unfold Sorts
  exact List.mergeSort_of_pairwise (by simp; omega)
theorem sorts_down {a b c : Nat} (h1 : c < b) (h2 : b < a) : Sorts a b c c b a := by
  unfold Sorts
  have hs : (([(a : Int), (b : Int), (c : Int)] : List Int).mergeSort (fun x y => decide (x ≤ y))).Pairwise (fun x y => decide (x ≤ y) = true) := List.pairwise_mergeSort (fun x y z h1 h2 => by simp at *; omega) (fun x y => by simp; omega) _
  have hp := List.mergeSort_perm ([(a : Int), (b : Int), (c : Int)] : List Int) (fun x y => decide (x ≤ y))
  have hp2 : List.Perm [(c : Int), (b : Int), (a : Int)] [(a : Int), (b : Int), (c : Int)] := by
    have := List.reverse_perm [(a : Int), (b : Int), (c : Int)]
    simpa using this
  exact List.Perm.eq_of_pairwise (le := fun x y => decide (x ≤ y) = true) (fun x y _ _ h1 h2 => by simp at *; omega) hs (by simp; omega) (hp.trans hp2.symm)

theorem sort3_call (a b c x y z : Nat) (hs : Sorts a b c x y z) (g : Nat) (W : World) (hg : W.heap[g]? = some (.cells #[.int .i64 (a : Int), .int .i64 (b : Int), .int .i64 (c : Int)] 36 (0, 0))) :
    Calls Tryz.prog 28 #[.slice (some ⟨g, 0, none⟩) 3 3] W fun e w' => e = .returned (.tuple #[]) ∧ W.grownBy w' (some g) ∧ w'.heap[g]? = some (.cells #[.int .i64 (x : Int), .int .i64 (y : Int), .int .i64 (z : Int)] 36 (0, 0)) := by
  have hlt : g < W.heap.size := (Array.getElem?_eq_some_iff.1 hg).1
  have hH : Holds (Value.int .i64) W g 0 ([(a : Int), (b : Int), (c : Int)] : List Int).toArray := by
    intro j hj
    have hj3 : j < 3 := by simpa using hj
    rcases (show j = 0 ∨ j = 1 ∨ j = 2 by omega) with rfl | rfl | rfl <;> simp [World.cell?, World.frozen?, hg]
  refine (Tryz.slices_Sort_int g 0 3 [(a : Int), (b : Int), (c : Int)] W hH hlt (by simp)).mono fun e w' ⟨he, n, os, hw⟩ => ⟨he, ?_, ?_⟩
  · rw [hw, hs]
    refine ⟨rfl, rfl, rfl, by simp [putRow, mapBlock, Sort.ahead, size_grow], fun j hj hne => ?_⟩
    rw [heap_grow_old _ _ (by simpa [putRow, mapBlock, Sort.ahead] using hj)]
    have : g ≠ j := fun e => hne (by rw [e])
    simp [putRow, mapBlock, Sort.ahead, Array.getElem?_modify, this]
  · rw [hw, hs]
    rw [heap_grow_old _ _ (by simpa [putRow, mapBlock, Sort.ahead] using hlt)]
    simp [putRow, mapBlock, Sort.ahead, Array.getElem?_modify, hg, onCells, putCells]
end Go.Proofs.YtnijedeopnjklaaGreatDoor
