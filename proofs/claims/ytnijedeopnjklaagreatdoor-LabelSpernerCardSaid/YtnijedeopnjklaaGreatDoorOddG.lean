/-
  slices.IndexFunc over the small triangles with the walker's closures, in the grid's words.
-/
import Derived.Test.YtnijedeopnjklaaGreatDoorOddF
namespace Go.Proofs.YtnijedeopnjklaaGreatDoor
open Go Go.RowKit Sper

/-- the first triangle from number m on that holds two points; -1: none -/
def firstFrom (L : List (Nat × Nat × Nat)) (m a b : Nat) : Int := Lib.idxBy (fun _ y => holds2 a b y) (L.drop m) default

theorem first_hit (L : List (Nat × Nat × Nat)) (m a b k : Nat) (hk : m + k < L.length) (h : holds2 a b (tri L (m + k)) = true) (hne : ∀ j, j < k → holds2 a b (tri L (m + j)) = false) : firstFrom L m a b = (k : Int) := by
  have e : ∀ j, m + j < L.length → (L.drop m)[j]! = tri L (m + j) := fun j hj => by
    unfold tri
    rw [List.getElem!_eq_getElem?_getD, List.getElem?_drop, List.getD_eq_getElem?_getD, List.getElem?_eq_getElem hj]
    rfl
  have := Lib.idxBy_hit (fun (_ : Nat × Nat × Nat) y => holds2 a b y) (L.drop m) (L.drop m).length k default (by simp; omega) (Nat.le_refl _) (by rw [e k hk]; exact h) (fun j hj => by rw [e j (by omega)]; exact hne j hj)
  rw [List.take_length] at this
  exact this
theorem first_miss (L : List (Nat × Nat × Nat)) (m a b : Nat) (hne : ∀ j, m + j < L.length → holds2 a b (tri L (m + j)) = false) : firstFrom L m a b = -1 := by
  have e : ∀ j, m + j < L.length → (L.drop m)[j]! = tri L (m + j) := fun j hj => by
    unfold tri
    rw [List.getElem!_eq_getElem?_getD, List.getElem?_drop, List.getD_eq_getElem?_getD, List.getElem?_eq_getElem hj]
    rfl
  have := Lib.idxBy_miss (fun (_ : Nat × Nat × Nat) y => holds2 a b y) (L.drop m) (L.drop m).length default (fun j hj => by
    have hj' : m + j < L.length := by simp at hj; omega
    rw [e j hj']; exact hne j hj')
  rw [List.take_length] at this
  exact this

theorem holds2_sides {t : Nat × Nat × Nat} (h1 : t.1 < t.2.1) (h2 : t.2.1 < t.2.2) {a b lo hi : Nat} (hlh : lo < hi) (hab : (a = lo ∧ b = hi) ∨ (a = hi ∧ b = lo)) : holds2 a b t = (sides t).contains (lo, hi) := by
  obtain ⟨x, y, z⟩ := t
  simp only at h1 h2
  have hc : ∀ q : Nat, (tripL (x, y, z)).contains (q : Int) = true ↔ (q = x ∨ q = y ∨ q = z) := fun q => by
    rw [List.contains_iff_mem]
    simp only [tripL, List.mem_cons, List.not_mem_nil, or_false]
    omega
  rw [Bool.eq_iff_iff]
  unfold holds2
  rw [Bool.and_eq_true, hc, hc, List.contains_iff_mem]
  simp only [sides, List.mem_cons, Prod.mk.injEq, List.not_mem_nil, or_false]
  omega

theorem drop_cells {W : World} {D g cap : Nat} {L : List (Nat × Nat × Nat)} (h : W.ownsRow D 36 3 (.slice (some ⟨g, 0, none⟩) L.length cap) L.length (cells3 L)) (m : Nat) :
    ∀ j, j < (L.drop m).length → ∀ i v, (enc3 (L.drop m)[j]!)[i]? = some v → W.cell? ⟨g, m * 3 + j * 3 + i, none⟩ = some v := by
  intro j hj i v hv
  have hj' : m + j < L.length := by simp at hj; omega
  have e : (L.drop m)[j]! = tri L (m + j) := by
    unfold tri
    rw [List.getElem!_eq_getElem?_getD, List.getElem?_drop, List.getD_eq_getElem?_getD, List.getElem?_eq_getElem hj']
    rfl
  rw [e] at hv
  obtain ⟨c0, c1, c2⟩ := tri_cells h (m + j) hj'
  have hi : i < 3 := by
    have := (List.getElem?_eq_some_iff.1 hv).1
    rwa [enc3_len] at this
  rcases (show i = 0 ∨ i = 1 ∨ i = 2 by omega) with rfl | rfl | rfl
  · rw [show m * 3 + j * 3 + 0 = (m + j) * 3 from by omega, c0]; exact hv
  · rw [show m * 3 + j * 3 + 1 = (m + j) * 3 + 1 from by omega, c1]; exact hv
  · rw [show m * 3 + j * 3 + 2 = (m + j) * 3 + 2 from by omega, c2]; exact hv

theorem idx33_none (g c A C a b o : Nat) (W : World) (hg : g < W.heap.size)
    (hA : W.cell? ⟨A, 0, none⟩ = some (.int .i64 (a : Int))) (hC : W.cell? ⟨C, 0, none⟩ = some (.int .i64 (b : Int))) :
    Calls Tryz.prog 34 #[.slice (some ⟨g, o, none⟩) 0 c, .func (.func 35) #[] #[.pointer (some ⟨A, 0, none⟩), .pointer (some ⟨C, 0, none⟩)]] W fun e w' => e = .returned (.int .i64 (-1)) ∧ Below W.heap.size W w' := by
  have eg : ∀ args w, (callFunc 35 args).run Tryz.prog w = .ok (.enter 35 args) w := enters_of Tryz.func35 (by kernel_rfl) rfl
  have hp : Go.Proofs.PredBelow Tryz.prog 35 #[.pointer (some ⟨A, 0, none⟩), .pointer (some ⟨C, 0, none⟩)] (fun x => .agg (enc3 x).toArray) (holds2 a b) W := fun W' x hb =>
    (clos33_any A C a b x W' ((hb.cell (p := ⟨A, 0, none⟩) (mem_lt hA)).trans hA) ((hb.cell (p := ⟨C, 0, none⟩) (mem_lt hC)).trans hC)).mono fun e w' h => ⟨h.1, hb.trans (h.2.mono hb.size)⟩
  exact Tryz.slices_IndexFunc 3 Tryz.isAgg36 Tryz.sizeOf36 enc3 enc3_len (holds2 a b) 35 _ eg g o 0 c [] W hp (Nat.le_refl _) (by omega) hg (fun j hj => absurd hj (by simp))

theorem idx33_any (D g cap c m A C a b : Nat) (L : List (Nat × Nat × Nat)) (W : World) (h : W.ownsRow D 36 3 (.slice (some ⟨g, 0, none⟩) L.length cap) L.length (cells3 L)) (hm : m ≤ L.length) (hlen : L.length ≤ 1000) 
    (hA : W.cell? ⟨A, 0, none⟩ = some (.int .i64 (a : Int))) (hC : W.cell? ⟨C, 0, none⟩ = some (.int .i64 (b : Int))) (o n : Nat) (ho : o = m * 3) (hn : n = L.length - m) :
    Calls Tryz.prog 34 #[.slice (some ⟨g, o, none⟩) n c, .func (.func 35) #[] #[.pointer (some ⟨A, 0, none⟩), .pointer (some ⟨C, 0, none⟩)]] W fun e w' => e = .returned (.int .i64 (firstFrom L m a b)) ∧ Below W.heap.size W w' := by
  subst ho; subst hn
  have eg : ∀ args w, (callFunc 35 args).run Tryz.prog w = .ok (.enter 35 args) w := enters_of Tryz.func35 (by kernel_rfl) rfl
  have hl : (L.drop m).length = L.length - m := List.length_drop
  have hp : Go.Proofs.PredBelow Tryz.prog 35 #[.pointer (some ⟨A, 0, none⟩), .pointer (some ⟨C, 0, none⟩)] (fun x => .agg (enc3 x).toArray) (holds2 a b) W := fun W' x hb =>
    (clos33_any A C a b x W' ((hb.cell (p := ⟨A, 0, none⟩) (mem_lt hA)).trans hA) ((hb.cell (p := ⟨C, 0, none⟩) (mem_lt hC)).trans hC)).mono fun e w' h => ⟨h.1, hb.trans (h.2.mono hb.size)⟩
  have := Tryz.slices_IndexFunc 3 Tryz.isAgg36 Tryz.sizeOf36 enc3 enc3_len (holds2 a b) 35 _ eg g (m * 3) (L.length - m) c (L.drop m) W hp (by rw [hl]; exact Nat.le_refl _) (by omega) (h.lt g rfl).2 (drop_cells h m)
  rw [← hl, List.take_length] at this
  rw [← hl]
  exact this

theorem idx35_none (g c A C a b o : Nat) (W : World) (hg : g < W.heap.size)
    (hA : W.cell? ⟨A, 0, none⟩ = some (.int .i64 (a : Int))) (hC : W.cell? ⟨C, 0, none⟩ = some (.int .i64 (b : Int))) :
    Calls Tryz.prog 34 #[.slice (some ⟨g, o, none⟩) 0 c, .func (.func 37) #[] #[.pointer (some ⟨A, 0, none⟩), .pointer (some ⟨C, 0, none⟩)]] W fun e w' => e = .returned (.int .i64 (-1)) ∧ Below W.heap.size W w' := by
  have eg : ∀ args w, (callFunc 37 args).run Tryz.prog w = .ok (.enter 37 args) w := enters_of Tryz.func37 (by kernel_rfl) rfl
  have hp : Go.Proofs.PredBelow Tryz.prog 37 #[.pointer (some ⟨A, 0, none⟩), .pointer (some ⟨C, 0, none⟩)] (fun x => .agg (enc3 x).toArray) (holds2 a b) W := fun W' x hb =>
    (clos35_any A C a b x W' ((hb.cell (p := ⟨A, 0, none⟩) (mem_lt hA)).trans hA) ((hb.cell (p := ⟨C, 0, none⟩) (mem_lt hC)).trans hC)).mono fun e w' h => ⟨h.1, hb.trans (h.2.mono hb.size)⟩
  exact Tryz.slices_IndexFunc 3 Tryz.isAgg36 Tryz.sizeOf36 enc3 enc3_len (holds2 a b) 37 _ eg g o 0 c [] W hp (Nat.le_refl _) (by omega) hg (fun j hj => absurd hj (by simp))

theorem idx35_any (D g cap c m A C a b : Nat) (L : List (Nat × Nat × Nat)) (W : World) (h : W.ownsRow D 36 3 (.slice (some ⟨g, 0, none⟩) L.length cap) L.length (cells3 L)) (hm : m ≤ L.length) (hlen : L.length ≤ 1000) 
    (hA : W.cell? ⟨A, 0, none⟩ = some (.int .i64 (a : Int))) (hC : W.cell? ⟨C, 0, none⟩ = some (.int .i64 (b : Int))) (o n : Nat) (ho : o = m * 3) (hn : n = L.length - m) :
    Calls Tryz.prog 34 #[.slice (some ⟨g, o, none⟩) n c, .func (.func 37) #[] #[.pointer (some ⟨A, 0, none⟩), .pointer (some ⟨C, 0, none⟩)]] W fun e w' => e = .returned (.int .i64 (firstFrom L m a b)) ∧ Below W.heap.size W w' := by
  subst ho; subst hn
  have eg : ∀ args w, (callFunc 37 args).run Tryz.prog w = .ok (.enter 37 args) w := enters_of Tryz.func37 (by kernel_rfl) rfl
  have hl : (L.drop m).length = L.length - m := List.length_drop
  have hp : Go.Proofs.PredBelow Tryz.prog 37 #[.pointer (some ⟨A, 0, none⟩), .pointer (some ⟨C, 0, none⟩)] (fun x => .agg (enc3 x).toArray) (holds2 a b) W := fun W' x hb =>
    (clos35_any A C a b x W' ((hb.cell (p := ⟨A, 0, none⟩) (mem_lt hA)).trans hA) ((hb.cell (p := ⟨C, 0, none⟩) (mem_lt hC)).trans hC)).mono fun e w' h => ⟨h.1, hb.trans (h.2.mono hb.size)⟩
  have := Tryz.slices_IndexFunc 3 Tryz.isAgg36 Tryz.sizeOf36 enc3 enc3_len (holds2 a b) 37 _ eg g (m * 3) (L.length - m) c (L.drop m) W hp (by rw [hl]; exact Nat.le_refl _) (by omega) (h.lt g rfl).2 (drop_cells h m)
  rw [← hl, List.take_length] at this
  rw [← hl]
  exact this
end Go.Proofs.YtnijedeopnjklaaGreatDoor
