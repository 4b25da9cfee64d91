/-
  The walker's way through: one step's search, in the house's words. No program in sight.
-/
import Derived.Test.YtnijedeopnjklaaGreatDoorOddH
namespace Go.Proofs.YtnijedeopnjklaaGreatDoor
open Go Go.RowKit Sper

/-- a, b are the two ends of door e, in whatever order -/
def Ends (e : Nat × Nat) (a b : Nat) : Prop := (a = e.1 ∧ b = e.2) ∨ (a = e.2 ∧ b = e.1)

section
variable {L P : List (Nat × Nat × Nat)} {B : List (Nat × Nat)} {lab : Nat → Int} (hk : chk L P B = true)
include hk
theorem holds_iff {e : Nat × Nat} (he : e.1 < e.2) {a b t : Nat} (hab : Ends e a b) (ht : t < L.length) : holds2 a b (tri L t) = (sides (tri L t)).contains e := by
  obtain ⟨h1, h2, -⟩ := chk_tri hk _ (tri_mem ht)
  exact holds2_sides h1 h2 he hab

/-- one triangle alone holds the door -/
theorem search_one {e : Nat × Nat} {a b t : Nat} (he : hasD L lab t e) (hab : Ends e a b) (ho : otD L e t = none) : firstFrom L 0 a b = (t : Int) ∧ firstFrom L (t + 1) a b = -1 := by
  obtain ⟨ht, hs, hd⟩ := he
  have hlt := (side_lt hk _ (tri_mem ht) e hs).2.2
  have hno : ∀ s, s < L.length → s ≠ t → holds2 a b (tri L s) = false := fun s hs' hne => by
    rw [holds_iff hk hlt hab hs']
    have := List.find?_eq_none.1 ho s (List.mem_range.2 hs')
    simp only [Bool.and_eq_true, decide_eq_true_eq, not_and, Bool.not_eq_true] at this
    exact this hne
  have hyes : holds2 a b (tri L t) = true := by rw [holds_iff hk hlt hab ht]; exact List.contains_iff_mem.2 hs
  refine ⟨first_hit L 0 a b t (by omega) (by rw [Nat.zero_add]; exact hyes) (fun j hj => by rw [Nat.zero_add]; exact hno j (by omega) (by omega)), first_miss L (t + 1) a b (fun j hj => hno _ hj (by omega))⟩

/-- two triangles hold the door: the first found is one of them; behind it lies the other -/
theorem search_two {e : Nat × Nat} {a b t t' : Nat} (he : hasD L lab t e) (he' : hasD L lab t' e) (hne : t ≠ t') (hab : Ends e a b) :
    (t' < t ∧ firstFrom L 0 a b = (t' : Int)) ∨ (t < t' ∧ firstFrom L 0 a b = (t : Int) ∧ firstFrom L (t + 1) a b = ((t' - (t + 1) : Nat) : Int)) := by
  have hlt := (side_lt hk _ (tri_mem he.1) e he.2.1).2.2
  have hno : ∀ s, s < L.length → s ≠ t → s ≠ t' → holds2 a b (tri L s) = false := fun s hs' h1 h2 => by
    rw [holds_iff hk hlt hab hs', Bool.eq_false_iff]
    intro h
    exact two_rooms hk (lab := lab) he he' ⟨hs', List.contains_iff_mem.1 h, he.2.2⟩ hne (Ne.symm h1) (Ne.symm h2)
  have hyes : holds2 a b (tri L t) = true := by rw [holds_iff hk hlt hab he.1]; exact List.contains_iff_mem.2 he.2.1
  have hyes' : holds2 a b (tri L t') = true := by rw [holds_iff hk hlt hab he'.1]; exact List.contains_iff_mem.2 he'.2.1
  have l1 := he.1
  have l2 := he'.1
  rcases Nat.lt_or_ge t' t with h | h
  · exact Or.inl ⟨h, first_hit L 0 a b t' (by omega) (by rw [Nat.zero_add]; exact hyes') (fun j hj => by rw [Nat.zero_add]; exact hno j (by omega) (by omega) (by omega))⟩
  · refine Or.inr ⟨by omega, first_hit L 0 a b t (by omega) (by rw [Nat.zero_add]; exact hyes) (fun j hj => by rw [Nat.zero_add]; exact hno j (by omega) (by omega) (by omega)), first_hit L (t + 1) a b (t' - (t + 1)) (by omega) (by rw [show t + 1 + (t' - (t + 1)) = t' from by omega]; exact hyes') (fun j hj => hno _ (by omega) (by omega) (by omega))⟩
end

/-- the boxes of the walker, and the list so far -/
structure ThrSt (Z : Nat) (w wr : World) (ls al : Value) (a b : Nat) (v : Value) (l : List Int) : Prop where
  hw : wr.heap[Z]? = some (.cells #[ls, al] 60 (0, 0))
  ha : wr.heap[Z + 1]? = some (.cells #[.int .i64 (a : Int)] 3 (0, 0))
  hb : wr.heap[Z + 2]? = some (.cells #[.int .i64 (b : Int)] 3 (0, 0))
  hv : wr.ownsRow (Z + 3) 3 1 v l.length (intVs l)
  hbl : Below Z w wr

theorem ThrSt.below {Z : Nat} {w wr w' : World} {ls al : Value} {a b : Nat} {v : Value} {l : List Int} (h : ThrSt Z w wr ls al a b v l) (hb : Below wr.heap.size wr w') : ThrSt Z w w' ls al a b v l where
  hw := by rw [hb.block _ (Array.getElem?_eq_some_iff.1 h.hw).1]; exact h.hw
  ha := by rw [hb.block _ (Array.getElem?_eq_some_iff.1 h.ha).1]; exact h.ha
  hb := by rw [hb.block _ (Array.getElem?_eq_some_iff.1 h.hb).1]; exact h.hb
  hv := owns_keep h.hv fun k hk => hb.block k (h.hv.lt k hk).2
  hbl := h.hbl.trans (hb.mono (Nat.le_of_lt (Array.getElem?_eq_some_iff.1 h.hw).1))
theorem ThrSt.push {Z : Nat} {w wr w' : World} {ls al : Value} {a b : Nat} {v v' : Value} {l : List Int} {x : Int} {o : Obj} (h : ThrSt Z w wr ls al a b v l) (h' : w'.ownsRow (Z + 3) 3 1 v' (l.length + 1) (intVs l ++ [.int .i64 x])) (hg : (wr.alloc o).grownBy w' v.ownBlock) :
    ThrSt Z w w' ls al a b v' (l ++ [x]) ∧ ∀ k, k < wr.heap.size → v.ownBlock ≠ some k → w'.heap[k]? = wr.heap[k]? := by
  have hlt := h.hv.lt
  have hkeep : ∀ k, k < wr.heap.size → v.ownBlock ≠ some k → w'.heap[k]? = wr.heap[k]? := fun k hk hne => by
    rw [hg.block k (by simp; omega) (fun e => hne e.symm)]
    exact Below.heap_alloc _ _ _ hk
  have hne : ∀ k, k < Z + 3 → v.ownBlock ≠ some k := fun k hk e => by have := (hlt k e).1; omega
  have b1 := (Array.getElem?_eq_some_iff.1 h.hw).1
  have b2 := (Array.getElem?_eq_some_iff.1 h.ha).1
  have b3 := (Array.getElem?_eq_some_iff.1 h.hb).1
  refine ⟨⟨?_, ?_, ?_, ?_, ?_⟩, hkeep⟩
  · rw [hkeep _ b1 (hne _ (by omega))]; exact h.hw
  · rw [hkeep _ b2 (hne _ (by omega))]; exact h.ha
  · rw [hkeep _ b3 (hne _ (by omega))]; exact h.hb
  · rw [List.length_append]; simpa [intVs] using h'
  · exact (h.hbl.alloc (Nat.le_of_lt b1) o).grown hg (by simp; omega) (fun j hj => by have := (hlt j hj).1; omega)
def lenV : Value → Nat
  | .slice _ n _ => n
  | _ => 0
def lastI (T : Nat → Nat) : Nat → Int
  | 0 => -1
  | k + 1 => (T k : Int)
end Go.Proofs.YtnijedeopnjklaaGreatDoor
