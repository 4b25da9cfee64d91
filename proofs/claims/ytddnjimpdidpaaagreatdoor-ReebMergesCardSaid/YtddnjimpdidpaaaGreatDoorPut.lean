/-
  The library's Clone, Sort, Compact, Delete at slices of ints, in an owned row's words.
-/
import Derived.Test.YtddnjimpdidpaaaGreatDoorCelK
import Derived.Test.YtddnjimpdidpaaaGreatDoorShelf
namespace Go.Proofs.YtddnjimpdidpaaaGreatDoor
open Go Go.RowKit Go.Sort Go.Lib

theorem holds_owned {α : Type} [Inhabited α] {enc : α → Value} {w : World} {base : Nat} {e : TypeId} {g n cap : Nat} {l : List α} (hl : l.length = n)
    (h : w.ownsRow base e 1 (.slice (some ⟨g, 0, none⟩) n cap) n (l.map enc)) : Holds enc w g 0 l.toArray := by
  intro j hj
  have hj' : j < l.length := by simpa using hj
  refine ⟨?_, h.frozenAt _⟩
  rw [Nat.zero_add, h.cellAt j (by omega), List.getElem?_map, List.getElem?_eq_getElem hj']
  simp [hj']
theorem put_heap {α : Type} [Inhabited α] {enc : α → Value} {w : World} {g m : Nat} {os : Array Obj} {cur : Array Value} {e : TypeId} {fr : Nat × Nat} (d : Array α) (hb : w.heap[g]? = some (.cells cur e fr)) :
    (grow (putRow enc (Sort.ahead w m) g 0 d) os).heap[g]? = some (.cells (putCells enc 0 d cur) e fr) := by
  have hg : g < w.heap.size := (Array.getElem?_eq_some_iff.1 hb).1
  rw [heap_grow_old _ _ (by simpa [Sort.ahead, putRow, mapBlock] using hg)]
  simp [putRow, mapBlock, Sort.ahead, Array.getElem?_modify, hb, onCells]
theorem put_grown {α : Type} [Inhabited α] {enc : α → Value} {w : World} {g m : Nat} {os : Array Obj} (d : Array α) : w.grownBy (grow (putRow enc (Sort.ahead w m) g 0 d) os) (some g) := by
  refine ⟨rfl, rfl, rfl, ?_, fun j hj hne => ?_⟩
  · simp [size_grow]
  · rw [heap_grow_old _ _ (by simpa [Sort.ahead, putRow, mapBlock] using hj)]
    have : g ≠ j := fun e => hne (by rw [e])
    simp [putRow, mapBlock, Sort.ahead, Array.getElem?_modify, this]
theorem put_take {α : Type} [Inhabited α] {enc : α → Value} (cur : Array Value) (l : List α) (m : Nat) (hm : m ≤ l.length) (h : l.length ≤ cur.size) : (putCells enc 0 l.toArray cur).toList.take m = (l.take m).map enc := by
  apply List.ext_getElem?
  intro t
  rw [List.getElem?_take, List.getElem?_map, List.getElem?_take]
  by_cases ht : t < m
  · rw [if_pos ht, if_pos ht, Array.getElem?_toList]
    unfold putCells
    rw [Array.getElem?_mapIdx, Array.getElem?_eq_getElem (show t < cur.size by omega), List.getElem?_eq_getElem (show t < l.length by omega)]
    simp [show t < l.length by omega]
  · rw [if_neg ht, if_neg ht]; rfl
theorem put_owns {α : Type} [Inhabited α] {enc : α → Value} {w : World} {base : Nat} {e : TypeId} {g n cap q : Nat} {os : Array Obj} {xs : List Value} (l : List α) (m : Nat)
    (hl : l.length = n) (hm : m ≤ n) (h : w.ownsRow base e 1 (.slice (some ⟨g, 0, none⟩) n cap) n xs) :
    (grow (putRow enc (Sort.ahead w q) g 0 l.toArray) os).ownsRow base e 1 (.slice (some ⟨g, 0, none⟩) m cap) m ((l.take m).map enc) := by
  obtain ⟨h1, h2⟩ := h
  rcases h2 with ⟨hv, _⟩ | ⟨g', cap', cur, hv, hbase, hb, hn, hcap, hcs, hx⟩
  · cases hv
  · cases hv
    refine ⟨by simp; omega, Or.inr ⟨g, cap, _, rfl, hbase, put_heap _ hb, by omega, hcap, by simp [putCells, hcs], ?_⟩⟩
    rw [Nat.mul_one]
    exact put_take cur l m (by omega) (by rw [hcs]; omega)
theorem grow_none (w : World) : w = grow w #[] := (grow_empty w).symm

/-- slices.Clone of ints -/
def ClonePost (f : List Int) (w : World) (e : Ending) (w' : World) : Prop := ∃ g cap, e = .returned (.slice (some ⟨g, 0, none⟩) f.length cap) ∧ Below w.heap.size w w' ∧ w'.ownsRow w.heap.size 3 1 (.slice (some ⟨g, 0, none⟩) f.length cap) f.length (intVs f)
theorem clone_any (f : List Int) (u : Value) (w : World) (hu : IntsAt w u f) (hp : 0 < f.length) (hn : f.length ≤ 100000) : Calls Tryz.prog 40 #[u] w (ClonePost f w) := by
  rcases hu.cases with ⟨rfl, -⟩ | ⟨-, b, off, c, rfl, -, hx⟩
  · exact absurd hp (by simp)
  · refine (Tryz.slices_Clone_int b off f.length c f w (Nat.le_refl _) (by omega) hx).mono fun e w' ⟨v', he, ho, _, hb⟩ => ?_
    rw [List.take_length] at ho
    obtain ⟨g, cap, rfl⟩ := Joins.ownsRow_form ho hp
    exact ⟨g, cap, he, hb, ho⟩
/-- slices.Sort of ints of the call's own -/
def SortPost (O g cap : Nat) (f : List Int) (w : World) (e : Ending) (w' : World) : Prop := e = .returned (.tuple #[]) ∧ w.grownBy w' (some g) ∧ w'.ownsRow O 3 1 (.slice (some ⟨g, 0, none⟩) f.length cap) f.length (intVs (sortI f))
theorem sort_any (f : List Int) (O g cap : Nat) (w : World) (ho : w.ownsRow O 3 1 (.slice (some ⟨g, 0, none⟩) f.length cap) f.length (intVs f)) (hn : f.length ≤ 100000) :
    Calls Tryz.prog 41 #[.slice (some ⟨g, 0, none⟩) f.length cap] w (SortPost O g cap f w) := by
  refine (Tryz.slices_Sort_int g 0 cap f w (holds_owned rfl ho) (ho.lt g rfl).2 (by omega)).mono fun e w' ⟨he, q, os, hw⟩ => ?_
  subst hw
  refine ⟨he, put_grown _, ?_⟩
  have h := put_owns (enc := Value.int .i64) (q := q) (os := os) (sortI f) f.length (sortI_len f) (Nat.le_refl _) ho
  rw [List.take_of_length_le (by rw [sortI_len]; exact Nat.le_refl _)] at h
  exact h
/-- slices.Delete of one of ints of the call's own -/
def DeletePost (O g cap : Nat) (f : List Int) (i : Nat) (w : World) (e : Ending) (w' : World) : Prop := e = .returned (.slice (some ⟨g, 0, none⟩) (f.length - 1) cap) ∧ w.grownBy w' (some g) ∧ w'.ownsRow O 3 1 (.slice (some ⟨g, 0, none⟩) (f.length - 1) cap) (f.length - 1) (intVs (f.eraseIdx i))
theorem delete_any (f : List Int) (O g cap i : Nat) (j : Int) (hj : j = (i : Int) + 1) (w : World) (ho : w.ownsRow O 3 1 (.slice (some ⟨g, 0, none⟩) f.length cap) f.length (intVs f)) (hn : f.length ≤ 100000) (hi : i < f.length) :
    Calls Tryz.prog 113 #[.slice (some ⟨g, 0, none⟩) f.length cap, .int .i64 (i : Int), .int .i64 j] w (DeletePost O g cap f i w) := by
  obtain rfl : j = ((i + 1 : Nat) : Int) := by omega
  have hcap : f.length ≤ cap ∧ cap ≤ 9223372036854775807 := by
    rcases ho.2 with ⟨he, _⟩ | ⟨g', cap', cur, he, _, _, hle, hm, _⟩
    · cases he
    · cases he; exact ⟨hle, hm⟩
  refine (Tryz.slices_Delete_int g 0 cap i (i + 1) f w (holds_owned rfl ho) hcap.1 hcap.2 (by omega) (by omega)).mono fun e w' ⟨he, q, hw⟩ => ?_
  subst hw
  rw [show f.length - (i + 1 - i) = f.length - 1 by omega] at he
  refine ⟨he, ?_, ?_⟩
  · rw [grow_none (putRow _ _ _ _ _)]; exact put_grown _
  · have h := put_owns (enc := Value.int .i64) (q := q) (os := #[]) (f.take i ++ f.drop (i + 1) ++ List.replicate (i + 1 - i) 0) (f.length - 1) (by simp; omega) (by omega) ho
    rw [grow_empty] at h
    have e1 : (f.take i ++ f.drop (i + 1) ++ List.replicate (i + 1 - i) 0).take (f.length - 1) = f.eraseIdx i := by
      rw [List.eraseIdx_eq_take_drop_succ, List.take_append_of_le_length (by simp; omega), List.take_of_length_le (by simp; omega)]
    rw [e1] at h
    exact h
/-- slices.Compact of a rising or not list: is it shorter? -/
def CompactPost (g cap n : Nat) (f : List Int) (w : World) (e : Ending) (w' : World) : Prop := ∃ k : Nat, e = .returned (.slice (some ⟨g, 0, none⟩) k cap) ∧ w.grownBy w' (some g) ∧ k ≤ n ∧ (f.Pairwise (· ≤ ·) → (k = n ↔ f.Nodup))
theorem compact_len {f : List Int} (h : f.Pairwise (· ≤ ·)) : (Lib.compact f).length = f.length ↔ f.Nodup := by
  have hk : ∀ j, Lib.keeps f.toArray j = true ↔ (j = 0 ∨ f.toArray[j]! ≠ f.toArray[j - 1]!) := fun j => by
    unfold Lib.keeps
    simp
  have hget : ∀ j, j < f.length → f.toArray[j]! = f.getD j 0 := fun j hj => by
    simp [List.getD_eq_getElem?_getD, List.getElem?_eq_getElem hj, hj]
  have hlen : (Lib.compact f).length = ((List.range f.length).filter (Lib.keeps f.toArray)).length := by
    unfold Lib.compact Lib.compactUpTo
    rw [List.length_map]
  rw [hlen]
  constructor
  · intro he
    have hall : ∀ j ∈ List.range f.length, Lib.keeps f.toArray j = true := by
      have h2 : ((List.range f.length).filter (Lib.keeps f.toArray)).length = (List.range f.length).length := by rw [he, List.length_range]
      exact List.length_filter_eq_length_iff.1 h2
    have hlt : ∀ i, i + 1 < f.length → f.getD i 0 < f.getD (i + 1) 0 := fun i hi => by
      have h1 := (hk (i + 1)).1 (hall (i + 1) (List.mem_range.2 hi))
      rw [hget (i + 1) hi, show i + 1 - 1 = i from rfl, hget i (by omega)] at h1
      have h2 := List.pairwise_iff_getElem.1 h i (i + 1) (by omega) hi (by omega)
      rw [List.getD_eq_getElem?_getD, List.getD_eq_getElem?_getD, List.getElem?_eq_getElem (show i < f.length by omega), List.getElem?_eq_getElem hi] at h1 ⊢
      simp only [Option.getD_some] at h1 ⊢
      rcases h1 with h1 | h1 <;> omega
    have hmono : ∀ i d, i + d + 1 < f.length → f.getD i 0 < f.getD (i + d + 1) 0 := fun i d => by
      induction d with
      | zero => exact fun hd => hlt i hd
      | succ d ih => exact fun hd => Int.lt_trans (ih (by omega)) (hlt (i + d + 1) hd)
    rw [List.nodup_iff_pairwise_ne, List.pairwise_iff_getElem]
    intro i j hi hj hij he
    have h3 := hmono i (j - i - 1) (by omega)
    rw [show i + (j - i - 1) + 1 = j by omega, List.getD_eq_getElem?_getD, List.getD_eq_getElem?_getD, List.getElem?_eq_getElem hi, List.getElem?_eq_getElem hj] at h3
    simp only [Option.getD_some] at h3
    omega
  · intro hn
    rw [List.filter_eq_self.2, List.length_range]
    intro j hj
    have hj := List.mem_range.1 hj
    refine (hk j).2 ?_
    rcases Nat.eq_zero_or_pos j with h0 | h0
    · exact Or.inl h0
    · right
      rw [hget j hj, hget (j - 1) (by omega), List.getD_eq_getElem?_getD, List.getD_eq_getElem?_getD, List.getElem?_eq_getElem hj, List.getElem?_eq_getElem (show j - 1 < f.length by omega)]
      intro e
      have := (List.getElem_inj hn).1 (show f[j] = f[j - 1]'(by omega) from e)
      omega
theorem compact_any (f : List Int) (O g cap : Nat) (w : World) (ho : w.ownsRow O 3 1 (.slice (some ⟨g, 0, none⟩) f.length cap) f.length (intVs f)) (hn : f.length ≤ 100000) :
    Calls Tryz.prog 82 #[.slice (some ⟨g, 0, none⟩) f.length cap] w (CompactPost g cap f.length f w) := by
  have hcap : f.length ≤ cap := by
    rcases ho.2 with ⟨he, _⟩ | ⟨g', cap', cur, he, _, _, hle, hm, _⟩
    · cases he
    · cases he; exact hle
  refine (Tryz.slices_Compact_int g 0 cap f w (holds_owned rfl ho) (by omega) hcap).mono fun e w' ⟨he, q, hw⟩ => ?_
  subst hw
  refine ⟨_, he, ?_, Lib.compact_length_le f, fun h => compact_len h⟩
  rw [grow_none (putRow _ _ _ _ _)]; exact put_grown _
end Go.Proofs.YtddnjimpdidpaaaGreatDoor
