/-
  The world behind a sort of elements of k cells, in an owned row's words. Plain: no program in sight.
-/
import Derived.Test.YtnijedeopnjklaaGreatDoorMem
import Derived.Shelf.SlSortCmp.NoneTotal
namespace Go.Proofs.YtnijedeopnjklaaGreatDoor
open Go Go.RowKit Go.Sort Go.Lib

theorem flat_length {α : Type} {enc : α → List Value} {k : Nat} (hk : ∀ x, (enc x).length = k) : ∀ l : List α, (l.flatMap enc).length = l.length * k
  | [] => by simp
  | x :: r => by
    rw [List.flatMap_cons, List.length_append, hk, flat_length hk r, List.length_cons, Nat.add_mul]; omega

theorem flat_get {α : Type} [Inhabited α] {enc : α → List Value} {k : Nat} (hk : ∀ x, (enc x).length = k) (hk0 : 0 < k) : ∀ (l : List α) (t : Nat), t < l.length * k → (l.flatMap enc)[t]? = (enc (l.toArray[t / k]!))[t % k]?
  | [], t, h => by simp at h
  | x :: r, t, h => by
    rw [List.flatMap_cons]
    by_cases ht : t < k
    · rw [List.getElem?_append_left (by rw [hk]; exact ht), Nat.div_eq_of_lt ht, Nat.mod_eq_of_lt ht]
      simp
    · have h1 : t - k < r.length * k := by rw [List.length_cons, Nat.add_mul] at h; omega
      rw [List.getElem?_append_right (by rw [hk]; omega), hk, flat_get hk hk0 r (t - k) h1]
      have e1 : t / k = (t - k) / k + 1 := by
        have : t = (t - k) + k := by omega
        rw [this, Nat.add_div_right _ hk0]; simp
      have e2 : t % k = (t - k) % k := by
        have : t = (t - k) + k := by omega
        rw [this, Nat.add_mod_right]; simp
      rw [e1, e2]
      simp

theorem flatK_toList {α : Type} [Inhabited α] {enc : α → List Value} {k : Nat} (hk : ∀ x, (enc x).length = k) (hk0 : 0 < k) (l : List α) : (flatK enc k l.toArray).toList = l.flatMap enc := by
  apply List.ext_getElem?
  intro t
  by_cases ht : t < l.length * k
  · have hs : t < (flatK enc k l.toArray).size := by rw [size_flatK]; simpa using ht
    have hg := get_flatK enc k l.toArray t (by simpa using ht)
    rw [flat_get hk hk0 l t ht]
    have hm : t % k < (enc l.toArray[t / k]!).length := by rw [hk]; exact Nat.mod_lt _ hk0
    rw [Array.getElem!_eq_getD, Array.getD_eq_getD_getElem?, Array.getElem?_eq_getElem hs, List.getElem!_eq_getElem?_getD, List.getElem?_eq_getElem hm] at hg
    rw [Array.getElem?_toList, Array.getElem?_eq_getElem hs, List.getElem?_eq_getElem hm]
    exact congrArg some hg
  · rw [List.getElem?_eq_none (by rw [Array.length_toList, size_flatK]; simpa using ht), List.getElem?_eq_none (by rw [flat_length hk]; omega)]

theorem holdsK_of_owns {α : Type} [Inhabited α] {enc : α → List Value} {k : Nat} (hk : ∀ x, (enc x).length = k) (hk0 : 0 < k) {w : World} {base : Nat} {e : TypeId} {g n cap : Nat} {l : List α}
    (hl : l.length = n) (h : w.ownsRow base e k (.slice (some ⟨g, 0, none⟩) n cap) n (l.flatMap enc)) : HoldsK enc k w g 0 l.toArray := by
  intro j hj
  rw [size_flatK] at hj
  have hj' : j < n * k := by rw [← hl]; simpa using hj
  refine ⟨?_, h.frozenAt _⟩
  rw [Nat.zero_add, h.cellAt j hj', flat_get hk hk0 l j (by rw [hl]; exact hj'), get_flatK enc k l.toArray j hj]
  have hm : j % k < (enc l.toArray[j / k]!).length := by rw [hk]; exact Nat.mod_lt _ hk0
  rw [List.getElem!_eq_getElem?_getD, List.getElem?_eq_getElem hm]; rfl

theorem sortK_heap {α : Type} [Inhabited α] {enc : α → List Value} {k : Nat} {w : World} {g m : Nat} {os : Array Obj} {cur : Array Value} {e : TypeId} {fr : Nat × Nat} (d : Array α) (hb : w.heap[g]? = some (.cells cur e fr)) :
    (sortWorldK enc k w g 0 m d os).heap[g]? = some (.cells (putCells id 0 (flatK enc k d) cur) e fr) := by
  have hg : g < w.heap.size := (Array.getElem?_eq_some_iff.1 hb).1
  unfold sortWorldK putRowK putRow mapBlock
  rw [heap_grow_old _ _ (by simpa [Sort.ahead] using hg)]
  simp [Sort.ahead, Array.getElem?_modify, hb, onCells]

theorem sortK_grown {α : Type} [Inhabited α] {enc : α → List Value} {k : Nat} {w : World} {g m : Nat} {os : Array Obj} (d : Array α) : w.grownBy (sortWorldK enc k w g 0 m d os) (some g) := by
  refine ⟨rfl, rfl, rfl, ?_, fun j hj hne => ?_⟩
  · simp [sortWorldK, putRowK, size_grow]
  · unfold sortWorldK putRowK putRow mapBlock
    rw [heap_grow_old _ _ (by simpa [Sort.ahead] using hj)]
    have : g ≠ j := fun e => hne (by rw [e])
    simp [Sort.ahead, Array.getElem?_modify, this]

theorem take_put (cur F : Array Value) (h : F.size ≤ cur.size) : (putCells id 0 F cur).toList.take F.size = F.toList := by
  apply List.ext_getElem?
  intro t
  rw [List.getElem?_take]
  by_cases ht : t < F.size
  · rw [if_pos ht, Array.getElem?_toList, Array.getElem?_toList]
    unfold putCells
    rw [Array.getElem?_mapIdx, Array.getElem?_eq_getElem (show t < cur.size by omega), Array.getElem?_eq_getElem ht]
    simp [ht]
  · rw [if_neg ht, List.getElem?_eq_none (by rw [Array.length_toList]; omega)]

theorem sortK_owns {α : Type} [Inhabited α] {enc : α → List Value} {k : Nat} (hk : ∀ x, (enc x).length = k) (hk0 : 0 < k) {w : World} {base : Nat} {e : TypeId} {g n cap m : Nat} {os : Array Obj} {xs : List Value} {l : List α}
    (hl : l.length = n) (h : w.ownsRow base e k (.slice (some ⟨g, 0, none⟩) n cap) n xs) : (sortWorldK enc k w g 0 m l.toArray os).ownsRow base e k (.slice (some ⟨g, 0, none⟩) n cap) n (l.flatMap enc) := by
  obtain ⟨h1, h2⟩ := h
  rcases h2 with ⟨hv, _⟩ | ⟨g', cap', cur, hv, hbase, hb, hn, hcap, hcs, hx⟩
  · cases hv
  · cases hv
    have hF : (flatK enc k l.toArray).size = n * k := by rw [size_flatK]; simp [hl]
    have hle : n * k ≤ cap * k := Nat.mul_le_mul_right k hn
    refine ⟨by rw [flat_length hk, hl], Or.inr ⟨g, cap, _, rfl, hbase, sortK_heap _ hb, hn, hcap, by simp [putCells, hcs], ?_⟩⟩
    rw [← flatK_toList hk hk0, ← hF]
    exact take_put cur _ (by rw [hF, hcs]; exact hle)
end Go.Proofs.YtnijedeopnjklaaGreatDoor
