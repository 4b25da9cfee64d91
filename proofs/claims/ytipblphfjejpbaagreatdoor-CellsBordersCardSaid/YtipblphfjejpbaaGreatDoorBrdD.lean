/-
  A matrix of a boundary while it is filled (plain, and its block); the map from a face's key to its place.
-/
import Derived.Test.YtipblphfjejpbaaGreatDoorBrdC
set_option linter.unusedSimpArgs false
set_option linter.unusedVariables false
namespace Go.Proofs.YtipblphfjejpbaaGreatDoor
open Go Go.RowKit Go.Maps

/-- numbers in a block -/
def numArr (F : Nat → Int) (n : Nat) : Array Value := ((List.range n).map fun i => Value.int .i64 (F i)).toArray
theorem numArr_at (F : Nat → Int) (n i : Nat) (h : i < n) : (numArr F n)[i]? = some (.int .i64 (F i)) := by
  unfold numArr
  rw [List.getElem?_toArray, List.getElem?_map, List.getElem?_range h]; rfl
theorem numArr_zero (n : Nat) : madeCells #[Value.int .i64 0] n = numArr (fun _ => 0) n := by
  unfold madeCells numArr
  apply Array.ext'
  rw [Array.toList_map, Array.toList_range]
  refine List.map_congr_left fun i _ => ?_
  have : i % (#[Value.int .i64 0] : Array Value).size = 0 := Nat.mod_one i
  rw [this]; rfl
def upd (F : Nat → Int) (k : Nat) (x : Int) : Nat → Int := fun i => if i = k then x else F i
theorem numArr_set (F : Nat → Int) (n k : Nat) (x : Int) : (numArr F n).setIfInBounds k (.int .i64 x) = numArr (upd F k x) n := by
  apply Array.ext_getElem?
  intro i
  rw [Array.getElem?_setIfInBounds]
  by_cases hi : i < n
  · rw [numArr_at F n i hi, numArr_at _ n i hi]
    unfold upd
    by_cases hk : k = i
    · subst hk
      rw [if_pos rfl, if_pos (show k < (numArr F n).size by unfold numArr; simpa using hi), if_pos rfl]
    · rw [if_neg hk, if_neg (fun e => hk e.symm)]
  · have e1 : (numArr F n)[i]? = none := Array.getElem?_eq_none (by unfold numArr; simp; omega)
    have e2 : (numArr (upd F k x) n)[i]? = none := Array.getElem?_eq_none (by unfold numArr; simp; omega)
    rw [e1, e2]
    by_cases hk : k = i
    · subst hk
      rw [if_pos rfl, if_neg (show ¬ k < (numArr F n).size by unfold numArr; simpa using hi)]
    · rw [if_neg hk]
theorem pair_inj {C r c r' c' : Nat} (hc : c < C) (hc' : c' < C) (h : r * C + c = r' * C + c') : r = r' ∧ c = c' := by
  have h1 : (r * C + c) / C = r := by rw [Nat.mul_comm, Nat.mul_add_div (by omega), Nat.div_eq_of_lt hc]; rfl
  have h2 : (r' * C + c') / C = r' := by rw [Nat.mul_comm, Nat.mul_add_div (by omega), Nat.div_eq_of_lt hc']; rfl
  rw [h, h2] at h1
  subst h1
  exact ⟨rfl, by omega⟩

/-- what is filled in: columns below k, and of column k the parts without one of the first i vertices -/
structure BrdF (rows cols : List (List Int)) (F : Nat → Int) (k i : Nat) : Prop where
  lo : ∀ r c, r < rows.length → c < cols.length → c < k → F (r * cols.length + c) = entryF (rows.getD r []) (cols.getD c [])
  hi : ∀ r c, r < rows.length → c < cols.length → k < c → F (r * cols.length + c) = 0
  yes : ∀ r, r < rows.length → k < cols.length → (∃ j, j < i ∧ rows.getD r [] = (cols.getD k []).eraseIdx j) → F (r * cols.length + k) = entryF (rows.getD r []) (cols.getD k [])
  no : ∀ r, r < rows.length → k < cols.length → (¬ ∃ j, j < i ∧ rows.getD r [] = (cols.getD k []).eraseIdx j) → F (r * cols.length + k) = 0
theorem BrdF.start (rows cols : List (List Int)) : BrdF rows cols (fun _ => 0) 0 0 where
  lo := fun r c _ _ h => absurd h (by omega)
  hi := fun _ _ _ _ _ => rfl
  yes := fun r _ _ ⟨j, h, _⟩ => absurd h (by omega)
  no := fun _ _ _ _ => rfl
theorem BrdF.step {rows cols : List (List Int)} {F : Nat → Int} {k i r0 : Nat} (h : BrdF rows cols F k i) (hn : rows.Nodup) (hk : k < cols.length) (hf : Rise (cols.getD k [])) (hi : i < (cols.getD k []).length) (hr0 : r0 < rows.length) (he : rows.getD r0 [] = (cols.getD k []).eraseIdx i) :
    BrdF rows cols (upd F (r0 * cols.length + k) (sg i)) k (i + 1) where
  lo := fun r c h1 h2 h3 => by
    unfold upd
    rw [if_neg (fun e => by have := (pair_inj h2 hk e).2; omega)]
    exact h.lo r c h1 h2 h3
  hi := fun r c h1 h2 h3 => by
    unfold upd
    rw [if_neg (fun e => by have := (pair_inj h2 hk e).2; omega)]
    exact h.hi r c h1 h2 h3
  yes := fun r h1 h2 hex => by
    unfold upd
    by_cases e : r * cols.length + k = r0 * cols.length + k
    · rw [if_pos e]
      obtain rfl := (pair_inj hk hk e).1
      rw [he, entry_erase hf hi]
    · rw [if_neg e]
      obtain ⟨j, hj, e2⟩ := hex
      refine h.yes r h1 h2 ⟨j, ?_, e2⟩
      rcases (show j < i ∨ j = i by omega) with h3 | rfl
      · exact h3
      · have : r = r0 := getD_inj hn h1 hr0 (e2.trans he.symm)
        exact absurd (by rw [this]) e
  no := fun r h1 h2 hex => by
    unfold upd
    rw [if_neg (fun e => hex ⟨i, by omega, by rw [(pair_inj hk hk e).1]; exact he⟩)]
    exact h.no r h1 h2 fun ⟨j, hj, e2⟩ => hex ⟨j, by omega, e2⟩
theorem BrdF.next {rows cols : List (List Int)} {F : Nat → Int} {k : Nat} (h : BrdF rows cols F k (cols.getD k []).length) (hr : ∀ r ∈ rows, Rise r) (hf : Rise (cols.getD k [])) : BrdF rows cols F (k + 1) 0 where
  lo := fun r c h1 h2 h3 => by
    rcases (show c < k ∨ c = k by omega) with h4 | rfl
    · exact h.lo r c h1 h2 h4
    · by_cases hex : ∃ j, j < (cols.getD c []).length ∧ rows.getD r [] = (cols.getD c []).eraseIdx j
      · exact h.yes r h1 h2 hex
      · rw [h.no r h1 h2 hex]
        exact (entry_none hf (hr _ (getL_mem h1)) fun j hj e => hex ⟨j, hj, e⟩).symm
  hi := fun r c h1 h2 h3 => h.hi r c h1 h2 (by omega)
  yes := fun r _ _ ⟨j, h, _⟩ => absurd h (by omega)
  no := fun r h1 h2 _ => h.hi r (k + 1) h1 h2 (by omega)
theorem BrdF.done {rows cols : List (List Int)} {F : Nat → Int} (h : BrdF rows cols F cols.length 0) : ∀ ix, ix < rows.length * cols.length → F ix = (brdL rows cols).getD ix 0 := fun ix hix => by
  have hC : 0 < cols.length := by
    rcases Nat.eq_zero_or_pos cols.length with h0 | h0
    · rw [h0] at hix; simp at hix
    · exact h0
  have e : ix = ix / cols.length * cols.length + ix % cols.length := by rw [Nat.mul_comm]; exact (Nat.div_add_mod _ _).symm
  have h1 : ix / cols.length < rows.length := (Nat.div_lt_iff_lt_mul hC).2 hix
  have h2 : ix % cols.length < cols.length := Nat.mod_lt _ hC
  rw [e, h.lo _ _ h1 h2 h2, brdL_at h1 h2]

/-- the map from a face's key to its place -/
def IMap (w : World) (m t : Nat) (rows : List (List Int)) : Prop :=
  ∃ Dm : DataW Value, w.ownsMap Tryz.prog 9 (plainElem Tryz.prog 3) m t Dm ∧ ∀ i, i < t → Dm.atKey (klit (rows.getD i [])) (.lit (.int .i64 0)) = .lit (.int .i64 (i : Int))
theorem IMap.below {C : Nat} {w w' : World} {m t : Nat} {rows : List (List Int)} (h : IMap w m t rows) (hb : Below C w w') (hC : w.heap.size ≤ C) : IMap w' m t rows := by
  obtain ⟨Dm, hown, hx⟩ := h
  have hlt := hown.lt
  obtain ⟨es, clock, e1, e2⟩ := hown
  exact ⟨Dm, ⟨es, clock, by rw [hb.block m (Nat.lt_of_lt_of_le hlt hC)]; exact e1, e2⟩, hx⟩
theorem IMap.grown {w w' : World} {m t : Nat} {rows : List (List Int)} {row : Option Nat} (h : IMap w m t rows) (hg : w.grownBy w' row) (hr : some m ≠ row) : IMap w' m t rows := by
  obtain ⟨Dm, hown, hx⟩ := h
  exact ⟨Dm, hown.kept hg hr, hx⟩
theorem IMap.made (w : World) (rows : List (List Int)) : IMap (w.alloc (.map #[] 0)) w.heap.size 0 rows := ⟨.map [], World.ownsMap_made w _ _ _, fun i h => absurd h (by omega)⟩
theorem IMap.push {w' : World} {m t : Nat} {rows : List (List Int)} {Dm : DataW Value} (hm : Maps.IsMap Dm) (hx : ∀ i, i < t → Dm.atKey (klit (rows.getD i [])) (.lit (.int .i64 0)) = .lit (.int .i64 (i : Int))) (ht : t < rows.length) (hn : rows.Nodup) (hv : ∀ r ∈ rows, Vtx r)
    (hown' : w'.ownsMap Tryz.prog 9 (plainElem Tryz.prog 3) m (t + 1) (Dm.put (klit (rows.getD t [])) (.lit (.int .i64 (t : Int))))) : IMap w' m (t + 1) rows := by
  refine ⟨_, hown', fun i hi => ?_⟩
  rcases (show i < t ∨ i = t by omega) with h | rfl
  · rw [Maps.atKey_put_other (fun hh => ?_)]
    · exact hx i h
    · have e := klit_inj (hv _ (getL_mem (show i < rows.length by omega))) (hv _ (getL_mem ht)) hh
      have := getD_inj hn (by omega) ht e
      omega
  · exact Maps.atKey_put_same hm (klit_key _) _ _
end Go.Proofs.YtipblphfjejpbaaGreatDoor
