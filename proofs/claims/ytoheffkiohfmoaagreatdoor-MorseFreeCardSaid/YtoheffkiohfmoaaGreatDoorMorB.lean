/-
  Free faces and collapses (plain): what is above a face, by the program's order and by the document's.
  The diagram of all faces, plain: of each face its parts with one vertex less, and those with one more, while they are found.
-/
import Derived.Test.YtoheffkiohfmoaaGreatDoorParA
set_option linter.unusedVariables false
namespace Go.Proofs.YtoheffkiohfmoaaGreatDoor
open Go Go.RowKit Go.Maps

theorem allF_ne {L : List (List Int)} : ∀ g ∈ allF L, g ≠ [] := fun g hg => (mem_allF.1 hg).1
/-- a part of the faces is right -/
theorem errC_part {L M : List (List Int)} (h : errC L = 0) (hM : ∀ g ∈ M, g ∈ allF L) : errC M = 0 := errC_sub h fun g hg => mem_allF.1 (hM g hg)
theorem filterMap_one {α β : Type} (f : α → Option β) (a : α) : [a].filterMap f = (f a).toList := by
  cases h : f a <;> simp [List.filterMap_cons, h]
/-- all faces, by dimension -/
def faceN (A : List (List Int)) : List (List Int) := (tableF A).flatten
/-- a list of faces whose lengths do not fall -/
def LenUp (F : List (List Int)) : Prop := F.Pairwise fun f g => f.length ≤ g.length
theorem faceN_up (A : List (List Int)) : LenUp (faceN A) := by
  unfold LenUp faceN tableF
  rw [← List.flatMap_def]
  generalize topN A = n
  induction n with
  | zero => exact List.Pairwise.nil
  | succ n ih =>
    rw [List.range_succ, List.flatMap_append]
    refine List.pairwise_append.2 ⟨ih, ?_, fun f hf g hg => ?_⟩
    · simp only [List.flatMap_cons, List.flatMap_nil, List.append_nil]
      exact List.pairwise_iff_getElem.2 fun i j hi hj _ => by rw [(mem_rowF.1 (List.getElem_mem hi)).2, (mem_rowF.1 (List.getElem_mem hj)).2]; exact Nat.le_refl _
    · obtain ⟨d, hd, hf⟩ := List.mem_flatMap.1 hf
      simp only [List.flatMap_cons, List.flatMap_nil, List.append_nil] at hg
      have := List.mem_range.1 hd
      rw [(mem_rowF.1 hf).2, (mem_rowF.1 hg).2]; omega
theorem LenUp.at {F : List (List Int)} (h : LenUp F) {i j : Nat} (hij : i ≤ j) (hj : j < F.length) : (F.getD i []).length ≤ (F.getD j []).length := by
  rcases Nat.eq_or_lt_of_le hij with rfl | hlt
  · exact Nat.le_refl _
  · have := List.pairwise_iff_getElem.1 h i j (by omega) hj hlt
    rw [List.getD_eq_getElem?_getD, List.getD_eq_getElem?_getD, List.getElem?_eq_getElem hj, List.getElem?_eq_getElem (show i < F.length by omega)]
    exact this
/-- is a face above another one that is left? -/
def abvB (F : List (List Int)) (lf : List Bool) (a b : Nat) : Bool := lf.getD b false && decide ((F.getD a []).length < (F.getD b []).length) && partB (F.getD a []) (F.getD b [])
/-- the faces above a face, rising -/
def abvF (F : List (List Int)) (lf : List Bool) (a : Nat) : List Nat := (List.range F.length).filter (abvB F lf a)
def abvTo (F : List (List Int)) (lf : List Bool) (a k : Nat) : List Nat := (List.range k).filter (abvB F lf a)
theorem abvTo_zero (F : List (List Int)) (lf : List Bool) (a : Nat) : abvTo F lf a 0 = [] := rfl
theorem abvTo_step (F : List (List Int)) (lf : List Bool) (a k : Nat) : abvTo F lf a (k + 1) = abvTo F lf a k ++ (if abvB F lf a k = true then [k] else []) := by
  unfold abvTo
  rw [List.range_succ, List.filter_append]
  congr 1
  cases h : abvB F lf a k <;> simp [h]
theorem abvTo_all (F : List (List Int)) (lf : List Bool) (a : Nat) : abvTo F lf a F.length = abvF F lf a := rfl
theorem abvTo_len (F : List (List Int)) (lf : List Bool) (a k : Nat) : (abvTo F lf a k).length ≤ k := by
  have := List.length_filter_le (abvB F lf a) (List.range k)
  rw [List.length_range] at this
  exact this
/-- none that stands ahead is above -/
theorem abvB_ahead {F : List (List Int)} (h : LenUp F) {lf : List Bool} {a b : Nat} (hb : b ≤ a) (ha : a < F.length) : abvB F lf a b = false := by
  have := h.at hb ha
  unfold abvB
  rw [show decide ((F.getD a []).length < (F.getD b []).length) = false from decide_eq_false (by omega)]
  simp
theorem abvTo_low {F : List (List Int)} (h : LenUp F) {lf : List Bool} {a : Nat} (ha : a < F.length) : ∀ k, k ≤ a + 1 → abvTo F lf a k = []
  | 0, _ => rfl
  | k + 1, hk => by
    rw [abvTo_step, abvTo_low h ha k (by omega), abvB_ahead h (show k ≤ a by omega) ha]; rfl
/-- the free pairs -/
def freeTo (F : List (List Int)) (lf : List Bool) (k : Nat) : List (Nat × Nat) := (List.range k).filterMap fun a => if lf.getD a false = true ∧ (abvF F lf a).length = 1 then some (a, (abvF F lf a).getD 0 0) else none
def freeF (F : List (List Int)) (lf : List Bool) : List (Nat × Nat) := freeTo F lf F.length
theorem freeTo_zero (F : List (List Int)) (lf : List Bool) : freeTo F lf 0 = [] := rfl
theorem freeTo_step (F : List (List Int)) (lf : List Bool) (k : Nat) : freeTo F lf (k + 1) = freeTo F lf k ++ (if lf.getD k false = true ∧ (abvF F lf k).length = 1 then [(k, (abvF F lf k).getD 0 0)] else []) := by
  unfold freeTo
  rw [List.range_succ, List.filterMap_append]
  congr 1
  by_cases h : lf.getD k false = true ∧ (abvF F lf k).length = 1
  · rw [if_pos h]; exact (filterMap_one _ _).trans (congrArg Option.toList (if_pos h))
  · rw [if_neg h]; exact (filterMap_one _ _).trans (congrArg Option.toList (if_neg h))
theorem freeTo_len (F : List (List Int)) (lf : List Bool) (k : Nat) : (freeTo F lf k).length ≤ k := by
  have := List.length_filterMap_le (fun a => if lf.getD a false = true ∧ (abvF F lf a).length = 1 then some (a, (abvF F lf a).getD 0 0) else none) (List.range k)
  rw [List.length_range] at this
  exact this
/-- the last one above and how many, as the document counts -/
def lastO (l : List Nat) : Int := if l = [] then -1 else ((l.getD (l.length - 1) 0 : Nat) : Int)
theorem lastO_nil : lastO [] = -1 := rfl
theorem lastO_snoc (l : List Nat) (k : Nat) : lastO (l ++ [k]) = (k : Int) := by
  unfold lastO
  rw [if_neg (by simp)]
  simp [List.getD_eq_getElem?_getD]
theorem lastO_one {l : List Nat} (h : l.length = 1) : lastO l = ((l.getD 0 0 : Nat) : Int) := by
  unfold lastO
  rw [if_neg (by intro e; rw [e] at h; cases h), h]

/-- a pair that may be taken away -/
def okP (F : List (List Int)) (lf : List Bool) (p : Int × Int) : Prop := 0 ≤ p.1 ∧ p.1 < (F.length : Int) ∧ lf.getD p.1.toNat false = true ∧ (abvF F lf p.1.toNat).length = 1 ∧ (((abvF F lf p.1.toNat).getD 0 0 : Nat) : Int) = p.2
def takeP (lf : List Bool) (p : Int × Int) : List Bool := (lf.set p.1.toNat false).set p.2.toNat false
def leftAt (F : List (List Int)) (g : List (Int × Int)) : Nat → List Bool
  | 0 => List.replicate F.length true
  | j + 1 => takeP (leftAt F g j) (g.getD j (0, 0))
theorem leftAt_len (F : List (List Int)) (g : List (Int × Int)) : ∀ j, (leftAt F g j).length = F.length
  | 0 => by simp [leftAt]
  | j + 1 => by simp [leftAt, takeP, leftAt_len F g j]
/-- what is left -/
def leftTo (F : List (List Int)) (lf : List Bool) (k : Nat) : List (List Int) := (List.range k).filterMap fun i => if lf.getD i false = true then some (F.getD i []) else none
def leftF (F : List (List Int)) (lf : List Bool) : List (List Int) := leftTo F lf F.length
theorem leftTo_step (F : List (List Int)) (lf : List Bool) (k : Nat) : leftTo F lf (k + 1) = leftTo F lf k ++ (if lf.getD k false = true then [F.getD k []] else []) := by
  unfold leftTo
  rw [List.range_succ, List.filterMap_append]
  congr 1
  by_cases h : lf.getD k false = true
  · rw [if_pos h]; exact (filterMap_one _ _).trans (congrArg Option.toList (if_pos h))
  · rw [if_neg h]; exact (filterMap_one _ _).trans (congrArg Option.toList (if_neg h))
theorem leftTo_len (F : List (List Int)) (lf : List Bool) (k : Nat) : (leftTo F lf k).length ≤ k := by
  have := List.length_filterMap_le (fun i => if lf.getD i false = true then some (F.getD i []) else none) (List.range k)
  rw [List.length_range] at this
  exact this
theorem mem_leftTo {F : List (List Int)} {lf : List Bool} {k : Nat} (hk : k ≤ F.length) {f : List Int} (h : f ∈ leftTo F lf k) : f ∈ F := by
  obtain ⟨i, hi, h2⟩ := List.mem_filterMap.1 h
  have := List.mem_range.1 hi
  split at h2
  · cases h2
    rw [List.getD_eq_getElem?_getD, List.getElem?_eq_getElem (show i < F.length by omega)]
    exact List.getElem_mem _
  · cases h2
theorem left_right {L : List (List Int)} (h : errC L = 0) (lf : List Bool) : errC (leftF (faceN (allF L)) lf) = 0 := errC_part h fun g hg => (mem_flat allF_ne).1 (mem_leftTo (Nat.le_refl _) hg)
theorem above_lt {F : List (List Int)} {lf : List Bool} {a : Nat} (h : (abvF F lf a).length = 1) : (abvF F lf a).getD 0 0 < F.length := by
  have : (abvF F lf a).getD 0 0 ∈ abvF F lf a := by
    rw [List.getD_eq_getElem?_getD, List.getElem?_eq_getElem (show 0 < (abvF F lf a).length by omega)]
    exact List.getElem_mem _
  exact List.mem_range.1 (List.mem_filter.1 this).1

/-! The closed fact: an edge. -/
def edgeL : List (List Int) := [[0, 1]]
theorem sort_01 : sortI [0, 1] = [0, 1] := rise_ext (rise_sortI (by decide)) (by unfold Rise; decide) fun x => by rw [mem_sortI]
theorem edge_all : allF edgeL = [[0], [0, 1], [1]] := by
  unfold allF edgeL
  simp only [List.flatMap_cons, List.flatMap_nil, sort_01]
  decide
theorem edge_C : errC edgeL = 0 := errC_0 (by unfold okSet edgeL; decide) (by unfold edgeL; decide) (by rw [edge_all]; decide)
theorem edge_X : errX edgeL = 0 := by
  have h : edgeL = madeF edgeL := by
    unfold madeF
    rw [edge_all]
    decide
  unfold errX
  rw [if_pos edge_C, if_pos h]
theorem edge_free : freeF (faceN (allF edgeL)) (List.replicate (faceN (allF edgeL)).length true) = [(0, 2), (1, 2)] := by
  rw [edge_all]
  decide

def natI (l : List Nat) : List Int := l.map fun (x : Nat) => (x : Int)
theorem natI_len (l : List Nat) : (natI l).length = l.length := List.length_map ..
theorem natI_snoc (l : List Nat) (x : Nat) : natI (l ++ [x]) = natI l ++ [(x : Int)] := by unfold natI; rw [List.map_append]; rfl
/-- is a face part of another one with one vertex more? -/
def unB (F : List (List Int)) (a b : Nat) : Bool := decide ((F.getD a []).length + 1 = (F.getD b []).length) && partB (F.getD a []) (F.getD b [])
def dnRow (F : List (List Int)) (b k : Nat) : List Nat := (List.range k).filter fun a => unB F a b
def upRow (F : List (List Int)) (y k : Nat) : List Nat := (List.range k).filter fun b => decide (y < b) && unB F y b
theorem dnRow_step (F : List (List Int)) (b k : Nat) : dnRow F b (k + 1) = dnRow F b k ++ (if unB F k b = true then [k] else []) := by
  unfold dnRow
  rw [List.range_succ, List.filter_append]
  congr 1
  cases h : unB F k b <;> simp [h]
theorem upRow_step (F : List (List Int)) (y k : Nat) : upRow F y (k + 1) = upRow F y k ++ (if y < k ∧ unB F y k = true then [k] else []) := by
  unfold upRow
  rw [List.range_succ, List.filter_append]
  congr 1
  by_cases h : y < k ∧ unB F y k = true
  · rw [if_pos h]; simp [h.1, h.2]
  · rw [if_neg h]
    simp only [List.filter_cons, List.filter_nil]
    rw [if_neg (by simpa using h)]
/-- the diagram, face b being looked at, up to part a -/
def dnT (F : List (List Int)) (b a : Nat) : List (List Int) := (List.range F.length).map fun y => natI (if y < b then dnRow F y y else if y = b then dnRow F b a else [])
def upT (F : List (List Int)) (b a : Nat) : List (List Int) := (List.range F.length).map fun y => natI (upRow F y b ++ if y < a ∧ unB F y b = true then [b] else [])
theorem dnT_len (F : List (List Int)) (b a : Nat) : (dnT F b a).length = F.length := by simp [dnT]
theorem upT_len (F : List (List Int)) (b a : Nat) : (upT F b a).length = F.length := by simp [upT]
theorem dnT_at {F : List (List Int)} {b a y : Nat} (h : y < F.length) : (dnT F b a).getD y [] = natI (if y < b then dnRow F y y else if y = b then dnRow F b a else []) := by simp [dnT, List.getD_eq_getElem?_getD, h]
theorem upT_at {F : List (List Int)} {b a y : Nat} (h : y < F.length) : (upT F b a).getD y [] = natI (upRow F y b ++ if y < a ∧ unB F y b = true then [b] else []) := by simp [upT, List.getD_eq_getElem?_getD, h]
theorem tabX_ext {A B : List (List Int)} (hl : A.length = B.length) (h : ∀ y, y < A.length → A.getD y [] = B.getD y []) : A = B := by
  apply List.ext_getElem hl
  intro i h1 h2
  have := h i h1
  rw [List.getD_eq_getElem?_getD, List.getD_eq_getElem?_getD, List.getElem?_eq_getElem h1, List.getElem?_eq_getElem h2] at this
  exact this
theorem getD_set_eq {A : List (List Int)} {i : Nat} {x : List Int} (h : i < A.length) (y : Nat) : (A.set i x).getD y [] = if y = i then x else A.getD y [] := by
  by_cases e : y = i
  · subst e; rw [if_pos rfl]; simp [List.getD_eq_getElem?_getD, h]
  · rw [if_neg e]; simp [List.getD_eq_getElem?_getD, List.getElem?_set_ne (Ne.symm e)]
theorem dnT_yes {F : List (List Int)} {b a : Nat} (hb : b < F.length) (h : unB F a b = true) : dnT F b (a + 1) = (dnT F b a).set b ((dnT F b a).getD b [] ++ [(a : Int)]) := by
  refine tabX_ext (by rw [List.length_set, dnT_len, dnT_len]) fun y hy => ?_
  rw [dnT_len] at hy
  rw [getD_set_eq (by rw [dnT_len]; exact hb)]
  by_cases e : y = b
  · subst e
    rw [if_pos rfl, dnT_at hy, dnT_at hy, if_neg (by omega), if_pos rfl, if_neg (by omega), if_pos rfl, dnRow_step, if_pos h, natI_snoc]
  · rw [if_neg e, dnT_at hy, dnT_at hy]
    by_cases c : y < b
    · rw [if_pos c, if_pos c]
    · rw [if_neg c, if_neg e, if_neg c, if_neg e]
theorem dnT_no {F : List (List Int)} {b a : Nat} (h : unB F a b = false) : dnT F b (a + 1) = dnT F b a := by
  unfold dnT
  rw [dnRow_step, if_neg (by rw [h]; decide), List.append_nil]
theorem upT_yes {F : List (List Int)} {b a : Nat} (ha : a < F.length) (h : unB F a b = true) : upT F b (a + 1) = (upT F b a).set a ((upT F b a).getD a [] ++ [(b : Int)]) := by
  refine tabX_ext (by rw [List.length_set, upT_len, upT_len]) fun y hy => ?_
  rw [upT_len] at hy
  rw [getD_set_eq (by rw [upT_len]; exact ha)]
  by_cases e : y = a
  · subst e
    rw [if_pos rfl, upT_at hy, upT_at hy, if_pos ⟨by omega, h⟩, if_neg (by omega), List.append_nil, natI_snoc]
  · rw [if_neg e, upT_at hy, upT_at hy]
    by_cases c : y < a ∧ unB F y b = true
    · rw [if_pos c, if_pos ⟨by omega, c.2⟩]
    · rw [if_neg c, if_neg (fun h => c ⟨by omega, h.2⟩)]
theorem upT_no {F : List (List Int)} {b a : Nat} (h : unB F a b = false) : upT F b (a + 1) = upT F b a := by
  unfold upT
  congr 1
  funext y
  by_cases e : y = a
  · subst e; rw [if_neg (by rw [h]; simp), if_neg (by rw [h]; simp)]
  · by_cases c : y < a ∧ unB F y b = true
    · rw [if_pos c, if_pos ⟨by omega, c.2⟩]
    · rw [if_neg c, if_neg (fun h => c ⟨by omega, h.2⟩)]
theorem dnT_next (F : List (List Int)) (b : Nat) : dnT F b b = dnT F (b + 1) 0 := by
  unfold dnT
  congr 1
  funext y
  by_cases c : y < b
  · rw [if_pos c, if_pos (by omega)]
  · by_cases e : y = b
    · subst e; rw [if_neg c, if_pos rfl, if_pos (by omega)]
    · rw [if_neg c, if_neg e, if_neg (by omega)]
      split
      · rfl
      · rfl
theorem upT_next (F : List (List Int)) (b : Nat) : upT F b b = upT F (b + 1) 0 := by
  unfold upT
  congr 1
  funext y
  rw [upRow_step, if_neg (show ¬ (y < 0 ∧ unB F y (b + 1) = true) by omega), List.append_nil]
theorem dnT_zero (F : List (List Int)) : dnT F 0 0 = List.replicate F.length [] := by
  refine tabX_ext (by rw [dnT_len, List.length_replicate]) fun y hy => ?_
  rw [dnT_len] at hy
  rw [dnT_at hy, if_neg (by omega)]
  simp only [List.getD_eq_getElem?_getD, List.getElem?_replicate, if_pos hy, Option.getD_some]
  split <;> rfl
theorem upT_zero (F : List (List Int)) : upT F 0 0 = List.replicate F.length [] := by
  refine tabX_ext (by rw [upT_len, List.length_replicate]) fun y hy => ?_
  rw [upT_len] at hy
  rw [upT_at hy, if_neg (by omega)]
  simp only [List.getD_eq_getElem?_getD, List.getElem?_replicate, if_pos hy, Option.getD_some]
  rfl
/-- the whole diagram -/
def dnF (F : List (List Int)) : List (List Int) := dnT F F.length 0
def upF (F : List (List Int)) : List (List Int) := upT F F.length 0
theorem dnF_at {F : List (List Int)} {y : Nat} (h : y < F.length) : (dnF F).getD y [] = natI (dnRow F y y) := by unfold dnF; rw [dnT_at h, if_pos h]
theorem upF_at {F : List (List Int)} {y : Nat} (h : y < F.length) : (upF F).getD y [] = natI (upRow F y F.length) := by unfold upF; rw [upT_at h, if_neg (by omega), List.append_nil]
theorem dnRow_len (F : List (List Int)) (b k : Nat) : (dnRow F b k).length ≤ k := by
  have := List.length_filter_le (fun a => unB F a b) (List.range k)
  rwa [List.length_range] at this
theorem upRow_len (F : List (List Int)) (b k : Nat) : (upRow F b k).length ≤ k := by
  have := List.length_filter_le (fun x => decide (b < x) && unB F b x) (List.range k)
  rwa [List.length_range] at this
end Go.Proofs.YtoheffkiohfmoaaGreatDoor
