/-
  Joins, unions, meets (plain): what sets the program and the document make, and that they close alike.
  slices.Grow from nothing, slices.Concat of lists of numbers and of two lists of lists, by contracts.
  cells.both and cells.Vertices by contracts.
  cells.some with the closure handlebody/cells.Meet$1, by a contract.
  cells.Union, cells.Meet by contracts.
  cells.Join by a contract.
  The document's VerticesOf and JoinOf by contracts.
-/
import Derived.Test.YtipblphfjejpbaaGreatDoorMrQ
import Derived.Test.YtipblphfjejpbaaGreatDoorTabB
import Derived.Lib.AppendZeros
import Derived.Lib.QuietBelow
import Derived.Test.YtipblphfjejpbaaGreatDoorMrA
import Derived.Deep.DeepCutAuto
set_option linter.unusedVariables false
set_option linter.unusedSimpArgs false
namespace Go.Proofs.YtipblphfjejpbaaGreatDoor
open Go Go.RowKit Go.Maps

/-- sets whose only fault may be a vertex that is too great -/
def Plain (L : List (List Int)) : Prop := ∀ l ∈ L, l ≠ [] ∧ Rise l ∧ ∀ x ∈ l, 0 ≤ x
theorem errC_half {L M : List (List Int)} (hL : Plain L) (hM : Plain M) (h : ∀ g, IsF L g → IsF M g) :
    ((∃ l ∈ L, ¬ okSet l) → ∃ l ∈ M, ¬ okSet l) ∧ ((∃ l ∈ L, 7 < l.length) → ∃ l ∈ M, 7 < l.length) := by
  have hex : ∀ l ∈ L, ∃ m ∈ M, l.Sublist m := fun l hl => by
    obtain ⟨h1, h2, -⟩ := hL l hl
    obtain ⟨-, m, h3, h4⟩ := h l ⟨h1, l, hl, by rw [sortI_rise h2]; exact List.Sublist.refl _⟩
    rw [sortI_rise (hM m h3).2.1] at h4
    exact ⟨m, h3, h4⟩
  constructor
  · rintro ⟨l, hl, hb⟩
    obtain ⟨m, hm, hs⟩ := hex l hl
    refine ⟨m, hm, fun hok => hb ⟨(hL l hl).1, ((hL l hl).2.1).imp (fun h => by omega), fun x hx => ⟨(hL l hl).2.2 x hx, (hok.2.2 x (hs.subset hx)).2⟩⟩⟩
  · rintro ⟨l, hl, hb⟩
    obtain ⟨m, hm, hs⟩ := hex l hl
    exact ⟨m, hm, Nat.lt_of_lt_of_le hb hs.length_le⟩
theorem errC_congr {L M : List (List Int)} (hL : Plain L) (hM : Plain M) (h : ∀ g, IsF L g ↔ IsF M g) : errC L = errC M := by
  obtain ⟨a1, a2⟩ := errC_half hL hM fun g => (h g).1
  obtain ⟨b1, b2⟩ := errC_half hM hL fun g => (h g).2
  unfold errC
  rw [allF_congr h]
  by_cases h1 : ∃ l ∈ L, ¬ okSet l
  · exact (if_pos h1).trans (if_pos (a1 h1)).symm
  · have h2 : ¬ ∃ l ∈ M, ¬ okSet l := fun h => h1 (b1 h)
    refine (if_neg h1).trans (Eq.trans ?_ (if_neg h2).symm)
    by_cases h3 : (∃ l ∈ L, 7 < l.length) ∨ 600 < (allF M).length
    · exact (if_pos h3).trans (if_pos (h3.imp a2 id)).symm
    · exact (if_neg h3).trans (if_neg (fun h => h3 (h.imp b2 id))).symm

/-- a right complex: its facets and its faces -/
theorem right_rise {L : List (List Int)} (h : errX L = 0) : ∀ l ∈ L, l ∈ allF L := fun l hl => by
  have := (errX_ok h).2
  rw [this] at hl
  exact mem_facets hl
theorem right_up {L : List (List Int)} (h : errX L = 0) {g : List Int} (hg : g ∈ allF L) : ∃ l ∈ L, g.Sublist l := by
  obtain ⟨-, l, hl, hs⟩ := mem_allF.1 hg
  rw [sortI_rise (allF_rises (errX_ok h).1 l (right_rise h l hl))] at hs
  exact ⟨l, hl, hs⟩
theorem allF_0 {L : List (List Int)} (h : errC L = 0) : ∀ g ∈ allF L, ∀ x ∈ g, 0 ≤ x ∧ x ≤ 99 := fun g hg => isF_bd (errC_ok h).1 (mem_allF.1 hg)
theorem allE_0 (L : List (List Int)) : ∀ g ∈ allE L, ∀ x ∈ g, 0 ≤ x ∧ x ≤ 99 := fun g hg => by
  by_cases h : errX L = 0
  · rw [allE_ok h] at hg; exact allF_0 (errX_ok h).1 g hg
  · rw [allE_bad h] at hg; cases hg
theorem plain_all {L : List (List Int)} (h : errX L = 0) : Plain (allF L) := fun g hg => ⟨allF_ne g hg, allF_rises (errX_ok h).1 g hg, fun x hx => (allF_0 (errX_ok h).1 g hg x hx).1⟩

/-- a complex's vertices: the program's words; the document's -/
def vertA (L : List (List Int)) : List Int := setL L.flatten
def vertR (A : List (List Int)) : List Int := A.filterMap fun x => if x.length = 1 then some (x.getD 0 0) else none
theorem mem_vertA {L : List (List Int)} {x : Int} : x ∈ vertA L ↔ ∃ l ∈ L, x ∈ l := by unfold vertA; rw [mem_setL, List.mem_flatten]
theorem mem_vertR {A : List (List Int)} {x : Int} : x ∈ vertR A ↔ [x] ∈ A := by
  unfold vertR
  rw [List.mem_filterMap]
  constructor
  · rintro ⟨y, hy, h⟩
    by_cases h1 : y.length = 1
    · rw [if_pos h1] at h
      obtain ⟨z, rfl⟩ := List.length_eq_one_iff.1 h1
      cases h; exact hy
    · rw [if_neg h1] at h; cases h
  · intro h
    exact ⟨[x], h, rfl⟩
theorem rise_vertR : ∀ {A : List (List Int)}, SortedF A → Rise (vertR A)
  | [], _ => List.Pairwise.nil
  | y :: r, h => by
    obtain ⟨h1, h2⟩ := List.pairwise_cons.1 h
    have ih := rise_vertR h2
    have e : vertR (y :: r) = (if y.length = 1 then [y.getD 0 0] else []) ++ vertR r := by
      unfold vertR
      rw [List.filterMap_cons]
      by_cases h : y.length = 1
      · rw [if_pos h, if_pos h]; rfl
      · rw [if_neg h, if_neg h]; rfl
    rw [e]
    by_cases hy : y.length = 1
    · rw [if_pos hy]
      obtain ⟨z, rfl⟩ := List.length_eq_one_iff.1 hy
      refine List.pairwise_cons.2 ⟨fun x hx => ?_, ih⟩
      have h3 := h1 [x] (mem_vertR.1 hx)
      unfold ah at h3
      by_cases hzx : z = x
      · rw [if_pos hzx, ah_irrefl] at h3; cases h3
      · rw [if_neg hzx, decide_eq_true_eq] at h3; exact h3
    · rw [if_neg hy]; exact ih
theorem vert_same {L : List (List Int)} (h : errX L = 0) : vertR (allF L) = vertA L := rise_ext (rise_vertR (allF_sorted L)) (rise_setL _) fun x => by
  rw [mem_vertR, mem_vertA]
  constructor
  · intro hx
    obtain ⟨l, hl, hs⟩ := right_up h hx
    exact ⟨l, hl, hs.subset (List.mem_cons_self ..)⟩
  · rintro ⟨l, hl, hx⟩
    exact closed_under l (right_rise h l hl) [x] (List.singleton_sublist.2 hx) (by simp)
theorem vertR_len (A : List (List Int)) : (vertR A).length ≤ A.length := List.length_filterMap_le _ _
theorem vertR_step {A : List (List Int)} {j : Nat} (h : j < A.length) : vertR (A.take (j + 1)) = vertR (A.take j) ++ (if (A.getD j []).length = 1 then [(A.getD j []).getD 0 0] else []) := by
  unfold vertR
  rw [take_snoc_getD [] A j h, List.filterMap_append]
  generalize A.getD j [] = x
  by_cases hc : x.length = 1
  · rw [if_pos hc]; congr 1; simp only [List.filterMap_cons, List.filterMap_nil]; rw [if_pos hc]
  · rw [if_neg hc]; congr 1; simp only [List.filterMap_cons, List.filterMap_nil]; rw [if_neg hc]

/-- by how much the second one's vertices are raised -/
def moreF (V : List Int) : Int := if V.length = 0 then 0 else V.getD (V.length - 1) 0 + 1
theorem getD_mem {l : List Int} {i : Nat} (h : i < l.length) : l.getD i 0 ∈ l := by rw [List.getD_eq_getElem?_getD, List.getElem?_eq_getElem h]; exact List.getElem_mem _
theorem moreF_gt {V : List Int} (h : Rise V) {x : Int} (hx : x ∈ V) : x < moreF V := by
  obtain ⟨i, hi, e⟩ := List.getElem_of_mem hx
  unfold moreF
  rw [if_neg (by omega), List.getD_eq_getElem?_getD, List.getElem?_eq_getElem (by omega)]
  simp only [Option.getD_some]
  rcases (show i = V.length - 1 ∨ i < V.length - 1 by omega) with h2 | h2
  · subst h2; rw [e]; omega
  · have := List.pairwise_iff_getElem.1 h i (V.length - 1) (by omega) (by omega) h2
    rw [e] at this; omega
theorem moreF_bd {V : List Int} (h : ∀ x ∈ V, 0 ≤ x ∧ x ≤ 99) : 0 ≤ moreF V ∧ moreF V ≤ 100 := by
  unfold moreF
  split
  · omega
  · have := h _ (getD_mem (l := V) (i := V.length - 1) (by omega))
    omega
def shF (m : Int) (f : List Int) : List Int := f.map (· + m)
theorem shF_len (m : Int) (f : List Int) : (shF m f).length = f.length := List.length_map ..
theorem shF_rise {m : Int} {f : List Int} (h : Rise f) : Rise (shF m f) := List.pairwise_map.2 (h.imp fun h => by omega)
theorem mem_shF {m : Int} {f : List Int} {x : Int} (h : x ∈ shF m f) : ∃ y ∈ f, x = y + m := by
  obtain ⟨y, h1, rfl⟩ := List.mem_map.1 h
  exact ⟨y, h1, rfl⟩
/-- the sets of a join -/
def joinF (cat : List Int → List Int → List Int) (m : Int) (A B : List (List Int)) : List (List Int) :=
  (A ++ B.map (shF m)) ++ A.flatMap fun f => (B.map (shF m)).map fun g => cat f g
def joinP (A B : List (List Int)) : List (List Int) := joinF (· ++ ·) (moreF (vertA A)) A B
def joinR (p q : List (List Int)) : List (List Int) := joinF togF (moreF (vertR p)) p q
theorem mem_joinF {cat : List Int → List Int → List Int} {m : Int} {A B : List (List Int)} {l : List Int} :
    l ∈ joinF cat m A B ↔ l ∈ A ∨ (∃ g ∈ B, l = shF m g) ∨ ∃ f ∈ A, ∃ g ∈ B, l = cat f (shF m g) := by
  unfold joinF
  rw [List.mem_append, List.mem_append, List.mem_map, List.mem_flatMap, or_assoc]
  refine or_congr_right (or_congr ⟨?_, ?_⟩ ⟨?_, ?_⟩)
  · rintro ⟨g, h, rfl⟩; exact ⟨g, h, rfl⟩
  · rintro ⟨g, h, rfl⟩; exact ⟨g, h, rfl⟩
  · rintro ⟨f, hf, h⟩
    obtain ⟨x, hx, rfl⟩ := List.mem_map.1 h
    obtain ⟨g, hg, rfl⟩ := List.mem_map.1 hx
    exact ⟨f, hf, g, hg, rfl⟩
  · rintro ⟨f, hf, g, hg, rfl⟩
    exact ⟨f, hf, List.mem_map.2 ⟨_, List.mem_map.2 ⟨g, hg, rfl⟩, rfl⟩⟩
theorem joinF_len (cat : List Int → List Int → List Int) (m : Int) (A B : List (List Int)) : (joinF cat m A B).length = A.length + B.length + A.length * B.length := by
  unfold joinF
  rw [List.length_append, List.length_append, List.length_map, List.length_flatMap]
  congr 1
  simp only [List.length_map]
  rw [List.map_const', List.sum_replicate_nat]
theorem app_rise {f g : List Int} {m : Int} (hf : Rise f) (hg : Rise g) (h1 : ∀ x ∈ f, x < m) (h2 : ∀ x ∈ g, m ≤ x) : Rise (f ++ g) :=
  List.pairwise_append.2 ⟨hf, hg, fun a ha b hb => by have := h1 a ha; have := h2 b hb; omega⟩
section
variable {A B : List (List Int)} (hA : errX A = 0) (hB : errX B = 0)
include hA in
theorem below_more : ∀ f ∈ allF A, ∀ x ∈ f, x < moreF (vertA A) := fun f hf x hx => by
  obtain ⟨l, hl, hs⟩ := right_up hA hf
  exact moreF_gt (rise_setL _) (mem_vertA.2 ⟨l, hl, hs.subset hx⟩)
include hB in
theorem above_more {m : Int} (hm : 0 ≤ m) : ∀ g ∈ allF B, ∀ x ∈ shF m g, m ≤ x ∧ 0 ≤ x := fun g hg x hx => by
  obtain ⟨y, hy, rfl⟩ := mem_shF hx
  have := (allF_0 (errX_ok hB).1 g hg y hy).1
  omega
include hA in
theorem more_0 : 0 ≤ moreF (vertA A) ∧ moreF (vertA A) ≤ 100 := moreF_bd fun x hx => by
  obtain ⟨l, hl, hx⟩ := mem_vertA.1 hx
  exact allF_0 (errX_ok hA).1 l (right_rise hA l hl) x hx
include hA hB in
/-- the document's sets, told like the program's -/
theorem joinR_eq : ∀ l, l ∈ joinR (allF A) (allF B) ↔ l ∈ joinF (· ++ ·) (moreF (vertA A)) (allF A) (allF B) := fun l => by
  unfold joinR
  rw [vert_same hA, mem_joinF, mem_joinF]
  have hm := (more_0 hA).1
  have e : ∀ f ∈ allF A, ∀ g ∈ allF B, togF f (shF (moreF (vertA A)) g) = f ++ shF (moreF (vertA A)) g := fun f hf g hg =>
    rise_eq (rise_togF _ _) (app_rise (allF_rises (errX_ok hA).1 f hf) (shF_rise (allF_rises (errX_ok hB).1 g hg)) (below_more hA f hf) fun x hx => (above_more hB hm g hg x hx).1) fun x => by rw [mem_togF, List.mem_append]
  refine or_congr_right (or_congr_right ⟨?_, ?_⟩)
  · rintro ⟨f, hf, g, hg, rfl⟩; exact ⟨f, hf, g, hg, e f hf g hg⟩
  · rintro ⟨f, hf, g, hg, rfl⟩; exact ⟨f, hf, g, hg, (e f hf g hg).symm⟩
include hA hB in
theorem join_plain {p q : List (List Int)} (hp : ∀ f ∈ p, f ∈ allF A) (hq : ∀ g ∈ q, g ∈ allF B) : Plain (joinF (· ++ ·) (moreF (vertA A)) p q) := fun l hl => by
  have hm := (more_0 hA).1
  have pa := plain_all hA
  have pb := plain_all hB
  rcases mem_joinF.1 hl with h | ⟨g, hg, rfl⟩ | ⟨f, hf, g, hg, rfl⟩
  · exact pa l (hp l h)
  · have hg := hq g hg
    exact ⟨fun e => (pb g hg).1 (List.map_eq_nil_iff.1 e), shF_rise (pb g hg).2.1, fun x hx => (above_more hB hm g hg x hx).2⟩
  · have hf := hp f hf
    have hg := hq g hg
    refine ⟨fun e => (pa f hf).1 (List.append_eq_nil_iff.1 e).1, app_rise (pa f hf).2.1 (shF_rise (pb g hg).2.1) (below_more hA f hf) (fun x hx => (above_more hB hm g hg x hx).1), fun x hx => ?_⟩
    rcases List.mem_append.1 hx with h | h
    · exact (pa f hf).2.2 x h
    · exact (above_more hB hm g hg x h).2
include hA hB in
theorem join_isF (g : List Int) : IsF (joinP A B) g ↔ IsF (joinR (allF A) (allF B)) g := by
  have h1 : Plain (joinP A B) := join_plain hA hB (right_rise hA) (right_rise hB)
  have h2 := join_plain hA hB (fun f h => h) (fun f h => h)
  rw [isF_mem (joinR_eq hA hB), isF_of_rise (fun l hl => (h2 l hl).2.1), isF_of_rise (fun l hl => (h1 l hl).2.1)]
  refine and_congr_right fun _ => ⟨?_, ?_⟩
  · rintro ⟨l, hl, hs⟩
    refine ⟨l, mem_joinF.2 ?_, hs⟩
    rcases mem_joinF.1 hl with h | ⟨g, hg, h⟩ | ⟨f, hf, g, hg, h⟩
    · exact Or.inl (right_rise hA l h)
    · exact Or.inr (Or.inl ⟨g, right_rise hB g hg, h⟩)
    · exact Or.inr (Or.inr ⟨f, right_rise hA f hf, g, right_rise hB g hg, h⟩)
  · rintro ⟨l, hl, hs⟩
    rcases mem_joinF.1 hl with h | ⟨g, hg, rfl⟩ | ⟨f, hf, g, hg, rfl⟩
    · obtain ⟨a, ha, h1⟩ := right_up hA h
      exact ⟨a, mem_joinF.2 (Or.inl ha), hs.trans h1⟩
    · obtain ⟨b, hb, h1⟩ := right_up hB hg
      exact ⟨_, mem_joinF.2 (Or.inr (Or.inl ⟨b, hb, rfl⟩)), hs.trans (h1.map _)⟩
    · obtain ⟨a, ha, h1⟩ := right_up hA hf
      obtain ⟨b, hb, h2⟩ := right_up hB hg
      exact ⟨_, mem_joinF.2 (Or.inr (Or.inr ⟨a, ha, b, hb, rfl⟩)), hs.trans (h1.append (h2.map _))⟩
include hA hB in
theorem join_right : errC (joinP A B) = errC (joinR (allF A) (allF B)) ∧ madeF (joinP A B) = madeF (joinR (allF A) (allF B)) := by
  have h1 := join_plain hA hB (right_rise hA) (right_rise hB)
  have h2 := join_plain hA hB (fun f h => h) (fun f h => h)
  exact ⟨errC_congr h1 (fun l hl => h2 l ((joinR_eq hA hB l).1 hl)) (join_isF hA hB), made_congr (join_isF hA hB)⟩
include hA hB in
theorem union_right : errC (A ++ B) = errC (allF A ++ allF B) ∧ madeF (A ++ B) = madeF (allF A ++ allF B) := by
  have p1 : Plain (allF A ++ allF B) := fun l hl => (List.mem_append.1 hl).elim (plain_all hA l) (plain_all hB l)
  have p2 : Plain (A ++ B) := fun l hl => (List.mem_append.1 hl).elim (fun h => plain_all hA l (right_rise hA l h)) (fun h => plain_all hB l (right_rise hB l h))
  have h : ∀ g, IsF (A ++ B) g ↔ IsF (allF A ++ allF B) g := fun g => by
    rw [isF_of_rise (fun l hl => (p1 l hl).2.1), isF_of_rise (fun l hl => (p2 l hl).2.1)]
    refine and_congr_right fun _ => ⟨?_, ?_⟩
    · rintro ⟨l, hl, hs⟩
      exact ⟨l, List.mem_append.2 ((List.mem_append.1 hl).imp (right_rise hA l) (right_rise hB l)), hs⟩
    · rintro ⟨l, hl, hs⟩
      rcases List.mem_append.1 hl with h | h
      · obtain ⟨a, ha, h1⟩ := right_up hA h
        exact ⟨a, List.mem_append_left _ ha, hs.trans h1⟩
      · obtain ⟨a, ha, h1⟩ := right_up hB h
        exact ⟨a, List.mem_append_right _ ha, hs.trans h1⟩
  exact ⟨errC_congr p2 p1 h, made_congr h⟩
end
/-- what two have in common -/
def meetP (A B : List (List Int)) : List (List Int) := coll (fun x => if hasB B x then x else []) (tableF (allF A)).flatten
def meetR (p q : List (List Int)) : List (List Int) := p.filter fun x => decide (x ∈ q)
theorem mem_meetP {A B : List (List Int)} (hB : errX B = 0) {y : List Int} : y ∈ meetP A B ↔ y ∈ meetR (allF A) (allF B) := by
  unfold meetP meetR
  rw [mem_coll, List.mem_filter, decide_eq_true_eq]
  constructor
  · rintro ⟨h1, x, hx, h2⟩
    have hx := (mem_flat allF_ne).1 hx
    cases hp : hasB B x with
    | true => rw [hp] at h2; simp only [if_true] at h2; subst h2; exact ⟨hx, (hasB_iff hB x).1 hp⟩
    | false => rw [hp] at h2; exact absurd h2.symm h1
  · rintro ⟨h1, h2⟩
    exact ⟨allF_ne y h1, y, (mem_flat allF_ne).2 h1, if_pos ((hasB_iff hB y).2 h2)⟩
theorem meet_right {A B : List (List Int)} (hA : errX A = 0) (hB : errX B = 0) : errC (meetP A B) = 0 ∧ errC (meetR (allF A) (allF B)) = 0 ∧ madeF (meetP A B) = madeF (meetR (allF A) (allF B)) := by
  have hc := (errX_ok hA).1
  refine ⟨errC_part hc fun g hg => (List.mem_filter.1 ((mem_meetP hB).1 hg)).1, errC_part hc fun g hg => (List.mem_filter.1 hg).1, made_congr fun g => isF_mem (fun y => mem_meetP hB) g⟩
theorem meetR_step {p q : List (List Int)} {j : Nat} (h : j < p.length) : meetR (p.take (j + 1)) q = meetR (p.take j) q ++ (if p.getD j [] ∈ q then [p.getD j []] else []) := by
  unfold meetR
  rw [take_snoc_getD [] p j h, List.filter_append]
  generalize p.getD j [] = x
  by_cases hc : x ∈ q
  · rw [if_pos hc]; congr 1; simp [hc]
  · rw [if_neg hc]; congr 1; simp [hc]
theorem meetR_len (p q : List (List Int)) : (meetR p q).length ≤ p.length := List.length_filter_le _ _

/-- two complexes' error; an error ahead of what is made -/
noncomputable def errJ (A B : List (List Int)) : Nat := if errX A = 0 then errX B else errX A
theorem errJ_0 {A B : List (List Int)} (h : errJ A B = 0) : errX A = 0 ∧ errX B = 0 := by
  unfold errJ at h
  by_cases h1 : errX A = 0
  · rw [if_pos h1] at h; exact ⟨h1, h⟩
  · rw [if_neg h1] at h; exact absurd h h1
theorem errJ_le (A B : List (List Int)) : errJ A B ≤ 4 := by
  unfold errJ
  split
  · exact errX_le B
  · exact errX_le A
noncomputable def errG (f : Nat) (M : List (List Int)) : Nat := if f = 0 then errC M else f
theorem errC_le (L : List (List Int)) : errC L ≤ 4 := by rcases errC_cases L with h | h | h <;> omega
theorem errG_le {f : Nat} (h : f ≤ 4) (M : List (List Int)) : errG f M ≤ 4 := by
  unfold errG
  split
  · exact errC_le M
  · exact h
theorem errG_0 {f : Nat} {M : List (List Int)} (h : errG f M = 0) : f = 0 ∧ errC M = 0 := by
  unfold errG at h
  by_cases h1 : f = 0
  · rw [if_pos h1] at h; exact ⟨h1, h⟩
  · rw [if_neg h1] at h; exact absurd h h1
theorem join_G (A B : List (List Int)) : errG (errJ A B) (joinP A B) = errG (errJ A B) (joinR (allE A) (if errJ A B = 0 then allE B else [])) := by
  unfold errG
  by_cases h : errJ A B = 0
  · obtain ⟨ha, hb⟩ := errJ_0 h
    rw [if_pos h, if_pos h, if_pos h, allE_ok ha, allE_ok hb]
    exact (join_right ha hb).1
  · rw [if_neg h, if_neg h]
theorem join_M {A B : List (List Int)} (h : errJ A B = 0) : madeF (joinP A B) = madeF (joinR (allE A) (if errJ A B = 0 then allE B else [])) := by
  obtain ⟨ha, hb⟩ := errJ_0 h
  rw [if_pos h, allE_ok ha, allE_ok hb]
  exact (join_right ha hb).2
theorem union_G (A B : List (List Int)) : errG (errJ A B) (A ++ B) = errG (errJ A B) (allE A ++ (if errJ A B = 0 then allE B else [])) := by
  unfold errG
  by_cases h : errJ A B = 0
  · obtain ⟨ha, hb⟩ := errJ_0 h
    rw [if_pos h, if_pos h, if_pos h, allE_ok ha, allE_ok hb]
    exact (union_right ha hb).1
  · rw [if_neg h, if_neg h]
theorem union_M {A B : List (List Int)} (h : errJ A B = 0) : madeF (A ++ B) = madeF (allE A ++ (if errJ A B = 0 then allE B else [])) := by
  obtain ⟨ha, hb⟩ := errJ_0 h
  rw [if_pos h, allE_ok ha, allE_ok hb]
  exact (union_right ha hb).2
theorem meet_M {A B : List (List Int)} (h : errJ A B = 0) : errC (meetP A B) = 0 ∧ errC (meetR (allE A) (if errJ A B = 0 then allE B else [])) = 0 ∧ madeF (meetP A B) = madeF (meetR (allE A) (if errJ A B = 0 then allE B else [])) := by
  obtain ⟨ha, hb⟩ := errJ_0 h
  rw [if_pos h, allE_ok ha, allE_ok hb]
  exact meet_right ha hb

/-- an owned row of no elements yet, in new memory -/
def GrowP (t : TypeId) (w : World) (e : Ending) (w' : World) : Prop := ∃ p c, e = .returned (.slice p 0 c) ∧ Below w.heap.size w w' ∧ w'.ownsRow w.heap.size t 1 (.slice p 0 c) 0 []
theorem zero_row {w : World} {n cap : Nat} {t : TypeId} {z : Value} (hz : z.cells.size = 1) (hn : n ≤ cap) (hc : cap ≤ maxLen) :
    (w.drew.alloc (.cells (Builtin.zeroCells z.cells n ++ Builtin.zeroCells z.cells (cap - n)) t)).ownsRow w.heap.size t 1 (.slice (some ⟨w.heap.size, 0, none⟩) 0 cap) 0 [] := by
  refine ⟨rfl, Or.inr ⟨w.heap.size, cap, _, rfl, Nat.le_refl _, heap_alloc_new w.drew _, Nat.zero_le _, hc, ?_, by simp⟩⟩
  rw [Array.size_append]
  have h : ∀ m, (Builtin.zeroCells z.cells m).size = m := fun m => by
    unfold Builtin.zeroCells
    simp [hz]
  rw [h, h]
  omega
set_option maxRecDepth 100000 in
set_option maxHeartbeats 4000000 in
theorem growI_any (n : Nat) (w : World) (hn : n ≤ 1000000) : Calls Tryz.prog 105 #[.slice none 0 0, .int .i64 (n : Int)] w (GrowP 3 w) := by
  obtain ⟨i3, hi3, hy0, hy1, hy2⟩ := info_parts Tryz.info3
  unfold GrowP
  by_cases h0 : n = 0
  · subst h0
    go_enter Tryz.func105, Tryz.ntmps105
    go_wp2_with fail
    go_ret
    exact ⟨none, 0, rfl, Below.refl _ _, World.ownsRow_nil _ _ _ _⟩
  · have hr := Lib.run_append_nil_zeros w 26 3 26 3 i3 (.int .i64 0) .i64 .i64 Tryz.underlying26 Tryz.underlying3 hi3 hy0 n (by omega) (by omega) (by omega) (by rw [hy2]; omega)
    have HRUN := Lib.hid hr
    have hge := grownCap_ge w n 0 3
    have hle := grownCap_le_maxLen w n 0 3 (by unfold maxLen; omega)
    have HZ := Lib.hid (zero_row (w := w) (t := 3) (z := .int .i64 0) rfl hge hle)
    generalize grownCap w n 0 3 = cap at hge hle HRUN HZ
    unfold maxLen at hle
    have hb : Below w.heap.size w (w.drew.alloc (.cells (Builtin.zeroCells (Value.int .i64 0).cells n ++ Builtin.zeroCells (Value.int .i64 0).cells (cap - n)) 3)) := (Below.refl _ _).drew.alloc (Nat.le_refl _) _
    obtain ⟨W, hW⟩ : ∃ W, W = w.drew.alloc (.cells (Builtin.zeroCells (Value.int .i64 0).cells n ++ Builtin.zeroCells (Value.int .i64 0).cells (cap - n)) 3) := ⟨_, rfl⟩
    have HRW := HRUN.out
    have HZW := HZ.out
    rw [← hW] at HRW hb HZW
    have HRUN2 := Lib.hid HRW
    have HZ2 := Lib.hid HZW
    have HB := Lib.hid hb
    clear hr hb HRW HZW HRUN HZ hW
    go_enter Tryz.func105, Tryz.ntmps105
    go_wp2_with (at_builtin; refine Lib.wpList_append_run w rfl (.tmp 20) (.tmp 21) 26 3 rfl _ _ rfl rfl _ _ HRUN2.out ?_)
    go_ret
    exact ⟨_, cap, rfl, HB.out, HZ2.out⟩
set_option maxRecDepth 100000 in
set_option maxHeartbeats 4000000 in
theorem growR_any (n : Nat) (w : World) (hn : n ≤ 1000000) : Calls Tryz.prog 104 #[.slice none 0 0, .int .i64 (n : Int)] w (GrowP 26 w) := by
  obtain ⟨i3, hi3, hy0, hy1, hy2⟩ := info_parts Tryz.info26
  unfold GrowP
  by_cases h0 : n = 0
  · subst h0
    go_enter Tryz.func104, Tryz.ntmps104
    go_wp2_with fail
    go_ret
    exact ⟨none, 0, rfl, Below.refl _ _, World.ownsRow_nil _ _ _ _⟩
  · have hr := Lib.run_append_nil_zeros w 22 3 22 26 i3 (.slice none 0 0) .i64 .i64 Tryz.underlying22 Tryz.underlying3 hi3 hy0 n (by omega) (by omega) (by omega) (by rw [hy2]; omega)
    have HRUN := Lib.hid hr
    have hge := grownCap_ge w n 0 26
    have hle := grownCap_le_maxLen w n 0 26 (by unfold maxLen; omega)
    have HZ := Lib.hid (zero_row (w := w) (t := 26) (z := .slice none 0 0) rfl hge hle)
    generalize grownCap w n 0 26 = cap at hge hle HRUN HZ
    unfold maxLen at hle
    have hb : Below w.heap.size w (w.drew.alloc (.cells (Builtin.zeroCells (Value.slice none 0 0).cells n ++ Builtin.zeroCells (Value.slice none 0 0).cells (cap - n)) 26)) := (Below.refl _ _).drew.alloc (Nat.le_refl _) _
    obtain ⟨W, hW⟩ : ∃ W, W = w.drew.alloc (.cells (Builtin.zeroCells (Value.slice none 0 0).cells n ++ Builtin.zeroCells (Value.slice none 0 0).cells (cap - n)) 26) := ⟨_, rfl⟩
    have HRW := HRUN.out
    have HZW := HZ.out
    rw [← hW] at HRW hb HZW
    have HRUN2 := Lib.hid HRW
    have HZ2 := Lib.hid HZW
    have HB := Lib.hid hb
    clear hr hb HRW HZW HRUN HZ hW
    go_enter Tryz.func104, Tryz.ntmps104
    go_wp2_with (at_builtin; refine Lib.wpList_append_run w rfl (.tmp 20) (.tmp 21) 22 3 rfl _ _ rfl rfl _ _ HRUN2.out ?_)
    go_ret
    exact ⟨_, cap, rfl, HB.out, HZ2.out⟩

theorem flat_step {α : Type} {L : List (List α)} {j : Nat} (h : j < L.length) : (L.take (j + 1)).flatten = (L.take j).flatten ++ L.getD j [] := by
  rw [take_snoc_getD [] L j h, List.flatten_append]
  simp
theorem flat_len {α : Type} (L : List (List α)) (j : Nat) : (L.take j).flatten.length ≤ L.flatten.length := by
  have h : L = L.take j ++ L.drop j := (List.take_append_drop j L).symm
  have h2 : L.flatten.length = (L.take j).flatten.length + (L.drop j).flatten.length := by
    rw [← List.length_append, ← List.flatten_append, ← h]
  omega
theorem flat_succ {α : Type} {L : List (List α)} {j : Nat} (h : j < L.length) : (L.take j).flatten.length + (L.getD j []).length ≤ L.flatten.length := by
  have h1 := flat_len L (j + 1)
  rw [flat_step h, List.length_append] at h1
  exact h1

/-- the numbers of lists, one behind the other, in new memory -/
def CatP (L : List (List Int)) (w : World) (e : Ending) (w' : World) : Prop := ∃ p c, e = .returned (.slice p L.flatten.length c) ∧ Below w.heap.size w w' ∧ w'.ownsRow w.heap.size 3 1 (.slice p L.flatten.length c) L.flatten.length (intVs L.flatten)
set_option maxRecDepth 100000 in
set_option maxHeartbeats 8000000 in
theorem catI_any (B : Nat) (L : List (List Int)) (v : Value) (w : World) (hv : ListsIn B w v L) (hn : L.length ≤ 1000000) (hs : L.flatten.length ≤ 1000000) :
    Calls Tryz.prog 69 #[v] w (CatP L w) := by
  obtain ⟨i3, hi3, hy0, hy1, hy2⟩ := info_parts Tryz.info3
  obtain ⟨pv, cv, hve, -⟩ := id hv
  obtain ⟨n, hLn⟩ : ∃ n, L.length = n := ⟨_, rfl⟩
  rw [hLn] at hve hn
  subst hve
  have HLN := Lib.hid hLn
  have HV := Lib.hid hv
  obtain ⟨m, hm⟩ : ∃ m, L.flatten.length = m := ⟨_, rfl⟩
  have HM := Lib.hid hm
  rw [hm] at hs
  unfold CatP
  rw [hm]
  clear hLn hv hm
  go_enter Tryz.func69, Tryz.ntmps69
  go_wp2_with fail
  go_loop [3, 5, 11] (fun s _ i => ∃ j k : Nat, j ≤ n ∧ i = .int .i64 j ∧ s = .int .i64 k ∧ Hid ((L.take j).flatten.length = k)) (fun _ _ i => n - (intOf i).toNat)
  case atStart => exact ⟨0, 0, Nat.zero_le _, rfl, rfl, rfl⟩
  case round =>
    obtain ⟨j, k, hj, rfl, rfl, HK⟩ := hrel
    have hkm : k ≤ m := by rw [← HK.out, ← HM.out]; exact flat_len L j
    by_cases hjn : j < n
    · have hjL : j < L.length := by rw [HLN.out]; exact hjn
      obtain ⟨b, off, c, hve⟩ := HV.out.form (by omega)
      rw [HLN.out] at hve
      obtain ⟨rfl, rfl⟩ : pv = some ⟨b, off, none⟩ ∧ cv = c := by cases hve; exact ⟨rfl, rfl⟩
      obtain ⟨pj, cj, hcj, hij⟩ := cells_at HV.out j hjL
      have hsc := flat_succ hjL
      have HST := Lib.hid (flat_step hjL)
      obtain ⟨nj, hnj⟩ : ∃ nj, (L.getD j []).length = nj := ⟨_, rfl⟩
      rw [hnj] at hcj hsc
      rw [HK.out, HM.out] at hsc
      have HNJ := Lib.hid hnj
      have q1 : decide (((k : Int) + (nj : Int)) < 0) = false := decide_eq_false (by omega)
      clear hve hij hnj hjL
      go_wp2_with fail
      go_round
      case rel => exact ⟨j + 1, k + nj, by omega, by go_num, by go_num, by unfold Hid; rw [HST.out, List.length_append, HK.out, HNJ.out]⟩
      case measure => simp [intOf]; omega
    · obtain rfl : n = j := by omega
      obtain rfl : k = m := by rw [← HK.out, ← HM.out, ← HLN.out, List.take_length]
      have HG := Lib.hid (growI_any k w (by omega))
      unfold GrowP at HG
      go_wp2_with fail
      refine HG.out.mono ?_
      rintro e w1 ⟨p1, c1, rfl, hb1, ho1⟩
      have HB1 := Lib.hid hb1
      have HO1 := Lib.hid ho1
      have hs1 := hb1.size
      have HV1 := Lib.hid (HV.out.below hb1 (Nat.le_refl _))
      clear hb1 ho1 HK hkm
      go_wp2_with fail
      go_loopw [6, 8, 27] (fun s _ i wr => ∃ (j q : Nat) (p : Option Addr) (c : Nat), j ≤ n ∧ i = .int .i64 j ∧ s = .slice p q c ∧ Hid ((L.take j).flatten.length = q) ∧ Below w.heap.size w wr ∧ wr.ownsRow w.heap.size 3 1 (.slice p q c) q (intVs (L.take j).flatten)) (fun _ _ i _ => n - (intOf i).toNat)
      case atStart => exact ⟨0, 0, p1, c1, Nat.zero_le _, rfl, rfl, rfl, HB1.out, HO1.out⟩
      case round =>
        obtain ⟨j, q, p, c, hj, rfl, rfl, HQ, hb, ho⟩ := hrel
        have HB := Lib.hid hb
        have HO := Lib.hid ho
        have hsr := hb.size
        have hqk : q ≤ k := by rw [← HQ.out, ← HM.out]; exact flat_len L j
        by_cases hjn : j < n
        · have hjL : j < L.length := by rw [HLN.out]; exact hjn
          have HVR := Lib.hid (HV.out.below hb (Nat.le_refl _))
          obtain ⟨b, off, c', hve⟩ := HV.out.form (by omega)
          rw [HLN.out] at hve
          obtain ⟨rfl, rfl⟩ : pv = some ⟨b, off, none⟩ ∧ cv = c' := by cases hve; exact ⟨rfl, rfl⟩
          obtain ⟨pj, cj, hcj, hij⟩ := cells_at HVR.out j hjL
          have hsc := flat_succ hjL
          have HST := Lib.hid (flat_step hjL)
          obtain ⟨nj, hnj⟩ : ∃ nj, (L.getD j []).length = nj := ⟨_, rfl⟩
          rw [hnj] at hcj hsc hij
          rw [HQ.out, HM.out] at hsc
          have HNJ := Lib.hid hnj
          have HIJ := Lib.hid hij.at
          clear hve hij hnj hjL hb ho
          go_wp2_with (at_builtin; refine wpList_app_any wr rfl (.tmp 31) (.tmp 32) 26 rfl w.heap.size 3 i3 (.int .i64 0) 8 Tryz.underlying26 hi3 hy0 hy1 hy2 rfl (.slice p q c) q (intVs (L.take j).flatten) rfl HO.out pj nj cj (intVs (L.getD j [])) rfl HIJ.out.lenE HIJ.out.noneE HIJ.out.news (intVs_one _) (by unfold maxLen; omega) (by omega) hsr _ rfl ?_; intro p2 c2 w2 ho2 hg2 hat2; have HO2 := Lib.hid ho2; have HB2 := Lib.hid (HB.out.grown hg2 hsr (fun k e => (HO.out.lt k e).1)); clear ho2 hg2 hat2)
          go_roundw
          case rel =>
            refine ⟨j + 1, q + nj, p2, c2, by omega, by go_num, rfl, by unfold Hid; rw [HST.out, List.length_append, HQ.out, HNJ.out], HB2.out, ?_⟩
            have e : intVs (L.take j).flatten ++ intVs (L.getD j []) = intVs (L.take (j + 1)).flatten := by rw [HST.out]; simp [intVs]
            rw [← e]
            exact HO2.out
          case measure => simp [intOf]; omega
        · obtain rfl : n = j := by omega
          have HF : Hid ((L.take n) = L) := by unfold Hid; rw [← HLN.out, List.take_length]
          obtain rfl : q = k := by rw [← HQ.out, ← HM.out, HF.out]
          rw [HF.out] at HO
          clear hb ho HQ
          go_wp2_with fail
          go_ret
          exact ⟨p, c, rfl, HB.out, HO.out⟩

/-- the headers of a slice of lists -/
theorem ListsIn.heads {B : Nat} {w : World} {p : Option Addr} {m c : Nat} {L : List (List Int)} (h : ListsIn B w (.slice p m c) L) :
    ∃ news : List Value, news.length = m ∧ (p = none → c = 0 ∧ m = 0) ∧ (∀ ad, p = some ad → ∀ j u, news[j]? = some u → w.cell? (ad.add j) = some u) ∧ (∀ i, i < L.length → IntsIn B w (news.getD i .nilIface) (L.getD i [])) ∧ (∀ u ∈ news, u.oneCell' = true) ∧ L.length = m := by
  rcases Nat.eq_zero_or_pos L.length with h0 | h0
  · obtain ⟨p', c', e, h1, h2, -⟩ := h
    cases e
    refine ⟨[], by rw [h0]; rfl, fun e => ⟨h2 e, h0⟩, fun ad _ j u hu => by simp at hu, fun i hi => by omega, fun u hu => by simp at hu, rfl⟩
  · obtain ⟨b, off, c', hs, e, h1, h2, h3, h4, h5⟩ := h.src h0
    cases e
    refine ⟨hs, h2, fun e => (by cases e), fun ad e j u hu => ?_, h4, h5, rfl⟩
    cases e
    rw [add_off]
    exact h3 j u hu

set_option maxRecDepth 100000 in
set_option maxHeartbeats 8000000 in
theorem catR_any (B : Nat) (T : List (List (List Int))) (v : Value) (w : World) (hB : B ≤ w.heap.size) (hv : TabIn B w v T) (hn : T.length ≤ 1000000) (hs : T.flatten.length ≤ 1000000) :
    Calls Tryz.prog 68 #[v] w (ListPost B T.flatten w) := by
  obtain ⟨i39, hi39, hz0, hz1, hz2⟩ := info_parts Tryz.info26
  obtain ⟨pv, cv, hve, -⟩ := id hv
  obtain ⟨n, hLn⟩ : ∃ n, T.length = n := ⟨_, rfl⟩
  rw [hLn] at hve hn
  subst hve
  have HLN := Lib.hid hLn
  have HV := Lib.hid hv
  have HBB := Lib.hid hB
  obtain ⟨m, hm⟩ : ∃ m, T.flatten.length = m := ⟨_, rfl⟩
  have HM := Lib.hid hm
  rw [hm] at hs
  have HU := Lib.hid (under_tab)
  clear hLn hv hm hB
  unfold ListPost
  go_enter Tryz.func68, Tryz.ntmps68
  go_wp2_with fail
  go_loop [3, 5, 11] (fun s _ i => ∃ j k : Nat, j ≤ n ∧ i = .int .i64 j ∧ s = .int .i64 k ∧ Hid ((T.take j).flatten.length = k)) (fun _ _ i => n - (intOf i).toNat)
  case atStart => exact ⟨0, 0, Nat.zero_le _, rfl, rfl, rfl⟩
  case round =>
    obtain ⟨j, k, hj, rfl, rfl, HK⟩ := hrel
    have hkm : k ≤ m := by rw [← HK.out, ← HM.out]; exact flat_len T j
    by_cases hjn : j < n
    · have hjL : j < T.length := by rw [HLN.out]; exact hjn
      obtain ⟨pv', cv', hve, -, -, hx⟩ := id HV.out
      obtain ⟨b, off, u, e1, e2, e3⟩ := hx j hjL
      obtain ⟨rfl, rfl⟩ : pv = pv' ∧ cv = cv' := by cases hve; exact ⟨rfl, rfl⟩
      subst e1
      obtain ⟨pj, cj, hue, -⟩ := id e3
      have hsc := flat_succ hjL
      have HST := Lib.hid (flat_step hjL)
      obtain ⟨nj, hnj⟩ : ∃ nj, (T.getD j []).length = nj := ⟨_, rfl⟩
      rw [hnj] at hue hsc
      subst hue
      rw [HK.out, HM.out] at hsc
      have HNJ := Lib.hid hnj
      have q1 : decide (((k : Int) + (nj : Int)) < 0) = false := decide_eq_false (by omega)
      clear hve hnj hjL hx e3
      go_wp2_with fail
      go_round
      case rel => exact ⟨j + 1, k + nj, by omega, by go_num, by go_num, by unfold Hid; rw [HST.out, List.length_append, HK.out, HNJ.out]⟩
      case measure => simp [intOf]; omega
    · obtain rfl : n = j := by omega
      obtain rfl : k = m := by rw [← HK.out, ← HM.out, ← HLN.out, List.take_length]
      have HG := Lib.hid (growR_any k w (by omega))
      unfold GrowP at HG
      go_wp2_with fail
      refine HG.out.mono ?_
      rintro e w1 ⟨p1, c1, rfl, hb1, ho1⟩
      have HB1 := Lib.hid hb1
      have HO1 := Lib.hid ho1
      have hs1 := hb1.size
      clear hb1 ho1 HK hkm
      go_wp2_with fail
      go_loopw [6, 8, 27] (fun s _ i wr => ∃ j : Nat, j ≤ n ∧ i = .int .i64 j ∧ Below w.heap.size w wr ∧ RowsO w.heap.size B wr s (T.take j).flatten) (fun _ _ i _ => n - (intOf i).toNat)
      case atStart => exact ⟨0, Nat.zero_le _, rfl, HB1.out, ⟨[], HO1.out, rfl, fun i h => absurd h (by simp)⟩⟩
      case round =>
        obtain ⟨j, hj, rfl, hb, hR⟩ := hrel
        have HB := Lib.hid hb
        have hsr := hb.size
        by_cases hjn : j < n
        · have hjL : j < T.length := by rw [HLN.out]; exact hjn
          obtain ⟨pv', cv', hve, -, -, hx⟩ := id (HV.out.below hb (Nat.le_refl _))
          obtain ⟨b, off, u, e1, e2, e3⟩ := hx j hjL
          obtain ⟨rfl, rfl⟩ : pv = pv' ∧ cv = cv' := by cases hve; exact ⟨rfl, rfl⟩
          subst e1
          obtain ⟨pj, cj, hue, -⟩ := id e3
          have hsc := flat_succ hjL
          have HST := Lib.hid (flat_step hjL)
          obtain ⟨nj, hnj⟩ : ∃ nj, (T.getD j []).length = nj := ⟨_, rfl⟩
          rw [hnj] at hue hsc
          subst hue
          rw [HM.out] at hsc
          obtain ⟨news, d1, d2, d3, d4, d5, -⟩ := e3.heads
          obtain ⟨hs', h1, h2, h3⟩ := hR
          have H1 := Lib.hid h1
          have H2 := Lib.hid h2
          have H3 := Lib.hid h3
          have D1 := Lib.hid d1
          have D2 := Lib.hid d2
          have D3 := Lib.hid d3
          have D4 := Lib.hid d4
          have D5 := Lib.hid d5
          obtain ⟨q, hq⟩ : ∃ q, (T.take j).flatten.length = q := ⟨_, rfl⟩
          have HQ := Lib.hid hq
          have hqs : q + nj ≤ k := by rw [← hq]; exact hsc
          rw [hq] at H1
          have HNJ := Lib.hid hnj
          clear hve hnj hjL hx e3 hb h1 h2 h3 d1 d2 d3 d4 d5 hq hsc
          go_wp2_with (at_builtin; refine wpList_app_any wr rfl (.tmp 31) (.tmp 32) 22 rfl w.heap.size 26 i39 (.slice none 0 0) 24 Tryz.underlying22 hi39 hz0 hz1 hz2 rfl _ q hs' rfl H1.out pj nj cj news rfl D1.out D2.out D3.out D5.out (by unfold maxLen; omega) (by omega) hsr _ rfl ?_; intro p2 c2 w2 ho2 hg2 hat2; have HO2 := Lib.hid ho2; have HG2 := Lib.hid hg2; have HB2 := Lib.hid (HB.out.grown hg2 hsr (fun k e => (H1.out.lt k e).1)); clear ho2 hg2 hat2)
          go_roundw
          case rel =>
            refine ⟨j + 1, by omega, by go_num, HB2.out, ?_⟩
            rw [HST.out]
            exact rowsO_app HBB.out (by rw [HQ.out]; exact H1.out) H2.out H3.out (by rw [D1.out, HNJ.out]) D4.out (by rw [HQ.out, HNJ.out]; exact HO2.out) HG2.out
          case measure => simp [intOf]; omega
        · obtain rfl : n = j := by omega
          have HF : Hid ((T.take n) = T) := by unfold Hid; rw [← HLN.out, List.take_length]
          rw [HF.out] at hR
          have HR := Lib.hid hR
          clear hb hR
          go_wp2_with fail
          go_ret
          exact ⟨_, rfl, HB.out, HR.out⟩

/-- an error told by its number -/
def errV (a : Nat → Addr) (n : Nat) : Value := if n = 0 then .nilIface else errE (a (n - 1))
theorem errV_0 (a : Nat → Addr) : errV a 0 = .nilIface := rfl
theorem errV_succ (a : Nat → Addr) (k : Nat) : errV a (k + 1) = errE (a k) := rfl
theorem valid_e (a : Nat → Addr) (B : Nat) (L : List (List Int)) (v : Value) (w : World) (hS : Sents w a) (hB : B ≤ w.heap.size) (hv : ListsIn B w v L) (hn : L.length ≤ 100000) (hl : ∀ l ∈ L, l.length ≤ 100000) :
    Calls Tryz.prog 84 #[.agg #[v]] w (Gives (errV a (errX L)) w) := (valid_any a B L v w hS hB hv hn hl).mono fun e w' h => by
  obtain ⟨hb, ⟨h0, rfl⟩ | ⟨k, hk, h1, rfl⟩⟩ := h
  · exact ⟨by rw [h0, errV_0], hb⟩
  · exact ⟨by rw [h1, errV_succ], hb⟩
theorem cmpErr_v (a : Nat → Addr) (A B : List (List Int)) (w : World) : Calls Tryz.prog 78 #[errV a (errX A), errV a (errX B)] w (fun e w' => e = .returned (errV a (errJ A B)) ∧ w' = w) := by
  unfold errJ
  by_cases h : errX A = 0
  · rw [if_pos h, h, errV_0]
    exact cmpErr_nil _ w
  · obtain ⟨k, hk⟩ : ∃ k, errX A = k + 1 := ⟨errX A - 1, by omega⟩
    rw [if_neg h, hk, errV_succ]
    exact cmpErr_some _ _ _ w

set_option maxRecDepth 100000 in
set_option maxHeartbeats 8000000 in
theorem both_any (a : Nat → Addr) (B : Nat) (L M : List (List Int)) (v u : Value) (w : World) (hS : Sents w a) (hB : B ≤ w.heap.size) (hv : ListsIn B w v L) (hu : ListsIn B w u M) (hn : L.length ≤ 100000) (hl : ∀ l ∈ L, l.length ≤ 100000) (hn2 : M.length ≤ 100000) (hl2 : ∀ l ∈ M, l.length ≤ 100000) :
    Calls Tryz.prog 66 #[.agg #[v], .agg #[u]] w (Gives (errV a (errJ L M)) w) := by
  obtain ⟨pv, cv, hve, -⟩ := id hv
  generalize hLn : L.length = n at hve
  subst hve
  obtain ⟨pu, cu, hue, -⟩ := id hu
  generalize hMn : M.length = m at hue
  subst hue
  obtain ⟨w0, hw0⟩ : ∃ w0, w0 = (w.alloc (.cells #[.slice pv n cv] 34)).alloc (.cells #[.slice pu m cu] 34) := ⟨_, rfl⟩
  have hb0 : Below w.heap.size w w0 := by rw [hw0]; exact ((Below.refl _ _).alloc (Nat.le_refl _) _).alloc (by simp) _
  have hk0 : w0.heap[w.heap.size]? = some (.cells #[.slice pv n cv] 34 (0, 0)) := by
    rw [hw0]; exact (((lit_below _ _).block _ (by simp)).trans (heap_alloc_new w _))
  have hk1 : w0.heap[w.heap.size + 1]? = some (.cells #[.slice pu m cu] 34 (0, 0)) := by
    rw [hw0]
    have h := heap_alloc_new (w.alloc (.cells #[.slice pv n cv] 34)) (.cells #[.slice pu m cu] 34)
    rw [lit_size] at h
    exact h
  have HC1 := Lib.hid (fun d os => Calls.regrown_of (d := d) (os := os) (valid_e a B L (.slice pv n cv) (Sort.grow (redrawn w0 d) os) ((hS.below hb0 (Nat.le_refl _)).below (below_regrown w0 d os) (Nat.le_refl _)) (Nat.le_trans (Nat.le_trans hB hb0.size) (below_regrown w0 d os).size) ((hv.below hb0 (Nat.le_refl _)).below (below_regrown w0 d os) (Nat.le_refl _)) (by omega) hl))
  have HC2 := Lib.hid (fun d os => Calls.regrown_of (d := d) (os := os) (valid_e a B M (.slice pu m cu) (Sort.grow (redrawn w0 d) os) ((hS.below hb0 (Nat.le_refl _)).below (below_regrown w0 d os) (Nat.le_refl _)) (Nat.le_trans (Nat.le_trans hB hb0.size) (below_regrown w0 d os).size) ((hu.below hb0 (Nat.le_refl _)).below (below_regrown w0 d os) (Nat.le_refl _)) (by omega) hl2))
  have HC3 := Lib.hid (fun d os => Calls.regrown_of (d := d) (os := os) ((cmpErr_v a L M (Sort.grow (redrawn w0 d) os)).mono fun e w' h => (⟨h.1, h.2 ▸ Below.refl _ _⟩ : Gives (errV a (errJ L M)) _ e w')))
  have c0 := (one_at hk0).1
  have c1 := (one_at hk1).1
  have k0 := cell_regrown c0
  have k1 := cell_regrown c1
  have HB0 := Lib.hid hb0
  have HW0 := Lib.hid hw0
  generalize errX L = eL at HC1 HC3
  generalize errX M = eM at HC2 HC3
  generalize errJ L M = eJ at HC3 ⊢
  generalize errV a eL = vL at HC1 HC3
  generalize errV a eM = vM at HC2 HC3
  generalize errV a eJ = vJ at HC3 ⊢
  unfold Gives
  clear hS hB hv hu hn hl hn2 hl2 hb0 hw0 hk0 hk1 hLn hMn
  go_enter Tryz.func66, Tryz.ntmps66
  go_wp2_with fail
  rw [← HW0.out]
  refine wp_region_quiet_below (by kernel_rfl) (by kernel_rfl) ?_
  repeat (first | go_big_quiet_step (first | (with_reducible exact HC1.out _ _) | (with_reducible exact HC2.out _ _) | (with_reducible exact HC3.out _ _)) | quiet_step (first | (with_reducible exact HC1.out _ _) | (with_reducible exact HC2.out _ _) | (with_reducible exact HC3.out _ _)))
  refine wpQuiet_nil ?_
  intro _ hw'
  obtain ⟨⟨dq, osq⟩, hw''⟩ := hw'
  subst hw''
  have HBF := Lib.hid (HB0.out.trans ((below_regrown w0 dq osq).mono HB0.out.size))
  clear k0 k1 HC1 HC2 HC3 c0 c1
  generalize Sort.grow (redrawn w0 dq) osq = w4 at HBF ⊢
  go_wp2_with fail
  go_ret
  exact ⟨rfl, HBF.out⟩

/-! ### vertices -/
theorem compact_set {f : List Int} (h : f.Pairwise (· ≤ ·)) : Rise (Lib.compact f) ∧ ∀ x, x ∈ Lib.compact f ↔ x ∈ f := by
  have hk : ∀ j, Lib.keeps f.toArray j = true ↔ (j = 0 ∨ f.toArray[j]! ≠ f.toArray[j - 1]!) := fun j => by
    unfold Lib.keeps
    simp
  have hget : ∀ j, j < f.length → f.toArray[j]! = f.getD j 0 := fun j hj => by
    simp [List.getD_eq_getElem?_getD, List.getElem?_eq_getElem hj, hj]
  have hle : ∀ i j, i ≤ j → j < f.length → f.getD i 0 ≤ f.getD j 0 := fun i j hij hj => by
    rcases Nat.eq_or_lt_of_le hij with rfl | hlt
    · exact Int.le_refl _
    · have h2 := List.pairwise_iff_getElem.1 h i j (by omega) hj hlt
      rw [List.getD_eq_getElem?_getD, List.getD_eq_getElem?_getD, List.getElem?_eq_getElem (show i < f.length by omega), List.getElem?_eq_getElem hj]
      exact h2
  constructor
  · unfold Lib.compact Lib.compactUpTo Rise
    rw [List.pairwise_map, List.pairwise_filter]
    refine List.Pairwise.imp_of_mem (fun {i j} hi hj hij hki hkj => ?_) (List.pairwise_lt_range (n := f.length))
    have hj := List.mem_range.1 hj
    have h1 := (hk j).1 hkj
    rw [hget i (by omega), hget j hj]
    rw [hget j hj, hget (j - 1) (by omega)] at h1
    have h2 := hle i (j - 1) (by omega) (by omega)
    have h3 := hle (j - 1) j (by omega) hj
    rcases h1 with h1 | h1 <;> omega
  · intro x
    unfold Lib.compact Lib.compactUpTo
    rw [List.mem_map]
    constructor
    · rintro ⟨j, hj, rfl⟩
      have hj := List.mem_range.1 (List.mem_filter.1 hj).1
      rw [hget j hj]
      exact getD_mem hj
    · intro hx
      obtain ⟨i, hi, rfl⟩ := List.getElem_of_mem hx
      have hall : ∀ i, i < f.length → ∃ j, j < f.length ∧ Lib.keeps f.toArray j = true ∧ f.getD j 0 = f.getD i 0 := fun i => by
        induction i with
        | zero => exact fun h0 => ⟨0, h0, (hk 0).2 (Or.inl rfl), rfl⟩
        | succ i ih =>
          intro h1
          by_cases hc : f.getD (i + 1) 0 = f.getD i 0
          · obtain ⟨j, a1, a2, a3⟩ := ih (by omega)
            exact ⟨j, a1, a2, a3.trans hc.symm⟩
          · refine ⟨i + 1, h1, (hk _).2 (Or.inr ?_), rfl⟩
            rw [hget (i + 1) h1, show i + 1 - 1 = i from rfl, hget i (by omega)]
            exact hc
      obtain ⟨j, a1, a2, a3⟩ := hall i hi
      refine ⟨j, List.mem_filter.2 ⟨List.mem_range.2 a1, a2⟩, ?_⟩
      rw [hget j a1, a3, List.getD_eq_getElem?_getD, List.getElem?_eq_getElem hi]
      rfl
theorem compact_sort (f : List Int) : Lib.compact (sortI f) = setL f := rise_ext (compact_set (sortI_sorted f)).1 (rise_setL f) fun x => by
  rw [(compact_set (sortI_sorted f)).2, mem_sortI, mem_setL]
/-- slices.Compact: what it leaves -/
def CompactQ (O g cap : Nat) (f : List Int) (w : World) (e : Ending) (w' : World) : Prop := e = .returned (.slice (some ⟨g, 0, none⟩) (Lib.compact f).length cap) ∧ w.grownBy w' (some g) ∧ w'.ownsRow O 3 1 (.slice (some ⟨g, 0, none⟩) (Lib.compact f).length cap) (Lib.compact f).length (intVs (Lib.compact f))
theorem compactQ_any (f : List Int) (O g cap : Nat) (w : World) (ho : w.ownsRow O 3 1 (.slice (some ⟨g, 0, none⟩) f.length cap) f.length (intVs f)) (hn : f.length ≤ 1000000) :
    Calls Tryz.prog 103 #[.slice (some ⟨g, 0, none⟩) f.length cap] w (CompactQ O g cap f w) := by
  have hcap : f.length ≤ cap := by
    rcases ho.2 with ⟨he, _⟩ | ⟨g', cap', cur, he, _, _, hle, hm, _⟩
    · cases he
    · cases he; exact hle
  refine (Tryz.slices_Compact_int g 0 cap f w (holds_owned rfl ho) (by omega) hcap).mono fun e w' ⟨he, q, hw⟩ => ?_
  subst hw
  have hcl := Lib.compact_length_le f
  refine ⟨he, ?_, ?_⟩
  · rw [grow_none (Sort.putRow _ _ _ _ _)]; exact put_grown _
  · have h := put_owns (enc := Value.int .i64) (q := q) (os := #[]) (Lib.compact f ++ List.replicate (f.length - (Lib.compact f).length) 0) (Lib.compact f).length (by simp; omega) (by omega) ho
    rw [Sort.grow_empty, List.take_append_of_le_length (Nat.le_refl _), List.take_length] at h
    exact h

set_option maxHeartbeats 8000000 in
theorem vertices_any (B : Nat) (L : List (List Int)) (v : Value) (w : World) (hv : ListsIn B w v L) (hn : L.length ≤ 100000) (hs : L.flatten.length ≤ 100000) :
    Calls Tryz.prog 67 #[.agg #[v]] w (NumsP B (vertA L) w) := by
  obtain ⟨pv, cv, hve, -⟩ := id hv
  generalize hLn : L.length = n at hve
  subst hve
  obtain ⟨w0, hw0⟩ : ∃ w0, w0 = w.alloc (.cells #[.slice pv n cv] 34) := ⟨_, rfl⟩
  have hb0 : Below w.heap.size w w0 := by rw [hw0]; exact (Below.refl _ _).alloc (Nat.le_refl _) _
  have HCA := Lib.hid (catI_any B L (.slice pv n cv) w0 (hv.below hb0 (Nat.le_refl _)) (by omega) (by omega))
  unfold CatP at HCA
  have HB0 := Lib.hid hb0
  have HW0 := Lib.hid hw0
  unfold vertA NumsP
  obtain ⟨F, hF⟩ : ∃ F, L.flatten = F := ⟨_, rfl⟩
  rw [hF] at HCA hs ⊢
  clear hv hn hb0 hw0 hLn hF
  go_enter Tryz.func67, Tryz.ntmps67
  go_wp2_with fail
  rw [← HW0.out]
  refine HCA.out.mono ?_
  rintro e w1 ⟨p1, c1, rfl, hb1, ho1⟩
  have HB1 := Lib.hid (HB0.out.trans (hb1.mono HB0.out.size))
  rcases Nat.eq_zero_or_pos F.length with h0 | h0
  · obtain rfl : F = [] := List.length_eq_zero_iff.1 h0
    have HI := Lib.hid (ints_owned (B := B) ho1 rfl)
    have HSO := Lib.hid (Tryz.slices_Sort_int_none p1 c1 w1)
    have HCO := Lib.hid (Tryz.slices_Compact_int_empty p1 c1 w1)
    clear hb1 ho1 h0 hs
    simp only [List.length_nil]
    go_wp2_with fail
    refine HSO.out.mono ?_
    rintro e w2 ⟨rfl, rfl⟩
    go_wp2_with fail
    refine HCO.out.mono ?_
    rintro e w3 ⟨rfl, rfl⟩
    go_wp2_with fail
    go_ret
    exact ⟨p1, c1, rfl, HB1.out, HI.out⟩
  · obtain ⟨g, cap, he⟩ := Joins.ownsRow_form ho1 h0
    rw [he] at ho1
    cases he
    have HSO := Lib.hid (sort_any F _ g c1 w1 ho1 hs)
    unfold SortPost at HSO
    have HG := Lib.hid ((ho1.lt g rfl).1)
    have HLE : Hid ((sortI F).length = F.length) := sortI_len F
    obtain ⟨n1, hn1⟩ : ∃ n1, F.length = n1 := ⟨_, rfl⟩
    have HN1 := Lib.hid hn1
    have hn1b : n1 ≤ 100000 := by omega
    rw [hn1] at HSO ho1
    have HZ := Lib.hid (hb1.size)
    rw [hn1]
    clear hb1 ho1 h0 hs hn1
    go_wp2_with fail
    refine HSO.out.mono ?_
    rintro e w2 ⟨rfl, hg2, ho2⟩
    have HB2 := Lib.hid (grown_below HB1.out hg2 (by have := HG.out; have := HB0.out.size; omega))
    have e1 : (sortI F).length = n1 := HLE.out.trans HN1.out
    rw [← e1] at ho2
    have HCO := Lib.hid (compactQ_any (sortI F) _ g c1 w2 ho2 (by omega))
    unfold CompactQ at HCO
    rw [compact_sort, e1] at HCO
    clear hg2 ho2 e1 HSO
    go_wp2_with fail
    refine HCO.out.mono ?_
    rintro e w3 ⟨rfl, hg3, ho3⟩
    have HB3 := Lib.hid (grown_below HB2.out hg3 (by have := HG.out; have := HB0.out.size; omega))
    have HI := Lib.hid (ints_owned (B := B) ho3 rfl)
    clear hg3 ho3 HCO
    go_wp2_with fail
    go_ret
    exact ⟨_, c1, rfl, HB3.out, HI.out⟩

set_option maxRecDepth 100000 in
set_option maxHeartbeats 16000000 in
theorem someM_bad (a : Nat → Addr) (B : Nat) (L M : List (List Int)) (v cap : Value) (w : World) (hS : Sents w a) (hB : B ≤ w.heap.size) (hv : ListsIn B w v L) (hn : L.length ≤ 100000) (hl : ∀ l ∈ L, l.length ≤ 100000) (he : errX L ≠ 0) :
    Calls Tryz.prog 75 #[.agg #[v], .func (.func 76) #[] #[cap]] w (SomeP a B L M w) := by
  obtain ⟨pv, cv, hve, -⟩ := id hv
  generalize hLn : L.length = n at hve
  subst hve
  obtain ⟨w0, hw0⟩ : ∃ w0, w0 = (w.alloc (.cells #[.slice pv n cv] 34)).alloc (.cells #[.slice none 0 0] 34) := ⟨_, rfl⟩
  have hb0 : Below w.heap.size w w0 := by rw [hw0]; exact ((Below.refl _ _).alloc (Nat.le_refl _) _).alloc (by simp) _
  have hk2 : w0.heap[w.heap.size + 1]? = some (.cells #[.slice none 0 0] 34 (0, 0)) := by
    rw [hw0]
    have h := heap_alloc_new (w.alloc (.cells #[.slice pv n cv] 34)) (.cells #[.slice none 0 0] 34)
    rw [lit_size] at h
    exact h
  have HB0 := Lib.hid hb0
  have HW0 := Lib.hid hw0
  have HK2 := Lib.hid hk2
  have HC := Lib.hid (table_any a B L (.slice pv n cv) w0 (hS.below hb0 (Nat.le_refl _)) (Nat.le_trans hB hb0.size) (hv.below hb0 (Nat.le_refl _)) hn hl)
  have HE := Lib.hid he
  unfold TabPost at HC
  unfold SomeP
  clear hS hB hv hn hl hb0 he hLn hw0 hk2
  go_enter Tryz.func75, Tryz.ntmps75
  go_wp2_with fail
  rw [← HW0.out]
  refine HC.out.mono ?_
  rintro e w1 ⟨hb1, ⟨h0, -⟩ | ⟨k, hk, hek, rfl⟩⟩
  · exact absurd h0 HE.out
  · have HB1 := Lib.hid (HB0.out.trans (hb1.mono HB0.out.size))
    have hk1 := (hb1.block _ (Array.getElem?_eq_some_iff.1 HK2.out).1).trans HK2.out
    have HEK := Lib.hid hek
    have d0 := (one_at hk1).1
    have f0 := (one_at hk1).2
    have R0 := Lib.hid (one_set (v := .slice none 0 0) hk1)
    have HBF := Lib.hid (show Below w.heap.size w (w1.setCell ⟨w.heap.size + 1, 0, none⟩ (.slice none 0 0)) from HB1.out.setCell (Nat.le_succ _) _)
    unfold errE
    clear hb1 hk1 hek
    go_wp2_with fail
    refine bodyPost_ret (v := .tuple #[.agg #[.slice none 0 0], .iface 225 (.pointer (some (a k)))]) (by simp [results, Tryz.results75, go_sem, R0.out]) rfl ?_
    exact ⟨HBF.out, Or.inr ⟨k, hk, HEK.out, rfl⟩⟩

set_option maxRecDepth 100000 in
set_option maxHeartbeats 16000000 in
theorem someM_ok (a : Nat → Addr) (B : Nat) (L : List (List Int)) (pf : List Int → List Int) (v cap : Value) (w : World) (hS : Sents w a) (hB : B ≤ w.heap.size) (hv : ListsIn B w v L) (hn : L.length ≤ 100000) (hl : ∀ l ∈ L, l.length ≤ 100000) (he : errX L = 0)
    (hcl : ∀ w', Below w.heap.size w w' → ∀ u x, x ∈ allF L → IntsIn B w' u x → Calls Tryz.prog 76 #[u, cap] w' (AnsP B (pf x) w')) (hpf : ∀ x ∈ allF L, pf x ≠ [] → IsF L (pf x)) :
    Calls Tryz.prog 75 #[.agg #[v], .func (.func 76) #[] #[cap]] w (SomeP a B L (coll pf (tableF (allF L)).flatten) w) := by
  obtain ⟨i26, hi26, hy0, hy1, hy2⟩ := info_parts Tryz.info26
  obtain ⟨pv, cv, hve, -⟩ := id hv
  generalize hLn : L.length = n at hve
  subst hve
  obtain ⟨w0, hw0⟩ : ∃ w0, w0 = (w.alloc (.cells #[.slice pv n cv] 34)).alloc (.cells #[.slice none 0 0] 34) := ⟨_, rfl⟩
  have hb0 : Below w.heap.size w w0 := by rw [hw0]; exact ((Below.refl _ _).alloc (Nat.le_refl _) _).alloc (by simp) _
  have hk2 : w0.heap[w.heap.size + 1]? = some (.cells #[.slice none 0 0] 34 (0, 0)) := by
    rw [hw0]
    have h := heap_alloc_new (w.alloc (.cells #[.slice pv n cv] 34)) (.cells #[.slice none 0 0] 34)
    rw [lit_size] at h
    exact h
  have HB0 := Lib.hid hb0
  have HW0 := Lib.hid hw0
  have HK2 := Lib.hid hk2
  have HBB := Lib.hid hB
  have HS := Lib.hid hS
  have HCLO := Lib.hid hcl
  have HPF := Lib.hid hpf
  have HC := Lib.hid (table_any a B L (.slice pv n cv) w0 (hS.below hb0 (Nat.le_refl _)) (Nat.le_trans hB hb0.size) (hv.below hb0 (Nat.le_refl _)) hn hl)
  have HE := Lib.hid he
  have HE0 := Lib.hid (errX_ok he).1
  have HOK := Lib.hid (errC_ok (errX_ok he).1)
  unfold TabPost at HC
  unfold AnsP at HCLO
  unfold SomeP
  have hm7 := topN_7 HE0.out
  have hTl := tableF_len (allF L)
  have HROW := Lib.hid (fun d (hd : d < topN (allF L)) => tableF_at (A := allF L) hd)
  obtain ⟨T, hTT⟩ : ∃ T, tableF (allF L) = T := ⟨_, rfl⟩
  rw [hTT] at hTl HROW HC ⊢
  obtain ⟨m, hm⟩ : ∃ m, topN (allF L) = m := ⟨_, rfl⟩
  rw [hm] at hm7 hTl HROW
  have HTL := Lib.hid hTl
  have HTT := Lib.hid hTT
  obtain ⟨M, hMM⟩ : ∃ M, coll pf T.flatten = M := ⟨_, rfl⟩
  rw [hMM]
  have HMM := Lib.hid hMM
  clear hTl hTT hm hMM
  clear hS hB hv hn hl hb0 he hLn hw0 hk2 hcl hpf
  go_enter Tryz.func75, Tryz.ntmps75
  go_wp2_with fail
  rw [← HW0.out]
  refine HC.out.mono ?_
  rintro e w1 ⟨hb1, ⟨h0, tv, rfl, hT⟩ | ⟨k, hk, hek, rfl⟩⟩
  rotate_left
  · exact absurd HE.out (by omega)
  have HB1 := Lib.hid (HB0.out.trans (hb1.mono HB0.out.size))
  have HK1 := Lib.hid ((hb1.block _ (Array.getElem?_eq_some_iff.1 HK2.out).1).trans HK2.out)
  have htab := hT.tab
  obtain ⟨pt, ct, hte, -⟩ := id htab
  rw [HTL.out] at hte
  subst hte
  have HTAB := Lib.hid htab
  have hs1 := HB1.out.size
  have hlt1 : w.heap.size + 1 < w1.heap.size := (Array.getElem?_eq_some_iff.1 HK1.out).1
  clear hb1 h0 hT htab HC
  go_wp2_with fail
  go_loopw [8, 10, 12, 13, 25, 31] (fun u _ _ _ i _ wr => ∃ j : Nat, j ≤ m ∧ i = .int .i64 j ∧ Below w1.heap.size w1 wr ∧ RowsO w1.heap.size B wr u (coll pf (T.take j).flatten)) (fun _ _ _ _ i _ _ => m - (intOf i).toNat)
  case atStart => exact ⟨0, Nat.zero_le _, rfl, Below.refl _ _, RowsO.nil _ _ _⟩
  case round =>
    obtain ⟨j, hj, rfl, hb, hR⟩ := hrel
    obtain ⟨wo, rfl⟩ : ∃ wo : World, wo = wr := ⟨_, rfl⟩
    have HBJ := Lib.hid hb
    have HRJ := Lib.hid hR
    by_cases hjm : j < m
    · obtain ⟨p', c', hv', hle, hnn, hx⟩ := id (HTAB.out.below hb (Nat.le_refl _))
      obtain ⟨b, off, ur, e1, e2, e3⟩ := hx j (by rw [HTL.out]; exact hjm)
      obtain ⟨rfl, rfl⟩ : pt = p' ∧ ct = c' := by cases hv'; exact ⟨rfl, rfl⟩
      subst e1
      have hrow := HROW.out j hjm
      have hrl : (rowF (allF L) j).length ≤ 600 := Nat.le_trans (rowF_len _ _) HOK.out.2.2
      have HMR : Hid (∀ x ∈ T.getD j [], x ∈ allF L) := fun x hx => by rw [hrow] at hx; exact (mem_rowF.1 hx).1
      rw [← hrow] at hrl
      have HTK : Hid ((T.take (j + 1)).flatten = (T.take j).flatten ++ T.getD j []) := by
        unfold Hid
        rw [take_snoc_getD [] T j (by rw [HTL.out]; exact hjm), List.flatten_append]
        simp
      obtain ⟨pr, cr, hre, -⟩ := id e3
      obtain ⟨X, hX⟩ : ∃ X, T.getD j [] = X := ⟨_, rfl⟩
      rw [hX] at e3 hre hrl HMR HTK
      obtain ⟨nr, hnr⟩ : ∃ nr, X.length = nr := ⟨_, rfl⟩
      rw [hnr] at hre hrl
      subst hre
      have HX3 := Lib.hid e3
      have HNR := Lib.hid hnr
      have hcl0 : (coll pf (T.take j).flatten).length ≤ 5000 := by
        have h1 := coll_len pf (T.take j).flatten
        have h2 : (T.take j).flatten.length ≤ 5000 := by
          have h3 : ∀ i, i ≤ j → (T.take i).flatten.length ≤ 600 * i := fun i => by
            induction i with
            | zero => intro _; simp
            | succ i ih =>
              intro hi
              rw [take_snoc_getD [] T i (by rw [HTL.out]; omega), List.flatten_append, List.length_append]
              have h4 := ih (by omega)
              have h5 : (T.getD i []).length ≤ 600 := by
                rw [HROW.out i (by omega)]; exact Nat.le_trans (rowF_len _ _) HOK.out.2.2
              simp only [List.flatten_cons, List.flatten_nil, List.append_nil]
              omega
          have := h3 j (Nat.le_refl _)
          omega
        omega
      have HCL0 := Lib.hid hcl0
      clear hx hle hnn hv' e3 hX hnr hrow hb hR hcl0
      go_wp2_with fail
      go_loopw [8, 12, 13, 31] (fun u _ _ i wr => ∃ q : Nat, q ≤ nr ∧ i = .int .i64 q ∧ Below w1.heap.size w1 wr ∧ RowsO w1.heap.size B wr u (coll pf (T.take j).flatten ++ coll pf (X.take q))) (fun _ _ _ i _ => nr - (intOf i).toNat)
      case atStart => exact ⟨0, Nat.zero_le _, rfl, HBJ.out, by simpa [coll] using HRJ.out⟩
      case round =>
        obtain ⟨q, hq, rfl, hb, hR⟩ := hrel
        have HBQ := Lib.hid hb
        have HRQ := Lib.hid hR
        by_cases hqn : q < nr
        · have hqX : q < X.length := by rw [HNR.out]; exact hqn
          have hxr := HTAB.out.below hb (Nat.le_refl _)
          obtain ⟨p', c', hv', hle, hnn, hx⟩ := id hxr
          obtain ⟨b', off', ur', e1', e2', e3'⟩ := hx j (by rw [HTL.out]; exact hjm)
          have HXR : Hid (ListsIn B wr (.slice pr nr cr) X) := by
            obtain ⟨p2, c2, hv2, -, -, hx2⟩ := id HTAB.out
            obtain ⟨b2, off2, ur2, f1, f2, f3⟩ := hx2 j (by rw [HTL.out]; exact hjm)
            obtain ⟨rfl, rfl⟩ : p2 = some ⟨b, off, none⟩ ∧ ct = c2 := by cases hv2; exact ⟨rfl, rfl⟩
            cases f1
            have g1 := (HBJ.out.cell (p := ⟨b, off + j, none⟩) (mem_lt f2)).trans f2
            rw [e2] at g1
            have g2 := Option.some.inj g1
            subst g2
            have g3 := f3.below hb (Nat.le_refl _)
            rwa [show T.getD j [] = X from by
              have := HTK.out
              rw [take_snoc_getD [] T j (by rw [HTL.out]; exact hjm), List.flatten_append] at this
              simpa using this] at g3
          obtain ⟨bx, ox, cx, hxe⟩ := HXR.out.form (by omega)
          rw [HNR.out] at hxe
          obtain ⟨rfl, rfl⟩ : pr = some ⟨bx, ox, none⟩ ∧ cr = cx := by cases hxe; exact ⟨rfl, rfl⟩
          obtain ⟨pj, cj, hcj, hij⟩ := cells_at HXR.out q hqX
          have hmem := HMR.out _ (getL_mem hqX)
          have HTQ := Lib.hid (take_snoc_getD [] X q hqX)
          have hbw : Below w.heap.size w wr := HB1.out.trans (hb.mono HB1.out.size)
          have HCO := Lib.hid (HCLO.out wr hbw _ (X.getD q []) hmem hij)
          have hx7 := allF_bd HE0.out _ hmem
          obtain ⟨x, hxx⟩ : ∃ x, X.getD q [] = x := ⟨_, rfl⟩
          rw [hxx] at hcj HCO HTQ
          have hpl : (pf x).length ≤ 7 := by
            by_cases h0 : pf x = []
            · rw [h0]; exact Nat.zero_le _
            · rw [← hxx] at h0 ⊢; exact isF_len HOK.out.2.1 (HPF.out _ hmem h0)
          generalize x.length = nx at hcj HCO
          obtain ⟨y, hy⟩ : ∃ y, pf x = y := ⟨_, rfl⟩
          rw [hy] at HCO hpl
          have HSTEP : Hid (coll pf (X.take (q + 1)) = coll pf (X.take q) ++ (if y ≠ [] then [y] else [])) := by unfold Hid; rw [HTQ.out, coll_app, coll_one, hy]
          obtain ⟨ny, hny⟩ : ∃ ny, y.length = ny := ⟨_, rfl⟩
          rw [hny] at HCO hpl
          have HNY := Lib.hid hny
          have hln : (coll pf (T.take j).flatten ++ coll pf (X.take q)).length ≤ 10000 := by
            rw [List.length_append]
            have h1 := HCL0.out
            have h2 := coll_len pf (X.take q)
            rw [List.length_take] at h2
            omega
          have HLN := Lib.hid hln
          clear hxe hxr hx hle hnn hv' hij hmem hxx hx7 hy hny hbw hb hR hln e1' e2' e3' hqX
          go_wp2_with fail
          refine HCO.out.mono ?_
          rintro e w2 ⟨py, cy, rfl, hb2, hi2⟩
          have hbr := HBQ.out.trans (hb2.mono HBQ.out.size)
          obtain ⟨hs, h1, h2, h3⟩ := HRQ.out.below hb2 (Nat.le_refl _)
          obtain ⟨k, hk⟩ : ∃ k, (coll pf (T.take j).flatten ++ coll pf (X.take q)).length = k := ⟨_, rfl⟩
          have hkn : k ≤ 10000 := by rw [← hk]; exact HLN.out
          rw [hk] at h1
          have HK := Lib.hid hk
          have H1 := Lib.hid h1
          have H2 := Lib.hid h2
          have H3 := Lib.hid h3
          have HB2 := Lib.hid hbr
          have hws := hbr.size
          have HI2 := Lib.hid hi2
          clear hb2 hi2 hbr h1 h2 h3 hk
          by_cases hyp : 0 < ny
          · have hyn : y ≠ [] := List.length_pos_iff.1 (by rw [HNY.out]; exact hyp)
            have HYN := Lib.hid hyn
            clear hyn
            go_wp2_with (at_builtin; refine wpList_append_lies _ rfl (.tmp 41) (.tmp 43) 22 rfl w1.heap.size 26 i26 (.slice none 0 0) 1 24 Tryz.underlying22 hi26 hy0 hy1 hy2 rfl (by decide) _ k hs rfl (H1.out.alloc _) ⟨w2.heap.size, 0, none⟩ 1 1 [.slice py ny cy] rfl rfl (World.news_of_block (cs := #[.slice py ny cy]) (t := 26) (fr := (0, 0)) (heap_alloc_new w2 _)) (by simp [Value.oneCell']) (by decide) (by unfold maxLen; omega) (by omega) (by simp; omega) (w2.heap.size + 1) (by simp) ?_; intro g2 c2 w9 hown2 hgr2 hat2 hlt2; have HO2 := Lib.hid hown2; have HG2 := Lib.hid hgr2; clear hown2 hgr2 hat2 hlt2)
            go_roundw
            case rel =>
              have hbA : Below w2.heap.size w2 (w2.alloc (.cells #[.slice py ny cy] 26)) := (Below.refl _ _).alloc (Nat.le_refl _) _
              refine ⟨q + 1, by omega, by go_num, (HB2.out.alloc hws _).grown HG2.out (by simp; omega) (fun i hi => (H1.out.lt i hi).1), ?_⟩
              rw [HSTEP.out, if_pos HYN.out, ← List.append_assoc]
              exact rowsO_push (w := w2.alloc (.cells #[.slice py ny cy] 26)) (hs := hs) (Nat.le_trans HBB.out hs1) (by rw [HK.out]; exact H1.out.alloc _) H2.out (fun i hi => (H3.out i hi).below hbA (Nat.le_refl _)) (HI2.out.below hbA (Nat.le_refl _)) (by rw [HK.out]; exact HO2.out) HG2.out
            case measure => simp [intOf]; omega
          · have hyn : y = [] := List.length_eq_zero_iff.1 (by rw [HNY.out]; omega)
            have HYN := Lib.hid hyn
            have hny0 : ny ≤ 0 := by omega
            clear hyn
            go_wp2_with fail
            go_roundw
            case rel =>
              refine ⟨q + 1, by omega, by go_num, HB2.out, ?_⟩
              rw [HSTEP.out, if_neg (fun h => h HYN.out), List.append_nil]
              exact ⟨hs, by rw [HK.out]; exact H1.out, H2.out, H3.out⟩
            case measure => simp [intOf]; omega
        · obtain rfl : nr = q := by omega
          have HFULL : Hid (coll pf (T.take j).flatten ++ coll pf (X.take nr) = coll pf (T.take (j + 1)).flatten) := by
            unfold Hid
            have hXX : X.take nr = X := List.take_of_length_le (by rw [HNR.out]; exact Nat.le_refl _)
            rw [HTK.out, coll_app, hXX]
          rw [HFULL.out] at HRQ
          clear hb hR
          go_wp2_with fail
          go_roundw
          case rel => exact ⟨j + 1, by omega, by go_num, HBQ.out, HRQ.out⟩
          case measure => simp [intOf]; omega
    · obtain rfl : m = j := by omega
      have hTf : (T.take m) = T := List.take_of_length_le (by rw [HTL.out]; exact Nat.le_refl _)
      rw [hTf] at hR
      have hMm : ∀ g ∈ coll pf T.flatten, IsF L g := fun g hg => by
        obtain ⟨h1, x, hx, rfl⟩ := mem_coll.1 hg
        rw [← HTT.out] at hx
        exact HPF.out x ((mem_flat (fun g hg => (mem_allF.1 hg).1)).1 hx) h1
      have hM0 := errC_sub HE0.out hMm
      have hMl : (coll pf T.flatten).length ≤ 100000 := by
        have h1 := coll_len pf T.flatten
        have h3 : ∀ i, i ≤ m → (T.take i).flatten.length ≤ 600 * i := fun i => by
          induction i with
          | zero => intro _; simp
          | succ i ih =>
            intro hi
            rw [take_snoc_getD [] T i (by rw [HTL.out]; omega), List.flatten_append, List.length_append]
            have h4 := ih (by omega)
            have h5 : (T.getD i []).length ≤ 600 := by
              rw [HROW.out i (by omega)]; exact Nat.le_trans (rowF_len _ _) HOK.out.2.2
            simp only [List.flatten_cons, List.flatten_nil, List.append_nil]
            omega
        have h6 := h3 m (Nat.le_refl _)
        rw [hTf] at h6
        omega
      have hbw : Below w.heap.size w wo := HB1.out.trans (hb.mono HB1.out.size)
      obtain ⟨pm, cm, hme, -⟩ := hR.lists
      rw [HMM.out] at hR hMm hM0 hMl hme
      have HMK := Lib.hid (make_any a B M _ wo (HS.out.below hbw (Nat.le_refl _)) (Nat.le_trans HBB.out hbw.size) hR.lists hMl (fun l h => by have := isF_len HOK.out.2.1 (hMm l h); omega))
      unfold MakeC at HMK
      generalize M.length = nm at hme
      subst hme
      have HM0 := Lib.hid hM0
      have HBW := Lib.hid hbw
      have HKO := Lib.hid ((hb.block _ hlt1).trans HK1.out)
      have hlto : w.heap.size + 1 < wo.heap.size := (Array.getElem?_eq_some_iff.1 HKO.out).1
      clear hTf hMm hM0 hMl hbw hR hb
      go_wp2_with fail
      refine HMK.out.mono ?_
      rintro e w5 ⟨hb5, ⟨-, u5, rfl, hR5⟩ | ⟨h0, -⟩⟩
      rotate_left
      · exact absurd HM0.out h0
      obtain ⟨p5, c5, hu5, -⟩ := hR5.lists
      have hk5 := (hb5.block _ hlto).trans HKO.out
      have HL5 := Lib.hid hR5.lists
      obtain ⟨s5, hs5⟩ : ∃ s5, (madeF M).length = s5 := ⟨_, rfl⟩
      rw [hs5] at hu5
      subst hu5
      have HS5 := Lib.hid hs5
      have HB5 := Lib.hid (HBW.out.trans (hb5.mono HBW.out.size))
      have d0 := (one_at hk5).1
      have f0 := (one_at hk5).2
      have R0 := Lib.hid (one_set (v := .slice p5 s5 c5) hk5)
      have HBF := Lib.hid (show Below w.heap.size w (w5.setCell ⟨w.heap.size + 1, 0, none⟩ (.slice p5 s5 c5)) from HB5.out.setCell (Nat.le_succ _) _)
      have HLF : Hid (RowsO w.heap.size B (w5.setCell ⟨w.heap.size + 1, 0, none⟩ (.slice p5 s5 c5)) (.slice p5 s5 c5) (madeF M)) := by
        have hro := hR5.grown (c := w.heap.size + 1) (grown_cell w5 (w.heap.size + 1) (.slice p5 s5 c5)) hlto (Nat.le_succ_of_le HBB.out) (fun x e => by rw [hk5] at e; cases e)
        exact hro.le HBW.out.size
      clear hb5 hR5 hk5 hs5
      go_wp2_with fail
      refine bodyPost_ret (v := .tuple #[.agg #[.slice p5 s5 c5], .nilIface]) (by simp [results, Tryz.results75, go_sem, R0.out]) rfl ?_
      refine ⟨HBF.out, Or.inl ⟨HE.out, p5, c5, ?_, ?_⟩⟩
      · rw [HS5.out]
      · rw [HS5.out]; exact HLF.out
theorem someM_any (a : Nat → Addr) (B : Nat) (L : List (List Int)) (pf : List Int → List Int) (v cap : Value) (w : World) (hS : Sents w a) (hB : B ≤ w.heap.size) (hv : ListsIn B w v L) (hn : L.length ≤ 100000) (hl : ∀ l ∈ L, l.length ≤ 100000)
    (hcl : errX L = 0 → ∀ w', Below w.heap.size w w' → ∀ u x, x ∈ allF L → IntsIn B w' u x → Calls Tryz.prog 76 #[u, cap] w' (AnsP B (pf x) w')) (hpf : errX L = 0 → ∀ x ∈ allF L, pf x ≠ [] → IsF L (pf x)) :
    Calls Tryz.prog 75 #[.agg #[v], .func (.func 76) #[] #[cap]] w (SomeP a B L (coll pf (tableF (allF L)).flatten) w) := by
  by_cases he : errX L = 0
  · exact someM_ok a B L pf v cap w hS hB hv hn hl he (hcl he) (hpf he)
  · exact someM_bad a B L _ v cap w hS hB hv hn hl he

theorem two_tab {B : Nat} {w : World} {A M : List (List Int)} {v1 v2 : Value} (h1 : ListsIn B w v1 A) (h2 : ListsIn B w v2 M) :
    TabIn B (w.alloc (.cells #[v1, v2] 22)) (.slice (some ⟨w.heap.size, 0, none⟩) 2 2) [A, M] := by
  have hb := lit_below w (.cells #[v1, v2] 22)
  have hx := heap_alloc_new w (.cells #[v1, v2] 22)
  refine ⟨some ⟨w.heap.size, 0, none⟩, 2, rfl, Nat.le_refl _, (fun e => by cases e), fun i h => ?_⟩
  match i, h with
  | 0, _ => exact ⟨w.heap.size, 0, v1, rfl, by simp only [World.cell?, hx]; rfl, h1.below hb (Nat.le_refl _)⟩
  | 1, _ => exact ⟨w.heap.size, 0, v2, rfl, by simp only [World.cell?, hx]; rfl, h2.below hb (Nat.le_refl _)⟩
  | n + 2, h => exact absurd h (by simp)

set_option maxRecDepth 100000 in
set_option maxHeartbeats 16000000 in
theorem union_any (a : Nat → Addr) (B : Nat) (L M : List (List Int)) (v u : Value) (w : World) (hS : Sents w a) (hB : B ≤ w.heap.size) (hv : ListsIn B w v L) (hu : ListsIn B w u M) (hn : L.length ≤ 50000) (hl : ∀ l ∈ L, l.length ≤ 100000) (hn2 : M.length ≤ 50000) (hl2 : ∀ l ∈ M, l.length ≤ 100000) :
    Calls Tryz.prog 25 #[.agg #[v], .agg #[u]] w (SetsP a B (errG (errJ L M) (L ++ M)) (L ++ M) w) := by
  obtain ⟨pv, cv, hve, -⟩ := id hv
  obtain ⟨n, hLn⟩ : ∃ n, L.length = n := ⟨_, rfl⟩
  rw [hLn] at hve
  subst hve
  obtain ⟨pu, cu, hue, -⟩ := id hu
  obtain ⟨m, hMn⟩ : ∃ m, M.length = m := ⟨_, rfl⟩
  rw [hMn] at hue
  subst hue
  obtain ⟨w0, hw0⟩ : ∃ w0, w0 = ((w.alloc (.cells #[.slice pv n cv] 34)).alloc (.cells #[.slice pu m cu] 34)).alloc (.cells #[.slice none 0 0] 34) := ⟨_, rfl⟩
  have hb0 : Below w.heap.size w w0 := by rw [hw0]; exact (((Below.refl _ _).alloc (Nat.le_refl _) _).alloc (by simp) _).alloc (by simp; omega) _
  have hk0 : w0.heap[w.heap.size]? = some (.cells #[.slice pv n cv] 34 (0, 0)) := by
    rw [hw0]; exact ((lit_below _ _).block _ (by simp; omega)).trans (((lit_below _ _).block _ (by simp)).trans (heap_alloc_new w _))
  have hk1 : w0.heap[w.heap.size + 1]? = some (.cells #[.slice pu m cu] 34 (0, 0)) := by
    rw [hw0]
    have h := heap_alloc_new (w.alloc (.cells #[.slice pv n cv] 34)) (.cells #[.slice pu m cu] 34)
    rw [lit_size] at h
    exact ((lit_below _ _).block _ (by simp)).trans h
  have hk2 : w0.heap[w.heap.size + 1 + 1]? = some (.cells #[.slice none 0 0] 34 (0, 0)) := by
    rw [hw0]
    have h := heap_alloc_new ((w.alloc (.cells #[.slice pv n cv] 34)).alloc (.cells #[.slice pu m cu] 34)) (.cells #[.slice none 0 0] 34)
    rw [lit_size, lit_size] at h
    exact h
  have HB0 := Lib.hid hb0
  have HW0 := Lib.hid hw0
  have HK0 := Lib.hid hk0
  have HK1 := Lib.hid hk1
  have HK2 := Lib.hid hk2
  have HS := Lib.hid hS
  have HBB := Lib.hid hB
  have HV := Lib.hid (hv.below hb0 (Nat.le_refl _))
  have HU := Lib.hid (hu.below hb0 (Nat.le_refl _))
  have hlt2 : w.heap.size + 1 + 1 < w0.heap.size := (Array.getElem?_eq_some_iff.1 hk2).1
  have HBO := Lib.hid (both_any a B L M (.slice pv n cv) (.slice pu m cu) w0 (hS.below hb0 (Nat.le_refl _)) (Nat.le_trans hB hb0.size) (hv.below hb0 (Nat.le_refl _)) (hu.below hb0 (Nat.le_refl _)) (by omega) hl (by omega) hl2)
  unfold Gives at HBO
  unfold SetsP
  obtain ⟨eJ, heJ⟩ : ∃ eJ, errJ L M = eJ := ⟨_, rfl⟩
  have HEJ := Lib.hid heJ
  rw [heJ] at HBO
  have HN1 := Lib.hid hn
  have HN2 := Lib.hid hn2
  have HL1 := Lib.hid hl
  have HL2 := Lib.hid hl2
  have HLN := Lib.hid hLn
  have HMN := Lib.hid hMn
  clear hS hB hv hu hn hl hn2 hl2 hb0 hLn hMn hw0 hk0 hk1 hk2 heJ
  by_cases hne : eJ ≠ 0
  · obtain ⟨k, rfl⟩ : ∃ k, eJ = k + 1 := ⟨eJ - 1, by omega⟩
    have hk8 : k < 8 := by have := errJ_le L M; rw [HEJ.out] at this; omega
    rw [errV_succ] at HBO
    have HER : Hid (errG (errJ L M) (L ++ M) = k + 1) := by unfold Hid errG; rw [HEJ.out, if_neg (by omega)]
    unfold errE at HBO
    go_enter Tryz.func25, Tryz.ntmps25
    go_wp2_with fail
    rw [← HW0.out]
    refine HBO.out.mono ?_
    rintro e w1 ⟨rfl, hb1⟩
    have HB1 := Lib.hid (HB0.out.trans (hb1.mono HB0.out.size))
    have hk2' := (hb1.block _ hlt2).trans HK2.out
    have d0 := (one_at hk2').1
    have f0 := (one_at hk2').2
    have R0 := Lib.hid (one_set (v := .slice none 0 0) hk2')
    have HBF := Lib.hid (show Below w.heap.size w (w1.setCell ⟨w.heap.size + 1 + 1, 0, none⟩ (.slice none 0 0)) from HB1.out.setCell (by show w.heap.size ≤ w.heap.size + 1 + 1; omega) _)
    clear hb1 hk2' hne HBO
    go_wp2_with fail
    refine bodyPost_ret (v := .tuple #[.agg #[.slice none 0 0], .iface 225 (.pointer (some (a k)))]) (by simp [results, Tryz.results25, go_sem, R0.out]) rfl ?_
    exact ⟨HBF.out, Or.inr ⟨k, hk8, HER.out, rfl⟩⟩
  · obtain rfl : eJ = 0 := by omega
    rw [errV_0] at HBO
    clear hne
    go_enter Tryz.func25, Tryz.ntmps25
    go_wp2_with fail
    rw [← HW0.out]
    refine HBO.out.mono ?_
    rintro e w1 ⟨rfl, hb1⟩
    have HB1 := Lib.hid (HB0.out.trans (hb1.mono HB0.out.size))
    have hk0' := (hb1.block _ (Array.getElem?_eq_some_iff.1 HK0.out).1).trans HK0.out
    have hk1' := (hb1.block _ (Array.getElem?_eq_some_iff.1 HK1.out).1).trans HK1.out
    have hk2' := (hb1.block _ hlt2).trans HK2.out
    have HK21 := Lib.hid hk2'
    have c0 := (one_at hk0').1
    have c1 := (one_at hk1').1
    obtain ⟨w2, hw2⟩ : ∃ w2, w2 = w1.alloc (.cells #[.slice pv n cv, .slice pu m cu] 22) := ⟨_, rfl⟩
    have hb2 : Below w1.heap.size w1 w2 := by rw [hw2]; exact lit_below _ _
    have HB2 := Lib.hid (HB1.out.trans (hb2.mono HB1.out.size))
    have HK22 := Lib.hid ((hb2.block _ (Array.getElem?_eq_some_iff.1 hk2').1).trans hk2')
    have htab : TabIn B w2 (.slice (some ⟨w1.heap.size, 0, none⟩) 2 2) [L, M] := by rw [hw2]; exact two_tab (HV.out.below hb1 (Nat.le_refl _)) (HU.out.below hb1 (Nat.le_refl _))
    have hfl : [L, M].flatten = L ++ M := by simp
    have HCT := Lib.hid (catR_any B [L, M] _ w2 (Nat.le_trans HBB.out HB2.out.size) htab (by show 2 ≤ 1000000; decide) (by have h1 := HN1.out; have h2 := HN2.out; rw [hfl, List.length_append]; omega))
    unfold ListPost at HCT
    rw [hfl] at HCT
    have HW2 := Lib.hid hw2
    clear hb1 hk0' hk1' hk2' hb2 hw2 htab hfl
    go_wp2_with fail
    rw [← HW2.out]
    refine HCT.out.mono ?_
    rintro e w3 ⟨v3, rfl, hb3, hr3⟩
    have HB3 := Lib.hid (HB2.out.trans (hb3.mono HB2.out.size))
    have HK23 := Lib.hid ((hb3.block _ (Array.getElem?_eq_some_iff.1 HK22.out).1).trans HK22.out)
    have hlt3 := (Array.getElem?_eq_some_iff.1 HK23.out).1
    have HMK := Lib.hid (make_any a B (L ++ M) v3 w3 (HS.out.below HB3.out (Nat.le_refl _)) (Nat.le_trans HBB.out HB3.out.size) hr3.lists (by have h1 := HN1.out; have h2 := HN2.out; rw [List.length_append]; omega) (fun l h => (List.mem_append.1 h).elim (HL1.out l) (HL2.out l)))
    unfold MakeC at HMK
    clear hb3 hr3 HCT HW2 c0 c1
    go_wp2_with fail
    refine HMK.out.mono ?_
    rintro e w5 ⟨hb5, ⟨h0, u5, rfl, hR5⟩ | ⟨h0, k, hk, hek, rfl⟩⟩
    rotate_left
    · have HB5 := Lib.hid (HB3.out.trans (hb5.mono HB3.out.size))
      have hk5 := (hb5.block _ hlt3).trans HK23.out
      have d0 := (one_at hk5).1
      have f0 := (one_at hk5).2
      have R0 := Lib.hid (one_set (v := .slice none 0 0) hk5)
      have HBF := Lib.hid (show Below w.heap.size w (w5.setCell ⟨w.heap.size + 1 + 1, 0, none⟩ (.slice none 0 0)) from HB5.out.setCell (by show w.heap.size ≤ w.heap.size + 1 + 1; omega) _)
      have HER : Hid (errG (errJ L M) (L ++ M) = k + 1) := by unfold Hid errG; rw [HEJ.out, if_pos rfl]; exact hek
      unfold errE
      clear hb5 hk5 hek h0
      go_wp2_with fail
      refine bodyPost_ret (v := .tuple #[.agg #[.slice none 0 0], .iface 225 (.pointer (some (a k)))]) (by simp [results, Tryz.results25, go_sem, R0.out]) rfl ?_
      exact ⟨HBF.out, Or.inr ⟨k, hk, HER.out, rfl⟩⟩
    have HER : Hid (errG (errJ L M) (L ++ M) = 0) := by unfold Hid errG; rw [HEJ.out, if_pos rfl]; exact h0
    clear h0 HMK
    obtain ⟨p5, c5, hu5, -⟩ := hR5.lists
    have hk5 := (hb5.block _ hlt3).trans HK23.out
    obtain ⟨s5, hs5⟩ : ∃ s5, (madeF (L ++ M)).length = s5 := ⟨_, rfl⟩
    rw [hs5] at hu5
    subst hu5
    have HS5 := Lib.hid hs5
    have HB5 := Lib.hid (HB3.out.trans (hb5.mono HB3.out.size))
    have d0 := (one_at hk5).1
    have f0 := (one_at hk5).2
    have R0 := Lib.hid (one_set (v := .slice p5 s5 c5) hk5)
    have HBF := Lib.hid (show Below w.heap.size w (w5.setCell ⟨w.heap.size + 1 + 1, 0, none⟩ (.slice p5 s5 c5)) from HB5.out.setCell (by show w.heap.size ≤ w.heap.size + 1 + 1; omega) _)
    have HLF : Hid (RowsO w.heap.size B (w5.setCell ⟨w.heap.size + 1 + 1, 0, none⟩ (.slice p5 s5 c5)) (.slice p5 s5 c5) (madeF (L ++ M))) := by
      have hro := hR5.grown (c := w.heap.size + 1 + 1) (grown_cell w5 (w.heap.size + 1 + 1) (.slice p5 s5 c5)) hlt3 (Nat.le_trans HBB.out (by omega)) (fun x e => by rw [hk5] at e; cases e)
      exact hro.le HB3.out.size
    clear hb5 hR5 hk5 hs5
    go_wp2_with fail
    refine bodyPost_ret (v := .tuple #[.agg #[.slice p5 s5 c5], .nilIface]) (by simp [results, Tryz.results25, go_sem, R0.out]) rfl ?_
    refine ⟨HBF.out, Or.inl ⟨HER.out, p5, c5, ?_, ?_⟩⟩
    · rw [HS5.out]
    · rw [HS5.out]; exact HLF.out

set_option maxHeartbeats 4000000 in
theorem meet1_any (B b : Nat) (M : List (List Int)) (x : List Int) (u v : Value) (w : World) (hc : w.cell? ⟨b, 0, none⟩ = some v) (hv : ListsIn B w v M) (hu : IntsIn B w u x) (hn : M.length ≤ 100000) (hl : ∀ l ∈ M, l.length ≤ 100000) (hx : x.length ≤ 100000) :
    Calls Tryz.prog 76 #[u, .pointer (some ⟨b, 0, none⟩)] w (AnsP B (if hasB M x then x else []) w) := by
  have HC := Lib.hid (has_any B M x v u w hv hu.at hn hl hx)
  unfold Gives at HC
  obtain ⟨pu, cu, hue⟩ := hu.len
  obtain ⟨n, hn⟩ : ∃ n, x.length = n := ⟨_, rfl⟩
  rw [hn] at hue
  subst hue
  obtain ⟨pw, cw, hwe, -⟩ := id hv
  generalize M.length = mm at hwe
  subst hwe
  have HN := Lib.hid hn
  have HU := Lib.hid hu
  obtain ⟨r, hr⟩ : ∃ r, hasB M x = r := ⟨_, rfl⟩
  rw [hr] at HC ⊢
  clear hv hu hx hr hn hl
  cases r with
  | true =>
    rw [if_pos rfl]
    unfold AnsP
    rw [HN.out]
    go_enter Tryz.func76, Tryz.ntmps76
    go_wp2_with fail
    refine HC.out.mono ?_
    rintro e w1 ⟨rfl, hb⟩
    have HB := Lib.hid hb
    have HU1 := Lib.hid (HU.out.below hb (Nat.le_refl _))
    clear hb
    go_wp2_with fail
    go_ret
    exact ⟨pu, cu, rfl, HB.out, HU1.out⟩
  | false =>
    rw [if_neg (by decide)]
    unfold AnsP
    go_enter Tryz.func76, Tryz.ntmps76
    go_wp2_with fail
    refine HC.out.mono ?_
    rintro e w1 ⟨rfl, hb⟩
    have HB := Lib.hid hb
    clear hb
    go_wp2_with fail
    go_ret
    exact ⟨none, 0, rfl, HB.out, IntsIn.nil _ _⟩

set_option maxRecDepth 100000 in
set_option maxHeartbeats 16000000 in
theorem meet_any (a : Nat → Addr) (B : Nat) (L M : List (List Int)) (v u : Value) (w : World) (hS : Sents w a) (hB : B ≤ w.heap.size) (hv : ListsIn B w v L) (hu : ListsIn B w u M) (hn : L.length ≤ 50000) (hl : ∀ l ∈ L, l.length ≤ 100000) (hn2 : M.length ≤ 50000) (hl2 : ∀ l ∈ M, l.length ≤ 100000) :
    Calls Tryz.prog 26 #[.agg #[v], .agg #[u]] w (SetsP a B (errJ L M) (meetP L M) w) := by
  obtain ⟨pv, cv, hve, -⟩ := id hv
  obtain ⟨n, hLn⟩ : ∃ n, L.length = n := ⟨_, rfl⟩
  rw [hLn] at hve
  subst hve
  obtain ⟨pu, cu, hue, -⟩ := id hu
  obtain ⟨m, hMn⟩ : ∃ m, M.length = m := ⟨_, rfl⟩
  rw [hMn] at hue
  subst hue
  obtain ⟨w0, hw0⟩ : ∃ w0, w0 = ((w.alloc (.cells #[.slice pv n cv] 34)).alloc (.cells #[.slice pu m cu] 34)).alloc (.cells #[.slice none 0 0] 34) := ⟨_, rfl⟩
  have hb0 : Below w.heap.size w w0 := by rw [hw0]; exact (((Below.refl _ _).alloc (Nat.le_refl _) _).alloc (by simp) _).alloc (by simp; omega) _
  have hk0 : w0.heap[w.heap.size]? = some (.cells #[.slice pv n cv] 34 (0, 0)) := by
    rw [hw0]; exact ((lit_below _ _).block _ (by simp; omega)).trans (((lit_below _ _).block _ (by simp)).trans (heap_alloc_new w _))
  have hk1 : w0.heap[w.heap.size + 1]? = some (.cells #[.slice pu m cu] 34 (0, 0)) := by
    rw [hw0]
    have h := heap_alloc_new (w.alloc (.cells #[.slice pv n cv] 34)) (.cells #[.slice pu m cu] 34)
    rw [lit_size] at h
    exact ((lit_below _ _).block _ (by simp)).trans h
  have hk2 : w0.heap[w.heap.size + 1 + 1]? = some (.cells #[.slice none 0 0] 34 (0, 0)) := by
    rw [hw0]
    have h := heap_alloc_new ((w.alloc (.cells #[.slice pv n cv] 34)).alloc (.cells #[.slice pu m cu] 34)) (.cells #[.slice none 0 0] 34)
    rw [lit_size, lit_size] at h
    exact h
  have HB0 := Lib.hid hb0
  have HW0 := Lib.hid hw0
  have HK0 := Lib.hid hk0
  have HK1 := Lib.hid hk1
  have HK2 := Lib.hid hk2
  have HS := Lib.hid hS
  have HBB := Lib.hid hB
  have HV := Lib.hid (hv.below hb0 (Nat.le_refl _))
  have HU := Lib.hid (hu.below hb0 (Nat.le_refl _))
  have hlt2 : w.heap.size + 1 + 1 < w0.heap.size := (Array.getElem?_eq_some_iff.1 hk2).1
  have HBO := Lib.hid (both_any a B L M (.slice pv n cv) (.slice pu m cu) w0 (hS.below hb0 (Nat.le_refl _)) (Nat.le_trans hB hb0.size) (hv.below hb0 (Nat.le_refl _)) (hu.below hb0 (Nat.le_refl _)) (by omega) hl (by omega) hl2)
  unfold Gives at HBO
  have HSM := Lib.hid (fun (wx : World) (hbx : Below w0.heap.size w0 wx) => someM_any a B L (fun x => if hasB M x then x else []) (.slice pv n cv) (.pointer (some ⟨w.heap.size + 1, 0, none⟩)) wx ((hS.below hb0 (Nat.le_refl _)).below hbx (Nat.le_refl _)) (Nat.le_trans (Nat.le_trans hB hb0.size) hbx.size) ((hv.below hb0 (Nat.le_refl _)).below hbx (Nat.le_refl _)) (by omega) hl
    (fun he0 w' hb' ux x hx hix => by
      have hb2 := hbx.trans (hb'.mono hbx.size)
      have hc := (one_at ((hb2.block _ (Array.getElem?_eq_some_iff.1 hk1).1).trans hk1)).1
      exact meet1_any B (w.heap.size + 1) M x ux (.slice pu m cu) w' hc ((hu.below hb0 (Nat.le_refl _)).below hb2 (Nat.le_refl _)) hix (by omega) hl2 (by have := allF_bd (errX_ok he0).1 x hx; omega))
    (fun he0 x hx hne => by
      cases hp : hasB M x with
      | true => simp only [hp, if_true] at hne ⊢; exact mem_allF.1 hx
      | false => simp only [hp] at hne; exact absurd rfl hne))
  unfold SomeP at HSM
  unfold SetsP
  obtain ⟨eJ, heJ⟩ : ∃ eJ, errJ L M = eJ := ⟨_, rfl⟩
  have HEJ := Lib.hid heJ
  rw [heJ] at HBO
  have HN1 := Lib.hid hn
  have HN2 := Lib.hid hn2
  have HL1 := Lib.hid hl
  have HL2 := Lib.hid hl2
  have HLN := Lib.hid hLn
  have HMN := Lib.hid hMn
  clear hS hB hv hu hn hl hn2 hl2 hb0 hLn hMn hw0 hk0 hk1 hk2 heJ
  by_cases hne : eJ ≠ 0
  · obtain ⟨k, rfl⟩ : ∃ k, eJ = k + 1 := ⟨eJ - 1, by omega⟩
    have hk8 : k < 8 := by have := errJ_le L M; rw [HEJ.out] at this; omega
    rw [errV_succ] at HBO
    have HER : Hid (errJ L M = k + 1) := by exact HEJ.out
    unfold errE at HBO
    go_enter Tryz.func26, Tryz.ntmps26
    go_wp2_with fail
    rw [← HW0.out]
    refine HBO.out.mono ?_
    rintro e w1 ⟨rfl, hb1⟩
    have HB1 := Lib.hid (HB0.out.trans (hb1.mono HB0.out.size))
    have hk2' := (hb1.block _ hlt2).trans HK2.out
    have d0 := (one_at hk2').1
    have f0 := (one_at hk2').2
    have R0 := Lib.hid (one_set (v := .slice none 0 0) hk2')
    have HBF := Lib.hid (show Below w.heap.size w (w1.setCell ⟨w.heap.size + 1 + 1, 0, none⟩ (.slice none 0 0)) from HB1.out.setCell (by show w.heap.size ≤ w.heap.size + 1 + 1; omega) _)
    clear hb1 hk2' hne HBO
    go_wp2_with fail
    refine bodyPost_ret (v := .tuple #[.agg #[.slice none 0 0], .iface 225 (.pointer (some (a k)))]) (by simp [results, Tryz.results26, go_sem, R0.out]) rfl ?_
    exact ⟨HBF.out, Or.inr ⟨k, hk8, HER.out, rfl⟩⟩
  · obtain rfl : eJ = 0 := by omega
    rw [errV_0] at HBO
    have HE := Lib.hid (errJ_0 HEJ.out).1
    have HER : Hid (errJ L M = 0) := HEJ.out
    obtain ⟨C, hC⟩ : ∃ C, coll (fun x => if hasB M x then x else []) (tableF (allF L)).flatten = C := ⟨_, rfl⟩
    have HMP : Hid (meetP L M = C) := hC
    rw [hC] at HSM
    rw [show meetP L M = C from hC]
    clear hne hC
    go_enter Tryz.func26, Tryz.ntmps26
    go_wp2_with fail
    rw [← HW0.out]
    refine HBO.out.mono ?_
    rintro e w1 ⟨rfl, hb1⟩
    have HB1 := Lib.hid (HB0.out.trans (hb1.mono HB0.out.size))
    have hk0' := (hb1.block _ (Array.getElem?_eq_some_iff.1 HK0.out).1).trans HK0.out
    have hk2' := (hb1.block _ hlt2).trans HK2.out
    have HK21 := Lib.hid hk2'
    have c0 := (one_at hk0').1
    have hlt1 := (Array.getElem?_eq_some_iff.1 hk2').1
    have HSM1 := Lib.hid (HSM.out w1 hb1)
    clear hb1 hk0' hk2' HSM
    go_wp2_with fail
    refine HSM1.out.mono ?_
    rintro e w5 ⟨hb5, ⟨-, q5, d5, rfl, hR5⟩ | ⟨k, hk, hek, rfl⟩⟩
    rotate_left
    · exact absurd HE.out (by omega)
    obtain ⟨u5, hu5'⟩ : ∃ u5, u5 = Value.slice q5 (madeF C).length d5 := ⟨_, rfl⟩
    rw [← hu5'] at hR5 ⊢
    clear hu5'
    obtain ⟨p5, c5, hu5, -⟩ := hR5.lists
    have hk5 := (hb5.block _ hlt1).trans HK21.out
    obtain ⟨s5, hs5⟩ : ∃ s5, (madeF (C)).length = s5 := ⟨_, rfl⟩
    rw [hs5] at hu5
    subst hu5
    have HS5 := Lib.hid hs5
    have HB5 := Lib.hid (HB1.out.trans (hb5.mono HB1.out.size))
    have d0 := (one_at hk5).1
    have f0 := (one_at hk5).2
    have R0 := Lib.hid (one_set (v := .slice p5 s5 c5) hk5)
    have HBF := Lib.hid (show Below w.heap.size w (w5.setCell ⟨w.heap.size + 1 + 1, 0, none⟩ (.slice p5 s5 c5)) from HB5.out.setCell (by show w.heap.size ≤ w.heap.size + 1 + 1; omega) _)
    have HLF : Hid (RowsO w.heap.size B (w5.setCell ⟨w.heap.size + 1 + 1, 0, none⟩ (.slice p5 s5 c5)) (.slice p5 s5 c5) (madeF (C))) := by
      have hro := hR5.grown (c := w.heap.size + 1 + 1) (grown_cell w5 (w.heap.size + 1 + 1) (.slice p5 s5 c5)) hlt1 (Nat.le_trans HBB.out (by omega)) (fun x e => by rw [hk5] at e; cases e)
      exact hro.le HB1.out.size
    clear hb5 hR5 hk5 hs5
    go_wp2_with fail
    refine bodyPost_ret (v := .tuple #[.agg #[.slice p5 s5 c5], .nilIface]) (by simp [results, Tryz.results26, go_sem, R0.out]) rfl ?_
    refine ⟨HBF.out, Or.inl ⟨HER.out, p5, c5, ?_, ?_⟩⟩
    · rw [HS5.out]
    · rw [HS5.out]; exact HLF.out

theorem flat_bd {L : List (List Int)} {k : Nat} (h : ∀ l ∈ L, l.length ≤ k) : L.flatten.length ≤ L.length * k := by
  induction L with
  | nil => simp
  | cons x r ih =>
    have h1 := h x (List.mem_cons_self ..)
    have h2 := ih fun l hl => h l (List.mem_cons_of_mem _ hl)
    rw [List.flatten_cons, List.length_append, List.length_cons, Nat.succ_mul]
    omega
theorem pairs_step {L : List (List Int)} {F : List Int → List (List Int)} {j : Nat} (h : j < L.length) : (L.take (j + 1)).flatMap F = (L.take j).flatMap F ++ F (L.getD j []) := by
  rw [take_snoc_getD [] L j h, List.flatMap_append]
  simp
theorem map_step {L : List (List Int)} {F : List Int → List Int} {j : Nat} (h : j < L.length) : (L.take (j + 1)).map F = (L.take j).map F ++ [F (L.getD j [])] := by
  rw [take_snoc_getD [] L j h, List.map_append]
  rfl
theorem pairs_len (L R : List (List Int)) (cat : List Int → List Int → List Int) : (L.flatMap fun f => R.map fun g => cat f g).length = L.length * R.length := by
  rw [List.length_flatMap]
  simp only [List.length_map]
  rw [List.map_const', List.sum_replicate_nat]
/-- a list whose first q are raised -/
def upTo (m : Int) (x : List Int) (q : Nat) : List Int := shF m (x.take q) ++ x.drop q
theorem upTo_len (m : Int) (x : List Int) (q : Nat) : (upTo m x q).length = x.length := by
  unfold upTo shF
  rw [List.length_append, List.length_map, ← List.length_append, List.take_append_drop]
theorem upTo_zero (m : Int) (x : List Int) : upTo m x 0 = x := rfl
theorem upTo_all (m : Int) (x : List Int) : upTo m x x.length = shF m x := by
  unfold upTo
  rw [List.take_length, List.drop_length, List.append_nil]
theorem upTo_at {m : Int} {x : List Int} {q : Nat} (h : q < x.length) : (intVs (upTo m x q))[q]? = some (.int .i64 (x.getD q 0)) := by
  unfold upTo intVs
  have hl : (shF m (x.take q)).length = q := by rw [shF_len, List.length_take]; omega
  rw [List.getElem?_map, List.getElem?_append_right (by omega), hl, Nat.sub_self, List.getElem?_drop, Nat.add_zero, List.getElem?_eq_getElem h, List.getD_eq_getElem?_getD, List.getElem?_eq_getElem h]
  rfl
theorem upTo_step {m : Int} {x : List Int} {q : Nat} (h : q < x.length) : (intVs (upTo m x q)).set q (.int .i64 (x.getD q 0 + m)) = intVs (upTo m x (q + 1)) := by
  unfold upTo intVs
  have hl : (List.map (Value.int .i64) (shF m (x.take q))).length = q := by rw [List.length_map, shF_len, List.length_take]; omega
  have hd : x.drop q = x.getD q 0 :: x.drop (q + 1) := by rw [List.drop_eq_getElem_cons h, List.getD_eq_getElem?_getD, List.getElem?_eq_getElem h]; rfl
  rw [List.map_append, List.set_append, if_neg (by omega), hl, Nat.sub_self, hd, List.map_cons, List.set_cons_zero, take_snoc_getD 0 x q h]
  unfold shF
  simp

/-- the walk's last list: what has been put together -/
def jnTo (L R : List (List Int)) (j q : Nat) : List (List Int) := (L ++ R) ++ ((L.take j).flatMap (fun f => R.map fun g => f ++ g) ++ (R.take q).map fun g => L.getD j [] ++ g)
def jnRow (L R : List (List Int)) (j : Nat) : List (List Int) := (L ++ R) ++ (L.take j).flatMap (fun f => R.map fun g => f ++ g)
theorem jn_len {L R : List (List Int)} (h1 : L.length ≤ 300) (h2 : R.length ≤ 300) (j q : Nat) : (jnTo L R j q).length ≤ 95000 := by
  unfold jnTo
  rw [List.length_append, List.length_append, List.length_append, pairs_len, List.length_map, List.length_take, List.length_take]
  have h3 : min j L.length * R.length ≤ 300 * 300 := Nat.mul_le_mul (by omega) h2
  have h4 : min q R.length ≤ 300 := by omega
  omega
theorem jn_zero (L R : List (List Int)) (j : Nat) : jnTo L R j 0 = jnRow L R j := by unfold jnTo jnRow; simp
theorem jn_step {L R : List (List Int)} {j q : Nat} (h : q < R.length) : jnTo L R j (q + 1) = jnTo L R j q ++ [L.getD j [] ++ R.getD q []] := by
  unfold jnTo
  rw [map_step h, List.append_assoc, List.append_assoc, List.append_assoc, List.append_assoc]
theorem jn_end {L R : List (List Int)} {j : Nat} (h : j < L.length) : jnTo L R j R.length = jnRow L R (j + 1) := by
  unfold jnTo jnRow
  rw [pairs_step h, List.take_length]
theorem jn_all {L M : List (List Int)} {m : Int} : jnRow L (M.map (shF m)) L.length = joinF (· ++ ·) m L M := by unfold jnRow joinF; rw [List.take_length]
theorem two_in {B : Nat} {w : World} {f g : List Int} {v1 v2 : Value} (h1 : IntsIn B w v1 f) (h2 : IntsIn B w v2 g) : ListsIn B (w.alloc (.cells #[v1, v2] 26)) (.slice (some ⟨w.heap.size, 0, none⟩) 2 2) [f, g] :=
  lists_lit B w [f, g] [v1, v2] rfl fun i hi => by
    match i, hi with
    | 0, _ => exact h1
    | 1, _ => exact h2
    | n + 2, hi => exact absurd hi (by simp)

theorem joinP_bd {L M : List (List Int)} (h1 : ∀ l ∈ L, l.length ≤ 100) (h2 : ∀ l ∈ M, l.length ≤ 100) : ∀ l ∈ joinP L M, l.length ≤ 100000 := fun l hl => by
  rcases mem_joinF.1 hl with h | ⟨g, hg, rfl⟩ | ⟨f, hf, g, hg, rfl⟩
  · have := h1 l h; omega
  · rw [shF_len]; have := h2 g hg; omega
  · rw [List.length_append, shF_len]; have := h1 f hf; have := h2 g hg; omega

set_option maxRecDepth 100000 in
set_option maxHeartbeats 32000000 in
theorem join_any (a : Nat → Addr) (B : Nat) (L M : List (List Int)) (v u : Value) (w : World) (hS : Sents w a) (hB : B ≤ w.heap.size) (hv : ListsIn B w v L) (hu : ListsIn B w u M) (hn : L.length ≤ 300) (hl : ∀ l ∈ L, l.length ≤ 100) (hn2 : M.length ≤ 300) (hl2 : ∀ l ∈ M, l.length ≤ 100) :
    Calls Tryz.prog 23 #[.agg #[v], .agg #[u]] w (SetsP a B (errG (errJ L M) (joinP L M)) (joinP L M) w) := by
  obtain ⟨pv, cv, hve, -⟩ := id hv
  obtain ⟨n, hLn⟩ : ∃ n, L.length = n := ⟨_, rfl⟩
  rw [hLn] at hve
  subst hve
  obtain ⟨pu, cu, hue, -⟩ := id hu
  obtain ⟨m, hMn⟩ : ∃ m, M.length = m := ⟨_, rfl⟩
  rw [hMn] at hue
  subst hue
  obtain ⟨w0, hw0⟩ : ∃ w0, w0 = ((w.alloc (.cells #[.slice pv n cv] 34)).alloc (.cells #[.slice pu m cu] 34)).alloc (.cells #[.slice none 0 0] 34) := ⟨_, rfl⟩
  have hb0 : Below w.heap.size w w0 := by rw [hw0]; exact (((Below.refl _ _).alloc (Nat.le_refl _) _).alloc (by simp) _).alloc (by simp; omega) _
  have hk0 : w0.heap[w.heap.size]? = some (.cells #[.slice pv n cv] 34 (0, 0)) := by
    rw [hw0]; exact ((lit_below _ _).block _ (by simp; omega)).trans (((lit_below _ _).block _ (by simp)).trans (heap_alloc_new w _))
  have hk1 : w0.heap[w.heap.size + 1]? = some (.cells #[.slice pu m cu] 34 (0, 0)) := by
    rw [hw0]
    have h := heap_alloc_new (w.alloc (.cells #[.slice pv n cv] 34)) (.cells #[.slice pu m cu] 34)
    rw [lit_size] at h
    exact ((lit_below _ _).block _ (by simp)).trans h
  have hk2 : w0.heap[w.heap.size + 1 + 1]? = some (.cells #[.slice none 0 0] 34 (0, 0)) := by
    rw [hw0]
    have h := heap_alloc_new ((w.alloc (.cells #[.slice pv n cv] 34)).alloc (.cells #[.slice pu m cu] 34)) (.cells #[.slice none 0 0] 34)
    rw [lit_size, lit_size] at h
    exact h
  have HB0 := Lib.hid hb0
  have HW0 := Lib.hid hw0
  have HK0 := Lib.hid hk0
  have HK1 := Lib.hid hk1
  have HK2 := Lib.hid hk2
  have HS := Lib.hid hS
  have HBB := Lib.hid hB
  have HV := Lib.hid (hv.below hb0 (Nat.le_refl _))
  have HU := Lib.hid (hu.below hb0 (Nat.le_refl _))
  have hlt2 : w.heap.size + 1 + 1 < w0.heap.size := (Array.getElem?_eq_some_iff.1 hk2).1
  have HBO := Lib.hid (both_any a B L M (.slice pv n cv) (.slice pu m cu) w0 (hS.below hb0 (Nat.le_refl _)) (Nat.le_trans hB hb0.size) (hv.below hb0 (Nat.le_refl _)) (hu.below hb0 (Nat.le_refl _)) (by omega) (fun l h => Nat.le_trans (hl l h) (by decide)) (by omega) (fun l h => Nat.le_trans (hl2 l h) (by decide)))
  unfold Gives at HBO
  unfold SetsP
  obtain ⟨eJ, heJ⟩ : ∃ eJ, errJ L M = eJ := ⟨_, rfl⟩
  have HEJ := Lib.hid heJ
  rw [heJ] at HBO
  have HN1 := Lib.hid hn
  have HN2 := Lib.hid hn2
  have HL1 := Lib.hid hl
  have HL2 := Lib.hid hl2
  have HLN := Lib.hid hLn
  have HMN := Lib.hid hMn
  clear hS hB hv hu hn hl hn2 hl2 hb0 hLn hMn hw0 hk0 hk1 hk2 heJ
  by_cases hne : eJ ≠ 0
  · obtain ⟨k, rfl⟩ : ∃ k, eJ = k + 1 := ⟨eJ - 1, by omega⟩
    have hk8 : k < 8 := by have := errJ_le L M; rw [HEJ.out] at this; omega
    rw [errV_succ] at HBO
    have HER : Hid (errG (errJ L M) (joinP L M) = k + 1) := by unfold Hid errG; rw [HEJ.out, if_neg (by omega)]
    unfold errE at HBO
    go_enter Tryz.func23, Tryz.ntmps23
    go_wp2_with fail
    rw [← HW0.out]
    refine HBO.out.mono ?_
    rintro e w1 ⟨rfl, hb1⟩
    have HB1 := Lib.hid (HB0.out.trans (hb1.mono HB0.out.size))
    have hk2' := (hb1.block _ hlt2).trans HK2.out
    have d0 := (one_at hk2').1
    have f0 := (one_at hk2').2
    have R0 := Lib.hid (one_set (v := .slice none 0 0) hk2')
    have HBF := Lib.hid (show Below w.heap.size w (w1.setCell ⟨w.heap.size + 1 + 1, 0, none⟩ (.slice none 0 0)) from HB1.out.setCell (by show w.heap.size ≤ w.heap.size + 1 + 1; omega) _)
    clear hb1 hk2' hne HBO
    go_wp2_with fail
    refine bodyPost_ret (v := .tuple #[.agg #[.slice none 0 0], .iface 225 (.pointer (some (a k)))]) (by simp [results, Tryz.results23, go_sem, R0.out]) rfl ?_
    exact ⟨HBF.out, Or.inr ⟨k, hk8, HER.out, rfl⟩⟩
  · obtain rfl : eJ = 0 := by omega
    rw [errV_0] at HBO
    obtain ⟨hA, hM⟩ := errJ_0 HEJ.out
    have HA := Lib.hid hA
    have HM := Lib.hid hM
    obtain ⟨i3, hi3, hy0, hy1, hy2⟩ := info_parts Tryz.info3
    obtain ⟨i39, hi39, hz0, hz1, hz2⟩ := info_parts Tryz.info26
    have hn300 : n ≤ 300 := by rw [← HLN.out]; exact HN1.out
    have hm300 : m ≤ 300 := by rw [← HMN.out]; exact HN2.out
    obtain ⟨mo, hmo⟩ : ∃ mo, moreF (vertA L) = mo := ⟨_, rfl⟩
    have hmo0 := more_0 hA
    rw [hmo] at hmo0
    have HMO := Lib.hid hmo
    have HJP : Hid (jnRow L (M.map (shF mo)) L.length = joinP L M) := by unfold Hid joinP; rw [jn_all, hmo]
    obtain ⟨R, hR⟩ : ∃ R, M.map (shF mo) = R := ⟨_, rfl⟩
    have HRL : Hid (R.length = m) := by unfold Hid; rw [← hR, List.length_map]; exact HMN.out
    have HRR := Lib.hid hR
    have HRB : Hid (∀ l ∈ R, l.length ≤ 100) := fun l hl => by
      rw [← hR] at hl
      obtain ⟨f, hf, rfl⟩ := List.mem_map.1 hl
      rw [shF_len]; exact HL2.out f hf
    rw [hR] at HJP
    have HMB : Hid (∀ l ∈ M, 0 < l.length ∧ ∀ x ∈ l, 0 ≤ x ∧ x ≤ 99) := fun l hl => by
      have h1 := right_rise hM l hl
      exact ⟨List.length_pos_iff.2 (allF_ne l h1), allF_0 (errX_ok hM).1 l h1⟩
    have HVB : Hid (∀ x ∈ vertA L, 0 ≤ x ∧ x ≤ 99) := fun x hx => by
      obtain ⟨l, hl, hx⟩ := mem_vertA.1 hx
      exact allF_0 (errX_ok hA).1 l (right_rise hA l hl) x hx
    clear hne hA hM hmo hR
    go_enter Tryz.func23, Tryz.ntmps23
    go_wp2_with fail
    rw [← HW0.out]
    refine HBO.out.mono ?_
    rintro e w1 ⟨rfl, hb1⟩
    have HB1 := Lib.hid (HB0.out.trans (hb1.mono HB0.out.size))
    have hk0' := (hb1.block _ (Array.getElem?_eq_some_iff.1 HK0.out).1).trans HK0.out
    have hk1' := (hb1.block _ (Array.getElem?_eq_some_iff.1 HK1.out).1).trans HK1.out
    have hk2' := (hb1.block _ hlt2).trans HK2.out
    have hlt1 := (Array.getElem?_eq_some_iff.1 hk2').1
    have c0 := (one_at hk0').1
    have HV1 := Lib.hid (HV.out.below hb1 (Nat.le_refl _))
    have HU1 := Lib.hid (HU.out.below hb1 (Nat.le_refl _))
    have HVT := Lib.hid (vertices_any B L (.slice pv n cv) w1 HV1.out (by rw [HLN.out]; omega) (by have := flat_bd HL1.out; rw [HLN.out] at this; omega))
    unfold NumsP at HVT
    have HK01 := Lib.hid hk0'
    have HK11 := Lib.hid hk1'
    have HK21 := Lib.hid hk2'
    clear hb1 hk0' hk1' hk2'
    go_wp2_with fail
    refine HVT.out.mono ?_
    rintro e w2 ⟨p8, c8, rfl, hb2, hi8⟩
    obtain ⟨V, hV⟩ : ∃ V, vertA L = V := ⟨_, rfl⟩
    rw [hV] at hi8 HMO HVB ⊢
    obtain ⟨k8, hk8⟩ : ∃ k8, V.length = k8 := ⟨_, rfl⟩
    rw [hk8] at hi8 ⊢
    have HK8 := Lib.hid hk8
    have hk8b : k8 ≤ 100000 := by
      rw [← hk8, ← hV]
      have h1 := setL_len L.flatten
      have h2 := flat_bd HL1.out
      rw [HLN.out] at h2
      unfold vertA
      omega
    have HI8 := Lib.hid hi8
    have HB2 := Lib.hid (HB1.out.trans (hb2.mono HB1.out.size))
    have HV2 := Lib.hid (HV1.out.below hb2 (Nat.le_refl _))
    have HU2 := Lib.hid (HU1.out.below hb2 (Nat.le_refl _))
    have hk0' := (hb2.block _ (Array.getElem?_eq_some_iff.1 HK01.out).1).trans HK01.out
    have hk1' := (hb2.block _ (Array.getElem?_eq_some_iff.1 HK11.out).1).trans HK11.out
    have hk2' := (hb2.block _ hlt1).trans HK21.out
    have hltw2 := (Array.getElem?_eq_some_iff.1 hk2').1
    have HK02 := Lib.hid hk0'
    have HK12 := Lib.hid hk1'
    have HK22 := Lib.hid hk2'
    clear hb2 hi8 hV hk8 HVT c0 hk0' hk1' hk2'
    go_upto_if 30 with fail
    go_cut [7] (fun s7 wx => s7 = .int .i64 mo ∧ wx = w2)
    case first =>
      by_cases hp : 0 < k8
      · obtain ⟨pp, cc, he, -, -, hx⟩ := id HI8.out
        obtain ⟨b, off, e1, e2, -⟩ := hx (k8 - 1) (by rw [HK8.out]; omega)
        obtain ⟨rfl, rfl⟩ : p8 = pp ∧ c8 = cc := by cases he; exact ⟨rfl, rfl⟩
        subst e1
        have hvb := HVB.out _ (getD_mem (l := V) (i := k8 - 1) (by rw [HK8.out]; omega))
        have HLAST : Hid (V.getD (k8 - 1) 0 + 1 = mo) := by
          unfold Hid
          rw [← HMO.out]
          unfold moreF
          rw [HK8.out, if_neg (by omega)]
        obtain ⟨z, hz⟩ : ∃ z, V.getD (k8 - 1) 0 = z := ⟨_, rfl⟩
        rw [hz] at e2 hvb HLAST
        clear he hx hz
        go_wp2_with fail
        go_meet
        exact ⟨by rw [HLAST.out], rfl⟩
      · obtain rfl : k8 = 0 := by omega
        have HLAST : Hid ((0 : Int) = mo) := by
          unfold Hid
          rw [← HMO.out]
          unfold moreF
          rw [HK8.out, if_pos rfl]
        go_wp2_with fail
        go_meet
        exact ⟨by rw [← HLAST.out], rfl⟩
    case rest =>
    obtain ⟨rfl, rfl⟩ := hcut
    have c1 := (one_at HK12.out).1
    have hw2s := HB2.out.size
    have hBw2 : B ≤ wc.heap.size := Nat.le_trans HBB.out hw2s
    go_wp2_with fail
    go_loopw [9, 11, 12, 13, 41, 49] (fun s _ _ _ i _ wr => ∃ j : Nat, j ≤ m ∧ i = .int .i64 j ∧ Below wc.heap.size wc wr ∧ RowsO wc.heap.size B wr s ((M.take j).map (shF mo))) (fun _ _ _ _ i _ _ => m - (intOf i).toNat)
    case atStart => exact ⟨0, Nat.zero_le _, rfl, Below.refl _ _, RowsO.nil _ _ _⟩
    case round =>
      obtain ⟨j, hj, rfl, hb, hRr⟩ := hrel
      obtain ⟨wo, rfl⟩ : ∃ wo : World, wo = wr := ⟨_, rfl⟩
      have HBJ := Lib.hid hb
      have HRJ := Lib.hid hRr
      have hso := hb.size
      by_cases hjm : j < m
      · have hjM : j < M.length := by rw [HMN.out]; exact hjm
        obtain ⟨b, off, c', hve⟩ := HU2.out.form (by omega)
        rw [HMN.out] at hve
        obtain ⟨rfl, rfl⟩ : pu = some ⟨b, off, none⟩ ∧ cu = c' := by cases hve; exact ⟨rfl, rfl⟩
        obtain ⟨pj, cj, hcj, hij⟩ := cells_at (HU2.out.below hb (Nat.le_refl _)) j hjM
        have hmb := HMB.out _ (getL_mem hjM)
        have hlj := HL2.out _ (getL_mem hjM)
        have HST := Lib.hid (map_step (F := shF mo) hjM)
        obtain ⟨x, hx⟩ : ∃ x, M.getD j [] = x := ⟨_, rfl⟩
        rw [hx] at hcj hij hmb hlj HST
        have HXB := Lib.hid hmb.2
        have HCL := Lib.hid (clone_any x _ wo hij.at hmb.1 (by omega))
        unfold ClonePost at HCL
        obtain ⟨nx, hnx⟩ : ∃ nx, x.length = nx := ⟨_, rfl⟩
        have hnx1 : nx ≤ 100 := by omega
        have hkl : ((M.take j).map (shF mo)).length = j := by rw [List.length_map, List.length_take]; omega
        have HKL := Lib.hid hkl
        rw [hnx] at hcj HCL
        have HNX := Lib.hid hnx
        clear hve hij hjM hx hmb hlj hnx hb hRr hkl
        go_wp2_with fail
        refine HCL.out.mono ?_
        rintro e w3 ⟨g, cg, rfl, hb3, ho3⟩
        have HB3 := Lib.hid hb3
        have hs3 := hb3.size
        have hgo := (ho3.lt g rfl).1
        have HO3 := Lib.hid ho3
        clear hb3 ho3 hcj
        go_wp2_with fail
        go_loopw [13, 49] (fun _ i wr => ∃ q : Nat, q ≤ nx ∧ i = .int .i64 q ∧ Below wo.heap.size wo wr ∧ wr.ownsRow wo.heap.size 3 1 (.slice (some ⟨g, 0, none⟩) nx cg) nx (intVs (upTo mo x q))) (fun _ i _ => nx - (intOf i).toNat)
        case atStart => exact ⟨0, Nat.zero_le _, rfl, HB3.out, HO3.out⟩
        case round =>
          obtain ⟨q, hq, rfl, hb, ho⟩ := hrel
          have HBQ := Lib.hid hb
          have HOQ := Lib.hid ho
          have hsq := hb.size
          by_cases hqn : q < nx
          · have hqx : q < x.length := by rw [HNX.out]; exact hqn
            have hcq : wr.cell? ⟨g, q, none⟩ = some (.int .i64 (x.getD q 0)) := by rw [ho.cellAt q (by omega)]; exact upTo_at hqx
            have hfq : wr.frozen? ⟨g, q, none⟩ = false := ho.frozenAt q
            have hzb := HXB.out _ (getD_mem hqx)
            have HUS := Lib.hid (upTo_step (m := mo) hqx)
            obtain ⟨z, hz⟩ : ∃ z, x.getD q 0 = z := ⟨_, rfl⟩
            rw [hz] at hcq hzb HUS
            have hst := ho.stored q (.int .i64 (z + mo))
            have HS1 := Lib.hid hst.1
            have HS2 := Lib.hid (hb.grown hst.2 hsq (fun k e => by obtain rfl := Option.some.inj e; exact hgo))
            clear hz hst hqx hb ho
            go_wp2_with fail
            go_roundw
            case rel => exact ⟨q + 1, by omega, by go_num, HS2.out, by rw [← HUS.out]; exact HS1.out⟩
            case measure => simp [intOf]; omega
          · obtain rfl : nx = q := by omega
            have HSH : Hid (upTo mo x nx = shF mo x) := by unfold Hid; rw [← HNX.out]; exact upTo_all mo x
            have hIX := ints_owned (B := B) ho (by rw [upTo_len]; exact HNX.out.symm)
            rw [HSH.out] at hIX
            have HIX := Lib.hid hIX
            obtain ⟨hs, h1, h2, h3⟩ := HRJ.out.below hb (Nat.le_refl _)
            rw [HKL.out] at h1
            have H1 := Lib.hid h1
            have H2 := Lib.hid h2
            have H3 := Lib.hid h3
            have HBR := Lib.hid (HBJ.out.trans (hb.mono hso))
            have hwr : wc.heap.size ≤ wr.heap.size := Nat.le_trans hso hsq
            clear hIX h1 h2 h3 hb ho
            go_wp2_with (at_builtin; refine wpList_append_lies _ rfl (.tmp 60) (.tmp 62) 22 rfl wc.heap.size 26 i39 (.slice none 0 0) 1 24 Tryz.underlying22 hi39 hz0 hz1 hz2 rfl (by decide) _ j hs rfl (H1.out.alloc _) ⟨wr.heap.size, 0, none⟩ 1 1 [.slice (some ⟨g, 0, none⟩) nx cg] rfl rfl (World.news_of_block (cs := #[.slice (some ⟨g, 0, none⟩) nx cg]) (t := 26) (fr := (0, 0)) (heap_alloc_new wr _)) (by simp [Value.oneCell']) (by decide) (by unfold maxLen; omega) (by omega) (by simp; omega) (wr.heap.size + 1) (by simp) ?_; intro g2 c2 w9 hown2 hgr2 hat2 hlt2; have HO2 := Lib.hid hown2; have HG2 := Lib.hid hgr2; clear hown2 hgr2 hat2 hlt2)
            go_roundw
            case rel =>
              have hbA : Below wr.heap.size wr (wr.alloc (.cells #[.slice (some ⟨g, 0, none⟩) nx cg] 26)) := (Below.refl _ _).alloc (Nat.le_refl _) _
              refine ⟨j + 1, by omega, by go_num, (HBR.out.alloc hwr _).grown HG2.out (by simp; omega) (fun i hi => (H1.out.lt i hi).1), ?_⟩
              rw [HST.out]
              exact rowsO_push (w := wr.alloc (.cells #[.slice (some ⟨g, 0, none⟩) nx cg] 26)) (hs := hs) hBw2 (by rw [HKL.out]; exact H1.out.alloc _) H2.out (fun i hi => (H3.out i hi).below hbA (Nat.le_refl _)) (HIX.out.below hbA (Nat.le_refl _)) (by rw [HKL.out]; exact HO2.out) HG2.out
            case measure => simp [intOf]; omega
      · obtain rfl : m = j := by omega
        have hRf : (M.take m).map (shF mo) = R := by rw [← HMN.out, List.take_length]; exact HRR.out
        rw [hRf] at hRr
        obtain ⟨pr, cr, hre, -⟩ := id hRr.lists
        rw [HRL.out] at hre
        subst hre
        have HR4 := Lib.hid hRr.lists
        have HB4 := Lib.hid (HB2.out.trans (hb.mono hw2s))
        have hk0' := (hb.block _ (Array.getElem?_eq_some_iff.1 HK02.out).1).trans HK02.out
        have hk2' := (hb.block _ hltw2).trans HK22.out
        have HV4 := Lib.hid (HV2.out.below hb (Nat.le_refl _))
        have HK24 := Lib.hid hk2'
        have HK04 := Lib.hid hk0'
        have d0 := (one_at hk0').1
        obtain ⟨w5, hw5⟩ : ∃ w5, w5 = wo.alloc (.cells #[.slice pv n cv, .slice pr m cr] 22) := ⟨_, rfl⟩
        have hb5 : Below wo.heap.size wo w5 := by rw [hw5]; exact lit_below _ _
        have HB5 := Lib.hid (HB4.out.trans (hb5.mono HB4.out.size))
        have HK25 := Lib.hid ((hb5.block _ (Array.getElem?_eq_some_iff.1 hk2').1).trans hk2')
        have HK05 := Lib.hid ((hb5.block _ (Array.getElem?_eq_some_iff.1 hk0').1).trans hk0')
        have HV5 := Lib.hid (HV4.out.below hb5 (Nat.le_refl _))
        have HR5 := Lib.hid (HR4.out.below hb5 (Nat.le_refl _))
        have htab : TabIn B w5 (.slice (some ⟨wo.heap.size, 0, none⟩) 2 2) [L, R] := by rw [hw5]; exact two_tab HV4.out HR4.out
        have hfl : [L, R].flatten = L ++ R := by simp
        have HCT := Lib.hid (catR_any B [L, R] _ w5 (Nat.le_trans HBB.out HB5.out.size) htab (by show 2 ≤ 1000000; decide) (by rw [hfl, List.length_append, HLN.out, HRL.out]; omega))
        unfold ListPost at HCT
        rw [hfl] at HCT
        have HW5 := Lib.hid hw5
        clear hb hRr hRf hk0' hk2' hb5 hw5 htab hfl HBJ HRJ
        go_wp2_with fail
        rw [← HW5.out]
        refine HCT.out.mono ?_
        rintro e w6 ⟨v6, rfl, hb6, hr6⟩
        have hs6 := hb6.size
        have HB6 := Lib.hid (HB5.out.trans (hb6.mono HB5.out.size))
        have HK26 := Lib.hid ((hb6.block _ (Array.getElem?_eq_some_iff.1 HK25.out).1).trans HK25.out)
        have hk06 := (hb6.block _ (Array.getElem?_eq_some_iff.1 HK05.out).1).trans HK05.out
        have e0 := (one_at hk06).1
        have HV6 := Lib.hid (HV5.out.below hb6 (Nat.le_refl _))
        have HR6 := Lib.hid (HR5.out.below hb6 (Nat.le_refl _))
        have hlt26 := (Array.getElem?_eq_some_iff.1 HK26.out).1
        have hlt25 := (Array.getElem?_eq_some_iff.1 HK25.out).1
        have HRO6 : Hid (RowsO w5.heap.size B w6 v6 (jnRow L R 0)) := by unfold Hid jnRow; simpa using hr6
        have HBX6 := Lib.hid hb6
        have hB5 : B ≤ w5.heap.size := Nat.le_trans HBB.out HB5.out.size
        have HJL := Lib.hid (fun j q => jn_len (L := L) (R := R) (by rw [HLN.out]; exact hn300) (by rw [HRL.out]; exact hm300) j q)
        clear hb6 hr6 HCT HW5 d0 hk06
        go_wp2_with fail
        go_loopw [14, 16, 18, 73, 79] (fun s _ _ i _ wr => ∃ j : Nat, j ≤ n ∧ i = .int .i64 j ∧ Below w5.heap.size w5 wr ∧ RowsO w5.heap.size B wr s (jnRow L R j)) (fun _ _ _ i _ _ => n - (intOf i).toNat)
        case atStart => exact ⟨0, Nat.zero_le _, rfl, HBX6.out, HRO6.out⟩
        case round =>
          obtain ⟨j, hj, rfl, hb, hRr⟩ := hrel
          obtain ⟨wo, rfl⟩ : ∃ wo : World, wo = wr := ⟨_, rfl⟩
          have HBJ := Lib.hid hb
          have HRJ := Lib.hid hRr
          have hso := hb.size
          by_cases hjn : j < n
          · have hjL : j < L.length := by rw [HLN.out]; exact hjn
            obtain ⟨b, off, c', hve⟩ := HV5.out.form (by omega)
            rw [HLN.out] at hve
            obtain ⟨rfl, rfl⟩ : pv = some ⟨b, off, none⟩ ∧ cv = c' := by cases hve; exact ⟨rfl, rfl⟩
            obtain ⟨pf, cf, hcf5, hif5⟩ := cells_at HV5.out j hjL
            have hcf := (hb.cell (p := ⟨b, off + j, none⟩) (mem_lt hcf5)).trans hcf5
            have hlf := HL1.out _ (getL_mem hjL)
            have HSJ := Lib.hid (fun (q : Nat) (hq : q < R.length) => jn_step (L := L) (R := R) (j := j) hq)
            have HJE := Lib.hid (jn_end (R := R) hjL)
            obtain ⟨f, hf⟩ : ∃ f, L.getD j [] = f := ⟨_, rfl⟩
            rw [hf] at hcf hif5 hlf HSJ
            obtain ⟨nf, hnf⟩ : ∃ nf, f.length = nf := ⟨_, rfl⟩
            rw [hnf] at hcf hif5 hlf
            have HIF := Lib.hid hif5
            have HNF := Lib.hid hnf
            have HJ0 := Lib.hid (jn_zero L R j)
            clear hve hif5 hcf5 hjL hf hnf hb hRr
            go_wp2_with fail
            go_loopw [14, 18, 79] (fun s _ i wr => ∃ q : Nat, q ≤ m ∧ i = .int .i64 q ∧ Below w5.heap.size w5 wr ∧ RowsO w5.heap.size B wr s (jnTo L R j q)) (fun _ _ i _ => m - (intOf i).toNat)
            case atStart => exact ⟨0, Nat.zero_le _, rfl, HBJ.out, by rw [HJ0.out]; exact HRJ.out⟩
            case round =>
              obtain ⟨q, hq, rfl, hb, hRr⟩ := hrel
              have HBQ := Lib.hid hb
              have hsq := hb.size
              by_cases hqm : q < m
              · have hqR : q < R.length := by rw [HRL.out]; exact hqm
                obtain ⟨b2, off2, c2', hve⟩ := HR5.out.form (by rw [HRL.out]; omega)
                rw [HRL.out] at hve
                obtain ⟨rfl, rfl⟩ : pr = some ⟨b2, off2, none⟩ ∧ cr = c2' := by cases hve; exact ⟨rfl, rfl⟩
                obtain ⟨pg, cg, hcg, hig⟩ := cells_at (HR5.out.below hb (Nat.le_refl _)) q hqR
                have hlg := HRB.out _ (getL_mem hqR)
                have HST := Lib.hid (HSJ.out q hqR)
                obtain ⟨g, hg⟩ : ∃ g, R.getD q [] = g := ⟨_, rfl⟩
                rw [hg] at hcg hig hlg HST
                obtain ⟨ng, hng⟩ : ∃ ng, g.length = ng := ⟨_, rfl⟩
                rw [hng] at hcg hig hlg
                have HNG := Lib.hid hng
                have hifr := HIF.out.below hb (Nat.le_refl _)
                obtain ⟨w7, hw7⟩ : ∃ w7, w7 = wr.alloc (.cells #[.slice pf nf cf, .slice pg ng cg] 26) := ⟨_, rfl⟩
                have hb7 : Below wr.heap.size wr w7 := by rw [hw7]; exact lit_below _ _
                have htwo : ListsIn B w7 (.slice (some ⟨wr.heap.size, 0, none⟩) 2 2) [f, g] := by rw [hw7]; exact two_in hifr hig
                have hfl : [f, g].flatten = f ++ g := by simp
                have HCI := Lib.hid (catI_any B [f, g] _ w7 htwo (by show 2 ≤ 1000000; decide) (by rw [hfl, List.length_append, HNF.out, HNG.out]; omega))
                unfold CatP at HCI
                rw [hfl] at HCI
                obtain ⟨y, hy⟩ : ∃ y, f ++ g = y := ⟨_, rfl⟩
                rw [hy] at HCI HST
                obtain ⟨ny, hny⟩ : ∃ ny, y.length = ny := ⟨_, rfl⟩
                rw [hny] at HCI
                have HNY := Lib.hid hny
                have HB7 := Lib.hid (HBQ.out.trans (hb7.mono hsq))
                have hs7 := HB7.out.size
                have HW7 := Lib.hid hw7
                have HRQ := Lib.hid (hRr.below hb7 (Nat.le_refl _))
                clear hve hig hqR hg hng hb hRr hifr hw7 hb7 htwo hfl hy hny
                go_wp2_with fail
                rw [← HW7.out]
                refine HCI.out.mono ?_
                rintro e w8 ⟨py, cy, rfl, hb8, ho8⟩
                have hIY := ints_owned (B := B) ho8 HNY.out.symm
                obtain ⟨hs, h1, h2, h3⟩ := HRQ.out.below hb8 (Nat.le_refl _)
                obtain ⟨k, hk⟩ : ∃ k, (jnTo L R j q).length = k := ⟨_, rfl⟩
                have hkn : k ≤ 95000 := by rw [← hk]; exact HJL.out j q
                rw [hk] at h1
                have HK := Lib.hid hk
                have H1 := Lib.hid h1
                have H2 := Lib.hid h2
                have H3 := Lib.hid h3
                have HIY := Lib.hid hIY
                have HB8 := Lib.hid (HB7.out.trans (hb8.mono hs7))
                have hws := HB8.out.size
                clear hb8 ho8 hIY h1 h2 h3 hk HCI HW7 hcg
                go_wp2_with (at_builtin; refine wpList_append_lies _ rfl (.tmp 83) (.tmp 88) 22 rfl w5.heap.size 26 i39 (.slice none 0 0) 1 24 Tryz.underlying22 hi39 hz0 hz1 hz2 rfl (by decide) _ k hs rfl (H1.out.alloc _) ⟨w8.heap.size, 0, none⟩ 1 1 [.slice py ny cy] rfl rfl (World.news_of_block (cs := #[.slice py ny cy]) (t := 26) (fr := (0, 0)) (heap_alloc_new w8 _)) (by simp [Value.oneCell']) (by decide) (by unfold maxLen; omega) (by omega) (by simp; omega) (w8.heap.size + 1) (by simp) ?_; intro g2 c2 w9 hown2 hgr2 hat2 hlt2; have HO2 := Lib.hid hown2; have HG2 := Lib.hid hgr2; clear hown2 hgr2 hat2 hlt2)
                go_roundw
                case rel =>
                  have hbA : Below w8.heap.size w8 (w8.alloc (.cells #[.slice py ny cy] 26)) := (Below.refl _ _).alloc (Nat.le_refl _) _
                  refine ⟨q + 1, by omega, by go_num, (HB8.out.alloc hws _).grown HG2.out (by simp; omega) (fun i hi => (H1.out.lt i hi).1), ?_⟩
                  rw [HST.out]
                  exact rowsO_push (w := w8.alloc (.cells #[.slice py ny cy] 26)) (hs := hs) hB5 (by rw [HK.out]; exact H1.out.alloc _) H2.out (fun i hi => (H3.out i hi).below hbA (Nat.le_refl _)) (HIY.out.below hbA (Nat.le_refl _)) (by rw [HK.out]; exact HO2.out) HG2.out
                case measure => simp [intOf]; omega
              · obtain rfl : m = q := by omega
                have h := hRr
                rw [← HRL.out, HJE.out] at h
                have HRE := Lib.hid h
                clear h
                clear hb hRr
                go_wp2_with fail
                go_roundw
                case rel => exact ⟨j + 1, by omega, by go_num, HBQ.out, HRE.out⟩
                case measure => simp [intOf]; omega
          · obtain rfl : n = j := by omega
            rw [← HLN.out, HJP.out] at hRr
            have HB8 := Lib.hid (HB5.out.trans (hb.mono HB5.out.size))
            have HK28 := Lib.hid ((hb.block _ hlt25).trans HK25.out)
            have hlt8 := (Array.getElem?_eq_some_iff.1 HK28.out).1
            have HMK := Lib.hid (make_any a B (joinP L M) _ wo (HS.out.below HB8.out (Nat.le_refl _)) (Nat.le_trans HBB.out HB8.out.size) hRr.lists (by have h := HJL.out L.length 0; rw [jn_zero, HJP.out] at h; omega) (joinP_bd HL1.out HL2.out))
            unfold MakeC at HMK
            clear hb hRr
            go_wp2_with fail
            refine HMK.out.mono ?_
            rintro e w5' ⟨hb5, ⟨h0, u5, rfl, hR5⟩ | ⟨h0, k, hk, hek, rfl⟩⟩
            rotate_left
            · have HB5 := Lib.hid (HB8.out.trans (hb5.mono HB8.out.size))
              have hk5 := (hb5.block _ hlt8).trans HK28.out
              have d0 := (one_at hk5).1
              have f0 := (one_at hk5).2
              have R0 := Lib.hid (one_set (v := .slice none 0 0) hk5)
              have HBF := Lib.hid (show Below w.heap.size w (w5'.setCell ⟨w.heap.size + 1 + 1, 0, none⟩ (.slice none 0 0)) from HB5.out.setCell (by show w.heap.size ≤ w.heap.size + 1 + 1; omega) _)
              have HER : Hid (errG (errJ L M) (joinP L M) = k + 1) := by unfold Hid errG; rw [HEJ.out, if_pos rfl]; exact hek
              unfold errE
              clear hb5 hk5 hek h0
              go_wp2_with fail
              refine bodyPost_ret (v := .tuple #[.agg #[.slice none 0 0], .iface 225 (.pointer (some (a k)))]) (by simp [results, Tryz.results23, go_sem, R0.out]) rfl ?_
              exact ⟨HBF.out, Or.inr ⟨k, hk, HER.out, rfl⟩⟩
            have HER : Hid (errG (errJ L M) (joinP L M) = 0) := by unfold Hid errG; rw [HEJ.out, if_pos rfl]; exact h0
            clear h0 HMK
            obtain ⟨p5, c5, hu5, -⟩ := hR5.lists
            have hk5 := (hb5.block _ hlt8).trans HK28.out
            obtain ⟨s5, hs5⟩ : ∃ s5, (madeF (joinP L M)).length = s5 := ⟨_, rfl⟩
            rw [hs5] at hu5
            subst hu5
            have HS5 := Lib.hid hs5
            have HB5 := Lib.hid (HB8.out.trans (hb5.mono HB8.out.size))
            have d0 := (one_at hk5).1
            have f0 := (one_at hk5).2
            have R0 := Lib.hid (one_set (v := .slice p5 s5 c5) hk5)
            have HBF := Lib.hid (show Below w.heap.size w (w5'.setCell ⟨w.heap.size + 1 + 1, 0, none⟩ (.slice p5 s5 c5)) from HB5.out.setCell (by show w.heap.size ≤ w.heap.size + 1 + 1; omega) _)
            have HLF : Hid (RowsO w.heap.size B (w5'.setCell ⟨w.heap.size + 1 + 1, 0, none⟩ (.slice p5 s5 c5)) (.slice p5 s5 c5) (madeF (joinP L M))) := by
              have hro := hR5.grown (c := w.heap.size + 1 + 1) (grown_cell w5' (w.heap.size + 1 + 1) (.slice p5 s5 c5)) hlt8 (Nat.le_trans HBB.out (by omega)) (fun x e => by rw [hk5] at e; cases e)
              exact hro.le HB8.out.size
            clear hb5 hR5 hk5 hs5
            go_wp2_with fail
            refine bodyPost_ret (v := .tuple #[.agg #[.slice p5 s5 c5], .nilIface]) (by simp [results, Tryz.results23, go_sem, R0.out]) rfl ?_
            refine ⟨HBF.out, Or.inl ⟨HER.out, p5, c5, ?_, ?_⟩⟩
            · rw [HS5.out]
            · rw [HS5.out]; exact HLF.out

set_option maxRecDepth 100000 in
set_option maxHeartbeats 8000000 in
theorem verticesOf_any (B : Nat) (A : List (List Int)) (v : Value) (w : World) (hv : ListsIn B w v A) (hn : A.length ≤ 100000) (hl : ∀ l ∈ A, l.length ≤ 100000) :
    Calls Tryz.prog 39 #[v] w (NumsP B (vertR A) w) := by
  obtain ⟨i3, hi3, hy0, hy1, hy2⟩ := info_parts Tryz.info3
  obtain ⟨pv, cv, hve, -⟩ := id hv
  obtain ⟨n, hLn⟩ : ∃ n, A.length = n := ⟨_, rfl⟩
  rw [hLn] at hve hn
  subst hve
  have HLN := Lib.hid hLn
  have HV := Lib.hid hv
  have HL := Lib.hid hl
  clear hLn hv hl
  go_enter Tryz.func39, Tryz.ntmps39
  go_wp2_with fail
  go_loopw [3, 4] (fun s i wr => ∃ j : Nat, j ≤ n ∧ i = .int .i64 j ∧ Below w.heap.size w wr ∧ wr.ownsRow w.heap.size 3 1 s (vertR (A.take j)).length (intVs (vertR (A.take j)))) (fun _ i _ => n - (intOf i).toNat)
  case atStart => exact ⟨0, Nat.zero_le _, rfl, Below.refl _ _, World.ownsRow_nil _ _ _ _⟩
  case round =>
    obtain ⟨j, hj, rfl, hb, hO⟩ := hrel
    have HB := Lib.hid hb
    have hsw := hb.size
    by_cases hjn : j < n
    · have hjL : j < A.length := by rw [HLN.out]; exact hjn
      obtain ⟨b, off, c', hve⟩ := HV.out.form (by omega)
      rw [HLN.out] at hve
      obtain ⟨rfl, rfl⟩ : pv = some ⟨b, off, none⟩ ∧ cv = c' := by cases hve; exact ⟨rfl, rfl⟩
      obtain ⟨pj, cj, hcj, hij⟩ := cells_at (HV.out.below hb (Nat.le_refl _)) j hjL
      have hlj := HL.out _ (getL_mem hjL)
      have HST := Lib.hid (vertR_step hjL)
      obtain ⟨x, hx⟩ : ∃ x, A.getD j [] = x := ⟨_, rfl⟩
      rw [hx] at hcj hij hlj HST
      obtain ⟨nx, hnx⟩ : ∃ nx, x.length = nx := ⟨_, rfl⟩
      rw [hnx] at hcj hij hlj
      have HNX := Lib.hid hnx
      obtain ⟨k, hk⟩ : ∃ k, (vertR (A.take j)).length = k := ⟨_, rfl⟩
      rw [hk] at hO
      have hkn : k ≤ 100000 := by
        rw [← hk]
        have h1 := vertR_len (A.take j)
        rw [List.length_take] at h1
        omega
      have HK := Lib.hid hk
      have HO := Lib.hid hO
      by_cases h1 : nx = 1
      · have q1 : ((nx : Int) == 1) = true := beq_iff_eq.2 (by omega)
        have q2 : (nx == 1) = true := beq_iff_eq.2 h1
        obtain ⟨pp, cc, he, -, -, hxx⟩ := id hij
        obtain ⟨b2, off2, e1, e2, -⟩ := hxx 0 (by rw [HNX.out]; omega)
        obtain ⟨rfl, rfl⟩ : pj = pp ∧ cj = cc := by rw [HNX.out] at he; cases he; exact ⟨rfl, rfl⟩
        subst e1
        rw [Nat.add_zero] at e2
        obtain ⟨z, hz⟩ : ∃ z, x.getD 0 0 = z := ⟨_, rfl⟩
        rw [hz] at e2
        have HZ := Lib.hid hz
        have HN1 := Lib.hid h1
        have hpos : 0 < nx := by omega
        clear hve hij hjL hx hnx hb hO hk he hxx hz h1
        go_wp2_with (at_builtin; refine wpList_append_lies _ rfl (.tmp 17) (.tmp 24) 26 rfl w.heap.size 3 i3 (.int .i64 0) 1 8 Tryz.underlying26 hi3 hy0 hy1 hy2 rfl (by decide) _ k (intVs (vertR (A.take j))) rfl (HO.out.alloc _) ⟨wr.heap.size, 0, none⟩ 1 1 [.int .i64 z] rfl rfl (World.news_of_block (cs := #[.int .i64 z]) (t := 3) (fr := (0, 0)) (heap_alloc_new wr _)) (by simp [Value.oneCell']) (by decide) (by unfold maxLen; omega) (by omega) (by simp; omega) (wr.heap.size + 1) (by simp) ?_; intro g2 c2 w9 hown2 hgr2 hat2 hlt2; have HO2 := Lib.hid hown2; have HG2 := Lib.hid hgr2; clear hown2 hgr2 hat2 hlt2)
        go_roundw
        case rel =>
          refine ⟨j + 1, by omega, by go_num, (HB.out.alloc hsw _).grown HG2.out (by simp; omega) (fun i hi => (HO.out.lt i hi).1), ?_⟩
          rw [HST.out, if_pos (by rw [HNX.out]; exact HN1.out), HZ.out, List.length_append, intVs_snoc, HK.out]
          exact HO2.out
        case measure => simp [intOf]; omega
      · have q1 : ((nx : Int) == 1) = false := beq_eq_false_iff_ne.2 (by omega)
        have q2 : (nx == 1) = false := beq_eq_false_iff_ne.2 h1
        have HN1 := Lib.hid h1
        clear hve hij hjL hx hnx hb hO hk h1
        go_wp2_with fail
        go_roundw
        case rel =>
          refine ⟨j + 1, by omega, by go_num, HB.out, ?_⟩
          rw [HST.out, if_neg (by rw [HNX.out]; exact HN1.out), List.append_nil, HK.out]
          exact HO.out
        case measure => simp [intOf]; omega
    · obtain rfl : n = j := by omega
      have hT : A.take n = A := by rw [← HLN.out, List.take_length]
      rw [hT] at hO
      have hI := ints_owned (B := B) hO rfl
      obtain ⟨p3, c3, hv3⟩ := hI.len
      rw [hv3] at hI
      obtain ⟨s, hs⟩ : ∃ s, (vertR A).length = s := ⟨_, rfl⟩
      rw [hs] at hI hv3
      subst hv3
      have HI := Lib.hid hI
      have HSS := Lib.hid hs
      clear hb hO hI hs hT
      go_wp2_with fail
      go_ret
      refine ⟨p3, c3, ?_, HB.out, ?_⟩
      · rw [HSS.out]; rfl
      · rw [HSS.out]; exact HI.out

/-- what has been put together, by any way to put two together -/
def jcTo (cat : List Int → List Int → List Int) (L R : List (List Int)) (j q : Nat) : List (List Int) := (L ++ R) ++ ((L.take j).flatMap (fun f => R.map fun g => cat f g) ++ (R.take q).map fun g => cat (L.getD j []) g)
def jcRow (cat : List Int → List Int → List Int) (L R : List (List Int)) (j : Nat) : List (List Int) := (L ++ R) ++ (L.take j).flatMap (fun f => R.map fun g => cat f g)
section
variable (cat : List Int → List Int → List Int)
theorem jc_len {L R : List (List Int)} (h1 : L.length ≤ 300) (h2 : R.length ≤ 300) (j q : Nat) : (jcTo cat L R j q).length ≤ 95000 := by
  unfold jcTo
  rw [List.length_append, List.length_append, List.length_append, pairs_len, List.length_map, List.length_take, List.length_take]
  have h3 : min j L.length * R.length ≤ 300 * 300 := Nat.mul_le_mul (by omega) h2
  have h4 : min q R.length ≤ 300 := by omega
  omega
theorem jc_zero (L R : List (List Int)) (j : Nat) : jcTo cat L R j 0 = jcRow cat L R j := by unfold jcTo jcRow; simp
theorem jc_step {L R : List (List Int)} {j q : Nat} (h : q < R.length) : jcTo cat L R j (q + 1) = jcTo cat L R j q ++ [cat (L.getD j []) (R.getD q [])] := by
  unfold jcTo
  rw [map_step h, List.append_assoc, List.append_assoc, List.append_assoc, List.append_assoc]
theorem jc_end {L R : List (List Int)} {j : Nat} (h : j < L.length) : jcTo cat L R j R.length = jcRow cat L R (j + 1) := by
  unfold jcTo jcRow
  rw [pairs_step h, List.take_length]
theorem jc_all {L M : List (List Int)} {m : Int} : jcRow cat L (M.map (shF m)) L.length = joinF cat m L M := by unfold jcRow joinF; rw [List.take_length]
end
theorem shF_step {m : Int} {x : List Int} {q : Nat} (h : q < x.length) : shF m (x.take (q + 1)) = shF m (x.take q) ++ [x.getD q 0 + m] := by
  rw [take_snoc_getD 0 x q h]
  unfold shF
  rw [List.map_append]
  rfl

set_option maxRecDepth 100000 in
set_option maxHeartbeats 32000000 in
theorem joinOf_any (B : Nat) (L M : List (List Int)) (v u : Value) (w : World) (hB : B ≤ w.heap.size) (hv : ListsIn B w v L) (hu : ListsIn B w u M) (hn : L.length ≤ 300) (hl : ∀ l ∈ L, l.length ≤ 100) (hn2 : M.length ≤ 300) (hl2 : ∀ l ∈ M, l.length ≤ 100) (h99 : ∀ l ∈ L, ∀ x ∈ l, 0 ≤ x ∧ x ≤ 99) (h992 : ∀ l ∈ M, ∀ x ∈ l, 0 ≤ x ∧ x ≤ 99) :
    Calls Tryz.prog 46 #[v, u] w (ListPost B (joinR L M) w) := by
  obtain ⟨i3, hi3, hy0, hy1, hy2⟩ := info_parts Tryz.info3
  obtain ⟨i39, hi39, hz0, hz1, hz2⟩ := info_parts Tryz.info26
  obtain ⟨pv, cv, hve, -⟩ := id hv
  obtain ⟨n, hLn⟩ : ∃ n, L.length = n := ⟨_, rfl⟩
  rw [hLn] at hve hn
  subst hve
  obtain ⟨pu, cu, hue, -⟩ := id hu
  obtain ⟨m, hMn⟩ : ∃ m, M.length = m := ⟨_, rfl⟩
  rw [hMn] at hue hn2
  subst hue
  have HLN := Lib.hid hLn
  have HMN := Lib.hid hMn
  have HV := Lib.hid hv
  have HU := Lib.hid hu
  have HBB := Lib.hid hB
  have HL1 := Lib.hid hl
  have HL2 := Lib.hid hl2
  have HX2 := Lib.hid h992
  have HVT := Lib.hid (verticesOf_any B L (.slice pv n cv) w hv (by omega) (fun l h => Nat.le_trans (hl l h) (by decide)))
  unfold NumsP at HVT
  have HVB : Hid (∀ x ∈ vertR L, 0 ≤ x ∧ x ≤ 99) := fun x hx => h99 _ (mem_vertR.1 hx) x (List.mem_singleton.2 rfl)
  have hvl : (vertR L).length ≤ 300 := by have := vertR_len L; omega
  obtain ⟨mo, hmo⟩ : ∃ mo, moreF (vertR L) = mo := ⟨_, rfl⟩
  have hmo0 := moreF_bd HVB.out
  rw [hmo] at hmo0
  have HMO := Lib.hid hmo
  obtain ⟨R, hR⟩ : ∃ R, M.map (shF mo) = R := ⟨_, rfl⟩
  have HJP : Hid (jcRow togF L R L.length = joinR L M) := by unfold Hid joinR; rw [← hR, jc_all, hmo]
  have HRL : Hid (R.length = m) := by unfold Hid; rw [← hR, List.length_map]; exact hMn
  have HRR := Lib.hid hR
  have HRB : Hid (∀ l ∈ R, l.length ≤ 100) := fun l hl => by
    rw [← hR] at hl
    obtain ⟨f, hf, rfl⟩ := List.mem_map.1 hl
    rw [shF_len]; exact hl2 f hf
  clear hLn hMn hv hu hB hl hl2 h99 h992 hmo hR
  unfold ListPost
  go_enter Tryz.func46, Tryz.ntmps46
  go_wp2_with fail
  refine HVT.out.mono ?_
  rintro e w2 ⟨p8, c8, rfl, hb2, hi8⟩
  obtain ⟨V, hV⟩ : ∃ V, vertR L = V := ⟨_, rfl⟩
  rw [hV] at hi8 HMO HVB hvl ⊢
  obtain ⟨k8, hk8⟩ : ∃ k8, V.length = k8 := ⟨_, rfl⟩
  rw [hk8] at hi8 hvl ⊢
  have HK8 := Lib.hid hk8
  have HI8 := Lib.hid hi8
  have HB2 := Lib.hid hb2
  have HV2 := Lib.hid (HV.out.below hb2 (Nat.le_refl _))
  have HU2 := Lib.hid (HU.out.below hb2 (Nat.le_refl _))
  clear hb2 hi8 hV hk8 HVT
  go_upto_if 18 with fail
  go_cut [5] (fun s5 wx => s5 = .int .i64 mo ∧ wx = w2)
  case first =>
    by_cases hp : 0 < k8
    · obtain ⟨pp, cc, he, -, -, hx⟩ := id HI8.out
      obtain ⟨b, off, e1, e2, -⟩ := hx (k8 - 1) (by rw [HK8.out]; omega)
      obtain ⟨rfl, rfl⟩ : p8 = pp ∧ c8 = cc := by cases he; exact ⟨rfl, rfl⟩
      subst e1
      have hvb := HVB.out _ (getD_mem (l := V) (i := k8 - 1) (by rw [HK8.out]; omega))
      have HLAST : Hid (V.getD (k8 - 1) 0 + 1 = mo) := by
        unfold Hid
        rw [← HMO.out]
        unfold moreF
        rw [HK8.out, if_neg (by omega)]
      obtain ⟨z, hz⟩ : ∃ z, V.getD (k8 - 1) 0 = z := ⟨_, rfl⟩
      rw [hz] at e2 hvb HLAST
      clear he hx hz
      go_wp2_with fail
      go_meet
      exact ⟨by rw [HLAST.out], rfl⟩
    · obtain rfl : k8 = 0 := by omega
      have HLAST : Hid ((0 : Int) = mo) := by
        unfold Hid
        rw [← HMO.out]
        unfold moreF
        rw [HK8.out, if_pos rfl]
      go_wp2_with fail
      go_meet
      exact ⟨by rw [← HLAST.out], rfl⟩
  case rest =>
  obtain ⟨rfl, rfl⟩ := hcut
  have hw2s := HB2.out.size
  have hBw2 : B ≤ wc.heap.size := Nat.le_trans HBB.out hw2s
  go_wp2_with fail
  go_loopw [7, 8, 9, 10] (fun s i _ _ wr => ∃ j : Nat, j ≤ m ∧ i = .int .i64 j ∧ Below wc.heap.size wc wr ∧ RowsO wc.heap.size B wr s ((M.take j).map (shF mo))) (fun _ i _ _ _ => m - (intOf i).toNat)
  case atStart => exact ⟨0, Nat.zero_le _, rfl, Below.refl _ _, RowsO.nil _ _ _⟩
  case round =>
    obtain ⟨j, hj, rfl, hb, hRr⟩ := hrel
    obtain ⟨wo, rfl⟩ : ∃ wo : World, wo = wr := ⟨_, rfl⟩
    have HBJ := Lib.hid hb
    have HRJ := Lib.hid hRr
    have hso := hb.size
    by_cases hjm : j < m
    · have hjM : j < M.length := by rw [HMN.out]; exact hjm
      obtain ⟨b, off, c', hve⟩ := HU2.out.form (by omega)
      rw [HMN.out] at hve
      obtain ⟨rfl, rfl⟩ : pu = some ⟨b, off, none⟩ ∧ cu = c' := by cases hve; exact ⟨rfl, rfl⟩
      obtain ⟨pj, cj, hcj, hij⟩ := cells_at (HU2.out.below hb (Nat.le_refl _)) j hjM
      have hlj := HL2.out _ (getL_mem hjM)
      have HXB := Lib.hid (HX2.out _ (getL_mem hjM))
      have HST := Lib.hid (map_step (F := shF mo) hjM)
      obtain ⟨x, hx⟩ : ∃ x, M.getD j [] = x := ⟨_, rfl⟩
      rw [hx] at hcj hij hlj HST HXB
      obtain ⟨nx, hnx⟩ : ∃ nx, x.length = nx := ⟨_, rfl⟩
      have hnx1 : nx ≤ 100 := by omega
      have hkl : ((M.take j).map (shF mo)).length = j := by rw [List.length_map, List.length_take]; omega
      have HKL := Lib.hid hkl
      rw [hnx] at hcj hij
      have HNX := Lib.hid hnx
      have HIJ := Lib.hid hij
      have hltc := mem_lt hcj
      have HCJ := Lib.hid hcj
      clear hve hij hjM hx hlj hnx hb hRr hkl hcj
      go_wp2_with fail
      go_loopw [9, 10] (fun s i wr => ∃ q : Nat, q ≤ nx ∧ i = .int .i64 q ∧ Below wo.heap.size wo wr ∧ wr.ownsRow wo.heap.size 3 1 s q (intVs (shF mo (x.take q)))) (fun _ i _ => nx - (intOf i).toNat)
      case atStart => exact ⟨0, Nat.zero_le _, rfl, Below.refl _ _, World.ownsRow_nil _ _ _ _⟩
      case round =>
        obtain ⟨q, hq, rfl, hb, ho⟩ := hrel
        have HBQ := Lib.hid hb
        have HOQ := Lib.hid ho
        have hsq := hb.size
        have hcj := (hb.cell (p := ⟨b, off + j, none⟩) hltc).trans HCJ.out
        by_cases hqn : q < nx
        · have hqx : q < x.length := by rw [HNX.out]; exact hqn
          obtain ⟨pp, cc, he, -, -, hx⟩ := id (HIJ.out.below hb (Nat.le_refl _))
          obtain ⟨b2, off2, e1, e2, -⟩ := hx q hqx
          obtain ⟨rfl, rfl⟩ : pj = pp ∧ cj = cc := by rw [HNX.out] at he; cases he; exact ⟨rfl, rfl⟩
          subst e1
          have hzb := HXB.out _ (getD_mem hqx)
          have HUS := Lib.hid (shF_step (m := mo) hqx)
          obtain ⟨z, hz⟩ : ∃ z, x.getD q 0 = z := ⟨_, rfl⟩
          rw [hz] at e2 hzb HUS
          clear hz hqx hb ho he hx
          go_wp2_with (at_builtin; refine wpList_append_lies _ rfl (.tmp 41) (.tmp 51) 26 rfl wo.heap.size 3 i3 (.int .i64 0) 1 8 Tryz.underlying26 hi3 hy0 hy1 hy2 rfl (by decide) _ q (intVs (shF mo (x.take q))) rfl (HOQ.out.alloc _) ⟨wr.heap.size, 0, none⟩ 1 1 [.int .i64 (z + mo)] rfl rfl (World.news_of_block (cs := #[.int .i64 (z + mo)]) (t := 3) (fr := (0, 0)) (heap_alloc_new wr _)) (by simp [Value.oneCell']) (by decide) (by unfold maxLen; omega) (by omega) (by simp; omega) (wr.heap.size + 1) (by simp) ?_; intro g2 c2 w9 hown2 hgr2 hat2 hlt2; have HO2 := Lib.hid hown2; have HG2 := Lib.hid hgr2; clear hown2 hgr2 hat2 hlt2)
          go_roundw
          case rel =>
            refine ⟨q + 1, by omega, by go_num, (HBQ.out.alloc hsq _).grown HG2.out (by simp; omega) (fun i hi => (HOQ.out.lt i hi).1), ?_⟩
            rw [HUS.out, intVs_snoc]
            exact HO2.out
          case measure => simp [intOf]; omega
        · obtain rfl : nx = q := by omega
          have hT : x.take nx = x := by rw [← HNX.out, List.take_length]
          rw [hT] at ho
          have hIX := ints_owned (B := B) ho (by rw [shF_len]; exact HNX.out.symm)
          obtain ⟨p9, c9, hv9⟩ := hIX.len
          rw [shF_len, HNX.out] at hv9
          have HIX := Lib.hid hIX
          obtain ⟨hs, h1, h2, h3⟩ := HRJ.out.below hb (Nat.le_refl _)
          rw [HKL.out] at h1
          have H1 := Lib.hid h1
          have H2 := Lib.hid h2
          have H3 := Lib.hid h3
          have HBR := Lib.hid (HBJ.out.trans (hb.mono hso))
          have hwr : wc.heap.size ≤ wr.heap.size := Nat.le_trans hso hsq
          subst hv9
          clear hIX h1 h2 h3 hb ho hT
          go_wp2_with (at_builtin; refine wpList_append_lies _ rfl (.tmp 53) (.tmp 55) 22 rfl wc.heap.size 26 i39 (.slice none 0 0) 1 24 Tryz.underlying22 hi39 hz0 hz1 hz2 rfl (by decide) _ j hs rfl (H1.out.alloc _) ⟨wr.heap.size, 0, none⟩ 1 1 [.slice p9 nx c9] rfl rfl (World.news_of_block (cs := #[.slice p9 nx c9]) (t := 26) (fr := (0, 0)) (heap_alloc_new wr _)) (by simp [Value.oneCell']) (by decide) (by unfold maxLen; omega) (by omega) (by simp; omega) (wr.heap.size + 1) (by simp) ?_; intro g2 c2 w9 hown2 hgr2 hat2 hlt2; have HO2 := Lib.hid hown2; have HG2 := Lib.hid hgr2; clear hown2 hgr2 hat2 hlt2)
          go_roundw
          case rel =>
            have hbA : Below wr.heap.size wr (wr.alloc (.cells #[.slice p9 nx c9] 26)) := (Below.refl _ _).alloc (Nat.le_refl _) _
            refine ⟨j + 1, by omega, by go_num, (HBR.out.alloc hwr _).grown HG2.out (by simp; omega) (fun i hi => (H1.out.lt i hi).1), ?_⟩
            rw [HST.out]
            exact rowsO_push (w := wr.alloc (.cells #[.slice p9 nx c9] 26)) (hs := hs) hBw2 (by rw [HKL.out]; exact H1.out.alloc _) H2.out (fun i hi => (H3.out i hi).below hbA (Nat.le_refl _)) (HIX.out.below hbA (Nat.le_refl _)) (by rw [HKL.out]; exact HO2.out) HG2.out
          case measure => simp [intOf]; omega
    · obtain rfl : m = j := by omega
      have hRf : (M.take m).map (shF mo) = R := by rw [← HMN.out, List.take_length]; exact HRR.out
      rw [hRf] at hRr
      obtain ⟨pr, cr, hre, -⟩ := id hRr.lists
      rw [HRL.out] at hre
      subst hre
      have HB4 := Lib.hid (HB2.out.trans (hb.mono hw2s))
      have hs4 := HB4.out.size
      have hB5 : B ≤ wo.heap.size := Nat.le_trans HBB.out hs4
      have HV4 := Lib.hid (HV2.out.below hb (Nat.le_refl _))
      have HR4 := Lib.hid hRr.lists
      obtain ⟨newsL, d1, d2, d3, d4, d5, -⟩ := HV4.out.heads
      have D1 := Lib.hid d1
      have D2 := Lib.hid d2
      have D3 := Lib.hid d3
      have D4 := Lib.hid d4
      have D5 := Lib.hid d5
      clear hb hRr hRf HBJ HRJ d1 d2 d3 d4 d5
      go_upto_region 17 with (at_builtin; refine wpList_app_any wo rfl (.tmp 57) (.tmp 58) 22 rfl wo.heap.size 26 i39 (.slice none 0 0) 24 Tryz.underlying22 hi39 hz0 hz1 hz2 rfl (.slice none 0 0) 0 [] rfl (World.ownsRow_nil _ _ _ _) pv n cv newsL rfl D1.out D2.out D3.out D5.out (by unfold maxLen; omega) (by omega) (Nat.le_refl _) _ rfl ?_; intro p5 c5 w5 ho5 hg5 hat5; have HO5 := Lib.hid ho5; have HG5 := Lib.hid hg5; clear ho5 hg5 hat5)
      have ho5 := HO5.out
      simp only [Nat.zero_add, List.nil_append] at ho5
      have HO5' := Lib.hid ho5
      have HB45 := Lib.hid (below_none HG5.out)
      have hs5 := HB45.out.size
      have HR5 := Lib.hid (HR4.out.below HB45.out (Nat.le_refl _))
      have HRO5 : Hid (RowsO wo.heap.size B w5 (.slice p5 n c5) L) := by
        unfold Hid
        have h := rowsO_app (L := []) (hs := []) hB5 (World.ownsRow_nil wo wo.heap.size 26 1) rfl (fun i h => absurd h (by simp)) (by rw [D1.out, HLN.out]) D4.out (by rw [HLN.out]; exact HO5.out) HG5.out
        simpa using h
      obtain ⟨newsR, e1, e2, e3, e4, e5, -⟩ := HR5.out.heads
      have E1 := Lib.hid e1
      have E2 := Lib.hid e2
      have E3 := Lib.hid e3
      have E4 := Lib.hid e4
      have E5 := Lib.hid e5
      obtain ⟨hsL, k1, k2, k3⟩ := HRO5.out
      rw [HLN.out] at k1
      have K1 := Lib.hid k1
      have K2 := Lib.hid k2
      have K3 := Lib.hid k3
      clear ho5 HO5 e1 e2 e3 e4 e5 k1 k2 k3
      go_upto_region 18 with (at_builtin; refine wpList_app_any w5 rfl (.tmp 60) (.tmp 61) 22 rfl wo.heap.size 26 i39 (.slice none 0 0) 24 Tryz.underlying22 hi39 hz0 hz1 hz2 rfl (.slice p5 n c5) n hsL rfl K1.out pr m cr newsR rfl E1.out E2.out E3.out E5.out (by unfold maxLen; omega) (by omega) hs5 _ rfl ?_; intro p6 c6 w6 ho6 hg6 hat6; have HO6 := Lib.hid ho6; have HG6 := Lib.hid hg6; clear ho6 hg6 hat6)
      have HB46 := Lib.hid (HB45.out.grown HG6.out hs5 (fun k e => (K1.out.lt k e).1))
      have hs6 := HB46.out.size
      have HRO6 : Hid (RowsO wo.heap.size B w6 (.slice p6 (n + m) c6) (jcRow togF L R 0)) := by
        have h := rowsO_app hB5 (by rw [HLN.out]; exact K1.out) K2.out K3.out (by rw [E1.out, HRL.out]) E4.out (by rw [HLN.out, HRL.out]; exact HO6.out) HG6.out
        unfold Hid jcRow
        simpa using h
      have HJL := Lib.hid (fun j q => jc_len togF (L := L) (R := R) (by rw [HLN.out]; exact hn) (by rw [HRL.out]; exact hn2) j q)
      clear HO5' HO6 HG5 HG6
      go_wp2_with fail
      go_loopw [11, 12, 13] (fun s i _ wr => ∃ j : Nat, j ≤ n ∧ i = .int .i64 j ∧ Below wo.heap.size wo wr ∧ RowsO wo.heap.size B wr s (jcRow togF L R j)) (fun _ i _ _ => n - (intOf i).toNat)
      case atStart => exact ⟨0, Nat.zero_le _, rfl, HB46.out, HRO6.out⟩
      case round =>
        obtain ⟨j, hj, rfl, hb, hRr⟩ := hrel
        obtain ⟨wp, rfl⟩ : ∃ wp : World, wp = wr := ⟨_, rfl⟩
        have HBJ := Lib.hid hb
        have HRJ := Lib.hid hRr
        have hso := hb.size
        by_cases hjn : j < n
        · have hjL : j < L.length := by rw [HLN.out]; exact hjn
          obtain ⟨b, off, c', hve⟩ := HV4.out.form (by omega)
          rw [HLN.out] at hve
          obtain ⟨rfl, rfl⟩ : pv = some ⟨b, off, none⟩ ∧ cv = c' := by cases hve; exact ⟨rfl, rfl⟩
          obtain ⟨pf, cf, hcf5, hif5⟩ := cells_at HV4.out j hjL
          have hlf := HL1.out _ (getL_mem hjL)
          have HSJ := Lib.hid (fun (q : Nat) (hq : q < R.length) => jc_step togF (L := L) (R := R) (j := j) hq)
          have HJE := Lib.hid (jc_end togF (R := R) hjL)
          obtain ⟨f, hf⟩ : ∃ f, L.getD j [] = f := ⟨_, rfl⟩
          rw [hf] at hcf5 hif5 hlf HSJ
          obtain ⟨nf, hnf⟩ : ∃ nf, f.length = nf := ⟨_, rfl⟩
          rw [hnf] at hcf5 hif5 hlf
          have HIF := Lib.hid hif5
          have HCF := Lib.hid hcf5
          have HNF := Lib.hid hnf
          have HJ0 := Lib.hid (jc_zero togF L R j)
          have hltf := mem_lt hcf5
          clear hve hif5 hcf5 hjL hf hnf hb hRr
          go_wp2_with fail
          go_loopw [11, 13] (fun s i wr => ∃ q : Nat, q ≤ m ∧ i = .int .i64 q ∧ Below wo.heap.size wo wr ∧ RowsO wo.heap.size B wr s (jcTo togF L R j q)) (fun _ i _ => m - (intOf i).toNat)
          case atStart => exact ⟨0, Nat.zero_le _, rfl, HBJ.out, by rw [HJ0.out]; exact HRJ.out⟩
          case round =>
            obtain ⟨q, hq, rfl, hb, hRr⟩ := hrel
            have HBQ := Lib.hid hb
            have hsq := hb.size
            by_cases hqm : q < m
            · have hqR : q < R.length := by rw [HRL.out]; exact hqm
              obtain ⟨b2, off2, c2', hve⟩ := HR4.out.form (by rw [HRL.out]; omega)
              rw [HRL.out] at hve
              obtain ⟨rfl, rfl⟩ : pr = some ⟨b2, off2, none⟩ ∧ cr = c2' := by cases hve; exact ⟨rfl, rfl⟩
              obtain ⟨pg, cg, hcg4, hig4⟩ := cells_at HR4.out q hqR
              have hlg := HRB.out _ (getL_mem hqR)
              have HST := Lib.hid (HSJ.out q hqR)
              obtain ⟨g, hg⟩ : ∃ g, R.getD q [] = g := ⟨_, rfl⟩
              rw [hg] at hcg4 hig4 hlg HST
              obtain ⟨ng, hng⟩ : ∃ ng, g.length = ng := ⟨_, rfl⟩
              rw [hng] at hcg4 hig4 hlg
              have HNG := Lib.hid hng
              have hbd : Below wo.heap.size wo wr.drew := hb.drew
              have hcf : wr.drew.cell? ⟨b, off + j, none⟩ = _ := (hbd.cell (p := ⟨b, off + j, none⟩) hltf).trans HCF.out
              have hcg : wr.drew.cell? ⟨b2, off2 + q, none⟩ = _ := (hbd.cell (p := ⟨b2, off2 + q, none⟩) (mem_lt hcg4)).trans hcg4
              have HTG := Lib.hid (together_any B f g (.slice pf nf cf) (.slice pg ng cg) wr.drew (HIF.out.below hbd (Nat.le_refl _)).at (hig4.below hbd (Nat.le_refl _)).at (by rw [HNF.out]; omega) (by rw [HNG.out]; omega))
              unfold NumsP at HTG
              have htl := tog_len f g
              rw [HNF.out, HNG.out] at htl
              obtain ⟨y, hy⟩ : ∃ y, togF f g = y := ⟨_, rfl⟩
              rw [hy] at HTG HST htl
              obtain ⟨ny, hny⟩ : ∃ ny, y.length = ny := ⟨_, rfl⟩
              rw [hny] at HTG htl
              have HNY := Lib.hid hny
              have HBD := Lib.hid hbd
              have hsd : wo.heap.size ≤ wr.drew.heap.size := hsq
              have HRD := Lib.hid (hRr.below (w' := wr.drew) ((Below.refl _ _).drew) (Nat.le_refl _))
              obtain ⟨k, hk⟩ : ∃ k, (jcTo togF L R j q).length = k := ⟨_, rfl⟩
              have hkn : k ≤ 95000 := by rw [← hk]; exact HJL.out j q
              have HK := Lib.hid hk
              clear hve hig4 hcg4 hqR hg hng hb hRr hbd hy hny hk
              go_wp2_with fail
              go_region_law (first
                | (go_simp
                   go_at_call 29
                   refine HTG.out.mono ?_
                   rintro e w8 ⟨py, cy, rfl, hb8, hi8⟩
                   have hro8 := HRD.out.below hb8 (Nat.le_refl _)
                   have HIY := Lib.hid hi8
                   have HB8 := Lib.hid (HBD.out.trans (hb8.mono hsd))
                   have hws : wo.heap.size ≤ w8.heap.size := HB8.out.size
                   obtain ⟨hs, h1o, h2, h3⟩ := hro8
                   have h1 := h1o
                   rw [HK.out] at h1)
                | (refine step_append_lies _ (by rfl) (.tmp 75) (.tmp 85) 22 (by rfl) wo.heap.size 26 i39 (.slice none 0 0) 1 24 Tryz.underlying22 hi39 hz0 hz1 hz2 rfl (by decide) _ k hs (by rfl) (h1.alloc _) ⟨w8.heap.size, 0, none⟩ 1 1 [.slice py ny cy] (by rfl) (by rfl) (World.news_of_block (cs := #[.slice py ny cy]) (t := 26) (fr := (0, 0)) (heap_alloc_new w8 _)) (by simp [Value.oneCell']) (by decide) (by unfold maxLen; omega) (by omega) (by simp; omega) (w8.heap.size + 1) (by simp) ?_
                   intro g2 c2 w9 hown2 hgr2 hat2 hlt2
                   have HO2 := Lib.hid hown2
                   have HG2 := Lib.hid hgr2
                   have H1 := Lib.hid h1
                   have H2 := Lib.hid h2
                   have H3 := Lib.hid h3
                   clear hown2 hgr2 hat2 hlt2 h1o h1 h2 h3))
              all_goals
                go_wp2
                go_roundw
                case rel =>
                  have hbA : Below w8.heap.size w8 (w8.alloc (.cells #[.slice py ny cy] 26)) := (Below.refl _ _).alloc (Nat.le_refl _) _
                  refine ⟨q + 1, by omega, by go_num, (HB8.out.alloc hws _).grown HG2.out (by simp; omega) (fun i hi => (H1.out.lt i hi).1), ?_⟩
                  rw [HST.out]
                  exact rowsO_push (w := w8.alloc (.cells #[.slice py ny cy] 26)) (hs := hs) hB5 (by rw [HK.out]; exact H1.out.alloc _) H2.out (fun i hi => (H3.out i hi).below hbA (Nat.le_refl _)) (HIY.out.below hbA (Nat.le_refl _)) (by rw [HK.out]; exact HO2.out) HG2.out
                case measure => simp [intOf]; omega
            · obtain rfl : m = q := by omega
              have h := hRr
              rw [← HRL.out, HJE.out] at h
              have HRE := Lib.hid h
              clear hb hRr h
              go_wp2_with fail
              go_roundw
              case rel => exact ⟨j + 1, by omega, by go_num, HBQ.out, HRE.out⟩
              case measure => simp [intOf]; omega
        · obtain rfl : n = j := by omega
          have h := hRr
          rw [← HLN.out, HJP.out] at h
          have HBF := Lib.hid (HB4.out.trans (hb.mono hs4))
          have HRF := Lib.hid (h.le hs4)
          clear hb hRr h
          go_wp2_with fail
          go_ret
          exact ⟨_, rfl, HBF.out, HRF.out⟩
end Go.Proofs.YtipblphfjejpbaaGreatDoor
