/-
  Boundaries of faces (plain): the sign of a part, the matrix, and that a boundary has none.
-/
import Derived.Test.YtipblphfjejpbaaGreatDoorFacB
namespace Go.Proofs.YtipblphfjejpbaaGreatDoor
open Go Go.RowKit Go.Maps

def sg (i : Nat) : Int := if i % 2 = 0 then 1 else -1
theorem sg_succ (i : Nat) : sg (i + 1) = -sg i := by
  unfold sg
  by_cases h : i % 2 = 0
  · rw [if_pos h, if_neg (by omega)]
  · rw [if_neg h, if_pos (by omega)]; rfl
theorem sg_bd (i : Nat) : sg i = 1 ∨ sg i = -1 := by unfold sg; split <;> simp

/-- the sign of a part of a face: of the first vertex that it lacks -/
def signFrom (g : List Int) : List Int → Nat → Int
  | [], _ => 0
  | x :: r, i => if x ∈ g then signFrom g r (i + 1) else sg i
def signF (f g : List Int) : Int := signFrom g f 0
def entryF (g f : List Int) : Int := if g.length + 1 = f.length ∧ partB g f = true then signF f g else 0

theorem eraseIdx_mem {f : List Int} (hr : Rise f) {i : Nat} (hi : i < f.length) : f.getD i 0 ∉ f.eraseIdx i := by
  intro h
  have hn : f.Nodup := hr.imp fun h => by omega
  rw [List.mem_eraseIdx_iff_getElem?] at h
  obtain ⟨j, hj, e⟩ := h
  rw [List.getD_eq_getElem?_getD, List.getElem?_eq_getElem hi] at e
  have hjl := (List.getElem?_eq_some_iff.1 e).1
  rw [List.getElem?_eq_getElem hjl] at e
  exact hj ((List.getElem_inj hn).1 (Option.some.inj e))
theorem signFrom_erase : ∀ {f g : List Int} {i k : Nat}, i < f.length → (∀ j, j < i → f.getD j 0 ∈ g) → f.getD i 0 ∉ g → signFrom g f k = sg (k + i)
  | [], _, _, _, h, _, _ => absurd h (by simp)
  | x :: r, g, 0, k, _, _, h => by
    have h' : x ∉ g := by simpa using h
    unfold signFrom
    rw [if_neg h']; rfl
  | x :: r, g, i + 1, k, hi, hb, h => by
    have h0 : x ∈ g := by simpa using hb 0 (by omega)
    unfold signFrom
    rw [if_pos h0, signFrom_erase (i := i) (by simpa using hi) (fun j hj => by simpa using hb (j + 1) (by omega)) (by simpa using h)]
    congr 1; omega
theorem mem_erase_other {f : List Int} {i j : Nat} (hj : j < f.length) (hij : j ≠ i) : f.getD j 0 ∈ f.eraseIdx i := by
  rw [List.mem_eraseIdx_iff_getElem?]
  exact ⟨j, hij, by rw [List.getD_eq_getElem?_getD, List.getElem?_eq_getElem hj]; rfl⟩
theorem part_sub (f : List Int) (i : Nat) : partB (f.eraseIdx i) f = true := by
  unfold partB
  rw [List.all_eq_true]
  intro x hx
  simpa using (List.eraseIdx_sublist f i).subset hx
theorem entry_erase {f : List Int} (hr : Rise f) {i : Nat} (hi : i < f.length) : entryF (f.eraseIdx i) f = sg i := by
  unfold entryF
  rw [if_pos ⟨by rw [List.length_eraseIdx, if_pos hi]; omega, part_sub f i⟩]
  unfold signF
  rw [signFrom_erase hi (fun j hj => mem_erase_other (by omega) (by omega)) (eraseIdx_mem hr hi), Nat.zero_add]
/-- a part with one vertex less is a face without one -/
theorem part_erase {f g : List Int} (hf : Rise f) (hg : Rise g) (hl : g.length + 1 = f.length) (hp : partB g f = true) : ∃ i, i < f.length ∧ g = f.eraseIdx i := by
  have hs : g.Sublist f := sub_of_rise hg hf fun x hx => by
    have := List.all_eq_true.1 hp x hx
    simpa using this
  obtain ⟨i, hi, h⟩ := sub_erase hs (by omega)
  exact ⟨i, hi, h.eq_of_length (by rw [List.length_eraseIdx, if_pos hi]; omega)⟩
theorem entry_none {f g : List Int} (hf : Rise f) (hg : Rise g) (h : ∀ i, i < f.length → g ≠ f.eraseIdx i) : entryF g f = 0 := by
  unfold entryF
  by_cases hc : g.length + 1 = f.length ∧ partB g f = true
  · obtain ⟨i, hi, e⟩ := part_erase hf hg hc.1 hc.2
    exact absurd e (h i hi)
  · exact if_neg hc
theorem erase_inj {f : List Int} (hf : Rise f) {i j : Nat} (hi : i < f.length) (hj : j < f.length) (h : f.eraseIdx i = f.eraseIdx j) : i = j := by
  apply Classical.byContradiction
  intro hne
  exact eraseIdx_mem hf hi (h ▸ mem_erase_other hi hne)

/-! sums -/
def sumTo (F : Nat → Int) : Nat → Int
  | 0 => 0
  | n + 1 => sumTo F n + F n
theorem sumTo_ext {F G : Nat → Int} : ∀ {n : Nat}, (∀ i, i < n → F i = G i) → sumTo F n = sumTo G n
  | 0, _ => rfl
  | n + 1, h => by
    show sumTo F n + F n = sumTo G n + G n
    rw [sumTo_ext (fun i hi => h i (by omega)), h n (by omega)]
theorem sumTo_add (F G : Nat → Int) : ∀ n, sumTo (fun i => F i + G i) n = sumTo F n + sumTo G n
  | 0 => rfl
  | n + 1 => by
    show sumTo (fun i => F i + G i) n + (F n + G n) = (sumTo F n + F n) + (sumTo G n + G n)
    rw [sumTo_add F G n]; omega
theorem sumTo_zero {F : Nat → Int} : ∀ {n : Nat}, (∀ i, i < n → F i = 0) → sumTo F n = 0
  | 0, _ => rfl
  | n + 1, h => by
    show sumTo F n + F n = 0
    rw [sumTo_zero (fun i hi => h i (by omega)), h n (by omega)]; rfl
theorem sumTo_mul (c : Int) (F : Nat → Int) : ∀ n, sumTo (fun i => c * F i) n = c * sumTo F n
  | 0 => by simp [sumTo]
  | n + 1 => by
    show sumTo (fun i => c * F i) n + c * F n = c * (sumTo F n + F n)
    rw [sumTo_mul c F n, Int.mul_add]
/-- one term alone -/
theorem sumTo_one {F : Nat → Int} {j : Nat} : ∀ {n : Nat}, j < n → (∀ i, i < n → i ≠ j → F i = 0) → sumTo F n = F j
  | 0, h, _ => absurd h (by omega)
  | n + 1, h, hz => by
    show sumTo F n + F n = F j
    by_cases e : j = n
    · subst e
      rw [sumTo_zero fun i hi => hz i (by omega) (by omega)]; omega
    · rw [sumTo_one (n := n) (by omega) (fun i hi => hz i (by omega)), hz n (by omega) (by omega)]; omega
/-- two orders of leaving two out, with opposite signs -/
theorem sum_pairs (F : Nat → Nat → Int) : ∀ n, (∀ i j, i ≤ j → j + 1 < n → F i j = F (j + 1) i) → sumTo (fun i => sumTo (fun j => sg i * sg j * F i j) (n - 1)) n = 0
  | 0, _ => rfl
  | 1, _ => rfl
  | n + 2, h => by
    have ih := sum_pairs F (n + 1) fun i j h1 h2 => h i j h1 (by omega)
    show sumTo (fun i => sumTo (fun j => sg i * sg j * F i j) (n + 1)) (n + 1) + sumTo (fun j => sg (n + 1) * sg j * F (n + 1) j) (n + 1) = 0
    have e1 : sumTo (fun i => sumTo (fun j => sg i * sg j * F i j) (n + 1)) (n + 1) = sumTo (fun i => sumTo (fun j => sg i * sg j * F i j) n) (n + 1) + sumTo (fun i => sg i * sg n * F i n) (n + 1) := by
      rw [← sumTo_add]
      rfl
    have ih' : sumTo (fun i => sumTo (fun j => sg i * sg j * F i j) n) (n + 1) = 0 := ih
    rw [e1, ih', Int.zero_add, ← sumTo_add]
    refine sumTo_zero fun i hi => ?_
    rw [h i n (by omega) (by omega), sg_succ, ← Int.add_mul]
    have e2 : sg i * sg n + -sg n * sg i = 0 := by rw [Int.neg_mul, Int.mul_comm (sg n)]; omega
    rw [e2, Int.zero_mul]

theorem erase_erase {f : List Int} {i j : Nat} (hij : i ≤ j) : (f.eraseIdx i).eraseIdx j = (f.eraseIdx (j + 1)).eraseIdx i := by
  apply List.ext_getElem?
  intro k
  simp only [List.getElem?_eraseIdx]
  by_cases h1 : k < i
  · rw [if_pos (show k < j by omega), if_pos h1, if_pos h1, if_pos (by omega)]
  · by_cases h2 : k < j
    · rw [if_pos h2, if_neg h1, if_neg h1, if_pos (by omega)]
    · rw [if_neg h2, if_neg (show ¬ k + 1 < i by omega), if_neg h1, if_neg (show ¬ k + 1 < j + 1 by omega)]

/-- the sum over some faces of what two boundaries give -/
def prodF (rows : List (List Int)) (q f : List Int) : Int := (rows.map fun r => entryF q r * entryF r f).sum
theorem sum_sub_one {rows : List (List Int)} (hn : rows.Nodup) {r : List Int} (G : List Int → Int) (hr : r ∈ rows) : ((rows.map fun x => if x = r then G x else 0).sum) = G r := by
  induction rows with
  | nil => cases hr
  | cons x l ih =>
    rw [List.map_cons, List.sum_cons]
    rw [List.nodup_cons] at hn
    rcases List.mem_cons.1 hr with rfl | h
    · rw [if_pos rfl]
      have : (l.map fun x => if x = r then G x else 0).sum = 0 := by
        have hz : ∀ (l : List (List Int)), r ∉ l → (l.map fun x => if x = r then G x else 0).sum = 0 := fun l => by
          induction l with
          | nil => intro _; rfl
          | cons y l ih2 =>
            intro h
            rw [List.map_cons, List.sum_cons, if_neg (show ¬ y = r from fun e => h (e ▸ List.mem_cons_self ..)), ih2 (fun h2 => h (List.mem_cons_of_mem _ h2))]; rfl
        exact hz l hn.1
      rw [this]; omega
    · rw [if_neg (show ¬ x = r from fun e => hn.1 (e ▸ h)), ih hn.2 h]; omega
theorem sum_zero {α : Type} (l : List α) : (l.map fun _ => (0 : Int)).sum = 0 := by induction l with
  | nil => rfl
  | cons x l ih => rw [List.map_cons, List.sum_cons, ih]; rfl
theorem sum_addF {α : Type} (l : List α) (F G : α → Int) : (l.map fun x => F x + G x).sum = (l.map F).sum + (l.map G).sum := by induction l with
  | nil => rfl
  | cons x l ih => rw [List.map_cons, List.sum_cons, List.map_cons, List.sum_cons, List.map_cons, List.sum_cons, ih]; omega
theorem sum_swap {rows : List (List Int)} (hn : rows.Nodup) (f : List Int) (G : List Int → Int) : ∀ n, (∀ i, i < n → f.eraseIdx i ∈ rows) → (rows.map fun r => sumTo (fun i => if r = f.eraseIdx i then G r else 0) n).sum = sumTo (fun i => G (f.eraseIdx i)) n
  | 0, _ => sum_zero rows
  | n + 1, h => by
    show (rows.map fun r => sumTo (fun i => if r = f.eraseIdx i then G r else 0) n + (if r = f.eraseIdx n then G r else 0)).sum = _
    rw [sum_addF, sum_swap hn f G n (fun i hi => h i (by omega)), sum_sub_one hn G (h n (by omega))]
    rfl
theorem if_sum {f : List Int} (hf : Rise f) {r : List Int} (hr : Rise r) (c : Int) : c * entryF r f = sumTo (fun i => if r = f.eraseIdx i then c * entryF r f else 0) f.length := by
  by_cases h : ∃ i, i < f.length ∧ r = f.eraseIdx i
  · obtain ⟨i, hi, e⟩ := h
    rw [sumTo_one hi (fun j hj hne => if_neg (show ¬ r = f.eraseIdx j from fun e2 => hne (erase_inj hf hj hi (e2.symm.trans e))))]
    exact (if_pos e).symm
  · rw [entry_none hf hr fun i hi e => h ⟨i, hi, e⟩, Int.mul_zero]
    exact (sumTo_zero fun _ _ => by split <;> rfl).symm
/-- A BOUNDARY HAS NONE -/
theorem bb_zero {rows : List (List Int)} (hn : rows.Nodup) (hr : ∀ r ∈ rows, Rise r) {q f : List Int} (hf : Rise f) (hq : Rise q) (h2 : 2 ≤ f.length) (hin : ∀ i, i < f.length → f.eraseIdx i ∈ rows) : prodF rows q f = 0 := by
  have e1 : prodF rows q f = (rows.map fun r => sumTo (fun i => if r = f.eraseIdx i then entryF q r * entryF r f else 0) f.length).sum := by
    unfold prodF
    congr 1
    exact List.map_congr_left fun r h => if_sum hf (hr r h) _
  rw [e1, sum_swap hn f (fun r => entryF q r * entryF r f) f.length hin]
  have e2 : sumTo (fun i => entryF q (f.eraseIdx i) * entryF (f.eraseIdx i) f) f.length = sumTo (fun i => sumTo (fun j => sg i * sg j * (if q = (f.eraseIdx i).eraseIdx j then 1 else 0)) (f.length - 1)) f.length := by
    refine sumTo_ext fun i hi => ?_
    have hre : Rise (f.eraseIdx i) := hf.sublist (List.eraseIdx_sublist _ _)
    have hle : (f.eraseIdx i).length = f.length - 1 := by rw [List.length_eraseIdx, if_pos hi]
    rw [entry_erase hf hi]
    by_cases h : ∃ j, j < (f.eraseIdx i).length ∧ q = (f.eraseIdx i).eraseIdx j
    · obtain ⟨j, hj, e⟩ := h
      rw [sumTo_one (j := j) (by omega) (fun k hk hne => by rw [if_neg (show ¬ q = (f.eraseIdx i).eraseIdx k from fun e2 => hne (erase_inj hre (by omega) hj (e2.symm.trans e))), Int.mul_zero]), if_pos e, e, entry_erase hre hj, Int.mul_one, Int.mul_comm]
    · rw [entry_none hre hq fun j hj e => h ⟨j, hj, e⟩, Int.zero_mul]
      exact (sumTo_zero fun j hj => by rw [if_neg (show ¬ q = (f.eraseIdx i).eraseIdx j from fun e => h ⟨j, by omega, e⟩), Int.mul_zero]).symm
  rw [e2]
  refine sum_pairs (fun i j => if q = (f.eraseIdx i).eraseIdx j then 1 else 0) f.length fun i j hij hj => ?_
  show (if q = (f.eraseIdx i).eraseIdx j then (1 : Int) else 0) = if q = (f.eraseIdx (j + 1)).eraseIdx i then 1 else 0
  rw [erase_erase hij]
end Go.Proofs.YtipblphfjejpbaaGreatDoor
