/-
  Stars, links, skeletons (plain): what sets give the same complex.
-/
import Derived.Test.YtddnjimpdidpaaaGreatDoorFacB
set_option linter.unusedVariables false
namespace Go.Proofs.YtddnjimpdidpaaaGreatDoor
open Go Go.RowKit Go.Maps

/-- two lists of sets that close to the same faces -/
theorem allF_congr {L M : List (List Int)} (h : ∀ g, IsF L g ↔ IsF M g) : allF L = allF M := (allF_sorted L).ext (allF_sorted M) fun g => mem_allF.trans ((h g).trans mem_allF.symm)
theorem made_congr {L M : List (List Int)} (h : ∀ g, IsF L g ↔ IsF M g) : madeF L = madeF M := by unfold madeF; rw [allF_congr h]
/-- sets that are faces of a right complex are right themselves -/
theorem errC_sub {L M : List (List Int)} (h : errC L = 0) (hM : ∀ g ∈ M, IsF L g) : errC M = 0 := by
  obtain ⟨h1, h2, h3⟩ := errC_ok h
  have hs : ∀ g ∈ M, sortI g = g := fun g hg => sortI_rise (isF_rise h1 (hM g hg))
  refine errC_0 (fun g hg => ⟨(hM g hg).1, (isF_rise h1 (hM g hg)).imp (fun h => by omega), isF_bd h1 (hM g hg)⟩) (fun g hg => isF_len h2 (hM g hg)) ?_
  refine Nat.le_trans (len_le_of_members (allF_sorted M).nodup (allF_sorted L).nodup fun g hg => ?_) h3
  obtain ⟨hne, l, hl, hsub⟩ := mem_allF.1 hg
  rw [hs l hl] at hsub
  exact mem_allF.2 (isF_sub (hM l hl) hsub hne)
/-- the faces of sets that rise -/
theorem isF_of_rise {M : List (List Int)} (h : ∀ g ∈ M, Rise g) (g : List Int) : IsF M g ↔ (g ≠ [] ∧ ∃ l ∈ M, g.Sublist l) := by
  unfold IsF
  constructor
  · rintro ⟨a, l, hl, hs⟩
    rw [sortI_rise (h l hl)] at hs
    exact ⟨a, l, hl, hs⟩
  · rintro ⟨a, l, hl, hs⟩
    exact ⟨a, l, hl, by rw [sortI_rise (h l hl)]; exact hs⟩

/-- both faces' vertices, rising -/
def togF (f g : List Int) : List Int := setL (f ++ g)
theorem mem_togF {f g : List Int} {x : Int} : x ∈ togF f g ↔ x ∈ f ∨ x ∈ g := by unfold togF; rw [mem_setL, List.mem_append]
theorem rise_togF (f g : List Int) : Rise (togF f g) := rise_setL _
def minF (f g : List Int) : List Int := f.filter fun x => !decide (x ∈ g)
theorem mem_minF {f g : List Int} {x : Int} : x ∈ minF f g ↔ x ∈ f ∧ x ∉ g := by unfold minF; simp
theorem rise_minF {f g : List Int} (h : Rise f) : Rise (minF f g) := h.sublist List.filter_sublist
theorem rise_eq {f g : List Int} (hf : Rise f) (hg : Rise g) (h : ∀ x, x ∈ f ↔ x ∈ g) : f = g := rise_ext hf hg h

def starF (A : List (List Int)) (f : List Int) : List (List Int) := A.filter fun x => decide (togF x f ∈ A)
def openF (A : List (List Int)) (f : List Int) : List (List Int) := A.filter fun x => partB f x
/-- the document's link; the program's -/
def linkF (A : List (List Int)) (f : List Int) : List (List Int) := A.filterMap fun x => if minF x f ≠ [] ∧ (minF x f).length = x.length ∧ togF (minF x f) f ∈ A then some (minF x f) else none
def linkP (A : List (List Int)) (f : List Int) : List (List Int) := A.filterMap fun x => if partB f x = true ∧ minF x f ≠ [] then some (minF x f) else none
theorem partB_iff {f g : List Int} : partB f g = true ↔ ∀ x ∈ f, x ∈ g := by
  unfold partB
  rw [List.all_eq_true]
  exact ⟨fun h x hx => by simpa using h x hx, fun h x hx => by simpa using h x hx⟩
/-- the closed star is the closure of the open one -/
theorem star_open {A : List (List Int)} (hr : ∀ g ∈ A, Rise g) (hne : ∀ g ∈ A, g ≠ []) {f : List Int} (g : List Int) : IsF (starF A f) g ↔ IsF (openF A f) g := by
  have h1 : ∀ g ∈ starF A f, Rise g := fun g hg => hr g (List.mem_filter.1 hg).1
  have h2 : ∀ g ∈ openF A f, Rise g := fun g hg => hr g (List.mem_filter.1 hg).1
  rw [isF_of_rise h1, isF_of_rise h2]
  refine and_congr_right fun hg => ⟨?_, ?_⟩
  · rintro ⟨l, hl, hs⟩
    obtain ⟨hlA, ht⟩ := List.mem_filter.1 hl
    have ht := of_decide_eq_true ht
    refine ⟨togF l f, List.mem_filter.2 ⟨ht, partB_iff.2 fun x hx => mem_togF.2 (Or.inr hx)⟩, hs.trans ?_⟩
    exact sub_of_rise (hr l hlA) (rise_togF l f) fun x hx => mem_togF.2 (Or.inl hx)
  · rintro ⟨l, hl, hs⟩
    obtain ⟨hlA, ht⟩ := List.mem_filter.1 hl
    have e : togF l f = l := rise_eq (rise_togF l f) (hr l hlA) fun x => by
      rw [mem_togF]
      exact ⟨fun h => h.elim id (partB_iff.1 ht x), Or.inl⟩
    exact ⟨l, List.mem_filter.2 ⟨hlA, decide_eq_true (by rw [e]; exact hlA)⟩, hs⟩
theorem mem_linkF {A : List (List Int)} {f y : List Int} : y ∈ linkF A f ↔ ∃ x ∈ A, minF x f ≠ [] ∧ (minF x f).length = x.length ∧ togF (minF x f) f ∈ A ∧ y = minF x f := by
  unfold linkF
  rw [List.mem_filterMap]
  constructor
  · rintro ⟨x, hx, h⟩
    split at h
    · next hc => cases h; exact ⟨x, hx, hc.1, hc.2.1, hc.2.2, rfl⟩
    · cases h
  · rintro ⟨x, hx, h1, h2, h3, rfl⟩
    exact ⟨x, hx, if_pos ⟨h1, h2, h3⟩⟩
theorem mem_linkP {A : List (List Int)} {f y : List Int} : y ∈ linkP A f ↔ ∃ x ∈ A, partB f x = true ∧ minF x f ≠ [] ∧ y = minF x f := by
  unfold linkP
  rw [List.mem_filterMap]
  constructor
  · rintro ⟨x, hx, h⟩
    split at h
    · next hc => cases h; exact ⟨x, hx, hc.1, hc.2, rfl⟩
    · cases h
  · rintro ⟨x, hx, h1, h2, rfl⟩
    exact ⟨x, hx, if_pos ⟨h1, h2⟩⟩
theorem link_same {A : List (List Int)} (hr : ∀ g ∈ A, Rise g) (hc : ∀ g ∈ A, ∀ h, h.Sublist g → h ≠ [] → h ∈ A) {f y : List Int} : y ∈ linkF A f ↔ y ∈ linkP A f := by
  rw [mem_linkF, mem_linkP]
  constructor
  · rintro ⟨x, hx, h1, h2, h3, rfl⟩
    have e : minF x f = x := (List.filter_sublist (l := x)).eq_of_length h2
    rw [e] at h1 h3 ⊢
    have e2 : minF (togF x f) f = x := rise_eq (rise_minF (rise_togF x f)) (hr x hx) fun z => by
      rw [mem_minF, mem_togF]
      constructor
      · rintro ⟨h4 | h4, h5⟩
        · exact h4
        · exact absurd h4 h5
      · intro h4
        refine ⟨Or.inl h4, fun h5 => ?_⟩
        rw [← e] at h4
        exact (mem_minF.1 h4).2 h5
    exact ⟨togF x f, h3, partB_iff.2 fun z hz => mem_togF.2 (Or.inr hz), by rw [e2]; exact h1, e2.symm⟩
  · rintro ⟨x, hx, h1, h2, rfl⟩
    have hy : minF x f ∈ A := hc x hx _ List.filter_sublist h2
    have e : minF (minF x f) f = minF x f := List.filter_eq_self.2 fun z hz => by
      have := (mem_minF.1 hz).2
      simpa using this
    have e2 : togF (minF x f) f = x := rise_eq (rise_togF _ f) (hr x hx) fun z => by
      rw [mem_togF, mem_minF]
      constructor
      · rintro (h4 | h4)
        · exact h4.1
        · exact partB_iff.1 h1 z h4
      · intro h4
        by_cases h5 : z ∈ f
        · exact Or.inr h5
        · exact Or.inl ⟨h4, h5⟩
    exact ⟨minF x f, hy, by rw [e]; exact h2, by rw [e], by rw [e, e2]; exact hx, e.symm⟩

/-- what 'some' collects -/
def coll (pf : List Int → List Int) (l : List (List Int)) : List (List Int) := (l.map pf).filter fun x => decide (x ≠ [])
theorem coll_app (pf : List Int → List Int) (l m : List (List Int)) : coll pf (l ++ m) = coll pf l ++ coll pf m := by unfold coll; rw [List.map_append, List.filter_append]
theorem coll_one (pf : List Int → List Int) (x : List Int) : coll pf [x] = if pf x ≠ [] then [pf x] else [] := by
  unfold coll
  by_cases h : pf x = [] <;> simp [h]
theorem mem_coll {pf : List Int → List Int} {l : List (List Int)} {y : List Int} : y ∈ coll pf l ↔ y ≠ [] ∧ ∃ x ∈ l, pf x = y := by
  unfold coll
  rw [List.mem_filter, List.mem_map]
  simp [and_comm]
theorem coll_len (pf : List Int → List Int) (l : List (List Int)) : (coll pf l).length ≤ l.length := by
  unfold coll
  exact Nat.le_trans (List.length_filter_le _ _) (by rw [List.length_map]; exact Nat.le_refl _)
theorem mem_flat {A : List (List Int)} (hne : ∀ g ∈ A, g ≠ []) {x : List Int} : x ∈ (tableF A).flatten ↔ x ∈ A := by
  rw [List.mem_flatten]
  constructor
  · rintro ⟨l, hl, hx⟩
    obtain ⟨d, hd, rfl⟩ := List.getElem_of_mem hl
    have h := tableF_at (A := A) (d := d) (by rw [← tableF_len]; exact hd)
    rw [List.getD_eq_getElem?_getD, List.getElem?_eq_getElem hd] at h
    have h : (tableF A)[d] = rowF A d := h
    rw [h] at hx
    exact (mem_rowF.1 hx).1
  · intro hx
    have h1 := topN_ge hx
    have h2 := List.length_pos_iff.2 (hne x hx)
    have hd : x.length - 1 < topN A := by omega
    have h := tableF_at (A := A) (d := x.length - 1) hd
    have hd' : x.length - 1 < (tableF A).length := by rw [tableF_len]; exact hd
    refine ⟨(tableF A)[x.length - 1], List.getElem_mem hd', ?_⟩
    rw [List.getD_eq_getElem?_getD, List.getElem?_eq_getElem hd'] at h
    have h : (tableF A)[x.length - 1] = rowF A (x.length - 1) := h
    rw [h]
    exact mem_rowF.2 ⟨hx, by omega⟩
end Go.Proofs.YtddnjimpdidpaaaGreatDoor
