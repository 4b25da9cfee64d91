/-
  Stars, links, skeletons (plain): what sets give the same complex.
  The document's Together, Minus, StarOf, LinkOf, and the law's made, by contracts.
  The document's StarOf, LinkOf, and the law's made, by contracts.
  What cells.some gives (words); small closures and errors.
  slices.DeleteFunc over ints with Link's inner closure, by a contract; Link's closure.
-/
import Derived.Test.YtipblphfjejpbaaGreatDoorFacB
import Derived.Test.YtipblphfjejpbaaGreatDoorFacA
import Derived.Test.YtipblphfjejpbaaGreatDoorCelY
import Derived.Test.YtipblphfjejpbaaGreatDoorHasC
import Derived.Lib.SliceRun
set_option linter.unusedVariables false
set_option linter.unusedSimpArgs false
namespace Go.Proofs.YtipblphfjejpbaaGreatDoor
open Go Go.RowKit Go.Maps

/-- two lists of sets that close to the same faces -/
theorem allF_congr {L M : List (List Int)} (h : ∀ g, IsF L g ↔ IsF M g) : allF L = allF M := (allF_sorted L).ext (allF_sorted M) fun g => mem_allF.trans ((h g).trans mem_allF.symm)
theorem made_congr {L M : List (List Int)} (h : ∀ g, IsF L g ↔ IsF M g) : madeF L = madeF M := by unfold madeF; rw [allF_congr h]
/-- sets that are faces of a right complex are right themselves -/
theorem errC_sub {L M : List (List Int)} (h : errC L = 0) (hM : ∀ g ∈ M, IsF L g) : errC M = 0 := by
  obtain ⟨h1, h2, h3⟩ := errC_ok h
  have hs : ∀ g ∈ M, sortI g = g := fun g hg => sortI_rise (isF_rise h1 (hM g hg))
  refine errC_0 (fun g hg => ⟨(hM g hg).1, (isF_rise h1 (hM g hg)).imp (fun h => by omega), isF_bd h1 (hM g hg)⟩) (fun g hg => isF_len h2 (hM g hg)) ?_
  refine Nat.le_trans (len_le_of_members (allF_sorted M).nodup (allF_sorted L).nodup fun g hg => ?_) h3
  obtain ⟨hne, l, hl, hsub⟩ := mem_allF.1 hg
  rw [hs l hl] at hsub
  exact mem_allF.2 (isF_sub (hM l hl) hsub hne)
/-- the faces of sets that rise -/
theorem isF_of_rise {M : List (List Int)} (h : ∀ g ∈ M, Rise g) (g : List Int) : IsF M g ↔ (g ≠ [] ∧ ∃ l ∈ M, g.Sublist l) := by
  unfold IsF
  constructor
  · rintro ⟨a, l, hl, hs⟩
    rw [sortI_rise (h l hl)] at hs
    exact ⟨a, l, hl, hs⟩
  · rintro ⟨a, l, hl, hs⟩
    exact ⟨a, l, hl, by rw [sortI_rise (h l hl)]; exact hs⟩

/-- both faces' vertices, rising -/
def togF (f g : List Int) : List Int := setL (f ++ g)
theorem mem_togF {f g : List Int} {x : Int} : x ∈ togF f g ↔ x ∈ f ∨ x ∈ g := by unfold togF; rw [mem_setL, List.mem_append]
theorem rise_togF (f g : List Int) : Rise (togF f g) := rise_setL _
def minF (f g : List Int) : List Int := f.filter fun x => !decide (x ∈ g)
theorem mem_minF {f g : List Int} {x : Int} : x ∈ minF f g ↔ x ∈ f ∧ x ∉ g := by unfold minF; simp
theorem rise_minF {f g : List Int} (h : Rise f) : Rise (minF f g) := h.sublist List.filter_sublist
theorem rise_eq {f g : List Int} (hf : Rise f) (hg : Rise g) (h : ∀ x, x ∈ f ↔ x ∈ g) : f = g := rise_ext hf hg h

def starF (A : List (List Int)) (f : List Int) : List (List Int) := A.filter fun x => decide (togF x f ∈ A)
def openF (A : List (List Int)) (f : List Int) : List (List Int) := A.filter fun x => partB f x
/-- the document's link; the program's -/
def linkF (A : List (List Int)) (f : List Int) : List (List Int) := A.filterMap fun x => if minF x f ≠ [] ∧ (minF x f).length = x.length ∧ togF (minF x f) f ∈ A then some (minF x f) else none
def linkP (A : List (List Int)) (f : List Int) : List (List Int) := A.filterMap fun x => if partB f x = true ∧ minF x f ≠ [] then some (minF x f) else none
theorem partB_iff {f g : List Int} : partB f g = true ↔ ∀ x ∈ f, x ∈ g := by
  unfold partB
  rw [List.all_eq_true]
  exact ⟨fun h x hx => by simpa using h x hx, fun h x hx => by simpa using h x hx⟩
/-- the closed star is the closure of the open one -/
theorem star_open {A : List (List Int)} (hr : ∀ g ∈ A, Rise g) (hne : ∀ g ∈ A, g ≠ []) {f : List Int} (g : List Int) : IsF (starF A f) g ↔ IsF (openF A f) g := by
  have h1 : ∀ g ∈ starF A f, Rise g := fun g hg => hr g (List.mem_filter.1 hg).1
  have h2 : ∀ g ∈ openF A f, Rise g := fun g hg => hr g (List.mem_filter.1 hg).1
  rw [isF_of_rise h1, isF_of_rise h2]
  refine and_congr_right fun hg => ⟨?_, ?_⟩
  · rintro ⟨l, hl, hs⟩
    obtain ⟨hlA, ht⟩ := List.mem_filter.1 hl
    have ht := of_decide_eq_true ht
    refine ⟨togF l f, List.mem_filter.2 ⟨ht, partB_iff.2 fun x hx => mem_togF.2 (Or.inr hx)⟩, hs.trans ?_⟩
    exact sub_of_rise (hr l hlA) (rise_togF l f) fun x hx => mem_togF.2 (Or.inl hx)
  · rintro ⟨l, hl, hs⟩
    obtain ⟨hlA, ht⟩ := List.mem_filter.1 hl
    have e : togF l f = l := rise_eq (rise_togF l f) (hr l hlA) fun x => by
      rw [mem_togF]
      exact ⟨fun h => h.elim id (partB_iff.1 ht x), Or.inl⟩
    exact ⟨l, List.mem_filter.2 ⟨hlA, decide_eq_true (by rw [e]; exact hlA)⟩, hs⟩
theorem mem_linkF {A : List (List Int)} {f y : List Int} : y ∈ linkF A f ↔ ∃ x ∈ A, minF x f ≠ [] ∧ (minF x f).length = x.length ∧ togF (minF x f) f ∈ A ∧ y = minF x f := by
  unfold linkF
  rw [List.mem_filterMap]
  constructor
  · rintro ⟨x, hx, h⟩
    split at h
    · next hc => cases h; exact ⟨x, hx, hc.1, hc.2.1, hc.2.2, rfl⟩
    · cases h
  · rintro ⟨x, hx, h1, h2, h3, rfl⟩
    exact ⟨x, hx, if_pos ⟨h1, h2, h3⟩⟩
theorem mem_linkP {A : List (List Int)} {f y : List Int} : y ∈ linkP A f ↔ ∃ x ∈ A, partB f x = true ∧ minF x f ≠ [] ∧ y = minF x f := by
  unfold linkP
  rw [List.mem_filterMap]
  constructor
  · rintro ⟨x, hx, h⟩
    split at h
    · next hc => cases h; exact ⟨x, hx, hc.1, hc.2, rfl⟩
    · cases h
  · rintro ⟨x, hx, h1, h2, rfl⟩
    exact ⟨x, hx, if_pos ⟨h1, h2⟩⟩
theorem link_same {A : List (List Int)} (hr : ∀ g ∈ A, Rise g) (hc : ∀ g ∈ A, ∀ h, h.Sublist g → h ≠ [] → h ∈ A) {f y : List Int} : y ∈ linkF A f ↔ y ∈ linkP A f := by
  rw [mem_linkF, mem_linkP]
  constructor
  · rintro ⟨x, hx, h1, h2, h3, rfl⟩
    have e : minF x f = x := (List.filter_sublist (l := x)).eq_of_length h2
    rw [e] at h1 h3 ⊢
    have e2 : minF (togF x f) f = x := rise_eq (rise_minF (rise_togF x f)) (hr x hx) fun z => by
      rw [mem_minF, mem_togF]
      constructor
      · rintro ⟨h4 | h4, h5⟩
        · exact h4
        · exact absurd h4 h5
      · intro h4
        refine ⟨Or.inl h4, fun h5 => ?_⟩
        rw [← e] at h4
        exact (mem_minF.1 h4).2 h5
    exact ⟨togF x f, h3, partB_iff.2 fun z hz => mem_togF.2 (Or.inr hz), by rw [e2]; exact h1, e2.symm⟩
  · rintro ⟨x, hx, h1, h2, rfl⟩
    have hy : minF x f ∈ A := hc x hx _ List.filter_sublist h2
    have e : minF (minF x f) f = minF x f := List.filter_eq_self.2 fun z hz => by
      have := (mem_minF.1 hz).2
      simpa using this
    have e2 : togF (minF x f) f = x := rise_eq (rise_togF _ f) (hr x hx) fun z => by
      rw [mem_togF, mem_minF]
      constructor
      · rintro (h4 | h4)
        · exact h4.1
        · exact partB_iff.1 h1 z h4
      · intro h4
        by_cases h5 : z ∈ f
        · exact Or.inr h5
        · exact Or.inl ⟨h4, h5⟩
    exact ⟨minF x f, hy, by rw [e]; exact h2, by rw [e], by rw [e, e2]; exact hx, e.symm⟩

/-- what 'some' collects -/
def coll (pf : List Int → List Int) (l : List (List Int)) : List (List Int) := (l.map pf).filter fun x => decide (x ≠ [])
theorem coll_app (pf : List Int → List Int) (l m : List (List Int)) : coll pf (l ++ m) = coll pf l ++ coll pf m := by unfold coll; rw [List.map_append, List.filter_append]
theorem coll_one (pf : List Int → List Int) (x : List Int) : coll pf [x] = if pf x ≠ [] then [pf x] else [] := by
  unfold coll
  by_cases h : pf x = [] <;> simp [h]
theorem mem_coll {pf : List Int → List Int} {l : List (List Int)} {y : List Int} : y ∈ coll pf l ↔ y ≠ [] ∧ ∃ x ∈ l, pf x = y := by
  unfold coll
  rw [List.mem_filter, List.mem_map]
  simp [and_comm]
theorem coll_len (pf : List Int → List Int) (l : List (List Int)) : (coll pf l).length ≤ l.length := by
  unfold coll
  exact Nat.le_trans (List.length_filter_le _ _) (by rw [List.length_map]; exact Nat.le_refl _)
theorem mem_flat {A : List (List Int)} (hne : ∀ g ∈ A, g ≠ []) {x : List Int} : x ∈ (tableF A).flatten ↔ x ∈ A := by
  rw [List.mem_flatten]
  constructor
  · rintro ⟨l, hl, hx⟩
    obtain ⟨d, hd, rfl⟩ := List.getElem_of_mem hl
    have h := tableF_at (A := A) (d := d) (by rw [← tableF_len]; exact hd)
    rw [List.getD_eq_getElem?_getD, List.getElem?_eq_getElem hd] at h
    have h : (tableF A)[d] = rowF A d := h
    rw [h] at hx
    exact (mem_rowF.1 hx).1
  · intro hx
    have h1 := topN_ge hx
    have h2 := List.length_pos_iff.2 (hne x hx)
    have hd : x.length - 1 < topN A := by omega
    have h := tableF_at (A := A) (d := x.length - 1) hd
    have hd' : x.length - 1 < (tableF A).length := by rw [tableF_len]; exact hd
    refine ⟨(tableF A)[x.length - 1], List.getElem_mem hd', ?_⟩
    rw [List.getD_eq_getElem?_getD, List.getElem?_eq_getElem hd'] at h
    have h : (tableF A)[x.length - 1] = rowF A (x.length - 1) := h
    rw [h]
    exact mem_rowF.2 ⟨hx, by omega⟩

/-- a list of ints in new memory -/
def NumsP (B : Nat) (l : List Int) (w : World) (e : Ending) (w' : World) : Prop := ∃ p c, e = .returned (.slice p l.length c) ∧ Below w.heap.size w w' ∧ IntsIn B w' (.slice p l.length c) l
theorem below_none {w w' : World} (hg : w.grownBy w' none) : Below w.heap.size w w' := (Below.refl _ _).grown hg (Nat.le_refl _) (fun k e => by cases e)

set_option maxRecDepth 100000 in
set_option maxHeartbeats 4000000 in
theorem together_any (B : Nat) (f g : List Int) (u v : Value) (w : World) (hu : IntsAt w u f) (hv : IntsAt w v g) (hf : f.length ≤ 1000) (hg : g.length ≤ 1000) :
    Calls Tryz.prog 29 #[u, v] w (NumsP B (togF f g) w) := by
  obtain ⟨i3, hi3, hy0, hy1, hy2⟩ := info_parts Tryz.info3
  obtain ⟨pu, cu, hue, -⟩ := id hu
  obtain ⟨pv, cv, hve, -⟩ := id hv
  obtain ⟨n, hn⟩ : ∃ n, f.length = n := ⟨_, rfl⟩
  obtain ⟨m, hm⟩ : ∃ m, g.length = m := ⟨_, rfl⟩
  rw [hn] at hue hf
  rw [hm] at hve hg
  subst hue
  subst hve
  have HU := Lib.hid hu
  have HV := Lib.hid hv
  have HN := Lib.hid hn
  have HM := Lib.hid hm
  clear hu hv hn hm
  go_enter Tryz.func29, Tryz.ntmps29
  go_upto_region 3 with (at_builtin; refine wpList_app_any w rfl (.tmp 8) (.tmp 9) 26 rfl w.heap.size 3 i3 (.int .i64 0) 8 Tryz.underlying26 hi3 hy0 hy1 hy2 rfl (.slice none 0 0) 0 [] rfl (World.ownsRow_nil _ _ _ _) pu n cu (intVs f) rfl HU.out.lenE HU.out.noneE HU.out.news (intVs_one _) (by unfold maxLen; omega) (by omega) (Nat.le_refl _) _ rfl ?_; intro p1 c1 w1 ho1 hg1 hat1; have HO1 := Lib.hid ho1; have HB1 := Lib.hid (below_none (w := w) (w' := w1) hg1); clear ho1 hg1 hat1)
  have ho1 := HO1.out
  simp only [Nat.zero_add, List.nil_append] at ho1
  have HO1' := Lib.hid ho1
  have hs1 := HB1.out.size
  have HV1 := Lib.hid (HV.out.below HB1.out (Nat.le_refl _))
  clear ho1 HO1
  go_upto_region 4 with (at_builtin; refine wpList_app_any w1 rfl (.tmp 11) (.tmp 12) 26 rfl w.heap.size 3 i3 (.int .i64 0) 8 Tryz.underlying26 hi3 hy0 hy1 hy2 rfl (.slice p1 n c1) n (intVs f) rfl HO1'.out pv m cv (intVs g) rfl HV1.out.lenE HV1.out.noneE HV1.out.news (intVs_one _) (by unfold maxLen; omega) (by omega) (by omega) _ rfl ?_; intro p2 c2 w2 ho2 hg2 hat2; have HO2 := Lib.hid ho2; have HB2 := Lib.hid (HB1.out.grown hg2 hs1 (fun k e => (HO1'.out.lt k e).1)); clear ho2 hg2 hat2)
  have hi2 : IntsAt w2 (.slice p2 (n + m) c2) (f ++ g) := by
    have h := HO2.out
    have e : intVs f ++ intVs g = intVs (f ++ g) := by simp [intVs]
    rw [e] at h
    exact (ints_owned (B := 0) h (by simp [HN.out, HM.out])).at
  have HSO := Lib.hid (sorted_any (f ++ g) _ w2 hi2 (by simp [HN.out, HM.out]; omega))
  unfold SortedPost at HSO
  clear hi2
  go_wp2_with fail
  refine HSO.out.mono ?_
  rintro e w3 ⟨v3, rfl, hb3, ho3⟩
  obtain ⟨p3, c3, hv3⟩ := (ints_owned (B := B) ho3 rfl).len
  have HI3 := Lib.hid (ints_owned (B := B) ho3 rfl)
  have HB3 := Lib.hid (HB2.out.trans (hb3.mono HB2.out.size))
  rw [hv3] at HI3 ⊢
  obtain ⟨s, hs⟩ : ∃ s, (setL (f ++ g)).length = s := ⟨_, rfl⟩
  rw [hs] at HI3 ⊢
  have HSS : Hid ((togF f g).length = s) := hs
  clear hb3 ho3 hv3 hs
  go_wp2_with fail
  go_ret
  refine ⟨p3, c3, ?_, HB3.out, ?_⟩
  · rw [HSS.out]; rfl
  · rw [HSS.out]; exact HI3.out

theorem minF_snoc (f : List Int) (x : Int) (g : List Int) : minF (f ++ [x]) g = minF f g ++ (if x ∈ g then [] else [x]) := by
  unfold minF
  rw [List.filter_append]
  by_cases h : x ∈ g <;> simp [h]

set_option maxRecDepth 100000 in
set_option maxHeartbeats 8000000 in
theorem minus_any (B : Nat) (f g : List Int) (u v : Value) (w : World) (hu : IntsAt w u f) (hv : IntsAt w v g) (hf : f.length ≤ 1000) (hg : g.length ≤ 1000) :
    Calls Tryz.prog 88 #[u, v] w (NumsP B (minF f g) w) := by
  obtain ⟨i3, hi3, hy0, hy1, hy2⟩ := info_parts Tryz.info3
  obtain ⟨pu, cu, hue, -⟩ := id hu
  obtain ⟨n, hn⟩ : ∃ n, f.length = n := ⟨_, rfl⟩
  rw [hn] at hue hf
  subst hue
  have HU := Lib.hid hu
  have HN := Lib.hid hn
  have HCN := Lib.hid (fun (wx : World) (hb : Below w.heap.size w wx) (x : Int) => contains_any g v x wx (hv.below hb (Nat.le_refl _)) (by omega))
  unfold Same at HCN
  clear hu hn hv
  go_enter Tryz.func88, Tryz.ntmps88
  go_wp2_with fail
  go_loopw [5, 6, 7] (fun s i _ wr => ∃ j : Nat, j ≤ n ∧ i = .int .i64 j ∧ Below w.heap.size w wr ∧ wr.ownsRow w.heap.size 3 1 s (minF (f.take j) g).length (intVs (minF (f.take j) g))) (fun _ i _ _ => n - (intOf i).toNat)
  case atStart => exact ⟨0, Nat.zero_le _, rfl, Below.refl _ _, World.ownsRow_nil _ _ _ _⟩
  case round =>
    obtain ⟨j, hj, rfl, hb, hO⟩ := hrel
    have HB := Lib.hid hb
    have hsw := hb.size
    by_cases hjn : j < n
    · obtain ⟨p', c', hv', -, -, hx⟩ := id (HU.out.below hb (Nat.le_refl _))
      obtain ⟨b, off, e1, e2⟩ := hx j (by rw [HN.out]; exact hjn)
      obtain ⟨rfl, rfl⟩ : p' = pu ∧ c' = cu := by cases hv'; exact ⟨rfl, rfl⟩
      subst e1
      have HTK := Lib.hid (take_snoc_getD 0 f j (by rw [HN.out]; exact hjn))
      obtain ⟨x, hxx⟩ : ∃ x, f.getD j 0 = x := ⟨_, rfl⟩
      rw [hxx] at e2 HTK
      have HC := Lib.hid (HCN.out wr hb x)
      obtain ⟨r, hr⟩ : ∃ r, g.contains x = r := ⟨_, rfl⟩
      rw [hr] at HC
      have HR : Hid (r = decide (x ∈ g)) := by unfold Hid; rw [← hr, Bool.eq_iff_iff]; simp
      obtain ⟨k, hk⟩ : ∃ k, (minF (f.take j) g).length = k := ⟨_, rfl⟩
      rw [hk] at hO
      have hkn : k ≤ 1000 := by
        rw [← hk]
        have h1 : (minF (f.take j) g).length ≤ (f.take j).length := List.length_filter_le _ _
        rw [List.length_take] at h1
        omega
      have HK := Lib.hid hk
      have HO := Lib.hid hO
      clear hv' hx hxx hr hb hO hk
      cases r with
      | true =>
        go_wp2_with fail
        refine HC.out.mono ?_
        rintro e w1 ⟨rfl, rfl⟩
        go_wp2_with fail
        go_roundw
        case rel =>
          refine ⟨j + 1, by omega, by go_num, HB.out, ?_⟩
          rw [HTK.out, minF_snoc, if_pos (of_decide_eq_true HR.out.symm), List.append_nil, HK.out]
          exact HO.out
        case measure => simp [intOf]; omega
      | false =>
        go_wp2_with fail
        refine HC.out.mono ?_
        rintro e w1 ⟨rfl, rfl⟩
        go_wp2_with (at_builtin; refine wpList_append_lies _ rfl (.tmp 22) (.tmp 27) 26 rfl w.heap.size 3 i3 (.int .i64 0) 1 8 Tryz.underlying26 hi3 hy0 hy1 hy2 rfl (by decide) _ k (intVs (minF (f.take j) g)) rfl (HO.out.alloc _) ⟨w1.heap.size, 0, none⟩ 1 1 [.int .i64 x] rfl rfl (World.news_of_block (cs := #[.int .i64 x]) (t := 3) (fr := (0, 0)) (heap_alloc_new w1 _)) (by simp [Value.oneCell']) (by decide) (by unfold maxLen; omega) (by omega) (by simp; omega) (w1.heap.size + 1) (by simp) ?_; intro g2 c2 w9 hown2 hgr2 hat2 hlt2; have HO2 := Lib.hid hown2; have HG2 := Lib.hid hgr2; clear hown2 hgr2 hat2 hlt2)
        go_roundw
        case rel =>
          refine ⟨j + 1, by omega, by go_num, (HB.out.alloc hsw _).grown HG2.out (by simp; omega) (fun i hi => (HO.out.lt i hi).1), ?_⟩
          rw [HTK.out, minF_snoc, if_neg (of_decide_eq_false HR.out.symm), List.length_append, intVs_snoc, HK.out]
          exact HO2.out
        case measure => simp [intOf]; omega
    · obtain rfl : n = j := by omega
      have hI := ints_owned (B := B) hO rfl
      rw [List.take_of_length_le (by rw [HN.out]; exact Nat.le_refl _)] at hI
      obtain ⟨p3, c3, hv3⟩ := hI.len
      rw [hv3] at hI
      obtain ⟨s, hs⟩ : ∃ s, (minF f g).length = s := ⟨_, rfl⟩
      rw [hs] at hI hv3
      subst hv3
      have HI := Lib.hid hI
      have HSS := Lib.hid hs
      clear hb hO hI hs
      go_wp2_with fail
      go_ret
      refine ⟨p3, c3, ?_, HB.out, ?_⟩
      · rw [HSS.out]; rfl
      · rw [HSS.out]; exact HI.out

def starTo (A : List (List Int)) (f : List Int) (j : Nat) : List (List Int) := (A.take j).filter fun x => decide (togF x f ∈ A)
theorem starTo_step {A : List (List Int)} {f : List Int} {j : Nat} (h : j < A.length) : starTo A f (j + 1) = starTo A f j ++ (if togF (A.getD j []) f ∈ A then [A.getD j []] else []) := by
  unfold starTo
  rw [take_snoc_getD [] A j h, List.filter_append]
  generalize A.getD j [] = x
  by_cases hc : togF x f ∈ A
  · rw [if_pos hc]; congr 1; simp [hc]
  · rw [if_neg hc]; congr 1; simp [hc]
theorem starTo_all (A : List (List Int)) (f : List Int) : starTo A f A.length = starF A f := by unfold starTo starF; rw [List.take_length]
def linkTo (A : List (List Int)) (f : List Int) (j : Nat) : List (List Int) := (A.take j).filterMap fun x => if minF x f ≠ [] ∧ (minF x f).length = x.length ∧ togF (minF x f) f ∈ A then some (minF x f) else none
theorem linkTo_step {A : List (List Int)} {f : List Int} {j : Nat} (h : j < A.length) : linkTo A f (j + 1) = linkTo A f j ++ (if minF (A.getD j []) f ≠ [] ∧ (minF (A.getD j []) f).length = (A.getD j []).length ∧ togF (minF (A.getD j []) f) f ∈ A then [minF (A.getD j []) f] else []) := by
  unfold linkTo
  rw [take_snoc_getD [] A j h, List.filterMap_append]
  by_cases hc : minF (A.getD j []) f ≠ [] ∧ (minF (A.getD j []) f).length = (A.getD j []).length ∧ togF (minF (A.getD j []) f) f ∈ A
  · rw [if_pos hc]
    congr 1
    simp only [List.filterMap_cons, List.filterMap_nil]
    rw [if_pos hc]
  · rw [if_neg hc]
    congr 1
    simp only [List.filterMap_cons, List.filterMap_nil]
    rw [if_neg hc]
theorem linkTo_all (A : List (List Int)) (f : List Int) : linkTo A f A.length = linkF A f := by unfold linkTo linkF; rw [List.take_length]
theorem tog_len (f g : List Int) : (togF f g).length ≤ f.length + g.length := by
  have := setL_len (f ++ g)
  rw [List.length_append] at this
  exact this

set_option maxRecDepth 100000 in
set_option maxHeartbeats 8000000 in
theorem starOf_any (B : Nat) (A : List (List Int)) (f : List Int) (v u : Value) (w : World) (hB : B ≤ w.heap.size) (hv : ListsIn B w v A) (hu : IntsAt w u f) (hn : A.length ≤ 1000) (hl : ∀ l ∈ A, l.length ≤ 1000) (hf : f.length ≤ 1000) :
    Calls Tryz.prog 43 #[v, u] w (ListPost B (starF A f) w) := by
  obtain ⟨i39, hi39, hz0, hz1, hz2⟩ := info_parts Tryz.info26
  obtain ⟨pv, cv, hve, -⟩ := id hv
  obtain ⟨n, hLn⟩ : ∃ n, A.length = n := ⟨_, rfl⟩
  rw [hLn] at hve hn
  subst hve
  have HLN := Lib.hid hLn
  have HV := Lib.hid hv
  have HU := Lib.hid hu
  have HB := Lib.hid hB
  have HL := Lib.hid hl
  clear hLn hv hB hl hu
  go_enter Tryz.func43, Tryz.ntmps43
  go_wp2_with fail
  go_loopw [5, 6] (fun s i wr => ∃ j : Nat, j ≤ n ∧ i = .int .i64 j ∧ Below w.heap.size w wr ∧ RowsO w.heap.size B wr s (starTo A f j)) (fun _ i _ => n - (intOf i).toNat)
  case atStart => exact ⟨0, Nat.zero_le _, rfl, Below.refl _ _, RowsO.nil _ _ _⟩
  case round =>
    obtain ⟨j, hj, rfl, hb, hR⟩ := hrel
    have HBR := Lib.hid hb
    have HR := Lib.hid hR
    by_cases hjn : j < n
    · obtain ⟨b, off, c, hve⟩ := HV.out.form (by rw [HLN.out]; omega)
      rw [HLN.out] at hve
      obtain ⟨rfl, rfl⟩ : pv = some ⟨b, off, none⟩ ∧ cv = c := by cases hve; exact ⟨rfl, rfl⟩
      have hjL : j < A.length := by rw [HLN.out]; exact hjn
      obtain ⟨pj, cj, hcj, hij⟩ := cells_at (HV.out.below hb (Nat.le_refl _)) j hjL
      have hlj := HL.out _ (getL_mem hjL)
      have HST := Lib.hid (starTo_step (f := f) hjL)
      obtain ⟨x, hx⟩ : ∃ x, A.getD j [] = x := ⟨_, rfl⟩
      rw [hx] at hcj hij hlj HST
      have HTG := Lib.hid (together_any B x f _ u wr hij.at (HU.out.below hb (Nat.le_refl _)) (by omega) hf)
      unfold NumsP at HTG
      have HTL := Lib.hid (tog_len x f)
      obtain ⟨nx, hnx⟩ : ∃ nx, x.length = nx := ⟨_, rfl⟩
      rw [hnx] at hcj hlj HTG
      have HNX := Lib.hid hnx
      have HIX := Lib.hid hij
      rw [hnx] at HIX
      obtain ⟨y, hy⟩ : ∃ y, togF x f = y := ⟨_, rfl⟩
      rw [hy] at HTG HTL HST
      obtain ⟨ny, hny⟩ : ∃ ny, y.length = ny := ⟨_, rfl⟩
      rw [hny] at HTG
      have HNY := Lib.hid hny
      have HIXF := Lib.hid (fun (wx : World) (vy : Value) (hbx : Below wr.heap.size wr wx) (hi : IntsAt wx vy y) => indexOf_any B A y _ vy wx ((HV.out.below HBR.out (Nat.le_refl _)).below hbx (Nat.le_refl _)) hi (by rw [HLN.out]; omega) (fun l h => by have := HL.out l h; omega) (by have := HTL.out; have := HNX.out; omega))
      unfold IdxPost at HIXF
      have hltc := mem_lt hcj
      have HCJ := Lib.hid hcj
      clear hve hij hjL hx hnx hy hny hb hR
      go_wp2_with fail
      refine HTG.out.mono ?_
      rintro e w1 ⟨py, cy, rfl, hb1, hi1⟩
      have HB1 := Lib.hid hb1
      have HIX1 := Lib.hid (HIXF.out w1 _ hb1 hi1.at)
      clear hb1 hi1 hcj
      go_wp2_with fail
      refine HIX1.out.mono ?_
      rintro e w2 ⟨r, rfl, ⟨d, hd⟩, hiff, hlo⟩
      have hb12 : Below w1.heap.size w1 w2 := by rw [hd]; exact Below.drewN w1 d
      have hb02 := HB1.out.trans (hb12.mono HB1.out.size)
      have hb2 := HBR.out.trans (hb02.mono HBR.out.size)
      have hcj2 := (hb02.cell (p := ⟨b, off + j, none⟩) hltc).trans HCJ.out
      obtain ⟨hs, h1, h2, h3⟩ := HR.out.below hb02 (Nat.le_refl _)
      obtain ⟨k, hk⟩ : ∃ k, (starTo A f j).length = k := ⟨_, rfl⟩
      have hkn : k ≤ 1000 := by
        rw [← hk]
        have e1 : (starTo A f j).length ≤ (A.take j).length := List.length_filter_le _ _
        rw [List.length_take] at e1
        omega
      rw [hk] at h1
      have HK := Lib.hid hk
      have H1 := Lib.hid h1
      have H2 := Lib.hid h2
      have H3 := Lib.hid h3
      have HB2 := Lib.hid hb2
      have hws := hb2.size
      have HI2 := Lib.hid (HIX.out.below hb02 (Nat.le_refl _))
      have HIFF := Lib.hid hiff
      clear hd hb12 hb02 hb2 h1 h2 h3 hk hiff HIX1
      by_cases hr : 0 ≤ r
      · have HIN := Lib.hid (HIFF.out.1 hr)
        go_wp2_with (at_builtin; refine wpList_append_lies _ rfl (.tmp 22) (.tmp 27) 22 rfl w.heap.size 26 i39 (.slice none 0 0) 1 24 Tryz.underlying22 hi39 hz0 hz1 hz2 rfl (by decide) _ k hs rfl (H1.out.alloc _) ⟨w2.heap.size, 0, none⟩ 1 1 [.slice pj nx cj] rfl rfl (World.news_of_block (cs := #[.slice pj nx cj]) (t := 26) (fr := (0, 0)) (heap_alloc_new w2 _)) (by simp [Value.oneCell']) (by decide) (by unfold maxLen; omega) (by omega) (by simp; omega) (w2.heap.size + 1) (by simp) ?_; intro g2 c2 w9 hown2 hgr2 hat2 hlt2; have HO2 := Lib.hid hown2; have HG2 := Lib.hid hgr2; clear hown2 hgr2 hat2 hlt2)
        go_roundw
        case rel =>
          have hbA : Below w2.heap.size w2 (w2.alloc (.cells #[.slice pj nx cj] 26)) := (Below.refl _ _).alloc (Nat.le_refl _) _
          refine ⟨j + 1, by omega, by go_num, (HB2.out.alloc hws _).grown HG2.out (by simp; omega) (fun i hi => (H1.out.lt i hi).1), ?_⟩
          rw [HST.out, if_pos HIN.out]
          exact rowsO_push (w := w2.alloc (.cells #[.slice pj nx cj] 26)) (hs := hs) HB.out (by rw [HK.out]; exact H1.out.alloc _) H2.out (fun i hi => (H3.out i hi).below hbA (Nat.le_refl _)) (HI2.out.below hbA (Nat.le_refl _)) (by rw [HK.out]; exact HO2.out) HG2.out
        case measure => simp [intOf]; omega
      · have HIN : Hid (¬ y ∈ A) := fun h => hr (HIFF.out.2 h)
        have hr2 : r < 0 := by omega
        go_wp2_with fail
        go_roundw
        case rel =>
          refine ⟨j + 1, by omega, by go_num, HB2.out, ?_⟩
          rw [HST.out, if_neg HIN.out, List.append_nil]
          exact ⟨hs, by rw [HK.out]; exact H1.out, H2.out, H3.out⟩
        case measure => simp [intOf]; omega
    · obtain rfl : n = j := by omega
      have HFULL : Hid (starTo A f n = starF A f) := by unfold Hid; rw [← HLN.out]; exact starTo_all A f
      clear hb hR
      go_wp2_with fail
      go_ret
      refine ⟨_, rfl, HBR.out, ?_⟩
      rw [← HFULL.out]
      exact HR.out

set_option maxRecDepth 100000 in
set_option maxHeartbeats 8000000 in
theorem linkOf_any (B : Nat) (A : List (List Int)) (f : List Int) (v u : Value) (w : World) (hB : B ≤ w.heap.size) (hv : ListsIn B w v A) (hu : IntsAt w u f) (hn : A.length ≤ 1000) (hl : ∀ l ∈ A, l.length ≤ 500) (hf : f.length ≤ 500) :
    Calls Tryz.prog 44 #[v, u] w (ListPost B (linkF A f) w) := by
  obtain ⟨i39, hi39, hz0, hz1, hz2⟩ := info_parts Tryz.info26
  obtain ⟨pv, cv, hve, -⟩ := id hv
  obtain ⟨n, hLn⟩ : ∃ n, A.length = n := ⟨_, rfl⟩
  rw [hLn] at hve hn
  subst hve
  have HLN := Lib.hid hLn
  have HV := Lib.hid hv
  have HU := Lib.hid hu
  have HB := Lib.hid hB
  have HL := Lib.hid hl
  clear hLn hv hB hl hu
  go_enter Tryz.func44, Tryz.ntmps44
  go_wp2_with fail
  go_loopw [5, 6, 7] (fun s i _ wr => ∃ j : Nat, j ≤ n ∧ i = .int .i64 j ∧ Below w.heap.size w wr ∧ RowsO w.heap.size B wr s (linkTo A f j)) (fun _ i _ _ => n - (intOf i).toNat)
  case atStart => exact ⟨0, Nat.zero_le _, rfl, Below.refl _ _, RowsO.nil _ _ _⟩
  case round =>
    obtain ⟨j, hj, rfl, hb, hR⟩ := hrel
    have HBR := Lib.hid hb
    have HR := Lib.hid hR
    by_cases hjn : j < n
    · obtain ⟨b, off, c, hve⟩ := HV.out.form (by rw [HLN.out]; omega)
      rw [HLN.out] at hve
      obtain ⟨rfl, rfl⟩ : pv = some ⟨b, off, none⟩ ∧ cv = c := by cases hve; exact ⟨rfl, rfl⟩
      have hjL : j < A.length := by rw [HLN.out]; exact hjn
      obtain ⟨pj, cj, hcj, hij⟩ := cells_at (HV.out.below hb (Nat.le_refl _)) j hjL
      have hlj := HL.out _ (getL_mem hjL)
      have HST := Lib.hid (linkTo_step (f := f) hjL)
      obtain ⟨x, hx⟩ : ∃ x, A.getD j [] = x := ⟨_, rfl⟩
      rw [hx] at hcj hij hlj HST
      have HMI := Lib.hid (minus_any B x f _ u wr hij.at (HU.out.below hb (Nat.le_refl _)) (by omega) (by omega))
      unfold NumsP at HMI
      obtain ⟨nx, hnx⟩ : ∃ nx, x.length = nx := ⟨_, rfl⟩
      have hym : (minF x f).length ≤ nx := by rw [← hnx]; exact List.length_filter_le _ _
      rw [hnx] at hcj hlj HMI HST
      obtain ⟨y, hy⟩ : ∃ y, minF x f = y := ⟨_, rfl⟩
      rw [hy] at HMI HST hym
      obtain ⟨ny, hny⟩ : ∃ ny, y.length = ny := ⟨_, rfl⟩
      rw [hny] at HMI HST hym
      have HNY := Lib.hid hny
      have HTG := Lib.hid (fun (wx : World) (vy : Value) (hbx : Below wr.heap.size wr wx) (hi : IntsAt wx vy y) => together_any B y f vy u wx hi ((HU.out.below HBR.out (Nat.le_refl _)).below hbx (Nat.le_refl _)) (by omega) (by omega))
      unfold NumsP at HTG
      have HTL := Lib.hid (tog_len y f)
      obtain ⟨z, hz⟩ : ∃ z, togF y f = z := ⟨_, rfl⟩
      rw [hz] at HTG HTL HST
      have HIXF := Lib.hid (fun (wx : World) (vz : Value) (hbx : Below wr.heap.size wr wx) (hi : IntsAt wx vz z) => indexOf_any B A z _ vz wx ((HV.out.below HBR.out (Nat.le_refl _)).below hbx (Nat.le_refl _)) hi (by rw [HLN.out]; omega) (fun l h => by have := HL.out l h; omega) (by have := HTL.out; have := HNY.out; omega))
      unfold IdxPost at HIXF
      have hltc := mem_lt hcj
      have HCJ := Lib.hid hcj
      have hsk : (y ≠ [] ∧ ny = nx ∧ z ∈ A) ∨ ¬ (y ≠ [] ∧ ny = nx ∧ z ∈ A) := Classical.em _
      have hy0 : y = [] ↔ ny = 0 := by rw [← hny]; exact List.length_eq_zero_iff.symm
      have HY0 := Lib.hid hy0
      clear hve hij hjL hx hnx hy hny hz hb hR hsk hy0
      by_cases hskip : ny = 0 ∨ ny < nx
      · have HNO : Hid (linkTo A f (j + 1) = linkTo A f j) := by
          unfold Hid
          rw [HST.out, if_neg, List.append_nil]
          rintro ⟨h1, h2, -⟩
          rcases hskip with h | h
          · exact h1 (HY0.out.2 h)
          · omega
        by_cases hy0 : ny = 0
        all_goals
          first
            | (have q1 : ((ny : Int) == 0) = true := beq_iff_eq.2 (by omega)
               have q2 : (ny == 0) = true := beq_iff_eq.2 hy0)
            | (have q1 : ((ny : Int) == 0) = false := beq_eq_false_iff_ne.2 (by omega)
               have q2 : (ny == 0) = false := beq_eq_false_iff_ne.2 hy0
               have q3 : decide ((ny : Int) < (nx : Int)) = true := decide_eq_true (by omega)
               have q4 : decide (ny < nx) = true := decide_eq_true (by omega))
          clear hskip hy0
          go_wp2_with fail
          refine HMI.out.mono ?_
          rintro e w1 ⟨py, cy, rfl, hb1, hi1⟩
          have hb01 := HBR.out.trans (hb1.mono HBR.out.size)
          have HB1 := Lib.hid hb01
          have hcj1 := (hb1.cell (p := ⟨b, off + j, none⟩) hltc).trans HCJ.out
          have HR1 := Lib.hid (HR.out.below hb1 (Nat.le_refl _))
          clear hb1 hb01 hi1 hcj
          go_wp2_with fail
          go_roundw
          case rel => exact ⟨j + 1, by omega, by go_num, HB1.out, by rw [HNO.out]; exact HR1.out⟩
          case measure => simp [intOf]; omega
      · have q1 : ((ny : Int) == 0) = false := beq_eq_false_iff_ne.2 (by omega)
        have q2 : (ny == 0) = false := beq_eq_false_iff_ne.2 (by omega)
        have q3 : decide ((ny : Int) < (nx : Int)) = false := decide_eq_false (by omega)
        have q4 : decide (ny < nx) = false := decide_eq_false (by omega)
        have hyx : ny = nx := by omega
        have hyn : y ≠ [] := fun h => by have := HY0.out.1 h; omega
        have HYX := Lib.hid hyx
        have HYN := Lib.hid hyn
        clear hskip hyx hyn
        go_wp2_with fail
        refine HMI.out.mono ?_
        rintro e w1 ⟨py, cy, rfl, hb1, hi1⟩
        have HB1 := Lib.hid hb1
        have HI1 := Lib.hid hi1
        have hcj1 := (hb1.cell (p := ⟨b, off + j, none⟩) hltc).trans HCJ.out
        have HTG1 := Lib.hid (HTG.out w1 _ hb1 hi1.at)
        clear hb1 hi1 hcj
        go_wp2_with fail
        refine HTG1.out.mono ?_
        rintro e w2 ⟨pz, cz, rfl, hb2, hi2⟩
        have hb02 := HB1.out.trans (hb2.mono HB1.out.size)
        have HB02 := Lib.hid hb02
        have HIX1 := Lib.hid (HIXF.out w2 _ hb02 hi2.at)
        have HI2 := Lib.hid (HI1.out.below hb2 (Nat.le_refl _))
        clear hb2 hi2 hb02 hcj1
        go_wp2_with fail
        refine HIX1.out.mono ?_
        rintro e w3 ⟨r, rfl, ⟨d, hd⟩, hiff, hlo⟩
        have hb23 : Below w2.heap.size w2 w3 := by rw [hd]; exact Below.drewN w2 d
        have hb03 := HB02.out.trans (hb23.mono HB02.out.size)
        have hb3 := HBR.out.trans (hb03.mono HBR.out.size)
        obtain ⟨hs, h1, h2, h3⟩ := HR.out.below hb03 (Nat.le_refl _)
        obtain ⟨k, hk⟩ : ∃ k, (linkTo A f j).length = k := ⟨_, rfl⟩
        have hkn : k ≤ 1000 := by
          rw [← hk]
          have e1 : (linkTo A f j).length ≤ (A.take j).length := List.length_filterMap_le _ _
          rw [List.length_take] at e1
          omega
        rw [hk] at h1
        have HK := Lib.hid hk
        have H1 := Lib.hid h1
        have H2 := Lib.hid h2
        have H3 := Lib.hid h3
        have HB3 := Lib.hid hb3
        have hws := hb3.size
        have HI3 := Lib.hid (HI2.out.below hb23 (Nat.le_refl _))
        have HIFF := Lib.hid hiff
        clear hd hb23 hb03 hb3 h1 h2 h3 hk hiff HIX1
        by_cases hr : 0 ≤ r
        · have HIN := Lib.hid (HIFF.out.1 hr)
          go_wp2_with (at_builtin; refine wpList_append_lies _ rfl (.tmp 39) (.tmp 41) 22 rfl w.heap.size 26 i39 (.slice none 0 0) 1 24 Tryz.underlying22 hi39 hz0 hz1 hz2 rfl (by decide) _ k hs rfl (H1.out.alloc _) ⟨w3.heap.size, 0, none⟩ 1 1 [.slice py ny cy] rfl rfl (World.news_of_block (cs := #[.slice py ny cy]) (t := 26) (fr := (0, 0)) (heap_alloc_new w3 _)) (by simp [Value.oneCell']) (by decide) (by unfold maxLen; omega) (by omega) (by simp; omega) (w3.heap.size + 1) (by simp) ?_; intro g2 c2 w9 hown2 hgr2 hat2 hlt2; have HO2 := Lib.hid hown2; have HG2 := Lib.hid hgr2; clear hown2 hgr2 hat2 hlt2)
          go_roundw
          case rel =>
            have hbA : Below w3.heap.size w3 (w3.alloc (.cells #[.slice py ny cy] 26)) := (Below.refl _ _).alloc (Nat.le_refl _) _
            refine ⟨j + 1, by omega, by go_num, (HB3.out.alloc hws _).grown HG2.out (by simp; omega) (fun i hi => (H1.out.lt i hi).1), ?_⟩
            rw [HST.out, if_pos ⟨HYN.out, HYX.out, HIN.out⟩]
            exact rowsO_push (w := w3.alloc (.cells #[.slice py ny cy] 26)) (hs := hs) HB.out (by rw [HK.out]; exact H1.out.alloc _) H2.out (fun i hi => (H3.out i hi).below hbA (Nat.le_refl _)) (HI3.out.below hbA (Nat.le_refl _)) (by rw [HK.out]; exact HO2.out) HG2.out
          case measure => simp [intOf]; omega
        · have HIN : Hid (¬ z ∈ A) := fun h => hr (HIFF.out.2 h)
          have hr2 : r < 0 := by omega
          go_wp2_with fail
          go_roundw
          case rel =>
            refine ⟨j + 1, by omega, by go_num, HB3.out, ?_⟩
            rw [HST.out, if_neg (fun h => HIN.out h.2.2), List.append_nil]
            exact ⟨hs, by rw [HK.out]; exact H1.out, H2.out, H3.out⟩
          case measure => simp [intOf]; omega
    · obtain rfl : n = j := by omega
      have HFULL : Hid (linkTo A f n = linkF A f) := by unfold Hid; rw [← HLN.out]; exact linkTo_all A f
      clear hb hR
      go_wp2_with fail
      go_ret
      refine ⟨_, rfl, HBR.out, ?_⟩
      rw [← HFULL.out]
      exact HR.out

theorem cmpErr_nil (v : Value) (w : World) : Calls Tryz.prog 78 #[.nilIface, v] w (fun e w' => e = .returned v ∧ w' = w) := by
  go_enter Tryz.func78, Tryz.ntmps78
  go_wp2_with fail
  go_ret
  exact ⟨rfl, rfl⟩
theorem cmpErr_some (t : TypeId) (p : Value) (v : Value) (w : World) : Calls Tryz.prog 78 #[.iface t p, v] w (fun e w' => e = .returned (.iface t p) ∧ w' = w) := by
  go_enter Tryz.func78, Tryz.ntmps78
  go_wp2_with fail
  go_ret
  exact ⟨rfl, rfl⟩

/-- a closure's answer on a face -/
def AnsP (B : Nat) (l : List Int) (w : World) (e : Ending) (w' : World) : Prop := ∃ p c, e = .returned (.slice p l.length c) ∧ Below w.heap.size w w' ∧ IntsIn B w' (.slice p l.length c) l

set_option maxHeartbeats 4000000 in
theorem star1_any (B b : Nat) (f x : List Int) (u v : Value) (w : World) (hc : w.cell? ⟨b, 0, none⟩ = some v) (hv : IntsAt w v f) (hu : IntsIn B w u x) (hf : f.length ≤ 1000000) (hx : x.length ≤ 1000000) :
    Calls Tryz.prog 87 #[u, .pointer (some ⟨b, 0, none⟩)] w (AnsP B (if partB f x then x else []) w) := by
  have HC := Lib.hid (within_any f x v u w hv hu.at hf hx)
  unfold Gives at HC
  obtain ⟨pu, cu, hue⟩ := hu.len
  obtain ⟨n, hn⟩ : ∃ n, x.length = n := ⟨_, rfl⟩
  rw [hn] at hue
  subst hue
  have HN := Lib.hid hn
  have HU := Lib.hid hu
  obtain ⟨r, hr⟩ : ∃ r, partB f x = r := ⟨_, rfl⟩
  rw [hr] at HC ⊢
  clear hv hu hf hx hr hn
  cases r with
  | true =>
    rw [if_pos rfl]
    unfold AnsP
    rw [HN.out]
    go_enter Tryz.func87, Tryz.ntmps87
    go_wp2_with fail
    refine HC.out.mono ?_
    rintro e w1 ⟨rfl, hb⟩
    have HB := Lib.hid hb
    have HU1 := Lib.hid (HU.out.below hb (Nat.le_refl _))
    clear hb
    go_wp2_with fail
    go_ret
    exact ⟨pu, cu, rfl, HB.out, HU1.out⟩
  | false =>
    rw [if_neg (by decide)]
    unfold AnsP
    go_enter Tryz.func87, Tryz.ntmps87
    go_wp2_with fail
    refine HC.out.mono ?_
    rintro e w1 ⟨rfl, hb⟩
    have HB := Lib.hid hb
    clear hb
    go_wp2_with fail
    go_ret
    exact ⟨none, 0, rfl, HB.out, IntsIn.nil _ _⟩

set_option maxHeartbeats 4000000 in
theorem skel1_any (B b : Nat) (dim : Int) (x : List Int) (u : Value) (w : World) (hc : w.cell? ⟨b, 0, none⟩ = some (.int .i64 dim)) (hu : IntsIn B w u x) (hx : x.length ≤ 1000000) :
    Calls Tryz.prog 89 #[u, .pointer (some ⟨b, 0, none⟩)] w (AnsP B (if dim < (x.length : Int) - 1 then [] else x) w) := by
  obtain ⟨pu, cu, hue⟩ := hu.len
  obtain ⟨n, hn⟩ : ∃ n, x.length = n := ⟨_, rfl⟩
  rw [hn] at hue hx ⊢
  subst hue
  have HN := Lib.hid hn
  have HU := Lib.hid hu
  clear hu hn
  by_cases hd : dim < (n : Int) - 1
  · rw [if_pos hd]
    have q1 : decide (dim < (n : Int) - 1) = true := decide_eq_true hd
    unfold AnsP
    go_enter Tryz.func89, Tryz.ntmps89
    go_wp2_with fail
    go_ret
    exact ⟨none, 0, rfl, Below.refl _ _, IntsIn.nil _ _⟩
  · rw [if_neg hd]
    have q1 : decide (dim < (n : Int) - 1) = false := decide_eq_false hd
    unfold AnsP
    rw [HN.out]
    go_enter Tryz.func89, Tryz.ntmps89
    go_wp2_with fail
    go_ret
    exact ⟨pu, cu, rfl, Below.refl _ _, HU.out⟩

/-- the complex of what was collected, or Valid's error -/
def SomeP (a : Nat → Addr) (B : Nat) (L M : List (List Int)) (w : World) (e : Ending) (w' : World) : Prop :=
  Below w.heap.size w w' ∧
  ((errX L = 0 ∧ ∃ p c, e = .returned (.tuple #[.agg #[.slice p (madeF M).length c], .nilIface]) ∧ RowsO w.heap.size B w' (.slice p (madeF M).length c) (madeF M)) ∨
   (∃ k, k < 8 ∧ errX L = k + 1 ∧ e = .returned (.tuple #[.agg #[.slice none 0 0], errE (a k)])))

/-- Valid's error, or that of a face that is none -/
noncomputable def errS (L : List (List Int)) (f : List Int) : Nat :=
  have := Classical.propDecidable
  if errX L ≠ 0 then errX L else if f ∈ allF L then 0 else 4
def SetsP (a : Nat → Addr) (B : Nat) (er : Nat) (M : List (List Int)) (w : World) (e : Ending) (w' : World) : Prop :=
  Below w.heap.size w w' ∧
  ((er = 0 ∧ ∃ p c, e = .returned (.tuple #[.agg #[.slice p (madeF M).length c], .nilIface]) ∧ RowsO w.heap.size B w' (.slice p (madeF M).length c) (madeF M)) ∨
   (∃ k, k < 8 ∧ er = k + 1 ∧ e = .returned (.tuple #[.agg #[.slice none 0 0], errE (a k)])))
theorem allF_bd0 {L : List (List Int)} {x : List Int} (hx : x ∈ allF L) (hn : L.length ≤ 100000) (hl : ∀ l ∈ L, l.length ≤ 100000) : x.length ≤ 100000 := by
  obtain ⟨-, l, h1, h2⟩ := mem_allF.1 hx
  have h3 := h2.length_le
  rw [sortI_len] at h3
  have := hl l h1
  omega

theorem link11_any (b : Nat) (xs : List Int) (v : Value) (x : Int) (w : World) (hc : w.cell? ⟨b, 0, none⟩ = some v) (hv : IntsAt w v xs) (hx : xs.length ≤ 1000000) :
    Calls Tryz.prog 82 #[.int .i64 x, .pointer (some ⟨b, 0, none⟩)] w (fun e w' => e = .returned (.bool (decide (x ∈ xs))) ∧ w' = w) := by
  have HC := Lib.hid (slContains_any xs v x w hv hx)
  unfold Same at HC
  obtain ⟨r, hr⟩ : ∃ r, decide (x ∈ xs) = r := ⟨_, rfl⟩
  rw [hr] at HC ⊢
  clear hv hx hr
  go_enter Tryz.func82, Tryz.ntmps82
  go_wp2_with fail
  refine HC.out.mono ?_
  rintro e w1 ⟨rfl, rfl⟩
  go_wp2_with fail
  go_ret
  exact ⟨rfl, rfl⟩

/-- the first one that the closure wants -/
def FirstP (p : Int → Bool) (xs : List Int) (w : World) (e : Ending) (w' : World) : Prop :=
  w' = w ∧ ((e = .returned (.int .i64 (-1)) ∧ ∀ k, k < xs.length → p (xs.getD k 0) = false) ∨ ∃ r : Nat, r < xs.length ∧ e = .returned (.int .i64 r) ∧ p (xs.getD r 0) = true ∧ ∀ k, k < r → p (xs.getD k 0) = false)
def FnD (w : World) (c : Value) (p : Int → Bool) : Prop := ∀ x, Calls Tryz.prog 82 #[.int .i64 x, c] w (fun e w' => e = .returned (.bool (p x)) ∧ w' = w)

set_option maxRecDepth 100000 in
set_option maxHeartbeats 8000000 in
theorem firstD_any (c : Value) (p : Int → Bool) (xs : List Int) (v : Value) (w : World) (hf : FnD w c p) (hv : IntsAt w v xs) (hn : xs.length ≤ 1000000) :
    Calls Tryz.prog 111 #[v, .func (.func 82) #[] #[c]] w (FirstP p xs w) := by
  obtain ⟨pv, cv, hve, -⟩ := id hv
  obtain ⟨n, hLn⟩ : ∃ n, xs.length = n := ⟨_, rfl⟩
  unfold FirstP
  rw [hLn] at hve hn ⊢
  subst hve
  have HLN := Lib.hid hLn
  have HV := Lib.hid hv
  have HF := Lib.hid hf
  unfold FnD at HF
  clear hLn hv hf
  go_enter Tryz.func111, Tryz.ntmps111
  go_wp2_with fail
  go_loop [5, 8] (fun _ i => ∃ j : Nat, j ≤ n ∧ i = .int .i64 j ∧ ∀ k, k < j → p (xs.getD k 0) = false) (fun _ i => n - (intOf i).toNat)
  case atStart => exact ⟨0, Nat.zero_le _, rfl, fun k h => absurd h (by omega)⟩
  case round =>
    obtain ⟨j, hj, rfl, hno⟩ := hrel
    have HNO := Lib.hid hno
    clear hno
    by_cases hjn : j < n
    · obtain ⟨p', c', hv', -, -, hx⟩ := id HV.out
      obtain ⟨b, off, e1, e2⟩ := hx j (by rw [HLN.out]; exact hjn)
      obtain ⟨rfl, rfl⟩ : pv = p' ∧ cv = c' := by cases hv'; exact ⟨rfl, rfl⟩
      subst e1
      have HC := Lib.hid (HF.out (xs.getD j 0))
      obtain ⟨x, hxx⟩ : ∃ x, xs.getD j 0 = x := ⟨_, rfl⟩
      rw [hxx] at e2 HC
      obtain ⟨r, hr⟩ : ∃ r, p x = r := ⟨_, rfl⟩
      rw [hr] at HC
      have HX := Lib.hid hxx
      have HR := Lib.hid hr
      clear hx hxx hr hv'
      cases r with
      | true =>
        go_wp2_with fail
        refine HC.out.mono ?_
        rintro e w1 ⟨rfl, rfl⟩
        go_wp2_with fail
        go_ret
        exact ⟨rfl, Or.inr ⟨j, hjn, rfl, by rw [HX.out]; exact HR.out, HNO.out⟩⟩
      | false =>
        go_wp2_with fail
        refine HC.out.mono ?_
        rintro e w1 ⟨rfl, rfl⟩
        go_wp2_with fail
        go_round
        case rel =>
          refine ⟨j + 1, by omega, by go_num, fun k hk => ?_⟩
          rcases (show k < j ∨ k = j by omega) with h | rfl
          · exact HNO.out k h
          · rw [HX.out]; exact HR.out
        case measure => simp [intOf]; omega
    · obtain rfl : n = j := by omega
      go_wp2_with fail
      go_ret
      exact ⟨rfl, Or.inl ⟨rfl, HNO.out⟩⟩

theorem minF_all {x fl : List Int} (h : ∀ k, k < x.length → decide (x.getD k 0 ∈ fl) = false) : minF x fl = x := List.filter_eq_self.2 fun z hz => by
  obtain ⟨k, hk, rfl⟩ := List.getElem_of_mem hz
  have := h k hk
  rw [List.getD_eq_getElem?_getD, List.getElem?_eq_getElem hk] at this
  simpa using this

theorem blk_at2 {w : World} {b : Nat} {cs : Array Value} {t : TypeId} (h : w.heap[b]? = some (.cells cs t (0, 0))) (k : Nat) : w.cell? ⟨b, k, none⟩ = cs[k]? ∧ w.frozen? ⟨b, k, none⟩ = false :=
  ⟨cell_of_row w b k cs t (0, 0) h, frozen_of_row w b k cs t h⟩
theorem blk_frozen {w : World} {b : Nat} {cs : Array Value} {t : TypeId} (h : w.heap[b]? = some (.cells cs t (0, 0))) (k : Nat) : w.frozen? ⟨b, k, none⟩ = false := frozen_of_row w b k cs t h
/-- the row while it is thinned out -/
def DelSt (wr0 wr : World) (O g n cap : Nat) (x fl : List Int) (i j : Nat) : Prop :=
  Below wr0.heap.size wr0 wr ∧ ∃ ys : List Int, ys.length = n ∧ wr.ownsRow O 3 1 (.slice (some ⟨g, 0, none⟩) n cap) n (intVs ys) ∧ ys.take i = minF (x.take j) fl ∧ ys.drop j = x.drop j ∧ i ≤ j ∧ j ≤ n

theorem drop_at {l m : List Int} {j : Nat} (h : l.drop j = m.drop j) : l.getD j 0 = m.getD j 0 := by
  have := congrArg (fun z : List Int => z.getD 0 0) h
  simpa [List.getD_eq_getElem?_getD] using this
theorem drop_succ {l m : List Int} {j : Nat} (h : l.drop j = m.drop j) : l.drop (j + 1) = m.drop (j + 1) := by
  have := congrArg (fun z : List Int => z.drop 1) h
  simpa [List.drop_drop, Nat.add_comm] using this
theorem take_set_snoc {ys : List Int} {i : Nat} {z : Int} (h : i < ys.length) : (ys.set i z).take (i + 1) = ys.take i ++ [z] := by
  rw [take_snoc_getD 0 _ i (by simpa using h), getD_set_same h]
  congr 1
  rw [List.take_set_of_le (Nat.le_refl _)]
theorem drop_set_lt {ys : List Int} {i j : Nat} {z : Int} (h : i < j) : (ys.set i z).drop j = ys.drop j := by rw [List.drop_set_of_lt h]
theorem intVs_set (ys : List Int) (i : Nat) (z : Int) : (intVs ys).set i (.int .i64 z) = intVs (ys.set i z) := by simp [intVs, List.map_set]

theorem setCells_blk {g : Nat} {t : TypeId} : ∀ (vs : List Value) (o : Nat) (w : World) (cs : Array Value), w.heap[g]? = some (.cells cs t (0, 0)) → ∃ cs', (w.setCells g o vs).heap[g]? = some (.cells cs' t (0, 0))
  | [], _, _, cs, h => ⟨cs, h⟩
  | v :: vs, o, w, cs, h => setCells_blk vs (o + 1) (w.setCell ⟨g, o, none⟩ v) _ (set_block h)
theorem setCells_below {B g : Nat} (hg : B ≤ g) : ∀ (vs : List Value) (o : Nat) (w0 w : World), Below B w0 w → Below B w0 (w.setCells g o vs)
  | [], _, _, _, h => h
  | v :: vs, o, w0, w, h => setCells_below hg vs (o + 1) w0 _ (h.setCell hg v)

def DelP (B : Nat) (wr0 : World) (g : Nat) (l : List Int) (e : Ending) (w' : World) : Prop := Below wr0.heap.size wr0 w' ∧ ∃ c, e = .returned (.slice (some ⟨g, 0, none⟩) l.length c) ∧ IntsIn B w' (.slice (some ⟨g, 0, none⟩) l.length c) l

set_option maxRecDepth 100000 in
set_option maxHeartbeats 8000000 in
theorem delF_any (B : Nat) (wr0 w : World) (g cap b n : Nat) (x fl : List Int) (v : Value) (hb : Below wr0.heap.size wr0 w) (hxn : x.length = n) (ho : w.ownsRow wr0.heap.size 3 1 (.slice (some ⟨g, 0, none⟩) n cap) n (intVs x)) (hc : wr0.cell? ⟨b, 0, none⟩ = some v) (hv : IntsAt wr0 v fl) (hx : n ≤ 1000) (hfl : fl.length ≤ 1000000) :
    Calls Tryz.prog 81 #[.slice (some ⟨g, 0, none⟩) n cap, .func (.func 82) #[] #[.pointer (some ⟨b, 0, none⟩)]] w (DelP B wr0 g (minF x fl)) := by
  have HFN := Lib.hid (fun (W : World) (hW : Below wr0.heap.size wr0 W) (z : Int) => link11_any b fl v z W ((hW.cell (p := ⟨b, 0, none⟩) (lt_of_cell hc)).trans hc) (hv.below hW (Nat.le_refl _)) hfl)
  have HFI := Lib.hid (firstD_any (.pointer (some ⟨b, 0, none⟩)) (fun z => decide (z ∈ fl)) x (.slice (some ⟨g, 0, none⟩) n cap) w (fun z => HFN.out w hb z) (ints_owned (B := B) ho hxn.symm).at (by omega))
  unfold FirstP at HFI
  rw [hxn] at HFI
  have HB := Lib.hid hb
  have HO := Lib.hid ho
  have HXN := Lib.hid hxn
  have hgO := (ho.lt g rfl).1
  have hcap : n ≤ cap := by
    rcases ho.2 with ⟨e, _⟩ | ⟨g', cap', cur, e, _, _, h, _⟩
    · cases e
    · cases e; exact h
  clear hb hc hv hfl ho hxn
  unfold DelP
  go_enter Tryz.func81, Tryz.ntmps81
  go_wp2_with fail
  refine HFI.out.mono ?_
  rintro e w1 ⟨hw1, ⟨rfl, hno⟩ | ⟨r, hr, rfl, hpr, hno⟩⟩
  · rw [hw1]
    have HM : Hid (minF x fl = x) := minF_all fun k hk => hno k (by rw [← HXN.out]; exact hk)
    clear hno hw1
    go_wp2_with fail
    go_ret
    refine ⟨HB.out, cap, ?_, ?_⟩
    · rw [HM.out, HXN.out]; rfl
    · rw [HM.out, HXN.out]; exact ints_owned HO.out HXN.out.symm
  · rw [hw1]
    have hstart : minF (x.take (r + 1)) fl = x.take r := by
      rw [take_snoc_getD 0 x r (by rw [HXN.out]; exact hr), minF_snoc, if_pos (by simpa using hpr), List.append_nil]
      refine List.filter_eq_self.2 fun z hz => ?_
      obtain ⟨k, hk, rfl⟩ := List.getElem_of_mem hz
      rw [List.length_take] at hk
      have := hno k (by omega)
      rw [List.getD_eq_getElem?_getD, List.getElem?_eq_getElem (by omega)] at this
      simpa using this
    have HST : Hid (DelSt wr0 w wr0.heap.size g n cap x fl r (r + 1)) := ⟨HB.out, x, HXN.out, HO.out, hstart.symm, rfl, by omega, by omega⟩
    clear hno hw1 hstart hpr
    have hq1 : ((r : Int) == -1) = false := beq_eq_false_iff_ne.2 (by omega)
    go_wp2_with fail
    go_loopw [5, 6, 7] (fun i j _ wr => ∃ (i' j' : Nat), i' < j' ∧ i = .int .i64 i' ∧ j = .int .i64 j' ∧ DelSt wr0 wr wr0.heap.size g n cap x fl i' j') (fun _ j _ _ => n - (intOf j).toNat)
    case atStart => exact ⟨r, r + 1, by omega, rfl, by go_num, HST.out⟩
    case round =>
      obtain ⟨i', j', hij, rfl, rfl, hb, ys, hyl, hyo, hyt, hyd, -, hjn⟩ := hrel
      have HBW := Lib.hid hb
      have HYO := Lib.hid hyo
      have HYL := Lib.hid hyl
      have HYT := Lib.hid hyt
      have HYD := Lib.hid hyd
      by_cases hjn2 : j' < n
      · have hat := (ints_owned (B := B) hyo hyl.symm).at
        obtain ⟨p', c', hv', -, -, hxx⟩ := id hat
        obtain ⟨b2, o2, e1, e2⟩ := hxx j' (by rw [hyl]; exact hjn2)
        obtain ⟨rfl, rfl⟩ : p' = some ⟨g, 0, none⟩ ∧ cap = c' := by cases hv'; exact ⟨rfl, rfl⟩
        cases e1
        rw [drop_at hyd, Nat.zero_add] at e2
        obtain ⟨q', cq', hvq, -, -, hxq⟩ := id hat
        obtain ⟨b3, o3, f1, f2⟩ := hxq i' (by rw [hyl]; omega)
        obtain ⟨rfl, rfl⟩ : q' = some ⟨g, 0, none⟩ ∧ cap = cq' := by cases hvq; exact ⟨rfl, rfl⟩
        cases f1
        rw [Nat.zero_add] at f2
        have HTK := Lib.hid (take_snoc_getD 0 x j' (by rw [HXN.out]; exact hjn2))
        obtain ⟨z, hz⟩ : ∃ z, x.getD j' 0 = z := ⟨_, rfl⟩
        rw [hz] at e2 HTK
        obtain ⟨y, hy⟩ : ∃ y, ys.getD i' 0 = y := ⟨_, rfl⟩
        rw [hy] at f2
        have HC := Lib.hid (HFN.out wr hb z)
        obtain ⟨rb, hrb⟩ : ∃ rb, decide (z ∈ fl) = rb := ⟨_, rfl⟩
        rw [hrb] at HC
        have HR := Lib.hid hrb
        have hfz : wr.frozen? ⟨g, i', none⟩ = false := by
          rcases hyo.2 with ⟨e, _⟩ | ⟨g', cap', cur, e, _, hh, _⟩
          · cases e
          · cases e; exact (blk_frozen hh i')
        clear hat hv' hxx hvq hxq hz hy hrb hb hyo hyl hyt hyd
        cases rb with
        | true =>
          go_wp2_with fail
          refine HC.out.mono ?_
          rintro e w5 ⟨rfl, hw5⟩
          rw [hw5]
          clear hw5
          go_wp2_with fail
          go_roundw
          case rel =>
            refine ⟨i', j' + 1, by omega, rfl, by go_num, HBW.out, ys, HYL.out, HYO.out, ?_, drop_succ HYD.out, by omega, by omega⟩
            rw [HTK.out, minF_snoc, if_pos (of_decide_eq_true HR.out), List.append_nil]
            exact HYT.out
          case measure => simp [intOf]; omega
        | false =>
          have hst := HYO.out.stored i' (.int .i64 z)
          have HS1 := Lib.hid hst.1
          have HS2 := Lib.hid (HBW.out.grown hst.2 HBW.out.size (fun k e => by obtain rfl := Option.some.inj e; exact hgO))
          clear hst
          go_wp2_with fail
          refine HC.out.mono ?_
          rintro e w5 ⟨rfl, hw5⟩
          rw [hw5]
          clear hw5
          go_wp2_with fail
          go_roundw
          case rel =>
            refine ⟨i' + 1, j' + 1, by omega, by go_num, by go_num, HS2.out, ys.set i' z, by rw [List.length_set]; exact HYL.out, by rw [← intVs_set]; exact HS1.out, ?_, ?_, by omega, by omega⟩
            · rw [HTK.out, minF_snoc, if_neg (of_decide_eq_false HR.out), take_set_snoc (by rw [HYL.out]; omega), HYT.out]
            · rw [drop_set_lt (by omega)]; exact drop_succ HYD.out
          case measure => simp [intOf]; omega
      · obtain rfl : n = j' := by omega
        have hblk : ∃ cur, wr.heap[g]? = some (.cells cur 3 (0, 0)) ∧ cur.size = cap := by
          rcases hyo.2 with ⟨e, _⟩ | ⟨g', cap', cur, e, _, hh, _, _, hcs, _⟩
          · cases e
          · cases e; exact ⟨cur, hh, by omega⟩
        obtain ⟨cur, hcur, hcs⟩ := hblk
        have hrf := run_from_ints g 0 n cap i' (by omega) wr
        rw [fromA_lt (by omega), Nat.zero_add] at hrf
        have hcl := Lib.run_clear_slice (P := Tryz.prog) wr 26 3 0 (.int .i64 0) Tryz.underlying26 (fun w => zero_int w) rfl rfl g i' (n - i') (cap - i') (by omega) (fun j hj => by rw [(blk_at2 hcur (i' + j)).1]; simp [hcs]; omega) (fun j hj => (blk_at2 hcur (i' + j)).2)
        obtain ⟨wf, hwf⟩ : ∃ wf, wf = wr.setCells g i' (List.replicate (n - i') (.int .i64 0)) := ⟨_, rfl⟩
        have HBF : Hid (Below wr0.heap.size wr0 wf) := by unfold Hid; rw [hwf]; exact setCells_below hgO _ _ _ _ hb
        have hxf : x.take n = x := List.take_of_length_le (by rw [HXN.out]; exact Nat.le_refl _)
        have hml : (minF x fl).length = i' := by rw [← hxf, ← hyt, List.length_take, hyl]; omega
        have HIF : Hid (IntsIn B wf (.slice (some ⟨g, 0, none⟩) i' cap) (minF x fl)) := by
          obtain ⟨cs', hcs'⟩ := setCells_blk (List.replicate (n - i') (Value.int .i64 0)) i' wr cur hcur
          rw [← hwf] at hcs'
          refine ⟨_, cap, by rw [hml], by rw [hml]; omega, (fun e => by cases e), fun k hk => ⟨g, 0, rfl, ?_, Or.inr ⟨_, hcs'⟩⟩⟩
          rw [hml] at hk
          have h1 : wf.cell? ⟨g, 0 + k, none⟩ = wr.cell? ⟨g, 0 + k, none⟩ := by
            rw [hwf]
            exact World.cell?_setCells_out g _ i' wr ⟨g, 0 + k, none⟩ (fun _ _ => Or.inl (by show 0 + k < i'; omega))
          rw [h1]
          obtain ⟨p', c', hv', -, -, hxx⟩ := (ints_owned (B := B) hyo hyl.symm).at
          obtain ⟨b2, o2, e1, e2⟩ := hxx k (by rw [hyl]; omega)
          have e3 : p' = some ⟨g, 0, none⟩ := by cases hv'; rfl
          rw [e3] at e1
          cases e1
          rw [e2]
          congr 2
          rw [← hxf, ← hyt, List.getD_eq_getElem?_getD, List.getD_eq_getElem?_getD, List.getElem?_take_of_lt hk]
        have HWF := Lib.hid hwf
        have HML := Lib.hid hml
        clear hwf hb hyo hyl hyt hyd hcur hcs hxf hml
        go_wp2_with fail
        rw [← HWF.out]
        go_ret
        refine ⟨HBF.out, cap, ?_, ?_⟩
        · rw [HML.out]; rfl
        · rw [HML.out]; exact HIF.out

set_option maxRecDepth 100000 in
set_option maxHeartbeats 8000000 in
theorem link1_any (B b : Nat) (f x : List Int) (u v : Value) (w : World) (hc : w.cell? ⟨b, 0, none⟩ = some v) (hv : IntsAt w v f) (hu : IntsIn B w u x) (hf : f.length ≤ 1000000) (hx0 : 0 < x.length) (hx7 : x.length ≤ 1000) :
    Calls Tryz.prog 79 #[u, .pointer (some ⟨b, 0, none⟩)] w (AnsP B (if partB f x then minF x f else []) w) := by
  have HC := Lib.hid (within_any f x v u w hv hu.at hf (by omega))
  unfold Gives at HC
  obtain ⟨pu, cu, hue⟩ := hu.len
  obtain ⟨n, hn⟩ : ∃ n, x.length = n := ⟨_, rfl⟩
  rw [hn] at hue hx7 hx0
  subst hue
  have HN := Lib.hid hn
  have HU := Lib.hid hu
  have HV := Lib.hid hv
  have HCC := Lib.hid hc
  have HF := Lib.hid hf
  obtain ⟨r, hr⟩ : ∃ r, partB f x = r := ⟨_, rfl⟩
  rw [hr] at HC ⊢
  clear hv hu hf hr hn
  cases r with
  | true =>
    rw [if_pos rfl]
    unfold AnsP
    go_enter Tryz.func79, Tryz.ntmps79
    go_wp2_with fail
    refine HC.out.mono ?_
    rintro e w1 ⟨rfl, hb1⟩
    have HB1 := Lib.hid hb1
    have hcl := clone_any x (.slice pu n cu) w1 (HU.out.below hb1 (Nat.le_refl _)).at (by rw [HN.out]; omega) (by rw [HN.out]; omega)
    unfold ClonePost at hcl
    rw [HN.out] at hcl
    have HCL := Lib.hid hcl
    clear hb1 hcl
    go_wp2_with fail
    refine HCL.out.mono ?_
    rintro e w2 ⟨g, cap, rfl, hb2, ho2⟩
    have hc1 := (HB1.out.cell (p := ⟨b, 0, none⟩) (lt_of_cell HCC.out)).trans HCC.out
    have hde := delF_any B w1 w2 g cap b n x f v hb2 HN.out ho2 hc1 (HV.out.below HB1.out (Nat.le_refl _)) hx7 HF.out
    unfold DelP at hde
    have HDE := Lib.hid hde
    clear hb2 ho2 hc1 hde HCL
    go_wp2_with fail
    refine HDE.out.mono ?_
    rintro e w3 ⟨hb3, c3, rfl, hi3⟩
    have HB3 := Lib.hid (HB1.out.trans (hb3.mono HB1.out.size))
    have HI3 := Lib.hid hi3
    clear hb3 hi3 HDE
    go_wp2_with fail
    go_ret
    exact ⟨_, c3, rfl, HB3.out, HI3.out⟩
  | false =>
    rw [if_neg (by decide)]
    unfold AnsP
    go_enter Tryz.func79, Tryz.ntmps79
    go_wp2_with fail
    refine HC.out.mono ?_
    rintro e w1 ⟨rfl, hb⟩
    have HB := Lib.hid hb
    clear hb
    go_wp2_with fail
    go_ret
    exact ⟨none, 0, rfl, HB.out, IntsIn.nil _ _⟩
end Go.Proofs.YtipblphfjejpbaaGreatDoor
