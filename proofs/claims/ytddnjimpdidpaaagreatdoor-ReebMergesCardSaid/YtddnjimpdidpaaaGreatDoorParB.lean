/-
  The document's Together, Minus, StarOf, LinkOf, and the law's made, by contracts.
-/
import Derived.Test.YtddnjimpdidpaaaGreatDoorParA
import Derived.Test.YtddnjimpdidpaaaGreatDoorFacB
import Derived.Test.YtddnjimpdidpaaaGreatDoorCelY
set_option linter.unusedSimpArgs false
set_option linter.unusedVariables false
namespace Go.Proofs.YtddnjimpdidpaaaGreatDoor
open Go Go.RowKit Go.Maps

/-- a list of ints in new memory -/
def NumsP (B : Nat) (l : List Int) (w : World) (e : Ending) (w' : World) : Prop := ∃ p c, e = .returned (.slice p l.length c) ∧ Below w.heap.size w w' ∧ IntsIn B w' (.slice p l.length c) l
theorem below_none {w w' : World} (hg : w.grownBy w' none) : Below w.heap.size w w' := (Below.refl _ _).grown hg (Nat.le_refl _) (fun k e => by cases e)

set_option maxRecDepth 100000 in
set_option maxHeartbeats 4000000 in
theorem together_any (B : Nat) (f g : List Int) (u v : Value) (w : World) (hu : IntsAt w u f) (hv : IntsAt w v g) (hf : f.length ≤ 1000) (hg : g.length ≤ 1000) :
    Calls Tryz.prog 96 #[u, v] w (NumsP B (togF f g) w) := by
  obtain ⟨i3, hi3, hy0, hy1, hy2⟩ := info_parts Tryz.info3
  obtain ⟨pu, cu, hue, -⟩ := id hu
  obtain ⟨pv, cv, hve, -⟩ := id hv
  obtain ⟨n, hn⟩ : ∃ n, f.length = n := ⟨_, rfl⟩
  obtain ⟨m, hm⟩ : ∃ m, g.length = m := ⟨_, rfl⟩
  rw [hn] at hue hf
  rw [hm] at hve hg
  subst hue
  subst hve
  have HU := Lib.hid hu
  have HV := Lib.hid hv
  have HN := Lib.hid hn
  have HM := Lib.hid hm
  clear hu hv hn hm
  go_enter Tryz.func96, Tryz.ntmps96
  go_upto_region 3 with (at_builtin; refine wpList_app_any w rfl (.tmp 8) (.tmp 9) 23 rfl w.heap.size 3 i3 (.int .i64 0) 8 Tryz.underlying23 hi3 hy0 hy1 hy2 rfl (.slice none 0 0) 0 [] rfl (World.ownsRow_nil _ _ _ _) pu n cu (intVs f) rfl HU.out.lenE HU.out.noneE HU.out.news (intVs_one _) (by unfold maxLen; omega) (by omega) (Nat.le_refl _) _ rfl ?_; intro p1 c1 w1 ho1 hg1 hat1; have HO1 := Lib.hid ho1; have HB1 := Lib.hid (below_none (w := w) (w' := w1) hg1); clear ho1 hg1 hat1)
  have ho1 := HO1.out
  simp only [Nat.zero_add, List.nil_append] at ho1
  have HO1' := Lib.hid ho1
  have hs1 := HB1.out.size
  have HV1 := Lib.hid (HV.out.below HB1.out (Nat.le_refl _))
  clear ho1 HO1
  go_upto_region 4 with (at_builtin; refine wpList_app_any w1 rfl (.tmp 11) (.tmp 12) 23 rfl w.heap.size 3 i3 (.int .i64 0) 8 Tryz.underlying23 hi3 hy0 hy1 hy2 rfl (.slice p1 n c1) n (intVs f) rfl HO1'.out pv m cv (intVs g) rfl HV1.out.lenE HV1.out.noneE HV1.out.news (intVs_one _) (by unfold maxLen; omega) (by omega) (by omega) _ rfl ?_; intro p2 c2 w2 ho2 hg2 hat2; have HO2 := Lib.hid ho2; have HB2 := Lib.hid (HB1.out.grown hg2 hs1 (fun k e => (HO1'.out.lt k e).1)); clear ho2 hg2 hat2)
  have hi2 : IntsAt w2 (.slice p2 (n + m) c2) (f ++ g) := by
    have h := HO2.out
    have e : intVs f ++ intVs g = intVs (f ++ g) := by simp [intVs]
    rw [e] at h
    exact (ints_owned (B := 0) h (by simp [HN.out, HM.out])).at
  have HSO := Lib.hid (sorted_any (f ++ g) _ w2 hi2 (by simp [HN.out, HM.out]; omega))
  unfold SortedPost at HSO
  clear hi2
  go_wp2_with fail
  refine HSO.out.mono ?_
  rintro e w3 ⟨v3, rfl, hb3, ho3⟩
  obtain ⟨p3, c3, hv3⟩ := (ints_owned (B := B) ho3 rfl).len
  have HI3 := Lib.hid (ints_owned (B := B) ho3 rfl)
  have HB3 := Lib.hid (HB2.out.trans (hb3.mono HB2.out.size))
  rw [hv3] at HI3 ⊢
  obtain ⟨s, hs⟩ : ∃ s, (setL (f ++ g)).length = s := ⟨_, rfl⟩
  rw [hs] at HI3 ⊢
  have HSS : Hid ((togF f g).length = s) := hs
  clear hb3 ho3 hv3 hs
  go_wp2_with fail
  go_ret
  refine ⟨p3, c3, ?_, HB3.out, ?_⟩
  · rw [HSS.out]; rfl
  · rw [HSS.out]; exact HI3.out

theorem minF_snoc (f : List Int) (x : Int) (g : List Int) : minF (f ++ [x]) g = minF f g ++ (if x ∈ g then [] else [x]) := by
  unfold minF
  rw [List.filter_append]
  by_cases h : x ∈ g <;> simp [h]

set_option maxRecDepth 100000 in
set_option maxHeartbeats 8000000 in
theorem minus_any (B : Nat) (f g : List Int) (u v : Value) (w : World) (hu : IntsAt w u f) (hv : IntsAt w v g) (hf : f.length ≤ 1000) (hg : g.length ≤ 1000) :
    Calls Tryz.prog 44 #[u, v] w (NumsP B (minF f g) w) := by
  obtain ⟨i3, hi3, hy0, hy1, hy2⟩ := info_parts Tryz.info3
  obtain ⟨pu, cu, hue, -⟩ := id hu
  obtain ⟨n, hn⟩ : ∃ n, f.length = n := ⟨_, rfl⟩
  rw [hn] at hue hf
  subst hue
  have HU := Lib.hid hu
  have HN := Lib.hid hn
  have HCN := Lib.hid (fun (wx : World) (hb : Below w.heap.size w wx) (x : Int) => contains_any g v x wx (hv.below hb (Nat.le_refl _)) (by omega))
  unfold Same at HCN
  clear hu hn hv
  go_enter Tryz.func44, Tryz.ntmps44
  go_wp2_with fail
  go_loopw [5, 6, 7] (fun s i _ wr => ∃ j : Nat, j ≤ n ∧ i = .int .i64 j ∧ Below w.heap.size w wr ∧ wr.ownsRow w.heap.size 3 1 s (minF (f.take j) g).length (intVs (minF (f.take j) g))) (fun _ i _ _ => n - (intOf i).toNat)
  case atStart => exact ⟨0, Nat.zero_le _, rfl, Below.refl _ _, World.ownsRow_nil _ _ _ _⟩
  case round =>
    obtain ⟨j, hj, rfl, hb, hO⟩ := hrel
    have HB := Lib.hid hb
    have hsw := hb.size
    by_cases hjn : j < n
    · obtain ⟨p', c', hv', -, -, hx⟩ := id (HU.out.below hb (Nat.le_refl _))
      obtain ⟨b, off, e1, e2⟩ := hx j (by rw [HN.out]; exact hjn)
      obtain ⟨rfl, rfl⟩ : p' = pu ∧ c' = cu := by cases hv'; exact ⟨rfl, rfl⟩
      subst e1
      have HTK := Lib.hid (take_snoc_getD 0 f j (by rw [HN.out]; exact hjn))
      obtain ⟨x, hxx⟩ : ∃ x, f.getD j 0 = x := ⟨_, rfl⟩
      rw [hxx] at e2 HTK
      have HC := Lib.hid (HCN.out wr hb x)
      obtain ⟨r, hr⟩ : ∃ r, g.contains x = r := ⟨_, rfl⟩
      rw [hr] at HC
      have HR : Hid (r = decide (x ∈ g)) := by unfold Hid; rw [← hr, Bool.eq_iff_iff]; simp
      obtain ⟨k, hk⟩ : ∃ k, (minF (f.take j) g).length = k := ⟨_, rfl⟩
      rw [hk] at hO
      have hkn : k ≤ 1000 := by
        rw [← hk]
        have h1 : (minF (f.take j) g).length ≤ (f.take j).length := List.length_filter_le _ _
        rw [List.length_take] at h1
        omega
      have HK := Lib.hid hk
      have HO := Lib.hid hO
      clear hv' hx hxx hr hb hO hk
      cases r with
      | true =>
        go_wp2_with fail
        refine HC.out.mono ?_
        rintro e w1 ⟨rfl, rfl⟩
        go_wp2_with fail
        go_roundw
        case rel =>
          refine ⟨j + 1, by omega, by go_num, HB.out, ?_⟩
          rw [HTK.out, minF_snoc, if_pos (of_decide_eq_true HR.out.symm), List.append_nil, HK.out]
          exact HO.out
        case measure => simp [intOf]; omega
      | false =>
        go_wp2_with fail
        refine HC.out.mono ?_
        rintro e w1 ⟨rfl, rfl⟩
        go_wp2_with (at_builtin; refine wpList_append_lies _ rfl (.tmp 22) (.tmp 27) 23 rfl w.heap.size 3 i3 (.int .i64 0) 1 8 Tryz.underlying23 hi3 hy0 hy1 hy2 rfl (by decide) _ k (intVs (minF (f.take j) g)) rfl (HO.out.alloc _) ⟨w1.heap.size, 0, none⟩ 1 1 [.int .i64 x] rfl rfl (World.news_of_block (cs := #[.int .i64 x]) (t := 3) (fr := (0, 0)) (heap_alloc_new w1 _)) (by simp [Value.oneCell']) (by decide) (by unfold maxLen; omega) (by omega) (by simp; omega) (w1.heap.size + 1) (by simp) ?_; intro g2 c2 w9 hown2 hgr2 hat2 hlt2; have HO2 := Lib.hid hown2; have HG2 := Lib.hid hgr2; clear hown2 hgr2 hat2 hlt2)
        go_roundw
        case rel =>
          refine ⟨j + 1, by omega, by go_num, (HB.out.alloc hsw _).grown HG2.out (by simp; omega) (fun i hi => (HO.out.lt i hi).1), ?_⟩
          rw [HTK.out, minF_snoc, if_neg (of_decide_eq_false HR.out.symm), List.length_append, intVs_snoc, HK.out]
          exact HO2.out
        case measure => simp [intOf]; omega
    · obtain rfl : n = j := by omega
      have hI := ints_owned (B := B) hO rfl
      rw [List.take_of_length_le (by rw [HN.out]; exact Nat.le_refl _)] at hI
      obtain ⟨p3, c3, hv3⟩ := hI.len
      rw [hv3] at hI
      obtain ⟨s, hs⟩ : ∃ s, (minF f g).length = s := ⟨_, rfl⟩
      rw [hs] at hI hv3
      subst hv3
      have HI := Lib.hid hI
      have HSS := Lib.hid hs
      clear hb hO hI hs
      go_wp2_with fail
      go_ret
      refine ⟨p3, c3, ?_, HB.out, ?_⟩
      · rw [HSS.out]; rfl
      · rw [HSS.out]; exact HI.out
end Go.Proofs.YtddnjimpdidpaaaGreatDoor
