/-
  index.Indices by a contract, where nothing is wrong.
-/
import Derived.Test.YtddnjimpdidpaaaGreatDoorIxO
import Derived.Test.YtddnjimpdidpaaaGreatDoorIxS
import Derived.StillTailTactics
set_option linter.unusedSimpArgs false
set_option linter.unusedVariables false
namespace Go.Proofs.YtddnjimpdidpaaaGreatDoor
open Go Go.RowKit Go.Maps

theorem allF_0' {L : List (List Int)} (h : errC L = 0) : ∀ g ∈ allF L, ∀ x ∈ g, 0 ≤ x ∧ x ≤ 99 := fun g hg => isF_bd (errC_ok h).1 (mem_allF.1 hg)
theorem errR_0 {L : List (List Int)} {h : List Int} (he : errR L h = 0) : errX L = 0 ∧ okH (vertA L) h := by
  by_cases h0 : errX L = 0
  · refine ⟨h0, Classical.byContradiction fun hk => ?_⟩
    rw [errR_3 h0 hk] at he
    cases he
  · unfold errR at he
    rw [if_neg h0] at he
    exact absurd he h0
set_option maxRecDepth 100000 in
set_option maxHeartbeats 16000000 in
theorem indices_ok (a : Nat → Addr) (B : Nat) (L : List (List Int)) (h : List Int) (v vh : Value) (w : World) (hS : Sents w a) (hB : B ≤ w.heap.size) (hv : ListsIn B w v L) (hn : L.length ≤ 100000) (hl : ∀ l ∈ L, l.length ≤ 100000) (hvh : IntsIn B w vh h) (hlen : h.length ≤ 100000) (he : errR L h = 0) :
    Calls Tryz.prog 19 #[.agg #[v], vh] w (IdcP a L h w) := by
  obtain ⟨h0, hok⟩ := errR_0 he
  obtain ⟨i3, hi3, hy0, hy1, hy2⟩ := info_parts Tryz.info3
  have hmm := @run_makeMap Tryz.prog
  obtain ⟨pv, cv, hve, -⟩ := id hv
  generalize hLn : L.length = m at hve
  subst hve
  have hCH := fun wx (hx : Below w.heap.size w wx) => check_any a B L h (.slice pv m cv) vh wx (hS.below hx (Nat.le_refl _)) (Nat.le_trans hB hx.size) (hv.below hx (Nat.le_refl _)) hn hl (hvh.below hx (Nat.le_refl _)) hlen
  rw [he, errV_0] at hCH
  have HCH := Lib.hid hCH
  obtain ⟨hfl, hvl⟩ := right_small h0
  have HVE := Lib.hid (fun wx (hx : Below w.heap.size w wx) => vertices_any B L (.slice pv m cv) wx (hv.below hx (Nat.le_refl _)) hn hfl)
  unfold NumsP at HVE
  have HTB := Lib.hid (fun wx (hx : Below w.heap.size w wx) => table_any a B L (.slice pv m cv) wx (hS.below hx (Nat.le_refl _)) (Nat.le_trans hB hx.size) (hv.below hx (Nat.le_refl _)) hn hl)
  unfold TabPost at HTB
  have HVH := Lib.hid (fun wx (hx : Below w.heap.size w wx) => hvh.below hx (Nat.le_refl _))
  obtain ⟨w0, hw0⟩ : ∃ w0, w.alloc (.cells #[.slice pv m cv] 34) = w0 := ⟨_, rfl⟩
  have HB0 := Lib.hid (lit_below' w (.cells #[.slice pv m cv] 34))
  have HK0 := Lib.hid (heap_alloc_new w (.cells #[.slice pv m cv] 34))
  rw [hw0] at HB0 HK0
  have HW0 := Lib.hid hw0
  unfold IdcP
  rw [he, errV_0]
  obtain ⟨V, hV⟩ : ∃ V, vertA L = V := ⟨_, rfl⟩
  have hVr : Rise V := by rw [← hV]; exact rise_setL _
  rw [hV] at HVE hok hvl ⊢
  have hlV := hok.1
  obtain ⟨n, hnn⟩ : ∃ n, V.length = n := ⟨_, rfl⟩
  rw [hnn] at HVE hlV hvl
  obtain ⟨ph, ch, hve, -⟩ := id hvh
  rw [← hlV] at hve
  subst hve
  have HN := Lib.hid hnn
  have HL := Lib.hid hlV
  have HVR := Lib.hid hVr
  have HBD : Hid (∀ j, j < n → -1048576 ≤ h.getD j 0 ∧ h.getD j 0 ≤ 1048576) := fun j hj => (hok.2 j (by rw [← hlV]; exact hj)).1
  have HX0 := Lib.hid h0
  have HA6 : Hid ((allF L).length ≤ 600) := (errC_ok (errX_ok h0).1).2.2
  have HT7 : Hid (topN (allF L) ≤ 7) := topN_7 (errX_ok h0).1
  have hndV : V.Nodup := List.Pairwise.imp (fun h => by omega) hVr
  have HHF : Hid (∀ i, i < n → hiF V h (V.getD i 0) = h.getD i 0) := fun i hi2 => by
    exact hi_first (by rw [hnn]; exact hi2) rfl fun j hj e2 => by
      have := nod_inj' hndV (by rw [hnn]; omega) (by rw [hnn]; exact hi2) e2
      omega
  have HINJ0 : Hid (∀ x ∈ V, ∀ y ∈ V, hiF V h x = hiF V h y → x = y) := fun x hx y hy e => by
    obtain ⟨i, hi2, rfl⟩ := List.getElem_of_mem hx
    obtain ⟨k, hk2, rfl⟩ := List.getElem_of_mem hy
    rw [← getD_elem hi2, ← getD_elem hk2, HHF.out i (by rw [← hnn]; exact hi2), HHF.out k (by rw [← hnn]; exact hk2)] at e
    have hu := unlike_nodup.1 fun j hj => (hok.2 j hj).2
    have := nod_inj' hu (by rw [← hlV, ← hnn]; exact hi2) (by rw [← hlV, ← hnn]; exact hk2) e
    subst this; rfl
  have HFV : Hid (∀ f ∈ allF L, (∀ x ∈ f, x ∈ V) ∧ f.length ≤ 7) := fun f hf => by
    refine ⟨fun x hx => ?_, allF_bd (errX_ok h0).1 f hf⟩
    rw [← hV, ← vert_same h0, mem_vertR]
    exact closed_under f hf [x] (List.singleton_sublist.2 hx) (by simp)
  have HN6 : Hid (n ≤ 1000) := by
    have e1 := vertR_len (allF L)
    rw [vert_same h0, hV, hnn] at e1
    have e2 := (errC_ok (errX_ok h0).1).2.2
    unfold Hid; omega
  have HIN : Hid (∀ z ∈ V, InI z) := fun z hz => by
    have hz2 : z ∈ vertR (allF L) := by rw [vert_same h0, hV]; exact hz
    have := allF_0' (errX_ok h0).1 [z] (mem_vertR.1 hz2) z (List.mem_singleton_self z)
    unfold InI; omega
  clear hS hB hv hn hl hvh hlen hLn hw0 he h0 hok hCH hfl hVr hnn hlV hV
  go_enter Tryz.func19, Tryz.ntmps19
  go_wp2_with fail
  rw [HW0.out]
  refine (HCH.out _ HB0.out).mono ?_
  rintro e w1 ⟨rfl, hb⟩
  have HB1 := Lib.hid (HB0.out.trans (hb.mono HB0.out.size))
  have hk1 := (hb.block _ (Array.getElem?_eq_some_iff.1 HK0.out).1).trans HK0.out
  have HK1 := Lib.hid hk1
  have c1 := (one_at hk1).1
  clear hb HCH hk1
  go_wp2_with fail
  refine (HVE.out _ HB1.out).mono ?_
  rintro e w2 ⟨pV, cV, rfl, hb, hiV⟩
  have HB2 := Lib.hid (HB1.out.trans (hb.mono HB1.out.size))
  have HIV := Lib.hid hiV
  have HK2 := Lib.hid ((hb.block _ (Array.getElem?_eq_some_iff.1 HK1.out).1).trans HK1.out)
  clear hb hiV HVE c1
  go_wp2_with fail
  obtain ⟨o2, ho2⟩ : ∃ o, w2.heap.size = o := ⟨_, rfl⟩
  obtain ⟨w3, hw3⟩ : ∃ w3, w3 = (w2.alloc (.map #[] 0)).alloc (.cells #[.map (some w2.heap.size)] 90) := ⟨_, rfl⟩
  rw [← hw3]
  have hm3 : HtMap w3 o2 [] h := by
    rw [hw3, ← ho2]
    exact (HtMap.made w2 h).below (lit_below' _ _) (Nat.le_refl _)
  have hk3 : w3.heap[o2 + 1]? = some (.cells #[.map (some o2)] 90 (0, 0)) := by
    rw [hw3, ← ho2]
    have h1 := heap_alloc_new (w2.alloc (.map #[] 0)) (.cells #[.map (some w2.heap.size)] 90)
    rw [show (w2.alloc (.map #[] 0)).heap.size = w2.heap.size + 1 by simp] at h1
    exact h1
  have hb3 : Below o2 w2 w3 := by rw [hw3, ← ho2]; exact ((Below.refl _ _).alloc (Nat.le_refl _) _).alloc (by simp) _
  rw [ho2]
  have HO2 := Lib.hid ho2
  have HM3 := Lib.hid hm3
  have HK3 := Lib.hid hk3
  have HB3 := Lib.hid hb3
  have HGE : Hid (w.heap.size ≤ o2) := by unfold Hid; rw [← ho2]; exact HB2.out.size
  clear hw3 hm3 hk3 hb3 ho2
  go_loopw [32] (fun i wr => ∃ j : Nat, j ≤ n ∧ i = .int .i64 (j : Int) ∧ w3.grownBy wr (some o2) ∧ HtMap wr o2 (V.take j) h) (fun i _ => n - (intOf i).toNat)
  case atStart => exact ⟨0, Nat.zero_le _, rfl, ⟨rfl, rfl, rfl, Nat.le_refl _, fun _ _ _ => rfl⟩, HM3.out⟩
  case round =>
    obtain ⟨j, hj, rfl, hg, hm⟩ := hrel
    have hbr : Below o2 w2 wr := HB3.out.grown hg (by have := HM3.out.lt; omega) (fun k e => by have := Option.some.inj e; omega)
    have hbw : Below w.heap.size w wr := HB2.out.trans (hbr.mono HGE.out)
    have HBW := Lib.hid hbw
    by_cases hjn : j < n
    · obtain ⟨b1, o1, q1, e1, c2⟩ := ints_cell (HIV.out.below hbr (by rw [HO2.out]; exact Nat.le_refl _)) j (by rw [HN.out]; exact hjn)
      rw [HN.out] at e1
      obtain ⟨rfl, rfl⟩ : pV = some ⟨b1, o1, none⟩ ∧ cV = q1 := by cases e1; exact ⟨rfl, rfl⟩
      obtain ⟨b3, o3, q3, e3, c4⟩ := ints_cell (HVH.out _ hbw) j (by rw [← HL.out]; exact hjn)
      rw [← HL.out] at e3
      obtain ⟨rfl, rfl⟩ : ph = some ⟨b3, o3, none⟩ ∧ ch = q3 := by cases e3; exact ⟨rfl, rfl⟩
      have c8 : wr.cell? ⟨o2 + 1, 0, none⟩ = some (.map (some o2)) := (one_at ((hg.block (o2 + 1) (Array.getElem?_eq_some_iff.1 HK3.out).1 (fun e => by have := Option.some.inj e; omega)).trans HK3.out)).1
      have hln : (V.take j).length = j := by rw [List.length_take, HN.out]; omega
      have htk := take_snoc_getD 0 V j (by rw [HN.out]; exact hjn)
      have hnot : V.getD j 0 ∉ V.take j := fun hmem => by
        obtain ⟨i, hi, e⟩ := List.getElem_of_mem hmem
        rw [hln] at hi
        rw [List.getElem_take, getD_elem (by rw [HN.out]; exact hjn)] at e
        have hnd : V.Nodup := List.Pairwise.imp (fun h => by omega) HVR.out
        have := (List.getElem_inj hnd).1 e
        omega
      have hin : ∀ z ∈ V, InI z := fun z hz => HIN.out z hz
      have hxV : V.getD j 0 ∈ V := by rw [getD_elem (by rw [HN.out]; exact hjn)]; exact List.getElem_mem _
      obtain ⟨wx, hrun, hmx, hgx⟩ := HtMap.put (w := wr.drew) (hm.below ((Below.refl wr.heap.size wr).drew) (Nat.le_refl _)) (fun z hz => hin z (List.mem_of_mem_take hz)) (hin _ hxV) hnot
      rw [hln] at hrun
      rw [← htk] at hmx
      obtain ⟨x, hx⟩ : ∃ x, V.getD j 0 = x := ⟨_, rfl⟩
      obtain ⟨y, hy⟩ : ∃ y, h.getD j 0 = y := ⟨_, rfl⟩
      rw [hx] at c2 hrun
      rw [hy] at c4 hrun
      have HMX := Lib.hid hmx
      have HGX : Hid (w3.grownBy wx (some o2)) := (hg.trans (show wr.grownBy wr.drew (some o2) from ⟨rfl, rfl, rfl, Nat.le_refl _, fun _ _ _ => rfl⟩)).trans hgx
      clear e1 e3 hg hm hbr hbw hln htk hnot hin hxV hmx hgx hx hy
      go_wp2_with fail
      go_still_tail 6, (by kernel_rfl)
      change wpList _ _ _ _ _ wr.drew
      go_wp2_with fail
      go_roundw
      case rel => exact ⟨j + 1, hjn, by go_num, HGX.out, HMX.out⟩
      case measure => simp [intOf]; omega
    · obtain rfl : n = j := by omega
      rw [show V.take n = V by rw [← HN.out]; exact List.take_length] at hm
      obtain ⟨w4, hw4⟩ : ∃ w4, wr = w4 := ⟨_, rfl⟩
      rw [hw4] at hg hm hbw HBW ⊢
      have c8 := (hg.block (o2 + 1) (Array.getElem?_eq_some_iff.1 HK3.out).1 (fun e => by have := Option.some.inj e; omega)).trans HK3.out
      have HK4 := Lib.hid c8
      have HM4 := Lib.hid hm
      have hb24 : Below o2 w2 w4 := HB3.out.grown hg (by have := HM3.out.lt; omega) (fun k e => by have := Option.some.inj e; omega)
      have HIV4 := Lib.hid (HIV.out.below hb24 (by rw [HO2.out]; exact Nat.le_refl _))
      have hkc := (hb24.block w.heap.size (by have := (Array.getElem?_eq_some_iff.1 HK2.out).1; rw [HO2.out] at this; exact this)).trans HK2.out
      have HKC := Lib.hid hkc
      have c1 := (one_at hkc).1
      clear hg hm hw4 hb24 hkc hbw c8 hbr
      go_wp2_with fail
      refine (HTB.out _ HBW.out).mono ?_
      rintro e w5 ⟨hb, ⟨hx0, tv, rfl, hT⟩ | ⟨k, hk, hek, rfl⟩⟩
      rotate_left
      · exact absurd HX0.out (by omega)
      have HB5 := Lib.hid (HBW.out.trans (hb.mono HBW.out.size))
      have HB45 := Lib.hid hb
      have htab := hT.tab
      obtain ⟨pt, ct, hte, -⟩ := id htab
      obtain ⟨T, hTT⟩ : ∃ T, tableF (allF L) = T := ⟨_, rfl⟩
      rw [hTT] at htab hte
      obtain ⟨nt, hnt⟩ : ∃ q, T.length = q := ⟨_, rfl⟩
      rw [hnt] at hte
      subst hte
      have HTAB := Lib.hid htab
      have HTT := Lib.hid hTT
      have HNT := Lib.hid hnt
      have hntb : nt ≤ 7 := by rw [← hnt, ← hTT, tableF_len]; exact HT7.out
      clear hb hx0 hT htab hTT hnt HTB c1
      have hr1 := repI_any (.int .i64 1) rfl n HN6.out (w5.alloc (.cells #[.int .i64 1] 3)) ⟨w5.heap.size, 0, none⟩ 1 (one_at (heap_alloc_new w5 (.cells #[.int .i64 1] 3))).1 (by simp)
      unfold RepI at hr1
      have HR1 := Lib.hid hr1
      clear hr1
      go_wp2_with fail
      refine HR1.out.mono ?_
      rintro e w6 ⟨g, hgs, rfl, hg6, hb6⟩
      have hba := lit_below' w5 (.cells #[.int .i64 1] 3)
      have hb56 : Below w5.heap.size w5 w6 := hba.trans (hb6.mono hba.size)
      have HB6 := Lib.hid (HB5.out.trans (hb56.mono HB5.out.size))
      have HB56 := Lib.hid hb56
      have HG6 := Lib.hid hg6
      have HGS : Hid (w5.heap.size < g) := by unfold Hid; simp at hgs; omega
      clear hgs hg6 hb6 hba hb56 HR1
      go_wp2_with fail
      obtain ⟨hi, hhi⟩ : ∃ f, hiF V h = f := ⟨_, rfl⟩
      have HHI := Lib.hid hhi
      have HINJ : Hid (∀ x ∈ V, ∀ y ∈ V, hi x = hi y → x = y) := by rw [← hhi]; exact HINJ0.out
      have HROW : Hid (∀ j, j < nt → ∀ f ∈ T.getD j [], f ∈ allF L ∧ f.length = j + 1) := fun j hj f hf => by
        have hj2 : j < topN (allF L) := by rw [← tableF_len, HTT.out, HNT.out]; exact hj
        rw [← HTT.out, tableF_at hj2] at hf
        exact ⟨(List.mem_filter.1 hf).1, of_decide_eq_true (List.mem_filter.1 hf).2⟩
      have HHB : Hid (∀ z ∈ V, -1048576 ≤ hiF V h z ∧ hiF V h z ≤ 1048576) := fun z hz => by
        obtain ⟨i, hi2, rfl⟩ := List.getElem_of_mem hz
        rw [← getD_elem hi2, HHF.out i (by rw [← HN.out]; exact hi2)]
        exact HBD.out i (by rw [← HN.out]; exact hi2)
      have HPL : Hid (∀ s t, ((T.take (s + 1)).flatten ++ (T.getD (s + 1) []).take t).length ≤ 600) := fun s t => by
        have hp := (tab_perm (A := allF L) allF_ne (allF_sorted L).nodup).length_eq
        rw [HTT.out] at hp
        have h6 := HA6.out
        rw [List.length_append, List.length_take]
        by_cases hsj : s + 1 < T.length
        · have := flat_succ hsj
          omega
        · have e : T.getD (s + 1) [] = [] := by rw [List.getD_eq_getElem?_getD, List.getElem?_eq_none (by omega)]; rfl
          have := flat_len T (s + 1)
          rw [e, List.length_nil]
          omega
      have HST0 := Lib.hid (OutS.start (hi := hi) HG6.out HN.out)
      have HTN : Hid (∀ j, j < nt → ∃ b off u, pt = some ⟨b, off, none⟩ ∧ w5.cell? ⟨b, off + j, none⟩ = some u ∧ ListsIn B w5 u (T.getD j [])) := fun j hj => by
        obtain ⟨p, c, e, -, -, hx⟩ := HTAB.out
        rw [HNT.out] at e
        cases e
        exact hx j (by rw [HNT.out]; exact hj)
      go_loopw [55] (fun i wr => ∃ j : Nat, j ≤ nt ∧ i = .int .i64 (j : Int) ∧ Below w5.heap.size w5 wr ∧ OutS wr g V hi (T.take j).flatten) (fun i _ => nt - (intOf i).toNat)
      case atStart => exact ⟨0, Nat.zero_le _, rfl, HB56.out, HST0.out⟩
      case round =>
        obtain ⟨j, hj, rfl, hb, hst⟩ := hrel
        obtain ⟨wo, rfl⟩ : ∃ wo : World, wo = wr := ⟨_, rfl⟩
        have HBO := Lib.hid hb
        have HSTO := Lib.hid hst
        clear hb hst
        by_cases hjn : j < nt
        · obtain ⟨b, off, u, e1, e2, e3⟩ := HTN.out j hjn
          subst e1
          have e4 := (HBO.out.cell (p := ⟨b, off + j, none⟩) (mem_lt e2)).trans e2
          obtain ⟨R, hR⟩ : ∃ R, T.getD j [] = R := ⟨_, rfl⟩
          rw [hR] at e3
          have HRR := Lib.hid hR
          obtain ⟨pr, cr, hue, -⟩ := id e3
          obtain ⟨q, hq⟩ : ∃ q, R.length = q := ⟨_, rfl⟩
          rw [hq] at hue
          subst hue
          have HQ := Lib.hid hq
          have hqb : q ≤ 1000 := by
            have e5 : R = rowF (allF L) j := by rw [← hR, ← HTT.out, tableF_at (by rw [← tableF_len, HTT.out, HNT.out]; exact hjn)]
            have e6 : (rowF (allF L) j).length ≤ (allF L).length := List.length_filter_le _ _
            have e7 := HA6.out
            rw [← hq, e5]; omega
          have HR5 := Lib.hid e3
          clear e2 e3 hR hq
          go_wp2_with fail
          go_loopw [62] (fun i wr => ∃ t : Nat, t ≤ q ∧ i = .int .i64 (t : Int) ∧ Below w5.heap.size w5 wr ∧ OutS wr g V hi ((T.take j).flatten ++ R.take t)) (fun i _ => q - (intOf i).toNat)
          case atStart => exact ⟨0, Nat.zero_le _, rfl, HBO.out, by rw [List.take_zero, List.append_nil]; exact HSTO.out⟩
          case round =>
            obtain ⟨t, ht, rfl, hb, hst⟩ := hrel
            by_cases htq : t < q
            · have HBT := Lib.hid hb
              have HSTT := Lib.hid hst
              obtain ⟨bl, ol, c, hve⟩ := HR5.out.form (by rw [HQ.out]; omega)
              rw [HQ.out] at hve
              obtain ⟨rfl, rfl⟩ : pr = some ⟨bl, ol, none⟩ ∧ cr = c := by cases hve; exact ⟨rfl, rfl⟩
              obtain ⟨pj, cj, hcj, hij⟩ := cells_at (HR5.out.below hb (Nat.le_refl _)) t (by rw [HQ.out]; exact htq)
              have hfm : R.getD t [] ∈ R := getL_mem (by rw [HQ.out]; exact htq)
              have hfr := HROW.out j hjn _ (by rw [HRR.out]; exact hfm)
              obtain ⟨hf1, hf2⟩ := hfr
              obtain ⟨hf3, hf4⟩ := HFV.out _ hf1
              have htk := take_snoc_getD [] R t (by rw [HQ.out]; exact htq)
              obtain ⟨f, hf⟩ : ∃ f, R.getD t [] = f := ⟨_, rfl⟩
              rw [hf] at hcj hij hf1 hf2 hf3 hf4 htk
              have hnd : V.Nodup := List.Pairwise.imp (fun h => by omega) HVR.out
              have hkc := (hb.block _ (by have := HB45.out.size; have := (Array.getElem?_eq_some_iff.1 HK4.out).1; omega)).trans ((HB45.out.block _ (Array.getElem?_eq_some_iff.1 HK4.out).1).trans HK4.out)
              have HMF := Lib.hid (maxFunc_any B V h f _ (o2 + 1) o2 wr hij (one_at hkc).1 ((HM4.out.below HB45.out (Nat.le_refl _)).below hb (Nat.le_refl _)) HIN.out hnd hf3 HHB.out (by omega) (by omega))
              rw [HHI.out] at HMF
              have HTOP := Lib.hid (fun v (hv : v ∈ f) (hle : ∀ y ∈ f, hi y ≤ hi v) => top_of_le hf3 HINJ.out hv hle)
              obtain ⟨nf, hnf⟩ : ∃ m, f.length = m := ⟨_, rfl⟩
              rw [hnf] at hcj hij hf2 hf4 HMF
              have HTK := Lib.hid htk
              have HNF := Lib.hid hnf
              have HF2 := Lib.hid hf2
              have HF3 := Lib.hid hf3
              have HND := Lib.hid hnd
              clear hve hb hst hfm hf hkc hnf htk hij hf1 hf2 hf3 hf4 hnd
              go_wp2_with fail
              refine HMF.out.mono ?_
              rintro e w7 ⟨v, rfl, hb7, hvf, hle⟩
              have hst7 := HSTT.out.below hb7 (Array.getElem?_eq_some_iff.1 HSTT.out).1
              have HB7 := Lib.hid (HBT.out.trans (hb7.mono HBT.out.size))
              have HST7 := Lib.hid hst7
              have HTB := Lib.hid (HTOP.out v hvf hle)
              have HVV := Lib.hid (HF3.out v hvf)
              clear hb7 hvf hle hst7 HMF HTOP
              cases j with
              | zero =>
                have hstn : OutS w7 g V hi ((T.take 0).flatten ++ R.take (t + 1)) := by
                  rw [HTK.out, ← List.append_assoc]
                  unfold OutS
                  rw [idxF_one (by have := HNF.out; have := HF2.out; omega)]
                  exact HST7.out
                have HSTN := Lib.hid hstn
                clear hstn
                go_wp2_with fail
                go_roundw
                case rel =>
                  repeat' (first | exact ⟨⟨t + 1, htq, by go_num, HB7.out, HSTN.out⟩, rfl⟩ | exact ⟨t + 1, htq, by go_num, HB7.out, HSTN.out⟩ | apply Exists.intro)
                case measure => simp [intOf]; omega
              | succ s =>
                obtain ⟨k, hk, hkv⟩ := List.getElem_of_mem HVV.out
                rw [← getD_elem hk] at hkv
                have hkn : k < n := by rw [← HN.out]; exact hk
                obtain ⟨bv, ov, cV', e1, -⟩ := ints_cell HIV4.out k hk
                rw [HN.out] at e1
                obtain ⟨rfl, rfl⟩ : pV = some ⟨bv, ov, none⟩ ∧ cV = cV' := by cases e1; exact ⟨rfl, rfl⟩
                have hcells : ∀ i, i < V.length → w7.cell? ⟨bv, ov + i, none⟩ = some (.int .i64 (V.getD i 0)) := fun i hi2 => by
                  obtain ⟨b2, o2', c2, e2, e3⟩ := ints_cell (HIV4.out.below (HB45.out.trans (HB7.out.mono HB45.out.size)) (Nat.le_refl _)) i hi2
                  obtain ⟨rfl, rfl⟩ : bv = b2 ∧ ov = o2' := by cases e2; exact ⟨rfl, rfl⟩
                  exact e3
                have hbs := Tryz.slices_BinarySearch_int bv ov n cV V v w7 (by rw [HN.out]; exact Nat.le_refl _) (by have := HN6.out; omega) hcells (by rw [show V.take n = V by rw [← HN.out]; exact List.take_length]; exact List.Pairwise.imp (fun h => by omega) HVR.out)
                rw [show V.take n = V by rw [← HN.out]; exact List.take_length] at hbs
                have hcount : List.countP (fun x => decide (x < v)) V = k := by rw [← hkv]; exact count_idx HVR.out hk
                rw [hcount] at hbs
                have HBS := Lib.hid hbs
                have HKV := Lib.hid hkv
                have HK := Lib.hid hk
                clear e1 hcells hbs hcount hk hkv
                go_wp2_with fail
                refine HBS.out.mono ?_
                rintro e w8 ⟨rfl, nq, hw8⟩
                rw [hw8]
                clear hw8
                have hb8 := Below.drewN w7 nq
                obtain ⟨w9, hw9⟩ : ∃ x, w7.drewN nq = x := ⟨_, rfl⟩
                rw [hw9] at hb8 ⊢
                have hst8 := HST7.out.below hb8 (Array.getElem?_eq_some_iff.1 HST7.out).1
                have HB8 := Lib.hid (HB7.out.trans (hb8.mono HB7.out.size))
                obtain ⟨cg, fg⟩ := hst8.at HK.out
                have HST8 := Lib.hid hst8
                have hlenP : ((T.take (s + 1)).flatten ++ R.take t).length ≤ 600 := by rw [← HRR.out]; exact HPL.out s t
                have hbd := idxF_bd hi (V.getD k 0) ((T.take (s + 1)).flatten ++ R.take t)
                obtain ⟨z, hz⟩ : ∃ z, idxF ((T.take (s + 1)).flatten ++ R.take t) hi (V.getD k 0) = z := ⟨_, rfl⟩
                rw [hz] at cg hbd
                have hz0 : -600 ≤ z ∧ z ≤ 601 := by omega
                obtain ⟨hz1, hz2⟩ := hz0
                have HZ := Lib.hid hz
                clear hw9 hb8 hst8 HBS hlenP hbd hz
                by_cases hp : s % 2 = 0
                · have p1 : (s : Int) % 2 = 0 := by omega
                  have p2 : Int.tmod (s : Int) 2 = 0 := by rw [Int.tmod_eq_emod_of_nonneg (by omega)]; exact p1
                  have m1 : IntKind.i64.wrap (z - 1) = z - 1 := IntWalk.i64_in _ (by omega)
                  have hwg : wgtF f = 1 := by unfold wgtF; rw [if_pos (by have := HNF.out; have := HF2.out; omega)]
                  have hset : OutS (w9.setCell ⟨g, k, none⟩ (.int .i64 (z - 1))) g V hi ((T.take (s + 1)).flatten ++ R.take (t + 1)) := by
                    rw [HTK.out, ← List.append_assoc]
                    refine HST8.out.set ?_
                    rw [idxF_top (by have := HNF.out; have := HF2.out; omega) HND.out HK.out (by rw [HKV.out]; exact HTB.out), HZ.out, hwg]
                  have hbs : Below w5.heap.size w5 (w9.setCell ⟨g, k, none⟩ (.int .i64 (z - 1))) := HB8.out.setCell (by show w5.heap.size ≤ g; exact Nat.le_of_lt HGS.out) _
                  have HSET := Lib.hid hset
                  have HBS := Lib.hid hbs
                  clear hwg hset hbs
                  go_wp2_with fail
                  go_roundw
                  case rel => repeat' (first | exact ⟨⟨t + 1, htq, by go_num, HBS.out, HSET.out⟩, rfl⟩ | exact ⟨t + 1, htq, by go_num, HBS.out, HSET.out⟩ | apply Exists.intro)
                  case measure => simp [intOf]; omega
                · have p1 : (s : Int) % 2 = 1 := by omega
                  have p2 : Int.tmod (s : Int) 2 = 1 := by rw [Int.tmod_eq_emod_of_nonneg (by omega)]; exact p1
                  have m1 : IntKind.i64.wrap (z + 1) = z + 1 := IntWalk.i64_in _ (by omega)
                  have m2 : IntKind.i64.wrap (z - -1) = z - -1 := IntWalk.i64_in _ (by omega)
                  have hwg : wgtF f = -1 := by unfold wgtF; rw [if_neg (by have := HNF.out; have := HF2.out; omega)]
                  have hset : OutS (w9.setCell ⟨g, k, none⟩ (.int .i64 (z - -1))) g V hi ((T.take (s + 1)).flatten ++ R.take (t + 1)) := by
                    rw [HTK.out, ← List.append_assoc]
                    refine HST8.out.set ?_
                    rw [idxF_top (by have := HNF.out; have := HF2.out; omega) HND.out HK.out (by rw [HKV.out]; exact HTB.out), HZ.out, hwg]
                  have hbs : Below w5.heap.size w5 (w9.setCell ⟨g, k, none⟩ (.int .i64 (z - -1))) := HB8.out.setCell (by show w5.heap.size ≤ g; exact Nat.le_of_lt HGS.out) _
                  have HSET := Lib.hid hset
                  have HBS := Lib.hid hbs
                  clear hwg hset hbs
                  go_wp2_with fail
                  go_roundw
                  case rel => repeat' (first | exact ⟨⟨t + 1, htq, by go_num, HBS.out, HSET.out⟩, rfl⟩ | exact ⟨t + 1, htq, by go_num, HBS.out, HSET.out⟩ | apply Exists.intro)
                  case measure => simp [intOf]; omega
            · obtain rfl : q = t := by omega
              have hstn : OutS wr g V hi (T.take (j + 1)).flatten := by
                have e1 : (T.take (j + 1)).flatten = (T.take j).flatten ++ R := by rw [take_snoc_getD [] T j (by rw [HNT.out]; exact hjn), List.flatten_append, HRR.out]; simp
                rw [e1]
                have := hst
                rwa [show R.take q = R by rw [← HQ.out]; exact List.take_length] at this
              have HSTN := Lib.hid hstn
              have HBT := Lib.hid hb
              clear hstn hst hb
              go_wp2_with fail
              go_roundw
              case rel => exact ⟨j + 1, hjn, by go_num, HBT.out, HSTN.out⟩
              case measure => simp [intOf]; omega
        · obtain rfl : nt = j := by omega
          have hfull : (T.take nt).flatten = T.flatten := by rw [← HNT.out, List.take_length]
          have heq : V.map (idxF (T.take nt).flatten hi) = V.map (idxF (allF L) hi) := by
            rw [hfull, ← HTT.out]
            exact List.map_congr_left fun v _ => idx_perm (tab_perm allF_ne (allF_sorted L).nodup)
          have hrd := OutS.reads (B := w.heap.size) HSTO.out HN.out
          rw [heq] at hrd
          have HRD := Lib.hid hrd
          have HBE := Lib.hid (HB5.out.trans (HBO.out.mono HB5.out.size))
          clear hfull heq hrd
          go_wp2_with fail
          go_ret2
          exact ⟨_, rfl, HBE.out, fun h => absurd rfl h, fun _ => by rw [HHI.out]; exact HRD.out⟩
end Go.Proofs.YtddnjimpdidpaaaGreatDoor
