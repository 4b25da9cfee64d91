/-
  cubes.Boundary of dimension 1 by a contract, where nothing is wrong.
-/
import Derived.Test.YtoheffkiohfmoaaGreatDoorBdA
import Derived.StillTailTactics
set_option linter.unusedSimpArgs false
set_option linter.unusedVariables false
namespace Go.Proofs.YtoheffkiohfmoaaGreatDoor
open Go Go.RowKit Go.Maps FL

set_option maxRecDepth 100000 in
set_option maxHeartbeats 16000000 in
theorem boundary_1 (a : Nat → Addr) (ms : List ByteArray) (v : Value) (w : World) (hS : Sents w a) (h : StrsAt w v ms) (hsz : ∀ j, (rowB ms j).size ≤ 9223372036854775807) (h0 : errV ms = 0) :
    Calls Tryz.prog 38 #[v, .int .i64 1] w (BdyOk ms 1 w) := by
  obtain ⟨i3, hi3, hy0, hy1, hy2⟩ := info_parts Tryz.info3
  have hmm := @run_makeMap Tryz.prog
  have HBR := Lib.hid (lit_below w (.cells #[.int .i64 0, .int .i64 0, .slice none 0 0] 58))
  have HKR := Lib.hid (heap_alloc_new w (.cells #[.int .i64 0, .int .i64 0, .slice none 0 0] 58))
  obtain ⟨gr, hgr⟩ : ∃ gr, w.heap.size = gr := ⟨_, rfl⟩
  obtain ⟨w0, hw0⟩ : ∃ w0, w.alloc (.cells #[.int .i64 0, .int .i64 0, .slice none 0 0] 58) = w0 := ⟨_, rfl⟩
  rw [hw0] at HBR HKR
  rw [hgr] at HBR HKR
  have HW0 := Lib.hid hw0
  have HGR := Lib.hid hgr
  have HGL : Hid (∀ wx, Below gr w wx → gr ≤ wx.heap.size) := fun wx hx => by have := hx.size; omega
  obtain ⟨hH24, hrect, hW24⟩ := errV_zero h0
  have HVA := Lib.hid (fun wx (hx : Below gr w wx) => valid_any a ms v wx (hS.below hx (by rw [hgr]; exact Nat.le_refl _)) (h.below hx (by rw [hgr]; exact Nat.le_refl _)) hsz)
  unfold ValP at HVA
  simp only [h0, errOf_zero] at HVA
  have HG := Lib.hid (fun wx (hx : Below gr w wx) => grid_any ms v wx (h.below hx (by rw [hgr]; exact Nat.le_refl _)) (by omega) (by omega))
  unfold GridP at HG
  obtain ⟨pm, cm, hve, -⟩ := id h
  obtain ⟨sn, se, ss⟩ := size_le hW24 hH24
  obtain ⟨zr, zc⟩ := size_rows ms 1 (by decide)
  obtain ⟨Cn, hCn⟩ : ∃ l, corns ms = l := ⟨_, rfl⟩
  obtain ⟨En, hEn⟩ : ∃ l, edges ms = l := ⟨_, rfl⟩
  obtain ⟨Sn, hSn⟩ : ∃ l, squas ms = l := ⟨_, rfl⟩
  have hG1 : gridTo (cornAt ms) (wideI ms) (ms.length + 1) = Cn := hCn
  have hG2 : gridTo (squaAt ms) (wideI ms) (ms.length + 1) = Sn := hSn
  have hG3 : gridTo (edgeAt ms) (wideI ms) (ms.length + 1) = En := hEn
  simp only [hG1, hG2, hG3] at HG
  obtain ⟨nc, hnc⟩ : ∃ n, Cn.length = n := ⟨_, rfl⟩
  obtain ⟨ne, hne⟩ : ∃ n, En.length = n := ⟨_, rfl⟩
  obtain ⟨ns, hns⟩ : ∃ n, Sn.length = n := ⟨_, rfl⟩
  have hcb : ∀ p ∈ Cn, BoxI p := fun p hp => corns_box hW24 hH24 (by rw [hCn]; exact hp)
  have heb : ∀ e ∈ En, BoxI e.1 := fun p hp => edges_box hW24 hH24 (by rw [hEn]; exact hp)
  have hsb : ∀ p ∈ Sn, BoxI p := fun p hp => squas_box hW24 hH24 (by rw [hSn]; exact hp)
  have hcd : Cn.Nodup := by rw [← hCn]; exact corn_nodup ms _ _
  have hed : En.Nodup := by rw [← hEn]; exact edge_nodup ms _ _
  have hec := fun k hk => edge_cols (ms := ms) hrect (k := k) hk
  have hsc := fun k hk => squa_cols (ms := ms) hrect (k := k) hk
  unfold sizeI at zr zc
  simp only [hCn, hEn, hSn, hnc, hne, hns, List.getD_cons_zero, List.getD_cons_succ] at zr zc hec hsc sn se ss
  have hzr : (rowsI ms 1).length = nc := zr
  have hzc : (colsI ms 1).length = ne := zc
  have hml : (matI (rowsI ms 1) (colsI ms 1) 1).length = nc * ne := by rw [matI_len, hzr, hzc]
  have hfl : ∀ F, FillE nc ne (EntC ms) F ne → ∀ ix, ix < nc * ne → F ix = (matI (rowsI ms 1) (colsI ms 1) 1).getD ix 0 := fun F hF => by
    have h1 := fill_one (ms := ms) (F := F)
    simp only [hCn, hEn, hnc, hne] at h1
    exact h1 hF
  obtain ⟨M, hM⟩ : ∃ M, matI (rowsI ms 1) (colsI ms 1) 1 = M := ⟨_, rfl⟩
  obtain ⟨N, hN⟩ : ∃ N, nc * ne = N := ⟨_, rfl⟩
  rw [hM, hN] at hml
  rw [hM, hN] at hfl
  have HFL := Lib.hid hfl
  clear hfl
  unfold BdyOk
  rw [hgr, hzr, hzc, hM, hml]
  have hNb : N ≤ 1000000 := by
    rw [← hN]; exact Nat.le_trans (Nat.mul_le_mul sn se) (by decide)
  have mN : IntKind.i64.wrap ((nc : Int) * (ne : Int)) = (N : Int) := wrap_nat (by rw [← hN]; push_cast; rfl) (by omega)
  have hmk := make_ints N hNb
  have HNC := Lib.hid hnc
  have HNE := Lib.hid hne
  have HNS := Lib.hid hns
  have HCB := Lib.hid hcb
  have HEB := Lib.hid heb
  have HSB := Lib.hid hsb
  have HCD := Lib.hid hcd
  have HED := Lib.hid hed
  have HEC := Lib.hid hec
  have HSC := Lib.hid hsc
  have HML := Lib.hid hml
  have HN := Lib.hid hN
  have HNB := Lib.hid hNb
  rw [hve] at HVA HG ⊢
  clear hS h hsz h0 hw0 hgr hH24 hrect hW24 hve zr zc hCn hEn hSn hG1 hG2 hG3 hnc hne hns hcb heb hsb hcd hed hec hsc hzr hzc hml hM hN hNb
  go_enter Tryz.func38, Tryz.ntmps38
  go_wp2_with fail
  rw [HW0.out, HGR.out]
  refine (HVA.out _ HBR.out).mono ?_
  rintro e w1 ⟨rfl, hb⟩
  have HB1 := Lib.hid (HBR.out.trans (hb.mono (HGL.out _ HBR.out)))
  have HK1 := Lib.hid ((hb.block _ (Array.getElem?_eq_some_iff.1 HKR.out).1).trans HKR.out)
  clear hb HVA HBR HKR
  go_wp2_with fail
  refine (HG.out _ HB1.out).mono ?_
  rintro e w2 ⟨vc, vs, ve, rfl, hb, hc, hs, he⟩
  obtain ⟨pc, cc, rfl⟩ := hc.sliceOf
  obtain ⟨pe, ce, rfl⟩ := he.sliceOf
  obtain ⟨ps, cs, rfl⟩ := hs.sliceOf
  have HB2 := Lib.hid (HB1.out.trans (hb.mono (HGL.out _ HB1.out)))
  have HK2 := Lib.hid ((hb.block _ (Array.getElem?_eq_some_iff.1 HK1.out).1).trans HK1.out)
  rw [HNC.out] at hc ⊢
  rw [HNE.out] at he ⊢
  rw [HNS.out] at hs ⊢
  have HC := Lib.hid hc
  have HE := Lib.hid he
  have HS := Lib.hid hs
  obtain ⟨o2, ho2⟩ : ∃ o, w2.heap.size = o := ⟨_, rfl⟩
  have HO2 := Lib.hid ho2
  have HGO : Hid (gr < o2) := by unfold Hid; rw [← ho2]; exact (Array.getElem?_eq_some_iff.1 HK2.out).1
  have hff0 := grid_field0
  have hff1 := grid_field1
  have hff2 := grid_field2
  clear hb hc hs he ho2 HG HB1 HK1
  go_wp2_with fail
  have hwD : IntKind.i64.wrap 2 = 2 := wrap_int (by decide) (by decide)
  apply once_more
  case h =>
    intro KEY
    go_region_law (fail)
    all_goals exact KEY.out
  go_wp2_with fail
  obtain ⟨w3, hw3⟩ : ∃ w3, w3 = ((((((w2.alloc (.cells #[.slice pc nc cc, .slice ps ns cs, .slice pe ne ce] 114)).alloc (.cells #[.int .i64 0, .int .i64 nc, .int .i64 ne, .int .i64 ns, .int .i64 0] 3)).alloc (.cells #[.int .i64 nc, .int .i64 ne, .slice (some ⟨w2.heap.size + 1 + 1 + 1, 0, none⟩) N N] 58)).alloc (.cells (numArr (fun _ => 0) N) 3)).alloc (.map #[] 0)).alloc (.map #[] 0)).drew := ⟨_, rfl⟩
  rw [← hw3]
  obtain ⟨hb3, hs3, b0, b1, b2, b3, b4, b5⟩ := six_blocks HO2.out hw3
  rw [HO2.out] at b2
  simp only [HO2.out, Nat.add_assoc, Nat.reduceAdd] at b2 ⊢
  have HB3 := Lib.hid hb3
  have HA0 := Lib.hid b0
  have HA2 := Lib.hid b2
  have HA3 := Lib.hid b3
  have HM4 : Hid (IxMap spK w3 (o2 + 4) []) := b4
  have HM5 : Hid (IxMap edK w3 (o2 + 5) []) := b5
  have HS3 := Lib.hid hs3
  clear hw3 hb3 hs3 b0 b1 b2 b3 b4 b5
  go_loopw [69] (fun i wr => ∃ j : Nat, j ≤ nc ∧ i = .int .i64 (j : Int) ∧ w3.grownBy wr (some (o2 + 4)) ∧ IxMap spK wr (o2 + 4) (Cn.take j)) (fun i _ => nc - (intOf i).toNat)
  case atStart => exact ⟨0, Nat.zero_le _, rfl, ⟨rfl, rfl, rfl, Nat.le_refl _, fun _ _ _ => rfl⟩, HM4.out⟩
  case round =>
    obtain ⟨j, hj, rfl, hg, hm⟩ := hrel
    by_cases hjl : j < nc
    · obtain ⟨g, c, hvc, hgo, hgl, c0, c1⟩ := SpO.at HC.out (i := j) (by rw [HNC.out]; exact hjl)
      obtain ⟨rfl, rfl⟩ : pc = some ⟨g, 0, none⟩ ∧ cc = c := by cases hvc; exact ⟨rfl, rfl⟩
      rw [HO2.out] at hgl
      have e0 := far_cell hg ((HB3.out.cell (p := ⟨g, j * 2, none⟩) hgl).trans c0) (fun e => by have := Option.some.inj e; omega)
      have e1 := far_cell hg ((HB3.out.cell (p := ⟨g, j * 2 + 1, none⟩) hgl).trans c1) (fun e => by have := Option.some.inj e; omega)
      have htk := take_snoc_getD (0, 0) Cn j (by rw [HNC.out]; exact hjl)
      have hln : (Cn.take j).length = j := by rw [List.length_take, HNC.out]; omega
      obtain ⟨P, hP⟩ : ∃ P, Cn.getD j (0, 0) = P := ⟨_, rfl⟩
      rw [hP] at e0 e1 htk
      have hPm : P ∈ Cn := by rw [← hP]; exact mem_getD (by rw [HNC.out]; exact hjl)
      have hPn : P ∉ Cn.take j := fun hm2 => by
        obtain ⟨i, hi, e⟩ := mem_at (z := (0, 0)) hm2
        rw [hln] at hi
        have e2 : Cn.getD i (0, 0) = P := by
          rw [List.getD_eq_getElem?_getD, List.getElem?_take_of_lt hi, ← List.getD_eq_getElem?_getD] at e; exact e
        have := nod_inj HCD.out (by rw [HNC.out]; omega) (by rw [HNC.out]; exact hjl) (e2.trans hP.symm)
        omega
      obtain ⟨px, py⟩ := P
      have hba := lit_below wr (.cells #[.int .i64 px, .int .i64 py] 117)
      obtain ⟨wx, hrun, hmx, hgx⟩ := IxMap.put spKey Tryz.underlying119 (hm.below hba (Nat.le_refl _)) (fun p hp => HCB.out p (List.mem_of_mem_take hp)) (HCB.out _ hPm) hPn
      rw [hln] at hrun
      rw [← htk] at hmx
      have hgn : w3.grownBy wx (some (o2 + 4)) := (hg.trans ⟨hba.os, hba.tape, hba.output, hba.size, fun k hk _ => hba.block k hk⟩).trans hgx
      simp only [spK] at hrun
      have HMX := Lib.hid hmx
      have HGX := Lib.hid hgn
      clear hvc hgl c0 c1 hg hm htk hln hP hPm hPn hba hmx hgx hgn hgo
      go_wp2_with fail
      go_roundw
      case rel => exact ⟨j + 1, hjl, by go_num, HGX.out, HMX.out⟩
      case measure => simp [intOf]; omega
    · obtain rfl : nc = j := by omega
      rw [show Cn.take nc = Cn by rw [← HNC.out]; exact List.take_length] at hm
      obtain ⟨w4, hw4⟩ : ∃ w4, wr = w4 := ⟨_, rfl⟩
      rw [hw4] at hg hm ⊢
      have HG4 := Lib.hid hg
      have HM4' := Lib.hid hm
      have HM5' := Lib.hid (HM5.out.grown hg (fun e => by have := Option.some.inj e; omega))
      have hl3 := HS3.out
      have hk0 := (hg.block o2 (by omega) (fun e => by have := Option.some.inj e; omega)).trans HA0.out
      have g0 : w4.cell? ⟨o2, 0, none⟩ = some (.slice pc nc cc) := (blk_at hk0 0).1
      have g1 : w4.cell? ⟨o2, 1, none⟩ = some (.slice ps ns cs) := (blk_at hk0 1).1
      have g2 : w4.cell? ⟨o2, 2, none⟩ = some (.slice pe ne ce) := (blk_at hk0 2).1
      have HB4 := Lib.hid (HB3.out.grown hg (by omega) (fun k e => by have := Option.some.inj e; omega))
      clear hg hm HM4 HM5 hk0 hw4 hl3
      go_wp2_with fail
      go_loopw [81] (fun i wr => ∃ j : Nat, j ≤ ne ∧ i = .int .i64 (j : Int) ∧ w4.grownBy wr (some (o2 + 5)) ∧ IxMap edK wr (o2 + 5) (En.take j)) (fun i _ => ne - (intOf i).toNat)
      case atStart => exact ⟨0, Nat.zero_le _, rfl, ⟨rfl, rfl, rfl, Nat.le_refl _, fun _ _ _ => rfl⟩, HM5'.out⟩
      case round =>
        obtain ⟨j, hj, rfl, hg, hm⟩ := hrel
        by_cases hjl : j < ne
        · obtain ⟨g, c, hvc, hgo, hgl, c0, c1, c2⟩ := EdO.at HE.out (i := j) (by rw [HNE.out]; exact hjl)
          obtain ⟨rfl, rfl⟩ : pe = some ⟨g, 0, none⟩ ∧ ce = c := by cases hvc; exact ⟨rfl, rfl⟩
          rw [HO2.out] at hgl
          have e0 := far_cell hg ((HB4.out.cell (p := ⟨g, j * 3, none⟩) hgl).trans c0) (fun e => by have := Option.some.inj e; omega)
          have e1 := far_cell hg ((HB4.out.cell (p := ⟨g, j * 3 + 1, none⟩) hgl).trans c1) (fun e => by have := Option.some.inj e; omega)
          have e2 := far_cell hg ((HB4.out.cell (p := ⟨g, j * 3 + 2, none⟩) hgl).trans c2) (fun e => by have := Option.some.inj e; omega)
          have htk := take_snoc_getD ((0, 0), false) En j (by rw [HNE.out]; exact hjl)
          have hln : (En.take j).length = j := by rw [List.length_take, HNE.out]; omega
          obtain ⟨P, hP⟩ : ∃ P, En.getD j ((0, 0), false) = P := ⟨_, rfl⟩
          rw [hP] at e0 e1 e2 htk
          have hPm : P ∈ En := by rw [← hP]; exact mem_getD (by rw [HNE.out]; exact hjl)
          have hPn : P ∉ En.take j := fun hm2 => by
            obtain ⟨i, hi, e⟩ := mem_at (z := ((0, 0), false)) hm2
            rw [hln] at hi
            have e2 : En.getD i ((0, 0), false) = P := by
              rw [List.getD_eq_getElem?_getD, List.getElem?_take_of_lt hi, ← List.getD_eq_getElem?_getD] at e; exact e
            have := nod_inj HED.out (by rw [HNE.out]; omega) (by rw [HNE.out]; exact hjl) (e2.trans hP.symm)
            omega
          obtain ⟨⟨px, py⟩, pd⟩ := P
          have hba := lit_below wr (.cells #[.int .i64 px, .int .i64 py, .bool pd] 122)
          obtain ⟨wx, hrun, hmx, hgx⟩ := IxMap.put edKey Tryz.underlying120 (hm.below hba (Nat.le_refl _)) (fun p hp => HEB.out p (List.mem_of_mem_take hp)) (HEB.out _ hPm) hPn
          rw [hln] at hrun
          rw [← htk] at hmx
          have hgn : w4.grownBy wx (some (o2 + 5)) := (hg.trans ⟨hba.os, hba.tape, hba.output, hba.size, fun k hk _ => hba.block k hk⟩).trans hgx
          simp only [edK] at hrun
          have HMX := Lib.hid hmx
          have HGX := Lib.hid hgn
          clear hvc hgl c0 c1 c2 hg hm htk hln hP hPm hPn hba hmx hgx hgn hgo
          go_wp2_with fail
          go_roundw
          case rel => exact ⟨j + 1, hjl, by go_num, HGX.out, HMX.out⟩
          case measure => simp [intOf]; omega
        · obtain rfl : ne = j := by omega
          rw [show En.take ne = En by rw [← HNE.out]; exact List.take_length] at hm
          obtain ⟨w5, hw5⟩ : ∃ w5, wr = w5 := ⟨_, rfl⟩
          rw [hw5] at hg hm ⊢
          have hl3 := HS3.out
          have hl4 := HG4.out.size
          have hk0 := (HG4.out.block o2 (by omega) (fun e => by have := Option.some.inj e; omega)).trans HA0.out
          have hk2 := (HG4.out.block (o2 + 2) (by omega) (fun e => by have := Option.some.inj e; omega)).trans HA2.out
          have hk3 := (HG4.out.block (o2 + 3) (by omega) (fun e => by have := Option.some.inj e; omega)).trans HA3.out
          have h50 := (hg.block o2 (by omega) (fun e => by have := Option.some.inj e; omega)).trans hk0
          have h52 := (hg.block (o2 + 2) (by omega) (fun e => by have := Option.some.inj e; omega)).trans hk2
          have h53 := (hg.block (o2 + 3) (by omega) (fun e => by have := Option.some.inj e; omega)).trans hk3
          have hb5 : Below o2 w2 w5 := HB4.out.grown hg (by omega) (fun k e => by have := Option.some.inj e; omega)
          have HM4 := Lib.hid (HM4'.out.grown hg (fun e => by have := Option.some.inj e; omega))
          have HM5 := Lib.hid hm
          have HB5 := Lib.hid hb5
          have HK0 := Lib.hid h50
          have HK2' := Lib.hid h52
          have HK3 := Lib.hid h53
          have HZ := Lib.hid ((hb5.block gr HGO.out).trans HK2.out)
          have HBG : Hid (Below gr w w5) := HB2.out.trans (hb5.mono (by rw [← HO2.out]; exact HGL.out _ HB2.out))
          have HLG : Hid (o2 + 6 ≤ w5.heap.size) := by have := hg.size; unfold Hid; omega
          clear hg hm hw5 hl3 hl4 hk0 hk2 hk3 h50 h52 h53 hb5 HM4' HM5' HG4 HA0 HA2 HA3 HS3 HB3 HB4 g0 g1 g2
          have c0 : w5.cell? ⟨o2 + 2, 0, none⟩ = some (.int .i64 nc) := (blk_at HK2'.out 0).1
          have c1 : w5.cell? ⟨o2 + 2, 1, none⟩ = some (.int .i64 ne) := (blk_at HK2'.out 1).1
          have c2 : w5.cell? ⟨o2 + 2, 2, none⟩ = some (.slice (some ⟨o2 + 3, 0, none⟩) N N) := (blk_at HK2'.out 2).1
          have g0 : w5.cell? ⟨o2, 0, none⟩ = some (.slice pc nc cc) := (blk_at HK0.out 0).1
          have g1 : w5.cell? ⟨o2, 1, none⟩ = some (.slice ps ns cs) := (blk_at HK0.out 1).1
          have g2 : w5.cell? ⟨o2, 2, none⟩ = some (.slice pe ne ce) := (blk_at HK0.out 2).1
          have d0 : w5.cell? ⟨gr, 0, none⟩ = some (.int .i64 0) := (blk_at HZ.out 0).1
          have d1 : w5.cell? ⟨gr, 1, none⟩ = some (.int .i64 0) := (blk_at HZ.out 1).1
          have d2 : w5.cell? ⟨gr, 2, none⟩ = some (.slice none 0 0) := (blk_at HZ.out 2).1
          have f0 := (blk_at HZ.out 0).2
          have f1 := (blk_at HZ.out 1).2
          have f2 := (blk_at HZ.out 2).2
          go_wp2_with fail
          have HST0 := Lib.hid (FilSt.start HK3.out)
          have HFE0 := Lib.hid (FillE.start nc ne (EntC ms))
          clear c0 c1 c2 g0 g1 g2 d0 d1 d2 f0 f1 f2
          go_loopw [96] (fun i wr => ∃ (k : Nat) (F : Nat → Int), k ≤ ne ∧ i = .int .i64 (k : Int) ∧ FilSt w5 wr (o2 + 3) N F ∧ FillE nc ne (EntC ms) F k) (fun i _ => ne - (intOf i).toNat)
          case atStart => exact ⟨0, _, Nat.zero_le _, rfl, HST0.out, HFE0.out⟩
          case round =>
            obtain ⟨k, F, hk, rfl, hst, hfe⟩ := hrel
            by_cases hkl : k < ne
            · obtain ⟨a, b, a_lt, b_lt, ea, eb, hent⟩ := HEC.out k hkl
              have HFS := Lib.hid (hfe.step2 hkl hent)
              obtain ⟨g, c, hvc, hgo, hgl, c0, c1, c2⟩ := EdO.at HE.out (i := k) (by rw [HNE.out]; exact hkl)
              obtain ⟨rfl, rfl⟩ : pe = some ⟨g, 0, none⟩ ∧ ce = c := by cases hvc; exact ⟨rfl, rfl⟩
              rw [HO2.out] at hgl
              have e0 := far_cell hst.gr ((HB5.out.cell (p := ⟨g, k * 3, none⟩) hgl).trans c0) (fun e => by have := Option.some.inj e; omega)
              have e1 := far_cell hst.gr ((HB5.out.cell (p := ⟨g, k * 3 + 1, none⟩) hgl).trans c1) (fun e => by have := Option.some.inj e; omega)
              have e2 := far_cell hst.gr ((HB5.out.cell (p := ⟨g, k * 3 + 2, none⟩) hgl).trans c2) (fun e => by have := Option.some.inj e; omega)
              have hPm : En.getD k ((0, 0), false) ∈ En := mem_getD (by rw [HNE.out]; exact hkl)
              obtain ⟨P, hP⟩ : ∃ P, En.getD k ((0, 0), false) = P := ⟨_, rfl⟩
              rw [hP] at e0 e1 e2 hPm ea eb
              obtain ⟨⟨x, y⟩, d⟩ := P
              obtain ⟨⟨x0, x1⟩, y0, y1⟩ := HEB.out _ hPm
              dsimp only at e0 e1 e2 ea x0 x1 y0 y1
              have wx1 : IntKind.i64.wrap (x + 1) = x + 1 := wrap_int (by omega) (by omega)
              have wy1 : IntKind.i64.wrap (y + 1) = y + 1 := wrap_int (by omega) (by omega)
              have hq : o2 + 6 ≤ wr.heap.size := Nat.le_trans HLG.out hst.gr.size
              have HST := Lib.hid hst
              have HKL := Lib.hid hkl
              clear hst hfe hent hvc hgo hgl c0 c1 c2 hPm hP hk x0 x1 y0 y1
              cases d with
              | false =>
                have eb' : Cn.getD b (0, 0) = ((x + 1), y) := eb.trans (by unfold edTo; rfl)
                clear eb
                go_wp2_with fail
                obtain ⟨wa, hwa⟩ : ∃ wa, wa = (wr.alloc (.cells #[.int .i64 x, .int .i64 y, .bool false] 122)).alloc (.cells #[.int .i64 (x + 1), .int .i64 y] 117) := ⟨_, rfl⟩
                rw [← hwa]
                have hk1 : wa.heap[wr.heap.size]? = some (.cells #[.int .i64 x, .int .i64 y, .bool false] 122 (0, 0)) := by rw [hwa]; exact alloc_old (heap_alloc_new wr _)
                have hk2 : wa.heap[wr.heap.size + 1]? = some (.cells #[.int .i64 (x + 1), .int .i64 y] 117 (0, 0)) := by
                  rw [hwa]
                  have h := heap_alloc_new (wr.alloc (.cells #[.int .i64 x, .int .i64 y, .bool false] 122)) (.cells #[.int .i64 (x + 1), .int .i64 y] 117)
                  rw [lit_size] at h
                  exact h
                have hba : Below wr.heap.size wr wa.drew := by rw [hwa]; exact (((Below.refl _ _).alloc (Nat.le_refl _) _).alloc (by simp) _).drew
                have t0 : wa.drew.cell? ⟨wr.heap.size, 0, none⟩ = some (.int .i64 x) := (blk_at hk1 0).1
                have t1 : wa.drew.cell? ⟨wr.heap.size, 1, none⟩ = some (.int .i64 y) := (blk_at hk1 1).1
                clear hwa e0 e1 e2 wx1 wy1
                have hst1 := HST.out.below hba
                obtain ⟨k1, k2, k3⟩ := hst1.facts HK2'.out
                have hlk := hst1.look spKey Tryz.underlying119 HM4.out (by omega) HCB.out HCD.out (z := (0, 0)) (by rw [HNC.out]; exact a_lt) ea
                simp only [spK] at hlk
                obtain ⟨aN, haN⟩ : ∃ aN, a * ne = aN := ⟨_, rfl⟩
                obtain ⟨ix1, hix⟩ : ∃ ix, aN + k = ix := ⟨_, rfl⟩
                have hixN : ix1 < N := by
                  rw [← HN.out, ← hix, ← haN]
                  have h1 : a * ne + ne ≤ nc * ne := by rw [← Nat.succ_mul]; exact Nat.mul_le_mul_right _ a_lt
                  omega
                have m1 : IntKind.i64.wrap ((a : Int) * (ne : Int)) = (aN : Int) := wrap_nat (by rw [← haN]; push_cast; rfl) (by have := HNB.out; omega)
                have m2 : IntKind.i64.wrap ((aN : Int) + (k : Int)) = (ix1 : Int) := wrap_nat (by rw [← hix]; push_cast; rfl) (by have := HNB.out; omega)
                have m3 : ((aN : Int) + (k : Int)) = (ix1 : Int) := by rw [← hix]; push_cast; rfl
                have m4 : IntKind.i64.wrap (ix1 : Int) = (ix1 : Int) := wrap_nat rfl (by have := HNB.out; omega)
                obtain ⟨cg, fg⟩ := k3 ix1 hixN
                obtain ⟨z, hz⟩ : ∃ z, (F) ix1 = z := ⟨_, rfl⟩
                rw [hz] at cg
                have i1 : (0 : Int) ≤ (ix1 : Int) := by omega
                have i2 : (ix1 : Int) < (N : Int) := by omega
                have HP1 := Lib.hid (hst1.put (ix := ix1) (-1))
                have HX1 : Hid (ix1 = a * ne + k) := by unfold Hid; rw [← hix, ← haN]
                clear k3 haN hix hixN hz hst1
                go_still_tail 12, (by kernel_rfl)
                change wpList _ _ _ _ _ wa.drew
                go_wp2_with fail
                clear k1 k2 hlk m1 m2 m3 m4 cg fg i1 i2 z
                have hk2c : (wa.setCell ⟨o2 + 3, ix1, none⟩ (.int .i64 (-1))).drew.heap[wr.heap.size + 1]? = some (.cells #[.int .i64 (x + 1), .int .i64 y] 117 (0, 0)) := ((grown_at wa (o2 + 3) ix1 _).block _ (Array.getElem?_eq_some_iff.1 hk2).1 (fun e => by have := Option.some.inj e; have := HLG.out; omega)).trans hk2
                have HP1 : Hid (FilSt w5 (wa.setCell ⟨o2 + 3, ix1, none⟩ (.int .i64 (-1))).drew (o2 + 3) N (upd (F) ix1 (-1))) := HP1
                obtain ⟨w6, hnw⟩ : ∃ x, (wa.setCell ⟨o2 + 3, ix1, none⟩ (.int .i64 (-1))).drew = x := ⟨_, rfl⟩
                rw [hnw] at HP1 hk2c ⊢
                clear hnw
                clear t0 t1 hk1 hk2 hba
                have t0 : w6.drew.cell? ⟨wr.heap.size + 1, 0, none⟩ = some (.int .i64 (x + 1)) := (blk_at hk2c 0).1
                have t1 : w6.drew.cell? ⟨wr.heap.size + 1, 1, none⟩ = some (.int .i64 y) := (blk_at hk2c 1).1
                clear hk2c
                have hst2 := HP1.out.below (Below.refl _ _).drew
                obtain ⟨k1, k2, k3⟩ := hst2.facts HK2'.out
                have hlk := hst2.look spKey Tryz.underlying119 HM4.out (by omega) HCB.out HCD.out (z := (0, 0)) (by rw [HNC.out]; exact b_lt) eb'
                simp only [spK] at hlk
                obtain ⟨aN, haN⟩ : ∃ aN, b * ne = aN := ⟨_, rfl⟩
                obtain ⟨ix2, hix⟩ : ∃ ix, aN + k = ix := ⟨_, rfl⟩
                have hixN : ix2 < N := by
                  rw [← HN.out, ← hix, ← haN]
                  have h1 : b * ne + ne ≤ nc * ne := by rw [← Nat.succ_mul]; exact Nat.mul_le_mul_right _ b_lt
                  omega
                have m1 : IntKind.i64.wrap ((b : Int) * (ne : Int)) = (aN : Int) := wrap_nat (by rw [← haN]; push_cast; rfl) (by have := HNB.out; omega)
                have m2 : IntKind.i64.wrap ((aN : Int) + (k : Int)) = (ix2 : Int) := wrap_nat (by rw [← hix]; push_cast; rfl) (by have := HNB.out; omega)
                have m3 : ((aN : Int) + (k : Int)) = (ix2 : Int) := by rw [← hix]; push_cast; rfl
                have m4 : IntKind.i64.wrap (ix2 : Int) = (ix2 : Int) := wrap_nat rfl (by have := HNB.out; omega)
                obtain ⟨cg, fg⟩ := k3 ix2 hixN
                obtain ⟨z, hz⟩ : ∃ z, (upd F ix1 (-1)) ix2 = z := ⟨_, rfl⟩
                rw [hz] at cg
                have i1 : (0 : Int) ≤ (ix2 : Int) := by omega
                have i2 : (ix2 : Int) < (N : Int) := by omega
                have HP2 := Lib.hid (hst2.put (ix := ix2) 1)
                have HX2 : Hid (ix2 = b * ne + k) := by unfold Hid; rw [← hix, ← haN]
                clear k3 haN hix hixN hz hst2
                go_still_tail 11, (by kernel_rfl)
                change wpList _ _ _ _ _ w6.drew
                go_wp2_with fail
                clear k1 k2 hlk m1 m2 m3 m4 cg fg i1 i2 z
                have HP2 : Hid (FilSt w5 (w6.setCell ⟨o2 + 3, ix2, none⟩ (.int .i64 1)).drew (o2 + 3) N (upd (upd F ix1 (-1)) ix2 1)) := HP2
                obtain ⟨w7, hnw⟩ : ∃ x, (w6.setCell ⟨o2 + 3, ix2, none⟩ (.int .i64 1)).drew = x := ⟨_, rfl⟩
                rw [hnw] at HP2  ⊢
                clear hnw
                have hp := HP2.out
                rw [HX1.out, HX2.out] at hp
                have HPZ := Lib.hid hp
                clear hp t0 t1
                go_wp2_with fail
                go_roundw
                case rel => exact ⟨k + 1, _, HKL.out, by go_num, HPZ.out, HFS.out⟩
                case measure => have := HKL.out; simp [intOf]; omega
              | true =>
                have eb' : Cn.getD b (0, 0) = (x, (y + 1)) := eb.trans (by unfold edTo; rfl)
                clear eb
                go_wp2_with fail
                obtain ⟨wa, hwa⟩ : ∃ wa, wa = (wr.alloc (.cells #[.int .i64 x, .int .i64 y, .bool true] 122)).alloc (.cells #[.int .i64 x, .int .i64 (y + 1)] 117) := ⟨_, rfl⟩
                rw [← hwa]
                have hk1 : wa.heap[wr.heap.size]? = some (.cells #[.int .i64 x, .int .i64 y, .bool true] 122 (0, 0)) := by rw [hwa]; exact alloc_old (heap_alloc_new wr _)
                have hk2 : wa.heap[wr.heap.size + 1]? = some (.cells #[.int .i64 x, .int .i64 (y + 1)] 117 (0, 0)) := by
                  rw [hwa]
                  have h := heap_alloc_new (wr.alloc (.cells #[.int .i64 x, .int .i64 y, .bool true] 122)) (.cells #[.int .i64 x, .int .i64 (y + 1)] 117)
                  rw [lit_size] at h
                  exact h
                have hba : Below wr.heap.size wr wa.drew := by rw [hwa]; exact (((Below.refl _ _).alloc (Nat.le_refl _) _).alloc (by simp) _).drew
                have t0 : wa.drew.cell? ⟨wr.heap.size, 0, none⟩ = some (.int .i64 x) := (blk_at hk1 0).1
                have t1 : wa.drew.cell? ⟨wr.heap.size, 1, none⟩ = some (.int .i64 y) := (blk_at hk1 1).1
                clear hwa e0 e1 e2 wx1 wy1
                have hst1 := HST.out.below hba
                obtain ⟨k1, k2, k3⟩ := hst1.facts HK2'.out
                have hlk := hst1.look spKey Tryz.underlying119 HM4.out (by omega) HCB.out HCD.out (z := (0, 0)) (by rw [HNC.out]; exact a_lt) ea
                simp only [spK] at hlk
                obtain ⟨aN, haN⟩ : ∃ aN, a * ne = aN := ⟨_, rfl⟩
                obtain ⟨ix1, hix⟩ : ∃ ix, aN + k = ix := ⟨_, rfl⟩
                have hixN : ix1 < N := by
                  rw [← HN.out, ← hix, ← haN]
                  have h1 : a * ne + ne ≤ nc * ne := by rw [← Nat.succ_mul]; exact Nat.mul_le_mul_right _ a_lt
                  omega
                have m1 : IntKind.i64.wrap ((a : Int) * (ne : Int)) = (aN : Int) := wrap_nat (by rw [← haN]; push_cast; rfl) (by have := HNB.out; omega)
                have m2 : IntKind.i64.wrap ((aN : Int) + (k : Int)) = (ix1 : Int) := wrap_nat (by rw [← hix]; push_cast; rfl) (by have := HNB.out; omega)
                have m3 : ((aN : Int) + (k : Int)) = (ix1 : Int) := by rw [← hix]; push_cast; rfl
                have m4 : IntKind.i64.wrap (ix1 : Int) = (ix1 : Int) := wrap_nat rfl (by have := HNB.out; omega)
                obtain ⟨cg, fg⟩ := k3 ix1 hixN
                obtain ⟨z, hz⟩ : ∃ z, (F) ix1 = z := ⟨_, rfl⟩
                rw [hz] at cg
                have i1 : (0 : Int) ≤ (ix1 : Int) := by omega
                have i2 : (ix1 : Int) < (N : Int) := by omega
                have HP1 := Lib.hid (hst1.put (ix := ix1) (-1))
                have HX1 : Hid (ix1 = a * ne + k) := by unfold Hid; rw [← hix, ← haN]
                clear k3 haN hix hixN hz hst1
                go_still_tail 12, (by kernel_rfl)
                change wpList _ _ _ _ _ wa.drew
                go_wp2_with fail
                clear k1 k2 hlk m1 m2 m3 m4 cg fg i1 i2 z
                have hk2c : (wa.setCell ⟨o2 + 3, ix1, none⟩ (.int .i64 (-1))).drew.heap[wr.heap.size + 1]? = some (.cells #[.int .i64 x, .int .i64 (y + 1)] 117 (0, 0)) := ((grown_at wa (o2 + 3) ix1 _).block _ (Array.getElem?_eq_some_iff.1 hk2).1 (fun e => by have := Option.some.inj e; have := HLG.out; omega)).trans hk2
                have HP1 : Hid (FilSt w5 (wa.setCell ⟨o2 + 3, ix1, none⟩ (.int .i64 (-1))).drew (o2 + 3) N (upd (F) ix1 (-1))) := HP1
                obtain ⟨w6, hnw⟩ : ∃ x, (wa.setCell ⟨o2 + 3, ix1, none⟩ (.int .i64 (-1))).drew = x := ⟨_, rfl⟩
                rw [hnw] at HP1 hk2c ⊢
                clear hnw
                clear t0 t1 hk1 hk2 hba
                have t0 : w6.drew.cell? ⟨wr.heap.size + 1, 0, none⟩ = some (.int .i64 x) := (blk_at hk2c 0).1
                have t1 : w6.drew.cell? ⟨wr.heap.size + 1, 1, none⟩ = some (.int .i64 (y + 1)) := (blk_at hk2c 1).1
                clear hk2c
                have hst2 := HP1.out.below (Below.refl _ _).drew
                obtain ⟨k1, k2, k3⟩ := hst2.facts HK2'.out
                have hlk := hst2.look spKey Tryz.underlying119 HM4.out (by omega) HCB.out HCD.out (z := (0, 0)) (by rw [HNC.out]; exact b_lt) eb'
                simp only [spK] at hlk
                obtain ⟨aN, haN⟩ : ∃ aN, b * ne = aN := ⟨_, rfl⟩
                obtain ⟨ix2, hix⟩ : ∃ ix, aN + k = ix := ⟨_, rfl⟩
                have hixN : ix2 < N := by
                  rw [← HN.out, ← hix, ← haN]
                  have h1 : b * ne + ne ≤ nc * ne := by rw [← Nat.succ_mul]; exact Nat.mul_le_mul_right _ b_lt
                  omega
                have m1 : IntKind.i64.wrap ((b : Int) * (ne : Int)) = (aN : Int) := wrap_nat (by rw [← haN]; push_cast; rfl) (by have := HNB.out; omega)
                have m2 : IntKind.i64.wrap ((aN : Int) + (k : Int)) = (ix2 : Int) := wrap_nat (by rw [← hix]; push_cast; rfl) (by have := HNB.out; omega)
                have m3 : ((aN : Int) + (k : Int)) = (ix2 : Int) := by rw [← hix]; push_cast; rfl
                have m4 : IntKind.i64.wrap (ix2 : Int) = (ix2 : Int) := wrap_nat rfl (by have := HNB.out; omega)
                obtain ⟨cg, fg⟩ := k3 ix2 hixN
                obtain ⟨z, hz⟩ : ∃ z, (upd F ix1 (-1)) ix2 = z := ⟨_, rfl⟩
                rw [hz] at cg
                have i1 : (0 : Int) ≤ (ix2 : Int) := by omega
                have i2 : (ix2 : Int) < (N : Int) := by omega
                have HP2 := Lib.hid (hst2.put (ix := ix2) 1)
                have HX2 : Hid (ix2 = b * ne + k) := by unfold Hid; rw [← hix, ← haN]
                clear k3 haN hix hixN hz hst2
                go_still_tail 11, (by kernel_rfl)
                change wpList _ _ _ _ _ w6.drew
                go_wp2_with fail
                clear k1 k2 hlk m1 m2 m3 m4 cg fg i1 i2 z
                have HP2 : Hid (FilSt w5 (w6.setCell ⟨o2 + 3, ix2, none⟩ (.int .i64 1)).drew (o2 + 3) N (upd (upd F ix1 (-1)) ix2 1)) := HP2
                obtain ⟨w7, hnw⟩ : ∃ x, (w6.setCell ⟨o2 + 3, ix2, none⟩ (.int .i64 1)).drew = x := ⟨_, rfl⟩
                rw [hnw] at HP2  ⊢
                clear hnw
                have hp := HP2.out
                rw [HX1.out, HX2.out] at hp
                have HPZ := Lib.hid hp
                clear hp t0 t1
                go_wp2_with fail
                go_roundw
                case rel => exact ⟨k + 1, _, HKL.out, by go_num, HPZ.out, HFS.out⟩
                case measure => have := HKL.out; simp [intOf]; omega
            · obtain rfl : ne = k := by omega
              have hint : IntsIn gr wr (.slice (some ⟨o2 + 3, 0, none⟩) N N) M := numIn hst.blk HML.out (HFL.out F hfe)
              have hbk : Below gr w wr := HBG.out.grown hst.gr (by have := HGL.out _ HBG.out; omega) (fun k e => by have := Option.some.inj e; have := HGO.out; omega)
              have hzk := (hst.gr.block gr (Array.getElem?_eq_some_iff.1 HZ.out).1 (fun e => by have := Option.some.inj e; have := HGO.out; omega)).trans HZ.out
              have h2k := (hst.gr.block (o2 + 2) (Array.getElem?_eq_some_iff.1 HK2'.out).1 (fun e => by have := Option.some.inj e; omega)).trans HK2'.out
              obtain ⟨wf, hwf, hbf, hif, hkf⟩ := mat_fin (R := nc) (C := ne) hbk hzk hint
              have c0 : wr.cell? ⟨o2 + 2, 0, none⟩ = some (.int .i64 nc) := (blk_at h2k 0).1
              have c1 : wr.cell? ⟨o2 + 2, 1, none⟩ = some (.int .i64 ne) := (blk_at h2k 1).1
              have c2 : wr.cell? ⟨o2 + 2, 2, none⟩ = some (.slice (some ⟨o2 + 3, 0, none⟩) N N) := (blk_at h2k 2).1
              have d0 : wr.cell? ⟨gr, 0, none⟩ = some (.int .i64 0) := (blk_at hzk 0).1
              have d1 : wr.cell? ⟨gr, 1, none⟩ = some (.int .i64 0) := (blk_at hzk 1).1
              have d2 : wr.cell? ⟨gr, 2, none⟩ = some (.slice none 0 0) := (blk_at hzk 2).1
              have f0 := (blk_at hzk 0).2
              have f1 := (blk_at hzk 1).2
              have f2 := (blk_at hzk 2).2
              have R0 : Hid (wf.cell? ⟨gr, 0, none⟩ = some (.int .i64 nc)) := (blk_at hkf 0).1
              have R1 : Hid (wf.cell? ⟨gr, 1, none⟩ = some (.int .i64 ne)) := (blk_at hkf 1).1
              have R2 : Hid (wf.cell? ⟨gr, 2, none⟩ = some (.slice (some ⟨o2 + 3, 0, none⟩) N N)) := (blk_at hkf 2).1
              have HWF : Hid (wf = ((wr.setCell ⟨gr, 0, none⟩ (.int .i64 nc)).setCell ⟨gr, 1, none⟩ (.int .i64 ne)).setCell ⟨gr, 2, none⟩ (.slice (some ⟨o2 + 3, 0, none⟩) N N)) := hwf
              have HBF := Lib.hid hbf
              have HIF := Lib.hid hif
              clear hint hbk hzk h2k hwf hbf hif hkf
              clear hst hfe
              go_wp2_with fail
              rw [← HWF.out]
              refine bodyPost_ret (v := .tuple #[.agg #[.int .i64 nc, .int .i64 ne, .slice (some ⟨o2 + 3, 0, none⟩) N N], .nilIface]) (by simp [results, Tryz.results38, go_sem, R0.out, R1.out, R2.out]) rfl ?_
              exact ⟨_, _, rfl, HBF.out, HIF.out⟩
end Go.Proofs.YtoheffkiohfmoaaGreatDoor
