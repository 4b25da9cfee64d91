/-
  Cosets in memory: told by a contract.
-/
import Derived.Test.YtedehmknijlgpaaDoorTolA
import Derived.Test.YtedehmknijlgpaaDoorCosC
import Derived.Maps.AppendAt
set_option linter.unusedSimpArgs false
set_option linter.unusedVariables false
namespace Go.Proofs.YtedehmknijlgpaaDoor
open Go Go.RowKit Go.Maps

theorem plain_nat (y : Nat) (hy : y ≤ 1000000) : (plainElem Tryd.prog 3 (.int .i64 (y : Int)) : Option (DataW Value × List MemPlace)) = some (.lit (.int .i64 (y : Int)), []) := by
  refine plainElem_int Tryd.underlying3 ?_
  show (decide (IntKind.i64.min ≤ (y : Int)) && decide ((y : Int) ≤ IntKind.i64.max)) = true
  rw [Bool.and_eq_true, decide_eq_true_iff, decide_eq_true_iff]
  exact ⟨by show (-9223372036854775808 : Int) ≤ y; omega, by show (y : Int) ≤ 9223372036854775807; omega⟩
theorem below_dn {B : Nat} {w w' : World} (h : Below B w w') (n : Nat) : Below B w (w'.drewN n) := ⟨h.os, h.tape, h.output, h.size, h.block⟩
def ToldP (e1 : Value) (m : TC.St) (W : Nat) (w : World) (e : Ending) (w' : World) : Prop :=
  ∃ n, (TC.ordO m W n).length = n ∧ Below w.heap.size w w' ∧ (400 < n → e = .returned (.tuple #[.slice none 0 0, e1])) ∧ (n ≤ 400 → ∃ v, e = .returned (.tuple #[v, .nilIface]) ∧ ∀ B, ListsIn B w' v (TC.tabT m W n))
def TolR (E mb W : Nat) (m : TC.St) (w : World) (sO sT i : Value) (wr : World) : Prop :=
  ∃ (j t : Nat) (hs : List Value), i = .int .i64 (j : Int) ∧ j ≤ (TC.ordO m W j).length ∧ Below E w wr ∧ ToldH E mb t wr sO (.slice none 0 0) sT hs (TC.ordO m W j) [] (TC.tabT m W j)
def TolC (E mb W j x : Nat) (m : TC.St) (w : World) (sT : Value) (hs : List Value) (sO sR k : Value) (wr : World) : Prop :=
  ∃ (q t : Nat), q ≤ W ∧ k = .int .i64 (q : Int) ∧ Below E w wr ∧ ToldH E mb t wr sO sR sT hs (TC.rowO m (TC.ordO m W j) x q) ((TC.rowT m W j).take q) (TC.tabT m W j)
set_option maxRecDepth 100000 in
set_option maxHeartbeats 16000000 in
theorem told_any (O cb W : Nat) (m : TC.St) (vR vS e1 : Value) (hs0 : List Value) (w : World) (h : CosH O cb w m vR vS hs0) (hm : TC.MOk W m) (hW : W ≤ 24) (hL : ∀ j, j < m.R.length → ∀ x, x < W → TC.Leads m j x) (he : w.cell? ⟨0, 0, none⟩ = some e1) :
    Calls Tryd.prog 31 #[.pointer (some ⟨cb, 0, none⟩)] w (ToldP e1 m W w) := by
  obtain ⟨i3, hi3, hy0, hy1, hy2⟩ := info_parts Tryd.info3
  obtain ⟨i39, hi39, hz0, hz1, hz2⟩ := info_parts Tryd.info27
  obtain ⟨gR, cR, hvR, -⟩ := h.rows.form hm.pos
  obtain ⟨nR, hnR⟩ : ∃ nR, m.R.length = nR := ⟨_, rfl⟩
  rw [hnR] at hvR
  subst hvR
  have h5 : nR ≤ 5000 := by rw [← hnR]; exact hm.most
  have HNR := Lib.hid hnR
  have H := Lib.hid h
  have HM := Lib.hid hm
  have HLV := Lib.hid (fun (x k : Nat) hx hxx hk => TC.live_ent hm hL (x := x) (k := k) hx hxx hk)
  have HOL := Lib.hid (TC.ordO_live hm)
  have HLT := Lib.hid (TC.ordO_lt hm hL)
  have HLE := Lib.hid (TC.ordO_le hm hL)
  have HRE := Lib.hid (fun (i k : Nat) hi hk => TC.rowO_le hm hL (i := i) (k := k) hi hk)
  have HE := Lib.hid he
  have HPZ := Lib.hid (plain_nat 0 (by decide))
  have hb0 : Below w.heap.size w (w.alloc (.map #[] 0)) := (Below.refl _ _).alloc (Nat.le_refl _) _
  have HB0 := Lib.hid hb0
  have hmade := World.ownsMap_made (H := Value) w Tryd.prog 3 (plainElem Tryd.prog 3)
  have HMA := Lib.hid hmade
  have hmm := @run_makeMap Tryd.prog
  unfold ToldP
  clear h hm hL he hnR hb0 hmade
  go_enter Tryd.func31, Tryd.ntmps31
  go_wp2_with (refine wpList_insert_own _ rfl _ _ _ 77 rfl 3 3 (int_keyed Tryd.underlying3) Tryd.underlying77 (plainElem Tryd.prog 3) w.heap.size 0 (.map []) rfl HMA.out (by decide) _ _ (nlit 0) rfl rfl (keyOf_nat 0 (by decide)) (.lit (.int .i64 0)) [] HPZ.out ?_; intro w1 hown1 hgr1; have HNU := Lib.hid (num_zero hown1); have HG1 := Lib.hid hgr1; clear hown1 hgr1)
  have hb1 : Below w.heap.size w w1 := HB0.out.grown HG1.out (by simp) (fun k e => by cases e; exact Nat.le_refl _)
  have hs1 := hb1.size
  have hb2 : Below w1.heap.size w1 (w1.alloc (.cells #[.int .i64 0] 3)) := (Below.refl _ _).alloc (Nat.le_refl _) _
  have hmb1 : w.heap.size < w1.heap.size := HNU.out.obj.1
  have HB1 := Lib.hid hb1
  have HST : Hid (TolR w.heap.size w.heap.size W m w (.slice (some ⟨w1.heap.size, 0, none⟩) 1 1) (.slice none 0 0) (.int .i64 0) (w1.alloc (.cells #[.int .i64 0] 3))) := by
    refine ⟨0, 1, [], rfl, Nat.zero_le _, hb1.trans (hb2.mono hs1), ⟨⟨rfl, Or.inr ⟨w1.heap.size, 1, #[.int .i64 0], rfl, hs1, heap_alloc_new _ _, Nat.le_refl _, by decide, rfl, rfl⟩⟩, IntO.nil _ _, ⟨World.ownsRow_nil _ _ _ _, rfl, fun i h => absurd h (by simp [TC.tabT]), fun i j h => absurd h (by simp [TC.tabT])⟩, HNU.out.below hb2 (Nat.le_refl _), fun k _ e => (by cases e), fun k _ i h => absurd h (by simp [TC.tabT]), (fun k hk => by cases hk), Nat.le_refl _⟩⟩
  clear hb1 hs1 hb2 hmb1
  go_loopw [5, 6, 7] (fun sO sT i wr => TolR w.heap.size w.heap.size W m w sO sT i wr) (fun _ _ i _ => 5001 - (intOf i).toNat)
  case atStart => exact HST.out
  case round =>
    clear HST HNU HG1 HB1
    obtain ⟨j, t, hs, rfl, hj, hb, hT⟩ := hrel
    obtain ⟨sT, rfl⟩ : ∃ sT, sT = u6 := ⟨_, rfl⟩
    have hCr := H.out.below hb (Nat.le_refl _)
    have HBR := Lib.hid hb
    have HT := Lib.hid hT
    obtain ⟨L, hLL⟩ : ∃ L, (TC.ordO m W j).length = L := ⟨_, rfl⟩
    rw [hLL] at hj
    have hL5 : L ≤ nR := by have := HLE.out j; rw [hLL, HNR.out] at this; exact this
    have HLL := Lib.hid hLL
    clear hLL
    by_cases hjl : j < L
    · obtain ⟨go, co, hvO, -, -⟩ := hT.ord.form (by rw [natI_len, HLL.out]; omega)
      rw [natI_len, HLL.out] at hvO
      subst hvO
      have hjO : j < (TC.ordO m W j).length := by rw [HLL.out]; exact hjl
      have cO := hT.ord.cellsAt j (by rw [natI_len]; exact hjO)
      rw [natI_at hjO] at cO
      have hgd : (TC.ordO m W j).getD j j = (TC.ordO m W j).getD j 0 := by simp [List.getD_eq_getElem?_getD, List.getElem?_eq_getElem hjO]
      rw [hgd] at cO
      have hmem := TC.getD_mem hjO
      have hx1 := HLT.out j _ hmem
      have hx2 := HOL.out j _ hmem
      have HSN := Lib.hid (fun k (hk : k < W) => TC.rowT_snoc hjO hk)
      have HREJ := Lib.hid (fun k (hk : k ≤ W) => HRE.out j k hjO hk)
      have HORD : Hid (TC.ordO m W (j + 1) = TC.rowO m (TC.ordO m W j) ((TC.ordO m W j).getD j 0) W) := by unfold Hid; rw [TC.ordO, if_pos hjO]
      obtain ⟨x, hxx⟩ : ∃ x, (TC.ordO m W j).getD j 0 = x := ⟨_, rfl⟩
      rw [hxx] at cO hx1 hx2 HSN HREJ HORD
      have hcx := hCr.rows.cellsAt x hx1
      obtain ⟨p, c, hpc⟩ := (hCr.rows.2.2.1 x hx1).sliceOf
      rw [HM.out.wide.len x hx1] at hpc
      rw [hpc] at hcx
      have HPC := Lib.hid hpc
      have c0 := (three_at hCr.blk).1
      have hxn : x < nR := by rw [← HNR.out]; exact hx1
      have HX1 := Lib.hid hx1
      have HX2 := Lib.hid hx2
      clear hCr hb hT hgd hmem hxx hpc hx1 hx2 hjO
      go_upto_region 8 with fail
      go_quiet (fail)
      have HBQ := Lib.hid (below_dn HBR.out nq)
      have HTQ : Hid (ToldH w.heap.size w.heap.size t (wr.drewN nq) (.slice (some ⟨go, 0, none⟩) L co) (.slice none 0 0) sT hs (TC.ordO m W j) [] (TC.tabT m W j)) := HT.out.below (below_dn (Below.refl _ _) nq) (Nat.le_refl _)
      obtain ⟨w2, hw2⟩ : ∃ w2, wr.drewN nq = w2 := ⟨_, rfl⟩
      rw [hw2] at HBQ HTQ ⊢
      clear HT HBR hw2 c0 cO hcx
      go_wp2_with fail
      go_loopw [5, 8, 33] (fun sO sR k wr => TolC w.heap.size w.heap.size W j x m w sT hs sO sR k wr) (fun _ _ k _ => W - (intOf k).toNat)
      case atStart => exact ⟨0, t, Nat.zero_le _, rfl, HBQ.out, HTQ.out⟩
      case round =>
        clear HTQ HBQ
        obtain ⟨q, t2, hq, rfl, hb, hT⟩ := hrel
        have hCr := H.out.below hb (Nat.le_refl _)
        have HBR := Lib.hid hb
        obtain ⟨go2, co2, hvO2, -, -⟩ := hT.ord.form (by rw [natI_len]; have h1 := TC.rowO_pre m (TC.ordO m W j) x (Nat.zero_le q); obtain ⟨C, e⟩ := h1; rw [← e, List.length_append]; show 0 < (TC.ordO m W j).length + _; rw [HLL.out]; omega)
        rw [natI_len] at hvO2
        subst hvO2
        obtain ⟨pr, cr, hvr⟩ := hT.row.sliceOf
        have hrl : ((TC.rowT m W j).take q).length = q := by rw [List.length_take, TC.rowT_len]; omega
        rw [hrl] at hvr
        subst hvr
        have HT := Lib.hid hT
        have HRL := Lib.hid hrl
        clear hrl
        by_cases hqW : q < W
        · obtain ⟨u, hu, hun, htm⟩ := HLV.out x q HX1.out HX2.out hqW
          obtain ⟨gR', cR', g, c', hvR', cX, eX, hOx, rX⟩ := hCr.row HM.out.wide (by omega) HX1.out
          rw [HPC.out] at eX
          obtain ⟨rfl, rfl⟩ : p = some ⟨g, 0, none⟩ ∧ c = c' := by cases eX; exact ⟨rfl, rfl⟩
          have vX := (rX q hqW).1
          rw [hu] at vX
          have hum : u < m.R.length := hun
          rw [HNR.out] at hun
          have HOF := Lib.hid (of_any O cb u m _ _ hs0 wr hCr HM.out.good.wf (by rw [HM.out.len]; exact hum) (by rw [HM.out.len]; exact HM.out.most))
          unfold GivesK at HOF
          have hyn : TC.rep m.S u ≤ 1000000 := by have := TC.rep_le HM.out.good.wf u; omega
          obtain ⟨y, hy⟩ : ∃ y, TC.rep m.S u = y := ⟨_, rfl⟩
          rw [hy] at HOF hyn htm
          have HTM := Lib.hid htm
          have HRW := Lib.hid (HSN.out q hqW)
          have HRO : Hid (TC.rowO m (TC.ordO m W j) x (q + 1) = TC.addO (TC.rowO m (TC.ordO m W j) x q) y) := by unfold Hid; rw [TC.rowO, htm]
          have hOl := HREJ.out q (by omega)
          rw [HNR.out] at hOl
          obtain ⟨Ok, hOk⟩ : ∃ Ok, TC.rowO m (TC.ordO m W j) x q = Ok := ⟨_, rfl⟩
          rw [hOk] at HT HRO hOl ⊢
          obtain ⟨l, hl⟩ : ∃ l, Ok.length = l := ⟨_, rfl⟩
          have HLK := Lib.hid hl
          have hT2 := HT.out
          rw [hl] at hOl hT2
          obtain ⟨D, hown, htl, hDx⟩ := hT2.num
          rw [hl] at htl
          have HDX := Lib.hid hDx
          have HOW := Lib.hid hown
          have HISM := Lib.hid hown.isMap
          have HKY := Lib.hid (keyOf_nat y hyn)
          obtain ⟨r, hr⟩ : ∃ r, Maps.has D (nlit y) = r := ⟨_, rfl⟩
          have HR := Lib.hid hr
          have HT2 := Lib.hid hT2
          have HPL := Lib.hid (plain_nat l (by omega))
          have HNRQ : nR ≤ 5000 := h5
          clear hT hT2 HT hu htm hvR' cX eX rX hl hOk hown hDx hr hb hCr hy hum
          rw [HLK.out]
          go_wp2_with fail
          refine HOF.out.mono ?_
          rintro e w3 ⟨rfl, rfl⟩
          go_upto_if 47 with (at_lookup; refine wpList_lookup_own_ok_int _ rfl _ _ 77 rfl 3 3 .i64 (int_keyed Tryd.underlying3) Tryd.underlying77 Tryd.underlying3 (zero_int _) w.heap.size t2 D rfl HOW.out (.int .i64 (y : Int)) (nlit y) rfl HKY.out ?_; intro cc hcc hwc; clear hcc hwc; rw [HR.out])
          obtain ⟨sR, hsR⟩ : ∃ sR, sR = Value.slice pr q cr := ⟨_, rfl⟩
          go_cut [5] (fun s5 wx => ∃ t3, ToldH w.heap.size w.heap.size t3 wx s5 (.slice pr q cr) sT hs (TC.addO Ok y) ((TC.rowT m W j).take q) (TC.tabT m W j) ∧ Below w.heap.size w wx)
          case first =>
            cases r with
            | true =>
              have hin : y ∈ Ok := ((HDX.out y).1).1 HR.out
              have HAD : Hid (TC.addO Ok y = Ok) := by unfold Hid TC.addO; rw [if_pos hin]
              clear hin
              go_wp2_with fail
              go_meet
              exact ⟨t2, by rw [HAD.out]; exact HT2.out, HBR.out⟩
            | false =>
              have hnin : y ∉ Ok := fun e => by have := ((HDX.out y).1).2 e; rw [HR.out] at this; cases this
              have HAD : Hid (TC.addO Ok y = Ok ++ [y]) := by unfold Hid TC.addO; rw [if_neg hnin]
              have HNI := Lib.hid hnin
              have hlE : w.heap.size ≤ w3.heap.size := HBR.out.size
              clear hnin
              go_wp2_with (first
                | (at_mapUpdate; refine wpList_mapUpdate_own _ rfl _ _ _ 77 rfl 3 3 (int_keyed Tryd.underlying3) Tryd.underlying77 (plainElem Tryd.prog 3) w.heap.size t2 D rfl HOW.out (by unfold maxLen; omega) _ _ (nlit y) rfl rfl HKY.out (.lit (.int .i64 (l : Int))) [] HPL.out ?_; intro w4 hown4 hgr4; have HN4 := Lib.hid (num_put HISM.out (by rw [HLK.out]; exact htl) HDX.out HNI.out (by rw [HLK.out]; exact hown4)); have HG4 := Lib.hid hgr4; have hs4 : w3.heap.size ≤ w4.heap.size := hgr4.size; have HO4 := Lib.hid (HT2.out.ord.far hgr4 fun k hk e => by obtain rfl := Option.some.inj hk; exact HT2.out.num.ne HT2.out.ord e.symm); clear hown4 hgr4)
                | (at_builtin; refine wpList_append_lies _ rfl (.tmp 52) (.tmp 54) 27 rfl w.heap.size 3 i3 (.int .i64 0) 1 8 Tryd.underlying27 hi3 hy0 hy1 hy2 rfl (by decide) _ l (intVs (natI Ok)) rfl ((show w4.ownsRow w.heap.size 3 1 _ l _ from by have h1 := HO4.out; unfold IntO at h1; rw [natI_len, HLK.out] at h1; exact h1).alloc _) ⟨w4.heap.size, 0, none⟩ 1 1 [.int .i64 (y : Int)] rfl rfl (World.news_of_block (cs := #[.int .i64 (y : Int)]) (t := 3) (fr := (0, 0)) (heap_alloc_new w4 _)) (by simp [Value.oneCell']) (by decide) (by unfold maxLen; omega) (by omega) (by simp; omega) (w4.heap.size + 1) (by simp) ?_; intro g2 c2 w9 hown2 hgr2 hat2 hlt2; have HO2 := Lib.hid hown2; have HG2 := Lib.hid hgr2; have HA2 := Lib.hid hat2; clear hown2 hgr2 hat2 hlt2))
              go_meet
              have hbA : Below w4.heap.size w4 (w4.alloc (.cells #[.int .i64 (y : Int)] 3)) := (Below.refl _ _).alloc (Nat.le_refl _) _
              have hgA : w3.grownBy (w4.alloc (.cells #[.int .i64 (y : Int)] 3)) (some w.heap.size) :=
                ⟨hbA.os.trans HG4.out.os, hbA.tape.trans HG4.out.tape, hbA.output.trans HG4.out.output, Nat.le_trans HG4.out.size hbA.size, fun k hk hn => (hbA.block k (Nat.lt_of_lt_of_le hk HG4.out.size)).trans (HG4.out.block k hk hn)⟩
              refine ⟨t2 + 1, ?_, ?_⟩
              · rw [HAD.out]
                exact HT2.out.pushO hgA (HN4.out.below hbA (Nat.le_refl _)) HO2.out (by rw [HLK.out]) HG2.out (HA2.out.imp_right fun e => by omega)
              · exact ((HBR.out.grown HG4.out hlE (fun k e => by cases e; exact Nat.le_refl _)).alloc (by omega) _).grown HG2.out (by simp; omega) (fun k e => (HO4.out.lt k e).1)
          case rest =>
          obtain ⟨t3, hT3, hb3⟩ := hcut
          have hin3 : y ∈ TC.addO Ok y := TC.mem_addO.2 (.inr rfl)
          obtain ⟨D3, hown3, -, hDx3⟩ := hT3.num
          have HAT := Lib.hid ((hDx3 y).2 hin3)
          have HOW3 := Lib.hid hown3
          have HT3 := Lib.hid hT3
          have HB3 := Lib.hid hb3
          rw [HTM.out, HRO.out] at HRW
          obtain ⟨idx, hidx⟩ : ∃ idx, (TC.addO Ok y).idxOf y = idx := ⟨_, rfl⟩
          rw [hidx] at HAT HRW
          have hrow3 : wc.ownsRow w.heap.size 3 1 (.slice pr q cr) q (intVs ((TC.rowT m W j).take q)) := by
            have h1 := hT3.row
            unfold IntO at h1
            rw [HRL.out] at h1
            exact h1
          have HR3 := Lib.hid hrow3
          have hwE : w.heap.size ≤ wc.heap.size := hb3.size
          clear hT3 hb3 hown3 hDx3 hin3 hidx hrow3 HOW HT2 HBR vX
          go_wp2_with (first
            | (at_lookup; refine wpList_lookup_own_int _ rfl _ _ 77 rfl 3 3 .i64 (int_keyed Tryd.underlying3) Tryd.underlying77 Tryd.underlying3 (zero_int _) w.heap.size t3 D3 rfl HOW3.out (.int .i64 (y : Int)) (nlit y) rfl HKY.out ?_; intro cc hcc hwc; obtain rfl : cc = (idx : Int) := (by rw [HAT.out] at hcc; simpa using hcc.symm); clear hcc hwc)
            | (at_builtin; refine wpList_append_lies _ rfl (.tmp 56) (.tmp 60) 27 rfl w.heap.size 3 i3 (.int .i64 0) 1 8 Tryd.underlying27 hi3 hy0 hy1 hy2 rfl (by decide) _ q (intVs ((TC.rowT m W j).take q)) rfl (HR3.out.alloc _) ⟨wc.heap.size, 0, none⟩ 1 1 [.int .i64 (idx : Int)] rfl rfl (World.news_of_block (cs := #[.int .i64 (idx : Int)]) (t := 3) (fr := (0, 0)) (heap_alloc_new wc _)) (by simp [Value.oneCell']) (by decide) (by unfold maxLen; omega) (by omega) (by simp; omega) (wc.heap.size + 1) (by simp) ?_; intro g2 c2 w9 hown2 hgr2 hat2 hlt2; have HO2 := Lib.hid hown2; have HG2 := Lib.hid hgr2; have HA2 := Lib.hid hat2; clear hown2 hgr2 hat2 hlt2))
          go_roundw
          case rel =>
            have hbA : Below wc.heap.size wc (wc.alloc (.cells #[.int .i64 (idx : Int)] 3)) := (Below.refl _ _).alloc (Nat.le_refl _) _
            refine ⟨q + 1, t3, hqW, by go_num, ((HB3.out.alloc (by omega) _).grown HG2.out (by simp; omega) (fun k e => (HR3.out.lt k e).1)), ?_⟩
            rw [HRO.out, HRW.out]
            exact (HT3.out.below hbA (Nat.le_refl _)).pushR HO2.out (by rw [HRL.out]) HG2.out (HA2.out.imp_right fun e => by simp; omega)
          case measure => simp [intOf]; omega
        · obtain rfl : q = W := by omega
          have htk : (TC.rowT m q j).take q = TC.rowT m q j := List.take_of_length_le (by rw [TC.rowT_len]; exact Nat.le_refl _)
          have hT4 := HT.out
          rw [htk, ← HORD.out] at hT4
          have HT4 := Lib.hid hT4
          have hout := hT4.out.1
          rw [TC.tabT_len] at hout
          have HOUT := Lib.hid hout
          have HPRE : Hid (L ≤ (TC.ordO m q (j + 1)).length) := by
            unfold Hid
            obtain ⟨C, e⟩ := TC.ordO_pre m q (Nat.le_succ j)
            rw [← e, List.length_append, HLL.out]; omega
          have hwE : w.heap.size ≤ wr.heap.size := HBR.out.size
          clear hT hb hCr HT htk hT4 hout
          obtain ⟨l2, hl2⟩ : ∃ l2, (TC.rowO m (TC.ordO m q j) x q).length = l2 := ⟨_, rfl⟩
          rw [hl2]
          have HL2 : Hid ((TC.ordO m q (j + 1)).length = l2) := by unfold Hid; rw [HORD.out]; exact hl2
          clear hl2
          go_wp2_with (at_builtin; refine wpList_append_lies _ rfl (.tmp 63) (.tmp 65) 22 rfl w.heap.size 27 i39 (.slice none 0 0) 1 24 Tryd.underlying22 hi39 hz0 hz1 hz2 rfl (by decide) _ j hs rfl (HOUT.out.alloc _) ⟨wr.heap.size, 0, none⟩ 1 1 [.slice pr q cr] rfl rfl (World.news_of_block (cs := #[.slice pr q cr]) (t := 27) (fr := (0, 0)) (heap_alloc_new wr _)) (by simp [Value.oneCell']) (by decide) (by unfold maxLen; omega) (by omega) (by simp; omega) (wr.heap.size + 1) (by simp) ?_; intro g2 c2 w9 hown2 hgr2 hat2 hlt2; have HO2 := Lib.hid hown2; have HG2 := Lib.hid hgr2; clear hown2 hgr2 hat2 hlt2)
          go_roundw
          case rel =>
            have hbA : Below wr.heap.size wr (wr.alloc (.cells #[.slice pr q cr] 27)) := (Below.refl _ _).alloc (Nat.le_refl _) _
            refine ⟨j + 1, t2, hs ++ [.slice pr q cr], by go_num, by have := HPRE.out; omega, (HBR.out.alloc (by omega) _).grown HG2.out (by simp; omega) (fun k e => (HOUT.out.lt k e).1), ?_⟩
            rw [TC.tabT_snoc]
            have h := (HT4.out.below hbA (Nat.le_refl _)).pushT (by rw [TC.tabT_len]; exact HO2.out) HG2.out
            rw [HL2.out] at h
            exact h
          case measure => simp [intOf]; omega
    · obtain rfl : j = L := by omega
      obtain ⟨pt, ct, hvt⟩ := hT.out.sliceOf
      rw [TC.tabT_len] at hvt
      subst hvt
      have HLS := Lib.hid (fun B => (HasO.rows (B := B) ⟨hs, hT.out⟩).lists)
      have hg0 := (hb.cell (p := ⟨0, 0, none⟩) (mem_lt HE.out)).trans HE.out
      obtain ⟨po, cO, hvo⟩ := hT.ord.sliceOf
      rw [natI_len, HLL.out] at hvo
      subst hvo
      clear hT hb hCr HT
      by_cases h4 : 400 < j
      · go_upto_region 20 with fail
        go_region
        all_goals
          go_wp2_with fail
          go_ret2
          exact ⟨j, HLL.out, by first | exact HBR.out | exact below_dn HBR.out 1, fun _ => rfl, fun h => absurd h (by omega)⟩
      · go_wp2_with fail
        go_ret2
        exact ⟨j, HLL.out, HBR.out, fun h => absurd h (by omega), fun _ => ⟨_, rfl, HLS.out⟩⟩
end Go.Proofs.YtedehmknijlgpaaDoor
