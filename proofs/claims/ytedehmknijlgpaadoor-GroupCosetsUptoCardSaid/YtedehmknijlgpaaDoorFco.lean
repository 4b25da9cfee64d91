/-
  The document's CosetsOf, in step with the program's Cosets.
-/
import Derived.Test.YtedehmknijlgpaaDoorFcA
import Derived.Test.YtedehmknijlgpaaDoorPlnT
set_option linter.unusedSimpArgs false
set_option linter.unusedVariables false
namespace Go.Proofs.YtedehmknijlgpaaDoor
open Go Go.RowKit Go.Maps

theorem idxOf_le_at : ∀ (l : List Nat) (p y : Nat), l[p]? = some y → l.idxOf y ≤ p
  | [], p, y, h => by simp at h
  | a :: l, 0, y, h => by
    have e : a = y := by simpa using h
    rw [e, List.idxOf_cons_self]; exact Nat.le_refl _
  | a :: l, p + 1, y, h => by
    have e := idxOf_le_at l p y (by simpa using h)
    rw [List.idxOf_cons]
    cases (a == y)
    · exact Nat.succ_le_succ e
    · exact Nat.zero_le _
theorem idxOf_at : ∀ (l : List Nat) (y : Nat), l.idxOf y < l.length → l[l.idxOf y]? = some y
  | [], y, h => by simp at h
  | a :: l, y, h => by
    rw [List.idxOf_cons] at h ⊢
    by_cases e : a = y
    · subst e; simp
    · have e2 : (a == y) = false := by simpa using e
      rw [e2] at h ⊢
      have h2 : l.idxOf y < l.length := by have : l.idxOf y + 1 < l.length + 1 := h; omega
      show (a :: l)[l.idxOf y + 1]? = some y
      rw [List.getElem?_cons_succ]
      exact idxOf_at l y h2
theorem TC.sim_start (W : Nat) : TC.Sim W (TC.startM W) [List.replicate W (-1)] [0] := by
  have h := TC.startM_ok W
  refine ⟨h.wide, rfl, rfl, fun p => ?_, fun x k u _ hu => ⟨u, hu, rfl⟩, fun x k u hu => h.good.comp x k u hu⟩
  have e : ([0] : List Nat).getD p p = p := by
    cases p with
    | zero => rfl
    | succ p => simp
  exact e.trans (TC.rep_self e).symm
/-- what is told, row by row -/
def FoRel (E W : Nat) (m : TC.St) (w : World) (sO sT i : Value) (wr : World) : Prop :=
  ∃ (j : Nat) (hs : List Value), i = .int .i64 (j : Int) ∧ j ≤ (TC.ordO m W j).length ∧ Below E w wr ∧ ToldD E wr sO (.slice none 0 0) sT hs (TC.ordO m W j) [] (TC.tabT m W j)
def FcRel (E W j x : Nat) (m : TC.St) (w : World) (sT : Value) (hs : List Value) (sO sR k : Value) (wr : World) : Prop :=
  ∃ q : Nat, q ≤ W ∧ k = .int .i64 (q : Int) ∧ Below E w wr ∧ ToldD E wr sO sR sT hs (TC.rowO m (TC.ordO m W j) x q) ((TC.rowT m W j).take q) (TC.tabT m W j)
set_option maxRecDepth 100000 in
set_option maxHeartbeats 64000000 in
theorem fcos_any (B g : Nat) (rels words : List (List Int)) (vr vw : Value) (w : World) (hg : g ≤ 5) (hge : groupErr (g : Int) rels = 0) (hr : ListsIn B w vr rels) (hw : ListsIn B w vw words) (hn : rels.length ≤ 20) (hs : rels.flatten.length ≤ 60) (hn2 : words.length ≤ 500) (hs2 : words.flatten.length ≤ 500) :
    Calls Tryd.prog 16 #[.agg #[.int .i64 (g : Int), vr], vw, .int .i64 120] w (FcoP (cosA (g : Int) rels words) w) := by
  obtain ⟨i3, hi3, hy0, hy1, hy2⟩ := info_parts Tryd.info3
  obtain ⟨i39, hi39, hz0, hz1, hz2⟩ := info_parts Tryd.info27
  obtain ⟨pr, cr, hre, -⟩ := id hr
  obtain ⟨n, hLn⟩ : ∃ n, rels.length = n := ⟨_, rfl⟩
  rw [hLn] at hre hn
  subst hre
  obtain ⟨pw, cw, hwe, -⟩ := id hw
  obtain ⟨nw, hWn⟩ : ∃ nw, words.length = nw := ⟨_, rfl⟩
  rw [hWn] at hwe hn2
  subst hwe
  have hb0 : Below w.heap.size w (w.alloc (.cells #[.int .i64 (g : Int), .slice pr n cr] 24)) := (Below.refl _ _).alloc (Nat.le_refl _) _
  obtain ⟨w1, hw1⟩ : ∃ w1, w.alloc (.cells #[.int .i64 (g : Int), .slice pr n cr] 24) = w1 := ⟨_, rfl⟩
  have hg1 := heap_alloc_new w (.cells #[.int .i64 (g : Int), .slice pr n cr] 24)
  rw [hw1] at hb0 hg1
  have HB0 := Lib.hid hb0
  have HW1 := Lib.hid hw1
  have HLN := Lib.hid hLn
  have HWN := Lib.hid hWn
  have HR := Lib.hid hr
  have HW := Lib.hid hw
  have HCT := Lib.hid (lettersR_any B words (.slice pw nw cw) w1 (hw.below hb0 (Nat.le_refl _)) (by rw [hWn]; omega) (by omega))
  unfold CatP at HCT
  obtain ⟨m, hm⟩ : ∃ m, words.flatten.length = m := ⟨_, rfl⟩
  rw [hm] at HCT hs2
  have HM := Lib.hid hm
  obtain ⟨mr, hmr⟩ : ∃ mr, rels.flatten.length = mr := ⟨_, rfl⟩
  rw [hmr] at hs
  have HMR := Lib.hid hmr
  obtain ⟨-, -, -, -, hlet⟩ := groupErr_zero hge
  rw [Int.toNat_natCast] at hlet
  have HLET := Lib.hid hlet
  have HCA : Hid (cosA (g : Int) rels words = if 400 < nw ∨ 400 < m then (1, []) else if words.flatten.any (badL g) = true then (2, []) else cosT g rels words) := by
    unfold Hid cosA; rw [hge, if_neg (by decide), hm, hWn, Int.toNat_natCast]
  have c0 : w1.cell? ⟨w.heap.size, 0, none⟩ = some (.int .i64 (g : Int)) := by simp [World.cell?, hg1]
  have c1 : w1.cell? ⟨w.heap.size, 1, none⟩ = some (.slice pr n cr) := by simp [World.cell?, hg1]
  have HNIL := Lib.hid (fun (B : Nat) (w : World) => ListsIn.nil B w)
  clear hr hw hb0 hg1 hw1 hm hLn hWn hlet hge hmr
  go_enter Tryd.func16, Tryd.ntmps16
  go_upto_region 1 with fail
  rw [HW1.out]
  go_wp2_with fail
  refine HCT.out.mono ?_
  rintro e w3 ⟨p3, c3, rfl, hb3, ho3⟩
  have d0 := (hb3.cell (p := ⟨w.heap.size, 0, none⟩) (mem_lt c0)).trans c0
  have d1 := (hb3.cell (p := ⟨w.heap.size, 1, none⟩) (mem_lt c1)).trans c1
  have HB3 := Lib.hid (HB0.out.trans (hb3.mono HB0.out.size))
  have HI := Lib.hid (ints_owned (B := B) (xs := words.flatten) ho3 HM.out.symm).at
  clear hb3 ho3 c0 c1
  by_cases hbig : 400 < nw ∨ 400 < m
  · have HE : Hid (cosA (g : Int) rels words = (1, [])) := by unfold Hid; rw [HCA.out, if_pos hbig]
    by_cases k1 : 400 < nw
    · clear hbig
      go_wp2_with fail
      refine bodyPost_ret (v := .tuple #[.slice none 0 0, .int .i64 2, .bool true]) (by simp [results, Tryd.results16, go_sem]) rfl ?_
      rw [HE.out]
      exact ⟨HB3.out, .inr ⟨_, rfl, fun B => HNIL.out B _⟩⟩
    · have k2 : 400 < m := by omega
      clear hbig
      go_wp2_with fail
      refine bodyPost_ret (v := .tuple #[.slice none 0 0, .int .i64 2, .bool true]) (by simp [results, Tryd.results16, go_sem]) rfl ?_
      rw [HE.out]
      exact ⟨HB3.out, .inr ⟨_, rfl, fun B => HNIL.out B _⟩⟩
  · have k1 : nw ≤ 400 := by omega
    have k2 : m ≤ 400 := by omega
    have HLT := Lib.hid (lettersOf_any g (.slice pr n cr) (.slice p3 m c3) words.flatten w3 (by omega) HI.out (by rw [HM.out]; omega))
    unfold Gives at HLT
    have HCA2 : Hid (cosA (g : Int) rels words = if words.flatten.any (badL g) = true then (2, []) else cosT g rels words) := by unfold Hid; rw [HCA.out, if_neg hbig]
    obtain ⟨r, hr⟩ : ∃ r, words.flatten.any (badL g) = r := ⟨_, rfl⟩
    rw [hr] at HLT HCA2
    have HRR := Lib.hid hr
    clear hbig hr HCA
    cases r with
    | true =>
      have HE : Hid (cosA (g : Int) rels words = (2, [])) := by unfold Hid; rw [HCA2.out, if_pos rfl]
      clear HCA2
      go_wp2_with fail
      refine HLT.out.mono ?_
      rintro e w4 ⟨rfl, hb4⟩
      have HB4 := Lib.hid (HB3.out.trans (hb4.mono HB3.out.size))
      clear hb4 d0 d1
      go_wp2_with fail
      refine bodyPost_ret (v := .tuple #[.slice none 0 0, .int .i64 3, .bool true]) (by simp [results, Tryd.results16, go_sem]) rfl ?_
      rw [HE.out]
      exact ⟨HB4.out, .inr ⟨_, rfl, fun B => HNIL.out B _⟩⟩
    | false =>
      have HE : Hid (cosA (g : Int) rels words = cosT g rels words) := by unfold Hid; rw [HCA2.out, if_neg (by decide)]
      have HD0 := Lib.hid d0
      have HD1 := Lib.hid d1
      clear HCA2
      go_wp2_with fail
      refine HLT.out.mono ?_
      rintro e w4 ⟨rfl, hb4⟩
      have HD2 := Lib.hid ((hb4.cell (p := ⟨w.heap.size, 0, none⟩) (mem_lt HD0.out)).trans HD0.out)
      have HD3 := Lib.hid ((hb4.cell (p := ⟨w.heap.size, 1, none⟩) (mem_lt HD1.out)).trans HD1.out)
      have HB4 := Lib.hid (HB3.out.trans (hb4.mono HB3.out.size))
      clear hb4 d0 d1 HD0 HD1 HI HLT HCT HB0 HW1 HB3
      have HW4 := Lib.hid (HW.out.below HB4.out (Nat.le_refl _))
      have HR4 := Lib.hid (HR.out.below HB4.out (Nat.le_refl _))
      obtain ⟨W, hWg⟩ : ∃ W, 2 * g = W := ⟨_, rfl⟩
      have hW2 : W % 2 = 0 := by omega
      have hW24 : W ≤ 10 := by omega
      have qW : (2 : Int) * (g : Int) = (W : Int) := by omega
      have HCM : Hid (cosM g rels words = TC.mainM W (colsL rels) 5001 0 (TC.tracesM W 0 (colsL words) (TC.startM W))) := by unfold Hid cosM; rw [hWg]; rfl
      have HRL : Hid (∀ w ∈ colsL rels, ∀ k ∈ w, k < W) := by unfold Hid; rw [← hWg]; exact colsL_lt (by omega) HLET.out
      have HWL : Hid (∀ w ∈ colsL words, ∀ k ∈ w, k < W) := by unfold Hid; rw [← hWg]; exact colsL_lt (by omega) HRR.out
      have HRX : Hid (∀ l ∈ rels, ∀ x ∈ l, x ≠ 0 ∧ -1000000 ≤ x ∧ x ≤ 1000000 ∧ colN x < W) := by unfold Hid; rw [← hWg]; exact fun l hl x hx => colN_lt (by omega) (any_lists HLET.out l hl x hx)
      have HWX : Hid (∀ l ∈ words, ∀ x ∈ l, x ≠ 0 ∧ -1000000 ≤ x ∧ x ≤ 1000000 ∧ colN x < W) := by unfold Hid; rw [← hWg]; exact fun l hl x hx => colN_lt (by omega) (any_lists HRR.out l hl x hx)
      have HWG := Lib.hid hWg
      obtain ⟨cb, hcb⟩ : ∃ cb, w4.heap.size = cb := ⟨_, rfl⟩
      obtain ⟨w5, hw5⟩ : ∃ w5, w4.alloc (.cells #[.slice none 0 0, .slice none 0 0, .bool false] 64) = w5 := ⟨_, rfl⟩
      have h0 := fin_new w4
      have hb5 : Below w4.heap.size w4 (w4.alloc (.cells #[.slice none 0 0, .slice none 0 0, .bool false] 64)) := (Below.refl _ _).alloc (Nat.le_refl _) _
      have hO5 : w4.heap.size + 1 ≤ (w4.alloc (.cells #[.slice none 0 0, .slice none 0 0, .bool false] 64)).heap.size := by simp
      rw [hw5] at h0 hb5 hO5
      rw [hcb] at h0 hb5 hO5
      have HO5 := Lib.hid hO5
      have HB5 := Lib.hid hb5
      have HOP := Lib.hid (fopen_any (cb + 1) cb W ⟨[], [], false⟩ _ _ _ w5 h0 rfl (by decide) (by omega) hO5)
      unfold FopP at HOP
      have HW5 := Lib.hid hw5
      have HCB := Lib.hid hcb
      have d0 := (hb5.cell (p := ⟨w.heap.size, 0, none⟩) (by rw [← hcb]; exact mem_lt HD2.out)).trans HD2.out
      clear h0 hb5 hO5 hw5 hcb hWg HRR HLET
      go_upto_region 8 with fail
      rw [HCB.out, HW5.out]
      go_wp2_with fail
      refine HOP.out.mono ?_
      rintro e w6 ⟨rfl, hF6, vR6, vS6, hs6, hC6⟩
      have HST : Hid (FwRel (cb + 1) cb W (colsL words) w5 (.int .i64 0) w6) := ⟨0, Nat.zero_le _, rfl, ⟨_, _, _, _, _, hC6, TC.sim_start W⟩, hF6⟩
      clear hF6 hC6 d0 HOP
      go_wp2_with fail
      go_loopw [12] (fun i wr => FwRel (cb + 1) cb W (colsL words) w5 i wr) (fun i _ => nw - (intOf i).toNat)
      case atStart => exact HST.out
      case round =>
        clear HST
        obtain ⟨j, hj, rfl, hC, hF⟩ := hrel
        rw [colsL_len, HWN.out] at hj
        have hmo := TC.traces_ok hW2 ((colsL words).take j) (TC.startM_ok W) (TC.startM_ok W).pos (fun w hw => HWL.out w (List.mem_of_mem_take hw))
        have hfl := flat_len words j
        have hro := TC.traces_room hW2 ((colsL words).take j) (TC.startM_ok W) (TC.startM_ok W).pos (fun w hw => HWL.out w (List.mem_of_mem_take hw)) rfl (by rw [colsL_take, colsL_flat]; show 1 + _ < 5000; rw [HM.out] at hfl; omega)
        rw [colsL_take, colsL_flat] at hro
        rw [← colsL_take] at hro
        have hst1 : (TC.startM W).R.length = 1 := rfl
        have HF7 := Lib.hid hF
        have HBW := Lib.hid (HB5.out.trans (hF.under (Nat.lt_succ_self _)))
        by_cases hjn : j < nw
        · have hjL : j < words.length := by rw [HWN.out]; exact hjn
          obtain ⟨b, off, c', hve⟩ := HW4.out.form (by omega)
          rw [HWN.out] at hve
          obtain ⟨rfl, rfl⟩ : pw = some ⟨b, off, none⟩ ∧ cw = c' := by cases hve; exact ⟨rfl, rfl⟩
          obtain ⟨pj, cj, hcj, hij⟩ := cells_at HW4.out j hjL
          have hcr := (HBW.out.cell (p := ⟨b, off + j, none⟩) (by rw [← HCB.out]; exact mem_lt hcj)).trans hcj
          have hfs := flat_succ hjL
          rw [HM.out] at hfs
          have HT := Lib.hid (ftrace_any (cb + 1) cb 0 W _ (.slice pj (words.getD j []).length cj) (words.getD j []) wr hC hmo.1.ok hro.1 hW2 (by omega) (Nat.le_trans HO5.out hF.size) hmo.1.ok.pos (HWX.out _ (getL_mem hjL)) (by omega) (Nat.lt_succ_self _) ⟨w4, Nat.le_of_eq HCB.out, hij.at, HBW.out⟩)
          unfold FsmP at HT
          rw [← colsL_at hjL, ← TC.traces_snoc W 0 (colsL words) (TC.startM W) (by rw [colsL_len]; exact hjL)] at HT
          obtain ⟨lj, hlj⟩ : ∃ lj, (words.getD j []).length = lj := ⟨_, rfl⟩
          rw [hlj] at hcr HT
          clear hC hF hve hcj hij hjL hfl hlj hmo hro hfs hst1
          go_wp2_with fail
          refine HT.out.mono ?_
          rintro e w8 ⟨rfl, hF8, hC8⟩
          have HR8 : Hid (FwRel (cb + 1) cb W (colsL words) w5 (.int .i64 (((j + 1 : Nat)) : Int)) w8) := ⟨j + 1, by rw [colsL_len, HWN.out]; omega, rfl, hC8, HF7.out.trans hF8⟩
          clear hF8 hC8 hcr
          go_wp2_with fail
          go_roundw
          case rel => first | exact HR8.out | (have h := HR8.out; simpa using h)
          case measure => simp [intOf]; omega
        · obtain rfl : j = nw := by omega
          have htk : (colsL words).take j = colsL words := List.take_of_length_le (by rw [colsL_len, HWN.out]; exact Nat.le_refl _)
          rw [htk] at hC hmo hro
          rw [HM.out] at hfl
          have HST2 : Hid (FmRel (cb + 1) cb W (colsL rels) (cosM g rels words) w5 (.int .i64 0) wr) := ⟨0, 5001, _, rfl, rfl, hC, hF, hmo.1.ok, hro.1, by omega, HCM.out.symm⟩
          clear hC hF hmo hro htk hfl hst1 HF7
          go_wp2_with fail
          go_loopw [13] (fun i wr => FmRel (cb + 1) cb W (colsL rels) (cosM g rels words) w5 i wr) (fun i _ => 5002 - (intOf i).toNat)
          case atStart => exact HST2.out
          case round =>
            clear HST2 HBW
            obtain ⟨k, f, mk, rfl, hfk, hC, hF, hok, hful, h3000, hmn⟩ := hrel
            have HC9 := Lib.hid hC
            have HF9 := Lib.hid hF
            have hbw := HB5.out.trans (hF.under (Nat.lt_succ_self _))
            have HBW := Lib.hid hbw
            obtain ⟨D, L, vR, vS, hs9, hmem, hsim⟩ := id hC
            have hlD := hsim.lenD
            have hlL := hsim.lenL
            obtain ⟨gR, cR, hvR, -⟩ := hmem.rows.form (by show 0 < D.length; have := hok.pos; omega)
            obtain ⟨gS, cS, hvS, -, -⟩ := hmem.same.form (by rw [natI_len]; show 0 < L.length; have := hok.pos; omega)
            rw [natI_len] at hvS
            obtain ⟨len, hlen⟩ : ∃ len, mk.R.length = len := ⟨_, rfl⟩
            rw [hlen] at hlD hlL
            have hvR' : vR = .slice (some ⟨gR, 0, none⟩) len cR := by rw [← hlD]; exact hvR
            have hvS' : vS = .slice (some ⟨gS, 0, none⟩) len cS := by rw [← hlL]; exact hvS
            subst hvR'
            subst hvS'
            obtain ⟨c0, c1, c2, -, -, -⟩ := three_at hmem.blk
            have hl5 : len ≤ 5000 := by rw [← hlen]; exact hok.most
            have HLEN := Lib.hid hlen
            have HOK := Lib.hid hok
            have HFU := Lib.hid hful
            have HMN := Lib.hid hmn
            have HMEM := Lib.hid hmem
            have HSIM := Lib.hid hsim
            have hOw := Nat.le_trans HO5.out hF.size
            by_cases hkl : k < len
            · by_cases hbig : 120 < len
              · have HBF := Lib.hid (HB4.out.trans (hbw.mono (Nat.le_trans HB4.out.size (Nat.le_of_eq HCB.out))))
                clear hC hF hok hful hmn hlen hmem hsim hbw hvR hvS
                go_wp2_with fail
                refine bodyPost_ret (v := .tuple #[.slice none 0 0, .int .i64 0, .bool false]) (by simp [results, Tryd.results16, go_sem]) rfl ?_
                exact ⟨HBF.out, .inl ⟨_, _, rfl⟩⟩
              · have hkR : k < mk.R.length := by rw [HLEN.out]; exact hkl
                have hf1 : f = (f - 1) + 1 := by omega
                have HMN2 : Hid (TC.mainM W (colsL rels) (f - 1) (k + 1) (TC.stepM W (colsL rels) k mk) = cosM g rels words) := by
                  unfold Hid
                  have h := HMN.out
                  rw [hf1, TC.mainM, if_pos ⟨hkR, HFU.out⟩] at h
                  exact h
                have HKR := Lib.hid hkR
                have cK := hmem.labAt (i := k) (by show k < L.length; omega)
                have hrk2 := hsim.lab k
                obtain ⟨r, hr⟩ : ∃ r, TC.rep mk.S k = r := ⟨_, rfl⟩
                have cK' : wr.cell? ⟨gS, k, none⟩ = some (.int .i64 (r : Int)) := by rw [← hr, ← hrk2]; exact cK
                have HRK := Lib.hid hr
                have d0 := (hbw.cell (p := ⟨w.heap.size, 0, none⟩) (by rw [← HCB.out]; exact mem_lt HD2.out)).trans HD2.out
                have d1 := (hbw.cell (p := ⟨w.heap.size, 1, none⟩) (by rw [← HCB.out]; exact mem_lt HD3.out)).trans HD3.out
                have hl120 : len ≤ 120 := by omega
                clear hC hF hok hful hmn hlen hmem hsim hkR hr hbw hf1 cK hrk2 hvR hvS hbig
                by_cases hrk : r = k
                · subst hrk
                  have q3 : ((r : Int) != (r : Int)) = false := by simp
                  have HSTP : Hid (TC.stepM W (colsL rels) r mk = TC.nextsM W r (List.range W) (TC.tracesM W r (colsL rels) mk)) := by unfold Hid TC.stepM; rw [if_pos HRK.out]; rfl
                  have HSR : Hid (FrRel (cb + 1) cb W r (colsL rels) mk w5 (.int .i64 0) wr) := ⟨0, Nat.zero_le _, rfl, HC9.out, HF9.out⟩
                  go_wp2_with fail
                  go_loopw [14] (fun i wr => FrRel (cb + 1) cb W r (colsL rels) mk w5 i wr) (fun i _ => n - (intOf i).toNat)
                  case atStart => exact HSR.out
                  case round =>
                    clear HSR d0 d1 c0 c1 c2 cK' HBW q3 HF9 HC9 HMEM HSIM
                    obtain ⟨j, hj, rfl, hC, hF⟩ := hrel
                    rw [colsL_len, HLN.out] at hj
                    have hmo := TC.traces_ok hW2 ((colsL rels).take j) HOK.out HKR.out (fun w hw => HRL.out w (List.mem_of_mem_take hw))
                    have hfl := flat_len rels j
                    rw [HMR.out] at hfl
                    have hlen2 := HLEN.out
                    have hro := TC.traces_room hW2 ((colsL rels).take j) HOK.out HKR.out (fun w hw => HRL.out w (List.mem_of_mem_take hw)) HFU.out (by rw [colsL_take, colsL_flat]; omega)
                    rw [colsL_take, colsL_flat] at hro
                    rw [← colsL_take] at hro
                    have HF7 := Lib.hid hF
                    have HBW := Lib.hid (HB5.out.trans (hF.under (Nat.lt_succ_self _)))
                    have d0 := (HBW.out.cell (p := ⟨w.heap.size, 0, none⟩) (by rw [← HCB.out]; exact mem_lt HD2.out)).trans HD2.out
                    have d1 := (HBW.out.cell (p := ⟨w.heap.size, 1, none⟩) (by rw [← HCB.out]; exact mem_lt HD3.out)).trans HD3.out
                    obtain ⟨D3, L3, vR3, vS3, hs3, hmem3, -⟩ := id hC
                    have c2 := (three_at hmem3.blk).2.2.1
                    by_cases hjn : j < n
                    · have hjL : j < rels.length := by rw [HLN.out]; exact hjn
                      obtain ⟨b, off, c', hve⟩ := HR4.out.form (by omega)
                      rw [HLN.out] at hve
                      obtain ⟨rfl, rfl⟩ : pr = some ⟨b, off, none⟩ ∧ cr = c' := by cases hve; exact ⟨rfl, rfl⟩
                      obtain ⟨pj, cj, hcj, hij⟩ := cells_at HR4.out j hjL
                      have hcr := (HBW.out.cell (p := ⟨b, off + j, none⟩) (by rw [← HCB.out]; exact mem_lt hcj)).trans hcj
                      have hfs := flat_succ hjL
                      rw [HMR.out] at hfs
                      have HT := Lib.hid (ftrace_any (cb + 1) cb r W _ (.slice pj (rels.getD j []).length cj) (rels.getD j []) wr hC hmo.1.ok hro.1 hW2 (by omega) (Nat.le_trans HO5.out hF.size) (Nat.lt_of_lt_of_le HKR.out hmo.1.grow) (HRX.out _ (getL_mem hjL)) (by omega) (Nat.lt_succ_self _) ⟨w4, Nat.le_of_eq HCB.out, hij.at, HBW.out⟩)
                      unfold FsmP at HT
                      rw [← colsL_at hjL, ← TC.traces_snoc W r (colsL rels) mk (by rw [colsL_len]; exact hjL)] at HT
                      obtain ⟨lj, hlj⟩ : ∃ lj, (rels.getD j []).length = lj := ⟨_, rfl⟩
                      rw [hlj] at hcr HT
                      clear hC hF hve hcj hij hjL hfl hlj hmo hro hfs hmem3 hlen2
                      go_wp2_with fail
                      refine HT.out.mono ?_
                      rintro e w8 ⟨rfl, hF8, hC8⟩
                      have HR8 : Hid (FrRel (cb + 1) cb W r (colsL rels) mk w5 (.int .i64 (((j + 1 : Nat)) : Int)) w8) := ⟨j + 1, by rw [colsL_len, HLN.out]; omega, rfl, hC8, HF7.out.trans hF8⟩
                      clear hF8 hC8 hcr d0 d1 c2
                      go_wp2_with fail
                      go_roundw
                      case rel => first | exact HR8.out | (have h := HR8.out; simpa using h)
                      case measure => simp [intOf]; omega
                    · obtain rfl : j = n := by omega
                      have htk : (colsL rels).take j = colsL rels := List.take_of_length_le (by rw [colsL_len, HLN.out]; exact Nat.le_refl _)
                      rw [htk] at hC hmo hro
                      have hkT : r < (TC.tracesM W r (colsL rels) mk).R.length := Nat.lt_of_lt_of_le HKR.out hmo.1.grow
                      have HTOK := Lib.hid hmo.1.ok
                      have HTRO : Hid ((TC.tracesM W r (colsL rels) mk).full = false ∧ (TC.tracesM W r (colsL rels) mk).R.length ≤ 2000) := ⟨hro.1, by omega⟩
                      have HSX : Hid (FxxRel (cb + 1) cb W r (TC.tracesM W r (colsL rels) mk) w5 (.int .i64 0) wr) := ⟨0, Nat.zero_le _, rfl, hC, hF⟩
                      have HKT := Lib.hid hkT
                      clear hC hF hmo hro htk HF7 hkT hfl hlen2 hmem3
                      go_wp2_with fail
                      go_loopw [15] (fun i wr => FxxRel (cb + 1) cb W r (TC.tracesM W r (colsL rels) mk) w5 i wr) (fun i _ => W - (intOf i).toNat)
                      case atStart => exact HSX.out
                      case round =>
                        clear HSX d0 d1 c2 HBW
                        obtain ⟨x, hx, rfl, hC, hF⟩ := hrel
                        have hno := TC.nexts_ok hW2 (List.range x) HTOK.out HKT.out (fun y hy => by have := List.mem_range.1 hy; omega)
                        have hnr := TC.nexts_room (W := W) (a := r) x HTRO.out.1 (by have := HTRO.out.2; omega)
                        have HF7 := Lib.hid hF
                        have HBW := Lib.hid (HB5.out.trans (hF.under (Nat.lt_succ_self _)))
                        have d0 := (HBW.out.cell (p := ⟨w.heap.size, 0, none⟩) (by rw [← HCB.out]; exact mem_lt HD2.out)).trans HD2.out
                        obtain ⟨D3, L3, vR3, vS3, hs3, hmem3, -⟩ := id hC
                        have c2 := (three_at hmem3.blk).2.2.1
                        by_cases hxW : x < W
                        · have HT := Lib.hid (fstep_any (cb + 1) cb r x W _ wr hC hno.1.ok hnr.1 hW2 (by omega) (Nat.le_trans HO5.out hF.size) (Nat.lt_of_lt_of_le HKT.out hno.1.grow) hxW (by have := HTRO.out.2; have := hnr.2; omega))
                          unfold FstP at HT
                          rw [← TC.nexts_snoc] at HT
                          clear hC hF hno hnr hmem3
                          go_wp2_with fail
                          refine HT.out.mono ?_
                          rintro e w8 ⟨rfl, hF8, hC8⟩
                          have HR8 : Hid (FxxRel (cb + 1) cb W r (TC.tracesM W r (colsL rels) mk) w5 (.int .i64 (((x + 1 : Nat)) : Int)) w8) := ⟨x + 1, by omega, rfl, hC8, HF7.out.trans hF8⟩
                          clear hF8 hC8 d0 c2
                          go_wp2_with fail
                          go_roundw
                          case rel => first | exact HR8.out | (have h := HR8.out; simpa using h)
                          case measure => simp [intOf]; omega
                        · obtain rfl : x = W := by omega
                          have HFIN : Hid (FmRel (cb + 1) cb x (colsL rels) (cosM g rels words) w5 (.int .i64 (((r + 1 : Nat)) : Int)) wr) := by
                            have h2 := HMN2.out
                            rw [HSTP.out] at h2
                            exact ⟨r + 1, f - 1, _, rfl, by omega, hC, hF, hno.1.ok, hnr.1, by have := HTRO.out.2; have := hnr.2; omega, h2⟩
                          clear hC hF hno hnr HF7 hmem3
                          go_wp2_with fail
                          go_roundw
                          case rel => first | exact HFIN.out | (have h := HFIN.out; simpa using h)
                          case measure => simp [intOf]; omega
                · have q3 : ((r : Int) != (k : Int)) = true := by rw [bne_iff_ne]; omega
                  have HFIN : Hid (FmRel (cb + 1) cb W (colsL rels) (cosM g rels words) w5 (.int .i64 (((k + 1 : Nat)) : Int)) wr) := by
                    have h2 := HMN2.out
                    rw [TC.stepM, HRK.out, if_neg hrk] at h2
                    exact ⟨k + 1, f - 1, mk, rfl, by omega, HC9.out, HF9.out, HOK.out, HFU.out, h3000, h2⟩
                  clear hrk d0 d1
                  go_wp2_with fail
                  go_roundw
                  case rel => first | exact HFIN.out | (have h := HFIN.out; simpa using h)
                  case measure => simp [intOf]; omega
            · have HEND : Hid (mk = cosM g rels words) := by
                unfold Hid
                have h := HMN.out
                cases f with
                | zero => exact h
                | succ f =>
                  rw [TC.mainM, if_neg (by rw [HLEN.out]; exact fun e => hkl e.1)] at h
                  exact h
              have hmC : mk = TC.cosetsM W (colsL rels) (colsL words) := HEND.out.trans HCM.out
              have hLd : ∀ j, j < mk.R.length → ∀ x, x < W → TC.Leads mk j x := fun j hj => by
                have h := (TC.cosetsM_ok hW2 HRL.out HWL.out).2
                rw [← hmC] at h
                exact (h HFU.out).2 j hj |>.2
              have HLV := Lib.hid (fun (x k : Nat) hx hxx hk => TC.live_ent HOK.out hLd (x := x) (k := k) hx hxx hk)
              have HOL := Lib.hid (TC.ordO_live HOK.out)
              have HLT := Lib.hid (TC.ordO_lt HOK.out hLd)
              have HLE := Lib.hid (TC.ordO_le HOK.out hLd)
              have HRE := Lib.hid (fun (i k : Nat) hi hk => TC.rowO_le HOK.out hLd (i := i) (k := k) hi hk)
              have HBF := Lib.hid (HB4.out.trans (hbw.mono (Nat.le_trans HB4.out.size (Nat.le_of_eq HCB.out))))
              have HE2 : Hid (cosA (g : Int) rels words = if 400 < (TC.ordO mk W 5001).length then (1, []) else (0, TC.tabT mk W (TC.ordO mk W 5001).length)) := by
                unfold Hid
                rw [HE.out]
                unfold cosT
                rw [← HEND.out, if_neg (by rw [HFU.out]; decide), HWG.out]
              have d0 := (hbw.cell (p := ⟨w.heap.size, 0, none⟩) (by rw [← HCB.out]; exact mem_lt HD2.out)).trans HD2.out
              have HD9 := Lib.hid d0
              clear hC hF hok hful hmn hlen hmem hsim hbw hvR hvS hmC hLd HC9 HF9 HMN d0
              obtain ⟨w9, hw9⟩ : ∃ w9, w9 = wr := ⟨_, rfl⟩
              subst hw9
              go_wp2_with (at_builtin; refine wpList_append_lies _ rfl (.tmp 133) (.tmp 134) 27 rfl w9.heap.size 3 i3 (.int .i64 0) 1 8 Tryd.underlying27 hi3 hy0 hy1 hy2 rfl (by decide) (.slice none 0 0) 0 [] rfl (World.ownsRow_nil _ _ _ _) ⟨w9.heap.size, 0, none⟩ 1 1 [.int .i64 0] rfl rfl (World.news_of_block (cs := #[.int .i64 0]) (t := 3) (fr := (0, 0)) (heap_alloc_new w9 _)) (by simp [Value.oneCell']) (by decide) (by unfold maxLen; omega) (by omega) (by simp) (w9.heap.size + 1) (by simp) ?_; intro g2 cc2 w10 hown2 hgr2 hat2 hlt2; have HO2 := Lib.hid hown2; have HG2 := Lib.hid hgr2; clear hown2 hgr2 hat2 hlt2)
              have HST : Hid (FoRel w9.heap.size W mk w9 (.slice (some ⟨g2, 0, none⟩) (0 + 1) cc2) (.slice none 0 0) (.int .i64 0) w10) := by
                refine ⟨0, [], rfl, Nat.zero_le _, ((Below.refl w9.heap.size w9).alloc (Nat.le_refl _) _).grown HG2.out (by simp) (fun k e => by cases e), ⟨?_, IntO.nil _ _, ⟨World.ownsRow_nil _ _ _ _, rfl, fun i h => absurd h (by simp [TC.tabT]), fun i j h => absurd h (by simp [TC.tabT])⟩, (fun k _ e => by cases e), (fun k _ i h => absurd h (by simp [TC.tabT])), (fun k hk => by cases hk)⟩⟩
                exact HO2.out
              go_loopw [16, 17, 18] (fun sO sT i wr => FoRel w9.heap.size W mk w9 sO sT i wr) (fun _ _ i _ => 5001 - (intOf i).toNat)
              case atStart => exact HST.out
              case round => as_aux_lemma =>
                clear HST HO2 HG2 c0 c1 c2
                obtain ⟨j, hs, rfl, hj, hb, hT⟩ := hrel
                obtain ⟨sT, rfl⟩ : ∃ sT, sT = u17 := ⟨_, rfl⟩
                have HBR := Lib.hid hb
                have HT := Lib.hid hT
                obtain ⟨l, hll⟩ : ∃ l, (TC.ordO mk W j).length = l := ⟨_, rfl⟩
                rw [hll] at hj
                have hl5' : l ≤ len := by have := HLE.out j; rw [hll, HLEN.out] at this; exact this
                have HLL := Lib.hid hll
                clear hll
                by_cases hjl : j < l
                · obtain ⟨go, co, hvO, -, -⟩ := hT.ord.form (by rw [natI_len, HLL.out]; omega)
                  rw [natI_len, HLL.out] at hvO
                  subst hvO
                  have hjO : j < (TC.ordO mk W j).length := by rw [HLL.out]; exact hjl
                  have hmem := TC.getD_mem hjO
                  have hx1 := HLT.out j _ hmem
                  have hx2 := HOL.out j _ hmem
                  have hgd : (TC.ordO mk W j).getD j j = (TC.ordO mk W j).getD j 0 := by simp [List.getD_eq_getElem?_getD, List.getElem?_eq_getElem hjO]
                  have HSN := Lib.hid (fun k (hk : k < W) => TC.rowT_snoc hjO hk)
                  have HREJ := Lib.hid (fun k (hk : k ≤ W) => HRE.out j k hjO hk)
                  have HPRO := Lib.hid (fun k => TC.rowO_pre mk (TC.ordO mk W j) ((TC.ordO mk W j).getD j 0) (Nat.zero_le k))
                  have HORD : Hid (TC.ordO mk W (j + 1) = TC.rowO mk (TC.ordO mk W j) ((TC.ordO mk W j).getD j 0) W) := by unfold Hid; rw [TC.ordO, if_pos hjO]
                  obtain ⟨x, hxx⟩ : ∃ x, (TC.ordO mk W j).getD j 0 = x := ⟨_, rfl⟩
                  rw [hxx] at hx1 hx2 HSN HREJ HORD HPRO hgd
                  have HGD := Lib.hid hgd
                  have hxn : x < len := by rw [← HLEN.out]; exact hx1
                  have HX1 := Lib.hid hx1
                  have HX2 := Lib.hid hx2
                  have HST : Hid (FcRel w9.heap.size W j x mk w9 sT hs (.slice (some ⟨go, 0, none⟩) l co) (.slice none 0 0) (.int .i64 0) wr) := ⟨0, Nat.zero_le _, rfl, hb, hT⟩
                  clear hT hb hmem hxx hx1 hx2 hgd
                  go_wp2_with fail
                  go_loopw [16, 19, 20] (fun sO sR k wr => FcRel w9.heap.size W j x mk w9 sT hs sO sR k wr) (fun _ _ k _ => W - (intOf k).toNat)
                  case atStart => exact HST.out
                  case round =>
                    clear HST HT HBR
                    obtain ⟨q, hq, rfl, hb, hT⟩ := hrel
                    have HBR := Lib.hid hb
                    have hwE : w9.heap.size ≤ wr.heap.size := hb.size
                    have d0 := (hb.cell (p := ⟨w.heap.size, 0, none⟩) (mem_lt HD9.out)).trans HD9.out
                    obtain ⟨pr2, cr2, hvr⟩ := hT.row.sliceOf
                    have hrl : ((TC.rowT mk W j).take q).length = q := by rw [List.length_take, TC.rowT_len]; omega
                    rw [hrl] at hvr
                    obtain ⟨sR, hsR⟩ : ∃ sR, sR = u19 := ⟨_, rfl⟩
                    subst hsR
                    subst hvr
                    have HRL2 := Lib.hid hrl
                    by_cases hqW : q < W
                    · obtain ⟨u0, hu0, hun0, htm⟩ := HLV.out x q HX1.out HX2.out hqW
                      obtain ⟨u, hu, hru⟩ := HSIM.out.fwd x q u0 HX2.out hu0
                      have hun : u < len := by have h1 := (HSIM.out.wide.inn hu).2.2; omega
                      have hm2 := HMEM.out.below hb (Nat.le_refl _)
                      obtain ⟨c0, c1, -, -, -, -⟩ := three_at hm2.blk
                      obtain ⟨gx, cx, cX, eX, hOx, rX, -⟩ := hm2.rowAt (W := W) HSIM.out.wide (by omega) (x := x) (by show x < D.length; omega)
                      have vX : wr.cell? ⟨gx, q, none⟩ = some (.int .i64 (u : Int)) := by have h1 := (rX q hqW).1; rw [← hu]; exact h1
                      have cU := hm2.labAt (i := u) (by show u < L.length; omega)
                      have hlu : TC.lb L u = TC.toM mk x q := by rw [HSIM.out.lab, hru, htm]
                      obtain ⟨y, hy⟩ : ∃ y, TC.toM mk x q = y := ⟨_, rfl⟩
                      have cU' : wr.cell? ⟨gS, u, none⟩ = some (.int .i64 (y : Int)) := by rw [← hy, ← hlu]; exact cU
                      have hyl : y ≤ 1000000 := by
                        rw [← hy, htm]
                        have := TC.rep_le HOK.out.good.wf u0
                        have := HLEN.out
                        omega
                      have HTM := Lib.hid hy
                      have HRW := Lib.hid (HSN.out q hqW)
                      have HRO : Hid (TC.rowO mk (TC.ordO mk W j) x (q + 1) = TC.addO (TC.rowO mk (TC.ordO mk W j) x q) y) := by unfold Hid; rw [TC.rowO, hy]
                      have hOl := HREJ.out q (by omega)
                      rw [HLEN.out] at hOl
                      obtain ⟨C, hC⟩ := HPRO.out q
                      obtain ⟨Ok, hOk⟩ : ∃ Ok, TC.rowO mk (TC.ordO mk W j) x q = Ok := ⟨_, rfl⟩
                      have hC' : TC.ordO mk W j ++ C = Ok := by rw [← hOk]; exact hC
                      have hgj : Ok.getD j j = x := by
                        rw [← hC', List.getD_eq_getElem?_getD, List.getElem?_append_left hjO, ← List.getD_eq_getElem?_getD]; exact HGD.out
                      have hlj : j < Ok.length := by rw [← hC', List.length_append]; omega
                      rw [hOk] at hT HRO hOl
                      obtain ⟨go2, co2, hvO2, -, -⟩ := hT.ord.form (by rw [natI_len]; omega)
                      rw [natI_len] at hvO2
                      obtain ⟨l2, hl2⟩ : ∃ l2, Ok.length = l2 := ⟨_, rfl⟩
                      rw [hl2] at hvO2 hOl hlj
                      subst hvO2
                      have cO := hT.ord.cellsAt j (by rw [natI_len, hl2]; exact hlj)
                      rw [natI_at (by rw [hl2]; exact hlj), hgj] at cO
                      have HLK := Lib.hid hl2
                      have HT2 := Lib.hid hT
                      clear hu0 hun0 htm hu hru hm2 eX rX cU hlu hy hC hOk hC' hgj hl2 hT hb hrl hOx
                      go_wp2_with fail
                      go_quiet (fail)
                      have HB3 := Lib.hid (below_dn HBR.out nq)
                      have HT3 := Lib.hid (HT2.out.drewN nq)
                      obtain ⟨w3, hw3⟩ : ∃ w3, wr.drewN nq = w3 := ⟨_, rfl⟩
                      rw [hw3] at HB3 HT3 ⊢
                      have hwE3 : w9.heap.size ≤ w3.heap.size := HB3.out.size
                      clear hw3 HBR HT2 c0 c1 cX vX cU' cO d0 hwE
                      have hidx : Ok.idxOf y ≤ l2 := by rw [← HLK.out]; exact List.idxOf_le_length
                      obtain ⟨idx, hix⟩ : ∃ idx, Ok.idxOf y = idx := ⟨_, rfl⟩
                      rw [hix] at hidx
                      have HIX := Lib.hid hix
                      clear hix
                      go_wp2_with fail
                      go_loopw [22] (fun s wr2 => ∃ p : Nat, p ≤ idx ∧ s = .int .i64 (p : Int) ∧ wr2 = w3) (fun s _ => l2 - (intOf s).toNat)
                      case atStart => exact ⟨0, Nat.zero_le _, rfl, rfl⟩
                      case round =>
                        obtain ⟨p, hp, rfl, rfl⟩ := hrel
                        by_cases hpi : p < idx
                        · have hpl : p < Ok.length := by rw [HLK.out]; omega
                          have cP := HT3.out.ord.cellsAt p (by rw [natI_len]; exact hpl)
                          rw [natI_at hpl] at cP
                          have hne : Ok.getD p p ≠ y := fun e => by
                            have h1 := HIX.out
                            have h2 : Ok[p]? = some y := by rw [List.getD_eq_getElem?_getD, List.getElem?_eq_getElem hpl] at e; rw [List.getElem?_eq_getElem hpl]; exact congrArg some e
                            have h3 := idxOf_le_at Ok p y h2
                            omega
                          obtain ⟨zp, hzp⟩ : ∃ zp, Ok.getD p p = zp := ⟨_, rfl⟩
                          rw [hzp] at cP hne
                          have q1 : ((zp : Int) != (y : Int)) = true := by rw [bne_iff_ne]; omega
                          have hpl2 : p < l2 := by omega
                          clear hzp hne hpl
                          go_wp2_with fail
                          go_roundw
                          case rel => exact ⟨p + 1, hpi, by go_num, by first | rfl | trivial⟩
                          case measure => simp [intOf]; omega
                        · obtain rfl : p = idx := by omega
                          have hrow3 : wr.ownsRow w9.heap.size 3 1 (.slice pr2 q cr2) q (intVs ((TC.rowT mk W j).take q)) := by
                            have h1 := HT3.out.row
                            unfold IntO at h1
                            rw [HRL2.out] at h1
                            exact h1
                          have HR3 := Lib.hid hrow3
                          rw [HTM.out, HRO.out] at HRW
                          clear hrow3
                          by_cases hpl : p < l2
                          · have hpO : p < Ok.length := by rw [HLK.out]; exact hpl
                            have cP := HT3.out.ord.cellsAt p (by rw [natI_len]; exact hpO)
                            rw [natI_at hpO] at cP
                            have h1 := idxOf_at Ok y (by rw [HIX.out]; exact hpO)
                            rw [HIX.out] at h1
                            have hPY : Ok.getD p p = y := by rw [List.getD_eq_getElem?_getD, h1]; rfl
                            have HAD : Hid (TC.addO Ok y = Ok) := by unfold Hid TC.addO; rw [if_pos (List.mem_of_getElem? h1)]
                            rw [HAD.out, HIX.out] at HRW
                            rw [HAD.out] at HRO
                            rw [hPY] at cP
                            have q1 : ((y : Int) != (y : Int)) = false := by simp
                            clear hPY hpO h1
                            go_wp2_with (at_builtin; refine wpList_append_lies _ rfl (.tmp 190) (.tmp 192) 27 rfl w9.heap.size 3 i3 (.int .i64 0) 1 8 Tryd.underlying27 hi3 hy0 hy1 hy2 rfl (by decide) _ q (intVs ((TC.rowT mk W j).take q)) rfl (HR3.out.alloc _) ⟨wr.heap.size, 0, none⟩ 1 1 [.int .i64 (p : Int)] rfl rfl (World.news_of_block (cs := #[.int .i64 (p : Int)]) (t := 3) (fr := (0, 0)) (heap_alloc_new wr _)) (by simp [Value.oneCell']) (by decide) (by unfold maxLen; omega) (by omega) (by simp; omega) (wr.heap.size + 1) (by simp) ?_; intro g2 c2 w10 hown2 hgr2 hat2 hlt2; have HO2 := Lib.hid hown2; have HG2 := Lib.hid hgr2; have HA2 := Lib.hid hat2; clear hown2 hgr2 hat2 hlt2)
                            go_roundw
                            case rel =>
                              have hbA : Below wr.heap.size wr (wr.alloc (.cells #[.int .i64 (p : Int)] 3)) := (Below.refl _ _).alloc (Nat.le_refl _) _
                              refine ⟨q + 1, hqW, by go_num, ((HB3.out.alloc (by omega) _).grown HG2.out (by simp; omega) (fun k e => (HR3.out.lt k e).1)), ?_⟩
                              rw [HRO.out, HRW.out]
                              exact (HT3.out.below hbA (Nat.le_refl _)).pushR HO2.out (by rw [HRL2.out]) HG2.out (HA2.out.imp_right fun e => by simp; omega)
                            case measure => simp [intOf]; omega
                          · obtain ⟨l3, hl3⟩ : ∃ l3, p = l3 := ⟨_, rfl⟩
                            obtain rfl : l2 = l3 := by omega
                            have hni : y ∉ Ok := fun e => by
                              have h1 := List.idxOf_lt_length_iff.2 e
                              rw [HIX.out, HLK.out, hl3] at h1
                              exact absurd h1 (Nat.lt_irrefl _)
                            rw [hl3] at HIX
                            have HAD : Hid (TC.addO Ok y = Ok ++ [y]) := by unfold Hid TC.addO; rw [if_neg hni]
                            have HIX2 : Hid ((Ok ++ [y]).idxOf y = l2) := by
                              unfold Hid
                              rw [List.idxOf_append, if_neg hni, HLK.out]
                              simp
                            rw [HAD.out, HIX2.out] at HRW
                            rw [HAD.out] at HRO
                            subst hl3
                            have hord3 : wr.ownsRow w9.heap.size 3 1 (.slice (some ⟨go2, 0, none⟩) p co2) p (intVs (natI Ok)) := by
                              have h1 := HT3.out.ord
                              unfold IntO at h1
                              rw [natI_len, HLK.out] at h1
                              exact h1
                            have HD3' := Lib.hid hord3
                            clear hni hord3
                            go_wp2_with (first
                              | (at_builtin; refine wpList_append_lies _ rfl (.tmp 186) (.tmp 188) 27 rfl w9.heap.size 3 i3 (.int .i64 0) 1 8 Tryd.underlying27 hi3 hy0 hy1 hy2 rfl (by decide) _ p (intVs (natI Ok)) rfl (HD3'.out.alloc _) ⟨wr.heap.size, 0, none⟩ 1 1 [.int .i64 (y : Int)] rfl rfl (World.news_of_block (cs := #[.int .i64 (y : Int)]) (t := 3) (fr := (0, 0)) (heap_alloc_new wr _)) (by simp [Value.oneCell']) (by decide) (by unfold maxLen; omega) (by omega) (by simp; omega) (wr.heap.size + 1) (by simp) ?_; intro g2 c2 w10 hown2 hgr2 hat2 hlt2; have HO2 := Lib.hid hown2; have HG2 := Lib.hid hgr2; have HA2 := Lib.hid hat2; clear hown2 hgr2 hat2 hlt2; have HP2 : Hid (ToldD w9.heap.size w10 (.slice (some ⟨g2, 0, none⟩) (p + 1) c2) (.slice pr2 q cr2) sT hs (Ok ++ [y]) ((TC.rowT mk W j).take q) (TC.tabT mk W j)) := (HT3.out.below (C := wr.heap.size) ((Below.refl _ _).alloc (Nat.le_refl _) _) (Nat.le_refl _)).pushO HO2.out (by rw [HLK.out]) HG2.out (HA2.out.imp_right fun e => by simp; omega); have hs10 : w9.heap.size ≤ w10.heap.size := Nat.le_trans hwE3 (Nat.le_trans (by simp) HG2.out.size); have HB10 := Lib.hid ((HB3.out.alloc hwE3 _).grown HG2.out (by simp; omega) (fun k e => (HD3'.out.lt k e).1)); have HR10 : Hid (w10.ownsRow w9.heap.size 3 1 (.slice pr2 q cr2) q (intVs ((TC.rowT mk W j).take q))) := (by unfold Hid; have h1 := HP2.out.row; unfold IntO at h1; rw [HRL2.out] at h1; exact h1))
                              | (at_builtin; refine wpList_append_lies _ rfl (.tmp 190) (.tmp 192) 27 rfl w9.heap.size 3 i3 (.int .i64 0) 1 8 Tryd.underlying27 hi3 hy0 hy1 hy2 rfl (by decide) _ q (intVs ((TC.rowT mk W j).take q)) rfl (HR10.out.alloc _) ⟨w10.heap.size, 0, none⟩ 1 1 [.int .i64 (p : Int)] rfl rfl (World.news_of_block (cs := #[.int .i64 (p : Int)]) (t := 3) (fr := (0, 0)) (heap_alloc_new w10 _)) (by simp [Value.oneCell']) (by decide) (by unfold maxLen; omega) (by omega) (by simp; omega) (w10.heap.size + 1) (by simp) ?_; intro g3 c3 w11 hown3 hgr3 hat3 hlt3; have HO3 := Lib.hid hown3; have HG3 := Lib.hid hgr3; have HA3 := Lib.hid hat3; clear hown3 hgr3 hat3 hlt3))
                            go_roundw
                            case rel =>
                              have hbA : Below w10.heap.size w10 (w10.alloc (.cells #[.int .i64 (p : Int)] 3)) := (Below.refl _ _).alloc (Nat.le_refl _) _
                              refine ⟨q + 1, hqW, by go_num, ((HB10.out.alloc hs10 _).grown HG3.out (by simp; omega) (fun k e => (HR10.out.lt k e).1)), ?_⟩
                              rw [HRO.out, HRW.out]
                              exact (HP2.out.below hbA (Nat.le_refl _)).pushR HO3.out (by rw [HRL2.out]) HG3.out (HA3.out.imp_right fun e => by simp; omega)
                            case measure => simp [intOf]; omega
                    · obtain rfl : q = W := by omega
                      have htk : (TC.rowT mk q j).take q = TC.rowT mk q j := List.take_of_length_le (by rw [TC.rowT_len]; exact Nat.le_refl _)
                      have hT4 := hT
                      rw [htk, ← HORD.out] at hT4
                      have HT4 := Lib.hid hT4
                      have hout := hT4.out.1
                      rw [TC.tabT_len] at hout
                      have HOUT := Lib.hid hout
                      have HPRE : Hid (l ≤ (TC.ordO mk q (j + 1)).length) := by
                        unfold Hid
                        obtain ⟨C, e⟩ := TC.ordO_pre mk q (Nat.le_succ j)
                        rw [← e, List.length_append, HLL.out]; omega
                      obtain ⟨po, cO2, hvo⟩ := hT.ord.sliceOf
                      rw [natI_len] at hvo
                      obtain ⟨l2, hl2⟩ : ∃ l2, (TC.rowO mk (TC.ordO mk q j) x q).length = l2 := ⟨_, rfl⟩
                      rw [hl2] at hvo
                      subst hvo
                      have HL2 : Hid ((TC.ordO mk q (j + 1)).length = l2) := by unfold Hid; rw [HORD.out]; exact hl2
                      clear hT hb htk hT4 hout hrl hl2
                      go_wp2_with (at_builtin; refine wpList_append_lies _ rfl (.tmp 194) (.tmp 196) 22 rfl w9.heap.size 27 i39 (.slice none 0 0) 1 24 Tryd.underlying22 hi39 hz0 hz1 hz2 rfl (by decide) _ j hs rfl (HOUT.out.alloc _) ⟨wr.heap.size, 0, none⟩ 1 1 [.slice pr2 q cr2] rfl rfl (World.news_of_block (cs := #[.slice pr2 q cr2]) (t := 27) (fr := (0, 0)) (heap_alloc_new wr _)) (by simp [Value.oneCell']) (by decide) (by unfold maxLen; omega) (by omega) (by simp; omega) (wr.heap.size + 1) (by simp) ?_; intro g2 c2 w10 hown2 hgr2 hat2 hlt2; have HO2 := Lib.hid hown2; have HG2 := Lib.hid hgr2; clear hown2 hgr2 hat2 hlt2)
                      go_roundw
                      case rel =>
                        have hbA : Below wr.heap.size wr (wr.alloc (.cells #[.slice pr2 q cr2] 27)) := (Below.refl _ _).alloc (Nat.le_refl _) _
                        refine ⟨j + 1, hs ++ [.slice pr2 q cr2], by go_num, by have := HPRE.out; omega, (HBR.out.alloc (by omega) _).grown HG2.out (by simp; omega) (fun k e => (HOUT.out.lt k e).1), ?_⟩
                        rw [TC.tabT_snoc]
                        exact (HT4.out.below hbA (Nat.le_refl _)).pushT (by rw [TC.tabT_len]; exact HO2.out) HG2.out
                      case measure => simp [intOf]; omega
                · obtain ⟨l3, hl3⟩ : ∃ l3, j = l3 := ⟨_, rfl⟩
                  obtain rfl : l = l3 := by omega
                  subst hl3
                  obtain ⟨pt, ct, hvt⟩ := hT.out.sliceOf
                  rw [TC.tabT_len] at hvt
                  subst hvt
                  have HLS := Lib.hid (fun B => (HasO.rows (B := B) ⟨hs, hT.out⟩).lists)
                  obtain ⟨po, cO, hvo⟩ := hT.ord.sliceOf
                  rw [natI_len, HLL.out] at hvo
                  subst hvo
                  have hst := TC.ordO_stop HLL.out 5001 (by omega)
                  rw [hst, HLL.out] at HE2
                  have HBX := Lib.hid (HBF.out.trans (hb.mono HBF.out.size))
                  clear hT hb HT hst
                  by_cases h4 : 400 < j
                  · rw [if_pos h4] at HE2
                    go_wp2_with fail
                    refine bodyPost_ret (v := .tuple #[.slice none 0 0, .int .i64 2, .bool true]) (by simp [results, Tryd.results16, go_sem]) rfl ?_
                    rw [HE2.out]
                    exact ⟨HBX.out, .inr ⟨_, rfl, fun B => HNIL.out B _⟩⟩
                  · rw [if_neg h4] at HE2
                    go_wp2_with fail
                    refine bodyPost_ret (v := .tuple #[.slice pt j ct, .int .i64 0, .bool true]) (by simp [results, Tryd.results16, go_sem]) rfl ?_
                    rw [HE2.out]
                    exact ⟨HBX.out, .inr ⟨_, rfl, HLS.out⟩⟩
end Go.Proofs.YtedehmknijlgpaaDoor
