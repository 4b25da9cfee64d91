/-
  Group.Cosets by a contract.
-/
import Derived.Test.YtedehmknijlgpaaDoorCsA
set_option linter.unusedSimpArgs false
set_option linter.unusedVariables false
namespace Go.Proofs.YtedehmknijlgpaaDoor
open Go Go.RowKit Go.Maps

/-- the words are traced -/
def WRel (O cb W : Nat) (ws : List (List Nat)) (w5 : World) (i : Value) (wr : World) : Prop :=
  ∃ (j : Nat) (vR vS : Value) (hs : List Value), j ≤ ws.length ∧ i = .int .i64 (j : Int) ∧ CosH O cb wr (TC.tracesM W 0 (ws.take j) (TC.startM W)) vR vS hs ∧ Fr O cb w5 wr
/-- the rows are gone through -/
def MRel (O cb W : Nat) (rs : List (List Nat)) (mF : TC.St) (w5 : World) (i : Value) (wr : World) : Prop :=
  ∃ (k f : Nat) (mk : TC.St) (vR vS : Value) (hs : List Value), i = .int .i64 (k : Int) ∧ f + k = 5001 ∧ CosH O cb wr mk vR vS hs ∧ Fr O cb w5 wr ∧ TC.MOk W mk ∧ (0 < W ∨ mk.R.length = 1) ∧ TC.mainM W rs f k mk = mF
def RRel (O cb W k : Nat) (rs : List (List Nat)) (mk : TC.St) (w5 : World) (i : Value) (wr : World) : Prop :=
  ∃ (j : Nat) (vR vS : Value) (hs : List Value), j ≤ rs.length ∧ i = .int .i64 (j : Int) ∧ CosH O cb wr (TC.tracesM W k (rs.take j) mk) vR vS hs ∧ Fr O cb w5 wr
def XRel (O cb W k : Nat) (mk : TC.St) (w5 : World) (i : Value) (wr : World) : Prop :=
  ∃ (x : Nat) (vR vS : Value) (hs : List Value), x ≤ W ∧ i = .int .i64 (x : Int) ∧ CosH O cb wr (TC.nextsM W k (List.range x) mk) vR vS hs ∧ Fr O cb w5 wr
theorem cos_new (w : World) : CosH (w.heap.size + 1) w.heap.size (w.alloc (.cells #[.slice none 0 0, .slice none 0 0, .bool false] 58)) ⟨[], [], false⟩ (.slice none 0 0) (.slice none 0 0) [] :=
  ⟨heap_alloc_new _ _, ⟨World.ownsRow_nil _ _ _ _, rfl, fun i h => absurd h (by simp), fun i j h => absurd h (by simp)⟩, IntO.nil _ _, Nat.lt_succ_self _, fun i h => absurd h (by simp)⟩
theorem openM_new (W : Nat) : TC.openM W ⟨[], [], false⟩ = (TC.startM W, 0) := by unfold TC.openM; rw [if_neg (by decide)]; rfl

set_option maxRecDepth 100000 in
set_option maxHeartbeats 32000000 in
theorem cosets_any (B : Nat) (G : Int) (rels words : List (List Int)) (vr vw : Value) (a1 a2 : Addr) (w : World) (hS : Sen w a1 a2) (hr : ListsIn B w vr rels) (hw : ListsIn B w vw words) (hn : rels.length ≤ 1000000) (hs : rels.flatten.length ≤ 1000000) (hn2 : words.length ≤ 1000000) (hs2 : words.flatten.length ≤ 1000000) :
    Calls Tryd.prog 11 #[.agg #[.int .i64 G, vr], vw] w (CosP a1 a2 (cosA G rels words) w) := by
  obtain ⟨pr, cr, hre, -⟩ := id hr
  obtain ⟨n, hLn⟩ : ∃ n, rels.length = n := ⟨_, rfl⟩
  rw [hLn] at hre hn
  subst hre
  obtain ⟨pw, cw, hwe, -⟩ := id hw
  obtain ⟨nw, hWn⟩ : ∃ nw, words.length = nw := ⟨_, rfl⟩
  rw [hWn] at hwe hn2
  subst hwe
  have hb0 : Below w.heap.size w (w.alloc (.cells #[.int .i64 G, .slice pr n cr] 33)) := (Below.refl _ _).alloc (Nat.le_refl _) _
  obtain ⟨w1, hw1⟩ : ∃ w1, w.alloc (.cells #[.int .i64 G, .slice pr n cr] 33) = w1 := ⟨_, rfl⟩
  have hg1 := heap_alloc_new w (.cells #[.int .i64 G, .slice pr n cr] 33)
  rw [hw1] at hb0 hg1
  have HG1 := Lib.hid hg1
  have HB0 := Lib.hid hb0
  have HW1 := Lib.hid hw1
  have HLN := Lib.hid hLn
  have HWN := Lib.hid hWn
  have HR := Lib.hid hr
  have HW := Lib.hid hw
  have HVA := Lib.hid (valid_any B G rels (.slice pr n cr) a1 a2 w1 (hS.below hb0 (Nat.le_refl _)) (hr.below hb0 (Nat.le_refl _)) (by rw [hLn]; exact hn) hs)
  unfold ValidP at HVA
  obtain ⟨m, hm⟩ : ∃ m, words.flatten.length = m := ⟨_, rfl⟩
  have HM := Lib.hid hm
  rw [hm] at hs2
  have HS := Lib.hid hS
  obtain ⟨c, hc⟩ : ∃ c, groupErr G rels = c := ⟨_, rfl⟩
  rw [hc] at HVA
  have HC := Lib.hid hc
  unfold CosP
  have c0 : w1.cell? ⟨w.heap.size, 0, none⟩ = some (.int .i64 G) := by simp [World.cell?, HG1.out]
  have c1 : w1.cell? ⟨w.heap.size, 1, none⟩ = some (.slice pr n cr) := by simp [World.cell?, HG1.out]
  clear hS hr hw hb0 hg1 hw1 hm hLn hWn hc
  go_enter Tryd.func11, Tryd.ntmps11
  go_upto_region 1 with fail
  rw [HW1.out]
  go_wp2_with fail
  refine HVA.out.mono ?_
  rintro e w2 ⟨rfl, hb2⟩
  have HD0 := Lib.hid ((hb2.cell (p := ⟨w.heap.size, 0, none⟩) (mem_lt c0)).trans c0)
  have HD1 := Lib.hid ((hb2.cell (p := ⟨w.heap.size, 1, none⟩) (mem_lt c1)).trans c1)
  have HB2 := Lib.hid (HB0.out.trans (hb2.mono HB0.out.size))
  clear hb2 c0 c1
  by_cases hc0 : c = 0
  · subst hc0
    rw [show errV a1 a2 0 = Value.nilIface from rfl]
    obtain ⟨hg0, hg12, -, -, hlet⟩ := groupErr_zero HC.out
    obtain ⟨g, rfl⟩ : ∃ g : Nat, G = (g : Int) := ⟨G.toNat, by omega⟩
    rw [Int.toNat_natCast] at hlet
    have HCA : Hid (cosA (g : Int) rels words = if 400 < nw ∨ 400 < m then (1, []) else if words.flatten.any (badL g) = true then (2, []) else cosT g rels words) := by
      unfold Hid cosA; rw [HC.out, if_neg (by decide), HM.out, HWN.out, Int.toNat_natCast]
    have HLET := Lib.hid hlet
    have HCT := Lib.hid (catI_any B words (.slice pw nw cw) w2 (HW.out.below HB2.out (Nat.le_refl _)) (by rw [HWN.out]; exact hn2) (by rw [HM.out]; exact hs2))
    unfold CatP at HCT
    rw [HM.out] at HCT
    clear hg0 hlet
    go_wp2_with fail
    refine HCT.out.mono ?_
    rintro e w3 ⟨p3, c3, rfl, hb3, ho3⟩
    have d0 := (hb3.cell (p := ⟨w.heap.size, 0, none⟩) (mem_lt HD0.out)).trans HD0.out
    have d1 := (hb3.cell (p := ⟨w.heap.size, 1, none⟩) (mem_lt HD1.out)).trans HD1.out
    have HB3 := Lib.hid (HB2.out.trans (hb3.mono HB2.out.size))
    have HI := Lib.hid (ints_owned (B := B) (xs := words.flatten) ho3 HM.out.symm).at
    have e1 := (HS.out.below HB3.out (Nat.le_refl _)).b
    have e2 := (HS.out.below HB3.out (Nat.le_refl _)).s
    clear hb3 ho3
    by_cases hbig : 400 < nw ∨ 400 < m
    · have HE : Hid (cosA (g : Int) rels words = (1, [])) := by unfold Hid; rw [HCA.out, if_pos hbig]
      have HNIL := Lib.hid (fun (B : Nat) (w : World) => ListsIn.nil B w)
      by_cases k1 : 400 < nw
      · clear hbig e2
        go_upto_region 6 with fail
        go_region
        all_goals
          go_wp2_with fail
          go_ret2
          rw [HE.out]
          exact ⟨by first | exact HB3.out | exact below_dn HB3.out 1, _, rfl, fun B => HNIL.out B _⟩
      · have k2 : 400 < m := by omega
        clear hbig e2
        go_upto_region 6 with fail
        go_region
        all_goals
          go_wp2_with fail
          go_ret2
          rw [HE.out]
          exact ⟨by first | exact HB3.out | exact below_dn HB3.out 1, _, rfl, fun B => HNIL.out B _⟩
    · have k1 : nw ≤ 400 := by omega
      have k2 : m ≤ 400 := by omega
      have HLT := Lib.hid (letters_any g (.slice pr n cr) (.slice p3 m c3) words.flatten w3 (by omega) HI.out (by rw [HM.out]; omega))
      unfold Gives at HLT
      have HCA2 : Hid (cosA (g : Int) rels words = if words.flatten.any (badL g) = true then (2, []) else cosT g rels words) := by unfold Hid; rw [HCA.out, if_neg hbig]
      obtain ⟨r, hr⟩ : ∃ r, words.flatten.any (badL g) = r := ⟨_, rfl⟩
      rw [hr] at HLT HCA2
      have HRR := Lib.hid hr
      clear hbig hr HCA
      cases r with
      | true =>
        have HE : Hid (cosA (g : Int) rels words = (2, [])) := by unfold Hid; rw [HCA2.out, if_pos rfl]
        have HNIL := Lib.hid (fun (B : Nat) (w : World) => ListsIn.nil B w)
        have HE2 := Lib.hid e2
        clear e1 e2 HCA2
        go_wp2_with fail
        refine HLT.out.mono ?_
        rintro e w4 ⟨rfl, hb4⟩
        have e2 := (hb4.cell (p := ⟨1, 0, none⟩) (mem_lt HE2.out)).trans HE2.out
        have HB4 := Lib.hid (HB3.out.trans (hb4.mono HB3.out.size))
        clear hb4 d0 d1
        go_upto_region 8 with fail
        go_region
        all_goals
          go_wp2_with fail
          go_ret2
          rw [HE.out]
          exact ⟨by first | exact HB4.out | exact below_dn HB4.out 1, _, rfl, fun B => HNIL.out B _⟩
      | false =>
        have HE : Hid (cosA (g : Int) rels words = cosT g rels words) := by unfold Hid; rw [HCA2.out, if_neg (by decide)]
        have HD0 := Lib.hid d0
        have HD1 := Lib.hid d1
        clear e1 e2 HCA2
        go_wp2_with fail
        refine HLT.out.mono ?_
        rintro e w4 ⟨rfl, hb4⟩
        have HD2 := Lib.hid ((hb4.cell (p := ⟨w.heap.size, 0, none⟩) (mem_lt HD0.out)).trans HD0.out)
        have HD3 := Lib.hid ((hb4.cell (p := ⟨w.heap.size, 1, none⟩) (mem_lt HD1.out)).trans HD1.out)
        have HB4 := Lib.hid (HB3.out.trans (hb4.mono HB3.out.size))
        clear hb4 d0 d1 HD0 HD1 HI HLT HCT HVA HB0 HG1 HW1 HB2 HB3
        have HW4 := Lib.hid (HW.out.below HB4.out (Nat.le_refl _))
        have HR4 := Lib.hid (HR.out.below HB4.out (Nat.le_refl _))
        have HS4 := Lib.hid (HS.out.below HB4.out (Nat.le_refl _))
        obtain ⟨W, hWg⟩ : ∃ W, 2 * g = W := ⟨_, rfl⟩
        have hW2 : W % 2 = 0 := by omega
        have hW24 : W ≤ 24 := by omega
        have qW : (2 : Int) * (g : Int) = (W : Int) := by omega
        have HCM : Hid (cosM g rels words = TC.mainM W (colsL rels) 5001 0 (TC.tracesM W 0 (colsL words) (TC.startM W))) := by unfold Hid cosM; rw [hWg]; rfl
        have HRL : Hid (∀ w ∈ colsL rels, ∀ k ∈ w, k < W) := by unfold Hid; rw [← hWg]; exact colsL_lt (by omega) HLET.out
        have HWL : Hid (∀ w ∈ colsL words, ∀ k ∈ w, k < W) := by unfold Hid; rw [← hWg]; exact colsL_lt (by omega) HRR.out
        have HRX : Hid (∀ l ∈ rels, ∀ x ∈ l, x ≠ 0 ∧ -1000000 ≤ x ∧ x ≤ 1000000 ∧ colN x < W) := by unfold Hid; rw [← hWg]; exact fun l hl x hx => colN_lt (by omega) (any_lists HLET.out l hl x hx)
        have HWX : Hid (∀ l ∈ words, ∀ x ∈ l, x ≠ 0 ∧ -1000000 ≤ x ∧ x ≤ 1000000 ∧ colN x < W) := by unfold Hid; rw [← hWg]; exact fun l hl x hx => colN_lt (by omega) (any_lists HRR.out l hl x hx)
        have HWG := Lib.hid hWg
        obtain ⟨cb, hcb⟩ : ∃ cb, w4.heap.size = cb := ⟨_, rfl⟩
        obtain ⟨w5, hw5⟩ : ∃ w5, w4.alloc (.cells #[.slice none 0 0, .slice none 0 0, .bool false] 58) = w5 := ⟨_, rfl⟩
        have h0 := cos_new w4
        have hb5 : Below w4.heap.size w4 (w4.alloc (.cells #[.slice none 0 0, .slice none 0 0, .bool false] 58)) := (Below.refl _ _).alloc (Nat.le_refl _) _
        have hO5 : w4.heap.size + 1 ≤ (w4.alloc (.cells #[.slice none 0 0, .slice none 0 0, .bool false] 58)).heap.size := by simp
        rw [hw5] at h0 hb5 hO5
        rw [hcb] at h0 hb5 hO5
        have HO5 := Lib.hid hO5
        have HB5 := Lib.hid hb5
        have HOP := Lib.hid (open_any (cb + 1) cb W ⟨[], [], false⟩ _ _ _ w5 h0 rfl (Nat.zero_le _) hW24 hO5)
        unfold OpenP at HOP
        rw [openM_new] at HOP
        have HW5 := Lib.hid hw5
        have HCB := Lib.hid hcb
        have d0 := (hb5.cell (p := ⟨w.heap.size, 0, none⟩) (by rw [← hcb]; exact mem_lt HD2.out)).trans HD2.out
        have hg12' : g ≤ 12 := by omega
        clear h0 hb5 hO5 hw5 hcb hWg HRR HLET HC
        go_upto_region 10 with fail
        rw [HCB.out, HW5.out]
        go_wp2_with fail
        refine HOP.out.mono ?_
        rintro e w6 ⟨rfl, hF6, vR6, vS6, hs6, hC6⟩
        have HST : Hid (WRel (cb + 1) cb W (colsL words) w5 (.int .i64 0) w6) := ⟨0, vR6, vS6, hs6, Nat.zero_le _, rfl, hC6, hF6⟩
        clear hF6 hC6 d0 HOP
        go_wp2_with fail
        go_loopw [45] (fun i wr => WRel (cb + 1) cb W (colsL words) w5 i wr) (fun i _ => nw - (intOf i).toNat)
        case atStart => exact HST.out
        case round =>
          obtain ⟨j, vR, vS, hs7, hj, rfl, hC, hF⟩ := hrel
          rw [colsL_len, HWN.out] at hj
          have hmo := TC.traces_ok hW2 ((colsL words).take j) (TC.startM_ok W) (TC.startM_ok W).pos (fun w hw => HWL.out w (List.mem_of_mem_take hw))
          have hon := TC.one_traces hW2 ((colsL words).take j) (TC.startM_ok W) (TC.startM_ok W).pos (fun w hw => HWL.out w (List.mem_of_mem_take hw)) (.inr rfl)
          have HC7 := Lib.hid hC
          have HF7 := Lib.hid hF
          have HBW := Lib.hid (HB5.out.trans (hF.under (Nat.lt_succ_self _)))
          by_cases hjn : j < nw
          · have hjL : j < words.length := by rw [HWN.out]; exact hjn
            obtain ⟨b, off, c', hve⟩ := HW4.out.form (by omega)
            rw [HWN.out] at hve
            obtain ⟨rfl, rfl⟩ : pw = some ⟨b, off, none⟩ ∧ cw = c' := by cases hve; exact ⟨rfl, rfl⟩
            obtain ⟨pj, cj, hcj, hij⟩ := cells_at HW4.out j hjL
            have hcr := (HBW.out.cell (p := ⟨b, off + j, none⟩) (by rw [← HCB.out]; exact mem_lt hcj)).trans hcj
            have hfl := flat_succ hjL
            rw [HM.out] at hfl
            have HT := Lib.hid (trace_any (cb + 1) cb 0 W _ vR vS (.slice pj (words.getD j []).length cj) hs7 (words.getD j []) wr hC hmo.1.ok hW2 hW24 hon (Nat.le_trans HO5.out hF.size) hmo.1.ok.pos (HWX.out _ (getL_mem hjL)) (by omega) ⟨w4, Nat.le_of_eq HCB.out, hij.at, HBW.out⟩)
            unfold TraceP at HT
            rw [← colsL_at hjL, ← TC.traces_snoc W 0 (colsL words) (TC.startM W) (by rw [colsL_len]; exact hjL)] at HT
            obtain ⟨lj, hlj⟩ : ∃ lj, (words.getD j []).length = lj := ⟨_, rfl⟩
            rw [hlj] at hcr HT
            clear hC hF hve hcj hij hjL hfl hlj hmo hon
            go_wp2_with fail
            refine HT.out.mono ?_
            rintro e w8 ⟨rfl, hF8, vR8, vS8, hs8, hC8⟩
            have HR8 : Hid (WRel (cb + 1) cb W (colsL words) w5 (.int .i64 (((j + 1 : Nat)) : Int)) w8) := ⟨j + 1, vR8, vS8, hs8, by rw [colsL_len, HWN.out]; omega, rfl, hC8, HF7.out.trans hF8⟩
            clear hF8 hC8 hcr
            go_wp2_with fail
            go_roundw
            case rel => first | exact HR8.out | (have h := HR8.out; simpa using h)
            case measure => simp [intOf]; omega
          · obtain rfl : j = nw := by omega
            have htk : (colsL words).take j = colsL words := List.take_of_length_le (by rw [colsL_len, HWN.out]; exact Nat.le_refl _)
            rw [htk] at hC hmo hon
            have HST2 : Hid (MRel (cb + 1) cb W (colsL rels) (cosM g rels words) w5 (.int .i64 0) wr) := ⟨0, 5001, _, vR, vS, hs7, rfl, rfl, hC, hF, hmo.1.ok, hon, HCM.out.symm⟩
            clear hC hF hmo hon htk HC7 HF7
            go_wp2_with fail
            go_loopw [11] (fun i wr => MRel (cb + 1) cb W (colsL rels) (cosM g rels words) w5 i wr) (fun i _ => 5002 - (intOf i).toNat)
            case atStart => exact HST2.out
            case round =>
              clear HST HST2 HBW
              obtain ⟨k, f, mk, vR, vS, hs9, rfl, hfk, hC, hF, hok, hon, hmn⟩ := hrel
              have HC9 := Lib.hid hC
              have HF9 := Lib.hid hF
              have hbw := HB5.out.trans (hF.under (Nat.lt_succ_self _))
              have HBW := Lib.hid hbw
              obtain ⟨gR, cR, hvR, -⟩ := hC.rows.form hok.pos
              obtain ⟨len, hlen⟩ : ∃ len, mk.R.length = len := ⟨_, rfl⟩
              rw [hlen] at hvR
              subst hvR
              obtain ⟨c0, c1, c2, -, -, -⟩ := three_at hC.blk
              have hl5 : len ≤ 5000 := by rw [← hlen]; exact hok.most
              obtain ⟨fl, hfl⟩ : ∃ fl, mk.full = fl := ⟨_, rfl⟩
              rw [hfl] at c2
              have HLEN := Lib.hid hlen
              have HFL := Lib.hid hfl
              have HOK := Lib.hid hok
              have HON := Lib.hid hon
              have HMN := Lib.hid hmn
              have hOw := Nat.le_trans HO5.out hF.size
              have HLE5 := Lib.hid (TC.cosetsM_ok hW2 HRL.out HWL.out)
              by_cases hrun : k < len ∧ fl = false
              · obtain ⟨hkl, rfl⟩ := hrun
                have hf1 : f = (f - 1) + 1 := by omega
                have HMN2 : Hid (TC.mainM W (colsL rels) (f - 1) (k + 1) (TC.stepM W (colsL rels) k mk) = cosM g rels words) := by
                  unfold Hid
                  have h := HMN.out
                  rw [hf1, TC.mainM, if_pos ⟨by rw [HLEN.out]; exact hkl, HFL.out⟩] at h
                  exact h
                have hkR : k < mk.R.length := by rw [HLEN.out]; exact hkl
                have HKR := Lib.hid hkR
                have HOF := Lib.hid (of_any (cb + 1) cb k mk _ _ hs9 wr hC hok.good.wf (by rw [hok.len]; exact hkR) (by rw [hok.len]; exact hok.most))
                unfold GivesK at HOF
                obtain ⟨r, hr⟩ : ∃ r, TC.rep mk.S k = r := ⟨_, rfl⟩
                rw [hr] at HOF
                have HRK := Lib.hid hr
                have d0 := (hbw.cell (p := ⟨w.heap.size, 0, none⟩) (by rw [← HCB.out]; exact mem_lt HD2.out)).trans HD2.out
                have d1 := (hbw.cell (p := ⟨w.heap.size, 1, none⟩) (by rw [← HCB.out]; exact mem_lt HD3.out)).trans HD3.out
                clear hC hF hok hon hmn hlen hfl hkR hr hbw hf1 c1
                by_cases hrk : r = k
                · subst hrk
                  have q3 : ((r : Int) != (r : Int)) = false := by simp
                  have HSTP : Hid (TC.stepM W (colsL rels) r mk = TC.nextsM W r (List.range W) (TC.tracesM W r (colsL rels) mk)) := by unfold Hid TC.stepM; rw [if_pos HRK.out]; rfl
                  have HSR : Hid (RRel (cb + 1) cb W r (colsL rels) mk w5 (.int .i64 0) wr) := ⟨0, _, _, hs9, Nat.zero_le _, rfl, HC9.out, HF9.out⟩
                  go_wp2_with fail
                  refine HOF.out.mono ?_
                  rintro e w10 ⟨rfl, rfl⟩
                  go_wp2_with fail
                  go_loopw [77] (fun i wr => RRel (cb + 1) cb W r (colsL rels) mk w5 i wr) (fun i _ => n - (intOf i).toNat)
                  case atStart => exact HSR.out
                  case round =>
                    clear HSR d0 d1 c0 c2 HBW HOF q3 HF9 HC9
                    obtain ⟨j, vR, vS, hs7, hj, rfl, hC, hF⟩ := hrel
                    rw [colsL_len, HLN.out] at hj
                    have hmo := TC.traces_ok hW2 ((colsL rels).take j) HOK.out HKR.out (fun w hw => HRL.out w (List.mem_of_mem_take hw))
                    have hon := TC.one_traces hW2 ((colsL rels).take j) HOK.out HKR.out (fun w hw => HRL.out w (List.mem_of_mem_take hw)) HON.out
                    have HC7 := Lib.hid hC
                    have HF7 := Lib.hid hF
                    have HBW := Lib.hid (HB5.out.trans (hF.under (Nat.lt_succ_self _)))
                    by_cases hjn : j < n
                    · have hjL : j < rels.length := by rw [HLN.out]; exact hjn
                      obtain ⟨b, off, c', hve⟩ := HR4.out.form (by omega)
                      rw [HLN.out] at hve
                      obtain ⟨rfl, rfl⟩ : pr = some ⟨b, off, none⟩ ∧ cr = c' := by cases hve; exact ⟨rfl, rfl⟩
                      obtain ⟨pj, cj, hcj, hij⟩ := cells_at HR4.out j hjL
                      have hcr := (HBW.out.cell (p := ⟨b, off + j, none⟩) (by rw [← HCB.out]; exact mem_lt hcj)).trans hcj
                      have hfl := flat_succ hjL
                      have HT := Lib.hid (trace_any (cb + 1) cb r W _ vR vS (.slice pj (rels.getD j []).length cj) hs7 (rels.getD j []) wr hC hmo.1.ok hW2 hW24 hon (Nat.le_trans HO5.out hF.size) (Nat.lt_of_lt_of_le HKR.out hmo.1.grow) (HRX.out _ (getL_mem hjL)) (by omega) ⟨w4, Nat.le_of_eq HCB.out, hij.at, HBW.out⟩)
                      unfold TraceP at HT
                      rw [← colsL_at hjL, ← TC.traces_snoc W r (colsL rels) mk (by rw [colsL_len]; exact hjL)] at HT
                      obtain ⟨lj, hlj⟩ : ∃ lj, (rels.getD j []).length = lj := ⟨_, rfl⟩
                      rw [hlj] at hcr HT
                      clear hC hF hve hcj hij hjL hfl hlj hmo hon
                      go_wp2_with fail
                      refine HT.out.mono ?_
                      rintro e w8 ⟨rfl, hF8, vR8, vS8, hs8, hC8⟩
                      have HR8 : Hid (RRel (cb + 1) cb W r (colsL rels) mk w5 (.int .i64 (((j + 1 : Nat)) : Int)) w8) := ⟨j + 1, vR8, vS8, hs8, by rw [colsL_len, HLN.out]; omega, rfl, hC8, HF7.out.trans hF8⟩
                      clear hF8 hC8 hcr
                      go_wp2_with fail
                      go_roundw
                      case rel => first | exact HR8.out | (have h := HR8.out; simpa using h)
                      case measure => simp [intOf]; omega
                    · obtain rfl : j = n := by omega
                      have htk : (colsL rels).take j = colsL rels := List.take_of_length_le (by rw [colsL_len, HLN.out]; exact Nat.le_refl _)
                      rw [htk] at hC hmo hon
                      have hkT : r < (TC.tracesM W r (colsL rels) mk).R.length := Nat.lt_of_lt_of_le HKR.out hmo.1.grow
                      have HTOK := Lib.hid hmo.1.ok
                      have HSX : Hid (XRel (cb + 1) cb W r (TC.tracesM W r (colsL rels) mk) w5 (.int .i64 0) wr) := ⟨0, vR, vS, hs7, Nat.zero_le _, rfl, hC, hF⟩
                      have d0 := (HBW.out.cell (p := ⟨w.heap.size, 0, none⟩) (by rw [← HCB.out]; exact mem_lt HD2.out)).trans HD2.out
                      have HKT := Lib.hid hkT
                      clear hC hF hmo hon htk HC7 HF7 hkT
                      go_wp2_with fail
                      go_loopw [89] (fun i wr => XRel (cb + 1) cb W r (TC.tracesM W r (colsL rels) mk) w5 i wr) (fun i _ => W - (intOf i).toNat)
                      case atStart => exact HSX.out
                      case round =>
                        clear HSX d0 HBW
                        obtain ⟨x, vR, vS, hs7, hx, rfl, hC, hF⟩ := hrel
                        have hno := TC.nexts_ok hW2 (List.range x) HTOK.out HKT.out (fun y hy => by have := List.mem_range.1 hy; omega)
                        have HF7 := Lib.hid hF
                        by_cases hxW : x < W
                        · have HT := Lib.hid (next_any (cb + 1) cb r x W _ vR vS hs7 wr hC hno.1.ok hW2 hW24 (Nat.le_trans HO5.out hF.size) (Nat.lt_of_lt_of_le HKT.out hno.1.grow) hxW)
                          unfold OpenP at HT
                          rw [← TC.nexts_snoc] at HT
                          clear hC hF hno
                          go_wp2_with fail
                          refine HT.out.mono ?_
                          rintro e w8 ⟨rfl, hF8, vR8, vS8, hs8, hC8⟩
                          have HR8 : Hid (XRel (cb + 1) cb W r (TC.tracesM W r (colsL rels) mk) w5 (.int .i64 (((x + 1 : Nat)) : Int)) w8) := ⟨x + 1, vR8, vS8, hs8, by omega, rfl, hC8, HF7.out.trans hF8⟩
                          clear hF8 hC8
                          go_wp2_with fail
                          go_roundw
                          case rel => first | exact HR8.out | (have h := HR8.out; simpa using h)
                          case measure => simp [intOf]; omega
                        · obtain rfl : x = W := by omega
                          have HFIN : Hid (MRel (cb + 1) cb x (colsL rels) (cosM g rels words) w5 (.int .i64 (((r + 1 : Nat)) : Int)) wr) := by
                            have h2 := HMN2.out
                            rw [HSTP.out] at h2
                            exact ⟨r + 1, f - 1, _, vR, vS, hs7, rfl, by omega, hC, hF, hno.1.ok, TC.one_row hW2 HRL.out HOK.out HKR.out HON.out, h2⟩
                          clear hC hF hno HF7
                          go_wp2_with fail
                          go_roundw
                          case rel => first | exact HFIN.out | (have h := HFIN.out; simpa using h)
                          case measure => simp [intOf]; omega
                · have q3 : ((r : Int) != (k : Int)) = true := by rw [bne_iff_ne]; omega
                  have HFIN : Hid (MRel (cb + 1) cb W (colsL rels) (cosM g rels words) w5 (.int .i64 (((k + 1 : Nat)) : Int)) wr) := by
                    have h2 := HMN2.out
                    rw [TC.stepM, HRK.out, if_neg hrk] at h2
                    exact ⟨k + 1, f - 1, mk, _, vS, hs9, rfl, by omega, HC9.out, HF9.out, HOK.out, HON.out, h2⟩
                  clear hrk d0 d1
                  go_wp2_with fail
                  refine HOF.out.mono ?_
                  rintro e w10 ⟨rfl, rfl⟩
                  go_wp2_with fail
                  go_roundw
                  case rel => first | exact HFIN.out | (have h := HFIN.out; simpa using h)
                  case measure => simp [intOf]; omega
              · have HEND : Hid (mk = cosM g rels words) := by
                  unfold Hid
                  have h := HMN.out
                  cases f with
                  | zero => exact h
                  | succ f =>
                    rw [TC.mainM, if_neg (by rw [HLEN.out, HFL.out]; exact hrun)] at h
                    exact h
                have hS9 := HS4.out.below hbw (Nat.le_of_eq HCB.out)
                have HBF := Lib.hid (HB4.out.trans (hbw.mono (Nat.le_trans HB4.out.size (Nat.le_of_eq HCB.out))))
                have e1 := hS9.b
                cases fl with
                | true =>
                  have HE2 : Hid (cosA (g : Int) rels words = (1, [])) := by
                    unfold Hid
                    rw [HE.out]
                    unfold cosT
                    rw [← HEND.out, if_pos HFL.out]
                  have HNIL := Lib.hid (fun (B : Nat) (w : World) => ListsIn.nil B w)
                  clear hC hF hok hon hmn hlen hfl hbw hrun hS9
                  by_cases hkl : k < len
                  · go_upto_region 31 with fail
                    go_region
                    all_goals
                      go_wp2_with fail
                      go_ret2
                      rw [HE2.out]
                      exact ⟨by first | exact HBF.out | exact below_dn HBF.out 1, _, rfl, fun B => HNIL.out B _⟩
                  · go_upto_region 31 with fail
                    go_region
                    all_goals
                      go_wp2_with fail
                      go_ret2
                      rw [HE2.out]
                      exact ⟨by first | exact HBF.out | exact below_dn HBF.out 1, _, rfl, fun B => HNIL.out B _⟩
                | false =>
                  have hkl : ¬ k < len := fun e => hrun ⟨e, rfl⟩
                  have hmC : mk = TC.cosetsM W (colsL rels) (colsL words) := HEND.out.trans HCM.out
                  have hLd : ∀ j, j < mk.R.length → ∀ x, x < W → TC.Leads mk j x := fun j hj => by
                    have h := HLE5.out.2
                    rw [← hmC] at h
                    exact (h HFL.out).2 j hj |>.2
                  have HLE := Lib.hid (fun i => Nat.le_trans (TC.ordO_le hok hLd i) hok.most)
                  have HT := Lib.hid (told_any (cb + 1) cb W mk _ vS (errG a1) hs9 wr hC hok hW24 hLd hS9.b)
                  have HE2 : Hid (cosA (g : Int) rels words = if 400 < (TC.ordO mk W 5001).length then (1, []) else (0, TC.tabT mk W (TC.ordO mk W 5001).length)) := by
                    unfold Hid
                    rw [HE.out]
                    unfold cosT
                    rw [← HEND.out, if_neg (by rw [HFL.out]; decide), HWG.out]
                  clear hC hF hok hon hmn hlen hfl hbw hrun hS9 hmC hLd e1
                  go_wp2_with fail
                  refine HT.out.mono ?_
                  rintro e w8 h8
                  obtain ⟨hb8, v8, rfl, hl8⟩ := told_res (a2 := a2) h8 HLE.out
                  rw [← HE2.out] at hl8 ⊢
                  have HL8 := Lib.hid hl8
                  have HB8 := Lib.hid (HBF.out.trans (hb8.mono HBF.out.size))
                  clear hb8 hl8 h8
                  obtain ⟨rr, hrr⟩ : ∃ rr, errV a1 a2 (cosA (g : Int) rels words).1 = rr := ⟨_, rfl⟩
                  have HRV := Lib.hid hrr
                  rw [hrr]
                  clear hrr
                  go_wp2_with fail
                  go_ret2
                  exact ⟨HB8.out, _, by rw [HRV.out]; rfl, HL8.out⟩
  · obtain ⟨a, ha⟩ := errV_iface a1 a2 hc0
    have HE : Hid (cosA G rels words = (c, [])) := by unfold Hid cosA; rw [HC.out, if_pos hc0]
    have HA := Lib.hid ha
    have HNIL := Lib.hid (fun (B : Nat) (w : World) => ListsIn.nil B w)
    rw [ha]
    clear ha hc0
    go_wp2_with fail
    go_ret2
    rw [HE.out]
    exact ⟨HB2.out, _, by rw [HA.out]; rfl, fun B => HNIL.out B _⟩
end Go.Proofs.YtedehmknijlgpaaDoor
