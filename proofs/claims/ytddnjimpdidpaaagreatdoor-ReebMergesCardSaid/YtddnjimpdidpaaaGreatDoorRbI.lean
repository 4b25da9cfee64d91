/-
  The document's MergeOf by a contract: of each vertex the next one above.
-/
import Derived.Test.YtddnjimpdidpaaaGreatDoorRbF
import Derived.Deep.DeepCutAuto
set_option linter.unusedSimpArgs false
set_option linter.unusedVariables false
namespace Go.Proofs.YtddnjimpdidpaaaGreatDoor
open Go Go.RowKit Go.Maps

/-- parents by numbers -/
def bestI (p : Option Nat) : Int := match p with | none => -1 | some b => (b : Int)
def anyN (V : List Int) (N : List Nat) (E : List (List Int)) (k q : Nat) : Bool := (E.take q).any fun e => nbB V N e k
theorem anyN_0 (V : List Int) (N : List Nat) (E : List (List Int)) (k : Nat) : anyN V N E k 0 = false := rfl
theorem anyN_succ {V : List Int} {N : List Nat} {E : List (List Int)} {k q : Nat} (hq : q < E.length) : anyN V N E k (q + 1) = (anyN V N E k q || nbB V N (E.getD q []) k) := by
  unfold anyN
  rw [take_snoc_getD [] E q hq, List.any_append]
  simp
theorem anyN_iff {V : List Int} {N : List Nat} {E : List (List Int)} {k : Nat} : anyN V N E k E.length = true ↔ ∃ q, q < E.length ∧ nbB V N (E.getD q []) k = true := by
  unfold anyN
  rw [List.take_length, List.any_eq_true]
  constructor
  · rintro ⟨e, he, hb⟩
    obtain ⟨q, hq, rfl⟩ := List.getElem_of_mem he
    exact ⟨q, hq, by rw [List.getD_eq_getElem?_getD, List.getElem?_eq_getElem hq]; exact hb⟩
  · rintro ⟨q, hq, hb⟩
    refine ⟨E[q], List.getElem_mem hq, ?_⟩
    rwa [List.getD_eq_getElem?_getD, List.getElem?_eq_getElem hq] at hb
def pickO (b : Bool) (k : Nat) (p : Option Nat) : Option Nat := if b = true then some k else p
/-- parents of all vertices -/
def UpP (V : List Int) (n : Nat) (h : Nat → Int) (Ad : Nat → Nat → Prop) (w : World) (e : Ending) (w' : World) : Prop :=
  ∃ (P : List (Option Nat)) (p : Option Addr) (c : Nat), P.length = n ∧ (∀ i, i < n → FirstH h (TQ h Ad i) (P.getD i none)) ∧ e = .returned (.slice p n c) ∧ Below w.heap.size w w' ∧ IntsIn w.heap.size w' (.slice p n c) (P.map (parI V))

set_option maxRecDepth 100000 in
set_option maxHeartbeats 32000000 in
theorem mergeOf_any (B : Nat) (A : List (List Int)) (h : List Int) (va vh : Value) (w : World) (hB : B ≤ w.heap.size) (hva : ListsIn B w va A) (hn : A.length ≤ 1000) (hl : ∀ l ∈ A, l.length ≤ 500) (hvh : IntsIn B w vh h)
    (hlen : h.length = (vertR A).length) (hE : EdgO (vertR A) (dimF A 1)) (hnd : h.Nodup) :
    Calls Tryz.prog 16 #[va, vh] w (UpP (vertR A) (vertR A).length (fun i => h.getD i 0) (AdE (edgN (vertR A) (dimF A 1))) w) := by
  obtain ⟨i3, hi3, hy0, hy1, hy2⟩ := info_parts Tryz.info3
  have hVn := Nat.le_trans (vertR_len A) hn
  have hEn : (dimF A 1).length ≤ 1000 := Nat.le_trans (List.length_filter_le _ _) hn
  have HVO := Lib.hid (verticesOf_any B A va w hva (by omega) (fun l h => by have := hl l h; omega))
  unfold NumsP at HVO
  have HOD := Lib.hid (fun wx (hx : Below w.heap.size w wx) => ofDim_any B A 1 va wx (Nat.le_trans hB hx.size) (hva.below hx (Nat.le_refl _)) (by omega) (fun l h => by have := hl l h; omega))
  unfold ListPost at HOD
  have HRE := Lib.hid (fun wx (hx : Below w.heap.size w wx) i m hi hm => reach_any B A h i m va vh wx (Nat.le_trans hB hx.size) (hva.below hx (Nat.le_refl _)) hn hl (hvh.below hx (Nat.le_refl _)) hlen hE hi hm)
  have HG := Lib.hid (gr_of hE rfl hlen hnd)
  have HVH := Lib.hid (fun wx (hx : Below w.heap.size w wx) => hvh.below hx (Nat.le_refl _))
  obtain ⟨V, hV⟩ : ∃ V, vertR A = V := ⟨_, rfl⟩
  rw [hV] at HRE HVO HG hlen hE hVn ⊢
  obtain ⟨E, hEe⟩ : ∃ E, dimF A 1 = E := ⟨_, rfl⟩
  rw [hEe] at HRE HOD HG hE hEn ⊢
  obtain ⟨n, hnn⟩ : ∃ n, V.length = n := ⟨_, rfl⟩
  obtain ⟨ne, hne⟩ : ∃ n, E.length = n := ⟨_, rfl⟩
  have HNN := Lib.hid hnn
  have HNE := Lib.hid hne
  have HE := Lib.hid hE
  rw [hnn] at HVO HG hlen hVn HRE ⊢
  rw [hne] at hEn
  obtain ⟨ph, ch, hve, -⟩ := id hvh
  rw [hlen] at hve
  subst hve
  have HL := Lib.hid hlen
  have HVN := Lib.hid hVn
  have HNEB := Lib.hid hEn
  obtain ⟨hf, hhf⟩ : ∃ f : Nat → Int, (fun i => h.getD i 0) = f := ⟨_, rfl⟩
  have HHF : Hid (∀ i, h.getD i 0 = hf i) := fun i => by rw [← hhf]
  obtain ⟨Ad, hAd⟩ : ∃ Ad, AdE (edgN V E) = Ad := ⟨_, rfl⟩
  have HADE := Lib.hid hAd
  rw [hhf, hAd] at HRE HG ⊢
  clear hB hva hn hl hvh hlen hE hV hEe hnn hne hVn hEn hnd hhf hAd
  go_enter Tryz.func16, Tryz.ntmps16
  go_wp2_with fail
  refine HVO.out.mono ?_
  rintro e w1 ⟨pv, cv, rfl, hb1, hiv⟩
  have HB1 := Lib.hid hb1
  have HV1 := Lib.hid hiv
  have HOD1 := Lib.hid (HOD.out w1 hb1)
  clear hb1 hiv HVO HOD
  go_wp2_with fail
  refine HOD1.out.mono ?_
  rintro e w2 ⟨ve, rfl, hb2, hr2⟩
  obtain ⟨pe, ce, hve, -⟩ := hr2.lists
  rw [HNE.out] at hve
  subst hve
  have HB2 := Lib.hid (HB1.out.trans (hb2.mono HB1.out.size))
  have HEV := Lib.hid hr2.lists
  have HV2 := Lib.hid (HV1.out.below hb2 (Nat.le_refl _))
  have HVC : Hid (∀ wx, Below w2.heap.size w2 wx → ∀ i, i < n → ∃ bv ov, pv = some ⟨bv, ov, none⟩ ∧ wx.cell? ⟨bv, ov + i, none⟩ = some (.int .i64 (V.getD i 0))) := fun wx hx i hi => by
    obtain ⟨b, o, c, e1, e2⟩ := ints_cell (HV2.out.below hx (Nat.le_refl _)) i (by rw [HNN.out]; exact hi)
    cases e1
    exact ⟨b, o, rfl, e2⟩
  have HHC : Hid (∀ wx, Below w2.heap.size w2 wx → ∀ i, i < n → ∃ bv ov, ph = some ⟨bv, ov, none⟩ ∧ wx.cell? ⟨bv, ov + i, none⟩ = some (.int .i64 (hf i))) := fun wx hx i hi => by
    obtain ⟨b, o, c, e1, e2⟩ := ints_cell (HVH.out wx (HB2.out.trans (hx.mono HB2.out.size))) i (by rw [HL.out]; exact hi)
    cases e1
    rw [HHF.out] at e2
    exact ⟨b, o, rfl, e2⟩
  have HCAP : Hid (n ≤ cv) := by
    obtain ⟨p, c, e, hc, -⟩ := HV2.out
    rw [HNN.out] at e hc
    cases e
    exact hc
  clear hb2 hr2 HOD1 HV1
  go_wp2_with fail
  go_loopw [7, 8] (fun o i wr => ∃ P : List (Option Nat), P.length ≤ n ∧ i = .int .i64 (P.length : Int) ∧ (∀ t, t < P.length → FirstH hf (TQ hf Ad t) (P.getD t none)) ∧ Below w2.heap.size w2 wr ∧ wr.ownsRow w2.heap.size 3 1 o P.length (intVs (P.map (parI V)))) (fun _ i _ => n - (intOf i).toNat)
  case atStart => exact ⟨[], Nat.zero_le _, rfl, fun t ht => absurd ht (Nat.not_lt_zero t), Below.refl _ _, World.ownsRow_nil _ _ _ _⟩
  case round =>
    obtain ⟨P, hP, rfl, hF, hb, hO⟩ := hrel
    obtain ⟨wo, rfl⟩ : ∃ wo : World, wo = wr := ⟨_, rfl⟩
    obtain ⟨j, hj⟩ : ∃ j, P.length = j := ⟨_, rfl⟩
    rw [hj] at hP hF hO
    rw [hj]
    have HJ := Lib.hid hj
    have HF := Lib.hid hF
    have HB := Lib.hid hb
    have HO := Lib.hid hO
    have hVn := HVN.out
    obtain ⟨po, co, rfl⟩ : ∃ p c, u7 = .slice p j c := by
      rcases Joins.ownsRow_forms hO with ⟨e, h0⟩ | ⟨g, cap, e⟩
      · exact ⟨none, 0, by rw [e, h0]⟩
      · exact ⟨_, cap, e⟩
    clear hF hO hj
    by_cases hjn : j < n
    · obtain ⟨bv, ov, rfl, ev⟩ := HVC.out _ hb.drew j hjn
      obtain ⟨bh, oh, rfl, eh⟩ := HHC.out _ hb.drew j hjn
      obtain ⟨zj, hzj⟩ : ∃ z, V.getD j 0 = z := ⟨_, rfl⟩
      rw [hzj] at ev
      have HRC := HRE.out wo.drew (HB2.out.trans (hb.drew.mono HB2.out.size)) j (hf j) hjn (by rw [HHF.out]; exact Int.le_refl _)
      rw [hzj] at HRC
      have HRC1 := Lib.hid HRC
      unfold ReachP at HRC1
      have HDB := Lib.hid hb.drew
      obtain ⟨yj, hyj⟩ : ∃ y, hf j = y := ⟨_, rfl⟩
      have HYJ := Lib.hid hyj
      rw [hyj] at HRC1 eh
      have hs0 : wo.drew.cell? ⟨bv, ov + j, none⟩ = some (.int .i64 zj) ∧ wo.drew.cell? ⟨bh, oh + j, none⟩ = some (.int .i64 yj) := ⟨ev, eh⟩
      have HS0 := Lib.hid hs0
      clear hb HRC ev eh hzj hyj
      go_wp2_with fail
      go_still_tail 10, (by kernel_rfl)
      change wpList _ _ _ _ _ wo.drew
      go_wp2_with fail
      refine HRC1.out.mono ?_
      rintro e wa ⟨N, kN, pN, cN, hkN, rfl, hba, hia, hPN⟩
      have HBA := Lib.hid (HDB.out.trans (hba.mono HDB.out.size))
      have HOA := Lib.hid (owns_keep HO.out fun q hq => hba.block q (HO.out.lt q hq).2)
      have HPN := Lib.hid hPN
      have HIA := Lib.hid hia
      have hkn := piece_len hPN
      rw [hkN.out] at hkn
      clear hba hia hPN hs0
      go_wp2_with fail
      go_loopw [10, 11] (fun d kk wr => ∃ (t : Nat) (p : Option Nat), t ≤ n ∧ kk = .int .i64 (t : Int) ∧ FstK hf (TQ hf Ad j) t p ∧ d = .int .i64 (bestI p) ∧ Below wa.heap.size wa wr) (fun _ kk _ => n - (intOf kk).toNat)
      case atStart => exact ⟨0, none, Nat.zero_le _, rfl, fstK_0, rfl, Below.refl _ _⟩
      case round =>
        obtain ⟨t, p, ht, rfl, hFk, rfl, hbt⟩ := hrel
        obtain ⟨wt, rfl⟩ : ∃ wt : World, wt = wr := ⟨_, rfl⟩
        have HFK := Lib.hid hFk
        have HBT := Lib.hid hbt
        have HB2T := Lib.hid (HBA.out.trans (hbt.mono HBA.out.size))
        obtain ⟨dv, hdv⟩ : ∃ d, bestI p = d := ⟨_, rfl⟩
        rw [hdv]
        have HDV := Lib.hid hdv
        clear hFk hbt hdv
        by_cases htn : t < n
        · obtain ⟨bh', oh', e1, et⟩ := HHC.out _ HB2T.out t htn
          obtain ⟨rfl, rfl⟩ : bh = bh' ∧ oh = oh' := by cases e1; exact ⟨rfl, rfl⟩
          obtain ⟨bh', oh', e2, ej⟩ := HHC.out _ HB2T.out j hjn
          obtain ⟨rfl, rfl⟩ : bh = bh' ∧ oh = oh' := by cases e2; exact ⟨rfl, rfl⟩
          rw [HYJ.out] at ej
          obtain ⟨yt, hyt⟩ : ∃ y, hf t = y := ⟨_, rfl⟩
          rw [hyt] at et
          have HYT := Lib.hid hyt
          clear e1 e2 hyt
          by_cases hA : yt ≤ yj
          · have hsk := fstK_no HFK.out (fun hq => by have := hq.1; rw [HYJ.out, HYT.out] at this; omega)
            have HSK := Lib.hid hsk
            have q1 : decide (yt ≤ yj) = true := decide_eq_true hA
            clear hsk hA
            go_wp2_with fail
            go_quiet (fail)
            go_wp2_with fail
            go_roundw
            case rel => exact ⟨t + 1, p, htn, by go_num, HSK.out, by rw [HDV.out], HBT.out.trans ((Below.drewN wt _).mono HBT.out.size)⟩
            case measure => simp [intOf]; omega
          · have q1 : decide (yt ≤ yj) = false := decide_eq_false hA
            have hjt : yj < yt := by omega
            have HJT := Lib.hid hjt
            by_cases hC : ∃ b, p = some b ∧ hf b ≤ yt
            · obtain ⟨b, rfl, hC⟩ := hC
              have hsk := fstK_old HFK.out (by rw [HYT.out]; exact hC)
              have hbn : b < n := Nat.lt_trans (fstK_lt HFK.out).1 htn
              obtain rfl : (b : Int) = dv := HDV.out
              obtain ⟨bh', oh', e1, eb⟩ := HHC.out _ HB2T.out b hbn
              obtain ⟨rfl, rfl⟩ : bh = bh' ∧ oh = oh' := by cases e1; exact ⟨rfl, rfl⟩
              obtain ⟨yb, hyb⟩ : ∃ y, hf b = y := ⟨_, rfl⟩
              rw [hyb] at hC eb
              have HSK := Lib.hid hsk
              have q2 : decide (yt ≥ yb) = true := decide_eq_true hC
              have q3 : decide (yb ≤ yt) = true := decide_eq_true hC
              have q4 : decide ((0 : Int) ≤ (b : Int)) = true := decide_eq_true (by omega)
              have q5 : (0 : Int) ≤ (b : Int) := by omega
              clear hsk hA hjt e1 hyb
              go_wp2_with fail
              go_quiet (fail)
              go_wp2_with fail
              go_roundw
              case rel => exact ⟨t + 1, some b, htn, by go_num, HSK.out, rfl, HBT.out.trans ((Below.drewN wt _).mono HBT.out.size)⟩
              case measure => simp [intOf]; omega
            · have hpb : ∀ b, p = some b → yt < hf b := fun b e => by
                apply Classical.byContradiction
                intro hn
                exact hC ⟨b, e, by omega⟩
              have HPB := Lib.hid hpb
              clear hA hC hjt hpb
              cases hpc : p with
              | none =>
                have hdn : dv < 0 := by
                  have := HDV.out
                  rw [hpc] at this
                  have h1 : (-1 : Int) = dv := this
                  omega
                have q4 : decide ((0 : Int) ≤ dv) = false := decide_eq_false (by omega)
                have q5 : decide (dv ≥ (0 : Int)) = false := decide_eq_false (by omega)
                clear hpc
                go_wp2_with fail
                go_quiet (fail)
                have hneb := HNEB.out
                have hbq := Below.drewN wt nq
                obtain ⟨wq, hwq⟩ : ∃ x, wt.drewN nq = x := ⟨_, rfl⟩
                rw [hwq] at hbq ⊢
                have HBTQ := Lib.hid (HBT.out.trans (hbq.mono HBT.out.size))
                have HB2Q := Lib.hid (HB2T.out.trans (hbq.mono HB2T.out.size))
                have hd0 : Value.int .i64 dv = .int .i64 (bestI (pickO (anyN V N E t 0) t p)) := by rw [anyN_0]; show _ = Value.int .i64 (bestI p); rw [HDV.out]
                have HD0 := Lib.hid hd0
                clear hwq hbq hd0 et ej
                go_wp2_with fail
                go_loopw [10, 12] (fun d nn wr => ∃ (q : Nat), q ≤ ne ∧ nn = .int .i64 (q : Int) ∧ d = .int .i64 (bestI (pickO (anyN V N E t q) t p)) ∧ Below wq.heap.size wq wr) (fun _ nn _ => ne - (intOf nn).toNat)
                case atStart => exact ⟨0, Nat.zero_le _, rfl, HD0.out, Below.refl _ _⟩
                case round =>
                  obtain ⟨q, hq, rfl, rfl, hbr⟩ := hrel
                  obtain ⟨wm, rfl⟩ : ∃ wm : World, wm = wr := ⟨_, rfl⟩
                  have HBR := Lib.hid hbr
                  have HB2R := Lib.hid (HB2Q.out.trans (hbr.mono HB2Q.out.size))
                  obtain ⟨dr, hdr⟩ : ∃ d, bestI (pickO (anyN V N E t q) t p) = d := ⟨_, rfl⟩
                  rw [hdr]
                  have HDR := Lib.hid hdr
                  clear hbr hdr
                  by_cases hqn : q < ne
                  · obtain ⟨be, oe, cc, hve⟩ := HEV.out.form (by rw [HNE.out]; omega)
                    rw [HNE.out] at hve
                    obtain ⟨rfl, rfl⟩ : pe = some ⟨be, oe, none⟩ ∧ ce = cc := by cases hve; exact ⟨rfl, rfl⟩
                    obtain ⟨pj, cj, hcj, hij⟩ := cells_at (HEV.out.below HB2R.out.drew (Nat.le_refl _)) q (by rw [HNE.out]; exact hqn)
                    obtain ⟨a, b2, -, -, -, e1, -⟩ := edg_at HE.out (q := q) (by rw [HNE.out]; exact hqn)
                    have hl2 : (E.getD q []).length = 2 := by rw [e1]; rfl
                    have hst := anyN_succ (V := V) (N := N) (k := t) (q := q) (E := E) (by rw [HNE.out]; exact hqn)
                    obtain ⟨ed, hed⟩ : ∃ ed, E.getD q [] = ed := ⟨_, rfl⟩
                    rw [hed] at hcj hij hl2 hst
                    rw [hl2] at hcj hij
                    have hcap := HCAP.out
                    have hpart := (HV2.out.below HB2R.out.drew (Nat.le_refl _)).part t 1 (cv - t) (by rw [HNN.out]; omega) (by omega)
                    rw [show (V.drop t).take 1 = [V.getD t 0] by rw [List.drop_eq_getElem_cons (by rw [HNN.out]; exact htn), getD_elem (by rw [HNN.out]; exact htn)]; rfl] at hpart
                    obtain ⟨c0, hc0, hij0⟩ : ∃ c0, (Value.slice pj 2 cj) = c0 ∧ IntsIn B wm.drew c0 ed := ⟨_, rfl, hij⟩
                    have HMI := minus_any 0 ed [V.getD t 0] c0 (.slice (some ⟨bv, ov + t, none⟩) 1 (cv - t)) wm.drew hij0.at hpart.at (by omega) (by simp)
                    rw [← hc0] at HMI
                    unfold nbB at hst
                    obtain ⟨mn, hmn⟩ : ∃ mn, minF ed [V.getD t 0] = mn := ⟨_, rfl⟩
                    rw [hmn] at HMI hst
                    obtain ⟨km, hkm⟩ : ∃ km, mn.length = km := ⟨_, rfl⟩
                    unfold NumsP at HMI
                    rw [hkm] at HMI hst
                    have HMI1 := Lib.hid HMI
                    have HKM := Lib.hid hkm
                    have HST := Lib.hid hst
                    have m1 : IntKind.i64.wrap ((t : Int) + 1) = (t : Int) + 1 := IntWalk.i64_in _ (by omega)
                    have m2 : (0 : Int) ≤ (t : Int) + 1 := by omega
                    have m3 : ((t : Int) + 1).toNat = t + 1 := by omega
                    have m4 : (t : Int) + 1 ≤ (cv : Int) := by omega
                    have m5 : ¬ cv = t := by omega
                    have HB2D := Lib.hid HB2R.out.drew
                    have HBRD := Lib.hid HBR.out.drew
                    clear hve hij hij0 e1 hl2 hst hed hcap hpart hc0 HMI hmn hkm
                    go_wp2_with fail
                    go_still_tail 9, (by kernel_rfl)
                    change wpList _ _ _ _ _ wm.drew
                    go_wp2_with fail
                    refine HMI1.out.mono ?_
                    rintro e wb ⟨pm, cm, rfl, hbb, him⟩
                    have HB2B := Lib.hid (HB2D.out.trans (hbb.mono HB2D.out.size))
                    have HBRB := Lib.hid (HBRD.out.trans (hbb.mono HBRD.out.size))
                    have HIM := Lib.hid him
                    clear hbb him hcj
                    by_cases hk1 : km = 1
                    · subst hk1
                      obtain ⟨bm, om, cm', e1, hcm⟩ := ints_cell HIM.out 0 (by rw [HKM.out]; exact Nat.one_pos)
                      rw [HKM.out] at e1
                      obtain ⟨rfl, rfl⟩ : pm = some ⟨bm, om, none⟩ ∧ cm = cm' := by cases e1; exact ⟨rfl, rfl⟩
                      rw [Nat.add_zero] at hcm
                      have hst := HST.out
                      obtain ⟨y, hy⟩ : ∃ y, mn.getD 0 0 = y := ⟨_, rfl⟩
                      rw [hy] at hcm hst
                      have HCT := contains_any (verN V N) (.slice pN kN cN) y wb ((HIA.out.below (HBTQ.out.trans (HBRB.out.mono HBTQ.out.size)) (Nat.le_refl _)).at) (by rw [verN_len, hkN.out]; omega)
                      obtain ⟨c, hc⟩ : ∃ c, (verN V N).contains y = c := ⟨_, rfl⟩
                      rw [hc] at HCT hst
                      unfold Same at HCT
                      have HCT1 := Lib.hid HCT
                      cases c with
                      | true =>
                        have hdd : bestI (pickO (anyN V N E t (q + 1)) t p) = (t : Int) := by rw [hst]; simp [pickO, bestI]
                        have HDD := Lib.hid hdd
                        clear hdd hst e1 hy HCT hc
                        go_wp2_with fail
                        refine HCT1.out.mono ?_
                        rintro e wx ⟨rfl, hwx⟩
                        subst hwx
                        go_wp2_with fail
                        go_roundw
                        case rel => exact ⟨q + 1, hqn, by go_num, by rw [HDD.out], HBRB.out⟩
                        case measure => simp [intOf]; omega
                      | false =>
                        have hdd : bestI (pickO (anyN V N E t (q + 1)) t p) = dr := by rw [hst, Bool.and_false, Bool.or_false]; exact HDR.out
                        have HDD := Lib.hid hdd
                        clear hdd hst e1 hy HCT hc
                        go_wp2_with fail
                        refine HCT1.out.mono ?_
                        rintro e wx ⟨rfl, hwx⟩
                        subst hwx
                        go_wp2_with fail
                        go_roundw
                        case rel => exact ⟨q + 1, hqn, by go_num, by rw [HDD.out], HBRB.out⟩
                        case measure => simp [intOf]; omega
                    · have hdd : bestI (pickO (anyN V N E t (q + 1)) t p) = dr := by
                        have hst := HST.out
                        rw [decide_eq_false hk1, Bool.false_and, Bool.or_false] at hst
                        rw [hst]; exact HDR.out
                      have HDD := Lib.hid hdd
                      have q6 : ((km : Int) == 1) = false := by rw [beq_eq_false_iff_ne]; omega
                      have q7 : (km == 1) = false := by rw [beq_eq_false_iff_ne]; exact hk1
                      clear hdd hk1
                      go_wp2_with fail
                      go_roundw
                      case rel => exact ⟨q + 1, hqn, by go_num, by rw [HDD.out], HBRB.out⟩
                      case measure => simp [intOf]; omega
                  · obtain rfl : ne = q := by omega
                    have hfst : FstK hf (TQ hf Ad j) (t + 1) (pickO (anyN V N E t ne) t p) := by
                      have hli := any_tq HE.out HNN.out (h := hf) (i := j) (k := t) (N := N) (by rw [HADE.out, HYJ.out]; exact HPN.out) htn (by rw [HYJ.out, HYT.out]; exact HJT.out)
                      rw [← anyN_iff, HNE.out, HADE.out] at hli
                      cases hany : anyN V N E t ne with
                      | true => exact fstK_new HFK.out (hli.1 hany) fun b e => by rw [HYT.out]; exact HPB.out b e
                      | false => exact fstK_no HFK.out (fun hq => by rw [hli.2 hq] at hany; cases hany)
                    have HFST := Lib.hid hfst
                    have HBX := Lib.hid (HBTQ.out.trans (HBR.out.mono HBTQ.out.size))
                    have hdz : bestI (pickO (anyN V N E t ne) t p) = dr := HDR.out
                    have HDZ := Lib.hid hdz
                    obtain ⟨pz, hpz⟩ : ∃ pz, pickO (anyN V N E t ne) t p = pz := ⟨_, rfl⟩
                    rw [hpz] at HFST HDZ
                    clear hfst hpz hdz
                    go_wp2_with fail
                    go_roundw
                    case rel => exact ⟨t + 1, pz, htn, by go_num, HFST.out, by rw [HDZ.out], HBX.out⟩
                    case measure => simp [intOf]; omega
              | some b =>
                obtain rfl : (b : Int) = dv := by rw [hpc] at HDV; exact HDV.out
                have hbn : b < n := Nat.lt_trans (fstK_lt (by have := HFK.out; rw [hpc] at this; exact this)).1 htn
                have hC := HPB.out b hpc
                obtain ⟨bh', oh', e1, eb⟩ := HHC.out _ HB2T.out b hbn
                obtain ⟨rfl, rfl⟩ : bh = bh' ∧ oh = oh' := by cases e1; exact ⟨rfl, rfl⟩
                obtain ⟨yb, hyb⟩ : ∃ y, hf b = y := ⟨_, rfl⟩
                rw [hyb] at hC eb
                have q2 : decide (yt ≥ yb) = false := decide_eq_false (by omega)
                have q3 : decide (yb ≤ yt) = false := decide_eq_false (by omega)
                have q4 : decide ((0 : Int) ≤ (b : Int)) = true := decide_eq_true (by omega)
                have q5 : (0 : Int) ≤ (b : Int) := by omega
                clear hyb e1 hpc hC
                go_wp2_with fail
                go_quiet (fail)
                have hneb := HNEB.out
                have hbq := Below.drewN wt nq
                obtain ⟨wq, hwq⟩ : ∃ x, wt.drewN nq = x := ⟨_, rfl⟩
                rw [hwq] at hbq ⊢
                have HBTQ := Lib.hid (HBT.out.trans (hbq.mono HBT.out.size))
                have HB2Q := Lib.hid (HB2T.out.trans (hbq.mono HB2T.out.size))
                have hd0 : Value.int .i64 (b : Int) = .int .i64 (bestI (pickO (anyN V N E t 0) t p)) := by rw [anyN_0]; show _ = Value.int .i64 (bestI p); rw [HDV.out]
                have HD0 := Lib.hid hd0
                clear hwq hbq hd0 et ej
                go_wp2_with fail
                go_loopw [10, 12] (fun d nn wr => ∃ (q : Nat), q ≤ ne ∧ nn = .int .i64 (q : Int) ∧ d = .int .i64 (bestI (pickO (anyN V N E t q) t p)) ∧ Below wq.heap.size wq wr) (fun _ nn _ => ne - (intOf nn).toNat)
                case atStart => exact ⟨0, Nat.zero_le _, rfl, HD0.out, Below.refl _ _⟩
                case round =>
                  obtain ⟨q, hq, rfl, rfl, hbr⟩ := hrel
                  obtain ⟨wm, rfl⟩ : ∃ wm : World, wm = wr := ⟨_, rfl⟩
                  have HBR := Lib.hid hbr
                  have HB2R := Lib.hid (HB2Q.out.trans (hbr.mono HB2Q.out.size))
                  obtain ⟨dr, hdr⟩ : ∃ d, bestI (pickO (anyN V N E t q) t p) = d := ⟨_, rfl⟩
                  rw [hdr]
                  have HDR := Lib.hid hdr
                  clear hbr hdr
                  by_cases hqn : q < ne
                  · obtain ⟨be, oe, cc, hve⟩ := HEV.out.form (by rw [HNE.out]; omega)
                    rw [HNE.out] at hve
                    obtain ⟨rfl, rfl⟩ : pe = some ⟨be, oe, none⟩ ∧ ce = cc := by cases hve; exact ⟨rfl, rfl⟩
                    obtain ⟨pj, cj, hcj, hij⟩ := cells_at (HEV.out.below HB2R.out.drew (Nat.le_refl _)) q (by rw [HNE.out]; exact hqn)
                    obtain ⟨a, b2, -, -, -, e1, -⟩ := edg_at HE.out (q := q) (by rw [HNE.out]; exact hqn)
                    have hl2 : (E.getD q []).length = 2 := by rw [e1]; rfl
                    have hst := anyN_succ (V := V) (N := N) (k := t) (q := q) (E := E) (by rw [HNE.out]; exact hqn)
                    obtain ⟨ed, hed⟩ : ∃ ed, E.getD q [] = ed := ⟨_, rfl⟩
                    rw [hed] at hcj hij hl2 hst
                    rw [hl2] at hcj hij
                    have hcap := HCAP.out
                    have hpart := (HV2.out.below HB2R.out.drew (Nat.le_refl _)).part t 1 (cv - t) (by rw [HNN.out]; omega) (by omega)
                    rw [show (V.drop t).take 1 = [V.getD t 0] by rw [List.drop_eq_getElem_cons (by rw [HNN.out]; exact htn), getD_elem (by rw [HNN.out]; exact htn)]; rfl] at hpart
                    obtain ⟨c0, hc0, hij0⟩ : ∃ c0, (Value.slice pj 2 cj) = c0 ∧ IntsIn B wm.drew c0 ed := ⟨_, rfl, hij⟩
                    have HMI := minus_any 0 ed [V.getD t 0] c0 (.slice (some ⟨bv, ov + t, none⟩) 1 (cv - t)) wm.drew hij0.at hpart.at (by omega) (by simp)
                    rw [← hc0] at HMI
                    unfold nbB at hst
                    obtain ⟨mn, hmn⟩ : ∃ mn, minF ed [V.getD t 0] = mn := ⟨_, rfl⟩
                    rw [hmn] at HMI hst
                    obtain ⟨km, hkm⟩ : ∃ km, mn.length = km := ⟨_, rfl⟩
                    unfold NumsP at HMI
                    rw [hkm] at HMI hst
                    have HMI1 := Lib.hid HMI
                    have HKM := Lib.hid hkm
                    have HST := Lib.hid hst
                    have m1 : IntKind.i64.wrap ((t : Int) + 1) = (t : Int) + 1 := IntWalk.i64_in _ (by omega)
                    have m2 : (0 : Int) ≤ (t : Int) + 1 := by omega
                    have m3 : ((t : Int) + 1).toNat = t + 1 := by omega
                    have m4 : (t : Int) + 1 ≤ (cv : Int) := by omega
                    have m5 : ¬ cv = t := by omega
                    have HB2D := Lib.hid HB2R.out.drew
                    have HBRD := Lib.hid HBR.out.drew
                    clear hve hij hij0 e1 hl2 hst hed hcap hpart hc0 HMI hmn hkm
                    go_wp2_with fail
                    go_still_tail 9, (by kernel_rfl)
                    change wpList _ _ _ _ _ wm.drew
                    go_wp2_with fail
                    refine HMI1.out.mono ?_
                    rintro e wb ⟨pm, cm, rfl, hbb, him⟩
                    have HB2B := Lib.hid (HB2D.out.trans (hbb.mono HB2D.out.size))
                    have HBRB := Lib.hid (HBRD.out.trans (hbb.mono HBRD.out.size))
                    have HIM := Lib.hid him
                    clear hbb him hcj
                    by_cases hk1 : km = 1
                    · subst hk1
                      obtain ⟨bm, om, cm', e1, hcm⟩ := ints_cell HIM.out 0 (by rw [HKM.out]; exact Nat.one_pos)
                      rw [HKM.out] at e1
                      obtain ⟨rfl, rfl⟩ : pm = some ⟨bm, om, none⟩ ∧ cm = cm' := by cases e1; exact ⟨rfl, rfl⟩
                      rw [Nat.add_zero] at hcm
                      have hst := HST.out
                      obtain ⟨y, hy⟩ : ∃ y, mn.getD 0 0 = y := ⟨_, rfl⟩
                      rw [hy] at hcm hst
                      have HCT := contains_any (verN V N) (.slice pN kN cN) y wb ((HIA.out.below (HBTQ.out.trans (HBRB.out.mono HBTQ.out.size)) (Nat.le_refl _)).at) (by rw [verN_len, hkN.out]; omega)
                      obtain ⟨c, hc⟩ : ∃ c, (verN V N).contains y = c := ⟨_, rfl⟩
                      rw [hc] at HCT hst
                      unfold Same at HCT
                      have HCT1 := Lib.hid HCT
                      cases c with
                      | true =>
                        have hdd : bestI (pickO (anyN V N E t (q + 1)) t p) = (t : Int) := by rw [hst]; simp [pickO, bestI]
                        have HDD := Lib.hid hdd
                        clear hdd hst e1 hy HCT hc
                        go_wp2_with fail
                        refine HCT1.out.mono ?_
                        rintro e wx ⟨rfl, hwx⟩
                        subst hwx
                        go_wp2_with fail
                        go_roundw
                        case rel => exact ⟨q + 1, hqn, by go_num, by rw [HDD.out], HBRB.out⟩
                        case measure => simp [intOf]; omega
                      | false =>
                        have hdd : bestI (pickO (anyN V N E t (q + 1)) t p) = dr := by rw [hst, Bool.and_false, Bool.or_false]; exact HDR.out
                        have HDD := Lib.hid hdd
                        clear hdd hst e1 hy HCT hc
                        go_wp2_with fail
                        refine HCT1.out.mono ?_
                        rintro e wx ⟨rfl, hwx⟩
                        subst hwx
                        go_wp2_with fail
                        go_roundw
                        case rel => exact ⟨q + 1, hqn, by go_num, by rw [HDD.out], HBRB.out⟩
                        case measure => simp [intOf]; omega
                    · have hdd : bestI (pickO (anyN V N E t (q + 1)) t p) = dr := by
                        have hst := HST.out
                        rw [decide_eq_false hk1, Bool.false_and, Bool.or_false] at hst
                        rw [hst]; exact HDR.out
                      have HDD := Lib.hid hdd
                      have q6 : ((km : Int) == 1) = false := by rw [beq_eq_false_iff_ne]; omega
                      have q7 : (km == 1) = false := by rw [beq_eq_false_iff_ne]; exact hk1
                      clear hdd hk1
                      go_wp2_with fail
                      go_roundw
                      case rel => exact ⟨q + 1, hqn, by go_num, by rw [HDD.out], HBRB.out⟩
                      case measure => simp [intOf]; omega
                  · obtain rfl : ne = q := by omega
                    have hfst : FstK hf (TQ hf Ad j) (t + 1) (pickO (anyN V N E t ne) t p) := by
                      have hli := any_tq HE.out HNN.out (h := hf) (i := j) (k := t) (N := N) (by rw [HADE.out, HYJ.out]; exact HPN.out) htn (by rw [HYJ.out, HYT.out]; exact HJT.out)
                      rw [← anyN_iff, HNE.out, HADE.out] at hli
                      cases hany : anyN V N E t ne with
                      | true => exact fstK_new HFK.out (hli.1 hany) fun b e => by rw [HYT.out]; exact HPB.out b e
                      | false => exact fstK_no HFK.out (fun hq => by rw [hli.2 hq] at hany; cases hany)
                    have HFST := Lib.hid hfst
                    have HBX := Lib.hid (HBTQ.out.trans (HBR.out.mono HBTQ.out.size))
                    have hdz : bestI (pickO (anyN V N E t ne) t p) = dr := HDR.out
                    have HDZ := Lib.hid hdz
                    obtain ⟨pz, hpz⟩ : ∃ pz, pickO (anyN V N E t ne) t p = pz := ⟨_, rfl⟩
                    rw [hpz] at HFST HDZ
                    clear hfst hpz hdz
                    go_wp2_with fail
                    go_roundw
                    case rel => exact ⟨t + 1, pz, htn, by go_num, HFST.out, by rw [HDZ.out], HBX.out⟩
                    case measure => simp [intOf]; omega
        · obtain rfl : n = t := by omega
          have hfin : FirstH hf (TQ hf Ad j) p := fstK_all HFK.out fun k hk => tq_lt HG.out hk
          have HOT := Lib.hid (owns_keep HOA.out fun q hq => HBT.out.block q (HOA.out.lt q hq).2)
          have hwt : w2.heap.size ≤ wt.heap.size := HB2T.out.size
          have HFN : Hid (∀ t, t < (P ++ [p]).length → FirstH hf (TQ hf Ad t) ((P ++ [p]).getD t none)) := fun t ht2 => by
            rw [List.length_append, HJ.out] at ht2
            rcases (show t < j ∨ t = j by simp at ht2; omega) with h | rfl
            · rw [List.getD_eq_getElem?_getD, List.getElem?_append_left (by rw [HJ.out]; exact h), ← List.getD_eq_getElem?_getD]
              exact HF.out t h
            · rw [List.getD_eq_getElem?_getD, List.getElem?_append_right (by rw [HJ.out]; exact Nat.le_refl _), HJ.out, Nat.sub_self]
              exact hfin
          have hsn : intVs ((P ++ [p]).map (parI V)) = intVs (P.map (parI V)) ++ [.int .i64 (parI V p)] := by rw [List.map_append, List.map_singleton, intVs_snoc]
          clear hfin
          cases p with
          | none =>
            obtain rfl : (-1 : Int) = dv := HDV.out
            have HSN : Hid (intVs ((P ++ [none]).map (parI V)) = intVs (P.map (parI V)) ++ [.int .i64 (-1)]) := hsn
            clear hsn
            go_wp2_with (at_builtin; refine wpList_append_lies _ rfl (.tmp 100) (.tmp 102) 23 rfl w2.heap.size 3 i3 (.int .i64 0) 1 8 Tryz.underlying23 hi3 hy0 hy1 hy2 rfl (by decide) _ j (intVs (P.map (parI V))) rfl (HOT.out.alloc _) ⟨wt.heap.size, 0, none⟩ 1 1 [.int .i64 (-1)] rfl rfl (World.news_of_block (cs := #[.int .i64 (-1)]) (t := 3) (fr := (0, 0)) (heap_alloc_new wt _)) (by simp [Value.oneCell']) (by decide) (by unfold maxLen; omega) (by omega) (by simp; omega) (wt.heap.size + 1) (by simp) ?_; intro g2 c2 w9 hown2 hgr2 hat2 hlt2; have HO9 := Lib.hid hown2; have HG9 := Lib.hid hgr2; clear hown2 hgr2 hat2 hlt2)
            go_roundw
            case rel =>
              refine ⟨P ++ [none], by rw [List.length_append, HJ.out]; exact hjn, by rw [List.length_append, HJ.out]; rfl, HFN.out, (HB2T.out.alloc hwt _).grown HG9.out (by simp; omega) (fun i hi => (HOT.out.lt i hi).1), ?_⟩
              rw [List.length_append, HJ.out, HSN.out]
              exact HO9.out
            case measure => simp [intOf]; omega
          | some b =>
            obtain rfl : (b : Int) = dv := HDV.out
            have hbn : b < n := (fstK_lt HFK.out).1
            obtain ⟨bv', ov', e1, eb⟩ := HVC.out _ HB2T.out b hbn
            obtain ⟨rfl, rfl⟩ : bv = bv' ∧ ov = ov' := by cases e1; exact ⟨rfl, rfl⟩
            have HSN : Hid (intVs ((P ++ [some b]).map (parI V)) = intVs (P.map (parI V)) ++ [.int .i64 (V.getD b 0)]) := hsn
            obtain ⟨zb, hzb⟩ : ∃ z, V.getD b 0 = z := ⟨_, rfl⟩
            rw [hzb] at HSN eb
            have q4 : decide ((0 : Int) ≤ (b : Int)) = true := decide_eq_true (by omega)
            have q5 : (0 : Int) ≤ (b : Int) := by omega
            clear hsn e1 hzb
            go_wp2_with (at_builtin; refine wpList_append_lies _ rfl (.tmp 100) (.tmp 102) 23 rfl w2.heap.size 3 i3 (.int .i64 0) 1 8 Tryz.underlying23 hi3 hy0 hy1 hy2 rfl (by decide) _ j (intVs (P.map (parI V))) rfl (HOT.out.alloc _) ⟨wt.heap.size, 0, none⟩ 1 1 [.int .i64 zb] rfl rfl (World.news_of_block (cs := #[.int .i64 zb]) (t := 3) (fr := (0, 0)) (heap_alloc_new wt _)) (by simp [Value.oneCell']) (by decide) (by unfold maxLen; omega) (by omega) (by simp; omega) (wt.heap.size + 1) (by simp) ?_; intro g2 c2 w9 hown2 hgr2 hat2 hlt2; have HO9 := Lib.hid hown2; have HG9 := Lib.hid hgr2; clear hown2 hgr2 hat2 hlt2)
            go_roundw
            case rel =>
              refine ⟨P ++ [some b], by rw [List.length_append, HJ.out]; exact hjn, by rw [List.length_append, HJ.out]; rfl, HFN.out, (HB2T.out.alloc hwt _).grown HG9.out (by simp; omega) (fun i hi => (HOT.out.lt i hi).1), ?_⟩
              rw [List.length_append, HJ.out, HSN.out]
              exact HO9.out
            case measure => simp [intOf]; omega
    · obtain rfl : n = j := by omega
      go_wp2_with fail
      go_ret
      unfold UpP
      exact ⟨P, po, co, HJ.out, HF.out, rfl, HB2.out.trans (HB.out.mono HB2.out.size), ints_owned (Joins.ownsRow_le HO.out HB2.out.size) (by rw [List.length_map]; exact HJ.out.symm)⟩
end Go.Proofs.YtddnjimpdidpaaaGreatDoor
