/-
  The law IndexHeights says true.
-/
import Derived.Test.YtddnjimpdidpaaaGreatDoorIxT
import Derived.Test.YtddnjimpdidpaaaGreatDoorWhl
import Derived.Test.YtddnjimpdidpaaaGreatDoorCoded
import Derived.Test.YtddnjimpdidpaaaGreatDoorErrsD
import Derived.Test.YtddnjimpdidpaaaGreatDoorFacB
import Derived.Test.YtddnjimpdidpaaaGreatDoorCRefF
import Derived.Test.YtddnjimpdidpaaaGreatDoorCelX
import Derived.Test.YtddnjimpdidpaaaGreatDoorCelY
set_option linter.unusedSimpArgs false
set_option linter.unusedVariables false
namespace Go.Proofs.YtddnjimpdidpaaaGreatDoor
open Go Go.RowKit Go.Maps

set_option maxRecDepth 100000 in
set_option maxHeartbeats 16000000 in
theorem indexHeights_no (L : List (List Int)) (h : List Int) (v vh : Value) (w : World) (hv : ListsIn w.heap.size w v L) (hh : IntsIn w.heap.size w vh h) (hno : littleB L 80 = false ∨ 200 < h.length) :
    Calls Tryz.prog 4 #[v, vh] w (True1 w) := by
  obtain ⟨pg, cg, hge, -⟩ := id hh
  obtain ⟨ng, hng⟩ : ∃ ng, h.length = ng := ⟨_, rfl⟩
  rw [hng] at hge hno
  subst hge
  have HV := Lib.hid hv
  have HAR := Lib.hid (wheel_any w)
  obtain ⟨r, hr⟩ : ∃ r, littleB L 80 = r := ⟨_, rfl⟩
  have HR := Lib.hid hr
  rw [hr] at hno
  unfold True1
  clear hv hh hng hr
  cases r with
  | false =>
    clear hno
    go_enter Tryz.func4, Tryz.ntmps4
    go_wp2_with fail
    refine HAR.out.mono ?_
    rintro e w1 ⟨rfl, hb1⟩
    have HB1 := Lib.hid hb1
    have HLI := Lib.hid (little_any L 80 v w1 (HV.out.later hb1 (Nat.le_refl _) (Nat.le_refl _)) (by decide))
    rw [HR.out] at HLI
    unfold Gives at HLI
    clear hb1
    go_wp2_with fail
    refine HLI.out.mono ?_
    rintro e w2 ⟨rfl, hb2⟩
    have HB2 := Lib.hid (HB1.out.trans (hb2.mono HB1.out.size))
    clear hb2
    go_wp2_with fail
    go_ret
    exact ⟨rfl, HB2.out⟩
  | true =>
    have hn : 200 < ng := hno.resolve_left (by decide)
    have q1 : decide ((200 : Int) < (ng : Int)) = true := decide_eq_true (by omega)
    have q2 : decide (200 < ng) = true := decide_eq_true hn
    have q3 : decide ((ng : Int) > 200) = true := decide_eq_true (by omega)
    clear hno
    go_enter Tryz.func4, Tryz.ntmps4
    go_wp2_with fail
    refine HAR.out.mono ?_
    rintro e w1 ⟨rfl, hb1⟩
    have HB1 := Lib.hid hb1
    have HLI := Lib.hid (little_any L 80 v w1 (HV.out.later hb1 (Nat.le_refl _) (Nat.le_refl _)) (by decide))
    rw [HR.out] at HLI
    unfold Gives at HLI
    clear hb1
    go_wp2_with fail
    refine HLI.out.mono ?_
    rintro e w2 ⟨rfl, hb2⟩
    have HB2 := Lib.hid (HB1.out.trans (hb2.mono HB1.out.size))
    clear hb2
    go_wp2_with fail
    go_ret
    exact ⟨rfl, HB2.out⟩

set_option maxRecDepth 100000 in
set_option maxHeartbeats 64000000 in
theorem indexHeights_any (a : Nat → Addr) (L : List (List Int)) (h : List Int) (v vh : Value) (w : World) (hS : Sents w a) (hv : ListsIn w.heap.size w v L) (hh0 : IntsAt w vh h) :
    Calls Tryz.prog 4 #[v, vh] w (True1 w) := by
  have hh := hh0.in
  by_cases hlit : littleB L 80 = true
  rotate_left
  · exact indexHeights_no L h v vh w hv hh (Or.inl (by simpa using hlit))
  by_cases hg60 : h.length ≤ 200
  rotate_left
  · exact indexHeights_no L h v vh w hv hh (Or.inr (by omega))
  obtain ⟨pg, cg, hge, -⟩ := id hh
  obtain ⟨ng, hng⟩ : ∃ ng, h.length = ng := ⟨_, rfl⟩
  rw [hng] at hge hg60
  subst hge
  obtain ⟨hL1, hL2⟩ := littleB_few hlit
  have HV := Lib.hid hv
  have HS := Lib.hid hS
  have HH := Lib.hid hh
  have HNG := Lib.hid hng
  have HN6 := Lib.hid hg60
  have HL1 := Lib.hid hL1
  have HL2 := Lib.hid hL2
  have HLIT := Lib.hid hlit
  have HAR := Lib.hid (wheel_any w)
  unfold True1
  have q1 : decide ((200 : Int) < (ng : Int)) = false := decide_eq_false (by omega)
  have q2 : decide (200 < ng) = false := decide_eq_false (by omega)
  have q3 : decide ((ng : Int) > 200) = false := decide_eq_false (by omega)
  clear hS hv hh hh0 hng hL1 hL2 hlit
  go_enter Tryz.func4, Tryz.ntmps4
  go_wp2_with fail
  refine HAR.out.mono ?_
  rintro e w1 ⟨rfl, hb1⟩
  have HB1 := Lib.hid hb1
  have HLI := Lib.hid (little_any L 80 v w1 (HV.out.later hb1 (Nat.le_refl _) (Nat.le_refl _)) (by decide))
  rw [HLIT.out] at HLI
  unfold Gives at HLI
  clear hb1
  go_wp2_with fail
  refine HLI.out.mono ?_
  rintro e w2 ⟨rfl, hb2⟩
  have HB2 := Lib.hid (HB1.out.trans (hb2.mono HB1.out.size))
  have HH2 := Lib.hid ((HH.out.below HB2.out (Nat.le_refl _)).at.in)
  have HHI := Lib.hid (high_any L h v (.slice pg ng cg) w2 (HV.out.later HB2.out (Nat.le_refl _) (Nat.le_refl _)) HL1.out HL2.out HH2.out (by rw [HNG.out]; omega))
  unfold HighP at HHI
  obtain ⟨c, hc⟩ : ∃ c, errR L h = c := ⟨_, rfl⟩
  rw [hc] at HHI
  have HC := Lib.hid hc
  clear hb2 hc
  go_wp2_with fail
  refine HHI.out.mono ?_
  rintro e w3 ⟨v3, rfl, hb3, hA3⟩
  have HB23 := Lib.hid hb3
  have HA3 := Lib.hid hA3
  have HB3 := Lib.hid (HB2.out.trans (hb3.mono HB2.out.size))
  have HCX := Lib.hid (cx_any w.heap.size L v w3 HB3.out.size (HV.out.below HB3.out (Nat.le_refl _)) HL1.out HL2.out)
  clear hb3 hA3
  go_wp2_with fail
  refine HCX.out.mono ?_
  rintro e w4 ⟨u4, rfl, hb4, hR4⟩
  have HB34 := Lib.hid hb4
  have HB24 := Lib.hid (HB23.out.trans (hb4.mono HB23.out.size))
  have HB4 := Lib.hid (HB3.out.trans (hb4.mono HB3.out.size))
  have HR4 := Lib.hid (hR4.lists (B := w.heap.size))
  have HIN := Lib.hid (ints_any w.heap.size h (.slice pg ng cg) w4 HB4.out.size (HH.out.below HB4.out (Nat.le_refl _)) (by rw [HNG.out]; omega))
  unfold NumsP at HIN
  clear hb4 hR4
  go_wp2_with fail
  refine HIN.out.mono ?_
  rintro e w5 ⟨p5, c5, rfl, hb5, hI5⟩
  have HB35 := Lib.hid (HB34.out.trans (hb5.mono HB34.out.size))
  have HB25 := Lib.hid (HB24.out.trans (hb5.mono HB24.out.size))
  have HB5 := Lib.hid (HB4.out.trans (hb5.mono HB4.out.size))
  have HIX := Lib.hid (indices_any a w5.heap.size L h u4 _ w5 (HS.out.below HB5.out (Nat.le_refl _)) (Nat.le_refl _) (HR4.out.later hb5 (Nat.le_refl _) (by have := HB4.out.size; omega)) HL1.out HL2.out hI5.at.in (by rw [HNG.out]; omega))
  unfold IdcP at HIX
  rw [HC.out] at HIX
  clear hb5 hI5
  go_wp2_with fail
  refine HIX.out.mono ?_
  rintro e w6 ⟨v6, rfl, hb6, hbad6, hok6⟩
  have HB36 := Lib.hid (HB35.out.trans (hb6.mono HB35.out.size))
  have HB26 := Lib.hid (HB25.out.trans (hb6.mono HB25.out.size))
  have HB6 := Lib.hid (HB5.out.trans (hb6.mono HB5.out.size))
  cases c with
  | succ k =>
    obtain rfl := hbad6 (by omega)
    have q4 : decide (((k + 1 : Nat) : Int) > 0) = true := decide_eq_true (by omega)
    have q5 : decide ((0 : Int) < ((k + 1 : Nat) : Int)) = true := decide_eq_true (by omega)
    have hE := @errV_at a L h w6
    rw [HC.out] at hE
    have HCD := Lib.hid (coded_any a (errV a (k + 1)) ((k + 1 : Nat) : Int) (-1) ((k + 1 : Nat) : Int) w6 (HS.out.below HB6.out (Nat.le_refl _)) hE)
    rw [decide_eq_true (show ((k + 1 : Nat) : Int) = ((k + 1 : Nat) : Int) ∧ (-1 : Int) = -1 from ⟨rfl, rfl⟩)] at HCD
    clear hb6 hbad6 hok6 hE
    go_wp2_with fail
    refine HCD.out.mono ?_
    rintro e w7 ⟨rfl, hb7⟩
    have HB7 := Lib.hid (HB6.out.trans (hb7.mono HB6.out.size))
    clear hb7
    go_wp2_with fail
    go_ret
    exact ⟨rfl, HB7.out⟩
  | zero =>
    have h0 : errX L = 0 := (errR_0 HC.out).1
    have hC0 := (errX_ok h0).1
    have hA6 := (errC_ok hC0).2.2
    have hA7 := allF_bd hC0
    have hvl : h.length = (vertR (allF L)).length := by rw [vert_same h0]; exact (errR_0 HC.out).2.1.symm
    have hvn : (vertR (allF L)).Nodup := by rw [vert_same h0]; exact List.Pairwise.imp (fun h => by omega) (rise_setL _)
    have hi6 : IntsIn w5.heap.size w6 v6 (idxL L h) := hok6 rfl
    have hl6 : (idxL L h).length = ng := by rw [idx_len HC.out, HNG.out]
    have HBDI := Lib.hid (idx_bd HC.out)
    have HSUM := Lib.hid (idx_sum HC.out)
    have HIO := Lib.hid (indicesOf_any w2.heap.size (allF L) h v3 (.slice pg ng cg) w6 HB26.out.size ((HA3.out h0).below HB36.out (Nat.le_refl _)) (by omega) (fun l hl => by have := hA7 l hl; omega) (HH2.out.below HB26.out (Nat.le_refl _)) hvl hvn)
    rw [idx_ref h0] at HIO
    unfold NumsP at HIO
    rw [hl6] at HIO
    obtain ⟨l, hl⟩ : ∃ l, idxL L h = l := ⟨_, rfl⟩
    rw [hl] at HIO hi6 hl6 HBDI HSUM
    obtain ⟨p6, c6, hv6, -⟩ := id hi6
    rw [hl6] at hv6
    subst hv6
    have HL6 := Lib.hid hl6
    have H6 := Lib.hid hi6
    have HE0 := Lib.hid h0
    rw [show errV a 0 = Value.nilIface from rfl]
    have q4 : decide (((0 : Nat) : Int) > 0) = false := decide_eq_false (by omega)
    have q5 : decide ((0 : Int) < ((0 : Nat) : Int)) = false := decide_eq_false (by omega)
    clear hb6 hbad6 hok6 h0 hC0 hA6 hA7 hvl hvn hi6 hl6 hl HHI HIX
    go_wp2_with fail
    refine HIO.out.mono ?_
    rintro e w7 ⟨p7, c7, rfl, hb7, hi7⟩
    have HB7 := Lib.hid (HB6.out.trans (hb7.mono HB6.out.size))
    have HN6' := HN6.out
    have H7 := Lib.hid (H6.out.below hb7 (Nat.le_refl _))
    have HSA := Lib.hid (sameInts_any (.slice p6 ng c6) (.slice p7 ng c7) l l w7 H7.out.at hi7.at (by rw [HL6.out]; omega) (by rw [HL6.out]; omega))
    rw [decide_eq_true (show l = l from rfl)] at HSA
    clear hb7 hi7 HN6'
    go_wp2_with fail
    refine HSA.out.mono ?_
    rintro e w8' ⟨rfl, nd, rfl⟩
    have H8' := H7.out.below (Below.drewN w7 nd) (Nat.le_refl _)
    have HB8' := HB7.out.trans ((Below.drewN w7 nd).mono HB7.out.size)
    obtain ⟨w8, hw8⟩ : ∃ w8, w7.drewN nd = w8 := ⟨_, rfl⟩
    rw [hw8] at H8' HB8' ⊢
    have H8 := Lib.hid H8'
    have HB8 := Lib.hid HB8'
    clear H8' HB8' hw8
    go_wp2_with fail
    go_loopw [12, 13] (fun sv i wr => ∃ (j : Nat), j ≤ ng ∧ i = .int .i64 (j : Int) ∧ sv = .int .i64 (preS l j) ∧ wr = w8) (fun _ i _ => ng - (intOf i).toNat)
    case atStart => exact ⟨0, Nat.zero_le _, rfl, rfl, rfl⟩
    case round =>
      obtain ⟨j, hj, rfl, rfl, rfl⟩ := hrel
      by_cases hjn : j < ng
      · have hjl : j < l.length := by rw [HL6.out]; exact hjn
        obtain ⟨b0, o0, c0, e1, e2⟩ := ints_cell H8.out j hjl
        rw [HL6.out] at e1
        obtain ⟨rfl, rfl⟩ : p6 = some ⟨b0, o0, none⟩ ∧ c6 = c0 := by cases e1; exact ⟨rfl, rfl⟩
        have hps := preS_succ hjl
        have hbj := HBDI.out (l.getD j 0) (by rw [getD_elem hjl]; exact List.getElem_mem _)
        have hpb := preS_bd (by decide) HBDI.out j (Nat.le_of_lt hjl)
        have hN6 := HN6.out
        obtain ⟨x, hx⟩ : ∃ x, l.getD j 0 = x := ⟨_, rfl⟩
        obtain ⟨s, hs⟩ : ∃ s, preS l j = s := ⟨_, rfl⟩
        rw [hx] at e2 hps hbj
        rw [hs] at hps hpb ⊢
        have m1 : IntKind.i64.wrap (s + x) = s + x := IntWalk.i64_in _ (by omega)
        have HPS := Lib.hid hps
        clear e1 hps hbj hpb hx hs
        go_wp2_with fail
        go_roundw
        case rel => refine ⟨j + 1, hjn, by go_num, by rw [HPS.out], ?_⟩; first | rfl | trivial
        case measure => simp [intOf]; omega
      · obtain rfl : j = ng := by omega
        have hps : preS l j = eulF (allF L) := by rw [← HL6.out, preS_all, HSUM.out]
        rw [hps]
        have HCX2 := Lib.hid (cx_any w.heap.size L v wr HB8.out.size (HV.out.below HB8.out (Nat.le_refl _)) HL1.out HL2.out)
        clear hps
        go_wp2_with fail
        refine HCX2.out.mono ?_
        rintro e w9 ⟨u9, rfl, hb9, hR9⟩
        have HB9 := Lib.hid (HB8.out.trans (hb9.mono HB8.out.size))
        have HEU := Lib.hid (euler_any a w.heap.size L u9 w9 (HS.out.below HB9.out (Nat.le_refl _)) HB9.out.size (hR9.lists (B := w.heap.size)) HL1.out HL2.out)
        unfold FacPost at HEU
        clear hb9 hR9
        go_wp2_with fail
        refine HEU.out.mono ?_
        rintro e w10 ⟨hb10, hF⟩
        rcases hF with ⟨-, v10, rfl, rfl⟩ | ⟨k, hk, hek, -⟩
        rotate_left
        · have := HE0.out; omega
        have HB10 := Lib.hid (HB9.out.trans (hb10.mono HB9.out.size))
        clear hb10
        go_wp2_with fail
        go_ret
        exact ⟨rfl, HB10.out⟩
end Go.Proofs.YtddnjimpdidpaaaGreatDoor
