/-
  The law CubesCounts returns true, whatever the image.
-/
import Derived.Test.YtoheffkiohfmoaaDoorCnt
import Derived.Test.YtoheffkiohfmoaaDoorImE
set_option linter.unusedSimpArgs false
set_option linter.unusedVariables false
namespace Go.Proofs.YtoheffkiohfmoaaDoor
open Go Go.RowKit Go.Maps FL

theorem ring_err : errV ringI = 0 := by decide
theorem ring_n : cC ringI - cE ringI + cS ringI = 0 := by
  unfold cC cE cS
  rw [if_pos ring_err, if_pos ring_err, if_pos ring_err]
  decide
theorem ring_p : piecePN ringI = 1 := by
  unfold piecePN
  rw [if_pos ring_err]
  have : ringI.length * wideI ringI = 9 := by decide
  rw [this, ring_pieces]; rfl
theorem ring_h : holePN ringI = 1 := by
  unfold holePN
  rw [if_pos ring_err]
  have : ringI.length * wideI ringI = 9 := by decide
  rw [this, ring_holes]; rfl
set_option maxRecDepth 100000 in
set_option maxHeartbeats 4000000 in
theorem ring_any (a : Nat → Addr) (w : World) (hS : Sents w a) : Calls Tryd.prog 4 #[] w fun e w' => e = .returned (.bool true) ∧ Below w.heap.size w w' := by
  have hb0 := (Below.refl w.heap.size w).alloc (Nat.le_refl _) (.cells #[.string ⟨#[35, 35, 35]⟩, .string ⟨#[35, 46, 35]⟩, .string ⟨#[35, 35, 35]⟩] 9)
  have hst : StrsAt (w.alloc (.cells #[.string ⟨#[35, 35, 35]⟩, .string ⟨#[35, 46, 35]⟩, .string ⟨#[35, 35, 35]⟩] 9)) (.slice (some ⟨w.heap.size, 0, none⟩) 3 3) ringI := by
    have hb := heap_alloc_new w (.cells #[.string ⟨#[35, 35, 35]⟩, .string ⟨#[35, 46, 35]⟩, .string ⟨#[35, 35, 35]⟩] 9)
    refine ⟨_, 3, rfl, Nat.le_refl _, (fun e => by cases e), fun i hi => ⟨w.heap.size, 0, rfl, ?_⟩⟩
    simp only [World.cell?, hb, Nat.zero_add]
    match i, hi with
    | 0, _ => rfl
    | 1, _ => rfl
    | 2, _ => rfl
  have hsz : ∀ j, (rowB ringI j).size ≤ 9223372036854775807 := fun j => by
    match j with
    | 0 => decide
    | 1 => decide
    | 2 => decide
    | n + 3 => exact Nat.zero_le _
  have HEU := Lib.hid (fun wx (hx : Below w.heap.size w wx) (hy : StrsAt wx (.slice (some ⟨w.heap.size, 0, none⟩) 3 3) ringI) => euler_any a ringI _ wx (hS.below hx (Nat.le_refl _)) hy hsz)
  have HPI := Lib.hid (fun wx (hx : Below w.heap.size w wx) (hy : StrsAt wx (.slice (some ⟨w.heap.size, 0, none⟩) 3 3) ringI) => pieceP_any a ringI _ wx (hS.below hx (Nat.le_refl _)) hy hsz)
  have HHO := Lib.hid (fun wx (hx : Below w.heap.size w wx) (hy : StrsAt wx (.slice (some ⟨w.heap.size, 0, none⟩) 3 3) ringI) => holeP_any a ringI _ wx (hS.below hx (Nat.le_refl _)) hy hsz)
  simp only [ring_n, ring_err, errOf_zero] at HEU
  simp only [ring_p, ring_err, errOf_zero] at HPI
  simp only [ring_h, ring_err, errOf_zero] at HHO
  have HB0 := Lib.hid hb0
  have HST := Lib.hid hst
  obtain ⟨w1, hw1⟩ : ∃ w1, w.alloc (.cells #[.string ⟨#[35, 35, 35]⟩, .string ⟨#[35, 46, 35]⟩, .string ⟨#[35, 35, 35]⟩] 9) = w1 := ⟨_, rfl⟩
  rw [hw1] at HB0 HST
  have HW1 := Lib.hid hw1
  clear hb0 hst hsz hS hw1
  go_enter Tryd.func4, Tryd.ntmps4
  go_wp2_with fail
  rw [HW1.out]
  refine (HEU.out _ HB0.out HST.out).mono ?_
  rintro e w2 ⟨rfl, hb⟩
  have HB2 := Lib.hid (HB0.out.trans (hb.mono HB0.out.size))
  have HS2 := Lib.hid (HST.out.below hb (Nat.le_refl _))
  clear hb HB0 HST HEU
  go_wp2_with fail
  refine (HPI.out _ HB2.out HS2.out).mono ?_
  rintro e w3 ⟨rfl, hb⟩
  have HB3 := Lib.hid (HB2.out.trans (hb.mono HB2.out.size))
  have HS3 := Lib.hid (HS2.out.below hb (Nat.le_refl _))
  clear hb HB2 HS2 HPI
  go_wp2_with fail
  refine (HHO.out _ HB3.out HS3.out).mono ?_
  rintro e w4 ⟨rfl, hb⟩
  have HB4 := Lib.hid (HB3.out.trans (hb.mono HB3.out.size))
  clear hb HB3 HS3 HHO
  go_wp2_with fail
  go_ret
  exact ⟨rfl, HB4.out⟩

def LitP (ms : List ByteArray) (w : World) (e : Ending) (w' : World) : Prop := ∃ b, e = .returned (.bool b) ∧ w' = w ∧ (b = true → ms.length ≤ 60)
set_option maxRecDepth 100000 in
set_option maxHeartbeats 4000000 in
theorem little_any (ms : List ByteArray) (v : Value) (w : World) (h : StrsAt w v ms) (hn : ms.length ≤ 9223372036854775807) : Calls Tryd.prog 5 #[v, .int .i64 700] w (LitP ms w) := by
  obtain ⟨pm, cm, hve, -⟩ := id h
  obtain ⟨n, hnn⟩ : ∃ n, ms.length = n := ⟨_, rfl⟩
  rw [hnn] at hve hn
  subst hve
  have HST := Lib.hid h
  have HN := Lib.hid hnn
  clear h hnn
  go_enter Tryd.func5, Tryd.ntmps5
  go_wp2_with fail
  go_loop [5, 6] (fun s5 s6 => ∃ (k : Nat) (z : Int), k ≤ n ∧ s6 = .int .i64 (k : Int) ∧ s5 = .int .i64 z) (fun _ s6 => n - (intOf s6).toNat)
  case atStart => exact ⟨0, 0, Nat.zero_le _, rfl, rfl⟩
  case round =>
    obtain ⟨k, z, hk, rfl, rfl⟩ := hrel
    by_cases hlt : k < n
    · obtain ⟨b, off, rfl, hcell⟩ := HST.out.at (i := k) (by rw [HN.out]; exact hlt)
      obtain ⟨s, hs⟩ : ∃ s, rowB ms k = s := ⟨_, rfl⟩
      rw [hs] at hcell
      clear hs
      go_wp2_with fail
      go_round
      case rel => exact ⟨k + 1, _, hlt, by go_num, rfl⟩
      case measure => simp [intOf]; omega
    · obtain rfl : k = n := by omega
      by_cases h60 : k ≤ 60
      · have q60 : decide ((k : Int) ≤ 60) = true := decide_eq_true (by omega)
        have q60N : decide (k ≤ 60) = true := decide_eq_true h60
        have H60 := Lib.hid h60
        clear h60
        by_cases h7 : z ≤ 700
        · have q7 : decide (z ≤ 700) = true := decide_eq_true h7
          clear h7
          go_wp2_with fail
          go_ret
          exact ⟨true, rfl, rfl, fun _ => by rw [HN.out]; exact H60.out⟩
        · have q7 : decide (z ≤ 700) = false := decide_eq_false h7
          clear h7
          go_wp2_with fail
          go_ret
          exact ⟨false, rfl, rfl, fun e => by cases e⟩
      · have q60 : decide ((k : Int) ≤ 60) = false := decide_eq_false (by omega)
        have q60N : decide (k ≤ 60) = false := decide_eq_false h60
        clear h60
        go_wp2_with fail
        go_ret
        exact ⟨false, rfl, rfl, fun e => by cases e⟩

set_option maxRecDepth 100000 in
set_option maxHeartbeats 16000000 in
theorem cubesCounts_any (a : Nat → Addr) (ms : List ByteArray) (v : Value) (w : World) (hS : Sents w a) (h : StrsAt w v ms) (hlen : ms.length ≤ 9223372036854775807) (hsz : ∀ j, (rowB ms j).size ≤ 9223372036854775807) :
    Calls Tryd.prog 3 #[v] w fun e w' => e = .returned (.bool true) ∧ Below w.heap.size w w' := by
  have HRI := Lib.hid (ring_any a w hS)
  have HLI := Lib.hid (fun wx (hx : Below w.heap.size w wx) => little_any ms v wx (h.below hx (Nat.le_refl _)) hlen)
  unfold LitP at HLI
  have HS := Lib.hid (fun wx (hx : Below w.heap.size w wx) => hS.below hx (Nat.le_refl _))
  have HST := Lib.hid (fun wx (hx : Below w.heap.size w wx) => h.below hx (Nat.le_refl _))
  clear hS h hlen
  go_enter Tryd.func3, Tryd.ntmps3
  go_wp2_with fail
  refine HRI.out.mono ?_
  rintro e w1 ⟨rfl, hb⟩
  have HB1 := Lib.hid hb
  clear hb HRI
  go_wp2_with fail
  refine (HLI.out _ HB1.out).mono ?_
  rintro e w1' ⟨b, rfl, hw, hfew⟩
  rw [hw]
  clear hw w1' HLI
  cases b with
  | false =>
    go_wp2_with fail
    go_ret
    exact ⟨rfl, HB1.out⟩
  | true =>
    have hn60 := hfew rfl
    have HIM := Lib.hid (fun wx (hx : Below w.heap.size w wx) => imageError_any ms v wx (HST.out wx hx) hsz (by omega))
    have HPIC := Lib.hid (fun wx (hx : Below w.heap.size w wx) => picture_any ms v wx (HST.out wx hx) (by omega))
    unfold PicP at HPIC
    have HVA := Lib.hid (fun wx (hx : Below w.heap.size w wx) u (hu : StrsAt wx u ms) => valid_any a ms u wx (HS.out wx hx) hu hsz)
    unfold ValP at HVA
    have HCO := Lib.hid (fun wx (hx : Below w.heap.size w wx) u (hu : StrsAt wx u ms) => counts_any a ms u wx (HS.out wx hx) hu hsz)
    unfold CntP at HCO
    have HEU := Lib.hid (fun wx (hx : Below w.heap.size w wx) u (hu : StrsAt wx u ms) => euler_any a ms u wx (HS.out wx hx) hu hsz)
    have HPI := Lib.hid (fun wx (hx : Below w.heap.size w wx) u (hu : StrsAt wx u ms) => pieceP_any a ms u wx (HS.out wx hx) hu hsz)
    have HHO := Lib.hid (fun wx (hx : Below w.heap.size w wx) u (hu : StrsAt wx u ms) => holeP_any a ms u wx (HS.out wx hx) hu hsz)
    have hrg := errV_range ms
    have HCD := Lib.hid (fun wx (hx : Below w.heap.size w wx) => coded_yes a (errOf a (errV ms)) (errV ms) (-1) (errV ms) wx (HS.out wx hx) (errOf_at hrg.1 hrg.2) ⟨rfl, rfl⟩)
    -- what the document counts where there is no error
    have HOK : Hid (errV ms = 0 → (∀ wx (hx : Below w.heap.size w wx) dim, Calls Tryd.prog 14 #[v, .int .i64 dim] wx (CofP ms dim wx)) ∧
        (∀ wx (hx : Below w.heap.size w wx), Calls Tryd.prog 15 #[v] wx fun e w' => e = .returned (.int .i64 (piecePN ms)) ∧ Below wx.heap.size wx w') ∧
        (∀ wx (hx : Below w.heap.size w wx), Calls Tryd.prog 16 #[v] wx fun e w' => e = .returned (.int .i64 (holePN ms)) ∧ Below wx.heap.size wx w') ∧
        ((cellsTo ms 0 (ms.length + 1)).length : Int) = cC ms ∧ ((cellsTo ms 1 (ms.length + 1)).length : Int) = cE ms ∧ ((cellsTo ms 2 (ms.length + 1)).length : Int) = cS ms) := fun h0 => by
      obtain ⟨h1, h2, h3⟩ := errV_zero h0
      have hsz7 : ∀ j, (rowB ms j).size ≤ 1000 := fun j => by
        rcases Nat.lt_or_ge j ms.length with h4 | h4
        · have := h2 j h4; omega
        · unfold rowB
          rw [List.getD_eq_getElem?_getD, List.getElem?_eq_none h4]
          exact Nat.zero_le _
      have e1 : piecePN ms = ((cntI ms true true false (ms.length * wideI ms) : Nat) : Int) := by unfold piecePN; rw [if_pos h0]
      have e2 : holePN ms = ((cntI ms false false true (ms.length * wideI ms) : Nat) : Int) := by unfold holePN; rw [if_pos h0]
      refine ⟨fun wx hx dim => cellsOf_any ms v dim wx (HST.out wx hx) (by omega) (by omega), fun wx hx => ?_, fun wx hx => ?_, ?_, ?_, ?_⟩
      · rw [e1]; exact piecesOf_any ms v wx (HST.out wx hx) (by omega) (by omega) h2 hsz7
      · rw [e2]; exact holesOf_any ms v wx (HST.out wx hx) (by omega) (by omega) h2 hsz7
      · unfold cC; rw [if_pos h0, cellsTo_map (cell_corn ms), List.length_map]
      · unfold cE; rw [if_pos h0, cellsTo_map (cell_edge ms), List.length_map]
      · unfold cS; rw [if_pos h0, cellsTo_map (cell_squa ms), List.length_map]
    have HZE : Hid (errV ms ≠ 0 → cC ms = 0 ∧ cE ms = 0 ∧ cS ms = 0 ∧ piecePN ms = 0 ∧ holePN ms = 0) := fun h0 => by
      unfold cC cE cS piecePN holePN
      simp [if_neg h0]
    obtain ⟨⟨x0, x1⟩, ⟨y0, y1⟩, z0, z1⟩ := cnt_small ms
    generalize hXc : cC ms = xc at HCO HEU HOK HZE x0 x1
    generalize hXe : cE ms = xe at HCO HEU HOK HZE y0 y1
    generalize hXs : cS ms = xs at HCO HEU HOK HZE z0 z1
    generalize hPp : piecePN ms = pp at HPI HOK HZE
    generalize hPh : holePN ms = ph at HHO HOK HZE
    generalize hev : errOf a (errV ms) = ev at HVA HCO HEU HPI HHO HCD
    generalize hce : errV ms = c at HIM HCD HOK HZE hrg
    obtain ⟨hc0, hc8⟩ := hrg
    clear hXc hXe hXs hPp hPh hev hce hn60 hsz hfew HST HS

    go_wp2_with fail
    refine (HIM.out _ HB1.out).mono ?_
    rintro e w2 ⟨rfl, hb⟩
    have HB2 := Lib.hid (HB1.out.trans (hb.mono HB1.out.size))
    clear hb
    go_wp2_with fail
    refine (HPIC.out _ HB2.out).mono ?_
    rintro e w3 ⟨vp, rfl, hb, hvp⟩
    have HB3 := Lib.hid (HB2.out.trans (hb.mono HB2.out.size))
    have HVP := Lib.hid hvp
    clear hb hvp
    go_wp2_with fail
    refine (HVA.out _ HB3.out vp HVP.out).mono ?_
    rintro e w4 ⟨rfl, hb⟩
    have HB4 := Lib.hid (HB3.out.trans (hb.mono HB3.out.size))
    clear hb HVP
    go_wp2_with fail
    refine (HCD.out _ HB4.out).mono ?_
    rintro e w5 ⟨rfl, hb⟩
    have HB5 := Lib.hid (HB4.out.trans (hb.mono HB4.out.size))
    clear hb
    go_wp2_with fail
    refine (HPIC.out _ HB5.out).mono ?_
    rintro e w6 ⟨vp, rfl, hb, hvp⟩
    have HB6 := Lib.hid (HB5.out.trans (hb.mono HB5.out.size))
    have HVP := Lib.hid hvp
    clear hb hvp
    go_wp2_with fail
    refine (HCO.out _ HB6.out vp HVP.out).mono ?_
    rintro e w7 ⟨rfl, hb⟩
    have HB7 := Lib.hid (HB6.out.trans (hb.mono HB6.out.size))
    clear hb HVP
    go_wp2_with fail
    refine (HPIC.out _ HB7.out).mono ?_
    rintro e w8 ⟨vp, rfl, hb, hvp⟩
    have HB8 := Lib.hid (HB7.out.trans (hb.mono HB7.out.size))
    have HVP := Lib.hid hvp
    clear hb hvp
    go_wp2_with fail
    refine (HEU.out _ HB8.out vp HVP.out).mono ?_
    rintro e w9 ⟨rfl, hb⟩
    have HB9 := Lib.hid (HB8.out.trans (hb.mono HB8.out.size))
    clear hb HVP
    go_wp2_with fail
    refine (HPIC.out _ HB9.out).mono ?_
    rintro e w10 ⟨vp, rfl, hb, hvp⟩
    have HB10 := Lib.hid (HB9.out.trans (hb.mono HB9.out.size))
    have HVP := Lib.hid hvp
    clear hb hvp
    go_wp2_with fail
    refine (HPI.out _ HB10.out vp HVP.out).mono ?_
    rintro e w11 ⟨rfl, hb⟩
    have HB11 := Lib.hid (HB10.out.trans (hb.mono HB10.out.size))
    clear hb HVP
    go_wp2_with fail
    refine (HPIC.out _ HB11.out).mono ?_
    rintro e w12 ⟨vp, rfl, hb, hvp⟩
    have HB12 := Lib.hid (HB11.out.trans (hb.mono HB11.out.size))
    have HVP := Lib.hid hvp
    clear hb hvp
    go_wp2_with fail
    refine (HHO.out _ HB12.out vp HVP.out).mono ?_
    rintro e w13 ⟨rfl, hb⟩
    have HB13 := Lib.hid (HB12.out.trans (hb.mono HB12.out.size))
    clear hb HVP
    go_wp2_with fail
    refine (HCD.out _ HB13.out).mono ?_
    rintro e w14 ⟨rfl, hb⟩
    have HB14 := Lib.hid (HB13.out.trans (hb.mono HB13.out.size))
    clear hb
    go_wp2_with fail
    refine (HCD.out _ HB14.out).mono ?_
    rintro e w15 ⟨rfl, hb⟩
    have HB15 := Lib.hid (HB14.out.trans (hb.mono HB14.out.size))
    clear hb
    go_wp2_with fail
    refine (HCD.out _ HB15.out).mono ?_
    rintro e w16 ⟨rfl, hb⟩
    have HB16 := Lib.hid (HB15.out.trans (hb.mono HB15.out.size))
    clear hb
    go_wp2_with fail
    refine (HCD.out _ HB16.out).mono ?_
    rintro e w17 ⟨rfl, hb⟩
    have HB17 := Lib.hid (HB16.out.trans (hb.mono HB16.out.size))
    clear hb
    by_cases hc : c = 0
    rotate_left
    · have qc : decide (0 < c) = true := decide_eq_true (by omega)
      obtain ⟨rfl, rfl, rfl, rfl, rfl⟩ := HZE.out hc
      clear hc
      go_wp2_with fail
      go_ret
      exact ⟨rfl, HB17.out⟩
    · subst hc
      obtain ⟨hcel, hpo, hho, e1, e2, e3⟩ := HOK.out rfl
      have HCEL := Lib.hid hcel
      have HPO := Lib.hid hpo
      have HHOO := Lib.hid hho
      unfold CofP at HCEL
      have HE1 := Lib.hid e1
      have HE2 := Lib.hid e2
      have HE3 := Lib.hid e3
      clear hcel hpo hho e1 e2 e3 HOK HZE HVA HCO HEU HPI HHO HCD HIM HPIC
      go_wp2_with fail
      refine (HCEL.out _ HB17.out 0).mono ?_
      rintro e w18 ⟨vc0, rfl, hb, hce0⟩
      have HB18 := Lib.hid (HB17.out.trans (hb.mono HB17.out.size))
      obtain ⟨pc0, cc0, rfl⟩ := hce0.sliceOf
      obtain ⟨nc0, hnc0⟩ : ∃ n, (cellsTo ms 0 (ms.length + 1)).length = n := ⟨_, rfl⟩
      rw [hnc0] at HE1 ⊢
      obtain rfl := HE1.out
      clear hb hce0 hnc0 HE1
      go_wp2_with fail
      refine (HCEL.out _ HB18.out 1).mono ?_
      rintro e w19 ⟨vc1, rfl, hb, hce1⟩
      have HB19 := Lib.hid (HB18.out.trans (hb.mono HB18.out.size))
      obtain ⟨pc1, cc1, rfl⟩ := hce1.sliceOf
      obtain ⟨nc1, hnc1⟩ : ∃ n, (cellsTo ms 1 (ms.length + 1)).length = n := ⟨_, rfl⟩
      rw [hnc1] at HE2 ⊢
      obtain rfl := HE2.out
      clear hb hce1 hnc1 HE2
      go_wp2_with fail
      refine (HCEL.out _ HB19.out 2).mono ?_
      rintro e w20 ⟨vc2, rfl, hb, hce2⟩
      have HB20 := Lib.hid (HB19.out.trans (hb.mono HB19.out.size))
      obtain ⟨pc2, cc2, rfl⟩ := hce2.sliceOf
      obtain ⟨nc2, hnc2⟩ : ∃ n, (cellsTo ms 2 (ms.length + 1)).length = n := ⟨_, rfl⟩
      rw [hnc2] at HE3 ⊢
      obtain rfl := HE3.out
      clear hb hce2 hnc2 HE3
      go_wp2_with fail
      refine (HPO.out _ HB20.out).mono ?_
      rintro e w21 ⟨rfl, hb⟩
      have HB21 := Lib.hid (HB20.out.trans (hb.mono HB20.out.size))
      clear hb
      go_wp2_with fail
      refine (HHOO.out _ HB21.out).mono ?_
      rintro e w22 ⟨rfl, hb⟩
      have HB22 := Lib.hid (HB21.out.trans (hb.mono HB21.out.size))
      clear hb
      go_wp2_with fail
      go_ret
      exact ⟨rfl, HB22.out⟩
end Go.Proofs.YtoheffkiohfmoaaDoor
