/-
  The law CubesBorders returns true, whatever the image and the dimension.
-/
import Derived.Test.YtoheffkiohfmoaaGreatDoorCpx
import Derived.Test.YtoheffkiohfmoaaGreatDoorInc
import Derived.Test.YtoheffkiohfmoaaGreatDoorBdy
import Derived.Test.YtoheffkiohfmoaaGreatDoorImE
import Derived.Test.YtoheffkiohfmoaaGreatDoorCRefE
set_option linter.unusedSimpArgs false
set_option linter.unusedVariables false
namespace Go.Proofs.YtoheffkiohfmoaaGreatDoor
open Go Go.RowKit Go.Maps FL

theorem cpxE_range (ms : List ByteArray) : 0 ≤ cpxE ms ∧ cpxE ms ≤ 8 := by
  unfold cpxE
  have h := errV_range ms
  split
  · rcases errC_cases (triTo ms ms.length) with h | h | h <;> rw [h] <;> decide
  · exact h
theorem cpxL_bd (ms : List ByteArray) : (cpxL ms).length ≤ 100000 ∧ ∀ l ∈ cpxL ms, l.length ≤ 100000 := by
  unfold cpxL cpxE
  by_cases h0 : errV ms = 0
  · rw [if_pos h0]
    by_cases h1 : errC (triTo ms ms.length) = 0
    · rw [if_pos (by omega)]
      exact ⟨Nat.le_trans (made_len h1) (by decide), fun l hl => Nat.le_trans (made_bd h1 l hl) (by decide)⟩
    · rw [if_neg (by omega)]
      exact ⟨by simp, fun l hl => by cases hl⟩
  · rw [if_neg h0, if_neg h0]
    exact ⟨by simp, fun l hl => by cases hl⟩
theorem tri_small {ms : List ByteArray} (hrect : ∀ j, j < ms.length → (rowB ms j).size = wideI ms) (hW : wideI ms ≤ 24) (hH : ms.length ≤ 24) : (triTo ms ms.length).length ≤ 100000 := by
  have h2 : (gridTo (squaAt ms) (wideI ms) (ms.length + 1)).length ≤ 1 * (wideI ms + 1) * (ms.length + 1) := gridTo_len at_len3 _ _
  have h3 : 1 * (wideI ms + 1) * (ms.length + 1) ≤ 1 * 25 * 25 := Nat.mul_le_mul (by omega) (by omega)
  rw [← tri_grid hrect]
  have h4 : ∀ l : List PI, (l.flatMap (triP (wideI ms))).length = 2 * l.length := fun l => by
    induction l with
    | nil => rfl
    | cons p l ih => rw [List.flatMap_cons, List.length_append, ih]; simp [triP, triI]; omega
  rw [h4]; omega
/-- what Made gives is what Complex gives -/
theorem made_cpx {ms : List ByteArray} {B : Nat} {w : World} {v : Value} (h0 : errV ms = 0) (h1 : errC (triTo ms ms.length) = 0 → ListsIn B w v (madeF (triTo ms ms.length))) (h2 : errC (triTo ms ms.length) ≠ 0 → v = .slice none 0 0) : ListsIn B w v (cpxL ms) := by
  unfold cpxL cpxE
  rw [if_pos h0]
  by_cases h : errC (triTo ms ms.length) = 0
  · rw [if_pos (by omega)]; exact h1 h
  · rw [if_neg (by omega), h2 h]; exact ListsIn.nil _ _

set_option maxRecDepth 100000 in
set_option maxHeartbeats 16000000 in
theorem cubesBorders_any (a : Nat → Addr) (ms : List ByteArray) (dim : Int) (v : Value) (w : World) (hS : Sents w a) (h : StrsAt w v ms) (hlen : ms.length ≤ 9223372036854775807) (hsz : ∀ j, (rowB ms j).size ≤ 9223372036854775807) :
    Calls Tryz.prog 5 #[v, .int .i64 dim] w fun e w' => e = .returned (.bool true) ∧ Below w.heap.size w w' := by
  have HRI := Lib.hid (ring_any a w hS)
  have HLI := Lib.hid (fun wx (hx : Below w.heap.size w wx) => litS_any ms v wx (h.below hx (Nat.le_refl _)) 60 hlen)
  unfold LitP at HLI
  have HS := Lib.hid (fun wx (hx : Below w.heap.size w wx) => hS.below hx (Nat.le_refl _))
  have HST := Lib.hid (fun wx (hx : Below w.heap.size w wx) => h.below hx (Nat.le_refl _))
  clear hS h hlen
  go_enter Tryz.func5, Tryz.ntmps5
  go_wp2_with fail
  refine HRI.out.mono ?_
  rintro e w1 ⟨rfl, hb⟩
  have HB1 := Lib.hid hb
  clear hb HRI
  go_wp2_with fail
  refine (HLI.out _ HB1.out).mono ?_
  rintro e w1' ⟨b, rfl, hw, hfew⟩
  rw [hw]
  clear hw w1' HLI
  cases b with
  | false =>
    go_wp2_with fail
    go_ret
    exact ⟨rfl, HB1.out⟩
  | true =>
    have hn60 := hfew rfl
    have HIM := Lib.hid (fun wx (hx : Below w.heap.size w wx) => imageError_any ms v wx (HST.out wx hx) hsz (by omega))
    have HPIC := Lib.hid (fun wx (hx : Below w.heap.size w wx) => picture_any ms v wx (HST.out wx hx) (by omega))
    unfold PicP at HPIC
    have HCX := Lib.hid (fun wx (hx : Below w.heap.size w wx) u (hu : StrsAt wx u ms) => complex_any a ms u wx (HS.out wx hx) hu hsz)
    unfold CpxP at HCX
    have hrg := errV_range ms
    have hrx := cpxE_range ms
    have HCD := Lib.hid (fun (c : Int) (hc : 0 ≤ c ∧ c ≤ 8) wx (hx : Below w.heap.size w wx) => coded_yes a (errOf a c) c (-1) c wx (HS.out wx hx) (errOf_at hc.1 hc.2) ⟨rfl, rfl⟩)
    have HLB := Lib.hid (cpxL_bd ms)
    have HBB := Lib.hid (fun (he : bdyE ms dim ≠ 0) wx (hx : Below w.heap.size w wx) u (hu : StrsAt wx u ms) => boundary_bad a ms dim u wx (HS.out wx hx) hu hsz he)
    have HBO := Lib.hid (fun (he : bdyE ms dim = 0) wx (hx : Below w.heap.size w wx) u (hu : StrsAt wx u ms) => boundary_ok a ms dim u wx (HS.out wx hx) hu hsz he)
    unfold BdyBad at HBB
    unfold BdyOk at HBO
    -- what the document makes where there is no error
    have HSE := Lib.hid (fun (h0 : errV ms = 0) wx (hx : Below w.heap.size w wx) => imageSets_any ms v wx (HST.out wx hx) (by have := errV_zero h0; omega) (by have := errV_zero h0; omega) (errV_zero h0).2.1)
    unfold TriP at HSE
    have HMA := Lib.hid (fun (h0 : errV ms = 0) wx (hx : Below w.heap.size w wx) B u (hB : B ≤ wx.heap.size) (hu : ListsIn B wx u (triTo ms ms.length)) => made_any B (triTo ms ms.length) u wx hB hu (tri_small (errV_zero h0).2.1 (by have := errV_zero h0; omega) (by have := errV_zero h0; omega)) (triTo_bd ms _))
    unfold MadePost at HMA
    have HCB := Lib.hid (fun (h0 : errV ms = 0) (hd : 0 ≤ dim ∧ dim ≤ 3) wx (hx : Below w.heap.size w wx) => cellBorder_any ms v dim wx (HST.out wx hx) (by have := errV_zero h0; omega) (by have := errV_zero h0; omega) hd)
    unfold MatPost at HCB
    have HSM : Hid (errV ms = 0 → 0 ≤ dim ∧ dim ≤ 3 → (matI (rowsI ms dim) (colsI ms dim) dim).length ≤ 1000000) := fun h0 hd => mat_small (by have := errV_zero h0; omega) (by have := errV_zero h0; omega) hd
    have HMC := Lib.hid (fun B wx u (h0 : errV ms = 0) h1 h2 => made_cpx (ms := ms) (B := B) (w := wx) (v := u) h0 h1 h2)
    have HE0 : Hid (errV ms = 0 → cpxE ms = (errC (triTo ms ms.length) : Int)) := fun h0 => by unfold cpxE; rw [if_pos h0]
    have HE1 : Hid (errV ms ≠ 0 → cpxE ms = errV ms ∧ cpxL ms = [] ∧ bdyE ms dim = errV ms) := fun h0 => by
      have h1 : cpxE ms = errV ms := by unfold cpxE; rw [if_neg h0]
      refine ⟨h1, ?_, ?_⟩
      · unfold cpxL; rw [if_neg (by rw [h1]; exact h0)]
      · unfold bdyE; rw [if_neg h0]
    have HD0 : Hid (errV ms = 0 → 0 ≤ dim ∧ dim ≤ 3 → bdyE ms dim = 0) := fun h0 hd => by unfold bdyE; rw [if_pos h0, if_pos hd]
    have HD1 : Hid (errV ms = 0 → ¬ (0 ≤ dim ∧ dim ≤ 3) → bdyE ms dim = 2) := fun h0 hd => by unfold bdyE; rw [if_pos h0, if_neg hd]
    obtain ⟨c, hc⟩ : ∃ c, errV ms = c := ⟨_, rfl⟩
    obtain ⟨x, hx⟩ : ∃ c, cpxE ms = c := ⟨_, rfl⟩
    obtain ⟨y, hy⟩ : ∃ c, bdyE ms dim = c := ⟨_, rfl⟩
    obtain ⟨X, hX⟩ : ∃ c, cpxL ms = c := ⟨_, rfl⟩
    obtain ⟨T, hT⟩ : ∃ c, triTo ms ms.length = c := ⟨_, rfl⟩
    rw [hc] at HIM HSE HMA HCB HSM HMC HE0 HE1 HD0 HD1 hrg
    rw [hx] at HCX HE0 HE1 hrx
    simp only [hy] at HBB HBO HE1 HD0 HD1
    rw [hX] at HCX HLB HMC HE1
    rw [hT] at HSE HMA HMC HE0
    have HRG := Lib.hid hrg
    have HRX := Lib.hid hrx
    clear hn60 hsz hfew HST HS hc hx hy hX hT hrg hrx

    go_wp2_with fail
    refine (HIM.out _ HB1.out).mono ?_
    rintro e w2 ⟨rfl, hb⟩
    have HB2 := Lib.hid (HB1.out.trans (hb.mono HB1.out.size))
    clear hb HIM
    go_wp2_with fail
    refine (HPIC.out _ HB2.out).mono ?_
    rintro e w3 ⟨vp, rfl, hb, hvp⟩
    have HB3 := Lib.hid (HB2.out.trans (hb.mono HB2.out.size))
    have HVP := Lib.hid hvp
    clear hb hvp
    go_wp2_with fail
    refine (HCX.out _ HB3.out vp HVP.out).mono ?_
    rintro e w4 ⟨u, rfl, hb, hu⟩
    have HB4 := Lib.hid (HB3.out.trans (hb.mono HB3.out.size))
    obtain ⟨pu, cu, hue, -⟩ := id hu
    have HU := Lib.hid (fun wx (hx : Below w4.heap.size w4 wx) => hu.below hx (Nat.le_refl _))
    obtain ⟨nu, hnu⟩ : ∃ n, X.length = n := ⟨_, rfl⟩
    rw [hnu] at hue
    subst hue
    obtain ⟨ev, hev⟩ : ∃ v, errOf a x = v := ⟨_, rfl⟩
    have HCX2 := Lib.hid (fun wx hx => HCD.out x HRX.out wx hx)
    rw [hev] at HCX2
    rw [hev]
    have HNU : Hid (X.length = nu) := hnu
    obtain ⟨w4b, hwb⟩ : ∃ x, w4.alloc (.cells #[.slice pu nu cu] 32) = x := ⟨_, rfl⟩
    have HBX := Lib.hid (lit_below w4 (.cells #[.slice pu nu cu] 32))
    have HKX := Lib.hid (heap_alloc_new w4 (.cells #[.slice pu nu cu] 32))
    rw [hwb] at HBX HKX
    have HWB := Lib.hid hwb
    have HB4b := Lib.hid (HB4.out.trans (HBX.out.mono HB4.out.size))
    clear hb hu HVP hnu HCX hev hwb
    by_cases hc : c = 0
    · have KHSE := Lib.hid (HSE.out hc)
      have KHMA := Lib.hid (HMA.out hc)
      have KHMC := Lib.hid (fun B wx u => HMC.out B wx u hc)
      have KHCB := Lib.hid (HCB.out hc)
      have KHSM := Lib.hid (HSM.out hc)
      have KHE0 := Lib.hid (HE0.out hc)
      have KHD0 := Lib.hid (HD0.out hc)
      have KHD1 := Lib.hid (HD1.out hc)
      clear HSE HMA HMC HCB HSM HE0 HD0 HD1 HE1
      subst hc
      go_wp2_with fail
      rw [HWB.out]
      refine (KHSE.out _ HB4b.out).mono ?_
      rintro e w5 ⟨vt, rfl, hb, ht⟩
      have HB5 := Lib.hid (HB4b.out.trans (hb.mono HB4b.out.size))
      have H45 := Lib.hid hb
      have HT5 := Lib.hid ht.lists
      clear hb ht
      go_wp2_with fail
      refine (KHMA.out _ HB5.out w4b.heap.size vt H45.out.size HT5.out).mono ?_
      rintro e w6 ⟨vw, rfl, hb, hy1, hy2⟩
      have HB6 := Lib.hid (HB5.out.trans (hb.mono HB5.out.size))
      have hvw := KHMC.out w4b.heap.size w6 vw hy1 hy2
      have hxe := KHE0.out
      rw [← hxe]
      have hb6 := H45.out.trans (hb.mono H45.out.size)
      have hux := HU.out _ (HBX.out.trans (hb6.mono HBX.out.size))
      have hcx : w6.cell? ⟨w4.heap.size, 0, none⟩ = some (.slice pu nu cu) := (blk_at ((hb6.block _ (Array.getElem?_eq_some_iff.1 HKX.out).1).trans HKX.out) 0).1
      clear hb hb6 hy1 hy2 HT5 H45 hxe KHMA KHMC KHSE HU KHE0 HBX HKX HWB
      obtain ⟨pw, cw, hwe, -⟩ := id hvw
      obtain ⟨nw, hnw⟩ : ∃ n, X.length = n := ⟨_, rfl⟩
      rw [hnw] at hwe
      subst hwe
      have HSL := Lib.hid (sameLists_any true _ _ X X (.slice pu nu cu) (.slice pw nw cw) w6 (by simp) hux hvw HLB.out.1 HLB.out.1 HLB.out.2 HLB.out.2)
      unfold Drew at HSL
      clear hvw hnw hux HLB
      go_wp2_with fail
      refine HSL.out.mono ?_
      rintro e w7 ⟨rfl, n1, rfl⟩
      obtain ⟨w7, hw⟩ : ∃ wx, w6.drewN n1 = wx := ⟨_, rfl⟩
      have HB7 := Lib.hid (HB6.out.trans ((Below.drewN w6 n1).mono HB6.out.size))
      rw [hw] at HB7 ⊢
      clear hw HSL
      go_wp2_with fail
      refine (HCX2.out _ HB7.out).mono ?_
      rintro e w8 ⟨rfl, hb⟩
      have HB8 := Lib.hid (HB7.out.trans (hb.mono HB7.out.size))
      clear hb HCX2
      by_cases hd0 : dim < 0
      · have q1 : decide (dim < 0) = true := decide_eq_true hd0
        obtain rfl := KHD1.out (by omega)
        clear hd0
        go_wp2_with fail
        refine (HPIC.out _ HB8.out).mono ?_
        rintro e w9 ⟨vp, rfl, hb, hvp⟩
        have HB9 := Lib.hid (HB8.out.trans (hb.mono HB8.out.size))
        have HVP := Lib.hid hvp
        clear hb hvp
        go_wp2_with fail
        refine (HBB.out (by decide) _ HB9.out vp HVP.out).mono ?_
        rintro e w10 ⟨rfl, hb⟩
        have HB10 := Lib.hid (HB9.out.trans (hb.mono HB9.out.size))
        clear hb HVP
        have HCY := Lib.hid (fun wx hx => HCD.out 2 (by decide) wx hx)
        obtain ⟨ey, hey⟩ : ∃ v, errOf a 2 = v := ⟨_, rfl⟩
        rw [hey] at HCY
        try rw [hey]
        clear hey
        obtain ⟨w10b, hwb⟩ : ∃ x, w10.alloc (.cells #[.int .i64 0, .int .i64 0, .slice none 0 0] 58) = x := ⟨_, rfl⟩
        have HBY := Lib.hid (lit_below w10 (.cells #[.int .i64 0, .int .i64 0, .slice none 0 0] 58))
        have hky := heap_alloc_new w10 (.cells #[.int .i64 0, .int .i64 0, .slice none 0 0] 58)
        rw [hwb] at HBY hky
        have HB10b := Lib.hid (HB10.out.trans (HBY.out.mono HB10.out.size))
        have HWC := Lib.hid hwb
        clear hwb
        go_wp2_with fail
        rw [HWC.out]
        refine (HCY.out _ HB10b.out).mono ?_
        rintro e w11 ⟨rfl, hb⟩
        have HB11 := Lib.hid (HB10b.out.trans (hb.mono HB10b.out.size))
        have hky2 := (hb.block _ (Array.getElem?_eq_some_iff.1 hky).1).trans hky
        have cy0 := (blk_at hky2 0).1
        have cy1 := (blk_at hky2 1).1
        have cy2 := (blk_at hky2 2).1
        clear hb hky hky2
        go_wp2_with fail
        go_ret
        exact ⟨rfl, HB11.out⟩
      by_cases hd1 : 3 < dim
      · have q1 : decide (3 < dim) = true := decide_eq_true hd1
        have q0 : decide (dim < 0) = false := decide_eq_false hd0
        obtain rfl := KHD1.out (by omega)
        clear hd0 hd1
        go_wp2_with fail
        refine (HPIC.out _ HB8.out).mono ?_
        rintro e w9 ⟨vp, rfl, hb, hvp⟩
        have HB9 := Lib.hid (HB8.out.trans (hb.mono HB8.out.size))
        have HVP := Lib.hid hvp
        clear hb hvp
        go_wp2_with fail
        refine (HBB.out (by decide) _ HB9.out vp HVP.out).mono ?_
        rintro e w10 ⟨rfl, hb⟩
        have HB10 := Lib.hid (HB9.out.trans (hb.mono HB9.out.size))
        clear hb HVP
        have HCY := Lib.hid (fun wx hx => HCD.out 2 (by decide) wx hx)
        obtain ⟨ey, hey⟩ : ∃ v, errOf a 2 = v := ⟨_, rfl⟩
        rw [hey] at HCY
        try rw [hey]
        clear hey
        obtain ⟨w10b, hwb⟩ : ∃ x, w10.alloc (.cells #[.int .i64 0, .int .i64 0, .slice none 0 0] 58) = x := ⟨_, rfl⟩
        have HBY := Lib.hid (lit_below w10 (.cells #[.int .i64 0, .int .i64 0, .slice none 0 0] 58))
        have hky := heap_alloc_new w10 (.cells #[.int .i64 0, .int .i64 0, .slice none 0 0] 58)
        rw [hwb] at HBY hky
        have HB10b := Lib.hid (HB10.out.trans (HBY.out.mono HB10.out.size))
        have HWC := Lib.hid hwb
        clear hwb
        go_wp2_with fail
        rw [HWC.out]
        refine (HCY.out _ HB10b.out).mono ?_
        rintro e w11 ⟨rfl, hb⟩
        have HB11 := Lib.hid (HB10b.out.trans (hb.mono HB10b.out.size))
        have hky2 := (hb.block _ (Array.getElem?_eq_some_iff.1 hky).1).trans hky
        have cy0 := (blk_at hky2 0).1
        have cy1 := (blk_at hky2 1).1
        have cy2 := (blk_at hky2 2).1
        clear hb hky hky2
        go_wp2_with fail
        go_ret
        exact ⟨rfl, HB11.out⟩
      have q0 : decide (dim < 0) = false := decide_eq_false hd0
      have q1 : decide (3 < dim) = false := decide_eq_false hd1
      have hdd : 0 ≤ dim ∧ dim ≤ 3 := by omega
      obtain rfl := KHD0.out hdd
      have HCL := Lib.hid (KHCB.out hdd)
      have HSZ := Lib.hid (KHSM.out hdd)
      obtain ⟨R, hR⟩ : ∃ r, (rowsI ms dim).length = r := ⟨_, rfl⟩
      obtain ⟨C, hC⟩ : ∃ r, (colsI ms dim).length = r := ⟨_, rfl⟩
      obtain ⟨M, hM⟩ : ∃ r, matI (rowsI ms dim) (colsI ms dim) dim = r := ⟨_, rfl⟩
      simp only [hR, hC, hM] at HBO HCL
      rw [hM] at HSZ
      obtain ⟨s, hs⟩ : ∃ r, M.length = r := ⟨_, rfl⟩
      have HSS := Lib.hid hs
      simp only [hs] at HBO HCL
      clear hd0 hd1 hdd hR hC hM hs HBB KHD0 KHD1 KHCB KHSM
      go_wp2_with fail
      refine (HPIC.out _ HB8.out).mono ?_
      rintro e w9 ⟨vp, rfl, hb, hvp⟩
      have HB9 := Lib.hid (HB8.out.trans (hb.mono HB8.out.size))
      have HVP := Lib.hid hvp
      clear hb hvp
      go_wp2_with fail
      refine (HBO.out (by trivial) _ HB9.out vp HVP.out).mono ?_
      rintro e w10 ⟨pb, cb, rfl, hb, hin⟩
      have HB10 := Lib.hid (HB9.out.trans (hb.mono HB9.out.size))
      have HIN := Lib.hid (fun wx (hx : Below w10.heap.size w10 wx) => hin.below hx (Nat.le_refl _))
      clear hb hin HVP HBO HPIC
      go_wp2_with fail
      obtain ⟨w10b, hwb⟩ : ∃ x, w10.alloc (.cells #[.int .i64 R, .int .i64 C, .slice pb s cb] 58) = x := ⟨_, rfl⟩
      have hbl := lit_below w10 (.cells #[.int .i64 R, .int .i64 C, .slice pb s cb] 58)
      rw [hwb] at hbl ⊢
      have HB10b := Lib.hid (HB10.out.trans (hbl.mono HB10.out.size))
      refine (ref_any (R : Int) (C : Int) pb s cb w10b).mono ?_
      rintro e w11 ⟨rfl, hb⟩
      have HB11 := Lib.hid (HB10b.out.trans (hb.mono HB10b.out.size))
      have HX1 := Lib.hid (hbl.trans (hb.mono hbl.size))
      clear hb hbl hwb
      go_wp2_with fail
      refine (HCL.out _ HB11.out).mono ?_
      rintro e w12 ⟨pd, cd, rfl, hb, hid⟩
      have HB12 := Lib.hid (HB11.out.trans (hb.mono HB11.out.size))
      have hi1 := HIN.out _ (HX1.out.trans (hb.mono HX1.out.size))
      have HSA2 := Lib.hid (sameMatrix_any _ _ R C M (.agg #[.int .i64 R, .int .i64 C, .slice pb s cb]) (.agg #[.int .i64 R, .int .i64 C, .slice pd s cd]) w12 ⟨pb, cb, by rw [HSS.out], by rw [HSS.out]; exact hi1⟩ ⟨pd, cd, by rw [HSS.out], by rw [HSS.out]; exact hid⟩ HSZ.out)
      clear hb hi1 hid HIN HX1 HCL
      unfold Gives at HSA2
      go_wp2_with fail
      refine HSA2.out.mono ?_
      rintro e w13 ⟨rfl, hb⟩
      have HB13 := Lib.hid (HB12.out.trans (hb.mono HB12.out.size))
      clear hb
      go_wp2_with fail
      go_ret
      exact ⟨rfl, HB13.out⟩
    · obtain ⟨h1, h2, h3⟩ := HE1.out hc
      obtain rfl : c = x := h1.symm
      obtain rfl : c = y := h3.symm
      subst h2
      have qc : decide (0 < c) = true := decide_eq_true (by have := HRG.out; omega)
      have qz : (c == 0) = false := by simp [hc]
      have hnu2 : nu = 0 := HNU.out.symm
      subst hnu2
      have HSL := Lib.hid (sameLists_any true _ 0 [] [] (.slice pu 0 cu) (.slice none 0 0) w4b (by simp) (HU.out w4b HBX.out) (ListsIn.nil _ _) (by simp) (by simp) (by simp) (by simp))
      unfold Drew at HSL
      clear HU HLB HE0 HMA HMC HSE HCB HSM HD0 HD1 HBO HE1
      go_wp2_with fail
      rw [HWB.out]
      refine HSL.out.mono ?_
      rintro e w5 ⟨rfl, n1, rfl⟩
      obtain ⟨w5, hw⟩ : ∃ wx, w4b.drewN n1 = wx := ⟨_, rfl⟩
      have HB5 := Lib.hid (HB4b.out.trans ((Below.drewN w4b n1).mono HB4b.out.size))
      rw [hw] at HB5 ⊢
      clear hw HSL
      go_wp2_with fail
      refine (HCX2.out _ HB5.out).mono ?_
      rintro e w6 ⟨rfl, hb⟩
      have HB6 := Lib.hid (HB5.out.trans (hb.mono HB5.out.size))
      clear hb HCX2
      go_wp2_with fail
      refine (HPIC.out _ HB6.out).mono ?_
      rintro e w7 ⟨vp, rfl, hb, hvp⟩
      have HB7 := Lib.hid (HB6.out.trans (hb.mono HB6.out.size))
      have HVP := Lib.hid hvp
      clear hb hvp
      go_wp2_with fail
      refine (HBB.out (hc) _ HB7.out vp HVP.out).mono ?_
      rintro e w8 ⟨rfl, hb⟩
      have HB8 := Lib.hid (HB7.out.trans (hb.mono HB7.out.size))
      clear hb HVP
      have HCY := Lib.hid (fun wx hx => HCD.out c HRG.out wx hx)
      obtain ⟨ey, hey⟩ : ∃ v, errOf a c = v := ⟨_, rfl⟩
      rw [hey] at HCY
      try rw [hey]
      clear hey
      obtain ⟨w8b, hwb⟩ : ∃ x, w8.alloc (.cells #[.int .i64 0, .int .i64 0, .slice none 0 0] 58) = x := ⟨_, rfl⟩
      have HBY := Lib.hid (lit_below w8 (.cells #[.int .i64 0, .int .i64 0, .slice none 0 0] 58))
      have hky := heap_alloc_new w8 (.cells #[.int .i64 0, .int .i64 0, .slice none 0 0] 58)
      rw [hwb] at HBY hky
      have HB8b := Lib.hid (HB8.out.trans (HBY.out.mono HB8.out.size))
      have HWC := Lib.hid hwb
      clear hwb
      go_wp2_with fail
      rw [HWC.out]
      refine (HCY.out _ HB8b.out).mono ?_
      rintro e w9 ⟨rfl, hb⟩
      have HB9 := Lib.hid (HB8b.out.trans (hb.mono HB8b.out.size))
      have hky2 := (hb.block _ (Array.getElem?_eq_some_iff.1 hky).1).trans hky
      have cy0 := (blk_at hky2 0).1
      have cy1 := (blk_at hky2 1).1
      have cy2 := (blk_at hky2 2).1
      clear hb hky hky2
      go_wp2_with fail
      go_ret
      exact ⟨rfl, HB9.out⟩
end Go.Proofs.YtoheffkiohfmoaaGreatDoor
