/-
  Cosets in memory: next by a contract.
-/
import Derived.Test.YtedehmknijlgpaaDoorCosC
import Derived.Test.YtedehmknijlgpaaDoorOpn
set_option linter.unusedSimpArgs false
set_option linter.unusedVariables false
namespace Go.Proofs.YtedehmknijlgpaaDoor
open Go Go.RowKit Go.Maps

set_option maxRecDepth 100000 in
set_option maxHeartbeats 16000000 in
theorem next_any (O cb a k W : Nat) (m : TC.St) (vR vS : Value) (hs : List Value) (w : World) (h : CosH O cb w m vR vS hs) (hm : TC.MOk W m) (hW2 : W % 2 = 0) (hW : W ≤ 24) (hOs : O ≤ w.heap.size) (ha : a < m.R.length) (hk : k < W) :
    Calls Tryd.prog 30 #[.pointer (some ⟨cb, 0, none⟩), .int .i64 (a : Int), .int .i64 (k : Int)] w (OpenP O cb (TC.nextM W m a k) w) := by
  have h5 := hm.most
  have HOF := Lib.hid (of_any O cb a m vR vS hs w h hm.good.wf (by rw [hm.len]; exact ha) (by rw [hm.len]; exact h5))
  unfold GivesK at HOF
  have hr := hm.rep_lt ha
  obtain ⟨r, hrr⟩ : ∃ r, TC.rep m.S a = r := ⟨_, rfl⟩
  have HNX : Hid (TC.nextM W m a k = if 0 ≤ TC.ent m.R r k then (m, TC.rep m.S (TC.ent m.R r k).toNat) else if (TC.openM W m).1.full = true then TC.openM W m else (TC.leadM (TC.openM W m).1 r k (TC.openM W m).2, (TC.openM W m).2)) := by unfold Hid TC.nextM; rw [hrr]
  rw [hrr] at HOF hr
  obtain ⟨gR, cR, g, c, hR, cX, eX, hOx, rX⟩ := h.row hm.wide (by omega) hr
  have hblk := h.blk
  rw [hR] at hblk
  have c0 := (three_at hblk).1
  have vX := (rX k hk).1
  have hwi := hm.wide
  have H := Lib.hid h
  have HM := Lib.hid hm
  have HO := Lib.hid hOs
  obtain ⟨n, hn⟩ : ∃ n, m.R.length = n := ⟨_, rfl⟩
  rw [hn] at c0 hr h5
  have HN := Lib.hid hn
  obtain ⟨te, hte⟩ : ∃ te, TC.ent m.R r k = te := ⟨_, rfl⟩
  rw [hte] at vX HNX
  unfold OpenP
  by_cases h0 : 0 ≤ te
  · obtain ⟨t, rfl⟩ : ∃ t : Nat, te = (t : Int) := ⟨te.toNat, by omega⟩
    have hti := hwi.inn hte
    have HO2 := Lib.hid (of_any O cb t m vR vS hs w h hm.good.wf (by rw [hm.len]; exact hti.2.2) (by rw [hm.len]; exact hm.most))
    unfold GivesK at HO2
    have HNX2 : Hid (TC.nextM W m a k = (m, TC.rep m.S t)) := by unfold Hid; rw [HNX.out, if_pos h0, Int.toNat_natCast]
    clear h hm hR eX rX hblk hwi hn hte hti hrr hOs ha HNX
    go_enter Tryd.func30, Tryd.ntmps30
    go_wp2_with fail
    refine HOF.out.mono ?_
    rintro e w2 ⟨rfl, rfl⟩
    go_wp2_with fail
    refine HO2.out.mono ?_
    rintro e w3 ⟨rfl, rfl⟩
    go_wp2_with fail
    go_ret
    rw [HNX2.out]
    exact ⟨rfl, Fr.refl .., _, _, _, H.out⟩
  · have HOP := Lib.hid (open_any O cb W m vR vS hs w h hm.len hm.most hW hOs)
    unfold OpenP at HOP
    have HNX2 : Hid (TC.nextM W m a k = if (TC.openM W m).1.full = true then TC.openM W m else (TC.leadM (TC.openM W m).1 r k (TC.openM W m).2, (TC.openM W m).2)) := by unfold Hid; rw [HNX.out, if_neg h0]
    have hOE : (TC.openM W m).1.full = false → (TC.openM W m) = (⟨m.R ++ [List.replicate W (-1)], m.S ++ [m.R.length], m.full⟩, m.R.length) ∧ m.R.length ≠ 5000 := fun e => by
      unfold TC.openM at e ⊢
      by_cases h5 : m.R.length = 5000
      · rw [if_pos h5] at e; cases e
      · rw [if_neg h5]; exact ⟨rfl, h5⟩
    have HOE := Lib.hid hOE
    have hte0 : te < 0 := by omega
    clear h hm hR eX rX hblk hwi hn hte hrr hOs ha h0 HNX hOE
    go_enter Tryd.func30, Tryd.ntmps30
    go_wp2_with fail
    refine HOF.out.mono ?_
    rintro e w2 ⟨rfl, rfl⟩
    go_wp2_with fail
    refine HOP.out.mono ?_
    rintro e w3 ⟨rfl, hF, vR3, vS3, hs3, hC⟩
    obtain ⟨o, ho⟩ : ∃ o, TC.openM W m = o := ⟨_, rfl⟩
    rw [ho] at HNX2 HOE hC ⊢
    obtain ⟨m3, b⟩ := o
    have HO3 := Lib.hid ho
    clear ho c0 cX vX
    simp only at hC HOE HNX2 ⊢
    have c2 := (three_at hC.blk).2.2.1
    have HF := Lib.hid hF
    have HC := Lib.hid hC
    obtain ⟨fl, hfl⟩ : ∃ fl, m3.full = fl := ⟨_, rfl⟩
    rw [hfl] at c2 HOE HNX2
    clear hF hC hfl
    cases fl with
    | true =>
      have HN3 : Hid (TC.nextM W m a k = (m3, b)) := by unfold Hid; rw [HNX2.out, if_pos rfl]
      clear HNX2 HOE
      go_wp2_with fail
      go_ret
      rw [HN3.out]
      exact ⟨rfl, HF.out, _, _, _, HC.out⟩
    | false =>
      obtain ⟨h1, h2⟩ := HOE.out rfl
      obtain ⟨rfl, rfl⟩ := Prod.mk.inj h1
      have hwd := TC.wide_app HM.out.wide
      have HLD := Lib.hid (lead_any O cb r k m.R.length W _ vR3 vS3 hs3 w3 HC.out hwd hW2 (by omega) (Nat.le_trans HO.out HF.out.size) (by simp; rw [HN.out]; omega) (by simp) (by rw [HN.out]; omega) hk (by have := HM.out.most; simp; omega))
      unfold LeadP at HLD
      have HN3 := Lib.hid (HNX2.out.trans (if_neg (by decide)))
      clear h1 h2 hwd HOE HNX2
      go_wp2_with fail
      refine HLD.out.mono ?_
      rintro e w4 ⟨rfl, hC4, hF4, -⟩
      have HC4 := Lib.hid hC4
      have HF4 := Lib.hid (HF.out.trans hF4)
      clear hC4 hF4 c2
      go_wp2_with fail
      go_ret
      rw [HN3.out]
      exact ⟨rfl, HF4.out, _, _, _, HC4.out⟩
end Go.Proofs.YtedehmknijlgpaaDoor
