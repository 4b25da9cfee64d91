/-
  Cosets in memory: open by a contract.
-/
import Derived.Test.YtedehmknijlgpaaDoorOpnA
import Derived.Deep.AppendLies
import Derived.Test.YtedehmknijlgpaaDoorRepG
set_option linter.unusedSimpArgs false
set_option linter.unusedVariables false
namespace Go.Proofs.YtedehmknijlgpaaDoor
open Go Go.RowKit Go.Maps

def OpenP (O cb : Nat) (mk : TC.St × Nat) (w : World) (e : Ending) (w' : World) : Prop := e = .returned (.int .i64 (mk.2 : Int)) ∧ Fr O cb w w' ∧ ∃ vR vS hs, CosH O cb w' mk.1 vR vS hs
set_option maxRecDepth 100000 in
set_option maxHeartbeats 16000000 in
theorem open_any (O cb W : Nat) (m : TC.St) (vR vS : Value) (hs : List Value) (w : World) (h : CosH O cb w m vR vS hs) (hlen : m.S.length = m.R.length) (hmost : m.R.length ≤ 5000) (hW : W ≤ 24) (hOs : O ≤ w.heap.size) :
    Calls Tryd.prog 27 #[.pointer (some ⟨cb, 0, none⟩), .int .i64 (W : Int)] w (OpenP O cb (TC.openM W m) w) := by
  obtain ⟨i3, hi3, hy0, hy1, hy2⟩ := info_parts Tryd.info3
  obtain ⟨i39, hi39, hz0, hz1, hz2⟩ := info_parts Tryd.info27
  obtain ⟨pR, cR, hvR⟩ := h.rows.sliceOf
  obtain ⟨n, hn⟩ : ∃ n, m.R.length = n := ⟨_, rfl⟩
  rw [hn] at hvR hmost hlen
  subst hvR
  obtain ⟨c0, c1, c2, f0, f1, f2⟩ := three_at h.blk
  have hcb := (Array.getElem?_eq_some_iff.1 h.blk).1
  unfold OpenP
  by_cases hf : n = 5000
  · subst hf
    obtain ⟨hC, hF⟩ := h.setF true
    have HE : Hid (TC.openM W m = (⟨m.R, m.S, true⟩, 0)) := by unfold Hid TC.openM; rw [if_pos hn]
    have HC := Lib.hid hC
    have HF := Lib.hid hF
    clear h hlen hOs hn hmost hC hF
    go_enter Tryd.func27, Tryd.ntmps27
    go_wp2_with fail
    go_ret
    rw [HE.out]
    exact ⟨rfl, HF.out, _, _, _, HC.out⟩
  · have q1 : ((n : Int) == 5000) = false := beq_eq_false_iff_ne.2 (by omega)
    have HE : Hid (TC.openM W m = (⟨m.R ++ [List.replicate W (-1)], m.S ++ [n], m.full⟩, n)) := by unfold Hid TC.openM; rw [hn, if_neg hf]
    have hb1 : Below w.heap.size w (w.drew.alloc (.cells #[.int .i64 (-1)] 3)) := (Below.refl _ _).drew.alloc (Nat.le_refl _) _
    have hsz1 : w.heap.size < (w.drew.alloc (.cells #[.int .i64 (-1)] 3)).heap.size := by
      have e : (w.drew.alloc (.cells #[.int .i64 (-1)] 3)).heap.size = w.drew.heap.size + 1 := by simp
      rw [e]; exact Nat.lt_succ_self _
    have hce1 : (w.drew.alloc (.cells #[.int .i64 (-1)] 3)).cell? ⟨w.heap.size, 0, none⟩ = some (.int .i64 (-1)) := by
      have e := heap_alloc_new w.drew (.cells #[.int .i64 (-1)] 3)
      rw [show w.drew.heap.size = w.heap.size from rfl] at e
      simp only [World.cell?, e]; rfl
    have a0 : (w.alloc (.cells #[.int .i64 (-1)] 3)).cell? ⟨cb, 0, none⟩ = some (.slice pR n cR) := (((Below.refl w.heap.size w).alloc (Nat.le_refl _) (.cells #[.int .i64 (-1)] 3)).cell (p := ⟨cb, 0, none⟩) hcb).trans c0
    have HRP := Lib.hid (rep_any W hW (w.drew.alloc (.cells #[.int .i64 (-1)] 3)) ⟨w.heap.size, 0, none⟩ 1 hce1 hsz1)
    unfold RepP at HRP
    have HSZ := Lib.hid hsz1
    have HB1 := Lib.hid hb1
    have H := Lib.hid h
    have HN := Lib.hid hn
    have HO := Lib.hid hOs
    have HL := Lib.hid hlen
    have HCB := Lib.hid hcb
    clear h hlen hOs hn hf hb1 hcb hsz1 hce1
    go_enter Tryd.func27, Tryd.ntmps27
    go_upto_region 4 with fail
    clear q1
    go_cut [] (fun wx => ∃ vR' hs', CosH O cb wx ⟨m.R ++ [List.replicate W (-1)], m.S, m.full⟩ vR' vS hs' ∧ Fr O cb w wx)
    case first =>
      go_region_law (first
        | (go_simp
           go_at_call 39
           refine HRP.out.mono ?_
           rintro e w2 ⟨g, hg, rfl, hgc, hb2⟩
           have hb3 := HB1.out.trans (hb2.mono (Nat.le_of_lt HSZ.out))
           have hC2 := H.out.below hb3 (Nat.le_refl _)
           have d0 := (three_at hC2.blk).1
           have d1 : (w2.alloc (.cells #[.slice (some ⟨g, 0, none⟩) W W] 27)).cell? ⟨cb, 0, none⟩ = some (.slice pR n cR) := (((Below.refl w2.heap.size w2).alloc (Nat.le_refl _) (.cells #[.slice (some ⟨g, 0, none⟩) W W] 27)).cell (p := ⟨cb, 0, none⟩) (Array.getElem?_eq_some_iff.1 hC2.blk).1).trans d0
           have HC2 := Lib.hid hC2
           have HF2 := Lib.hid (Fr.of_below (cb := cb) (hb3.mono HO.out))
           have HOg : Hid (w.heap.size ≤ g) := by unfold Hid; have := HSZ.out; omega
           have HOw : Hid (w.heap.size ≤ w2.heap.size) := hb3.size
           have HI2 := Lib.hid (intO_negs (O := O) (by have := HO.out; have := HOg.out; omega) (by omega) hgc)
           have hown := H.out.rows.1
           rw [HN.out] at hown
           have HOWN := Lib.hid ((hC2.rows.1 : w2.ownsRow O 27 1 _ _ _))
           clear hC2 hgc hown)
        | (refine step_append_lies _ (by rfl) (.tmp 18) (.tmp 22) 22 (by rfl) O 27 i39 (.slice none 0 0) 1 24 Tryd.underlying22 hi39 hz0 hz1 hz2 rfl (by decide) _ n hs (by rfl) (by have h1 := HOWN.out; rw [HN.out] at h1; exact h1.alloc _) ⟨w2.heap.size, 0, none⟩ 1 1 [.slice (some ⟨g, 0, none⟩) W W] (by rfl) (by rfl) (World.news_of_block (cs := #[.slice (some ⟨g, 0, none⟩) W W]) (t := 27) (fr := (0, 0)) (heap_alloc_new w2 _)) (by simp [Value.oneCell']) (by decide) (by unfold maxLen; omega) (by omega) (by have := HO.out; have := HOw.out; simp; omega) (w2.heap.size + 1) (by simp) ?_
           intro g2 cc2 w9 hown2 hgr2 hat2 hlt2
           obtain ⟨e0, e1, hC9, hF9⟩ := (HC2.out.below ((Below.refl w2.heap.size w2).alloc (Nat.le_refl _) (.cells #[.slice (some ⟨g, 0, none⟩) W W] 27)) (Nat.le_refl _)).pushR (HI2.out.below ((Below.refl w2.heap.size w2).alloc (Nat.le_refl _) _) (Nat.le_refl _))
              (fun i hi k hk e => by
                have h1 := ((H.out.rows.2.2.1 i hi).lt _ hk).2
                have h2 := HOg.out
                obtain rfl := Option.some.inj e
                exact absurd (show g < w.heap.size from h1) (by omega))
              (fun k hk e => by
                have h1 := (H.out.same.lt _ e).2
                have h2 := HOg.out
                obtain rfl := Option.some.inj hk
                exact absurd (show g < w.heap.size from h1) (by omega)) (by rw [HN.out]; exact hown2) hgr2 (by have := HO.out; have := HOw.out; simp; omega)
           have HC9 := Lib.hid hC9
           have HF9 := Lib.hid (HF2.out.trans (((Fr.refl O cb w2).alloc (Nat.le_trans HO.out HOw.out) _).trans hF9))
           clear hown2 hgr2 hat2 hlt2 hC9 hF9))
      all_goals
        go_wp2
        go_meet
        exact ⟨_, _, HC9.out, HF9.out⟩
    case rest =>
      obtain ⟨vR2, hs2, hC, hF⟩ := hcut
      clear c0 c1 c2 f0 f1 f2 a0 HRP HSZ HB1
      obtain ⟨p2, d2, hv2⟩ := hC.rows.sliceOf
      rw [List.length_append, List.length_singleton, HN.out] at hv2
      subst hv2
      obtain ⟨c0, c1, c2, f0, f1, f2⟩ := three_at hC.blk
      have hcb2 := (Array.getElem?_eq_some_iff.1 hC.blk).1
      have hOc : O ≤ wc.heap.size := Nat.le_trans HO.out hF.size
      have hba : Below wc.heap.size wc (wc.alloc (.cells #[.int .i64 (n : Int)] 3)) := (Below.refl _ _).alloc (Nat.le_refl _) _
      have a0 : (wc.alloc (.cells #[.int .i64 (n : Int)] 3)).cell? ⟨cb, 0, none⟩ = some (.slice p2 (n + 1) d2) := (hba.cell (p := ⟨cb, 0, none⟩) hcb2).trans c0
      have a1 : (wc.alloc (.cells #[.int .i64 (n : Int)] 3)).cell? ⟨cb, 1, none⟩ = some vS := (hba.cell (p := ⟨cb, 1, none⟩) hcb2).trans c1
      have HC := Lib.hid (hC.below hba (Nat.le_refl _))
      have HF := Lib.hid (hF.alloc hOc (.cells #[.int .i64 (n : Int)] 3))
      have hown := hC.same
      unfold IntO at hown
      rw [natI_len, HL.out] at hown
      have HOWN := Lib.hid hown
      have HOC := Lib.hid hOc
      clear hC hF hcb2 hOc hba hown
      have hwr : IntKind.i64.wrap (n : Int) = (n : Int) := IntWalk.i64_in _ (by omega)
      go_upto_region 5 with fail
      go_cut [] (fun wx => ∃ vS', CosH O cb wx ⟨m.R ++ [List.replicate W (-1)], m.S ++ [n], m.full⟩ (.slice p2 (n + 1) d2) vS' hs2 ∧ Fr O cb w wx)
      case first =>
        go_region_law (refine step_append_lies _ (by rfl) (.tmp 30) (.tmp 37) 27 (by rfl) O 3 i3 (.int .i64 0) 1 8 Tryd.underlying27 hi3 hy0 hy1 hy2 rfl (by decide) _ n (intVs (natI m.S)) (by rfl) (HOWN.out.alloc _) ⟨wc.heap.size, 0, none⟩ 1 1 [.int .i64 (n : Int)] (by rfl) (by rfl) (World.news_of_block (cs := #[.int .i64 (n : Int)]) (t := 3) (fr := (0, 0)) (heap_alloc_new wc _)) (by simp [Value.oneCell']) (by decide) (by unfold maxLen; omega) (by omega) (by have := HOC.out; simp; omega) (wc.heap.size + 1) (by simp) ?_
                       intro g2 cc2 w9 hown2 hgr2 hat2 hlt2
                       obtain ⟨e0, e1, hC9, hF9⟩ := HC.out.drew.pushS (x := n) hown2 (by rw [HL.out]) hgr2 (hat2.imp_right (fun e => by rw [e]; simp)) (by have := HOC.out; simp; omega)
                       have HC9 := Lib.hid hC9
                       have HF9 := Lib.hid (HF.out.drew.trans hF9)
                       clear hown2 hgr2 hat2 hlt2 hC9 hF9)
        all_goals
          go_wp2
          go_meet
          exact ⟨_, HC9.out, HF9.out⟩
      case rest =>
      obtain ⟨vS3, hC3, hF3⟩ := hcut
      obtain ⟨c0, c1, c2, f0, f1, f2⟩ := three_at hC3.blk
      have HC3 := Lib.hid hC3
      have HF3 := Lib.hid hF3
      clear hC3 hF3 a0 a1 HC HF HOWN HOC c1 c2 f0 f1 f2
      go_wp2_with fail
      go_ret
      rw [HE.out]
      refine ⟨?_, HF3.out, _, _, _, HC3.out⟩
      first | rfl | (congr 2; omega)
end Go.Proofs.YtedehmknijlgpaaDoor
