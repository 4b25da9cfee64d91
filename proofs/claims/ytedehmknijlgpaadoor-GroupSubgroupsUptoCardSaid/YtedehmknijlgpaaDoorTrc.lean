/-
  Cosets in memory: trace by a contract.
-/
import Derived.Test.YtedehmknijlgpaaDoorNxt
set_option linter.unusedSimpArgs false
set_option linter.unusedVariables false
namespace Go.Proofs.YtedehmknijlgpaaDoor
open Go Go.RowKit Go.Maps

theorem TC.one_trace {W : Nat} (hW2 : W % 2 = 0) {m : TC.St} (h : TC.MOk W m) {a : Nat} (ha : a < m.R.length) {w : List Nat} (hw : ∀ k ∈ w, k < W) (h1 : 0 < W ∨ m.R.length = 1) : 0 < W ∨ (TC.traceM W m a w).R.length = 1 := by
  rcases h1 with h1 | h1
  · exact .inl h1
  by_cases hp : 0 < W
  · exact .inl hp
  right
  obtain rfl : W = 0 := by omega
  cases w with
  | cons k w => exact absurd (hw k List.mem_cons_self) (by omega)
  | nil =>
    have hy := h.rep_lt ha
    have hJ : TC.JInv m.R m.S a (TC.rep m.S a) 0 m.R m.S [(a, TC.rep m.S a)] := ⟨TC.inv_start h.good.wf h.good.comp, h.wide, h.len, fun p hp => by rw [List.mem_singleton.1 hp]; exact ⟨ha, hy⟩⟩
    have h2 := (TC.joinF_ok h.good hW2 h.wide _ hJ (Nat.le_refl _)).2
    show (TC.joinM 0 m.R m.S [(a, TC.rep m.S a)]).1.length = 1
    exact h2.trans h1

/-- a slice of ints that was there before the cosets -/
def WordAt (cb : Nat) (w : World) (v : Value) (xs : List Int) : Prop := ∃ w0, w0.heap.size ≤ cb ∧ IntsAt w0 v xs ∧ Below cb w0 w
theorem WordAt.at {cb : Nat} {w : World} {v : Value} {xs : List Int} (h : WordAt cb w v xs) : IntsAt w v xs := by
  obtain ⟨w0, h1, h2, h3⟩ := h
  exact (h2.in.below h3 h1).at
theorem Fr.under {O cb : Nat} {w w' : World} (h : Fr O cb w w') (hl : cb < O) : Below cb w w' := ⟨h.os, h.tape, h.output, h.size, fun k hk => h.block k (by omega) (by omega)⟩
theorem WordAt.fr {O cb : Nat} {w w' : World} {v : Value} {xs : List Int} (h : WordAt cb w v xs) (hf : Fr O cb w w') (hl : cb < O) : WordAt cb w' v xs := by
  obtain ⟨w0, h1, h2, h3⟩ := h
  exact ⟨w0, h1, h2, h3.trans (hf.under hl)⟩

def TraceP (O cb : Nat) (mk : TC.St) (w : World) (e : Ending) (w' : World) : Prop := e = .returned (.tuple #[]) ∧ Fr O cb w w' ∧ ∃ vR vS hs, CosH O cb w' mk vR vS hs
def TRel (O cb a W : Nat) (m : TC.St) (cs : List Nat) (n : Nat) (w : World) (y i : Value) (wr : World) : Prop :=
  ∃ (j yN : Nat) (mj : TC.St) (vR vS : Value) (hs : List Value), j ≤ n ∧ i = .int .i64 (j : Int) ∧ y = .int .i64 (yN : Int) ∧ CosH O cb wr mj vR vS hs ∧ Fr O cb w wr ∧ TC.Step W m mj ∧ yN < mj.R.length ∧ TC.rep mj.S yN = yN ∧ (0 < W ∨ mj.R.length = 1) ∧
    TC.traceW W (cs.drop j) mj yN = TC.traceW W cs m (TC.rep m.S a)
set_option maxRecDepth 100000 in
set_option maxHeartbeats 16000000 in
theorem trace_any (O cb a W : Nat) (m : TC.St) (vR vS v : Value) (hs : List Value) (xs : List Int) (w : World) (h : CosH O cb w m vR vS hs) (hm : TC.MOk W m) (hW2 : W % 2 = 0) (hW : W ≤ 24) (hone : 0 < W ∨ m.R.length = 1) (hOs : O ≤ w.heap.size) (ha : a < m.R.length)
    (hx : ∀ x ∈ xs, x ≠ 0 ∧ -1000000 ≤ x ∧ x ≤ 1000000 ∧ colN x < W) (hl : xs.length ≤ 1000000) (hv : WordAt cb w v xs) :
    Calls Tryd.prog 28 #[.pointer (some ⟨cb, 0, none⟩), .int .i64 (a : Int), v] w (TraceP O cb (TC.traceM W m a (xs.map colN)) w) := by
  have HOF := Lib.hid (of_any O cb a m vR vS hs w h hm.good.wf (by rw [hm.len]; exact ha) (by rw [hm.len]; exact hm.most))
  unfold GivesK at HOF
  obtain ⟨p, c, hve, -, -, -⟩ := hv.at
  obtain ⟨n, hn⟩ : ∃ n, xs.length = n := ⟨_, rfl⟩
  rw [hn] at hve hl
  subst hve
  have HV := Lib.hid hv
  have HN := Lib.hid hn
  have HX := Lib.hid hx
  have HM := Lib.hid hm
  have HA := Lib.hid ha
  have HO := Lib.hid hOs
  obtain ⟨cs, hcs⟩ : ∃ cs, xs.map colN = cs := ⟨_, rfl⟩
  have HCS := Lib.hid hcs
  have hcl : cs.length = n := by rw [← hcs, List.length_map, hn]
  have HCL := Lib.hid hcl
  rw [hcs]
  have HLO := Lib.hid h.low
  have hstart : TRel O cb a W m cs n w (.int .i64 ((TC.rep m.S a : Nat) : Int)) (.int .i64 ((0 : Nat) : Int)) w :=
    ⟨0, TC.rep m.S a, m, vR, vS, hs, Nat.zero_le _, rfl, rfl, h, Fr.refl .., TC.Step.refl hm, hm.rep_lt ha, TC.rep_rep hm.good.wf a, hone, rfl⟩
  have HST := Lib.hid hstart
  unfold TraceP
  clear h hm hone hOs ha hx hv hn hcs hcl hstart
  go_enter Tryd.func28, Tryd.ntmps28
  go_wp2_with fail
  refine HOF.out.mono ?_
  rintro e w2 ⟨rfl, rfl⟩
  go_wp2_with fail
  go_loopw [6, 14] (fun y i wr => TRel O cb a W m cs n w2 y i wr) (fun _ i _ => n - (intOf i).toNat)
  case atStart => exact HST.out
  case round =>
    obtain ⟨j, yN, mj, vRj, vSj, hsj, hj, rfl, rfl, hC, hF, hst, hy, hyy, hon, htr⟩ := hrel
    have HC := Lib.hid hC
    have HF := Lib.hid hF
    have HSJ := Lib.hid hst
    have HY := Lib.hid hy
    have HYY := Lib.hid hyy
    have HON := Lib.hid hon
    by_cases hjn : j < n
    · have hjx : j < xs.length := by rw [HN.out]; exact hjn
      have hvj := HV.out.fr hF HLO.out
      obtain ⟨b, off, e1, e2⟩ : ∃ b off, p = some ⟨b, off, none⟩ ∧ wr.cell? ⟨b, off + j, none⟩ = some (.int .i64 (xs.getD j 0)) := by
        obtain ⟨p', c', he, -, -, hc⟩ := hvj.at
        obtain ⟨b, off, e1, e2⟩ := hc j hjx
        cases he
        exact ⟨b, off, e1, e2⟩
      subst e1
      obtain ⟨hx0, hx1, hx2, hx3⟩ := HX.out _ (show xs.getD j 0 ∈ xs by rw [List.getD_eq_getElem?_getD, List.getElem?_eq_getElem hjx]; exact List.getElem_mem _)
      have hdr : cs.drop j = colN (xs.getD j 0) :: cs.drop (j + 1) := by
        rw [List.drop_eq_getElem_cons (by rw [HCL.out]; exact hjn)]
        congr 1
        simp only [← HCS.out, List.getElem_map]
        congr 1
        simp [List.getD_eq_getElem?_getD, hjx]
      rw [hdr] at htr
      obtain ⟨x, hxx⟩ : ∃ x, xs.getD j 0 = x := ⟨_, rfl⟩
      rw [hxx] at e2 hx0 hx1 hx2 hx3 htr
      have HCO := Lib.hid (column_any x wr hx0 ⟨hx1, hx2⟩)
      unfold GivesK at HCO
      obtain ⟨k, hk⟩ : ∃ k, colN x = k := ⟨_, rfl⟩
      rw [hk] at HCO hx3 htr
      have HNX := Lib.hid (next_any O cb yN k W mj vRj vSj hsj wr hC hst.ok hW2 hW (Nat.le_trans HO.out hF.size) hy hx3)
      unfold OpenP at HNX
      obtain ⟨g1, g2⟩ := TC.next_ok hW2 hst.ok hy hx3
      rw [TC.traceW] at htr
      obtain ⟨o, ho⟩ : ∃ o, TC.nextM W mj yN k = o := ⟨_, rfl⟩
      rw [ho] at htr g1 g2 HNX
      obtain ⟨m2, b2⟩ := o
      simp only at htr g1 g2 HNX
      have HT := Lib.hid htr
      have HG1 := Lib.hid g1
      have HG2 := Lib.hid g2
      have HX3 := Lib.hid hx3
      clear hC hF hst hy hyy hon htr hvj hdr hxx hk ho g1 g2 hx3 hjx
      go_wp2_with fail
      refine HCO.out.mono ?_
      rintro e w3 ⟨rfl, rfl⟩
      go_wp2_with fail
      refine HNX.out.mono ?_
      rintro e w4 ⟨rfl, hF4, vR4, vS4, hs4, hC4⟩
      have c4 := (three_at hC4.blk).2.2.1
      have HF4 := Lib.hid (HF.out.trans hF4)
      have HC4 := Lib.hid hC4
      obtain ⟨fl, hfl⟩ : ∃ fl, m2.full = fl := ⟨_, rfl⟩
      have HFL := Lib.hid hfl
      rw [hfl] at c4
      clear hF4 hC4 hfl e2
      cases fl with
      | true =>
        have HE : Hid (TC.traceM W m a cs = m2) := by
          unfold Hid TC.traceM
          rw [← HT.out, HFL.out, if_pos rfl]
        go_wp2_with fail
        refine bodyPost_ret (results_none rfl _ _ _) rfl ?_
        rw [HE.out]
        exact ⟨rfl, HF4.out, _, _, _, HC4.out⟩
      | false =>
        obtain ⟨q1, q2, -⟩ := HG2.out HFL.out
        have HT2 := HT.out
        rw [HFL.out, if_neg (by decide)] at HT2
        have hR : TRel O cb a W m cs n w2 (.int .i64 (b2 : Int)) (.int .i64 (((j + 1 : Nat)) : Int)) w4 :=
          ⟨j + 1, b2, m2, vR4, vS4, hs4, hjn, rfl, rfl, HC4.out, HF4.out, HSJ.out.trans HG1.out, q1, q2, .inl (Nat.lt_of_le_of_lt (Nat.zero_le _) HX3.out), HT2⟩
        have HR := Lib.hid hR
        clear q1 q2 HT2 hR
        go_wp2_with fail
        go_roundw
        case rel => first | exact HR.out | (have h := HR.out; simpa using h)
        case measure => simp [intOf]; omega
    · obtain rfl : n = j := by omega
      have hdr : cs.drop n = [] := by rw [← HCL.out]; exact List.drop_length
      rw [hdr] at htr
      have HE : Hid (TC.traceM W m a cs = TC.joinS W mj a yN) := by
        unfold Hid TC.traceM
        rw [← htr]
        rfl
      have ha2 : a < mj.R.length := Nat.lt_of_lt_of_le HA.out hst.grow
      have HJ := Lib.hid (join_any O cb a yN W mj vRj vSj hsj wr hC hst.ok hW2 hon hW (Nat.le_trans HO.out hF.size) ha2 hy)
      unfold JoinP at HJ
      clear hC hF hst hy hyy hon htr hdr ha2
      go_wp2_with fail
      refine HJ.out.mono ?_
      rintro e w3 ⟨rfl, hC3, hF3⟩
      have HC3 := Lib.hid hC3
      have HF3 := Lib.hid (HF.out.trans hF3)
      clear hC3 hF3
      go_wp2_with fail
      go_end0
      rw [HE.out]
      exact ⟨rfl, HF3.out, _, _, _, HC3.out⟩
end Go.Proofs.YtedehmknijlgpaaDoor
