/-
  Cosets in memory: join by a contract.
-/
import Derived.Test.YtedehmknijlgpaaDoorQue
import Derived.Test.YtedehmknijlgpaaDoorTcE
import Derived.Deep.LoopGhost
import Derived.Deep.DeepCutAuto
set_option linter.unusedSimpArgs false
set_option linter.unusedVariables false
namespace Go.Proofs.YtedehmknijlgpaaDoor
open Go Go.RowKit Go.Maps

theorem Tryd.info91 : (Tryd.prog.info? 91).map (fun i => (i.zero, i.size, i.bytes)) = some (some (.agg #[.int .i64 0, .int .i64 0]), 2, 16) := by kernel_rfl
theorem Tryd.underPairs : Tryd.prog.underlying 92 = some (.slice 91) := by kernel_rfl
theorem put1_wide {W a k u : Nat} {s : TC.RQ} (h : TC.Wide W s.1) (ha : a < s.1.length) (hk : k < W) (ht : u < s.1.length) : TC.Wide W (TC.put1 a k u s).1 ∧ (TC.put1 a k u s).1.length = s.1.length := by
  unfold TC.put1
  split
  · exact ⟨h, rfl⟩
  · exact ⟨TC.setE_wide h ha hk ht, TC.setE_len ..⟩
theorem liveN_le (S : List Nat) : TC.liveN S ≤ S.length := by
  unfold TC.liveN
  have := List.length_filter_le (fun k => decide (S.getD k k = k)) (List.range S.length)
  rwa [List.length_range] at this
theorem Fr.alloc {O cb : Nat} {w w' : World} (h : Fr O cb w w') (hO : O ≤ w'.heap.size) (o : Obj) : Fr O cb w (w'.alloc o) := h.trans (Fr.of_below (((Below.refl w'.heap.size w').alloc (Nat.le_refl _) o).mono hO))
theorem CosH.keep {O cb : Nat} {w w' : World} {m : TC.St} {vR vS : Value} {hs : List Value} (h : CosH O cb w m vR vS hs) (hk : ∀ k, k < w.heap.size → (∀ cur, w.heap[k]? ≠ some (.cells cur 91 (0, 0)) ∨ k < O) → w'.heap[k]? = w.heap[k]?) : CosH O cb w' m vR vS hs := by
  have hcb := (Array.getElem?_eq_some_iff.1 h.blk).1
  have own : ∀ {e : TypeId} {v : Value} {n : Nat} {xs : List Value}, w.ownsRow O e 1 v n xs → e ≠ 91 → w'.ownsRow O e 1 v n xs := fun {e v n xs} ho hne => owns_keep ho fun k hv => by
    refine hk k (ho.lt k hv).2 fun cur => Or.inl fun e2 => ?_
    rcases ho.2 with ⟨rfl, -⟩ | ⟨g, cap, cur', rfl, -, h3, -⟩
    · cases hv
    · obtain rfl := Option.some.inj hv
      rw [e2] at h3
      cases h3
      exact hne rfl
  refine ⟨(hk cb hcb fun cur => Or.inr h.low).trans h.blk, ⟨own h.rows.1 (by decide), h.rows.2.1, fun i hi => own (h.rows.2.2.1 i hi) (by decide), h.rows.2.2.2⟩, own h.same (by decide), h.low, h.apart⟩
theorem QueH.fr {O g k : Nat} {w : World} {v u : Value} {Q : List (Nat × Nat)} (h : QueH O w v Q) (hg : ∀ cur, w.heap[g]? ≠ some (.cells cur 91 (0, 0))) : QueH O (w.setCell ⟨g, k, none⟩ u) v Q := h.keep fun b cur _ hb => by
  by_cases e : b = g
  · subst e; exact absurd hb (hg cur)
  · rw [setCell_off e]; exact hb
/-- what stands for what is stored -/
theorem CosH.setS {O cb : Nat} {w : World} {m : TC.St} {vR : Value} {hs : List Value} {g n c : Nat} (h : CosH O cb w m vR (.slice (some ⟨g, 0, none⟩) n c) hs) (hg : O ≤ g) (hOs : O ≤ w.heap.size) (y x : Nat) :
    CosH O cb (w.setCell ⟨g, y, none⟩ (.int .i64 (x : Int))) ⟨m.R, m.S.set y x, m.full⟩ vR (.slice (some ⟨g, 0, none⟩) n c) hs ∧ Fr O cb w (w.setCell ⟨g, y, none⟩ (.int .i64 (x : Int))) := by
  obtain ⟨h1, h2⟩ := h.same.store y (x : Int)
  have hlow := h.low
  have hcb := (Array.getElem?_eq_some_iff.1 h.blk).1
  rw [natI_set] at h1
  refine ⟨⟨?_, h.rows.far h2 fun k hk => ?_, h1, h.low, h.apart⟩, Fr.of_grown h2 hOs (fun k e => by obtain rfl := Option.some.inj e; exact Or.inl hg)⟩
  · rw [h2.block cb hcb (fun e => by have := Option.some.inj e; omega)]; exact h.blk
  · obtain rfl := Option.some.inj hk
    exact ⟨fun e => owns_apart h.rows.1 h.same (by decide) g e rfl, fun i hi e => h.apart i hi g e rfl⟩

theorem Fr.drewN {O cb : Nat} {w w' : World} (h : Fr O cb w w') (n : Nat) : Fr O cb w (w'.drewN n) := ⟨h.os, h.tape, h.output, h.size, h.block⟩
theorem CosH.drewN {O cb : Nat} {w : World} {m : TC.St} {vR vS : Value} {hs : List Value} (h : CosH O cb w m vR vS hs) (n : Nat) : CosH O cb (w.drewN n) m vR vS hs := ⟨h.blk, h.rows, h.same, h.low, h.apart⟩
theorem QueH.drewN {O : Nat} {w : World} {v : Value} {Q : List (Nat × Nat)} (h : QueH O w v Q) (n : Nat) : QueH O (w.drewN n) v Q := h
theorem IntO.frz {O : Nat} {w : World} {g n c : Nat} {xs : List Int} (h : IntO O w (.slice (some ⟨g, 0, none⟩) n c) xs) : (∀ k, w.frozen? ⟨g, k, none⟩ = false) ∧ (∀ cur, w.heap[g]? ≠ some (.cells cur 91 (0, 0))) ∧ O ≤ g := by
  rcases h.2 with ⟨e, _⟩ | ⟨g', cap', cur, e, hb, hk, _⟩
  · cases e
  · cases e
    exact ⟨fun k => by simp [World.frozen?, hk], fun cur2 e2 => (by rw [e2] at hk; cases hk), hb⟩
theorem CosH.rowAt {O cb gR n cR : Nat} {w : World} {m : TC.St} {vS : Value} {hs : List Value} (h : CosH O cb w m (.slice (some ⟨gR, 0, none⟩) n cR) vS hs) {W : Nat} (hw : TC.Wide W m.R) (hW : 0 < W) {x : Nat} (hx : x < m.R.length) :
    ∃ g c, w.cell? ⟨gR, x, none⟩ = some (.slice (some ⟨g, 0, none⟩) W c) ∧ hs.getD x .nilIface = .slice (some ⟨g, 0, none⟩) W c ∧ O ≤ g ∧ (∀ k, k < W → w.cell? ⟨g, k, none⟩ = some (.int .i64 (TC.ent m.R x k)) ∧ w.frozen? ⟨g, k, none⟩ = false) ∧ (∀ cur, w.heap[g]? ≠ some (.cells cur 91 (0, 0))) := by
  obtain ⟨gR', cR', g, c, h1, h2, h3, h4, h5⟩ := h.row hw hW hx
  have hi := h.rows.2.2.1 x hx
  rw [h3] at hi
  cases h1
  exact ⟨g, c, h2, h3, h4, h5, hi.frz.2.1⟩
def JoinP (O cb : Nat) (m : TC.St) (vR vS : Value) (hs : List Value) (w : World) (e : Ending) (w' : World) : Prop := e = .returned (.tuple #[]) ∧ CosH O cb w' m vR vS hs ∧ Fr O cb w w'
/-- the outer loop -/
def JRel (O cb a b W : Nat) (m : TC.St) (vR vS : Value) (hs : List Value) (w : World) (k : Nat) (q : Value) (wr : World) : Prop :=
  ∃ R S Q, k = TC.need W S Q ∧ k ≤ 300000 ∧ QueH O wr q Q ∧ CosH O cb wr ⟨R, S, m.full⟩ vR vS hs ∧ TC.JInv m.R m.S a b W R S Q ∧ R.length = m.R.length ∧ TC.joinF W k R S Q = TC.joinM W m.R m.S [(a, b)] ∧ Fr O cb w wr
/-- the inner loop -/
def CRel (O cb x y W : Nat) (R : TC.Rows) (S : List Nat) (Q : List (Nat × Nat)) (f : Bool) (vR vS : Value) (hs : List Value) (w : World) (q i : Value) (wr : World) : Prop :=
  ∃ k : Nat, k ≤ W ∧ i = .int .i64 (k : Int) ∧ QueH O wr q (TC.colsM S x y k (R, Q)).2 ∧ CosH O cb wr ⟨(TC.colsM S x y k (R, Q)).1, S, f⟩ vR vS hs ∧ Fr O cb w wr
set_option maxRecDepth 100000 in
set_option maxHeartbeats 16000000 in
theorem join_any (O cb a b W : Nat) (m : TC.St) (vR vS : Value) (hs : List Value) (w : World) (h : CosH O cb w m vR vS hs) (hm : TC.MOk W m) (hW2 : W % 2 = 0) (hW01 : 0 < W ∨ m.R.length = 1) (hW : W ≤ 24) (hOs : O ≤ w.heap.size) (ha : a < m.R.length) (hb : b < m.R.length) :
    Calls Tryd.prog 50 #[.pointer (some ⟨cb, 0, none⟩), .int .i64 (a : Int), .int .i64 (b : Int)] w (JoinP O cb (TC.joinS W m a b) vR vS hs w) := by
  obtain ⟨i2, hi2, hy0, hy1, hy2⟩ := info_parts Tryd.info91
  obtain ⟨gR, cR, hvR, -⟩ := h.rows.form (by omega)
  have HW01 := Lib.hid hW01
  clear hW01
  obtain ⟨gS, cS, hvS, hOgS, -⟩ := h.same.form (by rw [natI_len, hm.len]; exact hm.pos)
  rw [natI_len, hm.len] at hvS
  obtain ⟨n, hn⟩ : ∃ n, m.R.length = n := ⟨_, rfl⟩
  rw [hn] at hvR hvS
  subst hvR
  subst hvS
  have hn5 : n ≤ 5000 := by rw [← hn]; exact hm.most
  have HN := Lib.hid hn
  have H := Lib.hid h
  have HM := Lib.hid hm
  have HO := Lib.hid hOs
  have HA := Lib.hid ha
  have HB := Lib.hid hb
  have hneed : TC.need W m.S [(a, b)] ≤ 300000 := by
    unfold TC.need
    have h1 := liveN_le m.S
    have h2 := hm.len
    have h3 := hm.most
    have h4 : TC.liveN m.S * (2 * W + 1) ≤ 5000 * 49 := Nat.mul_le_mul (by omega) (by omega)
    simp only [List.length_cons, List.length_nil]
    omega
  have HNE := Lib.hid hneed
  unfold JoinP
  clear h hm hOs ha hb hneed hn
  go_enter Tryd.func50, Tryd.ntmps50
  go_wp2_with fail
  go_loopg [6] (TC.need W m.S [(a, b)]) (fun k q wr => JRel O cb a b W m (.slice (some ⟨gR, 0, none⟩) n cR) (.slice (some ⟨gS, 0, none⟩) n cS) hs w k q wr)
  case atStart =>
    have hJ : TC.JInv m.R m.S a b W m.R m.S [(a, b)] := ⟨TC.inv_start HM.out.good.wf HM.out.good.comp, HM.out.wide, HM.out.len, fun p hp => by rw [List.mem_singleton.1 hp]; exact ⟨HA.out, HB.out⟩⟩
    exact ⟨m.R, m.S, [(a, b)], rfl, HNE.out, QueH.one a b HO.out, H.out.below ((Below.refl _ _).alloc (Nat.le_refl _) _) (Nat.le_refl _), hJ, rfl, rfl, (Fr.refl O cb w).alloc HO.out _⟩
  case round =>
    obtain ⟨R, S, Q, hk, hk3, hq, hc, hJ, hl, hF, hfr⟩ := hrel
    cases Q with
    | nil =>
      obtain ⟨ao, cap, hqe, -⟩ := id hq
      simp only [List.length_nil] at hqe
      subst hqe
      have e0 : TC.joinF W gk R S [] = (R, S) := by cases gk <;> rfl
      have HF : Hid (TC.joinS W m a b = ⟨R, S, m.full⟩) := by unfold Hid TC.joinS; rw [← hF, e0]
      have HC := Lib.hid hc
      have HR := Lib.hid hfr
      clear hk hk3 hq hc hJ hl hF hfr e0
      go_wp2_with fail
      go_end0
      exact ⟨rfl, by rw [HF.out]; exact HC.out, HR.out⟩
    | cons pq Q =>
      obtain ⟨p, q⟩ := pq
      obtain ⟨g, off, cap, hve, hc1, hc2, e1, e2⟩ := hq.head
      subst hve
      have htl := Lib.hid hq.tail
      obtain ⟨hp, hqq⟩ := hJ.q (p, q) List.mem_cons_self
      simp only at hp hqq e1 e2
      have HQ0 := Lib.hid hq
      have HC := Lib.hid hc
      have HJ := Lib.hid hJ
      have HL := Lib.hid hl
      have HF := Lib.hid hF
      have HFR := Lib.hid hfr
      have HK := Lib.hid hk
      have h5 : R.length ≤ 5000 := by rw [hl]; exact HM.out.most
      have HP := Lib.hid (fun d => of_any O cb p ⟨R, S, m.full⟩ _ _ hs (wr.drewN d) (hc.drewN d) hJ.inv.wf (by rw [hJ.len]; exact hp) (by rw [hJ.len]; exact h5))
      have HQ := Lib.hid (fun d => of_any O cb q ⟨R, S, m.full⟩ _ _ hs (wr.drewN d) (hc.drewN d) hJ.inv.wf (by rw [hJ.len]; exact hqq) (by rw [hJ.len]; exact h5))
      unfold GivesK at HP HQ
      obtain ⟨ln, hln⟩ : ∃ ln, Q.length = ln := ⟨_, rfl⟩
      rw [hln] at hc1 htl ⊢
      have HLN := Lib.hid hln
      obtain ⟨x, hx⟩ : ∃ x, TC.rep S p = x := ⟨_, rfl⟩
      obtain ⟨y, hy⟩ : ∃ y, TC.rep S q = y := ⟨_, rfl⟩
      rw [hx] at HP
      rw [hy] at HQ
      have HX := Lib.hid hx
      have HY := Lib.hid hy
      have hlnk : ln ≤ 299999 := by
        unfold TC.need at hk
        simp only [List.length_cons] at hk
        omega
      clear hk hq hc hJ hl hF hfr hln hx hy
      go_upto_region 2 with fail
      go_quiet ((first | (go_at_call 29; with_reducible exact Calls.quiet_of_same (HP.out _)) | (go_at_call 29; with_reducible exact Calls.quiet_of_same (HQ.out _))))
      have HC1 := Lib.hid (HC.out.drewN nq)
      have HT1 := Lib.hid (htl.out.drewN nq)
      have HF1 := Lib.hid (HFR.out.drewN nq)
      obtain ⟨w1, hw1⟩ : ∃ w1, wr.drewN nq = w1 := ⟨_, rfl⟩
      rw [hw1] at HC1 HT1 HF1 ⊢
      clear hw1 HP HQ HC htl HFR HQ0 e1 e2
      go_upto_region 3 with fail
      go_cut [6] (fun s6 wx => QueH O wx s6 Q ∧ w1 = wx)
      case first =>
        go_wp2_with fail
        · go_meet
          obtain rfl : ln = 0 := by omega
          obtain rfl : Q = [] := List.length_eq_zero_iff.1 HLN.out
          exact ⟨QueH.empty _, rfl⟩
        · go_meet
          exact ⟨HT1.out, rfl⟩
      case rest =>
      obtain ⟨hq1, rfl⟩ := hcut
      have HQ1 := Lib.hid hq1
      clear hq1 HT1
      by_cases hxy : x = y
      · subst hxy
        have q1 : ((x : Int) == (x : Int)) = true := by simp
        go_wp2_with fail
        go_roundg (TC.need W S Q)
        case measure => rw [HK.out]; unfold TC.need; simp only [List.length_cons]; omega
        case rel =>
          have hJ' := HJ.out.skip HM.out.good hW2 (HX.out.trans HY.out.symm)
          refine ⟨R, S, Q, rfl, ?_, HQ1.out, HC1.out, hJ', HL.out, ?_, HF1.out⟩
          · have h1 := HK.out; unfold TC.need at h1 ⊢; simp only [List.length_cons] at h1; omega
          · rw [← HF.out]
            have e : TC.need W S ((p, q) :: Q) = TC.need W S Q + 1 := by unfold TC.need; simp only [List.length_cons]; omega
            rw [HK.out, e, TC.joinF, if_pos (HX.out.trans HY.out.symm)]
      · have hW0 : 0 < W := HW01.out.resolve_right fun e => by
          have h1 := TC.rep_le HJ.out.inv.wf p
          have h2 := TC.rep_le HJ.out.inv.wf q
          rw [HX.out] at h1
          rw [HY.out] at h2
          have h3 := HL.out
          omega
        have hMG := HJ.out.merge HM.out.good hW2 (by rw [HX.out, HY.out]; exact hxy) HM.out.wide
        have hstep : TC.joinF W gk R S ((p, q) :: Q) = TC.joinF W (gk - 1) (TC.colsM (S.set (max x y) (min x y)) (min x y) (max x y) W (R, Q)).1 (S.set (max x y) (min x y)) (TC.colsM (S.set (max x y) (min x y)) (min x y) (max x y) W (R, Q)).2 := by
          have e : gk = TC.need W S Q + 1 := by rw [HK.out]; unfold TC.need; simp only [List.length_cons]; omega
          rw [e, TC.joinF, HX.out, HY.out, if_neg hxy]
          rfl
        rw [HX.out, HY.out] at hMG
        have m1 : min (x : Int) (y : Int) = ((min x y : Nat) : Int) := by omega
        have m2 : max (x : Int) (y : Int) = ((max x y : Nat) : Int) := by omega
        have q1 : ((x : Int) == (y : Int)) = false := beq_eq_false_iff_ne.2 (by omega)
        obtain ⟨lo, hlo⟩ : ∃ lo, min x y = lo := ⟨_, rfl⟩
        obtain ⟨hi, hhi⟩ : ∃ hi, max x y = hi := ⟨_, rfl⟩
        rw [hlo, hhi] at hMG hstep
        rw [hlo] at m1
        rw [hhi] at m2
        obtain ⟨hlt, hmx, hlox, hhix, hall, hlv, hJ'⟩ := hMG
        have HALL := Lib.hid hall
        have HLV := Lib.hid hlv
        have HJ' := Lib.hid hJ'
        have HST := Lib.hid hstep
        have HLOX := Lib.hid hlox
        have HHIX := Lib.hid hhix
        have HLO := Lib.hid hlo
        have HHI := Lib.hid hhi
        have M1 := Lib.hid m1
        have M2 := Lib.hid m2
        clear hall hlv hJ' hstep hlox hhix hlo hhi m1 m2
        go_upto_region 5 with fail
        clear q1
        go_cut [7, 8] (fun s7 s8 wx => s7 = .int .i64 (lo : Int) ∧ s8 = .int .i64 (hi : Int) ∧ w1 = wx)
        case first =>
          have a1 := HLO.out
          have a2 := HHI.out
          by_cases hc : x < y
          · have b1 : (x : Int) ≤ (y : Int) := by omega
            obtain rfl : lo = x := by omega
            obtain rfl : hi = y := by omega
            clear a1 a2
            go_wp2_with fail
            go_meet
            exact ⟨rfl, rfl, rfl⟩
          · have b1 : (y : Int) < (x : Int) := by omega
            obtain rfl : lo = y := by omega
            obtain rfl : hi = x := by omega
            clear a1 a2
            go_wp2_with fail
            go_meet
            exact ⟨rfl, rfl, rfl⟩
        case rest =>
        obtain ⟨rfl, rfl, rfl⟩ := hcut
        have hOw : O ≤ w1.heap.size := Nat.le_trans HO.out HF1.out.size
        have hRn : R.length = n := HL.out.trans HN.out
        have cS1 := (three_at HC1.out.blk).2.1
        have hmS : hi < n := by omega
        have cSh := HC1.out.same.cellsAt hi (by rw [natI_len, HJ.out.len]; exact hmx)
        have fSh := HC1.out.same.frz.1 hi
        obtain ⟨hC2, hF2⟩ := HC1.out.setS hOgS hOw hi lo
        have hQ2 := HQ1.out.fr (g := gS) (k := hi) (u := .int .i64 (lo : Int)) HC1.out.same.frz.2.1
        obtain ⟨w2, hw2⟩ : ∃ w2, w2 = w1.setCell ⟨gS, hi, none⟩ (.int .i64 (lo : Int)) := ⟨_, rfl⟩
        rw [← hw2] at hC2 hF2 hQ2
        have HC2 := Lib.hid hC2
        have HF2 := Lib.hid (HF1.out.trans hF2)
        have HQ2 := Lib.hid hQ2
        have HW2 := Lib.hid hw2
        have c02 := (three_at hC2.blk).1
        obtain ⟨gy, cy, cY, eY, -, -⟩ := hC2.rowAt (W := W) HJ.out.wide hW0 (x := hi) hmx
        have HEY := Lib.hid eY
        clear hC2 hF2 hQ2 hw2 eY HC1 HF1 HQ1
        go_upto_region 7 with fail
        rw [← HW2.out]
        clear cS1 cSh fSh
        go_wp2_with fail
        go_loopw [6, 59] (fun q i wr2 => CRel O cb lo hi W R (S.set hi lo) Q m.full (.slice (some ⟨gR, 0, none⟩) n cR) (.slice (some ⟨gS, 0, none⟩) n cS) hs w q i wr2) (fun _ i _ => W - (intOf i).toNat)
        case atStart => exact ⟨0, Nat.zero_le _, rfl, HQ2.out, HC2.out, HF2.out⟩
        case round =>
          clear c02 cY HC2 HF2 HQ2 HW2
          obtain ⟨k, hk, rfl, hq3, hc3, hf3⟩ := hrel
          obtain ⟨hI3, hWd3, hQk3, hl3⟩ := HALL.out k hk
          have hS' : (S.set hi lo).length = n := by rw [List.length_set, HJ.out.len]; exact hRn
          have HNX : Hid (TC.colsM (S.set hi lo) lo hi (k + 1) (R, Q) = TC.colM (S.set hi lo) lo hi k (TC.colsM (S.set hi lo) lo hi k (R, Q))) := rfl
          have hQl3 := TC.colsM_len (S.set hi lo) lo hi (R, Q) k
          obtain ⟨s, hs3⟩ : ∃ s, TC.colsM (S.set hi lo) lo hi k (R, Q) = s := ⟨_, rfl⟩
          rw [hs3] at hq3 hc3 hI3 hWd3 hQk3 hl3 HNX hQl3
          simp only at hl3 hQl3
          have HQL := Lib.hid hQl3
          have HS3 := Lib.hid hs3
          have hsn : s.1.length = n := hl3.trans hRn
          clear hs3
          have HQ3 := Lib.hid hq3
          have HC3 := Lib.hid hc3
          have HF3 := Lib.hid hf3
          have HI3 := Lib.hid hI3
          have HWD3 := Lib.hid hWd3
          have HQK3 := Lib.hid hQk3
          have HSN := Lib.hid hsn
          have HSL := Lib.hid hS'
          have c03 := (three_at hc3.blk).1
          by_cases hkW : k < W
          · obtain ⟨gy', cy', cY, eY, hOy, rY, nY⟩ := hc3.rowAt (W := W) hWd3 hW0 (x := hi) (by rw [hsn]; exact hmS)
            rw [HEY.out] at eY
            obtain ⟨rfl, rfl⟩ : gy = gy' ∧ cy = cy' := by cases eY; exact ⟨rfl, rfl⟩
            have vY := (rY k hkW).1
            have hloS : lo < n := by omega
            obtain ⟨gx, cx, cX, eX, hOx, rX, nX⟩ := hc3.rowAt (W := W) hWd3 hW0 (x := lo) (by rw [hsn]; exact hloS)
            have vX := (rX k hkW).1
            have fX := (rX k hkW).2
            have HEX := Lib.hid eX
            have hlQ : s.2.length ≤ 999998 := by rw [HLN.out] at hQl3; omega
            clear hq3 hc3 hf3 hI3 hWd3 hQk3 hl3 hQl3 hsn hS' eY eX rY rX
            by_cases h0 : TC.ent s.1 hi k < 0
            · have HNX2 : Hid (TC.colsM (S.set hi lo) lo hi (k + 1) (R, Q) = s) := by unfold Hid; rw [HNX.out, TC.colM, if_pos h0]
              obtain ⟨te, hte⟩ : ∃ te, TC.ent s.1 hi k = te := ⟨_, rfl⟩
              rw [hte] at vY h0
              clear hte vX fX cX
              go_wp2_with fail
              go_roundw
              case rel => exact ⟨k + 1, by omega, by go_num, by rw [HNX2.out]; exact HQ3.out, by rw [HNX2.out]; exact HC3.out, HF3.out⟩
              case measure => simp [intOf]; omega
            · obtain ⟨te, hte⟩ : ∃ te : Nat, TC.ent s.1 hi k = (te : Int) := ⟨(TC.ent s.1 hi k).toNat, by omega⟩
              have hti := HWD3.out.inn hte
              rw [hte] at vY h0
              have hten : te < n := by rw [← HSN.out]; exact hti.2.2
              have HTE := Lib.hid hte
              have HNX2 : Hid (TC.colsM (S.set hi lo) lo hi (k + 1) (R, Q) = TC.put2 (TC.rep (S.set hi lo) te) (TC.opp k) lo (TC.put1 lo k te s)) := by
                unfold Hid
                rw [HNX.out, TC.colM, if_neg (by rw [HTE.out]; omega), HTE.out, Int.toNat_natCast]
              have hp1 := put1_wide (k := k) (u := te) HWD3.out (by rw [HSN.out]; exact hloS) hkW hti.2.2
              have HP1W := Lib.hid hp1.1
              have HP1L := Lib.hid (hp1.2.trans HSN.out)
              clear hte hti hp1
              obtain ⟨xe, hxe⟩ : ∃ xe, TC.ent s.1 lo k = xe := ⟨_, rfl⟩
              rw [hxe] at vX
              have HXE := Lib.hid hxe
              clear hxe
              go_upto_if 77 with fail
              go_cut [6] (fun s6 wx => QueH O wx s6 (TC.put1 lo k te s).2 ∧ CosH O cb wx ⟨(TC.put1 lo k te s).1, S.set hi lo, m.full⟩ (.slice (some ⟨gR, 0, none⟩) n cR) (.slice (some ⟨gS, 0, none⟩) n cS) hs ∧ Fr O cb w wx)
              case first =>
                by_cases h1 : 0 ≤ xe
                · obtain ⟨hv, rfl⟩ : ∃ hv : Nat, xe = (hv : Int) := ⟨xe.toNat, by omega⟩
                  have HPE : Hid (TC.put1 lo k te s = (s.1, s.2 ++ [(hv, te)])) := by unfold Hid TC.put1; rw [HXE.out, if_pos h1, Int.toNat_natCast]
                  have hOr : O ≤ wr.heap.size := Nat.le_trans HO.out HF3.out.size
                  have hbA : Below wr.heap.size wr (wr.alloc (.cells #[.int .i64 (hv : Int), .int .i64 (te : Int)] 91)) := (Below.refl _ _).alloc (Nat.le_refl _) _
                  have HQA := Lib.hid (HQ3.out.keep (w' := wr.alloc (.cells #[.int .i64 (hv : Int), .int .i64 (te : Int)] 91)) fun g cur _ hg => (hbA.block g (Array.getElem?_eq_some_iff.1 hg).1).trans hg)
                  have HCA := Lib.hid (HC3.out.below hbA (Nat.le_refl _))
                  have HFA := Lib.hid (HF3.out.alloc hOr (.cells #[.int .i64 (hv : Int), .int .i64 (te : Int)] 91))
                  have hn0 : (wr.alloc (.cells #[.int .i64 (hv : Int), .int .i64 (te : Int)] 91)).cell? ((⟨wr.heap.size, 0, none⟩ : Addr).add 0) = some (.int .i64 (hv : Int)) := by rw [add_zero]; have e := heap_alloc_new wr (.cells #[.int .i64 (hv : Int), .int .i64 (te : Int)] 91); simp only [World.cell?, e]; rfl
                  have hn1 : (wr.alloc (.cells #[.int .i64 (hv : Int), .int .i64 (te : Int)] 91)).cell? ((⟨wr.heap.size, 0, none⟩ : Addr).add 1) = some (.int .i64 (te : Int)) := by rw [add_zero]; have e := heap_alloc_new wr (.cells #[.int .i64 (hv : Int), .int .i64 (te : Int)] 91); simp only [World.cell?, e]; rfl
                  have HN0 := Lib.hid hn0
                  have HN1 := Lib.hid hn1
                  have hOA : O ≤ (wr.alloc (.cells #[.int .i64 (hv : Int), .int .i64 (te : Int)] 91)).heap.size := by simp; omega
                  clear hn0 hn1 hbA
                  go_wp2_with (at_builtin; refine wpList_append_queue _ rfl (.tmp 78) (.tmp 82) rfl i2 _ Tryd.underPairs hi2 hy0 hy1 hy2 rfl O _ s.2 HQA.out rfl ⟨wr.heap.size, 0, none⟩ 1 hv te rfl HN0.out HN1.out (by omega) hOA ?_; intro v' wq hqv hsz hos htp hout hblk)
                  go_meet
                  refine ⟨by rw [HPE.out]; exact hqv, by rw [HPE.out]; exact HCA.out.keep hblk, HFA.out.trans ⟨hos, htp, hout, hsz, fun b hb _ => hblk b (by omega) fun cur => Or.inr hb⟩⟩
                · have HPE : Hid (TC.put1 lo k te s = (TC.setE s.1 lo k (te : Int), s.2)) := by unfold Hid TC.put1; rw [HXE.out, if_neg h1]
                  have hxe0 : xe < 0 := by omega
                  have hOr : O ≤ wr.heap.size := Nat.le_trans HO.out HF3.out.size
                  have hcb3 := (Array.getElem?_eq_some_iff.1 HC3.out.blk).1
                  obtain ⟨hC4, hF4⟩ := HC3.out.setE hcb3 (x := lo) (g := gx) (n := W) (c := cx) (by rw [HSN.out]; exact hloS) HEX.out hOx hOr k (te : Int)
                  have HC4 := Lib.hid hC4
                  have HF4 := Lib.hid (HF3.out.trans hF4)
                  have HQ4 := Lib.hid (HQ3.out.fr (g := gx) (k := k) (u := .int .i64 (te : Int)) nX)
                  clear h1 hC4 hF4 hcb3
                  go_wp2_with fail
                  go_meet
                  exact ⟨by rw [HPE.out]; exact HQ4.out, by rw [HPE.out]; exact HC4.out, HF4.out⟩
              case rest =>
              obtain ⟨hq4, hc4, hf4⟩ := hcut
              obtain ⟨w4, rfl⟩ : ∃ w4, w4 = wc := ⟨_, rfl⟩
              clear HQ3 HC3 HF3 c03 cX cY vX vY fX nX nY
              obtain ⟨s4, hs4⟩ : ∃ s4, TC.put1 lo k te s = s4 := ⟨_, rfl⟩
              have hln4 : s4.2.length ≤ 999999 := by have := TC.put1_len lo k te s; rw [hs4] at this; omega
              rw [hs4] at hq4 hc4 HNX2 HP1W HP1L
              have hrt : TC.rep (S.set hi lo) te < n := Nat.lt_of_le_of_lt (TC.rep_le HI3.out.wf te) hten
              have HOF := Lib.hid (of_any O cb te ⟨s4.1, S.set hi lo, m.full⟩ _ _ hs w4 hc4 HI3.out.wf (by rw [HSL.out]; exact hten) (by rw [HSL.out]; exact hn5))
              unfold GivesK at HOF
              obtain ⟨t, ht⟩ : ∃ t, TC.rep (S.set hi lo) te = t := ⟨_, rfl⟩
              simp only [ht] at HOF
              rw [ht] at hrt HNX2
              have hok := TC.opp_lt hW2 hkW
              have x1 := i64_xor1 k (by omega)
              obtain ⟨ko, hko⟩ : ∃ ko, TC.opp k = ko := ⟨_, rfl⟩
              rw [hko] at hok x1 HNX2
              obtain ⟨gt, ct, cT, eT, hOt, rT, nT⟩ := hc4.rowAt (W := W) HP1W.out hW0 (x := t) (by rw [HP1L.out]; exact hrt)
              have vT := (rT ko hok).1
              have fT := (rT ko hok).2
              obtain ⟨xt, hxt⟩ : ∃ xt, TC.ent s4.1 t ko = xt := ⟨_, rfl⟩
              rw [hxt] at vT
              have c04 := (three_at hc4.blk).1
              have HXT := Lib.hid hxt
              have HET := Lib.hid eT
              have HQ4 := Lib.hid hq4
              have HC4 := Lib.hid hc4
              have HF4 := Lib.hid hf4
              clear hq4 hc4 hf4 hs4 ht hko rT hxt eT
              go_wp2_with fail
              refine HOF.out.mono ?_
              rintro e w5 ⟨rfl, rfl⟩
              by_cases h2 : 0 ≤ xt
              · obtain ⟨hv, rfl⟩ : ∃ hv : Nat, xt = (hv : Int) := ⟨xt.toNat, by omega⟩
                have HPE : Hid (TC.put2 t ko lo s4 = (s4.1, s4.2 ++ [(hv, lo)])) := by unfold Hid TC.put2; rw [HXT.out, if_pos h2, Int.toNat_natCast]
                have hOr : O ≤ w5.heap.size := Nat.le_trans HO.out HF4.out.size
                have hbA : Below w5.heap.size w5 (w5.alloc (.cells #[.int .i64 (hv : Int), .int .i64 (lo : Int)] 91)) := (Below.refl _ _).alloc (Nat.le_refl _) _
                have HQA := Lib.hid (HQ4.out.keep (w' := w5.alloc (.cells #[.int .i64 (hv : Int), .int .i64 (lo : Int)] 91)) fun g cur _ hg => (hbA.block g (Array.getElem?_eq_some_iff.1 hg).1).trans hg)
                have HCA := Lib.hid (HC4.out.below hbA (Nat.le_refl _))
                have HFA := Lib.hid (HF4.out.alloc hOr (.cells #[.int .i64 (hv : Int), .int .i64 (lo : Int)] 91))
                have hn0 : (w5.alloc (.cells #[.int .i64 (hv : Int), .int .i64 (lo : Int)] 91)).cell? ((⟨w5.heap.size, 0, none⟩ : Addr).add 0) = some (.int .i64 (hv : Int)) := by rw [add_zero]; have e := heap_alloc_new w5 (.cells #[.int .i64 (hv : Int), .int .i64 (lo : Int)] 91); simp only [World.cell?, e]; rfl
                have hn1 : (w5.alloc (.cells #[.int .i64 (hv : Int), .int .i64 (lo : Int)] 91)).cell? ((⟨w5.heap.size, 0, none⟩ : Addr).add 1) = some (.int .i64 (lo : Int)) := by rw [add_zero]; have e := heap_alloc_new w5 (.cells #[.int .i64 (hv : Int), .int .i64 (lo : Int)] 91); simp only [World.cell?, e]; rfl
                have HN0 := Lib.hid hn0
                have HN1 := Lib.hid hn1
                have hOA : O ≤ (w5.alloc (.cells #[.int .i64 (hv : Int), .int .i64 (lo : Int)] 91)).heap.size := by simp; omega
                clear hn0 hn1 hbA
                go_wp2_with (at_builtin; refine wpList_append_queue _ rfl (.tmp 110) (.tmp 114) rfl i2 _ Tryd.underPairs hi2 hy0 hy1 hy2 rfl O _ s4.2 HQA.out rfl ⟨w5.heap.size, 0, none⟩ 1 hv lo rfl HN0.out HN1.out (by omega) hOA ?_; intro v' wq hqv hsz hos htp hout hblk)
                go_roundw
                case rel => exact ⟨k + 1, by omega, by go_num, by rw [HNX2.out, HPE.out]; exact hqv, by rw [HNX2.out, HPE.out]; exact HCA.out.keep hblk, HFA.out.trans ⟨hos, htp, hout, hsz, fun b hb _ => hblk b (by omega) fun cur => Or.inr hb⟩⟩
                case measure => simp [intOf]; omega
              · have HPE : Hid (TC.put2 t ko lo s4 = (TC.setE s4.1 t ko (lo : Int), s4.2)) := by unfold Hid TC.put2; rw [HXT.out, if_neg h2]
                have hxt0 : xt < 0 := by omega
                have hOr : O ≤ w5.heap.size := Nat.le_trans HO.out HF4.out.size
                have hcb4 := (Array.getElem?_eq_some_iff.1 HC4.out.blk).1
                obtain ⟨hC5, hF5⟩ := HC4.out.setE hcb4 (x := t) (g := gt) (n := W) (c := ct) (by rw [HP1L.out]; exact hrt) HET.out hOt hOr ko (lo : Int)
                have HC5 := Lib.hid hC5
                have HF5 := Lib.hid (HF4.out.trans hF5)
                have HQ5 := Lib.hid (HQ4.out.fr (g := gt) (k := ko) (u := .int .i64 (lo : Int)) nT)
                clear h2 hC5 hF5 hcb4
                go_wp2_with fail
                go_roundw
                case rel => exact ⟨k + 1, by omega, by go_num, by rw [HNX2.out, HPE.out]; exact HQ5.out, by rw [HNX2.out, HPE.out]; exact HC5.out, HF5.out⟩
                case measure => simp [intOf]; omega
          · obtain rfl : k = W := by omega
            clear hq3 hc3 hf3 hI3 hWd3 hQk3 hl3 hQl3 hsn hS' c03
            have HND : Hid (TC.need k (S.set hi lo) s.2 + 2 ≤ gk) := by
              unfold Hid
              rw [HK.out]
              have h1 := HQL.out
              have h2 := HLV.out
              unfold TC.need
              rw [h2, Nat.add_mul]
              simp only [List.length_cons]
              omega
            have HJJ : Hid (TC.JInv m.R m.S a b k s.1 (S.set hi lo) s.2) := by have h := HJ'.out; rw [HS3.out] at h; exact h
            clear h5
            go_wp2_with fail
            go_roundg (TC.need k (S.set hi lo) s.2)
            case measure => have := HND.out; omega
            case rel =>
              refine ⟨s.1, S.set hi lo, s.2, rfl, by have := HND.out; omega, HQ3.out, HC3.out, HJJ.out, HSN.out.trans HN.out.symm, ?_, HF3.out⟩
              rw [← HF.out, HST.out, HS3.out]
              exact TC.joinF_more HM.out.good hW2 HM.out.wide _ _ HJJ.out (Nat.le_refl _) (by have := HND.out; omega)
end Go.Proofs.YtedehmknijlgpaaDoor
