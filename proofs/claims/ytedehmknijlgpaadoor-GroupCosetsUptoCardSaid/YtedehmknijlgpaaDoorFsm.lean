/-
  The document's finder: same, in step with the program's join.
-/
import Derived.Test.YtedehmknijlgpaaDoorFst
import Derived.Test.YtedehmknijlgpaaDoorTcJ
import Derived.Deep.LoopGhost
set_option linter.unusedSimpArgs false
set_option linter.unusedVariables false
namespace Go.Proofs.YtedehmknijlgpaaDoor
open Go Go.RowKit Go.Maps

/-- the closure's state in memory -/
structure ClH (O cb W : Nat) (m : TC.St) (D0 : TC.Rows) (a y : Nat) (vR vS : Value) (hs : List Value) (w wr : World) (D : TC.Rows) (L : List Nat) : Prop where
  mem : FinH O cb wr ⟨D, L, false⟩ vR vS hs
  fr : Fr O cb w wr
  inv : TC.DInv W D0 m.S a y D L
  ab : TC.lb L a = TC.lb L y
theorem ClH.drewN {O cb W : Nat} {m : TC.St} {D0 : TC.Rows} {a y : Nat} {vR vS : Value} {hs : List Value} {w wr : World} {D : TC.Rows} {L : List Nat} (h : ClH O cb W m D0 a y vR vS hs w wr D L) (n : Nat) : ClH O cb W m D0 a y vR vS hs w (wr.drewN n) D L := ⟨h.mem.drewN n, h.fr.drewN n, h.inv, h.ab⟩
/-- something has changed in this pass; or all that is behind needs nothing -/
def Flag (s : Value) (mu mu0 : Nat) (P : Prop) : Prop := (s = .bool true ∧ mu < mu0) ∨ (s = .bool false ∧ mu ≤ mu0 ∧ P)
theorem Flag.le {s : Value} {mu mu0 : Nat} {P : Prop} (h : Flag s mu mu0 P) : mu ≤ mu0 := by
  rcases h with ⟨-, h⟩ | ⟨-, h, -⟩ <;> omega
theorem Flag.more {s : Value} {mu mu0 : Nat} {P P' : Prop} (h : Flag s mu mu0 P) (f : P → P') : Flag s mu mu0 P' := h.elim (fun e => .inl e) fun ⟨e1, e2, e3⟩ => .inr ⟨e1, e2, f e3⟩
theorem Flag.hit {s : Value} {mu mu' mu0 : Nat} {P P' : Prop} (h : Flag s mu mu0 P) (e : mu = mu' + 1) : Flag (.bool true) mu' mu0 P' := .inl ⟨rfl, by have := h.le; omega⟩
section
variable {O cb W : Nat} {m : TC.St} {D0 : TC.Rows} {a y gR n cR : Nat} {vR vS : Value} {hs : List Value} {w wr : World} {D : TC.Rows} {L : List Nat}
theorem ClH.head (h : ClH O cb W m D0 a y (.slice (some ⟨gR, 0, none⟩) n cR) vS hs w wr D L) {j : Nat} (hj : j < D.length) : ∃ p c, wr.cell? ⟨gR, j, none⟩ = some (.slice p W c) := by
  have h1 := h.mem.rows.cellsAt j hj
  obtain ⟨p, c, e⟩ := (h.mem.rows.2.2.1 j hj).sliceOf
  have e2 : (D.getD j []).length = W := h.inv.wide.len j hj
  have e3 : hs.getD j .nilIface = .slice p (D.getD j []).length c := e
  rw [e2] at e3
  exact ⟨p, c, by rw [h1, e3]⟩
theorem ClH.rowx (h : ClH O cb W m D0 a y (.slice (some ⟨gR, 0, none⟩) n cR) vS hs w wr D L) (hW : 0 < W) {j : Nat} (hj : j < D.length) :
    ∃ g c, wr.cell? ⟨gR, j, none⟩ = some (.slice (some ⟨g, 0, none⟩) W c) ∧ hs.getD j .nilIface = .slice (some ⟨g, 0, none⟩) W c ∧ O ≤ g ∧ ∀ k, k < W → wr.cell? ⟨g, k, none⟩ = some (.int .i64 (TC.ent D j k)) ∧ wr.frozen? ⟨g, k, none⟩ = false := by
  obtain ⟨g, c, h1, h2, h3, h4, -⟩ := h.mem.rowAt (W := W) h.inv.wide hW (x := j) hj
  exact ⟨g, c, h1, h2, h3, h4⟩
theorem ClH.labx {gS n' cS : Nat} (h : ClH O cb W m D0 a y vR (.slice (some ⟨gS, 0, none⟩) n' cS) hs w wr D L) {i : Nat} (hi : i < L.length) : wr.cell? ⟨gS, i, none⟩ = some (.int .i64 ((TC.lb L i : Nat) : Int)) := h.mem.labAt hi
theorem ClH.put (h : ClH O cb W m D0 a y vR vS hs w wr D L) (hO : O ≤ w.heap.size) {x g n' c k u : Nat} (hx : x < D.length) (he : hs.getD x .nilIface = .slice (some ⟨g, 0, none⟩) n' c) (hOg : O ≤ g) (hi : TC.DInv W D0 m.S a y (TC.setE D x k (u : Int)) L) :
    ClH O cb W m D0 a y vR vS hs w (wr.setCell ⟨g, k, none⟩ (.int .i64 (u : Int))) (TC.setE D x k (u : Int)) L := by
  have hcb := (Array.getElem?_eq_some_iff.1 h.mem.blk).1
  obtain ⟨h1, h2⟩ := h.mem.setE hcb (x := x) hx he hOg (Nat.le_trans hO h.fr.size) k (u : Int)
  exact ⟨h1, h.fr.trans h2, hi, h.ab⟩
end
def FsRel (O cb W : Nat) (m : TC.St) (D0 : TC.Rows) (a y : Nat) (vR vS : Value) (hs : List Value) (w : World) (gk : Nat) (s : Value) (wr : World) : Prop :=
  ∃ D L, ClH O cb W m D0 a y vR vS hs w wr D L ∧ ((s = .bool true ∧ gk = TC.mu W D L + 2) ∨ (s = .bool false ∧ gk = 1 ∧ ∀ x k, TC.Shut D L x k))
def FiRel (O cb W : Nat) (m : TC.St) (D0 : TC.Rows) (a y : Nat) (vR vS : Value) (hs : List Value) (w : World) (n mu0 : Nat) (s i : Value) (wr : World) : Prop :=
  ∃ (j : Nat) (D : TC.Rows) (L : List Nat), j ≤ n ∧ i = .int .i64 (j : Int) ∧ ClH O cb W m D0 a y vR vS hs w wr D L ∧ Flag s (TC.mu W D L) mu0 (∀ x', x' < j → ∀ k, TC.Shut D L x' k)
def FxRel (O cb W : Nat) (m : TC.St) (D0 : TC.Rows) (a y : Nat) (vR vS : Value) (hs : List Value) (w : World) (mu0 kk j : Nat) (s i : Value) (wr : World) : Prop :=
  ∃ (x : Nat) (D : TC.Rows) (L : List Nat), x ≤ W ∧ i = .int .i64 (x : Int) ∧ ClH O cb W m D0 a y vR vS hs w wr D L ∧ Flag s (TC.mu W D L) mu0 (TC.Ahead D L kk j x)
def FsmP (O cb W : Nat) (m' : TC.St) (w : World) (e : Ending) (w' : World) : Prop := e = .returned (.tuple #[]) ∧ Fr O cb w w' ∧ SimH O cb W m' w'
set_option maxRecDepth 100000 in
set_option maxHeartbeats 64000000 in
theorem fsame_any (O cb a y W : Nat) (m : TC.St) (w : World) (h : SimH O cb W m w) (hm : TC.MOk W m) (hW2 : W % 2 = 0) (hW : W ≤ 24) (hOs : O ≤ w.heap.size) (ha : a < m.R.length) (hy : y < m.R.length) :
    Calls Tryd.prog 52 #[.pointer (some ⟨cb, 0, none⟩), .int .i64 (a : Int), .int .i64 (y : Int)] w (FsmP O cb W (TC.joinS W m a y) w) := by
  obtain ⟨D0, L0, vR, vS, hs, hF, hs0⟩ := h
  have hlD := hs0.lenD
  have hlL := hs0.lenL
  have h5 := hm.most
  obtain ⟨gS, cS, hvS, hOgS, -⟩ := hF.same.form (by rw [natI_len]; show 0 < L0.length; omega)
  rw [natI_len] at hvS
  have hvS' : vS = .slice (some ⟨gS, 0, none⟩) L0.length cS := hvS
  obtain ⟨gR, cR, hvR, -⟩ := hF.rows.form (by show 0 < D0.length; omega)
  have hvR' : vR = .slice (some ⟨gR, 0, none⟩) D0.length cR := hvR
  obtain ⟨n, hn⟩ : ∃ n, m.R.length = n := ⟨_, rfl⟩
  rw [hn] at hlD hlL h5 ha hy
  rw [hlD] at hvR'
  rw [hlL] at hvS'
  subst hvR'
  subst hvS'
  obtain ⟨c0, c1, c2, -, -, -⟩ := three_at hF.blk
  have cA := hF.labAt (i := a) (by show a < L0.length; omega)
  have cY := hF.labAt (i := y) (by show y < L0.length; omega)
  have hlowA : TC.lb L0 a ≤ a := by rw [hs0.lab]; exact TC.rep_le hm.good.wf a
  have hlowY : TC.lb L0 y ≤ y := by rw [hs0.lab]; exact TC.rep_le hm.good.wf y
  have hlow0 : ∀ p, TC.lb L0 p ≤ p := fun p => by rw [hs0.lab]; exact TC.rep_le hm.good.wf p
  have HN := Lib.hid hn
  have HS := Lib.hid hs0
  have HF := Lib.hid hF
  have HO := Lib.hid hOs
  have HM := Lib.hid hm
  have HLD := Lib.hid hlD
  have HLL := Lib.hid hlL
  have HA := Lib.hid (show a < m.R.length by omega)
  have HY := Lib.hid (show y < m.R.length by omega)
  have HLOW := Lib.hid hlow0
  obtain ⟨la, hla⟩ : ∃ la, TC.lb L0 a = la := ⟨_, rfl⟩
  obtain ⟨ly, hly⟩ : ∃ ly, TC.lb L0 y = ly := ⟨_, rfl⟩
  have cA' : w.cell? ⟨gS, a, none⟩ = some (.int .i64 (la : Int)) := by rw [← hla]; exact cA
  have cY' : w.cell? ⟨gS, y, none⟩ = some (.int .i64 (ly : Int)) := by rw [← hly]; exact cY
  have HLA := Lib.hid hla
  have HLY := Lib.hid hly
  unfold FsmP
  by_cases hly0 : la = ly
  · subst hly0
    have q1 : ((la : Int) == (la : Int)) = true := by simp
    have HSM := Lib.hid (TC.sim_now hW2 hs0 hm (by omega) (by omega) (by show TC.lb L0 a = TC.lb L0 y; rw [hla, hly]) : TC.Sim W (TC.joinS W m a y) D0 L0)
    have HSH : Hid (∀ d, SimH O cb W (TC.joinS W m a y) (w.drewN d)) := fun d => ⟨D0, L0, _, _, hs, HF.out.drewN d, HSM.out⟩
    clear hF hs0 hm hOs hn hlD hlL hvS hvR hla hly cA cY hlowA hlowY hlow0
    go_enter Tryd.func52, Tryd.ntmps52
    go_wp2_with fail
    go_quiet (fail)
    go_wp2_with fail
    refine bodyPost_ret (results_none rfl _ _ _) rfl ?_
    exact ⟨rfl, (Fr.refl O cb w).drewN nq, HSH.out nq⟩
  · have q1 : ((la : Int) == (ly : Int)) = false := beq_eq_false_iff_ne.2 (by omega)
    have HMG := Lib.hid (fun d => fmerge_any O cb a y gS n cS ⟨D0, L0, false⟩ (.slice (some ⟨gR, 0, none⟩) n cR) hs (w.drewN d) (hF.drewN d) hlL h5 hOs ha hy (fun i => by
      rcases Nat.lt_or_ge i n with h1 | h1
      · exact .inl (by have := hlow0 i; show TC.lb L0 i ≤ 1000000; omega)
      · exact .inr h1))
    unfold FmgP at HMG
    have HD := Lib.hid (TC.dinv_first hs0 hm HA.out HY.out)
    clear hF hs0 hm hOs hn hlD hlL hvS hvR hla hly cA cY hlowA hlowY hlow0 hly0
    go_enter Tryd.func52, Tryd.ntmps52
    go_wp2_with fail
    go_quiet (fail)
    have k0 : (w.drewN nq).cell? ⟨cb, 0, none⟩ = some (.slice (some ⟨gR, 0, none⟩) n cR) := c0
    have k1 : (w.drewN nq).cell? ⟨cb, 1, none⟩ = some (.slice (some ⟨gS, 0, none⟩) n cS) := c1
    clear c0 c1 c2 cA' cY'
    go_wp2_with fail
    refine (HMG.out nq).mono ?_
    rintro e w2 ⟨rfl, hF2, hfr2⟩
    have HFR0 : Hid (Fr O cb w (w.drewN nq)) := (Fr.refl O cb w).drewN nq
    have HST : Hid (FsRel O cb W m D0 a y (.slice (some ⟨gR, 0, none⟩) n cR) (.slice (some ⟨gS, 0, none⟩) n cS) hs w (TC.mu W D0 (TC.mergeL L0 (TC.lb L0 a) (TC.lb L0 y)) + 2) (.bool true) w2) :=
      ⟨D0, _, ⟨hF2, HFR0.out.trans hfr2, HD.out.1, HD.out.2⟩, .inl ⟨rfl, rfl⟩⟩
    clear hF2 hfr2 k0 k1 HMG
    go_wp2_with fail
    go_loopg [6] (TC.mu W D0 (TC.mergeL L0 (TC.lb L0 a) (TC.lb L0 y)) + 2) (fun gk s wr => FsRel O cb W m D0 a y (.slice (some ⟨gR, 0, none⟩) n cR) (.slice (some ⟨gS, 0, none⟩) n cS) hs w gk s wr)
    case atStart => exact HST.out
    case round =>
      clear HST
      obtain ⟨D, L, hcl, ⟨rfl, hgk⟩ | ⟨rfl, hgk, hsh⟩⟩ := hrel
      rotate_left
      · have HSM : Hid (SimH O cb W (TC.joinS W m a y) wr) := ⟨D, L, _, _, hs, hcl.mem, TC.sim_join hW2 HS.out HM.out HA.out HY.out hcl.inv hcl.ab hsh⟩
        have HFR := Lib.hid hcl.fr
        clear hcl hsh hgk
        go_wp2_with fail
        go_end0
        exact ⟨rfl, HFR.out, HSM.out⟩
      · have HGK := Lib.hid hgk
        have HST : Hid (FiRel O cb W m D0 a y (.slice (some ⟨gR, 0, none⟩) n cR) (.slice (some ⟨gS, 0, none⟩) n cS) hs w n (TC.mu W D L) (.bool false) (.int .i64 0) wr) :=
          ⟨0, D, L, Nat.zero_le _, rfl, hcl, .inr ⟨rfl, Nat.le_refl _, fun x' h => absurd h (by omega)⟩⟩
        obtain ⟨mu0, hmu0⟩ : ∃ mu0, TC.mu W D L = mu0 := ⟨_, rfl⟩
        rw [hmu0] at HST HGK
        clear hcl hgk hmu0
        go_wp2_with fail
        go_loopw [6, 7] (fun s i wr2 => FiRel O cb W m D0 a y (.slice (some ⟨gR, 0, none⟩) n cR) (.slice (some ⟨gS, 0, none⟩) n cS) hs w n mu0 s i wr2) (fun _ i _ => n - (intOf i).toNat)
        case atStart => exact HST.out
        case round =>
          clear HST
          obtain ⟨j, D, L, hj, rfl, hcl, hfl⟩ := hrel
          obtain ⟨s6, rfl⟩ : ∃ s6, s6 = u6 := ⟨_, rfl⟩
          obtain ⟨c0, c1, -, -, -, -⟩ := three_at hcl.mem.blk
          have hlenD : D.length = n := hcl.inv.lenD.trans HLD.out
          have hlenL : L.length = n := hcl.inv.lenL.trans HLD.out
          have HCL := Lib.hid hcl
          have HFLG := Lib.hid hfl
          by_cases hjn : j < n
          · have cJ := hcl.mem.labAt (i := j) (by show j < L.length; omega)
            have hkl := hcl.inv.low j
            have hCon := hcl.inv.j1 _ _ (hcl.inv.idem j)
            obtain ⟨kk, hkk⟩ : ∃ kk, TC.lb L j = kk := ⟨_, rfl⟩
            have cJ' : wr.cell? ⟨gS, j, none⟩ = some (.int .i64 (kk : Int)) := by rw [← hkk]; exact cJ
            rw [hkk] at hkl hCon
            have hkn : kk < n := by omega
            have HCON := Lib.hid hCon
            have HST : Hid (FxRel O cb W m D0 a y (.slice (some ⟨gR, 0, none⟩) n cR) (.slice (some ⟨gS, 0, none⟩) n cS) hs w mu0 kk j s6 (.int .i64 0) wr) :=
              ⟨0, D, L, Nat.zero_le _, rfl, hcl, hfl.imp id fun ⟨e1, e2, e3⟩ => ⟨e1, e2, hkk.symm, e3, fun k h => absurd h (by omega)⟩⟩
            clear hcl hfl cJ hkk hCon HCL HFLG
            go_wp2_with fail
            go_loopw [6, 9] (fun s i wr2 => FxRel O cb W m D0 a y (.slice (some ⟨gR, 0, none⟩) n cR) (.slice (some ⟨gS, 0, none⟩) n cS) hs w mu0 kk j s i wr2) (fun _ i _ => W - (intOf i).toNat)
            case atStart => exact HST.out
            case round =>
              clear HST c0 c1 cJ'
              obtain ⟨x, D, L, hx, rfl, hcl, hfl⟩ := hrel
              obtain ⟨s6, rfl⟩ : ∃ s6, s6 = u6 := ⟨_, rfl⟩
              obtain ⟨c0, c1, -, -, -, -⟩ := three_at hcl.mem.blk
              have hlenD : D.length = n := hcl.inv.lenD.trans HLD.out
              have hlenL : L.length = n := hcl.inv.lenL.trans HLD.out
              have HCL := Lib.hid hcl
              have HFLG := Lib.hid hfl
              by_cases hxW : x < W
              · obtain ⟨gi, ci, cI, eI, hOi, rI⟩ := hcl.rowx (by omega) (j := j) (by omega)
                have vI := (rI x hxW).1
                obtain ⟨te, hte⟩ : ∃ te, TC.ent D j x = te := ⟨_, rfl⟩
                rw [hte] at vI
                by_cases ht0 : te < 0
                · have HR : Hid (FxRel O cb W m D0 a y (.slice (some ⟨gR, 0, none⟩) n cR) (.slice (some ⟨gS, 0, none⟩) n cS) hs w mu0 kk j s6 (.int .i64 (((x + 1 : Nat)) : Int)) wr) :=
                    ⟨x + 1, D, L, hxW, rfl, hcl, hfl.imp id fun ⟨e1, e2, e3, e4, e5⟩ => ⟨e1, e2, e3, e4, fun k hk => by
                      rcases Nat.lt_succ_iff_lt_or_eq.1 hk with h1 | rfl
                      · exact e5 k h1
                      · intro u hu; rw [hte] at hu; omega⟩⟩
                  clear hcl hfl HCL HFLG eI rI hte
                  go_wp2_with fail
                  go_roundw
                  case rel => first | exact HR.out | (have h := HR.out; simpa using h)
                  case measure => simp [intOf]; omega
                · obtain ⟨t, rfl⟩ : ∃ t : Nat, te = (t : Int) := ⟨te.toNat, by omega⟩
                  have htn : t < n := by have := (hcl.inv.wide.inn hte).2.2; omega
                  obtain ⟨gk2, ck, cK, eK, hOk, rK⟩ := hcl.rowx (by omega) (j := kk) (by omega)
                  have vK := (rK x hxW).1
                  have fK := (rK x hxW).2
                  obtain ⟨ek, hek⟩ : ∃ ek, TC.ent D kk x = ek := ⟨_, rfl⟩
                  rw [hek] at vK
                  have HTE := Lib.hid hte
                  have HEK := Lib.hid hek
                  have HEKK := Lib.hid eK
                  clear hcl hfl eI rI hte hek eK rK
                  go_upto_if 85 with fail
                  go_cut [6] (fun s wx => ∃ D1, ClH O cb W m D0 a y (.slice (some ⟨gR, 0, none⟩) n cR) (.slice (some ⟨gS, 0, none⟩) n cS) hs w wx D1 L ∧ TC.ent D1 j x = (t : Int) ∧ (∃ u : Nat, TC.ent D1 kk x = (u : Int)) ∧ Flag s (TC.mu W D1 L) mu0 (TC.Ahead D1 L kk j x))
                  case first =>
                    by_cases he0 : ek < 0
                    · have hcell := TC.cell_one (hc := HCON.out) HCL.out.inv (by omega) hxW HTE.out (by rw [HEK.out]; exact he0)
                      obtain ⟨i1, i2, i3', i4⟩ := hcell
                      have HP := Lib.hid (HCL.out.put HO.out (by omega) HEKK.out hOk i1)
                      have HI3 := Lib.hid i3'
                      have HI4 := Lib.hid i4
                      have HFL2 := Lib.hid (HFLG.out.hit (P' := TC.Ahead (TC.setE D kk x (t : Int)) L kk j x) i2)
                      clear i1 i2 i3' i4
                      go_wp2_with fail
                      go_meet
                      exact ⟨_, HP.out, HI4.out, ⟨t, HI3.out⟩, HFL2.out⟩
                    · have hne : 0 ≤ ek := by omega
                      have HU : Hid (∃ u : Nat, TC.ent D kk x = (u : Int)) := ⟨ek.toNat, by rw [HEK.out]; omega⟩
                      clear he0
                      go_wp2_with fail
                      go_meet
                      exact ⟨D, HCL.out, HTE.out, HU.out, HFLG.out⟩
                  case rest =>
                  obtain ⟨D1, hcl1, ht1, ⟨u, hu⟩, hfl1⟩ := hcut
                  clear c0 c1 cI vI cK vK fK HTE HEK HCL HFLG
                  obtain ⟨c0, c1, -, -, -, -⟩ := three_at hcl1.mem.blk
                  obtain ⟨gk2, ck, cK, eK, hOk, rK⟩ := hcl1.rowx (by omega) (j := kk) (by have := hcl1.inv.lenD; have := HLD.out; omega)
                  have vK := (rK x hxW).1
                  rw [hu] at vK
                  have hun : u < n := by have h1 := (hcl1.inv.wide.inn hu).2.2; have := hcl1.inv.lenD; have := HLD.out; omega
                  have cU := hcl1.labx (i := u) (by omega)
                  have cT := hcl1.labx (i := t) (by omega)
                  have HC1 := Lib.hid hcl1
                  have HT1 := Lib.hid ht1
                  have HU1 := Lib.hid hu
                  have HFL1 := Lib.hid hfl1
                  have HLOW1 := Lib.hid hcl1.inv.low
                  obtain ⟨lu, hlu⟩ : ∃ lu, TC.lb L u = lu := ⟨_, rfl⟩
                  obtain ⟨lt, hlt⟩ : ∃ lt, TC.lb L t = lt := ⟨_, rfl⟩
                  rw [hlu] at cU
                  rw [hlt] at cT
                  have HLU := Lib.hid hlu
                  have HLT := Lib.hid hlt
                  clear hcl1 ht1 hu hfl1 eK rK hlu hlt hOk hOi
                  go_wp2_with fail
                  go_quiet (fail)
                  have HC2 := Lib.hid (HC1.out.drewN nq)
                  have HMG := Lib.hid (fun d => fmerge_any O cb u t gS n cS ⟨D1, L, false⟩ (.slice (some ⟨gR, 0, none⟩) n cR) hs ((wc.drewN nq).drewN d) (HC2.out.mem.drewN d) hlenL h5 (Nat.le_trans HO.out HC2.out.fr.size) hun htn (fun i => by
                    rcases Nat.lt_or_ge i n with h1 | h1
                    · exact .inl (by have := HLOW1.out i; show TC.lb L i ≤ 1000000; omega)
                    · exact .inr h1))
                  unfold FmgP at HMG
                  have k0 : (wc.drewN nq).cell? ⟨cb, 0, none⟩ = _ := c0
                  have k1 : (wc.drewN nq).cell? ⟨cb, 1, none⟩ = _ := c1
                  have k2 : (wc.drewN nq).cell? ⟨gR, kk, none⟩ = _ := cK
                  have k3 : (wc.drewN nq).cell? ⟨gk2, x, none⟩ = _ := vK
                  obtain ⟨w3, hw3⟩ : ∃ w3, wc.drewN nq = w3 := ⟨_, rfl⟩
                  rw [hw3] at HC2 HMG k0 k1 k2 k3 ⊢
                  clear c0 c1 cK vK cU cT hw3 HC1
                  go_upto_if 119 with fail
                  go_cut [6] (fun s wx => ∃ L2, ClH O cb W m D0 a y (.slice (some ⟨gR, 0, none⟩) n cR) (.slice (some ⟨gS, 0, none⟩) n cS) hs w wx D1 L2 ∧ Flag s (TC.mu W D1 L2) mu0 (TC.Ahead D1 L2 kk j x ∧ TC.Shut D1 L2 j x))
                  case first =>
                    by_cases hlq : lu = lt
                    · have q1 : ((lu : Int) != (lt : Int)) = false := by rw [hlq]; simp
                      have HFL2 := Lib.hid (HFL1.out.more (P' := TC.Ahead D1 L kk j x ∧ TC.Shut D1 L j x) fun e3 => ⟨e3, fun v hv => ⟨u, by rw [← e3.1]; exact HU1.out, by
                        have h1 := HT1.out
                        rw [hv] at h1
                        have h2 : v = t := by omega
                        rw [h2]
                        exact HLU.out.trans (hlq.trans HLT.out.symm)⟩⟩)
                      clear hlq
                      go_wp2_with fail
                      go_meet
                      exact ⟨L, HC2.out, HFL2.out⟩
                    · have q1 : ((lu : Int) != (lt : Int)) = true := by rw [bne_iff_ne]; omega
                      have hcm := TC.cell_merge HC2.out.inv (p := u) (q := t) (by have := HC2.out.inv.lenD; have := HLD.out; omega) (by have := HC2.out.inv.lenD; have := HLD.out; omega) (HC2.out.inv.same HCON.out HU1.out HT1.out) (by rw [HLU.out, HLT.out]; exact hlq)
                      have HCM := Lib.hid hcm
                      clear hcm hlq
                      go_upto_region 18 with fail
                      go_region_law (go_simp
                                     go_at_call 60
                                     refine (HMG.out 1).mono ?_
                                     rintro e w4 ⟨rfl, hm4, hf4⟩
                                     have HM4 := Lib.hid hm4
                                     have HF4 := Lib.hid hf4
                                     clear hm4 hf4)
                      all_goals
                        go_wp2_with fail
                        go_meet
                        exact ⟨_, ⟨HM4.out, (HC2.out.fr.drewN 1).trans HF4.out, by have h1 := HCM.out.1; exact h1, HCM.out.2.2 _ _ HC2.out.ab⟩, HFL1.out.hit HCM.out.2.1⟩
                  case rest => as_aux_lemma =>
                    obtain ⟨L2, hcl2, hfl2⟩ := hcut
                    clear k0 k1 k2 k3 HMG HC2 HFL1 HLOW1 HLU HLT
                    obtain ⟨c0, c1, -, -, -, -⟩ := three_at hcl2.mem.blk
                    have hlenD1 : D1.length = n := hcl2.inv.lenD.trans HLD.out
                    have hlenL2 : L2.length = n := hcl2.inv.lenL.trans HLD.out
                    have cT := hcl2.labx (i := t) (by omega)
                    have cJ := hcl2.labx (i := j) (by omega)
                    have hltn : TC.lb L2 t < n := by have := hcl2.inv.low t; omega
                    obtain ⟨gt, ct, cTr, eT, hOt, rT⟩ := hcl2.rowx (by omega) (j := TC.lb L2 t) (by omega)
                    have hok := TC.opp_lt hW2 hxW
                    have x1 := i64_xor1 x (by omega)
                    have vT := (rT _ hok).1
                    have fT := (rT _ hok).2
                    have HC2 := Lib.hid hcl2
                    have HFL2 := Lib.hid hfl2
                    have HBK := Lib.hid (TC.cell_back HS.out HM.out hcl2.inv HCON.out (by omega) hW2 hxW HT1.out)
                    have HBK2 := Lib.hid (fun (z : Nat) (hz : TC.ent D1 (TC.lb L2 t) (TC.opp x) = (z : Int)) => TC.cell_back2 HS.out HM.out hcl2.inv HT1.out hz)
                    have HLW2 := Lib.hid hcl2.inv.low
                    obtain ⟨lt, hlt⟩ : ∃ lt, TC.lb L2 t = lt := ⟨_, rfl⟩
                    obtain ⟨lj, hlj⟩ : ∃ lj, TC.lb L2 j = lj := ⟨_, rfl⟩
                    obtain ⟨xo, hxo⟩ : ∃ xo, TC.opp x = xo := ⟨_, rfl⟩
                    rw [hlt] at cT cTr eT rT vT hltn HBK HBK2
                    rw [hlj] at cJ
                    rw [hxo] at hok x1 vT fT HBK HBK2
                    obtain ⟨ez, hez⟩ : ∃ ez, TC.ent D1 lt xo = ez := ⟨_, rfl⟩
                    rw [hez] at vT HBK HBK2
                    have HET := Lib.hid eT
                    have HEZ := Lib.hid hez
                    have HLJ := Lib.hid hlj
                    clear hcl2 hfl2 eT rT hlt hlj hxo hez
                    go_wp2_with fail
                    go_quiet (fail)
                    have HC3 := Lib.hid (HC2.out.drewN nq)
                    have k0 : (wc.drewN nq).cell? ⟨cb, 0, none⟩ = _ := c0
                    have k1 : (wc.drewN nq).cell? ⟨cb, 1, none⟩ = _ := c1
                    have k2 : (wc.drewN nq).cell? ⟨gS, t, none⟩ = _ := cT
                    have k3 : (wc.drewN nq).cell? ⟨gS, j, none⟩ = _ := cJ
                    have k4 : (wc.drewN nq).cell? ⟨gR, lt, none⟩ = _ := cTr
                    have k5 : (wc.drewN nq).cell? ⟨gt, xo, none⟩ = _ := vT
                    have k6 : (wc.drewN nq).frozen? ⟨gt, xo, none⟩ = false := fT
                    obtain ⟨w3, hw3⟩ : ∃ w3, wc.drewN nq = w3 := ⟨_, rfl⟩
                    rw [hw3] at HC3 k0 k1 k2 k3 k4 k5 k6 ⊢
                    clear c0 c1 cT cJ cTr vT fT hw3 HC2
                    by_cases hz0 : ez < 0
                    · obtain ⟨i1, i2⟩ := HBK.out hz0
                      have HPU := Lib.hid ((HC3.out.drewN 1).put HO.out (x := lt) (by omega) HET.out hOt i1)
                      have HF3 := Lib.hid (HFL2.out.hit (P' := TC.Ahead (TC.setE D1 lt xo (kk : Int)) L2 kk j (x + 1)) i2)
                      clear i1 i2
                      go_upto_region 22 with fail
                      go_region
                      all_goals
                        go_wp2_with fail
                        go_roundw
                        case rel => exact ⟨x + 1, _, L2, hxW, by go_num, HPU.out, HF3.out⟩
                        case measure => simp [intOf]; omega
                    · obtain ⟨z, rfl⟩ : ∃ z : Nat, ez = (z : Int) := ⟨ez.toNat, by omega⟩
                      have hzn : z < n := by have := (HC3.out.inv.wide.inn HEZ.out).2.2; omega
                      have k7 := HC3.out.labx (i := z) (by omega)
                      have hcz := HBK2.out z rfl
                      obtain ⟨lz, hlz⟩ : ∃ lz, TC.lb L2 z = lz := ⟨_, rfl⟩
                      rw [hlz] at k7
                      have HLZ := Lib.hid hlz
                      have HCZ := Lib.hid hcz
                      clear hlz hcz
                      by_cases hzj : lz = lj
                      · have q1 : ((lz : Int) != (lj : Int)) = false := by rw [hzj]; simp
                        have HF3 := Lib.hid (HFL2.out.more (P' := TC.Ahead D1 L2 kk j (x + 1)) fun ⟨⟨e1, e2, e3⟩, e4⟩ => ⟨e1, e2, fun k hk => by
                          rcases Nat.lt_succ_iff_lt_or_eq.1 hk with h1 | rfl
                          · exact e3 k h1
                          · exact e4⟩)
                        clear hzj
                        go_wp2_with fail
                        go_quiet (fail)
                        have HC4 := Lib.hid (HC3.out.drewN nq)
                        clear k0 k1 k2 k3 k4 k5 k6 k7
                        go_wp2_with fail
                        go_roundw
                        case rel => exact ⟨x + 1, _, L2, hxW, by go_num, HC4.out, HF3.out⟩
                        case measure => simp [intOf]; omega
                      · have q1 : ((lz : Int) != (lj : Int)) = true := by rw [bne_iff_ne]; omega
                        have HCM2 := Lib.hid (TC.cell_merge HC3.out.inv (p := z) (q := j) (by omega) (by omega) HCZ.out (by rw [HLZ.out, HLJ.out]; exact hzj))
                        have HMG2 := Lib.hid (fun d => fmerge_any O cb z j gS n cS ⟨D1, L2, false⟩ (.slice (some ⟨gR, 0, none⟩) n cR) hs (w3.drewN d) (HC3.out.mem.drewN d) hlenL2 h5 (Nat.le_trans HO.out HC3.out.fr.size) hzn hjn (fun i => by
                          rcases Nat.lt_or_ge i n with h1 | h1
                          · exact .inl (by have := HLW2.out i; show TC.lb L2 i ≤ 1000000; omega)
                          · exact .inr h1))
                        unfold FmgP at HMG2
                        clear hzj
                        go_wp2_with fail
                        go_quiet (fail)
                        have m0 : (w3.drewN nq).cell? ⟨cb, 1, none⟩ = _ := k1
                        have HFR4 := Lib.hid (HC3.out.fr.drewN nq)
                        clear k0 k1 k2 k3 k4 k5 k6 k7
                        go_wp2_with fail
                        refine (HMG2.out nq).mono ?_
                        rintro e w4 ⟨rfl, hm4, hf4⟩
                        have HM4 := Lib.hid hm4
                        have HF4 := Lib.hid (HFR4.out.trans hf4)
                        clear hm4 hf4 m0
                        go_wp2_with fail
                        go_roundw
                        case rel => exact ⟨x + 1, D1, _, hxW, by go_num, ⟨HM4.out, HF4.out, by have h1 := HCM2.out.1; exact h1, HCM2.out.2.2 _ _ HC3.out.ab⟩, HFL2.out.hit HCM2.out.2.1⟩
                        case measure => simp [intOf]; omega
              · obtain rfl : x = W := by omega
                obtain ⟨pi, ci, cI⟩ := hcl.head (j := j) (by omega)
                have HR : Hid (FiRel O cb x m D0 a y (.slice (some ⟨gR, 0, none⟩) n cR) (.slice (some ⟨gS, 0, none⟩) n cS) hs w n mu0 s6 (.int .i64 (((j + 1 : Nat)) : Int)) wr) :=
                  ⟨j + 1, D, L, hjn, rfl, hcl, hfl.imp id fun ⟨e1, e2, e3, e4, e5⟩ => ⟨e1, e2, fun x' hx' k => by
                    rcases Nat.lt_succ_iff_lt_or_eq.1 hx' with h1 | rfl
                    · exact e4 x' h1 k
                    · rcases Nat.lt_or_ge k x with h2 | h2
                      · exact e5 k h2
                      · intro u hu; rw [hcl.inv.wide.out h2] at hu; omega⟩⟩
                clear hcl hfl HCL HFLG
                go_wp2_with fail
                go_roundw
                case rel => first | exact HR.out | (have h := HR.out; simpa using h)
                case measure => simp [intOf]; omega
          · obtain rfl : j = n := by omega
            have HR : Hid (∃ gk', gk' < gk ∧ FsRel O cb W m D0 a y (.slice (some ⟨gR, 0, none⟩) j cR) (.slice (some ⟨gS, 0, none⟩) j cS) hs w gk' s6 wr) := by
              rcases hfl with ⟨e1, e2⟩ | ⟨e1, e2, e3⟩
              · exact ⟨TC.mu W D L + 2, by rw [HGK.out]; omega, D, L, hcl, .inl ⟨e1, rfl⟩⟩
              · refine ⟨1, by rw [HGK.out]; omega, D, L, hcl, .inr ⟨e1, rfl, fun x k => ?_⟩⟩
                rcases Nat.lt_or_ge x j with h1 | h1
                · exact e3 x h1 k
                · intro u hu
                  rw [TC.ent_out (by omega)] at hu; omega
            obtain ⟨gk', hgk', hR⟩ := HR.out
            have HR2 := Lib.hid hR
            clear hcl hfl HCL HFLG HR hR
            go_wp2_with fail
            go_roundg gk'
            case measure => exact hgk'
            case rel => exact HR2.out
end Go.Proofs.YtedehmknijlgpaaDoor
