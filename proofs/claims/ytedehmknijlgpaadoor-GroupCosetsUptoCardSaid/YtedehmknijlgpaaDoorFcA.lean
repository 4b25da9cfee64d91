/-
  The document's finder: trace, in step with the program's trace.
  The document's table while it is told, in memory: the order, the row, the rows that are there.
-/
import Derived.Test.YtedehmknijlgpaaDoorFsm
import Derived.Test.YtedehmknijlgpaaDoorDocB
import Derived.Test.YtedehmknijlgpaaDoorCsA
set_option linter.unusedSimpArgs false
set_option linter.unusedVariables false
namespace Go.Proofs.YtedehmknijlgpaaDoor
open Go Go.RowKit Go.Maps

namespace TC
theorem joinS_rep {W : Nat} {m : St} {p p' y : Nat} (h : rep m.S p = rep m.S p') : joinS W m p y = joinS W m p' y := by
  have e : joinM W m.R m.S [(p, y)] = joinM W m.R m.S [(p', y)] := by
    unfold joinM need
    show joinF W (_ + 1) _ _ _ = joinF W (_ + 1) _ _ _
    rw [joinF, joinF, h]
  unfold joinS
  rw [e]
/-- while there is room -/
theorem nextM_room {W : Nat} {m : St} (hf : m.full = false) (hr : m.R.length < 5000) (a k : Nat) : (nextM W m a k).1.full = false ∧ (nextM W m a k).1.R.length ≤ m.R.length + 1 := by
  have e0 : openM W m = (⟨m.R ++ [List.replicate W (-1)], m.S ++ [m.R.length], m.full⟩, m.R.length) := by unfold openM; rw [if_neg (by omega)]
  unfold nextM
  split
  · exact ⟨hf, Nat.le_succ _⟩
  · rw [e0]
    show (if m.full = true then _ else _ : St × Nat).1.full = false ∧ _
    rw [hf, if_neg (by decide)]
    refine ⟨rfl, ?_⟩
    show (setE (setE _ _ _ _) _ _ _).length ≤ _
    rw [setE_len, setE_len]; simp
theorem traceW_room {W : Nat} : ∀ (w : List Nat) {m : St} (y : Nat), m.full = false → m.R.length + w.length < 5000 → (traceW W w m y).1.full = false ∧ (traceW W w m y).1.R.length ≤ m.R.length + w.length ∧ ∃ z, (traceW W w m y).2 = some z
  | [], m, y, hf, _ => ⟨hf, Nat.le_add_right _ _, y, rfl⟩
  | k :: w, m, y, hf, hr => by
    rw [List.length_cons] at hr
    obtain ⟨h1, h2⟩ := nextM_room (W := W) hf (by omega) y k
    obtain ⟨h3, h4, h5⟩ := traceW_room w (nextM W m y k).2 h1 (by omega)
    rw [traceW, h1, if_neg (by decide)]
    exact ⟨h3, by rw [List.length_cons]; omega, h5⟩
theorem joinS_len {W : Nat} (hW2 : W % 2 = 0) {m : St} (h : MOk W m) {a y : Nat} (ha : a < m.R.length) (hy : y < m.R.length) : (joinS W m a y).R.length = m.R.length := by
  have hJ : JInv m.R m.S a y W m.R m.S [(a, y)] := ⟨inv_start h.good.wf h.good.comp, h.wide, h.len, fun p hp => by rw [List.mem_singleton.1 hp]; exact ⟨ha, hy⟩⟩
  exact (joinF_ok h.good hW2 h.wide _ hJ (Nat.le_refl _)).2
theorem trace_room {W : Nat} (hW2 : W % 2 = 0) {m : St} (h : MOk W m) {a : Nat} (ha : a < m.R.length) {w : List Nat} (hw : ∀ k ∈ w, k < W) (hf : m.full = false) (hr : m.R.length + w.length < 5000) : (traceM W m a w).full = false ∧ (traceM W m a w).R.length ≤ m.R.length + w.length := by
  obtain ⟨h1, h2, z, h3⟩ := traceW_room w (rep m.S a) hf hr
  obtain ⟨g1, g2, -⟩ := traceW_ok hW2 w h (h.rep_lt ha) (rep_rep h.good.wf a) hw
  have g3 := g2 z h3
  unfold traceM
  generalize traceW W w m (rep m.S a) = o at h1 h2 h3 g1 g3
  obtain ⟨m', o⟩ := o
  simp only at h3
  subst h3
  exact ⟨h1, by show (joinS W m' a z).R.length ≤ _; rw [joinS_len hW2 g1.ok (Nat.lt_of_lt_of_le ha g1.grow) g3.1]; exact h2⟩
end TC

def FtRel (O cb a W : Nat) (m : TC.St) (cs : List Nat) (n : Nat) (w : World) (y i : Value) (wr : World) : Prop :=
  ∃ (j yN : Nat) (mj : TC.St), j ≤ n ∧ i = .int .i64 (j : Int) ∧ y = .int .i64 (yN : Int) ∧ SimH O cb W mj wr ∧ Fr O cb w wr ∧ TC.Step W m mj ∧ mj.full = false ∧ mj.R.length ≤ m.R.length + j ∧ yN < mj.R.length ∧ TC.rep mj.S yN = yN ∧
    TC.traceW W (cs.drop j) mj yN = TC.traceW W cs m (TC.rep m.S a)
set_option maxRecDepth 100000 in
set_option maxHeartbeats 16000000 in
theorem ftrace_any (O cb a W : Nat) (m : TC.St) (v : Value) (xs : List Int) (w : World) (h : SimH O cb W m w) (hm : TC.MOk W m) (hf : m.full = false) (hW2 : W % 2 = 0) (hW : W ≤ 24) (hOs : O ≤ w.heap.size) (ha : a < m.R.length)
    (hx : ∀ x ∈ xs, x ≠ 0 ∧ -1000000 ≤ x ∧ x ≤ 1000000 ∧ colN x < W) (hl : m.R.length + xs.length < 5000) (hlow : cb < O) (hv : WordAt cb w v xs) :
    Calls Tryd.prog 34 #[.pointer (some ⟨cb, 0, none⟩), .int .i64 (a : Int), v] w (FsmP O cb W (TC.traceM W m a (xs.map colN)) w) := by
  obtain ⟨D0, L0, vR0, vS0, hs0, hF0, hsim0⟩ := id h
  obtain ⟨gS, cS, hvS, -, -⟩ := hF0.same.form (by rw [natI_len]; show 0 < L0.length; have := hsim0.lenL; omega)
  rw [natI_len] at hvS
  obtain rfl : vS0 = .slice (some ⟨gS, 0, none⟩) L0.length cS := hvS
  have c1 := (three_at hF0.blk).2.1
  have cA := hF0.labAt (i := a) (by show a < L0.length; have := hsim0.lenL; omega)
  have cA' : w.cell? ⟨gS, a, none⟩ = some (.int .i64 ((TC.rep m.S a : Nat) : Int)) := by rw [← hsim0.lab a]; exact cA
  have hal : a < L0.length := by have := hsim0.lenL; omega
  obtain ⟨p, c, hve, -, -, -⟩ := hv.at
  obtain ⟨n, hn⟩ : ∃ n, xs.length = n := ⟨_, rfl⟩
  rw [hn] at hve hl
  subst hve
  have HV := Lib.hid hv
  have HN := Lib.hid hn
  have HX := Lib.hid hx
  have HM := Lib.hid hm
  have HA := Lib.hid ha
  have HO := Lib.hid hOs
  obtain ⟨cs, hcs⟩ : ∃ cs, xs.map colN = cs := ⟨_, rfl⟩
  have HCS := Lib.hid hcs
  have hcl : cs.length = n := by rw [← hcs, List.length_map, hn]
  have HCL := Lib.hid hcl
  rw [hcs]
  have HLO := Lib.hid hlow
  have hlen5 : m.R.length + n < 5000 := hl
  have HL5 := Lib.hid hlen5
  have hstart : FtRel O cb a W m cs n w (.int .i64 ((TC.rep m.S a : Nat) : Int)) (.int .i64 ((0 : Nat) : Int)) w :=
    ⟨0, TC.rep m.S a, m, Nat.zero_le _, rfl, rfl, h, Fr.refl .., TC.Step.refl hm, hf, Nat.le_add_right _ _, hm.rep_lt ha, TC.rep_rep hm.good.wf a, rfl⟩
  have HST := Lib.hid hstart
  unfold FsmP
  obtain ⟨l0, hl0⟩ : ∃ l0, L0.length = l0 := ⟨_, rfl⟩
  rw [hl0] at c1 hal
  have HRP := Lib.hid (hm.rep_lt ha)
  have HRR := Lib.hid (TC.rep_rep hm.good.wf a)
  have hn5 : n ≤ 5000 := by omega
  clear h hm hf hOs ha hx hv hn hcs hcl hstart hF0 hsim0 cA hl0 hlow hl hlen5
  go_enter Tryd.func34, Tryd.ntmps34
  go_wp2_with fail
  go_loopw [7, 8] (fun y i wr => FtRel O cb a W m cs n w y i wr) (fun _ i _ => n - (intOf i).toNat)
  case atStart => exact HST.out
  case round =>
    clear HST c1 cA'
    obtain ⟨j, yN, mj, hj, rfl, rfl, hC, hF, hst, hfl, hgr, hy, hyy, htr⟩ := hrel
    have HC := Lib.hid hC
    have HF := Lib.hid hF
    have HSJ := Lib.hid hst
    have HL5' := HL5.out
    by_cases hjn : j < n
    · have hjx : j < xs.length := by rw [HN.out]; exact hjn
      have hvj := HV.out.fr hF HLO.out
      obtain ⟨b, off, e1, e2⟩ : ∃ b off, p = some ⟨b, off, none⟩ ∧ wr.cell? ⟨b, off + j, none⟩ = some (.int .i64 (xs.getD j 0)) := by
        obtain ⟨p', c', he, -, -, hc⟩ := hvj.at
        obtain ⟨b, off, e1, e2⟩ := hc j hjx
        cases he
        exact ⟨b, off, e1, e2⟩
      subst e1
      obtain ⟨hx0, hx1, hx2, hx3⟩ := HX.out _ (show xs.getD j 0 ∈ xs by rw [List.getD_eq_getElem?_getD, List.getElem?_eq_getElem hjx]; exact List.getElem_mem _)
      have hdr : cs.drop j = colN (xs.getD j 0) :: cs.drop (j + 1) := by
        rw [List.drop_eq_getElem_cons (by rw [HCL.out]; exact hjn)]
        congr 1
        simp only [← HCS.out, List.getElem_map]
        congr 1
        simp [List.getD_eq_getElem?_getD, hjx]
      rw [hdr] at htr
      obtain ⟨x, hxx⟩ : ∃ x, xs.getD j 0 = x := ⟨_, rfl⟩
      rw [hxx] at e2 hx0 hx1 hx2 hx3 htr
      have HCO := Lib.hid (columnR_any x wr hx0 ⟨hx1, hx2⟩)
      unfold GivesK at HCO
      obtain ⟨k, hk⟩ : ∃ k, colN x = k := ⟨_, rfl⟩
      rw [hk] at HCO hx3 htr
      have HNX := Lib.hid (fstep_any O cb yN k W mj wr hC hst.ok hfl hW2 hW (Nat.le_trans HO.out hF.size) hy hx3 (by omega))
      unfold FstP at HNX
      obtain ⟨g1, g2⟩ := TC.next_ok hW2 hst.ok hy hx3
      obtain ⟨r1, r2⟩ := TC.nextM_room (W := W) hfl (by omega) yN k
      rw [TC.traceW, r1, if_neg (by decide)] at htr
      obtain ⟨q1, q2, -⟩ := g2 r1
      have HR : Hid (∀ w4, Fr O cb wr w4 → SimH O cb W (TC.nextM W mj yN k).1 w4 → FtRel O cb a W m cs n w (.int .i64 (((TC.nextM W mj yN k).2 : Nat) : Int)) (.int .i64 (((j + 1 : Nat)) : Int)) w4) := fun w4 hf4 hs4 =>
        ⟨j + 1, _, _, hjn, rfl, rfl, hs4, HF.out.trans hf4, hst.trans g1, r1, by omega, q1, q2, htr⟩
      clear hC hF hst hy hyy htr hvj hdr hxx hk g1 g2 hx3 hjx r1 r2 q1 q2 hfl hgr
      go_wp2_with fail
      refine HCO.out.mono ?_
      rintro e w3 ⟨rfl, rfl⟩
      go_wp2_with fail
      refine HNX.out.mono ?_
      rintro e w4 ⟨rfl, hF4, hS4⟩
      have HR4 := Lib.hid (HR.out w4 hF4 hS4)
      obtain ⟨D4, L4, vR4, vS4, hs4, hF4', -⟩ := hS4
      have c4 := (three_at hF4'.blk).2.2.1
      obtain ⟨b2, hb2⟩ : ∃ b2, (TC.nextM W mj yN k).2 = b2 := ⟨_, rfl⟩
      rw [hb2] at HR4 ⊢
      clear hF4 hF4' HR e2 hb2
      go_wp2_with fail
      go_roundw
      case rel => first | exact HR4.out | (have h := HR4.out; simpa using h)
      case measure => simp [intOf]; omega
    · obtain rfl : n = j := by omega
      have hdr : cs.drop n = [] := by rw [← HCL.out]; exact List.drop_length
      rw [hdr] at htr
      have hrep : TC.rep mj.S (TC.rep m.S a) = TC.rep mj.S a := hst.later.same _ _ HRR.out
      have HE : Hid (TC.traceM W m a cs = TC.joinS W mj (TC.rep m.S a) yN) := by
        unfold Hid TC.traceM
        rw [← htr, TC.joinS_rep hrep]
        rfl
      have HJ := Lib.hid (fsame_any O cb (TC.rep m.S a) yN W mj wr hC hst.ok hW2 hW (Nat.le_trans HO.out hF.size) (Nat.lt_of_lt_of_le HRP.out hst.grow) hy)
      unfold FsmP at HJ
      clear hC hF hst hy hyy htr hdr hrep hfl hgr
      go_wp2_with fail
      refine HJ.out.mono ?_
      rintro e w3 ⟨rfl, hF3, hC3⟩
      have HC3 := Lib.hid hC3
      have HF3 := Lib.hid (HF.out.trans hF3)
      clear hC3 hF3
      go_wp2_with fail
      go_end0
      rw [HE.out]
      exact ⟨rfl, HF3.out, HC3.out⟩

structure ToldD (E : Nat) (w : World) (vO vR vT : Value) (hs : List Value) (O : List Nat) (row : List Int) (T : List (List Int)) : Prop where
  ord : IntO E w vO (natI O)
  row : IntO E w vR row
  out : HasH E w vT T hs
  a1 : ∀ k, vO.ownBlock = some k → vR.ownBlock ≠ some k
  a2 : ∀ k, vO.ownBlock = some k → ∀ i, i < T.length → (hs.getD i .nilIface).ownBlock ≠ some k
  a3 : ∀ k, vR.ownBlock = some k → ∀ i, i < T.length → (hs.getD i .nilIface).ownBlock ≠ some k
theorem ToldD.below {E C : Nat} {w w' : World} {vO vR vT : Value} {hs : List Value} {O : List Nat} {row : List Int} {T : List (List Int)} (h : ToldD E w vO vR vT hs O row T) (hb : Below C w w') (hC : w.heap.size ≤ C) : ToldD E w' vO vR vT hs O row T :=
  ⟨h.ord.below hb hC, h.row.below hb hC, h.out.below hb hC, h.a1, h.a2, h.a3⟩
theorem ToldD.drewN {E : Nat} {w : World} {vO vR vT : Value} {hs : List Value} {O : List Nat} {row : List Int} {T : List (List Int)} (h : ToldD E w vO vR vT hs O row T) (n : Nat) : ToldD E (w.drewN n) vO vR vT hs O row T := h.below (below_dn (Below.refl _ _) n) (Nat.le_refl _)
theorem ToldD.pushO {E g n c z : Nat} {w w2 : World} {vO vR vT : Value} {hs : List Value} {O : List Nat} {row : List Int} {T : List (List Int)} (h : ToldD E w vO vR vT hs O row T)
    (h' : w2.ownsRow E 3 1 (.slice (some ⟨g, 0, none⟩) n c) n (intVs (natI O) ++ [.int .i64 (z : Int)])) (hn : n = O.length + 1) (hg2 : w.grownBy w2 vO.ownBlock) (hat : vO.ownBlock = some g ∨ w.heap.size ≤ g) :
    ToldD E w2 (.slice (some ⟨g, 0, none⟩) n c) vR vT hs (O ++ [z]) row T := by
  refine ⟨?_, h.row.far hg2 fun k hk => h.a1 k hk, h.out.far hg2 fun k hk => ⟨fun e => owns_apart h.out.1 h.ord (by decide) k e hk, h.a2 k hk⟩, fun k hk e => ?_, fun k hk i hi e => ?_, h.a3⟩
  · unfold IntO
    rw [natI_len, List.length_append, List.length_singleton, ← hn, ← natI_app]
    simpa [intVs] using h'
  · obtain rfl := Option.some.inj hk
    rcases hat with h1 | h1
    · exact h.a1 _ h1 e
    · have h2 := (h.row.lt _ e).2
      exact absurd (show g < w.heap.size from h2) (by omega)
  · obtain rfl := Option.some.inj hk
    rcases hat with h1 | h1
    · exact h.a2 _ h1 i hi e
    · have h2 := ((h.out.2.2.1 i hi).lt _ e).2
      exact absurd (show g < w.heap.size from h2) (by omega)
theorem ToldD.pushR {E g n c : Nat} {w w2 : World} {vO vR vT : Value} {hs : List Value} {O : List Nat} {row : List Int} {T : List (List Int)} {x : Int} (h : ToldD E w vO vR vT hs O row T)
    (h' : w2.ownsRow E 3 1 (.slice (some ⟨g, 0, none⟩) n c) n (intVs row ++ [.int .i64 x])) (hn : n = row.length + 1) (hg2 : w.grownBy w2 vR.ownBlock) (hat : vR.ownBlock = some g ∨ w.heap.size ≤ g) :
    ToldD E w2 vO (.slice (some ⟨g, 0, none⟩) n c) vT hs O (row ++ [x]) T := by
  refine ⟨h.ord.far hg2 fun k hk e => h.a1 k e hk, ?_, h.out.far hg2 fun k hk => ⟨fun e => owns_apart h.out.1 h.row (by decide) k e hk, h.a3 k hk⟩, fun k hk e => ?_, h.a2, fun k hk i hi e => ?_⟩
  · unfold IntO
    rw [List.length_append, List.length_singleton, ← hn]
    simpa [intVs] using h'
  · obtain rfl := Option.some.inj e
    rcases hat with h1 | h1
    · exact h.a1 _ hk h1
    · have h2 := (h.ord.lt _ hk).2
      exact absurd (show g < w.heap.size from h2) (by omega)
  · obtain rfl := Option.some.inj hk
    rcases hat with h1 | h1
    · exact h.a3 _ h1 i hi e
    · have h2 := ((h.out.2.2.1 i hi).lt _ e).2
      exact absurd (show g < w.heap.size from h2) (by omega)
theorem ToldD.pushT {E : Nat} {w w2 : World} {vO vR vT vT' : Value} {hs : List Value} {O : List Nat} {row : List Int} {T : List (List Int)} (h : ToldD E w vO vR vT hs O row T)
    (h' : w2.ownsRow E 27 1 vT' (T.length + 1) (hs ++ [vR])) (hg : w.grownBy w2 vT.ownBlock) :
    ToldD E w2 vO (.slice none 0 0) vT' (hs ++ [vR]) O [] (T ++ [row]) := by
  have hl := h.out.2.1
  refine ⟨h.ord.far hg fun k hk e => owns_apart h.out.1 h.ord (by decide) k hk e, IntO.nil _ _, h.out.push h' hg h.row (fun i hi k hk e => h.a3 k e i hi hk), (fun k _ e => by cases e), fun k hk i hi e => ?_, (fun k hk => by cases hk)⟩
  rw [List.length_append, List.length_singleton] at hi
  rcases (show i < T.length ∨ i = T.length by omega) with hlt | rfl
  · rw [show (hs ++ [vR]).getD i .nilIface = hs.getD i .nilIface by simp [List.getD_eq_getElem?_getD, List.getElem?_append_left (show i < hs.length by omega)]] at e
    exact h.a2 k hk i hlt e
  · rw [show (hs ++ [vR]).getD T.length .nilIface = vR by rw [← hl]; simp [List.getD_eq_getElem?_getD]] at e
    exact h.a1 k hk e

def FcoP (r : Nat × List (List Int)) (w : World) (e : Ending) (w' : World) : Prop := Below w.heap.size w w' ∧ ((∃ (v : Value) (c : Int), e = .returned (.tuple #[v, .int .i64 c, .bool false])) ∨ ∃ v : Value, e = .returned (.tuple #[v, .int .i64 (refErr r.1), .bool true]) ∧ ∀ B, ListsIn B w' v r.2)
def FwRel (O cb W : Nat) (ws : List (List Nat)) (w5 : World) (i : Value) (wr : World) : Prop :=
  ∃ j : Nat, j ≤ ws.length ∧ i = .int .i64 (j : Int) ∧ SimH O cb W (TC.tracesM W 0 (ws.take j) (TC.startM W)) wr ∧ Fr O cb w5 wr
def FmRel (O cb W : Nat) (rs : List (List Nat)) (mF : TC.St) (w5 : World) (i : Value) (wr : World) : Prop :=
  ∃ (k f : Nat) (mk : TC.St), i = .int .i64 (k : Int) ∧ f + k = 5001 ∧ SimH O cb W mk wr ∧ Fr O cb w5 wr ∧ TC.MOk W mk ∧ mk.full = false ∧ mk.R.length ≤ 3000 ∧ TC.mainM W rs f k mk = mF
def FrRel (O cb W k : Nat) (rs : List (List Nat)) (mk : TC.St) (w5 : World) (i : Value) (wr : World) : Prop :=
  ∃ j : Nat, j ≤ rs.length ∧ i = .int .i64 (j : Int) ∧ SimH O cb W (TC.tracesM W k (rs.take j) mk) wr ∧ Fr O cb w5 wr
def FxxRel (O cb W k : Nat) (mk : TC.St) (w5 : World) (i : Value) (wr : World) : Prop :=
  ∃ x : Nat, x ≤ W ∧ i = .int .i64 (x : Int) ∧ SimH O cb W (TC.nextsM W k (List.range x) mk) wr ∧ Fr O cb w5 wr
namespace TC
theorem traces_room {W : Nat} (hW2 : W % 2 = 0) {a : Nat} : ∀ (ws : List (List Nat)) {m : St}, MOk W m → a < m.R.length → (∀ w ∈ ws, ∀ k ∈ w, k < W) → m.full = false → m.R.length + ws.flatten.length < 5000 → (tracesM W a ws m).full = false ∧ (tracesM W a ws m).R.length ≤ m.R.length + ws.flatten.length
  | [], m, _, _, _, hf, _ => ⟨hf, Nat.le_add_right _ _⟩
  | w :: ws, m, h, ha, hw, hf, hr => by
    rw [List.flatten_cons, List.length_append] at hr ⊢
    have g := (trace_ok hW2 h ha (hw w List.mem_cons_self)).1
    obtain ⟨h1, h2⟩ := trace_room hW2 h ha (hw w List.mem_cons_self) hf (by omega)
    obtain ⟨h3, h4⟩ := traces_room hW2 ws g.ok (Nat.lt_of_lt_of_le ha g.grow) (fun v hv => hw v (List.mem_cons_of_mem _ hv)) h1 (by omega)
    exact ⟨h3, by show (tracesM W a ws (traceM W m a w)).R.length ≤ _; omega⟩
theorem nexts_room {W a : Nat} {m : St} : ∀ x, m.full = false → m.R.length + x < 5000 → (nextsM W a (List.range x) m).full = false ∧ (nextsM W a (List.range x) m).R.length ≤ m.R.length + x
  | 0, hf, _ => ⟨hf, Nat.le_refl _⟩
  | x + 1, hf, hr => by
    obtain ⟨h1, h2⟩ := nexts_room (W := W) (a := a) x hf (by omega)
    rw [nexts_snoc]
    obtain ⟨h3, h4⟩ := nextM_room (W := W) h1 (by omega) a x
    exact ⟨h3, by omega⟩
end TC
theorem colsL_flat (L : List (List Int)) : (colsL L).flatten.length = L.flatten.length := by
  unfold colsL
  induction L with
  | nil => rfl
  | cons l L ih => rw [List.map_cons, List.flatten_cons, List.flatten_cons, List.length_append, List.length_append, ih, List.length_map]
theorem colsL_take (L : List (List Int)) (j : Nat) : (colsL L).take j = colsL (L.take j) := by unfold colsL; rw [List.map_take]
end Go.Proofs.YtedehmknijlgpaaDoor
