/-
  The document's finder in memory (as the program's cosets).
  The document's finder: open by a contract.
  The document's merge, on a finder's labels, by a contract.
  The document's finder: a step by a letter, in step with the program's next.
-/
import Derived.Test.YtedehmknijlgpaaDoorCst
import Derived.Test.YtedehmknijlgpaaDoorTcI
set_option linter.unusedSimpArgs false
set_option linter.unusedVariables false
namespace Go.Proofs.YtedehmknijlgpaaDoor
open Go Go.RowKit Go.Maps

/-- a *finder in memory: at cb; its rows, its labels -/
structure FinH (O cb : Nat) (w : World) (m : TC.St) (vR vS : Value) (hs : List Value) : Prop where
  blk : w.heap[cb]? = some (.cells #[vR, vS, .bool m.full] 64 (0, 0))
  rows : HasH O w vR m.R hs
  same : IntO O w vS (natI m.S)
  low : cb < O
  apart : ∀ i, i < m.R.length → ∀ k, (hs.getD i .nilIface).ownBlock = some k → vS.ownBlock ≠ some k
theorem FinH.below {O cb C : Nat} {w w' : World} {m : TC.St} {vR vS : Value} {hs : List Value} (h : FinH O cb w m vR vS hs) (hb : Below C w w') (hC : w.heap.size ≤ C) : FinH O cb w' m vR vS hs :=
  ⟨by rw [hb.block cb (Nat.lt_of_lt_of_le (Array.getElem?_eq_some_iff.1 h.blk).1 hC)]; exact h.blk, h.rows.below hb hC, h.same.below hb hC, h.low, h.apart⟩
theorem FinH.drew {O cb : Nat} {w : World} {m : TC.St} {vR vS : Value} {hs : List Value} (h : FinH O cb w m vR vS hs) : FinH O cb w.drew m vR vS hs := ⟨h.blk, h.rows, h.same, h.low, h.apart⟩
theorem FinH.row {O cb : Nat} {w : World} {m : TC.St} {vR vS : Value} {hs : List Value} (h : FinH O cb w m vR vS hs) {W : Nat} (hw : TC.Wide W m.R) (hW : 0 < W) {x : Nat} (hx : x < m.R.length) :
    ∃ gR cR g c, vR = .slice (some ⟨gR, 0, none⟩) m.R.length cR ∧ w.cell? ⟨gR, x, none⟩ = some (.slice (some ⟨g, 0, none⟩) W c) ∧ hs.getD x .nilIface = .slice (some ⟨g, 0, none⟩) W c ∧ O ≤ g ∧
      (∀ k, k < W → w.cell? ⟨g, k, none⟩ = some (.int .i64 (TC.ent m.R x k)) ∧ w.frozen? ⟨g, k, none⟩ = false) := by
  obtain ⟨gR, cR, hR, -⟩ := h.rows.form (by omega)
  have hlx := hw.len x hx
  have hi := h.rows.2.2.1 x hx
  obtain ⟨g, c, hg, hO, cur, hcur⟩ := hi.form (by omega)
  rw [hlx] at hg
  have hrows := h.rows
  rw [hR] at hrows
  have hc := hrows.cellsAt x hx
  rw [hg] at hc hi
  refine ⟨gR, cR, g, c, hR, hc, hg, hO, fun k hk => ⟨?_, by simp [World.frozen?, hcur]⟩⟩
  have := hi.cellsAt k (by omega)
  rw [this]
  unfold TC.ent
  rw [List.getD_eq_getElem?_getD (l := m.R.getD x []), List.getD_eq_getElem?_getD (l := m.R.getD x []), List.getElem?_eq_getElem (by omega)]
  rfl
theorem FinH.setE {O cb : Nat} {w : World} {m : TC.St} {vR vS : Value} {hs : List Value} (h : FinH O cb w m vR vS hs) (hcb : cb < w.heap.size) {x g n c : Nat} (hx : x < m.R.length) (he : hs.getD x .nilIface = .slice (some ⟨g, 0, none⟩) n c) (hO : O ≤ g) (hOs : O ≤ w.heap.size) (k : Nat) (v : Int) :
    FinH O cb (w.setCell ⟨g, k, none⟩ (.int .i64 v)) ⟨TC.setE m.R x k v, m.S, m.full⟩ vR vS hs ∧ Fr O cb w (w.setCell ⟨g, k, none⟩ (.int .i64 v)) := by
  obtain ⟨h1, h2⟩ := h.rows.put (k := k) hx he v
  have hlow := h.low
  refine ⟨⟨?_, h1, ?_, h.low, fun i hi => h.apart i (by rw [TC.setE_len] at hi; exact hi)⟩, Fr.of_grown h2 hOs (fun k e => by obtain rfl := Option.some.inj e; exact Or.inl hO)⟩
  · rw [h2.block cb hcb (fun e => by have := Option.some.inj e; omega)]; exact h.blk
  · exact h.same.far h2 fun b hb e => by
      obtain rfl := Option.some.inj hb
      exact h.apart x hx g (by rw [he]; rfl) e
theorem FinH.setS {O cb : Nat} {w : World} {m : TC.St} {vR : Value} {hs : List Value} {g n c : Nat} (h : FinH O cb w m vR (.slice (some ⟨g, 0, none⟩) n c) hs) (hg : O ≤ g) (hOs : O ≤ w.heap.size) (y x : Nat) :
    FinH O cb (w.setCell ⟨g, y, none⟩ (.int .i64 (x : Int))) ⟨m.R, m.S.set y x, m.full⟩ vR (.slice (some ⟨g, 0, none⟩) n c) hs ∧ Fr O cb w (w.setCell ⟨g, y, none⟩ (.int .i64 (x : Int))) := by
  obtain ⟨h1, h2⟩ := h.same.store y (x : Int)
  have hlow := h.low
  have hcb := (Array.getElem?_eq_some_iff.1 h.blk).1
  rw [natI_set] at h1
  refine ⟨⟨?_, h.rows.far h2 fun k hk => ?_, h1, h.low, h.apart⟩, Fr.of_grown h2 hOs (fun k e => by obtain rfl := Option.some.inj e; exact Or.inl hg)⟩
  · rw [h2.block cb hcb (fun e => by have := Option.some.inj e; omega)]; exact h.blk
  · obtain rfl := Option.some.inj hk
    exact ⟨fun e => owns_apart h.rows.1 h.same (by decide) g e rfl, fun i hi e => h.apart i hi g e rfl⟩
theorem FinH.drewN {O cb : Nat} {w : World} {m : TC.St} {vR vS : Value} {hs : List Value} (h : FinH O cb w m vR vS hs) (n : Nat) : FinH O cb (w.drewN n) m vR vS hs := ⟨h.blk, h.rows, h.same, h.low, h.apart⟩
theorem FinH.rowAt {O cb gR n cR : Nat} {w : World} {m : TC.St} {vS : Value} {hs : List Value} (h : FinH O cb w m (.slice (some ⟨gR, 0, none⟩) n cR) vS hs) {W : Nat} (hw : TC.Wide W m.R) (hW : 0 < W) {x : Nat} (hx : x < m.R.length) :
    ∃ g c, w.cell? ⟨gR, x, none⟩ = some (.slice (some ⟨g, 0, none⟩) W c) ∧ hs.getD x .nilIface = .slice (some ⟨g, 0, none⟩) W c ∧ O ≤ g ∧ (∀ k, k < W → w.cell? ⟨g, k, none⟩ = some (.int .i64 (TC.ent m.R x k)) ∧ w.frozen? ⟨g, k, none⟩ = false) ∧ (∀ cur, w.heap[g]? ≠ some (.cells cur 91 (0, 0))) := by
  obtain ⟨gR', cR', g, c, h1, h2, h3, h4, h5⟩ := h.row hw hW hx
  have hi := h.rows.2.2.1 x hx
  rw [h3] at hi
  cases h1
  exact ⟨g, c, h2, h3, h4, h5, hi.frz.2.1⟩
theorem FinH.setF {O cb : Nat} {w : World} {m : TC.St} {vR vS : Value} {hs : List Value} (h : FinH O cb w m vR vS hs) (f : Bool) :
    FinH O cb (w.setCell ⟨cb, 2, none⟩ (.bool f)) ⟨m.R, m.S, f⟩ vR vS hs ∧ Fr O cb w (w.setCell ⟨cb, 2, none⟩ (.bool f)) :=
  ⟨⟨(three_set h.blk).2.2, h.rows.at_cell h.low, h.same.at_cell h.low, h.low, h.apart⟩, Fr.at_cell ..⟩
theorem FinH.pushR {O cb : Nat} {w w' : World} {m : TC.St} {vR vS v' u : Value} {hs : List Value} {xs : List Int} (h : FinH O cb w m vR vS hs) (hu : IntO O w u xs) (hd : ∀ i, i < m.R.length → ∀ k, (hs.getD i .nilIface).ownBlock = some k → u.ownBlock ≠ some k)
    (hd2 : ∀ k, u.ownBlock = some k → vS.ownBlock ≠ some k) (h' : w'.ownsRow O 27 1 v' (m.R.length + 1) (hs ++ [u])) (hg : w.grownBy w' vR.ownBlock) (hO : O ≤ w.heap.size) :
    w'.cell? ⟨cb, 0, none⟩ = some vR ∧ w'.frozen? ⟨cb, 0, none⟩ = false ∧ FinH O cb (w'.setCell ⟨cb, 0, none⟩ v') ⟨m.R ++ [xs], m.S, m.full⟩ v' vS (hs ++ [u]) ∧ Fr O cb w (w'.setCell ⟨cb, 0, none⟩ v') := by
  have hlow := h.low
  have hl := h.rows.2.1
  have hcb := (Array.getElem?_eq_some_iff.1 h.blk).1
  have hne : some cb ≠ vR.ownBlock := fun e => by have := (h.rows.1.lt _ e.symm).1; omega
  have hb : w'.heap[cb]? = some (.cells #[vR, vS, .bool m.full] 64 (0, 0)) := (hg.block cb hcb hne).trans h.blk
  have hr := h.rows.push h' hg hu hd
  have hs' : IntO O w' vS (natI m.S) := h.same.far hg fun k hk e => owns_apart h.rows.1 h.same (by decide) k hk e
  refine ⟨(three_at hb).1, (three_at hb).2.2.2.1, ⟨(three_set hb).1, hr.at_cell hlow, hs'.at_cell hlow, hlow, fun i hi k hk => ?_⟩, (Fr.of_grown hg hO fun k hk => Or.inl (h.rows.1.lt _ hk).1).trans (Fr.at_cell ..)⟩
  rw [List.length_append, List.length_singleton] at hi
  rcases (show i < m.R.length ∨ i = m.R.length by omega) with hlt | rfl
  · rw [show (hs ++ [u]).getD i .nilIface = hs.getD i .nilIface by simp [List.getD_eq_getElem?_getD, List.getElem?_append_left (show i < hs.length by omega)]] at hk
    exact h.apart i hlt k hk
  · rw [show (hs ++ [u]).getD m.R.length .nilIface = u by rw [← hl]; simp [List.getD_eq_getElem?_getD]] at hk
    exact hd2 k hk
theorem FinH.pushS {O cb g n c x : Nat} {w w' : World} {m : TC.St} {vR vS : Value} {hs : List Value} (h : FinH O cb w m vR vS hs)
    (h' : w'.ownsRow O 3 1 (.slice (some ⟨g, 0, none⟩) n c) n (intVs (natI m.S) ++ [.int .i64 (x : Int)])) (hn : n = m.S.length + 1) (hg : w.grownBy w' vS.ownBlock) (hat : vS.ownBlock = some g ∨ w.heap.size ≤ g) (hO : O ≤ w.heap.size) :
    w'.cell? ⟨cb, 1, none⟩ = some vS ∧ w'.frozen? ⟨cb, 1, none⟩ = false ∧ FinH O cb (w'.setCell ⟨cb, 1, none⟩ (.slice (some ⟨g, 0, none⟩) n c)) ⟨m.R, m.S ++ [x], m.full⟩ vR (.slice (some ⟨g, 0, none⟩) n c) hs ∧ Fr O cb w (w'.setCell ⟨cb, 1, none⟩ (.slice (some ⟨g, 0, none⟩) n c)) := by
  have hlow := h.low
  have hcb := (Array.getElem?_eq_some_iff.1 h.blk).1
  have hne : some cb ≠ vS.ownBlock := fun e => by have := (h.same.lt _ e.symm).1; omega
  have hb : w'.heap[cb]? = some (.cells #[vR, vS, .bool m.full] 64 (0, 0)) := (hg.block cb hcb hne).trans h.blk
  have hr : HasH O w' vR m.R hs := h.rows.far hg fun k hk => ⟨fun e => owns_apart h.rows.1 h.same (by decide) k e hk, fun i hi e => h.apart i hi k e hk⟩
  have hs' : IntO O w' (.slice (some ⟨g, 0, none⟩) n c) (natI (m.S ++ [x])) := by
    unfold IntO
    rw [natI_len, List.length_append, List.length_singleton, ← hn, ← natI_app]
    simpa [intVs] using h'
  refine ⟨(three_at hb).2.1, (three_at hb).2.2.2.2.1, ⟨(three_set hb).2.1, hr.at_cell hlow, hs'.at_cell hlow, hlow, fun i hi k hk e => ?_⟩, (Fr.of_grown hg hO fun k hk => Or.inl (h.same.lt _ hk).1).trans (Fr.at_cell ..)⟩
  obtain rfl := Option.some.inj e
  rcases hat with h1 | h1
  · exact h.apart i hi g hk h1
  · have h2 := ((h.rows.2.2.1 i hi).lt _ hk).2
    exact absurd (show g < w.heap.size from h2) (by omega)
theorem fin_new (w : World) : FinH (w.heap.size + 1) w.heap.size (w.alloc (.cells #[.slice none 0 0, .slice none 0 0, .bool false] 64)) ⟨[], [], false⟩ (.slice none 0 0) (.slice none 0 0) [] :=
  ⟨heap_alloc_new _ _, ⟨World.ownsRow_nil _ _ _ _, rfl, fun i h => absurd h (by simp), fun i j h => absurd h (by simp)⟩, IntO.nil _ _, Nat.lt_succ_self _, fun i h => absurd h (by simp)⟩

theorem IntO.le {O O' : Nat} {w : World} {v : Value} {xs : List Int} (h : IntO O w v xs) (hO : O' ≤ O) : IntO O' w v xs := by
  refine ⟨h.1, ?_⟩
  rcases h.2 with h1 | ⟨g, cap, cur, e, h2, h3⟩
  · exact .inl h1
  · exact .inr ⟨g, cap, cur, e, Nat.le_trans hO h2, h3⟩
def FopP (O cb W : Nat) (m : TC.St) (w : World) (e : Ending) (w' : World) : Prop := e = .returned (.int .i64 (m.R.length : Int)) ∧ Fr O cb w w' ∧ ∃ vR vS hs, FinH O cb w' ⟨m.R ++ [List.replicate W (-1)], m.S ++ [m.R.length], m.full⟩ vR vS hs
set_option maxRecDepth 100000 in
set_option maxHeartbeats 16000000 in
theorem fopen_any (O cb W : Nat) (m : TC.St) (vR vS : Value) (hs : List Value) (w : World) (h : FinH O cb w m vR vS hs) (hlen : m.S.length = m.R.length) (hmost : m.R.length < 5000) (hW : W ≤ 1000) (hOs : O ≤ w.heap.size) :
    Calls Tryd.prog 33 #[.pointer (some ⟨cb, 0, none⟩), .int .i64 (W : Int)] w (FopP O cb W m w) := by
  obtain ⟨i3, hi3, hy0, hy1, hy2⟩ := info_parts Tryd.info3
  obtain ⟨i39, hi39, hz0, hz1, hz2⟩ := info_parts Tryd.info27
  obtain ⟨pR, cR, hvR⟩ := h.rows.sliceOf
  unfold FopP
  obtain ⟨n, hn⟩ : ∃ n, m.R.length = n := ⟨_, rfl⟩
  rw [hn] at hvR hmost hlen ⊢
  subst hvR
  obtain ⟨c0, c1, c2, f0, f1, f2⟩ := three_at h.blk
  have q1 : ((n : Int) == 5000) = false := beq_eq_false_iff_ne.2 (by omega)
  have H := Lib.hid h
  have HN := Lib.hid hn
  have HO := Lib.hid hOs
  have HL := Lib.hid hlen
  clear h hlen hOs hn c1 c2 f0 f1 f2
  go_enter Tryd.func33, Tryd.ntmps33
  go_wp2_with fail
  go_loopw [5, 6] (fun s i wr => ∃ j : Nat, j ≤ W ∧ i = .int .i64 (j : Int) ∧ Below w.heap.size w wr ∧ IntO w.heap.size wr s (List.replicate j (-1))) (fun _ i _ => W - (intOf i).toNat)
  case atStart => exact ⟨0, Nat.zero_le _, rfl, Below.refl _ _, IntO.nil _ _⟩
  case round =>
    clear c0 q1
    obtain ⟨j, hj, rfl, hb, hI⟩ := hrel
    have HB := Lib.hid hb
    have hsw : w.heap.size ≤ wr.heap.size := hb.size
    by_cases hjW : j < W
    · have hown : wr.ownsRow w.heap.size 3 1 u5 j (intVs (List.replicate j (-1))) := by
        have h1 := hI
        unfold IntO at h1
        rw [List.length_replicate] at h1
        exact h1
      have HOW := Lib.hid hown
      clear hb hI hown
      go_wp2_with (at_builtin; refine wpList_append_lies _ rfl (.tmp 21) (.tmp 22) 27 rfl w.heap.size 3 i3 (.int .i64 0) 1 8 Tryd.underlying27 hi3 hy0 hy1 hy2 rfl (by decide) _ j (intVs (List.replicate j (-1))) rfl (HOW.out.alloc _) ⟨wr.heap.size, 0, none⟩ 1 1 [.int .i64 (-1)] rfl rfl (World.news_of_block (cs := #[.int .i64 (-1)]) (t := 3) (fr := (0, 0)) (heap_alloc_new wr _)) (by simp [Value.oneCell']) (by decide) (by unfold maxLen; omega) (by omega) (by simp; omega) (wr.heap.size + 1) (by simp) ?_; intro g2 cc2 w9 hown2 hgr2 hat2 hlt2; have HO2 := Lib.hid hown2; have HG2 := Lib.hid hgr2; clear hown2 hgr2 hat2 hlt2)
      go_roundw
      case rel =>
        refine ⟨j + 1, hjW, by go_num, (HB.out.alloc hsw _).grown HG2.out (by simp; omega) (fun k e => (HOW.out.lt k e).1), ?_⟩
        unfold IntO
        rw [List.length_replicate, List.replicate_succ']
        have h2 := HO2.out
        simpa [intVs] using h2
      case measure => simp [intOf]; omega
    · obtain rfl : j = W := by omega
      obtain ⟨pj, cj, hvj⟩ := hI.sliceOf
      rw [List.length_replicate] at hvj
      obtain ⟨sr, hsr⟩ : ∃ sr, sr = u5 := ⟨_, rfl⟩
      subst hsr
      subst hvj
      have hC := H.out.below hb (Nat.le_refl _)
      obtain ⟨c0, -, -, f0, -, -⟩ := three_at hC.blk
      have hcb := (Array.getElem?_eq_some_iff.1 hC.blk).1
      have hba : Below wr.heap.size wr (wr.alloc (.cells #[.slice pj j cj] 27)) := (Below.refl _ _).alloc (Nat.le_refl _) _
      have a0 : (wr.alloc (.cells #[.slice pj j cj] 27)).cell? ⟨cb, 0, none⟩ = some (.slice pR n cR) := (hba.cell (p := ⟨cb, 0, none⟩) hcb).trans c0
      have HCA := Lib.hid (hC.below hba (Nat.le_refl _))
      have HF := Lib.hid ((Fr.of_below (cb := cb) (hb.mono HO.out)).alloc (Nat.le_trans HO.out hsw) (.cells #[.slice pj j cj] 27))
      have HIA := Lib.hid ((hI.below hba (Nat.le_refl _)).le HO.out)
      have hown : wr.ownsRow O 27 1 (.slice pR n cR) n hs := by have h1 := hC.rows.1; rw [HN.out] at h1; exact h1
      have HOW := Lib.hid hown
      have HEW := Lib.hid (fun k (hk : (Value.slice pj j cj).ownBlock = some k) => (hI.lt k hk).1)
      clear hb hI hC hcb hba hown
      go_upto_region 10 with (at_builtin; refine wpList_append_lies _ rfl (.tmp 28) (.tmp 30) 22 rfl O 27 i39 (.slice none 0 0) 1 24 Tryd.underlying22 hi39 hz0 hz1 hz2 rfl (by decide) _ n hs rfl (HOW.out.alloc _) ⟨wr.heap.size, 0, none⟩ 1 1 [.slice pj j cj] rfl rfl (World.news_of_block (cs := #[.slice pj j cj]) (t := 27) (fr := (0, 0)) (heap_alloc_new wr _)) (by simp [Value.oneCell']) (by decide) (by unfold maxLen; omega) (by omega) (by have := HO.out; simp; omega) (wr.heap.size + 1) (by simp) ?_; intro g2 cc2 w9 hown2 hgr2 hat2 hlt2; obtain ⟨e0, e1, hC9, hF9⟩ := HCA.out.pushR HIA.out (fun i hi k hk e => by have h1 := ((H.out.rows.2.2.1 i hi).lt _ hk).2; have h2 := HEW.out k e; omega) (fun k hk e => by have h1 := (H.out.same.lt _ e).2; have h2 := HEW.out k hk; omega) (by rw [HN.out]; exact hown2) hgr2 (by have := HO.out; simp; omega); have HC9 := Lib.hid hC9; have HF9 := Lib.hid (HF.out.trans hF9); clear hown2 hgr2 hat2 hlt2 hC9 hF9)
      obtain ⟨wc, hwc⟩ : ∃ wc, w9.setCell ⟨cb, 0, none⟩ (.slice (some ⟨g2, 0, none⟩) (n + 1) cc2) = wc := ⟨_, rfl⟩
      rw [hwc] at HC9 HF9 ⊢
      have hC := HC9.out
      have hF := HF9.out
      clear hwc e0 e1 c0 f0 a0 HC9 HF9 HCA HF HIA HOW HEW HB hsw
      obtain ⟨c0, c1, c2, f0, f1, f2⟩ := three_at hC.blk
      have hcb2 := (Array.getElem?_eq_some_iff.1 hC.blk).1
      have hOc : O ≤ wc.heap.size := Nat.le_trans HO.out hF.size
      have hba : Below wc.heap.size wc (wc.alloc (.cells #[.int .i64 (n : Int)] 3)) := (Below.refl _ _).alloc (Nat.le_refl _) _
      have a0 : (wc.alloc (.cells #[.int .i64 (n : Int)] 3)).cell? ⟨cb, 0, none⟩ = some (.slice (some ⟨g2, 0, none⟩) (n + 1) cc2) := (hba.cell (p := ⟨cb, 0, none⟩) hcb2).trans c0
      have a1 : (wc.alloc (.cells #[.int .i64 (n : Int)] 3)).cell? ⟨cb, 1, none⟩ = some vS := (hba.cell (p := ⟨cb, 1, none⟩) hcb2).trans c1
      have HC := Lib.hid (hC.below hba (Nat.le_refl _))
      have HF := Lib.hid (hF.alloc hOc (.cells #[.int .i64 (n : Int)] 3))
      have hown := hC.same
      unfold IntO at hown
      rw [natI_len, HL.out] at hown
      have HOWN := Lib.hid hown
      have HOC := Lib.hid hOc
      clear hC hF hcb2 hOc hba hown
      have hwr : IntKind.i64.wrap (n : Int) = (n : Int) := IntWalk.i64_in _ (by omega)
      go_cut [] (fun wx => ∃ vS', FinH O cb wx ⟨m.R ++ [List.replicate j (-1)], m.S ++ [n], m.full⟩ (.slice (some ⟨g2, 0, none⟩) (n + 1) cc2) vS' (hs ++ [.slice pj j cj]) ∧ Fr O cb w wx)
      case first =>
        go_region_law (refine step_append_lies _ (by rfl) (.tmp 38) (.tmp 45) 27 (by rfl) O 3 i3 (.int .i64 0) 1 8 Tryd.underlying27 hi3 hy0 hy1 hy2 rfl (by decide) _ n (intVs (natI m.S)) (by rfl) (HOWN.out.alloc _) ⟨wc.heap.size, 0, none⟩ 1 1 [.int .i64 (n : Int)] (by rfl) (by rfl) (World.news_of_block (cs := #[.int .i64 (n : Int)]) (t := 3) (fr := (0, 0)) (heap_alloc_new wc _)) (by simp [Value.oneCell']) (by decide) (by unfold maxLen; omega) (by omega) (by have := HOC.out; simp; omega) (wc.heap.size + 1) (by simp) ?_
                       intro g3 cc3 w9 hown2 hgr2 hat2 hlt2
                       obtain ⟨e0, e1, hC9, hF9⟩ := HC.out.drew.pushS (x := n) hown2 (by rw [HL.out]) hgr2 (hat2.imp_right (fun e => by rw [e]; simp)) (by have := HOC.out; simp; omega)
                       have HC9 := Lib.hid hC9
                       have HF9 := Lib.hid (HF.out.drew.trans hF9)
                       clear hown2 hgr2 hat2 hlt2 hC9 hF9)
        all_goals
          go_wp2
          go_meet
          exact ⟨_, HC9.out, HF9.out⟩
      case rest =>
      obtain ⟨vS3, hC3, hF3⟩ := hcut
      obtain ⟨c0, c1, c2, f0, f1, f2⟩ := three_at hC3.blk
      have HC3 := Lib.hid hC3
      have HF3 := Lib.hid hF3
      clear hC3 hF3 a0 a1 HC HF HOWN HOC c1 c2 f0 f1 f2
      go_wp2_with fail
      go_ret
      refine ⟨?_, HF3.out, _, _, _, HC3.out⟩
      first | rfl | (congr 2; omega)

namespace TC
/-- the first i labels are merged: hi becomes lo -/
def mergeTo (S : List Nat) (lo hi i : Nat) : List Nat := (S.take i).map (fun l => if l = hi then lo else l) ++ S.drop i
theorem mergeTo_len (S : List Nat) (lo hi i : Nat) : (mergeTo S lo hi i).length = S.length := by unfold mergeTo; simp; omega
theorem mergeTo_zero (S : List Nat) (lo hi : Nat) : mergeTo S lo hi 0 = S := by unfold mergeTo; simp
theorem mergeTo_all (S : List Nat) (x y : Nat) : mergeTo S (min x y) (max x y) S.length = mergeL S x y := by unfold mergeTo mergeL; simp
theorem mergeTo_at {S : List Nat} {lo hi i : Nat} (h : i < S.length) : (mergeTo S lo hi i).getD i i = S.getD i i := by
  unfold mergeTo
  rw [List.getD_eq_getElem?_getD, List.getElem?_append_right (by simp; omega)]
  simp [List.getD_eq_getElem?_getD, List.length_take, Nat.min_eq_left (Nat.le_of_lt h)]
theorem mergeTo_step {S : List Nat} {lo hi i : Nat} (h : i < S.length) : mergeTo S lo hi (i + 1) = if S.getD i i = hi then (mergeTo S lo hi i).set i lo else mergeTo S lo hi i := by
  have e1 : S.drop i = S[i] :: S.drop (i + 1) := List.drop_eq_getElem_cons h
  have e2 : S.getD i i = S[i] := by rw [List.getD_eq_getElem?_getD, List.getElem?_eq_getElem h]; rfl
  have e3 : mergeTo S lo hi i = (S.take i).map (fun l => if l = hi then lo else l) ++ S[i] :: S.drop (i + 1) := by unfold mergeTo; rw [e1]
  have hl : ((S.take i).map (fun l => if l = hi then lo else l)).length = i := by simp; omega
  have e4 : mergeTo S lo hi (i + 1) = (S.take i).map (fun l => if l = hi then lo else l) ++ (if S[i] = hi then lo else S[i]) :: S.drop (i + 1) := by
    unfold mergeTo
    rw [List.take_succ_eq_append_getElem h, List.map_append, List.append_assoc]; rfl
  rw [e2, e4, e3]
  split
  · rw [List.set_append_right _ _ (by omega), hl, Nat.sub_self]; rfl
  · rfl
end TC
def FmgP (O cb : Nat) (m : TC.St) (vR vS : Value) (hs : List Value) (w : World) (e : Ending) (w' : World) : Prop := e = .returned (.tuple #[]) ∧ FinH O cb w' m vR vS hs ∧ Fr O cb w w'
set_option maxRecDepth 100000 in
set_option maxHeartbeats 16000000 in
theorem fmerge_any (O cb p q g n c : Nat) (m : TC.St) (vR : Value) (hs : List Value) (w : World) (h : FinH O cb w m vR (.slice (some ⟨g, 0, none⟩) n c) hs) (hn : m.S.length = n) (hmost : n ≤ 5000) (hOs : O ≤ w.heap.size) (hp : p < n) (hq : q < n) (hbig : ∀ i, m.S.getD i i ≤ 1000000 ∨ n ≤ i) :
    Calls Tryd.prog 60 #[.slice (some ⟨g, 0, none⟩) n c, .int .i64 (p : Int), .int .i64 (q : Int)] w (FmgP O cb ⟨m.R, TC.mergeL m.S (TC.lb m.S p) (TC.lb m.S q), m.full⟩ vR (.slice (some ⟨g, 0, none⟩) n c) hs w) := by
  have hOg := h.same.frz.2.2
  have cP := h.same.cellsAt p (by rw [natI_len]; omega)
  rw [natI_at (by omega)] at cP
  have cQ := h.same.cellsAt q (by rw [natI_len]; omega)
  rw [natI_at (by omega)] at cQ
  have hbp := (hbig p).resolve_right (by omega)
  have hbq := (hbig q).resolve_right (by omega)
  have HME : Hid (TC.mergeTo m.S (min (m.S.getD p p) (m.S.getD q q)) (max (m.S.getD p p) (m.S.getD q q)) n = TC.mergeL m.S (TC.lb m.S p) (TC.lb m.S q)) := by unfold Hid; rw [← hn]; exact TC.mergeTo_all ..
  have H := Lib.hid h
  have HN := Lib.hid hn
  have HO := Lib.hid hOs
  have HBG := Lib.hid hbig
  obtain ⟨x, hx⟩ : ∃ x, m.S.getD p p = x := ⟨_, rfl⟩
  obtain ⟨y, hy⟩ : ∃ y, m.S.getD q q = y := ⟨_, rfl⟩
  rw [hx] at cP hbp HME
  rw [hy] at cQ hbq HME
  unfold FmgP
  obtain ⟨lo, hlo⟩ : ∃ lo, min x y = lo := ⟨_, rfl⟩
  obtain ⟨hi, hhi⟩ : ∃ hi, max x y = hi := ⟨_, rfl⟩
  rw [hlo, hhi] at HME
  have HLO := Lib.hid hlo
  have HHI := Lib.hid hhi
  clear h hn hOs hbig hx hy hlo hhi
  go_enter Tryd.func60, Tryd.ntmps60
  go_upto_if 19 with fail
  go_cut [6, 7] (fun s6 s7 wx => s6 = .int .i64 (lo : Int) ∧ s7 = .int .i64 (hi : Int) ∧ w = wx)
  case first =>
    have a1 := HLO.out
    have a2 := HHI.out
    by_cases hc : y < x
    · obtain rfl : lo = y := by omega
      obtain rfl : hi = x := by omega
      clear a1 a2
      go_wp2_with fail
      go_meet
      exact ⟨rfl, rfl, rfl⟩
    · have b1 : (x : Int) ≤ (y : Int) := by omega
      obtain rfl : lo = x := by omega
      obtain rfl : hi = y := by omega
      clear a1 a2 hc
      go_wp2_with fail
      go_meet
      exact ⟨rfl, rfl, rfl⟩
  case rest =>
  obtain ⟨rfl, rfl, rfl⟩ := hcut
  have HST : Hid (FinH O cb w ⟨m.R, TC.mergeTo m.S lo hi 0, m.full⟩ vR (.slice (some ⟨g, 0, none⟩) n c) hs) := by unfold Hid; rw [TC.mergeTo_zero]; exact H.out
  clear cP cQ
  go_wp2_with fail
  go_loopw [8] (fun i wr => ∃ j : Nat, j ≤ n ∧ i = .int .i64 (j : Int) ∧ FinH O cb wr ⟨m.R, TC.mergeTo m.S lo hi j, m.full⟩ vR (.slice (some ⟨g, 0, none⟩) n c) hs ∧ Fr O cb w wr) (fun i _ => n - (intOf i).toNat)
  case atStart => exact ⟨0, Nat.zero_le _, rfl, HST.out, Fr.refl ..⟩
  case round =>
    clear HST
    obtain ⟨j, hj, rfl, hC, hF⟩ := hrel
    have HC := Lib.hid hC
    have HF := Lib.hid hF
    by_cases hjn : j < n
    · have hjS : j < m.S.length := by rw [HN.out]; exact hjn
      have cJ := hC.same.cellsAt j (by rw [natI_len, TC.mergeTo_len]; exact hjS)
      rw [natI_at (by rw [TC.mergeTo_len]; exact hjS), TC.mergeTo_at hjS] at cJ
      have fJ := hC.same.frz.1 j
      have HSTP := Lib.hid (TC.mergeTo_step (lo := lo) (hi := hi) hjS)
      have hbj := (HBG.out j).resolve_right (by omega)
      obtain ⟨hC2, hF2⟩ := hC.setS hOg (Nat.le_trans HO.out hF.size) j lo
      have HC2 := Lib.hid hC2
      have HF2 := Lib.hid (hF.trans hF2)
      obtain ⟨z, hz⟩ : ∃ z, m.S.getD j j = z := ⟨_, rfl⟩
      rw [hz] at cJ HSTP hbj
      clear hC hF hC2 hF2 hz hjS
      by_cases hzh : z = hi
      · have HE : Hid (TC.mergeTo m.S lo hi (j + 1) = (TC.mergeTo m.S lo hi j).set j lo) := by unfold Hid; rw [HSTP.out, if_pos hzh]
        have q1 : ((hi : Int) == (hi : Int)) = true := by simp
        subst hzh
        clear HSTP
        go_wp2_with fail
        go_roundw
        case rel => exact ⟨j + 1, hjn, by go_num, by rw [HE.out]; exact HC2.out, HF2.out⟩
        case measure => simp [intOf]; omega
      · have HE : Hid (TC.mergeTo m.S lo hi (j + 1) = TC.mergeTo m.S lo hi j) := by unfold Hid; rw [HSTP.out, if_neg hzh]
        have q1 : ((z : Int) == (hi : Int)) = false := beq_eq_false_iff_ne.2 (by omega)
        clear HSTP hzh
        go_wp2_with fail
        go_roundw
        case rel => exact ⟨j + 1, hjn, by go_num, by rw [HE.out]; exact HC.out, HF.out⟩
        case measure => simp [intOf]; omega
    · obtain rfl : j = n := by omega
      clear hC hF
      go_wp2_with fail
      go_end0
      exact ⟨rfl, by rw [← HME.out]; exact HC.out, HF.out⟩

theorem FinH.labAt {O cb g n c i : Nat} {w : World} {m : TC.St} {vR : Value} {hs : List Value} (h : FinH O cb w m vR (.slice (some ⟨g, 0, none⟩) n c) hs) (hi : i < m.S.length) : w.cell? ⟨g, i, none⟩ = some (.int .i64 ((TC.lb m.S i : Nat) : Int)) := by
  have h1 := h.same.cellsAt i (by rw [natI_len]; exact hi)
  rwa [natI_at hi] at h1
/-- a finder in memory that says what m says -/
def SimH (O cb W : Nat) (m : TC.St) (w : World) : Prop := ∃ D L vR vS hs, FinH O cb w ⟨D, L, false⟩ vR vS hs ∧ TC.Sim W m D L
def FstP (O cb W : Nat) (mk : TC.St × Nat) (w : World) (e : Ending) (w' : World) : Prop := e = .returned (.int .i64 (mk.2 : Int)) ∧ Fr O cb w w' ∧ SimH O cb W mk.1 w'
set_option maxRecDepth 100000 in
set_option maxHeartbeats 32000000 in
theorem fstep_any (O cb a k W : Nat) (m : TC.St) (w : World) (h : SimH O cb W m w) (hm : TC.MOk W m) (hf : m.full = false) (hW2 : W % 2 = 0) (hW : W ≤ 24) (hOs : O ≤ w.heap.size) (ha : a < m.R.length) (hk : k < W) (hmost : m.R.length < 5000) :
    Calls Tryd.prog 35 #[.pointer (some ⟨cb, 0, none⟩), .int .i64 (a : Int), .int .i64 (k : Int)] w (FstP O cb W (TC.nextM W m a k) w) := by
  obtain ⟨D, L, vR, vS, hs, hF, hs0⟩ := h
  have hlD := hs0.lenD
  have hlL := hs0.lenL
  have hrk := hm.rep_lt ha
  have hrr := TC.rep_rep hm.good.wf a
  obtain ⟨gS, cS, hvS, hOgS, -⟩ := hF.same.form (by rw [natI_len]; show 0 < L.length; omega)
  rw [natI_len] at hvS
  have hvS' : vS = .slice (some ⟨gS, 0, none⟩) L.length cS := hvS
  have hlab := fun (i : Nat) (hi : i < L.length) => (by have h1 := hF; rw [hvS] at h1; have h2 := h1.labAt (i := i) hi; rwa [hs0.lab i] at h2 : w.cell? ⟨gS, i, none⟩ = some (.int .i64 ((TC.rep m.S i : Nat) : Int)))
  have cA := hlab a (by omega)
  obtain ⟨r, hr⟩ : ∃ r, TC.rep m.S a = r := ⟨_, rfl⟩
  rw [hr] at cA hrk hrr
  obtain ⟨gR, cR, g, c, hR, cX, eX, hOx, rX⟩ := hF.row hs0.wide (by omega) (x := r) (by show r < D.length; omega)
  have hR' : vR = .slice (some ⟨gR, 0, none⟩) D.length cR := hR
  obtain ⟨n, hn⟩ : ∃ n, m.R.length = n := ⟨_, rfl⟩
  rw [hn] at hrk hlD hlL hmost
  rw [hlD] at hR'
  rw [hlL] at hvS'
  have hblk := hF.blk
  rw [hR', hvS'] at hblk
  obtain ⟨c0, c1, c2, -, -, -⟩ := three_at hblk
  have vX : w.cell? ⟨g, k, none⟩ = some (.int .i64 (TC.ent D r k)) := (rX k hk).1
  have hNX : TC.nextM W m a k = if 0 ≤ TC.ent m.R r k then (m, TC.rep m.S (TC.ent m.R r k).toNat) else if (TC.openM W m).1.full = true then TC.openM W m else (TC.leadM (TC.openM W m).1 r k (TC.openM W m).2, (TC.openM W m).2) := by unfold TC.nextM; rw [hr]
  obtain ⟨te, hte⟩ : ∃ te, TC.ent D r k = te := ⟨_, rfl⟩
  rw [hte] at vX
  have HN := Lib.hid hn
  have HS := Lib.hid hs0
  have HF := Lib.hid hF
  have HO := Lib.hid hOs
  have HM := Lib.hid hm
  have HRR := Lib.hid hrr
  have HLD := Lib.hid hlD
  have HLL := Lib.hid hlL
  have han : a < n := by rw [← hn]; exact ha
  unfold FstP
  by_cases h0 : 0 ≤ te
  · obtain ⟨t, rfl⟩ : ∃ t : Nat, te = (t : Int) := ⟨te.toNat, by omega⟩
    have htl : t < n := by have := (hs0.wide.inn hte).2.2; omega
    obtain ⟨u', e1, e2⟩ := hs0.bwd _ _ _ hte
    rw [hrr] at e1
    have HNX2 : Hid (TC.nextM W m a k = (m, TC.rep m.S t)) := by
      unfold Hid
      rw [hNX, e1, if_pos (by omega), Int.toNat_natCast, e2]
    have cT := hlab t (by omega)
    obtain ⟨rt, hrt⟩ : ∃ rt, TC.rep m.S t = rt := ⟨_, rfl⟩
    rw [hrt] at cT HNX2
    have HSH : Hid (∀ d, SimH O cb W m (w.drewN d)) := fun d => ⟨D, L, vR, vS, hs, hF.drewN d, hs0⟩
    clear hF hs0 hm hOs hR hR' hvS hvS' eX rX hblk hNX hte hn hlD hlL hr hrr e1 e2 hrt ha hlab
    go_enter Tryd.func35, Tryd.ntmps35
    go_wp2_with fail
    go_quiet (fail)
    go_wp2_with fail
    go_ret
    rw [HNX2.out]
    exact ⟨rfl, (Fr.refl O cb w).drewN nq, HSH.out nq⟩
  · have hte0 : te < 0 := by omega
    have hem : TC.ent m.R r k < 0 := by
      rcases Int.lt_or_le (TC.ent m.R r k) 0 with h1 | h1
      · exact h1
      · obtain ⟨v, hv⟩ : ∃ v : Nat, TC.ent m.R r k = (v : Int) := ⟨(TC.ent m.R r k).toNat, by omega⟩
        obtain ⟨u', e1, -⟩ := hs0.fwd _ _ _ hrr hv
        rw [hte] at e1; omega
    have e0 : TC.openM W m = (⟨m.R ++ [List.replicate W (-1)], m.S ++ [m.R.length], m.full⟩, m.R.length) := by unfold TC.openM; rw [if_neg (by omega)]
    have HNX2 : Hid (TC.nextM W m a k = (TC.leadM (TC.openM W m).1 r k (TC.openM W m).2, n)) := by
      unfold Hid
      rw [hNX, if_neg (by omega), e0]
      show (if m.full = true then _ else _) = _
      rw [hf, if_neg (by decide), hn]
    have HSM := Lib.hid (TC.sim_open hW2 hs0 hm (by omega) hrr hk hem (by rw [hte]; exact hte0) (by omega))
    rw [hn] at HSM
    have HOP := Lib.hid (fopen_any O cb W ⟨D, L, false⟩ vR vS hs w hF (by show L.length = D.length; omega) (by show D.length < 5000; omega) (by omega) hOs)
    unfold FopP at HOP
    simp only [hlD] at HOP
    clear hF hs0 hm hOs hR hR' hvS hvS' eX rX hblk hNX hte hn hlD hlL hr hrr e0 h0 hem ha hf hlab
    go_enter Tryd.func35, Tryd.ntmps35
    go_wp2_with fail
    refine HOP.out.mono ?_
    rintro e w3 ⟨rfl, hF3, vR3, vS3, hs3, hC3⟩
    have hwd := TC.wide_app HS.out.wide
    have hl3 : (D ++ [List.replicate W (-1)]).length = n + 1 := by simp [HLD.out]
    obtain ⟨gR3, cR3, ga, ca, hR3, cA3, eA, hOa, rA⟩ := hC3.row (W := W) hwd (by omega) (x := r) (by show r < (D ++ _).length; omega)
    obtain ⟨gR4, cR4, gb, cbb, hR4, cB3, eB, hOb, rB⟩ := hC3.row (W := W) hwd (by omega) (x := n) (by show n < (D ++ _).length; omega)
    obtain ⟨rfl, rfl⟩ : gR3 = gR4 ∧ cR3 = cR4 := by rw [hR3] at hR4; cases hR4; exact ⟨rfl, rfl⟩
    have hok := TC.opp_lt hW2 hk
    have hgab : ga ≠ gb := fun e => hC3.rows.2.2.2 r n (by show r < (D ++ _).length; omega) (by show n < (D ++ _).length; omega) (by omega) ga (by rw [eA]; rfl) (by rw [eB, e]; rfl)
    have hcb3 := (Array.getElem?_eq_some_iff.1 hC3.blk).1
    have hO3 : O ≤ w3.heap.size := Nat.le_trans HO.out hF3.size
    obtain ⟨s1, f1⟩ := hC3.setE hcb3 (x := r) (by show r < (D ++ _).length; omega) eA hOa hO3 k (n : Int)
    have hcb4 : cb < (w3.setCell ⟨ga, k, none⟩ (.int .i64 (n : Int))).heap.size := by simp; exact hcb3
    obtain ⟨s2, f2⟩ := s1.setE hcb4 (x := n) (g := gb) (by show n < (TC.setE (D ++ _) _ _ _).length; rw [TC.setE_len]; omega) eB hOb (by simp; exact hO3) (TC.opp k) (r : Int)
    have H2 := Lib.hid s2
    have F2 := Lib.hid (hF3.trans (f1.trans f2))
    have hblk3 := hC3.blk
    rw [hR3] at hblk3
    have c30 := (three_at hblk3).1
    have hl3' : ((⟨D ++ [List.replicate W (-1)], L ++ [n], false⟩ : TC.St).R).length = n + 1 := hl3
    rw [hl3'] at c30
    have fa := (rA k hk).2
    have va := (rA k hk).1
    have fb := (rB _ hok).2
    have vb := (rB _ hok).1
    have x1 := i64_xor1 k (by omega)
    obtain ⟨k', hk'⟩ : ∃ k', TC.opp k = k' := ⟨_, rfl⟩
    rw [hk'] at fb vb hok H2 F2 x1 HSM
    -- the first store leaves the rows' headers and the block as they are
    have hblk4 := s1.blk
    rw [hR3] at hblk4
    have c40 := (three_at hblk4).1
    rw [hl3'] at c40
    have cB4 : (w3.setCell ⟨ga, k, none⟩ (.int .i64 (n : Int))).cell? ⟨gR3, n, none⟩ = some (.slice (some ⟨gb, 0, none⟩) W cbb) := by
      have h1 := s1.rows
      rw [hR3] at h1
      have h2 := h1.cellsAt n (by show n < (TC.setE (D ++ _) _ _ _).length; rw [TC.setE_len]; omega)
      rw [eB] at h2
      exact h2
    clear hC3 hF3 hwd hl3 hl3' hR3 hR4 eA eB rA rB hcb3 hO3 s1 f1 hcb4 s2 f2 hblk3 hblk4 hk' c0 c1 c2 cA cX vX
    go_wp2_with fail
    go_ret
    rw [HNX2.out]
    exact ⟨rfl, F2.out, _, _, _, _, _, H2.out, HSM.out⟩
end Go.Proofs.YtedehmknijlgpaaDoor
