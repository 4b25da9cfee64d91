/-
  The document's spread by a contract: from one square to those beside it.
-/
import Derived.Test.YtoheffkiohfmoaaDoorMrk
import Derived.Test.YtoheffkiohfmoaaDoorSpr
set_option linter.unusedSimpArgs false
set_option linter.unusedVariables false
namespace Go.Proofs.YtoheffkiohfmoaaDoor
open Go Go.RowKit Go.Maps FL

def NearQ (cor : Bool) (C : Sq → Prop) (p : Sq) (dy dx : Int) (M : Sq → Prop) : Prop := ∀ r : Sq, Adj cor p r → C r → ((r.2 : Int) - p.2 < dy ∨ ((r.2 : Int) - p.2 = dy ∧ (r.1 : Int) - p.1 < dx)) → M r
theorem NearQ.start {cor : Bool} {C : Sq → Prop} {p : Sq} {M : Sq → Prop} : NearQ cor C p (-1) (-1) M := fun r ha _ h => by
  obtain ⟨h1, h2, h3, h4, -⟩ := ha
  omega
theorem NearQ.row {cor : Bool} {C : Sq → Prop} {p : Sq} {M : Sq → Prop} {dy : Int} (h : NearQ cor C p dy 2 M) : NearQ cor C p (dy + 1) (-1) M := fun r ha hc hr => h r ha hc (by
  obtain ⟨h1, h2, h3, h4, -⟩ := ha
  omega)
theorem NearQ.all {cor : Bool} {C : Sq → Prop} {p : Sq} {M : Sq → Prop} (h : NearQ cor C p 2 (-1) M) : ∀ r, Adj cor p r → C r → M r := fun r ha hc => h r ha hc (by
  obtain ⟨h1, h2, h3, h4, -⟩ := ha
  omega)
theorem NearQ.step {cor : Bool} {C : Sq → Prop} {p : Sq} {M M' : Sq → Prop} {dy dx : Int} (h : NearQ cor C p dy dx M) (hs : ∀ r, M r → M' r) (hn : ∀ r : Sq, Adj cor p r → C r → (r.1 : Int) = p.1 + dx → (r.2 : Int) = p.2 + dy → M' r) : NearQ cor C p dy (dx + 1) M' := fun r ha hc hr => by
  by_cases e : (r.2 : Int) - p.2 = dy ∧ (r.1 : Int) - p.1 = dx
  · exact hn r ha hc (by omega) (by omega)
  · exact hs r (h r ha hc (by omega))
/-- marks while one square's neighbours are looked at: A are new -/
structure SpdS (ms : List ByteArray) (cor full : Bool) (c : Sq) (nx : Nat) (W0 : World) (vt : Value) (hs : List Value) (T : List (List Int)) (dy dx : Int) (A : List Sq) (T' : List (List Int)) (w : World) : Prop where
  fr : Below W0.heap.size W0 w
  row : HasH W0.heap.size w vt T' hs
  wd : WideT (wideI ms) ms.length T'
  mks : ∀ q, mrk T' q = if q ∈ A then (nx : Int) else mrk T q
  nod : A.Nodup
  new : ∀ q ∈ A, CnI ms full q ∧ ¬ 0 < mrk T q ∧ Adj cor c q
  near : NearQ cor (CnI ms full) c dy dx (fun r => 0 < mrk T' r)
theorem SpdS.skip {ms : List ByteArray} {cor full : Bool} {c : Sq} {nx : Nat} {W0 : World} {vt : Value} {hs : List Value} {T : List (List Int)} {dy dx : Int} {A : List Sq} {T' : List (List Int)} {w : World} (h : SpdS ms cor full c nx W0 vt hs T dy dx A T' w)
    (hn : ∀ r : Sq, Adj cor c r → CnI ms full r → (r.1 : Int) = c.1 + dx → (r.2 : Int) = c.2 + dy → 0 < mrk T' r) : SpdS ms cor full c nx W0 vt hs T dy (dx + 1) A T' w :=
  ⟨h.fr, h.row, h.wd, h.mks, h.nod, h.new, h.near.step (fun _ h => h) hn⟩
theorem SpdS.row' {ms : List ByteArray} {cor full : Bool} {c : Sq} {nx : Nat} {W0 : World} {vt : Value} {hs : List Value} {T : List (List Int)} {dy : Int} {A : List Sq} {T' : List (List Int)} {w : World} (h : SpdS ms cor full c nx W0 vt hs T dy 2 A T' w) : SpdS ms cor full c nx W0 vt hs T (dy + 1) (-1) A T' w :=
  ⟨h.fr, h.row, h.wd, h.mks, h.nod, h.new, h.near.row⟩
/-- a square more -/
theorem SpdS.hit {ms : List ByteArray} {cor full : Bool} {c : Sq} {nx : Nat} {W0 : World} {vt : Value} {hs : List Value} {T : List (List Int)} {dy dx : Int} {A : List Sq} {T' : List (List Int)} {w : World} (h : SpdS ms cor full c nx W0 vt hs T dy dx A T' w) (hnx : 0 < nx) {q : Sq} {g n cp : Nat}
    (hc : CnI ms full q) (hm : ¬ 0 < mrk T' q) (ha : Adj cor c q) (h1 : (q.1 : Int) = c.1 + dx) (h2 : (q.2 : Int) = c.2 + dy) (he : hs.getD q.2 .nilIface = .slice (some ⟨g, 0, none⟩) n cp) :
    SpdS ms cor full c nx W0 vt hs T dy (dx + 1) (A ++ [q]) (putT T' q (nx : Int)) (w.setCell ⟨g, q.1, none⟩ (.int .i64 (nx : Int))) := by
  obtain ⟨hr, hg⟩ := h.row.put (k := q.1) (i := q.2) (by rw [h.wd.1]; exact hc.2.1) he (nx : Int)
  have hmk := mrk_put h.wd hc.1 hc.2.1 (nx : Int)
  have hqA : q ∉ A := fun hqa => hm (by rw [h.mks, if_pos hqa]; omega)
  have hgO : W0.heap.size ≤ g := by
    have := (h.row.2.2.1 q.2 (by rw [h.wd.1]; exact hc.2.1))
    rw [he] at this
    exact (this.lt g rfl).1
  refine ⟨⟨hg.os.trans h.fr.os, hg.tape.trans h.fr.tape, hg.output.trans h.fr.output, Nat.le_trans h.fr.size hg.size, fun k hk => by
    rw [hg.block k (Nat.lt_of_lt_of_le hk h.fr.size) (fun e => by have := Option.some.inj e; omega)]
    exact h.fr.block k hk⟩, hr, putT_wide h.wd q _, fun r => ?_, ?_, fun r hr' => ?_, ?_⟩
  · rw [hmk, h.mks]
    by_cases e : r = q
    · subst e; simp
    · rw [if_neg e]; simp [e]
  · rw [List.nodup_append]
    exact ⟨h.nod, by simp, fun a ha2 b hb e => by simp at hb; exact hqA (hb ▸ e ▸ ha2)⟩
  · rcases List.mem_append.1 hr' with h3 | h3
    · exact h.new r h3
    · simp at h3; subst h3
      exact ⟨hc, fun hp => hm (by rw [h.mks, if_neg hqA]; exact hp), ha⟩
  · refine h.near.step (fun r hr' => ?_) (fun r _ _ h3 h4 => ?_)
    · show 0 < mrk (putT T' q _) r
      rw [hmk]; split
      · omega
      · exact hr'
    · show 0 < mrk (putT T' q _) r
      have : r = q := Prod.ext (by omega) (by omega)
      rw [hmk, if_pos this]; omega
theorem set_offS {w : World} {g o k : Nat} {v : Value} (h : k ≠ g) : (w.setCell ⟨g, o, none⟩ v).heap[k]? = w.heap[k]? := by
  simp only [World.setCell, Array.getElem?_modify]
  rw [if_neg (fun e => h e.symm)]
def SpdP (ms : List ByteArray) (cor full : Bool) (c : Sq) (nx : Nat) (W0 : World) (vt : Value) (hs : List Value) (T : List (List Int)) (e : Ending) (w' : World) : Prop :=
  ∃ A T', e = .returned (.bool (!A.isEmpty)) ∧ SpdS ms cor full c nx W0 vt hs T 2 (-1) A T' w'
theorem row_form {O W H : Nat} {w : World} {v : Value} {T : List (List Int)} {hs : List Value} (h : HasH O w v T hs) (hw : WideT W H T) {q : Sq} (h1 : q.1 < W) (h2 : q.2 < H) :
    ∃ go co g c, v = .slice (some ⟨go, 0, none⟩) H co ∧ hs.getD q.2 .nilIface = .slice (some ⟨g, 0, none⟩) W c ∧ w.cell? ⟨go, q.2, none⟩ = some (.slice (some ⟨g, 0, none⟩) W c) ∧ w.cell? ⟨g, q.1, none⟩ = some (.int .i64 (mrk T q)) ∧ w.frozen? ⟨g, q.1, none⟩ = false := by
  obtain ⟨go, co, rfl, -⟩ := h.form (by rw [hw.1]; omega)
  have hr := h.2.2.1 q.2 (by rw [hw.1]; exact h2)
  have hl := hw.2 _ h2
  obtain ⟨g, c, he, -, cur, hcur⟩ := hr.form (by rw [hl]; omega)
  have hc := h.cellsAt q.2 (by rw [hw.1]; exact h2)
  rw [hl] at he
  rw [he] at hc hr
  refine ⟨go, co, g, c, by rw [hw.1], he, hc, ?_, by simp [World.frozen?, hcur]⟩
  exact hr.cellsAt q.1 (by rw [hl]; exact h1)

set_option maxRecDepth 100000 in
set_option maxHeartbeats 16000000 in
theorem spreadR_any (ms : List ByteArray) (vm vt : Value) (T : List (List Int)) (hs : List Value) (c : Sq) (cor full : Bool) (nx : Nat) (W0 w : World) (h : StrsAt W0 vm ms) (hb : Below W0.heap.size W0 w) (hT : HasH W0.heap.size w vt T hs) (hwd : WideT (wideI ms) ms.length T)
    (hW : wideI ms ≤ 1000) (hH : ms.length ≤ 1000) (hcx : c.1 < wideI ms) (hcy : c.2 < ms.length) (hnx : 0 < nx) (hnx2 : nx ≤ 1000000) :
    Calls Tryd.prog 40 #[vm, vt, .agg #[.int .i64 (c.1 : Int), .int .i64 (c.2 : Int)], .bool full, .bool cor, .int .i64 (nx : Int)] w (SpdP ms cor full c nx W0 vt hs T) := by
  obtain ⟨pm, cm, hve, -⟩ := id h
  obtain ⟨cx, cy⟩ := c
  simp only at hcx hcy ⊢
  obtain ⟨W, hWn⟩ : ∃ W, wideI ms = W := ⟨_, rfl⟩
  obtain ⟨H, hHn⟩ : ∃ H, ms.length = H := ⟨_, rfl⟩
  have hw0 : (rowB ms 0).size = W := by rw [← hWn]; unfold wideI; rw [if_neg (by omega)]
  have hsl := hT.sliceM
  rw [hwd.1, hHn] at hsl
  obtain ⟨pt, ct, hvt⟩ := hsl
  rw [hHn] at hve hH hcy
  rw [hWn] at hW hcx
  subst hve
  subst hvt
  have hba : Below w.heap.size w (w.alloc (.cells #[.int .i64 (cx : Int), .int .i64 (cy : Int)] 56)) := (Below.refl _ _).alloc (Nat.le_refl _) _
  have hst : SpdS ms cor full (cx, cy) nx W0 (.slice pt H ct) hs T (-1) (-1) [] T (w.alloc (.cells #[.int .i64 (cx : Int), .int .i64 (cy : Int)] 56)) :=
    ⟨hb.trans (hba.mono hb.size), hT.below hba (Nat.le_refl _), hwd, fun q => by simp, List.nodup_nil, fun q hq => by simp at hq, NearQ.start⟩
  have hbox := heap_alloc_new w (.cells #[.int .i64 (cx : Int), .int .i64 (cy : Int)] 56)
  have hgw : W0.heap.size ≤ w.heap.size := hb.size
  -- the box lies behind all rows: no row is written into it
  have hrows : ∀ i, i < H → ∀ k, (hs.getD i .nilIface).ownBlock = some k → k < w.heap.size := fun i hi k hk => ((hT.2.2.1 i (by rw [hwd.1, hHn]; exact hi)).lt k hk).2
  obtain ⟨gb, hgb⟩ : ∃ gb, w.heap.size = gb := ⟨_, rfl⟩
  rw [hgb] at hbox hrows
  have HST := Lib.hid h
  have HWN := Lib.hid hWn
  have HHN := Lib.hid hHn
  have HS0 := Lib.hid hst
  have HBOX := Lib.hid hbox
  have HROWS := Lib.hid hrows
  have HGB := Lib.hid hgb
  have HW0 := Lib.hid hw0
  have HAT := Lib.hid (fun wx (hx : Below W0.heap.size W0 wx) x y => fullR_any (.slice pm H cm) ms x y wx (h.below hx (Nat.le_refl _)))
  unfold Plain at HAT
  clear h hb hT hwd hWn hHn hba hst hbox hgw hrows hgb hw0
  go_enter Tryd.func40, Tryd.ntmps40
  go_wp2_with fail
  rw [HGB.out]
  go_loopw [13, 14] (fun s13 s14 wr => ∃ (dy : Int) (A : List Sq) (T' : List (List Int)), -1 ≤ dy ∧ dy ≤ 2 ∧ s14 = .int .i64 dy ∧ s13 = .bool (!A.isEmpty) ∧ wr.heap[gb]? = some (.cells #[.int .i64 (cx : Int), .int .i64 (cy : Int)] 56 (0, 0)) ∧ SpdS ms cor full (cx, cy) nx W0 (.slice pt H ct) hs T dy (-1) A T' wr) (fun _ s14 _ => (2 - intOf s14).toNat)
  case atStart => exact ⟨-1, [], T, by omega, by omega, rfl, rfl, HBOX.out, HS0.out⟩
  case round =>
    obtain ⟨dy, A, T', hd0, hd1, rfl, rfl, hbx, hs1⟩ := hrel
    have HBX := Lib.hid hbx
    have HS1 := Lib.hid hs1
    clear hbx hs1
    by_cases hdy : dy < 2
    · have qd : decide (dy ≤ 1) = true := decide_eq_true (by omega)
      go_wp2_with fail
      go_loopw [13, 15] (fun s13 s15 wr => ∃ (dx : Int) (A : List Sq) (T' : List (List Int)), -1 ≤ dx ∧ dx ≤ 2 ∧ s15 = .int .i64 dx ∧ s13 = .bool (!A.isEmpty) ∧ wr.heap[gb]? = some (.cells #[.int .i64 (cx : Int), .int .i64 (cy : Int)] 56 (0, 0)) ∧ SpdS ms cor full (cx, cy) nx W0 (.slice pt H ct) hs T dy dx A T' wr) (fun _ s15 _ => (2 - intOf s15).toNat)
      case atStart => exact ⟨-1, A, T', by omega, by omega, rfl, rfl, HBX.out, HS1.out⟩
      case round =>
        obtain ⟨dx, A2, T2, he0, he1, rfl, rfl, hbx, hs2⟩ := hrel
        have HBX2 := Lib.hid hbx
        have HS2 := Lib.hid hs2
        by_cases hdx : dx < 2
        · obtain ⟨c0, c1⟩ := box_cells hbx
          obtain ⟨qx, hqx⟩ : ∃ qx, (cx : Int) + dx = qx := ⟨_, rfl⟩
          obtain ⟨qy, hqy⟩ : ∃ qy, (cy : Int) + dy = qy := ⟨_, rfl⟩
          have hqb : -1 ≤ qx ∧ qx ≤ 1000 ∧ -1 ≤ qy ∧ qy ≤ 1000 := by omega
          obtain ⟨hqb0, hqb1, hqb2, hqb3⟩ := hqb
          have HQX := Lib.hid hqx
          have HQY := Lib.hid hqy
          have HD := Lib.hid (show (-1 ≤ dx ∧ dx ≤ 1) ∧ (-1 ≤ dy ∧ dy ≤ 1) by omega)
          have qe : decide (dx ≤ 1) = true := decide_eq_true (by omega)
          obtain ⟨bk, off, rfl, hcell⟩ := (HST.out.below hs2.fr (Nat.le_refl _)).at (i := 0) (by rw [HHN.out]; omega)
          rw [Nat.add_zero] at hcell
          obtain ⟨s0, hs0⟩ : ∃ s, rowB ms 0 = s := ⟨_, rfl⟩
          rw [hs0] at hcell
          have hsW : s0.size = W := by rw [← hs0]; exact HW0.out
          obtain ⟨mm, hmm⟩ : ∃ mm, dx * dy = mm := ⟨_, rfl⟩
          have hmb : -1 ≤ mm ∧ mm ≤ 1 := by
            have h1 := HD.out
            rcases (show dx = -1 ∨ dx = 0 ∨ dx = 1 by omega) with h | h | h <;> rw [h] at hmm <;> omega
          obtain ⟨hmb0, hmb1⟩ := hmb
          have HMM := Lib.hid hmm
          have qW : IntKind.i64.wrap mm = mm := IntWalk.i64_in _ (by omega)
          have HQM : Hid (IntKind.i64.wrap (dx * dy) = mm) := by unfold Hid; rw [hmm]; exact qW
          have HSW := Lib.hid hsW
          have HCELL := Lib.hid hcell
          obtain ⟨ins, hins⟩ : ∃ b, (decide (0 ≤ qy) && decide (qy < (H : Int)) && decide (0 ≤ qx) && decide (qx < (W : Int))) = b := ⟨_, rfl⟩
          have HINS := Lib.hid hins
          obtain ⟨sk, hsk⟩ : ∃ b, (!ins || (!(mm == 0) && !cor)) = b := ⟨_, rfl⟩
          have HSK := Lib.hid hsk
          clear hbx hs2 hs0 hsW hmm qW hcell hins hsk
          go_upto_block 3 with fail
          go_cut [13] (fun s13 wx => ∃ (A : List Sq) (T' : List (List Int)), s13 = .bool (!A.isEmpty) ∧ wx.heap[gb]? = some (.cells #[.int .i64 (cx : Int), .int .i64 (cy : Int)] 56 (0, 0)) ∧ SpdS ms cor full (cx, cy) nx W0 (.slice pt H ct) hs T dy (dx + 1) A T' wx)
          case rest =>
            obtain ⟨A3, T3, rfl, hbx3, hs3⟩ := hcut
            have HBX3 := Lib.hid hbx3
            have HS3 := Lib.hid hs3
            clear hbx3 hs3
            go_wp2_with fail
            go_roundw
            case rel => exact ⟨dx + 1, A3, T3, by omega, by omega, by go_num, rfl, HBX3.out, HS3.out⟩
            case measure => simp [intOf]; omega
          case first =>
          go_upto_region 10 with fail
          clear hqx hqy c0 c1
          go_cut [18] (fun s wx => s = .bool ins ∧ wx = wr)
          case first =>
            have hcell := HCELL.out
            have hsW := HSW.out
            by_cases hA : 0 ≤ qy
            · have qA : decide (0 ≤ qy) = true := decide_eq_true hA
              by_cases hB : qy < (H : Int)
              · have qB : decide (qy < (H : Int)) = true := decide_eq_true hB
                by_cases hC : 0 ≤ qx
                · have qC : decide (0 ≤ qx) = true := decide_eq_true hC
                  have q0H : 0 < H := by omega
                  by_cases hD : qx < (W : Int)
                  · have qD : decide (qx < (W : Int)) = true := decide_eq_true hD
                    have HX := Lib.hid (show 0 ≤ qy ∧ qy < (H : Int) ∧ 0 ≤ qx ∧ qx < (W : Int) from ⟨hA, hB, hC, hD⟩)
                    clear hA hB hC hD
                    go_wp2_with fail
                    go_meet
                    exact ⟨by have hx := HX.out; rw [← HINS.out]; simp; omega, rfl⟩
                  · have qD : decide (qx < (W : Int)) = false := decide_eq_false hD
                    have HX := Lib.hid (show 0 ≤ qy ∧ qy < (H : Int) ∧ 0 ≤ qx ∧ ¬ qx < (W : Int) from ⟨hA, hB, hC, hD⟩)
                    clear hA hB hC hD
                    go_wp2_with fail
                    go_meet
                    exact ⟨by have hx := HX.out; rw [← HINS.out]; simp; omega, rfl⟩
                · have qC : decide (0 ≤ qx) = false := decide_eq_false hC
                  have HX := Lib.hid hC
                  clear hA hB hC
                  go_wp2_with fail
                  go_meet
                  exact ⟨by have hx := HX.out; rw [← HINS.out]; simp; omega, rfl⟩
              · have qB : decide (qy < (H : Int)) = false := decide_eq_false hB
                have HX := Lib.hid hB
                clear hA hB
                go_wp2_with fail
                go_meet
                exact ⟨by have hx := HX.out; rw [← HINS.out]; simp; omega, rfl⟩
            · have qA : decide (0 ≤ qy) = false := decide_eq_false hA
              have HX := Lib.hid hA
              clear hA
              go_wp2_with fail
              go_meet
              exact ⟨by have hx := HX.out; rw [← HINS.out]; simp; omega, rfl⟩
          case rest =>
          obtain ⟨hs18, hwx⟩ := hcut
          subst hs18
          rw [hwx]
          clear hwx
          go_upto_region 11 with fail
          go_cut [66] (fun s wx => s = .bool sk ∧ wx = wr)
          case first =>
            have qM := HQM.out
            cases ins with
            | false =>
              go_wp2_with fail
              go_meet
              exact ⟨by rw [← HSK.out]; simp, rfl⟩
            | true =>
              by_cases hm0 : mm = 0
              · have qm : (mm == 0) = true := beq_iff_eq.2 hm0
                have qm2 : (mm != 0) = false := by rw [bne, qm]; rfl
                have HM0 := Lib.hid hm0
                clear hm0
                go_wp2_with fail
                go_meet
                exact ⟨by rw [← HSK.out, HM0.out]; rfl, rfl⟩
              · have qm : (mm == 0) = false := beq_eq_false_iff_ne.2 hm0
                have qm2 : (mm != 0) = true := by rw [bne, qm]; rfl
                have HM0 := Lib.hid qm
                clear hm0
                cases cor with
                | true =>
                  go_wp2_with fail
                  go_meet
                  exact ⟨by rw [← HSK.out]; simp, rfl⟩
                | false =>
                  go_wp2_with fail
                  go_meet
                  exact ⟨by rw [← HSK.out, HM0.out]; rfl, rfl⟩
          case rest =>
          obtain ⟨hs66, hwx⟩ := hcut
          subst hs66
          rw [hwx]
          clear hwx
          cases sk with
          | true =>
            have HN : Hid (SpdS ms cor full (cx, cy) nx W0 (.slice pt H ct) hs T dy (dx + 1) A2 T2 wr) := HS2.out.skip fun r ha hc h1 h2 => by
              exfalso
              have hx1 : (r.1 : Int) = qx := h1.trans HQX.out
              have hy1 : (r.2 : Int) = qy := h2.trans HQY.out
              have hb1 := hc.1
              have hb2 := hc.2.1
              rw [HWN.out] at hb1
              rw [HHN.out] at hb2
              have hi : ins = true := by rw [← HINS.out]; simp; omega
              have hk := HSK.out
              rw [hi] at hk
              have hm : ¬ mm = 0 ∧ cor = false := by simpa using hk
              rw [hm.2] at ha
              exact hm.1 (HMM.out.symm.trans (adj_dxy' h1 h2 ha))
            go_wp2_with fail
            go_meet
            exact ⟨A2, T2, rfl, HBX2.out, HN.out⟩
          | false =>
            have hk := HSK.out
            have hki : ins = true ∧ (mm = 0 ∨ cor = true) := by
              cases ins <;> simp at hk
              refine ⟨rfl, ?_⟩
              by_cases e : mm = 0
              · exact Or.inl e
              · exact Or.inr (hk e)
            have hi := HINS.out
            rw [hki.1] at hi
            simp at hi
            obtain ⟨q, hq1, hq2⟩ : ∃ q : Sq, (q.1 : Int) = qx ∧ (q.2 : Int) = qy := ⟨(qx.toNat, qy.toNat), by show ((qx.toNat : Nat) : Int) = qx; omega, by show ((qy.toNat : Nat) : Int) = qy; omega⟩
            have hqW : q.1 < wideI ms ∧ q.2 < ms.length := by rw [HWN.out, HHN.out]; omega
            obtain ⟨go, co, g, cp, hvt, he, hc2, hc1, hf1⟩ := row_form HS2.out.row HS2.out.wd hqW.1 hqW.2
            have hgb : g ≠ gb := fun e => by have := HROWS.out q.2 (by rw [← HHN.out]; exact hqW.2) g (by rw [he]; rfl); omega
            rw [HHN.out] at hvt
            obtain ⟨rfl, rfl⟩ : pt = some ⟨go, 0, none⟩ ∧ ct = co := by simpa using hvt
            rw [HWN.out] at hc2
            obtain ⟨x, y⟩ := q
            simp only at hq1 hq2 hqW he hc2 hc1 hf1
            subst hq1
            subst hq2
            have hq1 : (x : Int) = (x : Int) := rfl
            have hq2 : (y : Int) = (y : Int) := rfl
            obtain ⟨z, hz⟩ : ∃ z, mrk T2 (x, y) = z := ⟨_, rfl⟩
            rw [hz] at hc1
            obtain ⟨f, hf⟩ : ∃ f, fullI ms (x : Int) (y : Int) = f := ⟨_, rfl⟩
            have hfa := HAT.out wr HS2.out.fr (x : Int) (y : Int)
            rw [hf] at hfa
            have HFA := Lib.hid hfa
            have HAL : Hid (cor = true ∨ dx * dy = 0) := by unfold Hid; rw [HMM.out]; exact hki.2.symm
            have hxW : x < W := by have := hqW.1; rw [HWN.out] at this; exact this
            have hyH : y < H := by have := hqW.2; rw [HHN.out] at this; exact this
            have HZ := Lib.hid hz
            have HF := Lib.hid hf
            have HE := Lib.hid he
            have HQ1 := Lib.hid hq1
            have HQ2 := Lib.hid hq2
            have HQW := Lib.hid hqW
            have HGN := Lib.hid hgb
            obtain ⟨t, ht⟩ : ∃ t, (decide (0 < z) || (f != full)) = t := ⟨_, rfl⟩
            have HTT := Lib.hid ht
            clear hk hki hi hfa hz hf he hqW hgb hvt ht hq1 hq2
            go_upto_region 12 with fail
            go_cut [82] (fun s wx => s = .bool t ∧ wx = wr)
            case first =>
              by_cases hzp : 0 < z
              · have qz : decide (0 < z) = true := decide_eq_true hzp
                have HZP := Lib.hid hzp
                clear hzp
                go_wp2_with fail
                go_meet
                exact ⟨by rw [← HTT.out, decide_eq_true HZP.out]; rfl, rfl⟩
              · have qz : decide (0 < z) = false := decide_eq_false hzp
                have HZP := Lib.hid hzp
                clear hzp
                go_wp2_with fail
                refine HFA.out.mono ?_
                rintro e w5 ⟨rfl, hw⟩
                rw [hw]
                clear hw w5
                go_wp2_with fail
                go_meet
                exact ⟨by have hx := HZP.out; rw [← HTT.out, decide_eq_false (by omega : ¬ 0 < z)]; rfl, rfl⟩
            case rest =>
            obtain ⟨hs82, hwx⟩ := hcut
            subst hs82
            rw [hwx]
            clear hwx
            cases t with
            | true =>
              have HN : Hid (SpdS ms cor full (cx, cy) nx W0 (.slice (some ⟨go, 0, none⟩) H ct) hs T dy (dx + 1) A2 T2 wr) := HS2.out.skip fun r ha hc h1 h2 => by
                have hr : r = (x, y) := Prod.ext (by have h3 := HQX.out; have h4 := HQ1.out; simp only at h1; show r.1 = x; omega) (by have h3 := HQY.out; have h4 := HQ2.out; simp only at h2; show r.2 = y; omega)
                have hk := HTT.out
                have hfc : f = full := by rw [← HF.out]; have := hc.2.2; rw [hr] at this; exact this
                rw [hfc] at hk
                rw [hr, HZ.out]
                simpa using hk
              go_wp2_with fail
              go_meet
              exact ⟨A2, T2, rfl, HBX2.out, HN.out⟩
            | false =>
              have hk := HTT.out
              have hzf : ¬ 0 < z ∧ f = full := by simpa using hk
              have HN := Lib.hid (HS2.out.hit hnx (q := (x, y)) (g := g) (n := wideI ms) (cp := cp) ⟨HQW.out.1, HQW.out.2, HF.out.trans hzf.2⟩ (by rw [HZ.out]; exact hzf.1) (adj_dxy HD.out.1 HD.out.2 (HQ1.out.trans HQX.out.symm) (HQ2.out.trans HQY.out.symm) HAL.out) (HQ1.out.trans HQX.out.symm) (HQ2.out.trans HQY.out.symm) HE.out)
              have HBX4 : Hid ((wr.setCell ⟨g, x, none⟩ (.int .i64 (nx : Int))).heap[gb]? = some (.cells #[.int .i64 (cx : Int), .int .i64 (cy : Int)] 56 (0, 0))) := by unfold Hid; rw [set_offS (fun e => HGN.out e.symm)]; exact HBX2.out
              clear hk hzf
              go_wp2_with fail
              go_meet
              exact ⟨A2 ++ [(x, y)], _, by simp, HBX4.out, HN.out⟩
        · obtain rfl : dx = 2 := by omega
          clear hbx hs2
          have HS4 := Lib.hid HS2.out.row'
          go_wp2_with fail
          go_roundw
          case rel => exact ⟨dy + 1, A2, T2, by omega, by omega, by go_num, rfl, HBX2.out, HS4.out⟩
          case measure => simp [intOf]; omega
    · obtain rfl : dy = 2 := by omega
      go_wp2_with fail
      go_ret
      exact ⟨A, T', rfl, HS1.out⟩
end Go.Proofs.YtoheffkiohfmoaaDoor
