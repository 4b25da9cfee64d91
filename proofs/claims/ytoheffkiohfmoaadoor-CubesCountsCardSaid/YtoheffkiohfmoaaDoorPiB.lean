/-
  The document's pieces by a contract: how many squares are the first of their pieces (of pieces without the rim).
-/
import Derived.Test.YtoheffkiohfmoaaDoorPiA
set_option linter.unusedSimpArgs false
set_option linter.unusedVariables false
namespace Go.Proofs.YtoheffkiohfmoaaDoor
open Go Go.RowKit Go.Maps FL

theorem zeros_wide {ms : List ByteArray} (hr : ∀ j, j < ms.length → (rowB ms j).size = wideI ms) : WideT (wideI ms) ms.length (zerosT ms ms.length) := by
  refine ⟨zerosT_len _ _, fun y hy => ?_⟩
  unfold zerosT
  rw [List.getD_eq_getElem?_getD, List.getElem?_map, List.getElem?_range hy]
  simp [hr y hy]
theorem zeros_mark {ms : List ByteArray} (y : Nat) (q : Sq) : mrk (zerosT ms y) q = 0 := by
  unfold mrk zerosT
  rw [List.getD_eq_getElem?_getD, List.getD_eq_getElem?_getD, List.getElem?_map]
  by_cases h : q.2 < y
  · rw [List.getElem?_range h]
    simp [List.getElem?_replicate]
    split <;> simp
  · have e : (List.range y)[q.2]? = none := List.getElem?_eq_none (by simp; omega)
    rw [e]; simp
theorem marks_start {ms : List ByteArray} {cor full : Bool} (hr : ∀ j, j < ms.length → (rowB ms j).size = wideI ms) : MarkK ms cor full 0 0 (zerosT ms ms.length) :=
  ⟨zeros_wide hr, fun q _ _ => by
    rw [zeros_mark]
    refine ⟨fun h => absurd h (by omega), fun ⟨r, h, _⟩ => absurd h (by omega)⟩, fun q => by rw [zeros_mark]; exact Int.le_refl _, Nat.le_refl _⟩
theorem rim_step {ms : List ByteArray} {cor full : Bool} {p : Sq} {nx : Nat} {T : List (List Int)} {G : List Sq} (h : AgS ms cor full p nx T G) {u v : Nat} {rim : Bool} (hu : u < wideI ms) (hr : rim = true ↔ ∃ q : Sq, q ∈ G ∧ q.2 * wideI ms + q.1 < v * wideI ms + u ∧ RimI ms q) :
    (rim || (rimB ms (u, v) && (mrk T (u, v) == (nx : Int)))) = true ↔ ∃ q : Sq, q ∈ G ∧ q.2 * wideI ms + q.1 < v * wideI ms + (u + 1) ∧ RimI ms q := by
  rw [Bool.or_eq_true, hr, Bool.and_eq_true, rimB_iff, beq_iff_eq, h.eqn]
  constructor
  · rintro (⟨q, h1, h2, h3⟩ | ⟨h1, h2⟩)
    · exact ⟨q, h1, by omega, h3⟩
    · exact ⟨(u, v), h2, by simp only; omega, h1⟩
  · rintro ⟨q, h1, h2, h3⟩
    rcases Nat.lt_or_ge (q.2 * wideI ms + q.1) (v * wideI ms + u) with h4 | h4
    · exact Or.inl ⟨q, h1, h4, h3⟩
    · have := place_inj (p := q) (q := (u, v)) (h.con q h1).right.1 hu (by show q.2 * wideI ms + q.1 = v * wideI ms + u; omega)
      rw [this] at h1 h3
      exact Or.inr ⟨h3, h1⟩
theorem HasH.apart {O : Nat} {w : World} {v : Value} {T : List (List Int)} {hs : List Value} (h : HasH O w v T hs) {i : Nat} (hi : i < T.length) {g n c : Nat} (he : hs.getD i .nilIface = .slice (some ⟨g, 0, none⟩) n c) : O ≤ g := by
  have := h.2.2.1 i hi
  rw [he] at this
  exact (this.lt g rfl).1

set_option maxRecDepth 100000 in
set_option maxHeartbeats 16000000 in
theorem pieces_any (ms : List ByteArray) (vm : Value) (cor full inner : Bool) (w : World) (h : StrsAt w vm ms) (hW : wideI ms ≤ 1000) (hH : ms.length ≤ 1000) (hrect : ∀ j, j < ms.length → (rowB ms j).size = wideI ms) (hsz : ∀ j, (rowB ms j).size ≤ 1000) :
    Calls Tryd.prog 27 #[vm, .bool full, .bool cor, .bool inner] w fun e w' => e = .returned (.int .i64 ((cntI ms cor full inner (ms.length * wideI ms) : Nat) : Int)) ∧ Below w.heap.size w w' := by
  obtain ⟨pm, cm, hve, -⟩ := id h
  obtain ⟨W, hWn⟩ : ∃ W, wideI ms = W := ⟨_, rfl⟩
  obtain ⟨H, hHn⟩ : ∃ H, ms.length = H := ⟨_, rfl⟩
  have HGR := Lib.hid (gridR_any ms vm w h hsz hH)
  unfold GrdP at HGR
  have hWH : H * W ≤ 1000000 := by rw [← hWn, ← hHn]; exact Nat.mul_le_mul hH hW
  have HSP := Lib.hid (fun vt T hs (c : Sq) nx wx (hb : Below w.heap.size w wx) hT hwd hcx hcy hnx hnx2 => spreadR_any ms vm vt T hs c cor full nx w wx h hb hT hwd hW hH hcx hcy hnx hnx2)
  have HST := Lib.hid h
  have HWN := Lib.hid hWn
  have HHN := Lib.hid hHn
  have HMS := Lib.hid (marks_start (cor := cor) (full := full) hrect)
  have HRE := Lib.hid hrect
  have HFU := Lib.hid (fun wx (hx : Below w.heap.size w wx) x y => fullR_any vm ms x y wx (h.below hx (Nat.le_refl _)))
  unfold Plain at HFU
  have HWH := Lib.hid hWH
  rw [hHn] at hve hH
  rw [hWn] at hW
  subst hve
  have HSTR : Hid (∀ wx, Below w.heap.size w wx → ∀ y, y < H → ∃ b off s, pm = some ⟨b, off, none⟩ ∧ wx.cell? ⟨b, off + y, none⟩ = some (.string s) ∧ s.size = W) := fun wx hx y hy => by
    obtain ⟨b, off, e1, e2⟩ := (h.below hx (Nat.le_refl _)).at (i := y) (by rw [hHn]; exact hy)
    exact ⟨b, off, _, e1, e2, by rw [hrect y (by rw [hHn]; exact hy)]; exact hWn⟩
  clear h hWn hHn hrect hsz hWH
  go_enter Tryd.func27, Tryd.ntmps27
  go_wp2_with fail
  refine HGR.out.mono ?_
  rintro e w1 ⟨vt, hs, rfl, hb1, hT1⟩
  have hsl := hT1.sliceM
  rw [zerosT_len, HHN.out] at hsl
  obtain ⟨pt, ct, hvt⟩ := hsl
  subst hvt
  have HB1 := Lib.hid hb1
  have HT1 := Lib.hid hT1
  clear hb1 hT1 HGR
  go_wp2_with fail
  go_loopw [10, 11, 12] (fun s10 s11 s12 wr => ∃ (y nx : Nat) (T : List (List Int)), y ≤ H ∧ s12 = .int .i64 (y : Int) ∧ s10 = .int .i64 (nx : Int) ∧ s11 = .int .i64 ((cntI ms cor full inner (y * wideI ms) : Nat) : Int) ∧ Below w.heap.size w wr ∧ HasH w.heap.size wr (.slice pt H ct) T hs ∧ MarkK ms cor full (y * wideI ms) nx T) (fun _ _ s12 _ => H - (intOf s12).toNat)
  case atStart => exact ⟨0, 0, _, Nat.zero_le _, rfl, rfl, by rw [Nat.zero_mul, cntI_zero]; rfl, HB1.out, HT1.out, by rw [Nat.zero_mul]; exact HMS.out⟩
  case round =>
    obtain ⟨y, nx, T, hy, rfl, rfl, rfl, hb, hT, hM⟩ := hrel
    have HB := Lib.hid hb
    have HT := Lib.hid hT
    have HM := Lib.hid hM
    clear hb hT hM
    by_cases hyl : y < H
    · have hyW : y * W + W ≤ H * W := by
        have := Nat.mul_le_mul_right W (show y + 1 ≤ H by omega)
        rw [Nat.succ_mul] at this; exact this
      have HYW := Lib.hid hyW
      clear hyW
      go_wp2_with fail
      go_loopw [10, 11, 13] (fun s10 s11 s13 wr => ∃ (x nx : Nat) (T : List (List Int)), x ≤ W ∧ s13 = .int .i64 (x : Int) ∧ s10 = .int .i64 (nx : Int) ∧ s11 = .int .i64 ((cntI ms cor full inner (y * wideI ms + x) : Nat) : Int) ∧ Below w.heap.size w wr ∧ HasH w.heap.size wr (.slice pt H ct) T hs ∧ MarkK ms cor full (y * wideI ms + x) nx T) (fun _ _ s13 _ => W - (intOf s13).toNat)
      case atStart => exact ⟨0, nx, T, Nat.zero_le _, rfl, rfl, by rw [Nat.add_zero], HB.out, HT.out, by rw [Nat.add_zero]; exact HM.out⟩
      case round =>
        clear HB HT HM
        obtain ⟨x, nx, T, hx, rfl, rfl, rfl, hb, hT, hM⟩ := hrel
        obtain ⟨bk, off, s, rfl, hcell, hsW⟩ := HSTR.out wr hb y hyl
        have HB := Lib.hid hb
        have HT := Lib.hid hT
        have HM := Lib.hid hM
        have HCELL := Lib.hid hcell
        have HSW := Lib.hid hsW
        obtain ⟨cn, hcn⟩ : ∃ cn, cntI ms cor full inner (y * wideI ms + x) = cn := ⟨_, rfl⟩
        have hnx6 : nx ≤ 1000000 := by have h1 := hM.few; have h2 := HYW.out; have h3 := HWH.out; rw [HWN.out] at h1; omega
        have hcn6 : cn ≤ 1000000 := by have h1 := cntI_le ms cor full inner (y * wideI ms + x); rw [hcn, HWN.out] at h1; have h2 := HYW.out; have h3 := HWH.out; omega
        rw [hcn]
        have HCN := Lib.hid hcn
        have hcell2 := hcell
        clear hb hT hM hcn hcell2
        by_cases hxl : x < W
        · have hnx7 : nx + 1 ≤ 1000000 := by have h1 := HM.out.few; have h2 := HYW.out; have h3 := HWH.out; rw [HWN.out] at h1; omega
          have hqx : decide ((x : Int) < (s.size : Int)) = true := decide_eq_true (by rw [hsW]; omega)
          have hqx2 : decide (x < s.size) = true := decide_eq_true (by omega)
          have hxW : x < wideI ms := by rw [HWN.out]; exact hxl
          have hyH : y < ms.length := by rw [HHN.out]; exact hyl
          obtain ⟨f, hf⟩ : ∃ f, fullI ms (x : Int) (y : Int) = f := ⟨_, rfl⟩
          have hfu := HFU.out wr HB.out (x : Int) (y : Int)
          rw [hf] at hfu
          obtain ⟨go, co, g, cp, hvt, he, hc2, hc1, hf1⟩ := row_form HT.out HM.out.wd (q := (x, y)) hxW hyH
          rw [HHN.out] at hvt
          obtain ⟨rfl, rfl⟩ : pt = some ⟨go, 0, none⟩ ∧ ct = co := by simpa using hvt
          simp only at he hc2 hc1 hf1
          rw [HWN.out] at hc2
          obtain ⟨z, hz⟩ : ∃ z, mrk T (x, y) = z := ⟨_, rfl⟩
          rw [hz] at hc1
          have HFUL := Lib.hid hfu
          have HF := Lib.hid hf
          have HE := Lib.hid he
          have HZ := Lib.hid hz
          have HXW := Lib.hid hxW
          have HYH := Lib.hid hyH
          have HC1 := Lib.hid hc1
          have HC2 := Lib.hid hc2
          have HF1 := Lib.hid hf1
          -- a square that is passed over
          have HSKIP : Hid ((¬ CnI ms full (x, y) ∨ 0 < mrk T (x, y)) → MarkK ms cor full (y * wideI ms + (x + 1)) nx T ∧ cntI ms cor full inner (y * wideI ms + (x + 1)) = cn) := fun hn =>
            ⟨HM.out.same hxW hyH hn, by rw [← Nat.add_assoc, cntI_no hxW (tell_no HM.out hxW hyH hn)]; exact HCN.out⟩
          clear hfu hf hvt he hz hxW hyH hc1 hc2 hf1
          go_upto_block 3 with fail
          go_cut [10, 11] (fun s10 s11 wx => ∃ (nx cn : Nat) (T : List (List Int)), s10 = .int .i64 (nx : Int) ∧ s11 = .int .i64 (cn : Int) ∧ cntI ms cor full inner (y * wideI ms + (x + 1)) = cn ∧ Below w.heap.size w wx ∧ HasH w.heap.size wx (.slice (some ⟨go, 0, none⟩) H ct) T hs ∧ MarkK ms cor full (y * wideI ms + (x + 1)) nx T)
          case rest =>
            obtain ⟨nx3, cn3, T3, rfl, rfl, hcn3, hb3, hT3, hM3⟩ := hcut
            have HCN3 := Lib.hid hcn3
            have HB3 := Lib.hid hb3
            have HT3 := Lib.hid hT3
            have HM3 := Lib.hid hM3
            clear hcn3 hb3 hT3 hM3
            go_wp2_with fail
            go_roundw
            case rel => exact ⟨x + 1, nx3, T3, hxl, by go_num, rfl, by rw [HCN3.out], HB3.out, HT3.out, HM3.out⟩
            case measure => simp [intOf]; omega
          case first =>
          by_cases hff : f = full
          rotate_left
          · have q1 := (bool_ne hff).1
            have q2 := (bool_ne hff).2
            have HX := Lib.hid (HSKIP.out (Or.inl fun hc => hff (HF.out.symm.trans hc.2.2)))
            clear hff
            go_wp2_with fail
            refine HFUL.out.mono ?_
            rintro e w5 ⟨rfl, hw⟩
            rw [hw]
            clear hw w5
            go_wp2_with fail
            go_meet
            exact ⟨nx, cn, T, rfl, rfl, HX.out.2, HB.out, HT.out, HX.out.1⟩
          subst hff
          by_cases hzp : 0 < z
          · have HX := Lib.hid (HSKIP.out (Or.inr (by rw [HZ.out]; exact hzp)))
            have qz : decide (0 < z) = true := decide_eq_true hzp
            have hc1 := HC1.out
            have hc2 := HC2.out
            clear hzp
            go_wp2_with fail
            refine HFUL.out.mono ?_
            rintro e w5 ⟨rfl, hw⟩
            rw [hw]
            clear hw w5
            go_wp2_with fail
            go_meet
            exact ⟨nx, cn, T, rfl, rfl, HX.out.2, HB.out, HT.out, HX.out.1⟩
          have qz : decide (0 < z) = false := decide_eq_false hzp
          have hCp : CnI ms f (x, y) := ⟨HXW.out, HYH.out, HF.out⟩
          have hnm : ¬ Marked cor (CnI ms f) (wideI ms) (y * wideI ms + x) (x, y) := fun hm => hzp (by rw [← HZ.out]; exact (HM.out.pos (x, y) HXW.out HYH.out).2 hm)
          obtain ⟨hrow, hgw⟩ := HT.out.put (k := x) (i := y) (by rw [HM.out.wd.1]; exact HYH.out) HE.out ((nx + 1 : Nat) : Int)
          have hag0 := AgS.start (p := (x, y)) HM.out hCp
          have hgO := HT.out.apart (i := y) (by rw [HM.out.wd.1]; exact HYH.out) HE.out
          have hb6 : Below w.heap.size w (wr.setCell ⟨g, x, none⟩ (.int .i64 ((nx + 1 : Nat) : Int))) :=
            ⟨hgw.os.trans HB.out.os, hgw.tape.trans HB.out.tape, hgw.output.trans HB.out.output, Nat.le_trans HB.out.size hgw.size, fun k hk => by
              rw [hgw.block k (Nat.lt_of_lt_of_le hk HB.out.size) (fun e => by have := Option.some.inj e; omega)]
              exact HB.out.block k hk⟩
          have HCP := Lib.hid hCp
          have HNM := Lib.hid hnm
          have HFEW := Lib.hid HM.out.few
          have HR6 := Lib.hid hrow
          have HA6 := Lib.hid hag0
          have HB6 := Lib.hid hb6
          have hc1 := HC1.out
          have hc2 := HC2.out
          have hf1 := HF1.out
          clear hzp hCp hnm hrow hgw hag0 hgO hb6 HT HM HB HSKIP
          go_wp2_with fail
          refine HFUL.out.mono ?_
          rintro e w5 ⟨rfl, hw⟩
          rw [hw]
          clear hw w5
          go_wp2_with fail
          obtain ⟨K0, hK0⟩ : ∃ K0, 2 * (ms.length * wideI ms - 1) + 1 = K0 := ⟨_, rfl⟩
          have HK0 := Lib.hid hK0
          clear hK0 hc1 hc2 hf1
          go_loopg [14] K0 (fun k s14 wr => ∃ (ag : Bool) (T : List (List Int)) (G : List Sq), s14 = .bool ag ∧ Below w.heap.size w wr ∧ HasH w.heap.size wr (.slice (some ⟨go, 0, none⟩) H ct) T hs ∧ AgS ms cor f (x, y) (nx + 1) T G ∧ (ag = false → ∀ q ∈ G, ClosedQ ms cor f T q) ∧ k = 2 * (ms.length * wideI ms - G.length) + (if ag then 1 else 0))
          case atStart => exact ⟨true, _, [(x, y)], rfl, HB6.out, HR6.out, HA6.out, (fun e => by cases e), HK0.out.symm⟩
          case round =>
            clear HK0 HB6 HR6 HA6
            obtain ⟨ag, T4, G4, rfl, hb, hT, hA, hcl, hk⟩ := hrel
            have HB4 := Lib.hid hb
            have HT4 := Lib.hid hT
            have HA4 := Lib.hid hA
            have HCL4 := Lib.hid hcl
            have HK4 := Lib.hid hk
            clear hb hT hA hcl hk
            cases ag with
            | true =>
              go_wp2_with fail
              go_loopw [14, 15] (fun s14 s15 wr => ∃ (v : Nat) (ag : Bool) (T : List (List Int)) (G : List Sq), v ≤ H ∧ s14 = .bool ag ∧ s15 = .int .i64 (v : Int) ∧ PassS ms cor f (x, y) (nx + 1) G4.length (v * wideI ms) w (.slice (some ⟨go, 0, none⟩) H ct) hs ag wr T G) (fun _ s15 _ => H - (intOf s15).toNat)
              case atStart => exact ⟨0, false, T4, G4, Nat.zero_le _, rfl, rfl, HB4.out, HT4.out, HA4.out, (fun _ q _ hl => absurd hl (by omega)), (fun e => by cases e), Nat.le_refl _⟩
              case round =>
                clear HB4 HT4 HA4 HCL4
                obtain ⟨v, ag, T5, G5, hv, rfl, rfl, hp⟩ := hrel
                have HP5 := Lib.hid hp
                clear hp
                by_cases hvl : v < H
                · go_wp2_with fail
                  go_loopw [14, 16] (fun s14 s16 wr => ∃ (u : Nat) (ag : Bool) (T : List (List Int)) (G : List Sq), u ≤ W ∧ s14 = .bool ag ∧ s16 = .int .i64 (u : Int) ∧ PassS ms cor f (x, y) (nx + 1) G4.length (v * wideI ms + u) w (.slice (some ⟨go, 0, none⟩) H ct) hs ag wr T G) (fun _ s16 _ => W - (intOf s16).toNat)
                  case atStart => exact ⟨0, ag, T5, G5, Nat.zero_le _, rfl, rfl, by rw [Nat.add_zero]; exact HP5.out⟩
                  case round =>
                    clear HP5
                    obtain ⟨u, ag, T6, G6, hu, rfl, rfl, hp⟩ := hrel
                    have HP6 := Lib.hid hp
                    obtain ⟨bk2, off2, s2, hpm, hcell2, hsW2⟩ := HSTR.out wr hp.fr v hvl
                    obtain ⟨rfl, rfl⟩ : bk = bk2 ∧ off = off2 := by cases hpm; exact ⟨rfl, rfl⟩
                    clear hp hpm
                    by_cases hul : u < W
                    · have hqu : decide ((u : Int) < (s2.size : Int)) = true := decide_eq_true (by rw [hsW2]; omega)
                      have hqu2 : decide (u < s2.size) = true := decide_eq_true (by omega)
                      have huW : u < wideI ms := by rw [HWN.out]; exact hul
                      have hvH : v < ms.length := by rw [HHN.out]; exact hvl
                      obtain ⟨go2, co2, g2, cp2, hvt, he2, hc2, hc1, -⟩ := row_form HP6.out.row HP6.out.ags.wd (q := (u, v)) huW hvH
                      rw [HHN.out] at hvt
                      obtain ⟨rfl, rfl⟩ : go = go2 ∧ ct = co2 := by simpa using hvt
                      simp only at hc2 hc1
                      rw [HWN.out] at hc2
                      obtain ⟨z2, hz2⟩ : ∃ z, mrk T6 (u, v) = z := ⟨_, rfl⟩
                      rw [hz2] at hc1
                      have HZ2 := Lib.hid hz2
                      have HUW := Lib.hid huW
                      have HSPC := Lib.hid (HSP.out (.slice (some ⟨go, 0, none⟩) H ct) T6 hs (u, v) (nx + 1) wr HP6.out.fr HP6.out.row HP6.out.ags.wd huW hvH (by omega) (by omega))
                      clear hvt he2 hz2 huW hvH
                      by_cases hzn : z2 = ((nx + 1 : Nat) : Int)
                      · have HH := Lib.hid (fun A T' w' hsp => HP6.out.hit HUW.out (Nat.succ_pos nx) (HZ2.out.trans hzn) (A := A) (T' := T') (w' := w') hsp)
                        have qz2 : (z2 == ((nx : Int) + 1)) = true := beq_iff_eq.2 (by omega)
                        have hcast : ((nx + 1 : Nat) : Int) = (nx : Int) + 1 := by omega
                        rw [hcast] at HSPC
                        unfold SpdP at HSPC
                        clear hzn hcast
                        go_wp2_with fail
                        refine HSPC.out.mono ?_
                        rintro e w7 ⟨A7, T7, rfl, hsp⟩
                        have HN := Lib.hid (HH.out A7 T7 w7 hsp)
                        clear hsp hcell2 hc1 hc2
                        cases ag with
                        | true =>
                          go_wp2_with fail
                          go_roundw
                          case rel => exact ⟨u + 1, true, T7, G6 ++ A7, hul, rfl, by go_num, HN.out⟩
                          case measure => simp [intOf]; omega
                        | false =>
                          go_wp2_with fail
                          go_roundw
                          case rel => exact ⟨u + 1, _, T7, G6 ++ A7, hul, by first | rfl | simp, by go_num, HN.out⟩
                          case measure => simp [intOf]; omega
                      · have qz2 : (z2 == ((nx : Int) + 1)) = false := beq_eq_false_iff_ne.2 (by omega)
                        have HN := Lib.hid (HP6.out.skip HUW.out (by rw [HZ2.out]; exact hzn))
                        clear hzn
                        go_wp2_with fail
                        go_roundw
                        case rel => exact ⟨u + 1, ag, T6, G6, hul, rfl, by go_num, HN.out⟩
                        case measure => simp [intOf]; omega
                    · obtain rfl : u = W := by omega
                      have hqu : decide ((u : Int) < (s2.size : Int)) = false := decide_eq_false (by rw [hsW2]; omega)
                      have hqu2 : decide (u < s2.size) = false := decide_eq_false (by omega)
                      have HN : Hid (PassS ms cor f (x, y) (nx + 1) G4.length ((v + 1) * wideI ms) w (.slice (some ⟨go, 0, none⟩) H ct) hs ag wr T6 G6) := by
                        have h1 := HP6.out
                        unfold Hid
                        rw [Nat.succ_mul]
                        have h2 := HWN.out
                        rw [← h2] at h1; exact h1
                      go_wp2_with fail
                      go_roundw
                      case rel => exact ⟨v + 1, ag, T6, G6, hvl, rfl, by go_num, HN.out⟩
                      case measure => simp [intOf]; omega
                · obtain rfl : v = H := by omega
                  have hbx := HP5.out.ags.box
                  have HBX := Lib.hid hbx
                  clear hbx
                  go_wp2_with fail
                  go_roundg (2 * (ms.length * wideI ms - G5.length) + (if ag then 1 else 0))
                  case measure =>
                    have h1 := HBX.out
                    have h2 := HP5.out.ge
                    have h3 := HK4.out
                    cases ag with
                    | true => have h4 := HP5.out.yes rfl; simp at h3 ⊢; omega
                    | false => simp at h3 ⊢; omega
                  case rel =>
                    have h1 := HP5.out
                    refine ⟨ag, T5, G5, rfl, h1.fr, h1.row, h1.ags, fun e q hq => h1.no e q hq ?_, rfl⟩
                    have h2 := (h1.ags.con q hq).right
                    have h3 := place_lt h2.1 h2.2.1
                    rw [HHN.out] at h3; exact h3
            | false =>
              have hall := HA4.out.all (HCL4.out rfl) HNM.out
              have hdone := HA4.out.done (HCL4.out rfl) HNM.out HXW.out (by have := HFEW.out; simp only; omega)
              simp only at hdone
              have HALL := Lib.hid hall
              have HDONE := Lib.hid hdone
              have HEQN := Lib.hid HA4.out.eqn
              have HAG := Lib.hid HA4.out
              clear hall hdone HA4 HCL4 HK4
              go_wp2_with fail
              -- the rim
              go_loop [18, 19] (fun s18 s19 => ∃ (v : Nat) (rim : Bool), v ≤ H ∧ s18 = .bool rim ∧ s19 = .int .i64 (v : Int) ∧ (rim = true ↔ ∃ q : Sq, q ∈ G4 ∧ q.2 * wideI ms + q.1 < v * wideI ms ∧ RimI ms q)) (fun _ s19 => H - (intOf s19).toNat)
              case atStart => exact ⟨0, false, Nat.zero_le _, rfl, rfl, (fun e => by cases e), fun ⟨q, _, h, _⟩ => absurd h (by omega)⟩
              case round =>
                obtain ⟨v, rim, hv, rfl, rfl, hrim⟩ := hrel
                have HRIM := Lib.hid hrim
                clear hrim
                by_cases hvl : v < H
                · go_wp2_with fail
                  go_loop [18, 20] (fun s18 s20 => ∃ (u : Nat) (rim : Bool), u ≤ W ∧ s18 = .bool rim ∧ s20 = .int .i64 (u : Int) ∧ (rim = true ↔ ∃ q : Sq, q ∈ G4 ∧ q.2 * wideI ms + q.1 < v * wideI ms + u ∧ RimI ms q)) (fun _ s20 => W - (intOf s20).toNat)
                  case atStart => exact ⟨0, rim, Nat.zero_le _, rfl, rfl, by rw [Nat.add_zero]; exact HRIM.out⟩
                  case round =>
                    clear HRIM
                    obtain ⟨u, rim, hu, rfl, rfl, hrim⟩ := hrel
                    have HRIM := Lib.hid hrim
                    obtain ⟨bk2, off2, s2, hpm, hcell2, hsW2⟩ := HSTR.out wr HB4.out v hvl
                    obtain ⟨rfl, rfl⟩ : bk = bk2 ∧ off = off2 := by cases hpm; exact ⟨rfl, rfl⟩
                    have HC22 := Lib.hid hcell2
                    clear hpm hrim
                    by_cases hul : u < W
                    · have hqu : decide ((u : Int) < (s2.size : Int)) = true := decide_eq_true (by rw [hsW2]; omega)
                      have hqu2 : decide (u < s2.size) = true := decide_eq_true (by omega)
                      have huW : u < wideI ms := by rw [HWN.out]; exact hul
                      have hvH : v < ms.length := by rw [HHN.out]; exact hvl
                      obtain ⟨go2, co2, g2, cp2, hvt, he2, hc2, hc1, -⟩ := row_form HT4.out HAG.out.wd (q := (u, v)) huW hvH
                      rw [HHN.out] at hvt
                      obtain ⟨rfl, rfl⟩ : go = go2 ∧ ct = co2 := by simpa using hvt
                      simp only at hc2 hc1
                      rw [HWN.out] at hc2
                      have hstep := rim_step HAG.out huW HRIM.out
                      obtain ⟨z2, hz2⟩ : ∃ z, mrk T4 (u, v) = z := ⟨_, rfl⟩
                      rw [hz2] at hc1 hstep
                      obtain ⟨ed, hed⟩ : ∃ b, rimB ms (u, v) = b := ⟨_, rfl⟩
                      rw [hed] at hstep
                      have HED : Hid ((decide (u = 0) || decide (v = 0) || decide (u + 1 = W) || decide (v + 1 = H)) = ed) := by unfold Hid; rw [← hed]; unfold rimB; rw [HWN.out, HHN.out]
                      have HSTEP := Lib.hid hstep
                      have HC2 := Lib.hid hc2
                      have HC1' := Lib.hid hc1
                      have HSW2 := Lib.hid hsW2
                      clear hvt he2 hz2 huW hvH hstep hed
                      have v1 : IntKind.i64.wrap ((s2.size : Int) - 1) = (s2.size : Int) - 1 := IntWalk.i64_in _ (by omega)
                      have v2 : IntKind.i64.wrap ((H : Int) - 1) = (H : Int) - 1 := IntWalk.i64_in _ (by omega)
                      clear hc1 hc2
                      go_upto_region 32 with fail
                      go_cut [21] (fun s wx => s = .bool ed ∧ wx = wr)
                      case first =>
                        have hsz1 : 1 ≤ s2.size := by omega
                        by_cases e1 : u = 0
                        · have m1 : ((u : Int) == 0) = true := beq_iff_eq.2 (by omega)
                          have m2 : (u == 0) = true := beq_iff_eq.2 e1
                          have HX := Lib.hid e1
                          clear e1
                          go_wp2_with fail
                          go_meet
                          exact ⟨by have hx := HX.out; rw [← HED.out]; congr 1; symm; simp only [Bool.or_eq_true, decide_eq_true_eq]; omega, rfl⟩
                        · have m1 : ((u : Int) == 0) = false := beq_eq_false_iff_ne.2 (by omega)
                          have m2 : (u == 0) = false := beq_eq_false_iff_ne.2 e1
                          by_cases e2 : v = 0
                          · have m3 : ((v : Int) == 0) = true := beq_iff_eq.2 (by omega)
                            have m4 : (v == 0) = true := beq_iff_eq.2 e2
                            have HX := Lib.hid e2
                            clear e1 e2
                            go_wp2_with fail
                            go_meet
                            exact ⟨by have hx := HX.out; rw [← HED.out]; congr 1; symm; simp only [Bool.or_eq_true, decide_eq_true_eq]; omega, rfl⟩
                          · have m3 : ((v : Int) == 0) = false := beq_eq_false_iff_ne.2 (by omega)
                            have m4 : (v == 0) = false := beq_eq_false_iff_ne.2 e2
                            by_cases e3 : v + 1 = H
                            · have m5 : ((v : Int) == (H : Int) - 1) = true := beq_iff_eq.2 (by omega)
                              have HX := Lib.hid e3
                              clear e1 e2 e3
                              go_wp2_with fail
                              go_meet
                              exact ⟨by have hx := HX.out; rw [← HED.out]; congr 1; symm; simp only [Bool.or_eq_true, decide_eq_true_eq]; omega, rfl⟩
                            · have m5 : ((v : Int) == (H : Int) - 1) = false := beq_eq_false_iff_ne.2 (by omega)
                              by_cases e4 : u + 1 = W
                              · have m6 : ((u : Int) == (s2.size : Int) - 1) = true := beq_iff_eq.2 (by omega)
                                have m7 : ((u : Int) == (W : Int) - 1) = true := beq_iff_eq.2 (by omega)
                                have HX := Lib.hid e4
                                clear e1 e2 e3 e4
                                go_wp2_with fail
                                go_meet
                                exact ⟨by have hx := HX.out; rw [← HED.out]; congr 1; symm; simp only [Bool.or_eq_true, decide_eq_true_eq]; omega, rfl⟩
                              · have m6 : ((u : Int) == (s2.size : Int) - 1) = false := beq_eq_false_iff_ne.2 (by omega)
                                have m7 : ((u : Int) == (W : Int) - 1) = false := beq_eq_false_iff_ne.2 (by omega)
                                have HX1 := Lib.hid e1
                                have HX2 := Lib.hid e2
                                have HX3 := Lib.hid e3
                                have HX4 := Lib.hid e4
                                clear e1 e2 e3 e4
                                go_wp2_with fail
                                go_meet
                                exact ⟨by have y1 := HX1.out; have y2 := HX2.out; have y3 := HX3.out; have y4 := HX4.out; rw [← HED.out]; congr 1; symm; simp only [Bool.or_eq_false_iff, decide_eq_false_iff_not]; omega, rfl⟩
                      case rest =>
                      obtain ⟨hs21, hwx⟩ := hcut
                      subst hs21
                      rw [hwx]
                      clear hwx v1 v2
                      have hc1 := HC1'.out
                      have hc2 := HC2.out
                      have hcast : ((nx + 1 : Nat) : Int) = (nx : Int) + 1 := by omega
                      rw [hcast] at HSTEP
                      clear hcast
                      cases rim with
                      | true =>
                        have HN := Lib.hid HSTEP.out
                        go_wp2_with fail
                        go_round
                        case rel => exact ⟨u + 1, true, hul, rfl, by go_num, by have h := HN.out; simpa using h⟩
                        case measure => simp [intOf]; omega
                      | false =>
                        cases ed with
                        | false =>
                          have HN := Lib.hid HSTEP.out
                          go_wp2_with fail
                          go_round
                          case rel => exact ⟨u + 1, false, hul, rfl, by go_num, by have h := HN.out; simpa using h⟩
                          case measure => simp [intOf]; omega
                        | true =>
                          obtain ⟨bz, hbz⟩ : ∃ b, (z2 == (nx : Int) + 1) = b := ⟨_, rfl⟩
                          have HN : Hid (bz = true ↔ ∃ q : Sq, q ∈ G4 ∧ q.2 * wideI ms + q.1 < v * wideI ms + (u + 1) ∧ RimI ms q) := by
                            have h := HSTEP.out
                            rw [hbz] at h
                            unfold Hid
                            simpa using h
                          go_wp2_with fail
                          go_round
                          case rel => exact ⟨u + 1, bz, hul, rfl, by go_num, HN.out⟩
                          case measure => simp [intOf]; omega
                    · obtain rfl : u = W := by omega
                      have hqu : decide ((u : Int) < (s2.size : Int)) = false := decide_eq_false (by rw [hsW2]; omega)
                      have hqu2 : decide (u < s2.size) = false := decide_eq_false (by omega)
                      have HN : Hid (rim = true ↔ ∃ q : Sq, q ∈ G4 ∧ q.2 * wideI ms + q.1 < (v + 1) * wideI ms ∧ RimI ms q) := by
                        have h1 := HRIM.out
                        unfold Hid
                        rw [Nat.succ_mul]
                        have h2 := HWN.out
                        rw [← h2] at h1; exact h1
                      go_wp2_with fail
                      go_round
                      case rel => exact ⟨v + 1, rim, hvl, rfl, by go_num, HN.out⟩
                      case measure => simp [intOf]; omega
                · obtain rfl : v = H := by omega
                  have hrf : rim = true ↔ ∃ q, Conn cor (CnI ms f) (x, y) q ∧ RimI ms q := by
                    rw [HRIM.out]
                    constructor
                    · rintro ⟨q, h1, -, h3⟩; exact ⟨q, (HALL.out q).1 h1, h3⟩
                    · rintro ⟨q, h1, h3⟩
                      have h4 := place_lt h1.right.1 h1.right.2.1
                      rw [HHN.out] at h4
                      exact ⟨q, (HALL.out q).2 h1, h4, h3⟩
                  have htell := tell_iff (inner := inner) HCP.out HNM.out hrf
                  obtain ⟨t, ht⟩ : ∃ t, (!rim || !inner) = t := ⟨_, rfl⟩
                  rw [ht] at htell
                  have HTL := Lib.hid htell
                  have HTE := Lib.hid ht
                  have HYES : Hid (t = true → cntI ms cor f inner (y * wideI ms + (x + 1)) = cn + 1) := fun e => by rw [← Nat.add_assoc, cntI_yes HXW.out (HTL.out.2 e), HCN.out]
                  have HNO : Hid (t = false → cntI ms cor f inner (y * wideI ms + (x + 1)) = cn) := fun e => by rw [← Nat.add_assoc, cntI_no HXW.out (fun h => by have := HTL.out.1 h; rw [e] at this; cases this), HCN.out]
                  clear hrf htell ht
                  cases rim with
                  | false =>
                    have HV := Lib.hid (HYES.out (by rw [← HTE.out]; rfl))
                    go_wp2_with fail
                    go_meet
                    exact ⟨nx + 1, cn + 1, T4, by go_num, by go_num, HV.out, HB4.out, HT4.out, by rw [← Nat.add_assoc]; exact HDONE.out⟩
                  | true =>
                    cases inner with
                    | false =>
                      have HV := Lib.hid (HYES.out (by rw [← HTE.out]; rfl))
                      go_wp2_with fail
                      go_meet
                      exact ⟨nx + 1, cn + 1, T4, by go_num, by go_num, HV.out, HB4.out, HT4.out, by rw [← Nat.add_assoc]; exact HDONE.out⟩
                    | true =>
                      have HV := Lib.hid (HNO.out (by rw [← HTE.out]; rfl))
                      go_wp2_with fail
                      go_meet
                      exact ⟨nx + 1, cn, T4, by go_num, rfl, HV.out, HB4.out, HT4.out, by rw [← Nat.add_assoc]; exact HDONE.out⟩
        · obtain rfl : x = W := by omega
          have hqx : decide ((x : Int) < (s.size : Int)) = false := decide_eq_false (by rw [hsW]; omega)
          have hqx2 : decide (x < s.size) = false := decide_eq_false (by omega)
          have HM2 : Hid (MarkK ms cor full ((y + 1) * wideI ms) nx T ∧ cntI ms cor full inner ((y + 1) * wideI ms) = cn) := by
            have h1 := HM.out
            have h2 := HCN.out
            have h3 := HWN.out
            unfold Hid
            rw [Nat.succ_mul]
            rw [← h3] at h1 h2; exact ⟨h1, h2⟩
          go_wp2_with fail
          go_roundw
          case rel => exact ⟨y + 1, nx, T, hyl, by go_num, rfl, by rw [HM2.out.2], HB.out, HT.out, HM2.out.1⟩
          case measure => simp [intOf]; omega
    · obtain rfl : y = H := by omega
      go_wp2_with fail
      go_ret
      exact ⟨by rw [HHN.out]; rfl, HB.out⟩
end Go.Proofs.YtoheffkiohfmoaaDoor
