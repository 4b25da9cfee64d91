/-
  The document's CellsOf by a contract: the cells of a dimension. Conditions: sides at most 1000.
-/
import Derived.Test.YtoheffkiohfmoaaGreatDoorGri
import Derived.Test.YtoheffkiohfmoaaGreatDoorTou
set_option linter.unusedSimpArgs false
set_option linter.unusedVariables false
namespace Go.Proofs.YtoheffkiohfmoaaGreatDoor
open Go Go.RowKit Go.Maps FL

/-- an owned row of cells -/
def CeO (O : Nat) (w : World) (v : Value) (l : List PI) : Prop := w.ownsRow O 127 2 v l.length (spVs l)
theorem CeO.nil (O : Nat) (w : World) : CeO O w (.slice none 0 0) [] := World.ownsRow_nil _ _ _ _
theorem CeO.below {O C : Nat} {w w' : World} {v : Value} {l : List PI} (h : CeO O w v l) (hb : Below C w w') (hC : w.heap.size ≤ C) : CeO O w' v l :=
  owns_keep h fun k hk => hb.block k (Nat.lt_of_lt_of_le (h.lt k hk).2 hC)
theorem CeO.sliceOf {O : Nat} {w : World} {v : Value} {l : List PI} (h : CeO O w v l) : ∃ p c, v = .slice p l.length c := by
  rcases Joins.ownsRow_forms h with ⟨rfl, h0⟩ | ⟨g, cap, rfl⟩
  · exact ⟨none, 0, by rw [h0]⟩
  · exact ⟨_, cap, rfl⟩
theorem spVs_at {l : List PI} {i : Nat} (h : i < l.length) : (spVs l)[i * 2]? = some (.int .i64 (l.getD i (0, 0)).1) ∧ (spVs l)[i * 2 + 1]? = some (.int .i64 (l.getD i (0, 0)).2) := by
  have e : l = l.take i ++ [l.getD i (0, 0)] ++ l.drop (i + 1) := by
    have h1 := List.take_append_drop i l
    rw [List.drop_eq_getElem_cons h] at h1
    have h2 : l.getD i (0, 0) = l[i] := by rw [List.getD_eq_getElem?_getD, List.getElem?_eq_getElem h]; rfl
    rw [h2, List.append_assoc]
    exact h1.symm
  have hl : (spVs (l.take i)).length = i * 2 := by rw [spVs_len, List.length_take]; congr 1; omega
  generalize l.getD i (0, 0) = p at e ⊢
  rw [e, spVs_app, spVs_app, spVs_one, List.append_assoc]
  constructor
  · rw [List.getElem?_append_right (by omega), hl]; simp
  · rw [List.getElem?_append_right (by omega), hl]
    rw [show i * 2 + 1 - i * 2 = 1 by omega]; simp
theorem CeO.at {O : Nat} {w : World} {g n c : Nat} {l : List PI} (h : CeO O w (.slice (some ⟨g, 0, none⟩) n c) l) {i : Nat} (hi : i < l.length) : w.cell? ⟨g, i * 2, none⟩ = some (.int .i64 (l.getD i (0, 0)).1) ∧ w.cell? ⟨g, i * 2 + 1, none⟩ = some (.int .i64 (l.getD i (0, 0)).2) := by
  have hc := h.cells (g := g) rfl
  obtain ⟨e1, e2⟩ := spVs_at hi
  have f1 := hc _ _ e1
  have f2 := hc _ _ e2
  rw [add_zero] at f1 f2
  exact ⟨f1, f2⟩
theorem infoCe : (Tryz.prog.info? 127).map (fun i => (i.zero, i.size, i.bytes)) = some (some (.agg #[.int .i64 0, .int .i64 0]), 2, 16) := by kernel_rfl
theorem eight_one (a b c d e f g h : Int) : ∀ u ∈ [Value.int .i64 a, .int .i64 b, .int .i64 c, .int .i64 d, .int .i64 e, .int .i64 f, .int .i64 g, .int .i64 h], u.oneCell' = true := fun u hu => by
  simp at hu
  rcases hu with rfl | rfl | rfl | rfl | rfl | rfl | rfl | rfl <;> rfl
/-- the cells so far: whole rows, places, and of the place at hand the first i -/
def cofL (ms : List ByteArray) (dim : Int) (y x i : Nat) : List PI := cellsTo ms dim y ++ cellRow ms dim y x ++ ((cell4 x y).take i).filter (keepC ms dim)
theorem cofL_step {ms : List ByteArray} {dim : Int} {y x i : Nat} (h : i < 4) : cofL ms dim y x (i + 1) = cofL ms dim y x i ++ (if keepC ms dim ((cell4 x y).getD i (0, 0)) then [(cell4 x y).getD i (0, 0)] else []) := by
  unfold cofL
  have hl : i < (cell4 x y).length := h
  rw [List.take_add_one, List.filter_append, List.append_assoc, List.append_assoc, List.append_assoc]
  have e : (cell4 x y)[i]? = some ((cell4 x y).getD i (0, 0)) := by rw [List.getD_eq_getElem?_getD, List.getElem?_eq_getElem hl]; rfl
  rw [e]
  simp [List.filter_cons]
theorem cofL_full {ms : List ByteArray} {dim : Int} {y x : Nat} : cofL ms dim y x 4 = cofL ms dim y (x + 1) 0 := by
  unfold cofL
  rw [cellRow_succ]
  have : (cell4 x y).take 4 = cell4 x y := rfl
  rw [this]
  simp [cellAt]
theorem cofL_row {ms : List ByteArray} {dim : Int} {y : Nat} : cofL ms dim y (wideI ms + 1) 0 = cofL ms dim (y + 1) 0 0 := by
  unfold cofL
  rw [cellsTo_succ]
  simp [cellRow]
theorem cofL_len {ms : List ByteArray} {dim : Int} {y x i : Nat} (hW : wideI ms ≤ 1000) (hy : y ≤ 1001) (hx : x ≤ 1001) : (cofL ms dim y x i).length ≤ 6000000 := by
  unfold cofL
  have h4 : ∀ x y, (cellAt ms dim x y).length ≤ 4 := fun x y => Nat.le_trans (List.length_filter_le _ _) (Nat.le_refl 4)
  have h1 : (cellsTo ms dim y).length ≤ 4 * (wideI ms + 1) * y := gridTo_len h4 (wideI ms) y
  have h2 : (cellRow ms dim y x).length ≤ 4 * x := gridRow_len h4 y x
  have h3 : (((cell4 x y).take i).filter (keepC ms dim)).length ≤ 4 := Nat.le_trans (List.length_filter_le _ _) (by rw [List.length_take]; exact Nat.min_le_right _ _)
  rw [List.length_append, List.length_append]
  have h5 : 4 * (wideI ms + 1) * y ≤ 4004 * 1001 := Nat.mul_le_mul (by omega) hy
  omega
def CofP (ms : List ByteArray) (dim : Int) (w : World) (e : Ending) (w' : World) : Prop := ∃ v, e = .returned v ∧ Below w.heap.size w w' ∧ CeO w.heap.size w' v (cellsTo ms dim (ms.length + 1))
theorem cell4_rng {x y i : Nat} (hi : i < 4) (hx : x ≤ 1001) (hy : y ≤ 1001) : (0 ≤ ((cell4 x y).getD i (0, 0)).1 ∧ ((cell4 x y).getD i (0, 0)).1 ≤ 1000000) ∧ (0 ≤ ((cell4 x y).getD i (0, 0)).2 ∧ ((cell4 x y).getD i (0, 0)).2 ≤ 1000000) := by
  match i, hi with
  | 0, _ => simp [cell4]; omega
  | 1, _ => simp [cell4]; omega
  | 2, _ => simp [cell4]; omega
  | 3, _ => simp [cell4]; omega
set_option maxRecDepth 100000 in
set_option maxHeartbeats 16000000 in
theorem cellsOf_any (ms : List ByteArray) (v : Value) (dim : Int) (w : World) (h : StrsAt w v ms) (hW : wideI ms ≤ 1000) (hH : ms.length ≤ 1000) : Calls Tryz.prog 67 #[v, .int .i64 dim] w (CofP ms dim w) := by
  obtain ⟨i2, hi2, hz0, hz1, hz2⟩ := info_parts infoCe
  obtain ⟨pm, cm, hve, -⟩ := id h
  obtain ⟨gr, hgr⟩ : ∃ gr, w.heap.size = gr := ⟨_, rfl⟩
  obtain ⟨W, hWn⟩ : ∃ W, wideI ms = W := ⟨_, rfl⟩
  obtain ⟨H, hHn⟩ : ∃ H, ms.length = H := ⟨_, rfl⟩
  have HST := Lib.hid h
  have HWN := Lib.hid hWn
  have HHN := Lib.hid hHn
  have HGR := Lib.hid hgr
  have HWI : Hid (W = if H = 0 then 0 else (rowB ms 0).size) := by unfold Hid; rw [← hWn, ← hHn]; rfl
  have HLEN := Lib.hid (fun (y x i : Nat) (hy : y ≤ 1001) (hx : x ≤ 1001) => cofL_len (ms := ms) (dim := dim) (i := i) hW hy hx)
  rw [hHn] at hve hH
  rw [hWn] at hW
  subst hve
  unfold CofP
  have HTO := Lib.hid (fun wx (hx : Below gr w wx) X Y hX hY => touched_any ms (.slice pm H cm) X Y wx (h.below hx (by rw [hgr]; exact Nat.le_refl _)) hX hY)
  clear h hWn hHn hgr
  go_enter Tryz.func67, Tryz.ntmps67
  go_upto_if 13 with fail
  go_cut [5] (fun s wx => s = .int .i64 (W : Int) ∧ wx = w)
  case first =>
    by_cases h0 : H = 0
    · have hw0 : W = 0 := by rw [HWI.out, if_pos h0]
      have q1 : decide ((0 : Int) < (H : Int)) = false := decide_eq_false (by omega)
      subst hw0
      subst h0
      go_wp2_with fail
      go_meet
      exact ⟨rfl, rfl⟩
    · obtain ⟨b, off, rfl, hc⟩ := HST.out.at (i := 0) (by rw [HHN.out]; omega)
      obtain ⟨s, hs⟩ : ∃ s, rowB ms 0 = s := ⟨_, rfl⟩
      have hw0 : W = s.size := by rw [HWI.out, if_neg h0, hs]
      rw [hs, Nat.add_zero] at hc
      have q1 : decide ((0 : Int) < (H : Int)) = true := decide_eq_true (by omega)
      have q3 : 0 < H := by omega
      have HW0 := Lib.hid hw0
      clear h0 hs hw0
      go_wp2_with fail
      go_meet
      exact ⟨by rw [HW0.out], rfl⟩
  case rest =>
  obtain ⟨hs5, hwx⟩ := hcut
  subst hs5
  rw [hwx]
  clear hwx
  go_wp2_with fail
  go_loopw [6, 7] (fun s6 s7 wr => ∃ y : Nat, y ≤ H + 1 ∧ s7 = .int .i64 (y : Int) ∧ Below gr w wr ∧ CeO gr wr s6 (cofL ms dim y 0 0)) (fun _ s7 _ => H + 1 - (intOf s7).toNat)
  case atStart => exact ⟨0, Nat.zero_le _, rfl, Below.refl _ _, CeO.nil _ _⟩
  case round =>
    obtain ⟨y, hy, rfl, hb, hc⟩ := hrel
    have HB := Lib.hid hb
    have HC := Lib.hid hc
    by_cases hyl : y < H + 1
    · have qy : decide ((y : Int) ≤ (H : Int)) = true := decide_eq_true (by omega)
      have qyN : decide (y ≤ H) = true := decide_eq_true (by omega)
      clear hb hc
      go_wp2_with fail
      go_loopw [6, 8] (fun s6 s8 wr => ∃ x : Nat, x ≤ W + 1 ∧ s8 = .int .i64 (x : Int) ∧ Below gr w wr ∧ CeO gr wr s6 (cofL ms dim y x 0)) (fun _ s8 _ => W + 1 - (intOf s8).toNat)
      case atStart => exact ⟨0, Nat.zero_le _, rfl, HB.out, HC.out⟩
      case round =>
        obtain ⟨x, hx, rfl, hb, hc⟩ := hrel
        by_cases hxl : x < W + 1
        · have qx : decide ((x : Int) ≤ (W : Int)) = true := decide_eq_true (by omega)
          have qxN : decide (x ≤ W) = true := decide_eq_true (by omega)
          have HB2 := Lib.hid hb
          have HC2 := Lib.hid hc
          have hl4 := (World.ownsRow_nil (wr.alloc (.cells #[.int .i64 (2 * (x : Int)), .int .i64 (2 * (y : Int)), .int .i64 (2 * (x : Int) + 1), .int .i64 (2 * (y : Int)), .int .i64 (2 * (x : Int)), .int .i64 (2 * (y : Int) + 1), .int .i64 (2 * (x : Int) + 1), .int .i64 (2 * (y : Int) + 1)] 127)) gr 127 2)
          have hba := (Below.refl wr.heap.size wr).alloc (Nat.le_refl _) (.cells #[.int .i64 (2 * (x : Int)), .int .i64 (2 * (y : Int)), .int .i64 (2 * (x : Int) + 1), .int .i64 (2 * (y : Int)), .int .i64 (2 * (x : Int)), .int .i64 (2 * (y : Int) + 1), .int .i64 (2 * (x : Int) + 1), .int .i64 (2 * (y : Int) + 1)] 127)
          have HNW := Lib.hid (World.news_of_block (cs := #[.int .i64 (2 * (x : Int)), .int .i64 (2 * (y : Int)), .int .i64 (2 * (x : Int) + 1), .int .i64 (2 * (y : Int)), .int .i64 (2 * (x : Int)), .int .i64 (2 * (y : Int) + 1), .int .i64 (2 * (x : Int) + 1), .int .i64 (2 * (y : Int) + 1)]) (t := 127) (fr := (0, 0)) (heap_alloc_new wr (.cells #[.int .i64 (2 * (x : Int)), .int .i64 (2 * (y : Int)), .int .i64 (2 * (x : Int) + 1), .int .i64 (2 * (y : Int)), .int .i64 (2 * (x : Int)), .int .i64 (2 * (y : Int) + 1), .int .i64 (2 * (x : Int) + 1), .int .i64 (2 * (y : Int) + 1)] 127)))
          have hgs : gr ≤ (wr.alloc (.cells #[.int .i64 (2 * (x : Int)), .int .i64 (2 * (y : Int)), .int .i64 (2 * (x : Int) + 1), .int .i64 (2 * (y : Int)), .int .i64 (2 * (x : Int)), .int .i64 (2 * (y : Int) + 1), .int .i64 (2 * (x : Int) + 1), .int .i64 (2 * (y : Int) + 1)] 127)).heap.size := by
            have h1 := hb.size
            have h2 := hba.size
            have h3 := HGR.out
            omega
          have HL4 := Lib.hid hl4
          have HBA := Lib.hid hba
          have HGS := Lib.hid hgs
          clear hb hc hl4 hba hgs
          go_wp2_with (at_builtin; refine wpList_append_own_at _ rfl (.tmp 29) (.tmp 54) 123 rfl gr 127 i2 (.agg #[.int .i64 0, .int .i64 0]) 2 16 Tryz.underlying123 hi2 hz0 hz1 hz2 rfl (by decide) _ 0 [] rfl HL4.out ⟨_, 0, none⟩ 4 4 [.int .i64 (2 * (x : Int)), .int .i64 (2 * (y : Int)), .int .i64 (2 * (x : Int) + 1), .int .i64 (2 * (y : Int)), .int .i64 (2 * (x : Int)), .int .i64 (2 * (y : Int) + 1), .int .i64 (2 * (x : Int) + 1), .int .i64 (2 * (y : Int) + 1)] rfl rfl HNW.out (eight_one _ _ _ _ _ _ _ _) (by unfold maxLen; decide) (by decide) HGS.out ?_; intro vl w2 hown hgw hnil hat; obtain ⟨gl, cl, rfl⟩ := Joins.ownsRow_form hown (by decide); have HOWN := Lib.hid hown; have HGW := Lib.hid hgw; have HAT := Lib.hid hat; clear hown hgw hnil hat)
          have hl : CeO gr w2 (.slice (some ⟨gl, 0, none⟩) 4 cl) (cell4 x y) := HOWN.out
          have hbw : Below wr.heap.size wr w2 := by
            have h1 := HGW.out
            exact HBA.out.trans ⟨h1.os, h1.tape, h1.output, h1.size, fun k hk => h1.block k (Nat.lt_of_lt_of_le hk HBA.out.size) (fun e => by cases e)⟩
          have hglw : wr.heap.size ≤ gl := by
            rcases HAT.out with h1 | h1
            · cases h1
            · have h2 := Option.some.inj h1
              have h3 := HBA.out.size
              simp only at h2
              omega
          have hb2 : Below gr w w2 := HB2.out.trans (hbw.mono (by have := HB2.out.size; have := HGR.out; omega))
          have hc2 := HC2.out.below hbw (Nat.le_refl _)
          have hap : ∀ k, Value.ownBlock u6 = some k → k ≠ gl := fun k hk e => by have := (HC2.out.lt k hk).2; omega
          have HL := Lib.hid hl
          have HB4 := Lib.hid hb2
          have HC4 := Lib.hid hc2
          have HAP := Lib.hid hap
          clear HOWN HGW HAT HL4 HBA HGS HNW HB2 HC2 hl hbw hglw hb2 hc2 hap
          go_wp2_with fail
          go_loopw [6, 10] (fun s6 s10 wr => ∃ i : Nat, i ≤ 4 ∧ s10 = .int .i64 (i : Int) ∧ Below gr w wr ∧ CeO gr wr s6 (cofL ms dim y x i) ∧ CeO gr wr (.slice (some ⟨gl, 0, none⟩) 4 cl) (cell4 x y) ∧ ∀ k, Value.ownBlock s6 = some k → k ≠ gl) (fun _ s10 _ => 4 - (intOf s10).toNat)
          case atStart => exact ⟨0, Nat.zero_le _, rfl, HB4.out, HC4.out, HL.out, HAP.out⟩
          case round =>
            clear HB4 HC4 HL HAP
            obtain ⟨i, hi, rfl, hb, hc, hl, hap⟩ := hrel
            by_cases hil : i < 4
            · obtain ⟨ce0, ce1⟩ := hl.at (i := i) hil
              obtain ⟨⟨hX0, hX1⟩, hY0, hY1⟩ := cell4_rng (x := x) (y := y) hil (by omega) (by omega)
              have hst := cofL_step (ms := ms) (dim := dim) (y := y) (x := x) hil
              generalize (cell4 x y).getD i (0, 0) = c at ce0 ce1 hX0 hX1 hY0 hY1 hst
              obtain ⟨X, Y⟩ := c
              simp only at ce0 ce1 hX0 hX1 hY0 hY1 hst
              obtain ⟨D, hD⟩ : ∃ D, dimC X Y = D := ⟨_, rfl⟩
              obtain ⟨t, ht⟩ : ∃ t, touchI ms X Y = t := ⟨_, rfl⟩
              have hkp : keepC ms dim (X, Y) = (decide (D = dim) && t) := by unfold keepC; rw [hD, ht]
              rw [hkp] at hst
              have hdm := dim_any X Y wr ⟨hX0, hX1⟩ ⟨hY0, hY1⟩
              rw [hD] at hdm
              have HDM := Lib.hid hdm
              have hto := fun wx (hx : Below gr w wx) => HTO.out wx hx X Y ⟨hX0, hX1⟩ ⟨hY0, hY1⟩
              rw [ht] at hto
              have HTT := Lib.hid hto
              have HB5 := Lib.hid hb
              have HC5 := Lib.hid hc
              have HL5 := Lib.hid hl
              have HAP5 := Lib.hid hap
              have HCE0 := Lib.hid ce0
              have HCE1 := Lib.hid ce1
              have HSTEP := Lib.hid hst
              have hlen := HLEN.out y x i (by omega) (by omega)
              generalize hPe : cofL ms dim y x i = P at HC5 HSTEP hlen
              obtain ⟨po, co, hso⟩ := HC5.out.sliceOf
              subst hso
              obtain ⟨np, hnp⟩ : ∃ n, P.length = n := ⟨_, rfl⟩
              rw [hnp] at HC5 hlen HAP5 ⊢
              have HNP := Lib.hid hnp
              have HSZ : Hid (gr ≤ wr.heap.size) := by unfold Hid; have := hb.size; have := HGR.out; omega
              clear hD ht hkp hdm hto hb hc hl hap hst hPe hnp
              go_wp2_with fail
              refine HDM.out.mono ?_
              rintro e w4 ⟨rfl, hb4⟩
              have HB6 := Lib.hid (HB5.out.trans (hb4.mono HSZ.out))
              have HB64 := Lib.hid hb4
              clear hb4 ce0 ce1 HDM
              have f0 := (HB64.out.cell (mem_lt HCE0.out)).trans HCE0.out
              have f1 := (HB64.out.cell (mem_lt HCE1.out)).trans HCE1.out
              by_cases hdd : D = dim
              · subst hdd
                go_wp2_with fail
                refine (HTT.out _ HB6.out).mono ?_
                rintro e w5 ⟨rfl, hb5⟩
                have hb35 : Below wr.heap.size wr w5 := HB64.out.trans (hb5.mono HB64.out.size)
                have g0 := (hb35.cell (mem_lt HCE0.out)).trans HCE0.out
                have g1 := (hb35.cell (mem_lt HCE1.out)).trans HCE1.out
                have HB7 := Lib.hid (HB5.out.trans (hb35.mono HSZ.out))
                have HC7 := Lib.hid (HC5.out.below hb35 (Nat.le_refl _))
                have HL7 := Lib.hid (HL5.out.below hb35 (Nat.le_refl _))
                have HLT7 : Hid (∀ k, (Value.slice po np co).ownBlock = some k → k < w5.heap.size) := fun k hk => Nat.lt_of_lt_of_le (HC5.out.lt k hk).2 hb35.size
                have HGL7 : Hid (gl < w5.heap.size) := Nat.lt_of_lt_of_le (HL5.out.lt gl rfl).2 hb35.size
                clear hb5 hb35 f0 f1 HTT HCE0 HCE1 HB64 HB6
                cases t with
                | false =>
                  have HS0 : Hid (cofL ms D y x (i + 1) = P) := by unfold Hid; rw [HSTEP.out]; simp
                  go_wp2_with fail
                  go_roundw
                  case rel => exact ⟨i + 1, hil, by go_num, HB7.out, by rw [HS0.out]; unfold CeO; rw [HNP.out]; have h := HC7.out; unfold CeO at h; rw [HNP.out] at h; exact h, HL7.out, HAP5.out⟩
                  case measure => simp [intOf]; omega
                | true =>
                  have HS1 : Hid (cofL ms D y x (i + 1) = P ++ [(X, Y)]) := by unfold Hid; rw [HSTEP.out]; simp
                  have hba := (Below.refl w5.heap.size w5).alloc (Nat.le_refl _) (.cells #[.int .i64 X, .int .i64 Y] 127)
                  have hr := HC7.out.below hba (Nat.le_refl _)
                  unfold CeO at hr
                  rw [HNP.out] at hr
                  have HR := Lib.hid hr
                  have HBASE : Hid (gr ≤ (w5.alloc (.cells #[.int .i64 X, .int .i64 Y] 127)).heap.size) := by
                    unfold Hid
                    have h1 := hba.size
                    have h2 := HB7.out.size
                    have h3 := HGR.out
                    omega
                  have HNW := Lib.hid (World.news_of_block (cs := #[.int .i64 X, .int .i64 Y]) (t := 127) (fr := (0, 0)) (heap_alloc_new w5 (.cells #[.int .i64 X, .int .i64 Y] 127)))
                  have HPUSH : Hid (∀ v' w6, w6.ownsRow gr 127 2 v' (np + 1) (spVs P ++ [.int .i64 X, .int .i64 Y]) → (w5.alloc (.cells #[.int .i64 X, .int .i64 Y] 127)).grownBy w6 (Value.slice po np co).ownBlock →
                      (v'.ownBlock = (Value.slice po np co).ownBlock ∨ v'.ownBlock = some (w5.alloc (.cells #[.int .i64 X, .int .i64 Y] 127)).heap.size) →
                      Below gr w w6 ∧ CeO gr w6 v' (cofL ms D y x (i + 1)) ∧ CeO gr w6 (.slice (some ⟨gl, 0, none⟩) 4 cl) (cell4 x y) ∧ ∀ k, Value.ownBlock v' = some k → k ≠ gl) := fun v' w6 h1 h2 h3 => by
                    have hsz := hba.size
                    refine ⟨?_, ?_, ?_, ?_⟩
                    · have hB := HB7.out.trans (hba.mono (by have := HB7.out.size; have := HGR.out; omega))
                      exact ⟨h2.os.trans hB.os, h2.tape.trans hB.tape, h2.output.trans hB.output, Nat.le_trans hB.size h2.size, fun k hk => by
                        rw [h2.block k (by have := HBASE.out; omega) (fun e => by have := (HC7.out.lt k (by rw [HNP.out] at *; exact e.symm)).1; omega)]
                        exact hB.block k hk⟩
                    · rw [HS1.out]
                      unfold CeO
                      rw [spVs_app, List.length_append, HNP.out]; exact h1
                    · exact owns_keep (HL7.out.below hba (Nat.le_refl _)) fun k hk => h2.block k (by have := ((HL7.out.below hba (Nat.le_refl _)).lt k hk).2; exact this) fun e => by
                        have := HAP5.out k e.symm
                        have h4 : gl = k := by simpa [Value.ownBlock] using hk
                        exact this h4.symm
                    · intro k hk e
                      rcases h3 with h3 | h3
                      · exact HAP5.out k (h3 ▸ hk) e
                      · rw [h3] at hk
                        have h5 := Option.some.inj hk
                        have h6 := HGL7.out
                        omega
                  clear hba hr
                  go_wp2_with (at_builtin; refine wpList_append_own_at _ rfl (.tmp 77) (.tmp 82) 123 rfl gr 127 i2 (.agg #[.int .i64 0, .int .i64 0]) 2 16 Tryz.underlying123 hi2 hz0 hz1 hz2 rfl (by decide) _ np (spVs P) rfl HR.out ⟨_, 0, none⟩ 1 1 [.int .i64 X, .int .i64 Y] rfl rfl HNW.out (two_one _ _) (by unfold maxLen; omega) (by omega) HBASE.out ?_; intro v' w6 hown hgw hnil hat; have HP := Lib.hid (HPUSH.out v' w6 hown hgw hat); clear hown hgw hnil hat)
                  go_roundw
                  case rel => exact ⟨i + 1, hil, by go_num, HP.out.1, HP.out.2.1, HP.out.2.2.1, HP.out.2.2.2⟩
                  case measure => simp [intOf]; omega
              · have q1 : (D == dim) = false := beq_eq_false_iff_ne.2 hdd
                have HS0 : Hid (cofL ms dim y x (i + 1) = P) := by unfold Hid; rw [HSTEP.out]; simp [hdd]
                have HC7 := Lib.hid (HC5.out.below HB64.out (Nat.le_refl _))
                have HL7 := Lib.hid (HL5.out.below HB64.out (Nat.le_refl _))
                clear hdd
                go_wp2_with fail
                go_roundw
                case rel => exact ⟨i + 1, hil, by go_num, HB6.out, by rw [HS0.out]; exact HC7.out, HL7.out, HAP5.out⟩
                case measure => simp [intOf]; omega
            · obtain rfl : i = 4 := by omega
              have HB8 := Lib.hid hb
              rw [cofL_full] at hc
              have HC8 := Lib.hid hc
              clear hb hc hl hap
              go_wp2_with fail
              go_roundw
              case rel => exact ⟨x + 1, hxl, by go_num, HB8.out, HC8.out⟩
              case measure => simp [intOf]; omega
        · obtain rfl : x = W + 1 := by omega
          have qx : decide (((W + 1 : Nat) : Int) ≤ (W : Int)) = false := decide_eq_false (by omega)
          have HB3 := Lib.hid hb
          have HC3 : ∀ s, CeO gr wr s (cofL ms dim y (W + 1) 0) → CeO gr wr s (cofL ms dim (y + 1) 0 0) := fun s h => by rw [← cofL_row, HWN.out]; exact h
          have HC4 := Lib.hid (HC3 _ hc)
          clear hb hc HC3
          go_wp2_with fail
          go_roundw
          case rel => exact ⟨y + 1, hyl, by go_num, HB3.out, HC4.out⟩
          case measure => simp [intOf]; omega
    · obtain rfl : y = H + 1 := by omega
      have qy : decide (((H + 1 : Nat) : Int) ≤ (H : Int)) = false := decide_eq_false (by omega)
      clear hb hc
      go_wp2_with fail
      go_ret
      refine ⟨_, rfl, by rw [HGR.out]; exact HB.out, ?_⟩
      have h := HC.out
      rw [HGR.out, HHN.out]
      unfold cofL at h
      simpa [cellRow] using h
end Go.Proofs.YtoheffkiohfmoaaGreatDoor
