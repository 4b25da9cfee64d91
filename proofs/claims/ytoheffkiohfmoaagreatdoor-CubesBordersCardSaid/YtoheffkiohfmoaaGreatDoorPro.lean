/-
  cubes.Pieces and cubes.Holes by contracts.
-/
import Derived.Test.YtoheffkiohfmoaaGreatDoorTel
import Derived.Test.YtoheffkiohfmoaaGreatDoorSpr
import Derived.Test.YtoheffkiohfmoaaGreatDoorValB
set_option linter.unusedSimpArgs false
set_option linter.unusedVariables false
namespace Go.Proofs.YtoheffkiohfmoaaGreatDoor
open Go Go.RowKit Go.Maps FL

/-- what was seen ahead of the square with number k -/
structure SeenS (ms : List ByteArray) (cor full : Bool) (k b : Nat) (w0 w : World) (L : List Sq) : Prop where
  fr : Below w0.heap.size w0 w
  map : SMap w b L
  nod : L.Nodup
  box : ∀ q ∈ L, q.1 < wideI ms ∧ q.2 < ms.length
  mks : ∀ q, q ∈ L ↔ Marked cor (CnI ms full) (wideI ms) k q
theorem SeenS.skip {ms : List ByteArray} {cor full : Bool} {x y b : Nat} {w0 w : World} {L : List Sq} (h : SeenS ms cor full (y * wideI ms + x) b w0 w L) (hx : x < wideI ms) (hn : ¬ CnI ms full (x, y) ∨ (x, y) ∈ L) : SeenS ms cor full (y * wideI ms + (x + 1)) b w0 w L :=
  ⟨h.fr, h.map, h.nod, h.box, fun q => by
    rw [h.mks]
    exact (marked_same (p := (x, y)) (fun p h => h.1) hx (hn.imp id fun hm => (h.mks _).1 hm) q).symm⟩
theorem SeenS.tell {ms : List ByteArray} {cor full inner : Bool} {x y b : Nat} {w0 w : World} {L : List Sq} (h : SeenS ms cor full (y * wideI ms + x) b w0 w L) (hn : ¬ CnI ms full (x, y) ∨ (x, y) ∈ L) : ¬ TellI ms cor full inner (x, y) := by
  rintro ⟨h1, -⟩
  rcases hn with h2 | h2
  · exact h2 h1.1
  · exact (first_iff.1 h1).2 ((h.mks _).1 h2)

noncomputable def piecePN (ms : List ByteArray) : Int := if errV ms = 0 then ((cntI ms true true false (ms.length * wideI ms) : Nat) : Int) else 0
set_option maxRecDepth 100000 in
set_option maxHeartbeats 16000000 in
theorem pieceP_any (a : Nat → Addr) (ms : List ByteArray) (v : Value) (w : World) (hS : Sents w a) (h : StrsAt w v ms) (hsz : ∀ j, (rowB ms j).size ≤ 9223372036854775807) :
    Calls Tryz.prog 61 #[v] w fun e w' => e = .returned (.tuple #[.int .i64 (piecePN ms), errOf a (errV ms)]) ∧ Below w.heap.size w w' := by
  have HVA := Lib.hid (valid_any a ms v w hS h hsz)
  unfold ValP at HVA
  obtain ⟨pm, cm, hve, -⟩ := id h
  obtain ⟨H, hHn⟩ : ∃ H, ms.length = H := ⟨_, rfl⟩
  rw [hHn] at hve
  subst hve
  by_cases h0 : errV ms = 0
  rotate_left
  · obtain ⟨t, p, hp⟩ := errOf_iface (a := a) h0
    have hN : piecePN ms = 0 := by unfold piecePN; rw [if_neg h0]
    rw [hN]
    rw [hp] at HVA ⊢
    clear hS h hsz hHn h0 hp hN
    go_enter Tryz.func61, Tryz.ntmps61
    go_wp2_with fail
    refine HVA.out.mono ?_
    rintro e w1 ⟨rfl, hb⟩
    have HB := Lib.hid hb
    clear hb
    go_wp2_with fail
    go_ret2
    exact ⟨rfl, HB.out⟩
  · obtain ⟨hH24, hrect, hW24⟩ := errV_zero h0
    have hN : piecePN ms = ((cntI ms true true false (ms.length * wideI ms) : Nat) : Int) := by unfold piecePN; rw [if_pos h0]
    rw [hN]
    rw [h0, errOf_zero] at HVA ⊢
    obtain ⟨W, hWn⟩ : ∃ W, wideI ms = W := ⟨_, rfl⟩
    have hWH : H * W ≤ 576 := by
      rw [← hWn, ← hHn]
      exact Nat.mul_le_mul hH24 hW24
    have HWD := Lib.hid (fun wx (hx : Below w.heap.size w wx) => wide_any (.slice pm H cm) ms wx (h.below hx (Nat.le_refl _)))
    have HAT := Lib.hid (fun wx (hx : Below w.heap.size w wx) x y => at_any (.slice pm H cm) ms x y wx (h.below hx (Nat.le_refl _)))
    unfold Plain at HWD HAT
    simp only [hWn] at HWD
    have HSP := Lib.hid (fun (p0 : Sq) b S0 wx (hb : Below w.heap.size w wx) => spread_any ms (.slice pm H cm) p0 b true S0 wx (h.below hb (Nat.le_refl _)) (by omega) (by omega))
    have HWN := Lib.hid hWn
    have HHN := Lib.hid hHn
    have HWH := Lib.hid hWH
    have hH' : H ≤ 24 := by omega
    have hW' : W ≤ 24 := by omega
    clear hS h hsz hHn h0 hN hH24 hrect hW24 hWn hWH
    have hmm := @run_makeMap Tryz.prog
    go_enter Tryz.func61, Tryz.ntmps61
    go_wp2_with fail
    refine HVA.out.mono ?_
    rintro e w1 ⟨rfl, hb⟩
    have hbm : Below w.heap.size w (w1.alloc (.map #[] 0)) := hb.trans (((Below.refl _ _).alloc (Nat.le_refl _) _).mono hb.size)
    have hs0 : SeenS ms true true 0 w1.heap.size w (w1.alloc (.map #[] 0)) [] :=
      ⟨hbm, SMap.made w1, List.nodup_nil, (fun q hq => by simp at hq), fun q => ⟨fun hq => by simp at hq, fun ⟨r, hr, _⟩ => absurd hr (by omega)⟩⟩
    have hbw : w.heap.size ≤ w1.heap.size := hb.size
    obtain ⟨b, hbn⟩ : ∃ b, w1.heap.size = b := ⟨_, rfl⟩
    rw [hbn] at hs0 hbw
    have HBN := Lib.hid hbn
    have HS0 := Lib.hid hs0
    have HBW := Lib.hid hbw
    clear hb hbm hs0 hbn hbw HVA
    go_wp2_with fail
    clear hmm
    rw [HBN.out]
    go_loopw [6, 17] (fun s6 s17 wr => ∃ (y : Nat) (L : List Sq), y ≤ H ∧ s17 = .int .i64 (y : Int) ∧ s6 = .int .i64 ((cntI ms true true false (y * wideI ms) : Nat) : Int) ∧ SeenS ms true true (y * wideI ms) b w wr L) (fun _ s17 _ => H - (intOf s17).toNat)
    case atStart => exact ⟨0, [], Nat.zero_le _, rfl, by rw [Nat.zero_mul, cntI_zero]; rfl, by rw [Nat.zero_mul]; exact HS0.out⟩
    case round =>
      obtain ⟨y, L, hy, rfl, rfl, hs⟩ := hrel
      have HS1 := Lib.hid hs
      clear hs
      by_cases hyl : y < H
      · have hyW : y * W + W ≤ H * W := by
          have := Nat.mul_le_mul_right W (show y + 1 ≤ H by omega)
          rw [Nat.succ_mul] at this; exact this
        have HYW := Lib.hid hyW
        clear hyW
        go_wp2_with fail
        refine (HWD.out _ HS1.out.fr).mono ?_
        rintro e w5 ⟨rfl, hw⟩
        rw [hw]
        clear hw w5
        go_wp2_with fail
        go_loopw [6, 22] (fun s6 s22 wr => ∃ (x : Nat) (L : List Sq), x ≤ W ∧ s22 = .int .i64 (x : Int) ∧ s6 = .int .i64 ((cntI ms true true false (y * wideI ms + x) : Nat) : Int) ∧ SeenS ms true true (y * wideI ms + x) b w wr L) (fun _ s22 _ => W - (intOf s22).toNat)
        case atStart => exact ⟨0, L, Nat.zero_le _, rfl, by rw [Nat.add_zero], by rw [Nat.add_zero]; exact HS1.out⟩
        case round =>
          clear HS1
          obtain ⟨x, L, hx, rfl, rfl, hs⟩ := hrel
          have HS2 := Lib.hid hs
          obtain ⟨cn, hcn⟩ : ∃ cn, cntI ms true true false (y * wideI ms + x) = cn := ⟨_, rfl⟩
          have hcn6 : cn ≤ 1000000 := by have h1 := cntI_le ms true true false (y * wideI ms + x); rw [hcn, HWN.out] at h1; have h2 := HYW.out; have h3 := HWH.out; omega
          rw [hcn]
          have HCN := Lib.hid hcn
          clear hcn
          by_cases hxl : x < W
          · have hxW : x < wideI ms := by rw [HWN.out]; exact hxl
            have hyH : y < ms.length := by rw [HHN.out]; exact hyl
            obtain ⟨f, hf⟩ : ∃ f, fullI ms (x : Int) (y : Int) = f := ⟨_, rfl⟩
            have hat := HAT.out wr hs.fr (x : Int) (y : Int)
            rw [hf] at hat
            have hlk := hs.map.look (fun q hq => by have h1 := hs.box q hq; rw [HWN.out, HHN.out] at h1; omega) (q := (x, y)) (by show x ≤ 1000 ∧ y ≤ 1000; omega)
            unfold spN spV at hlk
            simp only at hlk
            have HA := Lib.hid hat
            have HF := Lib.hid hf
            have HXW := Lib.hid hxW
            have HYH := Lib.hid hyH
            have HSKIP : Hid ((¬ CnI ms true (x, y) ∨ (x, y) ∈ L) → SeenS ms true true (y * wideI ms + (x + 1)) b w wr L ∧ cntI ms true true false (y * wideI ms + (x + 1)) = cn) := fun hn =>
              ⟨HS2.out.skip hxW hn, by rw [← Nat.add_assoc, cntI_no hxW (HS2.out.tell hn)]; exact HCN.out⟩
            clear hat hf hs hxW hyH
            cases f with
            | false =>
              have HX := Lib.hid (HSKIP.out (Or.inl fun hc => by have h1 := hc.2.2; rw [HF.out] at h1; cases h1))
              clear hlk
              go_wp2_with fail
              refine HA.out.mono ?_
              rintro e w5 ⟨rfl, hw⟩
              rw [hw]
              clear hw w5
              go_wp2_with fail
              go_roundw
              case rel => exact ⟨x + 1, L, hxl, by go_num, by rw [HX.out.2], HX.out.1⟩
              case measure => simp [intOf]; omega
            | true =>
              by_cases hm : (x, y) ∈ L
              · simp only [if_pos hm] at hlk
                have HX := Lib.hid (HSKIP.out (Or.inr hm))
                clear hm
                go_wp2_with fail
                refine HA.out.mono ?_
                rintro e w5 ⟨rfl, hw⟩
                rw [hw]
                clear hw w5
                go_wp2_with fail
                go_roundw
                case rel => exact ⟨x + 1, L, hxl, by go_num, by rw [HX.out.2], HX.out.1⟩
                case measure => simp [intOf]; omega
              · simp only [if_neg hm] at hlk
                have hC : CnI ms true (x, y) := ⟨HXW.out, HYH.out, HF.out⟩
                have hnm : ¬ Marked true (CnI ms true) (wideI ms) (y * wideI ms + x) (x, y) := fun h1 => hm ((HS2.out.mks _).2 h1)
                have hsp := HSP.out (x, y) b L wr HS2.out.fr HXW.out HYH.out HS2.out.map HS2.out.nod HS2.out.box (by simp only [HF.out]; exact HS2.out.mks) hm
                simp only [HF.out] at hsp
                unfold SprP at hsp
                have HSPC := Lib.hid hsp
                have HC := Lib.hid hC
                have HNM := Lib.hid hnm
                have HFIN : Hid (∀ rim S' wx, wr.grownBy wx (some b) → SMap wx b S' → S'.Nodup → (∀ q ∈ S', q.1 < wideI ms ∧ q.2 < ms.length) → (∀ q, q ∈ S' ↔ Marked true (CnI ms true) (wideI ms) (y * wideI ms + x + 1) q) → (rim = true ↔ ∃ q, Conn true (CnI ms true) (x, y) q ∧ RimI ms q) →
                    SeenS ms true true (y * wideI ms + (x + 1)) b w wx S' ∧ cntI ms true true false (y * wideI ms + (x + 1)) = if (!rim || !false) then cn + 1 else cn) := fun rim S' wx h1 h2 h3 h4 h5 h6 => by
                  have hfr := HS2.out.fr
                  refine ⟨⟨⟨h1.os.trans hfr.os, h1.tape.trans hfr.tape, h1.output.trans hfr.output, Nat.le_trans hfr.size h1.size, fun k hk => by
                    rw [h1.block k (Nat.lt_of_lt_of_le hk hfr.size) (fun e => by have e2 := Option.some.inj e; have := HBW.out; omega)]
                    exact hfr.block k hk⟩, h2, h3, h4, fun q => by rw [← Nat.add_assoc]; exact h5 q⟩, ?_⟩
                  have ht := tell_iff (inner := false) HC.out HNM.out h6
                  rw [← Nat.add_assoc]
                  cases he : (!rim || !false) with
                  | true => rw [cntI_yes HXW.out (ht.2 he), HCN.out]; rfl
                  | false => rw [cntI_no HXW.out (fun h => by have := ht.1 h; rw [he] at this; cases this), HCN.out]; rfl
                clear hsp hC hnm hm HSKIP
                go_wp2_with fail
                refine HA.out.mono ?_
                rintro e w5 ⟨rfl, hw⟩
                rw [hw]
                clear hw w5
                go_wp2_with fail
                refine HSPC.out.mono ?_
                rintro e w5 ⟨rim, S', rfl, h1, h2, h3, h4, h5, h6⟩
                have HX := Lib.hid (HFIN.out rim S' w5 h1 h2 h3 h4 h5 h6)
                clear h1 h2 h3 h4 h5 h6 hlk HSPC
                go_wp2_with fail
                go_roundw
                case rel => exact ⟨x + 1, S', hxl, by go_num, by have h := HX.out.2; rw [h]; simp, HX.out.1⟩
                case measure => simp [intOf]; omega
          · obtain rfl : x = W := by omega
            have HN : Hid (SeenS ms true true ((y + 1) * wideI ms) b w wr L ∧ cntI ms true true false ((y + 1) * wideI ms) = cn) := by
              have h1 := HS2.out
              have h2 := HCN.out
              have h3 := HWN.out
              unfold Hid
              rw [Nat.succ_mul]
              rw [← h3] at h1 h2; exact ⟨h1, h2⟩
            clear hs
            go_wp2_with fail
            go_roundw
            case rel => exact ⟨y + 1, L, hyl, by go_num, by rw [HN.out.2], HN.out.1⟩
            case measure => simp [intOf]; omega
      · obtain rfl : y = H := by omega
        go_wp2_with fail
        go_ret2
        exact ⟨by rw [HHN.out]; rfl, HS1.out.fr⟩

noncomputable def holePN (ms : List ByteArray) : Int := if errV ms = 0 then ((cntI ms false false true (ms.length * wideI ms) : Nat) : Int) else 0
set_option maxRecDepth 100000 in
set_option maxHeartbeats 16000000 in
theorem holeP_any (a : Nat → Addr) (ms : List ByteArray) (v : Value) (w : World) (hS : Sents w a) (h : StrsAt w v ms) (hsz : ∀ j, (rowB ms j).size ≤ 9223372036854775807) :
    Calls Tryz.prog 62 #[v] w fun e w' => e = .returned (.tuple #[.int .i64 (holePN ms), errOf a (errV ms)]) ∧ Below w.heap.size w w' := by
  have HVA := Lib.hid (valid_any a ms v w hS h hsz)
  unfold ValP at HVA
  obtain ⟨pm, cm, hve, -⟩ := id h
  obtain ⟨H, hHn⟩ : ∃ H, ms.length = H := ⟨_, rfl⟩
  rw [hHn] at hve
  subst hve
  by_cases h0 : errV ms = 0
  rotate_left
  · obtain ⟨t, p, hp⟩ := errOf_iface (a := a) h0
    have hN : holePN ms = 0 := by unfold holePN; rw [if_neg h0]
    rw [hN]
    rw [hp] at HVA ⊢
    clear hS h hsz hHn h0 hp hN
    go_enter Tryz.func62, Tryz.ntmps62
    go_wp2_with fail
    refine HVA.out.mono ?_
    rintro e w1 ⟨rfl, hb⟩
    have HB := Lib.hid hb
    clear hb
    go_wp2_with fail
    go_ret2
    exact ⟨rfl, HB.out⟩
  · obtain ⟨hH24, hrect, hW24⟩ := errV_zero h0
    have hN : holePN ms = ((cntI ms false false true (ms.length * wideI ms) : Nat) : Int) := by unfold holePN; rw [if_pos h0]
    rw [hN]
    rw [h0, errOf_zero] at HVA ⊢
    obtain ⟨W, hWn⟩ : ∃ W, wideI ms = W := ⟨_, rfl⟩
    have hWH : H * W ≤ 576 := by
      rw [← hWn, ← hHn]
      exact Nat.mul_le_mul hH24 hW24
    have HWD := Lib.hid (fun wx (hx : Below w.heap.size w wx) => wide_any (.slice pm H cm) ms wx (h.below hx (Nat.le_refl _)))
    have HAT := Lib.hid (fun wx (hx : Below w.heap.size w wx) x y => at_any (.slice pm H cm) ms x y wx (h.below hx (Nat.le_refl _)))
    unfold Plain at HWD HAT
    simp only [hWn] at HWD
    have HSP := Lib.hid (fun (p0 : Sq) b S0 wx (hb : Below w.heap.size w wx) => spread_any ms (.slice pm H cm) p0 b false S0 wx (h.below hb (Nat.le_refl _)) (by omega) (by omega))
    have HWN := Lib.hid hWn
    have HHN := Lib.hid hHn
    have HWH := Lib.hid hWH
    have hH' : H ≤ 24 := by omega
    have hW' : W ≤ 24 := by omega
    clear hS h hsz hHn h0 hN hH24 hrect hW24 hWn hWH
    have hmm := @run_makeMap Tryz.prog
    go_enter Tryz.func62, Tryz.ntmps62
    go_wp2_with fail
    refine HVA.out.mono ?_
    rintro e w1 ⟨rfl, hb⟩
    have hbm : Below w.heap.size w (w1.alloc (.map #[] 0)) := hb.trans (((Below.refl _ _).alloc (Nat.le_refl _) _).mono hb.size)
    have hs0 : SeenS ms false false 0 w1.heap.size w (w1.alloc (.map #[] 0)) [] :=
      ⟨hbm, SMap.made w1, List.nodup_nil, (fun q hq => by simp at hq), fun q => ⟨fun hq => by simp at hq, fun ⟨r, hr, _⟩ => absurd hr (by omega)⟩⟩
    have hbw : w.heap.size ≤ w1.heap.size := hb.size
    obtain ⟨b, hbn⟩ : ∃ b, w1.heap.size = b := ⟨_, rfl⟩
    rw [hbn] at hs0 hbw
    have HBN := Lib.hid hbn
    have HS0 := Lib.hid hs0
    have HBW := Lib.hid hbw
    clear hb hbm hs0 hbn hbw HVA
    go_wp2_with fail
    clear hmm
    rw [HBN.out]
    go_loopw [6, 17] (fun s6 s17 wr => ∃ (y : Nat) (L : List Sq), y ≤ H ∧ s17 = .int .i64 (y : Int) ∧ s6 = .int .i64 ((cntI ms false false true (y * wideI ms) : Nat) : Int) ∧ SeenS ms false false (y * wideI ms) b w wr L) (fun _ s17 _ => H - (intOf s17).toNat)
    case atStart => exact ⟨0, [], Nat.zero_le _, rfl, by rw [Nat.zero_mul, cntI_zero]; rfl, by rw [Nat.zero_mul]; exact HS0.out⟩
    case round =>
      obtain ⟨y, L, hy, rfl, rfl, hs⟩ := hrel
      have HS1 := Lib.hid hs
      clear hs
      by_cases hyl : y < H
      · have hyW : y * W + W ≤ H * W := by
          have := Nat.mul_le_mul_right W (show y + 1 ≤ H by omega)
          rw [Nat.succ_mul] at this; exact this
        have HYW := Lib.hid hyW
        clear hyW
        go_wp2_with fail
        refine (HWD.out _ HS1.out.fr).mono ?_
        rintro e w5 ⟨rfl, hw⟩
        rw [hw]
        clear hw w5
        go_wp2_with fail
        go_loopw [6, 22] (fun s6 s22 wr => ∃ (x : Nat) (L : List Sq), x ≤ W ∧ s22 = .int .i64 (x : Int) ∧ s6 = .int .i64 ((cntI ms false false true (y * wideI ms + x) : Nat) : Int) ∧ SeenS ms false false (y * wideI ms + x) b w wr L) (fun _ s22 _ => W - (intOf s22).toNat)
        case atStart => exact ⟨0, L, Nat.zero_le _, rfl, by rw [Nat.add_zero], by rw [Nat.add_zero]; exact HS1.out⟩
        case round =>
          clear HS1
          obtain ⟨x, L, hx, rfl, rfl, hs⟩ := hrel
          have HS2 := Lib.hid hs
          obtain ⟨cn, hcn⟩ : ∃ cn, cntI ms false false true (y * wideI ms + x) = cn := ⟨_, rfl⟩
          have hcn6 : cn ≤ 1000000 := by have h1 := cntI_le ms false false true (y * wideI ms + x); rw [hcn, HWN.out] at h1; have h2 := HYW.out; have h3 := HWH.out; omega
          rw [hcn]
          have HCN := Lib.hid hcn
          clear hcn
          by_cases hxl : x < W
          · have hxW : x < wideI ms := by rw [HWN.out]; exact hxl
            have hyH : y < ms.length := by rw [HHN.out]; exact hyl
            obtain ⟨f, hf⟩ : ∃ f, fullI ms (x : Int) (y : Int) = f := ⟨_, rfl⟩
            have hat := HAT.out wr hs.fr (x : Int) (y : Int)
            rw [hf] at hat
            have hlk := hs.map.look (fun q hq => by have h1 := hs.box q hq; rw [HWN.out, HHN.out] at h1; omega) (q := (x, y)) (by show x ≤ 1000 ∧ y ≤ 1000; omega)
            unfold spN spV at hlk
            simp only at hlk
            have HA := Lib.hid hat
            have HF := Lib.hid hf
            have HXW := Lib.hid hxW
            have HYH := Lib.hid hyH
            have HSKIP : Hid ((¬ CnI ms false (x, y) ∨ (x, y) ∈ L) → SeenS ms false false (y * wideI ms + (x + 1)) b w wr L ∧ cntI ms false false true (y * wideI ms + (x + 1)) = cn) := fun hn =>
              ⟨HS2.out.skip hxW hn, by rw [← Nat.add_assoc, cntI_no hxW (HS2.out.tell hn)]; exact HCN.out⟩
            clear hat hf hs hxW hyH
            cases f with
            | true =>
              have HX := Lib.hid (HSKIP.out (Or.inl fun hc => by have h1 := hc.2.2; rw [HF.out] at h1; cases h1))
              clear hlk
              go_wp2_with fail
              refine HA.out.mono ?_
              rintro e w5 ⟨rfl, hw⟩
              rw [hw]
              clear hw w5
              go_wp2_with fail
              go_roundw
              case rel => exact ⟨x + 1, L, hxl, by go_num, by rw [HX.out.2], HX.out.1⟩
              case measure => simp [intOf]; omega
            | false =>
              by_cases hm : (x, y) ∈ L
              · simp only [if_pos hm] at hlk
                have HX := Lib.hid (HSKIP.out (Or.inr hm))
                clear hm
                go_wp2_with fail
                refine HA.out.mono ?_
                rintro e w5 ⟨rfl, hw⟩
                rw [hw]
                clear hw w5
                go_wp2_with fail
                go_roundw
                case rel => exact ⟨x + 1, L, hxl, by go_num, by rw [HX.out.2], HX.out.1⟩
                case measure => simp [intOf]; omega
              · simp only [if_neg hm] at hlk
                have hC : CnI ms false (x, y) := ⟨HXW.out, HYH.out, HF.out⟩
                have hnm : ¬ Marked false (CnI ms false) (wideI ms) (y * wideI ms + x) (x, y) := fun h1 => hm ((HS2.out.mks _).2 h1)
                have hsp := HSP.out (x, y) b L wr HS2.out.fr HXW.out HYH.out HS2.out.map HS2.out.nod HS2.out.box (by simp only [HF.out]; exact HS2.out.mks) hm
                simp only [HF.out] at hsp
                unfold SprP at hsp
                have HSPC := Lib.hid hsp
                have HC := Lib.hid hC
                have HNM := Lib.hid hnm
                have HFIN : Hid (∀ rim S' wx, wr.grownBy wx (some b) → SMap wx b S' → S'.Nodup → (∀ q ∈ S', q.1 < wideI ms ∧ q.2 < ms.length) → (∀ q, q ∈ S' ↔ Marked false (CnI ms false) (wideI ms) (y * wideI ms + x + 1) q) → (rim = true ↔ ∃ q, Conn false (CnI ms false) (x, y) q ∧ RimI ms q) →
                    SeenS ms false false (y * wideI ms + (x + 1)) b w wx S' ∧ cntI ms false false true (y * wideI ms + (x + 1)) = if (!rim || !true) then cn + 1 else cn) := fun rim S' wx h1 h2 h3 h4 h5 h6 => by
                  have hfr := HS2.out.fr
                  refine ⟨⟨⟨h1.os.trans hfr.os, h1.tape.trans hfr.tape, h1.output.trans hfr.output, Nat.le_trans hfr.size h1.size, fun k hk => by
                    rw [h1.block k (Nat.lt_of_lt_of_le hk hfr.size) (fun e => by have e2 := Option.some.inj e; have := HBW.out; omega)]
                    exact hfr.block k hk⟩, h2, h3, h4, fun q => by rw [← Nat.add_assoc]; exact h5 q⟩, ?_⟩
                  have ht := tell_iff (inner := true) HC.out HNM.out h6
                  rw [← Nat.add_assoc]
                  cases he : (!rim || !true) with
                  | true => rw [cntI_yes HXW.out (ht.2 he), HCN.out]; rfl
                  | false => rw [cntI_no HXW.out (fun h => by have := ht.1 h; rw [he] at this; cases this), HCN.out]; rfl
                clear hsp hC hnm hm HSKIP
                go_wp2_with fail
                refine HA.out.mono ?_
                rintro e w5 ⟨rfl, hw⟩
                rw [hw]
                clear hw w5
                go_wp2_with fail
                refine HSPC.out.mono ?_
                rintro e w5 ⟨rim, S', rfl, h1, h2, h3, h4, h5, h6⟩
                have HX := Lib.hid (HFIN.out rim S' w5 h1 h2 h3 h4 h5 h6)
                clear h1 h2 h3 h4 h5 h6 hlk HSPC
                cases rim with
                | true =>
                  go_wp2_with fail
                  go_roundw
                  case rel => exact ⟨x + 1, S', hxl, by go_num, by have h := HX.out.2; rw [h]; simp, HX.out.1⟩
                  case measure => simp [intOf]; omega
                | false =>
                  go_wp2_with fail
                  go_roundw
                  case rel => exact ⟨x + 1, S', hxl, by go_num, by have h := HX.out.2; rw [h]; simp, HX.out.1⟩
                  case measure => simp [intOf]; omega
          · obtain rfl : x = W := by omega
            have HN : Hid (SeenS ms false false ((y + 1) * wideI ms) b w wr L ∧ cntI ms false false true ((y + 1) * wideI ms) = cn) := by
              have h1 := HS2.out
              have h2 := HCN.out
              have h3 := HWN.out
              unfold Hid
              rw [Nat.succ_mul]
              rw [← h3] at h1 h2; exact ⟨h1, h2⟩
            clear hs
            go_wp2_with fail
            go_roundw
            case rel => exact ⟨y + 1, L, hyl, by go_num, by rw [HN.out.2], HN.out.1⟩
            case measure => simp [intOf]; omega
      · obtain rfl : y = H := by omega
        go_wp2_with fail
        go_ret2
        exact ⟨by rw [HHN.out]; rfl, HS1.out.fr⟩

end Go.Proofs.YtoheffkiohfmoaaGreatDoor
