/-
  The law MorseFree says true.
-/
import Derived.Test.YtoheffkiohfmoaaGreatDoorMorN
import Derived.Test.YtoheffkiohfmoaaGreatDoorCRefF
import Derived.Test.YtoheffkiohfmoaaGreatDoorCelX
import Derived.Test.YtoheffkiohfmoaaGreatDoorCelY
import Derived.Test.YtoheffkiohfmoaaGreatDoorFaulted
set_option linter.unusedSimpArgs false
set_option linter.unusedVariables false
namespace Go.Proofs.YtoheffkiohfmoaaGreatDoor
open Go Go.RowKit Go.Maps

theorem okP_unique {F : List (List Int)} {g : List (Int × Int)} {i j : Nat} (h1 : okTo' F g i) (h2 : ¬ okP F (leftAt F g i) (g.getD i (0, 0))) (h3 : okTo' F g j) (h4 : ¬ okP F (leftAt F g j) (g.getD j (0, 0))) : i = j := by
  rcases Nat.lt_trichotomy i j with h | h | h
  · exact absurd (h3 i h) h2
  · exact h
  · exact absurd (h1 j h) h4
set_option maxRecDepth 100000 in
set_option maxHeartbeats 16000000 in
theorem morseFree_no (a : Nat → Addr) (L : List (List Int)) (g : List (Int × Int)) (v vg : Value) (w : World) (hS : Sents w a) (hv : ListsIn w.heap.size w v L) (hg : PairsAt w vg g) (hno : littleB L 60 = false ∨ 60 < g.length) :
    Calls Tryz.prog 3 #[v, vg] w (True1 w) := by
  obtain ⟨pg, cg, hge, -⟩ := id hg
  obtain ⟨ng, hng⟩ : ∃ ng, g.length = ng := ⟨_, rfl⟩
  rw [hng] at hge hno
  subst hge
  have HV := Lib.hid hv
  have HAR := Lib.hid (arrow_any a w hS)
  obtain ⟨r, hr⟩ : ∃ r, littleB L 60 = r := ⟨_, rfl⟩
  have HR := Lib.hid hr
  rw [hr] at hno
  unfold Gives at HAR
  unfold True1
  clear hS hv hg hng hr
  cases r with
  | false =>
    clear hno
    go_enter Tryz.func3, Tryz.ntmps3
    go_wp2_with fail
    refine HAR.out.mono ?_
    rintro e w1 ⟨rfl, hb1⟩
    have HB1 := Lib.hid hb1
    have HLI := Lib.hid (little_any L 60 v w1 (HV.out.later hb1 (Nat.le_refl _) (Nat.le_refl _)) (by decide))
    rw [HR.out] at HLI
    unfold Gives at HLI
    clear hb1
    go_wp2_with fail
    refine HLI.out.mono ?_
    rintro e w2 ⟨rfl, hb2⟩
    have HB2 := Lib.hid (HB1.out.trans (hb2.mono HB1.out.size))
    clear hb2
    go_wp2_with fail
    go_ret
    exact ⟨rfl, HB2.out⟩
  | true =>
    have hn : 60 < ng := hno.resolve_left (by decide)
    have q1 : decide ((60 : Int) < (ng : Int)) = true := decide_eq_true (by omega)
    have q2 : decide (60 < ng) = true := decide_eq_true hn
    have q3 : decide ((ng : Int) > 60) = true := decide_eq_true (by omega)
    clear hno
    go_enter Tryz.func3, Tryz.ntmps3
    go_wp2_with fail
    refine HAR.out.mono ?_
    rintro e w1 ⟨rfl, hb1⟩
    have HB1 := Lib.hid hb1
    have HLI := Lib.hid (little_any L 60 v w1 (HV.out.later hb1 (Nat.le_refl _) (Nat.le_refl _)) (by decide))
    rw [HR.out] at HLI
    unfold Gives at HLI
    clear hb1
    go_wp2_with fail
    refine HLI.out.mono ?_
    rintro e w2 ⟨rfl, hb2⟩
    have HB2 := Lib.hid (HB1.out.trans (hb2.mono HB1.out.size))
    clear hb2
    go_wp2_with fail
    go_ret
    exact ⟨rfl, HB2.out⟩

set_option maxRecDepth 100000 in
set_option maxHeartbeats 64000000 in
theorem morseFree_any (a : Nat → Addr) (L : List (List Int)) (g : List (Int × Int)) (v vg : Value) (w : World) (hS : Sents w a) (hv : ListsIn w.heap.size w v L) (hg : PairsAt w vg g)
    (hgb : ∀ p ∈ g, (-9223372036854775808 ≤ p.1 ∧ p.1 ≤ 9223372036854775807) ∧ (-9223372036854775808 ≤ p.2 ∧ p.2 ≤ 9223372036854775807)) :
    Calls Tryz.prog 3 #[v, vg] w (True1 w) := by
  by_cases hlit : littleB L 60 = true
  rotate_left
  · exact morseFree_no a L g v vg w hS hv hg (Or.inl (by simpa using hlit))
  by_cases hg60 : g.length ≤ 60
  rotate_left
  · exact morseFree_no a L g v vg w hS hv hg (Or.inr (by omega))
  obtain ⟨pg, cg, hge, -⟩ := id hg
  obtain ⟨ng, hng⟩ : ∃ ng, g.length = ng := ⟨_, rfl⟩
  rw [hng] at hge hg60
  subst hge
  obtain ⟨hL1, hL2⟩ := littleB_few hlit
  have HV := Lib.hid hv
  have HS := Lib.hid hS
  have HG := Lib.hid hg
  have HGB := Lib.hid hgb
  have HNG := Lib.hid hng
  have HL1 := Lib.hid hL1
  have HL2 := Lib.hid hL2
  have HLIT := Lib.hid hlit
  have HAR := Lib.hid (arrow_any a w hS)
  unfold Gives at HAR
  unfold True1
  have q1 : decide ((60 : Int) < (ng : Int)) = false := decide_eq_false (by omega)
  have q2 : decide (60 < ng) = false := decide_eq_false (by omega)
  have q3 : decide ((ng : Int) > 60) = false := decide_eq_false (by omega)
  clear hS hv hg hgb hng hL1 hL2 hlit
  go_enter Tryz.func3, Tryz.ntmps3
  go_wp2_with fail
  refine HAR.out.mono ?_
  rintro e w1 ⟨rfl, hb1⟩
  have HB1 := Lib.hid hb1
  have HLI := Lib.hid (little_any L 60 v w1 (HV.out.later hb1 (Nat.le_refl _) (Nat.le_refl _)) (by decide))
  rw [HLIT.out] at HLI
  unfold Gives at HLI
  clear hb1
  go_wp2_with fail
  refine HLI.out.mono ?_
  rintro e w2 ⟨rfl, hb2⟩
  have HB2 := Lib.hid (HB1.out.trans (hb2.mono HB1.out.size))
  have HCE := Lib.hid (complexError_any L v w2 (HV.out.later HB2.out (Nat.le_refl _) (Nat.le_refl _)) HL1.out HL2.out)
  unfold Gives at HCE
  obtain ⟨c, hc⟩ : ∃ c, errX L = c := ⟨_, rfl⟩
  rw [hc] at HCE
  have HC := Lib.hid hc
  clear hb2 hc
  go_wp2_with fail
  refine HCE.out.mono ?_
  rintro e w3 ⟨rfl, hb3⟩
  have HB3 := Lib.hid (HB2.out.trans (hb3.mono HB2.out.size))
  have HCX := Lib.hid (cx_any w.heap.size L v w3 HB3.out.size (HV.out.below HB3.out (Nat.le_refl _)) HL1.out HL2.out)
  clear hb3
  go_wp2_with fail
  refine HCX.out.mono ?_
  rintro e w4 ⟨u4, rfl, hb4, hR4⟩
  have HB4 := Lib.hid (HB3.out.trans (hb4.mono HB3.out.size))
  have HFR := Lib.hid (mfree_any a w.heap.size L u4 w4 (HS.out.below HB4.out (Nat.le_refl _)) HB4.out.size hR4.lists HL1.out HL2.out)
  obtain ⟨pu, cu, hue, -⟩ := id hR4.lists
  obtain ⟨nu, hnu⟩ : ∃ nu, L.length = nu := ⟨_, rfl⟩
  rw [hnu] at hue
  subst hue
  unfold FreeU errE at HFR
  clear hb4 hR4 hnu
  go_wp2_with fail
  refine HFR.out.mono ?_
  rintro e w5 ⟨hb5, hF5⟩
  have HB5 := Lib.hid (HB4.out.trans (hb5.mono HB4.out.size))
  have HCX2 := Lib.hid (cx_any w.heap.size L v w5 HB5.out.size (HV.out.below HB5.out (Nat.le_refl _)) HL1.out HL2.out)
  have hcase : ∃ v5 e5, e = .returned (.tuple #[v5, e5]) ∧ ((errX L = 0 ∧ e5 = .nilIface ∧ QueH w4.heap.size w5 v5 (freeF (faceN (allF L)) (allT (faceN (allF L))))) ∨ (∃ k, k < 8 ∧ errX L = k + 1 ∧ v5 = .slice none 0 0 ∧ e5 = .iface 251 (.pointer (some (a k))))) := by
    rcases hF5 with ⟨h0, v5, rfl, hq⟩ | ⟨k, hk, hek, rfl⟩
    · exact ⟨_, _, rfl, Or.inl ⟨h0, rfl, hq⟩⟩
    · exact ⟨_, _, rfl, Or.inr ⟨k, hk, hek, rfl, rfl⟩⟩
  obtain ⟨v5, e5, rfl, h5⟩ := hcase
  have H5 := Lib.hid h5
  clear hb5 hF5 h5
  go_wp2_with fail
  refine HCX2.out.mono ?_
  rintro e w6 ⟨u6, rfl, hb6, hR6⟩
  have HB56 := Lib.hid hb6
  have HB6 := Lib.hid (HB5.out.trans (hb6.mono HB5.out.size))
  have HPA := Lib.hid (pairs_any g (.slice pg ng cg) w6 (HG.out.below HB6.out (Nat.le_refl _)) (by rw [HNG.out]; omega))
  have HR6 := Lib.hid (hR6.lists (B := w.heap.size))
  clear hb6 hR6
  go_wp2_with fail
  refine HPA.out.mono ?_
  rintro e w7 ⟨vp, rfl, hb7, hP7⟩
  have HB57 := Lib.hid (HB56.out.trans (hb7.mono HB56.out.size))
  have HB7 := Lib.hid (HB6.out.trans (hb7.mono HB6.out.size))
  have HCO := Lib.hid (collapse_any a w.heap.size L g u6 vp w7 (HS.out.below HB7.out (Nat.le_refl _)) HB7.out.size (HR6.out.below hb7 (Nat.le_refl _)) hP7 HL1.out HL2.out (by rw [HNG.out]; omega) HGB.out)
  obtain ⟨pu6, cu6, hue, -⟩ := id HR6.out
  obtain ⟨nu6, hnu⟩ : ∃ nu, L.length = nu := ⟨_, rfl⟩
  rw [hnu] at hue
  subst hue
  unfold ColU errE at HCO
  clear hb7 hP7 hnu
  go_wp2_with fail
  refine HCO.out.mono ?_
  rintro e w8 ⟨hb8, hC8⟩
  have HB58 := Lib.hid (HB57.out.trans (hb8.mono HB57.out.size))
  have HB8 := Lib.hid (HB7.out.trans (hb8.mono HB7.out.size))
  clear hb8
  have hcase : (∃ px nx cx ve, e = .returned (.tuple #[.agg #[.slice px nx cx], ve]) ∧ errX L = 0 ∧
      ((okTo' (faceN (allF L)) g g.length ∧ ve = .nilIface ∧ ListsIn w.heap.size w8 (.slice px nx cx) (madeF (leftF (faceN (allF L)) (leftAt (faceN (allF L)) g g.length)))) ∨
       (∃ i, i < g.length ∧ okTo' (faceN (allF L)) g i ∧ ¬ okP (faceN (allF L)) (leftAt (faceN (allF L)) g i) (g.getD i (0, 0)) ∧ nx = 0 ∧ ErrAt a w8 ve 4 (i : Int)))) ∨
      (∃ k, k < 8 ∧ errX L = k + 1 ∧ e = .returned (.tuple #[.agg #[.slice none 0 0], .iface 251 (.pointer (some (a k)))])) := by
    rcases hC8 with ⟨h0, hok, v8, rfl, hL8⟩ | ⟨h0, i, hi, hok, hnok, ve, rfl, hE8⟩ | ⟨k, hk, hek, rfl⟩
    · obtain ⟨p8, c8, he8, -⟩ := id hL8
      subst he8
      exact Or.inl ⟨_, _, _, _, rfl, h0, Or.inl ⟨hok, rfl, hL8⟩⟩
    · exact Or.inl ⟨_, _, _, _, rfl, h0, Or.inr ⟨i, hi, hok, hnok, rfl, hE8⟩⟩
    · exact Or.inr ⟨k, hk, hek, rfl⟩
  clear hC8
  rcases hcase with ⟨px, nx, cx, ve, rfl, h0, h8⟩ | ⟨k, hk, hek, rfl⟩
  · obtain rfl : c = 0 := by rw [← HC.out]; exact h0
    rcases H5.out with ⟨-, rfl, hq5⟩ | ⟨k', hk', hek', -⟩
    rotate_left
    · exact absurd (h0.symm.trans hek') (by omega)
    have H8 := Lib.hid h8
    have HE0 := Lib.hid h0
    have HBD := Lib.hid (faceN_bd h0)
    have hC0 := (errX_ok h0).1
    have HC0 := Lib.hid hC0
    have hA6 := (errC_ok hC0).2.2
    have hA7 := allF_bd hC0
    obtain ⟨pq, cq, hqe⟩ := hq5.sliceOf
    have hb9 := lit_below w8 (.cells #[.slice px nx cx] 32)
    have HK9 := Lib.hid (heap_alloc_new w8 (.cells #[.slice px nx cx] 32))
    have HB89 := Lib.hid hb9
    have HB9 := Lib.hid (HB8.out.trans (hb9.mono HB8.out.size))
    have HQ5 := Lib.hid hq5
    have HCL := Lib.hid (closed_any w.heap.size L v _ HB9.out.size (HV.out.below HB9.out (Nat.le_refl _)) HL1.out HL2.out)
    unfold ClosedPost at HCL
    rw [hC0] at HCL
    clear h8 h0 hC0 hb9 hq5 H5 hqe
    go_wp2_with fail
    refine HCL.out.mono ?_
    rintro e w10 ⟨v10, rfl, hb10, hL10, -⟩
    have hl10 := hL10 (by first | trivial | rfl)
    have HK10 := Lib.hid ((hb10.block w8.heap.size (Array.getElem?_eq_some_iff.1 HK9.out).1).trans HK9.out)
    have HB810 := Lib.hid (HB89.out.trans (hb10.mono HB89.out.size))
    have HB10 := Lib.hid (HB9.out.trans (hb10.mono HB9.out.size))
    have HNU := Lib.hid (numbered_any w.heap.size (allF L) v10 w10 HB10.out.size hl10 (by omega) (fun l hl => by have := hA7 l hl; omega) (by have := HBD.out.1; omega))
    unfold ListPost at HNU
    clear hb10 hL10 hl10
    go_wp2_with fail
    refine HNU.out.mono ?_
    rintro e w11 ⟨v11, rfl, hb11, hR11⟩
    have HK11 := Lib.hid ((hb11.block w8.heap.size (Array.getElem?_eq_some_iff.1 HK10.out).1).trans HK10.out)
    have HB811 := Lib.hid (HB810.out.trans (hb11.mono HB810.out.size))
    have HB11 := Lib.hid (HB10.out.trans (hb11.mono HB10.out.size))
    obtain ⟨F, hF⟩ : ∃ F, faceN (allF L) = F := ⟨_, rfl⟩
    have HUP : Hid (LenUp F) := by unfold Hid; rw [← hF]; exact faceN_up _
    have HLR : Hid (∀ lf, errC (leftF F lf) = 0) := by unfold Hid; rw [← hF]; exact left_right HC0.out
    have HFE := Lib.hid hF
    rw [hF] at hR11 H8 HQ5 HBD
    obtain ⟨n, hn⟩ : ∃ n, F.length = n := ⟨_, rfl⟩
    have HN := Lib.hid hn
    have HR11 := Lib.hid (hR11.lists (B := w.heap.size))
    have hn6 := HBD.out.1
    rw [hn] at hn6
    obtain ⟨p11, c11, hve, -⟩ := id HR11.out
    rw [hn] at hve
    subst hve
    have HAL := Lib.hid (allLeft_any n w11 (by omega))
    clear hF hn hb11 hR11
    go_wp2_with fail
    refine HAL.out.mono ?_
    rintro e w12 ⟨vb, rfl, hb12, hO12⟩
    have HK12 := Lib.hid ((hb12.block w8.heap.size (Array.getElem?_eq_some_iff.1 HK11.out).1).trans HK11.out)
    have HB812 := Lib.hid (HB811.out.trans (hb12.mono HB811.out.size))
    have HB12 := Lib.hid (HB11.out.trans (hb12.mono HB11.out.size))
    have HR12 := Lib.hid (HR11.out.below hb12 (Nat.le_refl _))
    have HFP := Lib.hid (freePairs_any w.heap.size F (.slice p11 n c11) vb (List.replicate n true) w12 HR12.out hO12.reads (by rw [List.length_replicate, HN.out]) HBD.out.1 (fun x hx => by have := HBD.out.2 x hx; omega) HUP.out)
    unfold FreeP at HFP
    clear hb12 hO12
    go_wp2_with fail
    refine HFP.out.mono ?_
    rintro e w13 ⟨v13, rfl, hb13, hQ13⟩
    have HK13 := Lib.hid ((hb13.block w8.heap.size (Array.getElem?_eq_some_iff.1 HK12.out).1).trans HK12.out)
    have HB813 := Lib.hid (HB812.out.trans (hb13.mono HB812.out.size))
    have HB13 := Lib.hid (HB12.out.trans (hb13.mono HB12.out.size))
    have HR13 := Lib.hid (HR12.out.below hb13 (Nat.le_refl _))
    have hQE : QueH w4.heap.size w13 v5 (freeF F (List.replicate n true)) := by
      have h := (HQ5.out.below HB58.out (Nat.le_refl _)).below HB813.out (Nat.le_refl _)
      unfold allT at h
      rw [HN.out] at h
      exact h
    have hfl := freeF_len F (List.replicate n true)
    rw [HN.out] at hfl
    have hpl : (pairI (freeF F (List.replicate n true))).length ≤ 100000 := by
      have : (pairI (freeF F (List.replicate n true))).length = (freeF F (List.replicate n true)).length := List.length_map ..
      omega
    have HSP := Lib.hid (samePairs_any (pairI (freeF F (List.replicate n true))) (pairI (freeF F (List.replicate n true))) v5 v13 w13 hQE.reads hQ13.reads hpl hpl)
    clear hb13 hQ13 hQE hpl hfl
    go_wp2_with fail
    refine HSP.out.mono ?_
    rintro e w14 ⟨r, rfl, hr, hb14⟩
    obtain rfl : r = true := hr.2 (by first | trivial | rfl)
    have HK14 := Lib.hid ((hb14.block w8.heap.size (Array.getElem?_eq_some_iff.1 HK13.out).1).trans HK13.out)
    have HB814 := Lib.hid (HB813.out.trans (hb14.mono HB813.out.size))
    have HB14 := Lib.hid (HB13.out.trans (hb14.mono HB13.out.size))
    have HR14 := Lib.hid (HR13.out.below hb14 (Nat.le_refl _))
    have HCP := Lib.hid (collapsePairs_any w.heap.size F g (.slice p11 n c11) (.slice pg ng cg) w14 HB14.out.size HR14.out (HG.out.below HB14.out (Nat.le_refl _)) HBD.out.1 (fun x hx => by have := HBD.out.2 x hx; omega) HUP.out (by rw [HNG.out]; omega) HGB.out)
    unfold ColD at HCP
    clear hb14 hr
    go_wp2_with fail
    refine HCP.out.mono ?_
    rintro e w15 ⟨hb15, hD15⟩
    have HK15 := Lib.hid ((hb15.block w8.heap.size (Array.getElem?_eq_some_iff.1 HK14.out).1).trans HK14.out)
    have HB815 := Lib.hid (HB814.out.trans (hb15.mono HB814.out.size))
    have HB15 := Lib.hid (HB14.out.trans (hb15.mono HB14.out.size))
    clear hb15
    rcases hD15 with ⟨hok, v15, rfl, hR15⟩ | ⟨i, hi, hok, hnok, rfl⟩
    · rcases H8.out with ⟨-, rfl, hL8⟩ | ⟨i, hi, -, hnok, -⟩
      rotate_left
      · exact absurd (hok i hi) hnok
      obtain ⟨LF, hLF⟩ : ∃ LF, leftF F (leftAt F g g.length) = LF := ⟨_, rfl⟩
      have hlen : LF.length ≤ 600 := by
        rw [← hLF]
        have : (leftF F (leftAt F g g.length)).length ≤ F.length := leftTo_len _ _ _
        rw [HN.out] at this
        omega
      have hbd : ∀ l ∈ LF, l.length ≤ 7 := fun l hl => by rw [← hLF] at hl; exact HBD.out.2 l (mem_leftTo (Nat.le_refl _) hl)
      have hEF : errC LF = 0 := by rw [← hLF]; exact HLR.out _
      rw [hLF] at hR15 hL8
      have HEF := Lib.hid hEF
      have HMA := Lib.hid (made_any w.heap.size LF v15 w15 HB15.out.size hR15.lists (by omega) (fun l hl => by have := hbd l hl; omega))
      unfold MadePost at HMA
      rw [hEF] at HMA
      have HL8 := Lib.hid hL8
      have z0 := (one_at HK15.out).1
      have q6 : decide ((-1 : Int) ≥ 0) = false := by decide
      clear hLF hR15 hL8 hEF hbd hlen hok
      go_wp2_with fail
      refine HMA.out.mono ?_
      rintro e w16 ⟨v16, rfl, hb16, hL16, -⟩
      have HK16 := Lib.hid ((hb16.block w8.heap.size (Array.getElem?_eq_some_iff.1 HK15.out).1).trans HK15.out)
      have HB816 := Lib.hid (HB815.out.trans (hb16.mono HB815.out.size))
      have HB16 := Lib.hid (HB15.out.trans (hb16.mono HB15.out.size))
      have z1 := (one_at HK16.out).1
      have HSL := Lib.hid (sameLists_any true w.heap.size w.heap.size (madeF LF) (madeF LF) (.slice px nx cx) v16 w16 (by simp) (HL8.out.below HB816.out (Nat.le_refl _)) (hL16 (by first | trivial | rfl)) (by have := made_len HEF.out; omega) (by have := made_len HEF.out; omega) (fun l hl => by have := made_bd HEF.out l hl; omega) (fun l hl => by have := made_bd HEF.out l hl; omega))
      unfold Drew at HSL
      clear hb16 hL16 z0
      go_wp2_with fail
      refine HSL.out.mono ?_
      rintro e w17 ⟨rfl, nd, rfl⟩
      go_wp2_with fail
      go_ret
      exact ⟨rfl, HB16.out.trans ((Below.drewN _ nd).mono HB16.out.size)⟩
    · rcases H8.out with ⟨hok2, -⟩ | ⟨i2, hi2, hok2, hnok2, rfl, hE8⟩
      · exact absurd (hok2 i hi) hnok
      obtain rfl : i = i2 := okP_unique hok hnok hok2 hnok2
      have HFA := Lib.hid (faulted_any a ve 4 (i : Int) 4 (i : Int) w15 (HS.out.below HB15.out (Nat.le_refl _)) (hE8.below HB815.out (Nat.le_refl _)))
      rw [decide_eq_true (show ((4 : Int) = 4 ∧ ((4 : Int) = 0 ∨ (i : Int) = (i : Int))) from ⟨rfl, Or.inr rfl⟩)] at HFA
      have q6 : decide ((i : Int) ≥ 0) = true := decide_eq_true (by omega)
      have q7 : decide (0 ≤ (i : Int)) = true := decide_eq_true (by omega)
      clear hok hnok hok2 hnok2 hE8
      go_wp2_with fail
      refine HFA.out.mono ?_
      rintro e w16 ⟨rfl, hb16⟩
      have HK16 := Lib.hid ((hb16.block w8.heap.size (Array.getElem?_eq_some_iff.1 HK15.out).1).trans HK15.out)
      have HB16 := Lib.hid (HB15.out.trans (hb16.mono HB15.out.size))
      have z1 := (one_at HK16.out).1
      clear hb16
      go_wp2_with fail
      go_ret
      exact ⟨rfl, HB16.out⟩
  · obtain rfl : k + 1 = c := by rw [← HC.out]; exact hek.symm
    rcases H5.out with ⟨h0, -⟩ | ⟨k', hk', hek', rfl, rfl⟩
    · exact absurd (h0.symm.trans hek) (by omega)
    obtain rfl : k = k' := by omega
    have q4 : decide (((k + 1 : Nat) : Int) > 0) = true := decide_eq_true (by omega)
    have q5 : decide ((0 : Int) < ((k + 1 : Nat) : Int)) = true := decide_eq_true (by omega)
    have hb9 := lit_below w8 (.cells #[.slice none 0 0] 32)
    have hk9 := heap_alloc_new w8 (.cells #[.slice none 0 0] 32)
    have HK9 := Lib.hid hk9
    have HKL := Lib.hid ((Array.getElem?_eq_some_iff.1 hk9).1)
    have HB9 := Lib.hid (HB8.out.trans (hb9.mono HB8.out.size))
    have HCD := Lib.hid (coded_any a (.iface 251 (.pointer (some (a k)))) ((k : Int) + 1) (-1) ((k : Int) + 1) _ (HS.out.below HB9.out (Nat.le_refl _)) (ErrAt.sent a _ k hk))
    rw [decide_eq_true (show ((k : Int) + 1) = ((k : Int) + 1) ∧ (-1 : Int) = -1 from ⟨rfl, rfl⟩)] at HCD
    clear hek hek' hb9 hk9 H5
    go_wp2_with fail
    refine HCD.out.mono ?_
    rintro e w9 ⟨rfl, hb10⟩
    have HB10 := Lib.hid (HB9.out.trans (hb10.mono HB9.out.size))
    have hk10 := (hb10.block _ HKL.out).trans HK9.out
    have HK10 := Lib.hid hk10
    have HCD2 := Lib.hid (coded_any a (.iface 251 (.pointer (some (a k)))) ((k : Int) + 1) (-1) ((k : Int) + 1) w9 (HS.out.below HB10.out (Nat.le_refl _)) (ErrAt.sent a _ k hk))
    rw [decide_eq_true (show ((k : Int) + 1) = ((k : Int) + 1) ∧ (-1 : Int) = -1 from ⟨rfl, rfl⟩)] at HCD2
    clear hb10 hk10
    go_wp2_with fail
    refine HCD2.out.mono ?_
    rintro e w10 ⟨rfl, hb11⟩
    have HB11 := Lib.hid (HB10.out.trans (hb11.mono HB10.out.size))
    have hk11 := (hb11.block _ (Array.getElem?_eq_some_iff.1 HK10.out).1).trans HK10.out
    have z0 := (one_at hk11).1
    clear hb11 hk11
    go_wp2_with fail
    go_ret
    exact ⟨rfl, HB11.out⟩
end Go.Proofs.YtoheffkiohfmoaaGreatDoor
