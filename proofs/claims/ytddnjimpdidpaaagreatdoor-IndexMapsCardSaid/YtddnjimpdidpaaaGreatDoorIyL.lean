/-
  The law IndexMaps says true.
-/
import Derived.Test.YtddnjimpdidpaaaGreatDoorIyG
import Derived.Test.YtddnjimpdidpaaaGreatDoorIyJ
import Derived.Test.YtddnjimpdidpaaaGreatDoorWhl
import Derived.Test.YtddnjimpdidpaaaGreatDoorFaulted
import Derived.Test.YtddnjimpdidpaaaGreatDoorCRefF
import Derived.Test.YtddnjimpdidpaaaGreatDoorCelX
import Derived.Test.YtddnjimpdidpaaaGreatDoorCelY
import Derived.Deep.DeepCutAuto
import Derived.Deep.CutBlock
set_option linter.unusedSimpArgs false
set_option linter.unusedVariables false
namespace Go.Proofs.YtddnjimpdidpaaaGreatDoor
open Go Go.RowKit Go.Maps

set_option maxRecDepth 100000 in
set_option maxHeartbeats 16000000 in
theorem indexMaps_no (L M : List (List Int)) (f : List Int) (u v vf : Value) (w : World) (hu : ListsIn w.heap.size w u L) (hv : ListsIn w.heap.size w v M) (hf : IntsIn w.heap.size w vf f) (hno : littleB L 60 = false ∨ littleB M 60 = false ∨ 200 < f.length) :
    Calls Tryz.prog 5 #[u, v, vf] w (True1 w) := by
  obtain ⟨pf, cf, hfe, -⟩ := id hf
  obtain ⟨nf, hnf⟩ : ∃ n, f.length = n := ⟨_, rfl⟩
  rw [hnf] at hfe hno
  subst hfe
  have HWL := Lib.hid (wheel_any w)
  have HLA := Lib.hid (fun wx (hx : Below w.heap.size w wx) => little_any L 60 u wx (hu.later hx (Nat.le_refl _) (Nat.le_refl _)) (by decide))
  have HLB := Lib.hid (fun wx (hx : Below w.heap.size w wx) => little_any M 60 v wx (hv.later hx (Nat.le_refl _) (Nat.le_refl _)) (by decide))
  obtain ⟨r1, hr1⟩ : ∃ r, littleB L 60 = r := ⟨_, rfl⟩
  obtain ⟨r2, hr2⟩ : ∃ r, littleB M 60 = r := ⟨_, rfl⟩
  rw [hr1] at hno HLA
  rw [hr2] at hno HLB
  unfold Gives at HLA HLB
  unfold True1
  clear hu hv hf hnf hr1 hr2
  have hcase : r1 = false ∨ (r1 = true ∧ r2 = false) ∨ (r1 = true ∧ r2 = true ∧ 200 < nf) := by
    cases r1 <;> cases r2 <;> simp_all
  clear hno
  rcases hcase with rfl | ⟨rfl, rfl⟩ | ⟨rfl, rfl, hn⟩
  · cases r2 <;>
    · go_enter Tryz.func5, Tryz.ntmps5
      go_wp2_with fail
      refine HWL.out.mono ?_
      rintro e w1 ⟨rfl, hb1⟩
      have HB1 := Lib.hid hb1
      have HL1 := Lib.hid (HLA.out w1 hb1)
      clear hb1
      go_wp2_with fail
      refine HL1.out.mono ?_
      rintro e w2 ⟨rfl, hb2⟩
      have HB2 := Lib.hid (HB1.out.trans (hb2.mono HB1.out.size))
      have HL2 := Lib.hid (HLB.out w2 HB2.out)
      clear hb2
      go_wp2_with fail
      refine HL2.out.mono ?_
      rintro e w3 ⟨rfl, hb3⟩
      have HB3 := Lib.hid (HB2.out.trans (hb3.mono HB2.out.size))
      clear hb3
      go_wp2_with fail
      go_ret
      exact ⟨rfl, HB3.out⟩
  · go_enter Tryz.func5, Tryz.ntmps5
    go_wp2_with fail
    refine HWL.out.mono ?_
    rintro e w1 ⟨rfl, hb1⟩
    have HB1 := Lib.hid hb1
    have HL1 := Lib.hid (HLA.out w1 hb1)
    clear hb1
    go_wp2_with fail
    refine HL1.out.mono ?_
    rintro e w2 ⟨rfl, hb2⟩
    have HB2 := Lib.hid (HB1.out.trans (hb2.mono HB1.out.size))
    have HL2 := Lib.hid (HLB.out w2 HB2.out)
    clear hb2
    go_wp2_with fail
    refine HL2.out.mono ?_
    rintro e w3 ⟨rfl, hb3⟩
    have HB3 := Lib.hid (HB2.out.trans (hb3.mono HB2.out.size))
    clear hb3
    go_wp2_with fail
    go_ret
    exact ⟨rfl, HB3.out⟩
  · have q1 : decide ((200 : Int) < (nf : Int)) = true := decide_eq_true (by omega)
    have q2 : decide (200 < nf) = true := decide_eq_true hn
    have q3 : decide ((nf : Int) > 200) = true := decide_eq_true (by omega)
    clear hn
    go_enter Tryz.func5, Tryz.ntmps5
    go_wp2_with fail
    refine HWL.out.mono ?_
    rintro e w1 ⟨rfl, hb1⟩
    have HB1 := Lib.hid hb1
    have HL1 := Lib.hid (HLA.out w1 hb1)
    clear hb1
    go_wp2_with fail
    refine HL1.out.mono ?_
    rintro e w2 ⟨rfl, hb2⟩
    have HB2 := Lib.hid (HB1.out.trans (hb2.mono HB1.out.size))
    have HL2 := Lib.hid (HLB.out w2 HB2.out)
    clear hb2
    go_wp2_with fail
    refine HL2.out.mono ?_
    rintro e w3 ⟨rfl, hb3⟩
    have HB3 := Lib.hid (HB2.out.trans (hb3.mono HB2.out.size))
    clear hb3
    go_wp2_with fail
    go_ret
    exact ⟨rfl, HB3.out⟩

/-- the document's fault of a map is the program's -/
theorem fault_same {L M : List (List Int)} {f : List Int} (h0 : errX L = 0) (h : errX M = 0) : mapE (vertR (allF L)) (vertR (allF M)) f (faceN (allF L)) (allF M) = chkE L M f := by
  rw [chkE_0 h0 h, vert_same h0, vert_same h]
/-- an error's number: the first complex's, or the second one's -/
noncomputable def errT (L M : List (List Int)) : Nat := if errX L = 0 then errX M else errX L
/-- a box of a fault -/
def BoxF (w : World) (k : Nat) (r : Nat × Int) : Prop := w.heap[k]? = some (.cells #[.int .i64 (r.1 : Int), .int .i64 r.2] 57 (0, 0))
theorem BoxF.below {w w' : World} {k : Nat} {r : Nat × Int} (h : BoxF w k r) (hb : Below w.heap.size w w') : BoxF w' k r := (hb.block k (Array.getElem?_eq_some_iff.1 h).1).trans h
theorem allF_small {L : List (List Int)} (h : errX L = 0) : (allF L).length ≤ 600 ∧ (∀ l ∈ allF L, l.length ≤ 7) ∧ (vertR (allF L)).Nodup := by
  have hc := (errX_ok h).1
  exact ⟨(errC_ok hc).2.2, fun l hl => allF_bd hc l hl, by rw [vert_same h]; exact List.Pairwise.imp (fun h => by omega) (rise_setL _)⟩

/-- a list of lists while a box of two numbers is written -/
theorem lists_boxed {B k : Nat} {w w' : World} {v : Value} {L : List (List Int)} {x y : Int} (h : ListsIn B w v L) (hk : w.heap[k]? = some (.cells #[.int .i64 x, .int .i64 y] 57 (0, 0))) (hB : B ≤ k) (hg : w.grownBy w' (some k)) : ListsIn B w' v L := by
  obtain ⟨p, c, hv, hc, hn, hx⟩ := h
  refine ⟨p, c, hv, hc, hn, fun i hi => ?_⟩
  obtain ⟨b, off, u, e1, e2, e3⟩ := hx i hi
  have hne : some b ≠ some k := fun e => by
    cases e
    obtain ⟨q, c', rfl, -⟩ := e3
    rw [cell_of_row w k (off + i) _ _ _ hk] at e2
    rcases (show off + i = 0 ∨ off + i = 1 ∨ 2 ≤ off + i by omega) with h | h | h
    · rw [h] at e2; cases e2
    · rw [h] at e2; cases e2
    · rw [Array.getElem?_eq_none (by simpa using h)] at e2; cases e2
  exact ⟨b, off, u, e1, hg.cell e2 hne, e3.grown hg fun k' e => by
    cases e
    exact ⟨hB, fun c e => by rw [hk] at e; cases e⟩⟩
set_option maxRecDepth 100000 in
set_option maxHeartbeats 64000000 in
theorem indexMaps_any (a : Nat → Addr) (L M : List (List Int)) (f : List Int) (u v vf : Value) (w : World) (hS : Sents w a) (hu : ListsIn w.heap.size w u L) (hv : ListsIn w.heap.size w v M) (hf0 : IntsAt w vf f) :
    Calls Tryz.prog 5 #[u, v, vf] w (True1 w) := by
  have hf := hf0.in
  by_cases hl1 : littleB L 60 = true
  rotate_left
  · exact indexMaps_no L M f u v vf w hu hv hf (Or.inl (by simpa using hl1))
  by_cases hl2 : littleB M 60 = true
  rotate_left
  · exact indexMaps_no L M f u v vf w hu hv hf (Or.inr (Or.inl (by simpa using hl2)))
  by_cases hn : f.length ≤ 200
  rotate_left
  · exact indexMaps_no L M f u v vf w hu hv hf (Or.inr (Or.inr (by omega)))
  obtain ⟨pf, cf, hfe, -⟩ := id hf
  obtain ⟨nf, hnf⟩ : ∃ n, f.length = n := ⟨_, rfl⟩
  rw [hnf] at hfe hn
  subst hfe
  obtain ⟨hL1, hL2⟩ := littleB_few hl1
  obtain ⟨hM1, hM2⟩ := littleB_few hl2
  have HWL := Lib.hid (wheel_any w)
  have HLA := Lib.hid (fun wx (hx : Below w.heap.size w wx) => little_any L 60 u wx (hu.later hx (Nat.le_refl _) (Nat.le_refl _)) (by decide))
  have HLB := Lib.hid (fun wx (hx : Below w.heap.size w wx) => little_any M 60 v wx (hv.later hx (Nat.le_refl _) (Nat.le_refl _)) (by decide))
  rw [hl1] at HLA
  rw [hl2] at HLB
  have HEA := Lib.hid (fun wx (hx : Below w.heap.size w wx) => complexError_any L u wx (hu.later hx (Nat.le_refl _) (Nat.le_refl _)) hL1 hL2)
  have HEB := Lib.hid (fun wx (hx : Below w.heap.size w wx) => complexError_any M v wx (hv.later hx (Nat.le_refl _) (Nat.le_refl _)) hM1 hM2)
  unfold Gives at HLA HLB HEA HEB
  have HCA := Lib.hid (fun wx (hx : Below w.heap.size w wx) => closed_any w.heap.size L u wx hx.size (hu.below hx (Nat.le_refl _)) hL1 hL2)
  have HCB := Lib.hid (fun wx (hx : Below w.heap.size w wx) => closed_any w.heap.size M v wx hx.size (hv.below hx (Nat.le_refl _)) hM1 hM2)
  unfold ClosedPost at HCA HCB
  have HXA := Lib.hid (fun wx (hx : Below w.heap.size w wx) => cx_any w.heap.size L u wx hx.size (hu.below hx (Nat.le_refl _)) hL1 hL2)
  have HXB := Lib.hid (fun wx (hx : Below w.heap.size w wx) => cx_any w.heap.size M v wx hx.size (hv.below hx (Nat.le_refl _)) hM1 hM2)
  have HIN := Lib.hid (fun wx (hx : Below w.heap.size w wx) => ints_any w.heap.size f (.slice pf nf cf) wx hx.size (hf.below hx (Nat.le_refl _)) (by omega))
  unfold NumsP at HIN
  have HS := Lib.hid (fun wx (hx : Below w.heap.size w wx) => hS.below hx (Nat.le_refl _))
  have HFF := Lib.hid (fun wx (hx : Below w.heap.size w wx) => hf.below hx (Nat.le_refl _))
  have HNF := Lib.hid hnf
  have HNB := Lib.hid hn
  have HLL := Lib.hid (And.intro hL1 hL2)
  have HMM := Lib.hid (And.intro hM1 hM2)
  have q1 : decide ((200 : Int) < (nf : Int)) = false := decide_eq_false (by omega)
  have q2 : decide (200 < nf) = false := decide_eq_false (by omega)
  have q3 : decide ((nf : Int) > 200) = false := decide_eq_false (by omega)
  unfold True1
  clear hS hu hv hf hf0 hl1 hl2 hn hnf hL1 hL2 hM1 hM2
  go_enter Tryz.func5, Tryz.ntmps5
  go_wp2_with fail
  refine HWL.out.mono ?_
  rintro e w1 ⟨rfl, hb1⟩
  have HB1 := Lib.hid hb1
  have HL1 := Lib.hid (HLA.out w1 hb1)
  clear hb1 HWL HLA
  go_wp2_with fail
  refine HL1.out.mono ?_
  rintro e w2 ⟨rfl, hb2⟩
  have HB2 := Lib.hid (HB1.out.trans (hb2.mono HB1.out.size))
  have HL2 := Lib.hid (HLB.out w2 HB2.out)
  clear hb2 HL1 HLB
  go_wp2_with fail
  refine HL2.out.mono ?_
  rintro e w3 ⟨rfl, hb3⟩
  have HB3 := Lib.hid (HB2.out.trans (hb3.mono HB2.out.size))
  have HE3 := Lib.hid (HEA.out w3 HB3.out)
  obtain ⟨ea, hea⟩ : ∃ e, errX L = e := ⟨_, rfl⟩
  rw [hea] at HE3
  have HEAE := Lib.hid hea
  clear hb3 HL2 hea HEA
  go_wp2_with fail
  refine HE3.out.mono ?_
  rintro e w4 ⟨rfl, hb4⟩
  have HB4 := Lib.hid (HB3.out.trans (hb4.mono HB3.out.size))
  have hb5 : Below w4.heap.size w4 (w4.alloc (.cells #[.int .i64 (ea : Int), .int .i64 (-1)] 57)) := lit_below' w4 _
  have hk5 := heap_alloc_new w4 (.cells #[.int .i64 (ea : Int), .int .i64 (-1)] 57)
  obtain ⟨w5, hw5⟩ : ∃ w5, w4.alloc (.cells #[.int .i64 (ea : Int), .int .i64 (-1)] 57) = w5 := ⟨_, rfl⟩
  rw [hw5] at hb5 hk5
  have HW5 := Lib.hid hw5
  have HB5 := Lib.hid (HB4.out.trans (hb5.mono HB4.out.size))
  have HK5 : Hid (BoxF w5 w4.heap.size (ea, -1)) := hk5
  have HKW : Hid (w.heap.size ≤ w4.heap.size) := HB4.out.size
  obtain ⟨k1, hk1⟩ : ∃ k, w4.heap.size = k := ⟨_, rfl⟩
  rw [hk1] at HK5 HKW
  have HK1 := Lib.hid hk1
  clear hb4 hb5 hk5 hw5 HE3
  go_upto_if 47 with fail
  rw [HW5.out]
  go_cut [10, 12] (fun s10 s12 wx => s10 = .int .i64 (errT L M : Int) ∧ Below w.heap.size w wx ∧ BoxF wx k1 (chkE L L f) ∧ (errX L = 0 → ListsIn w.heap.size wx s12 (allF L)))
  case first =>
    cases ea with
    | succ k =>
      have qk : (((k + 1 : Nat) : Int) == 0) = false := beq_eq_false_iff_ne.2 (by omega)
      have hk := HK5.out
      rw [← chkE_L (M := L) (f := f) HEAE.out] at hk
      have HKF := Lib.hid hk
      have HET : Hid (errT L M = k + 1) := by unfold Hid errT; rw [if_neg (by rw [HEAE.out]; omega)]; exact HEAE.out
      have HNE : Hid (errX L ≠ 0) := by unfold Hid; rw [HEAE.out]; omega
      clear hk
      go_wp2_with fail
      go_meet
      exact ⟨by rw [HET.out], HB5.out, HKF.out, fun h => absurd h HNE.out⟩
    | zero =>
      have HC5 := HCA.out w5 HB5.out
      have hC0 := (errX_ok HEAE.out).1
      rw [hC0] at HC5
      have HC5 := Lib.hid HC5
      clear hC0
      go_wp2_with fail
      refine HC5.out.mono ?_
      rintro e w6 ⟨v6, rfl, hb6, hL6, -⟩
      have hl6 := hL6 (by first | trivial | rfl)
      have HL6 := Lib.hid hl6
      have HB6 := Lib.hid (HB5.out.trans (hb6.mono HB5.out.size))
      have HK6 := Lib.hid (HK5.out.below hb6)
      obtain ⟨hA1, hA2, hA3⟩ := allF_small HEAE.out
      obtain ⟨hF1, hF2, hF3, hF4, -⟩ := faceN_small HEAE.out
      have HMF := Lib.hid (mapFault_any w.heap.size (allF L) (allF L) f v6 v6 (.slice pf nf cf) w6 HB6.out.size hl6 hl6 (by omega) (fun l hl => by have := hA2 l hl; omega) (by omega) (fun l hl => by have := hA2 l hl; omega) (HFF.out w6 HB6.out) (by have := HNB.out; have := HNF.out; omega) hA3 (by rw [vert_same HEAE.out]; exact hF4) (fun x hx => by have := hF2 x hx; omega) (by omega))
      rw [fault_same HEAE.out HEAE.out] at HMF
      obtain ⟨r, hr⟩ : ∃ r, chkE L L f = r := ⟨_, rfl⟩
      rw [hr] at HMF
      have HRR := Lib.hid hr
      clear hb6 hL6 hl6 hA1 hA2 hA3 hF1 hF2 hF3 hF4 hr HC5
      go_wp2_with fail
      refine HMF.out.mono ?_
      rintro e w7 ⟨rfl, hb7⟩
      have hk7 := HK6.out.below hb7
      unfold BoxF at hk7
      obtain ⟨d0, d1, f0, f1⟩ := two_all hk7
      have HS7 : Hid (((w7.setCell ⟨k1, 0, none⟩ (.int .i64 (r.1 : Int))).setCell ⟨k1, 1, none⟩ (.int .i64 r.2)).heap[k1]? = some (.cells #[.int .i64 (r.1 : Int), .int .i64 r.2] 57 (0, 0))) := set2all hk7 _ _
      have HB7 := HB6.out.trans (hb7.mono HB6.out.size)
      obtain ⟨w8, hw8⟩ : ∃ w8, (w7.setCell ⟨k1, 0, none⟩ (.int .i64 (r.1 : Int))).setCell ⟨k1, 1, none⟩ (.int .i64 r.2) = w8 := ⟨_, rfl⟩
      have HB8 : Hid (Below w.heap.size w w8) := by unfold Hid; rw [← hw8]; exact (HB7.setCell (p := ⟨k1, 0, none⟩) HKW.out _).setCell (p := ⟨k1, 1, none⟩) HKW.out _
      rw [hw8] at HS7
      have HW8 := Lib.hid hw8
      have HL8 : Hid (ListsIn w.heap.size w8 v6 (allF L)) := by
        unfold Hid
        rw [← hw8]
        exact lists_boxed (HL6.out.below hb7 (Nat.le_refl _)) hk7 HKW.out (setC_grown [.int .i64 (r.1 : Int), .int .i64 r.2] 0 w7 w7 (grown_refl w7 k1))
      have HE8 := Lib.hid (HEB.out w8 HB8.out)
      clear hb7 hk7 HB7 hw8 HMF
      go_upto_region 12 with fail
      rw [HW8.out]
      go_wp2_with fail
      refine HE8.out.mono ?_
      rintro e w9 ⟨rfl, hb9⟩
      have HB9 := Lib.hid (HB8.out.trans (hb9.mono HB8.out.size))
      have HK9 : Hid (BoxF w9 k1 r) := BoxF.below HS7.out hb9
      have HL9 := Lib.hid (HL8.out.below hb9 (Nat.le_refl _))
      clear hb9
      go_wp2_with fail
      go_meet
      refine ⟨by unfold errT; rw [if_pos HEAE.out], HB9.out, by rw [HRR.out]; exact HK9.out, fun _ => HL9.out⟩
  case rest =>
  obtain ⟨rfl, hbc, hkc, hlc⟩ := hcut
  have HB6 := Lib.hid hbc
  have HK6 := Lib.hid hkc
  have HL6 := Lib.hid hlc
  obtain ⟨w6, rfl⟩ : ∃ x, x = wc := ⟨_, rfl⟩
  obtain ⟨et, het⟩ : ∃ e, errT L M = e := ⟨_, rfl⟩
  rw [het]
  have HET := Lib.hid het
  have hb7 : Below w6.heap.size w6 (w6.alloc (.cells #[.int .i64 (et : Int), .int .i64 (-1)] 57)) := lit_below' w6 _
  have hk7 := heap_alloc_new w6 (.cells #[.int .i64 (et : Int), .int .i64 (-1)] 57)
  obtain ⟨w7, hw7⟩ : ∃ w7, w6.alloc (.cells #[.int .i64 (et : Int), .int .i64 (-1)] 57) = w7 := ⟨_, rfl⟩
  rw [hw7] at hb7 hk7
  have HW7 := Lib.hid hw7
  have HB7 := Lib.hid (HB6.out.trans (hb7.mono HB6.out.size))
  have HK7 : Hid (BoxF w7 w6.heap.size (et, -1)) := hk7
  have HO7 := Lib.hid (HK6.out.below hb7)
  have HL7 := Lib.hid (fun h => (HL6.out h).below hb7 (Nat.le_refl _))
  have HK12 : Hid (k1 < w6.heap.size) := (Array.getElem?_eq_some_iff.1 HK6.out).1
  have HKW2 : Hid (w.heap.size ≤ w6.heap.size) := HB6.out.size
  obtain ⟨k2, hk2⟩ : ∃ k, w6.heap.size = k := ⟨_, rfl⟩
  rw [hk2] at HK7 HK12 HKW2
  have HK2 := Lib.hid hk2
  clear hbc hkc hlc hb7 hk7 hw7 het HW5 HK1 HK5 HB5
  go_upto_if 62 with fail
  rw [HW7.out]
  go_cut [] (fun wx => Below w.heap.size w wx ∧ BoxF wx k1 (chkE L L f) ∧ BoxF wx k2 (chkE L M f) ∧ (errX L = 0 → ListsIn w.heap.size wx u12 (allF L)))
  case first =>
    cases et with
    | succ k =>
      have qk : (((k + 1 : Nat) : Int) == 0) = false := beq_eq_false_iff_ne.2 (by omega)
      have hre : chkE L M f = (k + 1, -1) := by
        have h := HET.out
        unfold errT at h
        by_cases h0 : errX L = 0
        · rw [if_pos h0] at h; exact chkE_M h0 h
        · rw [if_neg h0] at h; exact chkE_L h
      have HKF := HK7.out
      rw [← hre] at HKF
      have HKF := Lib.hid HKF
      clear hre
      go_wp2_with fail
      go_meet
      exact ⟨HB7.out, HO7.out, HKF.out, HL7.out⟩
    | zero =>
      have hz : errX L = 0 ∧ errX M = 0 := by
        have h := HET.out
        unfold errT at h
        by_cases h0 : errX L = 0
        · rw [if_pos h0] at h; exact ⟨h0, h⟩
        · rw [if_neg h0] at h; exact absurd h h0
      obtain ⟨hX, hY⟩ := hz
      have HX := Lib.hid hX
      have HY := Lib.hid hY
      have HC7 := HCB.out w7 HB7.out
      have hC0 := (errX_ok hY).1
      rw [hC0] at HC7
      have HC7 := Lib.hid HC7
      clear hC0 hX hY
      go_wp2_with fail
      refine HC7.out.mono ?_
      rintro e w8 ⟨v8, rfl, hb8, hL8, -⟩
      have hl8 := hL8 (by first | trivial | rfl)
      have hp8 := (HL7.out HX.out).below hb8 (Nat.le_refl _)
      have HP8 := Lib.hid hp8
      have HB8 := Lib.hid (HB7.out.trans (hb8.mono HB7.out.size))
      have HK8 := Lib.hid (HK7.out.below hb8)
      have HO8 := Lib.hid (HO7.out.below hb8)
      obtain ⟨hA1, hA2, hA3⟩ := allF_small HX.out
      obtain ⟨hD1, hD2, hD3⟩ := allF_small HY.out
      obtain ⟨hF1, hF2, hF3, hF4, -⟩ := faceN_small HX.out
      have HMF := Lib.hid (mapFault_any w.heap.size (allF L) (allF M) f u12 v8 (.slice pf nf cf) w8 HB8.out.size hp8 hl8 (by omega) (fun l hl => by have := hA2 l hl; omega) (by omega) (fun l hl => by have := hD2 l hl; omega) (HFF.out w8 HB8.out) (by have := HNB.out; have := HNF.out; omega) hA3 (by rw [vert_same HX.out]; exact hF4) (fun x hx => by have := hF2 x hx; omega) (by omega))
      rw [fault_same HX.out HY.out] at HMF
      obtain ⟨r, hr⟩ : ∃ r, chkE L M f = r := ⟨_, rfl⟩
      rw [hr] at HMF
      have HRR := Lib.hid hr
      clear hb8 hL8 hl8 hp8 hA1 hA2 hA3 hD1 hD2 hD3 hF1 hF2 hF3 hF4 hr HC7
      go_wp2_with fail
      refine HMF.out.mono ?_
      rintro e w9 ⟨rfl, hb9⟩
      have hk9 := HK8.out.below hb9
      unfold BoxF at hk9
      obtain ⟨d0, d1, f0, f1⟩ := two_all hk9
      have HS9 : Hid (((w9.setCell ⟨k2, 0, none⟩ (.int .i64 (r.1 : Int))).setCell ⟨k2, 1, none⟩ (.int .i64 r.2)).heap[k2]? = some (.cells #[.int .i64 (r.1 : Int), .int .i64 r.2] 57 (0, 0))) := set2all hk9 _ _
      have HB9 := HB8.out.trans (hb9.mono HB8.out.size)
      obtain ⟨w10, hw10⟩ : ∃ w10, (w9.setCell ⟨k2, 0, none⟩ (.int .i64 (r.1 : Int))).setCell ⟨k2, 1, none⟩ (.int .i64 r.2) = w10 := ⟨_, rfl⟩
      have HB10 : Hid (Below w.heap.size w w10) := by unfold Hid; rw [← hw10]; exact (HB9.setCell (p := ⟨k2, 0, none⟩) HKW2.out _).setCell (p := ⟨k2, 1, none⟩) HKW2.out _
      have HBK : Hid (Below k2 w9 w10) := by unfold Hid; rw [← hw10]; exact ((Below.refl _ _).setCell (p := ⟨k2, 0, none⟩) (Nat.le_refl _) _).setCell (p := ⟨k2, 1, none⟩) (Nat.le_refl _) _
      rw [hw10] at HS9
      have HO10 : Hid (BoxF w10 k1 (chkE L L f)) := (HBK.out.block k1 HK12.out).trans (HO8.out.below hb9)
      have HL10 : Hid (ListsIn w.heap.size w10 u12 (allF L)) := by
        unfold Hid
        rw [← hw10]
        exact lists_boxed (HP8.out.below hb9 (Nat.le_refl _)) hk9 HKW2.out (setC_grown [.int .i64 (r.1 : Int), .int .i64 r.2] 0 w9 w9 (grown_refl w9 k2))
      have HW10 := Lib.hid hw10
      clear hb9 hk9 HB9 hw10 HMF
      go_wp2_with fail
      rw [HW10.out]
      go_meet
      exact ⟨HB10.out, HO10.out, by rw [HRR.out]; exact HS9.out, fun _ => HL10.out⟩
  case rest =>
  obtain ⟨hbc, ho, hk, hlc⟩ := hcut
  obtain ⟨w8, rfl⟩ : ∃ x, x = wc := ⟨_, rfl⟩
  have HB8 := Lib.hid hbc
  have HL8 := Lib.hid hlc
  obtain ⟨ro, hro⟩ : ∃ r, chkE L L f = r := ⟨_, rfl⟩
  obtain ⟨rt, hrt⟩ : ∃ r, chkE L M f = r := ⟨_, rfl⟩
  rw [hro] at ho
  rw [hrt] at hk
  have HRO := Lib.hid hro
  have HRT := Lib.hid hrt
  have HOX : Hid (∀ wx, Below w8.heap.size w8 wx → wx.cell? ⟨k1, 0, none⟩ = some (.int .i64 (ro.1 : Int)) ∧ wx.cell? ⟨k1, 1, none⟩ = some (.int .i64 ro.2)) := fun wx hx => ⟨(two_all (ho.below hx)).1, (two_all (ho.below hx)).2.1⟩
  have HKX : Hid (∀ wx, Below w8.heap.size w8 wx → wx.cell? ⟨k2, 0, none⟩ = some (.int .i64 (rt.1 : Int)) ∧ wx.cell? ⟨k2, 1, none⟩ = some (.int .i64 rt.2)) := fun wx hx => ⟨(two_all (hk.below hx)).1, (two_all (hk.below hx)).2.1⟩
  have HT : Hid (∀ wx, Below w8.heap.size w8 wx → Below w.heap.size w wx) := fun wx hx => hbc.trans (hx.mono hbc.size)
  have hd : Below w8.heap.size w8 w8.drew := (Below.refl _ _).drew
  have HD := Lib.hid hd
  have HCK := Lib.hid (fun wx (hx : Below w8.heap.size w8 wx) x y z (h1 : ListsIn w.heap.size wx x L) (h2 : ListsIn w.heap.size wx y M) (h3 : IntsAt wx z f) => mcheck_any a wx.heap.size L M f x y z wx (HS.out wx (HT.out wx hx)) (Nat.le_refl _) (h1.later (Below.refl wx.heap.size wx) (Nat.le_refl _) (HT.out wx hx).size) (h2.later (Below.refl wx.heap.size wx) (Nat.le_refl _) (HT.out wx hx).size) HLL.out.1 HLL.out.2 HMM.out.1 HMM.out.2 h3.in (by rw [HNF.out]; have := HNB.out; omega))
  rw [HRT.out] at HCK
  unfold CheckP at HCK
  have HFL := Lib.hid (fun wx (hx : Below w8.heap.size w8 wx) x (he : ErrAt a wx x (rt.1 : Int) rt.2) => faulted_any a x (rt.1 : Int) rt.2 (rt.1 : Int) rt.2 wx (HS.out wx (HT.out wx hx)) he)
  rw [decide_eq_true (show ((rt.1 : Int) = (rt.1 : Int) ∧ ((rt.1 : Int) = 0 ∨ rt.2 = rt.2)) from ⟨rfl, Or.inr rfl⟩)] at HFL
  have HFO := Lib.hid (fun wx (hx : Below w8.heap.size w8 wx) x (he : ErrAt a wx x (ro.1 : Int) ro.2) => faulted_any a x (ro.1 : Int) ro.2 (ro.1 : Int) ro.2 wx (HS.out wx (HT.out wx hx)) he)
  rw [decide_eq_true (show ((ro.1 : Int) = (ro.1 : Int) ∧ ((ro.1 : Int) = 0 ∨ ro.2 = ro.2)) from ⟨rfl, Or.inr rfl⟩)] at HFO
  have hs0 := HKX.out _ hd
  clear hbc ho hk hlc hro hrt hd HEB HCA HCB HW7 HK2 HK7 HO7 HL7 HB7 HET HL6 HK6
  have HLZ := Lib.hid (fun wx (hx : Below w8.heap.size w8 wx) x z (h1 : ListsIn w.heap.size wx x L) (h3 : IntsAt wx z f) => lefschetz_any a wx.heap.size L f x z wx (HS.out wx (HT.out wx hx)) (Nat.le_refl _) (h1.later (Below.refl wx.heap.size wx) (Nat.le_refl _) (HT.out wx hx).size) HLL.out.1 HLL.out.2 h3.in (by rw [HNF.out]; have := HNB.out; omega))
  have HFX := Lib.hid (fun wx (hx : Below w8.heap.size w8 wx) x z (h1 : ListsIn w.heap.size wx x L) (h3 : IntsAt wx z f) => fixed_any a wx.heap.size L f x z wx (HS.out wx (HT.out wx hx)) (Nat.le_refl _) (h1.later (Below.refl wx.heap.size wx) (Nat.le_refl _) (HT.out wx hx).size) HLL.out.1 HLL.out.2 h3.in (by rw [HNF.out]; have := HNB.out; omega))
  unfold LefP at HLZ
  unfold FixP at HFX
  rw [HRO.out] at HLZ HFX
  go_wp2_with fail
  go_region_held3 (fun wx => wx.cell? ⟨k2, 0, none⟩ = some (.int .i64 (rt.1 : Int)) ∧ wx.cell? ⟨k2, 1, none⟩ = some (.int .i64 rt.2)) (first | assumption)
    (first
      | (go_at_call 10; with_reducible refine (HXA.out _ (HT.out _ HD.out)).mono ?_; rintro e wa ⟨xa, rfl, hba, hra⟩; have hzA := HD.out.trans (hba.mono HD.out.size); have hsA := HKX.out _ hzA)
      | (go_at_call 10; with_reducible refine (HXB.out _ (HT.out _ hzA)).mono ?_; rintro e wb ⟨xb, rfl, hbb, hrb⟩; have hzB := hzA.trans (hbb.mono hzA.size); have hsB := HKX.out _ hzB; have hlB := hra.lists.below hbb (Nat.le_refl _))
      | (go_at_call 11; with_reducible refine (HIN.out _ (HT.out _ hzB)).mono ?_; rintro e wd ⟨pd, cd, rfl, hbd, hid⟩; have hzD := hzB.trans (hbd.mono hzB.size); have hsD := HKX.out _ hzD; have hlD := hlB.below hbd (Nat.le_refl _); have hmD := hrb.lists.below hbd (Nat.le_refl _))
      | (go_at_call 27; with_reducible refine (HCK.out _ hzD _ _ _ hlD hmD hid.at).mono ?_; rintro e we ⟨xe, rfl, hbe, hee⟩; have hzE := hzD.trans (hbe.mono hzD.size); have hsE := HKX.out _ hzE)
      | (go_at_call 26; with_reducible refine (HFL.out _ hzE _ hee).mono ?_; rintro e wg ⟨rfl, hbg⟩; have hzG := hzE.trans (hbg.mono hzE.size); have hsG := HKX.out _ hzG))
  have HZG := Lib.hid hzG
  clear hsA hsB hsD hsE hsG hra hrb hlB hlD hmD hid hee hba hbb hbd hbe hbg hzA hzB hzD hzE hzG hs0 HCK HFL HXB
  have HX1 := Lib.hid (HXA.out wg (HT.out _ HZG.out))
  go_wp2_with fail
  refine HX1.out.mono ?_
  rintro e v1 ⟨x1, rfl, hb1, hr1⟩
  have HZ1 := Lib.hid (HZG.out.trans (hb1.mono HZG.out.size))
  have HI1 := Lib.hid (HIN.out v1 (HT.out _ HZ1.out))
  have HR1 := Lib.hid hr1.lists
  clear hb1 hr1 HX1
  go_wp2_with fail
  refine HI1.out.mono ?_
  rintro e v2 ⟨p2, c2, rfl, hb2, hi2⟩
  have HZ2 := Lib.hid (HZ1.out.trans (hb2.mono HZ1.out.size))
  have HLZ2 := Lib.hid (HLZ.out v2 HZ2.out x1 _ (HR1.out.below hb2 (Nat.le_refl _)) hi2.at)
  clear hb2 hi2 HI1 HLZ
  go_wp2_with fail
  refine HLZ2.out.mono ?_
  by_cases hc : ro.1 = 0
  rotate_left
  · rintro e v3 ⟨hb3, ⟨h0, -⟩ | ⟨-, y3, rfl, he3⟩⟩
    · exact absurd h0 hc
    have HZ3 := Lib.hid (HZ2.out.trans (hb3.mono HZ2.out.size))
    have HE3 := Lib.hid he3
    have HX3 := Lib.hid (HXA.out v3 (HT.out _ HZ3.out))
    have HC := Lib.hid hc
    clear hb3 he3 HLZ2 hc
    go_wp2_with fail
    refine HX3.out.mono ?_
    rintro e v4 ⟨x4, rfl, hb4, hr4⟩
    have HZ4 := Lib.hid (HZ3.out.trans (hb4.mono HZ3.out.size))
    have HI4 := Lib.hid (HIN.out v4 (HT.out _ HZ4.out))
    have HR4 := Lib.hid hr4.lists
    have HE4 := Lib.hid (HE3.out.below hb4 (Nat.le_refl _))
    clear hb4 hr4 HX3
    go_wp2_with fail
    refine HI4.out.mono ?_
    rintro e v5 ⟨p5, c5, rfl, hb5, hi5⟩
    have HZ5 := Lib.hid (HZ4.out.trans (hb5.mono HZ4.out.size))
    have HFX5 := Lib.hid (HFX.out v5 HZ5.out x4 _ (HR4.out.below hb5 (Nat.le_refl _)) hi5.at)
    have HE5 := Lib.hid (HE4.out.below hb5 (Nat.le_refl _))
    clear hb5 hi5 HI4 HFX
    go_wp2_with fail
    refine HFX5.out.mono ?_
    rintro e v6 ⟨hb6, ⟨h0, -⟩ | ⟨-, y6, rfl, he6⟩⟩
    · exact absurd h0 HC.out
    have HZ6 := Lib.hid (HZ5.out.trans (hb6.mono HZ5.out.size))
    have HE6 := Lib.hid (HE5.out.below hb6 (Nat.le_refl _))
    have HY6 := Lib.hid he6
    have HF6 := Lib.hid (HFO.out v6 HZ6.out y3 HE6.out)
    obtain ⟨o0, o1⟩ := HOX.out v6 HZ6.out
    clear hb6 he6 HFX5
    go_wp2_with fail
    refine HF6.out.mono ?_
    rintro e v7 ⟨rfl, hb7⟩
    have HZ7 := Lib.hid (HZ6.out.trans (hb7.mono HZ6.out.size))
    have HF7 := Lib.hid (HFO.out v7 HZ7.out y6 (HY6.out.below hb7 (Nat.le_refl _)))
    obtain ⟨t0, t1⟩ := HOX.out v7 HZ7.out
    clear hb7 HF6 o0 o1
    go_wp2_with fail
    refine HF7.out.mono ?_
    rintro e v8 ⟨rfl, hb8⟩
    have HZ8 := Lib.hid (HZ7.out.trans (hb8.mono HZ7.out.size))
    obtain ⟨s0, s1⟩ := HOX.out v8 HZ8.out
    have g1 : decide ((ro.1 : Int) > 0) = true := decide_eq_true (by have := HC.out; omega)
    have g2 : decide (0 < (ro.1 : Int)) = true := decide_eq_true (by have := HC.out; omega)
    have g3 : decide (0 < ro.1) = true := decide_eq_true (by have := HC.out; omega)
    have g4 : 0 < ro.1 := by have := HC.out; omega
    clear hb8 HF7 t0 t1
    go_wp2_with fail
    go_ret
    exact ⟨rfl, HT.out _ HZ8.out⟩
  · rintro e v3 ⟨hb3, ⟨-, rfl⟩ | ⟨h0, -⟩⟩
    rotate_left
    · exact absurd hc h0
    have hck := chkE_ok (L := L) (M := L) (f := f) (by rw [HRO.out]; exact hc)
    obtain ⟨hX, -, hlen, -⟩ := hck
    have HXX := Lib.hid hX
    have HLEN : Hid (f.length = (vertR (allF L)).length) := by unfold Hid; rw [vert_same hX]; exact hlen.symm
    have HLEF : Hid (lefF (vertR (allF L)) f (faceN (allF L)) = lefF (vertA L) f (faceN (allF L))) := by unfold Hid; rw [vert_same hX]
    have HFIX : Hid (fixF (vertR (allF L)) f (faceN (allF L)) = fixF (vertA L) f (faceN (allF L))) := by unfold Hid; rw [vert_same hX]
    have HZ3 := Lib.hid (HZ2.out.trans (hb3.mono HZ2.out.size))
    have HX3 := Lib.hid (HXA.out v3 (HT.out _ HZ3.out))
    have HC := Lib.hid hc
    have hnil : (fixF (vertA L) f (faceN (allF L))).length = 0 → lefF (vertA L) f (faceN (allF L)) = 0 := fun h => by
      unfold lefF
      rw [List.length_eq_zero_iff.1 h]
      rfl
    have hfx : (fixF (vertA L) f (faceN (allF L))).length ≤ 600 ∧ ∀ l ∈ fixF (vertA L) f (faceN (allF L)), l.length ≤ 7 := by
      obtain ⟨hF1, hF2, -⟩ := faceN_small hX
      exact ⟨Nat.le_trans (List.length_filter_le _ _) hF1, fun l hl => hF2 l (List.mem_filter.1 hl).1⟩
    obtain ⟨lf, hlf⟩ : ∃ x, lefF (vertA L) f (faceN (allF L)) = x := ⟨_, rfl⟩
    obtain ⟨G, hG⟩ : ∃ G, fixF (vertA L) f (faceN (allF L)) = G := ⟨_, rfl⟩
    rw [hlf] at HLEF hnil ⊢
    rw [hG] at HFIX hnil hfx HFX
    have HNIL := Lib.hid hnil
    have HGF := Lib.hid hfx
    clear hb3 HLZ2 hc hX hlen hlf hG hnil hfx
    go_wp2_with fail
    refine HX3.out.mono ?_
    rintro e v4 ⟨x4, rfl, hb4, hr4⟩
    have HZ4 := Lib.hid (HZ3.out.trans (hb4.mono HZ3.out.size))
    have HI4 := Lib.hid (HIN.out v4 (HT.out _ HZ4.out))
    have HR4 := Lib.hid hr4.lists
    clear hb4 hr4 HX3
    go_wp2_with fail
    refine HI4.out.mono ?_
    rintro e v5 ⟨p5, c5, rfl, hb5, hi5⟩
    have HZ5 := Lib.hid (HZ4.out.trans (hb5.mono HZ4.out.size))
    have HFX5 := Lib.hid (HFX.out v5 HZ5.out x4 _ (HR4.out.below hb5 (Nat.le_refl _)) hi5.at)
    clear hb5 hi5 HI4 HFX
    go_wp2_with fail
    refine HFX5.out.mono ?_
    rintro e v6 ⟨hb6, ⟨-, y6, rfl, hl6⟩ | ⟨h0, -⟩⟩
    rotate_left
    · exact absurd HC.out h0
    have HZ6 := Lib.hid (HZ5.out.trans (hb6.mono HZ5.out.size))
    have HY6 := Lib.hid hl6
    have hee : ErrAt a v6 .nilIface (ro.1 : Int) ro.2 := by
      have h2 := (chkE_ok (L := L) (M := L) (f := f) (by rw [HRO.out]; exact HC.out)).2.2.2.2.2
      rw [HRO.out] at h2
      rw [HC.out, h2]
      exact ErrAt.nil a v6
    have HF6 := Lib.hid (HFO.out v6 HZ6.out _ hee)
    have HEE := Lib.hid hee
    obtain ⟨o0, o1⟩ := HOX.out v6 HZ6.out
    obtain ⟨p6, c6, hve, -⟩ := id hl6
    obtain ⟨m, hm⟩ : ∃ m, G.length = m := ⟨_, rfl⟩
    rw [hm] at hve
    subst hve
    have HM := Lib.hid hm
    clear hb6 hl6 HFX5 hee hm
    go_wp2_with fail
    refine HF6.out.mono ?_
    rintro e v7 ⟨rfl, hb7⟩
    have HZ7 := Lib.hid (HZ6.out.trans (hb7.mono HZ6.out.size))
    have HF7 := Lib.hid (HFO.out v7 HZ7.out .nilIface (HEE.out.below hb7 (Nat.le_refl _)))
    have HY7 := Lib.hid (HY6.out.below hb7 (Nat.le_refl _))
    obtain ⟨t0, t1⟩ := HOX.out v7 HZ7.out
    clear hb7 HF6 o0 o1
    go_wp2_with fail
    refine HF7.out.mono ?_
    rintro e v8 ⟨rfl, hb8⟩
    have HZ8 := Lib.hid (HZ7.out.trans (hb8.mono HZ7.out.size))
    have HY8 := Lib.hid (HY7.out.below hb8 (Nat.le_refl _))
    obtain ⟨s0, s1⟩ := HOX.out v8 HZ8.out
    rw [HC.out] at s0
    have g1 : decide (((0 : Nat) : Int) > 0) = false := by decide
    obtain ⟨hA1, hA2, hA3⟩ := allF_small HXX.out
    obtain ⟨hF1, hF2, hF3, hF4, -⟩ := faceN_small HXX.out
    have HFO8 := Lib.hid (fixedOf_any w.heap.size (allF L) f u12 (.slice pf nf cf) v8 (HT.out _ HZ8.out).size ((HL8.out HXX.out).below HZ8.out (Nat.le_refl _)) (by omega) (fun l hl => by have := hA2 l hl; omega) (HFF.out v8 (HT.out _ HZ8.out)) HLEN.out hA3 (by rw [vert_same HXX.out]; exact hF4) (fun x hx => by have := hF2 x hx; omega) (by omega))
    have HLO := Lib.hid (fun wx (hx : Below w8.heap.size w8 wx) => lefschetzOf_any w.heap.size (allF L) f u12 (.slice pf nf cf) wx (HT.out _ hx).size ((HL8.out HXX.out).below hx (Nat.le_refl _)) (by omega) (fun l hl => by have := hA2 l hl; omega) (HFF.out wx (HT.out _ hx)) HLEN.out hA3 (by rw [vert_same HXX.out]; exact hF4) (fun x hx => by have := hF2 x hx; omega) (by omega))
    rw [HFIX.out] at HFO8
    rw [HLEF.out] at HLO
    unfold ListPost at HFO8
    unfold Gives at HLO
    clear hb8 HF7 t0 t1 hA1 hA2 hA3 hF1 hF2 hF3 hF4
    go_wp2_with fail
    refine HFO8.out.mono ?_
    rintro e v9 ⟨y9, rfl, hb9, hr9⟩
    have HZ9 := Lib.hid (HZ8.out.trans (hb9.mono HZ8.out.size))
    have HSL := Lib.hid (sameLists_any true _ _ G G (.slice p6 m c6) y9 v9 (by simp) (HY8.out.below hb9 (Nat.le_refl _)) hr9.lists (by have := HGF.out.1; omega) (by have := HGF.out.1; omega) (fun l hl => by have := HGF.out.2 l hl; omega) (fun l hl => by have := HGF.out.2 l hl; omega))
    unfold Drew at HSL
    clear hb9 hr9 HFO8
    go_wp2_with fail
    refine HSL.out.mono ?_
    rintro e v10' ⟨rfl, nd, rfl⟩
    have hb10 := Below.drewN v9 nd
    obtain ⟨v10, hv10⟩ : ∃ x, v9.drewN nd = x := ⟨_, rfl⟩
    rw [hv10] at hb10 ⊢
    have HZ10 := Lib.hid (HZ9.out.trans (hb10.mono HZ9.out.size))
    have HL10 := Lib.hid (HLO.out v10 HZ10.out)
    clear hb10 hv10 HSL
    go_wp2_with fail
    refine HL10.out.mono ?_
    rintro e v11 ⟨rfl, hb11⟩
    have HZ11 := Lib.hid (HZ10.out.trans (hb11.mono HZ10.out.size))
    clear hb11 HL10
    by_cases hz : lf = 0
    · subst hz
      go_wp2_with fail
      go_ret
      exact ⟨rfl, HT.out _ HZ11.out⟩
    · have hm0 : m ≠ 0 := fun h => hz (HNIL.out (by rw [HM.out]; exact h))
      have z1 : (lf == 0) = false := beq_eq_false_iff_ne.2 hz
      have z2 : decide ((m : Int) > 0) = true := decide_eq_true (by omega)
      have z3 : decide (0 < (m : Int)) = true := decide_eq_true (by omega)
      have z4 : decide (0 < m) = true := decide_eq_true (by omega)
      have z5 : 0 < m := by omega
      clear hz hm0
      go_wp2_with fail
      go_ret
      exact ⟨rfl, HT.out _ HZ11.out⟩
end Go.Proofs.YtddnjimpdidpaaaGreatDoor
