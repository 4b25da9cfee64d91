/-
  The law's high by a contract: what is wrong with the sets or the heights; all faces.
  The law ReebMerges says true.
-/
import Derived.Test.YtddnjimpdidpaaaGreatDoorIxD
import Derived.Test.YtddnjimpdidpaaaGreatDoorRbH
import Derived.Test.YtddnjimpdidpaaaGreatDoorRbJ
import Derived.Test.YtddnjimpdidpaaaGreatDoorCoded
import Derived.Test.YtddnjimpdidpaaaGreatDoorErrsD
import Derived.Test.YtddnjimpdidpaaaGreatDoorCRefF
import Derived.Test.YtddnjimpdidpaaaGreatDoorCelX
import Derived.Test.YtddnjimpdidpaaaGreatDoorCelY
set_option linter.unusedSimpArgs false
set_option linter.unusedVariables false
namespace Go.Proofs.YtddnjimpdidpaaaGreatDoor
open Go Go.RowKit Go.Maps

theorem errR_H {L : List (List Int)} {h : List Int} (h0 : errX L = 0) : (errR L h : Int) = errH (vertR (allF L)) h := by
  rw [vert_same h0]
  by_cases hk : okH (vertA L) h
  · rw [errR_ok h0 hk, errH_ok hk]; rfl
  · rw [errR_3 h0 hk, errH_bad hk]; rfl
def HighP (B : Nat) (L : List (List Int)) (h : List Int) (w : World) (e : Ending) (w' : World) : Prop :=
  ∃ v, e = .returned (.tuple #[.int .i64 (errR L h : Int), v]) ∧ Below w.heap.size w w' ∧ (errX L = 0 → ListsIn B w' v (allF L))
set_option maxRecDepth 100000 in
set_option maxHeartbeats 4000000 in
theorem high_any (L : List (List Int)) (h : List Int) (v vh : Value) (w : World) (hv : ListsIn w.heap.size w v L) (hn : L.length ≤ 100000) (hl : ∀ l ∈ L, l.length ≤ 100000) (hvh : IntsIn w.heap.size w vh h) (hlen : h.length ≤ 100000) :
    Calls Tryz.prog 8 #[v, vh] w (HighP w.heap.size L h w) := by
  have HCE := Lib.hid (complexError_any L v w hv hn hl)
  have HCL := Lib.hid (fun wx (hx : Below w.heap.size w wx) => closed_any w.heap.size L v wx hx.size (hv.below hx (Nat.le_refl _)) hn hl)
  unfold ClosedPost at HCL
  have HHE := Lib.hid (fun wx (hx : Below w.heap.size w wx) u (h0 : errC L = 0) (hu : ListsIn w.heap.size wx u (allF L)) => heightsError_any w.heap.size (allF L) h u vh wx hu (by have := (errC_ok h0).2.2; omega) (fun l hlm => Nat.le_trans (allF_bd h0 l hlm) (by decide)) (hvh.below hx (Nat.le_refl _)) hlen)
  have HXC : Hid (errX L = 0 → errC L = 0) := fun h0 => (errX_ok h0).1
  have HER : Hid (errX L = 0 → (errR L h : Int) = errH (vertR (allF L)) h) := fun h0 => errR_H h0
  have HEB : Hid (errX L ≠ 0 → errR L h = errX L) := fun h0 => by unfold errR; rw [if_neg h0]
  unfold HighP
  by_cases h0 : errX L = 0
  rotate_left
  · have e1 := HEB.out h0
    rw [e1]
    obtain ⟨c, hc⟩ : ∃ c, errX L = c := ⟨_, rfl⟩
    rw [hc] at HCE h0 ⊢
    have qn : 0 < c := by omega
    have qc : decide (0 < c) = true := decide_eq_true qn
    have HC0 : Hid (c = 0 → False) := h0
    clear e1 hc h0 HER HEB HXC HHE HCL hv hn hl hvh hlen
    go_enter Tryz.func8, Tryz.ntmps8
    go_wp2_with fail
    refine HCE.out.mono ?_
    rintro e w1 ⟨rfl, hb⟩
    have HB1 := Lib.hid hb
    clear hb HCE
    go_wp2_with fail
    go_ret2
    exact ⟨.slice none 0 0, rfl, HB1.out, fun h => absurd h HC0.out⟩
  · have hX := HXC.out h0
    have hR := HER.out h0
    rw [hR]
    rw [h0] at HCE
    rw [hX] at HCL
    have HHE := Lib.hid (fun wx hx u hu => HHE.out wx hx u hX hu)
    obtain ⟨A, hA⟩ : ∃ A, allF L = A := ⟨_, rfl⟩
    rw [hA] at HCL HHE ⊢
    obtain ⟨r, hr⟩ : ∃ r, errH (vertR A) h = r := ⟨_, rfl⟩
    rw [hr] at HHE ⊢
    clear h0 hX hR hA hr HER HEB HXC hv hn hl hvh hlen
    go_enter Tryz.func8, Tryz.ntmps8
    go_wp2_with fail
    refine HCE.out.mono ?_
    rintro e w1 ⟨rfl, hb⟩
    have HB1 := Lib.hid hb
    clear hb HCE
    go_wp2_with fail
    refine (HCL.out _ HB1.out).mono ?_
    rintro e w2 ⟨va, rfl, hb, hy, -⟩
    have HB2 := Lib.hid (HB1.out.trans (hb.mono HB1.out.size))
    have hva := hy (by trivial)
    obtain ⟨pa, ca, hve, -⟩ := id hva
    obtain ⟨na, hna⟩ : ∃ n, A.length = n := ⟨_, rfl⟩
    rw [hna] at hve
    subst hve
    have HVA := Lib.hid hva
    have HHE2 := Lib.hid (HHE.out w2 HB2.out _ hva)
    clear hb hy hva hna HCL HHE
    go_wp2_with fail
    refine HHE2.out.mono ?_
    rintro e w3 ⟨rfl, hb⟩
    have HB3 := Lib.hid (HB2.out.trans (hb.mono HB2.out.size))
    have HVA3 := Lib.hid (HVA.out.below hb (Nat.le_refl _))
    clear hb HHE2
    go_wp2_with fail
    go_ret2
    exact ⟨_, rfl, HB3.out, fun _ => HVA3.out⟩

theorem errR_leB (L : List (List Int)) (h : List Int) : errR L h ≤ 4 := by
  have := errX_cases L
  unfold errR
  split
  · split <;> omega
  · omega
theorem errV_atB {a : Nat → Addr} {L : List (List Int)} {h : List Int} (w : World) : ErrAt a w (errV a (errR L h)) (errR L h : Int) (-1) := by
  have h4 := errR_leB L h
  generalize errR L h = e at h4
  cases e with
  | zero => exact Or.inl ⟨rfl, rfl, rfl⟩
  | succ k => exact Or.inr (Or.inl ⟨k, by omega, rfl, by omega, rfl⟩)
theorem lowS_same {n : Nat} {ht : List Int} {Ad : Nat → Nat → Prop} {a b : List (Int × Int)} (ha : LowS n ht Ad n a) (hb : LowS n ht Ad n b) : a = b := rise_same ha.rise hb.rise fun p => (ha.iff p).trans (hb.iff p).symm

set_option maxRecDepth 100000 in
set_option maxHeartbeats 16000000 in
theorem reebMerges_no (a : Nat → Addr) (L : List (List Int)) (h : List Int) (v vh : Value) (w : World) (hS : Sents w a) (hv : ListsIn w.heap.size w v L) (hh : IntsIn w.heap.size w vh h) (hno : littleB L 60 = false ∨ 200 < h.length) :
    Calls Tryz.prog 3 #[v, vh] w (True1 w) := by
  obtain ⟨pg, cg, hge, -⟩ := id hh
  obtain ⟨ng, hng⟩ : ∃ ng, h.length = ng := ⟨_, rfl⟩
  rw [hng] at hge hno
  subst hge
  have HV := Lib.hid hv
  have HAR := Lib.hid (hill_any a w hS)
  obtain ⟨r, hr⟩ : ∃ r, littleB L 60 = r := ⟨_, rfl⟩
  have HR := Lib.hid hr
  rw [hr] at hno
  unfold True1
  clear hS hv hh hng hr
  cases r with
  | false =>
    clear hno
    go_enter Tryz.func3, Tryz.ntmps3
    go_wp2_with fail
    refine HAR.out.mono ?_
    rintro e w1 ⟨rfl, hb1⟩
    have HB1 := Lib.hid hb1
    have HLI := Lib.hid (little_any L 60 v w1 (HV.out.later hb1 (Nat.le_refl _) (Nat.le_refl _)) (by decide))
    rw [HR.out] at HLI
    unfold Gives at HLI
    clear hb1
    go_wp2_with fail
    refine HLI.out.mono ?_
    rintro e w2 ⟨rfl, hb2⟩
    have HB2 := Lib.hid (HB1.out.trans (hb2.mono HB1.out.size))
    clear hb2
    go_wp2_with fail
    go_ret
    exact ⟨rfl, HB2.out⟩
  | true =>
    have hn : 200 < ng := hno.resolve_left (by decide)
    have q1 : decide ((200 : Int) < (ng : Int)) = true := decide_eq_true (by omega)
    have q2 : decide (200 < ng) = true := decide_eq_true hn
    have q3 : decide ((ng : Int) > 200) = true := decide_eq_true (by omega)
    clear hno
    go_enter Tryz.func3, Tryz.ntmps3
    go_wp2_with fail
    refine HAR.out.mono ?_
    rintro e w1 ⟨rfl, hb1⟩
    have HB1 := Lib.hid hb1
    have HLI := Lib.hid (little_any L 60 v w1 (HV.out.later hb1 (Nat.le_refl _) (Nat.le_refl _)) (by decide))
    rw [HR.out] at HLI
    unfold Gives at HLI
    clear hb1
    go_wp2_with fail
    refine HLI.out.mono ?_
    rintro e w2 ⟨rfl, hb2⟩
    have HB2 := Lib.hid (HB1.out.trans (hb2.mono HB1.out.size))
    clear hb2
    go_wp2_with fail
    go_ret
    exact ⟨rfl, HB2.out⟩

set_option maxRecDepth 100000 in
set_option maxHeartbeats 64000000 in
theorem reebMerges_any (a : Nat → Addr) (L : List (List Int)) (h : List Int) (v vh : Value) (w : World) (hS : Sents w a) (hv : ListsIn w.heap.size w v L) (hh0 : IntsAt w vh h) :
    Calls Tryz.prog 3 #[v, vh] w (True1 w) := by
  have hh := hh0.in
  by_cases hlit : littleB L 60 = true
  rotate_left
  · exact reebMerges_no a L h v vh w hS hv hh (Or.inl (by simpa using hlit))
  by_cases hg60 : h.length ≤ 200
  rotate_left
  · exact reebMerges_no a L h v vh w hS hv hh (Or.inr (by omega))
  obtain ⟨pg, cg, hge, -⟩ := id hh
  obtain ⟨ng, hng⟩ : ∃ ng, h.length = ng := ⟨_, rfl⟩
  rw [hng] at hge hg60
  subst hge
  obtain ⟨hL1, hL2⟩ := littleB_few hlit
  have HV := Lib.hid hv
  have HS := Lib.hid hS
  have HH := Lib.hid hh
  have HNG := Lib.hid hng
  have HN6 := Lib.hid hg60
  have HL1 := Lib.hid hL1
  have HL2 := Lib.hid hL2
  have HLIT := Lib.hid hlit
  have HAR := Lib.hid (hill_any a w hS)
  unfold True1
  have q1 : decide ((200 : Int) < (ng : Int)) = false := decide_eq_false (by omega)
  have q2 : decide (200 < ng) = false := decide_eq_false (by omega)
  have q3 : decide ((ng : Int) > 200) = false := decide_eq_false (by omega)
  clear hS hv hh hh0 hng hL1 hL2 hlit
  go_enter Tryz.func3, Tryz.ntmps3
  go_wp2_with fail
  refine HAR.out.mono ?_
  rintro e w1 ⟨rfl, hb1⟩
  have HB1 := Lib.hid hb1
  have HLI := Lib.hid (little_any L 60 v w1 (HV.out.later hb1 (Nat.le_refl _) (Nat.le_refl _)) (by decide))
  rw [HLIT.out] at HLI
  unfold Gives at HLI
  clear hb1
  go_wp2_with fail
  refine HLI.out.mono ?_
  rintro e w2 ⟨rfl, hb2⟩
  have HB2 := Lib.hid (HB1.out.trans (hb2.mono HB1.out.size))
  have HH2 := Lib.hid ((HH.out.below HB2.out (Nat.le_refl _)).at.in)
  have HHI := Lib.hid (high_any L h v (.slice pg ng cg) w2 (HV.out.later HB2.out (Nat.le_refl _) (Nat.le_refl _)) HL1.out HL2.out HH2.out (by rw [HNG.out]; omega))
  unfold HighP at HHI
  obtain ⟨c, hc⟩ : ∃ c, errR L h = c := ⟨_, rfl⟩
  rw [hc] at HHI
  have HC := Lib.hid hc
  clear hb2 hc
  go_wp2_with fail
  refine HHI.out.mono ?_
  rintro e w3 ⟨v3, rfl, hb3, hA3⟩
  have HB23 := Lib.hid hb3
  have HA3 := Lib.hid hA3
  have HB3 := Lib.hid (HB2.out.trans (hb3.mono HB2.out.size))
  have HCX := Lib.hid (fun wx (hx : Below w.heap.size w wx) => cx_any w.heap.size L v wx hx.size (HV.out.below hx (Nat.le_refl _)) HL1.out HL2.out)
  have HIN := Lib.hid (fun wx (hx : Below w.heap.size w wx) => ints_any w.heap.size h (.slice pg ng cg) wx hx.size (HH.out.below hx (Nat.le_refl _)) (by rw [HNG.out]; omega))
  unfold NumsP at HIN
  have HCX3 := Lib.hid (HCX.out w3 HB3.out)
  clear hb3 hA3 HHI HAR HLI
  -- Merge
  go_wp2_with fail
  refine HCX3.out.mono ?_
  rintro e w4 ⟨u4, rfl, hb4, hR4⟩
  have HB4 := Lib.hid (HB3.out.trans (hb4.mono HB3.out.size))
  have HC4 := Lib.hid hb4
  have HR4 := Lib.hid (hR4.lists (B := w.heap.size))
  have HIN4 := Lib.hid (HIN.out w4 HB4.out)
  clear hb4 hR4 HCX3
  go_wp2_with fail
  refine HIN4.out.mono ?_
  rintro e w5 ⟨p5, c5, rfl, hb5, hI5⟩
  have HB5 := Lib.hid (HB4.out.trans (hb5.mono HB4.out.size))
  have HC5 := Lib.hid (HC4.out.trans (hb5.mono HC4.out.size))
  have HIX := Lib.hid (mergeT_any a w5.heap.size L h u4 _ w5 (HS.out.below HB5.out (Nat.le_refl _)) (Nat.le_refl _) (HR4.out.later hb5 (Nat.le_refl _) (by have := HB4.out.size; omega)) HL1.out HL2.out hI5.at.in (by rw [HNG.out]; omega))
  unfold MergeR at HIX
  rw [HC.out] at HIX
  clear hb5 hI5 HIN4
  go_wp2_with fail
  refine HIX.out.mono ?_
  rintro e w6 ⟨v6, rfl, hb6, hbad6, hok6⟩
  have HB6 := Lib.hid (HB5.out.trans (hb6.mono HB5.out.size))
  have HC6 := Lib.hid (HC5.out.trans (hb6.mono HC5.out.size))
  have HBAD6 := Lib.hid hbad6
  have HOK6 := Lib.hid hok6
  have HCX6 := Lib.hid (HCX.out w6 HB6.out)
  clear hb6 hbad6 hok6 HIX
  -- Bars
  go_wp2_with fail
  refine HCX6.out.mono ?_
  rintro e w7 ⟨u7, rfl, hb7, hR7⟩
  have HB7 := Lib.hid (HB6.out.trans (hb7.mono HB6.out.size))
  have HC7 := Lib.hid (HC6.out.trans (hb7.mono HC6.out.size))
  have HB67 := Lib.hid hb7
  have HR7 := Lib.hid (hR7.lists (B := w.heap.size))
  have HIN7 := Lib.hid (HIN.out w7 HB7.out)
  clear hb7 hR7 HCX6
  go_wp2_with fail
  refine HIN7.out.mono ?_
  rintro e w8 ⟨p8, c8, rfl, hb8, hI8⟩
  have HB8 := Lib.hid (HB7.out.trans (hb8.mono HB7.out.size))
  have HC8 := Lib.hid (HC7.out.trans (hb8.mono HC7.out.size))
  have HB68 := Lib.hid (HB67.out.trans (hb8.mono HB67.out.size))
  have HIY := Lib.hid (barsT_any a w8.heap.size L h u7 _ w8 (HS.out.below HB8.out (Nat.le_refl _)) (Nat.le_refl _) (HR7.out.later hb8 (Nat.le_refl _) (by have := HB7.out.size; omega)) HL1.out HL2.out hI8.at.in (by rw [HNG.out]; omega))
  unfold BarsR at HIY
  rw [HC.out] at HIY
  clear hb8 hI8 HIN7
  go_wp2_with fail
  refine HIY.out.mono ?_
  rintro e w9 ⟨v9, rfl, hb9, hbad9, hok9⟩
  have HB9 := Lib.hid (HB8.out.trans (hb9.mono HB8.out.size))
  have HC9 := Lib.hid (HC8.out.trans (hb9.mono HC8.out.size))
  have HB69 := Lib.hid (HB68.out.trans (hb9.mono HB68.out.size))
  have HBAD9 := Lib.hid hbad9
  have HOK9 := Lib.hid hok9
  have HCX9 := Lib.hid (HCX.out w9 HB9.out)
  clear hb9 hbad9 hok9 HIY
  -- Check
  go_wp2_with fail
  refine HCX9.out.mono ?_
  rintro e w10 ⟨u10, rfl, hb10, hR10⟩
  have HB10 := Lib.hid (HB9.out.trans (hb10.mono HB9.out.size))
  have HC10 := Lib.hid (HC9.out.trans (hb10.mono HC9.out.size))
  have HB910 := Lib.hid hb10
  have HR10 := Lib.hid (hR10.lists (B := w.heap.size))
  have HIN10 := Lib.hid (HIN.out w10 HB10.out)
  clear hb10 hR10 HCX9
  go_wp2_with fail
  refine HIN10.out.mono ?_
  rintro e w11 ⟨p11, c11, rfl, hb11, hI11⟩
  have HB11 := Lib.hid (HB10.out.trans (hb11.mono HB10.out.size))
  have HC11 := Lib.hid (HC10.out.trans (hb11.mono HC10.out.size))
  have HB911 := Lib.hid (HB910.out.trans (hb11.mono HB910.out.size))
  have HIZ := Lib.hid (check_any a w11.heap.size L h u10 _ w11 (HS.out.below HB11.out (Nat.le_refl _)) (Nat.le_refl _) (HR10.out.later hb11 (Nat.le_refl _) (by have := HB10.out.size; omega)) HL1.out HL2.out hI11.at.in (by rw [HNG.out]; omega))
  rw [HC.out] at HIZ
  clear hb11 hI11 HIN10
  go_wp2_with fail
  refine HIZ.out.mono ?_
  rintro e w12 ⟨rfl, hb12⟩
  have HB12 := Lib.hid (HB11.out.trans (hb12.mono HB11.out.size))
  have HC12 := Lib.hid (HC11.out.trans (hb12.mono HC11.out.size))
  have HB912 := Lib.hid (HB911.out.trans (hb12.mono HB911.out.size))
  have HCO : Hid (∀ wx, Below w.heap.size w wx → Calls Tryz.prog 13 #[errV a c, .int .i64 (c : Int)] wx fun e w' => e = .returned (.bool true) ∧ Below wx.heap.size wx w') := fun wx hx => by
    have hE := @errV_atB a L h wx
    rw [HC.out] at hE
    have := coded_any a (errV a c) (c : Int) (-1) (c : Int) wx (HS.out.below hx (Nat.le_refl _)) hE
    rwa [decide_eq_true (show (c : Int) = (c : Int) ∧ (-1 : Int) = -1 from ⟨rfl, rfl⟩)] at this
  have HCO12 := Lib.hid (HCO.out w12 HB12.out)
  clear hb12 HIZ
  go_wp2_with fail
  refine HCO12.out.mono ?_
  rintro e w13 ⟨rfl, hb13⟩
  have HB13 := Lib.hid (HB12.out.trans (hb13.mono HB12.out.size))
  have HC13 := Lib.hid (HC12.out.trans (hb13.mono HC12.out.size))
  have HB913 := Lib.hid (HB912.out.trans (hb13.mono HB912.out.size))
  have HCO13 := Lib.hid (HCO.out w13 HB13.out)
  clear hb13 HCO12
  go_wp2_with fail
  refine HCO13.out.mono ?_
  rintro e w14 ⟨rfl, hb14⟩
  have HB14 := Lib.hid (HB13.out.trans (hb14.mono HB13.out.size))
  have HC14 := Lib.hid (HC13.out.trans (hb14.mono HC13.out.size))
  have HB914 := Lib.hid (HB913.out.trans (hb14.mono HB913.out.size))
  have HCO14 := Lib.hid (HCO.out w14 HB14.out)
  clear hb14 HCO13
  go_wp2_with fail
  refine HCO14.out.mono ?_
  rintro e w15 ⟨rfl, hb15⟩
  have HB15 := Lib.hid (HB14.out.trans (hb15.mono HB14.out.size))
  have HC15 := Lib.hid (HC14.out.trans (hb15.mono HC14.out.size))
  have HB915 := Lib.hid (HB914.out.trans (hb15.mono HB914.out.size))
  clear hb15 HCO14
  cases c with
  | succ k =>
    obtain rfl := HBAD6.out (by omega)
    obtain rfl := HBAD9.out (by omega)
    have q4 : decide (((k + 1 : Nat) : Int) > 0) = true := decide_eq_true (by omega)
    have q5 : decide ((0 : Int) < ((k + 1 : Nat) : Int)) = true := decide_eq_true (by omega)
    go_wp2_with fail
    go_ret
    exact ⟨rfl, HB15.out⟩
  | zero =>
    obtain ⟨h0, hok⟩ := errR_00 HC.out
    obtain ⟨f1, f2, f3, f4, f5, f6⟩ := okH_facts h0 hok
    have hvs := vert_same h0
    have hC0 := (errX_ok h0).1
    have hA6 := (errC_ok hC0).2.2
    have hA7 := allF_bd hC0
    have HA15 := Lib.hid (fun wx (hx : Below w3.heap.size w3 wx) => (HA3.out h0).below hx (Nat.le_refl _))
    have HH15 := Lib.hid (fun wx (hx : Below w3.heap.size w3 wx) => HH2.out.below (HB23.out.trans (hx.mono HB23.out.size)) (Nat.le_refl _))
    have HVO := Lib.hid (verticesOf_any w2.heap.size (allF L) v3 w15 (HA15.out w15 HC15.out) (by omega) (fun l hl => by have := hA7 l hl; omega))
    have HMG := Lib.hid (fun wx (hx : Below w3.heap.size w3 wx) => mergeOf_any w2.heap.size (allF L) h v3 (.slice pg ng cg) wx (HB23.out.trans (hx.mono HB23.out.size)).size (HA15.out wx hx) (by omega) (fun l hl => by have := hA7 l hl; omega) (HH15.out wx hx) (by rw [hvs]; exact f1.symm) (by rw [hvs]; exact edg_of h0) f4)
    have HLB := Lib.hid (fun wx (hx : Below w3.heap.size w3 wx) => lowBars_any w2.heap.size (allF L) h v3 (.slice pg ng cg) wx (HB23.out.trans (hx.mono HB23.out.size)).size (HA15.out wx hx) (by omega) (fun l hl => by have := hA7 l hl; omega) (HH15.out wx hx) (by rw [hvs]; exact f1.symm) (by rw [hvs]; exact edg_of h0) f4 f3)
    rw [hvs] at HVO HMG HLB
    have hVl : (vertA L).length = ng := f1.trans HNG.out
    rw [hVl] at HMG HLB
    unfold NumsP at HVO
    rw [hVl] at HVO
    obtain ⟨k, par, hv6, hk6, hnod, hpar⟩ := HOK6.out rfl
    rw [HNG.out] at hv6 hnod hpar
    subst hv6
    obtain ⟨B', hown9, hlow9⟩ := HOK9.out rfl
    rw [HNG.out] at hlow9
    have HNOD : Hid (∀ wx, Below w15.heap.size w15 wx → wx.heap[k]? = some (.cells (nodA (vertA L) par ng) 45 (0, 0))) := fun wx hx => by
      have hkl := (Array.getElem?_eq_some_iff.1 hnod).1
      have hb := (HB69.out.trans (HB915.out.mono HB69.out.size))
      have hs15 := hb.size
      exact (hx.block k (by omega)).trans ((hb.block k hkl).trans hnod)
    have HOWN : Hid (∀ wx, Below w15.heap.size w15 wx → wx.ownsRow w8.heap.size 48 3 v9 B'.length (barVs B')) := fun wx hx => by
      have h1 := owns_keep hown9 fun q hq => HB915.out.block q (hown9.lt q hq).2
      exact owns_keep h1 fun q hq => hx.block q (h1.lt q hq).2
    have HPAR := Lib.hid hpar
    have HLOW := Lib.hid hlow9
    have HGR : Hid (Gr ng (htF h) (adL L)) := by unfold Hid; rw [← HNG.out]; exact f5
    obtain ⟨V, hV⟩ : ∃ V, vertA L = V := ⟨_, rfl⟩
    obtain ⟨Ad, hAd⟩ : ∃ Ad, adL L = Ad := ⟨_, rfl⟩
    have hAd' : AdE (edgN V (dimF (allF L) 1)) = Ad := by rw [← hAd, ← hV]; rfl
    rw [hV] at HVO HMG HLB hVl HNOD
    rw [hAd'] at HMG HLB
    rw [hAd] at HPAR HLOW HGR
    have HVL := Lib.hid hVl
    obtain ⟨pb, cb, hv9⟩ : ∃ p c, v9 = .slice p B'.length c := by
      rcases Joins.ownsRow_forms hown9 with ⟨e, h00⟩ | ⟨g, cap, e⟩
      · exact ⟨none, 0, by rw [e, h00]⟩
      · exact ⟨_, cap, e⟩
    obtain ⟨nb, hnb⟩ : ∃ nb, B'.length = nb := ⟨_, rfl⟩
    have hnbn : nb ≤ ng := by
      have := lowS_len (by exact HGR.out) HLOW.out
      omega
    rw [hnb] at hv9 HOWN
    subst hv9
    have HNB := Lib.hid hnb
    have q4 : decide (((0 : Nat) : Int) > 0) = false := decide_eq_false (by omega)
    have q5 : decide ((0 : Int) < ((0 : Nat) : Int)) = false := decide_eq_false (by omega)
    have hn200 := HN6.out
    clear h0 hok f1 f2 f3 f4 f5 f6 hvs hC0 hA6 hA7 hk6 hnod hpar hown9 hlow9 hVl hV hAd hAd' hnb HOK6 HOK9 HBAD6 HBAD9
    go_wp2_with fail
    refine HVO.out.mono ?_
    rintro e w16 ⟨pV, cV, rfl, hb16, hiV⟩
    have HB16 := Lib.hid (HB15.out.trans (hb16.mono HB15.out.size))
    have HC16 := Lib.hid (HC15.out.trans (hb16.mono HC15.out.size))
    have HD16 := Lib.hid hb16
    have HIV := Lib.hid hiV
    have HMG1 := Lib.hid (HMG.out w16 HC16.out)
    unfold UpP at HMG1
    clear hb16 hiV HVO
    go_wp2_with fail
    refine HMG1.out.mono ?_
    rintro e w17 ⟨P, pu, cu, hPl, hPf, rfl, hb17, hiU⟩
    have HB17 := Lib.hid (HB16.out.trans (hb17.mono HB16.out.size))
    have HC17 := Lib.hid (HC16.out.trans (hb17.mono HC16.out.size))
    have HD17 := Lib.hid (HD16.out.trans (hb17.mono HD16.out.size))
    have HIV17 := Lib.hid (HIV.out.below hb17 (Nat.le_refl _))
    have HIU := Lib.hid hiU
    have HPP : Hid (∀ i, i < ng → (P.map (parI V)).getD i 0 = parI V (par i)) := fun i hi => by
      have hil : i < P.length := by rw [hPl]; exact hi
      have e := FirstH.unique (n := ng) HGR.out.inj (fun k hk => tq_lt HGR.out hk) (hPf i hi) (HPAR.out i hi)
      rw [← e, List.getD_eq_getElem?_getD, List.getElem?_map, List.getElem?_eq_getElem hil, List.getD_eq_getElem?_getD, List.getElem?_eq_getElem hil]
      rfl
    have HPL : Hid ((P.map (parI V)).length = ng) := by unfold Hid; rw [List.length_map]; exact hPl
    clear hPl hPf hb17 hiU HMG1
    go_wp2_with fail
    go_loopw [15] (fun i wr => ∃ (j : Nat), j ≤ ng ∧ i = .int .i64 (j : Int) ∧ Below w17.heap.size w17 wr) (fun i _ => ng - (intOf i).toNat)
    case atStart => exact ⟨0, Nat.zero_le _, rfl, Below.refl _ _⟩
    case round =>
      obtain ⟨j, hj, rfl, hbr⟩ := hrel
      have HBR := Lib.hid hbr
      clear hbr
      by_cases hjn : j < ng
      · obtain ⟨b0, o0, c0, e1, e2⟩ := ints_cell (HIV17.out.below HBR.out (Nat.le_refl _)) j (by rw [HVL.out]; exact hjn)
        rw [HVL.out] at e1
        obtain ⟨rfl, rfl⟩ : pV = some ⟨b0, o0, none⟩ ∧ cV = c0 := by cases e1; exact ⟨rfl, rfl⟩
        obtain ⟨b1, o1, c1, e3, e4⟩ := ints_cell (HIU.out.below HBR.out (Nat.le_refl _)) j (by rw [HPL.out]; exact hjn)
        rw [HPL.out] at e3
        obtain ⟨rfl, rfl⟩ : pu = some ⟨b1, o1, none⟩ ∧ cu = c1 := by cases e3; exact ⟨rfl, rfl⟩
        rw [HPP.out j hjn] at e4
        obtain ⟨n0, n1⟩ := node_cells (HNOD.out wr (HD17.out.trans (HBR.out.mono HD17.out.size))) hjn
        obtain ⟨z0, hz0⟩ : ∃ z, V.getD j 0 = z := ⟨_, rfl⟩
        obtain ⟨z1, hz1⟩ : ∃ z, parI V (par j) = z := ⟨_, rfl⟩
        rw [hz0] at e2 n0
        rw [hz1] at e4 n1
        have q6 : (z0 != z0) = false := by simp
        have q7 : (z1 != z1) = false := by simp
        clear e1 e3 hz0 hz1
        go_wp2_with fail
        go_quiet (fail)
        go_wp2_with fail
        go_roundw
        case rel => exact ⟨j + 1, hjn, by go_num, HBR.out.trans ((Below.drewN wr _).mono HBR.out.size)⟩
        case measure => simp [intOf]; omega
      · obtain rfl : ng = j := by omega
        have HC18 := Lib.hid (HC17.out.trans (HBR.out.mono HC17.out.size))
        have HD18 := Lib.hid (HD17.out.trans (HBR.out.mono HD17.out.size))
        have HB18 := Lib.hid (HB17.out.trans (HBR.out.mono HB17.out.size))
        have HLB1 := Lib.hid (HLB.out wr HC18.out)
        unfold LowP at HLB1
        clear hj hjn
        go_wp2_with fail
        refine HLB1.out.mono ?_
        rintro e w19 ⟨s9, B9, rfl, hb19, hown19, hlow19⟩
        obtain rfl := lowS_same HLOW.out hlow19
        have HB19 := Lib.hid (HB18.out.trans (hb19.mono HB18.out.size))
        have HD19 := Lib.hid (HD18.out.trans (hb19.mono HD18.out.size))
        obtain ⟨pw, cw, rfl⟩ : ∃ p c, s9 = .slice p nb c := by
          rw [HNB.out] at hown19
          rcases Joins.ownsRow_forms hown19 with ⟨e, h00⟩ | ⟨g, cap, e⟩
          · exact ⟨none, 0, by rw [e, h00]⟩
          · exact ⟨_, cap, e⟩
        have HO19 := Lib.hid hown19
        clear hb19 hown19 hlow19 HLB1
        go_wp2_with fail
        go_loopw [17] (fun i wr => ∃ (j : Nat), j ≤ nb ∧ i = .int .i64 (j : Int) ∧ Below w19.heap.size w19 wr) (fun i _ => nb - (intOf i).toNat)
        case atStart => exact ⟨0, Nat.zero_le _, rfl, Below.refl _ _⟩
        case round =>
          obtain ⟨j, hj, rfl, hbr⟩ := hrel
          have HBR := Lib.hid hbr
          clear hbr
          by_cases hjn : j < nb
          · have hjl : j < B'.length := by rw [HNB.out]; exact hjn
            obtain ⟨g1, cc1, e1, x0, x1, x2⟩ := bar_cells (by rw [HNB.out]; exact HOWN.out wr (HD19.out.trans (HBR.out.mono HD19.out.size))) hjl
            obtain ⟨g2, cc2, e2, y0, y1, y2⟩ := bar_cells (owns_keep HO19.out fun q hq => HBR.out.block q (HO19.out.lt q hq).2) hjl
            rw [HNB.out] at e1 e2
            obtain ⟨rfl, rfl⟩ : pb = some ⟨g1, 0, none⟩ ∧ cb = cc1 := by cases e1; exact ⟨rfl, rfl⟩
            obtain ⟨rfl, rfl⟩ : pw = some ⟨g2, 0, none⟩ ∧ cw = cc2 := by cases e2; exact ⟨rfl, rfl⟩
            obtain ⟨z1, hz1⟩ : ∃ z, (B'.getD j (0, 0)).1 = z := ⟨_, rfl⟩
            obtain ⟨z2, hz2⟩ : ∃ z, (B'.getD j (0, 0)).2 = z := ⟨_, rfl⟩
            rw [hz1] at x1 y1
            rw [hz2] at x2 y2
            clear e1 e2 hz1 hz2 hjl
            go_wp2_with fail
            go_quiet (fail)
            go_wp2_with fail
            go_roundw
            case rel => exact ⟨j + 1, hjn, by go_num, HBR.out.trans ((Below.drewN wr _).mono HBR.out.size)⟩
            case measure => simp [intOf]; omega
          · obtain rfl : nb = j := by omega
            go_wp2_with fail
            go_ret
            exact ⟨rfl, HB19.out.trans (HBR.out.mono HB19.out.size)⟩
end Go.Proofs.YtddnjimpdidpaaaGreatDoor
