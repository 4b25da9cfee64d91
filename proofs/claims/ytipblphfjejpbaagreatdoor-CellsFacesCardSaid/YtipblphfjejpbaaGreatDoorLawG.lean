/-
  The law CellsFaces says true.
-/
import Derived.Test.YtipblphfjejpbaaGreatDoorLawF
set_option linter.unusedSimpArgs false
set_option linter.unusedVariables false
namespace Go.Proofs.YtipblphfjejpbaaGreatDoor
open Go Go.RowKit Go.Maps

theorem owns_empty {w : World} {g O : Nat} (hO : O ≤ g) (h : w.heap[g]? = some (.cells #[] 3 (0, 0))) : w.ownsRow O 3 1 (.slice (some ⟨g, 0, none⟩) 0 0) 0 [] :=
  ⟨rfl, Or.inr ⟨g, 0, #[], rfl, hO, h, Nat.le_refl _, Nat.zero_le _, rfl, rfl⟩⟩

set_option maxRecDepth 100000 in
set_option maxHeartbeats 16000000 in
theorem cellsFaces_no (a : Nat → Addr) (L : List (List Int)) (face : List Int) (dim : Int) (v u : Value) (w : World) (hS : Sents w a) (hv : ListsIn w.heap.size w v L) (hu : IntsAt w u face) (hno : littleB L 250 = false ∨ 20 < face.length) :
    Calls Tryz.prog 5 #[v, .int .i64 dim, u] w (True1 w) := by
  have HV := Lib.hid hv
  have HCI := Lib.hid (circle_any a w hS)
  obtain ⟨pu, cu, hue, -⟩ := id hu
  obtain ⟨m, hm⟩ : ∃ m, face.length = m := ⟨_, rfl⟩
  rw [hm] at hue hno
  subst hue
  clear hS hv hu hm
  unfold True1
  obtain ⟨r, hr⟩ : ∃ r, littleB L 250 = r := ⟨_, rfl⟩
  have HR := Lib.hid hr
  rw [hr] at hno
  clear hr
  cases r with
  | false =>
    clear hno
    go_enter Tryz.func5, Tryz.ntmps5
    go_wp2_with fail
    refine HCI.out.mono ?_
    rintro e w1 ⟨rfl, hb1⟩
    have HB1 := Lib.hid hb1
    have HLI := Lib.hid (little_any L 250 v w1 (HV.out.later hb1 (Nat.le_refl _) (Nat.le_refl _)) (by decide))
    rw [HR.out] at HLI
    unfold Gives at HLI
    clear hb1
    go_wp2_with fail
    refine HLI.out.mono ?_
    rintro e w2 ⟨rfl, hb2⟩
    have HB2 := Lib.hid (HB1.out.trans (hb2.mono HB1.out.size))
    clear hb2
    go_wp2_with fail
    go_ret
    exact ⟨rfl, HB2.out⟩
  | true =>
    have hm20 : 20 < m := hno.elim (fun h => by cases h) id
    have q1 : decide (20 < m) = true := decide_eq_true hm20
    have q2 : decide ((20 : Int) < (m : Int)) = true := decide_eq_true (by omega)
    clear hno
    go_enter Tryz.func5, Tryz.ntmps5
    go_wp2_with fail
    refine HCI.out.mono ?_
    rintro e w1 ⟨rfl, hb1⟩
    have HB1 := Lib.hid hb1
    have HLI := Lib.hid (little_any L 250 v w1 (HV.out.later hb1 (Nat.le_refl _) (Nat.le_refl _)) (by decide))
    rw [HR.out] at HLI
    unfold Gives at HLI
    clear hb1
    go_wp2_with fail
    refine HLI.out.mono ?_
    rintro e w2 ⟨rfl, hb2⟩
    have HB2 := Lib.hid (HB1.out.trans (hb2.mono HB1.out.size))
    clear hb2
    go_wp2_with fail
    go_ret
    exact ⟨rfl, HB2.out⟩

set_option maxRecDepth 100000 in
set_option maxHeartbeats 16000000 in
theorem cellsFaces_yes (a : Nat → Addr) (L : List (List Int)) (face : List Int) (dim : Int) (v u : Value) (w : World) (hS : Sents w a) (hv : ListsIn w.heap.size w v L) (hu : IntsAt w u face) (hlit : littleB L 250 = true) (hf20 : face.length ≤ 20) :
    Calls Tryz.prog 5 #[v, .int .i64 dim, u] w (True1 w) := by
  obtain ⟨i3, hi3, hy0, hy1, hy2⟩ := info_parts Tryz.info3
  have HS := Lib.hid hS
  have HV := Lib.hid hv
  have HU := Lib.hid hu
  have HCI := Lib.hid (circle_any a w hS)
  have HR := Lib.hid hlit
  obtain ⟨hn, hl⟩ := littleB_few hlit
  have HN := Lib.hid hn
  have HL := Lib.hid hl
  obtain ⟨pu, cu, hue, -⟩ := id hu
  obtain ⟨m, hm⟩ : ∃ m, face.length = m := ⟨_, rfl⟩
  rw [hm] at hue hf20
  subst hue
  have HM := Lib.hid hm
  have q1 : decide (20 < m) = false := decide_eq_false (by omega)
  have q2 : decide ((20 : Int) < (m : Int)) = false := decide_eq_false (by omega)
  obtain ⟨c, hc⟩ : ∃ c, errX L = c := ⟨_, rfl⟩
  have HC := Lib.hid hc
  clear hS hv hu hm hlit hn hl hc
  unfold True1
  go_enter Tryz.func5, Tryz.ntmps5
  go_wp2_with fail
  refine HCI.out.mono ?_
  rintro e w1 ⟨rfl, hb1⟩
  have HB1 := Lib.hid hb1
  have HLI := Lib.hid (little_any L 250 v w1 (HV.out.later hb1 (Nat.le_refl _) (Nat.le_refl _)) (by decide))
  rw [HR.out] at HLI
  unfold Gives at HLI
  clear hb1
  go_wp2_with fail
  refine HLI.out.mono ?_
  rintro e w2 ⟨rfl, hb2⟩
  have HB2 := Lib.hid (HB1.out.trans (hb2.mono HB1.out.size))
  have HCE := Lib.hid (complexError_any L v w2 (HV.out.later HB2.out (Nat.le_refl _) (Nat.le_refl _)) HN.out HL.out)
  rw [HC.out] at HCE
  unfold Gives at HCE
  clear hb2
  go_wp2_with fail
  refine HCE.out.mono ?_
  rintro e w3 ⟨rfl, hb3⟩
  have HB3 := Lib.hid (HB2.out.trans (hb3.mono HB2.out.size))
  clear hb3
  by_cases hc0 : c = 0
  focus
    have q3 : ((c : Int) == 0) = true := beq_iff_eq.2 (by omega)
    have HX0 : Hid (errX L = 0) := by unfold Hid; rw [HC.out]; exact hc0
    have HCL := Lib.hid (closed_any w.heap.size L v w3 HB3.out.size (HV.out.below HB3.out (Nat.le_refl _)) HN.out HL.out)
    unfold ClosedPost at HCL
    rw [(errX_ok HX0.out).1] at HCL
    clear hc0
    go_wp2_with fail
    refine HCL.out.mono ?_
    rintro e w5 ⟨va, rfl, hb5, hva, -⟩
    have HB5 := Lib.hid (HB3.out.trans (hb5.mono HB3.out.size))
    have HALL : Hid (ListsIn w.heap.size w5 va (allE L)) := by unfold Hid; rw [allE_ok HX0.out]; exact hva (by trivial)
    clear hb5 hva q3 HX0 HCL
  rotate_left
  focus
    have q3 : ((c : Int) == 0) = false := beq_eq_false_iff_ne.2 (by omega)
    obtain ⟨w5, rfl⟩ : ∃ w5, w5 = w3 := ⟨_, rfl⟩
    have HB5 := Lib.hid HB3.out
    obtain ⟨va, hva⟩ : ∃ va, va = Value.slice none 0 0 := ⟨_, rfl⟩
    have HALL : Hid (ListsIn w.heap.size w5 va (allE L)) := by unfold Hid; rw [allE_bad (by rw [HC.out]; exact hc0), hva]; exact ListsIn.nil _ _
    clear hc0
    go_wp2_with fail
    rw [← hva]
    clear hva q3
  all_goals
    have HALL5 := Lib.hid HALL.out
    clear HALL
    have HCX := Lib.hid (cx_any w.heap.size L v w5 HB5.out.size (HV.out.below HB5.out (Nat.le_refl _)) HN.out HL.out)
    go_wp2_with fail
    refine HCX.out.mono ?_
    rintro e w6 ⟨u6, rfl, hb, hr⟩
    have HB6 := Lib.hid (HB5.out.trans (hb.mono HB5.out.size))
    have HR6 := Lib.hid hr.lists
    have HALL6 := Lib.hid (HALL5.out.below hb (Nat.le_refl _))
    clear hb hr HCX
    have HME := Lib.hid (faces_u a w.heap.size L u6 w6 (HS.out.below HB6.out (Nat.le_refl _)) HB6.out.size HR6.out HN.out HL.out dim)
    unfold FacU at HME
    rw [HC.out] at HME
    go_wp2_with fail
    refine HME.out.mono ?_
    rintro e w7 ⟨f7, er7, rfl, hb, hp, he⟩
    have HB7 := Lib.hid (HB6.out.trans (hb.mono HB6.out.size))
    have HALL7 := Lib.hid (HALL6.out.below hb (Nat.le_refl _))
    have HP7 := Lib.hid hp
    have HE7 := Lib.hid he
    clear hb hp he HME
    have HOD := Lib.hid (ofDim_any w.heap.size (allE L) dim va w7 HB7.out.size HALL7.out (by have := allE_len L; omega) (fun l hl => by have := allE_bd L l hl; omega))
    unfold ListPost at HOD
    go_wp2_with fail
    refine HOD.out.mono ?_
    rintro e w8 ⟨d8, rfl, hb, hr⟩
    have HB8 := Lib.hid (HB7.out.trans (hb.mono HB7.out.size))
    have HALL8 := Lib.hid (HALL7.out.below hb (Nat.le_refl _))
    have HE8 := Lib.hid (HE7.out.below hb (Nat.le_refl _))
    have hbd : ∀ l ∈ dimF (allE L) dim, l.length ≤ 100000 := fun l hl => by have := allE_bd L l (List.mem_filter.1 hl).1; omega
    have hln : (dimF (allE L) dim).length ≤ 100000 := by have h1 := dimF_len (allE L) dim; have h2 := allE_len L; omega
    have HSL := Lib.hid (sameLists_any true w.heap.size w.heap.size (dimF (allE L) dim) (dimF (allE L) dim) f7 d8 w8 (by simp) (ListsIn.below (show ListsIn w.heap.size w7 f7 (dimF (allE L) dim) from HP7.out) hb (Nat.le_refl _)) hr.lists hln hln hbd hbd)
    unfold Drew at HSL
    clear hb hr hbd hln HOD HE7 HP7
    go_wp2_with fail
    refine HSL.out.mono ?_
    rintro e w9 ⟨rfl, n9, hw9⟩
    have hb9 : Below w8.heap.size w8 w9 := by rw [hw9]; exact Below.drewN w8 n9
    have HB9 := Lib.hid (HB8.out.trans (hb9.mono HB8.out.size))
    have HALL9 := Lib.hid (HALL8.out.below hb9 (Nat.le_refl _))
    have HE9 := Lib.hid (HE8.out.below hb9 (Nat.le_refl _))
    clear hb9 hw9 HSL HE8
    have HCD := Lib.hid (coded_yes a er7 (c : Int) (-1) (c : Int) w9 (HS.out.below HB9.out (Nat.le_refl _)) (HE9.out) ⟨rfl, rfl⟩)
    go_wp2_with fail
    refine HCD.out.mono ?_
    rintro e w10 ⟨rfl, hb⟩
    have HB10 := Lib.hid (HB9.out.trans (hb.mono HB9.out.size))
    have HALL10 := Lib.hid (HALL9.out.below hb (Nat.le_refl _))
    have HBS10 := Lib.hid hb
    clear hb HCD
    have HCX := Lib.hid (cx_any w.heap.size L v w10 HB10.out.size (HV.out.below HB10.out (Nat.le_refl _)) HN.out HL.out)
    go_wp2_with fail
    refine HCX.out.mono ?_
    rintro e w11 ⟨u11, rfl, hb, hr⟩
    have HB11 := Lib.hid (HB10.out.trans (hb.mono HB10.out.size))
    have HR11 := Lib.hid hr.lists
    have HALL11 := Lib.hid (HALL10.out.below hb (Nat.le_refl _))
    clear hb hr HCX
    have HME := Lib.hid (vector_u a w.heap.size L u11 w11 (HS.out.below HB11.out (Nat.le_refl _)) HB11.out.size HR11.out HN.out HL.out)
    unfold FacU at HME
    rw [HC.out] at HME
    go_wp2_with fail
    refine HME.out.mono ?_
    rintro e w12 ⟨f12, er12, rfl, hb, hp, he⟩
    have HB12 := Lib.hid (HB11.out.trans (hb.mono HB11.out.size))
    have HALL12 := Lib.hid (HALL11.out.below hb (Nat.le_refl _))
    have HP12 := Lib.hid hp
    have HE12 := Lib.hid he
    clear hb hp he HME
    obtain ⟨pf, cf, hfe⟩ := IntsIn.len (show IntsIn w.heap.size w12 f12 (vecF (allE L)) from HP12.out)
    rw [vecF_len] at hfe
    have ht7 := allE_top L
    obtain ⟨t, ht⟩ : ∃ t, topN (allE L) = t := ⟨_, rfl⟩
    rw [ht] at hfe ht7
    subst hfe
    have HT := Lib.hid ht
    clear ht
    have HCD := Lib.hid (coded_yes a er12 (c : Int) (-1) (c : Int) w12 (HS.out.below HB12.out (Nat.le_refl _)) (HE12.out) ⟨rfl, rfl⟩)
    go_wp2_with fail
    refine HCD.out.mono ?_
    rintro e w13 ⟨rfl, hb⟩
    have HB13 := Lib.hid (HB12.out.trans (hb.mono HB12.out.size))
    have HALL13 := Lib.hid (HALL12.out.below hb (Nat.le_refl _))
    have HBS13 := Lib.hid hb
    clear hb HCD
    have HTO := Lib.hid (topOf_any w.heap.size (allE L) va w13 HALL13.out (by have := allE_len L; omega) (fun l hl => by have := allE_bd L l hl; omega))
    unfold Same at HTO
    rw [HT.out] at HTO
    have HV13 := Lib.hid (IntsIn.below (show IntsIn w.heap.size w12 (.slice pf t cf) (vecF (allE L)) from HP12.out) HBS13.out (Nat.le_refl _))
    clear HP12 HE12
    go_wp2_with fail
    refine HTO.out.mono ?_
    rintro e w14 ⟨rfl, rfl⟩
    go_wp2_with fail
    go_loopw [15] (fun i wr => ∃ j : Nat, j ≤ t ∧ i = .int .i64 j ∧ Below w14.heap.size w14 wr) (fun i _ => t - (intOf i).toNat)
    case atStart => exact ⟨0, Nat.zero_le _, rfl, Below.refl _ _⟩
    case round =>
      obtain ⟨j, hj, rfl, hbr⟩ := hrel
      have HBR := Lib.hid hbr
      have hb15 := HB13.out.trans (hbr.mono HB13.out.size)
      have HB15 := Lib.hid hb15
      have HALL15 := Lib.hid (HALL13.out.below hbr (Nat.le_refl _))
      clear hbr hb15
      by_cases hjt : j < t
      · obtain ⟨p', c', hv', -, -, hx⟩ := id (HV13.out.below HBR.out (Nat.le_refl _)).at
        obtain ⟨b, off, e1, e2⟩ := hx j (by rw [vecF_len, HT.out]; exact hjt)
        rw [vecF_at (by rw [HT.out]; exact hjt), ← dimF_nat] at e2
        cases hv'
        subst e1
        have HOD := Lib.hid (ofDim_any w.heap.size (allE L) (j : Int) va wr.drew HB15.out.size HALL15.out (by have := allE_len L; omega) (fun l hl => by have := allE_bd L l hl; omega))
        unfold ListPost at HOD
        have hnl : (dimF (allE L) (j : Int)).length ≤ 600 := Nat.le_trans (dimF_len _ _) (allE_len L)
        obtain ⟨nr, hnr⟩ : ∃ nr, (dimF (allE L) (j : Int)).length = nr := ⟨_, rfl⟩
        rw [hnr] at e2 hnl
        have HNR := Lib.hid hnr
        have HCE2 := Lib.hid e2
        have hltb := mem_lt e2
        clear hx hnr
        go_wp2_with fail
        go_region_law ((go_simp
                        go_at_call 17
                        refine HOD.out.mono ?_
                        rintro e w16 ⟨d16, rfl, hb16, hr16⟩
                        obtain ⟨pd, cd, hde, -⟩ := hr16.lists
                        rw [HNR.out] at hde
                        subst hde
                        have hce16 := (hb16.cell (p := ⟨b, off + j, none⟩) hltb).trans HCE2.out
                        have HBR16 := Lib.hid ((HBR.out.trans (((Below.refl wr.heap.size wr).drew).mono HBR.out.size)).trans (hb16.mono HBR.out.size))
                        clear hr16))
        all_goals
          go_wp2_with fail
          go_roundw
          case rel => exact ⟨j + 1, by omega, by go_num, HBR16.out⟩
          case measure => simp [intOf]; omega
      · obtain ⟨w15, rfl⟩ : ∃ w15 : World, w15 = wr := ⟨_, rfl⟩
        have HCX := Lib.hid (cx_any w.heap.size L v w15 HB15.out.size (HV.out.below HB15.out (Nat.le_refl _)) HN.out HL.out)
        go_wp2_with fail
        refine HCX.out.mono ?_
        rintro e w16 ⟨u16, rfl, hb, hr⟩
        have HB16 := Lib.hid (HB15.out.trans (hb.mono HB15.out.size))
        have HR16 := Lib.hid hr.lists
        have HALL16 := Lib.hid (HALL15.out.below hb (Nat.le_refl _))
        clear hb hr HCX
        have HME := Lib.hid (euler_u a w.heap.size L u16 w16 (HS.out.below HB16.out (Nat.le_refl _)) HB16.out.size HR16.out HN.out HL.out)
        unfold FacU at HME
        rw [HC.out] at HME
        go_wp2_with fail
        refine HME.out.mono ?_
        rintro e w17 ⟨f17, er17, rfl, hb, hp, he⟩
        have HB17 := Lib.hid (HB16.out.trans (hb.mono HB16.out.size))
        have HALL17 := Lib.hid (HALL16.out.below hb (Nat.le_refl _))
        have HP17 := Lib.hid hp
        have HE17 := Lib.hid he
        clear hb hp he HME
        obtain rfl : f17 = .int .i64 (eulF (allE L)) := HP17.out
        have heb := eulF_bd (allE L)
        have hel := allE_len L
        obtain ⟨x, hx⟩ : ∃ x, eulF (allE L) = x := ⟨_, rfl⟩
        rw [hx] at heb
        have HX := Lib.hid hx
        clear heb hel
        have HCD := Lib.hid (coded_yes a er17 (c : Int) (-1) (c : Int) w17 (HS.out.below HB17.out (Nat.le_refl _)) (HE17.out) ⟨rfl, rfl⟩)
        go_wp2_with fail
        refine HCD.out.mono ?_
        rintro e w18 ⟨rfl, hb⟩
        have HB18 := Lib.hid (HB17.out.trans (hb.mono HB17.out.size))
        have HALL18 := Lib.hid (HALL17.out.below hb (Nat.le_refl _))
        have HBS18 := Lib.hid hb
        clear hb HCD
        have HEO := Lib.hid (eulerOf_any w.heap.size (allE L) va w18 HALL18.out (by have := allE_len L; omega) (fun l hl => by have := allE_bd L l hl; omega))
        unfold Same at HEO
        rw [HX.out] at HEO
        clear hx HP17 HE17
        go_wp2_with fail
        refine HEO.out.mono ?_
        rintro e w19 ⟨rfl, rfl⟩
        have HB19 := HB18
        have HALL19 := HALL18
        have HCX := Lib.hid (cx_any w.heap.size L v w19 HB19.out.size (HV.out.below HB19.out (Nat.le_refl _)) HN.out HL.out)
        go_wp2_with fail
        refine HCX.out.mono ?_
        rintro e w20 ⟨u20, rfl, hb, hr⟩
        have HB20 := Lib.hid (HB19.out.trans (hb.mono HB19.out.size))
        have HR20 := Lib.hid hr.lists
        have HALL20 := Lib.hid (HALL19.out.below hb (Nat.le_refl _))
        clear hb hr HCX
        obtain ⟨w21, hw21⟩ : ∃ w21, w21 = w20.alloc (.cells #[] 3) := ⟨_, rfl⟩
        have hb21 : Below w20.heap.size w20 w21 := by rw [hw21]; exact (Below.refl _ _).alloc (Nat.le_refl _) _
        have hk21 : w21.heap[w20.heap.size]? = some (.cells #[] 3 (0, 0)) := by rw [hw21]; exact heap_alloc_new w20 _
        have HB21 := Lib.hid (HB20.out.trans (hb21.mono HB20.out.size))
        have HB2021 := Lib.hid hb21
        have HO21 := Lib.hid (owns_empty (O := w20.heap.size) (Nat.le_refl _) hk21)
        have HU21 := Lib.hid (HU.out.below HB21.out (Nat.le_refl _))
        have HR21 := Lib.hid (HR20.out.below hb21 (Nat.le_refl _))
        have HALL21 := Lib.hid (HALL20.out.below hb21 (Nat.le_refl _))
        have hs21 : w21.heap.size = w20.heap.size + 1 := by rw [hw21]; simp
        have HW21 := Lib.hid hw21
        clear hw21 hb21 hk21
        go_wp2_with (at_builtin; rw [← HW21.out]; refine wpList_app_any w21 rfl (.tmp 114) (.tmp 115) 26 rfl w20.heap.size 3 i3 (.int .i64 0) 8 Tryz.underlying26 hi3 hy0 hy1 hy2 rfl (.slice (some ⟨w20.heap.size, 0, none⟩) 0 0) 0 [] rfl HO21.out pu m cu (intVs face) rfl HU21.out.lenE HU21.out.noneE HU21.out.news (intVs_one _) (by unfold maxLen; omega) (by omega) (by omega) _ rfl ?_; intro p22 cap22 w22 ho22 hg22 hat22)
        have hb22 := HB2021.out.grown hg22 HB2021.out.size (fun k e => by cases e; exact Nat.le_refl _)
        have HB22 := Lib.hid (HB20.out.trans (hb22.mono HB20.out.size))
        have HALL22 := Lib.hid (HALL20.out.below hb22 (Nat.le_refl _))
        have HI22 := (ints_owned (B := 0) ho22 (by rw [HM.out]; simp)).at
        simp only [Nat.zero_add, List.nil_append] at HI22
        have HME := Lib.hid (has_u a w.heap.size L u20 w22 (HS.out.below HB22.out (Nat.le_refl _)) HB22.out.size (HR20.out.below hb22 (Nat.le_refl _)) HN.out HL.out face (.slice p22 m cap22) HI22 (by rw [HM.out]; omega))
        unfold FacU at HME
        rw [HC.out] at HME
        clear hb22 HI22 ho22 hg22 hat22
        go_wp2_with fail
        refine HME.out.mono ?_
        rintro e w23 ⟨x23, er23, rfl, hb, hp, he⟩
        have HB23 := Lib.hid (HB22.out.trans (hb.mono HB22.out.size))
        have HALL23 := Lib.hid (HALL22.out.below hb (Nat.le_refl _))
        have HE23 := Lib.hid he
        obtain rfl : x23 = .bool (decide (face ∈ allE L)) := hp
        obtain ⟨bb, hbb⟩ : ∃ bb, decide (face ∈ allE L) = bb := ⟨_, rfl⟩
        rw [hbb]
        have HBB := Lib.hid hbb
        clear hb he HME hbb
        have HCD := Lib.hid (coded_yes a er23 (c : Int) (-1) (c : Int) w23 (HS.out.below HB23.out (Nat.le_refl _)) (HE23.out) ⟨rfl, rfl⟩)
        go_wp2_with fail
        refine HCD.out.mono ?_
        rintro e w24 ⟨rfl, hb⟩
        have HB24 := Lib.hid (HB23.out.trans (hb.mono HB23.out.size))
        have HALL24 := Lib.hid (HALL23.out.below hb (Nat.le_refl _))
        have HBS24 := Lib.hid hb
        clear hb HCD
        have HIX := Lib.hid (indexOf_any w.heap.size (allE L) face va (.slice pu m cu) w24 HALL24.out (HU.out.below HB24.out (Nat.le_refl _)) (by have := allE_len L; omega) (fun l hl => by have := allE_bd L l hl; omega) (by rw [HM.out]; omega))
        unfold IdxPost at HIX
        go_wp2_with fail
        refine HIX.out.mono ?_
        rintro e w25 ⟨ri, rfl, ⟨n25, hw25⟩, hiff, hlo⟩
        have HB25 : Hid (Below w.heap.size w w25) := by unfold Hid; rw [hw25]; exact HB24.out.trans ((Below.drewN w24 n25).mono HB24.out.size)
        clear hw25 HIX
        cases bb with
        | true =>
          have hri : 0 ≤ ri := hiff.2 (of_decide_eq_true HBB.out)
          clear hiff hlo
          go_wp2_with fail
          go_ret
          exact ⟨rfl, HB25.out⟩
        | false =>
          have hri : ri < 0 := Int.not_le.1 fun h => of_decide_eq_false HBB.out (hiff.1 h)
          clear hiff hlo
          go_wp2_with fail
          go_ret
          exact ⟨ret_bool (a := !decide (0 ≤ ri)) (by rw [decide_eq_false (by omega)]; rfl), HB25.out⟩

theorem cellsFaces_any (a : Nat → Addr) (L : List (List Int)) (dim : Int) (face : List Int) (v u : Value) (w : World) (hS : Sents w a) (hv : ListsIn w.heap.size w v L) (hu : IntsAt w u face) :
    Calls Tryz.prog 5 #[v, .int .i64 dim, u] w (True1 w) := by
  by_cases h : littleB L 250 = false ∨ 20 < face.length
  · exact cellsFaces_no a L face dim v u w hS hv hu h
  · have h1 : littleB L 250 = true := by
      cases hh : littleB L 250 with
      | true => rfl
      | false => exact absurd (Or.inl hh) h
    exact cellsFaces_yes a L face dim v u w hS hv hu h1 (by omega)
end Go.Proofs.YtipblphfjejpbaaGreatDoor
