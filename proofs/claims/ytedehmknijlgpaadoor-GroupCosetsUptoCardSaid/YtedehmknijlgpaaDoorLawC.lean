/-
  The law GroupCosets says true. Printed by tools/gen_lawc.py.
-/
import Derived.Test.YtedehmknijlgpaaDoorPlnT
import Derived.Test.YtedehmknijlgpaaDoorDocE
import Derived.Test.YtedehmknijlgpaaDoorDocF
import Derived.Test.YtedehmknijlgpaaDoorDocG
import Derived.Test.YtedehmknijlgpaaDoorFco
import Derived.Test.YtedehmknijlgpaaDoorErrsD
set_option linter.unusedSimpArgs false
set_option linter.unusedVariables false
namespace Go.Proofs.YtedehmknijlgpaaDoor
open Go Go.RowKit Go.Maps

theorem len_flat {α : Type} {L : List (List α)} : ∀ l ∈ L, l.length ≤ L.flatten.length := fun l hl => by
  obtain ⟨i, hi, rfl⟩ := List.getElem_of_mem hl
  have h := flat_succ hi
  rw [List.getD_eq_getElem?_getD, List.getElem?_eq_getElem hi] at h
  simp only [Option.getD_some] at h
  omega
theorem below_draw {B : Nat} {w w' w'' : World} {z : Nat} (h : Below B w w') (e : w'' = w'.drewN z) : Below B w w'' := by rw [e]; exact ⟨h.os, h.tape, h.output, h.size, h.block⟩
theorem sen_of {w : World} {a : Nat → Addr} (h : Sents w a) : Sen w (a 1) (a 2) := by
  have h1 := h.g 1 (by decide)
  have h2 := h.g 2 (by decide)
  exact ⟨h1, h2⟩
theorem groupErr_le (G : Int) (L : List (List Int)) : groupErr G L ≤ 2 := by
  unfold groupErr
  repeat' split
  all_goals decide
theorem errAt_errV (a : Nat → Addr) (w : World) {c : Nat} (hc : c ≤ 2) : ErrAt a w (errV (a 1) (a 2) c) (refErr c) (-1) := by
  rcases (show c = 0 ∨ c = 1 ∨ c = 2 by omega) with rfl | rfl | rfl
  · exact ErrAt.nil a w
  · rw [show errV (a 1) (a 2) 1 = errG (a 1) from by unfold errV; rw [if_neg (by decide), if_pos rfl], show refErr 1 = ((1 : Nat) : Int) + 1 from by unfold refErr; rw [if_neg (by decide)]]
    exact ErrAt.sent a w 1 (by decide)
  · rw [show errV (a 1) (a 2) 2 = errG (a 2) from by unfold errV; rw [if_neg (by decide), if_neg (by decide)], show refErr 2 = ((2 : Nat) : Int) + 1 from by unfold refErr; rw [if_neg (by decide)]]
    exact ErrAt.sent a w 2 (by decide)
set_option maxRecDepth 100000 in
theorem tab_small (m : TC.St) {W n : Nat} (hW : W ≤ 10) (hn : n ≤ 400) : (TC.tabT m W n).length ≤ 100000 ∧ ∀ l ∈ TC.tabT m W n, l.length ≤ 100000 := by
  constructor
  · rw [TC.tabT_len]; exact Nat.le_trans hn (by decide)
  · intro l hl
    unfold TC.tabT at hl
    obtain ⟨i, -, rfl⟩ := List.mem_map.1 hl
    rw [TC.rowT_len]; exact Nat.le_trans hW (by decide)
set_option maxRecDepth 100000 in
theorem cosA_small {g : Nat} {rels words : List (List Int)} (hg : g ≤ 5) (h : groupErr (g : Int) rels = 0) : (cosA (g : Int) rels words).1 ≤ 2 ∧ (cosA (g : Int) rels words).2.length ≤ 100000 ∧ ∀ l ∈ (cosA (g : Int) rels words).2, l.length ≤ 100000 := by
  rcases cosA_zero (words := words) h with h | h | ⟨-, h⟩
  · rw [h]; exact ⟨by decide, Nat.zero_le _, fun l hl => by cases hl⟩
  · rw [h]; exact ⟨by decide, Nat.zero_le _, fun l hl => by cases hl⟩
  · rw [h]
    have hW : 2 * g ≤ 10 := by omega
    rcases cosT_cases g rels words with h2 | ⟨-, h3, h2⟩
    · rw [h2]; exact ⟨by decide, Nat.zero_le _, fun l hl => by cases hl⟩
    · have h4 := tab_small (cosM g rels words) hW h3
      obtain ⟨T, hT⟩ : ∃ T, TC.tabT (cosM g rels words) (2 * g) (TC.ordO (cosM g rels words) (2 * g) 5001).length = T := ⟨_, rfl⟩
      rw [hT] at h2 h4
      rw [h2]
      exact ⟨Nat.zero_le _, h4.1, h4.2⟩
set_option maxRecDepth 100000 in
set_option maxHeartbeats 64000000 in
theorem cosets_law (G : Int) (L words : List (List Int)) (vr vw : Value) (a : Nat → Addr) (w : World) (hA : Sents w a) (hv : ListsIn w.heap.size w vr L) (hu : ListsIn w.heap.size w vw words) (hn : L.length ≤ 2000000) (hs : L.flatten.length ≤ 2000000) (hn2 : words.length ≤ 2000000) (hs2 : words.flatten.length ≤ 2000000) :
    Calls Tryd.prog 4 #[.agg #[.int .i64 G, vr], vw] w (Gives (.bool true) w) := by
  have hS := sen_of hA
  obtain ⟨pv, cv, hve, -⟩ := id hv
  obtain ⟨n, hLn⟩ : ∃ n, L.length = n := ⟨_, rfl⟩
  rw [hLn] at hve hn
  subst hve
  obtain ⟨pw, cw, hwe, -⟩ := id hu
  obtain ⟨nw, hWn⟩ : ∃ nw, words.length = nw := ⟨_, rfl⟩
  rw [hWn] at hwe hn2
  subst hwe
  have hb0 : Below w.heap.size w (w.alloc (.cells #[.int .i64 G, .slice pv n cv] 24)) := (Below.refl _ _).alloc (Nat.le_refl _) _
  obtain ⟨w1, hw1⟩ : ∃ w1, w.alloc (.cells #[.int .i64 G, .slice pv n cv] 24) = w1 := ⟨_, rfl⟩
  have hg1 := heap_alloc_new w (.cells #[.int .i64 G, .slice pv n cv] 24)
  rw [hw1] at hb0 hg1
  have c0 : w1.cell? ⟨w.heap.size, 0, none⟩ = some (.int .i64 G) := by simp [World.cell?, hg1]
  have c1 : w1.cell? ⟨w.heap.size, 1, none⟩ = some (.slice pv n cv) := by simp [World.cell?, hg1]
  have HC0 := Lib.hid c0
  have HC1 := Lib.hid c1
  have HB0 := Lib.hid hb0
  have HW1 := Lib.hid hw1
  have HS := Lib.hid hS
  have HA := Lib.hid hA
  have HV := Lib.hid hv
  have HU := Lib.hid hu
  have HLN := Lib.hid hLn
  have HWN := Lib.hid hWn
  obtain ⟨m, hm⟩ : ∃ m, L.flatten.length = m := ⟨_, rfl⟩
  have HM := Lib.hid hm
  rw [hm] at hs
  obtain ⟨mw, hmw⟩ : ∃ mw, words.flatten.length = mw := ⟨_, rfl⟩
  have HMW := Lib.hid hmw
  rw [hmw] at hs2
  have HTH := Lib.hid (three_any (a 1) (a 2) w1 (hS.below hb0 (Nat.le_refl _)))
  unfold Gives at HTH ⊢
  clear hS hA hv hu hLn hWn hb0 hw1 hg1 c0 c1 hm hmw
  go_enter Tryd.func4, Tryd.ntmps4
  go_upto_region 1 with fail
  rw [HW1.out]
  go_wp2_with fail
  refine HTH.out.mono ?_
  rintro e w2 ⟨rfl, hb2⟩
  have d0 := (hb2.cell (p := ⟨w.heap.size, 0, none⟩) (mem_lt HC0.out)).trans HC0.out
  have d1 := (hb2.cell (p := ⟨w.heap.size, 1, none⟩) (mem_lt HC1.out)).trans HC1.out
  have HB2 := Lib.hid (HB0.out.trans (hb2.mono HB0.out.size))
  have HD0 := Lib.hid d0
  have HD1 := Lib.hid d1
  have HSM := Lib.hid (small_any w.heap.size G L (.slice pv n cv) w2 (HV.out.below HB2.out (Nat.le_refl _)) (by rw [HLN.out]; exact hn) (by rw [HM.out]; exact hs))
  unfold Gives at HSM
  obtain ⟨sm, hsm⟩ : ∃ sm, smallB G L = sm := ⟨_, rfl⟩
  rw [hsm] at HSM
  have HSB := Lib.hid hsm
  clear hb2 hsm
  go_wp2_with fail
  refine HSM.out.mono ?_
  rintro e w3 ⟨rfl, hb3⟩
  have HB3 := Lib.hid (HB2.out.trans (hb3.mono HB2.out.size))
  have HE0 := Lib.hid ((hb3.cell (p := ⟨w.heap.size, 0, none⟩) (mem_lt HD0.out)).trans HD0.out)
  have HE1 := Lib.hid ((hb3.cell (p := ⟨w.heap.size, 1, none⟩) (mem_lt HD1.out)).trans HD1.out)
  clear hb3 d0 d1 HD0 HD1 HC0 HC1 HTH HSM
  cases sm with
  | false =>
    go_wp2_with fail
    go_ret
    exact ⟨rfl, HB3.out⟩
  | true =>
    by_cases k2 : 500 < nw
    · have e0 := HE0.out
      clear e0
      go_wp2_with fail
      go_ret
      exact ⟨rfl, HB3.out⟩
    have k2' : nw ≤ 500 := by omega
    have HLW := Lib.hid (lettersR_any w.heap.size words (.slice pw nw cw) w3 (HU.out.below HB3.out (Nat.le_refl _)) (by rw [HWN.out]; exact hn2) (by rw [HMW.out]; exact hs2))
    unfold CatP at HLW
    rw [HMW.out] at HLW
    clear k2
    go_wp2_with fail
    refine HLW.out.mono ?_
    rintro e w4 ⟨p4, c4, rfl, hb4, -⟩
    have e0 := (hb4.cell (p := ⟨w.heap.size, 0, none⟩) (mem_lt HE0.out)).trans HE0.out
    have e1 := (hb4.cell (p := ⟨w.heap.size, 1, none⟩) (mem_lt HE1.out)).trans HE1.out
    have HB4 := Lib.hid (HB3.out.trans (hb4.mono HB3.out.size))
    clear hb4
    by_cases k1 : 500 < mw
    · clear e0 e1
      go_wp2_with fail
      go_ret
      exact ⟨rfl, HB4.out⟩
    have k1' : mw ≤ 500 := by omega
    clear k1
    have HGE := Lib.hid (groupError_any w.heap.size G L (.slice pv n cv) w4 (HV.out.below HB4.out (Nat.le_refl _)) (by rw [HLN.out]; exact hn) (by rw [HM.out]; exact hs))
    unfold Gives at HGE
    have hcle := groupErr_le G L
    obtain ⟨c, hc⟩ : ∃ c, groupErr G L = c := ⟨_, rfl⟩
    rw [hc] at HGE hcle
    have hsb := HSB.out
    have hsm := of_decide_eq_true hsb
    rw [HM.out, HLN.out, hc] at hsm
    have HF0 := Lib.hid e0
    have HF1 := Lib.hid e1
    by_cases hc0 : c = 0
    rotate_left
    · have hm1 : m ≤ 1000 ∧ n ≤ 1000 := by omega
      have HRES : Hid (cosA G L words = (c, [])) := by
        unfold Hid cosA; rw [hc, if_pos hc0]
      obtain ⟨c2, rfl⟩ : ∃ c2, c = c2 := ⟨_, rfl⟩
      obtain ⟨T2, hT2⟩ : ∃ T2 : List (List Int), ([] : List (List Int)) = T2 := ⟨_, rfl⟩
      have HT2 : Hid (T2.length ≤ 100000 ∧ ∀ l ∈ T2, l.length ≤ 100000) := by unfold Hid; rw [← hT2]; exact ⟨Nat.zero_le _, fun l hl => by cases hl⟩
      have HNX : Hid (∀ w', ListsIn w.heap.size w' (.slice none 0 0) T2) := by unfold Hid; rw [← hT2]; exact fun w' => ListsIn.nil _ w'
      rw [hT2] at HRES
      have HC2 := Lib.hid hcle
      have hrp : ((refErr c) == 0) = false := by unfold refErr; rw [if_neg hc0, beq_eq_false_iff_ne]; omega
      obtain ⟨rc, hrc⟩ : ∃ rc, refErr c = rc := ⟨_, rfl⟩
      have HRC := Lib.hid hrc
      rw [hrc] at HGE hrp
      clear hrc hc hc0 hsb hsm hT2
      go_wp2_with fail
      refine HGE.out.mono ?_
      rintro e w5 ⟨rfl, hb5⟩
      have f0 := (hb5.cell (p := ⟨w.heap.size, 0, none⟩) (mem_lt HF0.out)).trans HF0.out
      have f1 := (hb5.cell (p := ⟨w.heap.size, 1, none⟩) (mem_lt HF1.out)).trans HF1.out
      have HB5 := Lib.hid (HB4.out.trans (hb5.mono HB4.out.size))
      have HX5 := Lib.hid (HNX.out w5)
      clear hb5 e0 e1
      have HPR := Lib.hid (program_any w.heap.size G L (.slice pv n cv) w5 HB5.out.size (HV.out.below HB5.out (Nat.le_refl _)) (by rw [HLN.out]; omega) (fun l hl => by have := len_flat l hl; rw [HM.out] at this; omega))
      unfold ProgP at HPR
      go_wp2_with fail
      refine HPR.out.mono ?_
      rintro e w6 ⟨u6, rfl, hb6, hR6⟩
      have HB6 := Lib.hid (HB5.out.trans (hb6.mono HB5.out.size))
      have HR6 := Lib.hid hR6.lists
      have HX6 := Lib.hid (HX5.out.below hb6 (Nat.le_refl _))
      have HWO := Lib.hid (wordsOf_any w.heap.size words (.slice pw nw cw) w6 HB6.out.size (HU.out.below HB6.out (Nat.le_refl _)) (by rw [HWN.out]; omega) (fun l hl => by have := len_flat l hl; rw [HMW.out] at this; omega))
      unfold ListPost at HWO
      clear hb6 hR6 f0 f1
      go_wp2_with fail
      refine HWO.out.mono ?_
      rintro e w7 ⟨v7, rfl, hb7, hR7⟩
      have HB7 := Lib.hid (HB6.out.trans (hb7.mono HB6.out.size))
      have HX7 := Lib.hid (HX6.out.below hb7 (Nat.le_refl _))
      have HCO := Lib.hid (cosets_any w.heap.size G L words u6 v7 (a 1) (a 2) w7 (HS.out.below HB7.out (Nat.le_refl _)) (HR6.out.below hb7 (Nat.le_refl _)) hR7.lists (by rw [HLN.out]; omega) (by rw [HM.out]; omega) (by rw [HWN.out]; omega) (by rw [HMW.out]; omega))
      unfold CosP at HCO
      rw [HRES.out] at HCO
      clear hb7 hR7
      go_wp2_with fail
      refine HCO.out.mono ?_
      rintro e w8 ⟨hb8, v8, rfl, hl8⟩
      have HB8 := Lib.hid (HB7.out.trans (hb8.mono HB7.out.size))
      have HX8 := Lib.hid (HX7.out.below hb8 (Nat.le_refl _))
      have HL8 := Lib.hid (hl8 w.heap.size)
      have HCD := Lib.hid (coded_yes a (errV (a 1) (a 2) c) (refErr c) (-1) (refErr c) w8 (HA.out.below HB8.out (Nat.le_refl _)) (errAt_errV a w8 HC2.out) ⟨rfl, rfl⟩)
      have hrc := HRC.out
      rw [hrc] at HCD
      obtain ⟨ve, hve⟩ : ∃ ve, errV (a 1) (a 2) ((c, T2) : Nat × List (List Int)).1 = ve := ⟨_, rfl⟩
      rw [show errV (a 1) (a 2) c = ve from hve] at HCD
      rw [hve]
      clear hb8 hl8 hrc hve
      go_wp2_with fail
      refine HCD.out.mono ?_
      rintro e w9 ⟨rfl, hb9⟩
      have HB9 := Lib.hid (HB8.out.trans (hb9.mono HB8.out.size))
      have HSL := Lib.hid (sameLists_any true w.heap.size w.heap.size T2 T2 v8 (.slice none 0 0) w9 (by simp) (HL8.out.below hb9 (Nat.le_refl _)) (HX8.out.below hb9 (Nat.le_refl _)) HT2.out.1 HT2.out.1 HT2.out.2 HT2.out.2)
      unfold Drew at HSL
      clear hb9
      go_wp2_with fail
      refine HSL.out.mono ?_
      rintro e w10 ⟨rfl, z, hz⟩
      have HB10 := Lib.hid (below_draw HB9.out hz)
      clear hz
      go_wp2_with fail
      go_ret
      exact ⟨rfl, HB10.out⟩
    · subst hc0
      have hr0 : refErr 0 = 0 := rfl
      rw [hr0] at HGE
      obtain ⟨hg0, hg12, -, -, hlet⟩ := groupErr_zero hc
      have hs3 : G ≤ 5 ∧ m ≤ 60 ∧ n ≤ 20 := hsm.elim id (fun h => absurd rfl h.1)
      obtain ⟨g, rfl⟩ : ∃ g : Nat, G = (g : Int) := ⟨G.toNat, by omega⟩
      have hg5 : g ≤ 5 := by omega
      obtain ⟨-, hm60, hn20⟩ := hs3
      have HGZ := Lib.hid hc
      clear hr0 hc hsb hsm hlet hg0 hg12 hcle
      go_wp2_with fail
      refine HGE.out.mono ?_
      rintro e w50 ⟨rfl, hb50⟩
      have f0 := (hb50.cell (p := ⟨w.heap.size, 0, none⟩) (mem_lt HF0.out)).trans HF0.out
      have f1 := (hb50.cell (p := ⟨w.heap.size, 1, none⟩) (mem_lt HF1.out)).trans HF1.out
      have HB50 := Lib.hid (HB4.out.trans (hb50.mono HB4.out.size))
      have HG0 := Lib.hid f0
      have HG1 := Lib.hid f1
      have HFC := Lib.hid (fcos_any w.heap.size g L words (.slice pv n cv) (.slice pw nw cw) w50 hg5 HGZ.out (HV.out.below HB50.out (Nat.le_refl _)) (HU.out.below HB50.out (Nat.le_refl _)) (by rw [HLN.out]; exact hn20) (by rw [HM.out]; exact hm60) (by rw [HWN.out]; exact k2') (by rw [HMW.out]; exact k1'))
      unfold FcoP at HFC
      have hcs := cosA_small (words := words) hg5 HGZ.out
      obtain ⟨c2, T2, hres⟩ : ∃ c2 T2, cosA (g : Int) L words = (c2, T2) := ⟨_, _, rfl⟩
      rw [hres] at HFC hcs
      have HRES := Lib.hid hres
      have HC2 : Hid (c2 ≤ 2) := hcs.1
      have HT2 : Hid (T2.length ≤ 100000 ∧ ∀ l ∈ T2, l.length ≤ 100000) := hcs.2
      clear hb50 e0 e1 hres hcs
      go_wp2_with fail
      refine HFC.out.mono ?_
      rintro e w5 ⟨hb5, hpost⟩
      have HB5 := Lib.hid (HB50.out.trans (hb5.mono HB50.out.size))
      have h0 := (hb5.cell (p := ⟨w.heap.size, 0, none⟩) (mem_lt HG0.out)).trans HG0.out
      have h1 := (hb5.cell (p := ⟨w.heap.size, 1, none⟩) (mem_lt HG1.out)).trans HG1.out
      clear hb5 f0 f1
      rcases hpost with ⟨v5, cc, rfl⟩ | ⟨v5, rfl, hl5⟩
      · go_wp2_with fail
        go_ret
        exact ⟨rfl, HB5.out⟩
      · have HX5 : Hid (ListsIn w.heap.size w5 v5 T2) := hl5 _
        obtain ⟨rc2, hrc2⟩ : ∃ rc2, refErr c2 = rc2 := ⟨_, rfl⟩
        rw [show refErr ((c2, T2) : Nat × List (List Int)).1 = rc2 from hrc2]
        have HRC := Lib.hid hrc2
        clear hl5 hrc2
        have HPR := Lib.hid (program_any w.heap.size (g : Int) L (.slice pv n cv) w5 HB5.out.size (HV.out.below HB5.out (Nat.le_refl _)) (by rw [HLN.out]; omega) (fun l hl => by have := len_flat l hl; rw [HM.out] at this; omega))
        unfold ProgP at HPR
        go_wp2_with fail
        refine HPR.out.mono ?_
        rintro e w6 ⟨u6, rfl, hb6, hR6⟩
        have HB6 := Lib.hid (HB5.out.trans (hb6.mono HB5.out.size))
        have HR6 := Lib.hid hR6.lists
        have HX6 := Lib.hid (HX5.out.below hb6 (Nat.le_refl _))
        have HWO := Lib.hid (wordsOf_any w.heap.size words (.slice pw nw cw) w6 HB6.out.size (HU.out.below HB6.out (Nat.le_refl _)) (by rw [HWN.out]; omega) (fun l hl => by have := len_flat l hl; rw [HMW.out] at this; omega))
        unfold ListPost at HWO
        clear hb6 hR6 h0 h1
        go_wp2_with fail
        refine HWO.out.mono ?_
        rintro e w7 ⟨v7, rfl, hb7, hR7⟩
        have HB7 := Lib.hid (HB6.out.trans (hb7.mono HB6.out.size))
        have HX7 := Lib.hid (HX6.out.below hb7 (Nat.le_refl _))
        have HCO := Lib.hid (cosets_any w.heap.size (g : Int) L words u6 v7 (a 1) (a 2) w7 (HS.out.below HB7.out (Nat.le_refl _)) (HR6.out.below hb7 (Nat.le_refl _)) hR7.lists (by rw [HLN.out]; omega) (by rw [HM.out]; omega) (by rw [HWN.out]; omega) (by rw [HMW.out]; omega))
        unfold CosP at HCO
        rw [HRES.out] at HCO
        clear hb7 hR7
        go_wp2_with fail
        refine HCO.out.mono ?_
        rintro e w8 ⟨hb8, v8, rfl, hl8⟩
        have HB8 := Lib.hid (HB7.out.trans (hb8.mono HB7.out.size))
        have HX8 := Lib.hid (HX7.out.below hb8 (Nat.le_refl _))
        have HL8 := Lib.hid (hl8 w.heap.size)
        have HCD := Lib.hid (coded_yes a (errV (a 1) (a 2) c2) (refErr c2) (-1) (refErr c2) w8 (HA.out.below HB8.out (Nat.le_refl _)) (errAt_errV a w8 HC2.out) ⟨rfl, rfl⟩)
        have hrc2 := HRC.out
        rw [hrc2] at HCD
        obtain ⟨ve, hve⟩ : ∃ ve, errV (a 1) (a 2) ((c2, T2) : Nat × List (List Int)).1 = ve := ⟨_, rfl⟩
        rw [show errV (a 1) (a 2) c2 = ve from hve] at HCD
        rw [hve]
        clear hb8 hl8 hrc2 hve
        go_wp2_with fail
        refine HCD.out.mono ?_
        rintro e w9 ⟨rfl, hb9⟩
        have HB9 := Lib.hid (HB8.out.trans (hb9.mono HB8.out.size))
        have HSL := Lib.hid (sameLists_any true w.heap.size w.heap.size T2 T2 v8 v5 w9 (by simp) (HL8.out.below hb9 (Nat.le_refl _)) (HX8.out.below hb9 (Nat.le_refl _)) HT2.out.1 HT2.out.1 HT2.out.2 HT2.out.2)
        unfold Drew at HSL
        clear hb9
        go_wp2_with fail
        refine HSL.out.mono ?_
        rintro e w10 ⟨rfl, z, hz⟩
        have HB10 := Lib.hid (below_draw HB9.out hz)
        clear hz
        go_wp2_with fail
        go_ret
        exact ⟨rfl, HB10.out⟩
end Go.Proofs.YtedehmknijlgpaaDoor
