/-
  The law GroupTables says true.
-/
import Derived.Test.YtedehmknijlgpaaDoorPlnT
import Derived.Test.YtedehmknijlgpaaDoorDocE
import Derived.Test.YtedehmknijlgpaaDoorDocF
import Derived.Test.YtedehmknijlgpaaDoorDocG
set_option linter.unusedSimpArgs false
set_option linter.unusedVariables false
namespace Go.Proofs.YtedehmknijlgpaaDoor
open Go Go.RowKit Go.Maps

theorem len_flat {α : Type} {L : List (List α)} : ∀ l ∈ L, l.length ≤ L.flatten.length := fun l hl => by
  obtain ⟨i, hi, rfl⟩ := List.getElem_of_mem hl
  have h := flat_succ hi
  rw [List.getD_eq_getElem?_getD, List.getElem?_eq_getElem hi] at h
  simp only [Option.getD_some] at h
  omega
theorem below_draw {B : Nat} {w w' w'' : World} {z : Nat} (h : Below B w w') (e : w'' = w'.drewN z) : Below B w w'' := by rw [e]; exact ⟨h.os, h.tape, h.output, h.size, h.block⟩
set_option maxRecDepth 100000 in
set_option maxHeartbeats 64000000 in
theorem tables_any (G : Int) (L words : List (List Int)) (vr vw : Value) (a1 a2 : Addr) (w : World) (hS : Sen w a1 a2) (hv : ListsIn w.heap.size w vr L) (hu : ListsIn w.heap.size w vw words) (hn : L.length ≤ 2000000) (hs : L.flatten.length ≤ 2000000) (hn2 : words.length ≤ 2000000) (hs2 : words.flatten.length ≤ 2000000) :
    Calls Tryd.prog 3 #[.agg #[.int .i64 G, vr], vw] w (Gives (.bool true) w) := by
  obtain ⟨i39, hi39, hz0, hz1, hz2⟩ := info_parts Tryd.info27
  obtain ⟨pv, cv, hve, -⟩ := id hv
  obtain ⟨n, hLn⟩ : ∃ n, L.length = n := ⟨_, rfl⟩
  rw [hLn] at hve hn
  subst hve
  obtain ⟨pw, cw, hwe, -⟩ := id hu
  obtain ⟨nw, hWn⟩ : ∃ nw, words.length = nw := ⟨_, rfl⟩
  rw [hWn] at hwe hn2
  subst hwe
  have hb0 : Below w.heap.size w (w.alloc (.cells #[.int .i64 G, .slice pv n cv] 24)) := (Below.refl _ _).alloc (Nat.le_refl _) _
  obtain ⟨w1, hw1⟩ : ∃ w1, w.alloc (.cells #[.int .i64 G, .slice pv n cv] 24) = w1 := ⟨_, rfl⟩
  have hg1 := heap_alloc_new w (.cells #[.int .i64 G, .slice pv n cv] 24)
  rw [hw1] at hb0 hg1
  have c0 : w1.cell? ⟨w.heap.size, 0, none⟩ = some (.int .i64 G) := by simp [World.cell?, hg1]
  have c1 : w1.cell? ⟨w.heap.size, 1, none⟩ = some (.slice pv n cv) := by simp [World.cell?, hg1]
  have HC0 := Lib.hid c0
  have HC1 := Lib.hid c1
  have HB0 := Lib.hid hb0
  have HW1 := Lib.hid hw1
  have HS := Lib.hid hS
  have HV := Lib.hid hv
  have HU := Lib.hid hu
  have HLN := Lib.hid hLn
  have HWN := Lib.hid hWn
  obtain ⟨m, hm⟩ : ∃ m, L.flatten.length = m := ⟨_, rfl⟩
  have HM := Lib.hid hm
  rw [hm] at hs
  obtain ⟨mw, hmw⟩ : ∃ mw, words.flatten.length = mw := ⟨_, rfl⟩
  have HMW := Lib.hid hmw
  rw [hmw] at hs2
  have HTH := Lib.hid (three_any a1 a2 w1 (hS.below hb0 (Nat.le_refl _)))
  unfold Gives at HTH ⊢
  clear hS hv hu hLn hWn hb0 hw1 hg1 c0 c1 hm hmw
  go_enter Tryd.func3, Tryd.ntmps3
  go_upto_region 1 with fail
  rw [HW1.out]
  go_wp2_with fail
  refine HTH.out.mono ?_
  rintro e w2 ⟨rfl, hb2⟩
  have d0 := (hb2.cell (p := ⟨w.heap.size, 0, none⟩) (mem_lt HC0.out)).trans HC0.out
  have d1 := (hb2.cell (p := ⟨w.heap.size, 1, none⟩) (mem_lt HC1.out)).trans HC1.out
  have HB2 := Lib.hid (HB0.out.trans (hb2.mono HB0.out.size))
  have HD0 := Lib.hid d0
  have HD1 := Lib.hid d1
  have HSM := Lib.hid (small_any w.heap.size G L (.slice pv n cv) w2 (HV.out.below HB2.out (Nat.le_refl _)) (by rw [HLN.out]; exact hn) (by rw [HM.out]; exact hs))
  unfold Gives at HSM
  obtain ⟨sm, hsm⟩ : ∃ sm, smallB G L = sm := ⟨_, rfl⟩
  rw [hsm] at HSM
  have HSB := Lib.hid hsm
  clear hb2 hsm
  go_wp2_with fail
  refine HSM.out.mono ?_
  rintro e w3 ⟨rfl, hb3⟩
  have HB3 := Lib.hid (HB2.out.trans (hb3.mono HB2.out.size))
  have HE0 := Lib.hid ((hb3.cell (p := ⟨w.heap.size, 0, none⟩) (mem_lt HD0.out)).trans HD0.out)
  have HE1 := Lib.hid ((hb3.cell (p := ⟨w.heap.size, 1, none⟩) (mem_lt HD1.out)).trans HD1.out)
  clear hb3 d0 d1 HD0 HD1 HC0 HC1 HTH HSM
  cases sm with
  | false =>
    go_wp2_with fail
    go_ret
    exact ⟨rfl, HB3.out⟩
  | true =>
    have HLW := Lib.hid (lettersR_any w.heap.size words (.slice pw nw cw) w3 (HU.out.below HB3.out (Nat.le_refl _)) (by rw [HWN.out]; exact hn2) (by rw [HMW.out]; exact hs2))
    unfold CatP at HLW
    rw [HMW.out] at HLW
    go_wp2_with fail
    refine HLW.out.mono ?_
    rintro e w4 ⟨p4, c4, rfl, hb4, -⟩
    have e0 := (hb4.cell (p := ⟨w.heap.size, 0, none⟩) (mem_lt HE0.out)).trans HE0.out
    have e1 := (hb4.cell (p := ⟨w.heap.size, 1, none⟩) (mem_lt HE1.out)).trans HE1.out
    have HB4 := Lib.hid (HB3.out.trans (hb4.mono HB3.out.size))
    clear hb4
    by_cases k1 : 60 < mw
    · clear e0 e1
      go_wp2_with fail
      go_ret
      exact ⟨rfl, HB4.out⟩
    by_cases k2 : 60 < nw
    · have k1' : mw ≤ 60 := by omega
      clear e0 e1 k1
      go_wp2_with fail
      go_ret
      exact ⟨rfl, HB4.out⟩
    have k1' : mw ≤ 60 := by omega
    have k2' : nw ≤ 60 := by omega
    clear k1 k2
    have HGE := Lib.hid (groupError_any w.heap.size G L (.slice pv n cv) w4 (HV.out.below HB4.out (Nat.le_refl _)) (by rw [HLN.out]; exact hn) (by rw [HM.out]; exact hs))
    unfold Gives at HGE
    obtain ⟨c, hc⟩ : ∃ c, groupErr G L = c := ⟨_, rfl⟩
    rw [hc] at HGE
    by_cases hc0 : c = 0
    rotate_left
    · have hrp : 0 < refErr c := by unfold refErr; rw [if_neg hc0]; omega
      obtain ⟨rc, hrc⟩ : ∃ rc, refErr c = rc := ⟨_, rfl⟩
      rw [hrc] at HGE hrp
      clear hrc hc hc0
      go_wp2_with fail
      refine HGE.out.mono ?_
      rintro e w5 ⟨rfl, hb5⟩
      have HB5 := Lib.hid (HB4.out.trans (hb5.mono HB4.out.size))
      clear hb5 e0 e1
      go_wp2_with fail
      go_ret
      exact ⟨rfl, HB5.out⟩
    · subst hc0
      have hr0 : refErr 0 = 0 := rfl
      rw [hr0] at HGE
      have HGZ := Lib.hid hc
      have HF0 := Lib.hid e0
      have HF1 := Lib.hid e1
      obtain ⟨hg0, hg12, -, -, hlet⟩ := groupErr_zero hc
      have hsb := HSB.out
      have hsm : G ≤ 5 ∧ m ≤ 60 ∧ n ≤ 20 := by
        have h := of_decide_eq_true hsb
        rw [HM.out, HLN.out, hc] at h
        exact h.elim id (fun h => absurd rfl h.1)
      obtain ⟨g, rfl⟩ : ∃ g : Nat, G = (g : Int) := ⟨G.toNat, by omega⟩
      rw [Int.toNat_natCast] at hlet
      have hg5 : g ≤ 5 := by omega
      obtain ⟨-, hm60, hn20⟩ := hsm
      have HLET := Lib.hid hlet
      clear hr0 hc hsb hlet hg0 hg12
      go_wp2_with fail
      refine HGE.out.mono ?_
      rintro e w5 ⟨rfl, hb5⟩
      have f0 := (hb5.cell (p := ⟨w.heap.size, 0, none⟩) (mem_lt HF0.out)).trans HF0.out
      have f1 := (hb5.cell (p := ⟨w.heap.size, 1, none⟩) (mem_lt HF1.out)).trans HF1.out
      have HB5 := Lib.hid (HB4.out.trans (hb5.mono HB4.out.size))
      have HG0 := Lib.hid f0
      have HG1 := Lib.hid f1
      have HPR := Lib.hid (program_any w.heap.size (g : Int) L (.slice pv n cv) w5 HB5.out.size (HV.out.below HB5.out (Nat.le_refl _)) (by rw [HLN.out]; omega) (fun l hl => by have := len_flat l hl; rw [HM.out] at this; omega))
      unfold ProgP at HPR
      clear hb5 e0 e1 HF0 HF1 HE0 HE1 HGE HLW
      go_wp2_with fail
      refine HPR.out.mono ?_
      rintro e w6 ⟨u6, rfl, hb6, hR6⟩
      have HB6 := Lib.hid (HB5.out.trans (hb6.mono HB5.out.size))
      have HH0 := Lib.hid ((hb6.cell (p := ⟨w.heap.size, 0, none⟩) (mem_lt HG0.out)).trans HG0.out)
      have HH1 := Lib.hid ((hb6.cell (p := ⟨w.heap.size, 1, none⟩) (mem_lt HG1.out)).trans HG1.out)
      have HR6 := Lib.hid hR6.lists
      have HWO := Lib.hid (wordsOf_any w.heap.size words (.slice pw nw cw) w6 HB6.out.size (HU.out.below HB6.out (Nat.le_refl _)) (by rw [HWN.out]; omega) (fun l hl => by have := len_flat l hl; rw [HMW.out] at this; omega))
      unfold ListPost at HWO
      clear hb6 hR6 f0 f1 HG0 HG1
      go_wp2_with fail
      refine HWO.out.mono ?_
      rintro e w7 ⟨v7, rfl, hb7, hR7⟩
      have HB7 := Lib.hid (HB6.out.trans (hb7.mono HB6.out.size))
      have HI0 := Lib.hid ((hb7.cell (p := ⟨w.heap.size, 0, none⟩) (mem_lt HH0.out)).trans HH0.out)
      have HI1 := Lib.hid ((hb7.cell (p := ⟨w.heap.size, 1, none⟩) (mem_lt HH1.out)).trans HH1.out)
      have HCO := Lib.hid (cosets_any w.heap.size (g : Int) L words u6 v7 a1 a2 w7 (HS.out.below HB7.out (Nat.le_refl _)) (HR6.out.below hb7 (Nat.le_refl _)) hR7.lists (by rw [HLN.out]; omega) (by rw [HM.out]; omega) (by rw [HWN.out]; omega) (by rw [HMW.out]; omega))
      unfold CosP at HCO
      clear hb7 hR7 HH0 HH1
      go_wp2_with fail
      refine HCO.out.mono ?_
      rintro e w8 ⟨hb8, v8, rfl, hl8⟩
      have HB8 := Lib.hid (HB7.out.trans (hb8.mono HB7.out.size))
      have HJ0 := Lib.hid ((hb8.cell (p := ⟨w.heap.size, 0, none⟩) (mem_lt HI0.out)).trans HI0.out)
      have HJ1 := Lib.hid ((hb8.cell (p := ⟨w.heap.size, 1, none⟩) (mem_lt HI1.out)).trans HI1.out)
      have HL8 := Lib.hid (hl8 w.heap.size)
      clear hb8 hl8 HI0 HI1 HCO HWO HPR
      have hcase : (cosA (g : Int) L words).1 ≠ 0 ∧ (cosA (g : Int) L words).2 = [] ∨ words.flatten.any (badL g) = false ∧ cosA (g : Int) L words = cosT g L words ∧ (cosT g L words).1 = 0 := by
        rcases cosA_zero (words := words) HGZ.out with h | h | ⟨h1, h⟩
        · rw [h]; exact .inl ⟨by decide, rfl⟩
        · rw [h]; exact .inl ⟨by decide, rfl⟩
        · rcases cosT_cases g L words with h2 | ⟨-, -, h2⟩
          · rw [h, h2]; exact .inl ⟨by decide, rfl⟩
          · exact .inr ⟨h1, h, by rw [h2]⟩
      rcases hcase with ⟨h1, h2⟩ | ⟨hwl, h1, h2⟩
      · obtain ⟨a, ha⟩ := errV_iface a1 a2 h1
        rw [h2] at HL8
        obtain ⟨p8, c8, hv8, -⟩ := id HL8.out
        subst hv8
        rw [ha]
        clear ha h1 h2
        go_wp2_with fail
        go_ret
        exact ⟨rfl, HB8.out⟩
      · obtain ⟨T, hT⟩ : ∃ T, (cosT g L words).2 = T := ⟨_, rfl⟩
        have hTT : cosT g L words = (0, T) := by rw [← hT, ← h2]
        have HTD := Lib.hid (told_ok (by omega) HLET.out hwl hTT)
        rw [h1, hTT] at HL8 ⊢
        rw [show errV a1 a2 ((0, T) : Nat × List (List Int)).1 = Value.nilIface from rfl]
        have HL9 : Hid (ListsIn w.heap.size w8 v8 T) := HL8.out
        have HWLL := Lib.hid hwl
        clear h1 h2 hT hTT HL8 hwl
        obtain ⟨p8, c8, hv8, -⟩ := id HL9.out
        obtain ⟨nT, hnT⟩ : ∃ nT, T.length = nT := ⟨_, rfl⟩
        rw [hnT] at hv8
        subst hv8
        have HNT := Lib.hid hnT
        have hT400 : nT ≤ 400 := by rw [← hnT]; exact HTD.out.few
        clear hnT
        obtain ⟨W, hWg⟩ : ∃ W, 2 * g = W := ⟨_, rfl⟩
        have qW : (2 : Int) * (g : Int) = (W : Int) := by omega
        have hW24 : W ≤ 24 := by omega
        have hW2 : W % 2 = 0 := by omega
        have HWG := Lib.hid hWg
        clear hWg
        go_wp2_with fail
        go_loopw [9, 10] (fun i _ wr => ∃ j z : Nat, j ≤ nT ∧ i = .int .i64 (j : Int) ∧ wr = w8.drewN z) (fun i _ _ => nT - (intOf i).toNat)
        case atStart => exact ⟨0, 0, Nat.zero_le _, rfl, rfl⟩
        case round =>
          obtain ⟨j, z, hj, rfl, hz⟩ := hrel
          have HZ := Lib.hid hz
          have d0 : wr.cell? ⟨w.heap.size, 0, none⟩ = some (.int .i64 (g : Int)) := by rw [hz]; exact HJ0.out
          by_cases hjn : j < nT
          · have hjT : j < T.length := by rw [HNT.out]; exact hjn
            obtain ⟨b, off, c', hve⟩ := HL9.out.form (by omega)
            rw [HNT.out] at hve
            obtain ⟨rfl, rfl⟩ : p8 = some ⟨b, off, none⟩ ∧ c8 = c' := by cases hve; exact ⟨rfl, rfl⟩
            obtain ⟨pj, cj, hcj, hij⟩ := HL9.out.entry hjT
            obtain ⟨hlen, -⟩ := HTD.out.ok j hjT
            rw [HWG.out] at hlen
            rw [hlen] at hcj hij
            have q1 : ((W : Int) != (W : Int)) = false := by simp
            have HIJ := Lib.hid hij
            have HCJ := Lib.hid hcj
            have HJT := Lib.hid hjT
            have k1 : wr.cell? ⟨b, off + j, none⟩ = some (.slice pj W cj) := by rw [hz]; exact hcj
            clear hve hij hlen hjT hz hcj
            go_wp2_with fail
            go_quiet (fail)
            have HZ2 : Hid (wr.drewN nq = w8.drewN (z + nq)) := by unfold Hid; rw [HZ.out, World.drewN_drewN]
            clear d0 k1 q1
            go_wp2_with fail
            go_loopw [10] (fun i wr2 => ∃ k y : Nat, k ≤ W ∧ i = .int .i64 (k : Int) ∧ wr2 = w8.drewN y) (fun i _ => W - (intOf i).toNat)
            case atStart => exact ⟨0, z + nq, Nat.zero_le _, rfl, HZ2.out⟩
            case round =>
              clear HZ2 HZ
              obtain ⟨k, y, hk, rfl, hy⟩ := hrel
              have HY := Lib.hid hy
              have k1 : wr.cell? ⟨b, off + j, none⟩ = some (.slice pj W cj) := by rw [hy]; exact HCJ.out
              by_cases hkW : k < W
              · obtain ⟨b2, o2, e1, e2⟩ := HIJ.out k hkW
                subst e1
                obtain ⟨t, h1, h2, h3⟩ := HTD.out.back j HJT.out k (by rw [HWG.out]; exact hkW)
                rw [h1] at e2
                have hok := TC.opp_lt hW2 hkW
                obtain ⟨pt, ct, hct, hit⟩ := HL9.out.entry h2
                obtain ⟨hlt, -⟩ := HTD.out.ok t h2
                rw [HWG.out] at hlt
                rw [hlt] at hct hit
                obtain ⟨b3, o3, e3, e4⟩ := hit _ hok
                subst e3
                rw [h3] at e4
                have x1 := i64_xor1 k (by omega)
                obtain ⟨ko, hko⟩ : ∃ ko, TC.opp k = ko := ⟨_, rfl⟩
                rw [hko] at e4 hok x1
                rw [HNT.out] at h2
                have k2 : wr.cell? ⟨b2, o2 + k, none⟩ = some (.int .i64 (t : Int)) := by rw [hy]; exact e2
                have k3 : wr.cell? ⟨b, off + t, none⟩ = some (.slice (some ⟨b3, o3, none⟩) W ct) := by rw [hy]; exact hct
                have k4 : wr.cell? ⟨b3, o3 + ko, none⟩ = some (.int .i64 (j : Int)) := by rw [hy]; exact e4
                have q1 : ((W : Int) != (W : Int)) = false := by simp
                have q2 : ((j : Int) != (j : Int)) = false := by simp
                clear h1 h3 hct hit hlt e2 e4 hy hko
                go_wp2_with fail
                go_quiet (fail)
                have HY2 : Hid (wr.drewN nq = w8.drewN (y + nq)) := by unfold Hid; rw [HY.out, World.drewN_drewN]
                clear k1 k2 k3 k4 q1 q2 x1
                go_wp2_with fail
                go_roundw
                case rel => exact ⟨k + 1, y + nq, hkW, by go_num, HY2.out⟩
                case measure => simp [intOf]; omega
              · obtain rfl : k = W := by omega
                clear hy
                go_wp2_with fail
                go_roundw
                case rel => exact ⟨j + 1, y, hjn, by go_num, HY.out⟩
                case measure => simp [intOf]; omega
          · obtain rfl : j = nT := by omega
            have HBR := Lib.hid (below_draw HB8.out hz)
            have HS9 := Lib.hid (HS.out.below HBR.out (Nat.le_refl _))
            have HK0 : Hid (wr.cell? ⟨w.heap.size, 0, none⟩ = some (.int .i64 (g : Int))) := by unfold Hid; rw [hz]; exact HJ0.out
            have HK1 : Hid (wr.cell? ⟨w.heap.size, 1, none⟩ = some (.slice pv n cv)) := by unfold Hid; rw [hz]; exact HJ1.out
            have HTR : Hid (ListsIn w.heap.size wr (.slice p8 j c8) T) := by unfold Hid; rw [hz]; exact HL9.out.drewN z
            have HRX : Hid (∀ l ∈ L, ∀ x ∈ l, x ≠ 0 ∧ -1000000 ≤ x ∧ x ≤ 1000000 ∧ colN x < 2 * g) := fun l hl x hx => colN_lt (by omega) (any_lists HLET.out l hl x hx)
            have HWX : Hid (∀ l ∈ words, ∀ x ∈ l, x ≠ 0 ∧ -1000000 ≤ x ∧ x ≤ 1000000 ∧ colN x < 2 * g) := fun l hl x hx => colN_lt (by omega) (any_lists HWLL.out l hl x hx)
            have HHO := Lib.hid (holds_any w.heap.size (2 * g) (g : Int) L T (.slice pv n cv) (.slice p8 j c8) wr (HV.out.below HBR.out (Nat.le_refl _)) HTR.out HTD.out.ok HRX.out (fun l hl => by have := len_flat l hl; rw [HM.out] at this; omega) (by rw [HLN.out]; omega) (by rw [HNT.out]; omega) HTD.out.rel)
            unfold Gives at HHO
            have k0 := HK0.out
            have k1 := HK1.out
            clear hz d0 HL9 HJ0 HJ1
            go_wp2_with fail
            refine HHO.out.mono ?_
            rintro e w10 ⟨rfl, hb10⟩
            have HB10 := Lib.hid (HBR.out.trans (hb10.mono HBR.out.size))
            have HT10 := Lib.hid (HTR.out.below hb10 (Nat.le_refl _))
            have HM0 := Lib.hid ((hb10.cell (p := ⟨w.heap.size, 0, none⟩) (mem_lt HK0.out)).trans HK0.out)
            have HM1 := Lib.hid ((hb10.cell (p := ⟨w.heap.size, 1, none⟩) (mem_lt HK1.out)).trans HK1.out)
            have HSD := Lib.hid (standard_any w.heap.size T (.slice p8 j c8) w10 HT10.out (by rw [HNT.out]; omega) (fun i hi => by rw [(HTD.out.ok i hi).1]; omega) HTD.out.std)
            unfold GivesK at HSD
            clear hb10 k0 k1 HHO HK0 HK1 HTR HS9
            go_wp2_with fail
            refine HSD.out.mono ?_
            rintro e w11 ⟨rfl, rfl⟩
            go_wp2_with fail
            go_loopw [13] (fun i wr2 => ∃ q y : Nat, q ≤ nw ∧ i = .int .i64 (q : Int) ∧ wr2 = w11.drewN y) (fun i _ => nw - (intOf i).toNat)
            case atStart => exact ⟨0, 0, Nat.zero_le _, rfl, rfl⟩
            case round =>
              clear HSD HZ
              obtain ⟨q, y, hq, rfl, hy⟩ := hrel
              have HY := Lib.hid hy
              by_cases hqn : q < nw
              · have hqL : q < words.length := by rw [HWN.out]; exact hqn
                have HB12 := Lib.hid (below_draw HB10.out hy)
                have hU12 := HU.out.below HB12.out (Nat.le_refl _)
                have hT12 : ListsIn w.heap.size wr (.slice p8 j c8) T := by rw [hy]; exact HT10.out.drewN y
                obtain ⟨b, off, c', hve⟩ := hU12.form (by omega)
                rw [HWN.out] at hve
                obtain ⟨rfl, rfl⟩ : pw = some ⟨b, off, none⟩ ∧ cw = c' := by cases hve; exact ⟨rfl, rfl⟩
                obtain ⟨pj, cj, hcj, hij⟩ := cells_at hU12 q hqL
                have HLD := Lib.hid (leads_any w.heap.size (2 * g) 0 T (words.getD q []) (.slice p8 j c8) (.slice pj (words.getD q []).length cj) wr hT12 HTD.out.ok HTD.out.pos (HWX.out _ (getL_mem hqL)) hij.at (by have := len_flat _ (getL_mem hqL); rw [HMW.out] at this; omega) (by rw [HNT.out]; omega))
                rw [HTD.out.word _ (getL_mem hqL)] at HLD
                unfold Drew at HLD
                obtain ⟨lj, hlj⟩ : ∃ lj, (words.getD q []).length = lj := ⟨_, rfl⟩
                rw [hlj] at hcj HLD
                clear hve hij hU12 hT12 hqL hlj hy
                go_wp2_with fail
                refine HLD.out.mono ?_
                rintro e w13 ⟨rfl, z13, hz13⟩
                have HY2 : Hid (w13 = w11.drewN (y + z13)) := by unfold Hid; rw [hz13, HY.out, World.drewN_drewN]
                clear hz13 hcj
                go_wp2_with fail
                go_roundw
                case rel => exact ⟨q + 1, y + z13, hqn, by go_num, HY2.out⟩
                case measure => simp [intOf]; omega
              · obtain rfl : q = nw := by omega
                have HB12 := Lib.hid (below_draw HB10.out hy)
                have HN0 : Hid (wr.cell? ⟨w.heap.size, 0, none⟩ = some (.int .i64 (g : Int))) := by unfold Hid; rw [hy]; exact HM0.out
                have HN1 : Hid (wr.cell? ⟨w.heap.size, 1, none⟩ = some (.slice pv n cv)) := by unfold Hid; rw [hy]; exact HM1.out
                obtain ⟨w14, rfl⟩ : ∃ w14, w14 = wr := ⟨_, rfl⟩
                clear hy HY HM0 HM1 HT10
                go_wp2_with fail
                go_loopw [14, 15] (fun s i wr2 => ∃ k : Nat, k ≤ g ∧ i = .int .i64 ((k : Int) + 1) ∧ Below w14.heap.size w14 wr2 ∧ RowsO w14.heap.size w.heap.size wr2 s (gensL k)) (fun _ i _ => g + 1 - (intOf i).toNat)
                case atStart => exact ⟨0, Nat.zero_le _, rfl, Below.refl _ _, RowsO.nil _ _ _⟩
                case round =>
                  obtain ⟨k, hk, rfl, hb, hro⟩ := hrel
                  have HBK := Lib.hid hb
                  have HRO := Lib.hid hro
                  have hws : w14.heap.size ≤ wr.heap.size := hb.size
                  have k0 := (hb.cell (p := ⟨w.heap.size, 0, none⟩) (mem_lt HN0.out)).trans HN0.out
                  by_cases hkg : k < g
                  · have q1 : (k : Int) + 1 ≤ (g : Int) := by omega
                    have hIL := ints_lit w.heap.size wr [(k : Int) + 1]
                    have hb1 : Below wr.heap.size wr (wr.alloc (.cells #[.int .i64 ((k : Int) + 1)] 3)) := (Below.refl _ _).alloc (Nat.le_refl _) _
                    obtain ⟨hs, h1, h2, h3⟩ := hro.below hb1 (Nat.le_refl _)
                    rw [gensL_len] at h1
                    have HIL : Hid (IntsIn w.heap.size (wr.alloc (.cells #[.int .i64 ((k : Int) + 1)] 3)) (.slice (some ⟨wr.heap.size, 0, none⟩) 1 1) [(k : Int) + 1]) := hIL
                    have H1 := Lib.hid h1
                    have H2 := Lib.hid h2
                    have H3 := Lib.hid h3
                    have HB1 := Lib.hid hb1
                    clear hb hro hIL hb1 h1 h2 h3
                    go_wp2_with (at_builtin; refine wpList_append_lies _ rfl (.tmp 166) (.tmp 169) 22 rfl w14.heap.size 27 i39 (.slice none 0 0) 1 24 Tryd.underlying22 hi39 hz0 hz1 hz2 rfl (by decide) _ k hs rfl (H1.out.alloc _) ⟨wr.heap.size + 1, 0, none⟩ 1 1 [.slice (some ⟨wr.heap.size, 0, none⟩) 1 1] rfl rfl (World.news_of_block (cs := #[.slice (some ⟨wr.heap.size, 0, none⟩) 1 1]) (t := 27) (fr := (0, 0)) (by have h := heap_alloc_new (wr.alloc (.cells #[.int .i64 ((k : Int) + 1)] 3)) (.cells #[.slice (some ⟨wr.heap.size, 0, none⟩) 1 1] 27); rw [lit_size] at h; exact h)) (by simp [Value.oneCell']) (by decide) (by unfold maxLen; omega) (by omega) (by simp; omega) (wr.heap.size + 1 + 1) (by simp) ?_; intro g2 c2 w9 hown2 hgr2 hat2 hlt2; have HO2 := Lib.hid hown2; have HG2 := Lib.hid hgr2; clear hown2 hgr2 hat2 hlt2)
                    go_roundw
                    case rel =>
                      have hbA : Below (wr.heap.size + 1) (wr.alloc (.cells #[.int .i64 ((k : Int) + 1)] 3)) ((wr.alloc (.cells #[.int .i64 ((k : Int) + 1)] 3)).alloc (.cells #[.slice (some ⟨wr.heap.size, 0, none⟩) 1 1] 27)) := (Below.refl _ _).alloc (by simp) _
                      refine ⟨k + 1, hkg, by first | rfl | go_num | (congr 1; omega), (((HBK.out.trans (HB1.out.mono hws)).alloc (by simp; omega) _).grown HG2.out (by simp; omega) (fun i hi => (H1.out.lt i hi).1)), ?_⟩
                      rw [gensL_snoc]
                      exact rowsO_push (hs := hs) HB12.out.size (by rw [gensL_len]; exact H1.out.alloc _) H2.out (fun i hi => (H3.out i hi).below hbA (by simp)) (HIL.out.below hbA (by simp)) (by rw [gensL_len]; exact HO2.out) HG2.out
                    case measure => simp [intOf]; omega
                  · obtain rfl : k = g := by omega
                    have HB15 := Lib.hid (HB12.out.trans (hb.mono HB12.out.size))
                    have HRL := Lib.hid hro.lists
                    have k1 := (hb.cell (p := ⟨w.heap.size, 1, none⟩) (mem_lt HN1.out)).trans HN1.out
                    have HPR := Lib.hid (program_any w.heap.size (k : Int) L (.slice pv n cv) wr HB15.out.size (HV.out.below HB15.out (Nat.le_refl _)) (by rw [HLN.out]; omega) (fun l hl => by have := len_flat l hl; rw [HM.out] at this; omega))
                    unfold ProgP at HPR
                    clear hb hro HN0 HN1
                    go_wp2_with fail
                    refine HPR.out.mono ?_
                    rintro e w16 ⟨u16, rfl, hb16, hR16⟩
                    have HB16 := Lib.hid (HB15.out.trans (hb16.mono HB15.out.size))
                    have HCO := Lib.hid (cosets_any w.heap.size (k : Int) L (gensL k) u16 _ a1 a2 w16 (HS.out.below HB16.out (Nat.le_refl _)) hR16.lists (HRL.out.below hb16 (Nat.le_refl _)) (by rw [HLN.out]; omega) (by rw [HM.out]; omega) (by rw [gensL_len]; omega) (by rw [gensL_flat]; omega))
                    unfold CosP at HCO
                    have HONE : Hid (∀ T, cosT k L (gensL k) = (0, T) → T.length = 1) := fun T h => told_one (by omega) HLET.out h
                    clear hb16 hR16 HPR k0 k1
                    go_wp2_with fail
                    refine HCO.out.mono ?_
                    rintro e w17 ⟨hb17, v17, rfl, hl17⟩
                    have HB17 := Lib.hid (HB16.out.trans (hb17.mono HB16.out.size))
                    have HL17 := Lib.hid (hl17 w.heap.size)
                    clear hb17 hl17 HCO
                    have hcase : (cosA (k : Int) L (gensL k)).1 ≠ 0 ∨ ∃ T, cosA (k : Int) L (gensL k) = (0, T) ∧ T.length = 1 := by
                      rcases cosA_zero (words := gensL k) HGZ.out with h | h | ⟨h1, h⟩
                      · rw [h]; exact .inl (by decide)
                      · rw [h]; exact .inl (by decide)
                      · rcases cosT_cases k L (gensL k) with h2 | ⟨-, -, h2⟩
                        · rw [h, h2]; exact .inl (by decide)
                        · exact .inr ⟨_, h.trans h2, HONE.out _ h2⟩
                    rcases hcase with h1 | ⟨T2, h1, h2⟩
                    · obtain ⟨a, ha⟩ := errV_iface a1 a2 h1
                      rw [ha]
                      clear ha h1
                      go_wp2_with fail
                      go_ret
                      exact ⟨rfl, HB17.out⟩
                    · rw [h1] at HL17 ⊢
                      rw [show errV a1 a2 ((0, T2) : Nat × List (List Int)).1 = Value.nilIface from rfl]
                      obtain ⟨p17, c17, hv17, -⟩ := id HL17.out
                      rw [show ((0, T2) : Nat × List (List Int)).2.length = 1 from h2] at hv17
                      subst hv17
                      clear h1 h2 HL17
                      go_wp2_with fail
                      go_ret
                      exact ⟨rfl, HB17.out⟩
end Go.Proofs.YtedehmknijlgpaaDoor
