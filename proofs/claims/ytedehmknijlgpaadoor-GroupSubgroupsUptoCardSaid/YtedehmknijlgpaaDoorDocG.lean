/-
  The law's small by a contract. (Printed by gen_small.py.)
-/
import Derived.Test.YtedehmknijlgpaaDoorDocA
set_option linter.unusedSimpArgs false
set_option linter.unusedVariables false
namespace Go.Proofs.YtedehmknijlgpaaDoor
open Go Go.RowKit Go.Maps

/-- a group of which something is said -/
def smallB (G : Int) (L : List (List Int)) : Bool := decide ((G ≤ 5 ∧ L.flatten.length ≤ 60 ∧ L.length ≤ 20) ∨ (groupErr G L ≠ 0 ∧ L.flatten.length ≤ 1000 ∧ L.length ≤ 1000))
set_option maxRecDepth 100000 in
set_option maxHeartbeats 16000000 in
theorem small_any (B : Nat) (G : Int) (L : List (List Int)) (v : Value) (w : World) (hv : ListsIn B w v L) (hn : L.length ≤ 2000000) (hs : L.flatten.length ≤ 2000000) :
    Calls Tryd.prog 7 #[.agg #[.int .i64 G, v]] w (Gives (.bool (smallB G L)) w) := by
  obtain ⟨pv, cv, hve, -⟩ := id hv
  obtain ⟨n, hLn⟩ : ∃ n, L.length = n := ⟨_, rfl⟩
  rw [hLn] at hve hn
  subst hve
  have hb0 : Below w.heap.size w (w.alloc (.cells #[.int .i64 G, .slice pv n cv] 24)) := (Below.refl _ _).alloc (Nat.le_refl _) _
  obtain ⟨w1, hw1⟩ : ∃ w1, w.alloc (.cells #[.int .i64 G, .slice pv n cv] 24) = w1 := ⟨_, rfl⟩
  have hg1 := heap_alloc_new w (.cells #[.int .i64 G, .slice pv n cv] 24)
  rw [hw1] at hb0 hg1
  have HG1 := Lib.hid hg1
  have HB0 := Lib.hid hb0
  have HW1 := Lib.hid hw1
  have HV := Lib.hid (hv.below hb0 (Nat.le_refl _))
  have HB1 := Lib.hid (Below.refl w1.heap.size w1)
  have HCR := Lib.hid (lettersR_any B L (.slice pv n cv) w1 HV.out (by rw [hLn]; exact hn) hs)
  unfold CatP at HCR
  obtain ⟨m, hm⟩ : ∃ m, L.flatten.length = m := ⟨_, rfl⟩
  rw [hm] at HCR hs
  obtain ⟨c, hc⟩ : ∃ c, groupErr G L = c := ⟨_, rfl⟩
  have HYES : Hid ((G ≤ 5 ∧ m ≤ 60 ∧ n ≤ 20) ∨ (c ≠ 0 ∧ m ≤ 1000 ∧ n ≤ 1000) → smallB G L = true) := fun h => by unfold smallB; rw [hm, hLn, hc]; exact decide_eq_true h
  have HNO : Hid (¬ (G ≤ 5 ∧ m ≤ 60 ∧ n ≤ 20) → ¬ (c ≠ 0 ∧ m ≤ 1000 ∧ n ≤ 1000) → smallB G L = false) := fun h1 h2 => by unfold smallB; rw [hm, hLn, hc]; exact decide_eq_false (fun h => h.elim h1 h2)
  have HM := Lib.hid hm
  have HLN := Lib.hid hLn
  have HC := Lib.hid hc
  unfold Gives
  clear hv hb0 hg1 hw1 hm hLn hc
  have c0 : w1.cell? ⟨w.heap.size, 0, none⟩ = some (.int .i64 G) := by simp [World.cell?, HG1.out]
  have c1 : w1.cell? ⟨w.heap.size, 1, none⟩ = some (.slice pv n cv) := by simp [World.cell?, HG1.out]
  go_enter Tryd.func7, Tryd.ntmps7
  go_upto_region 1 with fail
  rw [HW1.out]
  by_cases k1 : G ≤ 5
  · go_wp2_with fail
    refine HCR.out.mono ?_
    rintro e w2 ⟨p, cc, rfl, hb2, -⟩
    have d0 := (hb2.cell (p := ⟨w.heap.size, 0, none⟩) (mem_lt c0)).trans c0
    have d1 := (hb2.cell (p := ⟨w.heap.size, 1, none⟩) (mem_lt c1)).trans c1
    have HB2 := Lib.hid (HB0.out.trans (hb2.mono HB0.out.size))
    have HBW := Lib.hid hb2
    clear hb2 c0 c1
    by_cases k2 : m ≤ 60
    · by_cases k3 : n ≤ 20
      · have HE : Hid (smallB G L = true) := HYES.out (.inl ⟨k1, k2, k3⟩)
        go_wp2_with fail
        go_ret
        rw [HE.out]
        exact ⟨rfl, HB2.out⟩
      · have qk3 : 20 < n := by omega
        clear k3
        have HGE := Lib.hid (groupError_any B G L (.slice pv n cv) w2 (HV.out.below HBW.out (Nat.le_refl _)) (by rw [HLN.out]; omega) (by rw [HM.out]; omega))
        rw [HC.out] at HGE
        unfold Gives at HGE
        by_cases hc : c = 0
        · subst hc
          have hr0 : refErr 0 = 0 := rfl
          rw [hr0] at HGE
          have HE : Hid (smallB G L = false) := HNO.out (by omega) (fun h => h.1 rfl)
          clear hr0
          go_wp2_with fail
          refine HGE.out.mono ?_
          rintro e w8 ⟨rfl, hb8⟩
          have HB8 := Lib.hid (HB2.out.trans (hb8.mono HB2.out.size))
          clear hb8
          go_wp2_with fail
          go_ret
          rw [HE.out]
          exact ⟨by first | rfl | (simp; done) | (simp; omega), HB8.out⟩
        · have hrp : 0 < refErr c := by unfold refErr; rw [if_neg hc]; omega
          have HCC := Lib.hid hc
          obtain ⟨rc, hrc⟩ : ∃ rc, refErr c = rc := ⟨_, rfl⟩
          rw [hrc] at HGE hrp
          clear hrc hc
          go_wp2_with fail
          refine HGE.out.mono ?_
          rintro e w8 ⟨rfl, hb8⟩
          have f0 := (hb8.cell (p := ⟨w.heap.size, 0, none⟩) (mem_lt d0)).trans d0
          have f1 := (hb8.cell (p := ⟨w.heap.size, 1, none⟩) (mem_lt d1)).trans d1
          have HB8 := Lib.hid (HB2.out.trans (hb8.mono HB2.out.size))
          have HW8 := Lib.hid (HBW.out.trans (hb8.mono HBW.out.size))
          have HC8 := Lib.hid (lettersR_any B L (.slice pv n cv) w8 (HV.out.below HW8.out (Nat.le_refl _)) (by rw [HLN.out]; omega) (by rw [HM.out]; omega))
          unfold CatP at HC8
          rw [HM.out] at HC8
          clear hb8 d0 d1
          go_wp2_with fail
          refine HC8.out.mono ?_
          rintro e w9 ⟨p9, c9, rfl, hb9, -⟩
          have h0 := (hb9.cell (p := ⟨w.heap.size, 0, none⟩) (mem_lt f0)).trans f0
          have h1 := (hb9.cell (p := ⟨w.heap.size, 1, none⟩) (mem_lt f1)).trans f1
          have HB9 := Lib.hid (HB8.out.trans (hb9.mono HB8.out.size))
          clear hb9 f0 f1
          by_cases j1 : m ≤ 1000
          · by_cases j2 : n ≤ 1000
            · have HE : Hid (smallB G L = true) := HYES.out (.inr ⟨HCC.out, j1, j2⟩)
              go_wp2_with fail
              go_ret
              rw [HE.out]
              exact ⟨by first | rfl | (simp; done) | (simp; omega), HB9.out⟩
            · have HE : Hid (smallB G L = false) := HNO.out (by omega) (fun h => j2 h.2.2)
              have qj2 : 1000 < n := by omega
              clear j2
              go_wp2_with fail
              go_ret
              rw [HE.out]
              exact ⟨by first | rfl | (simp; done) | (simp; omega), HB9.out⟩
          · have HE : Hid (smallB G L = false) := HNO.out (by omega) (fun h => j1 h.2.1)
            have qj1 : 1000 < m := by omega
            clear j1
            go_wp2_with fail
            all_goals
              go_ret
              rw [HE.out]
              exact ⟨by first | rfl | (simp; done) | (simp; omega), HB9.out⟩
    · have qk2 : 60 < m := by omega
      clear k2
      have HGE := Lib.hid (groupError_any B G L (.slice pv n cv) w2 (HV.out.below HBW.out (Nat.le_refl _)) (by rw [HLN.out]; omega) (by rw [HM.out]; omega))
      rw [HC.out] at HGE
      unfold Gives at HGE
      by_cases hc : c = 0
      · subst hc
        have hr0 : refErr 0 = 0 := rfl
        rw [hr0] at HGE
        have HE : Hid (smallB G L = false) := HNO.out (by omega) (fun h => h.1 rfl)
        clear hr0
        go_wp2_with fail
        refine HGE.out.mono ?_
        rintro e w8 ⟨rfl, hb8⟩
        have HB8 := Lib.hid (HB2.out.trans (hb8.mono HB2.out.size))
        clear hb8
        go_wp2_with fail
        go_ret
        rw [HE.out]
        exact ⟨by first | rfl | (simp; done) | (simp; omega), HB8.out⟩
      · have hrp : 0 < refErr c := by unfold refErr; rw [if_neg hc]; omega
        have HCC := Lib.hid hc
        obtain ⟨rc, hrc⟩ : ∃ rc, refErr c = rc := ⟨_, rfl⟩
        rw [hrc] at HGE hrp
        clear hrc hc
        go_wp2_with fail
        refine HGE.out.mono ?_
        rintro e w8 ⟨rfl, hb8⟩
        have f0 := (hb8.cell (p := ⟨w.heap.size, 0, none⟩) (mem_lt d0)).trans d0
        have f1 := (hb8.cell (p := ⟨w.heap.size, 1, none⟩) (mem_lt d1)).trans d1
        have HB8 := Lib.hid (HB2.out.trans (hb8.mono HB2.out.size))
        have HW8 := Lib.hid (HBW.out.trans (hb8.mono HBW.out.size))
        have HC8 := Lib.hid (lettersR_any B L (.slice pv n cv) w8 (HV.out.below HW8.out (Nat.le_refl _)) (by rw [HLN.out]; omega) (by rw [HM.out]; omega))
        unfold CatP at HC8
        rw [HM.out] at HC8
        clear hb8 d0 d1
        go_wp2_with fail
        refine HC8.out.mono ?_
        rintro e w9 ⟨p9, c9, rfl, hb9, -⟩
        have h0 := (hb9.cell (p := ⟨w.heap.size, 0, none⟩) (mem_lt f0)).trans f0
        have h1 := (hb9.cell (p := ⟨w.heap.size, 1, none⟩) (mem_lt f1)).trans f1
        have HB9 := Lib.hid (HB8.out.trans (hb9.mono HB8.out.size))
        clear hb9 f0 f1
        by_cases j1 : m ≤ 1000
        · by_cases j2 : n ≤ 1000
          · have HE : Hid (smallB G L = true) := HYES.out (.inr ⟨HCC.out, j1, j2⟩)
            go_wp2_with fail
            go_ret
            rw [HE.out]
            exact ⟨by first | rfl | (simp; done) | (simp; omega), HB9.out⟩
          · have HE : Hid (smallB G L = false) := HNO.out (by omega) (fun h => j2 h.2.2)
            have qj2 : 1000 < n := by omega
            clear j2
            go_wp2_with fail
            go_ret
            rw [HE.out]
            exact ⟨by first | rfl | (simp; done) | (simp; omega), HB9.out⟩
        · have HE : Hid (smallB G L = false) := HNO.out (by omega) (fun h => j1 h.2.1)
          have qj1 : 1000 < m := by omega
          clear j1
          go_wp2_with fail
          all_goals
            go_ret
            rw [HE.out]
            exact ⟨by first | rfl | (simp; done) | (simp; omega), HB9.out⟩
  · have qk1 : 5 < G := by omega
    clear k1
    have HGE := Lib.hid (groupError_any B G L (.slice pv n cv) w1 (HV.out.below HB1.out (Nat.le_refl _)) (by rw [HLN.out]; omega) (by rw [HM.out]; omega))
    rw [HC.out] at HGE
    unfold Gives at HGE
    by_cases hc : c = 0
    · subst hc
      have hr0 : refErr 0 = 0 := rfl
      rw [hr0] at HGE
      have HE : Hid (smallB G L = false) := HNO.out (by omega) (fun h => h.1 rfl)
      clear hr0
      go_wp2_with fail
      refine HGE.out.mono ?_
      rintro e w8 ⟨rfl, hb8⟩
      have HB8 := Lib.hid (HB0.out.trans (hb8.mono HB0.out.size))
      clear hb8
      go_wp2_with fail
      go_ret
      rw [HE.out]
      exact ⟨by first | rfl | (simp; done) | (simp; omega), HB8.out⟩
    · have hrp : 0 < refErr c := by unfold refErr; rw [if_neg hc]; omega
      have HCC := Lib.hid hc
      obtain ⟨rc, hrc⟩ : ∃ rc, refErr c = rc := ⟨_, rfl⟩
      rw [hrc] at HGE hrp
      clear hrc hc
      go_wp2_with fail
      refine HGE.out.mono ?_
      rintro e w8 ⟨rfl, hb8⟩
      have f0 := (hb8.cell (p := ⟨w.heap.size, 0, none⟩) (mem_lt c0)).trans c0
      have f1 := (hb8.cell (p := ⟨w.heap.size, 1, none⟩) (mem_lt c1)).trans c1
      have HB8 := Lib.hid (HB0.out.trans (hb8.mono HB0.out.size))
      have HW8 := Lib.hid (HB1.out.trans (hb8.mono HB1.out.size))
      have HC8 := Lib.hid (lettersR_any B L (.slice pv n cv) w8 (HV.out.below HW8.out (Nat.le_refl _)) (by rw [HLN.out]; omega) (by rw [HM.out]; omega))
      unfold CatP at HC8
      rw [HM.out] at HC8
      clear hb8 c0 c1
      go_wp2_with fail
      refine HC8.out.mono ?_
      rintro e w9 ⟨p9, c9, rfl, hb9, -⟩
      have h0 := (hb9.cell (p := ⟨w.heap.size, 0, none⟩) (mem_lt f0)).trans f0
      have h1 := (hb9.cell (p := ⟨w.heap.size, 1, none⟩) (mem_lt f1)).trans f1
      have HB9 := Lib.hid (HB8.out.trans (hb9.mono HB8.out.size))
      clear hb9 f0 f1
      by_cases j1 : m ≤ 1000
      · by_cases j2 : n ≤ 1000
        · have HE : Hid (smallB G L = true) := HYES.out (.inr ⟨HCC.out, j1, j2⟩)
          go_wp2_with fail
          go_ret
          rw [HE.out]
          exact ⟨by first | rfl | (simp; done) | (simp; omega), HB9.out⟩
        · have HE : Hid (smallB G L = false) := HNO.out (by omega) (fun h => j2 h.2.2)
          have qj2 : 1000 < n := by omega
          clear j2
          go_wp2_with fail
          go_ret
          rw [HE.out]
          exact ⟨by first | rfl | (simp; done) | (simp; omega), HB9.out⟩
      · have HE : Hid (smallB G L = false) := HNO.out (by omega) (fun h => j1 h.2.1)
        have qj1 : 1000 < m := by omega
        clear j1
        go_wp2_with fail
        all_goals
          go_ret
          rw [HE.out]
          exact ⟨by first | rfl | (simp; done) | (simp; omega), HB9.out⟩
end Go.Proofs.YtedehmknijlgpaaDoor
