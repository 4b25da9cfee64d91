import Derived.Test.YtddnjimpdidpaaaGreatDoorSlEq
set_option linter.unusedSimpArgs false
set_option linter.unusedVariables false
namespace Go.Proofs.YtddnjimpdidpaaaGreatDoor
open Go Go.RowKit Go.Maps

set_option maxRecDepth 100000 in
set_option maxHeartbeats 8000000 in
theorem equalFunc_any (r : Bool) (B B' : Nat) (L M : List (List Int)) (u v : Value) (w : World) (hr : r = decide (L = M)) (hu : ListsIn B w u L) (hv : ListsIn B' w v M) (hn : L.length ≤ 100000) (hm : M.length ≤ 100000) (hl : ∀ l ∈ L, l.length ≤ 100000) (hl2 : ∀ l ∈ M, l.length ≤ 100000) :
    Calls Tryz.prog 114 #[u, v, .func (.func 70) #[] #[]] w (Drew (.bool r) w) := by
  obtain ⟨pu, cu, hue, -⟩ := id hu
  obtain ⟨pv, cv, hve, -⟩ := id hv
  obtain ⟨n, hLn⟩ : ∃ n, L.length = n := ⟨_, rfl⟩
  obtain ⟨m, hMm⟩ : ∃ m, M.length = m := ⟨_, rfl⟩
  rw [hLn] at hue hn
  rw [hMm] at hve hm
  subst hue
  subst hve
  have HR := Lib.hid hr
  have HN := Lib.hid hLn
  have HM := Lib.hid hMm
  have HU := Lib.hid hu
  have HV := Lib.hid hv
  have HL := Lib.hid hl
  have HL2 := Lib.hid hl2
  clear hr hLn hMm hu hv hl hl2
  by_cases hnm : n = m
  · subst hnm
    go_enter Tryz.func114, Tryz.ntmps114
    go_wp2_with fail
    go_loopw [17] (fun i wr => ∃ k z : Nat, k ≤ n ∧ i = .int .i64 k ∧ L.take k = M.take k ∧ wr = w.drewN z) (fun i _ => n - (intOf i).toNat)
    case atStart => exact ⟨0, 0, Nat.zero_le _, rfl, rfl, rfl⟩
    case round =>
      obtain ⟨k, z, hk, rfl, htk, hz⟩ := hrel
      have HT := Lib.hid htk
      have HZ := Lib.hid hz
      have HBW : Hid (Below w.heap.size w wr) := by unfold Hid; rw [hz]; exact Below.drewN w z
      clear htk hz
      by_cases hkn : k < n
      · have hkL : k < L.length := by rw [HN.out]; exact hkn
        have hkM : k < M.length := by rw [HM.out]; exact hkn
        obtain ⟨b1, o1, c1, e1⟩ := HU.out.form (by omega)
        obtain ⟨b2, o2, c2, e2⟩ := HV.out.form (by omega)
        obtain ⟨rfl, rfl⟩ : pu = some ⟨b1, o1, none⟩ ∧ cu = c1 := by cases e1; exact ⟨rfl, rfl⟩
        obtain ⟨rfl, rfl⟩ : pv = some ⟨b2, o2, none⟩ ∧ cv = c2 := by cases e2; exact ⟨rfl, rfl⟩
        obtain ⟨p1, d1, hc1, hi1⟩ := cells_at (HU.out.below HBW.out (Nat.le_refl _)) k hkL
        obtain ⟨p2, d2, hc2, hi2⟩ := cells_at (HV.out.below HBW.out (Nat.le_refl _)) k hkM
        have HS := Lib.hid (fun d : Nat => slEqual_any _ _ (L.getD k []) (M.getD k []) (wr.drewN d) (hi1.below (Below.drewN wr d) (Nat.le_refl _)).at (hi2.below (Below.drewN wr d) (Nat.le_refl _)).at (Nat.le_trans (HL.out _ (getL_mem hkL)) (by decide)) (Nat.le_trans (HL2.out _ (getL_mem hkM)) (by decide)))
        by_cases he : L.getD k [] = M.getD k []
        · have HNX : Hid (L.take (k + 1) = M.take (k + 1)) := by
            unfold Hid
            rw [take_snoc_getD [] L k hkL, take_snoc_getD [] M k hkM, HT.out, he]
          rw [decide_eq_true he] at HS
          generalize (L.getD k []).length = x1 at hc1 HS
          generalize (M.getD k []).length = x2 at hc2 HS
          clear he hkL hkM hi1 hi2 e1 e2
          go_wp2_with fail
          refine (show Calls _ _ _ wr _ from HS.out 0).mono ?_
          rintro e w5 ⟨rfl, nq, rfl⟩
          go_wp2_with fail
          go_roundw
          case rel => exact ⟨k + 1, z + nq, by omega, by go_num, HNX.out, by rw [HZ.out, World.drewN_drewN]⟩
          case measure => simp [intOf]; omega
        · have HNE : Hid (r = false) := HR.out.trans (decide_eq_false fun e => he (by rw [e]))
          rw [decide_eq_false he] at HS
          generalize (L.getD k []).length = x1 at hc1 HS
          generalize (M.getD k []).length = x2 at hc2 HS
          clear he hkL hkM hi1 hi2 e1 e2
          go_wp2_with fail
          refine (show Calls _ _ _ wr _ from HS.out 0).mono ?_
          rintro e w5 ⟨rfl, nq, rfl⟩
          go_wp2_with fail
          go_ret
          exact ⟨ret_bool HNE.out.symm, z + nq, by rw [HZ.out, World.drewN_drewN]⟩
      · obtain rfl : k = n := by omega
        have HEQ : Hid (r = true) := HR.out.trans (decide_eq_true (by
          have h := HT.out
          rwa [List.take_of_length_le (by rw [HN.out]; exact Nat.le_refl _), List.take_of_length_le (by rw [HM.out]; exact Nat.le_refl _)] at h))
        go_wp2_with fail
        go_ret
        exact ⟨ret_bool HEQ.out.symm, z, HZ.out⟩
  · have HNE : Hid (r = false) := HR.out.trans (decide_eq_false fun e => hnm (by rw [← HN.out, ← HM.out, e]))
    have q : ((n : Int) != (m : Int)) = true := by rw [bne_iff_ne]; omega
    have q' : (n != m) = true := by rw [bne_iff_ne]; exact hnm
    clear hnm
    go_enter Tryz.func114, Tryz.ntmps114
    go_wp2_with fail
    go_ret
    exact ⟨ret_bool HNE.out.symm, 0, rfl⟩
end Go.Proofs.YtddnjimpdidpaaaGreatDoor
