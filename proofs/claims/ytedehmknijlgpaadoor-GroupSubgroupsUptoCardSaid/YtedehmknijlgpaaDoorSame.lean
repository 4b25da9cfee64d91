/-
  'SameInts', 'SameLists' by contracts.
-/
import Derived.Test.YtedehmknijlgpaaDoorGrp
import Derived.RegionTactic
import Derived.Deep.QuietTactic
import Derived.BigQuiet
set_option linter.unusedSimpArgs false
set_option linter.unusedVariables false
namespace Go.Proofs.YtedehmknijlgpaaDoor
open Go Go.RowKit Go.Maps

theorem sameInts_len (n m : Nat) (pa pb : Option Addr) (ca cb : Nat) (w : World) (h : n ≠ m) :
    Calls Tryd.prog 37 #[.slice pa n ca, .slice pb m cb] w fun e w' => e = .returned (.bool false) ∧ w = w' := by
  have h' : ((n : Int) != (m : Int)) = true := by rw [bne_iff_ne]; omega
  go_enter Tryd.func37, Tryd.ntmps37
  go_wp2
  go_ret
  exact ⟨rfl, rfl⟩

theorem sameInts_zero (pa pb : Option Addr) (ca cb : Nat) (w : World) :
    Calls Tryd.prog 37 #[.slice pa 0 ca, .slice pb 0 cb] w fun e w' => e = .returned (.bool true) ∧ w = w' := by
  go_enter Tryd.func37, Tryd.ntmps37
  go_wp2
  refine wp_loop_rounds 1 ?_
  rw [rounds_succ]
  go_wp2
  go_ret
  exact ⟨rfl, rfl⟩

set_option maxHeartbeats 4000000 in
theorem sameInts_pos (n : Nat) (xs ys : List Int) (b1 o1 b2 o2 : Nat) (ca cb : Nat) (w : World) (hx : xs.length = n) (hy : ys.length = n) (hn : n ≤ 1000000000000)
    (ha : ∀ i, i < n → w.cell? ⟨b1, o1 + i, none⟩ = some (.int .i64 (xs.getD i 0)))
    (hb : ∀ i, i < n → w.cell? ⟨b2, o2 + i, none⟩ = some (.int .i64 (ys.getD i 0))) :
    Calls Tryd.prog 37 #[.slice (some ⟨b1, o1, none⟩) n ca, .slice (some ⟨b2, o2, none⟩) n cb] w fun e w' => e = .returned (.bool (decide (xs = ys))) ∧ ∃ n, w' = w.drewN n := by
  have Hx : Hid (xs.length = n) := hx
  have Hy : Hid (ys.length = n) := hy
  have Ha : Hid (∀ i, i < n → w.cell? ⟨b1, o1 + i, none⟩ = some (.int .i64 (xs.getD i 0))) := ha
  have Hb : Hid (∀ i, i < n → w.cell? ⟨b2, o2 + i, none⟩ = some (.int .i64 (ys.getD i 0))) := hb
  clear hx hy ha hb
  go_enter Tryd.func37, Tryd.ntmps37
  go_wp2
  go_loopw [5] (fun i wr => ∃ k q : Nat, k ≤ n ∧ i = .int .i64 k ∧ xs.take k = ys.take k ∧ wr = w.drewN q) (fun i _ => n - (intOf i).toNat)
  case atStart => exact ⟨0, 0, Nat.zero_le _, rfl, rfl, rfl⟩
  case round =>
    obtain ⟨k, q, hk, rfl, htk, rfl⟩ := hrel
    have Ht : Hid (xs.take k = ys.take k) := htk
    clear htk
    by_cases hlt : k < n
    · have c1 := Ha.out k hlt
      have c2 := Hb.out k hlt
      have hk0 : (k : Int) < (n : Int) := by omega
      by_cases he : xs.getD k 0 = ys.getD k 0
      · have Hnext : Hid (xs.take (k + 1) = ys.take (k + 1)) := by
          unfold Hid
          rw [take_snoc_getD 0 _ _ (by rw [Hx.out]; exact hlt), take_snoc_getD 0 _ _ (by rw [Hy.out]; exact hlt), Ht.out, he]
        rw [he] at c1
        generalize ys.getD k 0 = z at c1 c2
        clear he
        go_wp2
        go_quiet (fail)
        go_wp2
        go_roundw
        case rel => exact ⟨k + 1, _, by omega, by go_num, Hnext.out, rfl⟩
        case measure => simp [intOf]; omega
      · have Hne : Hid (¬ xs = ys) := fun e => he (by rw [e])
        have hbe : (xs.getD k 0 != ys.getD k 0) = true := by rw [bne_iff_ne]; exact he
        generalize xs.getD k 0 = z1 at c1 hbe
        generalize ys.getD k 0 = z2 at c2 hbe
        clear he
        go_wp2
        go_quiet (fail)
        go_wp2
        go_ret
        exact ⟨by simpa using Hne.out, _, World.drewN_drewN _ _ _⟩
    · obtain rfl : k = n := by omega
      have Heq : Hid (xs = ys) := by
        have h := Ht.out
        rw [List.take_of_length_le (by rw [Hx.out]; exact Nat.le_refl _), List.take_of_length_le (by rw [Hy.out]; exact Nat.le_refl _)] at h
        exact h
      go_wp2
      go_ret
      exact ⟨by simpa using Heq.out, _, rfl⟩

/-- of any two slices that read as lists -/
theorem sameInts_any (u v : Value) (xs ys : List Int) (w : World) (hu : IntsAt w u xs) (hv : IntsAt w v ys) (hx : xs.length ≤ 1000000000000) (hy : ys.length ≤ 1000000000000) :
    Calls Tryd.prog 37 #[u, v] w fun e w' => e = .returned (.bool (decide (xs = ys))) ∧ ∃ n, w' = w.drewN n := by
  by_cases hl : xs.length = ys.length
  · rcases hu.cases with ⟨rfl, p, c, rfl⟩ | ⟨h0, b1, o1, c1, rfl, hc1, ha⟩
    · rcases hv.cases with ⟨rfl, p', c', rfl⟩ | ⟨h0', _⟩
      · exact (sameInts_zero p p' c c' w).mono fun e w' h => ⟨h.1, 0, h.2.symm⟩
      · simp only [List.length_nil] at hl; omega
    · rcases hv.cases with ⟨rfl, p', c', rfl⟩ | ⟨h0', b2, o2, c2, rfl, hc2, hb⟩
      · simp only [List.length_nil] at hl; omega
      · have := sameInts_pos xs.length xs ys b1 o1 b2 o2 c1 c2 w rfl hl.symm hx ha (by rw [hl]; exact hb)
        rw [hl] at this ⊢
        exact this
  · obtain ⟨p, c, rfl, _⟩ := hu
    obtain ⟨p', c', rfl, _⟩ := hv
    have hne : ¬ xs = ys := fun e => hl (by rw [e])
    exact (sameInts_len xs.length ys.length p p' c c' w hl).mono fun e w' h => ⟨by rw [decide_eq_false hne]; exact h.1, 0, h.2.symm⟩


set_option maxRecDepth 100000 in
set_option maxHeartbeats 8000000 in
theorem sameLists_any (r : Bool) (B B' : Nat) (L M : List (List Int)) (u v : Value) (w : World) (hr : r = decide (L = M)) (hu : ListsIn B w u L) (hv : ListsIn B' w v M) (hn : L.length ≤ 100000) (hm : M.length ≤ 100000) (hl : ∀ l ∈ L, l.length ≤ 100000) (hl2 : ∀ l ∈ M, l.length ≤ 100000) :
    Calls Tryd.prog 18 #[u, v] w (Drew (.bool r) w) := by
  obtain ⟨pu, cu, hue, -⟩ := id hu
  obtain ⟨pv, cv, hve, -⟩ := id hv
  obtain ⟨n, hLn⟩ : ∃ n, L.length = n := ⟨_, rfl⟩
  obtain ⟨m, hMm⟩ : ∃ m, M.length = m := ⟨_, rfl⟩
  rw [hLn] at hue hn
  rw [hMm] at hve hm
  subst hue
  subst hve
  have HR := Lib.hid hr
  have HN := Lib.hid hLn
  have HM := Lib.hid hMm
  have HU := Lib.hid hu
  have HV := Lib.hid hv
  have HL := Lib.hid hl
  have HL2 := Lib.hid hl2
  clear hr hLn hMm hu hv hl hl2
  by_cases hnm : n = m
  · subst hnm
    go_enter Tryd.func18, Tryd.ntmps18
    go_wp2_with fail
    go_loopw [5] (fun i wr => ∃ k z : Nat, k ≤ n ∧ i = .int .i64 k ∧ L.take k = M.take k ∧ wr = w.drewN z) (fun i _ => n - (intOf i).toNat)
    case atStart => exact ⟨0, 0, Nat.zero_le _, rfl, rfl, rfl⟩
    case round =>
      obtain ⟨k, z, hk, rfl, htk, hz⟩ := hrel
      have HT := Lib.hid htk
      have HZ := Lib.hid hz
      have HBW : Hid (Below w.heap.size w wr) := by unfold Hid; rw [hz]; exact Below.drewN w z
      clear htk hz
      by_cases hkn : k < n
      · have hkL : k < L.length := by rw [HN.out]; exact hkn
        have hkM : k < M.length := by rw [HM.out]; exact hkn
        obtain ⟨b1, o1, c1, e1⟩ := HU.out.form (by omega)
        obtain ⟨b2, o2, c2, e2⟩ := HV.out.form (by omega)
        obtain ⟨rfl, rfl⟩ : pu = some ⟨b1, o1, none⟩ ∧ cu = c1 := by cases e1; exact ⟨rfl, rfl⟩
        obtain ⟨rfl, rfl⟩ : pv = some ⟨b2, o2, none⟩ ∧ cv = c2 := by cases e2; exact ⟨rfl, rfl⟩
        obtain ⟨p1, d1, hc1, hi1⟩ := cells_at (HU.out.below HBW.out (Nat.le_refl _)) k hkL
        obtain ⟨p2, d2, hc2, hi2⟩ := cells_at (HV.out.below HBW.out (Nat.le_refl _)) k hkM
        have HS := Lib.hid (fun d : Nat => sameInts_any _ _ (L.getD k []) (M.getD k []) (wr.drewN d) (hi1.below (Below.drewN wr d) (Nat.le_refl _)).at (hi2.below (Below.drewN wr d) (Nat.le_refl _)).at (Nat.le_trans (HL.out _ (getL_mem hkL)) (by decide)) (Nat.le_trans (HL2.out _ (getL_mem hkM)) (by decide)))
        by_cases he : L.getD k [] = M.getD k []
        · have HNX : Hid (L.take (k + 1) = M.take (k + 1)) := by
            unfold Hid
            rw [take_snoc_getD [] L k hkL, take_snoc_getD [] M k hkM, HT.out, he]
          rw [decide_eq_true he] at HS
          generalize (L.getD k []).length = x1 at hc1 HS
          generalize (M.getD k []).length = x2 at hc2 HS
          clear he hkL hkM hi1 hi2 e1 e2
          go_wp2_with fail
          go_quiet ((go_at_call 37; exact Calls.quiet_of (HS.out _)))
          go_wp2_with fail
          go_roundw
          case rel => exact ⟨k + 1, z + nq, by omega, by go_num, HNX.out, by rw [HZ.out, World.drewN_drewN]⟩
          case measure => simp [intOf]; omega
        · have HNE : Hid (r = false) := HR.out.trans (decide_eq_false fun e => he (by rw [e]))
          rw [decide_eq_false he] at HS
          generalize (L.getD k []).length = x1 at hc1 HS
          generalize (M.getD k []).length = x2 at hc2 HS
          clear he hkL hkM hi1 hi2 e1 e2
          go_wp2_with fail
          go_quiet ((go_at_call 37; exact Calls.quiet_of (HS.out _)))
          go_wp2_with fail
          go_ret
          exact ⟨ret_bool HNE.out.symm, z + nq, by rw [HZ.out, World.drewN_drewN]⟩
      · obtain rfl : k = n := by omega
        have HEQ : Hid (r = true) := HR.out.trans (decide_eq_true (by
          have h := HT.out
          rwa [List.take_of_length_le (by rw [HN.out]; exact Nat.le_refl _), List.take_of_length_le (by rw [HM.out]; exact Nat.le_refl _)] at h))
        go_wp2_with fail
        go_ret
        exact ⟨ret_bool HEQ.out.symm, z, HZ.out⟩
  · have HNE : Hid (r = false) := HR.out.trans (decide_eq_false fun e => hnm (by rw [← HN.out, ← HM.out, e]))
    have q : ((n : Int) != (m : Int)) = true := by rw [bne_iff_ne]; omega
    have q' : (n != m) = true := by rw [bne_iff_ne]; exact hnm
    clear hnm
    go_enter Tryd.func18, Tryd.ntmps18
    go_wp2_with fail
    go_ret
    exact ⟨ret_bool HNE.out.symm, 0, rfl⟩
end Go.Proofs.YtedehmknijlgpaaDoor
