/-
  slices.IsSorted; slices.ContainsFunc over sets with has's closure; cells.has, cells.Has by contracts.
-/
import Derived.Test.YtipblphfjejpbaaGreatDoorHasA
set_option linter.unusedSimpArgs false
set_option linter.unusedVariables false
namespace Go.Proofs.YtipblphfjejpbaaGreatDoor
open Go Go.RowKit Go.Maps

theorem pairwise_adj : ∀ {l : List Int}, (∀ k, k + 1 < l.length → l.getD k 0 ≤ l.getD (k + 1) 0) → l.Pairwise (· ≤ ·)
  | [], _ => List.Pairwise.nil
  | [x], _ => List.pairwise_singleton _ _
  | x :: y :: r, h => by
    have ih : (y :: r).Pairwise (· ≤ ·) := pairwise_adj fun k hk => by
      have := h (k + 1) (by simp at hk ⊢; omega)
      simpa using this
    refine List.pairwise_cons.2 ⟨fun z hz => ?_, ih⟩
    have h0 : x ≤ y := by simpa using h 0 (by simp)
    rcases List.mem_cons.1 hz with rfl | hz
    · exact h0
    · exact Int.le_trans h0 ((List.pairwise_cons.1 ih).1 z hz)
theorem adj_pairwise {l : List Int} (h : l.Pairwise (· ≤ ·)) (k : Nat) (hk : k + 1 < l.length) : l.getD k 0 ≤ l.getD (k + 1) 0 := by
  rw [List.getD_eq_getElem?_getD, List.getElem?_eq_getElem (by omega), List.getD_eq_getElem?_getD, List.getElem?_eq_getElem hk]
  exact List.pairwise_iff_getElem.1 h k (k + 1) (by omega) hk (by omega)
def riseB (l : List Int) : Bool := decide (l.Pairwise (· ≤ ·))

set_option maxRecDepth 100000 in
set_option maxHeartbeats 8000000 in
theorem isSorted_any (xs : List Int) (v : Value) (w : World) (hv : IntsAt w v xs) (hn : xs.length ≤ 1000000) :
    Calls Tryz.prog 106 #[v] w (Drew (.bool (riseB xs)) w) := by
  obtain ⟨pv, cv, hve, -⟩ := id hv
  obtain ⟨n, hLn⟩ : ∃ n, xs.length = n := ⟨_, rfl⟩
  rw [hLn] at hve hn
  subst hve
  have HLN := Lib.hid hLn
  have HV := Lib.hid hv
  have HLess := Lib.hid Tryz.cmp_Less_int2
  clear hLn hv
  go_enter Tryz.func106, Tryz.ntmps106
  go_wp2_with fail
  go_loopw [3] (fun i wr => ∃ j q : Nat, j ≤ n ∧ i = .int .i64 ((j : Int) - 1) ∧ wr = w.drewN q ∧ ∀ k, j ≤ k + 1 → k + 1 < n → xs.getD k 0 ≤ xs.getD (k + 1) 0) (fun i _ => (intOf i).toNat)
  case atStart => exact ⟨n, 0, Nat.le_refl _, rfl, rfl, fun k h1 h2 => absurd h2 (by omega)⟩
  case round =>
    obtain ⟨j, q, hj, rfl, hwq, hok⟩ := hrel
    have HOK := Lib.hid hok
    have HWQ := Lib.hid hwq
    have hva : IntsAt wr (.slice pv n cv) xs := by rw [hwq]; exact HV.out
    clear hok hwq
    by_cases hj1 : 1 < j
    · obtain ⟨k, rfl⟩ : ∃ k, j = k + 2 := ⟨j - 2, by omega⟩
      have hk2 : k + 1 < xs.length := by rw [HLN.out]; omega
      obtain ⟨p', c', hv', -, -, hx⟩ := id hva
      obtain ⟨b, off, e1, e2⟩ := hx (k + 1) hk2
      obtain ⟨b', off', e3, e4⟩ := hx k (by omega)
      cases hv'
      subst e1
      cases e3
      have hs1 : ((k + 2 : Nat) : Int) - 1 = ((k + 1 : Nat) : Int) := by omega
      have hs2 : ((k + 1 : Nat) : Int) - 1 = (k : Int) := by omega
      obtain ⟨x, hxx⟩ : ∃ x, xs.getD (k + 1) 0 = x := ⟨_, rfl⟩
      obtain ⟨y, hyy⟩ : ∃ y, xs.getD k 0 = y := ⟨_, rfl⟩
      rw [hxx] at e2
      rw [hyy] at e4
      have HX := Lib.hid hxx
      have HY := Lib.hid hyy
      rw [hs1]
      obtain ⟨k1, hk1⟩ : ∃ k1, k1 = k + 1 := ⟨_, rfl⟩
      rw [← hk1] at e2 ⊢
      rw [← hk1] at hs2
      have hkp : 0 < k1 := by omega
      have HK1 := Lib.hid hk1
      clear hx hxx hyy hva hs1 hk1
      by_cases hlt : x < y
      · have HL1 : Hid (∀ w, Calls Tryz.prog 128 #[.int .i64 x, .int .i64 y] w fun e w' => e = .returned (.bool true) ∧ w' = w) := fun w => by have h := HLess.out x y w; rwa [decide_eq_true hlt] at h
        have HNO : Hid (riseB xs = false) := by
          unfold Hid riseB
          refine decide_eq_false fun h => ?_
          have := adj_pairwise h k hk2
          rw [HX.out, HY.out] at this
          omega
        clear hlt
        go_wp2_with fail
        go_quiet ((go_at_call 128; exact Calls.quiet_of_same (HL1.out _)))
        go_wp2_with fail
        go_ret
        exact ⟨by rw [HNO.out]; rfl, by rw [HWQ.out]; exact ⟨_, World.drewN_drewN _ _ _⟩⟩
      · have HL1 : Hid (∀ w, Calls Tryz.prog 128 #[.int .i64 x, .int .i64 y] w fun e w' => e = .returned (.bool false) ∧ w' = w) := fun w => by have h := HLess.out x y w; rwa [decide_eq_false hlt] at h
        have HLE : Hid (xs.getD k 0 ≤ xs.getD (k + 1) 0) := by unfold Hid; rw [HX.out, HY.out]; omega
        clear hlt
        go_wp2_with fail
        go_quiet ((go_at_call 128; exact Calls.quiet_of_same (HL1.out _)))
        go_wp2_with fail
        go_roundw
        case rel =>
          refine ⟨k + 1, _, by omega, by go_num, by rw [HWQ.out]; exact World.drewN_drewN _ _ _, fun i h1 h2 => ?_⟩
          rcases (show k + 2 ≤ i + 1 ∨ i = k by omega) with h | rfl
          · exact HOK.out i h h2
          · exact HLE.out
        case measure => simp [intOf]; omega
    · have HYES : Hid (riseB xs = true) := decide_eq_true (pairwise_adj fun k hk => HOK.out k (by omega) (by rw [← HLN.out]; exact hk))
      have q1 : decide (0 < (j : Int) - 1) = false := decide_eq_false (by omega)
      have q2 : (j : Int) - 1 ≤ 0 := by omega
      go_wp2_with fail
      go_ret
      exact ⟨by rw [HYES.out]; rfl, q, HWQ.out⟩
end Go.Proofs.YtipblphfjejpbaaGreatDoor
