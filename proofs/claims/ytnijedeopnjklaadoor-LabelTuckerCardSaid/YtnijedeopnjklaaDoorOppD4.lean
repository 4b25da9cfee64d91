/-
  Opposite at some n, a label wrong (written by a program of mine).
-/
import Derived.Test.YtnijedeopnjklaaDoorOppC
namespace Go.Proofs.YtnijedeopnjklaaDoor
open Go Go.RowKit

theorem rimP_4 (k : Nat) (hk : k < 81) : (isRim 4 (k % 9) (k / 9) = true ∧ ((k : Int) % 9 == 0) = true) ∨ (isRim 4 (k % 9) (k / 9) = true ∧ ((k : Int) % 9 == 0) = false ∧ ((k : Int) % 9 == 8) = true) ∨
    (isRim 4 (k % 9) (k / 9) = true ∧ ((k : Int) % 9 == 0) = false ∧ ((k : Int) % 9 == 8) = false ∧ ((k : Int) / 9 == 0) = true) ∨
    (isRim 4 (k % 9) (k / 9) = true ∧ ((k : Int) % 9 == 0) = false ∧ ((k : Int) % 9 == 8) = false ∧ ((k : Int) / 9 == 0) = false ∧ ((k : Int) / 9 == 8) = true) ∨
    (isRim 4 (k % 9) (k / 9) = false ∧ ((k : Int) % 9 == 0) = false ∧ ((k : Int) % 9 == 8) = false ∧ ((k : Int) / 9 == 0) = false ∧ ((k : Int) / 9 == 8) = false) := by
  simp only [isRim, Bool.or_eq_true, beq_iff_eq, beq_eq_false_iff_ne, Bool.or_eq_false_iff, ne_eq]
  omega

set_option maxRecDepth 100000 in
set_option maxHeartbeats 8000000 in
theorem opp_bad_4 (a : Nat → Addr) (xs : List Int) (b off cap k0 : Nat) (w : World) (hS : Sents w a) (hk0 : k0 < 81)
    (hc : ∀ i, i < 81 → w.cell? ⟨b, off + i, none⟩ = some (.int .i64 (xs.getD i 0)))
    (hf : fineK 4 xs k0) (hbad : badAt 4 xs (k0 % 9) (k0 / 9) = true) :
    Calls Tryd.prog 12 #[.int .i64 4, .slice (some ⟨b, off, none⟩) 81 cap] w (BadPost a k0 w) := by
  have hbb : Below w.heap.size w (w.alloc (.cells #[.slice (some ⟨b, off, none⟩) 81 cap] 22)) := (Below.refl _ _).alloc (Nat.le_refl _) _
  have hc1 : ∀ i, i < 81 → (w.alloc (.cells #[.slice (some ⟨b, off, none⟩) 81 cap] 22)).cell? ⟨b, off + i, none⟩ = some (.int .i64 (xs.getD i 0)) := fun i hi => by
    rw [hbb.cell (mem_lt (hc i hi))]; exact hc i hi
  have hg : (w.alloc (.cells #[.slice (some ⟨b, off, none⟩) 81 cap] 22)).cell? ⟨gnum 7, 0, none⟩ = some (.iface 153 (.pointer (some (a 7)))) := (hS.below hbb (Nat.le_refl _)).g 7 (by decide)
  simp only [gnum] at hg
  have HC := Lib.hid hc1
  have HF := Lib.hid hf
  have HBAD := Lib.hid hbad
  clear hc hc1 hf hbad
  go_enter Tryd.func12, Tryd.ntmps12
  go_wp2
  go_loop [34] (fun i => ∃ k : Nat, k ≤ k0 ∧ i = .int .i64 k) (fun i => 81 - (intOf i).toNat)
  case atStart => exact ⟨0, Nat.zero_le _, rfl⟩
  case round =>
    obtain ⟨k, hk, rfl⟩ := hrel
    have hks : k < 81 := by omega
    have c1 := HC.out k hks
    have c2 := HC.out (80 - k) (by omega)
    obtain ⟨v, hv⟩ : ∃ v, xs.getD k 0 = v := ⟨_, rfl⟩
    obtain ⟨u, hu⟩ : ∃ u, xs.getD (80 - k) 0 = u := ⟨_, rfl⟩
    rw [hu] at c2
    rw [hv] at c1
    have HAT : Hid (badAt 4 xs (k % 9) (k / 9) = (isNone v || isRim 4 (k % 9) (k / 9) && !(u == -v))) := by
      unfold Hid badAt
      simp only [show k / 9 * (2 * 4 + 1) + k % 9 = k from by omega, show (2 * 4 - k / 9) * (2 * 4 + 1) + (2 * 4 - k % 9) = 80 - k from by omega, hv, hu]
    clear hv hu
    by_cases hlt : k < k0
    · have HB : Hid (badAt 4 xs (k % 9) (k / 9) = false) := HF.out k hlt
      go_upto_region 9 with fail
      go_cut [9] (fun s9 wx => s9 = .bool (isRim 4 (k % 9) (k / 9)) ∧ wx = w.alloc (.cells #[.slice (some ⟨b, off, none⟩) 81 cap] 22))
      case first =>
        rcases rimP_4 k hks with ⟨e, e1⟩ | ⟨e, e1, e2⟩ | ⟨e, e1, e2, e3⟩ | ⟨e, e1, e2, e3, e4⟩ | ⟨e, e1, e2, e3, e4⟩
        all_goals
          have E := Lib.hid e
          clear e
          go_wp2_with fail
          go_meet
          exact ⟨by rw [E.out], rfl⟩
      case rest =>
        obtain ⟨rfl, hwc⟩ := hcut
        subst hwc
        go_upto_region 10 with fail
        rcases none3 v with ⟨e, -⟩ | ⟨e, hvv⟩
        · exfalso
          have h1 := HAT.out
          rw [HB.out, e] at h1
          simp at h1
        · by_cases hrim : isRim 4 (k % 9) (k / 9) = true
          · have huv : u = -v := by
              have h1 := HAT.out
              rw [HB.out, e, hrim] at h1
              simpa using h1.symm
            subst huv
            rw [hrim]
            clear e hrim
            rcases hvv with rfl | rfl | rfl | rfl
            all_goals
              go_wp2_with fail
              go_round
              case rel => exact ⟨k + 1, by omega, by go_num⟩
              case measure => simp [intOf]; omega
          · have hrim' : isRim 4 (k % 9) (k / 9) = false := by simpa using hrim
            rw [hrim']
            clear e hrim hrim'
            rcases hvv with rfl | rfl | rfl | rfl
            all_goals
              go_wp2_with fail
              go_round
              case rel => exact ⟨k + 1, by omega, by go_num⟩
              case measure => simp [intOf]; omega
    · obtain rfl : k = k0 := by omega
      have HB : Hid (badAt 4 xs (k % 9) (k / 9) = true) := HBAD.out
      go_upto_region 9 with fail
      go_cut [9] (fun s9 wx => s9 = .bool (isRim 4 (k % 9) (k / 9)) ∧ wx = w.alloc (.cells #[.slice (some ⟨b, off, none⟩) 81 cap] 22))
      case first =>
        rcases rimP_4 k hks with ⟨e, e1⟩ | ⟨e, e1, e2⟩ | ⟨e, e1, e2, e3⟩ | ⟨e, e1, e2, e3, e4⟩ | ⟨e, e1, e2, e3, e4⟩
        all_goals
          have E := Lib.hid e
          clear e
          go_wp2_with fail
          go_meet
          exact ⟨by rw [E.out], rfl⟩
      case rest =>
        obtain ⟨rfl, hwc⟩ := hcut
        subst hwc
        go_upto_region 10 with fail
        rcases none3 v with ⟨e, hv3⟩ | ⟨e, hvv⟩
        · rcases hv3 with rfl | h3 | h3
          all_goals
            clear e
            go_wp2_with fail
            go_region
            all_goals
              go_wp2
              go_ret2
              exact ⟨_, rfl, by go_grown, Or.inr (Or.inr ⟨7, _, _, by decide, rfl, by decide, by simp, by simp⟩)⟩
        · obtain ⟨hrim, huv⟩ : isRim 4 (k % 9) (k / 9) = true ∧ u ≠ -v := by
            have h1 := HAT.out
            rw [HB.out, e] at h1
            simpa using h1.symm
          have hq : (u != -v) = true := by rw [bne_iff_ne]; exact huv
          rw [hrim]
          clear e hrim huv
          rcases hvv with rfl | rfl | rfl | rfl
          all_goals
            try simp only [Int.neg_neg] at hq
            go_wp2_with fail
            go_region
            all_goals
              go_wp2
              go_ret2
              exact ⟨_, rfl, by go_grown, Or.inr (Or.inr ⟨7, _, _, by decide, rfl, by decide, by simp, by simp⟩)⟩
end Go.Proofs.YtnijedeopnjklaaDoor
