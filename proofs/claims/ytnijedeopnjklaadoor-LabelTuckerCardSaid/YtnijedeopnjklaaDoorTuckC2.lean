/-
  SquareFault at some n (written by a program of mine).
-/
import Derived.Test.YtnijedeopnjklaaDoorTuckC
namespace Go.Proofs.YtnijedeopnjklaaDoor
open Go Go.RowKit

theorem rim_cases_4 (c r : Nat) : (isRim 4 c r = true ∧ ((c : Int) - 4 == 4) = true) ∨ (isRim 4 c r = true ∧ ((c : Int) - 4 == 4) = false ∧ ((r : Int) - 4 == 4) = true) ∨
    (isRim 4 c r = true ∧ ((c : Int) - 4 == 4) = false ∧ ((r : Int) - 4 == 4) = false ∧ ((c : Int) - 4 == -4) = true) ∨
    (isRim 4 c r = true ∧ ((c : Int) - 4 == 4) = false ∧ ((r : Int) - 4 == 4) = false ∧ ((c : Int) - 4 == -4) = false ∧ ((r : Int) - 4 == -4) = true) ∨
    (isRim 4 c r = false ∧ ((c : Int) - 4 == 4) = false ∧ ((r : Int) - 4 == 4) = false ∧ ((c : Int) - 4 == -4) = false ∧ ((r : Int) - 4 == -4) = false) := by
  simp only [isRim, Bool.or_eq_true, beq_iff_eq, beq_eq_false_iff_ne, Bool.or_eq_false_iff, ne_eq]
  omega
set_option maxRecDepth 100000 in
set_option maxHeartbeats 4000000 in
theorem sf_4 (xs : List Int) (b off cap : Nat) (w : World)
    (hwf : ∀ i, -9223372036854775808 ≤ xs.getD i 0 ∧ xs.getD i 0 ≤ 9223372036854775807)
    (hc : ∀ i, i < 81 → w.cell? ⟨b, off + i, none⟩ = some (.int .i64 (xs.getD i 0))) :
    Calls Tryd.prog 13 #[.int .i64 4, .slice (some ⟨b, off, none⟩) 81 cap] w (SFPost 4 xs w) := by
  have hc1 : ∀ i, i < 81 → (w.alloc (.cells #[.int .i64 0, .int .i64 0] 43)).cell? ⟨b, off + i, none⟩ = some (.int .i64 (xs.getD i 0)) := fun i hi => by
    rw [World.cell?_alloc_lt _ _ _ (mem_lt (hc i hi))]; exact hc i hi
  have HC := Lib.hid hc1
  have HW := Lib.hid hwf
  clear hc hc1 hwf
  go_enter Tryd.func13, Tryd.ntmps13
  go_wp2
  go_loop [6, 7] (fun i y => ∃ r : Nat, r ≤ 9 ∧ i = .int .i64 ((r : Int) * 9) ∧ y = .int .i64 ((r : Int) - 4) ∧ fineTo 4 xs 0 r) (fun _ y => (5 - intOf y).toNat)
  case atStart => exact ⟨0, by omega, by go_num, by go_num, fun r' c' _ _ h => absurd h (by omega)⟩
  case round =>
    obtain ⟨r, hr, rfl, rfl, hf⟩ := hrel
    have HF := Lib.hid hf
    clear hf
    by_cases hlt : r < 9
    · go_wp2
      go_loop [6, 8] (fun i x => ∃ c : Nat, c ≤ 9 ∧ i = .int .i64 ((r : Int) * 9 + c) ∧ x = .int .i64 ((c : Int) - 4) ∧ fineTo 4 xs c r) (fun _ x => (5 - intOf x).toNat)
      case atStart => exact ⟨0, by omega, by go_num, by go_num, HF.out⟩
      case round =>
        obtain ⟨c, hcc, rfl, rfl, hf⟩ := hrel
        have HG := Lib.hid hf
        clear hf
        by_cases hlc : c < 9
        · have c1 := HC.out (r * 9 + c) (by omega)
          have c2 : (w.alloc (.cells #[.int .i64 0, .int .i64 0] 43)).cell? ⟨b, off + ((4 - ((r : Int) - 4)) * 9 + 4 - ((c : Int) - 4)).toNat, none⟩ = some (.int .i64 (xs.getD ((8 - r) * 9 + (8 - c)) 0)) := by
            have ei : ((4 - ((r : Int) - 4)) * 9 + 4 - ((c : Int) - 4)).toNat = (8 - r) * 9 + (8 - c) := by omega
            rw [ei]; exact HC.out _ (by omega)
          obtain ⟨v, hv⟩ : ∃ v, xs.getD (r * 9 + c) 0 = v := ⟨_, rfl⟩
          obtain ⟨u, hu⟩ : ∃ u, xs.getD ((8 - r) * 9 + (8 - c)) 0 = u := ⟨_, rfl⟩
          obtain ⟨hu1, hu2⟩ := HW.out ((8 - r) * 9 + (8 - c))
          rw [hu] at hu1 hu2 c2
          rw [hv] at c1
          have HV := Lib.hid hv
          have HU := Lib.hid hu
          clear hv hu
          go_upto_region 14 with fail
          go_cut [10] (fun s10 wx => s10 = .bool (isNone v) ∧ wx = w.alloc (.cells #[.int .i64 0, .int .i64 0] 43))
          case first =>
            rcases isNone_cases v with ⟨e, e1, e2, e3, e4⟩ | ⟨e, rfl | rfl | rfl | rfl⟩
            · have E := Lib.hid e
              clear e
              go_wp2_with fail
              go_meet
              exact ⟨by rw [E.out], rfl⟩
            all_goals (clear e; go_wp2_with fail; go_meet; exact ⟨rfl, rfl⟩)
          case rest =>
            obtain ⟨rfl, hwc⟩ := hcut
            subst hwc
            go_upto_region 15 with fail
            go_cut [11] (fun s11 wx => s11 = .bool (isRim 4 c r) ∧ wx = w.alloc (.cells #[.int .i64 0, .int .i64 0] 43))
            case first =>
              rcases rim_cases_4 c r with ⟨e, e1⟩ | ⟨e, e1, e2⟩ | ⟨e, e1, e2, e3⟩ | ⟨e, e1, e2, e3, e4⟩ | ⟨e, e1, e2, e3, e4⟩
              all_goals
                have E := Lib.hid e
                clear e
                go_wp2_with fail
                go_meet
                exact ⟨by rw [E.out], rfl⟩
            case rest =>
              obtain ⟨rfl, hwc⟩ := hcut
              subst hwc
              rcases isNone_cases v with ⟨e, -⟩ | ⟨e, hvv⟩
              · have HB : Hid (badAt 4 xs c r = true) := by
                  unfold Hid badAt
                  simp only [show r * (2 * 4 + 1) + c = r * 9 + c from by omega, HV.out, e, Bool.true_or]
                go_wp2_with fail
                exact bodyPost_ret (v := .agg #[.int .i64 8, .int .i64 ((r : Int) * 9 + c)]) (by simp [results, Tryd.results13, go_sem]) rfl ⟨8, _, rfl, (Below.refl _ _).alloc (Nat.le_refl _) _, Or.inr ⟨rfl, c, r, by omega, by omega, by omega, HG.out, HB.out⟩⟩
              · by_cases hrim : isRim 4 c r = true
                · by_cases huv : u = -v
                  · have HB : Hid (badAt 4 xs c r = false) := by
                      unfold Hid badAt
                      simp only [show r * (2 * 4 + 1) + c = r * 9 + c from by omega, show (2 * 4 - r) * (2 * 4 + 1) + (2 * 4 - c) = (8 - r) * 9 + (8 - c) from by omega, HV.out, HU.out, e, huv, beq_self_eq_true, Bool.not_true, Bool.and_false, Bool.or_false]
                    subst huv
                    rw [e, hrim]
                    clear e hrim
                    rcases hvv with rfl | rfl | rfl | rfl
                    all_goals
                      go_wp2_with fail
                      go_round
                      case rel => exact ⟨c + 1, by omega, by go_num, by go_num, fineTo_step HG.out HB.out (by omega)⟩
                      case measure => simp [intOf]; omega
                  · have HB : Hid (badAt 4 xs c r = true) := by
                      unfold Hid badAt
                      simp only [show r * (2 * 4 + 1) + c = r * 9 + c from by omega, show (2 * 4 - r) * (2 * 4 + 1) + (2 * 4 - c) = (8 - r) * 9 + (8 - c) from by omega, HV.out, HU.out, e, hrim, beq_eq_false_iff_ne.2 huv, Bool.not_false, Bool.and_true, Bool.or_true]
                    rw [e, hrim]
                    clear e hrim
                    have hw : (IntKind.i64.wrap (u + v) != 0) = true := by
                      rw [bne_iff_ne, IntKind.wrap_i64]
                      rcases hvv with rfl | rfl | rfl | rfl <;> omega
                    have hw' : (wrap64 (u + v) != 0) = true := by
                      rw [bne_iff_ne]; unfold wrap64
                      rcases hvv with rfl | rfl | rfl | rfl <;> omega
                    rcases hvv with rfl | rfl | rfl | rfl
                    all_goals
                      clear huv
                      go_wp2_with fail
                      exact bodyPost_ret (v := .agg #[.int .i64 8, .int .i64 ((r : Int) * 9 + c)]) (by simp [results, Tryd.results13, go_sem]) rfl ⟨8, _, rfl, (Below.refl _ _).alloc (Nat.le_refl _) _, Or.inr ⟨rfl, c, r, by omega, by omega, by omega, HG.out, HB.out⟩⟩
                · have hrim' : isRim 4 c r = false := by simpa using hrim
                  have HB : Hid (badAt 4 xs c r = false) := by
                    unfold Hid badAt
                    simp only [show r * (2 * 4 + 1) + c = r * 9 + c from by omega, HV.out, e, hrim', Bool.false_and, Bool.or_false]
                  rw [e, hrim']
                  clear e hrim hrim'
                  rcases hvv with rfl | rfl | rfl | rfl
                  all_goals
                    go_wp2_with fail
                    go_round
                    case rel => exact ⟨c + 1, by omega, by go_num, by go_num, fineTo_step HG.out HB.out (by omega)⟩
                    case measure => simp [intOf]; omega
        · obtain rfl : c = 9 := by omega
          have HG' : Hid (fineTo 4 xs 0 (r + 1)) := fineTo_row HG.out
          go_wp2_with fail
          go_round
          case rel => exact ⟨r + 1, by omega, by go_num, by go_num, HG'.out⟩
          case measure => simp [intOf]; omega
    · obtain rfl : r = 9 := by omega
      go_wp2_with fail
      exact bodyPost_ret (v := .agg #[.int .i64 0, .int .i64 (-1)]) (by simp [results, Tryd.results13, go_sem]) rfl ⟨0, -1, rfl, (Below.refl _ _).alloc (Nat.le_refl _) _, Or.inl ⟨rfl, rfl, HF.out⟩⟩

theorem rim_cases_5 (c r : Nat) : (isRim 5 c r = true ∧ ((c : Int) - 5 == 5) = true) ∨ (isRim 5 c r = true ∧ ((c : Int) - 5 == 5) = false ∧ ((r : Int) - 5 == 5) = true) ∨
    (isRim 5 c r = true ∧ ((c : Int) - 5 == 5) = false ∧ ((r : Int) - 5 == 5) = false ∧ ((c : Int) - 5 == -5) = true) ∨
    (isRim 5 c r = true ∧ ((c : Int) - 5 == 5) = false ∧ ((r : Int) - 5 == 5) = false ∧ ((c : Int) - 5 == -5) = false ∧ ((r : Int) - 5 == -5) = true) ∨
    (isRim 5 c r = false ∧ ((c : Int) - 5 == 5) = false ∧ ((r : Int) - 5 == 5) = false ∧ ((c : Int) - 5 == -5) = false ∧ ((r : Int) - 5 == -5) = false) := by
  simp only [isRim, Bool.or_eq_true, beq_iff_eq, beq_eq_false_iff_ne, Bool.or_eq_false_iff, ne_eq]
  omega
set_option maxRecDepth 100000 in
set_option maxHeartbeats 4000000 in
theorem sf_5 (xs : List Int) (b off cap : Nat) (w : World)
    (hwf : ∀ i, -9223372036854775808 ≤ xs.getD i 0 ∧ xs.getD i 0 ≤ 9223372036854775807)
    (hc : ∀ i, i < 121 → w.cell? ⟨b, off + i, none⟩ = some (.int .i64 (xs.getD i 0))) :
    Calls Tryd.prog 13 #[.int .i64 5, .slice (some ⟨b, off, none⟩) 121 cap] w (SFPost 5 xs w) := by
  have hc1 : ∀ i, i < 121 → (w.alloc (.cells #[.int .i64 0, .int .i64 0] 43)).cell? ⟨b, off + i, none⟩ = some (.int .i64 (xs.getD i 0)) := fun i hi => by
    rw [World.cell?_alloc_lt _ _ _ (mem_lt (hc i hi))]; exact hc i hi
  have HC := Lib.hid hc1
  have HW := Lib.hid hwf
  clear hc hc1 hwf
  go_enter Tryd.func13, Tryd.ntmps13
  go_wp2
  go_loop [6, 7] (fun i y => ∃ r : Nat, r ≤ 11 ∧ i = .int .i64 ((r : Int) * 11) ∧ y = .int .i64 ((r : Int) - 5) ∧ fineTo 5 xs 0 r) (fun _ y => (6 - intOf y).toNat)
  case atStart => exact ⟨0, by omega, by go_num, by go_num, fun r' c' _ _ h => absurd h (by omega)⟩
  case round =>
    obtain ⟨r, hr, rfl, rfl, hf⟩ := hrel
    have HF := Lib.hid hf
    clear hf
    by_cases hlt : r < 11
    · go_wp2
      go_loop [6, 8] (fun i x => ∃ c : Nat, c ≤ 11 ∧ i = .int .i64 ((r : Int) * 11 + c) ∧ x = .int .i64 ((c : Int) - 5) ∧ fineTo 5 xs c r) (fun _ x => (6 - intOf x).toNat)
      case atStart => exact ⟨0, by omega, by go_num, by go_num, HF.out⟩
      case round =>
        obtain ⟨c, hcc, rfl, rfl, hf⟩ := hrel
        have HG := Lib.hid hf
        clear hf
        by_cases hlc : c < 11
        · have c1 := HC.out (r * 11 + c) (by omega)
          have c2 : (w.alloc (.cells #[.int .i64 0, .int .i64 0] 43)).cell? ⟨b, off + ((5 - ((r : Int) - 5)) * 11 + 5 - ((c : Int) - 5)).toNat, none⟩ = some (.int .i64 (xs.getD ((10 - r) * 11 + (10 - c)) 0)) := by
            have ei : ((5 - ((r : Int) - 5)) * 11 + 5 - ((c : Int) - 5)).toNat = (10 - r) * 11 + (10 - c) := by omega
            rw [ei]; exact HC.out _ (by omega)
          obtain ⟨v, hv⟩ : ∃ v, xs.getD (r * 11 + c) 0 = v := ⟨_, rfl⟩
          obtain ⟨u, hu⟩ : ∃ u, xs.getD ((10 - r) * 11 + (10 - c)) 0 = u := ⟨_, rfl⟩
          obtain ⟨hu1, hu2⟩ := HW.out ((10 - r) * 11 + (10 - c))
          rw [hu] at hu1 hu2 c2
          rw [hv] at c1
          have HV := Lib.hid hv
          have HU := Lib.hid hu
          clear hv hu
          go_upto_region 14 with fail
          go_cut [10] (fun s10 wx => s10 = .bool (isNone v) ∧ wx = w.alloc (.cells #[.int .i64 0, .int .i64 0] 43))
          case first =>
            rcases isNone_cases v with ⟨e, e1, e2, e3, e4⟩ | ⟨e, rfl | rfl | rfl | rfl⟩
            · have E := Lib.hid e
              clear e
              go_wp2_with fail
              go_meet
              exact ⟨by rw [E.out], rfl⟩
            all_goals (clear e; go_wp2_with fail; go_meet; exact ⟨rfl, rfl⟩)
          case rest =>
            obtain ⟨rfl, hwc⟩ := hcut
            subst hwc
            go_upto_region 15 with fail
            go_cut [11] (fun s11 wx => s11 = .bool (isRim 5 c r) ∧ wx = w.alloc (.cells #[.int .i64 0, .int .i64 0] 43))
            case first =>
              rcases rim_cases_5 c r with ⟨e, e1⟩ | ⟨e, e1, e2⟩ | ⟨e, e1, e2, e3⟩ | ⟨e, e1, e2, e3, e4⟩ | ⟨e, e1, e2, e3, e4⟩
              all_goals
                have E := Lib.hid e
                clear e
                go_wp2_with fail
                go_meet
                exact ⟨by rw [E.out], rfl⟩
            case rest =>
              obtain ⟨rfl, hwc⟩ := hcut
              subst hwc
              rcases isNone_cases v with ⟨e, -⟩ | ⟨e, hvv⟩
              · have HB : Hid (badAt 5 xs c r = true) := by
                  unfold Hid badAt
                  simp only [show r * (2 * 5 + 1) + c = r * 11 + c from by omega, HV.out, e, Bool.true_or]
                go_wp2_with fail
                exact bodyPost_ret (v := .agg #[.int .i64 8, .int .i64 ((r : Int) * 11 + c)]) (by simp [results, Tryd.results13, go_sem]) rfl ⟨8, _, rfl, (Below.refl _ _).alloc (Nat.le_refl _) _, Or.inr ⟨rfl, c, r, by omega, by omega, by omega, HG.out, HB.out⟩⟩
              · by_cases hrim : isRim 5 c r = true
                · by_cases huv : u = -v
                  · have HB : Hid (badAt 5 xs c r = false) := by
                      unfold Hid badAt
                      simp only [show r * (2 * 5 + 1) + c = r * 11 + c from by omega, show (2 * 5 - r) * (2 * 5 + 1) + (2 * 5 - c) = (10 - r) * 11 + (10 - c) from by omega, HV.out, HU.out, e, huv, beq_self_eq_true, Bool.not_true, Bool.and_false, Bool.or_false]
                    subst huv
                    rw [e, hrim]
                    clear e hrim
                    rcases hvv with rfl | rfl | rfl | rfl
                    all_goals
                      go_wp2_with fail
                      go_round
                      case rel => exact ⟨c + 1, by omega, by go_num, by go_num, fineTo_step HG.out HB.out (by omega)⟩
                      case measure => simp [intOf]; omega
                  · have HB : Hid (badAt 5 xs c r = true) := by
                      unfold Hid badAt
                      simp only [show r * (2 * 5 + 1) + c = r * 11 + c from by omega, show (2 * 5 - r) * (2 * 5 + 1) + (2 * 5 - c) = (10 - r) * 11 + (10 - c) from by omega, HV.out, HU.out, e, hrim, beq_eq_false_iff_ne.2 huv, Bool.not_false, Bool.and_true, Bool.or_true]
                    rw [e, hrim]
                    clear e hrim
                    have hw : (IntKind.i64.wrap (u + v) != 0) = true := by
                      rw [bne_iff_ne, IntKind.wrap_i64]
                      rcases hvv with rfl | rfl | rfl | rfl <;> omega
                    have hw' : (wrap64 (u + v) != 0) = true := by
                      rw [bne_iff_ne]; unfold wrap64
                      rcases hvv with rfl | rfl | rfl | rfl <;> omega
                    rcases hvv with rfl | rfl | rfl | rfl
                    all_goals
                      clear huv
                      go_wp2_with fail
                      exact bodyPost_ret (v := .agg #[.int .i64 8, .int .i64 ((r : Int) * 11 + c)]) (by simp [results, Tryd.results13, go_sem]) rfl ⟨8, _, rfl, (Below.refl _ _).alloc (Nat.le_refl _) _, Or.inr ⟨rfl, c, r, by omega, by omega, by omega, HG.out, HB.out⟩⟩
                · have hrim' : isRim 5 c r = false := by simpa using hrim
                  have HB : Hid (badAt 5 xs c r = false) := by
                    unfold Hid badAt
                    simp only [show r * (2 * 5 + 1) + c = r * 11 + c from by omega, HV.out, e, hrim', Bool.false_and, Bool.or_false]
                  rw [e, hrim']
                  clear e hrim hrim'
                  rcases hvv with rfl | rfl | rfl | rfl
                  all_goals
                    go_wp2_with fail
                    go_round
                    case rel => exact ⟨c + 1, by omega, by go_num, by go_num, fineTo_step HG.out HB.out (by omega)⟩
                    case measure => simp [intOf]; omega
        · obtain rfl : c = 11 := by omega
          have HG' : Hid (fineTo 5 xs 0 (r + 1)) := fineTo_row HG.out
          go_wp2_with fail
          go_round
          case rel => exact ⟨r + 1, by omega, by go_num, by go_num, HG'.out⟩
          case measure => simp [intOf]; omega
    · obtain rfl : r = 11 := by omega
      go_wp2_with fail
      exact bodyPost_ret (v := .agg #[.int .i64 0, .int .i64 (-1)]) (by simp [results, Tryd.results13, go_sem]) rfl ⟨0, -1, rfl, (Below.refl _ _).alloc (Nat.le_refl _) _, Or.inl ⟨rfl, rfl, HF.out⟩⟩

theorem rim_cases_6 (c r : Nat) : (isRim 6 c r = true ∧ ((c : Int) - 6 == 6) = true) ∨ (isRim 6 c r = true ∧ ((c : Int) - 6 == 6) = false ∧ ((r : Int) - 6 == 6) = true) ∨
    (isRim 6 c r = true ∧ ((c : Int) - 6 == 6) = false ∧ ((r : Int) - 6 == 6) = false ∧ ((c : Int) - 6 == -6) = true) ∨
    (isRim 6 c r = true ∧ ((c : Int) - 6 == 6) = false ∧ ((r : Int) - 6 == 6) = false ∧ ((c : Int) - 6 == -6) = false ∧ ((r : Int) - 6 == -6) = true) ∨
    (isRim 6 c r = false ∧ ((c : Int) - 6 == 6) = false ∧ ((r : Int) - 6 == 6) = false ∧ ((c : Int) - 6 == -6) = false ∧ ((r : Int) - 6 == -6) = false) := by
  simp only [isRim, Bool.or_eq_true, beq_iff_eq, beq_eq_false_iff_ne, Bool.or_eq_false_iff, ne_eq]
  omega
set_option maxRecDepth 100000 in
set_option maxHeartbeats 4000000 in
theorem sf_6 (xs : List Int) (b off cap : Nat) (w : World)
    (hwf : ∀ i, -9223372036854775808 ≤ xs.getD i 0 ∧ xs.getD i 0 ≤ 9223372036854775807)
    (hc : ∀ i, i < 169 → w.cell? ⟨b, off + i, none⟩ = some (.int .i64 (xs.getD i 0))) :
    Calls Tryd.prog 13 #[.int .i64 6, .slice (some ⟨b, off, none⟩) 169 cap] w (SFPost 6 xs w) := by
  have hc1 : ∀ i, i < 169 → (w.alloc (.cells #[.int .i64 0, .int .i64 0] 43)).cell? ⟨b, off + i, none⟩ = some (.int .i64 (xs.getD i 0)) := fun i hi => by
    rw [World.cell?_alloc_lt _ _ _ (mem_lt (hc i hi))]; exact hc i hi
  have HC := Lib.hid hc1
  have HW := Lib.hid hwf
  clear hc hc1 hwf
  go_enter Tryd.func13, Tryd.ntmps13
  go_wp2
  go_loop [6, 7] (fun i y => ∃ r : Nat, r ≤ 13 ∧ i = .int .i64 ((r : Int) * 13) ∧ y = .int .i64 ((r : Int) - 6) ∧ fineTo 6 xs 0 r) (fun _ y => (7 - intOf y).toNat)
  case atStart => exact ⟨0, by omega, by go_num, by go_num, fun r' c' _ _ h => absurd h (by omega)⟩
  case round =>
    obtain ⟨r, hr, rfl, rfl, hf⟩ := hrel
    have HF := Lib.hid hf
    clear hf
    by_cases hlt : r < 13
    · go_wp2
      go_loop [6, 8] (fun i x => ∃ c : Nat, c ≤ 13 ∧ i = .int .i64 ((r : Int) * 13 + c) ∧ x = .int .i64 ((c : Int) - 6) ∧ fineTo 6 xs c r) (fun _ x => (7 - intOf x).toNat)
      case atStart => exact ⟨0, by omega, by go_num, by go_num, HF.out⟩
      case round =>
        obtain ⟨c, hcc, rfl, rfl, hf⟩ := hrel
        have HG := Lib.hid hf
        clear hf
        by_cases hlc : c < 13
        · have c1 := HC.out (r * 13 + c) (by omega)
          have c2 : (w.alloc (.cells #[.int .i64 0, .int .i64 0] 43)).cell? ⟨b, off + ((6 - ((r : Int) - 6)) * 13 + 6 - ((c : Int) - 6)).toNat, none⟩ = some (.int .i64 (xs.getD ((12 - r) * 13 + (12 - c)) 0)) := by
            have ei : ((6 - ((r : Int) - 6)) * 13 + 6 - ((c : Int) - 6)).toNat = (12 - r) * 13 + (12 - c) := by omega
            rw [ei]; exact HC.out _ (by omega)
          obtain ⟨v, hv⟩ : ∃ v, xs.getD (r * 13 + c) 0 = v := ⟨_, rfl⟩
          obtain ⟨u, hu⟩ : ∃ u, xs.getD ((12 - r) * 13 + (12 - c)) 0 = u := ⟨_, rfl⟩
          obtain ⟨hu1, hu2⟩ := HW.out ((12 - r) * 13 + (12 - c))
          rw [hu] at hu1 hu2 c2
          rw [hv] at c1
          have HV := Lib.hid hv
          have HU := Lib.hid hu
          clear hv hu
          go_upto_region 14 with fail
          go_cut [10] (fun s10 wx => s10 = .bool (isNone v) ∧ wx = w.alloc (.cells #[.int .i64 0, .int .i64 0] 43))
          case first =>
            rcases isNone_cases v with ⟨e, e1, e2, e3, e4⟩ | ⟨e, rfl | rfl | rfl | rfl⟩
            · have E := Lib.hid e
              clear e
              go_wp2_with fail
              go_meet
              exact ⟨by rw [E.out], rfl⟩
            all_goals (clear e; go_wp2_with fail; go_meet; exact ⟨rfl, rfl⟩)
          case rest =>
            obtain ⟨rfl, hwc⟩ := hcut
            subst hwc
            go_upto_region 15 with fail
            go_cut [11] (fun s11 wx => s11 = .bool (isRim 6 c r) ∧ wx = w.alloc (.cells #[.int .i64 0, .int .i64 0] 43))
            case first =>
              rcases rim_cases_6 c r with ⟨e, e1⟩ | ⟨e, e1, e2⟩ | ⟨e, e1, e2, e3⟩ | ⟨e, e1, e2, e3, e4⟩ | ⟨e, e1, e2, e3, e4⟩
              all_goals
                have E := Lib.hid e
                clear e
                go_wp2_with fail
                go_meet
                exact ⟨by rw [E.out], rfl⟩
            case rest =>
              obtain ⟨rfl, hwc⟩ := hcut
              subst hwc
              rcases isNone_cases v with ⟨e, -⟩ | ⟨e, hvv⟩
              · have HB : Hid (badAt 6 xs c r = true) := by
                  unfold Hid badAt
                  simp only [show r * (2 * 6 + 1) + c = r * 13 + c from by omega, HV.out, e, Bool.true_or]
                go_wp2_with fail
                exact bodyPost_ret (v := .agg #[.int .i64 8, .int .i64 ((r : Int) * 13 + c)]) (by simp [results, Tryd.results13, go_sem]) rfl ⟨8, _, rfl, (Below.refl _ _).alloc (Nat.le_refl _) _, Or.inr ⟨rfl, c, r, by omega, by omega, by omega, HG.out, HB.out⟩⟩
              · by_cases hrim : isRim 6 c r = true
                · by_cases huv : u = -v
                  · have HB : Hid (badAt 6 xs c r = false) := by
                      unfold Hid badAt
                      simp only [show r * (2 * 6 + 1) + c = r * 13 + c from by omega, show (2 * 6 - r) * (2 * 6 + 1) + (2 * 6 - c) = (12 - r) * 13 + (12 - c) from by omega, HV.out, HU.out, e, huv, beq_self_eq_true, Bool.not_true, Bool.and_false, Bool.or_false]
                    subst huv
                    rw [e, hrim]
                    clear e hrim
                    rcases hvv with rfl | rfl | rfl | rfl
                    all_goals
                      go_wp2_with fail
                      go_round
                      case rel => exact ⟨c + 1, by omega, by go_num, by go_num, fineTo_step HG.out HB.out (by omega)⟩
                      case measure => simp [intOf]; omega
                  · have HB : Hid (badAt 6 xs c r = true) := by
                      unfold Hid badAt
                      simp only [show r * (2 * 6 + 1) + c = r * 13 + c from by omega, show (2 * 6 - r) * (2 * 6 + 1) + (2 * 6 - c) = (12 - r) * 13 + (12 - c) from by omega, HV.out, HU.out, e, hrim, beq_eq_false_iff_ne.2 huv, Bool.not_false, Bool.and_true, Bool.or_true]
                    rw [e, hrim]
                    clear e hrim
                    have hw : (IntKind.i64.wrap (u + v) != 0) = true := by
                      rw [bne_iff_ne, IntKind.wrap_i64]
                      rcases hvv with rfl | rfl | rfl | rfl <;> omega
                    have hw' : (wrap64 (u + v) != 0) = true := by
                      rw [bne_iff_ne]; unfold wrap64
                      rcases hvv with rfl | rfl | rfl | rfl <;> omega
                    rcases hvv with rfl | rfl | rfl | rfl
                    all_goals
                      clear huv
                      go_wp2_with fail
                      exact bodyPost_ret (v := .agg #[.int .i64 8, .int .i64 ((r : Int) * 13 + c)]) (by simp [results, Tryd.results13, go_sem]) rfl ⟨8, _, rfl, (Below.refl _ _).alloc (Nat.le_refl _) _, Or.inr ⟨rfl, c, r, by omega, by omega, by omega, HG.out, HB.out⟩⟩
                · have hrim' : isRim 6 c r = false := by simpa using hrim
                  have HB : Hid (badAt 6 xs c r = false) := by
                    unfold Hid badAt
                    simp only [show r * (2 * 6 + 1) + c = r * 13 + c from by omega, HV.out, e, hrim', Bool.false_and, Bool.or_false]
                  rw [e, hrim']
                  clear e hrim hrim'
                  rcases hvv with rfl | rfl | rfl | rfl
                  all_goals
                    go_wp2_with fail
                    go_round
                    case rel => exact ⟨c + 1, by omega, by go_num, by go_num, fineTo_step HG.out HB.out (by omega)⟩
                    case measure => simp [intOf]; omega
        · obtain rfl : c = 13 := by omega
          have HG' : Hid (fineTo 6 xs 0 (r + 1)) := fineTo_row HG.out
          go_wp2_with fail
          go_round
          case rel => exact ⟨r + 1, by omega, by go_num, by go_num, HG'.out⟩
          case measure => simp [intOf]; omega
    · obtain rfl : r = 13 := by omega
      go_wp2_with fail
      exact bodyPost_ret (v := .agg #[.int .i64 0, .int .i64 (-1)]) (by simp [results, Tryd.results13, go_sem]) rfl ⟨0, -1, rfl, (Below.refl _ _).alloc (Nat.le_refl _) _, Or.inl ⟨rfl, rfl, HF.out⟩⟩
end Go.Proofs.YtnijedeopnjklaaDoor
