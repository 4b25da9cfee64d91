/-
  SquareFault at some n (written by a program of mine).
-/
import Derived.Test.YtnijedeopnjklaaDoorTuckC
namespace Go.Proofs.YtnijedeopnjklaaDoor
open Go Go.RowKit

theorem rim_cases_1 (c r : Nat) : (isRim 1 c r = true ∧ ((c : Int) - 1 == 1) = true) ∨ (isRim 1 c r = true ∧ ((c : Int) - 1 == 1) = false ∧ ((r : Int) - 1 == 1) = true) ∨
    (isRim 1 c r = true ∧ ((c : Int) - 1 == 1) = false ∧ ((r : Int) - 1 == 1) = false ∧ ((c : Int) - 1 == -1) = true) ∨
    (isRim 1 c r = true ∧ ((c : Int) - 1 == 1) = false ∧ ((r : Int) - 1 == 1) = false ∧ ((c : Int) - 1 == -1) = false ∧ ((r : Int) - 1 == -1) = true) ∨
    (isRim 1 c r = false ∧ ((c : Int) - 1 == 1) = false ∧ ((r : Int) - 1 == 1) = false ∧ ((c : Int) - 1 == -1) = false ∧ ((r : Int) - 1 == -1) = false) := by
  simp only [isRim, Bool.or_eq_true, beq_iff_eq, beq_eq_false_iff_ne, Bool.or_eq_false_iff, ne_eq]
  omega
set_option maxRecDepth 100000 in
set_option maxHeartbeats 4000000 in
theorem sf_1 (xs : List Int) (b off cap : Nat) (w : World)
    (hwf : ∀ i, -9223372036854775808 ≤ xs.getD i 0 ∧ xs.getD i 0 ≤ 9223372036854775807)
    (hc : ∀ i, i < 9 → w.cell? ⟨b, off + i, none⟩ = some (.int .i64 (xs.getD i 0))) :
    Calls Tryd.prog 13 #[.int .i64 1, .slice (some ⟨b, off, none⟩) 9 cap] w (SFPost 1 xs w) := by
  have hc1 : ∀ i, i < 9 → (w.alloc (.cells #[.int .i64 0, .int .i64 0] 43)).cell? ⟨b, off + i, none⟩ = some (.int .i64 (xs.getD i 0)) := fun i hi => by
    rw [World.cell?_alloc_lt _ _ _ (mem_lt (hc i hi))]; exact hc i hi
  have HC := Lib.hid hc1
  have HW := Lib.hid hwf
  clear hc hc1 hwf
  go_enter Tryd.func13, Tryd.ntmps13
  go_wp2
  go_loop [6, 7] (fun i y => ∃ r : Nat, r ≤ 3 ∧ i = .int .i64 ((r : Int) * 3) ∧ y = .int .i64 ((r : Int) - 1) ∧ fineTo 1 xs 0 r) (fun _ y => (2 - intOf y).toNat)
  case atStart => exact ⟨0, by omega, by go_num, by go_num, fun r' c' _ _ h => absurd h (by omega)⟩
  case round =>
    obtain ⟨r, hr, rfl, rfl, hf⟩ := hrel
    have HF := Lib.hid hf
    clear hf
    by_cases hlt : r < 3
    · go_wp2
      go_loop [6, 8] (fun i x => ∃ c : Nat, c ≤ 3 ∧ i = .int .i64 ((r : Int) * 3 + c) ∧ x = .int .i64 ((c : Int) - 1) ∧ fineTo 1 xs c r) (fun _ x => (2 - intOf x).toNat)
      case atStart => exact ⟨0, by omega, by go_num, by go_num, HF.out⟩
      case round =>
        obtain ⟨c, hcc, rfl, rfl, hf⟩ := hrel
        have HG := Lib.hid hf
        clear hf
        by_cases hlc : c < 3
        · have c1 := HC.out (r * 3 + c) (by omega)
          have c2 : (w.alloc (.cells #[.int .i64 0, .int .i64 0] 43)).cell? ⟨b, off + ((1 - ((r : Int) - 1)) * 3 + 1 - ((c : Int) - 1)).toNat, none⟩ = some (.int .i64 (xs.getD ((2 - r) * 3 + (2 - c)) 0)) := by
            have ei : ((1 - ((r : Int) - 1)) * 3 + 1 - ((c : Int) - 1)).toNat = (2 - r) * 3 + (2 - c) := by omega
            rw [ei]; exact HC.out _ (by omega)
          obtain ⟨v, hv⟩ : ∃ v, xs.getD (r * 3 + c) 0 = v := ⟨_, rfl⟩
          obtain ⟨u, hu⟩ : ∃ u, xs.getD ((2 - r) * 3 + (2 - c)) 0 = u := ⟨_, rfl⟩
          obtain ⟨hu1, hu2⟩ := HW.out ((2 - r) * 3 + (2 - c))
          rw [hu] at hu1 hu2 c2
          rw [hv] at c1
          have HV := Lib.hid hv
          have HU := Lib.hid hu
          clear hv hu
          go_upto_region 14 with fail
          go_cut [10] (fun s10 wx => s10 = .bool (isNone v) ∧ wx = w.alloc (.cells #[.int .i64 0, .int .i64 0] 43))
          case first =>
            rcases isNone_cases v with ⟨e, e1, e2, e3, e4⟩ | ⟨e, rfl | rfl | rfl | rfl⟩
            · have E := Lib.hid e
              clear e
              go_wp2_with fail
              go_meet
              exact ⟨by rw [E.out], rfl⟩
            all_goals (clear e; go_wp2_with fail; go_meet; exact ⟨rfl, rfl⟩)
          case rest =>
            obtain ⟨rfl, hwc⟩ := hcut
            subst hwc
            go_upto_region 15 with fail
            go_cut [11] (fun s11 wx => s11 = .bool (isRim 1 c r) ∧ wx = w.alloc (.cells #[.int .i64 0, .int .i64 0] 43))
            case first =>
              rcases rim_cases_1 c r with ⟨e, e1⟩ | ⟨e, e1, e2⟩ | ⟨e, e1, e2, e3⟩ | ⟨e, e1, e2, e3, e4⟩ | ⟨e, e1, e2, e3, e4⟩
              all_goals
                have E := Lib.hid e
                clear e
                go_wp2_with fail
                go_meet
                exact ⟨by rw [E.out], rfl⟩
            case rest =>
              obtain ⟨rfl, hwc⟩ := hcut
              subst hwc
              rcases isNone_cases v with ⟨e, -⟩ | ⟨e, hvv⟩
              · have HB : Hid (badAt 1 xs c r = true) := by
                  unfold Hid badAt
                  simp only [show r * (2 * 1 + 1) + c = r * 3 + c from by omega, HV.out, e, Bool.true_or]
                go_wp2_with fail
                exact bodyPost_ret (v := .agg #[.int .i64 8, .int .i64 ((r : Int) * 3 + c)]) (by simp [results, Tryd.results13, go_sem]) rfl ⟨8, _, rfl, (Below.refl _ _).alloc (Nat.le_refl _) _, Or.inr ⟨rfl, c, r, by omega, by omega, by omega, HG.out, HB.out⟩⟩
              · by_cases hrim : isRim 1 c r = true
                · by_cases huv : u = -v
                  · have HB : Hid (badAt 1 xs c r = false) := by
                      unfold Hid badAt
                      simp only [show r * (2 * 1 + 1) + c = r * 3 + c from by omega, show (2 * 1 - r) * (2 * 1 + 1) + (2 * 1 - c) = (2 - r) * 3 + (2 - c) from by omega, HV.out, HU.out, e, huv, beq_self_eq_true, Bool.not_true, Bool.and_false, Bool.or_false]
                    subst huv
                    rw [e, hrim]
                    clear e hrim
                    rcases hvv with rfl | rfl | rfl | rfl
                    all_goals
                      go_wp2_with fail
                      go_round
                      case rel => exact ⟨c + 1, by omega, by go_num, by go_num, fineTo_step HG.out HB.out (by omega)⟩
                      case measure => simp [intOf]; omega
                  · have HB : Hid (badAt 1 xs c r = true) := by
                      unfold Hid badAt
                      simp only [show r * (2 * 1 + 1) + c = r * 3 + c from by omega, show (2 * 1 - r) * (2 * 1 + 1) + (2 * 1 - c) = (2 - r) * 3 + (2 - c) from by omega, HV.out, HU.out, e, hrim, beq_eq_false_iff_ne.2 huv, Bool.not_false, Bool.and_true, Bool.or_true]
                    rw [e, hrim]
                    clear e hrim
                    have hw : (IntKind.i64.wrap (u + v) != 0) = true := by
                      rw [bne_iff_ne, IntKind.wrap_i64]
                      rcases hvv with rfl | rfl | rfl | rfl <;> omega
                    have hw' : (wrap64 (u + v) != 0) = true := by
                      rw [bne_iff_ne]; unfold wrap64
                      rcases hvv with rfl | rfl | rfl | rfl <;> omega
                    rcases hvv with rfl | rfl | rfl | rfl
                    all_goals
                      clear huv
                      go_wp2_with fail
                      exact bodyPost_ret (v := .agg #[.int .i64 8, .int .i64 ((r : Int) * 3 + c)]) (by simp [results, Tryd.results13, go_sem]) rfl ⟨8, _, rfl, (Below.refl _ _).alloc (Nat.le_refl _) _, Or.inr ⟨rfl, c, r, by omega, by omega, by omega, HG.out, HB.out⟩⟩
                · have hrim' : isRim 1 c r = false := by simpa using hrim
                  have HB : Hid (badAt 1 xs c r = false) := by
                    unfold Hid badAt
                    simp only [show r * (2 * 1 + 1) + c = r * 3 + c from by omega, HV.out, e, hrim', Bool.false_and, Bool.or_false]
                  rw [e, hrim']
                  clear e hrim hrim'
                  rcases hvv with rfl | rfl | rfl | rfl
                  all_goals
                    go_wp2_with fail
                    go_round
                    case rel => exact ⟨c + 1, by omega, by go_num, by go_num, fineTo_step HG.out HB.out (by omega)⟩
                    case measure => simp [intOf]; omega
        · obtain rfl : c = 3 := by omega
          have HG' : Hid (fineTo 1 xs 0 (r + 1)) := fineTo_row HG.out
          go_wp2_with fail
          go_round
          case rel => exact ⟨r + 1, by omega, by go_num, by go_num, HG'.out⟩
          case measure => simp [intOf]; omega
    · obtain rfl : r = 3 := by omega
      go_wp2_with fail
      exact bodyPost_ret (v := .agg #[.int .i64 0, .int .i64 (-1)]) (by simp [results, Tryd.results13, go_sem]) rfl ⟨0, -1, rfl, (Below.refl _ _).alloc (Nat.le_refl _) _, Or.inl ⟨rfl, rfl, HF.out⟩⟩

theorem rim_cases_2 (c r : Nat) : (isRim 2 c r = true ∧ ((c : Int) - 2 == 2) = true) ∨ (isRim 2 c r = true ∧ ((c : Int) - 2 == 2) = false ∧ ((r : Int) - 2 == 2) = true) ∨
    (isRim 2 c r = true ∧ ((c : Int) - 2 == 2) = false ∧ ((r : Int) - 2 == 2) = false ∧ ((c : Int) - 2 == -2) = true) ∨
    (isRim 2 c r = true ∧ ((c : Int) - 2 == 2) = false ∧ ((r : Int) - 2 == 2) = false ∧ ((c : Int) - 2 == -2) = false ∧ ((r : Int) - 2 == -2) = true) ∨
    (isRim 2 c r = false ∧ ((c : Int) - 2 == 2) = false ∧ ((r : Int) - 2 == 2) = false ∧ ((c : Int) - 2 == -2) = false ∧ ((r : Int) - 2 == -2) = false) := by
  simp only [isRim, Bool.or_eq_true, beq_iff_eq, beq_eq_false_iff_ne, Bool.or_eq_false_iff, ne_eq]
  omega
set_option maxRecDepth 100000 in
set_option maxHeartbeats 4000000 in
theorem sf_2 (xs : List Int) (b off cap : Nat) (w : World)
    (hwf : ∀ i, -9223372036854775808 ≤ xs.getD i 0 ∧ xs.getD i 0 ≤ 9223372036854775807)
    (hc : ∀ i, i < 25 → w.cell? ⟨b, off + i, none⟩ = some (.int .i64 (xs.getD i 0))) :
    Calls Tryd.prog 13 #[.int .i64 2, .slice (some ⟨b, off, none⟩) 25 cap] w (SFPost 2 xs w) := by
  have hc1 : ∀ i, i < 25 → (w.alloc (.cells #[.int .i64 0, .int .i64 0] 43)).cell? ⟨b, off + i, none⟩ = some (.int .i64 (xs.getD i 0)) := fun i hi => by
    rw [World.cell?_alloc_lt _ _ _ (mem_lt (hc i hi))]; exact hc i hi
  have HC := Lib.hid hc1
  have HW := Lib.hid hwf
  clear hc hc1 hwf
  go_enter Tryd.func13, Tryd.ntmps13
  go_wp2
  go_loop [6, 7] (fun i y => ∃ r : Nat, r ≤ 5 ∧ i = .int .i64 ((r : Int) * 5) ∧ y = .int .i64 ((r : Int) - 2) ∧ fineTo 2 xs 0 r) (fun _ y => (3 - intOf y).toNat)
  case atStart => exact ⟨0, by omega, by go_num, by go_num, fun r' c' _ _ h => absurd h (by omega)⟩
  case round =>
    obtain ⟨r, hr, rfl, rfl, hf⟩ := hrel
    have HF := Lib.hid hf
    clear hf
    by_cases hlt : r < 5
    · go_wp2
      go_loop [6, 8] (fun i x => ∃ c : Nat, c ≤ 5 ∧ i = .int .i64 ((r : Int) * 5 + c) ∧ x = .int .i64 ((c : Int) - 2) ∧ fineTo 2 xs c r) (fun _ x => (3 - intOf x).toNat)
      case atStart => exact ⟨0, by omega, by go_num, by go_num, HF.out⟩
      case round =>
        obtain ⟨c, hcc, rfl, rfl, hf⟩ := hrel
        have HG := Lib.hid hf
        clear hf
        by_cases hlc : c < 5
        · have c1 := HC.out (r * 5 + c) (by omega)
          have c2 : (w.alloc (.cells #[.int .i64 0, .int .i64 0] 43)).cell? ⟨b, off + ((2 - ((r : Int) - 2)) * 5 + 2 - ((c : Int) - 2)).toNat, none⟩ = some (.int .i64 (xs.getD ((4 - r) * 5 + (4 - c)) 0)) := by
            have ei : ((2 - ((r : Int) - 2)) * 5 + 2 - ((c : Int) - 2)).toNat = (4 - r) * 5 + (4 - c) := by omega
            rw [ei]; exact HC.out _ (by omega)
          obtain ⟨v, hv⟩ : ∃ v, xs.getD (r * 5 + c) 0 = v := ⟨_, rfl⟩
          obtain ⟨u, hu⟩ : ∃ u, xs.getD ((4 - r) * 5 + (4 - c)) 0 = u := ⟨_, rfl⟩
          obtain ⟨hu1, hu2⟩ := HW.out ((4 - r) * 5 + (4 - c))
          rw [hu] at hu1 hu2 c2
          rw [hv] at c1
          have HV := Lib.hid hv
          have HU := Lib.hid hu
          clear hv hu
          go_upto_region 14 with fail
          go_cut [10] (fun s10 wx => s10 = .bool (isNone v) ∧ wx = w.alloc (.cells #[.int .i64 0, .int .i64 0] 43))
          case first =>
            rcases isNone_cases v with ⟨e, e1, e2, e3, e4⟩ | ⟨e, rfl | rfl | rfl | rfl⟩
            · have E := Lib.hid e
              clear e
              go_wp2_with fail
              go_meet
              exact ⟨by rw [E.out], rfl⟩
            all_goals (clear e; go_wp2_with fail; go_meet; exact ⟨rfl, rfl⟩)
          case rest =>
            obtain ⟨rfl, hwc⟩ := hcut
            subst hwc
            go_upto_region 15 with fail
            go_cut [11] (fun s11 wx => s11 = .bool (isRim 2 c r) ∧ wx = w.alloc (.cells #[.int .i64 0, .int .i64 0] 43))
            case first =>
              rcases rim_cases_2 c r with ⟨e, e1⟩ | ⟨e, e1, e2⟩ | ⟨e, e1, e2, e3⟩ | ⟨e, e1, e2, e3, e4⟩ | ⟨e, e1, e2, e3, e4⟩
              all_goals
                have E := Lib.hid e
                clear e
                go_wp2_with fail
                go_meet
                exact ⟨by rw [E.out], rfl⟩
            case rest =>
              obtain ⟨rfl, hwc⟩ := hcut
              subst hwc
              rcases isNone_cases v with ⟨e, -⟩ | ⟨e, hvv⟩
              · have HB : Hid (badAt 2 xs c r = true) := by
                  unfold Hid badAt
                  simp only [show r * (2 * 2 + 1) + c = r * 5 + c from by omega, HV.out, e, Bool.true_or]
                go_wp2_with fail
                exact bodyPost_ret (v := .agg #[.int .i64 8, .int .i64 ((r : Int) * 5 + c)]) (by simp [results, Tryd.results13, go_sem]) rfl ⟨8, _, rfl, (Below.refl _ _).alloc (Nat.le_refl _) _, Or.inr ⟨rfl, c, r, by omega, by omega, by omega, HG.out, HB.out⟩⟩
              · by_cases hrim : isRim 2 c r = true
                · by_cases huv : u = -v
                  · have HB : Hid (badAt 2 xs c r = false) := by
                      unfold Hid badAt
                      simp only [show r * (2 * 2 + 1) + c = r * 5 + c from by omega, show (2 * 2 - r) * (2 * 2 + 1) + (2 * 2 - c) = (4 - r) * 5 + (4 - c) from by omega, HV.out, HU.out, e, huv, beq_self_eq_true, Bool.not_true, Bool.and_false, Bool.or_false]
                    subst huv
                    rw [e, hrim]
                    clear e hrim
                    rcases hvv with rfl | rfl | rfl | rfl
                    all_goals
                      go_wp2_with fail
                      go_round
                      case rel => exact ⟨c + 1, by omega, by go_num, by go_num, fineTo_step HG.out HB.out (by omega)⟩
                      case measure => simp [intOf]; omega
                  · have HB : Hid (badAt 2 xs c r = true) := by
                      unfold Hid badAt
                      simp only [show r * (2 * 2 + 1) + c = r * 5 + c from by omega, show (2 * 2 - r) * (2 * 2 + 1) + (2 * 2 - c) = (4 - r) * 5 + (4 - c) from by omega, HV.out, HU.out, e, hrim, beq_eq_false_iff_ne.2 huv, Bool.not_false, Bool.and_true, Bool.or_true]
                    rw [e, hrim]
                    clear e hrim
                    have hw : (IntKind.i64.wrap (u + v) != 0) = true := by
                      rw [bne_iff_ne, IntKind.wrap_i64]
                      rcases hvv with rfl | rfl | rfl | rfl <;> omega
                    have hw' : (wrap64 (u + v) != 0) = true := by
                      rw [bne_iff_ne]; unfold wrap64
                      rcases hvv with rfl | rfl | rfl | rfl <;> omega
                    rcases hvv with rfl | rfl | rfl | rfl
                    all_goals
                      clear huv
                      go_wp2_with fail
                      exact bodyPost_ret (v := .agg #[.int .i64 8, .int .i64 ((r : Int) * 5 + c)]) (by simp [results, Tryd.results13, go_sem]) rfl ⟨8, _, rfl, (Below.refl _ _).alloc (Nat.le_refl _) _, Or.inr ⟨rfl, c, r, by omega, by omega, by omega, HG.out, HB.out⟩⟩
                · have hrim' : isRim 2 c r = false := by simpa using hrim
                  have HB : Hid (badAt 2 xs c r = false) := by
                    unfold Hid badAt
                    simp only [show r * (2 * 2 + 1) + c = r * 5 + c from by omega, HV.out, e, hrim', Bool.false_and, Bool.or_false]
                  rw [e, hrim']
                  clear e hrim hrim'
                  rcases hvv with rfl | rfl | rfl | rfl
                  all_goals
                    go_wp2_with fail
                    go_round
                    case rel => exact ⟨c + 1, by omega, by go_num, by go_num, fineTo_step HG.out HB.out (by omega)⟩
                    case measure => simp [intOf]; omega
        · obtain rfl : c = 5 := by omega
          have HG' : Hid (fineTo 2 xs 0 (r + 1)) := fineTo_row HG.out
          go_wp2_with fail
          go_round
          case rel => exact ⟨r + 1, by omega, by go_num, by go_num, HG'.out⟩
          case measure => simp [intOf]; omega
    · obtain rfl : r = 5 := by omega
      go_wp2_with fail
      exact bodyPost_ret (v := .agg #[.int .i64 0, .int .i64 (-1)]) (by simp [results, Tryd.results13, go_sem]) rfl ⟨0, -1, rfl, (Below.refl _ _).alloc (Nat.le_refl _) _, Or.inl ⟨rfl, rfl, HF.out⟩⟩

theorem rim_cases_3 (c r : Nat) : (isRim 3 c r = true ∧ ((c : Int) - 3 == 3) = true) ∨ (isRim 3 c r = true ∧ ((c : Int) - 3 == 3) = false ∧ ((r : Int) - 3 == 3) = true) ∨
    (isRim 3 c r = true ∧ ((c : Int) - 3 == 3) = false ∧ ((r : Int) - 3 == 3) = false ∧ ((c : Int) - 3 == -3) = true) ∨
    (isRim 3 c r = true ∧ ((c : Int) - 3 == 3) = false ∧ ((r : Int) - 3 == 3) = false ∧ ((c : Int) - 3 == -3) = false ∧ ((r : Int) - 3 == -3) = true) ∨
    (isRim 3 c r = false ∧ ((c : Int) - 3 == 3) = false ∧ ((r : Int) - 3 == 3) = false ∧ ((c : Int) - 3 == -3) = false ∧ ((r : Int) - 3 == -3) = false) := by
  simp only [isRim, Bool.or_eq_true, beq_iff_eq, beq_eq_false_iff_ne, Bool.or_eq_false_iff, ne_eq]
  omega
set_option maxRecDepth 100000 in
set_option maxHeartbeats 4000000 in
theorem sf_3 (xs : List Int) (b off cap : Nat) (w : World)
    (hwf : ∀ i, -9223372036854775808 ≤ xs.getD i 0 ∧ xs.getD i 0 ≤ 9223372036854775807)
    (hc : ∀ i, i < 49 → w.cell? ⟨b, off + i, none⟩ = some (.int .i64 (xs.getD i 0))) :
    Calls Tryd.prog 13 #[.int .i64 3, .slice (some ⟨b, off, none⟩) 49 cap] w (SFPost 3 xs w) := by
  have hc1 : ∀ i, i < 49 → (w.alloc (.cells #[.int .i64 0, .int .i64 0] 43)).cell? ⟨b, off + i, none⟩ = some (.int .i64 (xs.getD i 0)) := fun i hi => by
    rw [World.cell?_alloc_lt _ _ _ (mem_lt (hc i hi))]; exact hc i hi
  have HC := Lib.hid hc1
  have HW := Lib.hid hwf
  clear hc hc1 hwf
  go_enter Tryd.func13, Tryd.ntmps13
  go_wp2
  go_loop [6, 7] (fun i y => ∃ r : Nat, r ≤ 7 ∧ i = .int .i64 ((r : Int) * 7) ∧ y = .int .i64 ((r : Int) - 3) ∧ fineTo 3 xs 0 r) (fun _ y => (4 - intOf y).toNat)
  case atStart => exact ⟨0, by omega, by go_num, by go_num, fun r' c' _ _ h => absurd h (by omega)⟩
  case round =>
    obtain ⟨r, hr, rfl, rfl, hf⟩ := hrel
    have HF := Lib.hid hf
    clear hf
    by_cases hlt : r < 7
    · go_wp2
      go_loop [6, 8] (fun i x => ∃ c : Nat, c ≤ 7 ∧ i = .int .i64 ((r : Int) * 7 + c) ∧ x = .int .i64 ((c : Int) - 3) ∧ fineTo 3 xs c r) (fun _ x => (4 - intOf x).toNat)
      case atStart => exact ⟨0, by omega, by go_num, by go_num, HF.out⟩
      case round =>
        obtain ⟨c, hcc, rfl, rfl, hf⟩ := hrel
        have HG := Lib.hid hf
        clear hf
        by_cases hlc : c < 7
        · have c1 := HC.out (r * 7 + c) (by omega)
          have c2 : (w.alloc (.cells #[.int .i64 0, .int .i64 0] 43)).cell? ⟨b, off + ((3 - ((r : Int) - 3)) * 7 + 3 - ((c : Int) - 3)).toNat, none⟩ = some (.int .i64 (xs.getD ((6 - r) * 7 + (6 - c)) 0)) := by
            have ei : ((3 - ((r : Int) - 3)) * 7 + 3 - ((c : Int) - 3)).toNat = (6 - r) * 7 + (6 - c) := by omega
            rw [ei]; exact HC.out _ (by omega)
          obtain ⟨v, hv⟩ : ∃ v, xs.getD (r * 7 + c) 0 = v := ⟨_, rfl⟩
          obtain ⟨u, hu⟩ : ∃ u, xs.getD ((6 - r) * 7 + (6 - c)) 0 = u := ⟨_, rfl⟩
          obtain ⟨hu1, hu2⟩ := HW.out ((6 - r) * 7 + (6 - c))
          rw [hu] at hu1 hu2 c2
          rw [hv] at c1
          have HV := Lib.hid hv
          have HU := Lib.hid hu
          clear hv hu
          go_upto_region 14 with fail
          go_cut [10] (fun s10 wx => s10 = .bool (isNone v) ∧ wx = w.alloc (.cells #[.int .i64 0, .int .i64 0] 43))
          case first =>
            rcases isNone_cases v with ⟨e, e1, e2, e3, e4⟩ | ⟨e, rfl | rfl | rfl | rfl⟩
            · have E := Lib.hid e
              clear e
              go_wp2_with fail
              go_meet
              exact ⟨by rw [E.out], rfl⟩
            all_goals (clear e; go_wp2_with fail; go_meet; exact ⟨rfl, rfl⟩)
          case rest =>
            obtain ⟨rfl, hwc⟩ := hcut
            subst hwc
            go_upto_region 15 with fail
            go_cut [11] (fun s11 wx => s11 = .bool (isRim 3 c r) ∧ wx = w.alloc (.cells #[.int .i64 0, .int .i64 0] 43))
            case first =>
              rcases rim_cases_3 c r with ⟨e, e1⟩ | ⟨e, e1, e2⟩ | ⟨e, e1, e2, e3⟩ | ⟨e, e1, e2, e3, e4⟩ | ⟨e, e1, e2, e3, e4⟩
              all_goals
                have E := Lib.hid e
                clear e
                go_wp2_with fail
                go_meet
                exact ⟨by rw [E.out], rfl⟩
            case rest =>
              obtain ⟨rfl, hwc⟩ := hcut
              subst hwc
              rcases isNone_cases v with ⟨e, -⟩ | ⟨e, hvv⟩
              · have HB : Hid (badAt 3 xs c r = true) := by
                  unfold Hid badAt
                  simp only [show r * (2 * 3 + 1) + c = r * 7 + c from by omega, HV.out, e, Bool.true_or]
                go_wp2_with fail
                exact bodyPost_ret (v := .agg #[.int .i64 8, .int .i64 ((r : Int) * 7 + c)]) (by simp [results, Tryd.results13, go_sem]) rfl ⟨8, _, rfl, (Below.refl _ _).alloc (Nat.le_refl _) _, Or.inr ⟨rfl, c, r, by omega, by omega, by omega, HG.out, HB.out⟩⟩
              · by_cases hrim : isRim 3 c r = true
                · by_cases huv : u = -v
                  · have HB : Hid (badAt 3 xs c r = false) := by
                      unfold Hid badAt
                      simp only [show r * (2 * 3 + 1) + c = r * 7 + c from by omega, show (2 * 3 - r) * (2 * 3 + 1) + (2 * 3 - c) = (6 - r) * 7 + (6 - c) from by omega, HV.out, HU.out, e, huv, beq_self_eq_true, Bool.not_true, Bool.and_false, Bool.or_false]
                    subst huv
                    rw [e, hrim]
                    clear e hrim
                    rcases hvv with rfl | rfl | rfl | rfl
                    all_goals
                      go_wp2_with fail
                      go_round
                      case rel => exact ⟨c + 1, by omega, by go_num, by go_num, fineTo_step HG.out HB.out (by omega)⟩
                      case measure => simp [intOf]; omega
                  · have HB : Hid (badAt 3 xs c r = true) := by
                      unfold Hid badAt
                      simp only [show r * (2 * 3 + 1) + c = r * 7 + c from by omega, show (2 * 3 - r) * (2 * 3 + 1) + (2 * 3 - c) = (6 - r) * 7 + (6 - c) from by omega, HV.out, HU.out, e, hrim, beq_eq_false_iff_ne.2 huv, Bool.not_false, Bool.and_true, Bool.or_true]
                    rw [e, hrim]
                    clear e hrim
                    have hw : (IntKind.i64.wrap (u + v) != 0) = true := by
                      rw [bne_iff_ne, IntKind.wrap_i64]
                      rcases hvv with rfl | rfl | rfl | rfl <;> omega
                    have hw' : (wrap64 (u + v) != 0) = true := by
                      rw [bne_iff_ne]; unfold wrap64
                      rcases hvv with rfl | rfl | rfl | rfl <;> omega
                    rcases hvv with rfl | rfl | rfl | rfl
                    all_goals
                      clear huv
                      go_wp2_with fail
                      exact bodyPost_ret (v := .agg #[.int .i64 8, .int .i64 ((r : Int) * 7 + c)]) (by simp [results, Tryd.results13, go_sem]) rfl ⟨8, _, rfl, (Below.refl _ _).alloc (Nat.le_refl _) _, Or.inr ⟨rfl, c, r, by omega, by omega, by omega, HG.out, HB.out⟩⟩
                · have hrim' : isRim 3 c r = false := by simpa using hrim
                  have HB : Hid (badAt 3 xs c r = false) := by
                    unfold Hid badAt
                    simp only [show r * (2 * 3 + 1) + c = r * 7 + c from by omega, HV.out, e, hrim', Bool.false_and, Bool.or_false]
                  rw [e, hrim']
                  clear e hrim hrim'
                  rcases hvv with rfl | rfl | rfl | rfl
                  all_goals
                    go_wp2_with fail
                    go_round
                    case rel => exact ⟨c + 1, by omega, by go_num, by go_num, fineTo_step HG.out HB.out (by omega)⟩
                    case measure => simp [intOf]; omega
        · obtain rfl : c = 7 := by omega
          have HG' : Hid (fineTo 3 xs 0 (r + 1)) := fineTo_row HG.out
          go_wp2_with fail
          go_round
          case rel => exact ⟨r + 1, by omega, by go_num, by go_num, HG'.out⟩
          case measure => simp [intOf]; omega
    · obtain rfl : r = 7 := by omega
      go_wp2_with fail
      exact bodyPost_ret (v := .agg #[.int .i64 0, .int .i64 (-1)]) (by simp [results, Tryd.results13, go_sem]) rfl ⟨0, -1, rfl, (Below.refl _ _).alloc (Nat.le_refl _) _, Or.inl ⟨rfl, rfl, HF.out⟩⟩
end Go.Proofs.YtnijedeopnjklaaDoor
