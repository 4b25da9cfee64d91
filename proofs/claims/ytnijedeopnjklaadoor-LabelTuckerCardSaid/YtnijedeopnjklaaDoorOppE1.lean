/-
  Opposite at some n, the labels right (written by a program of mine).
-/
import Derived.Test.YtnijedeopnjklaaDoorOppD1
namespace Go.Proofs.YtnijedeopnjklaaDoor
open Go Go.RowKit

theorem way_1 (xs : List Int) (k : Nat) : (3 ≤ k % 3 + 1 ∧ 3 ≤ k / 3 + 1 ∧ stepL 1 xs (outTo 1 xs k) k = (outTo 1 xs k)) ∨ (k % 3 + 1 < 3 ∧ 3 ≤ k / 3 + 1 ∧ stepL 1 xs (outTo 1 xs k) k = (putL xs (outTo 1 xs k) k (k + 1))) ∨ (3 ≤ k % 3 + 1 ∧ k / 3 + 1 < 3 ∧ stepL 1 xs (outTo 1 xs k) k = (putL xs (outTo 1 xs k) k (k + 3))) ∨ (k % 3 + 1 < 3 ∧ k / 3 + 1 < 3 ∧ k % 3 < 1 ∧ k / 3 < 1 ∧ stepL 1 xs (outTo 1 xs k) k = (putL xs (putL xs (putL xs (outTo 1 xs k) k (k + 1)) k (k + 3)) k (k + 3 + 1))) ∨ (k % 3 + 1 < 3 ∧ k / 3 + 1 < 3 ∧ k % 3 < 1 ∧ 1 ≤ k / 3 ∧ stepL 1 xs (outTo 1 xs k) k = (putL xs (putL xs (putL xs (outTo 1 xs k) k (k + 1)) k (k + 3)) (k + 1) (k + 3))) ∨ (k % 3 + 1 < 3 ∧ k / 3 + 1 < 3 ∧ 1 ≤ k % 3 ∧ k / 3 < 1 ∧ stepL 1 xs (outTo 1 xs k) k = (putL xs (putL xs (putL xs (outTo 1 xs k) k (k + 1)) k (k + 3)) (k + 1) (k + 3))) ∨ (k % 3 + 1 < 3 ∧ k / 3 + 1 < 3 ∧ 1 ≤ k % 3 ∧ 1 ≤ k / 3 ∧ stepL 1 xs (outTo 1 xs k) k = (putL xs (putL xs (putL xs (outTo 1 xs k) k (k + 1)) k (k + 3)) k (k + 3 + 1))) := by
  unfold stepL
  by_cases hx : k % 3 + 1 < 3 <;> by_cases hy : k / 3 + 1 < 3 <;> by_cases gx : 1 ≤ k % 3 <;> by_cases gy : 1 ≤ k / 3 <;>
    simp [hx, hy, gx, gy] <;> omega

set_option maxRecDepth 100000 in
set_option maxHeartbeats 16000000 in
theorem opp_ok_1 (xs : List Int) (b off cap : Nat) (w : World) (hlen : xs.length = 9)
    (hc : ∀ i, i < 9 → w.cell? ⟨b, off + i, none⟩ = some (.int .i64 (xs.getD i 0)))
    (hf : fineK 1 xs 9) :
    Calls Tryd.prog 12 #[.int .i64 1, .slice (some ⟨b, off, none⟩) 9 cap] w (OkPost 1 xs w) := by
  have hbb : Below w.heap.size w (w.alloc (.cells #[.slice (some ⟨b, off, none⟩) 9 cap] 22)) := (Below.refl _ _).alloc (Nat.le_refl _) _
  have hc1 : ∀ i, i < 9 → (w.alloc (.cells #[.slice (some ⟨b, off, none⟩) 9 cap] 22)).cell? ⟨b, off + i, none⟩ = some (.int .i64 (xs.getD i 0)) := fun i hi => by
    rw [hbb.cell (mem_lt (hc i hi))]; exact hc i hi
  have hblt : b < w.heap.size := mem_lt (hc 0 (by omega))
  have HC := Lib.hid hc1
  have HF := Lib.hid hf
  have HLEN := Lib.hid hlen
  have HBD := Lib.hid (fun j (hj : j < 9) => fine_bd hf j hj)
  have hbbH := Lib.hid hbb
  clear hc hc1 hf hlen hbb
  go_enter Tryd.func12, Tryd.ntmps12
  go_wp2
  go_loop [34] (fun i => ∃ k : Nat, k ≤ 9 ∧ i = .int .i64 k) (fun i => 9 - (intOf i).toNat)
  case atStart => exact ⟨0, Nat.zero_le _, rfl⟩
  case round =>
    obtain ⟨k, hk, rfl⟩ := hrel
    by_cases hks : k < 9
    · have c1 := HC.out k hks
      have c2 := HC.out (8 - k) (by omega)
      obtain ⟨v, hv⟩ : ∃ v, xs.getD k 0 = v := ⟨_, rfl⟩
      obtain ⟨u, hu⟩ : ∃ u, xs.getD (8 - k) 0 = u := ⟨_, rfl⟩
      rw [hu] at c2
      rw [hv] at c1
      have HAT : Hid (badAt 1 xs (k % 3) (k / 3) = (isNone v || isRim 1 (k % 3) (k / 3) && !(u == -v))) := by
        unfold Hid badAt
        simp only [show k / 3 * (2 * 1 + 1) + k % 3 = k from by omega, show (2 * 1 - k / 3) * (2 * 1 + 1) + (2 * 1 - k % 3) = 8 - k from by omega, hv, hu]
      clear hv hu
      have HB : Hid (badAt 1 xs (k % 3) (k / 3) = false) := HF.out k hks
      go_upto_region 9 with fail
      go_cut [9] (fun s9 wx => s9 = .bool (isRim 1 (k % 3) (k / 3)) ∧ wx = (w.alloc (.cells #[.slice (some ⟨b, off, none⟩) 9 cap] 22)))
      case first =>
        rcases rimP_1 k hks with ⟨e, e1⟩ | ⟨e, e1, e2⟩ | ⟨e, e1, e2, e3⟩ | ⟨e, e1, e2, e3, e4⟩ | ⟨e, e1, e2, e3, e4⟩
        all_goals
          have E := Lib.hid e
          clear e
          go_wp2_with fail
          go_meet
          exact ⟨by rw [E.out], rfl⟩
      case rest =>
        obtain ⟨rfl, hwc⟩ := hcut
        subst hwc
        go_upto_region 10 with fail
        rcases none3 v with ⟨e, -⟩ | ⟨e, hvv⟩
        · exfalso
          have h1 := HAT.out
          rw [HB.out, e] at h1
          simp at h1
        · by_cases hrim : isRim 1 (k % 3) (k / 3) = true
          · have huv : u = -v := by
              have h1 := HAT.out
              rw [HB.out, e, hrim] at h1
              simpa using h1.symm
            subst huv
            rw [hrim]
            clear e hrim
            rcases hvv with rfl | rfl | rfl | rfl
            all_goals
              go_wp2_with fail
              go_round
              case rel => exact ⟨k + 1, by omega, by go_num⟩
              case measure => simp [intOf]; omega
          · have hrim' : isRim 1 (k % 3) (k / 3) = false := by simpa using hrim
            rw [hrim']
            clear e hrim hrim'
            rcases hvv with rfl | rfl | rfl | rfl
            all_goals
              go_wp2_with fail
              go_round
              case rel => exact ⟨k + 1, by omega, by go_num⟩
              case measure => simp [intOf]; omega
    · obtain rfl : k = 9 := by omega
      go_wp2_with fail
      obtain ⟨w1, hw1⟩ : ∃ w1, w1 = (w.alloc (.cells #[.slice (some ⟨b, off, none⟩) 9 cap] 22)).alloc (.cells #[.slice none 0 0] 39) := ⟨_, rfl⟩
      rw [← hw1]
      have hsz : w.heap.size + 1 < w1.heap.size := by rw [hw1]; simp
      have hbw1 : Below w.heap.size w w1 := by rw [hw1]; exact hbbH.out.alloc (by simp) _
      have HST0 : Hid (St w1 (w.heap.size + 1) w1 (outTo 1 xs 0)) := ⟨.slice none 0 0, by rw [hw1]; have h := heap_alloc_new (w.alloc (.cells #[.slice (some ⟨b, off, none⟩) 9 cap] 22)) (.cells #[.slice none 0 0] 39); rw [World.size_alloc] at h; exact h, World.ownsRow_nil _ _ _ _, Below.refl _ _⟩
      have HL : Hid (w1.cell? ⟨w.heap.size, 0, none⟩ = some (.slice (some ⟨b, off, none⟩) 9 cap)) := by unfold Hid; rw [hw1]; simp
      have HCW : Hid (∀ i, i < 9 → w1.cell? ⟨b, off + i, none⟩ = some (.int .i64 (xs.getD i 0))) := fun i hi => by
        rw [hw1, World.cell?_alloc_lt _ _ _ (by simp; omega)]; exact HC.out i hi
      have hbB : b < w.heap.size + 1 := by omega
      have HBW := Lib.hid hbw1
      clear hw1 hbw1
      go_loopw [101] (fun i wr => ∃ k : Nat, k ≤ 9 ∧ i = .int .i64 k ∧ St w1 (w.heap.size + 1) wr (outTo 1 xs k)) (fun i _ => 9 - (intOf i).toNat)
      case atStart => exact ⟨0, Nat.zero_le _, rfl, HST0.out⟩
      case round =>
        obtain ⟨k, hk, rfl, hst⟩ := hrel
        by_cases hks : k < 9
        · have hol := outTo_length 1 xs k
          rcases way_1 xs k with ⟨hx, hy, hfin⟩ | ⟨hx, hy, hfin⟩ | ⟨hx, hy, hfin⟩ | ⟨hx, hy, gx, gy, hfin⟩ | ⟨hx, hy, gx, gy, hfin⟩ | ⟨hx, hy, gx, gy, hfin⟩ | ⟨hx, hy, gx, gy, hfin⟩
          · have HFIN := Lib.hid hfin
            clear hfin
            clear hbbH
            go_wp2_with fail
            go_quiet (fail)
            replace hst := hst.drewN nq
            go_wp2_with fail
            go_roundw
            case rel => exact ⟨k + 1, by omega, by go_num, by rw [outTo, HFIN.out]; exact hst⟩
            case measure => simp [intOf]; omega
          · have HFIN := Lib.hid hfin
            clear hfin
            clear hbbH
            go_wp2_with fail
            go_quiet (fail)
            replace hst := hst.drewN nq
            have hl0 := putL_length xs (outTo 1 xs k) k (k + 1)
            go_wp2_with fail
            refine (put_st xs b off cap w.heap.size (w.heap.size + 1) w1 _ _ 9 HLEN.out HL.out (Nat.lt_succ_self _) hbB HCW.out HBD.out hst k (k + 1) _ _ (by omega) (by omega) (by omega) (by omega) (by omega)).mono ?_
            clear hst
            rintro e wz ⟨rfl, hst⟩
            go_wp2_with fail
            go_roundw
            case rel => exact ⟨k + 1, by omega, by go_num, by rw [outTo, HFIN.out]; exact hst⟩
            case measure => simp [intOf]; omega
          · have HFIN := Lib.hid hfin
            clear hfin
            clear hbbH
            go_wp2_with fail
            go_quiet (fail)
            replace hst := hst.drewN nq
            have hl0 := putL_length xs (outTo 1 xs k) k (k + 3)
            go_wp2_with fail
            refine (put_st xs b off cap w.heap.size (w.heap.size + 1) w1 _ _ 9 HLEN.out HL.out (Nat.lt_succ_self _) hbB HCW.out HBD.out hst k (k + 3) _ _ (by omega) (by omega) (by omega) (by omega) (by omega)).mono ?_
            clear hst
            rintro e wz ⟨rfl, hst⟩
            go_wp2_with fail
            go_roundw
            case rel => exact ⟨k + 1, by omega, by go_num, by rw [outTo, HFIN.out]; exact hst⟩
            case measure => simp [intOf]; omega
          · have HFIN := Lib.hid hfin
            clear hfin
            clear hbbH
            have d1 : decide ((1 : Int) ≤ (k : Int) % 3) = false := decide_eq_false (by omega)
            have d2 : decide ((1 : Int) ≤ (k : Int) / 3) = false := decide_eq_false (by omega)
            have d3 : (decide ((1 : Int) ≤ (k : Int) % 3) == decide ((1 : Int) ≤ (k : Int) / 3)) = true := by rw [d1, d2]; rfl
            clear d1 d2
            go_wp2_with fail
            go_quiet (fail)
            replace hst := hst.drewN nq
            have hl0 := putL_length xs (outTo 1 xs k) k (k + 1)
            go_wp2_with fail
            refine (put_st xs b off cap w.heap.size (w.heap.size + 1) w1 _ _ 9 HLEN.out HL.out (Nat.lt_succ_self _) hbB HCW.out HBD.out hst k (k + 1) _ _ (by omega) (by omega) (by omega) (by omega) (by omega)).mono ?_
            clear hst
            rintro e wz ⟨rfl, hst⟩
            have hl1 := putL_length xs (putL xs (outTo 1 xs k) k (k + 1)) k (k + 3)
            go_wp2_with fail
            refine (put_st xs b off cap w.heap.size (w.heap.size + 1) w1 _ _ 9 HLEN.out HL.out (Nat.lt_succ_self _) hbB HCW.out HBD.out hst k (k + 3) _ _ (by omega) (by omega) (by omega) (by omega) (by omega)).mono ?_
            clear hst
            rintro e wz ⟨rfl, hst⟩
            have hl2 := putL_length xs (putL xs (putL xs (outTo 1 xs k) k (k + 1)) k (k + 3)) k (k + 3 + 1)
            go_wp2_with fail
            refine (put_st xs b off cap w.heap.size (w.heap.size + 1) w1 _ _ 9 HLEN.out HL.out (Nat.lt_succ_self _) hbB HCW.out HBD.out hst k (k + 3 + 1) _ _ (by omega) (by omega) (by omega) (by omega) (by omega)).mono ?_
            clear hst
            rintro e wz ⟨rfl, hst⟩
            go_wp2_with fail
            go_roundw
            case rel => exact ⟨k + 1, by omega, by go_num, by rw [outTo, HFIN.out]; exact hst⟩
            case measure => simp [intOf]; omega
          · have HFIN := Lib.hid hfin
            clear hfin
            clear hbbH
            have d1 : decide ((1 : Int) ≤ (k : Int) % 3) = false := decide_eq_false (by omega)
            have d2 : decide ((1 : Int) ≤ (k : Int) / 3) = true := decide_eq_true (by omega)
            have d3 : (decide ((1 : Int) ≤ (k : Int) % 3) == decide ((1 : Int) ≤ (k : Int) / 3)) = false := by rw [d1, d2]; rfl
            clear d1 d2
            go_wp2_with fail
            go_quiet (fail)
            replace hst := hst.drewN nq
            have hl0 := putL_length xs (outTo 1 xs k) k (k + 1)
            go_wp2_with fail
            refine (put_st xs b off cap w.heap.size (w.heap.size + 1) w1 _ _ 9 HLEN.out HL.out (Nat.lt_succ_self _) hbB HCW.out HBD.out hst k (k + 1) _ _ (by omega) (by omega) (by omega) (by omega) (by omega)).mono ?_
            clear hst
            rintro e wz ⟨rfl, hst⟩
            have hl1 := putL_length xs (putL xs (outTo 1 xs k) k (k + 1)) k (k + 3)
            go_wp2_with fail
            refine (put_st xs b off cap w.heap.size (w.heap.size + 1) w1 _ _ 9 HLEN.out HL.out (Nat.lt_succ_self _) hbB HCW.out HBD.out hst k (k + 3) _ _ (by omega) (by omega) (by omega) (by omega) (by omega)).mono ?_
            clear hst
            rintro e wz ⟨rfl, hst⟩
            have hl2 := putL_length xs (putL xs (putL xs (outTo 1 xs k) k (k + 1)) k (k + 3)) (k + 1) (k + 3)
            go_wp2_with fail
            refine (put_st xs b off cap w.heap.size (w.heap.size + 1) w1 _ _ 9 HLEN.out HL.out (Nat.lt_succ_self _) hbB HCW.out HBD.out hst (k + 1) (k + 3) _ _ (by omega) (by omega) (by omega) (by omega) (by omega)).mono ?_
            clear hst
            rintro e wz ⟨rfl, hst⟩
            go_wp2_with fail
            go_roundw
            case rel => exact ⟨k + 1, by omega, by go_num, by rw [outTo, HFIN.out]; exact hst⟩
            case measure => simp [intOf]; omega
          · have HFIN := Lib.hid hfin
            clear hfin
            clear hbbH
            have d1 : decide ((1 : Int) ≤ (k : Int) % 3) = true := decide_eq_true (by omega)
            have d2 : decide ((1 : Int) ≤ (k : Int) / 3) = false := decide_eq_false (by omega)
            have d3 : (decide ((1 : Int) ≤ (k : Int) % 3) == decide ((1 : Int) ≤ (k : Int) / 3)) = false := by rw [d1, d2]; rfl
            clear d1 d2
            go_wp2_with fail
            go_quiet (fail)
            replace hst := hst.drewN nq
            have hl0 := putL_length xs (outTo 1 xs k) k (k + 1)
            go_wp2_with fail
            refine (put_st xs b off cap w.heap.size (w.heap.size + 1) w1 _ _ 9 HLEN.out HL.out (Nat.lt_succ_self _) hbB HCW.out HBD.out hst k (k + 1) _ _ (by omega) (by omega) (by omega) (by omega) (by omega)).mono ?_
            clear hst
            rintro e wz ⟨rfl, hst⟩
            have hl1 := putL_length xs (putL xs (outTo 1 xs k) k (k + 1)) k (k + 3)
            go_wp2_with fail
            refine (put_st xs b off cap w.heap.size (w.heap.size + 1) w1 _ _ 9 HLEN.out HL.out (Nat.lt_succ_self _) hbB HCW.out HBD.out hst k (k + 3) _ _ (by omega) (by omega) (by omega) (by omega) (by omega)).mono ?_
            clear hst
            rintro e wz ⟨rfl, hst⟩
            have hl2 := putL_length xs (putL xs (putL xs (outTo 1 xs k) k (k + 1)) k (k + 3)) (k + 1) (k + 3)
            go_wp2_with fail
            refine (put_st xs b off cap w.heap.size (w.heap.size + 1) w1 _ _ 9 HLEN.out HL.out (Nat.lt_succ_self _) hbB HCW.out HBD.out hst (k + 1) (k + 3) _ _ (by omega) (by omega) (by omega) (by omega) (by omega)).mono ?_
            clear hst
            rintro e wz ⟨rfl, hst⟩
            go_wp2_with fail
            go_roundw
            case rel => exact ⟨k + 1, by omega, by go_num, by rw [outTo, HFIN.out]; exact hst⟩
            case measure => simp [intOf]; omega
          · have HFIN := Lib.hid hfin
            clear hfin
            clear hbbH
            have d1 : decide ((1 : Int) ≤ (k : Int) % 3) = true := decide_eq_true (by omega)
            have d2 : decide ((1 : Int) ≤ (k : Int) / 3) = true := decide_eq_true (by omega)
            have d3 : (decide ((1 : Int) ≤ (k : Int) % 3) == decide ((1 : Int) ≤ (k : Int) / 3)) = true := by rw [d1, d2]; rfl
            clear d1 d2
            go_wp2_with fail
            go_quiet (fail)
            replace hst := hst.drewN nq
            have hl0 := putL_length xs (outTo 1 xs k) k (k + 1)
            go_wp2_with fail
            refine (put_st xs b off cap w.heap.size (w.heap.size + 1) w1 _ _ 9 HLEN.out HL.out (Nat.lt_succ_self _) hbB HCW.out HBD.out hst k (k + 1) _ _ (by omega) (by omega) (by omega) (by omega) (by omega)).mono ?_
            clear hst
            rintro e wz ⟨rfl, hst⟩
            have hl1 := putL_length xs (putL xs (outTo 1 xs k) k (k + 1)) k (k + 3)
            go_wp2_with fail
            refine (put_st xs b off cap w.heap.size (w.heap.size + 1) w1 _ _ 9 HLEN.out HL.out (Nat.lt_succ_self _) hbB HCW.out HBD.out hst k (k + 3) _ _ (by omega) (by omega) (by omega) (by omega) (by omega)).mono ?_
            clear hst
            rintro e wz ⟨rfl, hst⟩
            have hl2 := putL_length xs (putL xs (putL xs (outTo 1 xs k) k (k + 1)) k (k + 3)) k (k + 3 + 1)
            go_wp2_with fail
            refine (put_st xs b off cap w.heap.size (w.heap.size + 1) w1 _ _ 9 HLEN.out HL.out (Nat.lt_succ_self _) hbB HCW.out HBD.out hst k (k + 3 + 1) _ _ (by omega) (by omega) (by omega) (by omega) (by omega)).mono ?_
            clear hst
            rintro e wz ⟨rfl, hst⟩
            go_wp2_with fail
            go_roundw
            case rel => exact ⟨k + 1, by omega, by go_num, by rw [outTo, HFIN.out]; exact hst⟩
            case measure => simp [intOf]; omega
        · obtain rfl : k = 9 := by omega
          obtain ⟨vv, hB, hO, hbl⟩ := hst
          obtain ⟨cB, -⟩ := cell_of_block hB
          have hlO : (outTo 1 xs 9).length ≤ 100000 := by have := outTo_length 1 xs 9; omega
          have HB := Lib.hid hB
          have HO := Lib.hid hO
          have HBL := Lib.hid hbl
          clear hB hO hbl
          go_wp2_with fail
          refine (sort2_any (w.heap.size + 1 + 1) vv _ wr hlO HO.out).mono ?_
          rintro e w2 ⟨rfl, hO2, hg2⟩
          have hvlt := HO.out.lt
          have hBne : some (w.heap.size + 1) ≠ vv.ownBlock := fun e => by have := (hvlt _ e.symm).1; omega
          have hB2 : w2.heap[w.heap.size + 1]? = some (.cells #[vv] 39 (0, 0)) := by
            rw [hg2.block _ ((Array.getElem?_eq_some_iff.1 HB.out).1) hBne]; exact HB.out
          obtain ⟨cB2, -⟩ := cell_of_block hB2
          have hb2 : Below w.heap.size w w2 := (HBW.out.trans (HBL.out.mono (by omega))).grown hg2 (Nat.le_trans HBW.out.size HBL.out.size) (fun j hj => by have := (hvlt j hj).1; omega)
          have HB2 := Lib.hid hb2
          have HO2 := Lib.hid hO2
          clear hB2 hg2 hO2 hb2 hBne hvlt
          go_wp2_with fail
          go_ret2
          exact ⟨_, rfl, HB2.out, Joins.ownsRow_le HO2.out (by omega)⟩
end Go.Proofs.YtnijedeopnjklaaDoor
