/-
  SmallOf of the references: walked: the rows of the small triangles.
-/
import Derived.Test.YtnijedeopnjklaaGreatDoorSpD
namespace Go.Proofs.YtnijedeopnjklaaGreatDoor
open Go Go.RowKit Sper

def SmSt (w wr : World) (v : Value) (L : List (Nat × Nat × Nat)) : Prop := RowsAt 22 3 wr w.heap.size v (L.map tripL) ∧ Below w.heap.size w wr
theorem SmSt.below {w wr w' : World} {v : Value} {L : List (Nat × Nat × Nat)} (h : SmSt w wr v L) (hb : Below wr.heap.size wr w') : SmSt w w' v L :=
  ⟨h.1.below hb (Nat.le_refl _), h.2.trans (hb.mono h.2.size)⟩
theorem tri_le {n : Nat} (hn : n ≤ 12) {k : Nat} (hk : k < (ptsL n).length) : (tri (ptsL n) k).1 ≤ 12 ∧ (tri (ptsL n) k).2.1 ≤ 12 ∧ (tri (ptsL n) k).2.2 ≤ 12 := by
  have h := tri_mem hk
  unfold ptsL ptsTo at h
  obtain ⟨i, hi, hp⟩ := List.mem_flatMap.1 h
  unfold rowTo at hp
  obtain ⟨q, hq, he⟩ := List.mem_map.1 hp
  have := List.mem_range.1 hi
  have := List.mem_range.1 hq
  have he' : tri (ptsL n) k = (i, q, n - i - q) := he.symm
  rw [he']
  simp only
  omega
set_option maxRecDepth 100000 in
set_option maxHeartbeats 16000000 in
theorem smallOf_any (n : Nat) (hn1 : 1 ≤ n) (hn : n ≤ 12) (w : World) :
    Calls Tryz.prog 8 #[.int .i64 (n : Int)] w fun e w' => ∃ v, e = .returned v ∧ Below w.heap.size w w' ∧ RowsAt 22 3 w' w.heap.size v ((smallL n).map tripL) := by
  obtain ⟨i3, hi3, hz30, hz31, hz32⟩ := info_parts Tryz.info3
  obtain ⟨i22, hi22, hz220, hz221, hz222⟩ := info_parts Tryz.info22
  have HSM := Lib.hid (smallOf_is n hn1 hn)
  have hpp := pts_pos n
  have hpl := pts_len n hn
  have hN : (ptsL n).length ≤ 1000 := by omega
  have HNG := Lib.hid (fun (W : World) (a b : Nat) (ha : a < (ptsL n).length) (hb : b < (ptsL n).length) (d : Nat) (os : Array Obj) => Calls.regrown_of (d := d) (os := os) (near_any (tri (ptsL n) a) (tri (ptsL n) b) (tri_le hn ha) (tri_le hn hb) (Sort.grow (redrawn W d) os)))
  go_enter Tryz.func8, Tryz.ntmps8
  go_wp2_with fail
  refine (spots_nat n hn _).mono ?_
  rintro e w2 ⟨va, rfl, hb2, ho⟩
  obtain ⟨g, cL, rfl⟩ := Joins.ownsRow_form ho hpp
  have HB2 := Lib.hid hb2
  have HO := Lib.hid ho
  clear hb2 ho hpl
  generalize ptsL n = P at *
  go_wp2_with fail
  go_loopw [4, 5] (fun v i wr => ∃ a : Nat, a ≤ P.length ∧ i = .int .i64 a ∧ SmSt w2 wr v (rowA P a)) (fun _ i _ => P.length - (intOf i).toNat)
  case atStart => exact ⟨0, Nat.zero_le _, rfl, RowsAt.nil _ _ _ _, Below.refl _ _⟩
  case round =>
    obtain ⟨a, ha, rfl, hst⟩ := hrel
    obtain ⟨wo, rfl⟩ : ∃ wo : World, wo = wr := ⟨_, rfl⟩
    by_cases haN : a < P.length
    · have HST := Lib.hid hst
      clear hst
      go_wp2_with fail
      go_loopw [4, 6] (fun v i wr => ∃ b : Nat, a + 1 ≤ b ∧ b ≤ P.length ∧ i = .int .i64 b ∧ SmSt w2 wr v (rowA P a ++ rowB P a b)) (fun _ i _ => P.length - (intOf i).toNat)
      case atStart => exact ⟨a + 1, Nat.le_refl _, by omega, by go_num, by rw [rowB_start, List.append_nil]; exact HST.out⟩
      case round =>
        obtain ⟨b, hab, hb, rfl, hst2⟩ := hrel
        clear HST
        obtain ⟨w3, rfl⟩ : ∃ w3 : World, w3 = wr := ⟨_, rfl⟩
        by_cases hbN : b < P.length
        · have hoL := owns_keep (w' := w3) HO.out fun j hj => hst2.2.block j (HO.out.lt j hj).2
          obtain ⟨c0, c1, c2⟩ := cells_at hoL a haN
          obtain ⟨e0, e1, e2⟩ := cells_at hoL b hbN
          have k0 := cell_regrown c0
          have k1 := cell_regrown c1
          have k2 := cell_regrown c2
          have k3 := cell_regrown e0
          have k4 := cell_regrown e1
          have k5 := cell_regrown e2
          have HC := Lib.hid (HNG.out w3 a b haN hbN)
          have HST2 := Lib.hid hst2
          clear hst2 hoL
          go_wp2_with fail
          refine wp_region_quiet_below (by kernel_rfl) (by kernel_rfl) ?_
          repeat (first | go_big_quiet_step (exact HC.out _ _) | quiet_step (exact HC.out _ _))
          refine wpQuiet_nil ?_
          intro _ hw'
          obtain ⟨⟨dq, osq⟩, hw''⟩ := hw'
          subst hw''
          have hbq := below_regrown w3 dq osq
          clear k0 k1 k2 k3 k4 k5 HC c0 c1 c2 e0 e1 e2
          generalize Sort.grow (redrawn w3 dq) osq = w4 at hbq ⊢
          have HST4 := Lib.hid (HST2.out.below hbq)
          clear hbq HST2
          cases hnab : nearB (tri P a) (tri P b) with
          | false =>
            have HROW := Lib.hid (rowB_step P a b (by omega))
            unfold pairT at HROW
            rw [hnab] at HROW
            clear hnab
            go_wp2_with fail
            go_loopw [4, 8] (fun v i wr => i = .int .i64 ((b : Int) + 1) ∧ SmSt w2 wr v (rowA P a ++ rowB P a b)) (fun _ _ _ => 0)
            case atStart => exact ⟨rfl, HST4.out⟩
            case round =>
              obtain ⟨rfl, hst6⟩ := hrel
              clear HST4
              have HST4 := Lib.hid hst6
              clear hst6
              by_cases hbe : ((b : Int) + 1) < (P.length : Int)
              all_goals
                go_wp2_with fail
                go_roundw
                case rel => exact ⟨b + 1, by omega, by omega, by go_num, by rw [HROW.out]; simpa using HST4.out⟩
                case measure => simp [intOf]; omega
          | true =>
            have HROW := Lib.hid (rowB_step P a b (by omega))
            unfold pairT at HROW
            rw [hnab, if_pos rfl] at HROW
            clear hnab
            have hLB : (rowA P a ++ rowB P a b).length ≤ 1100000000 := by
              have h1 := rowA_len P hN a
              have h2 := rowB_len P hN a b
              have h3 : a * 1000000 ≤ 1000 * 1000000 := Nat.mul_le_mul (by omega) (Nat.le_refl _)
              have h4 : b * 1000 ≤ 1000 * 1000 := Nat.mul_le_mul (by omega) (Nat.le_refl _)
              rw [List.length_append]; omega
            generalize hRL : rowA P a ++ rowB P a b = RL at *
            have HRL := Lib.hid hRL
            clear hRL
            go_wp2_with fail
            go_loopw [4, 8] (fun v i wr => ∃ q : Nat, b + 1 ≤ q ∧ q ≤ P.length ∧ i = .int .i64 q ∧ SmSt w2 wr v (RL ++ rowC P a b q)) (fun _ i _ => P.length - (intOf i).toNat)
            case atStart => exact ⟨b + 1, Nat.le_refl _, by omega, by go_num, by rw [rowC_start, List.append_nil]; exact HST4.out⟩
            case round =>
              obtain ⟨q, hbq', hq, rfl, hst5⟩ := hrel
              clear HST4
              obtain ⟨w5, rfl⟩ : ∃ w5 : World, w5 = wr := ⟨_, rfl⟩
              by_cases hqN : q < P.length
              · have HST5 := Lib.hid hst5
                have hq0 : decide ((q : Int) < (P.length : Int)) = true := decide_eq_true (by omega)
                have hq1 : decide (q < P.length) = true := decide_eq_true hqN
                clear hst5
                have hoL5 := owns_keep (w' := w5) HO.out fun j hj => HST5.out.2.block j (HO.out.lt j hj).2
                obtain ⟨c0, c1, c2⟩ := cells_at hoL5 a haN
                obtain ⟨e0, e1, e2⟩ := cells_at hoL5 q hqN
                have k0 := cell_regrown c0
                have k1 := cell_regrown c1
                have k2 := cell_regrown c2
                have k3 := cell_regrown e0
                have k4 := cell_regrown e1
                have k5 := cell_regrown e2
                have HC := Lib.hid (HNG.out w5 a q haN hqN)
                clear hoL5
                go_wp2_with fail
                refine wp_region_quiet_below (by kernel_rfl) (by kernel_rfl) ?_
                repeat (first | go_big_quiet_step (exact HC.out _ _) | quiet_step (exact HC.out _ _))
                refine wpQuiet_nil ?_
                intro _ hw'
                obtain ⟨⟨dq, osq⟩, hw''⟩ := hw'
                subst hw''
                have hbq := below_regrown w5 dq osq
                clear k0 k1 k2 k3 k4 k5 HC c0 c1 c2 e0 e1 e2
                generalize Sort.grow (redrawn w5 dq) osq = w6 at hbq ⊢
                have HST6 := Lib.hid (HST5.out.below hbq)
                clear hbq
                clear HST5 hq0 hq1
                have hoL6 := owns_keep (w' := w6) HO.out fun j hj => HST6.out.2.block j (HO.out.lt j hj).2
                obtain ⟨c0, c1, c2⟩ := cells_at hoL6 b hbN
                obtain ⟨e0, e1, e2⟩ := cells_at hoL6 q hqN
                have k0 := cell_regrown c0
                have k1 := cell_regrown c1
                have k2 := cell_regrown c2
                have k3 := cell_regrown e0
                have k4 := cell_regrown e1
                have k5 := cell_regrown e2
                have HC := Lib.hid (HNG.out w6 b q hbN hqN)
                clear hoL6
                go_wp2_with fail
                refine wp_region_quiet_below (by kernel_rfl) (by kernel_rfl) ?_
                repeat (first | go_big_quiet_step (exact HC.out _ _) | quiet_step (exact HC.out _ _))
                refine wpQuiet_nil ?_
                intro _ hw'
                obtain ⟨⟨dq, osq⟩, hw''⟩ := hw'
                subst hw''
                have hbq := below_regrown w6 dq osq
                clear k0 k1 k2 k3 k4 k5 HC c0 c1 c2 e0 e1 e2
                generalize Sort.grow (redrawn w6 dq) osq = w7 at hbq ⊢
                have HST7 := Lib.hid (HST6.out.below hbq)
                clear hbq
                clear HST6
                have HST := Lib.hid (rowC_step P a b q (by omega))
                have hCL := rowC_len P a b q
                generalize rowC P a b q = RC at *
                have HTOT : (RL ++ RC).length ≤ 1200000000 := by rw [List.length_append]; omega
                generalize hLL : RL ++ RC = LL at *
                have HLL := Lib.hid hLL
                clear hLL hLB hCL
                cases hx : nearB (tri P a) (tri P q) with
                | false =>
                  rw [hx] at HST
                  clear hx
                  cases hy : nearB (tri P b) (tri P q) with
                  | false =>
                    rw [hy] at HST
                    clear hy
                    go_wp2_with fail
                    go_roundw
                    case rel => exact ⟨q + 1, by omega, by omega, by go_num, by rw [HST.out]; simpa [HLL.out] using HST7.out⟩
                    case measure => simp [intOf]; omega
                  | true =>
                    rw [hy] at HST
                    clear hy
                    go_wp2_with fail
                    go_roundw
                    case rel => exact ⟨q + 1, by omega, by omega, by go_num, by rw [HST.out]; simpa [HLL.out] using HST7.out⟩
                    case measure => simp [intOf]; omega
                | true =>
                  rw [hx] at HST
                  clear hx
                  cases hy : nearB (tri P b) (tri P q) with
                  | false =>
                    rw [hy] at HST
                    clear hy
                    go_wp2_with fail
                    go_roundw
                    case rel => exact ⟨q + 1, by omega, by omega, by go_num, by rw [HST.out]; simpa [HLL.out] using HST7.out⟩
                    case measure => simp [intOf]; omega
                  | true =>
                    rw [hy] at HST
                    clear hy
                    obtain ⟨hR, hb7⟩ := HST7.out
                    have hlen : (LL.map tripL).length ≤ 1200000000 := by rw [List.length_map]; exact HTOT
                    generalize hLM : LL.map tripL = LM at hR hlen
                    have HLM := Lib.hid hLM
                    clear hLM HST7
                    go_wp2_with (first
                      | (at_builtin
                         (refine wpList_append_own _ rfl _ _ 32 rfl w2.heap.size 22 i22 (.slice none 0 0) 1 24 Tryz.underlying32 hi22 hz220 hz221 hz222 rfl (by decide) _ _ _ rfl (h1.alloc _) ⟨w8.heap.size, 0, none⟩ 1 1 [.slice (some ⟨g1, 0, none⟩) 3 c1] rfl rfl (cells_new _ _ _) (fun u hu => by simp at hu; subst hu; rfl) (by unfold maxLen; omega) (by omega) (by have := hb1.size; simp; omega) ?_)
                         intro v2 w9 hown2 hgr2 _)
                      | (at_builtin
                         go_must (refine wpList_append_own _ rfl _ _ 22 rfl w2.heap.size 3 i3 (.int .i64 0) 1 8 Tryz.underlying22 hi3 hz30 hz31 hz32 rfl (by decide) _ 0 [] rfl (World.ownsRow_nil _ _ _ _) ⟨w7.heap.size, 0, none⟩ 3 3 [.int .i64 (a : Int), .int .i64 (b : Int), .int .i64 (q : Int)] rfl rfl (cells_new _ _ _) (fun u hu => by simp at hu; rcases hu with rfl | rfl | rfl <;> rfl) (by unfold maxLen; omega) (by omega) (by have hbs : w2.heap.size ≤ w7.heap.size := hb7.size; simp; omega) ?_)
                         intro v1 w8 hown1 hgr1 _
                         obtain ⟨g1, c1, rfl⟩ := Joins.ownsRow_form hown1 (by decide)
                         have hr1 := ((hR.grown_none (World.grownBy_alloc _ (.cells #[.int .i64 (a : Int), .int .i64 (b : Int), .int .i64 (q : Int)] 3) none)).grown_none hgr1)
                         have hb1 : Below w2.heap.size w2 w8 := (hb7.alloc hb7.size _).grown hgr1 (by have hbs : w2.heap.size ≤ w7.heap.size := hb7.size; simp; omega) (fun j hj => by cases hj)
                         obtain ⟨hs, h1, h2, h3⟩ := hr1
                         clear hgr1 hR hb7))
                    have hpush := rows_push (xs := tripL (a, b, q)) (by decide) (h1.alloc _) h2 (fun i hi => (h3 i hi).alloc _) (hown1.alloc _) hown2 hgr2
                    have hbl : Below w2.heap.size w2 w9 := (hb1.alloc hb1.size _).grown hgr2 (by have := hb1.size; simp; omega) (fun j hj => (h1.lt j hj).1)
                    clear hgr2 hown2 h1 h2 h3 hown1 hb1
                    go_wp2
                    go_roundw
                    case rel => exact ⟨q + 1, by omega, by omega, by go_num, by rw [HST.out, ← List.append_assoc, HLL.out]; exact ⟨by rw [← HLM.out] at hpush; simpa using hpush, hbl⟩⟩
                    case measure => simp [intOf]; omega
              · obtain rfl : q = P.length := by omega
                have hrow : SmSt w2 w5 u4 (rowA P a ++ rowB P a (b + 1)) := by rw [HROW.out, ← List.append_assoc, HRL.out]; exact hst5
                have HRW := Lib.hid hrow
                clear hst5 hrow
                go_wp2_with fail
                go_roundw
                case rel => exact ⟨b + 1, by omega, by omega, by go_num, HRW.out⟩
                case measure => simp [intOf]; omega
        · obtain rfl : b = P.length := by omega
          have HRW := Lib.hid (show SmSt w2 w3 u4 (rowA P (a + 1)) by rw [rowA_step]; exact hst2)
          clear hst2
          go_wp2_with fail
          go_roundw
          case rel => exact ⟨a + 1, by omega, by go_num, HRW.out⟩
          case measure => simp [intOf]; omega
    · obtain rfl : a = P.length := by omega
      have HRW := Lib.hid hst
      clear hst
      go_wp2_with fail
      go_ret
      exact ⟨_, rfl, HB2.out.trans (HRW.out.2.mono HB2.out.size), by rw [← HSM.out]; exact HRW.out.1.le HB2.out.size⟩
end Go.Proofs.YtnijedeopnjklaaGreatDoor
