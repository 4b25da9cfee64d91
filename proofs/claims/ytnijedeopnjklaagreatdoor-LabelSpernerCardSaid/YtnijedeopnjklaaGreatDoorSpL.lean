/-
  WalkOf of the references, walked at right labels.
-/
import Derived.Test.YtnijedeopnjklaaGreatDoorSpK
namespace Go.Proofs.YtnijedeopnjklaaGreatDoor
open Go Go.RowKit Sper

theorem int_cells2 {w : World} {D g n c : Nat} {xs : List Int} (h : w.ownsRow D 3 1 (.slice (some ⟨g, 0, none⟩) n c) n (intVs xs)) : ∀ i, i < n → w.cell? ⟨g, i, none⟩ = some (.int .i64 (xs.getD i 0)) := by
  intro i hi
  have hl : n = xs.length := by have := h.1; rw [Nat.mul_one] at this; rw [← this]; simp [intVs]
  have h1 : (intVs xs)[i]? = some (.int .i64 (xs.getD i 0)) := by
    simp [intVs, List.getElem?_eq_getElem (show i < xs.length by omega), List.getD_eq_getElem?_getD]
  have h2 := h.cells (g := g) rfl i _ h1
  have e : (⟨g, 0, none⟩ : Addr).add i = ⟨g, i, none⟩ := by
    cases i with
    | zero => rfl
    | succ j => simp [Addr.add]
  rwa [e] at h2
def RWalkPost (n : Nat) (hk : chk (smallL n) (ptsL n) (rim n) = true) (xs : List Int) (w : World) (e : Ending) (w' : World) : Prop :=
  ∃ v T E K i, e = .returned v ∧ Below w.heap.size w w' ∧ w'.ownsRow w.heap.size 3 1 v (K + 1) (intVs ((List.range (K + 1)).map fun i => (T i : Int))) ∧
    1 ≤ i ∧ i ≤ n ∧ Walk (house (smallL n) (ptsL n) (rim n) (labF xs) hk) T E K ∧ E 0 = rimE n i ∧ odD (smallL n) (labF xs) (T K) (E K) = none ∧
    ∀ i', i < i' → i' ≤ n → ¬ Good (smallL n) (ptsL n) (rim n) (labF xs) hk (rimE n i')

set_option maxRecDepth 100000 in
set_option maxHeartbeats 16000000 in
theorem walkOf_ok (n : Nat) (hn1 : 1 ≤ n) (hn : n ≤ 12) (xs : List Int) (lb lo lc : Nat) (w : World) (hlen : xs.length = (ptsL n).length) (hl : Labels (ptsL n) (labF xs))
    (hc : ∀ i, i < xs.length → w.cell? ⟨lb, lo + i, none⟩ = some (.int .i64 (xs.getD i 0)))
    (hex : ∃ i, 1 ≤ i ∧ i ≤ n ∧ Good (smallL n) (ptsL n) (rim n) (labF xs) (chk_all n hn1 hn) (rimE n i)) :
    Calls Tryz.prog 17 #[.int .i64 (n : Int), .slice (some ⟨lb, lo, none⟩) xs.length lc] w (RWalkPost n (chk_all n hn1 hn) xs w) := by
  obtain ⟨i3, hi3, hz30, hz31, hz32⟩ := info_parts Tryz.info3
  have hk := chk_all n hn1 hn
  have hpos := small_pos n
  have hpp := pts_pos n
  have hpl := pts_len n hn
  have hrl := raw_len n hn
  have HR := Lib.hid hl.rng
  have HLEN := Lib.hid hlen.symm
  rw [← hlen] at HR
  have HC := Lib.hid hc
  have HEX := Lib.hid hex
  clear hc hl hlen hex
  generalize hXN : xs.length = XN at *
  clear hXN
  go_enter Tryz.func17, Tryz.ntmps17
  go_wp2_with fail
  refine (spots_nat n hn _).mono ?_
  rintro e w2 ⟨va, rfl, hb2, ho⟩
  obtain ⟨g, cL, rfl⟩ := Joins.ownsRow_form ho hpp
  have HB2 := Lib.hid hb2
  have HO := Lib.hid ho
  clear hb2 ho
  go_wp2_with fail
  refine (smallOf_any n hn1 hn w2).mono ?_
  rintro e w3 ⟨vb, rfl, hb3, hrows⟩
  obtain ⟨g0, cap0, -, -, rfl, -⟩ := rows_tri hrows 0 hpos
  have HB3 := Lib.hid (HB2.out.trans (hb3.mono HB2.out.size))
  have HO3 := Lib.hid (owns_keep (w' := w3) HO.out fun j hj => hb3.block j (HO.out.lt j hj).2)
  have HRW := Lib.hid hrows
  clear hb3 hrows
  go_wp2_with fail
  go_loopw [7] (fun s7 wr => ∃ i : Nat, i ≤ n ∧ s7 = .int .i64 i ∧ Below w3.heap.size w3 wr ∧ ∀ i', i < i' → i' ≤ n → ¬ Good (smallL n) (ptsL n) (rim n) (labF xs) hk (rimE n i')) (fun i _ => (intOf i).toNat)
  case atStart => exact ⟨n, Nat.le_refl _, rfl, Below.refl _ _, fun i' h1 h2 => absurd h1 (by omega)⟩
  case round =>
    obtain ⟨i, hi, rfl, hb, hno⟩ := hrel
    have HNO := Lib.hid hno
    have HBR := Lib.hid hb
    clear hno hb
    have hi1 : 1 ≤ i := by
      apply Classical.byContradiction
      intro h
      obtain ⟨i0, h1, h2, h3⟩ := HEX.out
      exact HNO.out i0 (by omega) h2 h3
    have hidp : decide (0 < i) = true := decide_eq_true (by omega)
    have hidq : decide ((0 : Int) < (i : Int)) = true := decide_eq_true (by omega)
    obtain ⟨wo, rfl⟩ : ∃ wo : World, wo = wr := ⟨_, rfl⟩
    go_wp2_with fail
    go_loopw [8, 9] (fun v s9 wr => ∃ m : Nat, m ≤ (ptsL n).length ∧ s9 = .int .i64 m ∧ Below wo.heap.size wo wr ∧ wr.ownsRow wo.heap.size 3 1 v (endsTo (ptsL n) i m).length (intVs ((endsTo (ptsL n) i m).map fun (k : Nat) => (k : Int)))) (fun _ s _ => (ptsL n).length - (intOf s).toNat)
    case atStart => exact ⟨0, Nat.zero_le _, rfl, Below.refl _ _, by simpa [endsTo, intVs] using World.ownsRow_nil wo wo.heap.size 3 1⟩
    case round =>
      obtain ⟨m, hm, rfl, hbm, hown⟩ := hrel
      have HBM := Lib.hid hbm
      clear hbm
      by_cases hmN : m < (ptsL n).length
      · have hbb := HBR.out.trans (HBM.out.mono HBR.out.size)
        obtain ⟨c0, c1, c2⟩ := cells_at (owns_keep (w' := wr) HO3.out fun j hj => hbb.block j (HO3.out.lt j hj).2) m hmN
        have HST := Lib.hid (endsTo_step (ptsL n) i m)
        have hel := endsTo_len (ptsL n) i m
        generalize endsTo (ptsL n) i m = EL at *
        obtain ⟨⟨pi, pj, pk⟩, hp⟩ : ∃ p, tri (ptsL n) m = p := ⟨_, rfl⟩
        rw [hp] at c0 c1 c2 HST
        unfold endB at HST
        simp only at c0 c1 c2 HST
        clear hp hbb
        have hsz := HBM.out.size
        by_cases b0 : pk = 0
        · have q0 : ((pk : Int) == 0) = true := beq_iff_eq.2 (by omega)
          by_cases b1 : pi = i
          · have q1 : ((pi : Int) == (i : Int)) = true := beq_iff_eq.2 (by omega)
            have HIT := Lib.hid (show (decide (pk = 0) && (decide (pi = i) || decide (pi = i - 1))) = true by simp [b0, b1])
            clear b0 b1
            go_wp2_with (at_builtin; go_must (refine wpList_append_own _ rfl _ _ 22 rfl wo.heap.size 3 i3 (.int .i64 0) 1 8 Tryz.underlying22 hi3 hz30 hz31 hz32 rfl (by decide) _ _ _ rfl (hown.alloc _) ⟨wr.heap.size, 0, none⟩ 1 1 [.int .i64 (m : Int)] rfl rfl (cells_new _ _ _) (fun u hu => by simp at hu; subst hu; rfl) (by unfold maxLen; omega) (by omega) (by simp; omega) ?_); intro v' w5 hown' hgrow hiff
                         have HB5 := Lib.hid ((HBM.out.alloc hsz _).grown hgrow (by simp; omega) (fun j hj => (hown.lt j hj).1))
                         have HOW := Lib.hid hown'
                         clear hiff hgrow hown' hown)
            go_roundw
            case rel => exact ⟨m + 1, by omega, by go_num, HB5.out, by rw [HST.out, if_pos HIT.out, List.length_append]; simpa [intVs] using HOW.out⟩
            case measure => simp [intOf]; omega
          · have q1 : ((pi : Int) == (i : Int)) = false := beq_eq_false_iff_ne.2 (by omega)
            by_cases b2 : pi = i - 1
            · have q2 : ((pi : Int) == (i : Int) - 1) = true := beq_iff_eq.2 (by omega)
              have HIT := Lib.hid (show (decide (pk = 0) && (decide (pi = i) || decide (pi = i - 1))) = true by simp [b0, b2])
              clear b0 b1 b2
              go_wp2_with (at_builtin; go_must (refine wpList_append_own _ rfl _ _ 22 rfl wo.heap.size 3 i3 (.int .i64 0) 1 8 Tryz.underlying22 hi3 hz30 hz31 hz32 rfl (by decide) _ _ _ rfl (hown.alloc _) ⟨wr.heap.size, 0, none⟩ 1 1 [.int .i64 (m : Int)] rfl rfl (cells_new _ _ _) (fun u hu => by simp at hu; subst hu; rfl) (by unfold maxLen; omega) (by omega) (by simp; omega) ?_); intro v' w5 hown' hgrow hiff
                           have HB5 := Lib.hid ((HBM.out.alloc hsz _).grown hgrow (by simp; omega) (fun j hj => (hown.lt j hj).1))
                           have HOW := Lib.hid hown'
                           clear hiff hgrow hown' hown)
              go_roundw
              case rel => exact ⟨m + 1, by omega, by go_num, HB5.out, by rw [HST.out, if_pos HIT.out, List.length_append]; simpa [intVs] using HOW.out⟩
              case measure => simp [intOf]; omega
            · have q2 : ((pi : Int) == (i : Int) - 1) = false := beq_eq_false_iff_ne.2 (by omega)
              have HIT := Lib.hid (show ¬ (decide (pk = 0) && (decide (pi = i) || decide (pi = i - 1))) = true by simp [b1, b2])
              clear b0 b1 b2
              have HOW := Lib.hid hown
              clear hown
              go_wp2_with fail
              go_roundw
              case rel => exact ⟨m + 1, by omega, by go_num, HBM.out, by rw [HST.out, if_neg HIT.out, List.append_nil]; exact HOW.out⟩
              case measure => simp [intOf]; omega
        · have q0 : ((pk : Int) == 0) = false := beq_eq_false_iff_ne.2 (by omega)
          have HIT := Lib.hid (show ¬ (decide (pk = 0) && (decide (pi = i) || decide (pi = i - 1))) = true by simp [b0])
          clear b0
          have HOW := Lib.hid hown
          clear hown
          go_wp2_with fail
          go_roundw
          case rel => exact ⟨m + 1, by omega, by go_num, HBM.out, by rw [HST.out, if_neg HIT.out, List.append_nil]; exact HOW.out⟩
          case measure => simp [intOf]; omega
      · obtain rfl : m = (ptsL n).length := by omega
        rw [ends_is n hn i hi1 hi] at hown
        replace hown := (show wr.ownsRow wo.heap.size 3 1 _ 2 (intVs [((rimE n i).1 : Int), ((rimE n i).2 : Int)]) from hown)
        obtain ⟨gd, cd, rfl⟩ := Joins.ownsRow_form hown (show 0 < 2 by decide)
        have hcd : 2 ≤ cd := by
          rcases hown.2 with ⟨h, -⟩ | ⟨g', c', cur, h, -, -, h3, -⟩
          · cases h
          · cases h; exact h3
        have hd0 := int_cells2 hown 0 (show 0 < 2 by decide)
        have hd1 := int_cells2 hown 1 (show 1 < 2 by decide)
        simp only [List.getD_cons_zero, List.getD_cons_succ] at hd0 hd1
        have hmem : rimE n i ∈ rim n := rim_get n i hi1 hi
        obtain ⟨t0, ht0, hs0⟩ := rim_in n hn1 hn _ hmem
        obtain ⟨l1, l2, -⟩ := side_lt hk _ (tri_mem ht0) _ hs0
        rw [HLEN.out] at l1 l2
        have HMEM := Lib.hid hmem
        have HBW := Lib.hid (HB3.out.trans ((HBR.out.trans (HBM.out.mono HBR.out.size)).mono HB3.out.size))
        have x0 := (HBW.out.cell (p := ⟨lb, lo + (rimE n i).1, none⟩) (mem_lt (HC.out _ l1))).trans (HC.out _ l1)
        have x1 := (HBW.out.cell (p := ⟨lb, lo + (rimE n i).2, none⟩) (mem_lt (HC.out _ l2))).trans (HC.out _ l2)
        have r0 := HR.out _ l1
        have r1 := HR.out _ l2
        obtain ⟨dr, hdr⟩ : ∃ dr, isDoor (labF xs) (rimE n i) = dr := ⟨_, rfl⟩
        have HDR := Lib.hid hdr
        unfold isDoor labF at hdr
        unfold labF at r0 r1
        clear hown hmem hs0 ht0
        generalize hea : (rimE n i).1 = ea at *
        generalize heb : (rimE n i).2 = eb at *
        have HEA := Lib.hid (And.intro hea heb)
        clear hea heb
        generalize xs.getD ea 0 = x at x0 r0 hdr
        generalize xs.getD eb 0 = y at x1 r1 hdr
        go_upto_region 12 with fail
        go_cut [84] (fun s wx => s = .bool (!dr) ∧ ∃ nq, wx = wr.drewN nq)
        case first =>
          rcases r0 with rfl | rfl | rfl <;> rcases r1 with rfl | rfl | rfl
          all_goals
            have hres' := hdr.symm
            simp at hres'
            subst hres'
            clear hdr
            go_quiet (fail)
            go_wp2_with fail
            go_meet
            exact ⟨rfl, nq, rfl⟩
        case rest =>
          obtain ⟨rfl, nq, hwc⟩ := hcut
          subst hwc
          have hbq : Below wr.heap.size wr (wr.drewN nq) := ⟨rfl, rfl, rfl, Nat.le_refl _, fun _ _ => rfl⟩
          have HBQ := Lib.hid ((HBR.out.trans (HBM.out.mono HBR.out.size)).trans (hbq.mono (HBR.out.trans (HBM.out.mono HBR.out.size)).size))
          have hd0' : (wr.drewN nq).cell? ⟨gd, 0, none⟩ = some (.int .i64 (ea : Int)) := hd0
          have hd1' : (wr.drewN nq).cell? ⟨gd, 1, none⟩ = some (.int .i64 (eb : Int)) := hd1
          clear hbq hd0 hd1 x0 x1 r0 r1 hdr
          generalize wr.drewN nq = wq at *
          cases dr with
          | false =>
            have hng : ∀ i', i - 1 < i' → i' ≤ n → ¬ Good (smallL n) (ptsL n) (rim n) (labF xs) hk (rimE n i') := fun i' h1 h2 => by
              rcases (show i' = i ∨ i < i' by omega) with rfl | h
              · intro hg; have := good_door hg; rw [HDR.out] at this; cases this
              · exact HNO.out i' h h2
            have HNG := Lib.hid hng
            clear hng
            go_wp2_with fail
            go_roundw
            case rel => first | exact ⟨i - 1, by omega, by go_num, HBQ.out, HNG.out⟩ | ((repeat apply Exists.intro); exact ⟨⟨i - 1, by omega, by go_num, HBQ.out, HNG.out⟩, rfl⟩)
            case measure => simp [intOf]; omega
          | true =>
            obtain ⟨T, E, K, hW, hE0, hend⟩ := rim_ends hk (rim_in n hn1 hn) HMEM.out HDR.out
            have hbt := HB3.out.trans (HBQ.out.mono HB3.out.size)
            have hT := Lib.hid (fun dead he => rthrough_any (smallL n) (ptsL n) (rim n) xs hk T E K hW dead he _ g0 cap0 lb lo lc XN gd cd wq hrl HLEN.out (HRW.out.below HBQ.out (Nat.le_refl _)) hcd (by rw [hE0, HEA.out.1]; exact hd0') (by rw [hE0, HEA.out.2]; exact hd1') (fun j hj => (hbt.cell (p := ⟨lb, lo + j, none⟩) (mem_lt (HC.out j hj))).trans (HC.out j hj)) HR.out)
            have HW := Lib.hid hW
            have HE0 := Lib.hid hE0
            have HBT := Lib.hid hbt
            clear hW hE0 hbt hd0' hd1'
            rcases hend with hdead | hout
            · have HDE := Lib.hid hdead
              have HT2 := Lib.hid (hT.out true (Or.inl ⟨rfl, hdead⟩))
              clear hT hdead
              go_wp2_with fail
              refine HT2.out.mono ?_
              rintro e w9 ⟨v, rfl, hb9, hv⟩
              have HOWN := Lib.hid (show w9.ownsRow w.heap.size 3 1 v (K + 1) _ from ⟨(hv rfl).1, (hv rfl).2.imp id fun ⟨g, cap, cur, a, b, c⟩ => ⟨g, cap, cur, a, Nat.le_trans HBT.out.size b, c⟩⟩)
              have HBF := Lib.hid (HBT.out.trans (hb9.mono HBT.out.size))
              clear hv hb9
              go_wp2_with fail
              go_ret
              exact ⟨v, T, E, K, i, rfl, HBF.out, HOWN.out, hi1, hi, HW.out, HE0.out, HDE.out, HNO.out⟩
            · have hng : ∀ i', i - 1 < i' → i' ≤ n → ¬ Good (smallL n) (ptsL n) (rim n) (labF xs) hk (rimE n i') := fun i' h1 h2 => by
                rcases (show i' = i ∨ i < i' by omega) with rfl | h
                · rintro ⟨T', E', K', hW', h0, hd⟩
                  exact dead_not_out hk HW.out hW' (HE0.out.trans h0.symm) hout hd
                · exact HNO.out i' h h2
              have HNG := Lib.hid hng
              have HT2 := Lib.hid (hT.out false (Or.inr ⟨rfl, hout⟩))
              clear hT hout hng
              go_wp2_with fail
              refine HT2.out.mono ?_
              rintro e w9 ⟨v, rfl, hb9, -⟩
              have HBF := Lib.hid (HBQ.out.trans (hb9.mono HBQ.out.size))
              clear hb9
              go_wp2_with fail
              go_roundw
              case rel => first | exact ⟨i - 1, by omega, by go_num, HBF.out, HNG.out⟩ | ((repeat apply Exists.intro); exact ⟨⟨i - 1, by omega, by go_num, HBF.out, HNG.out⟩, rfl⟩)
              case measure => simp [intOf]; omega
end Go.Proofs.YtnijedeopnjklaaGreatDoor
