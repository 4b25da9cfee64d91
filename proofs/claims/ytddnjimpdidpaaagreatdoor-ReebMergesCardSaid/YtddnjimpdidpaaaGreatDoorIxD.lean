/-
  reeb.Check by a contract: the error's number.
-/
import Derived.Test.YtddnjimpdidpaaaGreatDoorIxC
import Derived.IntWalk
set_option linter.unusedSimpArgs false
set_option linter.unusedVariables false
namespace Go.Proofs.YtddnjimpdidpaaaGreatDoor
open Go Go.RowKit Go.Maps

open Classical in
noncomputable def errR (L : List (List Int)) (h : List Int) : Nat := if errX L = 0 then (if okH (vertA L) h then 0 else 3) else errX L
theorem errR_ok {L : List (List Int)} {h : List Int} (h0 : errX L = 0) (hk : okH (vertA L) h) : errR L h = 0 := by unfold errR; rw [if_pos h0, if_pos hk]
theorem errR_3 {L : List (List Int)} {h : List Int} (h0 : errX L = 0) (hk : ¬ okH (vertA L) h) : errR L h = 3 := by unfold errR; rw [if_pos h0, if_neg hk]
theorem wrap_n {x : Int} {n : Nat} (h : x = (n : Int)) (hn : n ≤ 9000000000000000000) : IntKind.i64.wrap x = (n : Int) := by
  subst h
  exact IntWalk.i64_in _ (by omega)
theorem flat_bd' {k : Nat} : ∀ {L : List (List Int)}, (∀ l ∈ L, l.length ≤ k) → L.flatten.length ≤ L.length * k
  | [], _ => by simp
  | x :: L, h => by
    have ih := flat_bd' (L := L) fun l hl => h l (List.mem_cons_of_mem _ hl)
    have h1 := h x (List.mem_cons_self ..)
    rw [List.flatten_cons, List.length_append, List.length_cons, Nat.succ_mul]; omega
theorem right_small {L : List (List Int)} (h : errX L = 0) : L.flatten.length ≤ 100000 ∧ (vertA L).length ≤ 100000 := by
  obtain ⟨h1, h2⟩ := errX_ok h
  have a := made_len h1
  have b := made_bd h1
  rw [← h2] at a b
  have c := flat_bd' (k := 7) b
  have d : L.length * 7 ≤ 600 * 7 := Nat.mul_le_mul_right _ a
  have e : (vertA L).length ≤ L.flatten.length := setL_len _
  omega
theorem row_cell {O g cap n : Nat} {w : World} {s : List Int} (h : w.ownsRow O 3 1 (.slice (some ⟨g, 0, none⟩) n cap) n (intVs s)) (hl : s.length = n) (i : Nat) (hi : i < n) : w.cell? ⟨g, i, none⟩ = some (.int .i64 (s.getD i 0)) := by
  have h1 := ints_owned (B := O) h hl.symm
  obtain ⟨b, off, c', e1, e2⟩ := ints_cell h1 i (by rw [hl]; exact hi)
  obtain ⟨rfl, rfl⟩ : g = b ∧ 0 = off := by cases e1; exact ⟨rfl, rfl⟩
  rw [Nat.zero_add] at e2
  exact e2
set_option maxRecDepth 100000 in
set_option maxHeartbeats 8000000 in
theorem check_any (a : Nat → Addr) (B : Nat) (L : List (List Int)) (h : List Int) (v vh : Value) (w : World) (hS : Sents w a) (hB : B ≤ w.heap.size) (hv : ListsIn B w v L) (hn : L.length ≤ 100000) (hl : ∀ l ∈ L, l.length ≤ 100000) (hvh : IntsIn B w vh h) (hlen : h.length ≤ 100000) :
    Calls Tryz.prog 14 #[.agg #[v], vh] w fun e w' => e = .returned (errV a (errR L h)) ∧ Below w.heap.size w w' := by
  obtain ⟨pv, cv, hve, -⟩ := id hv
  generalize hLn : L.length = m at hve
  subst hve
  have hVAd := fun wx (hx : Below w.heap.size w wx) => valid_e a B L (.slice pv m cv) wx (hS.below hx (Nat.le_refl _)) (Nat.le_trans hB hx.size) (hv.below hx (Nat.le_refl _)) hn hl
  have HVA := Lib.hid hVAd
  unfold Gives at HVA
  obtain ⟨w0, hw0⟩ : ∃ w0, w.alloc (.cells #[.slice pv m cv] 34) = w0 := ⟨_, rfl⟩
  have HB0 := Lib.hid (lit_below' w (.cells #[.slice pv m cv] 34))
  have HK0 := Lib.hid (heap_alloc_new w (.cells #[.slice pv m cv] 34))
  rw [hw0] at HB0 HK0
  have HW0 := Lib.hid hw0
  by_cases h0 : errX L = 0
  rotate_left
  · obtain ⟨k, hk⟩ : ∃ k, errX L = k + 1 := ⟨errX L - 1, by omega⟩
    have e1 : errR L h = errX L := by unfold errR; rw [if_neg h0]
    rw [e1, hk, errV_succ]
    rw [hk, errV_succ] at HVA
    unfold errE
    unfold errE at HVA
    clear hS hB hv hn hl hvh hlen hLn hVAd hw0 h0 hk e1
    go_enter Tryz.func14, Tryz.ntmps14
    go_wp2_with fail
    rw [HW0.out]
    refine (HVA.out _ HB0.out).mono ?_
    rintro e w1 ⟨rfl, hb⟩
    have HB1 := Lib.hid (HB0.out.trans (hb.mono HB0.out.size))
    clear hb HVA
    go_wp2_with fail
    go_ret
    exact ⟨rfl, HB1.out⟩
  · have e1 := fun hk => errR_ok (h := h) h0 hk
    have e2 := fun hk => errR_3 (h := h) h0 hk
    rw [h0, errV_0] at HVA
    obtain ⟨hfl, hvl⟩ := right_small h0
    have HVE := Lib.hid (fun wx (hx : Below w.heap.size w wx) => vertices_any B L (.slice pv m cv) wx (hv.below hx (Nat.le_refl _)) hn hfl)
    unfold NumsP at HVE
    have HS := Lib.hid (fun wx (hx : Below w.heap.size w wx) => hS.below hx (Nat.le_refl _))
    have HVH := Lib.hid (fun wx (hx : Below w.heap.size w wx) => hvh.below hx (Nat.le_refl _))
    obtain ⟨ph, ch, hve, -⟩ := id hvh
    obtain ⟨V, hV⟩ : ∃ V, vertA L = V := ⟨_, rfl⟩
    obtain ⟨q, hq⟩ : ∃ n, V.length = n := ⟨_, rfl⟩
    obtain ⟨n, hnn⟩ : ∃ n, h.length = n := ⟨_, rfl⟩
    rw [hV] at HVE e1 e2 hvl
    rw [hq] at HVE hvl
    rw [hnn] at hve hlen
    subst hve
    have HN := Lib.hid hnn
    have HBAD : Hid (q ≠ n → errR L h = 3) := fun e => e2 (fun hk => e (by rw [← hq, ← hnn]; exact hk.1))
    have HBI : Hid (q = n → ∀ i, i < n → ¬ okS (sortI h) i → errR L h = 3) := fun e i hi hb => e2 (fun hk => hb ((okH_sort (by rw [hq, hnn]; exact e)).1 hk i (by rw [hnn]; exact hi)))
    have HOK : Hid (q = n → (∀ i, i < n → okS (sortI h) i) → errR L h = 0) := fun e hb => e1 ((okH_sort (by rw [hq, hnn]; exact e)).2 fun i hi => hb i (by rw [← hnn]; exact hi))
    obtain ⟨r, hr⟩ : ∃ r, errR L h = r := ⟨_, rfl⟩
    rw [hr] at HBAD HBI HOK ⊢
    clear hS hB hv hn hl hvh hLn hVAd hw0 h0 e1 e2 hfl hV hq hnn hr
    by_cases hqn : q = n
    rotate_left
    · have q1 : ((n : Int) != (q : Int)) = true := by rw [bne_iff_ne]; omega
      obtain rfl := HBAD.out hqn
      rw [errV_succ a 2]
      unfold errE
      clear hqn
      go_enter Tryz.func14, Tryz.ntmps14
      go_wp2_with fail
      rw [HW0.out]
      refine (HVA.out _ HB0.out).mono ?_
      rintro e w1 ⟨rfl, hb⟩
      have HB1 := Lib.hid (HB0.out.trans (hb.mono HB0.out.size))
      have c1 : w1.cell? ⟨w.heap.size, 0, none⟩ = some (.slice pv m cv) := (one_at ((hb.block _ (Array.getElem?_eq_some_iff.1 HK0.out).1).trans HK0.out)).1
      clear hb HVA
      go_wp2_with fail
      refine (HVE.out _ HB1.out).mono ?_
      rintro e w2 ⟨pV, cV, rfl, hb, hiV⟩
      have HB2 := Lib.hid (HB1.out.trans (hb.mono HB1.out.size))
      have hg := (HS.out _ HB2.out).g 2 (by decide)
      simp only [gnum] at hg
      clear hb hiV HVE c1
      go_wp2_with fail
      go_ret
      exact ⟨rfl, HB2.out⟩
    · have HOK2 := Lib.hid (HOK.out hqn)
      have HBI2 := Lib.hid (HBI.out hqn)
      have q1 : ((n : Int) != (q : Int)) = false := by rw [bne_eq_false_iff_eq]; omega
      clear hqn HOK HBI HBAD
      by_cases hn0 : n = 0
      · subst hn0
        obtain rfl := HOK2.out (fun i hi => absurd hi (Nat.not_lt_zero i))
        rw [errV_0]
        go_enter Tryz.func14, Tryz.ntmps14
        go_wp2_with fail
        rw [HW0.out]
        refine (HVA.out _ HB0.out).mono ?_
        rintro e w1 ⟨rfl, hb⟩
        have HB1 := Lib.hid (HB0.out.trans (hb.mono HB0.out.size))
        have c1 : w1.cell? ⟨w.heap.size, 0, none⟩ = some (.slice pv m cv) := (one_at ((hb.block _ (Array.getElem?_eq_some_iff.1 HK0.out).1).trans HK0.out)).1
        clear hb HVA
        go_wp2_with fail
        refine (HVE.out _ HB1.out).mono ?_
        rintro e w2 ⟨pV, cV, rfl, hb, hiV⟩
        have HB2 := Lib.hid (HB1.out.trans (hb.mono HB1.out.size))
        clear hb hiV HVE c1
        cases ph with
        | none =>
          have HCL := Lib.hid (Tryz.slices_Clone_int_nil 0 ch w2)
          go_wp2_with fail
          refine HCL.out.mono ?_
          rintro e w3 ⟨rfl, rfl⟩
          have HSO := Lib.hid (Tryz.slices_Sort_int_none none 0 w3)
          go_wp2_with fail
          refine HSO.out.mono ?_
          rintro e w4 ⟨rfl, rfl⟩
          go_wp2_with fail
          refine wp_loop_rounds 1 ?_
          rw [rounds_succ]
          go_wp2_with fail
          go_ret
          exact ⟨rfl, HB2.out⟩
        | some ap =>
          have HCL := Lib.hid (Tryz.slices_Clone_int_zero ap ch w2)
          go_wp2_with fail
          refine HCL.out.mono ?_
          rintro e w3 ⟨v3, rfl, ho3, -, hb3⟩
          have HB3 := Lib.hid (HB2.out.trans (hb3.mono HB2.out.size))
          obtain ⟨p3, c3, rfl⟩ : ∃ p c, v3 = .slice p 0 c := by
            rcases Joins.ownsRow_forms ho3 with ⟨rfl, h0⟩ | ⟨g, cap, rfl⟩
            · exact ⟨none, 0, rfl⟩
            · exact ⟨_, cap, rfl⟩
          have HSO := Lib.hid (Tryz.slices_Sort_int_none p3 c3 w3)
          clear ho3 hb3
          go_wp2_with fail
          refine HSO.out.mono ?_
          rintro e w4 ⟨rfl, rfl⟩
          go_wp2_with fail
          refine wp_loop_rounds 1 ?_
          rw [rounds_succ]
          go_wp2_with fail
          go_ret
          exact ⟨rfl, HB3.out⟩
      · have HP : Hid (0 < n) := by unfold Hid; omega
        clear hn0
        go_enter Tryz.func14, Tryz.ntmps14
        go_wp2_with fail
        rw [HW0.out]
        refine (HVA.out _ HB0.out).mono ?_
        rintro e w1 ⟨rfl, hb⟩
        have HB1 := Lib.hid (HB0.out.trans (hb.mono HB0.out.size))
        have c1 : w1.cell? ⟨w.heap.size, 0, none⟩ = some (.slice pv m cv) := (one_at ((hb.block _ (Array.getElem?_eq_some_iff.1 HK0.out).1).trans HK0.out)).1
        clear hb HVA
        go_wp2_with fail
        refine (HVE.out _ HB1.out).mono ?_
        rintro e w2 ⟨pV, cV, rfl, hb, hiV⟩
        have HB2 := Lib.hid (HB1.out.trans (hb.mono HB1.out.size))
        have HCL := Lib.hid (clone_any h _ w2 (HVH.out _ HB2.out).at (by rw [HN.out]; exact HP.out) (by rw [HN.out]; exact hlen))
        unfold ClonePost at HCL
        rw [HN.out] at HCL
        clear hb hiV HVE c1
        go_wp2_with fail
        refine HCL.out.mono ?_
        rintro e w3 ⟨g, cap, rfl, hb3, ho3⟩
        have HB3 := Lib.hid (HB2.out.trans (hb3.mono HB2.out.size))
        have HSO := Lib.hid (sort_any h w2.heap.size g cap w3 (by rw [HN.out]; exact ho3) (by rw [HN.out]; exact hlen))
        unfold SortPost at HSO
        rw [HN.out] at HSO
        have HGL := Lib.hid (ho3.lt g rfl)
        clear hb3 ho3 HCL
        go_wp2_with fail
        refine HSO.out.mono ?_
        rintro e w4 ⟨rfl, hg4, ho4⟩
        have HB4 : Hid (Below w.heap.size w w4) := HB3.out.grown hg4 HB3.out.size (fun k e => by have := Option.some.inj e; have := HGL.out.1; have := HB2.out.size; omega)
        have HO := Lib.hid ho4
        clear hg4 ho4 HSO
        go_wp2_with fail
        obtain ⟨s, hs⟩ : ∃ s, sortI h = s := ⟨_, rfl⟩
        rw [hs] at HBI2 HOK2 HO
        have HSL : Hid (s.length = n) := by unfold Hid; rw [← hs, sortI_len]; exact HN.out
        clear hs
        go_loopw [27] (fun i wr => ∃ j qd : Nat, j ≤ n ∧ i = .int .i64 (j : Int) ∧ wr = w4.drewN qd ∧ ∀ t, t < j → okS s t) (fun i _ => n - (intOf i).toNat)
        case atStart => exact ⟨0, 0, Nat.zero_le _, rfl, rfl, fun t ht => absurd ht (Nat.not_lt_zero t)⟩
        case round =>
          obtain ⟨j, qd, hj, rfl, rfl, hgd⟩ := hrel
          have HGD := Lib.hid hgd
          have HEND : Hid (Below w.heap.size w (w4.drewN qd)) := HB4.out.trans ((Below.drewN w4 qd).mono HB4.out.size)
          clear hgd
          by_cases hjn : j < n
          · have e2 := row_cell HO.out HSL.out j hjn
            have HBJ := Lib.hid (HBI2.out j hjn)
            have hprev : 0 < j → w4.cell? ⟨g, j - 1, none⟩ = some (.int .i64 (s.getD (j - 1) 0)) := fun h0 => row_cell HO.out HSL.out (j - 1) (by omega)
            obtain ⟨x, hx⟩ : ∃ x, s.getD j 0 = x := ⟨_, rfl⟩
            rw [hx] at e2
            have HX := Lib.hid hx
            clear hx
            by_cases hlo : x < -1048576 ∨ 1048576 < x
            · obtain rfl := HBJ.out (fun hh => by have := hh.1; rw [HX.out] at this; omega)
              have hg := (HS.out _ HEND.out).g 2 (by decide)
              simp only [gnum] at hg
              clear hprev
              by_cases h1 : 1048576 < x
              · have g1 : decide (1048576 < x) = true := decide_eq_true h1
                clear hlo h1
                go_wp2_with fail
                go_ret
                exact ⟨rfl, HEND.out⟩
              · have g1 : decide (1048576 < x) = false := decide_eq_false h1
                have g2 : decide (x < -1048576) = true := decide_eq_true (by omega)
                clear hlo h1
                go_wp2_with fail
                go_ret
                exact ⟨rfl, HEND.out⟩
            · have g1 : decide (1048576 < x) = false := decide_eq_false (by omega)
              have g2 : decide (x < -1048576) = false := decide_eq_false (by omega)
              have HLO : Hid (-1048576 ≤ x ∧ x ≤ 1048576) := by unfold Hid; omega
              clear hlo
              cases j with
              | zero =>
                have HST : Hid (∀ t, t < 0 + 1 → okS s t) := fun t ht => by
                  obtain rfl : t = 0 := by omega
                  unfold okS
                  rw [HX.out]
                  exact ⟨HLO.out, fun h => absurd h (Nat.lt_irrefl 0)⟩
                clear hprev
                go_wp2_with fail
                go_roundw
                case rel => exact ⟨0 + 1, qd, hjn, by go_num, rfl, HST.out⟩
                case measure => simp [intOf]; omega
              | succ t =>
                have c1 := hprev (Nat.succ_pos t)
                rw [show t + 1 - 1 = t by omega] at c1
                obtain ⟨y, hy⟩ : ∃ y, s.getD t 0 = y := ⟨_, rfl⟩
                rw [hy] at c1
                have HY := Lib.hid hy
                have m1 : IntKind.i64.wrap (((t + 1 : Nat) : Int) - 1) = (t : Int) := wrap_n (by push_cast; omega) (by omega)
                have g3 : decide (0 < ((t + 1 : Nat) : Int)) = true := decide_eq_true (by omega)
                clear hprev hy
                by_cases hxy : y = x
                · subst hxy
                  obtain rfl := HBJ.out (fun hh => hh.2 (Nat.succ_pos t) (by rw [show t + 1 - 1 = t by omega, HY.out, HX.out]))
                  have hg := (HS.out _ HEND.out).g 2 (by decide)
                  simp only [gnum] at hg
                  go_wp2_with fail
                  go_ret
                  exact ⟨rfl, HEND.out⟩
                · have g4 : (y == x) = false := by simpa using hxy
                  have HST : Hid (∀ t', t' < t + 1 + 1 → okS s t') := fun t' ht' => by
                    rcases (show t' < t + 1 ∨ t' = t + 1 by omega) with h1 | rfl
                    · exact HGD.out t' h1
                    · unfold okS
                      rw [HX.out, show t + 1 - 1 = t by omega, HY.out]
                      exact ⟨HLO.out, fun _ => hxy⟩
                  clear hxy
                  go_wp2_with fail
                  go_roundw
                  case rel => exact ⟨t + 1 + 1, qd, hjn, by go_num, rfl, HST.out⟩
                  case measure => simp [intOf]; omega
          · obtain rfl : n = j := by omega
            obtain rfl := HOK2.out HGD.out
            go_wp2_with fail
            go_ret
            exact ⟨rfl, HEND.out⟩
end Go.Proofs.YtddnjimpdidpaaaGreatDoor
