/-
  The walker's way through: walked along a walk of the house.
-/
import Derived.Test.YtnijedeopnjklaaGreatDoorOddM
namespace Go.Proofs.YtnijedeopnjklaaGreatDoor
open Go Go.RowKit Sper

def ThrPost (w : World) (T : Nat → Nat) (K : Nat) (dead : Bool) (e : Ending) (w' : World) : Prop :=
  ∃ v x y, ∃ m, e = .returned (.tuple #[v, x, y, .bool (!dead)]) ∧ Below w.heap.size w w' ∧ (dead = true → m = K + 1 ∧ w'.ownsRow w.heap.size 3 1 v m (intVs ((List.range m).map fun i => (T i : Int))))

set_option maxRecDepth 100000 in
set_option maxHeartbeats 16000000 in
theorem through_any (L P : List (Nat × Nat × Nat)) (B : List (Nat × Nat)) (xs : List Int) (hk : chk L P B = true) (T : Nat → Nat) (E : Nat → Nat × Nat) (K : Nat) (hW : Walk (house L P B (labF xs) hk) T E K) (dead : Bool)
    (hend : (dead = true ∧ odD L (labF xs) (T K) (E K) = none) ∨ (dead = false ∧ odD L (labF xs) (T K) (E K) = some (E (K + 1)) ∧ otD L (E (K + 1)) (T K) = none))
    (D g cL lb lo lc XN : Nat) (a b : Nat) (hab : Ends (E 0) a b) (w : World) (hlen : L.length ≤ 1000) (hP : P.length = XN)
    (hL : w.ownsRow D 36 3 (.slice (some ⟨g, 0, none⟩) L.length cL) L.length (cells3 L))
    (hc : ∀ i, i < XN → w.cell? ⟨lb, lo + i, none⟩ = some (.int .i64 (xs.getD i 0))) (hr : ∀ i, i < XN → xs.getD i 0 = 0 ∨ xs.getD i 0 = 1 ∨ xs.getD i 0 = 2) :
    Calls Tryz.prog 24 #[.agg #[.slice (some ⟨lb, lo, none⟩) XN lc, .slice (some ⟨g, 0, none⟩) L.length cL], .int .i64 (a : Int), .int .i64 (b : Int)] w (ThrPost w T K dead) := by
  obtain ⟨i3, hi3, hz30, hz31, hz32⟩ := info_parts Tryz.info3
  have HC := Lib.hid hc
  have HR := Lib.hid hr
  have HLO := Lib.hid hL
  have HEND := Lib.hid hend
  have HWK := Lib.hid hW
  have HP := Lib.hid hP
  have HAB := Lib.hid hab
  clear hc hr hL hend hW hP hab
  go_enter Tryz.func24, Tryz.ntmps24
  go_wp2_with fail
  go_loopw [6, 10] (fun v last wr => ∃ k a b : Nat, k ≤ K + 1 ∧ (k = K + 1 → dead = false) ∧ Ends (E k) a b ∧ last = .int .i64 (lastI T k) ∧
      ThrSt w.heap.size w wr (.slice (some ⟨lb, lo, none⟩) XN lc) (.slice (some ⟨g, 0, none⟩) L.length cL) a b v ((List.range k).map fun i => (T i : Int))) (fun v _ _ => K + 2 - lenV v)
  case atStart => 
    refine ⟨0, a, b, by omega, fun h => absurd h (by omega), HAB.out, rfl, ?_⟩
    exact ThrSt.start w _ _ a b
  case round =>
    obtain ⟨k, a, b, hk1, hkd, hE, rfl, hst⟩ := hrel
    have hcA := (cell_of_block hst.ha).1
    have hcB := (cell_of_block hst.hb).1
    have hLr := owns_keep (w' := wr) HLO.out fun j hj => hst.hbl.block j (HLO.out.lt j hj).2
    have hw0 : wr.cell? ⟨w.heap.size, 0, none⟩ = some (.slice (some ⟨lb, lo, none⟩) XN lc) := by simp [World.cell?, hst.hw]
    have hw1 : wr.cell? ⟨w.heap.size, 1, none⟩ = some (.slice (some ⟨g, 0, none⟩) L.length cL) := by simp [World.cell?, hst.hw]
    have HI := Lib.hid (fun c => idx33_any D g cL c 0 (w.heap.size + 1) (w.heap.size + 2) a b L wr hLr (Nat.zero_le _) hlen hcA hcB 0 L.length rfl rfl)
    rcases (show k ≤ K ∨ k = K + 1 by omega) with hkK | rfl
    · have hhas := HWK.out.has k hkK
      have hTK := hhas.1
      have q0 : (0 : Int) ≤ (T k : Int) := by omega
      have q2 : decide ((T k : Int) < 0) = false := decide_eq_false (by omega)
      have HST2 := Lib.hid (fun (w2 : World) (hb : Below wr.heap.size wr w2) => hst.below hb)
      have HLL := Lib.hid hLr
      have HE := Lib.hid hE
      have HHAS := Lib.hid hhas
      have HLU := Lib.hid hst.len
      have HSR := Lib.hid (step_search hk HWK.out hkK hE)
      clear hst hLr hE hhas hkd hk1 hcA hcB
      have hkb : k ≤ 1000 := by have := HWK.out.short (N := L.length) (fun t e h => h.1); omega
      have HKK := Lib.hid hkK
      clear hkK
      obtain ⟨la, hla⟩ : ∃ la, lastI T k = la := ⟨_, rfl⟩
      rw [hla] at HSR
      rw [hla]
      clear hla
      rcases HSR.out with ⟨s1, q1⟩ | ⟨n1, d, hTd, rfl, s1, s2⟩
      focus
        rw [s1] at HI
        clear s1 HSR
        go_wp2_with fail
        refine (HI.out _).mono ?_
        rintro e w2 ⟨rfl, hb2⟩
        have hst3 := HST2.out w2 hb2
        have hLr := owns_keep (w' := w2) HLL.out fun j hj => hb2.block j (HLL.out.lt j hj).2
        have hw0' : w2.cell? ⟨w.heap.size, 0, none⟩ = some (.slice (some ⟨lb, lo, none⟩) XN lc) := by simp [World.cell?, hst3.hw]
        have hw1' : w2.cell? ⟨w.heap.size, 1, none⟩ = some (.slice (some ⟨g, 0, none⟩) L.length cL) := by simp [World.cell?, hst3.hw]
        have hv3 := hst3.hv
        have hZ : w.heap.size + 3 ≤ w2.heap.size := by have := (Array.getElem?_eq_some_iff.1 hst3.hb).1; omega
        have HST3 := Lib.hid hst3
        have HLR := Lib.hid hLr
        clear HI hb2 hLr hw0 hw1 hst3
        go_upto_if 43 with fail
      rotate_left
      focus
        rw [s1] at HI
        clear s1 HSR
        have hdl : n1 + 1 + d < L.length := by omega
        have hn1 : n1 + 1 ≤ L.length := by omega
        have q3 : decide ((n1 : Int) < 0) = false := decide_eq_false (by omega)
        have q4 : decide ((d : Int) < 0) = false := decide_eq_false (by omega)
        have q5 : decide ((n1 : Int) + 1 + (d : Int) < 0) = false := decide_eq_false (by omega)
        have HTD := Lib.hid hTd
        clear hTd
        go_wp2_with fail
        refine (HI.out _).mono ?_
        rintro e w1 ⟨rfl, hb1⟩
        have hst3 := HST2.out w1 hb1
        have hcA := (cell_of_block hst3.ha).1
        have hcB := (cell_of_block hst3.hb).1
        have hLr := owns_keep (w' := w1) HLL.out fun j hj => hb1.block j (HLL.out.lt j hj).2
        have hw0' : w1.cell? ⟨w.heap.size, 0, none⟩ = some (.slice (some ⟨lb, lo, none⟩) XN lc) := by simp [World.cell?, hst3.hw]
        have hw1' : w1.cell? ⟨w.heap.size, 1, none⟩ = some (.slice (some ⟨g, 0, none⟩) L.length cL) := by simp [World.cell?, hst3.hw]
        have HI2 := Lib.hid (fun c o n ho hn => idx35_any D g cL c (n1 + 1) (w.heap.size + 1) (w.heap.size + 2) a b L w1 hLr hn1 hlen hcA hcB o n ho hn)
        rw [s2] at HI2
        have hglt := (hLr.lt g rfl).2
        have hcap : L.length ≤ cL := by
          rcases hLr.2 with ⟨h, -⟩ | ⟨g', c', cur, h, -, -, h3, -⟩
          · cases h
          · cases h; exact h3
        have hcl2 : ¬ cL = n1 + 1 := by omega
        clear HI hw0 hw1 HST2 HLL s2
        have HST2 := Lib.hid (fun (w2 : World) (hb : Below w1.heap.size w1 w2) => hst3.below hb)
        have HLL := Lib.hid hLr
        clear hst3 hLr hcA hcB hb1
        go_wp2_with fail
        refine (HI2.out _ _ _ rfl rfl).mono ?_
        rintro e w2 ⟨rfl, hb2⟩
        clear HI2 hw0' hw1'
        have hst3 := HST2.out w2 hb2
        have hLr := owns_keep (w' := w2) HLL.out fun j hj => hb2.block j (HLL.out.lt j hj).2
        have hw0' : w2.cell? ⟨w.heap.size, 0, none⟩ = some (.slice (some ⟨lb, lo, none⟩) XN lc) := by simp [World.cell?, hst3.hw]
        have hw1' : w2.cell? ⟨w.heap.size, 1, none⟩ = some (.slice (some ⟨g, 0, none⟩) L.length cL) := by simp [World.cell?, hst3.hw]
        have hv3 := hst3.hv
        have hZ : w.heap.size + 3 ≤ w2.heap.size := by have := (Array.getElem?_eq_some_iff.1 hst3.hb).1; omega
        have HST3 := Lib.hid hst3
        have HLR := Lib.hid hLr
        clear hb2 hLr hst3
        go_upto_if 43 with fail
        rw [show ((n1 : Int) + 1 + (d : Int)) = ((T k : Nat) : Int) from by have := HTD.out; omega]
      all_goals
        go_wp2_with (at_builtin; go_must (refine wpList_append_own _ rfl _ _ 22 rfl (w.heap.size + 3) 3 i3 (.int .i64 0) 1 8 Tryz.underlying22 hi3 hz30 hz31 hz32 rfl (by decide) _ _ _ rfl (hv3.alloc _) ⟨w2.heap.size, 0, none⟩ 1 1 [.int .i64 (T k : Int)] rfl rfl (cells_new _ _ _) (fun u hu => by simp at hu; subst hu; rfl) (by simp; unfold maxLen; omega) (by simp; omega) (by simp; omega) ?_); intro v' w4 hown' hgrow hiff
                     obtain ⟨hst4, hkeep⟩ := HST3.out.push hown' hgrow
                     have hL4 := owns_keep (w' := w4) HLR.out fun j hj => hkeep j (HLR.out.lt j hj).2 (fun e => owns_apart HLR.out HST3.out.hv (by decide) j hj e)
                     have hw0'' : w4.cell? ⟨w.heap.size, 0, none⟩ = some (.slice (some ⟨lb, lo, none⟩) XN lc) := by simp [World.cell?, hst4.hw]
                     have hw1'' : w4.cell? ⟨w.heap.size, 1, none⟩ = some (.slice (some ⟨g, 0, none⟩) L.length cL) := by simp [World.cell?, hst4.hw]
                     obtain ⟨c0, c1, c2⟩ := tri_cells hL4 (T k) hTK
                     have HST4 := Lib.hid hst4
                     have HL4 := Lib.hid hL4
                     clear hiff hown' hgrow hkeep hL4 hst4 hv3)
        have h4Z : w.heap.size + 3 ≤ w4.heap.size := by have := (Array.getElem?_eq_some_iff.1 HST4.out.hb).1; omega
        have hb56 : Below w4.heap.size w4 ((w4.alloc (.cells #[.int .i64 ((tri L (T k)).1 : Int), .int .i64 ((tri L (T k)).2.1 : Int), .int .i64 ((tri L (T k)).2.2 : Int)] 36)).alloc (.cells #[.int .i64 ((tri L (T k)).1 : Int), .int .i64 ((tri L (T k)).2.1 : Int), .int .i64 ((tri L (T k)).1 : Int), .int .i64 ((tri L (T k)).2.2 : Int), .int .i64 ((tri L (T k)).2.1 : Int), .int .i64 ((tri L (T k)).2.2 : Int)] 79)) := ((Below.refl _ _).alloc (Nat.le_refl _) _).alloc (by simp) _
        have hst6 := HST4.out.below hb56
        obtain ⟨tt, htt⟩ : ∃ tt, tri L (T k) = tt := ⟨_, rfl⟩
        rw [htt] at hb56 hst6 c0 c1 c2
        rw [htt]
        obtain ⟨ta, tb, tc⟩ := tt
        simp only at hb56 hst6 c0 c1 c2
        simp only
        have HTT := Lib.hid htt
        clear htt
        have HST6 := Lib.hid hst6
        have HB6 := Lib.hid hb56
        clear hst6 hb56 hw0'' hw1'' hw0' hw1' c0 c1 c2
        obtain ⟨w6, hw6⟩ : ∃ w6, w6 = (w4.alloc (.cells #[.int .i64 (ta : Int), .int .i64 (tb : Int), .int .i64 (tc : Int)] 36)).alloc (.cells #[.int .i64 (ta : Int), .int .i64 (tb : Int), .int .i64 (ta : Int), .int .i64 (tc : Int), .int .i64 (tb : Int), .int .i64 (tc : Int)] 79) := ⟨_, rfl⟩
        rw [← hw6] at HST6 HB6
        rw [← hw6]
        have hblk : w6.heap[w4.heap.size + 1]? = some (.cells #[.int .i64 (ta : Int), .int .i64 (tb : Int), .int .i64 (ta : Int), .int .i64 (tc : Int), .int .i64 (tb : Int), .int .i64 (tc : Int)] 79 (0, 0)) := by
          rw [hw6]
          have h := heap_alloc_new (w4.alloc (.cells #[.int .i64 (ta : Int), .int .i64 (tb : Int), .int .i64 (tc : Int)] 36)) (.cells #[.int .i64 (ta : Int), .int .i64 (tb : Int), .int .i64 (ta : Int), .int .i64 (tc : Int), .int .i64 (tb : Int), .int .i64 (tc : Int)] 79)
          rw [World.size_alloc] at h
          exact h
        clear hw6
        obtain ⟨cc0, cc1, cc2, cc3, cc4, cc5⟩ : w6.cell? ⟨w4.heap.size + 1, 0, none⟩ = some (.int .i64 (ta : Int)) ∧ w6.cell? ⟨w4.heap.size + 1, 1, none⟩ = some (.int .i64 (tb : Int)) ∧ w6.cell? ⟨w4.heap.size + 1, 2, none⟩ = some (.int .i64 (ta : Int)) ∧ w6.cell? ⟨w4.heap.size + 1, 3, none⟩ = some (.int .i64 (tc : Int)) ∧ w6.cell? ⟨w4.heap.size + 1, 4, none⟩ = some (.int .i64 (tb : Int)) ∧ w6.cell? ⟨w4.heap.size + 1, 5, none⟩ = some (.int .i64 (tc : Int)) := by simp [World.cell?, hblk]
        have hs6 := (Array.getElem?_eq_some_iff.1 hblk).1
        have HCC := Lib.hid (And.intro cc0 (And.intro cc1 (And.intro cc2 (And.intro cc3 (And.intro cc4 cc5)))))
        clear cc0 cc1 cc2 cc3 cc4 cc5 hblk
        have HEQ := fun x y u v w => eq48 x y u v w
        clear q2 q0
        go_loopw [14, 74] (fun fd i wr => ∃ j : Nat, j ≤ 3 ∧ fd = .bool false ∧ i = .int .i64 j ∧ Below w6.heap.size w6 wr ∧ NoneYet (labF xs) (ta, tb, tc) (E k) j) (fun _ i _ => 3 - (intOf i).toNat)
        case atStart => exact ⟨0, Nat.zero_le _, rfl, rfl, Below.refl _ _, noneYet_zero _ _ _⟩
        case round =>
          obtain ⟨j, hj, rfl, rfl, hb7, hno⟩ := hrel
          have HNO := Lib.hid hno
          clear hno
          have hst7 := HST6.out.below hb7
          have hZ7 := (Array.getElem?_eq_some_iff.1 hst7.hb).1
          have hZ8 : w.heap.size + 1 < wr.heap.size := by omega
          have hZ9 : w.heap.size < wr.heap.size := by omega
          have hsz7 : w4.heap.size + 1 < wr.heap.size := Nat.lt_of_lt_of_le hs6 hb7.size
          obtain ⟨o1, o2, o3⟩ := chk_tri hk _ (tri_mem HHAS.out.1)
          rw [HTT.out, HP.out] at o3
          rw [HTT.out] at o1 o2
          simp only at o1 o2 o3
          have hE0 := HE.out
          have hlh := (side_lt hk _ (tri_mem HHAS.out.1) (E k) HHAS.out.2.1).2.2
          obtain ⟨⟨e1, e2⟩, hEE⟩ : ∃ p, E k = p := ⟨_, rfl⟩
          rw [hEE] at hE0 hlh
          unfold Ends at hE0
          simp only at hE0 hlh
          have m1 : min (a : Int) (b : Int) = (e1 : Int) := by omega
          have m2 : max (a : Int) (b : Int) = (e2 : Int) := by omega
          have HEE := Lib.hid hEE
          have HST7 := Lib.hid hst7
          have HB7 := Lib.hid hb7
          clear hEE hE0 hlh hst7 hb7
          by_cases hj3 : j = 3
          · subst hj3
            have hmiss : odD L (labF xs) (T k) (E k) = none := odD_miss (by rw [HTT.out]; exact HNO.out)
            have hkk : k = K := by
              rcases Nat.lt_or_ge k K with h | h
              · have := HWK.out.door k h
                change odD L (labF xs) (T k) (E k) = some _ at this
                rw [hmiss] at this; cases this
              · have := HKK.out; omega
            have hd : dead = true := by
              rcases HEND.out with ⟨h, -⟩ | ⟨-, h, -⟩
              · exact h
              · rw [← hkk, hmiss] at h; cases h
            have HKE := Lib.hid hkk
            have HDD := Lib.hid hd
            have HDN := Lib.hid HST7.out.done
            have HBL := Lib.hid HST7.out.hbl
            clear m1 m2 hmiss hkk hd
            go_wp2_with fail
            exact bodyPost_ret (v := .tuple #[v', .int .i64 0, .int .i64 0, .bool false]) (by simp [results, Tryz.results24, go_sem]) rfl ⟨v', _, _, k + 1, by rw [HDD.out]; rfl, HBL.out.trans ⟨rfl, rfl, rfl, Nat.le_refl _, fun _ _ => rfl⟩, fun _ => ⟨by rw [HKE.out], HDN.out⟩⟩
          · have hcA := (cell_of_block HST7.out.ha).1
            have hcB := (cell_of_block HST7.out.hb).1
            have hww0 : wr.cell? ⟨w.heap.size, 0, none⟩ = some (.slice (some ⟨lb, lo, none⟩) XN lc) := by simp [World.cell?, HST7.out.hw]
            have hww1 : wr.cell? ⟨w.heap.size, 1, none⟩ = some (.slice (some ⟨g, 0, none⟩) L.length cL) := by simp [World.cell?, HST7.out.hw]
            rcases (show j = 0 ∨ j = 1 ∨ j = 2 by omega) with rfl | rfl | rfl
            focus
              have d0 := (HB7.out.cell (p := ⟨w4.heap.size + 1, 0, none⟩) hs6).trans HCC.out.1
              have d1 := (HB7.out.cell (p := ⟨w4.heap.size + 1, 1, none⟩) hs6).trans HCC.out.2.1
              obtain ⟨p, hp⟩ : ∃ p, p = ta := ⟨_, rfl⟩
              obtain ⟨q, hq⟩ : ∃ q, q = tb := ⟨_, rfl⟩
              have HSD := Lib.hid (show sdN (ta, tb, tc) 0 = (p, q) by rw [hp, hq]; rfl)
              have hpq : p < q := by omega
              have hqX : q < XN := by omega
              rw [← hp] at d0
              rw [← hq] at d1
              clear hp hq
            rotate_left
            focus
              have d0 := (HB7.out.cell (p := ⟨w4.heap.size + 1, 2, none⟩) hs6).trans HCC.out.2.2.1
              have d1 := (HB7.out.cell (p := ⟨w4.heap.size + 1, 3, none⟩) hs6).trans HCC.out.2.2.2.1
              obtain ⟨p, hp⟩ : ∃ p, p = ta := ⟨_, rfl⟩
              obtain ⟨q, hq⟩ : ∃ q, q = tc := ⟨_, rfl⟩
              have HSD := Lib.hid (show sdN (ta, tb, tc) 1 = (p, q) by rw [hp, hq]; rfl)
              have hpq : p < q := by omega
              have hqX : q < XN := by omega
              rw [← hp] at d0
              rw [← hq] at d1
              clear hp hq
            rotate_left
            focus
              have d0 := (HB7.out.cell (p := ⟨w4.heap.size + 1, 4, none⟩) hs6).trans HCC.out.2.2.2.2.1
              have d1 := (HB7.out.cell (p := ⟨w4.heap.size + 1, 5, none⟩) hs6).trans HCC.out.2.2.2.2.2
              obtain ⟨p, hp⟩ : ∃ p, p = tb := ⟨_, rfl⟩
              obtain ⟨q, hq⟩ : ∃ q, q = tc := ⟨_, rfl⟩
              have HSD := Lib.hid (show sdN (ta, tb, tc) 2 = (p, q) by rw [hp, hq]; rfl)
              have hpq : p < q := by omega
              have hqX : q < XN := by omega
              rw [← hp] at d0
              rw [← hq] at d1
              clear hp hq
            rotate_left
            all_goals
              clear hj hj3 o1 o2 o3
              by_cases hsame : p = e1 ∧ q = e2
              · obtain ⟨rfl, rfl⟩ := hsame
                go_wp2_with fail
                go_roundw
                case rel => first | exact ⟨1, by omega, rfl, rfl, (HB7.out.alloc HB7.out.size _), noneYet_same HNO.out (HSD.out.trans HEE.out.symm)⟩ | exact ⟨2, by omega, rfl, rfl, (HB7.out.alloc HB7.out.size _), noneYet_same HNO.out (HSD.out.trans HEE.out.symm)⟩ | exact ⟨3, by omega, rfl, rfl, (HB7.out.alloc HB7.out.size _), noneYet_same HNO.out (HSD.out.trans HEE.out.symm)⟩
                case measure => simp [intOf]
              · have hq : ((p : Int) == (e1 : Int) && (q : Int) == (e2 : Int)) = false := by
                  rw [Bool.eq_false_iff]; intro h
                  simp only [Bool.and_eq_true, beq_iff_eq] at h
                  exact hsame (by omega)
                have HSM := Lib.hid hsame
                clear hsame
                go_wp2_with fail
                have hbt : Below w.heap.size w (wr.alloc (.cells #[.int .i64 (p : Int), .int .i64 (q : Int)] 79)) := HST7.out.hbl.alloc (by omega) _
                have hst8 := fun (w8 : World) (hb : Below (wr.alloc (.cells #[.int .i64 (p : Int), .int .i64 (q : Int)] 79)).heap.size (wr.alloc (.cells #[.int .i64 (p : Int), .int .i64 (q : Int)] 79)) w8) => (HST7.out.below ((Below.refl _ _).alloc (Nat.le_refl _) (.cells #[.int .i64 (p : Int), .int .i64 (q : Int)] 79))).below hb
                have hb8' := HB7.out.alloc HB7.out.size (.cells #[.int .i64 (p : Int), .int .i64 (q : Int)] 79)
                refine (door_any xs lb lo lc XN _ p q _ _ rfl rfl _ (by omega) (by omega) (fun i hi => (hbt.cell (p := ⟨lb, lo + i, none⟩) (mem_lt (HC.out i hi))).trans (HC.out i hi)) HR.out).mono ?_
                rintro e w8 ⟨rfl, hb8⟩
                have hst9 := hst8 w8 hb8
                have hb9 := hb8'.trans (hb8.mono hb8'.size)
                have x0 := (hb8.cell (p := ⟨wr.heap.size, 0, none⟩) (by simp)).trans (show (wr.alloc (.cells #[.int .i64 (p : Int), .int .i64 (q : Int)] 79)).cell? ⟨wr.heap.size, 0, none⟩ = some (.int .i64 (p : Int)) by simp)
                have x1 := (hb8.cell (p := ⟨wr.heap.size, 1, none⟩) (by simp)).trans (show (wr.alloc (.cells #[.int .i64 (p : Int), .int .i64 (q : Int)] 79)).cell? ⟨wr.heap.size, 1, none⟩ = some (.int .i64 (q : Int)) by simp)
                clear hst8 hb8' hbt hcA hcB hww0 hww1 hq m1 m2 d0 d1
                cases hdoor : isDoor (labF xs) (p, q) with
                | false =>
                  have HD := Lib.hid hdoor
                  have HB9 := Lib.hid hb9
                  clear hdoor hst9 hb8 hb9 x0 x1
                  go_wp2_with fail
                  go_roundw
                  case rel => first | exact ⟨1, by omega, rfl, rfl, HB9.out, noneYet_nodoor HNO.out (by rw [HSD.out]; exact HD.out)⟩ | exact ⟨2, by omega, rfl, rfl, HB9.out, noneYet_nodoor HNO.out (by rw [HSD.out]; exact HD.out)⟩ | exact ⟨3, by omega, rfl, rfl, HB9.out, noneYet_nodoor HNO.out (by rw [HSD.out]; exact HD.out)⟩
                  case measure => simp [intOf]
                | true =>
                  have hhit : odD L (labF xs) (T k) (E k) = some (p, q) := by
                    have h := odD_hit HHAS.out (by rw [HTT.out]; exact HNO.out) (by omega) (by rw [HTT.out, HSD.out, HEE.out]; exact fun h => HSM.out ⟨congrArg Prod.fst h, congrArg Prod.snd h⟩) (by rw [HTT.out, HSD.out]; exact hdoor)
                    rw [HTT.out, HSD.out] at h
                    exact h
                  have hnext : (k + 1 = K + 1 → dead = false) ∧ E (k + 1) = (p, q) := by
                    rcases Nat.lt_or_ge k K with h | h
                    · have h1 := HWK.out.door k h
                      change odD L (labF xs) (T k) (E k) = some _ at h1
                      rw [hhit] at h1
                      exact ⟨fun h' => by omega, (Option.some.inj h1).symm⟩
                    · obtain rfl : k = K := by have := HKK.out; omega
                      rcases HEND.out with ⟨-, h1⟩ | ⟨h0, h1, -⟩
                      · rw [hhit] at h1; cases h1
                      · rw [hhit] at h1; exact ⟨fun _ => h0, (Option.some.inj h1).symm⟩
                  have HNX := Lib.hid hnext
                  have HST10 := Lib.hid (hst9.two_drew p q)
                  have hcA := (cell_of_block hst9.ha).1
                  have hcB := (cell_of_block hst9.hb).1
                  have fA := free_of_one hst9.ha
                  have fB := free_of_one hst9.hb
                  have hLEN := Lib.hid hst9.snoc.len
                  clear hhit hnext hst9 hb9 hb8 hdoor HB7
                  go_wp2_with fail
                  go_region
                  all_goals
                    go_wp2_with fail
                    go_roundw
                    case rel => exact ⟨k + 1, p, q, Nat.succ_le_succ HKK.out, HNX.out.1, by rw [HNX.out.2]; exact Or.inl ⟨rfl, rfl⟩, rfl, HST10.out⟩
                    case measure =>
                      have h1 := hLEN.out
                      have h2 := HLU.out
                      have h3 := Nat.lt_succ_of_le (Nat.le_succ_of_le HKK.out)
                      rw [h1, h2]
                      exact Nat.sub_lt_sub_left h3 (Nat.lt_succ_self k)
    · have hdd := hkd rfl
      subst hdd
      rcases HEND.out with ⟨h, -⟩ | ⟨-, he1, he2⟩
      · cases h
      have hhas : hasD L (labF xs) (T K) (E (K + 1)) := ((house L P B (labF xs) hk).od_has (t := T K) (e := E K) he1).2.1
      obtain ⟨s1, s2⟩ := search_one hk hhas hE he2
      have hTK := hhas.1
      have q0 : (0 : Int) ≤ (T K : Int) := by omega
      have hst2 := fun (w2 : World) (hb : Below wr.heap.size wr w2) => hst.below hb
      have HST2 := Lib.hid hst2
      have HLL := Lib.hid hLr
      rw [s1] at HI
      have S2 := Lib.hid s2
      clear s1 s2 hst2 hst hLr hE he1 he2 hhas hkd hk1 hcA hcB
      simp only [lastI]
      go_wp2_with fail
      refine (HI.out _).mono ?_
      rintro e w2 ⟨rfl, hb2⟩
      have hst3 := HST2.out w2 hb2
      have hcA := (cell_of_block hst3.ha).1
      have hcB := (cell_of_block hst3.hb).1
      have hLr := owns_keep (w' := w2) HLL.out fun j hj => hb2.block j (HLL.out.lt j hj).2
      have hw0' : w2.cell? ⟨w.heap.size, 0, none⟩ = some (.slice (some ⟨lb, lo, none⟩) XN lc) := by simp [World.cell?, hst3.hw]
      have hw1' : w2.cell? ⟨w.heap.size, 1, none⟩ = some (.slice (some ⟨g, 0, none⟩) L.length cL) := by simp [World.cell?, hst3.hw]
      have HI2 := Lib.hid (fun c o n ho hn => idx35_any D g cL c (T K + 1) (w.heap.size + 1) (w.heap.size + 2) a b L w2 hLr (by omega) hlen hcA hcB o n ho hn)
      rw [S2.out] at HI2
      have hLr' := hLr
      clear HI hb2 hLr hw0 hw1
      have HST3 := Lib.hid hst3
      clear hst3
      have hglt := (hLr'.lt g rfl).2
      have hcap : L.length ≤ cL := by
        rcases hLr'.2 with ⟨h, -⟩ | ⟨g', c', cur, h, -, -, h3, -⟩
        · cases h
        · cases h; exact h3
      by_cases hcl : cL = T K + 1
      · subst hcl
        have hll : L.length = T K + 1 := by omega
        rw [show L.length - (T K + 1) = 0 from by omega] at HI2
        clear HI2
        have HI3 := Lib.hid (fun c o => idx35_none g c (w.heap.size + 1) (w.heap.size + 2) a b o w2 hglt hcA hcB)
        clear hLr' hcap
        rw [hll] at hw1'
        have HLL2 := Lib.hid hll
        clear hll
        go_wp2_with fail
        refine (HI3.out _ _).mono ?_
        rintro e w3 ⟨rfl, hb3⟩
        have hst4 := HST3.out.below hb3
        have hcA4 := (cell_of_block hst4.ha).1
        have hcB4 := (cell_of_block hst4.hb).1
        have HF := Lib.hid hst4.hbl
        clear hst4 hb3 hcA hcB hw0' hw1'
        go_wp2_with fail
        go_quiet (fail)
        go_wp2_with fail
        exact bodyPost_ret (v := .tuple #[u6, .int .i64 (a : Int), .int .i64 (b : Int), .bool true]) (by simp [results, Tryz.results24, go_sem]) rfl ⟨_, _, _, 0, rfl, HF.out.trans ⟨rfl, rfl, rfl, Nat.le_refl _, fun _ _ => rfl⟩, fun h => by cases h⟩
      · have hcl2 : ¬ cL = T K + 1 := hcl
        clear hLr'
        go_wp2_with fail
        refine (HI2.out _ _ _ rfl rfl).mono ?_
        rintro e w3 ⟨rfl, hb3⟩
        have hst4 := HST3.out.below hb3
        have hcA4 := (cell_of_block hst4.ha).1
        have hcB4 := (cell_of_block hst4.hb).1
        have HF := Lib.hid hst4.hbl
        clear hst4 hb3 hcA hcB hw0' hw1'
        go_wp2_with fail
        go_quiet (fail)
        go_wp2_with fail
        exact bodyPost_ret (v := .tuple #[u6, .int .i64 (a : Int), .int .i64 (b : Int), .bool true]) (by simp [results, Tryz.results24, go_sem]) rfl ⟨_, _, _, 0, rfl, HF.out.trans ⟨rfl, rfl, rfl, Nat.le_refl _, fun _ _ => rfl⟩, fun h => by cases h⟩
end Go.Proofs.YtnijedeopnjklaaGreatDoor
