/-
  The document's cells: how many dimensions one has, whether it is part of a full square, by contracts.
-/
import Derived.Test.YtoheffkiohfmoaaGreatDoorStr
import Derived.Deep.DeepCutAuto
import Derived.Deep.CutBlock
import Derived.IntWalk
set_option linter.unusedSimpArgs false
set_option linter.unusedVariables false
namespace Go.Proofs.YtoheffkiohfmoaaGreatDoor
open Go Go.RowKit Go.Maps FL

set_option maxHeartbeats 4000000 in
theorem dim_any (X Y : Int) (w : World) (hX : 0 ≤ X ∧ X ≤ 1000000) (hY : 0 ≤ Y ∧ Y ≤ 1000000) :
    Calls Tryz.prog 93 #[.agg #[.int .i64 X, .int .i64 Y]] w fun e w' => e = .returned (.int .i64 (dimC X Y)) ∧ Below w.heap.size w w' := by
  obtain ⟨a, ha⟩ : ∃ a, X % 2 = a := ⟨_, rfl⟩
  obtain ⟨b, hb⟩ : ∃ b, Y % 2 = b := ⟨_, rfl⟩
  have hab : (0 ≤ a ∧ a ≤ 1) ∧ (0 ≤ b ∧ b ≤ 1) := by omega
  obtain ⟨⟨a0, a1⟩, b0, b1⟩ := hab
  have e1 : Int.tmod X 2 = a := by rw [Int.tmod_eq_emod_of_nonneg hX.1]; exact ha
  have e2 : Int.tmod Y 2 = b := by rw [Int.tmod_eq_emod_of_nonneg hY.1]; exact hb
  have hd : dimC X Y = a + b := by unfold dimC; rw [ha, hb]
  rw [hd]
  clear hd ha hb hX hY
  go_enter Tryz.func93, Tryz.ntmps93
  go_wp2_with fail
  go_ret
  exact ⟨rfl, (Below.refl _ _).alloc (Nat.le_refl _) _⟩

/-- the test of one neighbour -/
def tstI (ms : List ByteArray) (X Y dy dx : Int) : Bool := nearC X Y dx dy && fullI ms ((X + dx - 1) / 2) ((Y + dy - 1) / 2)
theorem touch_no {ms : List ByteArray} {X Y : Int} (h : ∀ dy dx : Int, -1 ≤ dy → dy < 2 → -1 ≤ dx → dx < 2 → tstI ms X Y dy dx = false) : touchI ms X Y = false := by
  unfold touchI
  have e : ∀ dy dx : Int, (nearC X Y dx dy && fullI ms ((X + dx - 1) / 2) ((Y + dy - 1) / 2)) = tstI ms X Y dy dx := fun _ _ => rfl
  simp only [e, List.any_cons, List.any_nil]
  rw [h (-1) (-1) (by omega) (by omega) (by omega) (by omega), h (-1) 0 (by omega) (by omega) (by omega) (by omega), h (-1) 1 (by omega) (by omega) (by omega) (by omega),
    h 0 (-1) (by omega) (by omega) (by omega) (by omega), h 0 0 (by omega) (by omega) (by omega) (by omega), h 0 1 (by omega) (by omega) (by omega) (by omega),
    h 1 (-1) (by omega) (by omega) (by omega) (by omega), h 1 0 (by omega) (by omega) (by omega) (by omega), h 1 1 (by omega) (by omega) (by omega) (by omega)]
  rfl
theorem touch_yes {ms : List ByteArray} {X Y dy dx : Int} (h1 : -1 ≤ dy) (h2 : dy < 2) (h3 : -1 ≤ dx) (h4 : dx < 2) (h : tstI ms X Y dy dx = true) : touchI ms X Y = true := by
  unfold touchI
  rw [List.any_eq_true]
  refine ⟨dy, ?_, ?_⟩
  · rcases (show dy = -1 ∨ dy = 0 ∨ dy = 1 by omega) with rfl | rfl | rfl <;> simp
  · rw [List.any_eq_true]
    refine ⟨dx, ?_, h⟩
    rcases (show dx = -1 ∨ dx = 0 ∨ dx = 1 by omega) with rfl | rfl | rfl <;> simp
set_option maxRecDepth 100000 in
set_option maxHeartbeats 8000000 in
theorem touched_any (ms : List ByteArray) (v : Value) (X Y : Int) (w : World) (h : StrsAt w v ms) (hX : 0 ≤ X ∧ X ≤ 1000000) (hY : 0 ≤ Y ∧ Y ≤ 1000000) :
    Calls Tryz.prog 94 #[v, .agg #[.int .i64 X, .int .i64 Y]] w fun e w' => e = .returned (.bool (touchI ms X Y)) ∧ Below w.heap.size w w' := by
  obtain ⟨pm, cm, hve, -⟩ := id h
  obtain ⟨n, hn⟩ : ∃ n, ms.length = n := ⟨_, rfl⟩
  rw [hn] at hve
  subst hve
  have hb := (Below.refl w.heap.size w).alloc (Nat.le_refl _) (.cells #[.int .i64 X, .int .i64 Y] 127)
  have HFULL := Lib.hid (fun x y => fullR_any (.slice pm n cm) ms x y _ (h.below hb (Nat.le_refl _)))
  unfold Plain at HFULL
  have HB := Lib.hid hb
  have HNO := Lib.hid (touch_no (ms := ms) (X := X) (Y := Y))
  have HYES := Lib.hid (fun dy dx => touch_yes (ms := ms) (X := X) (Y := Y) (dy := dy) (dx := dx))
  obtain ⟨r, hr⟩ : ∃ r, touchI ms X Y = r := ⟨_, rfl⟩
  rw [hr] at HNO HYES ⊢
  have HX := Lib.hid hX
  have HY := Lib.hid hY
  obtain ⟨hX0, hX1⟩ := hX
  obtain ⟨hY0, hY1⟩ := hY
  have hbk := heap_alloc_new w (.cells #[.int .i64 X, .int .i64 Y] 127)
  obtain ⟨w1, hw1⟩ : ∃ w1, w.alloc (.cells #[.int .i64 X, .int .i64 Y] 127) = w1 := ⟨_, rfl⟩
  obtain ⟨g, hg⟩ : ∃ g, w.heap.size = g := ⟨_, rfl⟩
  rw [hw1] at hbk HFULL HB
  rw [hg] at hbk
  have HW1 := Lib.hid hw1
  have HG := Lib.hid hg
  have c0 : w1.cell? ⟨g, 0, none⟩ = some (.int .i64 X) := by simp [World.cell?, hbk]
  have c1 : w1.cell? ⟨g, 1, none⟩ = some (.int .i64 Y) := by simp [World.cell?, hbk]
  obtain ⟨mx, hmx⟩ : ∃ a, X % 2 = a := ⟨_, rfl⟩
  obtain ⟨my, hmy⟩ : ∃ a, Y % 2 = a := ⟨_, rfl⟩
  have HMX := Lib.hid hmx
  have HMY := Lib.hid hmy
  have hm : (0 ≤ mx ∧ mx ≤ 1) ∧ (0 ≤ my ∧ my ≤ 1) := by omega
  obtain ⟨⟨hm0, hm1⟩, hm2, hm3⟩ := hm
  clear h hb hn hr hw1 hg hbk hmx hmy
  go_enter Tryz.func94, Tryz.ntmps94
  go_wp2_with fail
  rw [HW1.out, HG.out]
  go_loop [5] (fun s5 => ∃ dy : Int, -1 ≤ dy ∧ dy ≤ 2 ∧ s5 = .int .i64 dy ∧ ∀ ey ex : Int, -1 ≤ ey → ey < dy → -1 ≤ ex → ex < 2 → tstI ms X Y ey ex = false) (fun s5 => (2 - intOf s5).toNat)
  case atStart => exact ⟨-1, by omega, by omega, rfl, fun _ _ h1 h2 _ _ => by omega⟩
  case round =>
    obtain ⟨dy, hd0, hd1, rfl, hno⟩ := hrel
    have HN1 := Lib.hid hno
    clear hno
    by_cases hdl : dy < 2
    · have qd : decide (dy ≤ 1) = true := decide_eq_true (by omega)
      go_wp2_with fail
      go_loop [6] (fun s6 => ∃ dx : Int, -1 ≤ dx ∧ dx ≤ 2 ∧ s6 = .int .i64 dx ∧ ∀ ex : Int, -1 ≤ ex → ex < dx → tstI ms X Y dy ex = false) (fun s6 => (2 - intOf s6).toNat)
      case atStart => exact ⟨-1, by omega, by omega, rfl, fun _ h1 h2 => by omega⟩
      case round =>
        obtain ⟨dx, he0, he1, rfl, hno⟩ := hrel
        have HN2 := Lib.hid hno
        clear hno
        by_cases hel : dx < 2
        · have qe : decide (dx ≤ 1) = true := decide_eq_true (by omega)
          obtain ⟨x, hx⟩ : ∃ x, X + dx = x := ⟨_, rfl⟩
          obtain ⟨y, hy⟩ : ∃ y, Y + dy = y := ⟨_, rfl⟩
          have hxb : -1 ≤ x ∧ x ≤ 1000002 := by omega
          have hyb : -1 ≤ y ∧ y ≤ 1000002 := by omega
          obtain ⟨hx0, hx1⟩ := hxb
          obtain ⟨hy0, hy1⟩ := hyb
          obtain ⟨o1, ho1⟩ : ∃ o, decide (x % 2 = 1) = o := ⟨_, rfl⟩
          obtain ⟨o2, ho2⟩ : ∃ o, decide (y % 2 = 1) = o := ⟨_, rfl⟩
          obtain ⟨n1, hn1⟩ : ∃ o, (decide (dx = 0) || decide (mx = 0)) = o := ⟨_, rfl⟩
          obtain ⟨n2, hn2⟩ : ∃ o, (decide (dy = 0) || decide (my = 0)) = o := ⟨_, rfl⟩
          obtain ⟨f, hf⟩ : ∃ f, fullI ms ((x - 1) / 2) ((y - 1) / 2) = f := ⟨_, rfl⟩
          have HT : Hid (tstI ms X Y dy dx = (o1 && o2 && (n1 && n2) && decide (0 < x) && decide (0 < y) && f)) := by
            unfold Hid tstI nearC
            rw [hx, hy, ho1, ho2, HMX.out, HMY.out, hn1, hn2, hf]
            cases o1 <;> cases o2 <;> cases n1 <;> cases n2 <;> rfl
          have hfa := HFULL.out ((x - 1) / 2) ((y - 1) / 2)
          rw [hf] at hfa
          have HFA := Lib.hid hfa
          have HHX := Lib.hid hx
          have HO1 := Lib.hid ho1
          have HO2 := Lib.hid ho2
          have HNN1 := Lib.hid hn1
          have HNN2 := Lib.hid hn2
          have HNX : Hid (tstI ms X Y dy dx = false → ∀ ex : Int, -1 ≤ ex → ex < dx + 1 → tstI ms X Y dy ex = false) := fun ht ex h1 h2 => by
            by_cases e : ex < dx
            · exact HN2.out ex h1 e
            · rw [show ex = dx by omega]; exact ht
          clear hf hfa ho1 ho2 hn1 hn2
          have v1 : (Int.tmod (x + 2) 2 == 1) = o1 := by rw [Int.tmod_eq_emod_of_nonneg (by omega), ← HO1.out, Bool.eq_iff_iff]; simp
          have v2 : (Int.tmod (y + 2) 2 == 1) = o2 := by rw [Int.tmod_eq_emod_of_nonneg (by omega), ← HO2.out, Bool.eq_iff_iff]; simp
          have v3 : (x % 2 == 1) = o1 := by rw [← HO1.out, Bool.eq_iff_iff]; simp
          have v4 : (y % 2 == 1) = o2 := by rw [← HO2.out, Bool.eq_iff_iff]; simp
          obtain ⟨a1, ha1⟩ : ∃ o, (dx == 0) = o := ⟨_, rfl⟩
          obtain ⟨b1, hb1⟩ : ∃ o, (dy == 0) = o := ⟨_, rfl⟩
          obtain ⟨a2, ha2⟩ : ∃ o, (Int.tmod X 2 == 0) = o := ⟨_, rfl⟩
          obtain ⟨b2, hb2⟩ : ∃ o, (Int.tmod Y 2 == 0) = o := ⟨_, rfl⟩
          have HNA : Hid (n1 = (a1 || a2)) := by
            unfold Hid
            rw [← HNN1.out, ← ha1, ← ha2, Int.tmod_eq_emod_of_nonneg hX0, HMX.out]
            rw [Bool.eq_iff_iff]; simp
          have HNB : Hid (n2 = (b1 || b2)) := by
            unfold Hid
            rw [← HNN2.out, ← hb1, ← hb2, Int.tmod_eq_emod_of_nonneg hY0, HMY.out]
            rw [Bool.eq_iff_iff]; simp
          obtain ⟨p1, hp1⟩ : ∃ o, decide (0 < x) = o := ⟨_, rfl⟩
          obtain ⟨p2, hp2⟩ : ∃ o, decide (0 < y) = o := ⟨_, rfl⟩
          rw [hp1, hp2] at HT
          have d1 : 0 < x → Int.tdiv (x - 1) 2 = (x - 1) / 2 := fun h => Int.tdiv_eq_ediv_of_nonneg (by omega)
          have d2 : 0 < y → Int.tdiv (y - 1) 2 = (y - 1) / 2 := fun h => Int.tdiv_eq_ediv_of_nonneg (by omega)
          have HD1 := Lib.hid d1
          have HD2 := Lib.hid d2
          have HA1 := Lib.hid ha1
          have HA2 := Lib.hid ha2
          have HB1 := Lib.hid hb1
          have HB2 := Lib.hid hb2
          have HP1 := Lib.hid hp1
          have HP2 := Lib.hid hp2
          clear d1 d2 ha1 ha2 hb1 hb2 hp1 hp2
          go_upto_region 9 with fail
          go_cut [9] (fun s wx => s = .bool (o1 && o2) ∧ wx = w1)
          case first =>
            cases o1 with
            | false =>
              go_wp2_with fail
              go_meet
              exact ⟨rfl, rfl⟩
            | true =>
              cases o2 with
              | false =>
                go_wp2_with fail
                go_meet
                exact ⟨rfl, rfl⟩
              | true =>
                go_wp2_with fail
                go_meet
                exact ⟨rfl, rfl⟩
          case rest =>
          obtain ⟨hs, hwx⟩ := hcut
          subst hs
          rw [hwx]
          clear hwx v1 v2 v3 v4
          generalize hO : (o1 && o2) = O at HT ⊢
          generalize hN : (n1 && n2) = N at HT ⊢
          have HN0 := Lib.hid hN
          clear hO hN
          go_upto_region 10 with fail
          go_cut [10] (fun s wx => s = .bool N ∧ wx = w1)
          case first =>
            have u1 := HA1.out
            have u2 := HA2.out
            have u3 := HB1.out
            have u4 := HB2.out
            have u5 : (X % 2 == 0) = a2 := by rw [← u2, Int.tmod_eq_emod_of_nonneg hX0]
            have u6 : (Y % 2 == 0) = b2 := by rw [← u4, Int.tmod_eq_emod_of_nonneg hY0]
            cases a1 with
            | true =>
              cases b1 with
              | true =>
                go_wp2_with fail
                go_meet
                exact ⟨by rw [← HN0.out, HNA.out, HNB.out]; rfl, rfl⟩
              | false =>
                cases b2 with
                | true =>
                  go_wp2_with fail
                  go_meet
                  exact ⟨by rw [← HN0.out, HNA.out, HNB.out]; rfl, rfl⟩
                | false =>
                  go_wp2_with fail
                  go_meet
                  exact ⟨by rw [← HN0.out, HNA.out, HNB.out]; rfl, rfl⟩
            | false =>
              cases a2 with
              | true =>
                cases b1 with
                | true =>
                  go_wp2_with fail
                  go_meet
                  exact ⟨by rw [← HN0.out, HNA.out, HNB.out]; rfl, rfl⟩
                | false =>
                  cases b2 with
                  | true =>
                    go_wp2_with fail
                    go_meet
                    exact ⟨by rw [← HN0.out, HNA.out, HNB.out]; rfl, rfl⟩
                  | false =>
                    go_wp2_with fail
                    go_meet
                    exact ⟨by rw [← HN0.out, HNA.out, HNB.out]; rfl, rfl⟩
              | false =>
                go_wp2_with fail
                go_meet
                exact ⟨by rw [← HN0.out, HNA.out, HNB.out]; rfl, rfl⟩
          case rest =>
          obtain ⟨hs, hwx⟩ := hcut
          subst hs
          rw [hwx]
          clear hwx
          go_upto_region 11 with fail
          go_cut [76] (fun s wx => s = .bool (O && N && p1 && p2 && f) ∧ wx = w1)
          case first =>
            have u1 := HP1.out
            have u2 := HP2.out
            cases O with
            | false =>
              go_wp2_with fail
              go_meet
              exact ⟨by simp, rfl⟩
            | true =>
              cases N with
              | false =>
                go_wp2_with fail
                go_meet
                exact ⟨by simp, rfl⟩
              | true =>
                cases p1 with
                | false =>
                  go_wp2_with fail
                  go_meet
                  exact ⟨by simp, rfl⟩
                | true =>
                  cases p2 with
                  | false =>
                    go_wp2_with fail
                    go_meet
                    exact ⟨by simp, rfl⟩
                  | true =>
                    have z1 := HD1.out (of_decide_eq_true u1)
                    have z2 := HD2.out (of_decide_eq_true u2)
                    go_wp2_with fail
                    refine HFA.out.mono ?_
                    rintro e w2 ⟨rfl, hw⟩
                    rw [hw]
                    clear hw w2
                    go_wp2_with fail
                    go_meet
                    exact ⟨by simp, rfl⟩
          case rest =>
          obtain ⟨hs, hwx⟩ := hcut
          subst hs
          rw [hwx]
          clear hwx
          generalize hT : (O && N && p1 && p2 && f) = T at HT ⊢
          clear hT
          cases T with
          | true =>
            have HV := Lib.hid (HYES.out dy dx hd0 hdl he0 hel HT.out)
            go_wp2_with fail
            go_ret
            exact ⟨by rw [HV.out]; rfl, HB.out⟩
          | false =>
            go_wp2_with fail
            go_round
            case rel => exact ⟨dx + 1, by omega, by omega, by go_num, HNX.out HT.out⟩
            case measure => simp [intOf]; omega
        · obtain rfl : dx = 2 := by omega
          go_wp2_with fail
          go_round
          case rel =>
            refine ⟨dy + 1, by omega, by omega, by go_num, fun ey ex h1 h2 h3 h4 => ?_⟩
            by_cases e : ey < dy
            · exact HN1.out ey ex h1 e h3 h4
            · rw [show ey = dy by omega]; exact HN2.out ex h3 h4
          case measure => simp [intOf]; omega
    · obtain rfl : dy = 2 := by omega
      have HV := Lib.hid (HNO.out (fun ey ex h1 h2 h3 h4 => HN1.out ey ex h1 h2 h3 h4))
      go_wp2_with fail
      go_ret
      exact ⟨by rw [HV.out]; rfl, HB.out⟩
end Go.Proofs.YtoheffkiohfmoaaGreatDoor
