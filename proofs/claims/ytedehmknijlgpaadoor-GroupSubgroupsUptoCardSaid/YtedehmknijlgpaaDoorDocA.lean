/-
  The document's Letters, LettersOf, GroupError by contracts.
-/
import Derived.Test.YtedehmknijlgpaaDoorLet
set_option linter.unusedSimpArgs false
set_option linter.unusedVariables false
namespace Go.Proofs.YtedehmknijlgpaaDoor
open Go Go.RowKit Go.Maps

set_option maxRecDepth 100000 in
set_option maxHeartbeats 8000000 in
theorem lettersR_any (B : Nat) (L : List (List Int)) (v : Value) (w : World) (hv : ListsIn B w v L) (hn : L.length ≤ 2000000) (hs : L.flatten.length ≤ 2000000) :
    Calls Tryd.prog 8 #[v] w (CatP L w) := by
  obtain ⟨i3, hi3, hy0, hy1, hy2⟩ := info_parts Tryd.info3
  obtain ⟨pv, cv, hve, -⟩ := id hv
  obtain ⟨n, hLn⟩ : ∃ n, L.length = n := ⟨_, rfl⟩
  rw [hLn] at hve hn
  subst hve
  have HLN := Lib.hid hLn
  have HV := Lib.hid hv
  obtain ⟨m, hm⟩ : ∃ m, L.flatten.length = m := ⟨_, rfl⟩
  have HM := Lib.hid hm
  rw [hm] at hs
  unfold CatP
  rw [hm]
  clear hLn hv hm
  go_enter Tryd.func8, Tryd.ntmps8
  go_wp2_with fail
  go_loopw [3, 4] (fun s i wr => ∃ (j q : Nat) (p : Option Addr) (c : Nat), j ≤ n ∧ i = .int .i64 j ∧ s = .slice p q c ∧ Hid ((L.take j).flatten.length = q) ∧ Below w.heap.size w wr ∧ wr.ownsRow w.heap.size 3 1 (.slice p q c) q (intVs (L.take j).flatten)) (fun _ i _ => n - (intOf i).toNat)
  case atStart => exact ⟨0, 0, none, 0, Nat.zero_le _, rfl, rfl, rfl, Below.refl _ _, World.ownsRow_nil _ _ _ _⟩
  case round =>
    obtain ⟨j, q, p, c, hj, rfl, rfl, HQ, hb, ho⟩ := hrel
    have HB := Lib.hid hb
    have HO := Lib.hid ho
    have hsr := hb.size
    have hqk : q ≤ m := by rw [← HQ.out, ← HM.out]; exact flat_len L j
    by_cases hjn : j < n
    · have hjL : j < L.length := by rw [HLN.out]; exact hjn
      have HVR := Lib.hid (HV.out.below hb (Nat.le_refl _))
      obtain ⟨b, off, c', hve⟩ := HV.out.form (by omega)
      rw [HLN.out] at hve
      obtain ⟨rfl, rfl⟩ : pv = some ⟨b, off, none⟩ ∧ cv = c' := by cases hve; exact ⟨rfl, rfl⟩
      obtain ⟨pj, cj, hcj, hij⟩ := cells_at HVR.out j hjL
      have hsc := flat_succ hjL
      have HST := Lib.hid (flat_step hjL)
      obtain ⟨nj, hnj⟩ : ∃ nj, (L.getD j []).length = nj := ⟨_, rfl⟩
      rw [hnj] at hcj hsc hij
      rw [HQ.out, HM.out] at hsc
      have HNJ := Lib.hid hnj
      have HIJ := Lib.hid hij.at
      clear hve hij hnj hjL hb ho
      go_wp2_with (at_builtin; refine wpList_app_any wr rfl (.tmp 11) (.tmp 15) 27 rfl w.heap.size 3 i3 (.int .i64 0) 8 Tryd.underlying27 hi3 hy0 hy1 hy2 rfl (.slice p q c) q (intVs (L.take j).flatten) rfl HO.out pj nj cj (intVs (L.getD j [])) rfl HIJ.out.lenE HIJ.out.noneE HIJ.out.news (intVs_one _) (by unfold maxLen; omega) (by omega) hsr _ rfl ?_; intro p2 c2 w2 ho2 hg2 hat2; have HO2 := Lib.hid ho2; have HB2 := Lib.hid (HB.out.grown hg2 hsr (fun k e => (HO.out.lt k e).1)); clear ho2 hg2 hat2)
      go_roundw
      case rel =>
        refine ⟨j + 1, q + nj, p2, c2, by omega, by go_num, rfl, by unfold Hid; rw [HST.out, List.length_append, HQ.out, HNJ.out], HB2.out, ?_⟩
        have e : intVs (L.take j).flatten ++ intVs (L.getD j []) = intVs (L.take (j + 1)).flatten := by rw [HST.out]; simp [intVs]
        rw [← e]
        exact HO2.out
      case measure => simp [intOf]; omega
    · obtain rfl : n = j := by omega
      have HF : Hid ((L.take n) = L) := by unfold Hid; rw [← HLN.out, List.take_length]
      obtain rfl : q = m := by rw [← HQ.out, ← HM.out, HF.out]
      rw [HF.out] at HO
      clear hb ho HQ
      go_wp2_with fail
      go_ret
      exact ⟨p, c, rfl, HB.out, HO.out⟩

set_option maxRecDepth 100000 in
set_option maxHeartbeats 8000000 in
theorem lettersOf_any (G : Nat) (u v : Value) (xs : List Int) (w : World) (hG : G ≤ 1000) (hv : IntsAt w v xs) (hn : xs.length ≤ 2000000) :
    Calls Tryd.prog 23 #[.agg #[.int .i64 (G : Int), u], v] w (Gives (.bool (!xs.any (badL G))) w) := by
  obtain ⟨pv, cv, hve, -⟩ := id hv
  obtain ⟨n, hLn⟩ : ∃ n, xs.length = n := ⟨_, rfl⟩
  rw [hLn] at hve hn
  subst hve
  have hb : Below w.heap.size w (w.alloc (.cells #[.int .i64 (G : Int), u] 24)) := (Below.refl _ _).alloc (Nat.le_refl _) _
  obtain ⟨w1, hw1⟩ : ∃ w1, w.alloc (.cells #[.int .i64 (G : Int), u] 24) = w1 := ⟨_, rfl⟩
  have hg1 := heap_alloc_new w (.cells #[.int .i64 (G : Int), u] 24)
  rw [hw1] at hb hg1
  have HG1 := Lib.hid hg1
  have HB := Lib.hid hb
  have HW1 := Lib.hid hw1
  have HLN := Lib.hid hLn
  have HV := Lib.hid (hv.in.below hb (Nat.le_refl _)).at
  unfold Gives
  clear hb hg1 hw1 hv hLn
  go_enter Tryd.func23, Tryd.ntmps23
  go_upto_region 1 with fail
  rw [HW1.out]
  go_wp2_with fail
  go_loopw [5] (fun i wr => ∃ j z : Nat, j ≤ n ∧ i = .int .i64 j ∧ wr = w1.drewN z ∧ ∀ k, k < j → badL G (xs.getD k 0) = false) (fun i _ => n - (intOf i).toNat)
  case atStart => exact ⟨0, 0, Nat.zero_le _, rfl, rfl, fun k h => absurd h (by omega)⟩
  case round =>
    obtain ⟨j, z, hj, rfl, hz, hno⟩ := hrel
    have HZ := Lib.hid hz
    have HNO := Lib.hid hno
    have HBW : Hid (Below w.heap.size w wr) := by unfold Hid; rw [hz]; exact ⟨HB.out.os, HB.out.tape, HB.out.output, HB.out.size, HB.out.block⟩
    have c0 : wr.cell? ⟨w.heap.size, 0, none⟩ = some (.int .i64 (G : Int)) := by rw [hz]; simp [World.cell?, HG1.out, World.drewN]
    have hVr : IntsAt wr (.slice pv n cv) xs := by rw [hz]; exact HV.out
    clear hz hno
    by_cases hjn : j < n
    · have hjL : j < xs.length := by rw [HLN.out]; exact hjn
      obtain ⟨p', c', hv', -, -, hx⟩ := id hVr
      obtain ⟨b, off, e1, e2⟩ := hx j hjL
      cases hv'
      subst e1
      have HM : Hid (xs.getD j 0 ∈ xs) := by unfold Hid; rw [List.getD_eq_getElem?_getD, List.getElem?_eq_getElem hjL]; exact List.getElem_mem _
      obtain ⟨x, hxx⟩ : ∃ x, xs.getD j 0 = x := ⟨_, rfl⟩
      rw [hxx] at e2 HM
      have HX := Lib.hid hxx
      clear hx hxx hVr hjL
      have hwr : IntKind.i64.wrap (-(G : Int)) = -(G : Int) := IntWalk.i64_in _ (by omega)
      have HBAD : Hid (badL G x = true → xs.any (badL G) = true) := fun h => List.any_eq_true.2 ⟨x, HM.out, h⟩
      by_cases h0 : x = 0
      · have HR : Hid (xs.any (badL G) = true) := HBAD.out (decide_eq_true (.inl h0))
        have q0 : (x == 0) = true := beq_iff_eq.2 h0
        subst h0
        go_wp2_with fail
        go_quiet (fail)
        go_wp2_with fail
        go_ret
        rw [HR.out]
        exact ⟨rfl, ⟨HBW.out.os, HBW.out.tape, HBW.out.output, HBW.out.size, HBW.out.block⟩⟩
      · have q0 : (x == 0) = false := beq_eq_false_iff_ne.2 h0
        by_cases h1 : (G : Int) < x
        · have HR : Hid (xs.any (badL G) = true) := HBAD.out (decide_eq_true (.inr (.inl h1)))
          clear h0
          go_wp2_with fail
          go_quiet (fail)
          go_wp2_with fail
          go_ret
          rw [HR.out]
          exact ⟨rfl, ⟨HBW.out.os, HBW.out.tape, HBW.out.output, HBW.out.size, HBW.out.block⟩⟩
        · by_cases h2 : x < -(G : Int)
          · have HR : Hid (xs.any (badL G) = true) := HBAD.out (decide_eq_true (.inr (.inr h2)))
            clear h0
            go_wp2_with fail
            go_quiet (fail)
            go_wp2_with fail
            go_ret
            rw [HR.out]
            exact ⟨rfl, ⟨HBW.out.os, HBW.out.tape, HBW.out.output, HBW.out.size, HBW.out.block⟩⟩
          · have HR : Hid (badL G x = false) := decide_eq_false (by omega)
            clear h0
            go_wp2_with fail
            go_quiet (fail)
            go_wp2_with fail
            go_roundw
            case rel =>
              refine ⟨j + 1, z + nq, by omega, by go_num, by rw [HZ.out, World.drewN_drewN], fun k hk => ?_⟩
              rcases (show k < j ∨ k = j by omega) with h | rfl
              · exact HNO.out k h
              · rw [HX.out]; exact HR.out
            case measure => simp [intOf]; omega
    · obtain rfl : j = n := by omega
      have HA : Hid (xs.any (badL G) = false) := by
        unfold Hid
        rw [List.any_eq_false]
        intro x hm
        obtain ⟨k, hk, rfl⟩ := List.getElem_of_mem hm
        have := HNO.out k (by rw [← HLN.out]; exact hk)
        rw [List.getD_eq_getElem?_getD, List.getElem?_eq_getElem hk] at this
        simpa using this
      go_wp2_with fail
      go_ret
      rw [HA.out]
      exact ⟨rfl, HBW.out⟩

/-- a group's error, as the document numbers it -/
def refErr (c : Nat) : Int := if c = 0 then 0 else (c : Int) + 1
set_option maxRecDepth 100000 in
set_option maxHeartbeats 8000000 in
theorem groupError_any (B : Nat) (G : Int) (L : List (List Int)) (v : Value) (w : World) (hv : ListsIn B w v L) (hn : L.length ≤ 2000000) (hs : L.flatten.length ≤ 2000000) :
    Calls Tryd.prog 9 #[.agg #[.int .i64 G, v]] w (Gives (.int .i64 (refErr (groupErr G L))) w) := by
  obtain ⟨pv, cv, hve, -⟩ := id hv
  obtain ⟨n, hLn⟩ : ∃ n, L.length = n := ⟨_, rfl⟩
  rw [hLn] at hve hn
  subst hve
  have hb0 : Below w.heap.size w (w.alloc (.cells #[.int .i64 G, .slice pv n cv] 24)) := (Below.refl _ _).alloc (Nat.le_refl _) _
  obtain ⟨w1, hw1⟩ : ∃ w1, w.alloc (.cells #[.int .i64 G, .slice pv n cv] 24) = w1 := ⟨_, rfl⟩
  have hg1 := heap_alloc_new w (.cells #[.int .i64 G, .slice pv n cv] 24)
  rw [hw1] at hb0 hg1
  have HG1 := Lib.hid hg1
  have HB0 := Lib.hid hb0
  have HW1 := Lib.hid hw1
  have HC := Lib.hid (lettersR_any B L (.slice pv n cv) w1 (hv.below hb0 (Nat.le_refl _)) (by rw [hLn]; exact hn) hs)
  unfold CatP at HC
  obtain ⟨m, hm⟩ : ∃ m, L.flatten.length = m := ⟨_, rfl⟩
  rw [hm] at HC hs
  have HM := Lib.hid hm
  have HLN := Lib.hid hLn
  unfold Gives
  clear hv hb0 hg1 hw1 hm hLn
  have c0 : w1.cell? ⟨w.heap.size, 0, none⟩ = some (.int .i64 G) := by simp [World.cell?, HG1.out]
  have c1 : w1.cell? ⟨w.heap.size, 1, none⟩ = some (.slice pv n cv) := by simp [World.cell?, HG1.out]
  go_enter Tryd.func9, Tryd.ntmps9
  go_upto_region 1 with fail
  rw [HW1.out]
  go_wp2_with fail
  refine HC.out.mono ?_
  rintro e w2 ⟨p, c, rfl, hb2, ho2⟩
  have d0 := (hb2.cell (p := ⟨w.heap.size, 0, none⟩) (mem_lt c0)).trans c0
  have d1 := (hb2.cell (p := ⟨w.heap.size, 1, none⟩) (mem_lt c1)).trans c1
  have HB2 := Lib.hid (HB0.out.trans (hb2.mono HB0.out.size))
  have HI := Lib.hid (ints_owned (B := B) (xs := L.flatten) ho2 HM.out.symm).at
  clear hb2 ho2 c0 c1
  by_cases hbad : G < 0 ∨ 12 < G ∨ 400 < m ∨ 400 < n
  · have HE : Hid (refErr (groupErr G L) = 2) := by unfold Hid groupErr refErr; rw [HM.out, HLN.out, if_pos hbad]; rfl
    by_cases k1 : G < 0
    · clear hbad
      go_wp2_with fail
      go_ret
      rw [HE.out]
      exact ⟨rfl, HB2.out⟩
    · by_cases k2 : 12 < G
      · clear hbad
        go_wp2_with fail
        go_ret
        rw [HE.out]
        exact ⟨rfl, HB2.out⟩
      · by_cases k3 : 400 < m
        · clear hbad
          go_wp2_with fail
          go_ret
          rw [HE.out]
          exact ⟨rfl, HB2.out⟩
        · have k4 : 400 < n := by omega
          clear hbad
          go_wp2_with fail
          go_ret
          rw [HE.out]
          exact ⟨rfl, HB2.out⟩
  · obtain ⟨g, rfl⟩ : ∃ g : Nat, G = (g : Int) := ⟨G.toNat, by omega⟩
    have hg : g ≤ 12 := by omega
    have k3 : m ≤ 400 := by omega
    have k4 : n ≤ 400 := by omega
    have HE : Hid (groupErr (g : Int) L = if L.flatten.any (badL g) = true then 2 else 0) := by unfold Hid groupErr; rw [HM.out, HLN.out, if_neg hbad, Int.toNat_natCast]
    have HLT := Lib.hid (lettersOf_any g (.slice pv n cv) (.slice p m c) L.flatten w2 (by omega) HI.out (by rw [HM.out]; omega))
    unfold Gives at HLT
    obtain ⟨r, hr⟩ : ∃ r, L.flatten.any (badL g) = r := ⟨_, rfl⟩
    rw [hr] at HLT HE
    clear hbad hr
    cases r with
    | true =>
      have HE2 : Hid (refErr (groupErr (g : Int) L) = 3) := by unfold Hid; rw [HE.out]; rfl
      clear HE
      go_wp2_with fail
      refine HLT.out.mono ?_
      rintro e w3 ⟨rfl, hb3⟩
      have HB3 := Lib.hid (HB2.out.trans (hb3.mono HB2.out.size))
      clear hb3 d0 d1
      go_wp2_with fail
      go_ret
      rw [HE2.out]
      exact ⟨rfl, HB3.out⟩
    | false =>
      have HE2 : Hid (refErr (groupErr (g : Int) L) = 0) := by unfold Hid; rw [HE.out]; rfl
      clear HE
      go_wp2_with fail
      refine HLT.out.mono ?_
      rintro e w3 ⟨rfl, hb3⟩
      have HB3 := Lib.hid (HB2.out.trans (hb3.mono HB2.out.size))
      clear hb3 d0 d1
      go_wp2_with fail
      go_ret
      rw [HE2.out]
      exact ⟨rfl, HB3.out⟩
end Go.Proofs.YtedehmknijlgpaaDoor
