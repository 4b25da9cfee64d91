/-
  The program's holds, the document's Holds, by contracts.
  The document's Holds, Standard by contracts, whatever they say.
-/
import Derived.Test.YtedehmknijlgpaaDoorSbD
import Derived.Test.YtedehmknijlgpaaDoorDocC
import Derived.Test.YtedehmknijlgpaaDoorCsA
set_option linter.unusedSimpArgs false
set_option linter.unusedVariables false
namespace Go.Proofs.YtedehmknijlgpaaDoor
open Go Go.RowKit Go.Maps

theorem TC.pathM_neg {T : TC.Rows} {a : Int} {k : Nat} {w : List Nat} (h : TC.ent T a.toNat k < 0) : TC.pathM T a (k :: w) < 0 := by unfold TC.pathM; rw [if_pos h]; exact h
theorem TC.pathM_step {T : TC.Rows} {a : Int} {k : Nat} {w : List Nat} (h : ¬ TC.ent T a.toNat k < 0) : TC.pathM T a (k :: w) = TC.pathM T (TC.ent T a.toNat k) w := by
  rw [TC.pathM, if_neg h]
set_option maxRecDepth 100000 in
set_option maxHeartbeats 8000000 in
theorem hold_any (B W n : Nat) (G : Int) (rels T : List (List Int)) (vr vt : Value) (w : World) (hr : ListsIn B w vr rels) (hT : ListsIn B w vt T) (hw : TC.Wide W T) (hm : T.length = n) (hx : ∀ l ∈ rels, ∀ x ∈ l, x ≠ 0 ∧ -1000000 ≤ x ∧ x ≤ 1000000 ∧ colN x < W) (hlen : ∀ l ∈ rels, l.length ≤ 1000000) (hrl : rels.length ≤ 1000000) (htl : n ≤ 1000) :
    Calls Tryd.prog 57 #[.agg #[.int .i64 G, vr], vt] w (Gives (.bool (TC.holdM n (colsL rels) T)) w) := by
  obtain ⟨pr, cr, hre, -⟩ := id hr
  obtain ⟨nr, hLn⟩ : ∃ nr, rels.length = nr := ⟨_, rfl⟩
  rw [hLn] at hre hrl
  subst hre
  obtain ⟨pt, ct, hte, -⟩ := id hT
  rw [hm] at hte
  subst hte
  have hb : Below w.heap.size w (w.alloc (.cells #[.int .i64 G, .slice pr nr cr] 33)) := (Below.refl _ _).alloc (Nat.le_refl _) _
  obtain ⟨w1, hw1⟩ : ∃ w1, w.alloc (.cells #[.int .i64 G, .slice pr nr cr] 33) = w1 := ⟨_, rfl⟩
  have hg1 := heap_alloc_new w (.cells #[.int .i64 G, .slice pr nr cr] 33)
  rw [hw1] at hb hg1
  have HG1 := Lib.hid hg1
  have HB := Lib.hid hb
  have HW1 := Lib.hid hw1
  have HLN := Lib.hid hLn
  have HM := Lib.hid hm
  have HR := Lib.hid (hr.below hb (Nat.le_refl _))
  have HT := Lib.hid (hT.below hb (Nat.le_refl _))
  have HWD := Lib.hid hw
  have HX := Lib.hid hx
  have HLE := Lib.hid hlen
  obtain ⟨res, hres⟩ : ∃ res, TC.holdM n (colsL rels) T = res := ⟨_, rfl⟩
  have HRES := Lib.hid hres
  have HNO : Hid (∀ i, i < n → ∀ q, q < rels.length → 0 ≤ TC.pathM T (i : Int) ((rels.getD q []).map colN) → TC.pathM T (i : Int) ((rels.getD q []).map colN) ≠ (i : Int) → res = false) := by
    intro i hi q hq h1 h2
    rw [← HRES.out, Bool.eq_false_iff]
    intro e
    have h3 := TC.holdM_iff.1 e i hi ((colsL rels).getD q []) (by rw [List.getD_eq_getElem?_getD, List.getElem?_eq_getElem (by rw [colsL_len]; exact hq)]; exact List.getElem_mem _)
    rw [colsL_at hq] at h3
    omega
  have HYES : Hid ((∀ i, i < n → ∀ q, q < rels.length → TC.pathM T (i : Int) ((rels.getD q []).map colN) < 0 ∨ TC.pathM T (i : Int) ((rels.getD q []).map colN) = (i : Int)) → res = true) := by
    intro h
    rw [← HRES.out]
    refine TC.holdM_iff.2 fun i hi r hrm => ?_
    obtain ⟨q, hq, e⟩ := List.getElem_of_mem hrm
    have hq2 : q < rels.length := by rw [colsL_len] at hq; exact hq
    have h1 := h i hi q hq2
    rw [← colsL_at hq2, List.getD_eq_getElem?_getD, List.getElem?_eq_getElem hq] at h1
    rw [← e]; exact h1
  rw [hres]
  unfold Gives
  clear hr hT hb hw1 hg1 hLn hm hw hx hlen hres
  go_enter Tryd.func57, Tryd.ntmps57
  go_upto_region 1 with fail
  rw [HW1.out]
  go_wp2_with fail
  go_loopw [13] (fun i wr => ∃ j z : Nat, j ≤ n ∧ i = .int .i64 (j : Int) ∧ wr = w1.drewN z ∧ Hid (∀ i, i < j → ∀ q, q < rels.length → TC.pathM T (i : Int) ((rels.getD q []).map colN) < 0 ∨ TC.pathM T (i : Int) ((rels.getD q []).map colN) = (i : Int))) (fun i _ => n - (intOf i).toNat)
  case atStart => exact ⟨0, 0, Nat.zero_le _, rfl, rfl, fun i h => absurd h (by omega)⟩
  case round =>
    obtain ⟨j, z, hj, rfl, hz, HJ⟩ := hrel
    have HZ := Lib.hid hz
    by_cases hjn : j < n
    · have d1 : wr.cell? ⟨w.heap.size, 1, none⟩ = some (.slice pr nr cr) := by rw [hz]; simp [World.cell?, HG1.out, World.drewN]
      clear hz
      go_wp2_with fail
      go_loopw [19] (fun i wr => ∃ q z : Nat, q ≤ nr ∧ i = .int .i64 (q : Int) ∧ wr = w1.drewN z ∧ Hid (∀ q', q' < q → TC.pathM T (j : Int) ((rels.getD q' []).map colN) < 0 ∨ TC.pathM T (j : Int) ((rels.getD q' []).map colN) = (j : Int))) (fun i _ => nr - (intOf i).toNat)
      case atStart => exact ⟨0, z, Nat.zero_le _, rfl, HZ.out, fun i h => absurd h (by omega)⟩
      case round =>
        clear d1
        obtain ⟨q, z2, hq, rfl, hz, HQ⟩ := hrel
        have HZ2 := Lib.hid hz
        by_cases hqn : q < nr
        · have hqL : q < rels.length := by rw [HLN.out]; exact hqn
          have hrr : ListsIn B wr (.slice pr nr cr) rels := by rw [hz]; exact HR.out.drewN z2
          obtain ⟨b, off, c', hve⟩ := hrr.form (by omega)
          rw [HLN.out] at hve
          obtain ⟨rfl, rfl⟩ : pr = some ⟨b, off, none⟩ ∧ cr = c' := by cases hve; exact ⟨rfl, rfl⟩
          obtain ⟨pj, cj, hcj, hij⟩ := cells_at hrr q hqL
          have hXq := HX.out _ (getL_mem hqL)
          have hLq := HLE.out _ (getL_mem hqL)
          have HNQ := Lib.hid (fun i hi => HNO.out i hi q hqL)
          have HIJ0 := Lib.hid (fun z => (HR.out.drewN z))
          obtain ⟨xs, hxs⟩ : ∃ xs, rels.getD q [] = xs := ⟨_, rfl⟩
          rw [hxs] at hcj hij hXq hLq HNQ
          have HXS := Lib.hid hxs
          obtain ⟨l, hl⟩ : ∃ l, xs.length = l := ⟨_, rfl⟩
          rw [hl] at hcj hij hLq
          have HL := Lib.hid hl
          have HXQ := Lib.hid hXq
          have hij1 : IntsAt w1 (.slice pj l cj) xs := by
            have h1 := hij
            rw [hz] at h1
            obtain ⟨pj2, cj2, hcj2, hij2⟩ := cells_at HR.out q hqL
            have hcj3 : w1.cell? ⟨b, off + q, none⟩ = some (.slice pj l cj) := by rw [hz] at hcj; exact hcj
            rw [hcj3] at hcj2
            have e := Option.some.inj hcj2
            rw [hxs] at hij2 e
            rw [e]; exact hij2.at
          have HIJ := Lib.hid hij1
          obtain ⟨cs, hcs⟩ : ∃ cs, xs.map colN = cs := ⟨_, rfl⟩
          have hcl : cs.length = l := by rw [← hcs, List.length_map, hl]
          rw [hcs] at HNQ
          have HCS := Lib.hid hcs
          have HCL := Lib.hid hcl
          clear hz hve hij hqL hrr hxs hl hXq hij1 hcs hcl HIJ0
          go_wp2_with fail
          go_loopw [8, 26] (fun a i wr => ∃ (k y z : Nat), k ≤ l ∧ i = .int .i64 (k : Int) ∧ a = .int .i64 (y : Int) ∧ wr = w1.drewN z ∧ y < n ∧ Hid (TC.pathM T (y : Int) (cs.drop k) = TC.pathM T (j : Int) cs)) (fun _ i _ => l - (intOf i).toNat)
          case atStart => exact ⟨0, j, z2, Nat.zero_le _, rfl, rfl, HZ2.out, hjn, rfl⟩
          case round =>
            clear hcj
            obtain ⟨k, y, z3, hk, rfl, rfl, hz, hy, HY⟩ := hrel
            have HZ3 := Lib.hid hz
            by_cases hkl : k < l
            · have hkx : k < xs.length := by rw [HL.out]; exact hkl
              obtain ⟨b5, o5, e1, e2⟩ : ∃ b off, pj = some ⟨b, off, none⟩ ∧ wr.cell? ⟨b, off + k, none⟩ = some (.int .i64 (xs.getD k 0)) := by
                obtain ⟨p', c', he, -, -, hc⟩ := HIJ.out
                obtain ⟨b, off, e1, e2⟩ := hc k hkx
                cases he
                exact ⟨b, off, e1, by rw [hz]; exact e2⟩
              subst e1
              obtain ⟨hx0, hx1, hx2, hx3⟩ := HXQ.out _ (show xs.getD k 0 ∈ xs by rw [List.getD_eq_getElem?_getD, List.getElem?_eq_getElem hkx]; exact List.getElem_mem _)
              have hdr : cs.drop k = colN (xs.getD k 0) :: cs.drop (k + 1) := by
                rw [List.drop_eq_getElem_cons (by rw [HCL.out]; exact hkl)]
                congr 1
                simp only [← HCS.out, List.getElem_map]
                congr 1
                simp [List.getD_eq_getElem?_getD, hkx]
              have hpa := HY.out
              rw [hdr] at hpa
              obtain ⟨x, hxx⟩ : ∃ x, xs.getD k 0 = x := ⟨_, rfl⟩
              rw [hxx] at e2 hx0 hx1 hx2 hx3 hpa
              have HCO := Lib.hid (fun d => column_any x (wr.drewN d) hx0 ⟨hx1, hx2⟩)
              unfold GivesK at HCO
              obtain ⟨kc, hkc⟩ : ∃ kc, colN x = kc := ⟨_, rfl⟩
              rw [hkc] at HCO hx3 hpa
              have hyT : y < T.length := by rw [HM.out]; exact hy
              have htr : ListsIn B wr (.slice pt n ct) T := by rw [hz]; exact HT.out.drewN z3
              obtain ⟨bt, ot, ct', hvt⟩ := htr.form (by omega)
              rw [HM.out] at hvt
              obtain ⟨rfl, rfl⟩ : pt = some ⟨bt, ot, none⟩ ∧ ct = ct' := by cases hvt; exact ⟨rfl, rfl⟩
              obtain ⟨pq, cq, hcq, hiq⟩ := htr.entry hyT
              have hlen := HWD.out.len y hyT
              rw [hlen] at hcq hiq
              obtain ⟨b2, o2, e3, e4⟩ := hiq kc hx3
              subst e3
              obtain ⟨ez, hez⟩ : ∃ ez, (T.getD y []).getD kc (-1) = ez := ⟨_, rfl⟩
              have hent : TC.ent T y kc = ez := hez
              rw [hez] at e4
              have hlo := (HWD.out.ent y kc).1
              have hhi := (HWD.out.ent y kc).2
              rw [hent] at hlo hhi
              rw [HM.out] at hhi
              have HP0 := Lib.hid hpa
              have HENT := Lib.hid hent
              clear htr hdr hxx hkc hlen hez hent hvt hiq hkx hz HY hyT hpa
              by_cases hneg : ez < 0
              · have HNG : Hid (TC.pathM T (j : Int) cs < 0) := by
                  unfold Hid
                  rw [← HP0.out]
                  exact TC.pathM_neg (by rw [Int.toNat_natCast, HENT.out]; exact hneg)
                have HQ2 : Hid (∀ q', q' < q + 1 → TC.pathM T (j : Int) ((rels.getD q' []).map colN) < 0 ∨ TC.pathM T (j : Int) ((rels.getD q' []).map colN) = (j : Int)) := by
                  intro q' hq'
                  rcases Nat.lt_or_ge q' q with h | h
                  · exact HQ.out q' h
                  · obtain rfl : q' = q := by omega
                    rw [HXS.out, HCS.out]; exact .inl HNG.out
                go_wp2_with fail
                go_quiet ((go_at_call 49; with_reducible exact Calls.quiet_of_same (HCO.out _)))
                go_wp2_with fail
                go_roundw
                case rel => exact ⟨q + 1, z3 + nq, hqn, by go_num, by rw [HZ3.out, World.drewN_drewN], HQ2.out⟩
                case measure => simp [intOf]; omega
              · obtain ⟨u, rfl⟩ : ∃ u : Nat, ez = (u : Int) := ⟨ez.toNat, by omega⟩
                have hun : u < n := by omega
                have HP1 : Hid (TC.pathM T (u : Int) (cs.drop (k + 1)) = TC.pathM T (j : Int) cs) := by
                  unfold Hid
                  rw [← HP0.out, TC.pathM_step (by rw [Int.toNat_natCast, HENT.out]; exact hneg), Int.toNat_natCast, HENT.out]
                go_wp2_with fail
                go_quiet ((go_at_call 49; with_reducible exact Calls.quiet_of_same (HCO.out _)))
                go_wp2_with fail
                go_roundw
                case rel => exact ⟨k + 1, u, z3 + nq, hkl, by go_num, rfl, by rw [HZ3.out, World.drewN_drewN], hun, HP1.out⟩
                case measure => simp [intOf]; omega
            · obtain rfl : k = l := by omega
              have HF : Hid (TC.pathM T (j : Int) cs = (y : Int)) := by
                unfold Hid
                rw [← HY.out, ← HCL.out, List.drop_length]; rfl
              clear hz HY
              by_cases hyj : y = j
              · have q1 : ((y : Int) != (j : Int)) = false := by rw [bne_eq_false_iff_eq]; omega
                have HQ2 : Hid (∀ q', q' < q + 1 → TC.pathM T (j : Int) ((rels.getD q' []).map colN) < 0 ∨ TC.pathM T (j : Int) ((rels.getD q' []).map colN) = (j : Int)) := by
                  intro q' hq'
                  rcases Nat.lt_or_ge q' q with h | h
                  · exact HQ.out q' h
                  · obtain rfl : q' = q := by omega
                    rw [HXS.out, HCS.out, HF.out, hyj]; exact .inr rfl
                go_wp2_with fail
                go_roundw
                case rel => exact ⟨q + 1, z3, hqn, by go_num, HZ3.out, HQ2.out⟩
                case measure => simp [intOf]; omega
              · have q1 : ((y : Int) != (j : Int)) = true := by rw [bne_iff_ne]; omega
                have HRF : Hid (res = false) := HNQ.out j hjn (by rw [HF.out]; omega) (by rw [HF.out]; omega)
                have HBF : Hid (Below w.heap.size w wr) := by unfold Hid; rw [HZ3.out]; exact ⟨HB.out.os, HB.out.tape, HB.out.output, HB.out.size, HB.out.block⟩
                go_wp2_with fail
                go_ret
                rw [HRF.out]
                exact ⟨rfl, HBF.out⟩
        · obtain rfl : q = nr := by omega
          have HJ2 : Hid (∀ i, i < j + 1 → ∀ q, q < rels.length → TC.pathM T (i : Int) ((rels.getD q []).map colN) < 0 ∨ TC.pathM T (i : Int) ((rels.getD q []).map colN) = (i : Int)) := by
            intro i hi q' hq'
            rcases Nat.lt_or_ge i j with h | h
            · exact HJ.out i h q' hq'
            · obtain rfl : i = j := by omega
              exact HQ.out q' (by rw [← HLN.out]; exact hq')
          clear hz
          go_wp2_with fail
          go_roundw
          case rel => exact ⟨j + 1, z2, hjn, by go_num, HZ2.out, HJ2.out⟩
          case measure => simp [intOf]; omega
    · obtain rfl : j = n := by omega
      have HRT : Hid (res = true) := HYES.out HJ.out
      have HBF : Hid (Below w.heap.size w wr) := by unfold Hid; rw [hz]; exact ⟨HB.out.os, HB.out.tape, HB.out.output, HB.out.size, HB.out.block⟩
      clear hz
      go_wp2_with fail
      go_ret
      rw [HRT.out]
      exact ⟨rfl, HBF.out⟩

set_option maxRecDepth 100000 in
set_option maxHeartbeats 8000000 in
theorem holds_gen (B W : Nat) (G : Int) (rels T : List (List Int)) (vr vt : Value) (w : World) (hr : ListsIn B w vr rels) (hT : ListsIn B w vt T) (hok : TabOk W T) (hx : ∀ l ∈ rels, ∀ x ∈ l, x ≠ 0 ∧ -1000000 ≤ x ∧ x ≤ 1000000 ∧ colN x < W) (hlen : ∀ l ∈ rels, l.length ≤ 1000000) (hrl : rels.length ≤ 1000000) (htl : T.length ≤ 1000000) :
    Calls Tryd.prog 13 #[.agg #[.int .i64 G, vr], vt] w (Gives (.bool (TC.holdT T.length (colsL rels) T)) w) := by
  obtain ⟨pr, cr, hre, -⟩ := id hr
  obtain ⟨n, hLn⟩ : ∃ n, rels.length = n := ⟨_, rfl⟩
  rw [hLn] at hre hrl
  subst hre
  obtain ⟨pt, ct, hte, -⟩ := id hT
  obtain ⟨m, hm⟩ : ∃ m, T.length = m := ⟨_, rfl⟩
  rw [hm] at hte htl
  subst hte
  have hb : Below w.heap.size w (w.alloc (.cells #[.int .i64 G, .slice pr n cr] 24)) := (Below.refl _ _).alloc (Nat.le_refl _) _
  obtain ⟨w1, hw1⟩ : ∃ w1, w.alloc (.cells #[.int .i64 G, .slice pr n cr] 24) = w1 := ⟨_, rfl⟩
  have hg1 := heap_alloc_new w (.cells #[.int .i64 G, .slice pr n cr] 24)
  rw [hw1] at hb hg1
  have HG1 := Lib.hid hg1
  have HB := Lib.hid hb
  have HW1 := Lib.hid hw1
  have HLN := Lib.hid hLn
  have HM := Lib.hid hm
  have HR := Lib.hid (hr.below hb (Nat.le_refl _))
  have HT := Lib.hid (hT.below hb (Nat.le_refl _))
  have HOK := Lib.hid hok
  have HX := Lib.hid hx
  have HLE := Lib.hid hlen
  obtain ⟨res, hres⟩ : ∃ res, TC.holdT m (colsL rels) T = res := ⟨_, rfl⟩
  have HNO : Hid (∀ i, i < m → ∀ q, q < rels.length → TC.leadT T i ((rels.getD q []).map colN) ≠ i → res = false) := by
    intro i hi q hq h1
    rw [← hres, Bool.eq_false_iff]
    intro e
    unfold TC.holdT at e
    simp only [List.all_eq_true, List.mem_range, decide_eq_true_eq] at e
    have h3 := e i hi ((colsL rels).getD q []) (by rw [List.getD_eq_getElem?_getD, List.getElem?_eq_getElem (by rw [colsL_len]; exact hq)]; exact List.getElem_mem _)
    rw [colsL_at hq] at h3
    exact h1 h3
  have HYES : Hid ((∀ i, i < m → ∀ q, q < rels.length → TC.leadT T i ((rels.getD q []).map colN) = i) → res = true) := by
    intro h
    rw [← hres]
    unfold TC.holdT
    simp only [List.all_eq_true, List.mem_range, decide_eq_true_eq]
    intro i hi r hrm
    obtain ⟨q, hq, e⟩ := List.getElem_of_mem hrm
    have hq2 : q < rels.length := by rw [colsL_len] at hq; exact hq
    have h1 := h i hi q hq2
    rw [← colsL_at hq2, List.getD_eq_getElem?_getD, List.getElem?_eq_getElem hq] at h1
    rw [← e]; exact h1
  rw [hm, hres]
  unfold Gives
  clear hr hT hb hw1 hg1 hLn hm hok hx hlen hres
  go_enter Tryd.func13, Tryd.ntmps13
  go_upto_region 1 with fail
  rw [HW1.out]
  go_wp2_with fail
  go_loopw [5, 6] (fun i _ wr => ∃ j z : Nat, j ≤ m ∧ i = .int .i64 (j : Int) ∧ wr = w1.drewN z ∧ Hid (∀ i, i < j → ∀ q, q < rels.length → TC.leadT T i ((rels.getD q []).map colN) = i)) (fun i _ _ => m - (intOf i).toNat)
  case atStart => exact ⟨0, 0, Nat.zero_le _, rfl, rfl, fun i h => absurd h (by omega)⟩
  case round =>
    obtain ⟨j, z, hj, rfl, hz, HJ⟩ := hrel
    have HZ := Lib.hid hz
    by_cases hjm : j < m
    · have hjT : j < T.length := by rw [HM.out]; exact hjm
      have HJT := Lib.hid hjT
      clear hz hjT
      go_wp2_with fail
      go_loopw [6] (fun i wr => ∃ q z : Nat, q ≤ n ∧ i = .int .i64 (q : Int) ∧ wr = w1.drewN z ∧ Hid (∀ q', q' < q → TC.leadT T j ((rels.getD q' []).map colN) = j)) (fun i _ => n - (intOf i).toNat)
      case atStart => exact ⟨0, z, Nat.zero_le _, rfl, HZ.out, fun i h => absurd h (by omega)⟩
      case round =>
        obtain ⟨q, z2, hq, rfl, hz, HQ⟩ := hrel
        have HZ2 := Lib.hid hz
        have d1 : wr.cell? ⟨w.heap.size, 1, none⟩ = some (.slice pr n cr) := by rw [hz]; simp [World.cell?, HG1.out, World.drewN]
        by_cases hqn : q < n
        · have hqL : q < rels.length := by rw [HLN.out]; exact hqn
          have hrr : ListsIn B wr (.slice pr n cr) rels := by rw [hz]; exact HR.out.drewN z2
          have htr : ListsIn B wr (.slice pt m ct) T := by rw [hz]; exact HT.out.drewN z2
          obtain ⟨b, off, c', hve⟩ := hrr.form (by omega)
          rw [HLN.out] at hve
          obtain ⟨rfl, rfl⟩ : pr = some ⟨b, off, none⟩ ∧ cr = c' := by cases hve; exact ⟨rfl, rfl⟩
          obtain ⟨pj, cj, hcj, hij⟩ := cells_at hrr q hqL
          have HLD := Lib.hid (leads_any B W j T (rels.getD q []) (.slice pt m ct) (.slice pj (rels.getD q []).length cj) wr htr HOK.out HJT.out (HX.out _ (getL_mem hqL)) hij.at (HLE.out _ (getL_mem hqL)) (by rw [HM.out]; exact htl))
          have HNQ := Lib.hid (fun e => HNO.out j hjm q hqL e)
          obtain ⟨t, ht⟩ : ∃ t, TC.leadT T j ((rels.getD q []).map colN) = t := ⟨_, rfl⟩
          rw [ht] at HLD HNQ
          have HTT := Lib.hid ht
          unfold Drew at HLD
          obtain ⟨lj, hlj⟩ : ∃ lj, (rels.getD q []).length = lj := ⟨_, rfl⟩
          rw [hlj] at hcj HLD
          clear hz hqL hrr htr hve hij hlj ht
          by_cases htj : t = j
          · have q1 : ((t : Int) != (j : Int)) = false := by rw [bne_eq_false_iff_eq]; omega
            have HQ2 : Hid (∀ q', q' < q + 1 → TC.leadT T j ((rels.getD q' []).map colN) = j) := by
              intro q' hq'
              rcases Nat.lt_or_ge q' q with h | h
              · exact HQ.out q' h
              · obtain rfl : q' = q := by omega
                rw [HTT.out]; exact htj
            go_wp2_with fail
            refine HLD.out.mono ?_
            rintro e w3 ⟨rfl, z3, hz3⟩
            have HZ3 := Lib.hid hz3
            clear hz3 d1 hcj
            go_wp2_with fail
            go_roundw
            case rel => exact ⟨q + 1, z2 + z3, hqn, by go_num, by rw [HZ3.out, HZ2.out, World.drewN_drewN], HQ2.out⟩
            case measure => simp [intOf]; omega
          · have q1 : ((t : Int) != (j : Int)) = true := by rw [bne_iff_ne]; omega
            have HRF : Hid (res = false) := HNQ.out htj
            go_wp2_with fail
            refine HLD.out.mono ?_
            rintro e w3 ⟨rfl, z3, hz3⟩
            have HBF : Hid (Below w.heap.size w w3) := by unfold Hid; rw [hz3, HZ2.out, World.drewN_drewN]; exact ⟨HB.out.os, HB.out.tape, HB.out.output, HB.out.size, HB.out.block⟩
            clear hz3 d1 hcj
            go_wp2_with fail
            go_ret
            rw [HRF.out]
            exact ⟨rfl, HBF.out⟩
        · obtain rfl : q = n := by omega
          have HJ2 : Hid (∀ i, i < j + 1 → ∀ q, q < rels.length → TC.leadT T i ((rels.getD q []).map colN) = i) := by
            intro i hi q' hq'
            rcases Nat.lt_or_ge i j with h | h
            · exact HJ.out i h q' hq'
            · obtain rfl : i = j := by omega
              exact HQ.out q' (by rw [← HLN.out]; exact hq')
          clear hz
          go_wp2_with fail
          go_roundw
          case rel => exact ⟨j + 1, z2, hjm, by go_num, HZ2.out, HJ2.out⟩
          case measure => simp [intOf]; omega
    · obtain rfl : j = m := by omega
      have HBF : Hid (Below w.heap.size w wr) := by unfold Hid; rw [hz]; exact ⟨HB.out.os, HB.out.tape, HB.out.output, HB.out.size, HB.out.block⟩
      have HRT : Hid (res = true) := HYES.out HJ.out
      clear hz
      go_wp2_with fail
      go_ret
      rw [HRT.out]
      exact ⟨rfl, HBF.out⟩
set_option maxRecDepth 100000 in
set_option maxHeartbeats 8000000 in
theorem standard_gen (B : Nat) (T : List (List Int)) (v : Value) (w : World) (hv : ListsIn B w v T) (hn : T.length ≤ 1000000) (hl : ∀ i, i < T.length → (T.getD i []).length ≤ 1000000) (hw : ∀ i, i < T.length → ∀ k, k < (T.getD i []).length → 0 ≤ (T.getD i []).getD k (-1) ∧ (T.getD i []).getD k (-1) ≤ 1000000) :
    Calls Tryd.prog 14 #[v] w (GivesK (.bool (TC.stdB T)) w) := by
  obtain ⟨pv, cv, hve, -⟩ := id hv
  obtain ⟨n, hLn⟩ : ∃ n, T.length = n := ⟨_, rfl⟩
  obtain ⟨res, hres⟩ : ∃ res, TC.stdB T = res := ⟨_, rfl⟩
  have HNO : Hid (∀ j, j ≤ n → TC.stdN T j = none → res = false) := by
    intro j hj h1
    rw [← hres, Bool.eq_false_iff]
    intro e
    have h2 := TC.stdB_eq e
    rw [hLn] at h2
    obtain ⟨n1, h3, -⟩ := TC.stdN_down hj h2
    rw [h1] at h3; cases h3
  have HEND : Hid (∀ x, TC.stdN T n = some x → res = decide (x = n)) := by
    intro x h1
    rw [← hres]
    unfold TC.stdB
    rw [hLn, h1, Bool.eq_iff_iff, beq_iff_eq, decide_eq_true_eq]
    exact ⟨fun e => Option.some.inj e, fun e => by rw [e]⟩
  rw [hres]
  rw [hLn] at hve hn
  subst hve
  have HLN := Lib.hid hLn
  have HV := Lib.hid hv
  have HL := Lib.hid hl
  have HWD := Lib.hid hw
  unfold GivesK
  clear hLn hv hl hw hres
  go_enter Tryd.func14, Tryd.ntmps14
  go_wp2_with fail
  go_loopw [3, 4, 5] (fun s i _ wr => ∃ j x : Nat, j ≤ n ∧ i = .int .i64 (j : Int) ∧ s = .int .i64 (x : Int) ∧ x ≤ 1 + j * 1000000 ∧ wr = w ∧ Hid (TC.stdN T j = some x)) (fun _ i _ _ => n - (intOf i).toNat)
  case atStart => exact ⟨0, 1, Nat.zero_le _, rfl, rfl, by omega, rfl, rfl⟩
  case round =>
    obtain ⟨j, x, hj, rfl, rfl, hxb, rfl, HX⟩ := hrel
    by_cases hjn : j < n
    · have hjL : j < T.length := by rw [HLN.out]; exact hjn
      obtain ⟨b, off, c', hve⟩ := HV.out.form (by omega)
      rw [HLN.out] at hve
      obtain ⟨rfl, rfl⟩ : pv = some ⟨b, off, none⟩ ∧ cv = c' := by cases hve; exact ⟨rfl, rfl⟩
      obtain ⟨pj, cj, hcj, hij⟩ := HV.out.entry hjL
      have hrl := HL.out j hjL
      have hwd := HWD.out j hjL
      by_cases hxj : x ≤ j
      · have HRF : Hid (res = false) := HNO.out (j + 1) hjn (by rw [TC.stdN, HX.out]; simp only; rw [if_pos hxj])
        clear hve hij hrl hcj
        go_wp2_with fail
        go_ret
        rw [HRF.out]
        exact ⟨rfl, rfl⟩
      have HSN : Hid (TC.stdN T (j + 1) = TC.stdC (T.getD j []) (T.getD j []).length x) := by unfold Hid; rw [TC.stdN, HX.out]; simp only; rw [if_neg hxj]
      obtain ⟨row, hrow⟩ : ∃ row, T.getD j [] = row := ⟨_, rfl⟩
      rw [hrow] at hcj hij hrl hwd HSN
      obtain ⟨l, hl⟩ : ∃ l, row.length = l := ⟨_, rfl⟩
      rw [hl] at hcj hij hrl hwd HSN
      have HI := Lib.hid hij
      have HC := Lib.hid hcj
      have HWR := Lib.hid hwd
      clear hve hij hrow hl hjL hcj hwd
      go_wp2_with fail
      go_loopw [3, 5] (fun s i wr2 => ∃ k y : Nat, k ≤ l ∧ i = .int .i64 (k : Int) ∧ s = .int .i64 (y : Int) ∧ y ≤ x + k ∧ wr2 = wr ∧ Hid (TC.stdC row k x = some y)) (fun _ i _ => l - (intOf i).toNat)
      case atStart => exact ⟨0, x, Nat.zero_le _, rfl, rfl, Nat.le_refl _, rfl, rfl⟩
      case round =>
        obtain ⟨k, y, hk, rfl, rfl, hyb, rfl, HY⟩ := hrel
        have hcj := HC.out
        by_cases hkl : k < l
        · obtain ⟨b2, o2, e3, e4⟩ := HI.out k hkl
          subst e3
          obtain ⟨hz0, hz1⟩ := HWR.out k hkl
          obtain ⟨z, hz⟩ : ∃ z, row.getD k (-1) = z := ⟨_, rfl⟩
          rw [hz] at e4 hz0 hz1
          have HZ := Lib.hid hz
          clear hz
          by_cases hgt : (y : Int) < z
          · have HRF : Hid (res = false) := HNO.out (j + 1) hjn (by
              rw [HSN.out]
              cases e : TC.stdC row l x with
              | none => rfl
              | some n1 =>
                obtain ⟨n2, h1, -⟩ := TC.stdC_down (show k + 1 ≤ l by omega) e
                obtain ⟨n3, h2, -, h3, -⟩ := TC.stdC_step h1
                rw [HY.out] at h2
                rw [HZ.out] at h3
                have := Option.some.inj h2
                omega)
            have q2 : (z == (y : Int)) = false := by rw [beq_eq_false_iff_ne]; omega
            go_wp2_with fail
            go_ret
            rw [HRF.out]
            exact ⟨rfl, rfl⟩
          · by_cases hzn : z = (y : Int)
            · have HF : Hid (TC.stdC row (k + 1) x = some (y + 1)) := by
                unfold Hid
                rw [TC.stdC, HY.out]
                simp only
                rw [HZ.out, if_neg hgt, if_pos hzn]
              have q2 : ((y : Int) == (y : Int)) = true := by simp
              subst hzn
              go_wp2_with fail
              go_roundw
              case rel => exact ⟨k + 1, y + 1, hkl, by go_num, by go_num, by omega, (by first | rfl | trivial), HF.out⟩
              case measure => simp [intOf]; omega
            · have HF : Hid (TC.stdC row (k + 1) x = some y) := by
                unfold Hid
                rw [TC.stdC, HY.out]
                simp only
                rw [HZ.out, if_neg hgt, if_neg hzn]
              have q1 : (z == (y : Int)) = false := beq_eq_false_iff_ne.2 hzn
              go_wp2_with fail
              go_roundw
              case rel => exact ⟨k + 1, y, hkl, by go_num, rfl, by omega, (by first | rfl | trivial), HF.out⟩
              case measure => simp [intOf]; omega
        · obtain rfl : k = l := by omega
          have HN2 : Hid (TC.stdN T (j + 1) = some y) := by unfold Hid; rw [HSN.out]; exact HY.out
          go_wp2_with fail
          go_roundw
          case rel => exact ⟨j + 1, y, hjn, by go_num, rfl, by omega, (by first | rfl | trivial), HN2.out⟩
          case measure => simp [intOf]; omega
    · obtain rfl : j = n := by omega
      have HR2 := Lib.hid (HEND.out x HX.out)
      have q1 : ((x : Int) == (j : Int)) = decide (x = j) := by rw [Bool.eq_iff_iff, beq_iff_eq, decide_eq_true_eq]; omega
      go_wp2_with fail
      go_ret
      rw [HR2.out]
      exact ⟨by first | rw [q1] | rfl, rfl⟩
end Go.Proofs.YtedehmknijlgpaaDoor
