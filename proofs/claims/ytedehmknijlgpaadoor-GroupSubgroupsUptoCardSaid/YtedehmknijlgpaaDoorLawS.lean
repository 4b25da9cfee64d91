/-
  The law's factorial, power, hall by contracts.
  The law GroupSubgroups says true. Printed by tools/gen_laws.py.
-/
import Derived.Test.YtedehmknijlgpaaDoorSbD
import Derived.Test.YtedehmknijlgpaaDoorSubB
import Derived.Test.YtedehmknijlgpaaDoorSubO
import Derived.Test.YtedehmknijlgpaaDoorDocE
import Derived.Test.YtedehmknijlgpaaDoorDocF
import Derived.Test.YtedehmknijlgpaaDoorDocG
import Derived.Test.YtedehmknijlgpaaDoorErrsD
set_option linter.unusedSimpArgs false
set_option linter.unusedVariables false
namespace Go.Proofs.YtedehmknijlgpaaDoor
open Go Go.RowKit Go.Maps

theorem factM_pos : ∀ n, n ≤ 4 → 1 ≤ TC.factM n ∧ TC.factM n ≤ 24 := by decide +kernel
set_option maxRecDepth 100000 in
set_option maxHeartbeats 4000000 in
theorem factorial_any : ∀ (n : Nat), n ≤ 4 → ∀ w, Calls Tryd.prog 44 #[.int .i64 (n : Int)] w (GivesK (.int .i64 ((TC.factM n : Nat) : Int)) w) := by
  intro n
  induction n with
  | zero =>
    intro _ w
    have HE : Hid (TC.factM 0 = 1) := rfl
    rw [HE.out]
    unfold GivesK
    go_enter Tryd.func44, Tryd.ntmps44
    go_wp2_with fail
    go_ret
    exact ⟨rfl, rfl⟩
  | succ n ih =>
    intro hn w
    have IH := Lib.hid (ih (by omega) w)
    obtain ⟨f1, f2⟩ := factM_pos n (by omega)
    unfold GivesK at IH ⊢
    by_cases h2 : n = 0
    · subst h2
      have HE : Hid (TC.factM (0 + 1) = 1) := rfl
      rw [HE.out]
      go_enter Tryd.func44, Tryd.ntmps44
      go_wp2_with fail
      go_ret
      exact ⟨rfl, rfl⟩
    · have HE : Hid (TC.factM (n + 1) = (n + 1) * TC.factM n) := by unfold Hid; exact (if_neg (by omega) : TC.factM (n + 1) = (n + 1) * TC.factM n)
      rw [HE.out]
      obtain ⟨F, hF⟩ : ∃ F, TC.factM n = F := ⟨_, rfl⟩
      rw [hF] at IH f1 f2 ⊢
      have hm : (n + 1) * F ≤ 4 * 24 := Nat.mul_le_mul hn f2
      obtain ⟨R, hR⟩ : ∃ R, (n + 1) * F = R := ⟨_, rfl⟩
      have s0 : ((n + 1 : Nat) : Int) * (F : Int) = (R : Int) := by rw [← hR, Int.natCast_mul]
      rw [hR] at hm ⊢
      obtain ⟨N, hN⟩ : ∃ N, n + 1 = N := ⟨_, rfl⟩
      rw [hN] at s0 hn ⊢
      have q1 : (N : Int) - 1 = (n : Int) := by omega
      have s1 : IntKind.i64.wrap ((N : Int) * (F : Int)) = (R : Int) := by rw [s0]; exact IntWalk.i64_in _ (by omega)
      have hN2 : 2 ≤ N := by omega
      clear hF hR HE ih h2 hN s0
      go_enter Tryd.func44, Tryd.ntmps44
      go_wp2_with fail
      refine IH.out.mono ?_
      rintro e w1 ⟨rfl, rfl⟩
      go_wp2_with fail
      go_ret
      exact ⟨rfl, rfl⟩
set_option maxRecDepth 100000 in
set_option maxHeartbeats 4000000 in
theorem power_any (a e : Nat) (n : Int) (hn : n.toNat = e) (hn4 : n ≤ 4) (ha1 : 1 ≤ a) (ha : a ≤ 24) (w : World) : Calls Tryd.prog 43 #[.int .i64 (a : Int), .int .i64 n] w (GivesK (.int .i64 ((a ^ e : Nat) : Int)) w) := by
  have HPS := Lib.hid (fun j : Nat => Nat.pow_succ (n := a) (m := j))
  have HB : Hid (∀ j : Nat, j ≤ 4 → a ^ j ≤ 331776) := fun j hj => by
    have h1 : a ^ j ≤ a ^ 4 := Nat.pow_le_pow_right ha1 hj
    have h2 : a ^ 4 ≤ 24 ^ 4 := Nat.pow_le_pow_left ha 4
    exact Nat.le_trans h1 h2
  unfold GivesK
  go_enter Tryd.func43, Tryd.ntmps43
  go_wp2_with fail
  go_loopw [5, 6] (fun s i wr => ∃ j : Nat, j ≤ e ∧ i = .int .i64 (j : Int) ∧ s = .int .i64 ((a ^ j : Nat) : Int) ∧ wr = w) (fun _ i _ => e - (intOf i).toNat)
  case atStart => exact ⟨0, Nat.zero_le _, rfl, by rw [Nat.pow_zero]; rfl, rfl⟩
  case round =>
    obtain ⟨j, hj, rfl, rfl, rfl⟩ := hrel
    by_cases hje : j < e
    · have hjn : (j : Int) < n := by omega
      have hp1 := HB.out j (by omega)
      have hp2 := HB.out (j + 1) (by omega)
      have hps := HPS.out j
      obtain ⟨P, hP⟩ : ∃ P, a ^ j = P := ⟨_, rfl⟩
      obtain ⟨R, hR⟩ : ∃ R, a ^ (j + 1) = R := ⟨_, rfl⟩
      rw [hP] at hp1 hps ⊢
      rw [hR] at hp2 hps
      have s0 : (P : Int) * (a : Int) = (R : Int) := by rw [hps, Int.natCast_mul]
      have s1 : IntKind.i64.wrap ((P : Int) * (a : Int)) = (R : Int) := by rw [s0]; exact IntWalk.i64_in _ (by omega)
      have HR := Lib.hid hR
      clear hP hR hps s0
      go_wp2_with fail
      go_roundw
      case rel => exact ⟨j + 1, hje, by go_num, by rw [HR.out], by first | rfl | trivial⟩
      case measure => simp [intOf]; omega
    · obtain rfl : j = e := by omega
      have hjn : n ≤ (j : Int) := by omega
      go_wp2_with fail
      go_ret
      exact ⟨rfl, rfl⟩
theorem hall_bd : ∀ r, r < 6 → ∀ m, m < 4 → ∀ q, q ≤ m → (-1000000000000 ≤ TC.hallS r (m + 1) (TC.hallT r m) q ∧ TC.hallS r (m + 1) (TC.hallT r m) q ≤ 1000000000000) ∧ (-10000000000 ≤ (TC.hallT r m).getD q 0 ∧ (TC.hallT r m).getD q 0 ≤ 10000000000) ∧ (TC.hallT r m).length = m := by decide +kernel
theorem hall_bd2 : ∀ r, r < 6 → ∀ m, m < 4 → ∀ q, q ≤ m → -10000000000000000 ≤ ((TC.factM (m - q) ^ (r - 1) : Nat) : Int) * (TC.hallT r m).getD q 0 ∧ ((TC.factM (m - q) ^ (r - 1) : Nat) : Int) * (TC.hallT r m).getD q 0 ≤ 10000000000000000 := by decide +kernel
theorem hall_len : ∀ (r m : Nat), (TC.hallT r m).length = m
  | _, 0 => rfl
  | r, m + 1 => by
    show (TC.hallT r m ++ [_]).length = _
    rw [List.length_append, hall_len r m]; rfl
set_option maxRecDepth 100000 in
set_option maxHeartbeats 16000000 in
theorem hall_any (r n : Nat) (hr : r < 6) (hn1 : 1 ≤ n) (hn : n ≤ 4) (w : World) : Calls Tryd.prog 21 #[.int .i64 (r : Int), .int .i64 (n : Int)] w (Gives (.int .i64 (TC.hallM r n)) w) := by
  obtain ⟨i3, hi3, hy0, hy1, hy2⟩ := info_parts Tryd.info3
  have HFA := Lib.hid (fun (m : Nat) (hm : m ≤ 4) (w' : World) => factorial_any m hm w')
  have HPO := Lib.hid (fun (m : Nat) (hm : m ≤ 4) (w' : World) => power_any (TC.factM m) (r - 1) ((r : Int) - 1) (by omega) (by omega) (factM_pos m hm).1 (factM_pos m hm).2 w')
  unfold GivesK at HFA HPO
  have HPB : Hid (∀ m, m ≤ 4 → TC.factM m ^ (r - 1) ≤ 331776) := fun m hm => by
    obtain ⟨h0, h3⟩ := factM_pos m hm
    exact Nat.le_trans (Nat.pow_le_pow_right h0 (show r - 1 ≤ 4 by omega)) (Nat.pow_le_pow_left h3 4)
  have HBD := Lib.hid (fun m (hm : m < 4) q (hq : q ≤ m) => hall_bd r hr m hm q hq)
  have HB2 := Lib.hid (fun m (hm : m < 4) q (hq : q ≤ m) => hall_bd2 r hr m hm q hq)
  unfold Gives
  go_enter Tryd.func21, Tryd.ntmps21
  go_wp2_with fail
  go_loopw [5, 6, 7, 8] (fun s i _ _ wr => ∃ m : Nat, m ≤ n ∧ i = .int .i64 ((m + 1 : Nat) : Int) ∧ Below w.heap.size w wr ∧ IntO w.heap.size wr s (TC.hallT r m)) (fun _ i _ _ _ => n + 1 - (intOf i).toNat)
  case atStart => exact ⟨0, Nat.zero_le _, rfl, Below.refl _ _, IntO.nil _ _⟩
  case round =>
    obtain ⟨m, hm, rfl, hb, hI⟩ := hrel
    obtain ⟨ps, cs, hve⟩ := hI.sliceOf
    rw [hall_len] at hve
    subst hve
    obtain ⟨wo, rfl⟩ : ∃ wo : World, wo = wr := ⟨_, rfl⟩
    have HB := Lib.hid hb
    have HI := Lib.hid hI
    by_cases hmn : m < n
    · have hm4 : m + 1 ≤ 4 := by omega
      have HF1 := Lib.hid (HFA.out (m + 1) hm4 wo)
      have HP1 := Lib.hid (HPO.out (m + 1) hm4 wo)
      have hpb := HPB.out (m + 1) hm4
      have HE0 : Hid ((((m + 1) * TC.factM (m + 1) ^ (r - 1) : Nat) : Int) = TC.hallS r (m + 1) (TC.hallT r m) 0) := rfl
      obtain ⟨F, hF⟩ : ∃ F, TC.factM (m + 1) = F := ⟨_, rfl⟩
      rw [hF] at HF1 HP1 hpb HE0
      obtain ⟨P, hP⟩ : ∃ P, F ^ (r - 1) = P := ⟨_, rfl⟩
      rw [hP] at HP1 hpb HE0
      obtain ⟨N, hN⟩ : ∃ N, m + 1 = N := ⟨_, rfl⟩
      have HN := Lib.hid hN
      rw [hN] at HF1 HE0 hm4 ⊢
      have hmul : N * P ≤ 4 * 331776 := Nat.mul_le_mul hm4 hpb
      obtain ⟨R, hR⟩ : ∃ R, N * P = R := ⟨_, rfl⟩
      rw [hR] at HE0 hmul
      have s0 : (N : Int) * (P : Int) = (R : Int) := by rw [← hR, Int.natCast_mul]
      have s1 : IntKind.i64.wrap ((N : Int) * (P : Int)) = (R : Int) := by rw [s0]; exact IntWalk.i64_in _ (by omega)
      have hNn : N ≤ n := by omega
      clear hF hP hR s0 hb hI hN
      go_wp2_with fail
      refine HF1.out.mono ?_
      rintro e w1 ⟨rfl, rfl⟩
      go_wp2_with fail
      refine HP1.out.mono ?_
      rintro e w1 ⟨rfl, rfl⟩
      go_wp2_with fail
      go_loopw [7, 8] (fun s i wr => ∃ q : Nat, q ≤ m ∧ i = .int .i64 ((q + 1 : Nat) : Int) ∧ s = .int .i64 (TC.hallS r N (TC.hallT r m) q) ∧ Below w.heap.size w wr ∧ IntO w.heap.size wr (.slice ps m cs) (TC.hallT r m)) (fun _ i _ => N - (intOf i).toNat)
      case atStart => exact ⟨0, Nat.zero_le _, rfl, by rw [HE0.out], HB.out, HI.out⟩
      case round =>
        obtain ⟨q, hq, rfl, rfl, hb, hI⟩ := hrel
        have HBQ := Lib.hid hb
        have HIQ := Lib.hid hI
        by_cases hqm : q < m
        · have hd4 : m - q ≤ 4 := by omega
          obtain ⟨gs, cs', hvs, -, -⟩ := hI.form (by rw [hall_len]; omega)
          rw [hall_len] at hvs
          obtain ⟨rfl, rfl⟩ : ps = some ⟨gs, 0, none⟩ ∧ cs = cs' := by cases hvs; exact ⟨rfl, rfl⟩
          have hce := hI.cellsAt q (by rw [hall_len]; exact hqm)
          have hb2 := HB2.out m (by omega) q (by omega)
          have hbd := HBD.out m (by omega) q (by omega)
          have hbd1 := (HBD.out m (by omega) (q + 1) (by omega)).1
          have HFd := Lib.hid (fun z : Nat => HFA.out (m - q) hd4 (wr.drewN z))
          have HPd := Lib.hid (fun z : Nat => HPO.out (m - q) hd4 (wr.drewN z))
          have HES : Hid (TC.hallS r N (TC.hallT r m) (q + 1) = TC.hallS r N (TC.hallT r m) q - ((TC.factM (m - q) ^ (r - 1) : Nat) : Int) * (TC.hallT r m).getD q 0) := by
            unfold Hid
            rw [show m - q = N - (q + 1) by have := HN.out; omega]
            rfl
          have hes := HES.out
          rw [← HN.out] at hes ⊢
          obtain ⟨S1, hS1⟩ : ∃ S1, TC.hallS r (m + 1) (TC.hallT r m) (q + 1) = S1 := ⟨_, rfl⟩
          have HS1 := Lib.hid hS1
          rw [hS1] at hbd1 hes
          obtain ⟨F, hF⟩ : ∃ F, TC.factM (m - q) = F := ⟨_, rfl⟩
          rw [hF] at HFd HPd hb2 hes
          obtain ⟨P, hP⟩ : ∃ P, F ^ (r - 1) = P := ⟨_, rfl⟩
          rw [hP] at HPd hb2 hes
          obtain ⟨z, hz⟩ : ∃ z, (TC.hallT r m).getD q 0 = z := ⟨_, rfl⟩
          rw [hz] at hce hb2 hbd hes
          obtain ⟨S, hS⟩ : ∃ S, TC.hallS r (m + 1) (TC.hallT r m) q = S := ⟨_, rfl⟩
          rw [hS] at hbd hes ⊢
          obtain ⟨d, hd⟩ : ∃ d, m - q = d := ⟨_, rfl⟩
          rw [hd] at HFd
          obtain ⟨K, hK⟩ : ∃ K, q + 1 = K := ⟨_, rfl⟩
          obtain ⟨M, hM⟩ : ∃ M, m + 1 = M := ⟨_, rfl⟩
          rw [hK, hM]
          have q1 : (M : Int) - (K : Int) = (d : Int) := by omega
          have q2 : (K : Int) - 1 = (q : Int) := by omega
          obtain ⟨Y, hY⟩ : ∃ Y, (P : Int) * z = Y := ⟨_, rfl⟩
          rw [hY] at hb2 hes
          have s1 : IntKind.i64.wrap ((P : Int) * z) = Y := by rw [hY]; exact IntWalk.i64_in _ (by omega)
          have s2 : IntKind.i64.wrap (S - Y) = S1 := by rw [← hes]; exact IntWalk.i64_in _ (by omega)
          have hKM : K < M := by omega
          have s3 : IntKind.i64.wrap (d : Int) = (d : Int) := IntWalk.i64_in _ (by omega)
          have s4 : IntKind.i64.wrap (q : Int) = (q : Int) := IntWalk.i64_in _ (by omega)
          have s5 : IntKind.i64.wrap ((r : Int) - 1) = (r : Int) - 1 := IntWalk.i64_in _ (by omega)
          have HKE : Hid (K = q + 1) := hK.symm
          have HME : Hid (M = m + 1) := hM.symm
          have HESH := Lib.hid hes
          clear hb hI hvs hF hP hz hS hY hS1 HES hd hK hM hes
          go_wp2_with fail
          go_quiet ((first | (go_at_call 44; with_reducible exact Calls.quiet_of_same (HFd.out _)) | (go_at_call 43; with_reducible exact Calls.quiet_of_same (HPd.out _))))
          go_wp2_with fail
          go_roundw
          case rel =>
            refine ⟨q + 1, hqm, by rw [HKE.out]; go_num, by rw [HME.out, HS1.out, HESH.out], ?_, ?_⟩
            · first | exact below_dn HBQ.out _ | exact HBQ.out
            · exact HIQ.out
          case measure => simp [intOf]; omega
        · obtain rfl : q = m := by omega
          have h1 := hI
          unfold IntO at h1
          rw [hall_len] at h1
          have H1 := Lib.hid h1
          have hsz := hb.size
          have HST : Hid (TC.hallT r (q + 1) = TC.hallT r q ++ [TC.hallS r N (TC.hallT r q) q]) := by unfold Hid; rw [← HN.out]; rfl
          have hNq := HN.out
          obtain ⟨S, hS⟩ : ∃ S, TC.hallS r N (TC.hallT r q) q = S := ⟨_, rfl⟩
          rw [hS] at HST ⊢
          obtain ⟨K, hK⟩ : ∃ K, q + 1 = K := ⟨_, rfl⟩
          have HK := Lib.hid hK
          have hKN : N ≤ K := by omega
          have hNK : N < 1000 := by omega
          rw [hK] at HST ⊢
          clear hb hI h1 hS hK hNq
          go_wp2_with (at_builtin; refine wpList_append_lies _ rfl (.tmp 41) (.tmp 43) 27 rfl w.heap.size 3 i3 (.int .i64 0) 1 8 Tryd.underlying27 hi3 hy0 hy1 hy2 rfl (by decide) _ q (intVs (TC.hallT r q)) rfl (H1.out.alloc _) ⟨wr.heap.size, 0, none⟩ 1 1 [.int .i64 S] rfl rfl (World.news_of_block (cs := #[.int .i64 S]) (t := 3) (fr := (0, 0)) (heap_alloc_new wr _)) (by simp [Value.oneCell']) (by decide) (by unfold maxLen; omega) (by omega) (by simp; omega) (wr.heap.size + 1) (by simp) ?_; intro g2 c2 w9 hown2 hgr2 hat2 hlt2; have HO2 := Lib.hid hown2; have HG2 := Lib.hid hgr2; clear hown2 hgr2 hat2 hlt2)
          go_roundw
          case rel =>
            refine ⟨K, by have := HK.out; have := HN.out; omega, by have := HK.out; have := HN.out; go_num, (HBQ.out.alloc hsz _).grown HG2.out (by simp; omega) (fun i hi => (H1.out.lt i hi).1), ?_⟩
            unfold IntO
            rw [HST.out]
            have h9 := HO2.out
            rw [List.length_append, hall_len, List.length_singleton]
            unfold intVs at h9 ⊢
            rw [List.map_append]
            exact h9
          case measure => have := HK.out; have := HN.out; simp [intOf]; omega
    · obtain rfl : m = n := by omega
      obtain ⟨gs, cs', hvs, -, -⟩ := hI.form (by rw [hall_len]; omega)
      rw [hall_len] at hvs
      obtain ⟨rfl, rfl⟩ : ps = some ⟨gs, 0, none⟩ ∧ cs = cs' := by cases hvs; exact ⟨rfl, rfl⟩
      obtain ⟨K, hK⟩ : ∃ K, m - 1 = K := ⟨_, rfl⟩
      have hce := hI.cellsAt K (by rw [hall_len]; omega)
      have q1 : (m : Int) - 1 = (K : Int) := by omega
      have hKm : K < m := by omega
      have HR0 : Hid (r ≠ 0 → TC.hallM r m = (TC.hallT r m).getD K 0) := fun h => by unfold TC.hallM; rw [if_neg h, hK]
      have HR1 : Hid (r = 0 → m = 1 → TC.hallM r m = 1) := fun h h' => by unfold TC.hallM; rw [if_pos h, if_pos h']
      have HR2 : Hid (r = 0 → m ≠ 1 → TC.hallM r m = 0) := fun h h' => by unfold TC.hallM; rw [if_pos h, if_neg h']
      obtain ⟨z, hz⟩ : ∃ z, (TC.hallT r m).getD K 0 = z := ⟨_, rfl⟩
      rw [hz] at hce HR0
      clear hb hI hvs hK hz
      by_cases hr0 : r = 0
      · by_cases hm1 : m = 1
        · have HE := Lib.hid (HR1.out hr0 hm1)
          have b1 : ((r : Int) == 0) = true := beq_iff_eq.2 (by omega)
          have b2 : ((m : Int) == 1) = true := beq_iff_eq.2 (by omega)
          clear hr0 hm1
          go_wp2_with fail
          go_ret
          rw [HE.out]
          exact ⟨rfl, HB.out⟩
        · have HE := Lib.hid (HR2.out hr0 hm1)
          have b1 : ((r : Int) == 0) = true := beq_iff_eq.2 (by omega)
          have b2 : ((m : Int) == 1) = false := beq_eq_false_iff_ne.2 (by omega)
          clear hr0 hm1
          go_wp2_with fail
          go_ret
          rw [HE.out]
          exact ⟨rfl, HB.out⟩
      · have HE := Lib.hid (HR0.out hr0)
        have b1 : ((r : Int) == 0) = false := beq_eq_false_iff_ne.2 (by omega)
        go_wp2_with fail
        go_ret
        rw [HE.out]
        exact ⟨rfl, HB.out⟩

theorem sen_of {w : World} {a : Nat → Addr} (h : Sents w a) : Sen w (a 1) (a 2) := by
  have h1 := h.g 1 (by decide)
  have h2 := h.g 2 (by decide)
  exact ⟨h1, h2⟩
theorem groupErr_le (G : Int) (L : List (List Int)) : groupErr G L ≤ 2 := by
  unfold groupErr
  repeat' split
  all_goals decide
theorem errAt_errV (a : Nat → Addr) (w : World) {c : Nat} (hc : c ≤ 2) : ErrAt a w (errV (a 1) (a 2) c) (refErr c) (-1) := by
  rcases (show c = 0 ∨ c = 1 ∨ c = 2 by omega) with rfl | rfl | rfl
  · exact ErrAt.nil a w
  · rw [show errV (a 1) (a 2) 1 = errG (a 1) from by unfold errV; rw [if_neg (by decide), if_pos rfl], show refErr 1 = ((1 : Nat) : Int) + 1 from by unfold refErr; rw [if_neg (by decide)]]
    exact ErrAt.sent a w 1 (by decide)
  · rw [show errV (a 1) (a 2) 2 = errG (a 2) from by unfold errV; rw [if_neg (by decide), if_neg (by decide)], show refErr 2 = ((2 : Nat) : Int) + 1 from by unfold refErr; rw [if_neg (by decide)]]
    exact ErrAt.sent a w 2 (by decide)
set_option maxRecDepth 100000 in
set_option maxHeartbeats 64000000 in
theorem subgroups_law (G index : Int) (L : List (List Int)) (vr : Value) (a : Nat → Addr) (w : World) (hA : Sents w a) (hv : ListsIn w.heap.size w vr L) (hn : L.length ≤ 2000000) (hs : L.flatten.length ≤ 2000000) :
    Calls Tryd.prog 5 #[.agg #[.int .i64 G, vr], .int .i64 index] w (Gives (.bool true) w) := by
  have hS := sen_of hA
  obtain ⟨pv, cv, hve, -⟩ := id hv
  obtain ⟨n, hLn⟩ : ∃ n, L.length = n := ⟨_, rfl⟩
  rw [hLn] at hve hn
  subst hve
  have hb0 : Below w.heap.size w (w.alloc (.cells #[.int .i64 G, .slice pv n cv] 24)) := (Below.refl _ _).alloc (Nat.le_refl _) _
  obtain ⟨w1, hw1⟩ : ∃ w1, w.alloc (.cells #[.int .i64 G, .slice pv n cv] 24) = w1 := ⟨_, rfl⟩
  have hg1 := heap_alloc_new w (.cells #[.int .i64 G, .slice pv n cv] 24)
  rw [hw1] at hb0 hg1
  have c0 : w1.cell? ⟨w.heap.size, 0, none⟩ = some (.int .i64 G) := by simp [World.cell?, hg1]
  have c1 : w1.cell? ⟨w.heap.size, 1, none⟩ = some (.slice pv n cv) := by simp [World.cell?, hg1]
  have HC0 := Lib.hid c0
  have HC1 := Lib.hid c1
  have HB0 := Lib.hid hb0
  have HW1 := Lib.hid hw1
  have HS := Lib.hid hS
  have HA := Lib.hid hA
  have HV := Lib.hid hv
  have HLN := Lib.hid hLn
  obtain ⟨m, hm⟩ : ∃ m, L.flatten.length = m := ⟨_, rfl⟩
  have HM := Lib.hid hm
  rw [hm] at hs
  have HTH := Lib.hid (three_any (a 1) (a 2) w1 (hS.below hb0 (Nat.le_refl _)))
  unfold Gives at HTH ⊢
  clear hS hA hv hLn hb0 hw1 hg1 c0 c1 hm
  go_enter Tryd.func5, Tryd.ntmps5
  go_upto_region 1 with fail
  rw [HW1.out]
  go_wp2_with fail
  refine HTH.out.mono ?_
  rintro e w2 ⟨rfl, hb2⟩
  have d0 := (hb2.cell (p := ⟨w.heap.size, 0, none⟩) (mem_lt HC0.out)).trans HC0.out
  have d1 := (hb2.cell (p := ⟨w.heap.size, 1, none⟩) (mem_lt HC1.out)).trans HC1.out
  have HB2 := Lib.hid (HB0.out.trans (hb2.mono HB0.out.size))
  have HD0 := Lib.hid d0
  have HD1 := Lib.hid d1
  have HSM := Lib.hid (small_any w.heap.size G L (.slice pv n cv) w2 (HV.out.below HB2.out (Nat.le_refl _)) (by rw [HLN.out]; exact hn) (by rw [HM.out]; exact hs))
  unfold Gives at HSM
  obtain ⟨sm, hsm⟩ : ∃ sm, smallB G L = sm := ⟨_, rfl⟩
  rw [hsm] at HSM
  have HSB := Lib.hid hsm
  clear hb2 hsm
  go_wp2_with fail
  refine HSM.out.mono ?_
  rintro e w3 ⟨rfl, hb3⟩
  have HB3 := Lib.hid (HB2.out.trans (hb3.mono HB2.out.size))
  have HE0 := Lib.hid ((hb3.cell (p := ⟨w.heap.size, 0, none⟩) (mem_lt HD0.out)).trans HD0.out)
  have HE1 := Lib.hid ((hb3.cell (p := ⟨w.heap.size, 1, none⟩) (mem_lt HD1.out)).trans HD1.out)
  clear hb3 d0 d1 HD0 HD1 HC0 HC1 HTH HSM
  cases sm with
  | false =>
    go_wp2_with fail
    go_ret
    exact ⟨rfl, HB3.out⟩
  | true =>
    have HGE := Lib.hid (groupError_any w.heap.size G L (.slice pv n cv) w3 (HV.out.below HB3.out (Nat.le_refl _)) (by rw [HLN.out]; exact hn) (by rw [HM.out]; exact hs))
    unfold Gives at HGE
    have hcle := groupErr_le G L
    obtain ⟨c, hc⟩ : ∃ c, groupErr G L = c := ⟨_, rfl⟩
    rw [hc] at HGE hcle
    have hsb := HSB.out
    have hsm := of_decide_eq_true hsb
    rw [HM.out, HLN.out, hc] at hsm
    have hm1 : m ≤ 1000 ∧ n ≤ 1000 := by omega
    have HG5 : Hid (groupErr G L = 0 → G ≤ 5) := fun h => by
      rw [hc] at h
      have := hsm.elim id (fun h2 => absurd h h2.1)
      omega
    have e0 := HE0.out
    have e1 := HE1.out
    by_cases hc0 : c = 0
    rotate_left
    · have HRES : Hid (subA G L index = (c, [])) := by unfold Hid subA; rw [hc, if_pos hc0]
      have HC2 : Hid (c ≤ 2) := hcle
      have hrp : ((refErr c) == 0) = false := by unfold refErr; rw [if_neg hc0, beq_eq_false_iff_ne]; omega
      have hrq : 0 < refErr c := by unfold refErr; rw [if_neg hc0]; omega
      obtain ⟨rc, hrc⟩ : ∃ rc, refErr c = rc := ⟨_, rfl⟩
      have HRF : Hid (refErr c = rc) := hrc
      rw [hrc] at HGE hrp hrq
      clear hrc hc hc0 hsb hsm
      go_wp2_with fail
      refine HGE.out.mono ?_
      rintro e w5 ⟨rfl, hb5⟩
      have f0 := (hb5.cell (p := ⟨w.heap.size, 0, none⟩) (mem_lt HE0.out)).trans HE0.out
      have f1 := (hb5.cell (p := ⟨w.heap.size, 1, none⟩) (mem_lt HE1.out)).trans HE1.out
      have HB5 := Lib.hid (HB3.out.trans (hb5.mono HB3.out.size))
      clear hb5 e0 e1
      have HPR := Lib.hid (program_any w.heap.size G L (.slice pv n cv) w5 HB5.out.size (HV.out.below HB5.out (Nat.le_refl _)) (by rw [HLN.out]; omega) (fun l hl => by have := len_flatS l hl; rw [HM.out] at this; omega))
      unfold ProgP at HPR
      go_wp2_with fail
      refine HPR.out.mono ?_
      rintro e w6 ⟨u6, rfl, hb6, hR6⟩
      have HB6 := Lib.hid (HB5.out.trans (hb6.mono HB5.out.size))
      have HSU := Lib.hid (subs_any w.heap.size G index L u6 (a 1) (a 2) w6 (HS.out.below HB6.out (Nat.le_refl _)) hR6.lists (by rw [HLN.out]; omega) (by rw [HM.out]; omega) HG5.out)
      unfold SubP at HSU
      rw [HRES.out] at HSU
      clear hb6 hR6
      go_wp2_with fail
      refine HSU.out.mono ?_
      rintro e w8 ⟨hb8, v8, rfl, hl8⟩
      have HB8 := Lib.hid (HB6.out.trans (hb8.mono HB6.out.size))
      obtain ⟨p8, c8, hv0, -⟩ := hl8 w.heap.size
      have hv8 : v8 = .slice p8 0 c8 := hv0
      clear hv0
      subst hv8
      have HCD := Lib.hid (coded_yes a (errV (a 1) (a 2) c) (refErr c) (-1) (refErr c) w8 (HA.out.below HB8.out (Nat.le_refl _)) (errAt_errV a w8 HC2.out) ⟨rfl, rfl⟩)
      rw [HRF.out] at HCD
      obtain ⟨ve, hve⟩ : ∃ ve, errV (a 1) (a 2) (c, ([] : List (List (List Int)))).1 = ve := ⟨_, rfl⟩
      rw [show errV (a 1) (a 2) c = ve from hve] at HCD
      rw [hve]
      clear hb8 hl8 hve
      go_wp2_with fail
      refine HCD.out.mono ?_
      rintro e w9 ⟨rfl, hb9⟩
      have HB9 := Lib.hid (HB8.out.trans (hb9.mono HB8.out.size))
      clear hb9
      go_wp2_with fail
      go_ret
      exact ⟨rfl, HB9.out⟩
    · subst hc0
      have hr0 : refErr 0 = 0 := rfl
      rw [hr0] at HGE
      obtain ⟨hg0, hg12, -, -, hlet⟩ := groupErr_zero hc
      have hs3 : G ≤ 5 ∧ m ≤ 60 ∧ n ≤ 20 := hsm.elim id (fun h => absurd rfl h.1)
      obtain ⟨g, rfl⟩ : ∃ g : Nat, G = (g : Int) := ⟨G.toNat, by omega⟩
      have hg5 : g ≤ 5 := by omega
      obtain ⟨-, hm60, hn20⟩ := hs3
      rw [Int.toNat_natCast] at hlet
      have HLET := Lib.hid hlet
      have HGZ := Lib.hid hc
      have HRF : Hid (refErr 1 = 2) := rfl
      have HC2 : Hid ((1 : Nat) ≤ 2) := by unfold Hid; omega
      clear hr0 hc hsb hsm hlet hg0 hg12 hcle
      by_cases hix : index < 1 ∨ 4 < index
      · have HRES : Hid (subA (g : Int) L index = (1, [])) := by unfold Hid subA; rw [HGZ.out, if_neg (by decide), if_pos hix]
        rcases (show index < 1 ∨ (¬ index < 1 ∧ 4 < index) by omega) with k1 | ⟨k1, k2⟩
        · clear hix
          go_wp2_with fail
          refine HGE.out.mono ?_
          rintro e w5 ⟨rfl, hb5⟩
          have f0 := (hb5.cell (p := ⟨w.heap.size, 0, none⟩) (mem_lt HE0.out)).trans HE0.out
          have f1 := (hb5.cell (p := ⟨w.heap.size, 1, none⟩) (mem_lt HE1.out)).trans HE1.out
          have HB5 := Lib.hid (HB3.out.trans (hb5.mono HB3.out.size))
          clear hb5 e0 e1
          have HPR := Lib.hid (program_any w.heap.size (g : Int) L (.slice pv n cv) w5 HB5.out.size (HV.out.below HB5.out (Nat.le_refl _)) (by rw [HLN.out]; omega) (fun l hl => by have := len_flatS l hl; rw [HM.out] at this; omega))
          unfold ProgP at HPR
          go_wp2_with fail
          refine HPR.out.mono ?_
          rintro e w6 ⟨u6, rfl, hb6, hR6⟩
          have HB6 := Lib.hid (HB5.out.trans (hb6.mono HB5.out.size))
          have HSU := Lib.hid (subs_any w.heap.size (g : Int) index L u6 (a 1) (a 2) w6 (HS.out.below HB6.out (Nat.le_refl _)) hR6.lists (by rw [HLN.out]; omega) (by rw [HM.out]; omega) HG5.out)
          unfold SubP at HSU
          rw [HRES.out] at HSU
          clear hb6 hR6
          go_wp2_with fail
          refine HSU.out.mono ?_
          rintro e w8 ⟨hb8, v8, rfl, hl8⟩
          have HB8 := Lib.hid (HB6.out.trans (hb8.mono HB6.out.size))
          obtain ⟨p8, c8, hv0, -⟩ := hl8 w.heap.size
          have hv8 : v8 = .slice p8 0 c8 := hv0
          clear hv0
          subst hv8
          have HCD := Lib.hid (coded_yes a (errV (a 1) (a 2) 1) (refErr 1) (-1) (refErr 1) w8 (HA.out.below HB8.out (Nat.le_refl _)) (errAt_errV a w8 HC2.out) ⟨rfl, rfl⟩)
          rw [HRF.out] at HCD
          obtain ⟨ve, hve⟩ : ∃ ve, errV (a 1) (a 2) (1, ([] : List (List (List Int)))).1 = ve := ⟨_, rfl⟩
          rw [show errV (a 1) (a 2) 1 = ve from hve] at HCD
          rw [hve]
          clear hb8 hl8 hve
          go_wp2_with fail
          refine HCD.out.mono ?_
          rintro e w9 ⟨rfl, hb9⟩
          have HB9 := Lib.hid (HB8.out.trans (hb9.mono HB8.out.size))
          clear hb9
          go_wp2_with fail
          go_ret
          exact ⟨rfl, HB9.out⟩
        · clear hix
          go_wp2_with fail
          refine HGE.out.mono ?_
          rintro e w5 ⟨rfl, hb5⟩
          have f0 := (hb5.cell (p := ⟨w.heap.size, 0, none⟩) (mem_lt HE0.out)).trans HE0.out
          have f1 := (hb5.cell (p := ⟨w.heap.size, 1, none⟩) (mem_lt HE1.out)).trans HE1.out
          have HB5 := Lib.hid (HB3.out.trans (hb5.mono HB3.out.size))
          clear hb5 e0 e1
          have HPR := Lib.hid (program_any w.heap.size (g : Int) L (.slice pv n cv) w5 HB5.out.size (HV.out.below HB5.out (Nat.le_refl _)) (by rw [HLN.out]; omega) (fun l hl => by have := len_flatS l hl; rw [HM.out] at this; omega))
          unfold ProgP at HPR
          go_wp2_with fail
          refine HPR.out.mono ?_
          rintro e w6 ⟨u6, rfl, hb6, hR6⟩
          have HB6 := Lib.hid (HB5.out.trans (hb6.mono HB5.out.size))
          have HSU := Lib.hid (subs_any w.heap.size (g : Int) index L u6 (a 1) (a 2) w6 (HS.out.below HB6.out (Nat.le_refl _)) hR6.lists (by rw [HLN.out]; omega) (by rw [HM.out]; omega) HG5.out)
          unfold SubP at HSU
          rw [HRES.out] at HSU
          clear hb6 hR6
          go_wp2_with fail
          refine HSU.out.mono ?_
          rintro e w8 ⟨hb8, v8, rfl, hl8⟩
          have HB8 := Lib.hid (HB6.out.trans (hb8.mono HB6.out.size))
          obtain ⟨p8, c8, hv0, -⟩ := hl8 w.heap.size
          have hv8 : v8 = .slice p8 0 c8 := hv0
          clear hv0
          subst hv8
          have HCD := Lib.hid (coded_yes a (errV (a 1) (a 2) 1) (refErr 1) (-1) (refErr 1) w8 (HA.out.below HB8.out (Nat.le_refl _)) (errAt_errV a w8 HC2.out) ⟨rfl, rfl⟩)
          rw [HRF.out] at HCD
          obtain ⟨ve, hve⟩ : ∃ ve, errV (a 1) (a 2) (1, ([] : List (List (List Int)))).1 = ve := ⟨_, rfl⟩
          rw [show errV (a 1) (a 2) 1 = ve from hve] at HCD
          rw [hve]
          clear hb8 hl8 hve
          go_wp2_with fail
          refine HCD.out.mono ?_
          rintro e w9 ⟨rfl, hb9⟩
          have HB9 := Lib.hid (HB8.out.trans (hb9.mono HB8.out.size))
          clear hb9
          go_wp2_with fail
          go_ret
          exact ⟨rfl, HB9.out⟩
      · obtain ⟨N, rfl⟩ : ∃ N : Nat, index = (N : Int) := ⟨index.toNat, by omega⟩
        have hN1 : 1 ≤ N := by omega
        have hN4 : N ≤ 4 := by omega
        have HSA : Hid (subA (g : Int) L (N : Int) = subT N g L) := by unfold Hid subA; rw [HGZ.out, if_neg (by decide), if_neg hix, Int.toNat_natCast, Int.toNat_natCast]
        clear hix
        go_upto_region 6 with fail
        refine HGE.out.mono ?_
        rintro e w4 ⟨rfl, hb4⟩
        have f0 := (hb4.cell (p := ⟨w.heap.size, 0, none⟩) (mem_lt HE0.out)).trans HE0.out
        have f1 := (hb4.cell (p := ⟨w.heap.size, 1, none⟩) (mem_lt HE1.out)).trans HE1.out
        have HF0 := Lib.hid f0
        have HF1 := Lib.hid f1
        have HB4 := Lib.hid (HB3.out.trans (hb4.mono HB3.out.size))
        clear hb4 e0 e1
        have HWY := Lib.hid (ways_any w.heap.size g N (.slice pv n cv) w4 hN4 (by omega) ⟨_, _, _, rfl⟩)
        unfold Gives at HWY
        obtain ⟨P, hP⟩ : ∃ P, fctN N ^ g = P := ⟨_, rfl⟩
        have hP1 : 1 ≤ P := by rw [← hP]; exact Nat.one_le_pow _ _ (fct_pos hN4).1
        by_cases hbg : 20000 < P
        · have hwz : waysV N g = 0 := by unfold waysV; rw [hP, if_pos hbg]
          have HRES : Hid (subA (g : Int) L (N : Int) = (1, [])) := by rw [HSA.out]; unfold Hid subT; rw [hP, if_pos hbg]
          rw [hwz] at HWY
          clear hwz hP hbg hP1
          go_wp2_with fail
          refine HWY.out.mono ?_
          rintro e w5 ⟨rfl, hb5⟩
          have h0 := (hb5.cell (p := ⟨w.heap.size, 0, none⟩) (mem_lt HF0.out)).trans HF0.out
          have h1 := (hb5.cell (p := ⟨w.heap.size, 1, none⟩) (mem_lt HF1.out)).trans HF1.out
          have HB5 := Lib.hid (HB4.out.trans (hb5.mono HB4.out.size))
          clear hb5 f0 f1
          have HPR := Lib.hid (program_any w.heap.size (g : Int) L (.slice pv n cv) w5 HB5.out.size (HV.out.below HB5.out (Nat.le_refl _)) (by rw [HLN.out]; omega) (fun l hl => by have := len_flatS l hl; rw [HM.out] at this; omega))
          unfold ProgP at HPR
          go_wp2_with fail
          refine HPR.out.mono ?_
          rintro e w6 ⟨u6, rfl, hb6, hR6⟩
          have HB6 := Lib.hid (HB5.out.trans (hb6.mono HB5.out.size))
          have HSU := Lib.hid (subs_any w.heap.size (g : Int) (N : Int) L u6 (a 1) (a 2) w6 (HS.out.below HB6.out (Nat.le_refl _)) hR6.lists (by rw [HLN.out]; omega) (by rw [HM.out]; omega) HG5.out)
          unfold SubP at HSU
          rw [HRES.out] at HSU
          clear hb6 hR6
          go_wp2_with fail
          refine HSU.out.mono ?_
          rintro e w8 ⟨hb8, v8, rfl, hl8⟩
          have HB8 := Lib.hid (HB6.out.trans (hb8.mono HB6.out.size))
          obtain ⟨p8, c8, hv0, -⟩ := hl8 w.heap.size
          have hv8 : v8 = .slice p8 0 c8 := hv0
          clear hv0
          subst hv8
          have HCD := Lib.hid (coded_yes a (errV (a 1) (a 2) 1) (refErr 1) (-1) (refErr 1) w8 (HA.out.below HB8.out (Nat.le_refl _)) (errAt_errV a w8 HC2.out) ⟨rfl, rfl⟩)
          rw [HRF.out] at HCD
          obtain ⟨ve, hve⟩ : ∃ ve, errV (a 1) (a 2) (1, ([] : List (List (List Int)))).1 = ve := ⟨_, rfl⟩
          rw [show errV (a 1) (a 2) 1 = ve from hve] at HCD
          rw [hve]
          clear hb8 hl8 hve
          go_wp2_with fail
          refine HCD.out.mono ?_
          rintro e w9 ⟨rfl, hb9⟩
          have HB9 := Lib.hid (HB8.out.trans (hb9.mono HB8.out.size))
          clear hb9
          go_wp2_with fail
          go_ret
          exact ⟨rfl, HB9.out⟩
        · have hwz : waysV N g = P := by unfold waysV; rw [hP, if_neg hbg]
          have HWV := Lib.hid hwz
          have HFP := Lib.hid hP
          have HPL : Hid (P ≤ 20000) := by unfold Hid; omega
          have hcl : ∀ r ∈ colsL L, ∀ k ∈ r, k < 2 * g := colsL_lt (by omega) HLET.out
          have HRX : Hid (∀ l ∈ L, ∀ x ∈ l, x ≠ 0 ∧ -1000000 ≤ x ∧ x ≤ 1000000 ∧ colN x < 2 * g) := fun l hl x hx => colN_lt (by omega) (any_lists HLET.out l hl x hx)
          have hse := TC.sub_eq (n := N) (g := g) (by omega) (by omega) hcl
          rw [ordL_fct hN4, hP] at hse
          have hsl := TC.subF_len (n := N) (g := g) (by omega) (by omega) hcl
          rw [ordL_fct hN4, hP] at hsl
          have HSMT' := tabsM_small (n := N) (g := g) (k := P) (rels := L) hN1 hN4 hg5
          have hTe : tabsM N g L P = TC.subF N g (colsL L) := hse.symm
          rw [hTe] at HSMT'
          have HRES' : Hid (subA (g : Int) L (N : Int) = (0, TC.subF N g (colsL L))) := by rw [HSA.out]; unfold Hid subT; rw [hP, if_neg hbg]
          have HHF' : Hid (n = 0 → ((TC.subF N g (colsL L)).length : Int) = TC.hallM g N) := fun h => by
            have hL0 : L = [] := List.length_eq_zero_iff.1 (by rw [HLN.out]; exact h)
            rw [hL0]
            exact TC.hall_free (by omega) (by omega) (by omega) (by rw [ordL_fct hN4, hP]; omega)
          obtain ⟨T, hT⟩ : ∃ T, TC.subF N g (colsL L) = T := ⟨_, rfl⟩
          rw [hT] at hsl HSMT' hTe HRES' HHF'
          have HRES := HRES'
          have HSMT := Lib.hid HSMT'
          have HTE := Lib.hid hTe
          obtain ⟨lT, hlT⟩ : ∃ lT, T.length = lT := ⟨_, rfl⟩
          rw [hlT] at hsl HHF'
          have HLT := Lib.hid hlT
          have HHF := HHF'
          rw [hwz] at HWY
          have hPz : ((P : Int) == 0) = false := beq_eq_false_iff_ne.2 (by omega)
          clear hwz hP hcl hse HSMT' hTe HRES' HHF' hT hlT
          go_wp2_with fail
          refine HWY.out.mono ?_
          rintro e w5 ⟨rfl, hb5⟩
          have h0 := (hb5.cell (p := ⟨w.heap.size, 0, none⟩) (mem_lt HF0.out)).trans HF0.out
          have h1 := (hb5.cell (p := ⟨w.heap.size, 1, none⟩) (mem_lt HF1.out)).trans HF1.out
          have HG0 := Lib.hid h0
          have HG1 := Lib.hid h1
          have HB5 := Lib.hid (HB4.out.trans (hb5.mono HB4.out.size))
          clear hb5 f0 f1
          have HPR := Lib.hid (program_any w.heap.size (g : Int) L (.slice pv n cv) w5 HB5.out.size (HV.out.below HB5.out (Nat.le_refl _)) (by rw [HLN.out]; omega) (fun l hl => by have := len_flatS l hl; rw [HM.out] at this; omega))
          unfold ProgP at HPR
          go_wp2_with fail
          refine HPR.out.mono ?_
          rintro e w6 ⟨u6, rfl, hb6, hR6⟩
          have HB6 := Lib.hid (HB5.out.trans (hb6.mono HB5.out.size))
          have HI0 := Lib.hid ((hb6.cell (p := ⟨w.heap.size, 0, none⟩) (mem_lt HG0.out)).trans HG0.out)
          have HI1 := Lib.hid ((hb6.cell (p := ⟨w.heap.size, 1, none⟩) (mem_lt HG1.out)).trans HG1.out)
          have HSU := Lib.hid (subs_any w.heap.size (g : Int) (N : Int) L u6 (a 1) (a 2) w6 (HS.out.below HB6.out (Nat.le_refl _)) hR6.lists (by rw [HLN.out]; omega) (by rw [HM.out]; omega) HG5.out)
          unfold SubP at HSU
          rw [HRES.out] at HSU
          clear hb6 hR6 h0 h1 HPR
          go_wp2_with fail
          refine HSU.out.mono ?_
          rintro e w8 ⟨hb8, v8, rfl, hl8⟩
          have HB8 := Lib.hid (HB6.out.trans (hb8.mono HB6.out.size))
          have HO8 := Lib.hid (hl8 w.heap.size)
          obtain ⟨p8, c8, hv0, -⟩ := hl8 w.heap.size
          have hv8 : v8 = .slice p8 lT c8 := by rw [← HLT.out]; exact hv0
          clear hv0
          subst hv8
          have HK0 := Lib.hid ((hb8.cell (p := ⟨w.heap.size, 0, none⟩) (mem_lt HI0.out)).trans HI0.out)
          have HK1 := Lib.hid ((hb8.cell (p := ⟨w.heap.size, 1, none⟩) (mem_lt HI1.out)).trans HI1.out)
          have f0 := HK0.out
          have f1 := HK1.out
          rw [show errV (a 1) (a 2) ((0, T) : Nat × List (List (List Int))).1 = Value.nilIface from rfl]
          clear hb8 hl8 HSU
          by_cases hn0 : n = 0
          · have HHL := Lib.hid (fun w' => hall_any g N (by omega) hN1 hN4 w')
            unfold Gives at HHL
            rw [← HHF.out hn0] at HHL
            have HH8 := Lib.hid (HHL.out w8)
            have hz : ((n : Int) == 0) = true := beq_iff_eq.2 (by omega)
            clear hn0
            go_wp2_with fail
            refine HH8.out.mono ?_
            rintro e w9 ⟨rfl, hb9⟩
            have HB9 := Lib.hid (HB8.out.trans (hb9.mono HB8.out.size))
            have HO9 := Lib.hid (HO8.out.below hb9 (Nat.le_refl _))
            have HJ0 := Lib.hid ((hb9.cell (p := ⟨w.heap.size, 0, none⟩) (mem_lt HK0.out)).trans HK0.out)
            have HJ1 := Lib.hid ((hb9.cell (p := ⟨w.heap.size, 1, none⟩) (mem_lt HK1.out)).trans HK1.out)
            clear hb9 f0 f1
            have f0 := HJ0.out
            have f1 := HJ1.out
            have HW2 := Lib.hid (ways_any w.heap.size g N (.slice pv n cv) w9 hN4 (by omega) ⟨_, _, _, rfl⟩)
            unfold Gives at HW2
            rw [HWV.out] at HW2
            by_cases hbig : 1500 < P
            · go_wp2_with fail
              refine HW2.out.mono ?_
              rintro e wa ⟨rfl, hba⟩
              have HBA := Lib.hid (HB9.out.trans (hba.mono HB9.out.size))
              clear hba
              go_wp2_with fail
              go_ret
              exact ⟨rfl, HBA.out⟩
            · have hsm : P ≤ 1500 := by omega
              clear hbig
              go_wp2_with fail
              refine HW2.out.mono ?_
              rintro e wa ⟨rfl, hba⟩
              have g0 := (hba.cell (p := ⟨w.heap.size, 0, none⟩) (mem_lt HJ0.out)).trans HJ0.out
              have g1 := (hba.cell (p := ⟨w.heap.size, 1, none⟩) (mem_lt HJ1.out)).trans HJ1.out
              have HBA := Lib.hid (HB9.out.trans (hba.mono HB9.out.size))
              have HOA := Lib.hid (HO9.out.below hba (Nat.le_refl _))
              have hsa := HBA.out.size
              have HSO := Lib.hid (subOf_any w.heap.size g N L (.slice pv n cv) wa hsa (HV.out.below HBA.out (Nat.le_refl _)) hN1 hN4 hg5 HRX.out (fun l hl => by have := len_flatS l hl; rw [HM.out] at this; omega) (by rw [HLN.out]; omega) (by rw [HFP.out]; exact HPL.out))
              rw [HFP.out, HTE.out] at HSO
              unfold PutTP at HSO
              rw [HLT.out] at HSO
              clear hba f0 f1
              go_wp2_with fail
              refine HSO.out.mono ?_
              rintro e wb ⟨pb, cb, rfl, hbb, hOb⟩
              have HBB := Lib.hid (HBA.out.trans (hbb.mono HBA.out.size))
              have HOB1 := Lib.hid (HOA.out.below hbb (Nat.le_refl _))
              have HOB2 := Lib.hid hOb
              clear hbb hOb g0 g1 HSO HW2
              go_wp2_with fail
              go_loopw [11, 12] (fun i _ wr => ∃ j : Nat, j ≤ lT ∧ i = .int .i64 (j : Int) ∧ Below wb.heap.size wb wr) (fun i _ _ => lT - (intOf i).toNat)
              case atStart => exact ⟨0, Nat.zero_le _, rfl, Below.refl _ _⟩
              case round =>
                obtain ⟨j, hj, rfl, hb⟩ := hrel
                have HBJ := Lib.hid (HBB.out.trans (hb.mono HBB.out.size))
                have HBR := Lib.hid hb
                by_cases hjl : j < lT
                · obtain ⟨q1, d1, hs1, e1, -, -, -, k1, k2, k3, -⟩ := (HOB1.out.below hb (Nat.le_refl _)).src
                  obtain ⟨q2, d2, hs2, e2, -, -, -, m1, m2, m3, -⟩ := (HOB2.out.below hb (Nat.le_refl _)).src
                  rw [HLT.out] at e1 e2 k1 k2 k3 m1 m2 m3
                  obtain ⟨rfl, rfl⟩ : p8 = q1 ∧ c8 = d1 := by cases e1; exact ⟨rfl, rfl⟩
                  obtain ⟨rfl, rfl⟩ : pb = q2 ∧ cb = d2 := by cases e2; exact ⟨rfl, rfl⟩
                  obtain ⟨x1, o1, rfl⟩ := k1 (by omega)
                  obtain ⟨x2, o2, rfl⟩ := m1 (by omega)
                  have hc1 := k2 x1 o1 rfl j hjl
                  have hc2 := m2 x2 o2 rfl j hjl
                  have hl1 := k3 j hjl
                  have hl2 := m3 j hjl
                  obtain ⟨s1, t1, hh1, -⟩ := id hl1
                  obtain ⟨s2, t2, hh2, -⟩ := id hl2
                  have hts := HSMT.out (T.getD j []) (getT_mem (by rw [HLT.out]; exact hjl))
                  have htl : ∀ l ∈ T.getD j [], l.length ≤ 100000 := fun l hl => by have := len_flatS l hl; omega
                  obtain ⟨A, hA'⟩ : ∃ A, T.getD j [] = A := ⟨_, rfl⟩
                  rw [hA'] at hl1 hl2 hh1 hh2 hts htl
                  obtain ⟨la, hla⟩ : ∃ la, A.length = la := ⟨_, rfl⟩
                  rw [hh1] at hc1 hl1
                  rw [hh2] at hc2 hl2
                  have HSL := Lib.hid (fun z : Nat => sameLists_any true w.heap.size w.heap.size A A (.slice s1 A.length t1) (.slice s2 A.length t2) (wr.drewN z) (by simp) (hl1.drewN z) (hl2.drewN z) (by omega) (by omega) htl htl)
                  unfold Drew at HSL
                  rw [hla] at hc1 hc2 HSL
                  clear hb e1 e2 k1 k2 k3 m1 m2 m3 hl1 hl2 hh1 hh2 hts htl hA' hla
                  go_wp2_with fail
                  go_quiet ((go_at_call 18; with_reducible exact Calls.quiet_of (HSL.out _)))
                  go_wp2_with fail
                  go_roundw
                  case rel => exact ⟨j + 1, hjl, by go_num, by first | exact below_dn HBR.out _ | exact HBR.out⟩
                  case measure => simp [intOf]; omega
                · obtain rfl : j = lT := by omega
                  clear hb
                  go_wp2_with fail
                  go_ret
                  exact ⟨rfl, HBJ.out⟩
          · have hz : ((n : Int) == 0) = false := beq_eq_false_iff_ne.2 (by omega)
            obtain ⟨w9, hw9⟩ : ∃ w9, w9 = w8 := ⟨_, rfl⟩
            subst hw9
            have HB9 := HB8
            have HO9 := HO8
            have HJ0 := HK0
            have HJ1 := HK1
            clear hn0
            have HW2 := Lib.hid (ways_any w.heap.size g N (.slice pv n cv) w9 hN4 (by omega) ⟨_, _, _, rfl⟩)
            unfold Gives at HW2
            rw [HWV.out] at HW2
            by_cases hbig : 1500 < P
            · go_wp2_with fail
              refine HW2.out.mono ?_
              rintro e wa ⟨rfl, hba⟩
              have HBA := Lib.hid (HB9.out.trans (hba.mono HB9.out.size))
              clear hba
              go_wp2_with fail
              go_ret
              exact ⟨rfl, HBA.out⟩
            · have hsm : P ≤ 1500 := by omega
              clear hbig
              go_wp2_with fail
              refine HW2.out.mono ?_
              rintro e wa ⟨rfl, hba⟩
              have g0 := (hba.cell (p := ⟨w.heap.size, 0, none⟩) (mem_lt HJ0.out)).trans HJ0.out
              have g1 := (hba.cell (p := ⟨w.heap.size, 1, none⟩) (mem_lt HJ1.out)).trans HJ1.out
              have HBA := Lib.hid (HB9.out.trans (hba.mono HB9.out.size))
              have HOA := Lib.hid (HO9.out.below hba (Nat.le_refl _))
              have hsa := HBA.out.size
              have HSO := Lib.hid (subOf_any w.heap.size g N L (.slice pv n cv) wa hsa (HV.out.below HBA.out (Nat.le_refl _)) hN1 hN4 hg5 HRX.out (fun l hl => by have := len_flatS l hl; rw [HM.out] at this; omega) (by rw [HLN.out]; omega) (by rw [HFP.out]; exact HPL.out))
              rw [HFP.out, HTE.out] at HSO
              unfold PutTP at HSO
              rw [HLT.out] at HSO
              clear hba f0 f1
              go_wp2_with fail
              refine HSO.out.mono ?_
              rintro e wb ⟨pb, cb, rfl, hbb, hOb⟩
              have HBB := Lib.hid (HBA.out.trans (hbb.mono HBA.out.size))
              have HOB1 := Lib.hid (HOA.out.below hbb (Nat.le_refl _))
              have HOB2 := Lib.hid hOb
              clear hbb hOb g0 g1 HSO HW2
              go_wp2_with fail
              go_loopw [11, 12] (fun i _ wr => ∃ j : Nat, j ≤ lT ∧ i = .int .i64 (j : Int) ∧ Below wb.heap.size wb wr) (fun i _ _ => lT - (intOf i).toNat)
              case atStart => exact ⟨0, Nat.zero_le _, rfl, Below.refl _ _⟩
              case round =>
                obtain ⟨j, hj, rfl, hb⟩ := hrel
                have HBJ := Lib.hid (HBB.out.trans (hb.mono HBB.out.size))
                have HBR := Lib.hid hb
                by_cases hjl : j < lT
                · obtain ⟨q1, d1, hs1, e1, -, -, -, k1, k2, k3, -⟩ := (HOB1.out.below hb (Nat.le_refl _)).src
                  obtain ⟨q2, d2, hs2, e2, -, -, -, m1, m2, m3, -⟩ := (HOB2.out.below hb (Nat.le_refl _)).src
                  rw [HLT.out] at e1 e2 k1 k2 k3 m1 m2 m3
                  obtain ⟨rfl, rfl⟩ : p8 = q1 ∧ c8 = d1 := by cases e1; exact ⟨rfl, rfl⟩
                  obtain ⟨rfl, rfl⟩ : pb = q2 ∧ cb = d2 := by cases e2; exact ⟨rfl, rfl⟩
                  obtain ⟨x1, o1, rfl⟩ := k1 (by omega)
                  obtain ⟨x2, o2, rfl⟩ := m1 (by omega)
                  have hc1 := k2 x1 o1 rfl j hjl
                  have hc2 := m2 x2 o2 rfl j hjl
                  have hl1 := k3 j hjl
                  have hl2 := m3 j hjl
                  obtain ⟨s1, t1, hh1, -⟩ := id hl1
                  obtain ⟨s2, t2, hh2, -⟩ := id hl2
                  have hts := HSMT.out (T.getD j []) (getT_mem (by rw [HLT.out]; exact hjl))
                  have htl : ∀ l ∈ T.getD j [], l.length ≤ 100000 := fun l hl => by have := len_flatS l hl; omega
                  obtain ⟨A, hA'⟩ : ∃ A, T.getD j [] = A := ⟨_, rfl⟩
                  rw [hA'] at hl1 hl2 hh1 hh2 hts htl
                  obtain ⟨la, hla⟩ : ∃ la, A.length = la := ⟨_, rfl⟩
                  rw [hh1] at hc1 hl1
                  rw [hh2] at hc2 hl2
                  have HSL := Lib.hid (fun z : Nat => sameLists_any true w.heap.size w.heap.size A A (.slice s1 A.length t1) (.slice s2 A.length t2) (wr.drewN z) (by simp) (hl1.drewN z) (hl2.drewN z) (by omega) (by omega) htl htl)
                  unfold Drew at HSL
                  rw [hla] at hc1 hc2 HSL
                  clear hb e1 e2 k1 k2 k3 m1 m2 m3 hl1 hl2 hh1 hh2 hts htl hA' hla
                  go_wp2_with fail
                  go_quiet ((go_at_call 18; with_reducible exact Calls.quiet_of (HSL.out _)))
                  go_wp2_with fail
                  go_roundw
                  case rel => exact ⟨j + 1, hjl, by go_num, by first | exact below_dn HBR.out _ | exact HBR.out⟩
                  case measure => simp [intOf]; omega
                · obtain rfl : j = lT := by omega
                  clear hb
                  go_wp2_with fail
                  go_ret
                  exact ⟨rfl, HBJ.out⟩
end Go.Proofs.YtedehmknijlgpaaDoor
