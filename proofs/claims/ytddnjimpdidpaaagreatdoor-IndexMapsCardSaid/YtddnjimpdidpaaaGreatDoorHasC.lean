/-
  slices.Contains, IndexFunc, ContainsFunc with closures; cells.Within by contracts.
  slices.IsSorted; slices.ContainsFunc over sets with has's closure; cells.has, cells.Has by contracts.
  slices.ContainsFunc over sets with has's closure; cells.has, cells.Has by contracts.
-/
import Derived.Test.YtddnjimpdidpaaaGreatDoorFacB
set_option linter.unusedSimpArgs false
set_option linter.unusedVariables false
namespace Go.Proofs.YtddnjimpdidpaaaGreatDoor
open Go Go.RowKit Go.Maps

theorem slContains_any (xs : List Int) (v : Value) (x : Int) (w : World) (hv : IntsAt w v xs) (hx : xs.length ≤ 1000000) :
    Calls Tryz.prog 62 #[v, .int .i64 x] w (Same (.bool (decide (x ∈ xs))) w) := by
  rcases hv.cases with ⟨rfl, p, c, rfl⟩ | ⟨h0, b, off, c, rfl, hc, hx2⟩
  · refine (Tryz.slices_Contains_int_empty p c x w).mono ?_
    rintro e w' ⟨rfl, rfl⟩
    exact ⟨by simp, rfl⟩
  · refine (Tryz.slices_Contains_int b off xs.length c xs x w (Nat.le_refl _) (by omega) hx2).mono ?_
    rintro e w' ⟨rfl, rfl⟩
    refine ⟨ret_bool ?_, rfl⟩
    rw [List.take_length, Bool.eq_iff_iff]
    simp

/-- a function of one number, by a closure with one box -/
def FnI (w0 : World) (c : Value) (p : Int → Bool) : Prop := ∀ w, Below w0.heap.size w0 w → ∀ x, Calls Tryz.prog 171 #[.int .i64 x, c] w (fun e w' => e = .returned (.bool (p x)) ∧ Below w.heap.size w w')
def AnyPost (r : Bool) (w : World) (e : Ending) (w' : World) : Prop := ∃ x : Int, e = .returned (.int .i64 x) ∧ Below w.heap.size w w' ∧ r = decide (0 ≤ x)

set_option maxRecDepth 100000 in
set_option maxHeartbeats 8000000 in
theorem indexI_any (c : Value) (p : Int → Bool) (xs : List Int) (v : Value) (w : World) (hf : FnI w c p) (hv : IntsAt w v xs) (hn : xs.length ≤ 1000000) :
    Calls Tryz.prog 182 #[v, .func (.func 171) #[] #[c]] w (AnyPost (xs.any p) w) := by
  obtain ⟨pv, cv, hve, -⟩ := id hv
  obtain ⟨n, hLn⟩ : ∃ n, xs.length = n := ⟨_, rfl⟩
  rw [hLn] at hve hn
  subst hve
  have HLN := Lib.hid hLn
  have HV := Lib.hid hv
  have HF := Lib.hid hf
  unfold FnI at HF
  clear hLn hv hf
  go_enter Tryz.func182, Tryz.ntmps182
  go_wp2_with fail
  go_loopw [5, 8] (fun _ i wr => ∃ j : Nat, j ≤ n ∧ i = .int .i64 j ∧ Below w.heap.size w wr ∧ ∀ k, k < j → p (xs.getD k 0) = false) (fun _ i _ => n - (intOf i).toNat)
  case atStart => exact ⟨0, Nat.zero_le _, rfl, Below.refl _ _, fun k h => absurd h (by omega)⟩
  case round =>
    obtain ⟨j, hj, rfl, hb, hno⟩ := hrel
    have HB := Lib.hid hb
    have HNO := Lib.hid hno
    have hIA := HV.out.below hb (Nat.le_refl _)
    clear hb hno
    by_cases hjn : j < n
    · have hjL : j < xs.length := by rw [HLN.out]; exact hjn
      obtain ⟨p', c', hv', -, -, hx⟩ := id hIA
      obtain ⟨b, off, e1, e2⟩ := hx j hjL
      cases hv'
      subst e1
      have HC := Lib.hid (HF.out wr HB.out (xs.getD j 0))
      have HM : Hid (xs.getD j 0 ∈ xs) := by unfold Hid; rw [List.getD_eq_getElem?_getD, List.getElem?_eq_getElem hjL]; exact List.getElem_mem _
      obtain ⟨x, hxx⟩ : ∃ x, xs.getD j 0 = x := ⟨_, rfl⟩
      rw [hxx] at e2 HC HM
      obtain ⟨r, hr⟩ : ∃ r, p x = r := ⟨_, rfl⟩
      rw [hr] at HC
      have HX := Lib.hid hxx
      have HR := Lib.hid hr
      clear hx hxx hr hIA hjL
      cases r with
      | true =>
        go_wp2_with fail
        refine HC.out.mono ?_
        rintro e w1 ⟨rfl, hb1⟩
        have HB1 := Lib.hid (HB.out.trans (hb1.mono HB.out.size))
        clear hb1
        go_wp2_with fail
        go_ret
        refine ⟨_, rfl, HB1.out, ?_⟩
        rw [List.any_eq_true.2 ⟨x, HM.out, HR.out⟩]
        exact (decide_eq_true (by omega)).symm
      | false =>
        go_wp2_with fail
        refine HC.out.mono ?_
        rintro e w1 ⟨rfl, hb1⟩
        have HB1 := Lib.hid (HB.out.trans (hb1.mono HB.out.size))
        clear hb1
        go_wp2_with fail
        go_roundw
        case rel =>
          refine ⟨j + 1, by omega, by go_num, HB1.out, fun k hk => ?_⟩
          rcases (show k < j ∨ k = j by omega) with h | rfl
          · exact HNO.out k h
          · rw [HX.out]; exact HR.out
        case measure => simp [intOf]; omega
    · obtain rfl : j = n := by omega
      have HA : Hid (xs.any p = false) := by
        unfold Hid
        rw [List.any_eq_false]
        intro x hm
        obtain ⟨k, hk, rfl⟩ := List.getElem_of_mem hm
        have := HNO.out k (by rw [← HLN.out]; exact hk)
        rw [List.getD_eq_getElem?_getD, List.getElem?_eq_getElem hk] at this
        simpa using this
      go_wp2_with fail
      go_ret
      refine ⟨_, rfl, HB.out, ?_⟩
      rw [HA.out]
      exact (decide_eq_false (by decide)).symm

set_option maxHeartbeats 4000000 in
theorem containsI_any (c : Value) (p : Int → Bool) (xs : List Int) (v : Value) (w : World) (hf : FnI w c p) (hv : IntsAt w v xs) (hn : xs.length ≤ 1000000) :
    Calls Tryz.prog 170 #[v, .func (.func 171) #[] #[c]] w (Gives (.bool (xs.any p)) w) := by
  have HC := Lib.hid (indexI_any c p xs v w hf hv hn)
  unfold AnyPost at HC
  obtain ⟨r, hr⟩ : ∃ r, xs.any p = r := ⟨_, rfl⟩
  rw [hr] at HC ⊢
  clear hf hv hn hr
  go_enter Tryz.func170, Tryz.ntmps170
  go_wp2_with fail
  refine HC.out.mono ?_
  rintro e w1 ⟨x, rfl, hb, hrx⟩
  have HB := Lib.hid hb
  have HRX := Lib.hid hrx
  clear hb hrx
  go_wp2_with fail
  go_ret
  exact ⟨ret_bool HRX.out.symm, HB.out⟩

/-- Within's inner question -/
theorem within1_any (b : Nat) (xs : List Int) (v : Value) (x : Int) (w : World) (hc : w.cell? ⟨b, 0, none⟩ = some v) (hv : IntsAt w v xs) (hx : xs.length ≤ 1000000) :
    Calls Tryz.prog 171 #[.int .i64 x, .pointer (some ⟨b, 0, none⟩)] w (fun e w' => e = .returned (.bool (!decide (x ∈ xs))) ∧ Below w.heap.size w w') := by
  have HC := Lib.hid (slContains_any xs v x w hv hx)
  unfold Same at HC
  obtain ⟨r, hr⟩ : ∃ r, decide (x ∈ xs) = r := ⟨_, rfl⟩
  rw [hr] at HC ⊢
  clear hv hx hr
  go_enter Tryz.func171, Tryz.ntmps171
  go_wp2_with fail
  refine HC.out.mono ?_
  rintro e w1 ⟨rfl, rfl⟩
  go_wp2_with fail
  go_ret
  exact ⟨rfl, Below.refl _ _⟩

set_option maxHeartbeats 4000000 in
theorem within_any (xs ys : List Int) (u v : Value) (w : World) (hu : IntsAt w u xs) (hv : IntsAt w v ys) (hx : xs.length ≤ 1000000) (hy : ys.length ≤ 1000000) :
    Calls Tryz.prog 138 #[u, v] w (Gives (.bool (partB xs ys)) w) := by
  obtain ⟨pv, cv, hve, -⟩ := id hv
  generalize ys.length = ny at hve
  subst hve
  have hb : Below w.heap.size w (w.alloc (.cells #[.slice pv ny cv] 23)) := (Below.refl _ _).alloc (Nat.le_refl _) _
  have HB := Lib.hid hb
  have HC := Lib.hid (containsI_any (.pointer (some ⟨w.heap.size, 0, none⟩)) (fun x => !decide (x ∈ ys)) xs u (w.alloc (.cells #[.slice pv ny cv] 23)) (fun w' hb' x => by
      have hc : w'.cell? ⟨w.heap.size, 0, none⟩ = some (.slice pv ny cv) := (one_at (t := 23) ((hb'.block _ (by simp)).trans (heap_alloc_new w _))).1
      exact within1_any w.heap.size ys (.slice pv ny cv) x w' hc ((hv.below hb (Nat.le_refl _)).below hb' (Nat.le_refl _)) hy) (hu.below hb (Nat.le_refl _)) hx)
  unfold Gives at HC
  have hpb : partB xs ys = !(xs.any fun x => !decide (x ∈ ys)) := by
    unfold partB
    rw [Bool.eq_iff_iff]
    simp [List.all_eq_true]
  have HPB := Lib.hid hpb
  obtain ⟨r, hr⟩ : ∃ r, (xs.any fun x => !decide (x ∈ ys)) = r := ⟨_, rfl⟩
  rw [hr] at HC HPB
  clear hb hu hv hx hy hpb hr
  rw [HPB.out]
  go_enter Tryz.func138, Tryz.ntmps138
  go_wp2_with fail
  refine HC.out.mono ?_
  rintro e w1 ⟨rfl, hb1⟩
  have HB1 := Lib.hid (HB.out.trans (hb1.mono HB.out.size))
  clear hb1
  go_wp2_with fail
  go_ret
  exact ⟨rfl, HB1.out⟩

theorem pairwise_adj : ∀ {l : List Int}, (∀ k, k + 1 < l.length → l.getD k 0 ≤ l.getD (k + 1) 0) → l.Pairwise (· ≤ ·)
  | [], _ => List.Pairwise.nil
  | [x], _ => List.pairwise_singleton _ _
  | x :: y :: r, h => by
    have ih : (y :: r).Pairwise (· ≤ ·) := pairwise_adj fun k hk => by
      have := h (k + 1) (by simp at hk ⊢; omega)
      simpa using this
    refine List.pairwise_cons.2 ⟨fun z hz => ?_, ih⟩
    have h0 : x ≤ y := by simpa using h 0 (by simp)
    rcases List.mem_cons.1 hz with rfl | hz
    · exact h0
    · exact Int.le_trans h0 ((List.pairwise_cons.1 ih).1 z hz)
theorem adj_pairwise {l : List Int} (h : l.Pairwise (· ≤ ·)) (k : Nat) (hk : k + 1 < l.length) : l.getD k 0 ≤ l.getD (k + 1) 0 := by
  rw [List.getD_eq_getElem?_getD, List.getElem?_eq_getElem (by omega), List.getD_eq_getElem?_getD, List.getElem?_eq_getElem hk]
  exact List.pairwise_iff_getElem.1 h k (k + 1) (by omega) hk (by omega)
def riseB (l : List Int) : Bool := decide (l.Pairwise (· ≤ ·))

set_option maxRecDepth 100000 in
set_option maxHeartbeats 8000000 in
theorem isSorted_any (xs : List Int) (v : Value) (w : World) (hv : IntsAt w v xs) (hn : xs.length ≤ 1000000) :
    Calls Tryz.prog 135 #[v] w (Drew (.bool (riseB xs)) w) := by
  obtain ⟨pv, cv, hve, -⟩ := id hv
  obtain ⟨n, hLn⟩ : ∃ n, xs.length = n := ⟨_, rfl⟩
  rw [hLn] at hve hn
  subst hve
  have HLN := Lib.hid hLn
  have HV := Lib.hid hv
  have HLess := Lib.hid Tryz.cmp_Less_int2
  clear hLn hv
  go_enter Tryz.func135, Tryz.ntmps135
  go_wp2_with fail
  go_loopw [3] (fun i wr => ∃ j q : Nat, j ≤ n ∧ i = .int .i64 ((j : Int) - 1) ∧ wr = w.drewN q ∧ ∀ k, j ≤ k + 1 → k + 1 < n → xs.getD k 0 ≤ xs.getD (k + 1) 0) (fun i _ => (intOf i).toNat)
  case atStart => exact ⟨n, 0, Nat.le_refl _, rfl, rfl, fun k h1 h2 => absurd h2 (by omega)⟩
  case round =>
    obtain ⟨j, q, hj, rfl, hwq, hok⟩ := hrel
    have HOK := Lib.hid hok
    have HWQ := Lib.hid hwq
    have hva : IntsAt wr (.slice pv n cv) xs := by rw [hwq]; exact HV.out
    clear hok hwq
    by_cases hj1 : 1 < j
    · obtain ⟨k, rfl⟩ : ∃ k, j = k + 2 := ⟨j - 2, by omega⟩
      have hk2 : k + 1 < xs.length := by rw [HLN.out]; omega
      obtain ⟨p', c', hv', -, -, hx⟩ := id hva
      obtain ⟨b, off, e1, e2⟩ := hx (k + 1) hk2
      obtain ⟨b', off', e3, e4⟩ := hx k (by omega)
      cases hv'
      subst e1
      cases e3
      have hs1 : ((k + 2 : Nat) : Int) - 1 = ((k + 1 : Nat) : Int) := by omega
      have hs2 : ((k + 1 : Nat) : Int) - 1 = (k : Int) := by omega
      obtain ⟨x, hxx⟩ : ∃ x, xs.getD (k + 1) 0 = x := ⟨_, rfl⟩
      obtain ⟨y, hyy⟩ : ∃ y, xs.getD k 0 = y := ⟨_, rfl⟩
      rw [hxx] at e2
      rw [hyy] at e4
      have HX := Lib.hid hxx
      have HY := Lib.hid hyy
      rw [hs1]
      obtain ⟨k1, hk1⟩ : ∃ k1, k1 = k + 1 := ⟨_, rfl⟩
      rw [← hk1] at e2 ⊢
      rw [← hk1] at hs2
      have hkp : 0 < k1 := by omega
      have HK1 := Lib.hid hk1
      clear hx hxx hyy hva hs1 hk1
      by_cases hlt : x < y
      · have HL1 : Hid (∀ w, Calls Tryz.prog 94 #[.int .i64 x, .int .i64 y] w fun e w' => e = .returned (.bool true) ∧ w' = w) := fun w => by have h := HLess.out x y w; rwa [decide_eq_true hlt] at h
        have HNO : Hid (riseB xs = false) := by
          unfold Hid riseB
          refine decide_eq_false fun h => ?_
          have := adj_pairwise h k hk2
          rw [HX.out, HY.out] at this
          omega
        clear hlt
        go_wp2_with fail
        go_quiet ((go_at_call 94; exact Calls.quiet_of_same (HL1.out _)))
        go_wp2_with fail
        go_ret
        exact ⟨by rw [HNO.out]; rfl, by rw [HWQ.out]; exact ⟨_, World.drewN_drewN _ _ _⟩⟩
      · have HL1 : Hid (∀ w, Calls Tryz.prog 94 #[.int .i64 x, .int .i64 y] w fun e w' => e = .returned (.bool false) ∧ w' = w) := fun w => by have h := HLess.out x y w; rwa [decide_eq_false hlt] at h
        have HLE : Hid (xs.getD k 0 ≤ xs.getD (k + 1) 0) := by unfold Hid; rw [HX.out, HY.out]; omega
        clear hlt
        go_wp2_with fail
        go_quiet ((go_at_call 94; exact Calls.quiet_of_same (HL1.out _)))
        go_wp2_with fail
        go_roundw
        case rel =>
          refine ⟨k + 1, _, by omega, by go_num, by rw [HWQ.out]; exact World.drewN_drewN _ _ _, fun i h1 h2 => ?_⟩
          rcases (show k + 2 ≤ i + 1 ∨ i = k by omega) with h | rfl
          · exact HOK.out i h h2
          · exact HLE.out
        case measure => simp [intOf]; omega
    · have HYES : Hid (riseB xs = true) := decide_eq_true (pairwise_adj fun k hk => HOK.out k (by omega) (by rw [← HLN.out]; exact hk))
      have q1 : decide (0 < (j : Int) - 1) = false := decide_eq_false (by omega)
      have q2 : (j : Int) - 1 ≤ 0 := by omega
      go_wp2_with fail
      go_ret
      exact ⟨by rw [HYES.out]; rfl, q, HWQ.out⟩

theorem has1_any (b : Nat) (f xs : List Int) (u v : Value) (w : World) (hc : w.cell? ⟨b, 0, none⟩ = some v) (hv : IntsAt w v f) (hu : IntsAt w u xs) (hf : f.length ≤ 1000000) (hx : xs.length ≤ 1000000) :
    Calls Tryz.prog 137 #[u, .pointer (some ⟨b, 0, none⟩)] w (fun e w' => e = .returned (.bool (partB f xs)) ∧ Below w.heap.size w w') := by
  have HC := Lib.hid (within_any f xs v u w hv hu hf hx)
  unfold Gives at HC
  obtain ⟨r, hr⟩ : ∃ r, partB f xs = r := ⟨_, rfl⟩
  rw [hr] at HC ⊢
  clear hv hu hf hx hr
  go_enter Tryz.func137, Tryz.ntmps137
  go_wp2_with fail
  refine HC.out.mono ?_
  rintro e w1 ⟨rfl, hb⟩
  have HB := Lib.hid hb
  clear hb
  go_wp2_with fail
  go_ret
  exact ⟨rfl, HB.out⟩

def FnL (w0 : World) (c : Value) (p : List Int → Bool) : Prop := ∀ w, Below w0.heap.size w0 w → ∀ u xs, IntsAt w u xs → xs.length ≤ 1000000 → Calls Tryz.prog 137 #[u, c] w (fun e w' => e = .returned (.bool (p xs)) ∧ Below w.heap.size w w')

set_option maxRecDepth 100000 in
set_option maxHeartbeats 8000000 in
theorem indexL_any (B : Nat) (c : Value) (p : List Int → Bool) (L : List (List Int)) (v : Value) (w : World) (hf : FnL w c p) (hv : ListsIn B w v L) (hn : L.length ≤ 1000000) (hl : ∀ l ∈ L, l.length ≤ 1000000) :
    Calls Tryz.prog 103 #[v, .func (.func 137) #[] #[c]] w (AnyPost (L.any p) w) := by
  obtain ⟨pv, cv, hve, -⟩ := id hv
  obtain ⟨n, hLn⟩ : ∃ n, L.length = n := ⟨_, rfl⟩
  rw [hLn] at hve hn
  subst hve
  have HLN := Lib.hid hLn
  have HV := Lib.hid hv
  have HF := Lib.hid hf
  have HL := Lib.hid hl
  unfold FnL at HF
  clear hLn hv hf hl
  go_enter Tryz.func103, Tryz.ntmps103
  go_wp2_with fail
  go_loopw [5, 8] (fun _ i wr => ∃ j : Nat, j ≤ n ∧ i = .int .i64 j ∧ Below w.heap.size w wr ∧ ∀ k, k < j → p (L.getD k []) = false) (fun _ i _ => n - (intOf i).toNat)
  case atStart => exact ⟨0, Nat.zero_le _, rfl, Below.refl _ _, fun k h => absurd h (by omega)⟩
  case round =>
    obtain ⟨j, hj, rfl, hb, hno⟩ := hrel
    have HB := Lib.hid hb
    have HNO := Lib.hid hno
    have hIA := HV.out.below hb (Nat.le_refl _)
    clear hb hno
    by_cases hjn : j < n
    · have hjL : j < L.length := by rw [HLN.out]; exact hjn
      obtain ⟨b, off, c', hve⟩ := hIA.form (by omega)
      rw [HLN.out] at hve
      obtain ⟨rfl, rfl⟩ : pv = some ⟨b, off, none⟩ ∧ cv = c' := by cases hve; exact ⟨rfl, rfl⟩
      obtain ⟨px, cx, hcx, hix⟩ := cells_at hIA j hjL
      have HM := Lib.hid (getL_mem hjL)
      have HC := Lib.hid (HF.out wr HB.out _ (L.getD j []) hix.at (HL.out _ (getL_mem hjL)))
      obtain ⟨x, hxx⟩ : ∃ x, L.getD j [] = x := ⟨_, rfl⟩
      rw [hxx] at hcx HC HM
      obtain ⟨r, hr⟩ : ∃ r, p x = r := ⟨_, rfl⟩
      rw [hr] at HC
      generalize x.length = nx at hcx HC
      have HX := Lib.hid hxx
      have HR := Lib.hid hr
      clear hix hxx hr hIA hjL hve
      cases r with
      | true =>
        go_wp2_with fail
        refine HC.out.mono ?_
        rintro e w1 ⟨rfl, hb1⟩
        have HB1 := Lib.hid (HB.out.trans (hb1.mono HB.out.size))
        clear hb1
        go_wp2_with fail
        go_ret
        refine ⟨_, rfl, HB1.out, ?_⟩
        rw [List.any_eq_true.2 ⟨x, HM.out, HR.out⟩]
        exact (decide_eq_true (by omega)).symm
      | false =>
        go_wp2_with fail
        refine HC.out.mono ?_
        rintro e w1 ⟨rfl, hb1⟩
        have HB1 := Lib.hid (HB.out.trans (hb1.mono HB.out.size))
        clear hb1
        go_wp2_with fail
        go_roundw
        case rel =>
          refine ⟨j + 1, by omega, by go_num, HB1.out, fun k hk => ?_⟩
          rcases (show k < j ∨ k = j by omega) with h | rfl
          · exact HNO.out k h
          · rw [HX.out]; exact HR.out
        case measure => simp [intOf]; omega
    · obtain rfl : j = n := by omega
      have HA : Hid (L.any p = false) := by
        unfold Hid
        rw [List.any_eq_false]
        intro x hm
        obtain ⟨k, hk, rfl⟩ := List.getElem_of_mem hm
        have := HNO.out k (by rw [← HLN.out]; exact hk)
        rw [List.getD_eq_getElem?_getD, List.getElem?_eq_getElem hk] at this
        simpa using this
      go_wp2_with fail
      go_ret
      refine ⟨_, rfl, HB.out, ?_⟩
      rw [HA.out]
      exact (decide_eq_false (by decide)).symm

set_option maxHeartbeats 4000000 in
theorem containsL_any (B : Nat) (c : Value) (p : List Int → Bool) (L : List (List Int)) (v : Value) (w : World) (hf : FnL w c p) (hv : ListsIn B w v L) (hn : L.length ≤ 1000000) (hl : ∀ l ∈ L, l.length ≤ 1000000) :
    Calls Tryz.prog 136 #[v, .func (.func 137) #[] #[c]] w (Gives (.bool (L.any p)) w) := by
  have HC := Lib.hid (indexL_any B c p L v w hf hv hn hl)
  unfold AnyPost at HC
  obtain ⟨r, hr⟩ : ∃ r, L.any p = r := ⟨_, rfl⟩
  rw [hr] at HC ⊢
  clear hf hv hn hr hl
  go_enter Tryz.func136, Tryz.ntmps136
  go_wp2_with fail
  refine HC.out.mono ?_
  rintro e w1 ⟨x, rfl, hb, hrx⟩
  have HB := Lib.hid hb
  have HRX := Lib.hid hrx
  clear hb hrx
  go_wp2_with fail
  go_ret
  exact ⟨ret_bool HRX.out.symm, HB.out⟩

/-- what has says -/
def hasB (L : List (List Int)) (f : List Int) : Bool := decide (f ≠ []) && riseB f && decide f.Nodup && L.any (partB f)
theorem hasB_iff {L : List (List Int)} (h : errX L = 0) (f : List Int) : hasB L f = true ↔ f ∈ allF L := by
  obtain ⟨h0, hm⟩ := errX_ok h
  obtain ⟨hok, h7, -⟩ := errC_ok h0
  have hrise : ∀ l ∈ L, Rise l := fun l hl => by
    rw [hm] at hl
    exact isF_rise hok (mem_allF.1 (mem_facets hl))
  rw [mem_allF]
  unfold hasB riseB IsF
  simp only [Bool.and_eq_true, decide_eq_true_eq, List.any_eq_true]
  constructor
  · rintro ⟨⟨⟨a, b⟩, c⟩, l, hl, hp⟩
    refine ⟨a, l, hl, ?_⟩
    rw [sortI_rise (hrise l hl)]
    exact sub_of_rise (rise_of_nodup b c) (hrise l hl) fun x hx => by
      have := List.all_eq_true.1 hp x hx
      simpa using this
  · rintro ⟨a, l, hl, hs⟩
    rw [sortI_rise (hrise l hl)] at hs
    have hr := (hrise l hl).sublist hs
    refine ⟨⟨⟨a, hr.imp fun h => by omega⟩, hr.imp fun h => by omega⟩, l, hl, ?_⟩
    unfold partB
    rw [List.all_eq_true]
    intro x hx
    simpa using hs.subset hx

set_option maxRecDepth 100000 in
set_option maxHeartbeats 8000000 in
theorem has_any (B : Nat) (L : List (List Int)) (f : List Int) (v u : Value) (w : World) (hv : ListsIn B w v L) (hu : IntsAt w u f) (hn : L.length ≤ 100000) (hl : ∀ l ∈ L, l.length ≤ 100000) (hf : f.length ≤ 100000) :
    Calls Tryz.prog 102 #[.agg #[v], u] w (Gives (.bool (hasB L f)) w) := by
  obtain ⟨pv, cv, hve, -⟩ := id hv
  obtain ⟨n, hLn⟩ : ∃ n, L.length = n := ⟨_, rfl⟩
  rw [hLn] at hve
  subst hve
  obtain ⟨pu, cu, hue, -⟩ := id hu
  obtain ⟨m, hm⟩ : ∃ m, f.length = m := ⟨_, rfl⟩
  rw [hm] at hue
  subst hue
  obtain ⟨w0, hw0⟩ : ∃ w0, w0 = (w.alloc (.cells #[.slice pv n cv] 34)).alloc (.cells #[.slice pu m cu] 23) := ⟨_, rfl⟩
  have hb0 : Below w.heap.size w w0 := by rw [hw0]; exact ((Below.refl _ _).alloc (Nat.le_refl _) _).alloc (by simp) _
  have hk1 : w0.heap[w.heap.size]? = some (.cells #[.slice pv n cv] 34 (0, 0)) := by
    rw [hw0]
    exact ((lit_below _ _).block _ (by simp)).trans (heap_alloc_new w _)
  have hk2 : w0.heap[w.heap.size + 1]? = some (.cells #[.slice pu m cu] 23 (0, 0)) := by
    rw [hw0]
    have h := heap_alloc_new (w.alloc (.cells #[.slice pv n cv] 34)) (.cells #[.slice pu m cu] 23)
    rw [lit_size] at h
    exact h
  have HB0 := Lib.hid hb0
  have HK1 := Lib.hid hk1
  have HK2 := Lib.hid hk2
  have HM := Lib.hid hm
  have HU := Lib.hid (hu.below hb0 (Nat.le_refl _))
  have HV := Lib.hid (hv.below hb0 (Nat.le_refl _))
  have HN := Lib.hid hn
  have HL := Lib.hid hl
  have hm5 : m ≤ 100000 := by omega
  have HW := Lib.hid hw0
  have HCON := Lib.hid (fun (wc : World) (hb : Below w0.heap.size w0 wc) => containsL_any B (.pointer (some ⟨w.heap.size + 1, 0, none⟩)) (partB f) L (.slice pv n cv) wc (fun w' hb' u' xs hux hxs => by
      have hb2 := hb.trans (hb'.mono hb.size)
      have hc := (one_at ((hb2.block _ (Array.getElem?_eq_some_iff.1 HK2.out).1).trans HK2.out)).1
      exact has1_any (w.heap.size + 1) f xs u' (.slice pu m cu) w' hc (HU.out.below hb2 (Nat.le_refl _)) hux (by omega) hxs) (HV.out.below hb (Nat.le_refl _)) (by omega) (fun l h => by have := hl l h; omega))
  unfold Gives at HCON
  have hlt2 : w.heap.size + 1 < w0.heap.size := (Array.getElem?_eq_some_iff.1 hk2).1
  have hlt1 : w.heap.size < w0.heap.size := by omega
  clear hv hu hn hl hf hLn hm hw0 hb0 hk1 hk2
  by_cases hm0 : m = 0
  · have HR : Hid (hasB L f = false) := by
      have : f = [] := List.length_eq_zero_iff.1 (by rw [HM.out]; exact hm0)
      unfold Hid hasB
      rw [this]; rfl
    rw [HR.out]
    have q0 : ((m : Int) == 0) = true := beq_iff_eq.2 (by omega)
    have q1 : (m == 0) = true := beq_iff_eq.2 hm0
    have hc2 := (one_at HK2.out).1
    clear hm0
    go_enter Tryz.func102, Tryz.ntmps102
    go_wp2_with fail
    rw [← HW.out]
    go_quiet (fail)
    go_wp2_with fail
    go_ret
    exact ⟨rfl, HB0.out.trans ((Below.drewN w0 _).mono HB0.out.size)⟩
  · have q0 : ((m : Int) == 0) = false := beq_eq_false_iff_ne.2 (by omega)
    have q1 : (m == 0) = false := beq_eq_false_iff_ne.2 hm0
    have hm1 : 0 < m := by omega
    obtain ⟨s, hs⟩ : ∃ s, riseB f = s := ⟨_, rfl⟩
    have HIS := Lib.hid (fun d => isSorted_any f (.slice pu m cu) (w0.drewN d) (show IntsAt (w0.drewN d) _ f from HU.out) (by rw [HM.out]; omega))
    unfold Drew at HIS
    rw [hs] at HIS
    have HS := Lib.hid hs
    have hc2 := (one_at HK2.out).1
    have hc1 := (one_at HK1.out).1
    clear hm0 hs
    cases s with
    | false =>
      have HR : Hid (hasB L f = false) := by
        unfold Hid hasB
        rw [HS.out]; simp
      rw [HR.out]
      go_enter Tryz.func102, Tryz.ntmps102
      go_wp2_with fail
      rw [← HW.out]
      go_quiet ((go_at_call 135; exact Calls.quiet_of (HIS.out _)))
      go_wp2_with fail
      go_ret
      exact ⟨rfl, HB0.out.trans ((Below.drewN w0 _).mono HB0.out.size)⟩
    | true =>
      have HIS1 := Lib.hid (isSorted_any f (.slice pu m cu) w0.drew (show IntsAt w0.drew _ f from HU.out) (by rw [HM.out]; omega))
      unfold Drew at HIS1
      rw [HS.out] at HIS1
      have HC2 := Lib.hid hc2
      have HCL := Lib.hid (fun (w5 : World) (hb : Below w0.heap.size w0 w5) => clone_any f (.slice pu m cu) w5 (HU.out.below hb (Nat.le_refl _)) (by rw [HM.out]; exact hm1) (by rw [HM.out]; exact hm5))
      unfold ClonePost at HCL
      rw [HM.out] at HCL
      have HCO := Lib.hid (fun (O g cap : Nat) (w6 : World) (ho : w6.ownsRow O 3 1 (.slice (some ⟨g, 0, none⟩) f.length cap) f.length (intVs f)) => compact_any f O g cap w6 ho (by rw [HM.out]; exact hm5))
      unfold CompactPost at HCO
      rw [HM.out] at HCO
      have HPW : Hid (f.Pairwise (· ≤ ·)) := by unfold Hid; have := HS.out; unfold riseB at this; exact of_decide_eq_true this
      clear HIS
      go_enter Tryz.func102, Tryz.ntmps102
      go_wp2_with fail
      rw [← HW.out]
      go_region_law (first
        | (go_simp
           go_at_call 135
           refine HIS1.out.mono ?_
           rintro e w5 ⟨rfl, d5, hd5⟩
           have hb5 : Below w0.heap.size w0 w5 := by rw [hd5]; exact ((Below.refl w0.heap.size w0).drew).trans (Below.drewN w0.drew d5)
           clear hd5
           have hc25 := (hb5.cell (p := ⟨w.heap.size + 1, 0, none⟩) hlt2).trans HC2.out)
        | (go_simp
           go_at_call 40
           refine (HCL.out w5 hb5).mono ?_
           rintro e w6 ⟨g, cap, rfl, hb56, ho6⟩
           have hb6 := hb5.trans (hb56.mono hb5.size)
           have hc26 := (hb6.cell (p := ⟨w.heap.size + 1, 0, none⟩) hlt2).trans HC2.out
           have hg6 := (ho6.lt g rfl).1)
        | (go_simp
           go_at_call 82
           refine (HCO.out _ g cap w6 ho6).mono ?_
           rintro e w7 ⟨k7, rfl, hg7, hk7, hn7⟩
           have hb7 := hb6.grown hg7 hb6.size (fun q e => by have h2 := Option.some.inj e; have h3 := hb5.size; omega)
           have hc27 := (hb7.cell (p := ⟨w.heap.size + 1, 0, none⟩) hlt2).trans HC2.out
           have hc17 := (hb7.cell (p := ⟨w.heap.size, 0, none⟩) hlt1).trans (one_at HK1.out).1
           have HN7 := Lib.hid (hn7 HPW.out)
           clear hn7 hg7))
      all_goals
        have HB7 := Lib.hid (HB0.out.trans (hb7.mono HB0.out.size))
        have HCN := Lib.hid (HCON.out w7 hb7)
        by_cases hkm : k7 < m
        · have HR : Hid (hasB L f = false) := by
            have hnd : ¬ f.Nodup := fun h => by have := HN7.out.2 h; omega
            unfold Hid hasB
            rw [decide_eq_false hnd]; simp
          have q2 : decide (k7 < m) = true := decide_eq_true hkm
          have q3 : decide ((k7 : Int) < (m : Int)) = true := decide_eq_true (by omega)
          clear hb5 hb6 hb56 hb7
          go_wp2_with fail
          go_ret
          exact ⟨ret_bool HR.out.symm, HB7.out⟩
        · have hkm2 : k7 = m := by omega
          have HR : Hid (hasB L f = L.any (partB f)) := by
            have h1 := HN7.out.1 hkm2
            have h2 : f ≠ [] := List.length_pos_iff.1 (by rw [HM.out]; exact hm1)
            unfold Hid hasB
            rw [HS.out, decide_eq_true h1, decide_eq_true h2]; simp
          have q2 : decide (k7 < m) = false := decide_eq_false hkm
          have q3 : decide ((k7 : Int) < (m : Int)) = false := decide_eq_false (by omega)
          clear hb5 hb6 hb56 hb7 hkm2
          go_wp2_with fail
          refine HCN.out.mono ?_
          rintro e w8 ⟨rfl, hb8⟩
          have HB8 := Lib.hid (HB7.out.trans (hb8.mono HB7.out.size))
          clear hb8
          go_wp2_with fail
          go_ret
          exact ⟨ret_bool HR.out.symm, HB8.out⟩

set_option maxRecDepth 100000 in
set_option maxHeartbeats 8000000 in
theorem Has_any (a : Nat → Addr) (B : Nat) (L : List (List Int)) (f : List Int) (v u : Value) (w : World) (hS : Sents w a) (hB : B ≤ w.heap.size) (hv : ListsIn B w v L) (hu : IntsAt w u f) (hn : L.length ≤ 100000) (hl : ∀ l ∈ L, l.length ≤ 100000) (hf : f.length ≤ 100000) :
    Calls Tryz.prog 64 #[.agg #[v], u] w (FacPost a L (fun _ x => x = .bool (hasB L f)) (.bool false) w) := by
  obtain ⟨pv, cv, hve, -⟩ := id hv
  generalize hLn : L.length = n at hve
  subst hve
  have hb0 : Below w.heap.size w (w.alloc (.cells #[.slice pv n cv] 34)) := (Below.refl _ _).alloc (Nat.le_refl _) _
  have HB0 := Lib.hid hb0
  have HC := Lib.hid (valid_any a B L (.slice pv n cv) _ (hS.below hb0 (Nat.le_refl _)) (Nat.le_trans hB hb0.size) (hv.below hb0 (Nat.le_refl _)) hn hl)
  have HH := Lib.hid (fun (w1 : World) (hb : Below w.heap.size w w1) => has_any B L f (.slice pv n cv) u w1 (hv.below hb (Nat.le_refl _)) (hu.below hb (Nat.le_refl _)) hn hl hf)
  unfold ValP at HC
  unfold Gives at HH
  clear hS hB hv hn hl hb0 hLn hu hf
  go_enter Tryz.func64, Tryz.ntmps64
  go_wp2_with fail
  refine HC.out.mono ?_
  rintro e w1 ⟨hb1, ⟨he, rfl⟩ | ⟨k, hk, hek, rfl⟩⟩
  · have hcv : w1.cell? ⟨w.heap.size, 0, none⟩ = some (.slice pv n cv) := (one_at (t := 34) ((hb1.block _ (by simp)).trans (heap_alloc_new w _))).1
    have hb01 := HB0.out.trans (hb1.mono HB0.out.size)
    have HB1 := Lib.hid hb01
    have HE := Lib.hid he
    have HH1 := Lib.hid (HH.out w1 hb01)
    clear hb1 he hb01
    go_wp2_with fail
    refine HH1.out.mono ?_
    rintro e w2 ⟨rfl, hb2⟩
    have HB2 := Lib.hid (HB1.out.trans (hb2.mono HB1.out.size))
    clear hb2
    go_wp2_with fail
    go_ret2
    exact FacPost.ok HB2.out HE.out rfl
  · have HB1 := Lib.hid (HB0.out.trans (hb1.mono HB0.out.size))
    have HEK := Lib.hid hek
    clear hb1 hek
    unfold errE
    go_wp2_with fail
    go_ret2
    exact FacPost.err HB1.out hk HEK.out
end Go.Proofs.YtddnjimpdidpaaaGreatDoor
