/-
  slices.Contains, IndexFunc, ContainsFunc with closures; cells.Within by contracts.
-/
import Derived.Test.YtipblphfjejpbaaGreatDoorFacB
set_option linter.unusedSimpArgs false
set_option linter.unusedVariables false
namespace Go.Proofs.YtipblphfjejpbaaGreatDoor
open Go Go.RowKit Go.Maps

theorem slContains_any (xs : List Int) (v : Value) (x : Int) (w : World) (hv : IntsAt w v xs) (hx : xs.length ≤ 1000000) :
    Calls Tryz.prog 83 #[v, .int .i64 x] w (Same (.bool (decide (x ∈ xs))) w) := by
  rcases hv.cases with ⟨rfl, p, c, rfl⟩ | ⟨h0, b, off, c, rfl, hc, hx2⟩
  · refine (Tryz.slices_Contains_int_empty p c x w).mono ?_
    rintro e w' ⟨rfl, rfl⟩
    exact ⟨by simp, rfl⟩
  · refine (Tryz.slices_Contains_int b off xs.length c xs x w (Nat.le_refl _) (by omega) hx2).mono ?_
    rintro e w' ⟨rfl, rfl⟩
    refine ⟨ret_bool ?_, rfl⟩
    rw [List.take_length, Bool.eq_iff_iff]
    simp

/-- a function of one number, by a closure with one box -/
def FnI (w0 : World) (c : Value) (p : Int → Bool) : Prop := ∀ w, Below w0.heap.size w0 w → ∀ x, Calls Tryz.prog 110 #[.int .i64 x, c] w (fun e w' => e = .returned (.bool (p x)) ∧ Below w.heap.size w w')
def AnyPost (r : Bool) (w : World) (e : Ending) (w' : World) : Prop := ∃ x : Int, e = .returned (.int .i64 x) ∧ Below w.heap.size w w' ∧ r = decide (0 ≤ x)

set_option maxRecDepth 100000 in
set_option maxHeartbeats 8000000 in
theorem indexI_any (c : Value) (p : Int → Bool) (xs : List Int) (v : Value) (w : World) (hf : FnI w c p) (hv : IntsAt w v xs) (hn : xs.length ≤ 1000000) :
    Calls Tryz.prog 111 #[v, .func (.func 110) #[] #[c]] w (AnyPost (xs.any p) w) := by
  obtain ⟨pv, cv, hve, -⟩ := id hv
  obtain ⟨n, hLn⟩ : ∃ n, xs.length = n := ⟨_, rfl⟩
  rw [hLn] at hve hn
  subst hve
  have HLN := Lib.hid hLn
  have HV := Lib.hid hv
  have HF := Lib.hid hf
  unfold FnI at HF
  clear hLn hv hf
  go_enter Tryz.func111, Tryz.ntmps111
  go_wp2_with fail
  go_loopw [5, 8] (fun _ i wr => ∃ j : Nat, j ≤ n ∧ i = .int .i64 j ∧ Below w.heap.size w wr ∧ ∀ k, k < j → p (xs.getD k 0) = false) (fun _ i _ => n - (intOf i).toNat)
  case atStart => exact ⟨0, Nat.zero_le _, rfl, Below.refl _ _, fun k h => absurd h (by omega)⟩
  case round =>
    obtain ⟨j, hj, rfl, hb, hno⟩ := hrel
    have HB := Lib.hid hb
    have HNO := Lib.hid hno
    have hIA := HV.out.below hb (Nat.le_refl _)
    clear hb hno
    by_cases hjn : j < n
    · have hjL : j < xs.length := by rw [HLN.out]; exact hjn
      obtain ⟨p', c', hv', -, -, hx⟩ := id hIA
      obtain ⟨b, off, e1, e2⟩ := hx j hjL
      cases hv'
      subst e1
      have HC := Lib.hid (HF.out wr HB.out (xs.getD j 0))
      have HM : Hid (xs.getD j 0 ∈ xs) := by unfold Hid; rw [List.getD_eq_getElem?_getD, List.getElem?_eq_getElem hjL]; exact List.getElem_mem _
      obtain ⟨x, hxx⟩ : ∃ x, xs.getD j 0 = x := ⟨_, rfl⟩
      rw [hxx] at e2 HC HM
      obtain ⟨r, hr⟩ : ∃ r, p x = r := ⟨_, rfl⟩
      rw [hr] at HC
      have HX := Lib.hid hxx
      have HR := Lib.hid hr
      clear hx hxx hr hIA hjL
      cases r with
      | true =>
        go_wp2_with fail
        refine HC.out.mono ?_
        rintro e w1 ⟨rfl, hb1⟩
        have HB1 := Lib.hid (HB.out.trans (hb1.mono HB.out.size))
        clear hb1
        go_wp2_with fail
        go_ret
        refine ⟨_, rfl, HB1.out, ?_⟩
        rw [List.any_eq_true.2 ⟨x, HM.out, HR.out⟩]
        exact (decide_eq_true (by omega)).symm
      | false =>
        go_wp2_with fail
        refine HC.out.mono ?_
        rintro e w1 ⟨rfl, hb1⟩
        have HB1 := Lib.hid (HB.out.trans (hb1.mono HB.out.size))
        clear hb1
        go_wp2_with fail
        go_roundw
        case rel =>
          refine ⟨j + 1, by omega, by go_num, HB1.out, fun k hk => ?_⟩
          rcases (show k < j ∨ k = j by omega) with h | rfl
          · exact HNO.out k h
          · rw [HX.out]; exact HR.out
        case measure => simp [intOf]; omega
    · obtain rfl : j = n := by omega
      have HA : Hid (xs.any p = false) := by
        unfold Hid
        rw [List.any_eq_false]
        intro x hm
        obtain ⟨k, hk, rfl⟩ := List.getElem_of_mem hm
        have := HNO.out k (by rw [← HLN.out]; exact hk)
        rw [List.getD_eq_getElem?_getD, List.getElem?_eq_getElem hk] at this
        simpa using this
      go_wp2_with fail
      go_ret
      refine ⟨_, rfl, HB.out, ?_⟩
      rw [HA.out]
      exact (decide_eq_false (by decide)).symm

set_option maxHeartbeats 4000000 in
theorem containsI_any (c : Value) (p : Int → Bool) (xs : List Int) (v : Value) (w : World) (hf : FnI w c p) (hv : IntsAt w v xs) (hn : xs.length ≤ 1000000) :
    Calls Tryz.prog 109 #[v, .func (.func 110) #[] #[c]] w (Gives (.bool (xs.any p)) w) := by
  have HC := Lib.hid (indexI_any c p xs v w hf hv hn)
  unfold AnyPost at HC
  obtain ⟨r, hr⟩ : ∃ r, xs.any p = r := ⟨_, rfl⟩
  rw [hr] at HC ⊢
  clear hf hv hn hr
  go_enter Tryz.func109, Tryz.ntmps109
  go_wp2_with fail
  refine HC.out.mono ?_
  rintro e w1 ⟨x, rfl, hb, hrx⟩
  have HB := Lib.hid hb
  have HRX := Lib.hid hrx
  clear hb hrx
  go_wp2_with fail
  go_ret
  exact ⟨ret_bool HRX.out.symm, HB.out⟩

/-- Within's inner question -/
theorem within1_any (b : Nat) (xs : List Int) (v : Value) (x : Int) (w : World) (hc : w.cell? ⟨b, 0, none⟩ = some v) (hv : IntsAt w v xs) (hx : xs.length ≤ 1000000) :
    Calls Tryz.prog 110 #[.int .i64 x, .pointer (some ⟨b, 0, none⟩)] w (fun e w' => e = .returned (.bool (!decide (x ∈ xs))) ∧ Below w.heap.size w w') := by
  have HC := Lib.hid (slContains_any xs v x w hv hx)
  unfold Same at HC
  obtain ⟨r, hr⟩ : ∃ r, decide (x ∈ xs) = r := ⟨_, rfl⟩
  rw [hr] at HC ⊢
  clear hv hx hr
  go_enter Tryz.func110, Tryz.ntmps110
  go_wp2_with fail
  refine HC.out.mono ?_
  rintro e w1 ⟨rfl, rfl⟩
  go_wp2_with fail
  go_ret
  exact ⟨rfl, Below.refl _ _⟩

set_option maxHeartbeats 4000000 in
theorem within_any (xs ys : List Int) (u v : Value) (w : World) (hu : IntsAt w u xs) (hv : IntsAt w v ys) (hx : xs.length ≤ 1000000) (hy : ys.length ≤ 1000000) :
    Calls Tryz.prog 80 #[u, v] w (Gives (.bool (partB xs ys)) w) := by
  obtain ⟨pv, cv, hve, -⟩ := id hv
  generalize ys.length = ny at hve
  subst hve
  have hb : Below w.heap.size w (w.alloc (.cells #[.slice pv ny cv] 26)) := (Below.refl _ _).alloc (Nat.le_refl _) _
  have HB := Lib.hid hb
  have HC := Lib.hid (containsI_any (.pointer (some ⟨w.heap.size, 0, none⟩)) (fun x => !decide (x ∈ ys)) xs u (w.alloc (.cells #[.slice pv ny cv] 26)) (fun w' hb' x => by
      have hc : w'.cell? ⟨w.heap.size, 0, none⟩ = some (.slice pv ny cv) := (one_at (t := 26) ((hb'.block _ (by simp)).trans (heap_alloc_new w _))).1
      exact within1_any w.heap.size ys (.slice pv ny cv) x w' hc ((hv.below hb (Nat.le_refl _)).below hb' (Nat.le_refl _)) hy) (hu.below hb (Nat.le_refl _)) hx)
  unfold Gives at HC
  have hpb : partB xs ys = !(xs.any fun x => !decide (x ∈ ys)) := by
    unfold partB
    rw [Bool.eq_iff_iff]
    simp [List.all_eq_true]
  have HPB := Lib.hid hpb
  obtain ⟨r, hr⟩ : ∃ r, (xs.any fun x => !decide (x ∈ ys)) = r := ⟨_, rfl⟩
  rw [hr] at HC HPB
  clear hb hu hv hx hy hpb hr
  rw [HPB.out]
  go_enter Tryz.func80, Tryz.ntmps80
  go_wp2_with fail
  refine HC.out.mono ?_
  rintro e w1 ⟨rfl, hb1⟩
  have HB1 := Lib.hid (HB.out.trans (hb1.mono HB.out.size))
  clear hb1
  go_wp2_with fail
  go_ret
  exact ⟨rfl, HB1.out⟩
end Go.Proofs.YtipblphfjejpbaaGreatDoor
