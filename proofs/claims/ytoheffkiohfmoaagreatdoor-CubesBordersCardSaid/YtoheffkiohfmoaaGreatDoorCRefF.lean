/-
  The references' Made and ComplexError, the law's Few and Little by contracts.
-/
import Derived.Test.YtoheffkiohfmoaaGreatDoorCRefE
namespace Go.Proofs.YtoheffkiohfmoaaGreatDoor
open Go Go.RowKit

/-- the complex that sets make -/
def madeF (L : List (List Int)) : List (List Int) := facetsF (allF L)
theorem mem_facets {A : List (List Int)} {f : List Int} (h : f ∈ facetsF A) : f ∈ A := (List.mem_filter.1 h).1
theorem made_len {L : List (List Int)} (h : errC L = 0) : (madeF L).length ≤ 600 := Nat.le_trans (List.length_filter_le _ _) (errC_ok h).2.2
theorem allF_bd {L : List (List Int)} (h : errC L = 0) : ∀ g ∈ allF L, g.length ≤ 7 := fun _ hg => isF_len (errC_ok h).2.1 (mem_allF.1 hg)
theorem made_bd {L : List (List Int)} (h : errC L = 0) : ∀ g ∈ madeF L, g.length ≤ 7 := fun g hg => allF_bd h g (mem_facets hg)

def MadePost (B : Nat) (L : List (List Int)) (w : World) (e : Ending) (w' : World) : Prop :=
  ∃ v, e = .returned (.tuple #[v, .int .i64 (errC L : Int)]) ∧ Below w.heap.size w w' ∧ (errC L = 0 → ListsIn B w' v (madeF L)) ∧ (errC L ≠ 0 → v = .slice none 0 0)

set_option maxHeartbeats 4000000 in
theorem made_any (B : Nat) (L : List (List Int)) (v : Value) (w : World) (hB : B ≤ w.heap.size) (hv : ListsIn B w v L) (hn : L.length ≤ 100000) (hl : ∀ l ∈ L, l.length ≤ 100000) :
    Calls Tryz.prog 21 #[v] w (MadePost B L w) := by
  have HC := Lib.hid (closed_any B L v w hB hv hn hl)
  have HB := Lib.hid hB
  have HE := Lib.hid (errC_cases L)
  have HA := Lib.hid (fun h => (errC_ok (L := L) h).2.2)
  have HA2 := Lib.hid (fun h => allF_bd (L := L) h)
  clear hB hv hn hl
  unfold ClosedPost at HC
  obtain ⟨c, hc⟩ : ∃ c, errC L = c := ⟨_, rfl⟩
  have HEC := Lib.hid hc
  rw [hc] at HC HE
  clear hc
  rcases Nat.eq_zero_or_pos c with rfl | hp
  · go_enter Tryz.func21, Tryz.ntmps21
    go_wp2_with fail
    refine HC.out.mono ?_
    rintro e w1 ⟨v1, rfl, hb1, hl1, -⟩
    have HB1 := Lib.hid hb1
    have HF := Lib.hid (facets_any B (allF L) v1 w1 (Nat.le_trans HB.out hb1.size) (hl1 (by first | rfl | trivial)) (Nat.le_trans (HA.out HEC.out) (by decide)) (fun l h => Nat.le_trans (HA2.out HEC.out l h) (by decide)))
    clear hb1 hl1
    go_wp2_with fail
    refine HF.out.mono ?_
    rintro e w2 ⟨v2, rfl, hb2, hr2⟩
    have HB2 := Lib.hid (HB1.out.trans (hb2.mono HB1.out.size))
    have HR2 := Lib.hid hr2.lists
    clear hb2 hr2
    go_wp2_with fail
    go_ret2
    exact ⟨_, ret_vi (by rw [HEC.out]; rfl), HB2.out, fun _ => HR2.out, fun h => absurd HEC.out h⟩
  · have q : decide (0 < (c : Int)) = true := decide_eq_true (by omega)
    have q2 : decide (0 < c) = true := decide_eq_true hp
    go_enter Tryz.func21, Tryz.ntmps21
    go_wp2_with fail
    refine HC.out.mono ?_
    rintro e w1 ⟨v1, rfl, hb1, -, -⟩
    have HB1 := Lib.hid hb1
    clear hb1
    go_wp2_with fail
    go_ret2
    exact ⟨_, ret_vi (by rw [HEC.out]), HB1.out, fun h => absurd (HEC.out.symm.trans h) (by omega), fun _ => rfl⟩

/-- what is wrong with facets -/
noncomputable def errX (L : List (List Int)) : Nat := if errC L = 0 then (if L = madeF L then 0 else 3) else errC L
theorem errX_cases (L : List (List Int)) : errX L = 0 ∨ errX L = 2 ∨ errX L = 3 ∨ errX L = 4 := by
  unfold errX
  rcases errC_cases L with h | h | h <;> rw [h]
  · by_cases h2 : L = madeF L
    · exact Or.inl ((if_pos rfl).trans (if_pos h2))
    · exact Or.inr (Or.inr (Or.inl ((if_pos rfl).trans (if_neg h2))))
  · exact Or.inr (Or.inl (if_neg (by decide)))
  · exact Or.inr (Or.inr (Or.inr (if_neg (by decide))))
theorem errX_ok {L : List (List Int)} (h : errX L = 0) : errC L = 0 ∧ L = madeF L := by
  unfold errX at h
  by_cases h1 : errC L = 0
  · rw [if_pos h1] at h
    by_cases h2 : L = madeF L
    · exact ⟨h1, h2⟩
    · rw [if_neg h2] at h; cases h
  · rw [if_neg h1] at h; exact absurd h h1
theorem ret_i {a b : Int} (h : a = b) : Ending.returned (.int .i64 a) = .returned (.int .i64 b) := by rw [h]

set_option maxHeartbeats 4000000 in
theorem complexError_any (L : List (List Int)) (v : Value) (w : World) (hv : ListsIn w.heap.size w v L) (hn : L.length ≤ 100000) (hl : ∀ l ∈ L, l.length ≤ 100000) :
    Calls Tryz.prog 8 #[v] w (Gives (.int .i64 (errX L : Int)) w) := by
  have HC := Lib.hid (made_any w.heap.size L v w (Nat.le_refl _) hv hn hl)
  have HV := Lib.hid hv
  have HN := Lib.hid hn
  have HL := Lib.hid hl
  clear hv hn hl
  unfold MadePost at HC
  obtain ⟨c, hc⟩ : ∃ c, errC L = c := ⟨_, rfl⟩
  have HEC := Lib.hid hc
  rw [hc] at HC
  clear hc
  rcases Nat.eq_zero_or_pos c with rfl | hp
  · by_cases hs : L = madeF L
    · have HX : Hid (errX L = 0) := by unfold Hid errX; rw [if_pos HEC.out, if_pos hs]
      have HSL := Lib.hid (decide_eq_true hs)
      clear hs
      go_enter Tryz.func8, Tryz.ntmps8
      go_wp2_with fail
      refine HC.out.mono ?_
      rintro e w1 ⟨v1, rfl, hb1, hl1, -⟩
      have HB1 := Lib.hid hb1
      have HF := Lib.hid (sameLists_any true w.heap.size w.heap.size L (madeF L) v v1 w1 HSL.out.symm (HV.out.below hb1 (Nat.le_refl _)) (hl1 (by first | rfl | trivial)) HN.out (Nat.le_trans (made_len HEC.out) (by decide)) HL.out (fun l h => Nat.le_trans (made_bd HEC.out l h) (by decide)))
      clear hb1 hl1
      go_wp2_with fail
      refine HF.out.mono ?_
      rintro e w2 ⟨rfl, z, rfl⟩
      go_wp2_with fail
      go_ret
      exact ⟨ret_i (by rw [HX.out]; rfl), HB1.out.trans ((Below.drewN w1 z).mono HB1.out.size)⟩
    · have HX : Hid (errX L = 3) := by unfold Hid errX; rw [if_pos HEC.out, if_neg hs]
      have HSL := Lib.hid (decide_eq_false hs)
      clear hs
      go_enter Tryz.func8, Tryz.ntmps8
      go_wp2_with fail
      refine HC.out.mono ?_
      rintro e w1 ⟨v1, rfl, hb1, hl1, -⟩
      have HB1 := Lib.hid hb1
      have HF := Lib.hid (sameLists_any false w.heap.size w.heap.size L (madeF L) v v1 w1 HSL.out.symm (HV.out.below hb1 (Nat.le_refl _)) (hl1 (by first | rfl | trivial)) HN.out (Nat.le_trans (made_len HEC.out) (by decide)) HL.out (fun l h => Nat.le_trans (made_bd HEC.out l h) (by decide)))
      clear hb1 hl1
      go_wp2_with fail
      refine HF.out.mono ?_
      rintro e w2 ⟨rfl, z, rfl⟩
      go_wp2_with fail
      go_ret
      exact ⟨ret_i (by rw [HX.out]; rfl), HB1.out.trans ((Below.drewN w1 z).mono HB1.out.size)⟩
  · have HX : Hid (errX L = c) := by unfold Hid errX; rw [if_neg (by rw [HEC.out]; omega), HEC.out]
    have q : decide (0 < (c : Int)) = true := decide_eq_true (by omega)
    have q2 : decide (0 < c) = true := decide_eq_true hp
    go_enter Tryz.func8, Tryz.ntmps8
    go_wp2_with fail
    refine HC.out.mono ?_
    rintro e w1 ⟨v1, rfl, hb1, -, -⟩
    have HB1 := Lib.hid hb1
    clear hb1
    go_wp2_with fail
    go_ret
    exact ⟨ret_i (by rw [HX.out]), HB1.out⟩

/-- are sets those of which something is said? -/
def sumL (L : List (List Int)) : Nat := (L.map List.length).sum
def fewB (L : List (List Int)) : Bool := decide (L.length ≤ 40) && (L.all fun l => decide (l.length ≤ 12)) && decide (sumL L ≤ 160)
theorem sumL_snoc (L : List (List Int)) (l : List Int) : sumL (L ++ [l]) = sumL L + l.length := by unfold sumL; rw [List.map_append, List.sum_append]; simp
theorem fewB_ok {L : List (List Int)} (h : fewB L = true) : L.length ≤ 40 ∧ ∀ l ∈ L, l.length ≤ 12 := by
  unfold fewB at h
  simp only [Bool.and_eq_true, decide_eq_true_eq] at h
  exact ⟨h.1.1, fun l hl => by simpa using List.all_eq_true.1 h.1.2 l hl⟩

set_option maxHeartbeats 4000000 in
theorem few_any (B : Nat) (L : List (List Int)) (v : Value) (w : World) (hv : ListsIn B w v L) :
    Calls Tryz.prog 40 #[v] w (Same (.bool (fewB L)) w) := by
  obtain ⟨pv, cv, hve, -⟩ := id hv
  obtain ⟨n, hLn⟩ : ∃ n, L.length = n := ⟨_, rfl⟩
  rw [hLn] at hve
  subst hve
  obtain ⟨r, hr⟩ : ∃ r, fewB L = r := ⟨_, rfl⟩
  rw [hr]
  have HR := Lib.hid hr
  have HN := Lib.hid hLn
  have HV := Lib.hid hv
  clear hr hLn hv
  by_cases h40 : 40 < n
  · have HF : Hid (r = false) := by
      unfold Hid
      rw [← HR.out]; unfold fewB
      rw [decide_eq_false (by rw [HN.out]; omega)]; rfl
    have q1 : decide (40 < (n : Int)) = true := decide_eq_true (by omega)
    have q2 : decide (40 < n) = true := decide_eq_true h40
    clear h40
    go_enter Tryz.func40, Tryz.ntmps40
    go_wp2_with fail
    go_ret
    exact ⟨ret_bool HF.out.symm, rfl⟩
  · have hn40 : n ≤ 40 := by omega
    have q1 : decide (40 < (n : Int)) = false := decide_eq_false (by omega)
    have q2 : decide (40 < n) = false := decide_eq_false h40
    clear h40
    go_enter Tryz.func40, Tryz.ntmps40
    go_wp2_with fail
    go_loop [3, 4] (fun s i => ∃ k : Nat, k ≤ n ∧ i = .int .i64 k ∧ s = .int .i64 ((sumL (L.take k) : Nat) : Int) ∧ (∀ q, q < k → (L.getD q []).length ≤ 12) ∧ sumL (L.take k) ≤ 12 * k) (fun _ i => n - (intOf i).toNat)
    case atStart => exact ⟨0, Nat.zero_le _, rfl, rfl, fun q h => absurd h (by omega), Nat.le_refl _⟩
    case round =>
      obtain ⟨k, hk, rfl, rfl, h12, hsum⟩ := hrel
      have H12 := Lib.hid h12
      clear h12
      by_cases hkn : k < n
      · have hkL : k < L.length := by rw [HN.out]; exact hkn
        obtain ⟨b, off, c, e⟩ := HV.out.form (by omega)
        rw [HN.out] at e
        obtain ⟨rfl, rfl⟩ : pv = some ⟨b, off, none⟩ ∧ cv = c := by cases e; exact ⟨rfl, rfl⟩
        obtain ⟨p, d, hc, -⟩ := cells_at HV.out k hkL
        have HST := Lib.hid (show sumL (L.take (k + 1)) = sumL (L.take k) + (L.getD k []).length by rw [take_snoc_getD [] L k hkL, sumL_snoc])
        have HMEM := Lib.hid (getL_mem hkL)
        by_cases h13 : 12 < (L.getD k []).length
        · have HF : Hid (r = false) := by
            unfold Hid
            rw [← HR.out, Bool.eq_false_iff]
            intro h
            have := (fewB_ok h).2 _ HMEM.out
            omega
          obtain ⟨x, hx⟩ : ∃ x, (L.getD k []).length = x := ⟨_, rfl⟩
          rw [hx] at hc h13
          have q3 : decide (12 < (x : Int)) = true := decide_eq_true (by omega)
          have q4 : decide (12 < x) = true := decide_eq_true h13
          clear h13 hx hkL e
          go_wp2_with fail
          go_ret
          exact ⟨ret_bool HF.out.symm, rfl⟩
        · have H12' : Hid (∀ q, q < k + 1 → (L.getD q []).length ≤ 12) := fun q hq => by
            rcases (show q < k ∨ q = k by omega) with h | rfl
            · exact H12.out q h
            · omega
          obtain ⟨x, hx⟩ : ∃ x, (L.getD k []).length = x := ⟨_, rfl⟩
          rw [hx] at hc h13 HST
          have q3 : decide (12 < (x : Int)) = false := decide_eq_false (by omega)
          have q4 : decide (12 < x) = false := decide_eq_false h13
          have hx12 : x ≤ 12 := by omega
          obtain ⟨s, hs⟩ : ∃ s, sumL (L.take k) = s := ⟨_, rfl⟩
          rw [hs] at hsum HST ⊢
          clear h13 hx hkL e hs
          go_wp2_with fail
          go_round
          case rel => exact ⟨k + 1, by omega, by go_num, by rw [HST.out]; go_num, H12'.out, by rw [HST.out]; omega⟩
          case measure => simp [intOf]; omega
      · obtain rfl : k = n := by omega
        have hall : (L.all fun l => decide (l.length ≤ 12)) = true := List.all_eq_true.2 fun l hl => by
          obtain ⟨q, hq, rfl⟩ := List.getElem_of_mem hl
          have := H12.out q (by rw [← HN.out]; exact hq)
          rw [List.getD_eq_getElem?_getD, List.getElem?_eq_getElem hq] at this
          exact decide_eq_true this
        have HF : Hid (decide (sumL (L.take k) ≤ 160) = r) := by
          unfold Hid
          rw [← HR.out, List.take_of_length_le (by rw [HN.out]; exact Nat.le_refl _)]
          unfold fewB
          rw [hall, decide_eq_true (show L.length ≤ 40 by rw [HN.out]; exact hn40)]; rfl
        obtain ⟨s, hs⟩ : ∃ s, sumL (L.take k) = s := ⟨_, rfl⟩
        rw [hs] at HF hsum ⊢
        have HQ : Hid (decide ((s : Int) ≤ 160) = r) := by
          unfold Hid
          rw [← HF.out]
          by_cases h : s ≤ 160
          · rw [decide_eq_true h, decide_eq_true (by omega)]
          · rw [decide_eq_false h, decide_eq_false (by omega)]
        clear hall hs
        by_cases h160 : s ≤ 160
        · have q3 : decide ((s : Int) ≤ 160) = true := decide_eq_true (by omega)
          have q4 : decide (s ≤ 160) = true := decide_eq_true h160
          have HT : Hid (true = r) := by unfold Hid; rw [← HQ.out, q3]
          clear h160
          go_wp2_with fail
          go_ret
          exact ⟨ret_bool HT.out, rfl⟩
        · have q3 : decide ((s : Int) ≤ 160) = false := decide_eq_false (by omega)
          have q4 : decide (s ≤ 160) = false := decide_eq_false h160
          have HT : Hid (false = r) := by unfold Hid; rw [← HQ.out, q3]
          clear h160
          go_wp2_with fail
          go_ret
          exact ⟨ret_bool HT.out, rfl⟩

/-- have sets at most so many faces, or are they wrong? -/
noncomputable def littleB (L : List (List Int)) (most : Nat) : Bool := fewB L && (decide (0 < errC L) || decide ((allF L).length ≤ most))

set_option maxHeartbeats 4000000 in
theorem little_any (L : List (List Int)) (most : Nat) (v : Value) (w : World) (hv : ListsIn w.heap.size w v L) (hm : most ≤ 1000) :
    Calls Tryz.prog 7 #[v, .int .i64 (most : Int)] w (Gives (.bool (littleB L most)) w) := by
  have HF := Lib.hid (few_any w.heap.size L v w hv)
  obtain ⟨r, hr⟩ : ∃ r, littleB L most = r := ⟨_, rfl⟩
  rw [hr]
  unfold Same at HF
  cases hf : fewB L with
  | false =>
    have HR : Hid (false = r) := by unfold Hid; rw [← hr]; unfold littleB; rw [hf]; rfl
    rw [hf] at HF
    clear hr hf hv
    go_enter Tryz.func7, Tryz.ntmps7
    go_wp2_with fail
    refine HF.out.mono ?_
    rintro e w1 ⟨rfl, rfl⟩
    go_wp2_with fail
    go_ret
    exact ⟨ret_bool HR.out, Below.refl _ _⟩
  | true =>
    obtain ⟨h1, h2⟩ := fewB_ok hf
    have HC := Lib.hid (closed_any w.heap.size L v w (Nat.le_refl _) hv (by omega) (fun l hl => Nat.le_trans (h2 l hl) (by decide)))
    unfold ClosedPost at HC
    have hr2 : (decide (0 < errC L) || decide ((allF L).length ≤ most)) = r := by rw [← hr]; unfold littleB; rw [hf]; rfl
    have HR2 := Lib.hid hr2
    obtain ⟨c, hc⟩ : ∃ c, errC L = c := ⟨_, rfl⟩
    rw [hc] at HC HR2
    rw [hf] at HF
    clear hr hf hv h1 h2 hr2 hc
    rcases Nat.eq_zero_or_pos c with rfl | hp
    · go_enter Tryz.func7, Tryz.ntmps7
      go_wp2_with fail
      refine HF.out.mono ?_
      rintro e w1 ⟨rfl, rfl⟩
      go_wp2_with fail
      refine HC.out.mono ?_
      rintro e w1 ⟨v1, rfl, hb1, hl1, -⟩
      have HB1 := Lib.hid hb1
      obtain ⟨p, d, hv1, -⟩ := hl1 (by first | rfl | trivial)
      obtain ⟨x, hx⟩ : ∃ x, (allF L).length = x := ⟨_, rfl⟩
      rw [hx] at hv1 HR2
      subst hv1
      clear hb1 hl1 hx
      by_cases hxm : x ≤ most
      · have q1 : decide ((x : Int) ≤ (most : Int)) = true := decide_eq_true (by omega)
        have q2 : decide (x ≤ most) = true := decide_eq_true hxm
        have HR3 : Hid (true = r) := by unfold Hid; rw [← HR2.out, q2]; rfl
        clear hxm
        go_wp2_with fail
        go_ret
        exact ⟨ret_bool HR3.out, HB1.out⟩
      · have q1 : decide ((x : Int) ≤ (most : Int)) = false := decide_eq_false (by omega)
        have q2 : decide (x ≤ most) = false := decide_eq_false hxm
        have HR3 : Hid (false = r) := by unfold Hid; rw [← HR2.out, q2]; rfl
        clear hxm
        go_wp2_with fail
        go_ret
        exact ⟨ret_bool HR3.out, HB1.out⟩
    · have q : decide (0 < (c : Int)) = true := decide_eq_true (by omega)
      have q2 : decide (0 < c) = true := decide_eq_true hp
      have HR3 : Hid (true = r) := by unfold Hid; rw [← HR2.out, q2]; rfl
      go_enter Tryz.func7, Tryz.ntmps7
      go_wp2_with fail
      refine HF.out.mono ?_
      rintro e w1 ⟨rfl, rfl⟩
      go_wp2_with fail
      refine HC.out.mono ?_
      rintro e w1 ⟨v1, rfl, hb1, -, -⟩
      have HB1 := Lib.hid hb1
      clear hb1
      go_wp2_with fail
      go_ret
      exact ⟨ret_bool HR3.out, HB1.out⟩
end Go.Proofs.YtoheffkiohfmoaaGreatDoor
