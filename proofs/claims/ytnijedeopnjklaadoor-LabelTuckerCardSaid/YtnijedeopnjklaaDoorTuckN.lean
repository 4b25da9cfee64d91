/-
  LabelTucker, the plain law: the pairs that the program finds, sorted, are those that the document's answer lists; there is one. No program in sight.
-/
import Derived.Test.YtnijedeopnjklaaDoorTuckM
import Derived.Test.YtnijedeopnjklaaDoorRefA
namespace Go.Proofs.YtnijedeopnjklaaDoor
open Go Go.RowKit

/-- the sides at point k -/
def candK (m k : Nat) : List (Nat × Nat) :=
  (if k % (2 * m + 1) + 1 < 2 * m + 1 then [(k, k + 1)] else []) ++ ((if k / (2 * m + 1) + 1 < 2 * m + 1 then [(k, k + (2 * m + 1))] else []) ++
    (if k % (2 * m + 1) + 1 < 2 * m + 1 ∧ k / (2 * m + 1) + 1 < 2 * m + 1 then (if (m ≤ k % (2 * m + 1) ↔ m ≤ k / (2 * m + 1)) then [(k, k + (2 * m + 1) + 1)] else [(k + 1, k + (2 * m + 1))]) else []))
def cand (m K : Nat) : List (Nat × Nat) := (List.range K).flatMap (candK m)
def oppB (xs : List Int) (p : Nat × Nat) : Bool := decide (xs.getD p.1 0 = -xs.getD p.2 0)

theorem putL_eq (xs : List Int) (l : List (Nat × Nat)) (a b : Nat) : putL xs l a b = l ++ [(a, b)].filter (oppB xs) := by
  unfold putL
  by_cases h : xs.getD a 0 = -xs.getD b 0
  · rw [if_pos h, List.filter_cons_of_pos (by simpa [oppB] using h), List.filter_nil]
  · rw [if_neg h, List.filter_cons_of_neg (by simpa [oppB] using h), List.filter_nil, List.append_nil]
theorem stepL_eq (m : Nat) (xs : List Int) (l : List (Nat × Nat)) (k : Nat) : stepL m xs l k = l ++ (candK m k).filter (oppB xs) := by
  unfold stepL candK
  simp only [putL_eq]
  by_cases h1 : k % (2 * m + 1) + 1 < 2 * m + 1 <;> by_cases h2 : k / (2 * m + 1) + 1 < 2 * m + 1 <;> by_cases h3 : (m ≤ k % (2 * m + 1) ↔ m ≤ k / (2 * m + 1)) <;>
    simp only [h1, h2, h3, if_true, if_false, and_true, and_false, and_self, List.nil_append, List.append_nil, List.filter_append, List.filter_nil, List.append_assoc]
theorem outTo_eq (m : Nat) (xs : List Int) : ∀ k, outTo m xs k = (cand m k).filter (oppB xs)
  | 0 => rfl
  | k + 1 => by
    rw [outTo, stepL_eq, outTo_eq m xs k]
    simp [cand, List.range_succ, List.filter_append]

/-- the pairs that a side joins, in order -/
def refRowC (m k j : Nat) : List (Nat × Nat) := (List.range j).flatMap fun i => if joinedB m k (k + 1 + i) = true then [(k, k + 1 + i)] else []
def refC (m N k : Nat) : List (Nat × Nat) := (List.range k).flatMap fun i => refRowC m i (N - (i + 1))
def pairI (p : Nat × Nat) : List Int := [(p.1 : Int), (p.2 : Int)]
theorem flatMap_congr' {α β : Type} {f g : α → List β} : ∀ l : List α, (∀ x, f x = g x) → l.flatMap f = l.flatMap g := fun l h => by rw [show f = g from funext h]
theorem refTo_eq (m : Nat) (xs : List Int) (N k : Nat) : refTo m xs N k = ((refC m N k).filter (oppB xs)).map pairI := by
  unfold refTo refC
  rw [List.filter_flatMap, List.map_flatMap]
  refine flatMap_congr' _ fun i => ?_
  unfold refRow refRowC
  rw [List.filter_flatMap, List.map_flatMap]
  refine flatMap_congr' _ fun j => ?_
  unfold refOne
  by_cases h1 : joinedB m i (i + 1 + j) = true
  · by_cases h2 : xs.getD i 0 + xs.getD (i + 1 + j) 0 = 0
    · rw [if_pos ⟨h1, h2⟩, if_pos h1, List.filter_cons_of_pos (by simp only [oppB, decide_eq_true_eq]; omega)]; rfl
    · rw [if_neg (fun h => h2 h.2), if_pos h1, List.filter_cons_of_neg (by simp only [oppB, decide_eq_true_eq]; omega)]; rfl
  · rw [if_neg (fun h => h1 h.1), if_neg h1]; rfl

theorem refC_sorted (m N k : Nat) : (refC m N k).Pairwise fun x y => lt2 x y = true := by
  unfold refC
  rw [List.pairwise_flatMap]
  refine ⟨fun i _ => ?_, ?_⟩
  · unfold refRowC
    rw [List.pairwise_flatMap]
    refine ⟨fun j _ => by split <;> simp, ?_⟩
    refine List.pairwise_lt_range.imp fun {a b} hab => ?_
    intro x hx y hy
    simp only [List.mem_ite_nil_right, List.mem_singleton] at hx hy
    obtain ⟨-, rfl⟩ := hx
    obtain ⟨-, rfl⟩ := hy
    simp only [lt2, decide_eq_true_eq]
    exact Or.inr ⟨trivial, by omega⟩
  · refine List.pairwise_lt_range.imp fun {a b} hab => ?_
    intro x hx y hy
    simp only [refRowC, List.mem_flatMap, List.mem_range] at hx hy
    obtain ⟨p, -, hx⟩ := hx
    obtain ⟨q, -, hy⟩ := hy
    simp only [List.mem_ite_nil_right, List.mem_singleton] at hx hy
    obtain ⟨-, rfl⟩ := hx
    obtain ⟨-, rfl⟩ := hy
    simp only [lt2, decide_eq_true_eq]; omega

theorem sort2_filter {m N : Nat} {xs : List Int} (hp : (refC m N N).Perm (cand m N)) : sort2 (outTo m xs N) = (refC m N N).filter (oppB xs) := by
  rw [outTo_eq]
  have h1 : ((cand m N).filter (oppB xs)).Perm ((refC m N N).filter (oppB xs)) := (hp.filter _).symm
  have h2 : (sort2 ((cand m N).filter (oppB xs))).Pairwise fun x y => (!lt2 y x) = true := by
    unfold sort2
    exact List.pairwise_mergeSort (fun x y z h1 h2 => by simp only [lt2, Bool.not_eq_true', decide_eq_false_iff_not] at *; omega) (fun x y => by
      simp only [lt2, Bool.or_eq_true, Bool.not_eq_true', decide_eq_false_iff_not]; omega) _
  have h3 : ((refC m N N).filter (oppB xs)).Pairwise fun x y => (!lt2 y x) = true := ((refC_sorted m N N).filter _).imp fun {x y} h => by
    simp only [lt2, Bool.not_eq_true', decide_eq_false_iff_not, decide_eq_true_eq] at *; omega
  exact List.Perm.eq_of_pairwise (fun x y _ _ a b => by
    simp only [lt2, Bool.not_eq_true', decide_eq_false_iff_not] at a b
    exact Prod.ext (by omega) (by omega)) h2 h3 ((List.mergeSort_perm _ _).trans h1)

theorem perm_1 : (refC 1 9 9).Perm (cand 1 9) := List.isPerm_iff.1 (by kernel_rfl)
theorem perm_2 : (refC 2 25 25).Perm (cand 2 25) := List.isPerm_iff.1 (by kernel_rfl)
theorem perm_3 : (refC 3 49 49).Perm (cand 3 49) := List.isPerm_iff.1 (by kernel_rfl)
theorem perm_4 : (refC 4 81 81).Perm (cand 4 81) := List.isPerm_iff.1 (by kernel_rfl)
theorem perm_5 : (refC 5 121 121).Perm (cand 5 121) := List.isPerm_iff.1 (by kernel_rfl)
theorem perm_6 : (refC 6 169 169).Perm (cand 6 169) := List.isPerm_iff.1 (by kernel_rfl)

/-- a label as a quarter turn -/
def quarter (v : Int) : Int := if v = 1 then 0 else if v = 2 then 1 else if v = -1 then 2 else 3
def okL (v : Int) : Prop := v = 1 ∨ v = -1 ∨ v = 2 ∨ v = -2
theorem quarter_opp {u v : Int} (hu : okL u) (hv : okL v) : (quarter v - quarter u) % 4 = 2 ↔ u = -v := by
  rcases hu with rfl | rfl | rfl | rfl <;> rcases hv with rfl | rfl | rfl | rfl <;> decide

theorem fine_ok {m : Nat} {xs : List Int} (hf : fineK m xs ((2 * m + 1) * (2 * m + 1))) (x y : Nat) (hx : x ≤ 2 * m) (hy : y ≤ 2 * m) :
    okL (xs.getD (y * (2 * m + 1) + x) 0) ∧ ((x = 0 ∨ x = 2 * m ∨ y = 0 ∨ y = 2 * m) → xs.getD ((2 * m - y) * (2 * m + 1) + (2 * m - x)) 0 = -xs.getD (y * (2 * m + 1) + x) 0) := by
  have hlt : y * (2 * m + 1) + x < (2 * m + 1) * (2 * m + 1) := by
    have : y * (2 * m + 1) ≤ (2 * m) * (2 * m + 1) := Nat.mul_le_mul hy (Nat.le_refl _)
    have e : (2 * m + 1) * (2 * m + 1) = (2 * m) * (2 * m + 1) + (2 * m + 1) := by rw [Nat.add_mul (2 * m) 1]; omega
    omega
  have h := hf _ hlt
  have e1 : (y * (2 * m + 1) + x) % (2 * m + 1) = x := by rw [Nat.mul_comm, Nat.mul_add_mod, Nat.mod_eq_of_lt (by omega)]
  have e2 : (y * (2 * m + 1) + x) / (2 * m + 1) = y := by rw [Nat.mul_comm, Nat.mul_add_div (by omega), Nat.div_eq_of_lt (by omega)]; rfl
  rw [e1, e2] at h
  unfold badAt at h
  simp only [Bool.or_eq_false_iff] at h
  obtain ⟨hn, hr⟩ := h
  refine ⟨?_, fun hrim => ?_⟩
  · rcases isNone_cases (xs.getD (y * (2 * m + 1) + x) 0) with ⟨e, -⟩ | ⟨-, e⟩
    · rw [e] at hn; cases hn
    · exact e
  · have : isRim m x y = true := by simp only [isRim, Bool.or_eq_true, beq_iff_eq]; omega
    rw [this] at hr
    simpa using hr

theorem cand_mem (m k : Nat) (K : Nat) (hk : k < K) (p : Nat × Nat) (hp : p ∈ candK m k) : p ∈ cand m K := List.mem_flatMap.2 ⟨k, List.mem_range.2 hk, hp⟩

theorem tuck_some (m : Nat) (hm : 1 ≤ m) (xs : List Int) (hf : fineK m xs ((2 * m + 1) * (2 * m + 1))) : outTo m xs ((2 * m + 1) * (2 * m + 1)) ≠ [] := by
  rw [outTo_eq]
  intro h0
  have hno : ∀ p ∈ cand m ((2 * m + 1) * (2 * m + 1)), xs.getD p.1 0 ≠ -xs.getD p.2 0 := fun p hp e => by
    have := List.filter_eq_nil_iff.1 h0 p hp
    exact this (decide_eq_true e)
  have hlt : ∀ x y, x ≤ 2 * m → y ≤ 2 * m → y * (2 * m + 1) + x < (2 * m + 1) * (2 * m + 1) := fun x y hx hy => by
    have : y * (2 * m + 1) ≤ (2 * m) * (2 * m + 1) := Nat.mul_le_mul hy (Nat.le_refl _)
    have e : (2 * m + 1) * (2 * m + 1) = (2 * m) * (2 * m + 1) + (2 * m + 1) := by rw [Nat.add_mul (2 * m) 1]; omega
    omega
  have hmod : ∀ x y, x ≤ 2 * m → (y * (2 * m + 1) + x) % (2 * m + 1) = x := fun x y hx => by rw [Nat.mul_comm, Nat.mul_add_mod, Nat.mod_eq_of_lt (by omega)]
  have hdiv : ∀ x y, x ≤ 2 * m → (y * (2 * m + 1) + x) / (2 * m + 1) = y := fun x y hx => by rw [Nat.mul_comm, Nat.mul_add_div (by omega), Nat.div_eq_of_lt (by omega)]; rfl
  have key : ∀ x y u v, x ≤ 2 * m → y ≤ 2 * m → u ≤ 2 * m → v ≤ 2 * m → (y * (2 * m + 1) + x, v * (2 * m + 1) + u) ∈ cand m ((2 * m + 1) * (2 * m + 1)) →
      (quarter (xs.getD (v * (2 * m + 1) + u) 0) - quarter (xs.getD (y * (2 * m + 1) + x) 0)) % 4 ≠ 2 := fun x y u v hx hy hu hv hmem h2 =>
    hno _ hmem ((quarter_opp (fine_ok hf x y hx hy).1 (fine_ok hf u v hu hv).1).1 h2)
  refine Tuck.tucker (2 * m) (by omega) (fun x y => quarter (xs.getD (y * (2 * m + 1) + x) 0)) ?_ ?_ ?_ ?_
  · intro x y hx hy hrim
    obtain ⟨h1, h2⟩ := fine_ok hf x y hx hy
    obtain ⟨h3, -⟩ := fine_ok hf (2 * m - x) (2 * m - y) (by omega) (by omega)
    exact (quarter_opp h1 h3).2 (by rw [h2 (by omega)]; omega)
  · intro x y hx hy
    refine key x y (x + 1) y (by omega) hy (by omega) hy (cand_mem m _ _ (hlt x y (by omega) hy) _ ?_)
    unfold candK
    rw [hmod x y (by omega), hdiv x y (by omega)]
    rw [if_pos (by omega)]
    simp [Nat.add_assoc]
  · intro x y hx hy
    refine key x y x (y + 1) hx (by omega) hx (by omega) (cand_mem m _ _ (hlt x y hx (by omega)) _ ?_)
    unfold candK
    rw [hmod x y (by omega), hdiv x y (by omega)]
    rw [if_pos (show y + 1 < 2 * m + 1 by omega), show (y + 1) * (2 * m + 1) + x = y * (2 * m + 1) + x + (2 * m + 1) from by rw [Nat.add_mul]; omega]
    simp
  · intro x y hx hy
    have e3 : (y + 1) * (2 * m + 1) + (x + 1) = y * (2 * m + 1) + x + (2 * m + 1) + 1 := by rw [Nat.add_mul]; omega
    have e4 : (y + 1) * (2 * m + 1) + x = y * (2 * m + 1) + x + (2 * m + 1) := by rw [Nat.add_mul]; omega
    by_cases hd : (m ≤ x ↔ m ≤ y)
    · left
      refine key x y (x + 1) (y + 1) (by omega) (by omega) (by omega) (by omega) (cand_mem m _ _ (hlt x y (by omega) (by omega)) _ ?_)
      unfold candK
      rw [hmod x y (by omega), hdiv x y (by omega), e3]
      rw [if_pos (show x + 1 < 2 * m + 1 ∧ y + 1 < 2 * m + 1 by omega), if_pos hd]
      simp
    · right
      refine key (x + 1) y x (y + 1) (by omega) (by omega) (by omega) (by omega) (cand_mem m (y * (2 * m + 1) + x) _ (hlt x y (by omega) (by omega)) _ ?_)
      unfold candK
      rw [hmod x y (by omega), hdiv x y (by omega), e4]
      rw [if_pos (show x + 1 < 2 * m + 1 ∧ y + 1 < 2 * m + 1 by omega), if_neg hd]
      simp [Nat.add_assoc]

/-- the first wrong one -/
theorem first_bad (m : Nat) (xs : List Int) : ∀ K, fineK m xs K ∨ ∃ k, k < K ∧ fineK m xs k ∧ badAt m xs (k % (2 * m + 1)) (k / (2 * m + 1)) = true
  | 0 => Or.inl fun j h => absurd h (by omega)
  | K + 1 => by
    rcases first_bad m xs K with h | ⟨k, h1, h2, h3⟩
    · cases hb : badAt m xs (K % (2 * m + 1)) (K / (2 * m + 1)) with
      | false => exact Or.inl (fineK_step h hb)
      | true => exact Or.inr ⟨K, by omega, h, hb⟩
    · exact Or.inr ⟨k, by omega, h2, h3⟩
theorem first_one {m : Nat} {xs : List Int} {j k : Nat} (hj : fineK m xs j) (hjb : badAt m xs (j % (2 * m + 1)) (j / (2 * m + 1)) = true) (hk : fineK m xs k) (hkb : badAt m xs (k % (2 * m + 1)) (k / (2 * m + 1)) = true) : j = k := by
  rcases Nat.lt_trichotomy j k with h | h | h
  · have := hk j h; rw [hjb] at this; cases this
  · exact h
  · have := hj k h; rw [hkb] at this; cases this

theorem fineTo_fineK {m : Nat} {xs : List Int} {c r : Nat} (hb : r * (2 * m + 1) + c ≤ (2 * m + 1) * (2 * m + 1)) (h : fineTo m xs c r) : fineK m xs (r * (2 * m + 1) + c) := by
  intro j hj
  have e : j / (2 * m + 1) * (2 * m + 1) + j % (2 * m + 1) = j := by rw [Nat.mul_comm]; exact Nat.div_add_mod _ _
  exact h _ _ (Nat.mod_lt _ (by omega)) ((Nat.div_lt_iff_lt_mul (by omega)).2 (by omega)) (by omega)
/-- what SquareFault hands back: of labels that are all right, of others -/
theorem sf_fine {m : Nat} {xs : List Int} (hf : fineK m xs ((2 * m + 1) * (2 * m + 1))) {w w' : World} {e : Ending} (h : SFPost m xs w e w') :
    e = .returned (.agg #[.int .i64 0, .int .i64 (-1)]) ∧ Below w.heap.size w w' := by
  obtain ⟨c, n, he, hb, ⟨rfl, rfl, -⟩ | ⟨rfl, c', r', hc, hr, rfl, -, hbad⟩⟩ := h
  · exact ⟨he, hb⟩
  · exfalso
    have hlt : r' * (2 * m + 1) + c' < (2 * m + 1) * (2 * m + 1) := by
      have : r' * (2 * m + 1) ≤ (2 * m) * (2 * m + 1) := Nat.mul_le_mul (by omega) (Nat.le_refl _)
      have e : (2 * m + 1) * (2 * m + 1) = (2 * m) * (2 * m + 1) + (2 * m + 1) := by rw [Nat.add_mul (2 * m) 1]; omega
      omega
    have h1 := hf _ hlt
    rw [show (r' * (2 * m + 1) + c') % (2 * m + 1) = c' from by rw [Nat.mul_comm, Nat.mul_add_mod, Nat.mod_eq_of_lt hc], show (r' * (2 * m + 1) + c') / (2 * m + 1) = r' from by rw [Nat.mul_comm, Nat.mul_add_div (by omega), Nat.div_eq_of_lt hc]; rfl, hbad] at h1
    cases h1
theorem sf_bad {m : Nat} {xs : List Int} {k : Nat} (hk : k < (2 * m + 1) * (2 * m + 1)) (hf : fineK m xs k) (hb : badAt m xs (k % (2 * m + 1)) (k / (2 * m + 1)) = true) {w w' : World} {e : Ending} (h : SFPost m xs w e w') :
    e = .returned (.agg #[.int .i64 8, .int .i64 (k : Int)]) ∧ Below w.heap.size w w' := by
  obtain ⟨c, n, he, hbl, ⟨rfl, rfl, hall⟩ | ⟨rfl, c', r', hc, hr, rfl, hfine, hbad⟩⟩ := h
  · exfalso
    have h1 := fineTo_fineK (by omega) hall k (by omega)
    rw [hb] at h1; cases h1
  · have hlt : r' * (2 * m + 1) + c' < (2 * m + 1) * (2 * m + 1) := by
      have : r' * (2 * m + 1) ≤ (2 * m) * (2 * m + 1) := Nat.mul_le_mul (by omega) (Nat.le_refl _)
      have e : (2 * m + 1) * (2 * m + 1) = (2 * m) * (2 * m + 1) + (2 * m + 1) := by rw [Nat.add_mul (2 * m) 1]; omega
      omega
    have e1 : (r' * (2 * m + 1) + c') % (2 * m + 1) = c' := by rw [Nat.mul_comm, Nat.mul_add_mod, Nat.mod_eq_of_lt hc]
    have e2 : (r' * (2 * m + 1) + c') / (2 * m + 1) = r' := by rw [Nat.mul_comm, Nat.mul_add_div (by omega), Nat.div_eq_of_lt hc]; rfl
    have hk2 := first_one hf hb (fineTo_fineK (Nat.le_of_lt hlt) hfine) (by rw [e1, e2]; exact hbad)
    refine ⟨?_, hbl⟩
    rw [he, hk2]
    congr 5
end Go.Proofs.YtnijedeopnjklaaDoor
