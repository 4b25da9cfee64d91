/-
  All subgroups of an index, plain: a table is filled from its first empty place on; whatever is told is good, each good table is told, in order.
  All subgroups of an index, plain: the document's tables out of orders; they are the tables that are told, in the same order.
-/
import Derived.Test.YtedehmknijlgpaaDoorTcH
import Derived.Test.YtedehmknijlgpaaDoorCelA
set_option linter.unusedVariables false
namespace Go.Proofs.YtedehmknijlgpaaDoor.TC

/-- a table's p-th place -/
def pent (W : Nat) (T : Rows) (p : Nat) : Int := ent T (p / W) (p % W)
/-- the document's Standard, a place at a time: what comes next -/
def stdP (W : Nat) (T : Rows) : Nat → Option Nat
  | 0 => some 1
  | p + 1 => match stdP W T p with
    | none => none
    | some nx => if nx ≤ p / W then none else if (nx : Int) < pent W T p then none else some (if pent W T p = (nx : Int) then nx + 1 else nx)
def Ext (A B : Rows) : Prop := ∀ x k u, ent A x k = ((u : Nat) : Int) → ent B x k = (u : Int)
theorem Ext.refl (A : Rows) : Ext A A := fun _ _ _ h => h
theorem Ext.trans {A B C : Rows} (h : Ext A B) (h' : Ext B C) : Ext A C := fun x k u e => h' x k u (h x k u e)
/-- a place is given, and the one that leads back -/
def stepF (T : Rows) (i k to : Nat) : Rows := setE (setE T i k (to : Int)) to (opp k) (i : Int)
/-- the tables that fill tells; r places are left -/
def fillM (hold : Rows → Bool) (W n : Nat) : Nat → Rows → Nat → List Rows
  | 0, T, met => if met = n then [T] else []
  | r + 1, T, met =>
    if met ≤ (n * W - (r + 1)) / W then []
    else if 0 ≤ pent W T (n * W - (r + 1)) then fillM hold W n r T met
    else (List.range (min (met + 1) n)).flatMap fun to =>
      if 0 ≤ ent T to (opp ((n * W - (r + 1)) % W)) then []
      else if hold (stepF T ((n * W - (r + 1)) / W) ((n * W - (r + 1)) % W) to) = true then fillM hold W n r (stepF T ((n * W - (r + 1)) / W) ((n * W - (r + 1)) % W) to) (max met (to + 1)) else []

theorem stdP_congr {W : Nat} {A B : Rows} : ∀ {p : Nat}, (∀ q, q < p → pent W A q = pent W B q) → stdP W A p = stdP W B p
  | 0, _ => rfl
  | p + 1, h => by
    rw [stdP, stdP, stdP_congr (fun q hq => h q (by omega)), h p (by omega)]
theorem stdP_step {W : Nat} {T : Rows} {p n : Nat} (h : stdP W T (p + 1) = some n) : ∃ n1, stdP W T p = some n1 ∧ p / W < n1 ∧ pent W T p ≤ (n1 : Int) ∧ n = if pent W T p = (n1 : Int) then n1 + 1 else n1 := by
  unfold stdP at h
  cases e : stdP W T p with
  | none => rw [e] at h; cases h
  | some n1 =>
    rw [e] at h
    simp only at h
    split at h
    · cases h
    · rename_i h1
      split at h
      · cases h
      · exact ⟨n1, rfl, by omega, by omega, (Option.some.inj h).symm⟩
theorem stdP_down {W : Nat} {T : Rows} : ∀ {K k n : Nat}, k ≤ K → stdP W T K = some n → ∃ n1, stdP W T k = some n1 ∧ n1 ≤ n
  | 0, k, n, hk, h => by
    obtain rfl : k = 0 := by omega
    exact ⟨n, h, Nat.le_refl _⟩
  | K + 1, k, n, hk, h => by
    rcases Nat.eq_or_lt_of_le hk with rfl | hlt
    · exact ⟨n, h, Nat.le_refl _⟩
    · obtain ⟨n1, h1, -, -, h2⟩ := stdP_step h
      obtain ⟨n2, h3, h4⟩ := stdP_down (show k ≤ K by omega) h1
      refine ⟨n2, h3, ?_⟩
      split at h2 <;> omega

/-- a table of which the first places are filled -/
structure FOk (hold : Rows → Bool) (W n r : Nat) (T : Rows) (met : Nat) : Prop where
  wide : Wide W T
  len : T.length = n
  back : ∀ a k b, ent T a k = ((b : Nat) : Int) → ent T b (opp k) = (a : Int)
  low : ∀ a k b, ent T a k = ((b : Nat) : Int) → b < met
  le : met ≤ n
  full : ∀ p, p < n * W - r → 0 ≤ pent W T p
  std : stdP W T (n * W - r) = some met
  ok : hold T = true
  hr : r ≤ n * W
/-- a table that is told -/
structure FGood (hold : Rows → Bool) (W n : Nat) (T : Rows) : Prop where
  wide : Wide W T
  len : T.length = n
  back : ∀ a k b, ent T a k = ((b : Nat) : Int) → ent T b (opp k) = (a : Int)
  full : ∀ p, p < n * W → 0 ≤ pent W T p
  std : stdP W T (n * W) = some n
  ok : hold T = true

theorem stepF_ent {W n i k to : Nat} {T : Rows} (h : Wide W T) (hl : T.length = n) (hi : i < n) (hk : k < W) (hk2 : opp k < W) (ht : to < n) (y j : Nat) :
    ent (stepF T i k to) y j = if y = to ∧ j = opp k then (i : Int) else if y = i ∧ j = k then (to : Int) else ent T y j := by
  unfold stepF
  have h1 := setE_wide (x := i) (u := to) h (by omega) hk (by omega)
  rw [setE_ent h1 (by rw [setE_len]; omega) hk2, setE_ent h (by omega) hk]
theorem stepF_wide {W n i k to : Nat} {T : Rows} (h : Wide W T) (hl : T.length = n) (hi : i < n) (hk : k < W) (hk2 : opp k < W) (ht : to < n) : Wide W (stepF T i k to) :=
  setE_wide (setE_wide h (by omega) hk (by omega)) (by rw [setE_len]; omega) hk2 (by rw [setE_len]; omega)
theorem stepF_len {i k to : Nat} {T : Rows} : (stepF T i k to).length = T.length := by unfold stepF; rw [setE_len, setE_len]

section
variable {hold : Rows → Bool} {W n : Nat}
theorem place_lt {r : Nat} (hr : r + 1 ≤ n * W) : (n * W - (r + 1)) / W < n ∧ (n * W - (r + 1)) % W < W ∧ n * W - r = n * W - (r + 1) + 1 := by
  have hW : 0 < W := by
    rcases Nat.eq_zero_or_pos W with e | e
    · subst e; omega
    · exact e
  exact ⟨Nat.div_lt_of_lt_mul (by rw [Nat.mul_comm W n]; omega), Nat.mod_lt _ hW, by omega⟩
theorem FOk.skip {r met : Nat} {T : Rows} (h : FOk hold W n (r + 1) T met) (hm : ¬ met ≤ (n * W - (r + 1)) / W) (hp : 0 ≤ pent W T (n * W - (r + 1))) : FOk hold W n r T met := by
  obtain ⟨h1, h2, h3⟩ := place_lt h.hr
  have hr := h.hr
  refine ⟨h.wide, h.len, h.back, h.low, h.le, fun p hp2 => ?_, ?_, h.ok, by omega⟩
  · rcases Nat.lt_or_ge p (n * W - (r + 1)) with h4 | h4
    · exact h.full p h4
    · obtain rfl : p = n * W - (r + 1) := by omega
      exact hp
  · obtain ⟨u, hu⟩ : ∃ u : Nat, pent W T (n * W - (r + 1)) = (u : Int) := ⟨(pent W T (n * W - (r + 1))).toNat, by omega⟩
    have hl := h.low _ _ _ hu
    rw [h3, stdP, h.std]
    simp only
    rw [if_neg hm, hu, if_neg (by omega), if_neg (by omega)]
theorem FOk.step {r met to : Nat} {T : Rows} (hW2 : W % 2 = 0) (h : FOk hold W n (r + 1) T met) (hm : ¬ met ≤ (n * W - (r + 1)) / W) (hp : ¬ 0 ≤ pent W T (n * W - (r + 1))) (ht : to < min (met + 1) n)
    (hto : ¬ 0 ≤ ent T to (opp ((n * W - (r + 1)) % W))) (hh : hold (stepF T ((n * W - (r + 1)) / W) ((n * W - (r + 1)) % W) to) = true) :
    FOk hold W n r (stepF T ((n * W - (r + 1)) / W) ((n * W - (r + 1)) % W) to) (max met (to + 1)) ∧ (∀ p, p < n * W - (r + 1) → pent W (stepF T ((n * W - (r + 1)) / W) ((n * W - (r + 1)) % W) to) p = pent W T p) ∧
      pent W (stepF T ((n * W - (r + 1)) / W) ((n * W - (r + 1)) % W) to) (n * W - (r + 1)) = (to : Int) ∧ Ext T (stepF T ((n * W - (r + 1)) / W) ((n * W - (r + 1)) % W) to) := by
  obtain ⟨h1, h2, h3⟩ := place_lt h.hr
  have hr := h.hr
  have hle := h.le
  unfold pent at hp
  have hk2 := opp_lt hW2 h2
  have hpp : n * W - (r + 1) < n * W := by omega
  obtain ⟨p, hpe⟩ : ∃ p, n * W - (r + 1) = p := ⟨_, rfl⟩
  obtain ⟨i, hi⟩ : ∃ i, p / W = i := ⟨_, rfl⟩
  obtain ⟨k, hk⟩ : ∃ k, p % W = k := ⟨_, rfl⟩
  have hfull := h.full
  have hstd := h.std
  rw [hpe] at hm hp hto hh h1 h2 h3 hk2 hfull hstd ⊢
  rw [hi] at hm hp hh h1 ⊢
  rw [hk] at hp hto hh h2 hk2 ⊢
  have htn : to < n := by omega
  have he := stepF_ent h.wide h.len h1 h2 hk2 htn
  have hne := opp_ne k
  have hold2 : ∀ q, q < p → pent W (stepF T i k to) q = pent W T q := fun q hq => by
    have hf := hfull q hq
    unfold pent at hf ⊢
    rw [he, if_neg, if_neg]
    · rintro ⟨e1, e2⟩; rw [e1, e2] at hf; exact hp hf
    · rintro ⟨e1, e2⟩; rw [e1, e2] at hf; exact hto hf
  have hnew : pent W (stepF T i k to) p = (to : Int) := by
    unfold pent
    rw [he, hi, hk, if_neg (fun e => hne e.2.symm), if_pos ⟨rfl, rfl⟩]
  have hext : Ext T (stepF T i k to) := fun x j u e => by
    rw [he, if_neg, if_neg]
    · exact e
    · rintro ⟨e1, e2⟩; rw [e1, e2] at e; omega
    · rintro ⟨e1, e2⟩; rw [e1, e2] at e; omega
  refine ⟨⟨stepF_wide h.wide h.len h1 h2 hk2 htn, by rw [stepF_len]; exact h.len, fun a j b e => ?_, fun a j b e => ?_, by omega, fun q hq => ?_, ?_, hh, by omega⟩, hold2, hnew, hext⟩
  · rw [he] at e
    by_cases c1 : a = to ∧ j = opp k
    · rw [if_pos c1] at e
      obtain rfl : i = b := by omega
      rw [he, c1.2, opp_opp, if_neg (fun e => hne e.2.symm), if_pos ⟨rfl, rfl⟩, c1.1]
    · rw [if_neg c1] at e
      by_cases c2 : a = i ∧ j = k
      · rw [if_pos c2] at e
        obtain rfl : to = b := by omega
        rw [he, c2.2, if_pos ⟨rfl, rfl⟩, c2.1]
      · rw [if_neg c2] at e
        exact hext _ _ _ (h.back _ _ _ e)
  · rw [he] at e
    by_cases c1 : a = to ∧ j = opp k
    · rw [if_pos c1] at e; omega
    · rw [if_neg c1] at e
      by_cases c2 : a = i ∧ j = k
      · rw [if_pos c2] at e; omega
      · rw [if_neg c2] at e
        have := h.low _ _ _ e
        omega
  · rcases Nat.lt_or_ge q p with h4 | h4
    · rw [hold2 q h4]; exact hfull q h4
    · obtain rfl : q = p := by omega
      rw [hnew]; omega
  · rw [h3, stdP, stdP_congr hold2, hstd]
    simp only
    rw [hi, if_neg hm, hnew, if_neg (by omega)]
    by_cases e : (to : Int) = (met : Int)
    · rw [if_pos e]; congr 1; omega
    · rw [if_neg e]; congr 1; omega
theorem fill_sound (hW2 : W % 2 = 0) : ∀ {r met : Nat} {T A : Rows}, FOk hold W n r T met → A ∈ fillM hold W n r T met → FGood hold W n A ∧ Ext T A
  | 0, met, T, A, h, hA => by
    unfold fillM at hA
    split at hA
    · rename_i e
      obtain rfl := List.mem_singleton.1 hA
      refine ⟨⟨h.wide, h.len, h.back, fun p hp => h.full p (by omega), ?_, h.ok⟩, Ext.refl _⟩
      have := h.std
      rw [Nat.sub_zero] at this
      rw [this, e]
    · cases hA
  | r + 1, met, T, A, h, hA => by
    unfold fillM at hA
    split at hA
    · cases hA
    · rename_i hm
      split at hA
      · rename_i hp
        exact fill_sound hW2 (h.skip hm hp) hA
      · rename_i hp
        obtain ⟨to, ht, hA2⟩ := List.mem_flatMap.1 hA
        have ht2 := List.mem_range.1 ht
        split at hA2
        · cases hA2
        · rename_i hto
          split at hA2
          · rename_i hh
            obtain ⟨h1, -, -, h2⟩ := h.step hW2 hm hp ht2 hto hh
            obtain ⟨h3, h4⟩ := fill_sound hW2 h1 hA2
            exact ⟨h3, h2.trans h4⟩
          · cases hA2
theorem rows_eq {A B : Rows} (hA : Wide W A) (hB : Wide W B) (hl : A.length = B.length) (h : ∀ p, p < A.length * W → pent W A p = pent W B p) : A = B := by
  refine List.ext_getElem hl fun x hx hx2 => ?_
  have e1 := hA.len x hx
  have e2 := hB.len x hx2
  rw [List.getD_eq_getElem?_getD, List.getElem?_eq_getElem hx] at e1
  rw [List.getD_eq_getElem?_getD, List.getElem?_eq_getElem hx2] at e2
  simp only [Option.getD_some] at e1 e2
  refine List.ext_getElem (by rw [e1, e2]) fun k hk hk2 => ?_
  have hW : 0 < W := by omega
  have h1 := h (x * W + k) (by
    have h3 : (x + 1) * W ≤ A.length * W := Nat.mul_le_mul_right W hx
    rw [Nat.succ_mul] at h3
    omega)
  unfold pent ent at h1
  have hd : (x * W + k) / W = x := by rw [Nat.mul_comm, Nat.mul_add_div hW, Nat.div_eq_of_lt (by omega)]; rfl
  have hmo : (x * W + k) % W = k := by rw [Nat.mul_comm, Nat.mul_add_mod, Nat.mod_eq_of_lt (by omega)]
  rw [hd, hmo] at h1
  simpa [List.getD_eq_getElem?_getD, List.getElem?_eq_getElem hx, List.getElem?_eq_getElem hx2, List.getElem?_eq_getElem hk, List.getElem?_eq_getElem hk2] using h1
theorem Ext.pent {A B : Rows} (h : Ext A B) {p : Nat} (hp : 0 ≤ pent W A p) : TC.pent W B p = TC.pent W A p := by
  obtain ⟨u, hu⟩ : ∃ u : Nat, TC.pent W A p = (u : Int) := ⟨(TC.pent W A p).toNat, by omega⟩
  rw [hu]
  exact h _ _ _ hu
theorem fill_compl (hW2 : W % 2 = 0) (hmono : ∀ A B, Wide W A → A.length = n → Ext A B → FGood hold W n B → hold A = true) : ∀ {r met : Nat} {T A : Rows}, FOk hold W n r T met → FGood hold W n A → Ext T A → A ∈ fillM hold W n r T met
  | 0, met, T, A, h, hA, he => by
    have e : T = A := rows_eq h.wide hA.wide (by rw [h.len, hA.len]) fun p hp => (he.pent (h.full p (by rw [h.len] at hp; omega))).symm
    subst e
    have h1 := h.std
    rw [Nat.sub_zero, hA.std] at h1
    unfold fillM
    rw [if_pos (Option.some.inj h1).symm]
    exact List.mem_singleton.2 rfl
  | r + 1, met, T, A, h, hA, he => by
    obtain ⟨h1, h2, h3⟩ := place_lt h.hr
    have hr := h.hr
    have hst : stdP W A (n * W - (r + 1)) = some met := by
      rw [← h.std]
      exact stdP_congr fun q hq => he.pent (h.full q hq)
    obtain ⟨n1, hn1, -⟩ := stdP_down (show n * W - (r + 1) + 1 ≤ n * W by omega) hA.std
    obtain ⟨n2, hn2, hlt, hle, -⟩ := stdP_step hn1
    rw [hst] at hn2
    obtain rfl := Option.some.inj hn2
    have hm : ¬ met ≤ (n * W - (r + 1)) / W := by omega
    unfold fillM
    rw [if_neg hm]
    by_cases hp : 0 ≤ pent W T (n * W - (r + 1))
    · rw [if_pos hp]
      exact fill_compl hW2 hmono (h.skip hm hp) hA he
    · rw [if_neg hp]
      have hAp := hA.full (n * W - (r + 1)) (by omega)
      obtain ⟨to, hto⟩ : ∃ to : Nat, pent W A (n * W - (r + 1)) = (to : Int) := ⟨(pent W A (n * W - (r + 1))).toNat, by omega⟩
      have htn := (hA.wide.inn hto).2.2
      rw [hA.len] at htn
      rw [hto] at hle
      have hb := hA.back _ _ _ hto
      have ht : to < min (met + 1) n := by omega
      have hemp : ¬ 0 ≤ ent T to (opp ((n * W - (r + 1)) % W)) := fun e => by
        obtain ⟨u, hu⟩ : ∃ u : Nat, ent T to (opp ((n * W - (r + 1)) % W)) = (u : Int) := ⟨(ent T to (opp ((n * W - (r + 1)) % W))).toNat, by omega⟩
        have h4 := he _ _ _ hu
        rw [hb] at h4
        have h5 := h.back _ _ _ hu
        rw [opp_opp, show u = (n * W - (r + 1)) / W by omega] at h5
        exact hp (by unfold pent; rw [h5]; omega)
      have hk2 := opp_lt hW2 h2
      have hsw := stepF_wide h.wide h.len h1 h2 hk2 htn
      have hse : Ext (stepF T ((n * W - (r + 1)) / W) ((n * W - (r + 1)) % W) to) A := fun y j u e => by
        rw [stepF_ent h.wide h.len h1 h2 hk2 htn] at e
        by_cases c1 : y = to ∧ j = opp ((n * W - (r + 1)) % W)
        · rw [if_pos c1] at e
          rw [c1.1, c1.2, hb, e]
        · rw [if_neg c1] at e
          by_cases c2 : y = (n * W - (r + 1)) / W ∧ j = (n * W - (r + 1)) % W
          · rw [if_pos c2] at e
            rw [c2.1, c2.2, ← e]; exact hto
          · rw [if_neg c2] at e
            exact he _ _ _ e
      have hh := hmono _ _ hsw (by rw [stepF_len]; exact h.len) hse hA
      refine List.mem_flatMap.2 ⟨to, List.mem_range.2 ht, ?_⟩
      rw [if_neg hemp, if_pos hh]
      exact fill_compl hW2 hmono (h.step hW2 hm hp ht hemp hh).1 hA hse
/-- one table stands ahead of another one -/
def ltP (W n : Nat) (A B : Rows) : Prop := ∃ p, p < n * W ∧ (∀ q, q < p → pent W A q = pent W B q) ∧ pent W A p < pent W B p
theorem fill_sorted (hW2 : W % 2 = 0) : ∀ {r met : Nat} {T : Rows}, FOk hold W n r T met → (fillM hold W n r T met).Pairwise (ltP W n)
  | 0, met, T, h => by
    unfold fillM
    split
    · exact List.pairwise_singleton _ _
    · exact List.Pairwise.nil
  | r + 1, met, T, h => by
    have hr := h.hr
    unfold fillM
    split
    · exact List.Pairwise.nil
    · rename_i hm
      split
      · rename_i hp
        exact fill_sorted hW2 (h.skip hm hp)
      · rename_i hp
        refine List.pairwise_flatMap.2 ⟨fun to ht => ?_, ?_⟩
        · split
          · exact List.Pairwise.nil
          · rename_i hto
            split
            · rename_i hh
              exact fill_sorted hW2 (h.step hW2 hm hp (List.mem_range.1 ht) hto hh).1
            · exact List.Pairwise.nil
        · refine List.Pairwise.imp_of_mem ?_ (List.pairwise_lt_range (n := min (met + 1) n))
          intro t1 t2 ht1 ht2 hlt A hA B hB
          have key : ∀ t, t ∈ List.range (min (met + 1) n) → ∀ A, A ∈ (if 0 ≤ ent T t (opp ((n * W - (r + 1)) % W)) then [] else if hold (stepF T ((n * W - (r + 1)) / W) ((n * W - (r + 1)) % W) t) = true then fillM hold W n r (stepF T ((n * W - (r + 1)) / W) ((n * W - (r + 1)) % W) t) (max met (t + 1)) else []) →
              (∀ q, q < n * W - (r + 1) → pent W A q = pent W T q) ∧ pent W A (n * W - (r + 1)) = (t : Int) := fun t ht A hA => by
            split at hA
            · cases hA
            · rename_i hto
              split at hA
              · rename_i hh
                obtain ⟨h1, h2, h3, h4⟩ := h.step hW2 hm hp (List.mem_range.1 ht) hto hh
                obtain ⟨h5, h6⟩ := fill_sound hW2 h1 hA
                refine ⟨fun q hq => ?_, ?_⟩
                · rw [h6.pent (by rw [h2 q hq]; exact h.full q hq), h2 q hq]
                · rw [h6.pent (by rw [h3]; omega), h3]
              · cases hA
          obtain ⟨a1, a2⟩ := key t1 ht1 A hA
          obtain ⟨b1, b2⟩ := key t2 ht2 B hB
          exact ⟨n * W - (r + 1), by omega, fun q hq => by rw [a1 q hq, b1 q hq], by rw [a2, b2]; omega⟩
end

theorem ah_cut (p a b : List Int) : ah (p ++ a) (p ++ b) = ah a b := by
  induction p with
  | nil => rfl
  | cons x p ih => exact (if_pos rfl : ah (x :: (p ++ a)) (x :: (p ++ b)) = ah (p ++ a) (p ++ b)).trans ih
theorem ah_lt {xs ys : List Int} {k : Nat} (h : xs.take k = ys.take k) (hx : k < xs.length) (hy : k < ys.length) (hlt : xs[k] < ys[k]) : ah xs ys = true := by
  have e1 : xs = xs.take k ++ xs[k] :: xs.drop (k + 1) := by rw [← List.drop_eq_getElem_cons hx, List.take_append_drop]
  have e2 : ys = xs.take k ++ ys[k] :: ys.drop (k + 1) := by rw [h, ← List.drop_eq_getElem_cons hy, List.take_append_drop]
  rw [e1, e2, ah_cut]
  unfold ah
  rw [if_neg (by omega), decide_eq_true_eq]
  exact hlt
/-- a table's numbers, row by row -/
theorem flat_at {W : Nat} : ∀ {A : Rows}, (∀ l ∈ A, l.length = W) → A.flatten.length = A.length * W ∧ ∀ p, p < A.length * W → A.flatten[p]? = some (pent W A p)
  | [], _ => ⟨by simp, fun p h => by simp at h⟩
  | l :: A, h => by
    obtain ⟨h1, h2⟩ := flat_at (A := A) fun x hx => h x (List.mem_cons_of_mem _ hx)
    have hl := h l List.mem_cons_self
    refine ⟨by rw [List.flatten_cons, List.length_append, h1, hl, List.length_cons, Nat.succ_mul]; omega, fun p hp => ?_⟩
    rw [List.length_cons, Nat.succ_mul] at hp
    rw [List.flatten_cons]
    unfold pent ent
    rcases Nat.lt_or_ge p W with c | c
    · rw [List.getElem?_append_left (by omega), Nat.div_eq_of_lt c, Nat.mod_eq_of_lt c]
      simp [List.getD_eq_getElem?_getD, List.getElem?_eq_getElem (show p < l.length by omega)]
    · rw [List.getElem?_append_right (by omega), hl, h2 (p - W) (by omega)]
      have hW : 0 < W := by
        rcases Nat.eq_zero_or_pos W with e | e
        · subst e; simp at hp
        · exact e
      have hd : p / W = (p - W) / W + 1 := by rw [← Nat.add_div_right _ hW]; congr 1; omega
      have hm : p % W = (p - W) % W := by rw [← Nat.add_mod_right (p - W)]; congr 1; omega
      rw [hd, hm]
      unfold pent ent
      simp [List.getD_eq_getElem?_getD]
theorem Wide.rows {W : Nat} {A : Rows} (h : Wide W A) : ∀ l ∈ A, l.length = W := fun l hl => by
  obtain ⟨i, hi, rfl⟩ := List.getElem_of_mem hl
  have := h.len i hi
  rwa [List.getD_eq_getElem?_getD, List.getElem?_eq_getElem hi] at this
theorem ltP_ah {W n : Nat} {A B : Rows} (hA : Wide W A) (hB : Wide W B) (la : A.length = n) (lb : B.length = n) (h : ltP W n A B) : ah A.flatten B.flatten = true := by
  obtain ⟨p, hp, h1, h2⟩ := h
  obtain ⟨a1, a2⟩ := flat_at hA.rows
  obtain ⟨b1, b2⟩ := flat_at hB.rows
  rw [la] at a1 a2
  rw [lb] at b1 b2
  have ea := a2 p hp
  have eb := b2 p hp
  rw [List.getElem?_eq_getElem (by omega)] at ea eb
  refine ah_lt (k := p) ?_ (by omega) (by omega) (by rw [Option.some.inj ea, Option.some.inj eb]; exact h2)
  apply List.ext_getElem?
  intro q
  rw [List.getElem?_take, List.getElem?_take]
  by_cases hq : q < p
  · rw [if_pos hq, if_pos hq, a2 q (by omega), b2 q (by omega), h1 q hq]
  · rw [if_neg hq, if_neg hq]
theorem flat_inj {W n : Nat} {A B : Rows} (hA : Wide W A) (hB : Wide W B) (la : A.length = n) (lb : B.length = n) (h : A.flatten = B.flatten) : A = B := by
  refine rows_eq hA hB (by rw [la, lb]) fun p hp => ?_
  have e1 := (flat_at hA.rows).2 p hp
  have e2 := (flat_at hB.rows).2 p (by rw [lb, ← la]; exact hp)
  rw [h, e2] at e1
  exact (Option.some.inj e1).symm

/-- no relator leads from a row to another one, as far as it leads -/
def pathM (T : Rows) : Int → List Nat → Int
  | a, [] => a
  | a, k :: w => if ent T a.toNat k < 0 then ent T a.toNat k else pathM T (ent T a.toNat k) w
def holdM (n : Nat) (rels : List (List Nat)) (T : Rows) : Bool := (List.range n).all fun i => rels.all fun r => decide (pathM T i r < 0 ∨ pathM T i r = (i : Int))
theorem holdM_iff {n : Nat} {rels : List (List Nat)} {T : Rows} : holdM n rels T = true ↔ ∀ i, i < n → ∀ r ∈ rels, pathM T (i : Int) r < 0 ∨ pathM T (i : Int) r = (i : Int) := by
  unfold holdM
  simp only [List.all_eq_true, List.mem_range, decide_eq_true_eq]
theorem path_ext {A B : Rows} (h : Ext A B) : ∀ {w : List Nat} {a : Int}, 0 ≤ pathM A a w → pathM B a w = pathM A a w
  | [], _, _ => rfl
  | k :: w, a, hp => by
    unfold pathM at hp ⊢
    by_cases c : ent A a.toNat k < 0
    · rw [if_pos c] at hp; omega
    · rw [if_neg c] at hp ⊢
      obtain ⟨u, hu⟩ : ∃ u : Nat, ent A a.toNat k = (u : Int) := ⟨(ent A a.toNat k).toNat, by omega⟩
      have h1 := h _ _ _ hu
      rw [h1, ← hu, if_neg c]
      exact path_ext h hp
theorem hold_mono {n W : Nat} {rels : List (List Nat)} (A B : Rows) (_ : Wide W A) (_ : A.length = n) (h : Ext A B) (hB : FGood (holdM n rels) W n B) : holdM n rels A = true := by
  refine holdM_iff.2 fun i hi r hr => ?_
  rcases Int.lt_or_le (pathM A i r) 0 with c | c
  · exact .inl c
  · have h1 := path_ext h c
    rcases holdM_iff.1 hB.ok i hi r hr with h2 | h2
    · omega
    · right; rw [← h1]; exact h2
/-- .. of a table that is full -/
theorem path_full {W n : Nat} {T : Rows} (hw : Wide W T) (hl : T.length = n) (hf : ∀ x, x < n → ∀ k, k < W → 0 ≤ ent T x k) : ∀ {w : List Nat} {a : Nat}, a < n → (∀ k ∈ w, k < W) → pathM T (a : Int) w = (leadT T a w : Int)
  | [], _, _, _ => rfl
  | k :: w, a, ha, hk => by
    have h0 := hf a ha k (hk k List.mem_cons_self)
    have h1 := (hw.ent a k).2
    unfold pathM leadT
    rw [Int.toNat_natCast, if_neg (by omega)]
    obtain ⟨u, hu⟩ : ∃ u : Nat, ent T a k = (u : Int) := ⟨(ent T a k).toNat, by omega⟩
    have e : (T.getD a []).getD k (-1) = (u : Int) := hu
    rw [hu, e, Int.toNat_natCast]
    exact path_full hw hl hf (by rw [hu, hl] at h1; omega) fun x hx => hk x (List.mem_cons_of_mem _ hx)
/-- the document's Holds -/
def holdT (n : Nat) (rels : List (List Nat)) (T : Rows) : Bool := (List.range n).all fun i => rels.all fun r => decide (leadT T i r = i)
theorem holdT_eq {W n : Nat} {T : Rows} {rels : List (List Nat)} (hw : Wide W T) (hl : T.length = n) (hf : ∀ x, x < n → ∀ k, k < W → 0 ≤ ent T x k) (hr : ∀ r ∈ rels, ∀ k ∈ r, k < W) : holdM n rels T = holdT n rels T := by
  rw [Bool.eq_iff_iff, holdM_iff]
  unfold holdT
  simp only [List.all_eq_true, List.mem_range, decide_eq_true_eq]
  refine ⟨fun h i hi r hm => ?_, fun h i hi r hm => ?_⟩
  · have h1 := h i hi r hm
    rw [path_full hw hl hf hi (hr r hm)] at h1
    omega
  · right
    rw [path_full hw hl hf hi (hr r hm), h i hi r hm]

/-- orders of the numbers below n that begin with l: d numbers are left -/
def ordM (n : Nat) : Nat → List Int → List (List Int)
  | 0, l => [l]
  | d + 1, l => (List.range n).flatMap fun (k : Nat) => if l.contains (k : Int) = true then [] else ordM n d (l ++ [(k : Int)])
def ordL (n : Nat) : List (List Int) := ordM n n []
theorem mem_ordM {n : Nat} : ∀ (d : Nat) (l s : List Int), s.length = d → (∀ x ∈ s, ∃ k : Nat, x = (k : Int) ∧ k < n) → (l ++ s).Nodup → l ++ s ∈ ordM n d l
  | 0, l, s, hs, _, _ => by
    obtain rfl := List.eq_nil_of_length_eq_zero hs
    rw [List.append_nil]; exact List.mem_singleton.2 rfl
  | d + 1, l, [], hs, _, _ => by simp at hs
  | d + 1, l, x :: s, hs, hx, hn => by
    obtain ⟨k, rfl, hk⟩ := hx x List.mem_cons_self
    refine List.mem_flatMap.2 ⟨k, List.mem_range.2 hk, ?_⟩
    have hni : ¬ l.contains (k : Int) = true := fun e => by
      rw [List.contains_iff_mem] at e
      exact (List.nodup_append.1 hn).2.2 _ e _ List.mem_cons_self rfl
    rw [if_neg hni]
    have := mem_ordM d (l ++ [(k : Int)]) s (by simpa using hs) (fun y hy => hx y (List.mem_cons_of_mem _ hy)) (by simpa using hn)
    simpa using this
theorem ordM_good {n : Nat} : ∀ (d : Nat) (l p : List Int), p ∈ ordM n d l → l.Nodup → (∀ x ∈ l, ∃ k : Nat, x = (k : Int) ∧ k < n) → p.Nodup ∧ (∀ x ∈ p, ∃ k : Nat, x = (k : Int) ∧ k < n) ∧ p.length = l.length + d ∧ l <+: p
  | 0, l, p, hp, hn, hl => by
    obtain rfl := List.mem_singleton.1 hp
    exact ⟨hn, hl, rfl, List.prefix_refl _⟩
  | d + 1, l, p, hp, hn, hl => by
    obtain ⟨k, hk, hp2⟩ := List.mem_flatMap.1 hp
    have hk2 := List.mem_range.1 hk
    split at hp2
    · cases hp2
    · rename_i hc
      have hc2 : (k : Int) ∉ l := fun e => hc (List.contains_iff_mem.2 e)
      obtain ⟨h1, h2, h3, h4⟩ := ordM_good d (l ++ [(k : Int)]) p hp2 (List.nodup_append.2 ⟨hn, by simp, fun a ha b hb e => by rw [List.mem_singleton.1 hb] at e; exact hc2 (e ▸ ha)⟩) (fun x hx => by
        rcases List.mem_append.1 hx with hx | hx
        · exact hl x hx
        · exact ⟨k, List.mem_singleton.1 hx, hk2⟩)
      exact ⟨h1, h2, by rw [h3, List.length_append, List.length_singleton]; omega, (List.prefix_append _ _).trans h4⟩
theorem ordL_nodup : ∀ n, n < 5 → (ordL n).Nodup ∧ (ordL n).length = [1, 1, 2, 6, 24].getD n 0 := by decide +kernel
end Go.Proofs.YtedehmknijlgpaaDoor.TC
