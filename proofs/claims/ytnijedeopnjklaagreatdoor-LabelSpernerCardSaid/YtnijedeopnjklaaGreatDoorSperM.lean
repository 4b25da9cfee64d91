/-
  SPERNER's walk, plain: walks through doors never come twice to one room; an odd number of outer doors leads to a room that is a dead end. No program in sight.
-/
namespace Go.Proofs.YtnijedeopnjklaaGreatDoor.Sper

/-- rooms, doors: the other door of a room, the other room of a door -/
structure House (D : Type) where
  od : Nat → D → Option D
  ot : D → Nat → Option Nat
  /-- door of a room -/
  has : Nat → D → Prop
  od_has : ∀ {t e e'}, od t e = some e' → has t e ∧ has t e' ∧ e' ≠ e
  od_two : ∀ {t e e'}, has t e → has t e' → e' ≠ e → od t e = some e'
  ot_has : ∀ {e t t'}, has t e → ot e t = some t' → has t' e ∧ t' ≠ t
  ot_two : ∀ {e t t'}, has t e → has t' e → t' ≠ t → ot e t = some t'
  ot_back : ∀ {e t t'}, has t e → ot e t = some t' → ot e t' = some t

variable {D : Type} (H : House D)

/-- a walk's room k is entered by door k; door k + 1 is the other door of room k -/
structure Walk (T : Nat → Nat) (E : Nat → D) (K : Nat) : Prop where
  door : ∀ k, k < K → H.od (T k) (E k) = some (E (k + 1))
  room : ∀ k, k < K → H.ot (E (k + 1)) (T k) = some (T (k + 1))
  start : H.ot (E 0) (T 0) = none
  has0 : H.has (T 0) (E 0)

namespace Walk
variable {H} {T : Nat → Nat} {E : Nat → D} {K : Nat}

theorem has (w : Walk H T E K) : ∀ k, k ≤ K → H.has (T k) (E k)
  | 0, _ => w.has0
  | k + 1, h => (H.ot_has ((H.od_has (w.door k (by omega))).2.1) (w.room k (by omega))).1

theorem back (w : Walk H T E K) (k : Nat) (h : k < K) : H.ot (E (k + 1)) (T (k + 1)) = some (T k) :=
  H.ot_back (H.od_has (w.door k h)).2.1 (w.room k h)
theorem dback (w : Walk H T E K) (k : Nat) (h : k < K) : H.od (T k) (E (k + 1)) = some (E k) := by
  obtain ⟨h1, h2, h3⟩ := H.od_has (w.door k h)
  exact H.od_two h2 h1 (Ne.symm h3)

/-- no state comes twice -/
theorem state_once (w : Walk H T E K) : ∀ i j, i < j → j ≤ K → T i = T j → E i = E j → False := by
  intro i
  induction i with
  | zero =>
    intro j hij hj ht he
    obtain ⟨j, rfl⟩ : ∃ q, j = q + 1 := ⟨j - 1, by omega⟩
    have h1 := w.back j (by omega)
    rw [← ht, ← he, w.start] at h1
    cases h1
  | succ i ih =>
    intro j hij hj ht he
    obtain ⟨j, rfl⟩ : ∃ q, j = q + 1 := ⟨j - 1, by omega⟩
    have h1 := w.back j (by omega)
    have h2 := w.back i (by omega)
    rw [← ht, ← he, h2] at h1
    have ht' : T i = T j := Option.some.inj h1
    have h3 := w.dback i (by omega)
    have h4 := w.dback j (by omega)
    rw [← ht', ← he, h3] at h4
    exact ih j (by omega) (by omega) ht' (Option.some.inj h4)

/-- no room comes twice -/
theorem room_once (w : Walk H T E K) : ∀ d i j, j = i + d → 0 < d → j ≤ K → T i = T j → False := by
  intro d
  induction d using Nat.strongRecOn with
  | ind d ih =>
    intro i j hd hd0 hj ht
    by_cases he : E i = E j
    · exact w.state_once i j (by omega) hj ht he
    · have h1 := H.od_two (w.has i (by omega)) (by rw [ht]; exact w.has j hj) (Ne.symm he)
      rw [w.door i (by omega)] at h1
      have he1 : E (i + 1) = E j := Option.some.inj h1
      obtain ⟨j, rfl⟩ : ∃ q, j = q + 1 := ⟨j - 1, by omega⟩
      have h2 := w.room i (by omega)
      rw [he1, ht, w.back j (by omega)] at h2
      have ht1 : T j = T (i + 1) := Option.some.inj h2
      rcases Nat.lt_or_ge (i + 1) j with h | h
      · exact ih (d - 2) (by omega) (i + 1) j (by omega) (by omega) (by omega) ht1.symm
      · rcases Nat.lt_or_ge i j with h' | h'
        · -- j = i + 1
          obtain rfl : j = i + 1 := by omega
          exact (H.od_has (w.door (i + 1) (by omega))).2.2 he1.symm
        · obtain rfl : j = i := by omega
          have := (H.ot_has (H.od_has (w.door j (by omega))).2.1 (w.room j (by omega))).2
          exact this ht.symm

theorem inj (w : Walk H T E K) (i j : Nat) (hi : i ≤ K) (hj : j ≤ K) (h : T i = T j) : i = j := by
  rcases Nat.lt_trichotomy i j with h1 | h1 | h1
  · exact (w.room_once (j - i) i j (by omega) (by omega) hj h).elim
  · exact h1
  · exact (w.room_once (i - j) j i (by omega) (by omega) hi h.symm).elim

/-- the walk the other way round, from the door by which one is outside -/
theorem rev (w : Walk H T E K) (e : D) (h1 : H.od (T K) (E K) = some e) (h2 : H.ot e (T K) = none) :
    Walk H (fun k => T (K - k)) (fun k => if k = 0 then e else E (K + 1 - k)) K where
  door k hk := by
    by_cases h0 : k = 0
    · subst h0
      obtain ⟨a, b, c⟩ := H.od_has h1
      simp only [if_true, Nat.sub_zero, Nat.zero_add, Nat.one_ne_zero, if_false, Nat.add_sub_cancel]
      exact H.od_two b a (Ne.symm c)
    · have := w.dback (K - k) (by omega)
      simp only [h0, if_false, Nat.succ_ne_zero]
      rw [show K + 1 - k = K - k + 1 from by omega, show K + 1 - (k + 1) = K - k from by omega]
      exact this
  room k hk := by
    have := w.back (K - (k + 1)) (by omega)
    simp only [Nat.succ_ne_zero, if_false]
    rw [show K + 1 - (k + 1) = K - (k + 1) + 1 from by omega]
    rw [show K - k = K - (k + 1) + 1 from by omega]
    exact this
  start := by simpa using h2
  has0 := by simpa using (H.od_has h1).2.1

/-- two walks from one door go one way -/
theorem same (w : Walk H T E K) {T' : Nat → Nat} {E' : Nat → D} {K' : Nat} (w' : Walk H T' E' K') (ht : T 0 = T' 0) (he : E 0 = E' 0) : ∀ k, k ≤ K → k ≤ K' → T k = T' k ∧ E k = E' k
  | 0, _, _ => ⟨ht, he⟩
  | k + 1, h1, h2 => by
    obtain ⟨a, b⟩ := same w w' ht he k (by omega) (by omega)
    have d1 := w.door k (by omega)
    have d2 := w'.door k (by omega)
    rw [← a, ← b, d1] at d2
    have e1 := Option.some.inj d2
    have r1 := w.room k (by omega)
    have r2 := w'.room k (by omega)
    rw [← e1, ← a, r1] at r2
    exact ⟨Option.some.inj r2, e1⟩
end Walk

theorem nodup_le : ∀ (N : Nat) (l : List Nat), l.Nodup → (∀ x ∈ l, x < N) → l.length ≤ N
  | 0, l, _, h => by
    cases l with
    | nil => simp
    | cons x r => exact absurd (h x (by simp)) (by omega)
  | N + 1, l, hn, h => by
    by_cases hm : N ∈ l
    · have h1 := nodup_le N (l.erase N) (hn.erase N) (fun x hx => by
        have := (hn.mem_erase_iff).1 hx
        have := h x this.2
        omega)
      rw [List.length_erase_of_mem hm] at h1
      omega
    · have h1 := nodup_le N l hn (fun x hx => by
        have := h x hx
        have : x ≠ N := fun e => hm (e ▸ hx)
        omega)
      omega

theorem range_map_nodup {T : Nat → Nat} : ∀ K, (∀ i j, i < K → j < K → T i = T j → i = j) → ((List.range K).map T).Nodup := by
  intro K h
  rw [List.nodup_iff_pairwise_ne, List.pairwise_map]
  refine List.Pairwise.imp_of_mem (fun {a b} ha hb hab e => ?_) (List.pairwise_lt_range (n := K))
  have := h a b (List.mem_range.1 ha) (List.mem_range.1 hb) e
  omega

theorem Walk.short {H : House D} {T : Nat → Nat} {E : Nat → D} {K N : Nat} (w : Walk H T E K) (hN : ∀ t e, H.has t e → t < N) : K < N := by
  have h1 := range_map_nodup (T := T) (K + 1) (fun i j hi hj h => w.inj i j (by omega) (by omega) h)
  have h2 := nodup_le N _ h1 (fun x hx => by
    obtain ⟨k, hk, rfl⟩ := List.mem_map.1 hx
    exact hN _ _ (w.has k (by have := List.mem_range.1 hk; omega)))
  simp at h2
  omega

/-- a walk has come to its end: a dead end, or outside by door e -/
def Ended (H : House D) (T : Nat → Nat) (E : Nat → D) (K : Nat) : Prop := H.od (T K) (E K) = none ∨ ∃ e, H.od (T K) (E K) = some e ∧ H.ot e (T K) = none

theorem ends {H : House D} {N : Nat} (hN : ∀ t e, H.has t e → t < N) (t0 : Nat) (e0 : D) (hh : H.has t0 e0) (hs : H.ot e0 t0 = none) :
    ∃ T E K, Walk H T E K ∧ T 0 = t0 ∧ E 0 = e0 ∧ Ended H T E K := by
  have key : ∀ m, (∃ T E K, Walk H T E K ∧ T 0 = t0 ∧ E 0 = e0 ∧ Ended H T E K) ∨ ∃ T E, Walk H T E m ∧ T 0 = t0 ∧ E 0 = e0 := by
    intro m
    induction m with
    | zero => exact Or.inr ⟨fun _ => t0, fun _ => e0, ⟨fun k h => absurd h (by omega), fun k h => absurd h (by omega), hs, hh⟩, rfl, rfl⟩
    | succ m ih =>
      rcases ih with h | ⟨T, E, w, h0, h1⟩
      · exact Or.inl h
      · cases hd : H.od (T m) (E m) with
        | none => exact Or.inl ⟨T, E, m, w, h0, h1, Or.inl hd⟩
        | some e =>
          cases ho : H.ot e (T m) with
          | none => exact Or.inl ⟨T, E, m, w, h0, h1, Or.inr ⟨e, hd, ho⟩⟩
          | some t =>
            refine Or.inr ⟨fun k => if k ≤ m then T k else t, fun k => if k ≤ m then E k else e, ⟨fun k hk => ?_, fun k hk => ?_, by simpa using w.start, by simpa using w.has0⟩, by simpa using h0, by simpa using h1⟩
            · rcases Nat.lt_or_ge k m with h | h
              · simp only [show k ≤ m from by omega, show k + 1 ≤ m from h, if_true]; exact w.door k h
              · obtain rfl : k = m := by omega
                simp only [Nat.le_refl, if_true, show ¬ k + 1 ≤ k from by omega, if_false]; exact hd
            · rcases Nat.lt_or_ge k m with h | h
              · simp only [show k ≤ m from by omega, show k + 1 ≤ m from h, if_true]; exact w.room k h
              · obtain rfl : k = m := by omega
                simp only [Nat.le_refl, if_true, show ¬ k + 1 ≤ k from by omega, if_false]; exact ho
  rcases key N with h | ⟨T, E, w, -, -⟩
  · exact h
  · exact absurd (w.short hN) (by omega)

/-- an involution without a fixed point: an even number -/
theorem even_of_pairs [DecidableEq D] (f : D → D) : ∀ (n : Nat) (l : List D), l.length = n → l.Nodup → (∀ x ∈ l, f x ∈ l ∧ f (f x) = x ∧ f x ≠ x) → n % 2 = 0 := by
  intro n
  induction n using Nat.strongRecOn with
  | ind n ih =>
    intro l hl hn hf
    cases l with
    | nil => simp at hl; omega
    | cons x r =>
      obtain ⟨h1, h2, h3⟩ := hf x (by simp)
      have hxr : f x ∈ r := by
        rcases List.mem_cons.1 h1 with h | h
        · exact absurd h h3
        · exact h
      have hnr := (List.nodup_cons.1 hn).2
      have hx := (List.nodup_cons.1 hn).1
      have h4 := ih (n - 2) (by simp at hl; omega) (r.erase (f x)) (by
        rw [List.length_erase_of_mem hxr]; simp at hl; omega) (hnr.erase _) (fun y hy => by
          obtain ⟨hne, hyr⟩ := hnr.mem_erase_iff.1 hy
          obtain ⟨g1, g2, g3⟩ := hf y (by simp [hyr])
          refine ⟨hnr.mem_erase_iff.2 ⟨fun e => ?_, ?_⟩, g2, g3⟩
          · have : y = x := by rw [← g2, e, h2]
            exact hx (this ▸ hyr)
          · rcases List.mem_cons.1 g1 with h | h
            · exact absurd (by rw [← g2, h]) hne
            · exact h)
      have : 2 ≤ n := by
        have : 0 < r.length := List.length_pos_of_mem hxr
        simp at hl; omega
      omega

/-- an odd number of outer doors: from one of them the walk comes to a dead end -/
theorem dead_end [DecidableEq D] {H : House D} {N : Nat} (hN : ∀ t e, H.has t e → t < N) (bd : List D) (hnd : bd.Nodup) (hodd : bd.length % 2 = 1)
    (hin : ∀ e ∈ bd, ∃ t, H.has t e ∧ H.ot e t = none) (hall : ∀ t e, H.has t e → H.ot e t = none → e ∈ bd) :
    ∃ e ∈ bd, ∃ T E K, Walk H T E K ∧ E 0 = e ∧ H.od (T K) (E K) = none := by
  apply Classical.byContradiction
  intro hno
  have hex : ∀ e, e ∈ bd → ∃ e', ∃ T E K, Walk H T E K ∧ E 0 = e ∧ H.od (T K) (E K) = some e' ∧ H.ot e' (T K) = none := by
    intro e he
    obtain ⟨t, ht, hs⟩ := hin e he
    obtain ⟨T, E, K, w, h0, h1, hend⟩ := ends hN t e ht hs
    rcases hend with h | ⟨e', h2, h3⟩
    · exact absurd ⟨e, he, T, E, K, w, h1, h⟩ hno
    · exact ⟨e', T, E, K, w, h1, h2, h3⟩
  have hroom : ∀ e t t', H.has t e → H.has t' e → H.ot e t = none → t' = t := fun e t t' h1 h2 h3 => by
    apply Classical.byContradiction
    intro hne
    rw [H.ot_two h1 h2 hne] at h3
    cases h3
  let f : D → D := fun e => if h : e ∈ bd then Classical.choose (hex e h) else e
  have hf : ∀ e (h : e ∈ bd), ∃ T E K, Walk H T E K ∧ E 0 = e ∧ H.od (T K) (E K) = some (f e) ∧ H.ot (f e) (T K) = none := fun e h => by
    have := Classical.choose_spec (hex e h)
    simp only [f, dif_pos h]
    exact this
  have := even_of_pairs f bd.length bd rfl hnd (fun e he => by
    obtain ⟨T, E, K, w, h1, h2, h3⟩ := hf e he
    have hb : f e ∈ bd := hall _ _ (H.od_has h2).2.1 h3
    refine ⟨hb, ?_, fun heq => ?_⟩
    · obtain ⟨T', E', K', w', g1, g2, g3⟩ := hf (f e) hb
      have wr := w.rev (f e) h2 h3
      have hT0 : T K = T' 0 := (hroom (f e) (T K) (T' 0) (H.od_has h2).2.1 (by have := w'.has0; rw [g1] at this; exact this) h3).symm
      have hst : ∀ k, k ≤ K → k ≤ K' → T (K - k) = T' k ∧ (if k = 0 then f e else E (K + 1 - k)) = E' k := fun k a b => wr.same w' (by simpa using hT0) (by simpa using g1.symm) k a b
      have hlast : H.od (T 0) (E 1) = some (E 0) ∨ K = 0 := by
        rcases Nat.eq_zero_or_pos K with h | h
        · exact Or.inr h
        · exact Or.inl (w.dback 0 h)
      have hrevend : H.od (T (K - K)) (if K = 0 then f e else E (K + 1 - K)) = some e := by
        rw [Nat.sub_self]
        rcases hlast with h | h
        · by_cases hK : K = 0
          · subst hK
            obtain ⟨a, b, c⟩ := H.od_has h2
            simp only [if_true]
            exact (H.od_two b a (Ne.symm c)).trans (congrArg some h1)
          · rw [if_neg hK, show K + 1 - K = 1 from by omega, h, h1]
        · subst h
          obtain ⟨a, b, c⟩ := H.od_has h2
          simp only [if_true]
          exact (H.od_two b a (Ne.symm c)).trans (congrArg some h1)
      have hstart : H.ot e (T 0) = none := by rw [← h1]; exact w.start
      rcases Nat.lt_trichotomy K K' with h | h | h
      · obtain ⟨a, b⟩ := hst K (Nat.le_refl _) (by omega)
        rw [a, b, w'.door K h] at hrevend
        have e1 := Option.some.inj hrevend
        have r1 := w'.room K h
        rw [e1, ← a, Nat.sub_self, hstart] at r1
        cases r1
      · subst h
        obtain ⟨a, b⟩ := hst K (Nat.le_refl _) (Nat.le_refl _)
        rw [a, b, g2] at hrevend
        exact Option.some.inj hrevend
      · obtain ⟨a, b⟩ := hst K' (by omega) (Nat.le_refl _)
        obtain ⟨c, d⟩ := (⟨wr.door K' h, wr.room K' h⟩ : _ ∧ _)
        rw [a, b, g2] at c
        rw [← Option.some.inj c, a, g3] at d
        cases d
    · have hK : T K = T 0 := (hroom (f e) (T K) (T 0) (H.od_has h2).2.1 (by rw [heq, ← h1]; exact w.has0) h3).symm
      have hK0 : K = 0 := w.inj K 0 (Nat.le_refl _) (by omega) hK
      subst hK0
      exact (H.od_has h2).2.2 (by rw [heq, h1]))
  omega
end Go.Proofs.YtnijedeopnjklaaGreatDoor.Sper
