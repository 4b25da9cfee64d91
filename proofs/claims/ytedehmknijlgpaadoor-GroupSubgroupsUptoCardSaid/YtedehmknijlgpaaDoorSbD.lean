/-
  All subgroups of an index, plain: the document's tables out of orders; they are the tables that are told, in the same order.
  All subgroups of an index, plain: what fill tells is what the document tells; of a free group there are as many as HALL says.
-/
import Derived.Test.YtedehmknijlgpaaDoorSbB
set_option linter.unusedVariables false
namespace Go.Proofs.YtedehmknijlgpaaDoor.TC

/-- an order of the numbers below n -/
structure PermL (n : Nat) (p : List Int) : Prop where
  len : p.length = n
  nod : p.Nodup
  low : ∀ x ∈ p, ∃ k : Nat, x = (k : Int) ∧ k < n
theorem PermL.at {n : Nat} {p : List Int} (h : PermL n p) {i : Nat} (hi : i < n) : ∃ k : Nat, p.getD i 0 = (k : Int) ∧ k < n := by
  have hi2 : i < p.length := by rw [h.len]; exact hi
  rw [List.getD_eq_getElem?_getD, List.getElem?_eq_getElem hi2]
  exact h.low _ (List.getElem_mem hi2)
theorem PermL.inj {n : Nat} {p : List Int} (h : PermL n p) {i j : Nat} (hi : i < n) (hj : j < n) (e : p.getD i 0 = p.getD j 0) : i = j := by
  have hi2 : i < p.length := by rw [h.len]; exact hi
  have hj2 : j < p.length := by rw [h.len]; exact hj
  rw [List.getD_eq_getElem?_getD, List.getD_eq_getElem?_getD, List.getElem?_eq_getElem hi2, List.getElem?_eq_getElem hj2] at e
  exact (List.getElem_inj h.nod).1 e
theorem nodup_leT : ∀ (n : Nat) (l : List Nat), l.Nodup → (∀ x ∈ l, x < n) → l.length ≤ n
  | 0, [], _, _ => Nat.le_refl _
  | 0, a :: l, _, h => absurd (h a List.mem_cons_self) (by omega)
  | n + 1, l, hn, h => by
    have h1 : (l.filter fun x => decide (x ≠ n)).length ≤ n := nodup_leT n _ (hn.sublist List.filter_sublist) fun x hx => by
      obtain ⟨h2, h3⟩ := List.mem_filter.1 hx
      have := h x h2
      have h4 := of_decide_eq_true h3
      omega
    have h2 : l.length ≤ (l.filter fun x => decide (x ≠ n)).length + 1 := by
      clear h1 h
      induction l with
      | nil => simp
      | cons a l ih =>
        obtain ⟨hn1, hn2⟩ := List.nodup_cons.1 hn
        by_cases c : a = n
        · have e : (l.filter fun x => decide (x ≠ n)) = l := List.filter_eq_self.2 fun x hx => by
            rw [decide_eq_true_eq]
            exact fun e => hn1 (by rw [c, ← e]; exact hx)
          rw [List.filter_cons, if_neg (by simpa using c), e, List.length_cons]
          exact Nat.le_refl _
        · rw [List.filter_cons, if_pos (by simpa using c), List.length_cons, List.length_cons]
          have := ih hn2
          omega
    omega
theorem sub_full {n : Nat} {l : List Nat} (hn : l.Nodup) (hl : ∀ x ∈ l, x < n) (he : l.length = n) (y : Nat) (hy : y < n) : y ∈ l := by
  refine Classical.byContradiction fun hc => ?_
  have h2 : (y :: l).Nodup := List.nodup_cons.2 ⟨hc, hn⟩
  have h3 := nodup_leT n (y :: l) h2 fun x hx => by
    rcases List.mem_cons.1 hx with e | hx
    · rw [e]; exact hy
    · exact hl x hx
  rw [List.length_cons] at h3
  omega
theorem PermL.sur {n : Nat} {p : List Int} (h : PermL n p) {y : Nat} (hy : y < n) : ∃ i, i < n ∧ p.getD i 0 = (y : Int) := by
  have h1 : (p.map Int.toNat).Nodup := by
    rw [List.Nodup, List.pairwise_map]
    refine List.Pairwise.imp_of_mem ?_ h.nod
    intro a b ha hb hne e
    obtain ⟨k, rfl, -⟩ := h.low a ha
    obtain ⟨j, rfl, -⟩ := h.low b hb
    have e2 : k = j := by simpa using e
    exact hne (by rw [e2])
  have h2 := sub_full (n := n) h1 (fun x hx => by
    obtain ⟨a, ha, rfl⟩ := List.mem_map.1 hx
    obtain ⟨k, rfl, hk⟩ := h.low a ha
    simpa using hk) (by rw [List.length_map, h.len]) y hy
  obtain ⟨a, ha, e⟩ := List.mem_map.1 h2
  obtain ⟨k, rfl, hk⟩ := h.low a ha
  obtain ⟨i, hi, e2⟩ := List.getElem_of_mem ha
  refine ⟨i, by rw [← h.len]; exact hi, ?_⟩
  rw [List.getD_eq_getElem?_getD, List.getElem?_eq_getElem hi]
  simp only [Option.getD_some]
  rw [e2]
  have e3 : k = y := by simpa using e
  rw [e3]
theorem ordL_mem {n : Nat} {p : List Int} : p ∈ ordL n ↔ PermL n p := by
  constructor
  · intro h
    obtain ⟨h1, h2, h3, -⟩ := ordM_good n [] p h List.nodup_nil (fun x hx => by cases hx)
    exact ⟨by simpa using h3, h1, h2⟩
  · intro h
    have := mem_ordM (n := n) n [] p h.len h.low (by simpa using h.nod)
    show p ∈ ordM n n []
    simpa using this

def colD (p : List Int) (x : Nat) : Nat → Rows → Rows
  | 0, T => T
  | i + 1, T => setE (setE (colD p x i T) i (2 * x) (p.getD i 0)) ((p.getD i 0).toNat) (2 * x + 1) (i : Int)
def zeroT (n W : Nat) : Rows := List.replicate n (List.replicate W 0)
def tabD (L : List (List Int)) (n W k : Nat) : Nat → Rows
  | 0 => zeroT n W
  | x + 1 => colD (L.getD (k / L.length ^ x % L.length) []) x n (tabD L n W k x)
theorem zero_ent {n W x k : Nat} (hx : x < n) (hk : k < W) : ent (zeroT n W) x k = 0 := by
  unfold ent zeroT
  rw [List.getD_eq_getElem?_getD (l := List.replicate n _), List.getElem?_replicate, if_pos hx]
  simp [List.getD_eq_getElem?_getD, hk]
theorem zero_wide {n W : Nat} (hn : 0 < n) : Wide W (zeroT n W) := by
  refine ⟨fun x hx => ?_, fun x k => ?_⟩
  · unfold zeroT at hx ⊢
    rw [List.length_replicate] at hx
    simp [List.getD_eq_getElem?_getD, hx]
  · have hl : (zeroT n W).length = n := by simp [zeroT]
    rcases Nat.lt_or_ge x n with hx | hx
    · rcases Nat.lt_or_ge k W with hk | hk
      · rw [zero_ent hx hk, hl]; omega
      · have : ent (zeroT n W) x k = -1 := by
          unfold ent zeroT
          rw [List.getD_eq_getElem?_getD (l := List.replicate n _), List.getElem?_replicate, if_pos hx]
          simp only [Option.getD_some]
          rw [List.getD_eq_getElem?_getD, List.getElem?_eq_none (by simpa using hk)]; rfl
        rw [this, hl]; omega
    · rw [ent_out (by rw [hl]; exact hx), hl]; omega
theorem colD_ok {n W x : Nat} {p : List Int} (hp : PermL n p) (hx : 2 * x + 1 < W) {T : Rows} (hw : Wide W T) (hl : T.length = n) : ∀ c, c ≤ n →
    Wide W (colD p x c T) ∧ (colD p x c T).length = n ∧ (∀ y, y < c → ent (colD p x c T) y (2 * x) = p.getD y 0) ∧ (∀ i, i < c → ent (colD p x c T) (p.getD i 0).toNat (2 * x + 1) = (i : Int)) ∧ ∀ y j, j ≠ 2 * x → j ≠ 2 * x + 1 → ent (colD p x c T) y j = ent T y j
  | 0, _ => ⟨hw, hl, fun y h => absurd h (by omega), fun y h => absurd h (by omega), fun _ _ _ _ => rfl⟩
  | c + 1, hc => by
    obtain ⟨h1, h2, h3, h4, h5⟩ := colD_ok hp hx hw hl c (by omega)
    obtain ⟨u, hu, hun⟩ := hp.at (show c < n by omega)
    have w1 : Wide W (setE (colD p x c T) c (2 * x) ((u : Nat) : Int)) := setE_wide h1 (by omega) (by omega) (by omega)
    have hen : ∀ y j, ent (colD p x (c + 1) T) y j = if y = u ∧ j = 2 * x + 1 then (c : Int) else if y = c ∧ j = 2 * x then (u : Int) else ent (colD p x c T) y j := fun y j => by
      rw [show colD p x (c + 1) T = setE (setE (colD p x c T) c (2 * x) (p.getD c 0)) ((p.getD c 0).toNat) (2 * x + 1) (c : Int) from rfl]
      rw [hu, Int.toNat_natCast, setE_ent w1 (by rw [setE_len]; omega) (by omega), setE_ent h1 (by omega) (by omega)]
    refine ⟨?_, ?_, fun y hy => ?_, fun i hi => ?_, fun y j hj1 hj2 => ?_⟩
    · unfold colD
      rw [hu, Int.toNat_natCast]
      exact setE_wide w1 (by rw [setE_len]; omega) (by omega) (by rw [setE_len]; omega)
    · unfold colD
      rw [setE_len, setE_len]; exact h2
    · rw [hen, if_neg (by omega)]
      by_cases e : y = c
      · rw [if_pos ⟨e, rfl⟩, e, hu]
      · rw [if_neg (by omega)]; exact h3 y (by omega)
    · rw [hen]
      by_cases e : i = c
      · subst e
        rw [hu, Int.toNat_natCast, if_pos ⟨rfl, rfl⟩]
      · obtain ⟨v, hv, hvn⟩ := hp.at (show i < n by omega)
        have hne : v ≠ u := fun e2 => e (hp.inj (by omega) (by omega) (by rw [hv, hu, e2]))
        have h6 := h4 i (by omega)
        rw [hv, Int.toNat_natCast] at h6 ⊢
        rw [if_neg (fun e2 => hne e2.1), if_neg (by omega)]
        exact h6
    · rw [hen, if_neg (by omega), if_neg (by omega)]
      exact h5 y j hj1 hj2
/-- what the document's table says -/
structure TabG (ps : Nat → List Int) (n g : Nat) (T : Rows) : Prop where
  wide : Wide (2 * g) T
  len : T.length = n
  even : ∀ x, x < g → ∀ y, y < n → ent T y (2 * x) = (ps x).getD y 0
  odd : ∀ x, x < g → ∀ i, i < n → ent T ((ps x).getD i 0).toNat (2 * x + 1) = (i : Int)
theorem tabD_ok {n g k : Nat} (hn : 0 < n) {L : List (List Int)} (hL : ∀ p ∈ L, PermL n p) (h0 : 0 < L.length) : TabG (fun x => L.getD (k / L.length ^ x % L.length) []) n g (tabD L n (2 * g) k g) := by
  have hd : ∀ x, L.getD (k / L.length ^ x % L.length) [] ∈ L := fun x => by
    have h1 := Nat.mod_lt (k / L.length ^ x) h0
    rw [List.getD_eq_getElem?_getD, List.getElem?_eq_getElem h1]
    exact List.getElem_mem h1
  have key : ∀ X, X ≤ g → Wide (2 * g) (tabD L n (2 * g) k X) ∧ (tabD L n (2 * g) k X).length = n ∧ (∀ x, x < X → ∀ y, y < n → ent (tabD L n (2 * g) k X) y (2 * x) = (L.getD (k / L.length ^ x % L.length) []).getD y 0) ∧
      (∀ x, x < X → ∀ i, i < n → ent (tabD L n (2 * g) k X) ((L.getD (k / L.length ^ x % L.length) []).getD i 0).toNat (2 * x + 1) = (i : Int)) := fun X => by
    induction X with
    | zero => exact fun _ => ⟨zero_wide hn, by simp [tabD, zeroT], fun x h => absurd h (by omega), fun x h => absurd h (by omega)⟩
    | succ X ih =>
      intro hX
      obtain ⟨h1, h2, h3, h4⟩ := ih (by omega)
      obtain ⟨c1, c2, c3, c4, c5⟩ := colD_ok (hL _ (hd X)) (show 2 * X + 1 < 2 * g by omega) h1 h2 n (Nat.le_refl _)
      unfold tabD
      refine ⟨c1, c2, fun x hx y hy => ?_, fun x hx i hi => ?_⟩
      · rcases Nat.lt_or_ge x X with h | h
        · rw [c5 _ _ (by omega) (by omega)]; exact h3 x h y hy
        · obtain rfl : x = X := by omega
          exact c3 y hy
      · rcases Nat.lt_or_ge x X with h | h
        · rw [c5 _ _ (by omega) (by omega)]; exact h4 x h i hi
        · obtain rfl : x = X := by omega
          exact c4 i hi
  obtain ⟨h1, h2, h3, h4⟩ := key g (Nat.le_refl _)
  exact ⟨h1, h2, h3, h4⟩
theorem opp_even (x : Nat) : opp (2 * x) = 2 * x + 1 ∧ opp (2 * x + 1) = 2 * x := by
  have e3 : opp (2 * x) = 2 * x + 1 := by
    have := opp_lt (W := 2 * x + 2) (by omega) (k := 2 * x) (by omega)
    have h5 := opp_ne (2 * x)
    have h6 : opp (2 * x) / 2 = x := by
      unfold opp
      apply Nat.eq_of_testBit_eq
      intro i
      rw [← Nat.testBit_succ, Nat.testBit_xor, Nat.testBit_succ]
      simp [Nat.testBit_succ]
    omega
  exact ⟨e3, by rw [← e3, opp_opp]⟩
theorem TabG.entry {ps : Nat → List Int} {n g : Nat} {T : Rows} (h : TabG ps n g T) (hp : ∀ x, x < g → PermL n (ps x)) : ∀ y, y < n → ∀ j, j < 2 * g → ∃ x, x < g ∧ (j = 2 * x ∧ ent T y j = (ps x).getD y 0 ∨ j = 2 * x + 1 ∧ ∃ i, i < n ∧ (ps x).getD i 0 = (y : Int) ∧ ent T y j = (i : Int)) := fun y hy j hj => by
  refine ⟨j / 2, by omega, ?_⟩
  rcases Nat.mod_two_eq_zero_or_one j with e | e
  · left
    refine ⟨by omega, ?_⟩
    have := h.even (j / 2) (by omega) y hy
    rwa [show 2 * (j / 2) = j by omega] at this
  · right
    refine ⟨by omega, ?_⟩
    obtain ⟨i, hi, hiy⟩ := (hp (j / 2) (by omega)).sur hy
    have := h.odd (j / 2) (by omega) i hi
    rw [hiy, Int.toNat_natCast, show 2 * (j / 2) + 1 = j by omega] at this
    exact ⟨i, hi, hiy, this⟩
theorem TabG.full {ps : Nat → List Int} {n g : Nat} {T : Rows} (h : TabG ps n g T) (hp : ∀ x, x < g → PermL n (ps x)) : ∀ y, y < n → ∀ j, j < 2 * g → 0 ≤ ent T y j := fun y hy j hj => by
  obtain ⟨x, hx, ⟨-, e⟩ | ⟨-, i, hi, -, e⟩⟩ := h.entry hp y hy j hj
  · obtain ⟨k, hk, -⟩ := (hp x hx).at hy
    rw [e, hk]; omega
  · rw [e]; omega
theorem TabG.back {ps : Nat → List Int} {n g : Nat} {T : Rows} (h : TabG ps n g T) (hp : ∀ x, x < g → PermL n (ps x)) : ∀ a k b, ent T a k = ((b : Nat) : Int) → ent T b (opp k) = (a : Int) := fun a k b e => by
  obtain ⟨ha, hk, hb⟩ := h.wide.inn e
  rw [h.len] at ha hb
  obtain ⟨x, hx, ⟨rfl, e2⟩ | ⟨rfl, i, hi, e2, e3⟩⟩ := h.entry hp a ha k hk
  · have h1 := h.odd x hx a ha
    rw [← e2, e, Int.toNat_natCast] at h1
    rw [(opp_even x).1]; exact h1
  · rw [(opp_even x).2]
    obtain rfl : i = b := by omega
    rw [h.even x hx i hb, e2]
theorem TabG.same {ps qs : Nat → List Int} {n g : Nat} {A B : Rows} (h : TabG ps n g A) (h2 : TabG qs n g B) (hp : ∀ x, x < g → PermL n (ps x)) (he : ∀ x, x < g → ps x = qs x) : A = B := by
  have hq : ∀ x, x < g → PermL n (qs x) := fun x hx => by rw [← he x hx]; exact hp x hx
  refine rows_eq h.wide h2.wide (by rw [h.len, h2.len]) fun p hpp => ?_
  rw [h.len] at hpp
  have hg : 0 < 2 * g := by
    rcases Nat.eq_zero_or_pos (2 * g) with e | e
    · rw [e] at hpp; simp at hpp
    · exact e
  have hy : p / (2 * g) < n := Nat.div_lt_of_lt_mul (by rw [Nat.mul_comm]; exact hpp)
  have hj : p % (2 * g) < 2 * g := Nat.mod_lt _ hg
  unfold pent
  generalize p / (2 * g) = y at hy
  generalize p % (2 * g) = j at hj
  obtain ⟨x, hx, ⟨rfl, e2⟩ | ⟨rfl, i, hi, e2, e3⟩⟩ := h.entry hp y hy j hj
  · rw [e2, h2.even x hx y hy, he x hx]
  · rw [he x hx] at e2
    have h5 := h2.odd x hx i hi
    rw [e2, Int.toNat_natCast] at h5
    rw [e3, h5]
theorem digits {m : Nat} (hm : 0 < m) : ∀ (g : Nat) (d : Nat → Nat), (∀ x, x < g → d x < m) → ∃ k, k < m ^ g ∧ ∀ x, x < g → k / m ^ x % m = d x
  | 0, d, _ => ⟨0, by simp, fun x h => absurd h (by omega)⟩
  | g + 1, d, h => by
    obtain ⟨k, hk, hd⟩ := digits hm g (fun x => d (x + 1)) (fun x hx => h (x + 1) (by omega))
    have h0 := h 0 (by omega)
    refine ⟨d 0 + m * k, ?_, fun x hx => ?_⟩
    · have h1 : m * (k + 1) ≤ m * m ^ g := Nat.mul_le_mul_left m hk
      rw [Nat.pow_succ, Nat.mul_comm (m ^ g)]
      rw [Nat.mul_succ] at h1
      omega
    · cases x with
      | zero => rw [Nat.pow_zero, Nat.div_one, Nat.add_mul_mod_self_left, Nat.mod_eq_of_lt h0]
      | succ x =>
        rw [Nat.pow_succ, Nat.mul_comm (m ^ x), ← Nat.div_div_eq_div_mul, Nat.add_mul_div_left _ _ hm, Nat.div_eq_of_lt h0, Nat.zero_add]
        exact hd x (by omega)
theorem digits_inj {m : Nat} (hm : 0 < m) : ∀ (g : Nat) {j k : Nat}, j < m ^ g → k < m ^ g → (∀ x, x < g → j / m ^ x % m = k / m ^ x % m) → j = k
  | 0, j, k, hj, hk, _ => by rw [Nat.pow_zero] at hj hk; omega
  | g + 1, j, k, hj, hk, h => by
    have h0 := h 0 (by omega)
    rw [Nat.pow_zero, Nat.div_one, Nat.div_one] at h0
    rw [Nat.pow_succ] at hj hk
    have h1 := digits_inj hm g (j := j / m) (k := k / m) (Nat.div_lt_of_lt_mul (by rw [Nat.mul_comm]; exact hj)) (Nat.div_lt_of_lt_mul (by rw [Nat.mul_comm]; exact hk)) (fun x hx => by
      have := h (x + 1) (by omega)
      rwa [Nat.pow_succ, Nat.mul_comm (m ^ x), ← Nat.div_div_eq_div_mul, ← Nat.div_div_eq_div_mul] at this)
    have e1 := Nat.div_add_mod j m
    have e2 := Nat.div_add_mod k m
    rw [h1, h0] at e1
    omega

/-- a table put into a sorted list -/
def putT (l : List Rows) (t : Rows) : List Rows := l.take (l.takeWhile fun s => ah s.flatten t.flatten).length ++ t :: l.drop (l.takeWhile fun s => ah s.flatten t.flatten).length
def SortedT (l : List Rows) : Prop := l.Pairwise fun a b => ah a.flatten b.flatten = true
theorem take_while {α : Type} (f : α → Bool) : ∀ l : List α, l.take (l.takeWhile f).length = l.takeWhile f ∧ (∀ x r, l.drop (l.takeWhile f).length = x :: r → f x = false)
  | [] => ⟨rfl, fun x r h => by simp at h⟩
  | a :: l => by
    by_cases c : f a = true
    · rw [List.takeWhile_cons, if_pos c]
      obtain ⟨h1, h2⟩ := take_while f l
      exact ⟨by simp [h1], fun x r h => h2 x r (by simpa using h)⟩
    · rw [List.takeWhile_cons, if_neg c]
      exact ⟨rfl, fun x r h => by
        obtain ⟨rfl, -⟩ := List.cons.inj (by simpa using h : a :: l = x :: r)
        simpa using c⟩
theorem putT_ok {l : List Rows} {t : Rows} (h : SortedT l) (ht : ∀ s ∈ l, s.flatten ≠ t.flatten) : SortedT (putT l t) ∧ ∀ A, A ∈ putT l t ↔ A ∈ l ∨ A = t := by
  obtain ⟨h1, h2⟩ := take_while (fun s : Rows => ah s.flatten t.flatten) l
  unfold putT
  generalize (l.takeWhile fun s => ah s.flatten t.flatten).length = j at h1 h2 ⊢
  have hl : l = l.take j ++ l.drop j := (List.take_append_drop j l).symm
  have hs := h
  unfold SortedT at hs
  rw [hl] at hs
  obtain ⟨s1, s2, s3⟩ := List.pairwise_append.1 hs
  have hlo : ∀ a ∈ l.take j, ah a.flatten t.flatten = true := fun a ha => by
    rw [h1] at ha
    exact List.all_eq_true.1 (List.all_takeWhile (p := fun s : Rows => ah s.flatten t.flatten) (l := l)) a ha
  have hhi : ∀ b ∈ l.drop j, ah t.flatten b.flatten = true := fun b hb => by
    cases e : l.drop j with
    | nil => rw [e] at hb; cases hb
    | cons x r =>
      have hx := h2 x r e
      have hxl : x ∈ l := List.mem_of_mem_drop (i := j) (by rw [e]; exact List.mem_cons_self)
      have htx : ah t.flatten x.flatten = true := by
        rcases ah_total (ht x hxl) with h3 | h3
        · have hx' : ah x.flatten t.flatten = false := hx
          rw [hx'] at h3; cases h3
        · exact h3
      rw [e] at hb s2
      rcases List.mem_cons.1 hb with rfl | hb
      · exact htx
      · exact ah_trans htx ((List.pairwise_cons.1 s2).1 b hb)
  refine ⟨List.pairwise_append.2 ⟨s1, List.pairwise_cons.2 ⟨hhi, s2⟩, fun a ha b hb => ?_⟩, fun A => ?_⟩
  · rcases List.mem_cons.1 hb with rfl | hb
    · exact hlo a ha
    · exact s3 a ha b hb
  · have hm : A ∈ l ↔ A ∈ l.take j ∨ A ∈ l.drop j := by
      conv => lhs; rw [hl]
      exact List.mem_append
    rw [List.mem_append, List.mem_cons, hm]
    constructor
    · rintro (h3 | h3 | h3)
      · exact .inl (.inl h3)
      · exact .inr h3
      · exact .inl (.inr h3)
    · rintro ((h3 | h3) | h3)
      · exact .inl h3
      · exact .inr (.inr h3)
      · exact .inr (.inl h3)
/-- the document's tables, of the first ways -/
def docL (L : List (List Int)) (n g : Nat) (good : Rows → Bool) : Nat → List Rows
  | 0 => []
  | k + 1 => if good (tabD L n (2 * g) k g) = true then putT (docL L n g good k) (tabD L n (2 * g) k g) else docL L n g good k
theorem docL_ok {L : List (List Int)} {n g : Nat} {good : Rows → Bool} (hinj : ∀ j k, j < L.length ^ g → k < L.length ^ g → (tabD L n (2 * g) j g).flatten = (tabD L n (2 * g) k g).flatten → j = k) :
    ∀ k, k ≤ L.length ^ g → SortedT (docL L n g good k) ∧ ∀ A, A ∈ docL L n g good k ↔ ∃ j, j < k ∧ tabD L n (2 * g) j g = A ∧ good A = true
  | 0, _ => ⟨List.Pairwise.nil, fun A => ⟨fun h => (by cases h), fun ⟨j, h, _⟩ => absurd h (by omega)⟩⟩
  | k + 1, hk => by
    obtain ⟨h1, h2⟩ := docL_ok hinj k (by omega)
    unfold docL
    by_cases c : good (tabD L n (2 * g) k g) = true
    · rw [if_pos c]
      obtain ⟨h3, h4⟩ := putT_ok (t := tabD L n (2 * g) k g) h1 fun s hs e => by
        obtain ⟨j, hj, rfl, -⟩ := (h2 s).1 hs
        have := hinj j k (by omega) (by omega) e
        omega
      refine ⟨h3, fun A => (h4 A).trans ⟨?_, ?_⟩⟩
      · rintro (h | rfl)
        · obtain ⟨j, hj, e⟩ := (h2 A).1 h
          exact ⟨j, by omega, e⟩
        · exact ⟨k, by omega, rfl, c⟩
      · rintro ⟨j, hj, e1, e2⟩
        rcases Nat.lt_or_ge j k with h | h
        · exact .inl ((h2 A).2 ⟨j, h, e1, e2⟩)
        · obtain rfl : j = k := by omega
          exact .inr e1.symm
    · rw [if_neg c]
      refine ⟨h1, fun A => (h2 A).trans ⟨?_, ?_⟩⟩
      · rintro ⟨j, hj, e⟩; exact ⟨j, by omega, e⟩
      · rintro ⟨j, hj, e1, e2⟩
        rcases Nat.lt_or_ge j k with h | h
        · exact ⟨j, h, e1, e2⟩
        · obtain rfl : j = k := by omega
          rw [e1] at c; exact absurd e2 c

/-- the document's Standard, row by row and place by place -/
theorem stdC_stdP {W i nx : Nat} {T : Rows} (hi : (T.getD i []).length = W) (h : stdP W T (i * W) = some nx) (hm : ¬ nx ≤ i) : ∀ k, k ≤ W → stdP W T (i * W + k) = stdC (T.getD i []) k nx ∧ ∀ n1, stdP W T (i * W + k) = some n1 → ¬ n1 ≤ i
  | 0, _ => ⟨by rw [Nat.add_zero, h]; rfl, fun n1 e => by rw [Nat.add_zero, h] at e; rw [← Option.some.inj e]; exact hm⟩
  | k + 1, hk => by
    obtain ⟨h1, h2⟩ := stdC_stdP hi h hm k (by omega)
    have hd : (i * W + k) / W = i := by rw [Nat.mul_comm, Nat.mul_add_div (by omega), Nat.div_eq_of_lt (by omega)]; rfl
    have hmo : (i * W + k) % W = k := by rw [Nat.mul_comm, Nat.mul_add_mod, Nat.mod_eq_of_lt (by omega)]
    have hp : pent W T (i * W + k) = (T.getD i []).getD k (-1) := by unfold pent ent; rw [hd, hmo]
    have e1 : stdP W T (i * W + (k + 1)) = stdC (T.getD i []) (k + 1) nx := by
      rw [← Nat.add_assoc, stdP, stdC, ← h1]
      cases e : stdP W T (i * W + k) with
      | none => rfl
      | some n1 =>
        have h3 := h2 n1 e
        simp only
        rw [hd, if_neg h3, hp]
    refine ⟨e1, fun n1 e => ?_⟩
    rw [← Nat.add_assoc] at e
    obtain ⟨n2, h4, -, -, h5⟩ := stdP_step e
    have h6 := h2 n2 h4
    split at h5 <;> omega
theorem stdN_stdP {W : Nat} (hW : 0 < W) {T : Rows} (hw : Wide W T) : ∀ i, i ≤ T.length → stdN T i = stdP W T (i * W)
  | 0, _ => by rw [Nat.zero_mul]; rfl
  | i + 1, hi => by
    have ih := stdN_stdP hW hw i (by omega)
    rw [stdN, ih]
    have hl := hw.len i (by omega)
    cases e : stdP W T (i * W) with
    | none =>
      simp only
      cases e2 : stdP W T ((i + 1) * W) with
      | none => rfl
      | some n1 =>
        obtain ⟨n2, h1, -⟩ := stdP_down (show i * W ≤ (i + 1) * W from Nat.mul_le_mul_right W (by omega)) e2
        rw [e] at h1; cases h1
    | some nx =>
      simp only
      by_cases c : nx ≤ i
      · rw [if_pos c]
        have e2 : stdP W T (i * W + 1) = none := by
          rw [stdP, e]
          simp only
          rw [if_pos]
          rw [Nat.mul_div_cancel _ hW]; exact c
        cases e3 : stdP W T ((i + 1) * W) with
        | none => rfl
        | some n1 =>
          obtain ⟨n2, h1, -⟩ := stdP_down (show i * W + 1 ≤ (i + 1) * W by rw [Nat.succ_mul]; omega) e3
          rw [e2] at h1; cases h1
      · rw [if_neg c, hl, ← (stdC_stdP hl e c W (Nat.le_refl _)).1, ← Nat.succ_mul]
theorem stdN_downT {T : Rows} : ∀ {K k n : Nat}, k ≤ K → stdN T K = some n → ∃ n1, stdN T k = some n1 ∧ True
  | 0, k, n, hk, h => by
    obtain rfl : k = 0 := by omega
    exact ⟨n, h, trivial⟩
  | K + 1, k, n, hk, h => by
    rcases Nat.eq_or_lt_of_le hk with rfl | hlt
    · exact ⟨n, h, trivial⟩
    · have h1 : ∃ n1, stdN T K = some n1 := by
        unfold stdN at h
        cases e : stdN T K with
        | none => rw [e] at h; cases h
        | some n1 => exact ⟨n1, rfl⟩
      obtain ⟨n1, h1⟩ := h1
      exact stdN_downT (by omega) h1
theorem stdB_iff {W n : Nat} {T : Rows} (hn : 0 < n) (hw : Wide W T) (hl : T.length = n) : stdB T = true ↔ stdP W T (n * W) = some n := by
  unfold stdB
  rw [beq_iff_eq, hl]
  rcases Nat.eq_zero_or_pos W with e | e
  · subst e
    rw [Nat.mul_zero]
    rcases (show n = 1 ∨ 2 ≤ n by omega) with rfl | h2
    · have h1 : stdN T 1 = some 1 := by
        have hz := hw.len 0 (by omega)
        rw [stdN, stdN]
        simp only
        rw [if_neg (by omega), hz]; rfl
      exact ⟨fun _ => rfl, fun _ => h1⟩
    · constructor
      · intro h
        obtain ⟨n2, h3, -⟩ := stdN_downT h2 h
        have hz := hw.len 0 (by omega)
        rw [stdN, stdN, stdN] at h3
        simp only at h3
        rw [if_neg (by omega), hz] at h3
        simp [stdC] at h3
      · intro h
        have : (1 : Nat) = n := Option.some.inj h
        omega
  · rw [stdN_stdP e hw n (by omega)]

def emptyT (n W : Nat) : Rows := List.replicate n (List.replicate W (-1))
theorem empty_len (n W : Nat) : (emptyT n W).length = n := by simp [emptyT]
theorem empty_ent (n W x k : Nat) : ent (emptyT n W) x k = -1 := by
  unfold ent emptyT
  rw [List.getD_eq_getElem?_getD (l := List.replicate n _), List.getElem?_replicate]
  split
  · simp only [Option.getD_some]
    rw [List.getD_eq_getElem?_getD, List.getElem?_replicate]
    split <;> rfl
  · simp
theorem empty_wide (n W : Nat) : Wide W (emptyT n W) := by
  refine ⟨fun x hx => ?_, fun x k => ?_⟩
  · unfold emptyT at hx ⊢
    rw [List.length_replicate] at hx
    simp [List.getD_eq_getElem?_getD, hx]
  · rw [empty_ent, empty_len]; omega
theorem empty_ok {n W : Nat} (hn : 0 < n) (rels : List (List Nat)) : FOk (holdM n rels) W n (n * W) (emptyT n W) 1 := by
  refine ⟨empty_wide n W, empty_len n W, fun a k b e => ?_, fun a k b e => ?_, hn, fun p hp => absurd hp (by omega), ?_, ?_, Nat.le_refl _⟩
  · rw [empty_ent] at e; omega
  · rw [empty_ent] at e; omega
  · rw [Nat.sub_self]; rfl
  · refine holdM_iff.2 fun i _ r _ => ?_
    cases r with
    | nil => exact .inr rfl
    | cons k r => left; unfold pathM; rw [empty_ent, if_pos (by omega)]; omega
def subF (n g : Nat) (rels : List (List Nat)) : List Rows := fillM (holdM n rels) (2 * g) n (n * (2 * g)) (emptyT n (2 * g)) 1
def goodD (n : Nat) (rels : List (List Nat)) (T : Rows) : Bool := stdB T && holdT n rels T
theorem permL_of {n : Nat} : ∀ p ∈ ordL n, PermL n p := fun p hp => ordL_mem.1 hp
theorem ordL_pos {n : Nat} (hn5 : n < 5) : 0 < (ordL n).length := by
  rw [(ordL_nodup n hn5).2]
  rcases (show n = 0 ∨ n = 1 ∨ n = 2 ∨ n = 3 ∨ n = 4 by omega) with rfl | rfl | rfl | rfl | rfl <;> decide
theorem tab_inj {n g : Nat} (hn : 0 < n) (hn5 : n < 5) (j k : Nat) (hj : j < (ordL n).length ^ g) (hk : k < (ordL n).length ^ g) (e : (tabD (ordL n) n (2 * g) j g).flatten = (tabD (ordL n) n (2 * g) k g).flatten) : j = k := by
  have h0 := ordL_pos hn5
  have a := tabD_ok (g := g) (k := j) hn permL_of h0
  have b := tabD_ok (g := g) (k := k) hn permL_of h0
  have e2 := flat_inj a.wide b.wide a.len b.len e
  refine digits_inj h0 g hj hk fun x hx => ?_
  have h1 := Nat.mod_lt (j / (ordL n).length ^ x) h0
  have h2 := Nat.mod_lt (k / (ordL n).length ^ x) h0
  have e3 : (ordL n).getD (j / (ordL n).length ^ x % (ordL n).length) [] = (ordL n).getD (k / (ordL n).length ^ x % (ordL n).length) [] := by
    have p1 : PermL n ((ordL n).getD (j / (ordL n).length ^ x % (ordL n).length) []) := permL_of _ (by rw [List.getD_eq_getElem?_getD, List.getElem?_eq_getElem h1]; exact List.getElem_mem h1)
    have p2 : PermL n ((ordL n).getD (k / (ordL n).length ^ x % (ordL n).length) []) := permL_of _ (by rw [List.getD_eq_getElem?_getD, List.getElem?_eq_getElem h2]; exact List.getElem_mem h2)
    refine List.ext_getElem (by rw [p1.len, p2.len]) fun y hy hy2 => ?_
    have hyn : y < n := by rw [p1.len] at hy; exact hy
    have c1 := a.even x hx y hyn
    have c2 := b.even x hx y hyn
    rw [e2, c2] at c1
    rw [List.getD_eq_getElem?_getD (l := (ordL n).getD (k / (ordL n).length ^ x % (ordL n).length) []), List.getElem?_eq_getElem hy2, List.getD_eq_getElem?_getD (l := (ordL n).getD (j / (ordL n).length ^ x % (ordL n).length) []), List.getElem?_eq_getElem hy] at c1
    exact c1.symm
  rw [List.getD_eq_getElem?_getD, List.getD_eq_getElem?_getD, List.getElem?_eq_getElem h1, List.getElem?_eq_getElem h2] at e3
  exact (List.getElem_inj (ordL_nodup n hn5).1).1 e3
theorem tab_of {n g : Nat} (hn : 0 < n) (hn5 : n < 5) {A : Rows} (hw : Wide (2 * g) A) (hl : A.length = n) (hb : ∀ a k b, ent A a k = ((b : Nat) : Int) → ent A b (opp k) = (a : Int)) (hf : ∀ y, y < n → ∀ j, j < 2 * g → 0 ≤ ent A y j) :
    ∃ j, j < (ordL n).length ^ g ∧ tabD (ordL n) n (2 * g) j g = A := by
  have h0 := ordL_pos hn5
  have nat : ∀ y, y < n → ∀ j, j < 2 * g → ∃ u : Nat, ent A y j = (u : Int) ∧ u < n := fun y hy j hj => by
    have h1 := hf y hy j hj
    have h2 := (hw.ent y j).2
    rw [hl] at h2
    exact ⟨(ent A y j).toNat, by omega, by omega⟩
  let ps : Nat → List Int := fun x => (List.range n).map fun y => ent A y (2 * x)
  have pat : ∀ x y, y < n → (ps x).getD y 0 = ent A y (2 * x) := fun x y hy => by
    show ((List.range n).map _).getD y 0 = _
    rw [List.getD_eq_getElem?_getD, List.getElem?_map, List.getElem?_range hy]; rfl
  have hp : ∀ x, x < g → PermL n (ps x) := fun x hx => by
    refine ⟨by simp [ps], ?_, fun z hz => ?_⟩
    · show ((List.range n).map _).Nodup
      rw [List.Nodup, List.pairwise_map]
      refine List.Pairwise.imp_of_mem ?_ (List.nodup_range (n := n))
      intro a b ha hb2 hne e
      obtain ⟨u, hu, -⟩ := nat a (List.mem_range.1 ha) (2 * x) (by omega)
      have e1 := hb _ _ _ hu
      rw [e] at hu
      have e2 := hb _ _ _ hu
      rw [e1] at e2
      exact hne (by omega)
    · obtain ⟨y, hy, rfl⟩ := List.mem_map.1 hz
      exact nat y (List.mem_range.1 hy) (2 * x) (by omega)
  have hA : TabG ps n g A := ⟨hw, hl, fun x hx y hy => (pat x y hy).symm, fun x hx i hi => by
    rw [pat x i hi]
    obtain ⟨u, hu, -⟩ := nat i hi (2 * x) (by omega)
    rw [hu, Int.toNat_natCast, ← (opp_even x).1]
    exact hb _ _ _ hu⟩
  have hix : ∀ x, x < g → ∃ d, d < (ordL n).length ∧ (ordL n).getD d [] = ps x := fun x hx => by
    obtain ⟨d, hd, e⟩ := List.getElem_of_mem (ordL_mem.2 (hp x hx))
    exact ⟨d, hd, by rw [List.getD_eq_getElem?_getD, List.getElem?_eq_getElem hd]; exact e⟩
  obtain ⟨k, hk, hd⟩ := digits h0 g (fun x => if hx : x < g then (hix x hx).choose else 0) (fun x hx => by rw [dif_pos hx]; exact (hix x hx).choose_spec.1)
  refine ⟨k, hk, (tabD_ok (g := g) (k := k) hn permL_of h0).same hA (fun x hx => ?_) (fun x hx => ?_)⟩
  · have h1 := Nat.mod_lt (k / (ordL n).length ^ x) h0
    exact permL_of _ (by rw [List.getD_eq_getElem?_getD, List.getElem?_eq_getElem h1]; exact List.getElem_mem h1)
  · show (ordL n).getD (k / (ordL n).length ^ x % (ordL n).length) [] = ps x
    rw [hd x hx, dif_pos hx]
    exact (hix x hx).choose_spec.2
theorem tab_perm {n g k : Nat} (hn5 : n < 5) : ∀ x, x < g → PermL n ((ordL n).getD (k / (ordL n).length ^ x % (ordL n).length) []) := fun x _ => by
  have h1 := Nat.mod_lt (k / (ordL n).length ^ x) (ordL_pos hn5)
  exact permL_of _ (by rw [List.getD_eq_getElem?_getD, List.getElem?_eq_getElem h1]; exact List.getElem_mem h1)
theorem places {n W : Nat} {A : Rows} (h : ∀ p, p < n * W → 0 ≤ pent W A p) : ∀ y, y < n → ∀ j, j < W → 0 ≤ ent A y j := fun y hy j hj => by
  have h1 : y * W + j < n * W := by
    have := Nat.mul_le_mul_right W (show y + 1 ≤ n from hy)
    rw [Nat.succ_mul] at this
    omega
  have h2 := h _ h1
  unfold pent at h2
  rwa [show (y * W + j) / W = y by rw [Nat.mul_comm, Nat.mul_add_div (by omega), Nat.div_eq_of_lt hj]; rfl, show (y * W + j) % W = j by rw [Nat.mul_comm, Nat.mul_add_mod, Nat.mod_eq_of_lt hj]] at h2
theorem good_iff {n g : Nat} (hn : 0 < n) {rels : List (List Nat)} (hr : ∀ r ∈ rels, ∀ k ∈ r, k < 2 * g) {A : Rows} (hw : Wide (2 * g) A) (hl : A.length = n) (hb : ∀ a k b, ent A a k = ((b : Nat) : Int) → ent A b (opp k) = (a : Int)) (hf : ∀ y, y < n → ∀ j, j < 2 * g → 0 ≤ ent A y j) :
    FGood (holdM n rels) (2 * g) n A ↔ goodD n rels A = true := by
  have e := holdT_eq hw hl hf hr
  unfold goodD
  rw [Bool.and_eq_true, stdB_iff hn hw hl, ← e]
  refine ⟨fun h => ⟨h.std, h.ok⟩, fun h => ⟨hw, hl, hb, fun p hp => ?_, h.1, h.2⟩⟩
  have hg : 0 < 2 * g := by
    rcases Nat.eq_zero_or_pos (2 * g) with e | e
    · rw [e] at hp; simp at hp
    · exact e
  exact hf _ (Nat.div_lt_of_lt_mul (by rw [Nat.mul_comm]; exact hp)) _ (Nat.mod_lt _ hg)
/-- what fill tells is what the document tells -/
theorem sub_eq {n g : Nat} (hn : 0 < n) (hn5 : n < 5) {rels : List (List Nat)} (hr : ∀ r ∈ rels, ∀ k ∈ r, k < 2 * g) : subF n g rels = docL (ordL n) n g (goodD n rels) ((ordL n).length ^ g) := by
  have hW2 : (2 * g) % 2 = 0 := by omega
  have h0 := ordL_pos hn5
  have hok := empty_ok (W := 2 * g) hn rels
  obtain ⟨d1, d2⟩ := docL_ok (good := goodD n rels) (tab_inj (g := g) hn hn5) _ (Nat.le_refl _)
  have hmem : ∀ A, A ∈ subF n g rels ↔ FGood (holdM n rels) (2 * g) n A := fun A => by
    refine ⟨fun h => (fill_sound hW2 hok h).1, fun h => fill_compl hW2 (fun A B => hold_mono A B) hok h fun x k u e => ?_⟩
    rw [empty_ent] at e; omega
  have hmem2 : ∀ A, A ∈ docL (ordL n) n g (goodD n rels) ((ordL n).length ^ g) ↔ FGood (holdM n rels) (2 * g) n A := fun A => by
    rw [d2]
    constructor
    · rintro ⟨j, hj, rfl, hg⟩
      have t := tabD_ok (g := g) (k := j) hn permL_of h0
      exact (good_iff hn hr t.wide t.len (t.back (tab_perm hn5)) (t.full (tab_perm hn5))).2 hg
    · intro h
      have hf := places h.full
      obtain ⟨j, hj, e⟩ := tab_of hn hn5 h.wide h.len h.back hf
      exact ⟨j, hj, e, (good_iff hn hr h.wide h.len h.back hf).1 h⟩
  have s1 : SortedF ((subF n g rels).map List.flatten) := by
    rw [SortedF, List.pairwise_map]
    refine List.Pairwise.imp_of_mem ?_ (fill_sorted hW2 hok)
    intro a b ha hb h
    have fa := (hmem a).1 ha
    have fb := (hmem b).1 hb
    exact ltP_ah fa.wide fb.wide fa.len fb.len h
  have s2 : SortedF ((docL (ordL n) n g (goodD n rels) ((ordL n).length ^ g)).map List.flatten) := by
    rw [SortedF, List.pairwise_map]; exact d1
  have e := SortedF.ext s1 s2 fun f => by
    rw [List.mem_map, List.mem_map]
    constructor
    · rintro ⟨A, hA, rfl⟩; exact ⟨A, (hmem2 A).2 ((hmem A).1 hA), rfl⟩
    · rintro ⟨A, hA, rfl⟩; exact ⟨A, (hmem A).2 ((hmem2 A).1 hA), rfl⟩
  have inj : ∀ (l m : List Rows), (∀ A ∈ l, Wide (2 * g) A ∧ A.length = n) → (∀ A ∈ m, Wide (2 * g) A ∧ A.length = n) → l.map List.flatten = m.map List.flatten → l = m := fun l => by
    induction l with
    | nil => intro m _ _ h; cases m with
      | nil => rfl
      | cons b m => simp at h
    | cons a l ih => intro m hl hm h; cases m with
      | nil => simp at h
      | cons b m =>
        rw [List.map_cons, List.map_cons] at h
        obtain ⟨h1, h2⟩ := List.cons.inj h
        obtain ⟨a1, a2⟩ := hl a List.mem_cons_self
        obtain ⟨b1, b2⟩ := hm b List.mem_cons_self
        rw [flat_inj a1 b1 a2 b2 h1, ih m (fun A hA => hl A (List.mem_cons_of_mem _ hA)) (fun A hA => hm A (List.mem_cons_of_mem _ hA)) h2]
  exact inj _ _ (fun A hA => ⟨((hmem A).1 hA).wide, ((hmem A).1 hA).len⟩) (fun A hA => ⟨((hmem2 A).1 hA).wide, ((hmem2 A).1 hA).len⟩) e
theorem docL_len (L : List (List Int)) (n g : Nat) (good : Rows → Bool) : ∀ k, (docL L n g good k).length ≤ k
  | 0 => Nat.le_refl _
  | k + 1 => by
    have := docL_len L n g good k
    unfold docL
    split
    · unfold putT
      rw [List.length_append, List.length_cons, List.length_take, List.length_drop]
      omega
    · omega
theorem subF_len {n g : Nat} (hn : 0 < n) (hn5 : n < 5) {rels : List (List Nat)} (hr : ∀ r ∈ rels, ∀ k ∈ r, k < 2 * g) : (subF n g rels).length ≤ (ordL n).length ^ g := by
  rw [sub_eq hn hn5 hr]; exact docL_len _ _ _ _ _
theorem subF_good {n g : Nat} (hn : 0 < n) {rels : List (List Nat)} {A : Rows} (hA : A ∈ subF n g rels) : FGood (holdM n rels) (2 * g) n A := (fill_sound (by omega) (empty_ok (W := 2 * g) hn rels) hA).1

/-! how many, of a free group: the tables as one number -/
def dig (T q : Nat) : Nat := T / 8 ^ q % 8
theorem dig_add {T p v : Nat} (h : dig T p = 0) (hv : v < 8) (q : Nat) : dig (T + v * 8 ^ p) q = if q = p then v else dig T q := by
  unfold dig at h ⊢
  have hpos : ∀ i, 0 < 8 ^ i := fun i => Nat.pow_pos (by decide)
  rcases Nat.lt_trichotomy q p with c | c | c
  · rw [if_neg (by omega)]
    have e : 8 ^ p = 8 * 8 ^ (p - q - 1) * 8 ^ q := by rw [← Nat.pow_succ', ← Nat.pow_add]; congr 1; omega
    rw [e, ← Nat.mul_assoc, Nat.add_mul_div_right _ _ (hpos q), show v * (8 * 8 ^ (p - q - 1)) = 8 * (v * 8 ^ (p - q - 1)) by rw [← Nat.mul_assoc, Nat.mul_comm v 8, Nat.mul_assoc], Nat.add_mul_mod_self_left]
  · subst c
    rw [if_pos rfl, Nat.add_mul_div_right _ _ (hpos q)]
    omega
  · rw [if_neg (by omega)]
    have e : 8 ^ q = 8 ^ p * 8 * 8 ^ (q - p - 1) := by rw [← Nat.pow_succ, ← Nat.pow_add]; congr 1; omega
    rw [e, ← Nat.div_div_eq_div_mul, ← Nat.div_div_eq_div_mul, ← Nat.div_div_eq_div_mul, ← Nat.div_div_eq_div_mul, Nat.add_mul_div_right _ _ (hpos p), show (T / 8 ^ p + v) / 8 = T / 8 ^ p / 8 by omega]
def forceN {α : Type} : Nat → (Nat → α) → α
  | 0, f => f 0
  | n + 1, f => f (n + 1)
theorem forceN_eq {α : Type} (n : Nat) (f : Nat → α) : forceN n f = f n := by cases n <;> rfl
def sumN : Nat → (Nat → Nat) → Nat
  | 0, _ => 0
  | m + 1, f => sumN m f + f m
theorem sumN_congr {f g : Nat → Nat} : ∀ {m : Nat}, (∀ i, i < m → f i = g i) → sumN m f = sumN m g
  | 0, _ => rfl
  | m + 1, h => by rw [sumN, sumN, sumN_congr (fun i hi => h i (by omega)), h m (by omega)]
theorem len_flatMap {α : Type} (f : Nat → List α) : ∀ m, ((List.range m).flatMap f).length = sumN m fun i => (f i).length
  | 0 => rfl
  | m + 1 => by rw [List.range_succ, List.flatMap_append, List.length_append, len_flatMap f m, sumN]; simp
def cntN (W n : Nat) : Nat → Nat → Nat → Nat
  | 0, _, met => if met = n then 1 else 0
  | r + 1, T, met =>
    if met ≤ (n * W - (r + 1)) / W then 0
    else if dig T (n * W - (r + 1)) ≠ 0 then cntN W n r T met
    else sumN (min (met + 1) n) fun to =>
      if dig T (to * W + opp ((n * W - (r + 1)) % W)) ≠ 0 then 0
      else forceN (T + (to + 1) * 8 ^ (n * W - (r + 1)) + ((n * W - (r + 1)) / W + 1) * 8 ^ (to * W + opp ((n * W - (r + 1)) % W))) fun T' => forceN (max met (to + 1)) fun m' => cntN W n r T' m'
theorem cnt_fill {W n : Nat} (hW2 : W % 2 = 0) (hn7 : n < 7) : ∀ {r met : Nat} {T : Rows} {C : Nat}, FOk (fun _ => true) W n r T met → (∀ q, q < n * W → dig C q = (pent W T q + 1).toNat) → (fillM (fun _ => true) W n r T met).length = cntN W n r C met
  | 0, met, T, C, h, hC => by
    unfold fillM cntN
    split <;> rfl
  | r + 1, met, T, C, h, hC => by
    obtain ⟨h1, h2, h3⟩ := place_lt h.hr
    have hr := h.hr
    unfold fillM cntN
    by_cases hm : met ≤ (n * W - (r + 1)) / W
    · rw [if_pos hm, if_pos hm]; rfl
    · rw [if_neg hm, if_neg hm]
      have hd := hC (n * W - (r + 1)) (by omega)
      have hwe := (h.wide.ent ((n * W - (r + 1)) / W) ((n * W - (r + 1)) % W)).1
      by_cases hp : 0 ≤ pent W T (n * W - (r + 1))
      · rw [if_pos hp, if_pos (by omega)]
        exact cnt_fill hW2 hn7 (h.skip hm hp) hC
      · rw [if_neg hp, if_neg (by omega), len_flatMap]
        refine sumN_congr fun to ht => ?_
        have hk2 := opp_lt hW2 h2
        have htn : to < n := by omega
        have hq : to * W + opp ((n * W - (r + 1)) % W) < n * W := by
          have := Nat.mul_le_mul_right W (show to + 1 ≤ n from htn)
          rw [Nat.succ_mul] at this
          omega
        have hqd : (to * W + opp ((n * W - (r + 1)) % W)) / W = to := by rw [Nat.mul_comm, Nat.mul_add_div (by omega), Nat.div_eq_of_lt hk2]; rfl
        have hqm : (to * W + opp ((n * W - (r + 1)) % W)) % W = opp ((n * W - (r + 1)) % W) := by rw [Nat.mul_comm, Nat.mul_add_mod, Nat.mod_eq_of_lt hk2]
        have hd2 := hC _ hq
        have hpe : pent W T (to * W + opp ((n * W - (r + 1)) % W)) = ent T to (opp ((n * W - (r + 1)) % W)) := by unfold pent; rw [hqd, hqm]
        have hwe2 := (h.wide.ent to (opp ((n * W - (r + 1)) % W))).1
        by_cases hto : 0 ≤ ent T to (opp ((n * W - (r + 1)) % W))
        · rw [if_pos hto, if_pos (by rw [hd2, hpe]; omega)]; rfl
        · rw [if_neg hto, if_pos rfl, if_neg (by rw [hd2, hpe]; omega), forceN_eq, forceN_eq]
          obtain ⟨hF, s1, s2, -⟩ := h.step hW2 hm hp ht hto rfl
          refine cnt_fill hW2 hn7 hF fun q hqn => ?_
          have hne : n * W - (r + 1) ≠ to * W + opp ((n * W - (r + 1)) % W) := fun e => by
            have e2 : (n * W - (r + 1)) % W = (to * W + opp ((n * W - (r + 1)) % W)) % W := by rw [← e]
            rw [hqm] at e2
            exact opp_ne _ e2.symm
          have d1 := dig_add (T := C) (p := n * W - (r + 1)) (v := to + 1) (by omega) (by omega)
          have d2 := dig_add (T := C + (to + 1) * 8 ^ (n * W - (r + 1))) (p := to * W + opp ((n * W - (r + 1)) % W)) (v := (n * W - (r + 1)) / W + 1) (by rw [d1, if_neg (fun e => hne e.symm), hd2, hpe]; omega) (by omega)
          rw [d2, d1]
          have he := stepF_ent h.wide h.len h1 h2 hk2 htn (q / W) (q % W)
          unfold pent
          rw [he]
          have hqe : ∀ a b, b < W → (q = a * W + b ↔ q / W = a ∧ q % W = b) := fun a b hb => by
            constructor
            · rintro rfl
              exact ⟨by rw [Nat.mul_comm, Nat.mul_add_div (by omega), Nat.div_eq_of_lt hb]; rfl, by rw [Nat.mul_comm, Nat.mul_add_mod, Nat.mod_eq_of_lt hb]⟩
            · rintro ⟨e1, e2⟩
              have := Nat.div_add_mod q W
              rw [e1, e2, Nat.mul_comm] at this
              exact this.symm
          by_cases c1 : q = to * W + opp ((n * W - (r + 1)) % W)
          · rw [if_pos c1, if_pos ((hqe _ _ hk2).1 c1)]; exact rfl
          · rw [if_neg c1, if_neg (fun e => c1 ((hqe _ _ hk2).2 e))]
            have hpp : n * W - (r + 1) = (n * W - (r + 1)) / W * W + (n * W - (r + 1)) % W := by rw [Nat.mul_comm ((n * W - (r + 1)) / W)]; exact (Nat.div_add_mod _ _).symm
            by_cases c2 : q = n * W - (r + 1)
            · rw [if_pos c2, if_pos (by rw [c2]; exact ⟨rfl, rfl⟩)]; omega
            · rw [if_neg c2, if_neg (fun e => c2 (by rw [hpp]; exact (hqe _ _ h2).2 e)), hC q hqn]
              rfl
theorem free_len {n g : Nat} (hn : 0 < n) (hn5 : n < 5) : (subF n g []).length = cntN (2 * g) n (n * (2 * g)) 0 1 := by
  have e : holdM n [] = fun _ => true := by
    funext T
    unfold holdM
    simp
  unfold subF
  have hok := empty_ok (W := 2 * g) hn []
  rw [e] at hok ⊢
  refine cnt_fill (by omega) (by omega) hok fun q hq => ?_
  unfold pent
  rw [empty_ent]
  unfold dig
  rw [Nat.zero_div]; rfl
/-- HALL's number, as the law's hall works it out -/
def factM : Nat → Nat
  | 0 => 1
  | n + 1 => if n + 1 < 2 then 1 else (n + 1) * factM n
def hallS (r n : Nat) (l : List Int) : Nat → Int
  | 0 => ((n * factM n ^ (r - 1) : Nat) : Int)
  | k + 1 => hallS r n l k - ((factM (n - (k + 1)) ^ (r - 1) : Nat) : Int) * l.getD k 0
def hallT (r : Nat) : Nat → List Int
  | 0 => []
  | n + 1 => hallT r n ++ [hallS r (n + 1) (hallT r n) n]
def hallM (r n : Nat) : Int := if r = 0 then (if n = 1 then 1 else 0) else (hallT r n).getD (n - 1) 0
theorem hall_small : ∀ g, g < 6 → ∀ n, n < 5 → 0 < n → (ordL n).length ^ g ≤ 20000 → (cntN (2 * g) n (n * (2 * g)) 0 1 : Int) = hallM g n := by decide +kernel
theorem hall_free {n g : Nat} (hn : 0 < n) (hn5 : n < 5) (hg : g < 6) (hw : (ordL n).length ^ g ≤ 20000) : ((subF n g []).length : Int) = hallM g n := by
  rw [free_len hn hn5]; exact hall_small g hg n hn5 hn hw
end Go.Proofs.YtedehmknijlgpaaDoor.TC
