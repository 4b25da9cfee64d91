/-
  TODD and COXETER: the join as a function; it ends, in the smallest congruence.
-/
import Derived.Test.YtedehmknijlgpaaDoorTcC
namespace Go.Proofs.YtedehmknijlgpaaDoor.TC

/-- how many stand for themselves -/
def liveN (S : List Nat) : Nat := ((List.range S.length).filter fun k => decide (S.getD k k = k)).length
theorem filter_drop {p q : Nat → Bool} {b : Nat} (hpq : ∀ x, q x = (p x && decide (x ≠ b))) (hb : p b = true) : ∀ {l : List Nat}, l.Nodup → b ∈ l → (l.filter p).length = (l.filter q).length + 1
  | [], _, h => by cases h
  | x :: l, hn, h => by
    obtain ⟨h1, h2⟩ := List.nodup_cons.1 hn
    have same : ∀ {m : List Nat}, b ∉ m → m.filter p = m.filter q := fun {m} hm => List.filter_congr fun y hy => by
      rw [hpq, show decide (y ≠ b) = true from decide_eq_true (fun e => hm (e ▸ hy))]; simp
    by_cases e : x = b
    · subst e
      rw [List.filter_cons, if_pos hb, List.filter_cons, if_neg (by rw [hpq]; simp), List.length_cons, same h1]
    · have hb' : b ∈ l := (List.mem_cons.1 h).resolve_left (fun h => e h.symm)
      have ih := filter_drop hpq hb h2 hb'
      have hx : q x = p x := by rw [hpq, show decide (x ≠ b) = true from decide_eq_true e]; simp
      rw [List.filter_cons, List.filter_cons, hx]
      cases p x <;> simp [ih]
theorem liveN_set {S : List Nat} {a b : Nat} (hw : Wfs S) (hb : b < S.length) (hab : a < b) (hbb : S.getD b b = b) : liveN S = liveN (S.set b a) + 1 := by
  unfold liveN
  rw [List.length_set]
  refine filter_drop (b := b) (fun x => ?_) (decide_eq_true hbb) List.nodup_range (List.mem_range.2 hb)
  rw [getD_set_eq hb]
  by_cases e : x = b
  · subst e
    rw [if_pos rfl, show decide (a = x) = false from decide_eq_false (by omega)]; simp
  · rw [if_neg e, show decide (x ≠ b) = true from decide_eq_true e]; simp

theorem put1_len (a k to : Nat) (s : RQ) : (put1 a k to s).2.length ≤ s.2.length + 1 := by unfold put1; split <;> simp
theorem put2_len (t k a : Nat) (s : RQ) : (put2 t k a s).2.length ≤ s.2.length + 1 := by unfold put2; split <;> simp
theorem colM_len (S : List Nat) (a b k : Nat) (s : RQ) : (colM S a b k s).2.length ≤ s.2.length + 2 := by
  unfold colM
  split
  · omega
  · have := put2_len (rep S (ent s.1 b k).toNat) (opp k) a (put1 a k (ent s.1 b k).toNat s)
    have := put1_len a k (ent s.1 b k).toNat s
    omega
theorem colsM_len (S : List Nat) (a b : Nat) (s : RQ) : ∀ k, (colsM S a b k s).2.length ≤ s.2.length + 2 * k
  | 0 => by simp [colsM]
  | k + 1 => by
    have := colM_len S a b k (colsM S a b k s)
    have := colsM_len S a b s k
    simp only [colsM]; omega

/-- how long a join may take -/
def need (W : Nat) (S : List Nat) (Q : List (Nat × Nat)) : Nat := liveN S * (2 * W + 1) + Q.length
/-- a join: so many steps at most -/
def joinF (W : Nat) : Nat → Rows → List Nat → List (Nat × Nat) → Rows × List Nat
  | 0, R, S, _ => (R, S)
  | _ + 1, R, S, [] => (R, S)
  | f + 1, R, S, (p, q) :: Q =>
    if rep S p = rep S q then joinF W f R S Q
    else
      let s := colsM (S.set (max (rep S p) (rep S q)) (min (rep S p) (rep S q))) (min (rep S p) (rep S q)) (max (rep S p) (rep S q)) W (R, Q)
      joinF W f s.1 (S.set (max (rep S p) (rep S q)) (min (rep S p) (rep S q))) s.2
def joinM (W : Nat) (R : Rows) (S : List Nat) (Q : List (Nat × Nat)) : Rows × List Nat := joinF W (need W S Q) R S Q

section
variable {R0 : Rows} {S0 : List Nat} {a0 b0 W : Nat} (hG : Good R0 S0) (hW2 : W % 2 = 0)
/-- what a join's loop keeps -/
structure JInv (R0 : Rows) (S0 : List Nat) (a0 b0 W : Nat) (R : Rows) (S : List Nat) (Q : List (Nat × Nat)) : Prop where
  inv : Inv R0 S0 a0 b0 0 0 0 Q R S
  wide : Wide W R
  len : S.length = R.length
  q : QOk R.length Q
include hG hW2
theorem JInv.skip {R : Rows} {S : List Nat} {p q : Nat} {Q : List (Nat × Nat)} (h : JInv R0 S0 a0 b0 W R S ((p, q) :: Q)) (e : rep S p = rep S q) : JInv R0 S0 a0 b0 W R S Q :=
  have _g := hG
  have _w := hW2
  ⟨h.inv.skip e, h.wide, h.len, fun x hx => h.q x (List.mem_cons_of_mem _ hx)⟩
theorem JInv.merge {R : Rows} {S : List Nat} {p q : Nat} {Q : List (Nat × Nat)} (h : JInv R0 S0 a0 b0 W R S ((p, q) :: Q)) (e : rep S p ≠ rep S q) (hR0 : Wide W R0) :
    min (rep S p) (rep S q) < max (rep S p) (rep S q) ∧ max (rep S p) (rep S q) < R.length ∧
    rep (S.set (max (rep S p) (rep S q)) (min (rep S p) (rep S q))) (min (rep S p) (rep S q)) = min (rep S p) (rep S q) ∧ rep (S.set (max (rep S p) (rep S q)) (min (rep S p) (rep S q))) (max (rep S p) (rep S q)) = min (rep S p) (rep S q) ∧
    (∀ k, k ≤ W → Inv R0 S0 a0 b0 (min (rep S p) (rep S q)) (max (rep S p) (rep S q)) k (colsM (S.set (max (rep S p) (rep S q)) (min (rep S p) (rep S q))) (min (rep S p) (rep S q)) (max (rep S p) (rep S q)) k (R, Q)).2 (colsM (S.set (max (rep S p) (rep S q)) (min (rep S p) (rep S q))) (min (rep S p) (rep S q)) (max (rep S p) (rep S q)) k (R, Q)).1 (S.set (max (rep S p) (rep S q)) (min (rep S p) (rep S q))) ∧
      Wide W (colsM (S.set (max (rep S p) (rep S q)) (min (rep S p) (rep S q))) (min (rep S p) (rep S q)) (max (rep S p) (rep S q)) k (R, Q)).1 ∧ QOk R.length (colsM (S.set (max (rep S p) (rep S q)) (min (rep S p) (rep S q))) (min (rep S p) (rep S q)) (max (rep S p) (rep S q)) k (R, Q)).2 ∧
      (colsM (S.set (max (rep S p) (rep S q)) (min (rep S p) (rep S q))) (min (rep S p) (rep S q)) (max (rep S p) (rep S q)) k (R, Q)).1.length = R.length) ∧
    liveN S = liveN (S.set (max (rep S p) (rep S q)) (min (rep S p) (rep S q))) + 1 ∧
    JInv R0 S0 a0 b0 W (colsM (S.set (max (rep S p) (rep S q)) (min (rep S p) (rep S q))) (min (rep S p) (rep S q)) (max (rep S p) (rep S q)) W (R, Q)).1 (S.set (max (rep S p) (rep S q)) (min (rep S p) (rep S q))) (colsM (S.set (max (rep S p) (rep S q)) (min (rep S p) (rep S q))) (min (rep S p) (rep S q)) (max (rep S p) (rep S q)) W (R, Q)).2 := by
  obtain ⟨hp, hq⟩ := h.q (p, q) List.mem_cons_self
  have hw := h.inv.wf
  have l1 := rep_le hw p
  have l2 := rep_le hw q
  have hlt : min (rep S p) (rep S q) < max (rep S p) (rep S q) := by omega
  have hmx : max (rep S p) (rep S q) < R.length := by simp only at hp hq; omega
  have hor : rep S p = min (rep S p) (rep S q) ∧ rep S q = max (rep S p) (rep S q) ∨ rep S p = max (rep S p) (rep S q) ∧ rep S q = min (rep S p) (rep S q) := by omega
  have r1 := rep_rep hw p
  have r2 := rep_rep hw q
  generalize min (rep S p) (rep S q) = x at *
  generalize max (rep S p) (rep S q) = y at *
  have hyS : y < S.length := by rw [h.len]; exact hmx
  have lx : rep S x = x := by rcases hor with ⟨e, -⟩ | ⟨-, e⟩ <;> (rw [← e]; assumption)
  have ly : rep S y = y := by rcases hor with ⟨-, e⟩ | ⟨e, -⟩ <;> (rw [← e]; assumption)
  have hr := rep_set hw hyS hlt lx ly
  have hx' : rep (S.set y x) x = x := by rw [hr, lx, if_neg (by omega)]
  have hy' : rep (S.set y x) y = x := by rw [hr, ly, if_pos rfl]
  have hI := h.inv.merge hor hlt hyS
  have hQ : QOk R.length Q := fun z hz => h.q z (List.mem_cons_of_mem _ hz)
  have hall := cols_step hG hW2 (s := (R, Q)) hI h.wide hQ hx' hy' (by omega) hmx (show x < R.length by omega)
  obtain ⟨g1, g2, g3, g4⟩ := hall W (Nat.le_refl _)
  refine ⟨hlt, hmx, hx', hy', hall, liveN_set hw hyS hlt (live_fix hw ly), ⟨g1.close fun z k u hu => (hR0.inn hu).2.1, g2, ?_, ?_⟩⟩
  · rw [List.length_set, h.len, g4]
  · rw [g4]; exact g3
/-- a join ends with nothing left -/
theorem joinF_ok (hR0 : Wide W R0) : ∀ (f : Nat) {R : Rows} {S : List Nat} {Q : List (Nat × Nat)}, JInv R0 S0 a0 b0 W R S Q → need W S Q ≤ f →
    JInv R0 S0 a0 b0 W (joinF W f R S Q).1 (joinF W f R S Q).2 [] ∧ (joinF W f R S Q).1.length = R.length
  | 0, R, S, Q, h, hf => by
    unfold need at hf
    obtain rfl : Q = [] := List.length_eq_zero_iff.1 (by omega)
    exact ⟨h, rfl⟩
  | f + 1, R, S, [], h, _ => ⟨h, rfl⟩
  | f + 1, R, S, (p, q) :: Q, h, hf => by
    unfold joinF
    by_cases e : rep S p = rep S q
    · rw [if_pos e]
      exact joinF_ok hR0 f (h.skip hG hW2 e) (by unfold need at *; simp only [List.length_cons] at hf; omega)
    · rw [if_neg e]
      obtain ⟨-, -, -, -, hall, hlv, hJ⟩ := h.merge hG hW2 e hR0
      have hl := (hall W (Nat.le_refl _)).2.2.2
      have hln := colsM_len (S.set (max (rep S p) (rep S q)) (min (rep S p) (rep S q))) (min (rep S p) (rep S q)) (max (rep S p) (rep S q)) (R, Q) W
      obtain ⟨g1, g2⟩ := joinF_ok hR0 f hJ (by
        unfold need at *
        rw [hlv, Nat.add_mul] at hf
        simp only [List.length_cons] at hf
        simp only at hln
        omega)
      exact ⟨g1, g2.trans hl⟩
end
/-- with more steps than it needs it is the same -/
theorem joinF_more {R0 : Rows} {S0 : List Nat} {a0 b0 W : Nat} (hG : Good R0 S0) (hW2 : W % 2 = 0) (hR0 : Wide W R0) : ∀ (f g : Nat) {R : Rows} {S : List Nat} {Q : List (Nat × Nat)}, JInv R0 S0 a0 b0 W R S Q → need W S Q ≤ f → need W S Q ≤ g → joinF W f R S Q = joinF W g R S Q
  | 0, g, R, S, Q, h, hf, _ => by
    unfold need at hf
    obtain rfl : Q = [] := List.length_eq_zero_iff.1 (by omega)
    cases g <;> rfl
  | f + 1, 0, R, S, Q, h, _, hg => by
    unfold need at hg
    obtain rfl : Q = [] := List.length_eq_zero_iff.1 (by omega)
    rfl
  | f + 1, g + 1, R, S, [], h, _, _ => rfl
  | f + 1, g + 1, R, S, (p, q) :: Q, h, hf, hg => by
    unfold joinF
    by_cases e : rep S p = rep S q
    · rw [if_pos e, if_pos e]
      exact joinF_more hG hW2 hR0 f g (h.skip hG hW2 e) (by unfold need at *; simp only [List.length_cons] at hf; omega) (by unfold need at *; simp only [List.length_cons] at hg; omega)
    · rw [if_neg e, if_neg e]
      obtain ⟨-, -, -, -, hall, hlv, hJ⟩ := h.merge hG hW2 e hR0
      have hln := colsM_len (S.set (max (rep S p) (rep S q)) (min (rep S p) (rep S q))) (min (rep S p) (rep S q)) (max (rep S p) (rep S q)) (R, Q) W
      refine joinF_more hG hW2 hR0 f g hJ ?_ ?_
      · unfold need at *
        rw [hlv, Nat.add_mul] at hf
        simp only [List.length_cons] at hf
        simp only at hln
        omega
      · unfold need at *
        rw [hlv, Nat.add_mul] at hg
        simp only [List.length_cons] at hg
        simp only at hln
        omega
end Go.Proofs.YtedehmknijlgpaaDoor.TC
