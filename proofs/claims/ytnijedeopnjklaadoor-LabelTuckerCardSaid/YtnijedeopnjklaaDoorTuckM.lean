/-
  TUCKER's lemma on a square grid, plain: labels 1, -1, 2, -2 on (S+1) x (S+1) points, opposite ones opposite on the rim: some side of a small triangle has opposite labels. No program in sight.
-/
namespace Go.Proofs.YtnijedeopnjklaaDoor.Tuck

/-- sums -/
def sum (f : Nat → Int) : Nat → Int
  | 0 => 0
  | n + 1 => sum f n + f n

theorem sum_congr {f g : Nat → Int} : ∀ n, (∀ i, i < n → f i = g i) → sum f n = sum g n
  | 0, _ => rfl
  | n + 1, h => by simp only [sum]; rw [sum_congr n (fun i hi => h i (by omega)), h n (by omega)]
theorem sum_neg (f : Nat → Int) : ∀ n, sum (fun i => - f i) n = - sum f n
  | 0 => rfl
  | n + 1 => by simp only [sum]; rw [sum_neg f n]; omega
theorem sum_head (f : Nat → Int) : ∀ n, sum f (n + 1) = f 0 + sum (fun i => f (i + 1)) n
  | 0 => by simp [sum]
  | n + 1 => by
    rw [sum, sum_head f n]
    simp only [sum]
    omega
theorem sum_rev (f : Nat → Int) : ∀ n, sum (fun i => f (n - 1 - i)) n = sum f n
  | 0 => rfl
  | n + 1 => by
    rw [sum_head]
    have e : sum (fun i => f (n + 1 - 1 - (i + 1))) n = sum (fun i => f (n - 1 - i)) n := sum_congr n (fun i hi => by congr 1; omega)
    rw [e, sum_rev f n]
    simp only [sum]
    have : n + 1 - 1 - 0 = n := by omega
    rw [this]
    omega

/-- a quarter turn from a to b: -1, 0, 1 (2: opposite) -/
def turn (a b : Int) : Int := (b - a + 1) % 4 - 1

theorem turn_mod (a b : Int) : (turn a b - (b - a)) % 4 = 0 := by unfold turn; omega
theorem sum_turn (f : Nat → Int) : ∀ n, (sum (fun i => turn (f i) (f (i + 1))) n - (f n - f 0)) % 4 = 0
  | 0 => by simp [sum]
  | n + 1 => by
    have h := sum_turn f n
    have t := turn_mod (f n) (f (n + 1))
    simp only [sum]
    omega

theorem square {a b c d : Int} (hab : (b - a) % 4 ≠ 2) (hbc : (c - b) % 4 ≠ 2) (hdc : (c - d) % 4 ≠ 2) (had : (d - a) % 4 ≠ 2) (hdi : (c - a) % 4 ≠ 2 ∨ (d - b) % 4 ≠ 2) :
    turn a b + turn b c - turn d c - turn a d = 0 := by
  unfold turn
  omega
theorem turn_neg {a b : Int} (h : (b - a) % 4 ≠ 2) : turn b a = - turn a b := by unfold turn; omega
theorem turn_opp {a b a' b' : Int} (ha : (a' - a) % 4 = 2) (hb : (b' - b) % 4 = 2) : turn a' b' = turn a b := by unfold turn; omega

theorem row {h h' v : Nat → Int} : ∀ k, (∀ x, x < k → h x + v (x + 1) - h' x - v x = 0) → sum h k - sum h' k + v k - v 0 = 0
  | 0, _ => by simp [sum]
  | k + 1, H => by
    have := row k (fun x hx => H x (by omega))
    have := H k (by omega)
    simp only [sum]
    omega
theorem rows {H V W : Nat → Int} : ∀ k, (∀ y, y < k → H y - H (y + 1) + V y - W y = 0) → H 0 - H k + sum V k - sum W k = 0
  | 0, _ => by simp [sum]
  | k + 1, h => by
    have := rows k (fun y hy => h y (by omega))
    have := h k (by omega)
    simp only [sum]
    omega

theorem tucker (S : Nat) (hS : 0 < S) (Q : Nat → Nat → Int)
    (hrim : ∀ x y, x ≤ S → y ≤ S → (x = 0 ∨ x = S ∨ y = 0 ∨ y = S) → (Q (S - x) (S - y) - Q x y) % 4 = 2)
    (h1 : ∀ x y, x < S → y ≤ S → (Q (x + 1) y - Q x y) % 4 ≠ 2)
    (h2 : ∀ x y, x ≤ S → y < S → (Q x (y + 1) - Q x y) % 4 ≠ 2)
    (h3 : ∀ x y, x < S → y < S → (Q (x + 1) (y + 1) - Q x y) % 4 ≠ 2 ∨ (Q x (y + 1) - Q (x + 1) y) % 4 ≠ 2) : False := by
  have hsq : ∀ x y, x < S → y < S → turn (Q x y) (Q (x + 1) y) + turn (Q (x + 1) y) (Q (x + 1) (y + 1)) - turn (Q x (y + 1)) (Q (x + 1) (y + 1)) - turn (Q x y) (Q x (y + 1)) = 0 := by
    intro x y hx hy
    exact square (h1 x y hx (by omega)) (h2 (x + 1) y (by omega) hy) (h1 x (y + 1) hx (by omega)) (h2 x y (by omega) hy) (h3 x y hx hy)
  have hrow : ∀ y, y < S → sum (fun x => turn (Q x y) (Q (x + 1) y)) S - sum (fun x => turn (Q x (y + 1)) (Q (x + 1) (y + 1))) S + turn (Q S y) (Q S (y + 1)) - turn (Q 0 y) (Q 0 (y + 1)) = 0 := by
    intro y hy
    have := row (h := fun x => turn (Q x y) (Q (x + 1) y)) (h' := fun x => turn (Q x (y + 1)) (Q (x + 1) (y + 1))) (v := fun x => turn (Q x y) (Q x (y + 1))) S (fun x hx => by have := hsq x y hx hy; omega)
    exact this
  have hall := rows (H := fun y => sum (fun x => turn (Q x y) (Q (x + 1) y)) S) (V := fun y => turn (Q S y) (Q S (y + 1))) (W := fun y => turn (Q 0 y) (Q 0 (y + 1))) S hrow
  -- the other half of the rim
  have hH : sum (fun x => turn (Q x S) (Q (x + 1) S)) S = - sum (fun x => turn (Q x 0) (Q (x + 1) 0)) S := by
    rw [← sum_rev (fun x => turn (Q x 0) (Q (x + 1) 0)) S, ← sum_neg]
    refine sum_congr S (fun x hx => ?_)
    have e1 := hrim (S - x) 0 (by omega) (by omega) (Or.inr (Or.inr (Or.inl rfl)))
    have e2 := hrim (S - 1 - x) 0 (by omega) (by omega) (Or.inr (Or.inr (Or.inl rfl)))
    have f1 : S - (S - x) = x := by omega
    have f2 : S - (S - 1 - x) = x + 1 := by omega
    have f3 : S - 1 - x + 1 = S - x := by omega
    rw [f1, Nat.sub_zero] at e1
    rw [f2, Nat.sub_zero] at e2
    show turn (Q x S) (Q (x + 1) S) = - turn (Q (S - 1 - x) 0) (Q (S - 1 - x + 1) 0)
    rw [f3, turn_opp e1 e2]
    have := h1 (S - 1 - x) 0 (by omega) (by omega)
    rw [f3] at this
    exact turn_neg this
  have hV : sum (fun y => turn (Q 0 y) (Q 0 (y + 1))) S = - sum (fun y => turn (Q S y) (Q S (y + 1))) S := by
    rw [← sum_rev (fun y => turn (Q S y) (Q S (y + 1))) S, ← sum_neg]
    refine sum_congr S (fun y hy => ?_)
    have e1 := hrim S (S - y) (by omega) (by omega) (Or.inr (Or.inl rfl))
    have e2 := hrim S (S - 1 - y) (by omega) (by omega) (Or.inr (Or.inl rfl))
    have f1 : S - (S - y) = y := by omega
    have f2 : S - (S - 1 - y) = y + 1 := by omega
    have f3 : S - 1 - y + 1 = S - y := by omega
    rw [f1, Nat.sub_self] at e1
    rw [f2, Nat.sub_self] at e2
    show turn (Q 0 y) (Q 0 (y + 1)) = - turn (Q S (S - 1 - y)) (Q S (S - 1 - y + 1))
    rw [f3, turn_opp e1 e2]
    have := h2 S (S - 1 - y) (by omega) (by omega)
    rw [f3] at this
    exact turn_neg this
  have a1 := sum_turn (fun x => Q x 0) S
  have a2 := sum_turn (fun y => Q S y) S
  have a3 := hrim 0 0 (by omega) (by omega) (Or.inl rfl)
  rw [Nat.sub_zero] at a3
  omega
end Go.Proofs.YtnijedeopnjklaaDoor.Tuck
