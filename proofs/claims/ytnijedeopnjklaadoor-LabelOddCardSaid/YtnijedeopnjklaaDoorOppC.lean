/-
  'Opposite' of package label, three: the words that its walks are said in (the text is written by a program of mine).
-/
import Derived.Test.YtnijedeopnjklaaDoorOppB
import Derived.Test.YtnijedeopnjklaaDoorTuckC
import Derived.Test.YtnijedeopnjklaaDoorErrsD
import Derived.Handy
import Derived.Deep.DeepCutAuto
namespace Go.Proofs.YtnijedeopnjklaaDoor
open Go Go.RowKit

/-- none is wrong ahead of place k -/
def fineK (m : Nat) (xs : List Int) (k : Nat) : Prop := ∀ j, j < k → badAt m xs (j % (2 * m + 1)) (j / (2 * m + 1)) = false
theorem fineK_step {m : Nat} {xs : List Int} {k : Nat} (h : fineK m xs k) (hb : badAt m xs (k % (2 * m + 1)) (k / (2 * m + 1)) = false) : fineK m xs (k + 1) := by
  intro j hj
  by_cases e : j < k
  · exact h j e
  · have : j = k := by omega
    subst this; exact hb

def putL (xs : List Int) (l : List (Nat × Nat)) (a b : Nat) : List (Nat × Nat) := if xs.getD a 0 = -xs.getD b 0 then l ++ [(a, b)] else l
theorem putL_length (xs : List Int) (l : List (Nat × Nat)) (a b : Nat) : (putL xs l a b).length ≤ l.length + 1 := by
  unfold putL; split <;> simp
def stepL (m : Nat) (xs : List Int) (l : List (Nat × Nat)) (k : Nat) : List (Nat × Nat) :=
  let s := 2 * m + 1
  let l1 := if k % s + 1 < s then putL xs l k (k + 1) else l
  let l2 := if k / s + 1 < s then putL xs l1 k (k + s) else l1
  if k % s + 1 < s ∧ k / s + 1 < s then (if (m ≤ k % s ↔ m ≤ k / s) then putL xs l2 k (k + s + 1) else putL xs l2 (k + 1) (k + s)) else l2
def outTo (m : Nat) (xs : List Int) : Nat → List (Nat × Nat)
  | 0 => []
  | k + 1 => stepL m xs (outTo m xs k) k
theorem stepL_length (m : Nat) (xs : List Int) (l : List (Nat × Nat)) (k : Nat) : (stepL m xs l k).length ≤ l.length + 3 := by
  unfold stepL
  have h1 := putL_length xs l k (k + 1)
  simp only
  generalize hl1 : (if k % (2 * m + 1) + 1 < 2 * m + 1 then putL xs l k (k + 1) else l) = l1
  have g1 : l1.length ≤ l.length + 1 := by rw [← hl1]; split <;> omega
  have h2 := putL_length xs l1 k (k + (2 * m + 1))
  generalize hl2 : (if k / (2 * m + 1) + 1 < 2 * m + 1 then putL xs l1 k (k + (2 * m + 1)) else l1) = l2
  have g2 : l2.length ≤ l1.length + 1 := by rw [← hl2]; split <;> omega
  have h3 := putL_length xs l2 k (k + (2 * m + 1) + 1)
  have h4 := putL_length xs l2 (k + 1) (k + (2 * m + 1))
  split
  · split <;> omega
  · omega
theorem outTo_length (m : Nat) (xs : List Int) : ∀ k, (outTo m xs k).length ≤ 3 * k
  | 0 => Nat.le_refl _
  | k + 1 => by
    have := outTo_length m xs k
    have := stepL_length m xs (outTo m xs k) k
    simp only [outTo]; omega

theorem put_any (xs : List Int) (lb lo lc : Nat) (a b LV B : Nat) (v : Value) (l : List (Nat × Nat)) (w : World) (ha : a < xs.length) (hb : b < xs.length) (hab : a < b) (hll : l.length ≤ 100000)
    (hL : w.cell? ⟨LV, 0, none⟩ = some (.slice (some ⟨lb, lo, none⟩) xs.length lc))
    (hc : ∀ i, i < xs.length → w.cell? ⟨lb, lo + i, none⟩ = some (.int .i64 (xs.getD i 0))) (hbd : -2 ≤ xs.getD b 0 ∧ xs.getD b 0 ≤ 2)
    (hB : w.heap[B]? = some (.cells #[v] 39 (0, 0))) (hown : w.ownsRow (B + 1) 48 2 v l.length (cells2 l)) :
    Calls Tryd.prog 21 #[.int .i64 (a : Int), .int .i64 (b : Int), .pointer (some ⟨LV, 0, none⟩), .pointer (some ⟨B, 0, none⟩)] w (PutPost B w (putL xs l a b)) := by
  unfold putL
  by_cases h : xs.getD a 0 = -xs.getD b 0
  · rw [if_pos h]
    have hx := hc a ha
    rw [h] at hx
    exact put_yes xs lb lo lc a b LV B v l _ w ha hb hab hll hL hx (hc b hb) hbd.1 hbd.2 hB hown
  · rw [if_neg h]
    exact put_no xs lb lo lc a b LV B v l _ _ w ha hb hL (hc a ha) (hc b hb) hbd.1 hbd.2 hB hown h

theorem none3 (v : Int) : (isNone v = true ∧ (v = 0 ∨ 2 < v ∨ v < -2)) ∨ (isNone v = false ∧ (v = 1 ∨ v = -1 ∨ v = 2 ∨ v = -2)) := by
  rcases isNone_cases v with ⟨e, e1, e2, e3, e4⟩ | h
  · left
    simp only [bne_iff_ne, ne_eq] at e1 e2 e3 e4
    exact ⟨e, by omega⟩
  · exact Or.inr h

def OkPost (m : Nat) (xs : List Int) (w : World) (e : Ending) (w' : World) : Prop :=
  ∃ v, e = .returned (.tuple #[v, .nilIface]) ∧ Below w.heap.size w w' ∧ w'.ownsRow w.heap.size 48 2 v (sort2 (outTo m xs ((2 * m + 1) * (2 * m + 1)))).length (cells2 (sort2 (outTo m xs ((2 * m + 1) * (2 * m + 1)))))
/-- the closure's world: the captured variable holds the row of the pairs l; below it nothing has turned since w1 -/
def St (w1 : World) (B : Nat) (W : World) (l : List (Nat × Nat)) : Prop :=
  ∃ v, W.heap[B]? = some (.cells #[v] 39 (0, 0)) ∧ W.ownsRow (B + 1) 48 2 v l.length (cells2 l) ∧ Below B w1 W
theorem St.drewN {w1 : World} {B : Nat} {W : World} {l : List (Nat × Nat)} (h : St w1 B W l) (n : Nat) : St w1 B (W.drewN n) l := by
  obtain ⟨v, h1, h2, h3⟩ := h
  exact ⟨v, h1, h2, h3.trans ⟨rfl, rfl, rfl, Nat.le_refl _, fun _ _ => rfl⟩⟩
theorem put_st (xs : List Int) (lb lo lc : Nat) (LV B : Nat) (w1 W : World) (l : List (Nat × Nat)) (N : Nat) (hN : xs.length = N)
    (hL : w1.cell? ⟨LV, 0, none⟩ = some (.slice (some ⟨lb, lo, none⟩) N lc)) (hLB : LV < B) (hlb : lb < B)
    (hc : ∀ i, i < N → w1.cell? ⟨lb, lo + i, none⟩ = some (.int .i64 (xs.getD i 0))) (hbd : ∀ i, i < N → -2 ≤ xs.getD i 0 ∧ xs.getD i 0 ≤ 2)
    (hst : St w1 B W l) (a b : Nat) (p q : Int) (hp : p = (a : Int)) (hq : q = (b : Int)) (hab : a < b) (hb : b < N) (hll : l.length ≤ 100000) :
    Calls Tryd.prog 21 #[.int .i64 p, .int .i64 q, .pointer (some ⟨LV, 0, none⟩), .pointer (some ⟨B, 0, none⟩)] W fun e w' => e = .returned (.tuple #[]) ∧ St w1 B w' (putL xs l a b) := by
  subst hp; subst hq
  obtain ⟨v, hB, hO, hbl⟩ := hst
  subst hN
  refine (put_any xs lb lo lc a b LV B v l W (by omega) hb hab hll ((hbl.cell (p := ⟨LV, 0, none⟩) hLB).trans hL) (fun i hi => (hbl.cell (p := ⟨lb, lo + i, none⟩) hlb).trans (hc i hi)) (hbd b hb) hB hO).mono fun e w' h => ?_
  obtain ⟨he, v', hB', hO', hb'⟩ := h
  exact ⟨he, v', hB', hO', hbl.trans hb'⟩
theorem fine_bd {m : Nat} {xs : List Int} {K : Nat} (h : fineK m xs K) (j : Nat) (hj : j < K) : -2 ≤ xs.getD j 0 ∧ xs.getD j 0 ≤ 2 := by
  have h1 := h j hj
  unfold badAt at h1
  have e : j / (2 * m + 1) * (2 * m + 1) + j % (2 * m + 1) = j := by rw [Nat.mul_comm]; exact Nat.div_add_mod _ _
  rw [e] at h1
  dsimp only at h1
  rcases none3 (xs.getD j 0) with ⟨e2, -⟩ | ⟨-, h2⟩
  · rw [e2] at h1; simp at h1
  · omega
def BadPost (a : Nat → Addr) (k : Nat) (w : World) (e : Ending) (w' : World) : Prop :=
  ∃ v, e = .returned (.tuple #[.slice none 0 0, v]) ∧ Below w.heap.size w w' ∧ ErrAt a w' v 8 k
end Go.Proofs.YtnijedeopnjklaaDoor
