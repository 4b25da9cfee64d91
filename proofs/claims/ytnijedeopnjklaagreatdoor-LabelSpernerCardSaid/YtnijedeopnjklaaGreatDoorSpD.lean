/-
  Near of the references; the small triangles as the references list them: plain lists, and that they are the program's.
-/
import Derived.Test.YtnijedeopnjklaaGreatDoorSpB
import Derived.Test.YtnijedeopnjklaaGreatDoorOddF
namespace Go.Proofs.YtnijedeopnjklaaGreatDoor
open Go Go.RowKit Sper

def nearB (p q : Nat × Nat × Nat) : Bool :=
  ((p.1 : Int) - (q.1 : Int)) * ((p.1 : Int) - (q.1 : Int)) + ((p.2.1 : Int) - (q.2.1 : Int)) * ((p.2.1 : Int) - (q.2.1 : Int)) + ((p.2.2 : Int) - (q.2.2 : Int)) * ((p.2.2 : Int) - (q.2.2 : Int)) == 2

set_option maxRecDepth 100000 in
set_option maxHeartbeats 4000000 in
theorem near_any (p q : Nat × Nat × Nat) (hp : p.1 ≤ 12 ∧ p.2.1 ≤ 12 ∧ p.2.2 ≤ 12) (hq : q.1 ≤ 12 ∧ q.2.1 ≤ 12 ∧ q.2.2 ≤ 12) (w : World) :
    Calls Tryz.prog 21 #[.agg #[.int .i64 (p.1 : Int), .int .i64 (p.2.1 : Int), .int .i64 (p.2.2 : Int)], .agg #[.int .i64 (q.1 : Int), .int .i64 (q.2.1 : Int), .int .i64 (q.2.2 : Int)]] w fun e w' => e = .returned (.bool (nearB p q)) ∧ Below w.heap.size w w' := by
  obtain ⟨p1, p2, p3⟩ := p
  obtain ⟨q1, q2, q3⟩ := q
  simp only at hp hq
  obtain ⟨a1, a2, a3⟩ := hp
  obtain ⟨b1, b2, b3⟩ := hq
  obtain ⟨m1, m1'⟩ := mul_bd ((p1 : Int) - (q1 : Int)) (by omega) (by omega)
  obtain ⟨m2, m2'⟩ := mul_bd ((p2 : Int) - (q2 : Int)) (by omega) (by omega)
  obtain ⟨m3, m3'⟩ := mul_bd ((p3 : Int) - (q3 : Int)) (by omega) (by omega)
  unfold nearB
  simp only
  go_enter Tryz.func21, Tryz.ntmps21
  go_wp2_with fail
  go_ret
  exact ⟨rfl, ((Below.refl _ _).alloc (Nat.le_refl _) _).alloc (by simp) _⟩

/-- the triangles with a, b and a third point below m -/
def rowC (P : List (Nat × Nat × Nat)) (a b m : Nat) : List (Nat × Nat × Nat) :=
  ((List.range m).filter fun c => decide (b < c) && (nearB (tri P a) (tri P c) && nearB (tri P b) (tri P c))).map fun c => (a, b, c)
def pairT (P : List (Nat × Nat × Nat)) (a b : Nat) : List (Nat × Nat × Nat) := if nearB (tri P a) (tri P b) = true then rowC P a b P.length else []
def rowB (P : List (Nat × Nat × Nat)) (a m : Nat) : List (Nat × Nat × Nat) := (List.range m).flatMap fun b => if a < b then pairT P a b else []
def rowA (P : List (Nat × Nat × Nat)) (m : Nat) : List (Nat × Nat × Nat) := (List.range m).flatMap fun a => rowB P a P.length

theorem rowC_start (P : List (Nat × Nat × Nat)) (a b : Nat) : rowC P a b (b + 1) = [] := by
  unfold rowC
  rw [List.map_eq_nil_iff, List.filter_eq_nil_iff]
  intro c hc
  have := List.mem_range.1 hc
  simp only [Bool.and_eq_true, decide_eq_true_eq, not_and]
  omega
theorem rowC_step (P : List (Nat × Nat × Nat)) (a b q : Nat) (hq : b < q) : rowC P a b (q + 1) = rowC P a b q ++ (if (nearB (tri P a) (tri P q) && nearB (tri P b) (tri P q)) = true then [(a, b, q)] else []) := by
  unfold rowC
  rw [List.range_succ, List.filter_append, List.map_append]
  congr 1
  by_cases h : (nearB (tri P a) (tri P q) && nearB (tri P b) (tri P q)) = true
  · rw [if_pos h, List.filter_cons_of_pos (by rw [h, decide_eq_true hq]; rfl)]; rfl
  · rw [if_neg h, List.filter_cons_of_neg (by simp only [Bool.and_eq_true] at h ⊢; exact fun x => h x.2)]; rfl
theorem rowB_start (P : List (Nat × Nat × Nat)) (a : Nat) : rowB P a (a + 1) = [] := by
  unfold rowB
  rw [List.flatMap_eq_nil_iff]
  intro c hc
  have := List.mem_range.1 hc
  rw [if_neg (by omega)]
theorem rowB_step (P : List (Nat × Nat × Nat)) (a b : Nat) (h : a < b) : rowB P a (b + 1) = rowB P a b ++ pairT P a b := by
  unfold rowB
  rw [List.range_succ, List.flatMap_append]
  simp [h]
theorem rowA_step (P : List (Nat × Nat × Nat)) (a : Nat) : rowA P (a + 1) = rowA P a ++ rowB P a P.length := by
  unfold rowA
  rw [List.range_succ, List.flatMap_append]
  simp
theorem flat_len {A B : Type} (f : A → List B) (N : Nat) : ∀ l : List A, (∀ x ∈ l, (f x).length ≤ N) → (l.flatMap f).length ≤ l.length * N
  | [], _ => by simp
  | x :: r, h => by
    have h1 := h x (by simp)
    have h2 := flat_len f N r fun y hy => h y (by simp [hy])
    rw [List.flatMap_cons, List.length_append, List.length_cons, Nat.succ_mul]
    omega
theorem rowC_len (P : List (Nat × Nat × Nat)) (a b m : Nat) : (rowC P a b m).length ≤ m := by
  unfold rowC
  rw [List.length_map]
  have := List.length_filter_le (fun c => decide (b < c) && (nearB (tri P a) (tri P c) && nearB (tri P b) (tri P c))) (List.range m)
  simpa using this
theorem rowB_len (P : List (Nat × Nat × Nat)) (hP : P.length ≤ 1000) (a m : Nat) : (rowB P a m).length ≤ m * 1000 := by
  have := flat_len (fun b => if a < b then pairT P a b else []) 1000 (List.range m) fun b _ => by
    split
    · unfold pairT
      split
      · have := rowC_len P a b P.length; omega
      · simp
    · simp
  rw [List.length_range] at this
  exact this
theorem rowA_len (P : List (Nat × Nat × Nat)) (hP : P.length ≤ 1000) (m : Nat) : (rowA P m).length ≤ m * 1000000 := by
  have := flat_len (fun a => rowB P a P.length) 1000000 (List.range m) fun a _ => by
    have := rowB_len P hP a P.length
    have h2 : P.length * 1000 ≤ 1000 * 1000 := Nat.mul_le_mul hP (Nat.le_refl _)
    omega
  rw [List.length_range] at this
  exact this

theorem smallOf_is (n : Nat) (h1 : 1 ≤ n) (h2 : n ≤ 12) : rowA (ptsL n) (ptsL n).length = smallL n := by
  rcases (show n = 1 ∨ n = 2 ∨ n = 3 ∨ n = 4 ∨ n = 5 ∨ n = 6 ∨ n = 7 ∨ n = 8 ∨ n = 9 ∨ n = 10 ∨ n = 11 ∨ n = 12 by omega) with rfl | rfl | rfl | rfl | rfl | rfl | rfl | rfl | rfl | rfl | rfl | rfl
  · rw [small_is_1]; exact eq_of_beq (by kernel_rfl)
  · rw [small_is_2]; exact eq_of_beq (by kernel_rfl)
  · rw [small_is_3]; exact eq_of_beq (by kernel_rfl)
  · rw [small_is_4]; exact eq_of_beq (by kernel_rfl)
  · rw [small_is_5]; exact eq_of_beq (by kernel_rfl)
  · rw [small_is_6]; exact eq_of_beq (by kernel_rfl)
  · rw [small_is_7]; exact eq_of_beq (by kernel_rfl)
  · rw [small_is_8]; exact eq_of_beq (by kernel_rfl)
  · rw [small_is_9]; exact eq_of_beq (by kernel_rfl)
  · rw [small_is_10]; exact eq_of_beq (by kernel_rfl)
  · rw [small_is_11]; exact eq_of_beq (by kernel_rfl)
  · rw [small_is_12]; exact eq_of_beq (by kernel_rfl)
end Go.Proofs.YtnijedeopnjklaaGreatDoor
