/-
  'faulted' by a contract: is an error of a fault's code and place? Conditions: 'Sents', 'ErrAt'.
-/
import Derived.Test.YtddnjimpdidpaaaGreatDoorErrsD
namespace Go.Proofs.YtddnjimpdidpaaaGreatDoor
open Go Go.RowKit

theorem faulted_any (a : Nat → Addr) (v : Value) (c n c' n' : Int) (w : World) (hS : Sents w a) (h : ErrAt a w v c n) :
    Calls Tryz.prog 26 #[v, .agg #[.int .i64 c', .int .i64 n']] w fun e w' => e = .returned (.bool (decide (c = c' ∧ (c = 0 ∨ n = n')))) ∧ Below w.heap.size w w' := by
  have hS1 : Sents (w.alloc (.cells #[.int .i64 c', .int .i64 n'] 57)) a := hS.below ((Below.refl _ _).alloc (Nat.le_refl _) _) (Nat.le_refl _)
  have h1 : ErrAt a (w.alloc (.cells #[.int .i64 c', .int .i64 n'] 57)) v c n := h.below ((Below.refl _ _).alloc (Nat.le_refl _) _) (Nat.le_refl _)
  have H : ∀ r : Bool, r = decide (c = c' ∧ (c = 0 ∨ n = n')) →
      Calls Tryz.prog 26 #[v, .agg #[.int .i64 c', .int .i64 n']] w fun e w' => e = .returned (.bool r) ∧ Below w.heap.size w w' := by
    intro r hr
    by_cases e1 : c = c'
    · subst e1
      by_cases e2 : c = 0
      · subst e2
        obtain rfl : r = true := by rw [hr]; simp
        clear hr
        go_enter Tryz.func26, Tryz.ntmps26
        go_wp2_with (go_at_call 37; refine (code_any a _ _ _ _ hS1 h1).mono ?_; rintro e w1 ⟨rfl, hb⟩; obtain ⟨hc, hf⟩ := (⟨hb.cell (p := ⟨w.heap.size, 0, none⟩) (by simp), hb.cell (p := ⟨w.heap.size, 1, none⟩) (by simp)⟩ : _ ∧ _))
        go_ret
        exact ⟨rfl, ((Below.refl _ _).alloc (Nat.le_refl _) _).trans (hb.mono (by simp))⟩
      · have b2 : (c == 0) = false := beq_eq_false_iff_ne.2 e2
        by_cases e3 : n = n'
        · subst e3
          obtain rfl : r = true := by rw [hr]; simp
          clear hr e2
          go_enter Tryz.func26, Tryz.ntmps26
          go_wp2_with (go_at_call 37; refine (code_any a _ _ _ _ hS1 h1).mono ?_; rintro e w1 ⟨rfl, hb⟩; obtain ⟨hc, hf⟩ := (⟨hb.cell (p := ⟨w.heap.size, 0, none⟩) (by simp), hb.cell (p := ⟨w.heap.size, 1, none⟩) (by simp)⟩ : _ ∧ _))
          go_ret
          exact ⟨rfl, ((Below.refl _ _).alloc (Nat.le_refl _) _).trans (hb.mono (by simp))⟩
        · have b3 : (n == n') = false := beq_eq_false_iff_ne.2 e3
          obtain rfl : r = false := by rw [hr]; simp [e2, e3]
          clear hr e2 e3
          go_enter Tryz.func26, Tryz.ntmps26
          go_wp2_with (go_at_call 37; refine (code_any a _ _ _ _ hS1 h1).mono ?_; rintro e w1 ⟨rfl, hb⟩; obtain ⟨hc, hf⟩ := (⟨hb.cell (p := ⟨w.heap.size, 0, none⟩) (by simp), hb.cell (p := ⟨w.heap.size, 1, none⟩) (by simp)⟩ : _ ∧ _))
          go_ret
          exact ⟨rfl, ((Below.refl _ _).alloc (Nat.le_refl _) _).trans (hb.mono (by simp))⟩
    · have b1 : (c == c') = false := beq_eq_false_iff_ne.2 e1
      obtain rfl : r = false := by rw [hr]; simp [e1]
      clear hr e1
      go_enter Tryz.func26, Tryz.ntmps26
      go_wp2_with (go_at_call 37; refine (code_any a _ _ _ _ hS1 h1).mono ?_; rintro e w1 ⟨rfl, hb⟩; obtain ⟨hc, hf⟩ := (⟨hb.cell (p := ⟨w.heap.size, 0, none⟩) (by simp), hb.cell (p := ⟨w.heap.size, 1, none⟩) (by simp)⟩ : _ ∧ _))
      go_ret
      exact ⟨rfl, ((Below.refl _ _).alloc (Nat.le_refl _) _).trans (hb.mono (by simp))⟩
  exact H _ rfl
end Go.Proofs.YtddnjimpdidpaaaGreatDoor
