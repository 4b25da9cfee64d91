/-
  The walks that 'LabelTucker' needs, one: 'sided' and 'SquareFault' of the reference. Conditions: the bounds that the hypotheses name.
-/
import Derived.Test.YtnijedeopnjklaaDoorMem
import Derived.Test.YtnijedeopnjklaaDoorProg
import Derived.RegionTactic
import Derived.Deep.QuietTactic
import Derived.BigQuiet
import Derived.Outline
import Derived.Lib.Hide
namespace Go.Proofs.YtnijedeopnjklaaDoor
open Go Go.RowKit

theorem mul_bd2 (a b : Int) (h1 : -200 ≤ a) (h2 : a ≤ 200) (h3 : -200 ≤ b) (h4 : b ≤ 200) : -40000 ≤ a * b ∧ a * b ≤ 40000 := by
  have h : (a * b).natAbs ≤ 200 * 200 := by rw [Int.natAbs_mul]; exact Nat.mul_le_mul (by omega) (by omega)
  omega

theorem mul_bd (a : Int) (h1 : -100 ≤ a) (h2 : a ≤ 100) : 0 ≤ a * a ∧ a * a ≤ 10000 := by
  have e := Int.natAbs_mul_self' a
  have h0 : (0 : Int) ≤ (a.natAbs : Int) * (a.natAbs : Int) := Int.mul_nonneg (by omega) (by omega)
  have h : (a * a).natAbs ≤ 100 * 100 := by rw [Int.natAbs_mul]; exact Nat.mul_le_mul (by omega) (by omega)
  omega

def sidedB (x y u v : Int) : Bool :=
  if (u - x) * (u - x) + (v - y) * (v - y) = 1 then true
  else if v - y ≠ 1 ∨ (u - x) * (u - x) ≠ 1 then false
  else decide (0 < (x + u) * (y + v)) == decide (u - x = 1)

set_option maxHeartbeats 1000000 in
theorem sided_any (x y u v : Int) (w : World) (hx : -20 ≤ x ∧ x ≤ 20) (hy : -20 ≤ y ∧ y ≤ 20) (hu : -20 ≤ u ∧ u ≤ 20) (hv : -20 ≤ v ∧ v ≤ 20) :
    Calls Tryd.prog 26 #[.int .i64 x, .int .i64 y, .int .i64 u, .int .i64 v] w fun e w' => e = .returned (.bool (sidedB x y u v)) ∧ w = w' := by
  have H : ∀ r : Bool, r = sidedB x y u v → Calls Tryd.prog 26 #[.int .i64 x, .int .i64 y, .int .i64 u, .int .i64 v] w fun e w' => e = .returned (.bool r) ∧ w = w' := by
    intro r hr
    obtain ⟨hx1, hx2⟩ := hx
    obtain ⟨hy1, hy2⟩ := hy
    obtain ⟨hu1, hu2⟩ := hu
    obtain ⟨hv1, hv2⟩ := hv
    obtain ⟨d1, d2⟩ := mul_bd (u - x) (by omega) (by omega)
    obtain ⟨d3, d4⟩ := mul_bd (v - y) (by omega) (by omega)
    obtain ⟨d5, d6⟩ := mul_bd2 (x + u) (y + v) (by omega) (by omega) (by omega) (by omega)
    by_cases c1 : (u - x) * (u - x) + (v - y) * (v - y) = 1
    · obtain rfl : r = true := by rw [hr, sidedB, if_pos c1]
      have b1 : ((u - x) * (u - x) + (v - y) * (v - y) == 1) = true := beq_iff_eq.2 c1
      clear hr c1
      go_enter Tryd.func26, Tryd.ntmps26
      go_wp2
      go_ret
      exact ⟨rfl, rfl⟩
    · have b1 : ((u - x) * (u - x) + (v - y) * (v - y) == 1) = false := beq_eq_false_iff_ne.2 c1
      by_cases c2 : v - y = 1
      · have b2 : (v - y != 1) = false := by rw [bne_eq_false_iff_eq]; exact c2
        by_cases c3 : (u - x) * (u - x) = 1
        · have b3 : ((u - x) * (u - x) != 1) = false := by rw [bne_eq_false_iff_eq]; exact c3
          have hr' : r = (decide (0 < (x + u) * (y + v)) == decide (u - x = 1)) := by rw [hr, sidedB, if_neg c1, if_neg (by simp [c2, c3])]
          clear hr
          by_cases c4 : 0 < (x + u) * (y + v)
          · have b4 : decide (0 < (x + u) * (y + v)) = true := decide_eq_true c4
            by_cases c5 : u - x = 1
            · obtain rfl : r = true := by rw [hr', b4, decide_eq_true c5]; rfl
              have b5 : (u - x == 1) = true := beq_iff_eq.2 c5
              clear hr' c1 c2 c3 c5
              go_enter Tryd.func26, Tryd.ntmps26
              go_wp2
              go_ret
              exact ⟨rfl, rfl⟩
            · obtain rfl : r = false := by rw [hr', b4, decide_eq_false c5]; rfl
              have b5 : (u - x == 1) = false := beq_eq_false_iff_ne.2 c5
              clear hr' c1 c2 c3 c5
              go_enter Tryd.func26, Tryd.ntmps26
              go_wp2
              go_ret
              exact ⟨rfl, rfl⟩
          · have b4 : decide (0 < (x + u) * (y + v)) = false := decide_eq_false c4
            by_cases c5 : u - x = 1
            · obtain rfl : r = false := by rw [hr', b4, decide_eq_true c5]; rfl
              have b5 : (u - x == 1) = true := beq_iff_eq.2 c5
              clear hr' c1 c2 c3 c5
              go_enter Tryd.func26, Tryd.ntmps26
              go_wp2
              go_ret
              exact ⟨rfl, rfl⟩
            · obtain rfl : r = true := by rw [hr', b4, decide_eq_false c5]; rfl
              have b5 : (u - x == 1) = false := beq_eq_false_iff_ne.2 c5
              clear hr' c1 c2 c3 c5
              go_enter Tryd.func26, Tryd.ntmps26
              go_wp2
              go_ret
              exact ⟨rfl, rfl⟩
        · have b3 : ((u - x) * (u - x) != 1) = true := by rw [bne_iff_ne]; exact c3
          obtain rfl : r = false := by rw [hr, sidedB, if_neg c1, if_pos (Or.inr c3)]
          clear hr c1 c2 c3
          go_enter Tryd.func26, Tryd.ntmps26
          go_wp2
          go_ret
          exact ⟨rfl, rfl⟩
      · have b2 : (v - y != 1) = true := by rw [bne_iff_ne]; exact c2
        obtain rfl : r = false := by rw [hr, sidedB, if_neg c1, if_pos (Or.inl c2)]
        clear hr c1 c2
        go_enter Tryd.func26, Tryd.ntmps26
        go_wp2
        go_ret
        exact ⟨rfl, rfl⟩
  exact H _ rfl
end Go.Proofs.YtnijedeopnjklaaDoor
