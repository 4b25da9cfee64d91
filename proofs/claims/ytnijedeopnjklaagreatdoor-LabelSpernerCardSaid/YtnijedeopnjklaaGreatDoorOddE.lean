/-
  Contains and Minus of the document's answer.
-/
import Derived.Test.YtnijedeopnjklaaGreatDoorOddD
import Derived.Test.YtnijedeopnjklaaGreatDoorBase
namespace Go.Proofs.YtnijedeopnjklaaGreatDoor
open Go Go.RowKit

set_option maxHeartbeats 2000000 in
theorem contains_any (xs : List Int) (v : Value) (y : Int) (w : World) (hv : IntsAt w v xs) (hlen : xs.length ≤ 1000000) :
    Calls Tryz.prog 51 #[v, .int .i64 y] w fun e w' => e = .returned (.bool (xs.contains y)) ∧ w' = w := by
  rcases hv.cases with ⟨rfl, p, c, rfl⟩ | ⟨hpos, b, off, c, rfl, hcap, hc⟩
  · go_enter Tryz.func51, Tryz.ntmps51
    go_wp2
    go_loop [5] (fun i => i = .int .i64 0) (fun _ => 0)
    case atStart => rfl
    case round =>
      subst hrel
      go_wp2
      go_ret
      exact ⟨by simp, rfl⟩
  · have HC := Lib.hid hc
    clear hc hv
    go_enter Tryz.func51, Tryz.ntmps51
    go_wp2
    go_loop [5] (fun i => ∃ k : Nat, k ≤ xs.length ∧ i = .int .i64 k ∧ ∀ j, j < k → xs.getD j 0 ≠ y) (fun i => xs.length - (intOf i).toNat)
    case atStart => exact ⟨0, Nat.zero_le _, rfl, fun j h => absurd h (by omega)⟩
    case round =>
      obtain ⟨k, hk, rfl, hno⟩ := hrel
      have HNO := Lib.hid hno
      clear hno
      by_cases hks : k < xs.length
      · have cx := HC.out k hks
        by_cases he : xs.getD k 0 = y
        · have hres : xs.contains y = true := List.contains_iff_mem.2 (by
            rw [← he, List.getD_eq_getElem?_getD, List.getElem?_eq_getElem hks]; exact List.getElem_mem hks)
          rw [he] at cx
          have hq : (y == y) = true := beq_self_eq_true y
          clear he
          have HRES := Lib.hid (List.contains_iff_mem.1 hres)
          clear hres
          go_wp2_with fail
          go_ret
          exact ⟨by have := HRES.out; simp [this], rfl⟩
        · have HE := Lib.hid he
          generalize hx : xs.getD k 0 = x at cx he
          have hq : (x == y) = false := beq_eq_false_iff_ne.2 he
          clear hx he
          go_wp2_with fail
          go_round
          case rel => exact ⟨k + 1, by omega, by go_num, fun j hj => by
            by_cases h : j < k
            · exact HNO.out j h
            · have : j = k := by omega
              subst this; exact HE.out⟩
          case measure => simp [intOf]; omega
      · obtain rfl : k = xs.length := by omega
        have hres : xs.contains y = false := by
          rw [Bool.eq_false_iff]
          intro h
          obtain ⟨j, hj, he⟩ := List.getElem_of_mem (List.contains_iff_mem.1 h)
          exact HNO.out j hj (by rw [List.getD_eq_getElem?_getD, List.getElem?_eq_getElem hj]; exact he)
        have HRES := Lib.hid (show ¬ y ∈ xs from fun h => Bool.eq_false_iff.1 hres (List.contains_iff_mem.2 h))
        clear hres
        go_wp2_with fail
        go_ret
        exact ⟨by have := HRES.out; simp [this], rfl⟩

def minusL (xs ys : List Int) : List Int := xs.filter fun x => !ys.contains x
theorem minus_step (xs ys : List Int) (k : Nat) (hk : k < xs.length) : minusL (xs.take (k + 1)) ys = minusL (xs.take k) ys ++ (if ys.contains (xs.getD k 0) = true then [] else [xs.getD k 0]) := by
  unfold minusL
  rw [List.take_add_one, List.filter_append, List.getElem?_eq_getElem hk, List.getD_eq_getElem?_getD, List.getElem?_eq_getElem hk]
  simp only [Option.toList_some, Option.getD_some]
  cases h : ys.contains xs[k] with
  | true => rw [List.filter_cons_of_neg (by rw [h]; decide), List.filter_nil, if_pos rfl]
  | false => rw [List.filter_cons_of_pos (by rw [h]; decide), List.filter_nil, if_neg (by decide)]

end Go.Proofs.YtnijedeopnjklaaGreatDoor
