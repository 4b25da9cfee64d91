/-
  Contains and Minus of the document's answer.
-/
import Derived.Test.YtnijedeopnjklaaDoorOddD
import Derived.Test.YtnijedeopnjklaaDoorRefA
namespace Go.Proofs.YtnijedeopnjklaaDoor
open Go Go.RowKit

set_option maxHeartbeats 2000000 in
theorem contains_any (xs : List Int) (v : Value) (y : Int) (w : World) (hv : IntsAt w v xs) (hlen : xs.length ≤ 1000000) :
    Calls Tryd.prog 10 #[v, .int .i64 y] w fun e w' => e = .returned (.bool (xs.contains y)) ∧ w' = w := by
  rcases hv.cases with ⟨rfl, p, c, rfl⟩ | ⟨hpos, b, off, c, rfl, hcap, hc⟩
  · go_enter Tryd.func10, Tryd.ntmps10
    go_wp2
    go_loop [5] (fun i => i = .int .i64 0) (fun _ => 0)
    case atStart => rfl
    case round =>
      subst hrel
      go_wp2
      go_ret
      exact ⟨by simp, rfl⟩
  · have HC := Lib.hid hc
    clear hc hv
    go_enter Tryd.func10, Tryd.ntmps10
    go_wp2
    go_loop [5] (fun i => ∃ k : Nat, k ≤ xs.length ∧ i = .int .i64 k ∧ ∀ j, j < k → xs.getD j 0 ≠ y) (fun i => xs.length - (intOf i).toNat)
    case atStart => exact ⟨0, Nat.zero_le _, rfl, fun j h => absurd h (by omega)⟩
    case round =>
      obtain ⟨k, hk, rfl, hno⟩ := hrel
      have HNO := Lib.hid hno
      clear hno
      by_cases hks : k < xs.length
      · have cx := HC.out k hks
        by_cases he : xs.getD k 0 = y
        · have hres : xs.contains y = true := List.contains_iff_mem.2 (by
            rw [← he, List.getD_eq_getElem?_getD, List.getElem?_eq_getElem hks]; exact List.getElem_mem hks)
          rw [he] at cx
          have hq : (y == y) = true := beq_self_eq_true y
          clear he
          have HRES := Lib.hid (List.contains_iff_mem.1 hres)
          clear hres
          go_wp2_with fail
          go_ret
          exact ⟨by have := HRES.out; simp [this], rfl⟩
        · have HE := Lib.hid he
          generalize hx : xs.getD k 0 = x at cx he
          have hq : (x == y) = false := beq_eq_false_iff_ne.2 he
          clear hx he
          go_wp2_with fail
          go_round
          case rel => exact ⟨k + 1, by omega, by go_num, fun j hj => by
            by_cases h : j < k
            · exact HNO.out j h
            · have : j = k := by omega
              subst this; exact HE.out⟩
          case measure => simp [intOf]; omega
      · obtain rfl : k = xs.length := by omega
        have hres : xs.contains y = false := by
          rw [Bool.eq_false_iff]
          intro h
          obtain ⟨j, hj, he⟩ := List.getElem_of_mem (List.contains_iff_mem.1 h)
          exact HNO.out j hj (by rw [List.getD_eq_getElem?_getD, List.getElem?_eq_getElem hj]; exact he)
        have HRES := Lib.hid (show ¬ y ∈ xs from fun h => Bool.eq_false_iff.1 hres (List.contains_iff_mem.2 h))
        clear hres
        go_wp2_with fail
        go_ret
        exact ⟨by have := HRES.out; simp [this], rfl⟩

def minusL (xs ys : List Int) : List Int := xs.filter fun x => !ys.contains x
theorem minus_step (xs ys : List Int) (k : Nat) (hk : k < xs.length) : minusL (xs.take (k + 1)) ys = minusL (xs.take k) ys ++ (if ys.contains (xs.getD k 0) = true then [] else [xs.getD k 0]) := by
  unfold minusL
  rw [List.take_add_one, List.filter_append, List.getElem?_eq_getElem hk, List.getD_eq_getElem?_getD, List.getElem?_eq_getElem hk]
  simp only [Option.toList_some, Option.getD_some]
  cases h : ys.contains xs[k] with
  | true => rw [List.filter_cons_of_neg (by rw [h]; decide), List.filter_nil, if_pos rfl]
  | false => rw [List.filter_cons_of_pos (by rw [h]; decide), List.filter_nil, if_neg (by decide)]

set_option maxRecDepth 100000 in
set_option maxHeartbeats 4000000 in
theorem minus_any (xs ys : List Int) (v1 v2 : Value) (w : World) (hv1 : IntsAt w v1 xs) (hv2 : IntsAt w v2 ys) (h0 : 0 < xs.length) (h1 : xs.length ≤ 1000) (h2 : ys.length ≤ 1000) :
    Calls Tryd.prog 11 #[v1, v2] w fun e w' => ∃ v, e = .returned v ∧ Below w.heap.size w w' ∧ w'.ownsRow w.heap.size 3 1 v (minusL xs ys).length (intVs (minusL xs ys)) := by
  obtain ⟨i3, hi3, hz30, hz31, hz32⟩ := info_parts Tryd.info3
  rcases hv1.cases with ⟨rfl, -⟩ | ⟨-, b, off, c, rfl, hcap, hc⟩
  · simp at h0
  have HC := Lib.hid hc
  have HV := Lib.hid hv2
  clear hc hv1 hv2 h0
  go_enter Tryd.func11, Tryd.ntmps11
  go_wp2
  go_loopw [5, 6] (fun v i wr => ∃ k : Nat, k ≤ xs.length ∧ i = .int .i64 k ∧ Below w.heap.size w wr ∧ wr.ownsRow w.heap.size 3 1 v (minusL (xs.take k) ys).length (intVs (minusL (xs.take k) ys))) (fun _ i _ => xs.length - (intOf i).toNat)
  case atStart => exact ⟨0, Nat.zero_le _, rfl, Below.refl _ _, World.ownsRow_nil _ _ _ _⟩
  case round =>
    obtain ⟨k, hk, rfl, hb, ho⟩ := hrel
    obtain ⟨wo, rfl⟩ : ∃ wo : World, wo = wr := ⟨_, rfl⟩
    by_cases hks : k < xs.length
    · have cx := (hb.cell (p := ⟨b, off + k, none⟩) (mem_lt (HC.out k hks))).trans (HC.out k hks)
      have HS := Lib.hid (minus_step xs ys k hks)
      have hI := HV.out.below hb (Nat.le_refl _)
      have hml : (minusL (xs.take k) ys).length ≤ 1000 := by
        have a1 := List.length_filter_le (fun x => !ys.contains x) (xs.take k)
        have a2 : (xs.take k).length ≤ k := by rw [List.length_take]; omega
        unfold minusL
        omega
      generalize hx : xs.getD k 0 = x at cx HS
      clear hx
      have HCT := Lib.hid (contains_any ys v2 x _ hI (by omega))
      clear hI
      go_wp2_with fail
      refine HCT.out.mono ?_
      rintro e w' ⟨rfl, rfl⟩
      clear HCT
      by_cases hcx : ys.contains x = true
      · rw [if_pos hcx, List.append_nil] at HS
        rw [hcx]
        clear hcx
        go_wp2_with fail
        go_roundw
        case rel => exact ⟨k + 1, by omega, by go_num, hb, by rw [HS.out]; exact ho⟩
        case measure => simp [intOf]; omega
      · rw [if_neg hcx] at HS
        rw [Bool.eq_false_iff.2 hcx]
        clear hcx
        have hlt := ho.lt
        generalize minusL (xs.take k) ys = L at ho HS hml
        go_wp2_with (at_builtin; go_must (refine wpList_append_own _ rfl _ _ 22 rfl w.heap.size 3 i3 (.int .i64 0) 1 8 Tryd.underlying22 hi3 hz30 hz31 hz32 rfl (by decide) _ _ _ rfl (ho.alloc _) ⟨w'.heap.size, 0, none⟩ 1 1 [.int .i64 x] rfl rfl (cells_new _ _ _) (fun u hu => by simp at hu; subst hu; rfl) (by unfold maxLen; omega) (by omega) (by have := hb.size; simp; omega) ?_); intro v' w1 hown' hgrow _)
        have hb3 : Below w.heap.size w w1 := (hb.alloc hb.size _).grown hgrow (by have := hb.size; simp; omega) (fun j hj => (hlt j hj).1)
        clear hgrow ho hb hlt
        go_wp2_with fail
        go_roundw
        case rel => exact ⟨k + 1, by omega, by go_num, hb3, by rw [HS.out]; simpa [intVs] using hown'⟩
        case measure => simp [intOf]; omega
    · obtain rfl : k = xs.length := by omega
      rw [List.take_length] at ho
      go_wp2_with fail
      go_ret
      exact ⟨_, rfl, hb, ho⟩
end Go.Proofs.YtnijedeopnjklaaDoor
