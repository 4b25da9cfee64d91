/-
  slices.Compare of two slices of ints by a contract: 'cmpL'. Condition: the slices read as lists.
-/
import Derived.Test.YtddnjimpdidpaaaGreatDoorMem
import Derived.Test.YtddnjimpdidpaaaGreatDoorProg
import Derived.Lib.Hide
namespace Go.Proofs.YtddnjimpdidpaaaGreatDoor
open Go Go.RowKit

/-- the order of lists, as slices.Compare tells it -/
def cmpL : List Int → List Int → Int
  | [], [] => 0
  | [], _ :: _ => -1
  | _ :: _, [] => 1
  | x :: xs, y :: ys => if x < y then -1 else if y < x then 1 else cmpL xs ys

theorem cmpL_append (p a b : List Int) : cmpL (p ++ a) (p ++ b) = cmpL a b := by
  induction p with
  | nil => rfl
  | cons x p ih => simp [cmpL, ih]
theorem cmpL_at (xs ys : List Int) (k : Nat) (h : xs.take k = ys.take k) : cmpL xs ys = cmpL (xs.drop k) (ys.drop k) := by
  have e1 := List.take_append_drop k xs
  have e2 := List.take_append_drop k ys
  rw [← cmpL_append (xs.take k) (xs.drop k) (ys.drop k), e1, h, e2]
theorem drop_getD {α : Type} (d : α) (xs : List α) (k : Nat) (h : k < xs.length) : xs.drop k = xs.getD k d :: xs.drop (k + 1) := by
  rw [List.drop_eq_getElem_cons h, List.getD_eq_getElem?_getD, List.getElem?_eq_getElem h]; rfl

def cmpI (x y : Int) : Int := if x < y then -1 else if y < x then 1 else 0

theorem cmp_any (x y : Int) (w : World) : Calls Tryz.prog 130 #[.int .i64 x, .int .i64 y] w fun e w' => e = .returned (.int .i64 (cmpI x y)) ∧ w = w' := by
  have H : ∀ r : Int, r = cmpI x y → Calls Tryz.prog 130 #[.int .i64 x, .int .i64 y] w fun e w' => e = .returned (.int .i64 r) ∧ w = w' := by
    intro r hr
    unfold cmpI at hr
    by_cases h1 : x < y
    · rw [if_pos h1] at hr
      subst hr
      go_enter Tryz.func130, Tryz.ntmps130
      go_wp2
      go_ret
      exact ⟨rfl, rfl⟩
    · rw [if_neg h1] at hr
      by_cases h2 : y < x
      · rw [if_pos h2] at hr
        subst hr
        have h1' : y ≤ x := by omega
        clear h1
        go_enter Tryz.func130, Tryz.ntmps130
        go_wp2
        go_ret
        exact ⟨rfl, rfl⟩
      · rw [if_neg h2] at hr
        have e : x = y := by omega
        subst e
        subst hr
        clear h1 h2
        go_enter Tryz.func130, Tryz.ntmps130
        go_wp2
        go_ret
        exact ⟨rfl, rfl⟩
  exact H _ rfl

theorem take_snoc_D {α : Type} (d : α) (xs : List α) (k : Nat) (h : k < xs.length) : xs.take (k + 1) = xs.take k ++ [xs.getD k d] := by
  rw [List.take_succ_eq_append_getElem h, List.getD_eq_getElem?_getD, List.getElem?_eq_getElem h]; rfl

def RetIs (v : Value) (w : World) (e : Ending) (w' : World) : Prop := e = .returned v ∧ w = w'

set_option maxHeartbeats 1000000 in
theorem compare_core (xs ys : List Int) (n m : Nat) (pa pb : Option Addr) (ca cb : Nat) (w : World) (hn : xs.length = n) (hm : ys.length = m) (hn1 : n ≤ 1000000000000) (hm1 : m ≤ 1000000000000)
    (ha : ∀ i, i < n → ∃ b off, pa = some ⟨b, off, none⟩ ∧ w.cell? ⟨b, off + i, none⟩ = some (.int .i64 (xs.getD i 0)))
    (hb : ∀ i, i < m → ∃ b off, pb = some ⟨b, off, none⟩ ∧ w.cell? ⟨b, off + i, none⟩ = some (.int .i64 (ys.getD i 0))) :
    Calls Tryz.prog 92 #[.slice pa n ca, .slice pb m cb] w (RetIs (.int .i64 (cmpL xs ys)) w) := by
  have HN := Lib.hid hn
  have HM := Lib.hid hm
  have HA := Lib.hid ha
  have HB := Lib.hid hb
  clear hn hm ha hb
  obtain ⟨r, hr⟩ : ∃ r, r = cmpL xs ys := ⟨_, rfl⟩
  have HR := Lib.hid hr
  rw [← hr]
  clear hr
  go_enter Tryz.func92, Tryz.ntmps92
  go_wp2
  go_loop [11] (fun i => ∃ k : Nat, k ≤ n ∧ k ≤ m ∧ i = .int .i64 k ∧ xs.take k = ys.take k) (fun i => n - (intOf i).toNat)
  case atStart => exact ⟨0, Nat.zero_le _, Nat.zero_le _, rfl, rfl⟩
  case round =>
    obtain ⟨k, hk, hkm, rfl, ht⟩ := hrel
    have HT := Lib.hid ht
    have HE := Lib.hid (cmpL_at xs ys k ht)
    clear ht
    by_cases hlt : k < n
    · obtain ⟨b1, o1, rfl, c1⟩ := HA.out k hlt
      have hd1 := drop_getD 0 xs k (by rw [HN.out]; exact hlt)
      by_cases hlm : k < m
      · obtain ⟨b2, o2, rfl, c2⟩ := HB.out k hlm
        have hd2 := drop_getD 0 ys k (by rw [HM.out]; exact hlm)
        obtain ⟨x, hx⟩ : ∃ x, xs.getD k 0 = x := ⟨_, rfl⟩
        obtain ⟨y, hy⟩ : ∃ y, ys.getD k 0 = y := ⟨_, rfl⟩
        have HX := Lib.hid hx
        have HY := Lib.hid hy
        have HR2 : Hid (r = if x < y then -1 else if y < x then 1 else cmpL (xs.drop (k + 1)) (ys.drop (k + 1))) := by
          unfold Hid
          rw [HR.out, HE.out, hd1, hd2, hx, hy]; rfl
        rw [hx] at c1
        rw [hy] at c2
        clear hx hy hd1 hd2
        by_cases h1 : x < y
        · obtain rfl : r = -1 := by rw [HR2.out, if_pos h1]
          have hc : cmpI x y = -1 := by unfold cmpI; rw [if_pos h1]
          have hcm := cmp_any x y w
          rw [hc] at hcm
          clear hc h1
          go_wp2_with (go_at_call 130; refine hcm.mono ?_; rintro e w' ⟨rfl, rfl⟩)
          go_ret
          exact ⟨rfl, rfl⟩
        · by_cases h2 : y < x
          · obtain rfl : r = 1 := by rw [HR2.out, if_neg h1, if_pos h2]
            have hc : cmpI x y = 1 := by unfold cmpI; rw [if_neg h1, if_pos h2]
            have hcm := cmp_any x y w
            rw [hc] at hcm
            clear hc h1 h2
            go_wp2_with (go_at_call 130; refine hcm.mono ?_; rintro e w' ⟨rfl, rfl⟩)
            go_ret
            exact ⟨rfl, rfl⟩
          · have hxy : x = y := by omega
            have HT2 : Hid (xs.take (k + 1) = ys.take (k + 1)) := by
              unfold Hid
              rw [take_snoc_D 0 _ _ (by rw [HN.out]; exact hlt), take_snoc_D 0 _ _ (by rw [HM.out]; exact hlm), HT.out, HX.out, HY.out, hxy]
            subst hxy
            have hc : cmpI x x = 0 := by unfold cmpI; rw [if_neg h1, if_neg h1]
            have hcm := cmp_any x x w
            rw [hc] at hcm
            clear hc h1 h2
            go_wp2_with (go_at_call 130; refine hcm.mono ?_; rintro e w' ⟨rfl, rfl⟩)
            go_round
            case rel => exact ⟨k + 1, by omega, by omega, by go_num, HT2.out⟩
            case measure => simp [intOf]; omega
      · obtain rfl : k = m := by omega
        obtain rfl : r = 1 := by
          rw [HR.out, HE.out, hd1, List.drop_of_length_le (l := ys) (by rw [HM.out]; exact Nat.le_refl _)]; rfl
        clear hd1
        go_wp2
        go_ret
        exact ⟨rfl, rfl⟩
    · obtain rfl : k = n := by omega
      have e1 : xs.drop k = [] := List.drop_of_length_le (by rw [HN.out]; exact Nat.le_refl _)
      by_cases hlm : k < m
      · obtain rfl : r = -1 := by
          rw [HR.out, HE.out, e1, drop_getD 0 ys k (by rw [HM.out]; exact hlm)]; rfl
        clear e1
        go_wp2
        go_ret
        exact ⟨rfl, rfl⟩
      · obtain rfl : r = 0 := by
          rw [HR.out, HE.out, e1, List.drop_of_length_le (l := ys) (by rw [HM.out]; omega)]; rfl
        clear e1
        have hkm2 : m ≤ k := by omega
        go_wp2
        go_ret
        exact ⟨rfl, rfl⟩

theorem compare_any (u v : Value) (xs ys : List Int) (w : World) (hu : IntsAt w u xs) (hv : IntsAt w v ys) (hx : xs.length ≤ 1000000000000) (hy : ys.length ≤ 1000000000000) :
    Calls Tryz.prog 92 #[u, v] w fun e w' => e = .returned (.int .i64 (cmpL xs ys)) ∧ w = w' := by
  obtain ⟨p, c, rfl, _, _, ha⟩ := hu
  obtain ⟨p', c', rfl, _, _, hb⟩ := hv
  exact compare_core xs ys xs.length ys.length p p' c c' w rfl rfl hx hy ha hb
end Go.Proofs.YtddnjimpdidpaaaGreatDoor
