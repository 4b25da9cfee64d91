/-
  Readings of slices of ints and of slices of these, in a world; what keeps them. Plain: no program in sight.
  'SameInts' by a contract: of any two slices that read as lists.
  slices.Compare of two slices of ints by a contract: 'cmpL'. Condition: the slices read as lists.
-/
import Derived.WalkKit
import Derived.Test.YtoheffkiohfmoaaGreatDoorErrsD
import Derived.RegionTactic
import Derived.Deep.QuietTactic
import Derived.BigQuiet
import Derived.Test.YtoheffkiohfmoaaGreatDoorProg
import Derived.Lib.Hide

namespace Go.Proofs.YtoheffkiohfmoaaGreatDoor
open Go Go.RowKit

/-- slice 'v' reads as the list 'xs' -/
def IntsAt (w : World) (v : Value) (xs : List Int) : Prop :=
  ∃ (p : Option Addr) (c : Nat), v = .slice p xs.length c ∧ xs.length ≤ c ∧ (p = none → c = 0) ∧
    ∀ i, i < xs.length → ∃ b off, p = some ⟨b, off, none⟩ ∧ w.cell? ⟨b, off + i, none⟩ = some (.int .i64 (xs.getD i 0))

theorem IntsAt.nil (w : World) : IntsAt w (.slice none 0 0) [] := ⟨none, 0, rfl, Nat.le_refl _, fun _ => rfl, fun i h => absurd h (by simp)⟩

theorem mem_lt {w : World} {p : Addr} {v : Value} (h : w.cell? p = some v) : p.block < w.heap.size := by
  rcases Nat.lt_or_ge p.block w.heap.size with h' | h'
  · exact h'
  · simp [World.cell?, Array.getElem?_eq_none h'] at h

theorem IntsAt.below {w w' : World} {v : Value} {xs : List Int} {B : Nat} (h : IntsAt w v xs) (hb : Below B w w') (hB : w.heap.size ≤ B) : IntsAt w' v xs := by
  obtain ⟨p, c, hv, hc, hn, hx⟩ := h
  refine ⟨p, c, hv, hc, hn, fun i hi => ?_⟩
  obtain ⟨b, off, e1, e2⟩ := hx i hi
  exact ⟨b, off, e1, by rw [hb.cell (Nat.lt_of_lt_of_le (mem_lt e2) hB)]; exact e2⟩

/-- either empty or an address with all its cells -/
theorem IntsAt.cases {w : World} {v : Value} {xs : List Int} (h : IntsAt w v xs) :
    (xs = [] ∧ ∃ p c, v = .slice p 0 c) ∨ (0 < xs.length ∧ ∃ b off c, v = .slice (some ⟨b, off, none⟩) xs.length c ∧ xs.length ≤ c ∧ ∀ i, i < xs.length → w.cell? ⟨b, off + i, none⟩ = some (.int .i64 (xs.getD i 0))) := by
  obtain ⟨p, c, hv, hc, hn, hx⟩ := h
  rcases Nat.eq_zero_or_pos xs.length with h0 | h0
  · left
    have : xs = [] := List.length_eq_zero_iff.1 h0
    subst this
    exact ⟨rfl, p, c, hv⟩
  · right
    obtain ⟨b, off, e1, e2⟩ := hx 0 h0
    subst e1
    refine ⟨h0, b, off, c, hv, hc, fun i hi => ?_⟩
    obtain ⟨b', off', e1', e2'⟩ := hx i hi
    cases e1'
    exact e2'

/-- a new block of ints -/
theorem IntsAt.new (w : World) (L : List Int) (t : TypeId) : IntsAt (w.alloc (.cells (L.map (Value.int .i64)).toArray t)) (.slice (some ⟨w.heap.size, 0, none⟩) L.length L.length) L :=
  ⟨_, _, rfl, Nat.le_refl _, (fun h => by cases h), fun i hi => ⟨_, _, rfl, by
    rw [World.cell?_alloc_at _ _ _ _ rfl]
    simp [List.getElem?_toArray, List.getElem?_map, List.getElem?_eq_getElem hi, List.getD_eq_getElem?_getD]⟩⟩

/-- the cells of a new block -/
theorem cells_new (w : World) (cs : Array Value) (t : TypeId) : ∀ j u, cs.toList[j]? = some u → (w.alloc (.cells cs t)).cell? ((⟨w.heap.size, 0, none⟩ : Addr).add j) = some u := by
  intro j u hu
  have h : (w.alloc (.cells cs t)).cell? ⟨w.heap.size, j, none⟩ = some u := by
    rw [World.cell?_alloc_at _ _ _ _ rfl]
    simpa using hu
  have e : (⟨w.heap.size, 0, none⟩ : Addr).add j = ⟨w.heap.size, j, none⟩ := by
    cases j with
    | zero => rfl
    | succ j => simp [Addr.add]
  rw [e]; exact h

theorem sameInts_len (n m : Nat) (pa pb : Option Addr) (ca cb : Nat) (w : World) (h : n ≠ m) :
    Calls Tryz.prog 27 #[.slice pa n ca, .slice pb m cb] w fun e w' => e = .returned (.bool false) ∧ w = w' := by
  have h' : ((n : Int) != (m : Int)) = true := by rw [bne_iff_ne]; omega
  go_enter Tryz.func27, Tryz.ntmps27
  go_wp2
  go_ret
  exact ⟨rfl, rfl⟩

theorem sameInts_zero (pa pb : Option Addr) (ca cb : Nat) (w : World) :
    Calls Tryz.prog 27 #[.slice pa 0 ca, .slice pb 0 cb] w fun e w' => e = .returned (.bool true) ∧ w = w' := by
  go_enter Tryz.func27, Tryz.ntmps27
  go_wp2
  refine wp_loop_rounds 1 ?_
  rw [rounds_succ]
  go_wp2
  go_ret
  exact ⟨rfl, rfl⟩

theorem take_snoc_getD {α : Type} (d : α) (xs : List α) (k : Nat) (h : k < xs.length) : xs.take (k + 1) = xs.take k ++ [xs.getD k d] := by
  rw [List.take_succ_eq_append_getElem h, List.getD_eq_getElem?_getD, List.getElem?_eq_getElem h]; rfl

set_option maxHeartbeats 4000000 in
theorem sameInts_pos (n : Nat) (xs ys : List Int) (b1 o1 b2 o2 : Nat) (ca cb : Nat) (w : World) (hx : xs.length = n) (hy : ys.length = n) (hn : n ≤ 1000000000000)
    (ha : ∀ i, i < n → w.cell? ⟨b1, o1 + i, none⟩ = some (.int .i64 (xs.getD i 0)))
    (hb : ∀ i, i < n → w.cell? ⟨b2, o2 + i, none⟩ = some (.int .i64 (ys.getD i 0))) :
    Calls Tryz.prog 27 #[.slice (some ⟨b1, o1, none⟩) n ca, .slice (some ⟨b2, o2, none⟩) n cb] w fun e w' => e = .returned (.bool (decide (xs = ys))) ∧ ∃ n, w' = w.drewN n := by
  have Hx : Hid (xs.length = n) := hx
  have Hy : Hid (ys.length = n) := hy
  have Ha : Hid (∀ i, i < n → w.cell? ⟨b1, o1 + i, none⟩ = some (.int .i64 (xs.getD i 0))) := ha
  have Hb : Hid (∀ i, i < n → w.cell? ⟨b2, o2 + i, none⟩ = some (.int .i64 (ys.getD i 0))) := hb
  clear hx hy ha hb
  go_enter Tryz.func27, Tryz.ntmps27
  go_wp2
  go_loopw [5] (fun i wr => ∃ k q : Nat, k ≤ n ∧ i = .int .i64 k ∧ xs.take k = ys.take k ∧ wr = w.drewN q) (fun i _ => n - (intOf i).toNat)
  case atStart => exact ⟨0, 0, Nat.zero_le _, rfl, rfl, rfl⟩
  case round =>
    obtain ⟨k, q, hk, rfl, htk, rfl⟩ := hrel
    have Ht : Hid (xs.take k = ys.take k) := htk
    clear htk
    by_cases hlt : k < n
    · have c1 := Ha.out k hlt
      have c2 := Hb.out k hlt
      have hk0 : (k : Int) < (n : Int) := by omega
      by_cases he : xs.getD k 0 = ys.getD k 0
      · have Hnext : Hid (xs.take (k + 1) = ys.take (k + 1)) := by
          unfold Hid
          rw [take_snoc_getD 0 _ _ (by rw [Hx.out]; exact hlt), take_snoc_getD 0 _ _ (by rw [Hy.out]; exact hlt), Ht.out, he]
        rw [he] at c1
        generalize ys.getD k 0 = z at c1 c2
        clear he
        go_wp2
        go_quiet (fail)
        go_wp2
        go_roundw
        case rel => exact ⟨k + 1, _, by omega, by go_num, Hnext.out, rfl⟩
        case measure => simp [intOf]; omega
      · have Hne : Hid (¬ xs = ys) := fun e => he (by rw [e])
        have hbe : (xs.getD k 0 != ys.getD k 0) = true := by rw [bne_iff_ne]; exact he
        generalize xs.getD k 0 = z1 at c1 hbe
        generalize ys.getD k 0 = z2 at c2 hbe
        clear he
        go_wp2
        go_quiet (fail)
        go_wp2
        go_ret
        exact ⟨by simpa using Hne.out, _, World.drewN_drewN _ _ _⟩
    · obtain rfl : k = n := by omega
      have Heq : Hid (xs = ys) := by
        have h := Ht.out
        rw [List.take_of_length_le (by rw [Hx.out]; exact Nat.le_refl _), List.take_of_length_le (by rw [Hy.out]; exact Nat.le_refl _)] at h
        exact h
      go_wp2
      go_ret
      exact ⟨by simpa using Heq.out, _, rfl⟩

/-- of any two slices that read as lists -/
theorem sameInts_any (u v : Value) (xs ys : List Int) (w : World) (hu : IntsAt w u xs) (hv : IntsAt w v ys) (hx : xs.length ≤ 1000000000000) (hy : ys.length ≤ 1000000000000) :
    Calls Tryz.prog 27 #[u, v] w fun e w' => e = .returned (.bool (decide (xs = ys))) ∧ ∃ n, w' = w.drewN n := by
  by_cases hl : xs.length = ys.length
  · rcases hu.cases with ⟨rfl, p, c, rfl⟩ | ⟨h0, b1, o1, c1, rfl, hc1, ha⟩
    · rcases hv.cases with ⟨rfl, p', c', rfl⟩ | ⟨h0', _⟩
      · exact (sameInts_zero p p' c c' w).mono fun e w' h => ⟨h.1, 0, h.2.symm⟩
      · simp only [List.length_nil] at hl; omega
    · rcases hv.cases with ⟨rfl, p', c', rfl⟩ | ⟨h0', b2, o2, c2, rfl, hc2, hb⟩
      · simp only [List.length_nil] at hl; omega
      · have := sameInts_pos xs.length xs ys b1 o1 b2 o2 c1 c2 w rfl hl.symm hx ha (by rw [hl]; exact hb)
        rw [hl] at this ⊢
        exact this
  · obtain ⟨p, c, rfl, _⟩ := hu
    obtain ⟨p', c', rfl, _⟩ := hv
    have hne : ¬ xs = ys := fun e => hl (by rw [e])
    exact (sameInts_len xs.length ys.length p p' c c' w hl).mono fun e w' h => ⟨by rw [decide_eq_false hne]; exact h.1, 0, h.2.symm⟩

/-- the order of lists, as slices.Compare tells it -/
def cmpL : List Int → List Int → Int
  | [], [] => 0
  | [], _ :: _ => -1
  | _ :: _, [] => 1
  | x :: xs, y :: ys => if x < y then -1 else if y < x then 1 else cmpL xs ys

theorem cmpL_append (p a b : List Int) : cmpL (p ++ a) (p ++ b) = cmpL a b := by
  induction p with
  | nil => rfl
  | cons x p ih => simp [cmpL, ih]
theorem cmpL_at (xs ys : List Int) (k : Nat) (h : xs.take k = ys.take k) : cmpL xs ys = cmpL (xs.drop k) (ys.drop k) := by
  have e1 := List.take_append_drop k xs
  have e2 := List.take_append_drop k ys
  rw [← cmpL_append (xs.take k) (xs.drop k) (ys.drop k), e1, h, e2]
theorem drop_getD {α : Type} (d : α) (xs : List α) (k : Nat) (h : k < xs.length) : xs.drop k = xs.getD k d :: xs.drop (k + 1) := by
  rw [List.drop_eq_getElem_cons h, List.getD_eq_getElem?_getD, List.getElem?_eq_getElem h]; rfl

def cmpI (x y : Int) : Int := if x < y then -1 else if y < x then 1 else 0

theorem cmp_any (x y : Int) (w : World) : Calls Tryz.prog 105 #[.int .i64 x, .int .i64 y] w fun e w' => e = .returned (.int .i64 (cmpI x y)) ∧ w = w' := by
  have H : ∀ r : Int, r = cmpI x y → Calls Tryz.prog 105 #[.int .i64 x, .int .i64 y] w fun e w' => e = .returned (.int .i64 r) ∧ w = w' := by
    intro r hr
    unfold cmpI at hr
    by_cases h1 : x < y
    · rw [if_pos h1] at hr
      subst hr
      go_enter Tryz.func105, Tryz.ntmps105
      go_wp2
      go_ret
      exact ⟨rfl, rfl⟩
    · rw [if_neg h1] at hr
      by_cases h2 : y < x
      · rw [if_pos h2] at hr
        subst hr
        have h1' : y ≤ x := by omega
        clear h1
        go_enter Tryz.func105, Tryz.ntmps105
        go_wp2
        go_ret
        exact ⟨rfl, rfl⟩
      · rw [if_neg h2] at hr
        have e : x = y := by omega
        subst e
        subst hr
        clear h1 h2
        go_enter Tryz.func105, Tryz.ntmps105
        go_wp2
        go_ret
        exact ⟨rfl, rfl⟩
  exact H _ rfl

theorem take_snoc_D {α : Type} (d : α) (xs : List α) (k : Nat) (h : k < xs.length) : xs.take (k + 1) = xs.take k ++ [xs.getD k d] := by
  rw [List.take_succ_eq_append_getElem h, List.getD_eq_getElem?_getD, List.getElem?_eq_getElem h]; rfl

def RetIs (v : Value) (w : World) (e : Ending) (w' : World) : Prop := e = .returned v ∧ w = w'

set_option maxHeartbeats 1000000 in
theorem compare_core (xs ys : List Int) (n m : Nat) (pa pb : Option Addr) (ca cb : Nat) (w : World) (hn : xs.length = n) (hm : ys.length = m) (hn1 : n ≤ 1000000000000) (hm1 : m ≤ 1000000000000)
    (ha : ∀ i, i < n → ∃ b off, pa = some ⟨b, off, none⟩ ∧ w.cell? ⟨b, off + i, none⟩ = some (.int .i64 (xs.getD i 0)))
    (hb : ∀ i, i < m → ∃ b off, pb = some ⟨b, off, none⟩ ∧ w.cell? ⟨b, off + i, none⟩ = some (.int .i64 (ys.getD i 0))) :
    Calls Tryz.prog 78 #[.slice pa n ca, .slice pb m cb] w (RetIs (.int .i64 (cmpL xs ys)) w) := by
  have HN := Lib.hid hn
  have HM := Lib.hid hm
  have HA := Lib.hid ha
  have HB := Lib.hid hb
  clear hn hm ha hb
  obtain ⟨r, hr⟩ : ∃ r, r = cmpL xs ys := ⟨_, rfl⟩
  have HR := Lib.hid hr
  rw [← hr]
  clear hr
  go_enter Tryz.func78, Tryz.ntmps78
  go_wp2
  go_loop [11] (fun i => ∃ k : Nat, k ≤ n ∧ k ≤ m ∧ i = .int .i64 k ∧ xs.take k = ys.take k) (fun i => n - (intOf i).toNat)
  case atStart => exact ⟨0, Nat.zero_le _, Nat.zero_le _, rfl, rfl⟩
  case round =>
    obtain ⟨k, hk, hkm, rfl, ht⟩ := hrel
    have HT := Lib.hid ht
    have HE := Lib.hid (cmpL_at xs ys k ht)
    clear ht
    by_cases hlt : k < n
    · obtain ⟨b1, o1, rfl, c1⟩ := HA.out k hlt
      have hd1 := drop_getD 0 xs k (by rw [HN.out]; exact hlt)
      by_cases hlm : k < m
      · obtain ⟨b2, o2, rfl, c2⟩ := HB.out k hlm
        have hd2 := drop_getD 0 ys k (by rw [HM.out]; exact hlm)
        obtain ⟨x, hx⟩ : ∃ x, xs.getD k 0 = x := ⟨_, rfl⟩
        obtain ⟨y, hy⟩ : ∃ y, ys.getD k 0 = y := ⟨_, rfl⟩
        have HX := Lib.hid hx
        have HY := Lib.hid hy
        have HR2 : Hid (r = if x < y then -1 else if y < x then 1 else cmpL (xs.drop (k + 1)) (ys.drop (k + 1))) := by
          unfold Hid
          rw [HR.out, HE.out, hd1, hd2, hx, hy]; rfl
        rw [hx] at c1
        rw [hy] at c2
        clear hx hy hd1 hd2
        by_cases h1 : x < y
        · obtain rfl : r = -1 := by rw [HR2.out, if_pos h1]
          have hc : cmpI x y = -1 := by unfold cmpI; rw [if_pos h1]
          have hcm := cmp_any x y w
          rw [hc] at hcm
          clear hc h1
          go_wp2_with (go_at_call 105; refine hcm.mono ?_; rintro e w' ⟨rfl, rfl⟩)
          go_ret
          exact ⟨rfl, rfl⟩
        · by_cases h2 : y < x
          · obtain rfl : r = 1 := by rw [HR2.out, if_neg h1, if_pos h2]
            have hc : cmpI x y = 1 := by unfold cmpI; rw [if_neg h1, if_pos h2]
            have hcm := cmp_any x y w
            rw [hc] at hcm
            clear hc h1 h2
            go_wp2_with (go_at_call 105; refine hcm.mono ?_; rintro e w' ⟨rfl, rfl⟩)
            go_ret
            exact ⟨rfl, rfl⟩
          · have hxy : x = y := by omega
            have HT2 : Hid (xs.take (k + 1) = ys.take (k + 1)) := by
              unfold Hid
              rw [take_snoc_D 0 _ _ (by rw [HN.out]; exact hlt), take_snoc_D 0 _ _ (by rw [HM.out]; exact hlm), HT.out, HX.out, HY.out, hxy]
            subst hxy
            have hc : cmpI x x = 0 := by unfold cmpI; rw [if_neg h1, if_neg h1]
            have hcm := cmp_any x x w
            rw [hc] at hcm
            clear hc h1 h2
            go_wp2_with (go_at_call 105; refine hcm.mono ?_; rintro e w' ⟨rfl, rfl⟩)
            go_round
            case rel => exact ⟨k + 1, by omega, by omega, by go_num, HT2.out⟩
            case measure => simp [intOf]; omega
      · obtain rfl : k = m := by omega
        obtain rfl : r = 1 := by
          rw [HR.out, HE.out, hd1, List.drop_of_length_le (l := ys) (by rw [HM.out]; exact Nat.le_refl _)]; rfl
        clear hd1
        go_wp2
        go_ret
        exact ⟨rfl, rfl⟩
    · obtain rfl : k = n := by omega
      have e1 : xs.drop k = [] := List.drop_of_length_le (by rw [HN.out]; exact Nat.le_refl _)
      by_cases hlm : k < m
      · obtain rfl : r = -1 := by
          rw [HR.out, HE.out, e1, drop_getD 0 ys k (by rw [HM.out]; exact hlm)]; rfl
        clear e1
        go_wp2
        go_ret
        exact ⟨rfl, rfl⟩
      · obtain rfl : r = 0 := by
          rw [HR.out, HE.out, e1, List.drop_of_length_le (l := ys) (by rw [HM.out]; omega)]; rfl
        clear e1
        have hkm2 : m ≤ k := by omega
        go_wp2
        go_ret
        exact ⟨rfl, rfl⟩

theorem compare_any (u v : Value) (xs ys : List Int) (w : World) (hu : IntsAt w u xs) (hv : IntsAt w v ys) (hx : xs.length ≤ 1000000000000) (hy : ys.length ≤ 1000000000000) :
    Calls Tryz.prog 78 #[u, v] w fun e w' => e = .returned (.int .i64 (cmpL xs ys)) ∧ w = w' := by
  obtain ⟨p, c, rfl, _, _, ha⟩ := hu
  obtain ⟨p', c', rfl, _, _, hb⟩ := hv
  exact compare_core xs ys xs.length ys.length p p' c c' w rfl rfl hx hy ha hb
end Go.Proofs.YtoheffkiohfmoaaGreatDoor
