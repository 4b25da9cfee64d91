/-
  'SameInts' by a contract: of any two slices that read as lists.
-/
import Derived.Test.YtddnjimpdidpaaaGreatDoorErrsC
import Derived.Test.YtddnjimpdidpaaaGreatDoorMem
import Derived.RegionTactic
import Derived.Deep.QuietTactic
import Derived.BigQuiet
namespace Go.Proofs.YtddnjimpdidpaaaGreatDoor
open Go.RowKit

theorem sameInts_len (n m : Nat) (pa pb : Option Addr) (ca cb : Nat) (w : World) (h : n ≠ m) :
    Calls Tryz.prog 20 #[.slice pa n ca, .slice pb m cb] w fun e w' => e = .returned (.bool false) ∧ w = w' := by
  have h' : ((n : Int) != (m : Int)) = true := by rw [bne_iff_ne]; omega
  go_enter Tryz.func20, Tryz.ntmps20
  go_wp2
  go_ret
  exact ⟨rfl, rfl⟩

theorem sameInts_zero (pa pb : Option Addr) (ca cb : Nat) (w : World) :
    Calls Tryz.prog 20 #[.slice pa 0 ca, .slice pb 0 cb] w fun e w' => e = .returned (.bool true) ∧ w = w' := by
  go_enter Tryz.func20, Tryz.ntmps20
  go_wp2
  refine wp_loop_rounds 1 ?_
  rw [rounds_succ]
  go_wp2
  go_ret
  exact ⟨rfl, rfl⟩

theorem take_snoc_getD {α : Type} (d : α) (xs : List α) (k : Nat) (h : k < xs.length) : xs.take (k + 1) = xs.take k ++ [xs.getD k d] := by
  rw [List.take_succ_eq_append_getElem h, List.getD_eq_getElem?_getD, List.getElem?_eq_getElem h]; rfl

set_option maxHeartbeats 4000000 in
theorem sameInts_pos (n : Nat) (xs ys : List Int) (b1 o1 b2 o2 : Nat) (ca cb : Nat) (w : World) (hx : xs.length = n) (hy : ys.length = n) (hn : n ≤ 1000000000000)
    (ha : ∀ i, i < n → w.cell? ⟨b1, o1 + i, none⟩ = some (.int .i64 (xs.getD i 0)))
    (hb : ∀ i, i < n → w.cell? ⟨b2, o2 + i, none⟩ = some (.int .i64 (ys.getD i 0))) :
    Calls Tryz.prog 20 #[.slice (some ⟨b1, o1, none⟩) n ca, .slice (some ⟨b2, o2, none⟩) n cb] w fun e w' => e = .returned (.bool (decide (xs = ys))) ∧ ∃ n, w' = w.drewN n := by
  have Hx : Hid (xs.length = n) := hx
  have Hy : Hid (ys.length = n) := hy
  have Ha : Hid (∀ i, i < n → w.cell? ⟨b1, o1 + i, none⟩ = some (.int .i64 (xs.getD i 0))) := ha
  have Hb : Hid (∀ i, i < n → w.cell? ⟨b2, o2 + i, none⟩ = some (.int .i64 (ys.getD i 0))) := hb
  clear hx hy ha hb
  go_enter Tryz.func20, Tryz.ntmps20
  go_wp2
  go_loopw [5] (fun i wr => ∃ k q : Nat, k ≤ n ∧ i = .int .i64 k ∧ xs.take k = ys.take k ∧ wr = w.drewN q) (fun i _ => n - (intOf i).toNat)
  case atStart => exact ⟨0, 0, Nat.zero_le _, rfl, rfl, rfl⟩
  case round =>
    obtain ⟨k, q, hk, rfl, htk, rfl⟩ := hrel
    have Ht : Hid (xs.take k = ys.take k) := htk
    clear htk
    by_cases hlt : k < n
    · have c1 := Ha.out k hlt
      have c2 := Hb.out k hlt
      have hk0 : (k : Int) < (n : Int) := by omega
      by_cases he : xs.getD k 0 = ys.getD k 0
      · have Hnext : Hid (xs.take (k + 1) = ys.take (k + 1)) := by
          unfold Hid
          rw [take_snoc_getD 0 _ _ (by rw [Hx.out]; exact hlt), take_snoc_getD 0 _ _ (by rw [Hy.out]; exact hlt), Ht.out, he]
        rw [he] at c1
        generalize ys.getD k 0 = z at c1 c2
        clear he
        go_wp2
        go_quiet (fail)
        go_wp2
        go_roundw
        case rel => exact ⟨k + 1, _, by omega, by go_num, Hnext.out, rfl⟩
        case measure => simp [intOf]; omega
      · have Hne : Hid (¬ xs = ys) := fun e => he (by rw [e])
        have hbe : (xs.getD k 0 != ys.getD k 0) = true := by rw [bne_iff_ne]; exact he
        generalize xs.getD k 0 = z1 at c1 hbe
        generalize ys.getD k 0 = z2 at c2 hbe
        clear he
        go_wp2
        go_quiet (fail)
        go_wp2
        go_ret
        exact ⟨by simpa using Hne.out, _, World.drewN_drewN _ _ _⟩
    · obtain rfl : k = n := by omega
      have Heq : Hid (xs = ys) := by
        have h := Ht.out
        rw [List.take_of_length_le (by rw [Hx.out]; exact Nat.le_refl _), List.take_of_length_le (by rw [Hy.out]; exact Nat.le_refl _)] at h
        exact h
      go_wp2
      go_ret
      exact ⟨by simpa using Heq.out, _, rfl⟩

/-- of any two slices that read as lists -/
theorem sameInts_any (u v : Value) (xs ys : List Int) (w : World) (hu : IntsAt w u xs) (hv : IntsAt w v ys) (hx : xs.length ≤ 1000000000000) (hy : ys.length ≤ 1000000000000) :
    Calls Tryz.prog 20 #[u, v] w fun e w' => e = .returned (.bool (decide (xs = ys))) ∧ ∃ n, w' = w.drewN n := by
  by_cases hl : xs.length = ys.length
  · rcases hu.cases with ⟨rfl, p, c, rfl⟩ | ⟨h0, b1, o1, c1, rfl, hc1, ha⟩
    · rcases hv.cases with ⟨rfl, p', c', rfl⟩ | ⟨h0', _⟩
      · exact (sameInts_zero p p' c c' w).mono fun e w' h => ⟨h.1, 0, h.2.symm⟩
      · simp only [List.length_nil] at hl; omega
    · rcases hv.cases with ⟨rfl, p', c', rfl⟩ | ⟨h0', b2, o2, c2, rfl, hc2, hb⟩
      · simp only [List.length_nil] at hl; omega
      · have := sameInts_pos xs.length xs ys b1 o1 b2 o2 c1 c2 w rfl hl.symm hx ha (by rw [hl]; exact hb)
        rw [hl] at this ⊢
        exact this
  · obtain ⟨p, c, rfl, _⟩ := hu
    obtain ⟨p', c', rfl, _⟩ := hv
    have hne : ¬ xs = ys := fun e => hl (by rw [e])
    exact (sameInts_len xs.length ys.length p p' c c' w hl).mono fun e w' h => ⟨by rw [decide_eq_false hne]; exact h.1, 0, h.2.symm⟩
end Go.Proofs.YtddnjimpdidpaaaGreatDoor
