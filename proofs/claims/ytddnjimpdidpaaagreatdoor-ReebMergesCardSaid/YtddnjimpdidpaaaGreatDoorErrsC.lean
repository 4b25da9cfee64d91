/-
  plain.Code by contracts. Conditions: 'Sents'.
-/
import Derived.Test.YtddnjimpdidpaaaGreatDoorErrsB
import Derived.Outline
namespace Go.Proofs.YtddnjimpdidpaaaGreatDoor
open Go.RowKit Go.Extern.Stop Go.Stop Go.Extern

theorem code_nil (w : World) : Calls Tryz.prog 37 #[.nilIface] w fun e w' => e = .returned (.tuple #[.int .i64 0, .int .i64 (-1)]) ∧ w = w' := by
  go_enter Tryz.func37, Tryz.ntmps37
  go_wp2
  go_ret2
  exact ⟨rfl, rfl⟩

theorem is_sent (a : Nat → Addr) (k j : Nat) (hk : k < 8) (hj : j < 8) (hkj : k ≠ j) (w : World) (hS : Sents w a) :
    Calls Tryz.prog 78 #[.iface 237 (.pointer (some (a k))), .iface 237 (.pointer (some (a j)))] w fun e w' => e = .returned (.bool false) ∧ w = w' := by
  obtain ⟨ca, ta, ha⟩ := hS.blk k hk
  obtain ⟨cb, tb, hb⟩ := hS.blk j hj
  exact is_other _ _ ca cb ta tb w (hS.ne k j hk hj hkj) ha hb

set_option maxHeartbeats 4000000 in
theorem code_sent (a : Nat → Addr) (k : Nat) (hk : k < 8) (w : World) (hS : Sents w a) :
    Calls Tryz.prog 37 #[.iface 237 (.pointer (some (a k)))] w fun e w' => e = .returned (.tuple #[.int .i64 ((k : Int) + 1), .int .i64 (-1)]) ∧ Below w.heap.size w w' := by
  go_enter Tryz.func37, Tryz.ntmps37
  go_wp2_with fail
  refine (as_miss _ _ _ ?_).mono ?_
  · exact (hS.below (Below.alloc (Below.refl _ _) (Nat.le_refl _) _) (Nat.le_refl _)).hd
  rintro e w1 ⟨rfl, hb⟩
  have hb1 : Below w.heap.size w w1 := ((Below.refl _ _).alloc (Nat.le_refl _) _).trans (hb.mono (by simp))
  have hS1 : Sents w1 a := hS.below hb1 (Nat.le_refl _)
  have g0 := hS1.g 0 (by decide)
  have g1 := hS1.g 1 (by decide)
  have g2 := hS1.g 2 (by decide)
  have g3 := hS1.g 3 (by decide)
  have g4 := hS1.g 4 (by decide)
  have g5 := hS1.g 5 (by decide)
  have g6 := hS1.g 6 (by decide)
  have g7 := hS1.g 7 (by decide)
  simp only [gnum] at g0 g1 g2 g3 g4 g5 g6 g7
  clear hb
  go_wp2_with fail
  obtain ⟨w2, hw2⟩ : ∃ w2, w2 = w1.alloc (.cells #[.iface 237 (.pointer (some (a 0))), .iface 237 (.pointer (some (a 1))), .iface 237 (.pointer (some (a 2))), .iface 237 (.pointer (some (a 3))), .iface 237 (.pointer (some (a 4))), .iface 237 (.pointer (some (a 5))), .iface 237 (.pointer (some (a 6))), .iface 237 (.pointer (some (a 7)))] 30) := ⟨_, rfl⟩
  rw [← hw2]
  have hb2 : Below w.heap.size w w2 := by rw [hw2]; exact hb1.alloc hb1.size _
  have hS2 : Sents w2 a := hS.below hb2 (Nat.le_refl _)
  have hcell : Hid (∀ j, j < 8 → w2.cell? ⟨w1.heap.size, j, none⟩ = some (.iface 237 (.pointer (some (a j))))) := by
    intro j hj
    rw [hw2]
    match j, hj with
    | 0, _ => simp
    | 1, _ => simp
    | 2, _ => simp
    | 3, _ => simp
    | 4, _ => simp
    | 5, _ => simp
    | 6, _ => simp
    | 7, _ => simp
  clear hw2 g0 g1 g2 g3 g4 g5 g6 g7 hb1 hS1
  go_loop [3, 26] (fun t i => t = .int .i64 (-1) ∧ ∃ j : Nat, j ≤ k ∧ i = .int .i64 j) (fun _ i => 8 - (intOf i).toNat)
  case atStart => exact ⟨rfl, 0, Nat.zero_le _, rfl⟩
  case round =>
    obtain ⟨rfl, j, hj, rfl⟩ := hrel
    have hj8 : j < 8 := by omega
    have hc := hcell.out j hj8
    by_cases hjk : k = j
    · subst hjk
      go_wp2_with (go_at_call 78; refine (is_same _ _).mono ?_; rintro e w' ⟨rfl, rfl⟩)
      go_ret2
      exact ⟨rfl, hb2⟩
    · go_wp2_with (go_at_call 78; refine (is_sent a k j hk hj8 hjk _ hS2).mono ?_; rintro e w' ⟨rfl, rfl⟩)
      go_round
      case rel => exact ⟨rfl, j + 1, by omega, by go_num⟩
      case measure => simp [intOf]; omega

theorem is_fault (a : Nat → Addr) (pb po : Nat) (k j : Nat) (hk : k < 8) (hj : j < 8) (hkj : k ≠ j) (w : World) (hS : Sents w a) (h1 : w.cell? ⟨pb, po + 1, none⟩ = some (.iface 237 (.pointer (some (a k))))) :
    Calls Tryz.prog 78 #[.iface 104 (.pointer (some ⟨pb, po, none⟩)), .iface 237 (.pointer (some (a j)))] w fun e w' => e = .returned (.bool false) ∧ w = w' := by
  obtain ⟨ca, ta, ha⟩ := hS.blk k hk
  obtain ⟨cb, tb, hb⟩ := hS.blk j hj
  exact is_fault_other pb po _ _ ca cb ta tb w h1 (hS.ne k j hk hj hkj) ha hb

set_option maxHeartbeats 4000000 in
/-- of an api.Fault over a sentinel -/
theorem code_fault (a : Nat → Addr) (k : Nat) (hk : k < 8) (pb po : Nat) (n : Int) (w : World) (hS : Sents w a)
    (hf0 : w.cell? ⟨pb, po, none⟩ = some (.int .i64 n)) (hf1 : w.cell? ⟨pb, po + 1, none⟩ = some (.iface 237 (.pointer (some (a k))))) :
    Calls Tryz.prog 37 #[.iface 104 (.pointer (some ⟨pb, po, none⟩))] w fun e w' => e = .returned (.tuple #[.int .i64 ((k : Int) + 1), .int .i64 n]) ∧ Below w.heap.size w w' := by
  have hlt := lt_of_cell hf0
  go_enter Tryz.func37, Tryz.ntmps37
  go_wp2_with fail
  refine (as_hit _ _ (.pointer none) _ ?_ ?_ ?_).mono ?_
  · exact (hS.below (Below.alloc (Below.refl _ _) (Nat.le_refl _) _) (Nat.le_refl _)).hd
  · simp
  · simp
  rintro e w0 ⟨rfl, hw0⟩
  have hc4 : w0.cell? ⟨w.heap.size, 0, none⟩ = some (.pointer (some ⟨pb, po, none⟩)) := by
    rw [hw0]
    refine World.cell?_setCell_same _ _ _ (u := .pointer none) (by
      rw [World.cell?_alloc_lt _ _ _ (by simp; omega), World.cell?_alloc_lt _ _ _ (by simp; omega), World.cell?_alloc_lt _ _ _ (by simp; omega), World.cell?_alloc_lt _ _ _ (by simp)]; simp)
  have hb1 : Below w.heap.size w w0 := by
    rw [hw0]
    exact Below.setCell (((((Below.refl _ _).alloc (Nat.le_refl _) _).alloc (by simp) _).alloc (by simp; omega) _).alloc (by simp; omega) _ |>.alloc (by simp; omega) _) (by simp) _
  clear hw0
  have hS1 : Sents w0 a := hS.below hb1 (Nat.le_refl _)
  have e0 : w0.cell? ⟨pb, po, none⟩ = some (.int .i64 n) := by rw [hb1.cell hlt]; exact hf0
  have e1 : Hid (w0.cell? ⟨pb, po + 1, none⟩ = some (.iface 237 (.pointer (some (a k))))) := by unfold Hid; rw [hb1.cell hlt]; exact hf1
  have g0 := hS1.g 0 (by decide)
  have g1 := hS1.g 1 (by decide)
  have g2 := hS1.g 2 (by decide)
  have g3 := hS1.g 3 (by decide)
  have g4 := hS1.g 4 (by decide)
  have g5 := hS1.g 5 (by decide)
  have g6 := hS1.g 6 (by decide)
  have g7 := hS1.g 7 (by decide)
  simp only [gnum] at g0 g1 g2 g3 g4 g5 g6 g7
  go_wp2_with fail
  obtain ⟨w2, hw2⟩ : ∃ w2, w2 = w0.alloc (.cells #[.iface 237 (.pointer (some (a 0))), .iface 237 (.pointer (some (a 1))), .iface 237 (.pointer (some (a 2))), .iface 237 (.pointer (some (a 3))), .iface 237 (.pointer (some (a 4))), .iface 237 (.pointer (some (a 5))), .iface 237 (.pointer (some (a 6))), .iface 237 (.pointer (some (a 7)))] 30) := ⟨_, rfl⟩
  rw [← hw2]
  have hb2 : Below w.heap.size w w2 := by rw [hw2]; exact hb1.alloc hb1.size _
  have hS2 : Sents w2 a := hS.below hb2 (Nat.le_refl _)
  have hf2 : w2.cell? ⟨pb, po + 1, none⟩ = some (.iface 237 (.pointer (some (a k)))) := by rw [hb2.cell hlt]; exact hf1
  have hcell : Hid (∀ j, j < 8 → w2.cell? ⟨w0.heap.size, j, none⟩ = some (.iface 237 (.pointer (some (a j))))) := by
    intro j hj
    rw [hw2]
    match j, hj with
    | 0, _ => simp
    | 1, _ => simp
    | 2, _ => simp
    | 3, _ => simp
    | 4, _ => simp
    | 5, _ => simp
    | 6, _ => simp
    | 7, _ => simp
  clear hw2 g0 g1 g2 g3 g4 g5 g6 g7 hb1 hS1 e0 hc4 hf0 hf1
  go_loop [3, 26] (fun t i => t = .int .i64 n ∧ ∃ j : Nat, j ≤ k ∧ i = .int .i64 j) (fun _ i => 8 - (intOf i).toNat)
  case atStart => exact ⟨rfl, 0, Nat.zero_le _, rfl⟩
  case round =>
    obtain ⟨rfl, j, hj, rfl⟩ := hrel
    have hj8 : j < 8 := by omega
    have hc := hcell.out j hj8
    by_cases hjk : k = j
    · subst hjk
      go_wp2_with (go_at_call 78; refine (is_fault_same pb po _ _ hf2).mono ?_; rintro e w' ⟨rfl, rfl⟩)
      go_ret2
      exact ⟨rfl, hb2⟩
    · go_wp2_with (go_at_call 78; refine (is_fault a pb po k j hk hj8 hjk _ hS2 hf2).mono ?_; rintro e w' ⟨rfl, rfl⟩)
      go_round
      case rel => exact ⟨rfl, j + 1, by omega, by go_num⟩
      case measure => simp [intOf]; omega
end Go.Proofs.YtddnjimpdidpaaaGreatDoor
