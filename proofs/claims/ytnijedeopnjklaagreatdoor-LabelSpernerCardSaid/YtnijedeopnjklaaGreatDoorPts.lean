/-
  'points' of package label by a contract: the list of points. Condition: 0 to 12 parts.
-/
import Derived.Test.YtnijedeopnjklaaGreatDoorMem
import Derived.Test.YtnijedeopnjklaaGreatDoorProg
import Derived.Lib.Hide
import Derived.Outline
import Derived.WalkSpells
namespace Go.Proofs.YtnijedeopnjklaaGreatDoor
open Go Go.RowKit

theorem Tryz.info55 : (Tryz.prog.info? 55).map (fun i => (i.zero, i.size, i.bytes)) = some (some (.agg #[.int .i64 0, .int .i64 0, .int .i64 0]), 3, 24) := by kernel_rfl

/-- three cells a triple -/
def cells3 (l : List (Nat × Nat × Nat)) : List Value := l.flatMap fun p => [.int .i64 (p.1 : Int), .int .i64 (p.2.1 : Int), .int .i64 (p.2.2 : Int)]
theorem cells3_append (l r : List (Nat × Nat × Nat)) : cells3 (l ++ r) = cells3 l ++ cells3 r := List.flatMap_append
theorem cells3_length (l : List (Nat × Nat × Nat)) : (cells3 l).length = l.length * 3 := by
  induction l with
  | nil => rfl
  | cons x r ih => simp only [cells3, List.flatMap_cons, List.length_append, List.length_cons, List.length_nil] at *; omega

def rowTo (n i j : Nat) : List (Nat × Nat × Nat) := (List.range j).map fun q => (i, q, n - i - q)
def ptsTo (n k : Nat) : List (Nat × Nat × Nat) := (List.range k).flatMap fun i => rowTo n i (n - i + 1)
/-- the points of a triangle in n parts -/
def ptsL (n : Nat) : List (Nat × Nat × Nat) := ptsTo n (n + 1)
theorem rowTo_succ (n i j : Nat) : rowTo n i (j + 1) = rowTo n i j ++ [(i, j, n - i - j)] := by simp [rowTo, List.range_succ]
theorem ptsTo_succ (n k : Nat) : ptsTo n (k + 1) = ptsTo n k ++ rowTo n k (n - k + 1) := by simp [ptsTo, List.range_succ]
theorem rowTo_length (n i j : Nat) : (rowTo n i j).length = j := by simp [rowTo]
theorem ptsTo_le (n : Nat) (hn : n ≤ 12) : ∀ k, (ptsTo n k).length ≤ k * 13
  | 0 => by simp [ptsTo]
  | k + 1 => by
    have := ptsTo_le n hn k
    rw [ptsTo_succ, List.length_append, rowTo_length]
    omega

/-- after a list of triples one more -/
theorem own_step {w : World} {B : Nat} {v : Value} {l : List (Nat × Nat × Nat)} {x : Nat × Nat × Nat} {e : TypeId}
    (h : w.ownsRow B e 3 v (l.length + 1) (cells3 l ++ [.int .i64 (x.1 : Int), .int .i64 (x.2.1 : Int), .int .i64 (x.2.2 : Int)])) : w.ownsRow B e 3 v (l ++ [x]).length (cells3 (l ++ [x])) := by
  rw [cells3_append, List.length_append]
  exact h

set_option maxHeartbeats 4000000 in
set_option maxRecDepth 100000 in
theorem points_nat (n : Nat) (hn : n ≤ 12) (w : World) :
    Calls Tryz.prog 18 #[.int .i64 (n : Int)] w fun e w' => ∃ v, e = .returned v ∧ Below w.heap.size w w' ∧ w'.ownsRow w.heap.size 55 3 v (ptsL n).length (cells3 (ptsL n)) := by
  obtain ⟨i0, hi, hz0, hz1, hz2⟩ := info_parts Tryz.info55
  go_enter Tryz.func18, Tryz.ntmps18
  go_wp2
  go_loopw [3, 8] (fun v i wr => ∃ k : Nat, k ≤ n + 1 ∧ i = .int .i64 k ∧ wr.ownsRow w.heap.size 55 3 v (ptsTo n k).length (cells3 (ptsTo n k)) ∧ Below w.heap.size w wr) (fun _ i _ => n + 1 - (intOf i).toNat)
  case atStart => exact ⟨0, Nat.zero_le _, rfl, World.ownsRow_nil _ _ _ _, Below.refl _ _⟩
  case round =>
    obtain ⟨k, hk, rfl, hown, hb⟩ := hrel
    obtain ⟨wo, rfl⟩ : ∃ wo : World, wo = wr := ⟨_, rfl⟩
    by_cases hlt : k < n + 1
    · have hd1 : decide ((k : Int) < (n : Int) + 1) = true := decide_eq_true (by omega)
      go_wp2
      go_loopw [3, 15] (fun v j wr => ∃ q : Nat, q ≤ n - k + 1 ∧ j = .int .i64 q ∧ wr.ownsRow w.heap.size 55 3 v (ptsTo n k ++ rowTo n k q).length (cells3 (ptsTo n k ++ rowTo n k q)) ∧ Below w.heap.size w wr) (fun _ j _ => n - k + 1 - (intOf j).toNat)
      case atStart => exact ⟨0, Nat.zero_le _, rfl, by simpa [rowTo] using hown, hb⟩
      case round =>
        obtain ⟨q, hq, rfl, hown2, hb2⟩ := hrel
        clear hown hb
        by_cases hlq : q < n - k + 1
        · have hlen : (ptsTo n k ++ rowTo n k q).length ≤ 1000 := by
            have := ptsTo_le n hn k
            rw [List.length_append, rowTo_length]
            omega
          have hnk : k ≤ n := by omega
          have hqk : q ≤ n - k := by omega
          have HST := Lib.hid (fun (v : Value) (w1 : World) (h : w1.ownsRow w.heap.size 55 3 v ((ptsTo n k ++ rowTo n k q).length + 1) (cells3 (ptsTo n k ++ rowTo n k q) ++ [.int .i64 (k : Int), .int .i64 (q : Int), .int .i64 ((n : Int) - k - q)])) => (by
            have e : ((n : Int) - k - q) = ((n - k - q : Nat) : Int) := by omega
            rw [e] at h
            rw [rowTo_succ, ← List.append_assoc]
            exact own_step (x := (k, q, n - k - q)) h : w1.ownsRow w.heap.size 55 3 v (ptsTo n k ++ rowTo n k (q + 1)).length (cells3 (ptsTo n k ++ rowTo n k (q + 1)))))
          have hlt2 := hown2.lt
          have hBs : w.heap.size ≤ wr.heap.size := hb2.size
          generalize (ptsTo n k ++ rowTo n k q).length = M at hown2 hlen HST
          generalize cells3 (ptsTo n k ++ rowTo n k q) = CS at hown2 HST
          go_wp2_with (at_builtin; go_must (refine wpList_append_own _ rfl _ _ 47 rfl w.heap.size 55 i0 (.agg #[.int .i64 0, .int .i64 0, .int .i64 0]) 3 24 Tryz.underlying47 hi hz0 hz1 hz2 rfl (by decide) _ _ _ rfl (hown2.alloc _) ⟨wr.heap.size, 0, none⟩ 1 1 [.int .i64 (k : Int), .int .i64 (q : Int), .int .i64 ((n : Int) - k - q)] rfl rfl (cells_new _ _ _) (fun u hu => by simp at hu; rcases hu with rfl | rfl | rfl <;> rfl) (by unfold maxLen; omega) (by omega) (by simp; omega) ?_); intro v' w1 hown' hgrow _)
          have hb3 : Below w.heap.size w w1 := (hb2.alloc hBs _).grown hgrow (by simp; omega) (fun j hj => (hlt2 j hj).1)
          have hown3 := HST.out _ _ hown'
          clear hgrow hown' hown2 hb2 hlt2 HST
          go_wp2
          go_roundw
          case rel => exact ⟨q + 1, by omega, by go_num, hown3, hb3⟩
          case measure => simp [intOf]; omega
        · obtain rfl : q = n - k + 1 := by omega
          rw [← ptsTo_succ] at hown2
          have e : ((n - k + 1 : Nat) : Int) = (n : Int) - k + 1 := by omega
          rw [e]
          go_wp2
          go_roundw
          case rel => exact ⟨k + 1, by omega, by go_num, hown2, hb2⟩
          case measure => simp [intOf]; omega
    · obtain rfl : k = n + 1 := by omega
      go_wp2
      go_ret
      exact ⟨_, rfl, hb, hown⟩
end Go.Proofs.YtnijedeopnjklaaGreatDoor
