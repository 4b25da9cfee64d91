/-
  The law 'Names' walked: for every world in which the eight sentinels and the handle are laid the call returns true, and what was there is unturned.
-/
import Derived.Test.YtnkcdpbngijknaaDoorErrsD
import Derived.Test.YtnkcdpbngijknaaDoorCoded
import Derived.Lib.QuietBelow
import Derived.BigQuiet
import Derived.Outline
import Derived.Lib.Hide
namespace Go.Proofs.YtnkcdpbngijknaaDoor
open Go Go.RowKit

theorem error_any (p : Addr) (s : ByteArray) (w : World) (h : w.cell? p = some (.string s)) :
    Calls Tryd.prog 37 #[.pointer (some p)] w fun e w' => e = .returned (.string s) ∧ w = w' := by
  go_enter Tryd.func37, Tryd.ntmps37
  go_wp2
  go_ret
  exact ⟨rfl, rfl⟩

theorem Tryd.methodErrorE (v : Value) (w : World) : (Go.method 207 40 v "Error").run Tryd.prog w = .ok (37, v) w := by kernel_rfl

theorem new_any (s : ByteArray) (w : World) :
    Calls Tryd.prog 7 #[.string s] w fun e w' => e = .returned (.iface 40 (.pointer (some ⟨w.heap.size, 0, none⟩))) ∧ w' = w.alloc (.cells #[.string s] 42) := by
  go_enter Tryd.func7, Tryd.ntmps7
  go_wp2
  go_ret
  exact ⟨rfl, rfl⟩

set_option maxHeartbeats 4000000 in
/-- of an error that is none of the eight -/
theorem code_other (a : Nat → Addr) (x : Addr) (w : World) (hS : Sents w a) (hx : ∃ c t, w.heap[x.block]? = some (.cells c t (0, 0))) (hne : ∀ j, j < 8 → x ≠ a j) :
    Calls Tryd.prog 5 #[.iface 40 (.pointer (some x))] w fun e w' => e = .returned (.tuple #[.int .i64 (-1), .int .i64 (-1)]) ∧ Below w.heap.size w w' := by
  have Hne : Hid (∀ j, j < 8 → x ≠ a j) := hne
  clear hne
  obtain ⟨xc, xt, hxb⟩ := hx
  have Hxb : Hid (w.heap[x.block]? = some (.cells xc xt (0, 0))) := hxb
  have hlx := lt_of_blk hxb
  clear hxb
  go_enter Tryd.func5, Tryd.ntmps5
  go_wp2_with fail
  refine (as_miss _ _ _ ?_).mono ?_
  · exact (hS.below (Below.alloc (Below.refl _ _) (Nat.le_refl _) _) (Nat.le_refl _)).hd
  rintro e w1 ⟨rfl, hb⟩
  have hb1 : Below w.heap.size w w1 := ((Below.refl _ _).alloc (Nat.le_refl _) _).trans (hb.mono (by simp))
  have hS1 : Sents w1 a := hS.below hb1 (Nat.le_refl _)
  have g0 := hS1.g 0 (by decide)
  have g1 := hS1.g 1 (by decide)
  have g2 := hS1.g 2 (by decide)
  have g3 := hS1.g 3 (by decide)
  have g4 := hS1.g 4 (by decide)
  have g5 := hS1.g 5 (by decide)
  have g6 := hS1.g 6 (by decide)
  have g7 := hS1.g 7 (by decide)
  simp only [gnum] at g0 g1 g2 g3 g4 g5 g6 g7
  clear hb
  go_wp2_with fail
  obtain ⟨w2, hw2⟩ : ∃ w2, w2 = w1.alloc (.cells #[.iface 40 (.pointer (some (a 0))), .iface 40 (.pointer (some (a 1))), .iface 40 (.pointer (some (a 2))), .iface 40 (.pointer (some (a 3))), .iface 40 (.pointer (some (a 4))), .iface 40 (.pointer (some (a 5))), .iface 40 (.pointer (some (a 6))), .iface 40 (.pointer (some (a 7)))] 25) := ⟨_, rfl⟩
  rw [← hw2]
  have hb2 : Below w.heap.size w w2 := by rw [hw2]; exact hb1.alloc hb1.size _
  have hS2 : Sents w2 a := hS.below hb2 (Nat.le_refl _)
  have Hx2 : Hid (w2.heap[x.block]? = some (.cells xc xt (0, 0))) := by unfold Hid; rw [hb2.block _ hlx]; exact Hxb.out
  have hcell : Hid (∀ j, j < 8 → w2.cell? ⟨w1.heap.size, j, none⟩ = some (.iface 40 (.pointer (some (a j))))) := by
    intro j hj
    rw [hw2]
    match j, hj with
    | 0, _ => simp
    | 1, _ => simp
    | 2, _ => simp
    | 3, _ => simp
    | 4, _ => simp
    | 5, _ => simp
    | 6, _ => simp
    | 7, _ => simp
  clear hw2 g0 g1 g2 g3 g4 g5 g6 g7 hb1 hS1
  go_loop [3, 26] (fun t i => t = .int .i64 (-1) ∧ ∃ j : Nat, j ≤ 8 ∧ i = .int .i64 j) (fun _ i => 8 - (intOf i).toNat)
  case atStart => exact ⟨rfl, 0, Nat.zero_le _, rfl⟩
  case round =>
    obtain ⟨rfl, j, hj, rfl⟩ := hrel
    by_cases hj8 : j < 8
    · have hc := hcell.out j hj8
      obtain ⟨cb, tb, hbj⟩ := hS2.blk j hj8
      have Hbj : Hid (w2.heap[(a j).block]? = some (.cells cb tb (0, 0))) := hbj
      clear hbj
      go_wp2_with (go_at_call 9; refine (is_other x (a j) xc cb xt tb _ (Hne.out j hj8) Hx2.out Hbj.out).mono ?_; rintro e w' ⟨rfl, rfl⟩)
      go_round
      case rel => exact ⟨rfl, j + 1, by omega, by go_num⟩
      case measure => simp [intOf]; omega
    · obtain rfl : j = 8 := by omega
      go_wp2
      go_ret2
      exact ⟨rfl, hb2⟩

def nums : List Int := [60, 1048576, 4611686018427387904, 99, 600, 6, 20000, 24, 120, 60, 12, 400, 400, 5000, 4, 4096, 12, 12, 400, 12, 16]
abbrev numsW (w : World) : World := (w.alloc (.cells #[.int .i64 60, .int .i64 1048576, .int .i64 4611686018427387904, .int .i64 99, .int .i64 600, .int .i64 6, .int .i64 20000, .int .i64 24, .int .i64 120, .int .i64 60, .int .i64 12, .int .i64 400, .int .i64 400, .int .i64 5000, .int .i64 4, .int .i64 4096, .int .i64 12, .int .i64 12, .int .i64 400, .int .i64 12, .int .i64 16] 3)).alloc (.cells #[.int .i64 60, .int .i64 1048576, .int .i64 4611686018427387904, .int .i64 99, .int .i64 600, .int .i64 6, .int .i64 20000, .int .i64 24, .int .i64 120, .int .i64 60, .int .i64 12, .int .i64 400, .int .i64 400, .int .i64 5000, .int .i64 4, .int .i64 4096, .int .i64 12, .int .i64 12, .int .i64 400, .int .i64 12, .int .i64 16] 3)
theorem nums1 (w : World) : IntsAt (numsW w) (.slice (some ⟨w.heap.size, 0, none⟩) 21 21) nums :=
  (IntsAt.new w nums 3).below ((Below.refl _ _).alloc (Nat.le_refl _) _) (Nat.le_refl _)
theorem nums2 (w : World) : IntsAt (numsW w) (.slice (some ⟨w.heap.size + 1, 0, none⟩) 21 21) nums := by
  have h := IntsAt.new (w.alloc (.cells #[.int .i64 60, .int .i64 1048576, .int .i64 4611686018427387904, .int .i64 99, .int .i64 600, .int .i64 6, .int .i64 20000, .int .i64 24, .int .i64 120, .int .i64 60, .int .i64 12, .int .i64 400, .int .i64 400, .int .i64 5000, .int .i64 4, .int .i64 4096, .int .i64 12, .int .i64 12, .int .i64 400, .int .i64 12, .int .i64 16] 3)) nums 3
  have e : (w.alloc (.cells #[.int .i64 60, .int .i64 1048576, .int .i64 4611686018427387904, .int .i64 99, .int .i64 600, .int .i64 6, .int .i64 20000, .int .i64 24, .int .i64 120, .int .i64 60, .int .i64 12, .int .i64 400, .int .i64 400, .int .i64 5000, .int .i64 4, .int .i64 4096, .int .i64 12, .int .i64 12, .int .i64 400, .int .i64 12, .int .i64 16] 3)).heap.size = w.heap.size + 1 := World.size_alloc _ _
  rw [e] at h
  exact h
theorem numsB (w : World) : Below w.heap.size w (numsW w) := ((Below.refl _ _).alloc (Nat.le_refl _) _).alloc (by rw [World.size_alloc]; omega) _

def short : Nat → ByteArray
  | 0 => ⟨#[116, 101, 120, 116]⟩
  | 1 => ⟨#[98, 111, 117, 110, 100]⟩
  | 2 => ⟨#[115, 104, 97, 112, 101]⟩
  | 3 => ⟨#[102, 97, 99, 101]⟩
  | 4 => ⟨#[110, 97, 109, 101]⟩
  | 5 => ⟨#[110, 111, 110, 101]⟩
  | 6 => ⟨#[111, 114, 100, 101, 114]⟩
  | _ => ⟨#[107, 105, 110, 100]⟩
def full (j : Nat) : ByteArray := ⟨#[104, 97, 110, 100, 108, 101, 98, 111, 100, 121, 58, 32]⟩ ++ short j
theorem short_size : ∀ j, (short j).size ≤ 5
  | 0 => by decide
  | 1 => by decide
  | 2 => by decide
  | 3 => by decide
  | 4 => by decide
  | 5 => by decide
  | 6 => by decide
  | n + 7 => by show (⟨#[107, 105, 110, 100]⟩ : ByteArray).size ≤ 5; decide
theorem cells8 (w : World) (f : Nat → Value) (b : Nat) (t : TypeId) (w' : World) (hw : w' = w.alloc (.cells #[f 0, f 1, f 2, f 3, f 4, f 5, f 6, f 7] t)) (hb : b = w.heap.size) : ∀ j, j < 8 → w'.cell? ⟨b, j, none⟩ = some (f j) := by
  intro j hj
  rw [hw, hb]
  match j, hj with
  | 0, _ => simp
  | 1, _ => simp
  | 2, _ => simp
  | 3, _ => simp
  | 4, _ => simp
  | 5, _ => simp
  | 6, _ => simp
  | 7, _ => simp

set_option maxHeartbeats 4000000 in
theorem names_walk (a : Nat → Addr) (w : World) (hS : Sents w a) (hT : ∀ j, j < 8 → w.cell? (a j) = some (.string (full j))) :
    Calls Tryd.prog 3 #[] w fun e w' => e = .returned (.bool true) ∧ Below w.heap.size w w' := by
  have H1 := Lib.hid (nums1 w)
  have H2 := Lib.hid (nums2 w)
  have hb1 := numsB w
  have hl : nums.length ≤ 1000000000000 := by decide
  go_enter Tryd.func3, Tryd.ntmps3
  go_wp2_with fail
  refine (sameInts_any _ _ nums nums _ H1.out H2.out hl hl).mono ?_
  rintro e w' ⟨rfl, q, rfl⟩
  clear H1 H2 hl
  generalize numsW w = w1 at hb1 ⊢
  have hbq : Below w.heap.size w (w1.drewN q) := hb1.trans ⟨rfl, rfl, rfl, Nat.le_refl _, fun _ _ => rfl⟩
  have hS1 : Sents (w1.drewN q) a := hS.below hbq (Nat.le_refl _)
  have g0 := hS1.g 0 (by decide)
  have g1 := hS1.g 1 (by decide)
  have g2 := hS1.g 2 (by decide)
  have g3 := hS1.g 3 (by decide)
  have g4 := hS1.g 4 (by decide)
  have g5 := hS1.g 5 (by decide)
  have g6 := hS1.g 6 (by decide)
  have g7 := hS1.g 7 (by decide)
  simp only [gnum] at g0 g1 g2 g3 g4 g5 g6 g7
  have HT := Lib.hid hT
  clear hT
  go_wp2_with fail
  obtain ⟨wA, hwA⟩ : ∃ wA, wA = (w1.drewN q).alloc (.cells #[.iface 40 (.pointer (some (a 0))), .iface 40 (.pointer (some (a 1))), .iface 40 (.pointer (some (a 2))), .iface 40 (.pointer (some (a 3))), .iface 40 (.pointer (some (a 4))), .iface 40 (.pointer (some (a 5))), .iface 40 (.pointer (some (a 6))), .iface 40 (.pointer (some (a 7)))] 25) := ⟨_, rfl⟩
  rw [← hwA]
  obtain ⟨w2, hw2⟩ : ∃ w2, w2 = wA.alloc (.cells #[.string ⟨#[116, 101, 120, 116]⟩, .string ⟨#[98, 111, 117, 110, 100]⟩, .string ⟨#[115, 104, 97, 112, 101]⟩, .string ⟨#[102, 97, 99, 101]⟩, .string ⟨#[110, 97, 109, 101]⟩, .string ⟨#[110, 111, 110, 101]⟩, .string ⟨#[111, 114, 100, 101, 114]⟩, .string ⟨#[107, 105, 110, 100]⟩] 9) := ⟨_, rfl⟩
  rw [← hw2]
  have hszA : wA.heap.size = w1.heap.size + 1 := by rw [hwA, World.size_alloc]; rfl
  have hbA : Below w.heap.size w wA := by rw [hwA]; exact hbq.alloc hbq.size _
  have hb2 : Below w.heap.size w w2 := by rw [hw2]; exact hbA.alloc hbA.size _
  have HE := Lib.hid (fun j hj => (Below.cell (B := wA.heap.size) (by rw [hw2]; exact (Below.refl _ _).alloc (Nat.le_refl _) _) (p := ⟨w1.heap.size, j, none⟩) (by rw [hszA]; exact Nat.lt_succ_self _)).trans (cells8 (w1.drewN q) (fun j => .iface 40 (.pointer (some (a j)))) w1.heap.size 25 wA hwA rfl j hj) : ∀ j, j < 8 → w2.cell? ⟨w1.heap.size, j, none⟩ = some (.iface 40 (.pointer (some (a j)))))
  have HW := Lib.hid (cells8 wA (fun j => .string (short j)) (w1.heap.size + 1) 9 w2 hw2 hszA.symm)
  have hsz2 : w1.heap.size + 1 < w2.heap.size := by rw [hw2, World.size_alloc, hszA]; omega
  clear hw2 hwA g0 g1 g2 g3 g4 g5 g6 g7 hS1 hszA hbA hb1 hbq
  go_loopw [5] (fun i wr => ∃ j : Nat, j ≤ 8 ∧ i = .int .i64 j ∧ Below w2.heap.size w2 wr) (fun i _ => 8 - (intOf i).toNat)
  case atStart => exact ⟨0, Nat.zero_le _, rfl, Below.refl _ _⟩
  case round =>
    obtain ⟨j, hj, rfl, hb⟩ := hrel
    by_cases hj8 : j < 8
    · have hbw : Below w.heap.size w wr := hb2.trans (hb.mono hb2.size)
      have hSr : Sents wr a := hS.below hbw (Nat.le_refl _)
      have ce : wr.cell? ⟨w1.heap.size, j, none⟩ = some (.iface 40 (.pointer (some (a j)))) := (hb.cell (p := ⟨w1.heap.size, j, none⟩) (by show w1.heap.size < _; omega)).trans (HE.out j hj8)
      go_wp2_with fail
      refine (code_fault a j hj8 wr.heap.size 0 7 _ ?_ ?_ ?_).mono ?_
      · exact hSr.below ((Below.refl _ _).alloc (Nat.le_refl _) _) (Nat.le_refl _)
      · simp
      · simp
      rintro e w3 ⟨rfl, hb3⟩
      have hb3' : Below w2.heap.size w2 w3 := (hb.alloc hb.size _).trans (hb3.mono (by simp; exact Nat.le_succ_of_le hb.size))
      have hbw3 : Below w.heap.size w w3 := hb2.trans (hb3'.mono hb2.size)
      have hS3 : Sents w3 a := hS.below hbw3 (Nat.le_refl _)
      have ce3 : w3.cell? ⟨w1.heap.size, j, none⟩ = some (.iface 40 (.pointer (some (a j)))) := (hb3'.cell (p := ⟨w1.heap.size, j, none⟩) (by show w1.heap.size < _; omega)).trans (HE.out j hj8)
      have cw3 : w3.cell? ⟨w1.heap.size + 1, j, none⟩ = some (.string (short j)) := (hb3'.cell (p := ⟨w1.heap.size + 1, j, none⟩) hsz2).trans (HW.out j hj8)
      have ct3 : w3.cell? (a j) = some (.string (full j)) := (hbw3.cell (lt_of_cell (HT.out j hj8))).trans (HT.out j hj8)
      clear hb3 hb hbw hSr ce
      go_wp2_with fail
      have k0 := cell_regrown ce3
      have k1 := cell_regrown cw3
      have HC1 := Lib.hid (fun d os => Calls.regrown_of (d := d) (os := os) ((error_any (a j) (full j) (Sort.grow (redrawn w3 d) os) (cell_regrown ct3 d os)).mono fun e w' h => ⟨h.1, h.2 ▸ Below.refl _ _⟩))
      have HC2 := Lib.hid (fun d os => Calls.regrown_of (d := d) (os := os) (coded_yes a (.iface 40 (.pointer (some (a j)))) ((j : Int) + 1) (-1) ((j : Int) + 1) (Sort.grow (redrawn w3 d) os) (hS3.below (below_regrown w3 d os) (Nat.le_refl _)) (ErrAt.sent a _ j hj8) ⟨rfl, rfl⟩))
      have mE := Tryd.methodErrorE
      have hfull : (full j).toList = ((⟨#[104, 97, 110, 100, 108, 101, 98, 111, 100, 121, 58, 32]⟩ : ByteArray) ++ short j).toList := rfl
      have hsz : (short j).size ≤ 5 := short_size j
      have hcat : ¬ 9223372036854775807 < 12 + (short j).size := by omega
      have hj0 : (0 : Int) ≤ (j : Int) := by omega
      have hj1 : (j : Int) < 8 := by omega
      refine wp_region_quiet_below (by kernel_rfl) (by kernel_rfl) ?_
      repeat (first | go_big_quiet_step (first | exact HC1.out _ _ | exact HC2.out _ _) | quiet_step (first | exact HC1.out _ _ | exact HC2.out _ _))
      refine wpQuiet_nil ?_
      intro _ hw'
      obtain ⟨⟨dq, osq⟩, hw''⟩ := hw'
      subst hw''
      have hb4 : Below w2.heap.size w2 (Sort.grow (redrawn w3 dq) osq) := hb3'.trans ((below_regrown w3 dq osq).mono hb3'.size)
      clear k0 k1 HC1 HC2 hfull
      generalize Sort.grow (redrawn w3 dq) osq = w4 at hb4 ⊢
      go_wp2_with fail
      go_roundw
      case rel => exact ⟨j + 1, by omega, by go_num, hb4⟩
      case measure => simp [intOf]; omega
    · obtain rfl : j = 8 := by omega
      have hbw : Below w.heap.size w wr := hb2.trans (hb.mono hb2.size)
      have hSr : Sents wr a := hS.below hbw (Nat.le_refl _)
      clear hb
      go_wp2_with fail
      refine (new_any _ _).mono ?_
      rintro e w5 ⟨rfl, rfl⟩
      go_wp2_with fail
      refine (code_other a _ _ ?_ ?_ ?_).mono ?_
      · exact hSr.below ((Below.refl _ _).alloc (Nat.le_refl _) _) (Nat.le_refl _)
      · exact ⟨_, _, heap_alloc_new _ _⟩
      · intro j hj e
        obtain ⟨c, t, hc⟩ := hSr.blk j hj
        have := lt_of_blk hc
        rw [← e] at this
        exact Nat.lt_irrefl _ this
      rintro e w6 ⟨rfl, hb6⟩
      have hb6' : Below w.heap.size w w6 := (hbw.alloc hbw.size _).trans (hb6.mono (by simp; exact Nat.le_succ_of_le hbw.size))
      have hS6 : Sents w6 a := hS.below hb6' (Nat.le_refl _)
      clear hb6 hbw hSr
      go_wp2_with fail
      refine (coded_yes a .nilIface 0 (-1) 0 _ hS6 (ErrAt.nil a _) ⟨rfl, rfl⟩).mono ?_
      rintro e w7 ⟨rfl, hb7⟩
      have hb7' : Below w.heap.size w w7 := hb6'.trans (hb7.mono hb6'.size)
      clear hb7
      go_wp2_with fail
      go_ret
      exact ⟨rfl, hb7'⟩
end Go.Proofs.YtnkcdpbngijknaaDoor
