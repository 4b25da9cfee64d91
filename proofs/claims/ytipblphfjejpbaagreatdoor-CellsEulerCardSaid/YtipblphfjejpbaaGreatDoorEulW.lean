/-
  The law CellsEuler says true.
-/
import Derived.Test.YtipblphfjejpbaaGreatDoorEulA
import Derived.Test.YtipblphfjejpbaaGreatDoorPrdE
import Derived.Test.YtipblphfjejpbaaGreatDoorJnH
import Derived.Deep.DeepCutAuto
import Derived.Deep.CutBlock
set_option linter.unusedSimpArgs false
set_option linter.unusedVariables false
namespace Go.Proofs.YtipblphfjejpbaaGreatDoor
open Go Go.RowKit Go.Maps

theorem littleB_smallE {L : List (List Int)} {m : Nat} (h : littleB L m = true) : L.length ≤ 300 ∧ (∀ l ∈ L, l.length ≤ 100) := by
  unfold littleB at h
  simp only [Bool.and_eq_true, Bool.or_eq_true, decide_eq_true_eq] at h
  obtain ⟨h1, h2⟩ := fewB_ok h.1
  exact ⟨by omega, fun l hl => by have := h2 l hl; omega⟩
theorem errD_00 {L M : List (List Int)} (h : errD L M = 0) : errC (wayL L M) = 0 := by
  unfold errD at h
  by_cases h1 : errJ L M = 0
  · rw [if_pos h1] at h
    obtain ⟨h2, h3⟩ := errJ_0 h1
    rw [prod_err h2 h3]; exact h
  · rw [if_neg h1] at h; exact absurd h h1
theorem eul_bd {L : List (List Int)} (h : errC L = 0) : -600 ≤ eulF (allF L) ∧ eulF (allF L) ≤ 600 := by
  have h1 := eulF_bd (allF L)
  have h2 := (errC_ok h).2.2
  omega
theorem i64_small {y : Int} (h : -1000000000 ≤ y ∧ y ≤ 1000000000) : IntKind.i64.wrap y = y := by
  unfold IntKind.wrap
  simp [IntKind.signed, IntKind.bits]
  omega
theorem mul_bd {m n c : Int} (h1 : -c ≤ m ∧ m ≤ c) (h2 : -c ≤ n ∧ n ≤ c) (hc : 0 ≤ c) : -(c * c) ≤ m * n ∧ m * n ≤ c * c := by
  have a1 : 0 ≤ (c - m) * (c + n) := Int.mul_nonneg (by omega) (by omega)
  have a2 : 0 ≤ (c + m) * (c - n) := Int.mul_nonneg (by omega) (by omega)
  have a3 : 0 ≤ (c - m) * (c - n) := Int.mul_nonneg (by omega) (by omega)
  have a4 : 0 ≤ (c + m) * (c + n) := Int.mul_nonneg (by omega) (by omega)
  simp only [Int.sub_mul, Int.add_mul, Int.mul_sub, Int.mul_add] at a1 a2 a3 a4
  have := Int.mul_comm c n
  have := Int.mul_comm m c
  constructor <;> omega
/-- a call of Euler's number on a complex that is right -/
def EulP (m : Int) (w : World) (e : Ending) (w' : World) : Prop := e = .returned (.tuple #[.int .i64 m, .nilIface]) ∧ Below w.heap.size w w'
theorem euler_ok (a : Nat → Addr) (B : Nat) (L : List (List Int)) (m : Int) (v : Value) (w : World) (hS : Sents w a) (hB : B ≤ w.heap.size) (hv : ListsIn B w v L) (h0 : errX L = 0) (hm : eulF (allF L) = m) (hn : L.length ≤ 100000) (hl : ∀ l ∈ L, l.length ≤ 100000) :
    Calls Tryz.prog 22 #[.agg #[v]] w (EulP m w) := (euler_any a B L v w hS hB hv hn hl).mono fun e w' hp => by
  obtain ⟨hb, ⟨-, x, rfl, rfl⟩ | ⟨k, hk, hek, rfl⟩⟩ := hp
  · rw [hm]; exact ⟨rfl, hb⟩
  · rw [h0] at hek; omega
theorem euler_made (a : Nat → Addr) (B : Nat) (M : List (List Int)) (m : Int) (v : Value) (w : World) (hS : Sents w a) (hB : B ≤ w.heap.size) (hv : ListsIn B w v (madeF M)) (h0 : errC M = 0) (hm : eulF (allF M) = m) :
    Calls Tryz.prog 22 #[.agg #[v]] w (EulP m w) :=
  euler_ok a B (madeF M) m v w hS hB hv (made_X h0) (by rw [made_all h0]; exact hm) (Nat.le_trans (made_len h0) (by decide)) fun l h => Nat.le_trans (made_bd h0 l h) (by decide)
theorem cone_eul {L : List (List Int)} (h : errX L = 0) : eulF (allF (joinP L pt1)) = 1 := by
  have h1 := join_eul h pt1_right.1
  have h2 : eulF (allF pt1) = 1 := by rw [pt1_right.2]; rfl
  rw [h2] at h1
  omega
theorem tog_bd (fs : List Int) (x : Int) (n : Nat) (h : fs.length = n) (hn : n ≤ 10) : (togF fs [x]).length ≤ 11 := by
  have := tog_len fs [x]
  simp at this
  omega

set_option maxRecDepth 100000 in
set_option maxHeartbeats 16000000 in
theorem cellsEuler_no (a : Nat → Addr) (L M : List (List Int)) (fs : List Int) (x : Int) (v u z : Value) (w : World) (hS : Sents w a) (hv : ListsIn w.heap.size w v L) (hu : ListsIn w.heap.size w u M) (hz : IntsAt w z fs) (hno : littleB L 30 = false ∨ littleB M 30 = false) :
    Calls Tryz.prog 4 #[v, u, z, .int .i64 x] w (True1 w) := by
  have HV := Lib.hid hv
  have HU := Lib.hid hu
  have HCI := Lib.hid (circle_any a w hS)
  clear hS hv hu hz
  unfold True1
  obtain ⟨r, hr⟩ : ∃ r, littleB L 30 = r := ⟨_, rfl⟩
  obtain ⟨r2, hr2⟩ : ∃ r2, littleB M 30 = r2 := ⟨_, rfl⟩
  have HR := Lib.hid hr
  have HR2 := Lib.hid hr2
  rw [hr, hr2] at hno
  clear hr hr2
  cases r with
  | false =>
    clear hno
    go_enter Tryz.func4, Tryz.ntmps4
    go_wp2_with fail
    refine HCI.out.mono ?_
    rintro e w1 ⟨rfl, hb1⟩
    have HB1 := Lib.hid hb1
    have HLI := Lib.hid (little_any L 30 v w1 (HV.out.later hb1 (Nat.le_refl _) (Nat.le_refl _)) (by decide))
    rw [HR.out] at HLI
    unfold Gives at HLI
    clear hb1
    go_wp2_with fail
    refine HLI.out.mono ?_
    rintro e w2 ⟨rfl, hb2⟩
    have HB2 := Lib.hid (HB1.out.trans (hb2.mono HB1.out.size))
    have HLI2 := Lib.hid (little_any M 30 u w2 (HU.out.later HB2.out (Nat.le_refl _) (Nat.le_refl _)) (by decide))
    rw [HR2.out] at HLI2
    unfold Gives at HLI2
    clear hb2
    go_wp2_with fail
    refine HLI2.out.mono ?_
    rintro e w3 ⟨rfl, hb3⟩
    have HB3 := Lib.hid (HB2.out.trans (hb3.mono HB2.out.size))
    clear hb3
    cases r2 with
    | false =>
      go_wp2_with fail
      go_ret
      exact ⟨rfl, HB3.out⟩
    | true =>
      go_wp2_with fail
      go_ret
      exact ⟨rfl, HB3.out⟩
  | true =>
    obtain rfl : r2 = false := hno.elim (fun h => by cases h) id
    clear hno
    go_enter Tryz.func4, Tryz.ntmps4
    go_wp2_with fail
    refine HCI.out.mono ?_
    rintro e w1 ⟨rfl, hb1⟩
    have HB1 := Lib.hid hb1
    have HLI := Lib.hid (little_any L 30 v w1 (HV.out.later hb1 (Nat.le_refl _) (Nat.le_refl _)) (by decide))
    rw [HR.out] at HLI
    unfold Gives at HLI
    clear hb1
    go_wp2_with fail
    refine HLI.out.mono ?_
    rintro e w2 ⟨rfl, hb2⟩
    have HB2 := Lib.hid (HB1.out.trans (hb2.mono HB1.out.size))
    have HLI2 := Lib.hid (little_any M 30 u w2 (HU.out.later HB2.out (Nat.le_refl _) (Nat.le_refl _)) (by decide))
    rw [HR2.out] at HLI2
    unfold Gives at HLI2
    clear hb2
    go_wp2_with fail
    refine HLI2.out.mono ?_
    rintro e w3 ⟨rfl, hb3⟩
    have HB3 := Lib.hid (HB2.out.trans (hb3.mono HB2.out.size))
    clear hb3
    go_wp2_with fail
    go_ret
    exact ⟨rfl, HB3.out⟩
set_option maxRecDepth 100000 in
set_option maxHeartbeats 16000000 in
theorem cellsEuler_long (a : Nat → Addr) (L M : List (List Int)) (fs : List Int) (x : Int) (v u z : Value) (w : World) (hS : Sents w a) (hv : ListsIn w.heap.size w v L) (hu : ListsIn w.heap.size w u M) (hz : IntsAt w z fs) (hlit : littleB L 30 = true) (hlit2 : littleB M 30 = true) (hf : 10 < fs.length) :
    Calls Tryz.prog 4 #[v, u, z, .int .i64 x] w (True1 w) := by
  have HS := Lib.hid hS
  have HV := Lib.hid hv
  have HU := Lib.hid hu
  have HZ := Lib.hid hz
  have HCI := Lib.hid (circle_any a w hS)
  have HR := Lib.hid hlit
  have HR2 := Lib.hid hlit2
  have HLK := Lib.hid (littleB_few hlit).2
  have HLK2 := Lib.hid (littleB_few hlit2).2
  have HNK := Lib.hid (littleB_few hlit).1
  have HNK2 := Lib.hid (littleB_few hlit2).1
  obtain ⟨pz, cz, hze, -⟩ := id hz
  obtain ⟨nz, hnz⟩ : ∃ nz, fs.length = nz := ⟨_, rfl⟩
  rw [hnz] at hze
  subst hze
  have HNZ := Lib.hid hnz
  rw [hnz] at hf
  have q1 : decide (10 < nz) = true := decide_eq_true hf
  have q2 : decide ((10 : Int) < (nz : Int)) = true := decide_eq_true (by omega)
  clear hS hv hu hz hnz hlit hlit2
  unfold True1
  go_enter Tryz.func4, Tryz.ntmps4
  go_wp2_with fail
  refine HCI.out.mono ?_
  rintro e w1 ⟨rfl, hb1⟩
  have HB1 := Lib.hid hb1
  have HLI := Lib.hid (little_any L 30 v w1 (HV.out.later hb1 (Nat.le_refl _) (Nat.le_refl _)) (by decide))
  rw [HR.out] at HLI
  unfold Gives at HLI
  clear hb1
  go_wp2_with fail
  refine HLI.out.mono ?_
  rintro e w2 ⟨rfl, hb2⟩
  have HB2 := Lib.hid (HB1.out.trans (hb2.mono HB1.out.size))
  have HLI2 := Lib.hid (little_any M 30 u w2 (HU.out.later HB2.out (Nat.le_refl _) (Nat.le_refl _)) (by decide))
  rw [HR2.out] at HLI2
  unfold Gives at HLI2
  clear hb2
  go_wp2_with fail
  refine HLI2.out.mono ?_
  rintro e w3 ⟨rfl, hb3⟩
  have HB3 := Lib.hid (HB2.out.trans (hb3.mono HB2.out.size))
  clear hb3
  go_wp2_with fail
  go_ret
  exact ⟨rfl, HB3.out⟩
set_option maxRecDepth 100000 in
set_option maxHeartbeats 16000000 in
theorem cellsEuler_bad1 (a : Nat → Addr) (L M : List (List Int)) (fs : List Int) (x : Int) (v u z : Value) (w : World) (hS : Sents w a) (hv : ListsIn w.heap.size w v L) (hu : ListsIn w.heap.size w u M) (hz : IntsAt w z fs) (hlit : littleB L 30 = true) (hlit2 : littleB M 30 = true) (hf : fs.length ≤ 10) (hc : errX L ≠ 0) :
    Calls Tryz.prog 4 #[v, u, z, .int .i64 x] w (True1 w) := by
  have HS := Lib.hid hS
  have HV := Lib.hid hv
  have HU := Lib.hid hu
  have HZ := Lib.hid hz
  have HCI := Lib.hid (circle_any a w hS)
  have HR := Lib.hid hlit
  have HR2 := Lib.hid hlit2
  have HLK := Lib.hid (littleB_few hlit).2
  have HLK2 := Lib.hid (littleB_few hlit2).2
  have HNK := Lib.hid (littleB_few hlit).1
  have HNK2 := Lib.hid (littleB_few hlit2).1
  obtain ⟨pz, cz, hze, -⟩ := id hz
  obtain ⟨nz, hnz⟩ : ∃ nz, fs.length = nz := ⟨_, rfl⟩
  rw [hnz] at hze
  subst hze
  have HNZ := Lib.hid hnz
  rw [hnz] at hf
  have q1 : decide (10 < nz) = false := decide_eq_false (by omega)
  have q2 : decide ((10 : Int) < (nz : Int)) = false := decide_eq_false (by omega)
  obtain ⟨c, hcc⟩ : ∃ c, errX L = c + 1 := ⟨errX L - 1, by omega⟩
  have HC := Lib.hid hcc
  have q3 : decide ((0 : Int) < ((c + 1 : Nat) : Int)) = true := decide_eq_true (by omega)
  have q4 : decide (0 < c + 1) = true := decide_eq_true (by omega)
  have q5 : decide ((0 : Int) < (c : Int) + 1) = true := decide_eq_true (by omega)
  clear hc hcc hS hv hu hz hnz hlit hlit2
  unfold True1
  go_enter Tryz.func4, Tryz.ntmps4
  go_wp2_with fail
  refine HCI.out.mono ?_
  rintro e w1 ⟨rfl, hb1⟩
  have HB1 := Lib.hid hb1
  have HLI := Lib.hid (little_any L 30 v w1 (HV.out.later hb1 (Nat.le_refl _) (Nat.le_refl _)) (by decide))
  rw [HR.out] at HLI
  unfold Gives at HLI
  clear hb1
  go_wp2_with fail
  refine HLI.out.mono ?_
  rintro e w2 ⟨rfl, hb2⟩
  have HB2 := Lib.hid (HB1.out.trans (hb2.mono HB1.out.size))
  have HLI2 := Lib.hid (little_any M 30 u w2 (HU.out.later HB2.out (Nat.le_refl _) (Nat.le_refl _)) (by decide))
  rw [HR2.out] at HLI2
  unfold Gives at HLI2
  clear hb2
  go_wp2_with fail
  refine HLI2.out.mono ?_
  rintro e w3 ⟨rfl, hb3⟩
  have HB3 := Lib.hid (HB2.out.trans (hb3.mono HB2.out.size))
  clear hb3
  have HCE := Lib.hid (complexError_any L v w3 (HV.out.later HB3.out (Nat.le_refl _) (Nat.le_refl _)) HNK.out HLK.out)
  rw [HC.out] at HCE
  unfold Gives at HCE
  go_wp2_with fail
  refine HCE.out.mono ?_
  rintro e w4 ⟨rfl, hb4⟩
  have HB4 := Lib.hid (HB3.out.trans (hb4.mono HB3.out.size))
  clear hb4
  go_wp2_with fail
  go_ret
  exact ⟨rfl, HB4.out⟩
set_option maxRecDepth 100000 in
set_option maxHeartbeats 16000000 in
theorem cellsEuler_bad2 (a : Nat → Addr) (L M : List (List Int)) (fs : List Int) (x : Int) (v u z : Value) (w : World) (hS : Sents w a) (hv : ListsIn w.heap.size w v L) (hu : ListsIn w.heap.size w u M) (hz : IntsAt w z fs) (hlit : littleB L 30 = true) (hlit2 : littleB M 30 = true) (hf : fs.length ≤ 10) (hc0 : errX L = 0) (hc : errX M ≠ 0) :
    Calls Tryz.prog 4 #[v, u, z, .int .i64 x] w (True1 w) := by
  have HS := Lib.hid hS
  have HV := Lib.hid hv
  have HU := Lib.hid hu
  have HZ := Lib.hid hz
  have HCI := Lib.hid (circle_any a w hS)
  have HR := Lib.hid hlit
  have HR2 := Lib.hid hlit2
  have HLK := Lib.hid (littleB_few hlit).2
  have HLK2 := Lib.hid (littleB_few hlit2).2
  have HNK := Lib.hid (littleB_few hlit).1
  have HNK2 := Lib.hid (littleB_few hlit2).1
  obtain ⟨pz, cz, hze, -⟩ := id hz
  obtain ⟨nz, hnz⟩ : ∃ nz, fs.length = nz := ⟨_, rfl⟩
  rw [hnz] at hze
  subst hze
  have HNZ := Lib.hid hnz
  rw [hnz] at hf
  have q1 : decide (10 < nz) = false := decide_eq_false (by omega)
  have q2 : decide ((10 : Int) < (nz : Int)) = false := decide_eq_false (by omega)
  have HC := Lib.hid hc0
  obtain ⟨c, hcc⟩ : ∃ c, errX M = c + 1 := ⟨errX M - 1, by omega⟩
  have HC2 := Lib.hid hcc
  have q3 : decide ((0 : Int) < ((c + 1 : Nat) : Int)) = true := decide_eq_true (by omega)
  have q4 : decide (0 < c + 1) = true := decide_eq_true (by omega)
  have q5 : decide ((0 : Int) < (c : Int) + 1) = true := decide_eq_true (by omega)
  clear hc0 hc hcc hS hv hu hz hnz hlit hlit2
  unfold True1
  go_enter Tryz.func4, Tryz.ntmps4
  go_wp2_with fail
  refine HCI.out.mono ?_
  rintro e w1 ⟨rfl, hb1⟩
  have HB1 := Lib.hid hb1
  have HLI := Lib.hid (little_any L 30 v w1 (HV.out.later hb1 (Nat.le_refl _) (Nat.le_refl _)) (by decide))
  rw [HR.out] at HLI
  unfold Gives at HLI
  clear hb1
  go_wp2_with fail
  refine HLI.out.mono ?_
  rintro e w2 ⟨rfl, hb2⟩
  have HB2 := Lib.hid (HB1.out.trans (hb2.mono HB1.out.size))
  have HLI2 := Lib.hid (little_any M 30 u w2 (HU.out.later HB2.out (Nat.le_refl _) (Nat.le_refl _)) (by decide))
  rw [HR2.out] at HLI2
  unfold Gives at HLI2
  clear hb2
  go_wp2_with fail
  refine HLI2.out.mono ?_
  rintro e w3 ⟨rfl, hb3⟩
  have HB3 := Lib.hid (HB2.out.trans (hb3.mono HB2.out.size))
  clear hb3
  have HCE := Lib.hid (complexError_any L v w3 (HV.out.later HB3.out (Nat.le_refl _) (Nat.le_refl _)) HNK.out HLK.out)
  rw [HC.out] at HCE
  unfold Gives at HCE
  go_wp2_with fail
  refine HCE.out.mono ?_
  rintro e w4 ⟨rfl, hb4⟩
  have HB4 := Lib.hid (HB3.out.trans (hb4.mono HB3.out.size))
  clear hb4
  have HCE2 := Lib.hid (complexError_any M u w4 (HU.out.later HB4.out (Nat.le_refl _) (Nat.le_refl _)) HNK2.out HLK2.out)
  rw [HC2.out] at HCE2
  unfold Gives at HCE2
  go_wp2_with fail
  refine HCE2.out.mono ?_
  rintro e w5 ⟨rfl, hb5⟩
  have HB5 := Lib.hid (HB4.out.trans (hb5.mono HB4.out.size))
  clear hb5
  go_wp2_with fail
  go_ret
  exact ⟨rfl, HB5.out⟩
set_option maxRecDepth 100000 in
set_option maxHeartbeats 64000000 in
theorem cellsEuler_yes (a : Nat → Addr) (L M : List (List Int)) (fs : List Int) (x : Int) (v u z : Value) (w : World) (hS : Sents w a) (hv : ListsIn w.heap.size w v L) (hu : ListsIn w.heap.size w u M) (hz : IntsAt w z fs) (hlit : littleB L 30 = true) (hlit2 : littleB M 30 = true) (hf : fs.length ≤ 10) (hL0 : errX L = 0) (hM0 : errX M = 0) :
    Calls Tryz.prog 4 #[v, u, z, .int .i64 x] w (True1 w) := by
  obtain ⟨i3, hi3, hy0, hy1, hy2⟩ := info_parts Tryz.info3
  have HS := Lib.hid hS
  have HV := Lib.hid hv
  have HU := Lib.hid hu
  have HZ := Lib.hid hz
  have HCI := Lib.hid (circle_any a w hS)
  have HR := Lib.hid hlit
  have HR2 := Lib.hid hlit2
  have HLK := Lib.hid (littleB_few hlit).2
  have HLK2 := Lib.hid (littleB_few hlit2).2
  have HNK := Lib.hid (littleB_few hlit).1
  have HNK2 := Lib.hid (littleB_few hlit2).1
  obtain ⟨pz, cz, hze, -⟩ := id hz
  obtain ⟨nz, hnz⟩ : ∃ nz, fs.length = nz := ⟨_, rfl⟩
  rw [hnz] at hze
  subst hze
  have HNZ := Lib.hid hnz
  rw [hnz] at hf
  have q1 : decide (10 < nz) = false := decide_eq_false (by omega)
  have q2 : decide ((10 : Int) < (nz : Int)) = false := decide_eq_false (by omega)
  have HC := Lib.hid hL0
  have HC2 := Lib.hid hM0
  have HN := Lib.hid (littleB_smallE hlit).1
  have HL := Lib.hid (littleB_smallE hlit).2
  have HN2 := Lib.hid (littleB_smallE hlit2).1
  have HL2 := Lib.hid (littleB_smallE hlit2).2
  have HJ0 : Hid (errJ L M = 0) := by unfold Hid errJ; rw [if_pos hL0]; exact hM0
  obtain ⟨m0, hm0⟩ : ∃ m0, eulF (allF L) = m0 := ⟨_, rfl⟩
  obtain ⟨n0, hn0⟩ : ∃ n0, eulF (allF M) = n0 := ⟨_, rfl⟩
  have bm := eul_bd (errX_ok hL0).1
  have bn := eul_bd (errX_ok hM0).1
  rw [hm0] at bm
  rw [hn0] at bn
  obtain ⟨bm1, bm2⟩ := bm
  obtain ⟨bn1, bn2⟩ := bn
  have HM0 := Lib.hid hm0
  have HN0 := Lib.hid hn0
  clear hm0 hn0 hS hv hu hz hnz hlit hlit2 hL0 hM0
  unfold True1
  go_enter Tryz.func4, Tryz.ntmps4
  go_wp2_with fail
  refine HCI.out.mono ?_
  rintro e w1 ⟨rfl, hb1⟩
  have HB1 := Lib.hid hb1
  have HLI := Lib.hid (little_any L 30 v w1 (HV.out.later hb1 (Nat.le_refl _) (Nat.le_refl _)) (by decide))
  rw [HR.out] at HLI
  unfold Gives at HLI
  clear hb1
  go_wp2_with fail
  refine HLI.out.mono ?_
  rintro e w2 ⟨rfl, hb2⟩
  have HB2 := Lib.hid (HB1.out.trans (hb2.mono HB1.out.size))
  have HLI2 := Lib.hid (little_any M 30 u w2 (HU.out.later HB2.out (Nat.le_refl _) (Nat.le_refl _)) (by decide))
  rw [HR2.out] at HLI2
  unfold Gives at HLI2
  clear hb2
  go_wp2_with fail
  refine HLI2.out.mono ?_
  rintro e w3 ⟨rfl, hb3⟩
  have HB3 := Lib.hid (HB2.out.trans (hb3.mono HB2.out.size))
  clear hb3
  have HCE := Lib.hid (complexError_any L v w3 (HV.out.later HB3.out (Nat.le_refl _) (Nat.le_refl _)) HNK.out HLK.out)
  rw [HC.out] at HCE
  unfold Gives at HCE
  go_wp2_with fail
  refine HCE.out.mono ?_
  rintro e w4 ⟨rfl, hb4⟩
  have HB4 := Lib.hid (HB3.out.trans (hb4.mono HB3.out.size))
  clear hb4
  have HCE2 := Lib.hid (complexError_any M u w4 (HU.out.later HB4.out (Nat.le_refl _) (Nat.le_refl _)) HNK2.out HLK2.out)
  rw [HC2.out] at HCE2
  unfold Gives at HCE2
  go_wp2_with fail
  refine HCE2.out.mono ?_
  rintro e w5 ⟨rfl, hb5⟩
  have HB5 := Lib.hid (HB4.out.trans (hb5.mono HB4.out.size))
  clear hb5 HCE HCE2 HCI HLI HLI2
  have HCX := Lib.hid (cx_any w.heap.size L v w5 HB5.out.size (HV.out.below HB5.out (Nat.le_refl _)) HNK.out HLK.out)
  go_wp2_with fail
  refine HCX.out.mono ?_
  rintro e w6 ⟨u6, rfl, hb, hr⟩
  have HB6 := Lib.hid (HB5.out.trans (hb.mono HB5.out.size))

  have HA6 := Lib.hid hr.lists
  clear hr
  clear hb HCX
  have HEU := Lib.hid (euler_ok a w.heap.size L m0 u6 w6 (HS.out.below HB6.out (Nat.le_refl _)) HB6.out.size HA6.out HC.out HM0.out HNK.out HLK.out)
  unfold EulP at HEU
  go_wp2_with fail
  refine HEU.out.mono ?_
  rintro e w7 ⟨rfl, hb⟩
  have HB7 := Lib.hid (HB6.out.trans (hb.mono HB6.out.size))
  have HA7 := Lib.hid (HA6.out.below hb (Nat.le_refl _))
  clear hb HEU
  have HCX := Lib.hid (cx_any w.heap.size M u w7 HB7.out.size (HU.out.below HB7.out (Nat.le_refl _)) HNK2.out HLK2.out)
  go_wp2_with fail
  refine HCX.out.mono ?_
  rintro e w8 ⟨u8, rfl, hb, hr⟩
  have HB8 := Lib.hid (HB7.out.trans (hb.mono HB7.out.size))

  have HA8 := Lib.hid hr.lists
  clear hr
  clear hb HCX
  have HEU := Lib.hid (euler_ok a w.heap.size M n0 u8 w8 (HS.out.below HB8.out (Nat.le_refl _)) HB8.out.size HA8.out HC2.out HN0.out HNK2.out HLK2.out)
  unfold EulP at HEU
  go_wp2_with fail
  refine HEU.out.mono ?_
  rintro e w9 ⟨rfl, hb⟩
  have HB9 := Lib.hid (HB8.out.trans (hb.mono HB8.out.size))
  have HA9 := Lib.hid (HA8.out.below hb (Nat.le_refl _))
  clear hb HEU
  have HCX := Lib.hid (cx_any w.heap.size L v w9 HB9.out.size (HV.out.below HB9.out (Nat.le_refl _)) HNK.out HLK.out)
  go_wp2_with fail
  refine HCX.out.mono ?_
  rintro e w10 ⟨u10, rfl, hb, hr⟩
  have HB10 := Lib.hid (HB9.out.trans (hb.mono HB9.out.size))

  have HA10 := Lib.hid hr.lists
  clear hr
  clear hb HCX
  have HCX := Lib.hid (cx_any w.heap.size M u w10 HB10.out.size (HU.out.below HB10.out (Nat.le_refl _)) HNK2.out HLK2.out)
  go_wp2_with fail
  refine HCX.out.mono ?_
  rintro e w11 ⟨u11, rfl, hb, hr⟩
  have HB11 := Lib.hid (HB10.out.trans (hb.mono HB10.out.size))
  have HA11 := Lib.hid (HA10.out.below hb (Nat.le_refl _))
  have HE11 := Lib.hid hr.lists
  clear hr
  clear hb HCX
  have HST := Lib.hid (SetsP.u (M := joinP L M) (join_any a w.heap.size L M u10 u11 w11 (HS.out.below HB11.out (Nat.le_refl _)) HB11.out.size HA11.out HE11.out HN.out HL.out HN2.out HL2.out) (fun h => (errG_0 h).2))
  obtain ⟨e1, hed⟩ : ∃ e1, errG (errJ L M) (joinP L M) = e1 := ⟨_, rfl⟩
  rw [hed] at HST
  have HE1 := Lib.hid hed
  clear hed
  unfold CompP at HST

  go_wp2_with fail
  refine HST.out.mono ?_
  rintro e w12 ⟨p12, n12, c12, ev12, rfl, hb, hu⟩
  have HB12 := Lib.hid (HB11.out.trans (hb.mono HB11.out.size))
  have HA12 := Lib.hid (HA11.out.below hb (Nat.le_refl _))
  have HE12 := Lib.hid (HE11.out.below hb (Nat.le_refl _))
  have HUR := Lib.hid hu
  clear hu
  clear hb HST
  obtain ⟨bc, hbx⟩ : ∃ bc, w12.heap.size = bc := ⟨_, rfl⟩
  obtain ⟨w13, hwk⟩ : ∃ wk, wk = w12.alloc (.cells #[.slice p12 n12 c12] 34) := ⟨_, rfl⟩
  have hb : Below w12.heap.size w12 w13 := by rw [hwk]; exact lit_below _ _
  have HB13 := Lib.hid (HB12.out.trans (hb.mono HB12.out.size))

  have HKbc13 : Hid (w13.heap[bc]? = some (.cells #[.slice p12 n12 c12] 34 (0, 0))) := by unfold Hid; rw [hwk, ← hbx]; exact heap_alloc_new w12 _
  have HLTbc13 : Hid (bc < w13.heap.size) := (Array.getElem?_eq_some_iff.1 HKbc13.out).1
  have Hbc : Hid (w.heap.size ≤ bc) := by unfold Hid; rw [← hbx]; exact HB12.out.size
  have HU13 := Lib.hid (HUR.out.u.below hb (Nat.le_refl _))
  have HWB := Lib.hid hwk
  have HBE := Lib.hid hbx
  clear hb hwk hbx HUR
  go_upto_region 9 with fail
  rw [← HWB.out]
  rw [HBE.out]
  obtain ⟨te1, ht⟩ : ∃ t, t = decide (e1 = 0) := ⟨_, rfl⟩
  have HTe1 := Lib.hid ht
  clear ht
  go_cut [82] (fun sx wx => sx = .bool te1 ∧ w13 = wx)
  case first =>
    obtain ⟨he, rfl, -, -⟩ | ⟨k, hk, hek, -, rfl⟩ := HU13.out
    · have HE := Lib.hid he
      clear he
      go_wp2_with fail
      go_meet
      exact ⟨by rw [HTe1.out, HE.out]; rfl, rfl⟩
    · have HE := Lib.hid hek
      clear hek
      unfold errE
      go_wp2_with fail
      go_meet
      exact ⟨by rw [HTe1.out, HE.out]; rfl, rfl⟩
  case rest =>
  obtain ⟨rfl, rfl⟩ := hcut
  go_upto_if 82 with fail
  go_cut [] (fun wx => Below w13.heap.size w13 wx)
  case first =>
    cases te1 with
    | true =>
      have h0 : e1 = 0 := of_decide_eq_true HTe1.out.symm
      have HX0 : Hid (errC (joinP L M) = 0) := (errG_0 (HE1.out.trans h0)).2
      obtain ⟨-, -, hli, -⟩ | ⟨k, hk, hek, -⟩ := HU13.out
      rotate_left
      · omega
      obtain ⟨kk, hkk⟩ : ∃ kk, eulF (allF (joinP L M)) = kk := ⟨_, rfl⟩
      have bk := eul_bd HX0.out
      have hjn := join_eul (errJ_0 HJ0.out).1 (errJ_0 HJ0.out).2
      rw [HM0.out, HN0.out, hkk] at hjn
      rw [hkk] at bk
      obtain ⟨bk1, bk2⟩ := bk
      have W1 : IntKind.i64.wrap ((1 - m0) * (1 - n0)) = (1 - m0) * (1 - n0) := i64_small (by omega)
      have W2 : (1 - kk != (1 - m0) * (1 - n0)) = false := by rw [hjn]; simp
      have HEU := Lib.hid (euler_made a w.heap.size (joinP L M) kk (.slice p12 n12 c12) w13 (HS.out.below HB13.out (Nat.le_refl _)) HB13.out.size hli HX0.out hkk)
      unfold EulP at HEU
      have R : w13.cell? ⟨bc, 0, none⟩ = some (.slice p12 n12 c12) := (blk_at2 HKbc13.out 0).1
      clear h0 hli hkk hjn
      go_wp2_with fail
      refine HEU.out.mono ?_
      rintro e wE ⟨rfl, hb⟩
      have HBE := Lib.hid hb
      clear hb HEU
      go_wp2_with fail
      go_meet
      exact HBE.out
    | false =>
      go_wp2_with fail
      go_meet
      exact Below.refl _ _
  case rest =>
  as_aux_lemma =>
  have hb := hcut
  obtain ⟨w14, rfl⟩ : ∃ wn, wn = wc := ⟨_, rfl⟩
  have HB14 := Lib.hid (HB13.out.trans (hb.mono HB13.out.size))
  have HKbc14 : Hid (w14.heap[bc]? = some (.cells #[.slice p12 n12 c12] 34 (0, 0))) := (hb.block _ HLTbc13.out).trans HKbc13.out
  have HLTbc14 : Hid (bc < w14.heap.size) := Nat.lt_of_lt_of_le HLTbc13.out hb.size
  clear hb hcut
  have HCX := Lib.hid (cx_any w.heap.size L v w14 HB14.out.size (HV.out.below HB14.out (Nat.le_refl _)) HNK.out HLK.out)
  go_wp2_with fail
  refine HCX.out.mono ?_
  rintro e w15 ⟨u15, rfl, hb, hr⟩
  have HB15 := Lib.hid (HB14.out.trans (hb.mono HB14.out.size))
  have HKbc15 : Hid (w15.heap[bc]? = some (.cells #[.slice p12 n12 c12] 34 (0, 0))) := (hb.block _ HLTbc14.out).trans HKbc14.out
  have HLTbc15 : Hid (bc < w15.heap.size) := Nat.lt_of_lt_of_le HLTbc14.out hb.size
  have HA15 := Lib.hid hr.lists
  clear hr
  clear hb HCX
  have HCX := Lib.hid (cx_any w.heap.size M u w15 HB15.out.size (HU.out.below HB15.out (Nat.le_refl _)) HNK2.out HLK2.out)
  go_wp2_with fail
  refine HCX.out.mono ?_
  rintro e w16 ⟨u16, rfl, hb, hr⟩
  have HB16 := Lib.hid (HB15.out.trans (hb.mono HB15.out.size))
  have HKbc16 : Hid (w16.heap[bc]? = some (.cells #[.slice p12 n12 c12] 34 (0, 0))) := (hb.block _ HLTbc15.out).trans HKbc15.out
  have HLTbc16 : Hid (bc < w16.heap.size) := Nat.lt_of_lt_of_le HLTbc15.out hb.size
  have HA16 := Lib.hid (HA15.out.below hb (Nat.le_refl _))
  have HE16 := Lib.hid hr.lists
  clear hr
  clear hb HCX
  have HST := Lib.hid (SetsP.u (M := wayL L M) (product_any a w.heap.size L M u15 u16 w16 (HS.out.below HB16.out (Nat.le_refl _)) HB16.out.size HA16.out HE16.out HN.out HL.out HN2.out HL2.out) errD_00)
  obtain ⟨e2, hed⟩ : ∃ e2, errD L M = e2 := ⟨_, rfl⟩
  rw [hed] at HST
  have HE2 := Lib.hid hed
  clear hed
  unfold CompP at HST

  go_wp2_with fail
  refine HST.out.mono ?_
  rintro e w17 ⟨p17, n17, c17, ev17, rfl, hb, hu⟩
  have HB17 := Lib.hid (HB16.out.trans (hb.mono HB16.out.size))
  have HKbc17 : Hid (w17.heap[bc]? = some (.cells #[.slice p12 n12 c12] 34 (0, 0))) := (hb.block _ HLTbc16.out).trans HKbc16.out
  have HLTbc17 : Hid (bc < w17.heap.size) := Nat.lt_of_lt_of_le HLTbc16.out hb.size
  have HA17 := Lib.hid (HA16.out.below hb (Nat.le_refl _))
  have HE17 := Lib.hid (HE16.out.below hb (Nat.le_refl _))
  have HUR := Lib.hid hu
  clear hu
  clear hb HST
  have R17 : w17.cell? ⟨bc, 0, none⟩ = some (.slice p12 n12 c12) := (blk_at2 HKbc17.out 0).1
  have F17 : w17.frozen? ⟨bc, 0, none⟩ = false := (blk_at2 HKbc17.out 0).2
  obtain ⟨w18, hwk⟩ : ∃ wk, wk = w17.setCell ⟨bc, 0, none⟩ (.slice p17 n17 c17) := ⟨_, rfl⟩
  have HB18 : Hid (Below w.heap.size w w18) := by unfold Hid; rw [hwk]; exact HB17.out.setCell Hbc.out _
  have HKbc18 : Hid (w18.heap[bc]? = some (.cells #[.slice p17 n17 c17] 34 (0, 0))) := by unfold Hid; rw [hwk]; exact one_blk HKbc17.out
  have HLTbc18 : Hid (bc < w18.heap.size) := (Array.getElem?_eq_some_iff.1 HKbc18.out).1
  have hUk := HUR.out.set (y := .slice p17 n17 c17) HLTbc16.out Hbc.out HKbc17.out
  rw [← hwk] at hUk
  have HU18 := Lib.hid hUk
  have HWB := Lib.hid hwk
  clear hUk hwk HUR
  go_upto_region 14 with fail
  rw [← HWB.out]
  clear R17 F17
  obtain ⟨te2, ht⟩ : ∃ t, t = decide (e2 = 0) := ⟨_, rfl⟩
  have HTe2 := Lib.hid ht
  clear ht
  go_cut [109] (fun sx wx => sx = .bool te2 ∧ w18 = wx)
  case first =>
    obtain ⟨he, rfl, -, -⟩ | ⟨k, hk, hek, -, rfl⟩ := HU18.out
    · have HE := Lib.hid he
      clear he
      go_wp2_with fail
      go_meet
      exact ⟨by rw [HTe2.out, HE.out]; rfl, rfl⟩
    · have HE := Lib.hid hek
      clear hek
      unfold errE
      go_wp2_with fail
      go_meet
      exact ⟨by rw [HTe2.out, HE.out]; rfl, rfl⟩
  case rest =>
  obtain ⟨rfl, rfl⟩ := hcut
  go_upto_if 109 with fail
  go_cut [] (fun wx => Below w18.heap.size w18 wx)
  case first =>
    cases te2 with
    | true =>
      have h0 : e2 = 0 := of_decide_eq_true HTe2.out.symm
      have HX0 : Hid (errC (wayL L M) = 0) := errD_00 (HE2.out.trans h0)
      obtain ⟨-, -, hli, -⟩ | ⟨k, hk, hek, -⟩ := HU18.out
      rotate_left
      · omega
      obtain ⟨kk, hkk⟩ : ∃ kk, eulF (allF (wayL L M)) = kk := ⟨_, rfl⟩
      have bk := eul_bd HX0.out
      have hjn := prod_eul (errJ_0 HJ0.out).1 (errJ_0 HJ0.out).2
      rw [HM0.out, HN0.out, hkk] at hjn
      rw [hkk] at bk
      obtain ⟨bk1, bk2⟩ := bk
      have W1 : IntKind.i64.wrap (m0 * n0) = m0 * n0 := i64_small (by omega)
      have W2 : (kk != m0 * n0) = false := by rw [hjn]; simp
      have HEU := Lib.hid (euler_made a w.heap.size (wayL L M) kk (.slice p17 n17 c17) w18 (HS.out.below HB18.out (Nat.le_refl _)) HB18.out.size hli HX0.out hkk)
      unfold EulP at HEU
      have R : w18.cell? ⟨bc, 0, none⟩ = some (.slice p17 n17 c17) := (blk_at2 HKbc18.out 0).1
      clear h0 hli hkk hjn
      go_wp2_with fail
      refine HEU.out.mono ?_
      rintro e wE ⟨rfl, hb⟩
      have HBE := Lib.hid hb
      clear hb HEU
      go_wp2_with fail
      go_meet
      exact HBE.out
    | false =>
      go_wp2_with fail
      go_meet
      exact Below.refl _ _
  case rest =>
  as_aux_lemma =>
  have hb := hcut
  obtain ⟨w19, rfl⟩ : ∃ wn, wn = wc := ⟨_, rfl⟩
  have HB19 := Lib.hid (HB18.out.trans (hb.mono HB18.out.size))
  have HKbc19 : Hid (w19.heap[bc]? = some (.cells #[.slice p17 n17 c17] 34 (0, 0))) := (hb.block _ HLTbc18.out).trans HKbc18.out
  have HLTbc19 : Hid (bc < w19.heap.size) := Nat.lt_of_lt_of_le HLTbc18.out hb.size
  clear hb hcut
  have HCX := Lib.hid (cx_any w.heap.size L v w19 HB19.out.size (HV.out.below HB19.out (Nat.le_refl _)) HNK.out HLK.out)
  go_wp2_with fail
  refine HCX.out.mono ?_
  rintro e w20 ⟨u20, rfl, hb, hr⟩
  have HB20 := Lib.hid (HB19.out.trans (hb.mono HB19.out.size))
  have HKbc20 : Hid (w20.heap[bc]? = some (.cells #[.slice p17 n17 c17] 34 (0, 0))) := (hb.block _ HLTbc19.out).trans HKbc19.out
  have HLTbc20 : Hid (bc < w20.heap.size) := Nat.lt_of_lt_of_le HLTbc19.out hb.size
  have HA20 := Lib.hid hr.lists
  clear hr
  clear hb HCX
  have HCX := Lib.hid (cx_any w.heap.size M u w20 HB20.out.size (HU.out.below HB20.out (Nat.le_refl _)) HNK2.out HLK2.out)
  go_wp2_with fail
  refine HCX.out.mono ?_
  rintro e w21 ⟨u21, rfl, hb, hr⟩
  have HB21 := Lib.hid (HB20.out.trans (hb.mono HB20.out.size))
  have HKbc21 : Hid (w21.heap[bc]? = some (.cells #[.slice p17 n17 c17] 34 (0, 0))) := (hb.block _ HLTbc20.out).trans HKbc20.out
  have HLTbc21 : Hid (bc < w21.heap.size) := Nat.lt_of_lt_of_le HLTbc20.out hb.size
  have HA21 := Lib.hid (HA20.out.below hb (Nat.le_refl _))
  have HE21 := Lib.hid hr.lists
  clear hr
  clear hb HCX
  have HST := Lib.hid (SetsP.u (M := L ++ M) (union_any a w.heap.size L M u20 u21 w21 (HS.out.below HB21.out (Nat.le_refl _)) HB21.out.size HA21.out HE21.out (Nat.le_trans HN.out (by decide)) HLK.out (Nat.le_trans HN2.out (by decide)) HLK2.out) (fun h => (errG_0 h).2))
  obtain ⟨e3, hed⟩ : ∃ e3, errG (errJ L M) (L ++ M) = e3 := ⟨_, rfl⟩
  rw [hed] at HST
  have HE3 := Lib.hid hed
  clear hed
  unfold CompP at HST

  go_wp2_with fail
  refine HST.out.mono ?_
  rintro e w22 ⟨p22, n22, c22, ev22, rfl, hb, hu⟩
  have HB22 := Lib.hid (HB21.out.trans (hb.mono HB21.out.size))
  have HKbc22 : Hid (w22.heap[bc]? = some (.cells #[.slice p17 n17 c17] 34 (0, 0))) := (hb.block _ HLTbc21.out).trans HKbc21.out
  have HLTbc22 : Hid (bc < w22.heap.size) := Nat.lt_of_lt_of_le HLTbc21.out hb.size
  have HA22 := Lib.hid (HA21.out.below hb (Nat.le_refl _))
  have HE22 := Lib.hid (HE21.out.below hb (Nat.le_refl _))
  have HUR := Lib.hid hu
  clear hu
  clear hb HST
  have R22 : w22.cell? ⟨bc, 0, none⟩ = some (.slice p17 n17 c17) := (blk_at2 HKbc22.out 0).1
  have F22 : w22.frozen? ⟨bc, 0, none⟩ = false := (blk_at2 HKbc22.out 0).2
  obtain ⟨w23, hwk⟩ : ∃ wk, wk = w22.setCell ⟨bc, 0, none⟩ (.slice p22 n22 c22) := ⟨_, rfl⟩
  have HB23 : Hid (Below w.heap.size w w23) := by unfold Hid; rw [hwk]; exact HB22.out.setCell Hbc.out _
  have HKbc23 : Hid (w23.heap[bc]? = some (.cells #[.slice p22 n22 c22] 34 (0, 0))) := by unfold Hid; rw [hwk]; exact one_blk HKbc22.out
  have HLTbc23 : Hid (bc < w23.heap.size) := (Array.getElem?_eq_some_iff.1 HKbc23.out).1
  have hUk := HUR.out.set (y := .slice p22 n22 c22) HLTbc21.out Hbc.out HKbc22.out
  rw [← hwk] at hUk
  have HU23 := Lib.hid hUk
  have HWB := Lib.hid hwk
  clear hUk hwk HUR
  have HCX := Lib.hid (cx_any w.heap.size L v w23 HB23.out.size (HV.out.below HB23.out (Nat.le_refl _)) HNK.out HLK.out)
  go_wp2_with fail
  rw [← HWB.out]
  refine HCX.out.mono ?_
  rintro e w24 ⟨u24, rfl, hb, hr⟩
  have HB24 := Lib.hid (HB23.out.trans (hb.mono HB23.out.size))
  have HKbc24 : Hid (w24.heap[bc]? = some (.cells #[.slice p22 n22 c22] 34 (0, 0))) := (hb.block _ HLTbc23.out).trans HKbc23.out
  have HLTbc24 : Hid (bc < w24.heap.size) := Nat.lt_of_lt_of_le HLTbc23.out hb.size
  have HU24 := Lib.hid (HU23.out.below hb (Nat.le_refl _))
  have HA24 := Lib.hid hr.lists
  clear hr
  clear hb HCX
  clear R22 F22 HWB
  have HCX := Lib.hid (cx_any w.heap.size M u w24 HB24.out.size (HU.out.below HB24.out (Nat.le_refl _)) HNK2.out HLK2.out)
  go_wp2_with fail
  refine HCX.out.mono ?_
  rintro e w25 ⟨u25, rfl, hb, hr⟩
  have HB25 := Lib.hid (HB24.out.trans (hb.mono HB24.out.size))
  have HKbc25 : Hid (w25.heap[bc]? = some (.cells #[.slice p22 n22 c22] 34 (0, 0))) := (hb.block _ HLTbc24.out).trans HKbc24.out
  have HLTbc25 : Hid (bc < w25.heap.size) := Nat.lt_of_lt_of_le HLTbc24.out hb.size
  have HA25 := Lib.hid (HA24.out.below hb (Nat.le_refl _))
  have HU25 := Lib.hid (HU24.out.below hb (Nat.le_refl _))
  have HE25 := Lib.hid hr.lists
  clear hr
  clear hb HCX
  have HST := Lib.hid (SetsP.u (M := meetP L M) (meet_any a w.heap.size L M u24 u25 w25 (HS.out.below HB25.out (Nat.le_refl _)) HB25.out.size HA25.out HE25.out (Nat.le_trans HN.out (by decide)) HLK.out (Nat.le_trans HN2.out (by decide)) HLK2.out) (fun h => (meet_M h).1))
  unfold CompP at HST

  go_wp2_with fail
  refine HST.out.mono ?_
  rintro e w26 ⟨p26, n26, c26, ev26, rfl, hb, hu⟩
  have HB26 := Lib.hid (HB25.out.trans (hb.mono HB25.out.size))
  have HKbc26 : Hid (w26.heap[bc]? = some (.cells #[.slice p22 n22 c22] 34 (0, 0))) := (hb.block _ HLTbc25.out).trans HKbc25.out
  have HLTbc26 : Hid (bc < w26.heap.size) := Nat.lt_of_lt_of_le HLTbc25.out hb.size
  have HA26 := Lib.hid (HA25.out.below hb (Nat.le_refl _))
  have HE26 := Lib.hid (HE25.out.below hb (Nat.le_refl _))
  have HU26 := Lib.hid (HU25.out.below hb (Nat.le_refl _))
  have HUR := Lib.hid hu
  clear hu
  clear hb HST
  have HMR := HUR
  obtain ⟨bd, hbx⟩ : ∃ bd, w26.heap.size = bd := ⟨_, rfl⟩
  obtain ⟨w27, hwk⟩ : ∃ wk, wk = w26.alloc (.cells #[.slice p26 n26 c26] 34) := ⟨_, rfl⟩
  have hb : Below w26.heap.size w26 w27 := by rw [hwk]; exact lit_below _ _
  have HB27 := Lib.hid (HB26.out.trans (hb.mono HB26.out.size))
  have HKbc27 : Hid (w27.heap[bc]? = some (.cells #[.slice p22 n22 c22] 34 (0, 0))) := (hb.block _ HLTbc26.out).trans HKbc26.out
  have HLTbc27 : Hid (bc < w27.heap.size) := Nat.lt_of_lt_of_le HLTbc26.out hb.size
  have HU27 := Lib.hid (HU26.out.below hb (Nat.le_refl _))
  have HKbd27 : Hid (w27.heap[bd]? = some (.cells #[.slice p26 n26 c26] 34 (0, 0))) := by unfold Hid; rw [hwk, ← hbx]; exact heap_alloc_new w26 _
  have HLTbd27 : Hid (bd < w27.heap.size) := (Array.getElem?_eq_some_iff.1 HKbd27.out).1
  have Hbd : Hid (w.heap.size ≤ bd) := by unfold Hid; rw [← hbx]; exact HB26.out.size
  have HNE : Hid (bc ≠ bd) := by unfold Hid; rw [← hbx]; exact Nat.ne_of_lt HLTbc26.out
  have hmu := HUR.out.u.below hb (Nat.le_refl _)
  obtain ⟨-, he0, hml, hmc⟩ | ⟨k, hk, hek, -⟩ := hmu
  rotate_left
  · rw [HJ0.out] at hek; omega
  subst he0
  have HML27 := Lib.hid hml
  have HMC := Lib.hid hmc
  have HWB := Lib.hid hwk
  have HBE := Lib.hid hbx
  clear hb hwk hbx HUR HMR hml hmc
  go_upto_region 22 with fail
  rw [← HWB.out]
  rw [HBE.out]
  obtain ⟨te3, ht⟩ : ∃ t, t = decide (e3 = 0) := ⟨_, rfl⟩
  have HTe3 := Lib.hid ht
  clear ht
  go_cut [143] (fun sx wx => sx = .bool te3 ∧ w27 = wx)
  case first =>
    obtain ⟨he, rfl, -, -⟩ | ⟨k, hk, hek, -, rfl⟩ := HU27.out
    · have HE := Lib.hid he
      clear he
      go_wp2_with fail
      go_meet
      exact ⟨by rw [HTe3.out, HE.out]; rfl, rfl⟩
    · have HE := Lib.hid hek
      clear hek
      unfold errE
      go_wp2_with fail
      go_meet
      exact ⟨by rw [HTe3.out, HE.out]; rfl, rfl⟩
  case rest =>
  obtain ⟨rfl, rfl⟩ := hcut
  go_upto_if 143 with fail
  go_cut [] (fun wx => Below w27.heap.size w27 wx)
  case first =>
    cases te3 with
    | true =>
      have h0 : e3 = 0 := of_decide_eq_true HTe3.out.symm
      have HX0 : Hid (errC (L ++ M) = 0) := (errG_0 (HE3.out.trans h0)).2
      obtain ⟨-, -, hli, -⟩ | ⟨k, hk, hek, -⟩ := HU27.out
      rotate_left
      · omega
      obtain ⟨kk, hkk⟩ : ∃ kk, eulF (allF (L ++ M)) = kk := ⟨_, rfl⟩
      obtain ⟨jj, hjj⟩ : ∃ jj, eulF (allF (meetP L M)) = jj := ⟨_, rfl⟩
      have bk := eul_bd HX0.out
      have bj := eul_bd HMC.out
      have hjn := union_eul (errJ_0 HJ0.out).1 (errJ_0 HJ0.out).2
      rw [HM0.out, HN0.out, hkk, hjj] at hjn
      rw [hkk] at bk
      rw [hjj] at bj
      obtain ⟨bk1, bk2⟩ := bk
      obtain ⟨bj1, bj2⟩ := bj
      have W2 : (kk + jj != m0 + n0) = false := by rw [hjn]; simp
      have HEU := Lib.hid (euler_made a w.heap.size (L ++ M) kk (.slice p22 n22 c22) w27 (HS.out.below HB27.out (Nat.le_refl _)) HB27.out.size hli HX0.out hkk)
      unfold EulP at HEU
      have HJJ := Lib.hid hjj
      have R : w27.cell? ⟨bc, 0, none⟩ = some (.slice p22 n22 c22) := (blk_at2 HKbc27.out 0).1
      clear h0 hli hkk hjj hjn
      go_wp2_with fail
      refine HEU.out.mono ?_
      rintro e wE ⟨rfl, hb⟩
      have HBE := Lib.hid hb
      have R2 : wE.cell? ⟨bd, 0, none⟩ = some (.slice p26 n26 c26) := (blk_at2 ((hb.block _ HLTbd27.out).trans HKbd27.out) 0).1
      have HBW := Lib.hid (HB27.out.trans (hb.mono HB27.out.size))
      have HEV := Lib.hid (euler_made a w.heap.size (meetP L M) jj (.slice p26 n26 c26) wE (HS.out.below HBW.out (Nat.le_refl _)) HBW.out.size (HML27.out.below hb (Nat.le_refl _)) HMC.out HJJ.out)
      unfold EulP at HEV
      clear hb HEU R
      go_wp2_with fail
      refine HEV.out.mono ?_
      rintro e wF ⟨rfl, hb⟩
      have HBF := Lib.hid (HBE.out.trans (hb.mono HBE.out.size))
      clear hb HEV R2
      go_wp2_with fail
      go_meet
      exact HBF.out
    | false =>
      go_wp2_with fail
      go_meet
      exact Below.refl _ _
  case rest =>
  as_aux_lemma =>
  have hb := hcut
  obtain ⟨w28, rfl⟩ : ∃ wn, wn = wc := ⟨_, rfl⟩
  have HB28 := Lib.hid (HB27.out.trans (hb.mono HB27.out.size))
  have HKbc28 : Hid (w28.heap[bc]? = some (.cells #[.slice p22 n22 c22] 34 (0, 0))) := (hb.block _ HLTbc27.out).trans HKbc27.out
  have HLTbc28 : Hid (bc < w28.heap.size) := Nat.lt_of_lt_of_le HLTbc27.out hb.size
  have HKbd28 : Hid (w28.heap[bd]? = some (.cells #[.slice p26 n26 c26] 34 (0, 0))) := (hb.block _ HLTbd27.out).trans HKbd27.out
  have HLTbd28 : Hid (bd < w28.heap.size) := Nat.lt_of_lt_of_le HLTbd27.out hb.size
  clear hb hcut
  have HCX := Lib.hid (cx_any w.heap.size L v w28 HB28.out.size (HV.out.below HB28.out (Nat.le_refl _)) HNK.out HLK.out)
  go_wp2_with fail
  refine HCX.out.mono ?_
  rintro e w29 ⟨u29, rfl, hb, hr⟩
  have HB29 := Lib.hid (HB28.out.trans (hb.mono HB28.out.size))
  have HKbc29 : Hid (w29.heap[bc]? = some (.cells #[.slice p22 n22 c22] 34 (0, 0))) := (hb.block _ HLTbc28.out).trans HKbc28.out
  have HLTbc29 : Hid (bc < w29.heap.size) := Nat.lt_of_lt_of_le HLTbc28.out hb.size
  have HKbd29 : Hid (w29.heap[bd]? = some (.cells #[.slice p26 n26 c26] 34 (0, 0))) := (hb.block _ HLTbd28.out).trans HKbd28.out
  have HLTbd29 : Hid (bd < w29.heap.size) := Nat.lt_of_lt_of_le HLTbd28.out hb.size
  have HA29 := Lib.hid hr.lists
  clear hr
  clear hb HCX
  have HST := Lib.hid (SetsP.u (M := joinP L pt1) (cone_any a w.heap.size L u29 w29 (HS.out.below HB29.out (Nat.le_refl _)) HB29.out.size HA29.out HN.out HL.out) (fun h => (errG_0 h).2))
  obtain ⟨e4, hed⟩ : ∃ e4, errG (errX L) (joinP L pt1) = e4 := ⟨_, rfl⟩
  rw [hed] at HST
  have HE4 := Lib.hid hed
  clear hed
  unfold CompP at HST

  go_wp2_with fail
  refine HST.out.mono ?_
  rintro e w30 ⟨p30, n30, c30, ev30, rfl, hb, hu⟩
  have HB30 := Lib.hid (HB29.out.trans (hb.mono HB29.out.size))
  have HKbc30 : Hid (w30.heap[bc]? = some (.cells #[.slice p22 n22 c22] 34 (0, 0))) := (hb.block _ HLTbc29.out).trans HKbc29.out
  have HLTbc30 : Hid (bc < w30.heap.size) := Nat.lt_of_lt_of_le HLTbc29.out hb.size
  have HKbd30 : Hid (w30.heap[bd]? = some (.cells #[.slice p26 n26 c26] 34 (0, 0))) := (hb.block _ HLTbd29.out).trans HKbd29.out
  have HLTbd30 : Hid (bd < w30.heap.size) := Nat.lt_of_lt_of_le HLTbd29.out hb.size
  have HA30 := Lib.hid (HA29.out.below hb (Nat.le_refl _))
  have HUR := Lib.hid hu
  clear hu
  clear hb HST
  have R30 : w30.cell? ⟨bc, 0, none⟩ = some (.slice p22 n22 c22) := (blk_at2 HKbc30.out 0).1
  have F30 : w30.frozen? ⟨bc, 0, none⟩ = false := (blk_at2 HKbc30.out 0).2
  obtain ⟨w31, hwk⟩ : ∃ wk, wk = w30.setCell ⟨bc, 0, none⟩ (.slice p30 n30 c30) := ⟨_, rfl⟩
  have HB31 : Hid (Below w.heap.size w w31) := by unfold Hid; rw [hwk]; exact HB30.out.setCell Hbc.out _
  have HKbc31 : Hid (w31.heap[bc]? = some (.cells #[.slice p30 n30 c30] 34 (0, 0))) := by unfold Hid; rw [hwk]; exact one_blk HKbc30.out
  have HLTbc31 : Hid (bc < w31.heap.size) := (Array.getElem?_eq_some_iff.1 HKbc31.out).1
  have HKbd31 : Hid (w31.heap[bd]? = some (.cells #[.slice p26 n26 c26] 34 (0, 0))) := by unfold Hid; rw [hwk]; exact ((grown_cell w30 bc _).block _ HLTbd30.out (fun e => HNE.out (Option.some.inj e).symm)).trans HKbd30.out
  have HLTbd31 : Hid (bd < w31.heap.size) := (Array.getElem?_eq_some_iff.1 HKbd31.out).1
  have hUk := HUR.out.set (y := .slice p30 n30 c30) HLTbc29.out Hbc.out HKbc30.out
  rw [← hwk] at hUk
  have HU31 := Lib.hid hUk
  have HWB := Lib.hid hwk
  clear hUk hwk HUR
  go_upto_region 28 with fail
  rw [← HWB.out]
  clear R30 F30
  obtain ⟨te4, ht⟩ : ∃ t, t = decide (e4 = 0) := ⟨_, rfl⟩
  have HTe4 := Lib.hid ht
  clear ht
  go_cut [176] (fun sx wx => sx = .bool te4 ∧ w31 = wx)
  case first =>
    obtain ⟨he, rfl, -, -⟩ | ⟨k, hk, hek, -, rfl⟩ := HU31.out
    · have HE := Lib.hid he
      clear he
      go_wp2_with fail
      go_meet
      exact ⟨by rw [HTe4.out, HE.out]; rfl, rfl⟩
    · have HE := Lib.hid hek
      clear hek
      unfold errE
      go_wp2_with fail
      go_meet
      exact ⟨by rw [HTe4.out, HE.out]; rfl, rfl⟩
  case rest =>
  obtain ⟨rfl, rfl⟩ := hcut
  go_upto_if 176 with fail
  go_cut [] (fun wx => Below w31.heap.size w31 wx)
  case first =>
    cases te4 with
    | true =>
      have h0 : e4 = 0 := of_decide_eq_true HTe4.out.symm
      have HX0 : Hid (errC (joinP L pt1) = 0) := (errG_0 (HE4.out.trans h0)).2
      obtain ⟨-, -, hli, -⟩ | ⟨k, hk, hek, -⟩ := HU31.out
      rotate_left
      · omega
      have HEU := Lib.hid (euler_made a w.heap.size (joinP L pt1) 1 (.slice p30 n30 c30) w31 (HS.out.below HB31.out (Nat.le_refl _)) HB31.out.size hli HX0.out (cone_eul HC.out))
      unfold EulP at HEU
      have R : w31.cell? ⟨bc, 0, none⟩ = some (.slice p30 n30 c30) := (blk_at2 HKbc31.out 0).1
      clear h0 hli
      go_wp2_with fail
      refine HEU.out.mono ?_
      rintro e wE ⟨rfl, hb⟩
      have HBE := Lib.hid hb
      clear hb HEU
      go_wp2_with fail
      go_meet
      exact HBE.out
    | false =>
      go_wp2_with fail
      go_meet
      exact Below.refl _ _
  case rest =>
  as_aux_lemma =>
  have hb := hcut
  obtain ⟨w32, rfl⟩ : ∃ wn, wn = wc := ⟨_, rfl⟩
  have HB32 := Lib.hid (HB31.out.trans (hb.mono HB31.out.size))
  have HKbc32 : Hid (w32.heap[bc]? = some (.cells #[.slice p30 n30 c30] 34 (0, 0))) := (hb.block _ HLTbc31.out).trans HKbc31.out
  have HLTbc32 : Hid (bc < w32.heap.size) := Nat.lt_of_lt_of_le HLTbc31.out hb.size
  have HKbd32 : Hid (w32.heap[bd]? = some (.cells #[.slice p26 n26 c26] 34 (0, 0))) := (hb.block _ HLTbd31.out).trans HKbd31.out
  have HLTbd32 : Hid (bd < w32.heap.size) := Nat.lt_of_lt_of_le HLTbd31.out hb.size
  clear hb hcut
  have HCX := Lib.hid (cx_any w.heap.size L v w32 HB32.out.size (HV.out.below HB32.out (Nat.le_refl _)) HNK.out HLK.out)
  go_wp2_with fail
  refine HCX.out.mono ?_
  rintro e w33 ⟨u33, rfl, hb, hr⟩
  have HB33 := Lib.hid (HB32.out.trans (hb.mono HB32.out.size))
  have HKbc33 : Hid (w33.heap[bc]? = some (.cells #[.slice p30 n30 c30] 34 (0, 0))) := (hb.block _ HLTbc32.out).trans HKbc32.out
  have HLTbc33 : Hid (bc < w33.heap.size) := Nat.lt_of_lt_of_le HLTbc32.out hb.size
  have HKbd33 : Hid (w33.heap[bd]? = some (.cells #[.slice p26 n26 c26] 34 (0, 0))) := (hb.block _ HLTbd32.out).trans HKbd32.out
  have HLTbd33 : Hid (bd < w33.heap.size) := Nat.lt_of_lt_of_le HLTbd32.out hb.size
  have HA33 := Lib.hid hr.lists
  clear hr
  clear hb HCX
  obtain ⟨w34, hw7⟩ : ∃ w7, w7 = w33.alloc (.cells #[] 3) := ⟨_, rfl⟩
  have hb : Below w33.heap.size w33 w34 := by rw [hw7]; exact (Below.refl _ _).alloc (Nat.le_refl _) _
  have hk7 : w34.heap[w33.heap.size]? = some (.cells #[] 3 (0, 0)) := by rw [hw7]; exact heap_alloc_new w33 _
  have HB34 := Lib.hid (HB33.out.trans (hb.mono HB33.out.size))
  have HB67 := Lib.hid hb
  have HO7 := Lib.hid (owns_empty (O := w33.heap.size) (Nat.le_refl _) hk7)
  have HZ7 := Lib.hid (HZ.out.below HB34.out (Nat.le_refl _))
  have hs7 : w34.heap.size = w33.heap.size + 1 := by rw [hw7]; simp
  have HW7 := Lib.hid hw7
  clear hw7 hb hk7
  go_wp2_with (at_builtin; rw [← HW7.out]; refine wpList_app_any w34 rfl (.tmp 191) (.tmp 192) 26 rfl w33.heap.size 3 i3 (.int .i64 0) 8 Tryz.underlying26 hi3 hy0 hy1 hy2 rfl (.slice (some ⟨w33.heap.size, 0, none⟩) 0 0) 0 [] rfl HO7.out pz nz cz (intVs fs) rfl HZ7.out.lenE HZ7.out.noneE HZ7.out.news (intVs_one _) (by unfold maxLen; omega) (by omega) (by omega) _ rfl ?_; intro pf cf w35 ho8 hg8 hat8)
  have hb := HB67.out.grown hg8 HB67.out.size (fun k e => by cases e; exact Nat.le_refl _)
  have HB35 := Lib.hid (HB33.out.trans (hb.mono HB33.out.size))
  have HKbc35 : Hid (w35.heap[bc]? = some (.cells #[.slice p30 n30 c30] 34 (0, 0))) := (hb.block _ HLTbc33.out).trans HKbc33.out
  have HLTbc35 : Hid (bc < w35.heap.size) := Nat.lt_of_lt_of_le HLTbc33.out hb.size
  have HKbd35 : Hid (w35.heap[bd]? = some (.cells #[.slice p26 n26 c26] 34 (0, 0))) := (hb.block _ HLTbd33.out).trans HKbd33.out
  have HLTbd35 : Hid (bd < w35.heap.size) := Nat.lt_of_lt_of_le HLTbd33.out hb.size
  have HA35 := Lib.hid (HA33.out.below hb (Nat.le_refl _))
  have HI8 := Lib.hid (ints_owned (B := 0) ho8 (by rw [HNZ.out]; simp)).at
  have hi8 := HI8.out
  simp only [Nat.zero_add, List.nil_append] at hi8
  have HST := Lib.hid (SetsP.u (M := linkQ L fs) (slL_any a w.heap.size L fs u33 (.slice pf nz cf) w35 (HS.out.below HB35.out (Nat.le_refl _)) HB35.out.size HA35.out hi8 HNK.out HLK.out (by rw [HNZ.out]; omega)) (fun h => (link_right h).1))
  obtain ⟨e5, hed⟩ : ∃ e5, errS L fs = e5 := ⟨_, rfl⟩
  rw [hed] at HST
  have HE5 := Lib.hid hed
  unfold CompP at HST
  clear hb hi8 HI8 ho8 hg8 hat8 hed HZ7 HO7 HB67 hs7 HW7

  go_wp2_with fail
  refine HST.out.mono ?_
  rintro e w36 ⟨p36, n36, c36, ev36, rfl, hb, hu⟩
  have HB36 := Lib.hid (HB35.out.trans (hb.mono HB35.out.size))
  have HKbc36 : Hid (w36.heap[bc]? = some (.cells #[.slice p30 n30 c30] 34 (0, 0))) := (hb.block _ HLTbc35.out).trans HKbc35.out
  have HLTbc36 : Hid (bc < w36.heap.size) := Nat.lt_of_lt_of_le HLTbc35.out hb.size
  have HKbd36 : Hid (w36.heap[bd]? = some (.cells #[.slice p26 n26 c26] 34 (0, 0))) := (hb.block _ HLTbd35.out).trans HKbd35.out
  have HLTbd36 : Hid (bd < w36.heap.size) := Nat.lt_of_lt_of_le HLTbd35.out hb.size
  have HUR := Lib.hid hu
  clear hu
  clear hb HST
  have R36 : w36.cell? ⟨bc, 0, none⟩ = some (.slice p30 n30 c30) := (blk_at2 HKbc36.out 0).1
  have F36 : w36.frozen? ⟨bc, 0, none⟩ = false := (blk_at2 HKbc36.out 0).2
  obtain ⟨w37, hwk⟩ : ∃ wk, wk = w36.setCell ⟨bc, 0, none⟩ (.slice p36 n36 c36) := ⟨_, rfl⟩
  have HB37 : Hid (Below w.heap.size w w37) := by unfold Hid; rw [hwk]; exact HB36.out.setCell Hbc.out _
  have HKbc37 : Hid (w37.heap[bc]? = some (.cells #[.slice p36 n36 c36] 34 (0, 0))) := by unfold Hid; rw [hwk]; exact one_blk HKbc36.out
  have HLTbc37 : Hid (bc < w37.heap.size) := (Array.getElem?_eq_some_iff.1 HKbc37.out).1
  have HKbd37 : Hid (w37.heap[bd]? = some (.cells #[.slice p26 n26 c26] 34 (0, 0))) := by unfold Hid; rw [hwk]; exact ((grown_cell w36 bc _).block _ HLTbd36.out (fun e => HNE.out (Option.some.inj e).symm)).trans HKbd36.out
  have HLTbd37 : Hid (bd < w37.heap.size) := (Array.getElem?_eq_some_iff.1 HKbd37.out).1
  have hUk := HUR.out.set (y := .slice p36 n36 c36) HLTbc35.out Hbc.out HKbc36.out
  rw [← hwk] at hUk
  have HU37 := Lib.hid hUk
  have HWB := Lib.hid hwk
  clear hUk hwk HUR
  obtain ⟨he, hev, hlk, hlc⟩ | ⟨k, hk, hek, -, hev⟩ := HU37.out
  rotate_left
  · subst hev
    clear hek
    unfold errE
    go_wp2_with fail
    rw [← HWB.out]
    go_wp2_with fail
    go_ret
    exact ⟨rfl, HB37.out⟩
  subst hev
  subst he
  have HLKA := Lib.hid hlk
  have HLKC := Lib.hid hlc
  clear hlk hlc
  obtain ⟨w38, hwj⟩ : ∃ wj, wj = w37.alloc (.cells #[.int .i64 x] 3) := ⟨_, rfl⟩
  have hb : Below w37.heap.size w37 w38 := by rw [hwj]; exact lit_below _ _
  have hxi : IntsIn w.heap.size w38 (.slice (some ⟨w37.heap.size, 0, none⟩) 1 1) [x] := by rw [hwj]; exact ints_lit _ w37 [x]
  have HB38 := Lib.hid (HB37.out.trans (hb.mono HB37.out.size))
  have HKbc38 : Hid (w38.heap[bc]? = some (.cells #[.slice p36 n36 c36] 34 (0, 0))) := (hb.block _ HLTbc37.out).trans HKbc37.out
  have HLTbc38 : Hid (bc < w38.heap.size) := Nat.lt_of_lt_of_le HLTbc37.out hb.size
  have HKbd38 : Hid (w38.heap[bd]? = some (.cells #[.slice p26 n26 c26] 34 (0, 0))) := (hb.block _ HLTbd37.out).trans HKbd37.out
  have HLTbd38 : Hid (bd < w38.heap.size) := Nat.lt_of_lt_of_le HLTbd37.out hb.size
  have HR2 : Hid (w37.cell? ⟨bc, 0, none⟩ = some (.slice p36 n36 c36)) := (blk_at2 HKbc37.out 0).1
  have HST := Lib.hid (SetsP.u (M := linkQ (madeF (linkQ L fs)) [x]) (slL_any a w.heap.size (madeF (linkQ L fs)) [x] (.slice p36 n36 c36) (.slice (some ⟨w37.heap.size, 0, none⟩) 1 1) w38 (HS.out.below HB38.out (Nat.le_refl _)) HB38.out.size (HLKA.out.below hb (Nat.le_refl _)) hxi.at (Nat.le_trans (made_len HLKC.out) (by decide)) (fun l h => Nat.le_trans (made_bd HLKC.out l h) (by decide)) (by simp)) (fun h => (link_right h).1))
  obtain ⟨e6, hed⟩ : ∃ e6, errS (madeF (linkQ L fs)) [x] = e6 := ⟨_, rfl⟩
  rw [hed] at HST
  have HE6 := Lib.hid hed
  unfold CompP at HST
  have hsz : w37.heap.size = w36.heap.size := by rw [HWB.out]; simp
  rw [HWB.out] at hwj
  rw [hsz] at HST
  have HWJ := Lib.hid hwj
  clear hb hxi hed hwj hsz HR2

  go_wp2_with fail
  rw [← HWJ.out]
  refine HST.out.mono ?_
  rintro e w39 ⟨p39, n39, c39, ev39, rfl, hb, hu⟩
  have HB39 := Lib.hid (HB38.out.trans (hb.mono HB38.out.size))
  have HKbc39 : Hid (w39.heap[bc]? = some (.cells #[.slice p36 n36 c36] 34 (0, 0))) := (hb.block _ HLTbc38.out).trans HKbc38.out
  have HLTbc39 : Hid (bc < w39.heap.size) := Nat.lt_of_lt_of_le HLTbc38.out hb.size
  have HKbd39 : Hid (w39.heap[bd]? = some (.cells #[.slice p26 n26 c26] 34 (0, 0))) := (hb.block _ HLTbd38.out).trans HKbd38.out
  have HLTbd39 : Hid (bd < w39.heap.size) := Nat.lt_of_lt_of_le HLTbd38.out hb.size
  have HUR := Lib.hid hu
  clear hu
  clear hb HST
  clear R36 F36 HWB HWJ
  have R39 : w39.cell? ⟨bd, 0, none⟩ = some (.slice p26 n26 c26) := (blk_at2 HKbd39.out 0).1
  have F39 : w39.frozen? ⟨bd, 0, none⟩ = false := (blk_at2 HKbd39.out 0).2
  obtain ⟨he, hev, hro, hlc⟩ | ⟨k, hk, hek, -, hev⟩ := HUR.out
  rotate_left
  · subst hev
    have HBX : Hid (Below w.heap.size w (w39.setCell ⟨bd, 0, none⟩ (.slice p39 n39 c39))) := HB39.out.setCell Hbd.out _
    clear hek HUR
    unfold errE
    go_wp2_with fail
    go_ret
    exact ⟨rfl, HBX.out⟩
  subst hev
  subst he
  have HLDC := Lib.hid hlc
  have HLL := Lib.hid (link_link HE5.out HE6.out)
  have HRO := Lib.hid hro
  clear hro hlc HUR
  obtain ⟨w40, hwk⟩ : ∃ wk, wk = w39.setCell ⟨bd, 0, none⟩ (.slice p39 n39 c39) := ⟨_, rfl⟩
  have HB40 : Hid (Below w.heap.size w w40) := by unfold Hid; rw [hwk]; exact HB39.out.setCell Hbd.out _
  have HKbd40 : Hid (w40.heap[bd]? = some (.cells #[.slice p39 n39 c39] 34 (0, 0))) := by unfold Hid; rw [hwk]; exact one_blk HKbd39.out
  have HLTbd40 : Hid (bd < w40.heap.size) := (Array.getElem?_eq_some_iff.1 HKbd40.out).1
  have HKbc40 : Hid (w40.heap[bc]? = some (.cells #[.slice p36 n36 c36] 34 (0, 0))) := by unfold Hid; rw [hwk]; exact ((grown_cell w39 bd _).block _ HLTbc39.out (fun e => HNE.out (Option.some.inj e))).trans HKbc39.out
  have HLTbc40 : Hid (bc < w40.heap.size) := (Array.getElem?_eq_some_iff.1 HKbc40.out).1
  have HLDA40 : Hid (RowsO w38.heap.size w.heap.size w40 (.slice p39 n39 c39) (madeF (linkQ (madeF (linkQ L fs)) [x]))) := by
    unfold Hid
    rw [hwk]
    exact HRO.out.grown (grown_cell w39 bd _) HLTbd38.out Hbd.out (fun x e => by rw [HKbd39.out] at e; cases e)
  have HWB := Lib.hid hwk
  clear hwk HRO
  have HCX := Lib.hid (cx_any w.heap.size L v w40 HB40.out.size (HV.out.below HB40.out (Nat.le_refl _)) HNK.out HLK.out)
  go_wp2_with fail
  rw [← HWB.out]
  refine HCX.out.mono ?_
  rintro e w41 ⟨u41, rfl, hb, hr⟩
  have HB41 := Lib.hid (HB40.out.trans (hb.mono HB40.out.size))
  have HKbc41 : Hid (w41.heap[bc]? = some (.cells #[.slice p36 n36 c36] 34 (0, 0))) := (hb.block _ HLTbc40.out).trans HKbc40.out
  have HLTbc41 : Hid (bc < w41.heap.size) := Nat.lt_of_lt_of_le HLTbc40.out hb.size
  have HKbd41 : Hid (w41.heap[bd]? = some (.cells #[.slice p39 n39 c39] 34 (0, 0))) := (hb.block _ HLTbd40.out).trans HKbd40.out
  have HLTbd41 : Hid (bd < w41.heap.size) := Nat.lt_of_lt_of_le HLTbd40.out hb.size
  have HLDA41 := Lib.hid (HLDA40.out.below hb (Nat.le_refl _))
  have HA41 := Lib.hid hr.lists
  clear hr
  clear hb HCX
  clear R39 F39 HWB
  obtain ⟨w42, hwj⟩ : ∃ wj, wj = w41.alloc (.cells #[.int .i64 x] 3) := ⟨_, rfl⟩
  have hb : Below w41.heap.size w41 w42 := by rw [hwj]; exact lit_below _ _
  have hxi : IntsIn w.heap.size w42 (.slice (some ⟨w41.heap.size, 0, none⟩) 1 1) [x] := by rw [hwj]; exact ints_lit _ w41 [x]
  have HB42 := Lib.hid (HB41.out.trans (hb.mono HB41.out.size))
  have HKbc42 : Hid (w42.heap[bc]? = some (.cells #[.slice p36 n36 c36] 34 (0, 0))) := (hb.block _ HLTbc41.out).trans HKbc41.out
  have HLTbc42 : Hid (bc < w42.heap.size) := Nat.lt_of_lt_of_le HLTbc41.out hb.size
  have HKbd42 : Hid (w42.heap[bd]? = some (.cells #[.slice p39 n39 c39] 34 (0, 0))) := (hb.block _ HLTbd41.out).trans HKbd41.out
  have HLTbd42 : Hid (bd < w42.heap.size) := Nat.lt_of_lt_of_le HLTbd41.out hb.size
  have HA42 := Lib.hid (HA41.out.below hb (Nat.le_refl _))
  have HLDA42 := Lib.hid (HLDA41.out.below hb (Nat.le_refl _))
  have HTG := Lib.hid (together_any w.heap.size fs [x] (.slice pz nz cz) (.slice (some ⟨w41.heap.size, 0, none⟩) 1 1) w42 (HZ.out.below HB42.out (Nat.le_refl _)) hxi.at (by rw [HNZ.out]; omega) (by simp))
  unfold NumsP at HTG
  obtain ⟨nt, hnt⟩ : ∃ nt, (togF fs [x]).length = nt := ⟨_, rfl⟩
  have hnt2 : nt ≤ 11 := by rw [← hnt]; exact tog_bd fs x nz HNZ.out (by omega)
  rw [hnt] at HTG
  have HNT := Lib.hid hnt
  have HWJ := Lib.hid hwj
  clear hb hxi hwj hnt

  go_wp2_with fail
  rw [← HWJ.out]
  refine HTG.out.mono ?_
  rintro e w43 ⟨pt, ct, rfl, hb, hti⟩
  have HB43 := Lib.hid (HB42.out.trans (hb.mono HB42.out.size))
  have HKbc43 : Hid (w43.heap[bc]? = some (.cells #[.slice p36 n36 c36] 34 (0, 0))) := (hb.block _ HLTbc42.out).trans HKbc42.out
  have HLTbc43 : Hid (bc < w43.heap.size) := Nat.lt_of_lt_of_le HLTbc42.out hb.size
  have HKbd43 : Hid (w43.heap[bd]? = some (.cells #[.slice p39 n39 c39] 34 (0, 0))) := (hb.block _ HLTbd42.out).trans HKbd42.out
  have HLTbd43 : Hid (bd < w43.heap.size) := Nat.lt_of_lt_of_le HLTbd42.out hb.size
  have HA43 := Lib.hid (HA42.out.below hb (Nat.le_refl _))
  have HLDA43 := Lib.hid (HLDA42.out.below hb (Nat.le_refl _))
  have HTI := Lib.hid hti
  clear hti HWJ
  clear hb HTG
  have HST := Lib.hid (SetsP.u (M := linkQ L (togF fs [x])) (slL_any a w.heap.size L (togF fs [x]) u41 (.slice pt nt ct) w43 (HS.out.below HB43.out (Nat.le_refl _)) HB43.out.size HA43.out HTI.out.at HNK.out HLK.out (by rw [HNT.out]; omega)) (fun h => (link_right h).1))
  rw [HLL.out.1] at HST
  unfold CompP at HST

  go_wp2_with fail
  refine HST.out.mono ?_
  rintro e w44 ⟨p44, n44, c44, ev44, rfl, hb, hu⟩
  have HB44 := Lib.hid (HB43.out.trans (hb.mono HB43.out.size))
  have HKbc44 : Hid (w44.heap[bc]? = some (.cells #[.slice p36 n36 c36] 34 (0, 0))) := (hb.block _ HLTbc43.out).trans HKbc43.out
  have HLTbc44 : Hid (bc < w44.heap.size) := Nat.lt_of_lt_of_le HLTbc43.out hb.size
  have HKbd44 : Hid (w44.heap[bd]? = some (.cells #[.slice p39 n39 c39] 34 (0, 0))) := (hb.block _ HLTbd43.out).trans HKbd43.out
  have HLTbd44 : Hid (bd < w44.heap.size) := Nat.lt_of_lt_of_le HLTbd43.out hb.size
  have HLDA44 := Lib.hid (HLDA43.out.below hb (Nat.le_refl _))
  have HUR := Lib.hid hu
  clear hu
  clear hb HST
  have HLDX := HLDA44
  have R44 : w44.cell? ⟨bc, 0, none⟩ = some (.slice p36 n36 c36) := (blk_at2 HKbc44.out 0).1
  have F44 : w44.frozen? ⟨bc, 0, none⟩ = false := (blk_at2 HKbc44.out 0).2
  obtain ⟨w45, hwk⟩ : ∃ wk, wk = w44.setCell ⟨bc, 0, none⟩ (.slice p44 n44 c44) := ⟨_, rfl⟩
  have HB45 : Hid (Below w.heap.size w w45) := by unfold Hid; rw [hwk]; exact HB44.out.setCell Hbc.out _
  have HKbc45 : Hid (w45.heap[bc]? = some (.cells #[.slice p44 n44 c44] 34 (0, 0))) := by unfold Hid; rw [hwk]; exact one_blk HKbc44.out
  have HLTbc45 : Hid (bc < w45.heap.size) := (Array.getElem?_eq_some_iff.1 HKbc45.out).1
  have HKbd45 : Hid (w45.heap[bd]? = some (.cells #[.slice p39 n39 c39] 34 (0, 0))) := by unfold Hid; rw [hwk]; exact ((grown_cell w44 bc _).block _ HLTbd44.out (fun e => HNE.out (Option.some.inj e).symm)).trans HKbd44.out
  have HLTbd45 : Hid (bd < w45.heap.size) := (Array.getElem?_eq_some_iff.1 HKbd45.out).1
  have hUk := HUR.out.set (y := .slice p44 n44 c44) HLTbc43.out Hbc.out HKbc44.out
  rw [← hwk] at hUk
  have HU45 := Lib.hid hUk
  have HWB := Lib.hid hwk
  clear hUk hwk HUR
  obtain ⟨-, hev, hlk, hlc⟩ | ⟨k, hk, hek, -, hev⟩ := HU45.out
  rotate_left
  · omega
  subst hev
  have HD45 : Hid (ListsIn w.heap.size w45 (.slice p39 n39 c39) (madeF (linkQ (madeF (linkQ L fs)) [x]))) := by
    unfold Hid
    rw [HWB.out]
    exact (HLDX.out.grown (grown_cell w44 bc _) HLTbc38.out Hbc.out (fun x e => by rw [HKbc44.out] at e; cases e)).lists
  have HSL := Lib.hid (sameLists_any true w.heap.size w.heap.size (madeF (linkQ L (togF fs [x]))) (madeF (linkQ (madeF (linkQ L fs)) [x])) (.slice p44 n44 c44) (.slice p39 n39 c39) w45 (by rw [HLL.out.2]; simp) hlk HD45.out (Nat.le_trans (made_len hlc) (by decide)) (Nat.le_trans (made_len HLDC.out) (by decide)) (fun l h => Nat.le_trans (made_bd hlc l h) (by decide)) (fun l h => Nat.le_trans (made_bd HLDC.out l h) (by decide)))
  unfold Drew at HSL
  have RC : w45.cell? ⟨bc, 0, none⟩ = some (.slice p44 n44 c44) := (blk_at2 HKbc45.out 0).1
  have RD : w45.cell? ⟨bd, 0, none⟩ = some (.slice p39 n39 c39) := (blk_at2 HKbd45.out 0).1
  clear hlk hlc
  go_upto_region 39 with fail
  rw [← HWB.out]
  clear R44 F44
  go_wp2_with fail
  refine HSL.out.mono ?_
  rintro e wz ⟨rfl, nz2, rfl⟩
  go_wp2_with fail
  go_ret
  exact ⟨rfl, HB45.out.trans ((Below.drewN _ nz2).mono HB45.out.size)⟩

theorem cellsEuler_any (a : Nat → Addr) (L M : List (List Int)) (fs : List Int) (x : Int) (v u z : Value) (w : World) (hS : Sents w a) (hv : ListsIn w.heap.size w v L) (hu : ListsIn w.heap.size w u M) (hz : IntsAt w z fs) :
    Calls Tryz.prog 4 #[v, u, z, .int .i64 x] w (True1 w) := by
  cases h1 : littleB L 30 with
  | false => exact cellsEuler_no a L M fs x v u z w hS hv hu hz (Or.inl h1)
  | true =>
    cases h2 : littleB M 30 with
    | false => exact cellsEuler_no a L M fs x v u z w hS hv hu hz (Or.inr h2)
    | true =>
      by_cases hf : fs.length ≤ 10
      · by_cases hc : errX L = 0
        · by_cases hd : errX M = 0
          · exact cellsEuler_yes a L M fs x v u z w hS hv hu hz h1 h2 hf hc hd
          · exact cellsEuler_bad2 a L M fs x v u z w hS hv hu hz h1 h2 hf hc hd
        · exact cellsEuler_bad1 a L M fs x v u z w hS hv hu hz h1 h2 hf hc
      · exact cellsEuler_long a L M fs x v u z w hS hv hu hz h1 h2 (by omega)
end Go.Proofs.YtipblphfjejpbaaGreatDoor
