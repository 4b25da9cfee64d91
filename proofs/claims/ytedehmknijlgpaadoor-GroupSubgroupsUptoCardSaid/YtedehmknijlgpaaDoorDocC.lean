/-
  The document's Holds, Standard by contracts, where they say true.
-/
import Derived.Test.YtedehmknijlgpaaDoorDocB
set_option linter.unusedSimpArgs false
set_option linter.unusedVariables false
namespace Go.Proofs.YtedehmknijlgpaaDoor
open Go Go.RowKit Go.Maps

namespace TC
theorem stdC_le {row : List Int} : ∀ {k nx n : Nat}, stdC row k nx = some n → nx ≤ n
  | 0, nx, n, h => by cases h; exact Nat.le_refl _
  | k + 1, nx, n, h => by
    unfold stdC at h
    cases e : stdC row k nx with
    | none => rw [e] at h; cases h
    | some n1 =>
      rw [e] at h
      simp only at h
      have h1 := stdC_le e
      split at h
      · cases h
      · have h2 := Option.some.inj h
        split at h2 <;> omega
theorem stdC_step {row : List Int} {k nx n : Nat} (h : stdC row (k + 1) nx = some n) : ∃ n1, stdC row k nx = some n1 ∧ n1 ≤ n ∧ row.getD k (-1) ≤ (n1 : Int) ∧ n = if row.getD k (-1) = (n1 : Int) then n1 + 1 else n1 := by
  unfold stdC at h
  cases e : stdC row k nx with
  | none => rw [e] at h; cases h
  | some n1 =>
    rw [e] at h
    simp only at h
    split at h
    · cases h
    · have h2 := Option.some.inj h
      refine ⟨n1, rfl, ?_, by omega, h2.symm⟩
      split at h2 <;> omega
theorem stdC_down {row : List Int} {nx : Nat} : ∀ {K k n : Nat}, k ≤ K → stdC row K nx = some n → ∃ n1, stdC row k nx = some n1 ∧ n1 ≤ n
  | 0, k, n, hk, h => by
    obtain rfl : k = 0 := by omega
    exact ⟨n, h, Nat.le_refl _⟩
  | K + 1, k, n, hk, h => by
    rcases Nat.eq_or_lt_of_le hk with rfl | hlt
    · exact ⟨n, h, Nat.le_refl _⟩
    · obtain ⟨n1, h1, h2, -⟩ := stdC_step h
      obtain ⟨n2, h3, h4⟩ := stdC_down (show k ≤ K by omega) h1
      exact ⟨n2, h3, by omega⟩
theorem stdN_step {T : List (List Int)} {i n : Nat} (h : stdN T (i + 1) = some n) : ∃ n1, stdN T i = some n1 ∧ ¬ n1 ≤ i ∧ stdC (T.getD i []) (T.getD i []).length n1 = some n ∧ n1 ≤ n := by
  unfold stdN at h
  cases e : stdN T i with
  | none => rw [e] at h; cases h
  | some n1 =>
    rw [e] at h
    simp only at h
    split at h
    · cases h
    · rename_i h1
      exact ⟨n1, rfl, h1, h, stdC_le h⟩
theorem stdN_down {T : List (List Int)} : ∀ {K k n : Nat}, k ≤ K → stdN T K = some n → ∃ n1, stdN T k = some n1 ∧ n1 ≤ n
  | 0, k, n, hk, h => by
    obtain rfl : k = 0 := by omega
    exact ⟨n, h, Nat.le_refl _⟩
  | K + 1, k, n, hk, h => by
    rcases Nat.eq_or_lt_of_le hk with rfl | hlt
    · exact ⟨n, h, Nat.le_refl _⟩
    · obtain ⟨n1, h1, -, -, h2⟩ := stdN_step h
      obtain ⟨n2, h3, h4⟩ := stdN_down (show k ≤ K by omega) h1
      exact ⟨n2, h3, by omega⟩
theorem stdB_eq {T : List (List Int)} (h : stdB T = true) : stdN T T.length = some T.length := by
  unfold stdB at h
  exact beq_iff_eq.1 h
end TC

/-- an entry of a list of lists -/
theorem ListsIn.entry {B : Nat} {w : World} {b off m c : Nat} {T : List (List Int)} (h : ListsIn B w (.slice (some ⟨b, off, none⟩) m c) T) {i : Nat} (hi : i < T.length) :
    ∃ p cc, w.cell? ⟨b, off + i, none⟩ = some (.slice p (T.getD i []).length cc) ∧ ∀ k, k < (T.getD i []).length → ∃ b2 o2, p = some ⟨b2, o2, none⟩ ∧ w.cell? ⟨b2, o2 + k, none⟩ = some (.int .i64 ((T.getD i []).getD k (-1))) := by
  obtain ⟨p, cc, h1, h2⟩ := cells_at h i hi
  refine ⟨p, cc, h1, fun k hk => ?_⟩
  obtain ⟨p', c', he, -, -, hc⟩ := h2.at
  obtain ⟨b2, o2, e1, e2⟩ := hc k hk
  have e5 : (T.getD i []).getD k 0 = (T.getD i []).getD k (-1) := by rw [List.getD_eq_getElem?_getD (l := T.getD i []), List.getD_eq_getElem?_getD (l := T.getD i []), List.getElem?_eq_getElem hk]; rfl
  rw [e5] at e2
  cases he
  exact ⟨b2, o2, e1, e2⟩

set_option maxRecDepth 100000 in
set_option maxHeartbeats 8000000 in
theorem standard_any (B : Nat) (T : List (List Int)) (v : Value) (w : World) (hv : ListsIn B w v T) (hn : T.length ≤ 1000000) (hl : ∀ i, i < T.length → (T.getD i []).length ≤ 1000000) (hs : TC.stdB T = true) :
    Calls Tryd.prog 14 #[v] w (GivesK (.bool true) w) := by
  obtain ⟨pv, cv, hve, -⟩ := id hv
  obtain ⟨n, hLn⟩ : ∃ n, T.length = n := ⟨_, rfl⟩
  have hst := TC.stdB_eq hs
  rw [hLn] at hve hn hst
  subst hve
  have HLN := Lib.hid hLn
  have HV := Lib.hid hv
  have HST := Lib.hid hst
  have HL := Lib.hid hl
  unfold GivesK
  clear hLn hv hst hs hl
  go_enter Tryd.func14, Tryd.ntmps14
  go_wp2_with fail
  go_loopw [3, 4, 5] (fun s i _ wr => ∃ j x : Nat, j ≤ n ∧ i = .int .i64 (j : Int) ∧ s = .int .i64 (x : Int) ∧ wr = w ∧ Hid (TC.stdN T j = some x)) (fun _ i _ _ => n - (intOf i).toNat)
  case atStart => exact ⟨0, 1, Nat.zero_le _, rfl, rfl, rfl, rfl⟩
  case round =>
    obtain ⟨j, x, hj, rfl, rfl, rfl, HX⟩ := hrel
    by_cases hjn : j < n
    · have hjL : j < T.length := by rw [HLN.out]; exact hjn
      obtain ⟨b, off, c', hve⟩ := HV.out.form (by omega)
      rw [HLN.out] at hve
      obtain ⟨rfl, rfl⟩ : pv = some ⟨b, off, none⟩ ∧ cv = c' := by cases hve; exact ⟨rfl, rfl⟩
      obtain ⟨pj, cj, hcj, hij⟩ := HV.out.entry hjL
      obtain ⟨nE, hE, hE2⟩ := TC.stdN_down (show j + 1 ≤ n by omega) HST.out
      obtain ⟨n1, h1, h2, h3, h4⟩ := TC.stdN_step hE
      have hxn : n1 = x := by have := HX.out; rw [h1] at this; exact Option.some.inj this
      subst hxn
      have hrl := HL.out j hjL
      have HSE := Lib.hid hE
      obtain ⟨row, hrow⟩ : ∃ row, T.getD j [] = row := ⟨_, rfl⟩
      rw [hrow] at hcj hij h3 hrl
      obtain ⟨l, hl⟩ : ∃ l, row.length = l := ⟨_, rfl⟩
      rw [hl] at hcj hij h3 hrl
      have HI := Lib.hid hij
      have H3 := Lib.hid h3
      have HC := Lib.hid hcj
      clear hve hij h1 h3 hrow hl hjL hE hcj
      go_wp2_with fail
      go_loopw [3, 5] (fun s i wr2 => ∃ k y : Nat, k ≤ l ∧ i = .int .i64 (k : Int) ∧ s = .int .i64 (y : Int) ∧ wr2 = wr ∧ Hid (TC.stdC row k n1 = some y)) (fun _ i _ => l - (intOf i).toNat)
      case atStart => exact ⟨0, n1, Nat.zero_le _, rfl, rfl, rfl, rfl⟩
      case round =>
        obtain ⟨k, y, hk, rfl, rfl, rfl, HY⟩ := hrel
        have hcj := HC.out
        by_cases hkl : k < l
        · obtain ⟨b2, o2, e3, e4⟩ := HI.out k hkl
          subst e3
          obtain ⟨nF, hF, hF2⟩ := TC.stdC_down (show k + 1 ≤ l by omega) H3.out
          obtain ⟨n2, k1, k2, k3, k4⟩ := TC.stdC_step hF
          have hyn : n2 = y := by have := HY.out; rw [k1] at this; exact Option.some.inj this
          subst hyn
          have HF := Lib.hid hF
          obtain ⟨z, hz⟩ : ∃ z, row.getD k (-1) = z := ⟨_, rfl⟩
          rw [hz] at e4 k3 k4
          clear k1 hz hF
          by_cases hzn : z = (n2 : Int)
          · have hn2 : nF = n2 + 1 := by rw [k4, if_pos hzn]
            have q1 : (z == (n2 : Int)) = true := beq_iff_eq.2 hzn
            subst hn2
            have q2 : ((n2 : Int) == (n2 : Int)) = true := by simp
            subst hzn
            clear k4 q1
            go_wp2_with fail
            go_roundw
            case rel => exact ⟨k + 1, n2 + 1, hkl, by go_num, by go_num, (by first | rfl | trivial), HF.out⟩
            case measure => simp [intOf]; omega
          · have hn2 : nF = n2 := by rw [k4, if_neg hzn]
            have q1 : (z == (n2 : Int)) = false := beq_eq_false_iff_ne.2 hzn
            subst hn2
            clear k4 hzn
            go_wp2_with fail
            go_roundw
            case rel => exact ⟨k + 1, nF, hkl, by go_num, rfl, (by first | rfl | trivial), HF.out⟩
            case measure => simp [intOf]; omega
        · obtain rfl : k = l := by omega
          have HN2 : Hid (TC.stdN T (j + 1) = some y) := by
            have h5 := H3.out
            rw [HY.out] at h5
            unfold Hid
            rw [HSE.out, Option.some.inj h5]
          go_wp2_with fail
          go_roundw
          case rel => exact ⟨j + 1, y, hjn, by go_num, rfl, (by first | rfl | trivial), HN2.out⟩
          case measure => simp [intOf]; omega
    · obtain rfl : j = n := by omega
      obtain rfl : x = j := by have := HX.out; rw [HST.out] at this; exact (Option.some.inj this).symm
      have q1 : ((x : Int) == (x : Int)) = true := by simp
      go_wp2_with fail
      go_ret
      exact ⟨rfl, rfl⟩

set_option maxRecDepth 100000 in
set_option maxHeartbeats 8000000 in
theorem holds_any (B W : Nat) (G : Int) (rels T : List (List Int)) (vr vt : Value) (w : World) (hr : ListsIn B w vr rels) (hT : ListsIn B w vt T) (hok : TabOk W T) (hx : ∀ l ∈ rels, ∀ x ∈ l, x ≠ 0 ∧ -1000000 ≤ x ∧ x ≤ 1000000 ∧ colN x < W) (hlen : ∀ l ∈ rels, l.length ≤ 1000000) (hrl : rels.length ≤ 1000000) (htl : T.length ≤ 1000000)
    (hloop : ∀ i, i < T.length → ∀ l ∈ rels, TC.leadT T i (l.map colN) = i) :
    Calls Tryd.prog 13 #[.agg #[.int .i64 G, vr], vt] w (Gives (.bool true) w) := by
  obtain ⟨pr, cr, hre, -⟩ := id hr
  obtain ⟨n, hLn⟩ : ∃ n, rels.length = n := ⟨_, rfl⟩
  rw [hLn] at hre hrl
  subst hre
  obtain ⟨pt, ct, hte, -⟩ := id hT
  obtain ⟨m, hm⟩ : ∃ m, T.length = m := ⟨_, rfl⟩
  rw [hm] at hte htl
  subst hte
  have hb : Below w.heap.size w (w.alloc (.cells #[.int .i64 G, .slice pr n cr] 24)) := (Below.refl _ _).alloc (Nat.le_refl _) _
  obtain ⟨w1, hw1⟩ : ∃ w1, w.alloc (.cells #[.int .i64 G, .slice pr n cr] 24) = w1 := ⟨_, rfl⟩
  have hg1 := heap_alloc_new w (.cells #[.int .i64 G, .slice pr n cr] 24)
  rw [hw1] at hb hg1
  have HG1 := Lib.hid hg1
  have HB := Lib.hid hb
  have HW1 := Lib.hid hw1
  have HLN := Lib.hid hLn
  have HM := Lib.hid hm
  have HR := Lib.hid (hr.below hb (Nat.le_refl _))
  have HT := Lib.hid (hT.below hb (Nat.le_refl _))
  have HOK := Lib.hid hok
  have HX := Lib.hid hx
  have HLE := Lib.hid hlen
  have HLO := Lib.hid hloop
  unfold Gives
  clear hr hT hb hw1 hg1 hLn hm hok hx hlen hloop
  go_enter Tryd.func13, Tryd.ntmps13
  go_upto_region 1 with fail
  rw [HW1.out]
  go_wp2_with fail
  go_loopw [5, 6] (fun i _ wr => ∃ j z : Nat, j ≤ m ∧ i = .int .i64 (j : Int) ∧ wr = w1.drewN z) (fun i _ _ => m - (intOf i).toNat)
  case atStart => exact ⟨0, 0, Nat.zero_le _, rfl, rfl⟩
  case round =>
    obtain ⟨j, z, hj, rfl, hz⟩ := hrel
    have HZ := Lib.hid hz
    by_cases hjm : j < m
    · have hjT : j < T.length := by rw [HM.out]; exact hjm
      have HJT := Lib.hid hjT
      clear hz hjT
      go_wp2_with fail
      go_loopw [6] (fun i wr => ∃ q z : Nat, q ≤ n ∧ i = .int .i64 (q : Int) ∧ wr = w1.drewN z) (fun i _ => n - (intOf i).toNat)
      case atStart => exact ⟨0, z, Nat.zero_le _, rfl, HZ.out⟩
      case round =>
        obtain ⟨q, z2, hq, rfl, hz⟩ := hrel
        have HZ2 := Lib.hid hz
        have d1 : wr.cell? ⟨w.heap.size, 1, none⟩ = some (.slice pr n cr) := by rw [hz]; simp [World.cell?, HG1.out, World.drewN]
        by_cases hqn : q < n
        · have hqL : q < rels.length := by rw [HLN.out]; exact hqn
          have hrr : ListsIn B wr (.slice pr n cr) rels := by rw [hz]; exact HR.out.drewN z2
          have htr : ListsIn B wr (.slice pt m ct) T := by rw [hz]; exact HT.out.drewN z2
          obtain ⟨b, off, c', hve⟩ := hrr.form (by omega)
          rw [HLN.out] at hve
          obtain ⟨rfl, rfl⟩ : pr = some ⟨b, off, none⟩ ∧ cr = c' := by cases hve; exact ⟨rfl, rfl⟩
          obtain ⟨pj, cj, hcj, hij⟩ := cells_at hrr q hqL
          have HLD := Lib.hid (leads_any B W j T (rels.getD q []) (.slice pt m ct) (.slice pj (rels.getD q []).length cj) wr htr HOK.out HJT.out (HX.out _ (getL_mem hqL)) hij.at (HLE.out _ (getL_mem hqL)) (by rw [HM.out]; exact htl))
          rw [HLO.out j HJT.out _ (getL_mem hqL)] at HLD
          unfold Drew at HLD
          obtain ⟨lj, hlj⟩ : ∃ lj, (rels.getD q []).length = lj := ⟨_, rfl⟩
          rw [hlj] at hcj HLD
          have q1 : ((j : Int) != (j : Int)) = false := by simp
          clear hz hqL hrr htr hve hij hlj
          go_wp2_with fail
          refine HLD.out.mono ?_
          rintro e w3 ⟨rfl, z3, hz3⟩
          have HZ3 := Lib.hid hz3
          clear hz3 d1 hcj
          go_wp2_with fail
          go_roundw
          case rel => exact ⟨q + 1, z2 + z3, hqn, by go_num, by rw [HZ3.out, HZ2.out, World.drewN_drewN]⟩
          case measure => simp [intOf]; omega
        · obtain rfl : q = n := by omega
          clear hz
          go_wp2_with fail
          go_roundw
          case rel => exact ⟨j + 1, z2, hjm, by go_num, HZ2.out⟩
          case measure => simp [intOf]; omega
    · obtain rfl : j = m := by omega
      have HBF : Hid (Below w.heap.size w wr) := by unfold Hid; rw [hz]; exact ⟨HB.out.os, HB.out.tape, HB.out.output, HB.out.size, HB.out.block⟩
      clear hz
      go_wp2_with fail
      go_ret
      exact ⟨rfl, HBF.out⟩
end Go.Proofs.YtedehmknijlgpaaDoor
