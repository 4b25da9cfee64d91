/-
  Check of package label at any labels: what is wrong, by one contract. Conditions: 'Sents'.
-/
import Derived.Test.YtnijedeopnjklaaGreatDoorOddA
import Derived.Test.YtnijedeopnjklaaGreatDoorErrsD
namespace Go.Proofs.YtnijedeopnjklaaGreatDoor
open Go Go.RowKit Sper

/-- may a point bear a label? -/
def okLab (p : Nat × Nat × Nat) (x : Int) : Prop := (x = 0 ∧ p.1 ≠ 0) ∨ (x = 1 ∧ p.2.1 ≠ 0) ∨ (x = 2 ∧ p.2.2 ≠ 0)
theorem okLab_or (p : Nat × Nat × Nat) (x : Int) : okLab p x ∨ ¬ okLab p x := Classical.em _
def FineL (P : List (Nat × Nat × Nat)) (xs : List Int) (k : Nat) : Prop := ∀ i, i < k → okLab (tri P i) (xs.getD i 0)
theorem fine_labels {P : List (Nat × Nat × Nat)} {xs : List Int} (h : FineL P xs P.length) : Labels P (labF xs) := by
  have hh : ∀ k, k < P.length → okLab (tri P k) (labF xs k) := h
  refine ⟨fun k hk => ?_, fun k hk he => ?_, fun k hk he => ?_, fun k hk he => ?_⟩
  · rcases hh k hk with ⟨h, -⟩ | ⟨h, -⟩ | ⟨h, -⟩
    · exact Or.inl h
    · exact Or.inr (Or.inl h)
    · exact Or.inr (Or.inr h)
  all_goals
    have h2 := hh k hk
    rw [he] at h2
    unfold okLab tri at h2
    first
      | (unfold i0; exact beq_eq_false_iff_ne.2 (by omega))
      | (unfold j0; exact beq_eq_false_iff_ne.2 (by omega))
      | (unfold k0; exact beq_eq_false_iff_ne.2 (by omega))
theorem first_bad (P : List (Nat × Nat × Nat)) (xs : List Int) : ∀ k, FineL P xs k ∨ ∃ j, j < k ∧ FineL P xs j ∧ ¬ okLab (tri P j) (xs.getD j 0)
  | 0 => Or.inl fun i h => absurd h (by omega)
  | k + 1 => by
    rcases first_bad P xs k with h | ⟨j, h1, h2⟩
    · rcases okLab_or (tri P k) (xs.getD k 0) with h3 | h3
      · exact Or.inl fun i hi => by
          rcases (show i < k ∨ i = k by omega) with h' | rfl
          · exact h i h'
          · exact h3
      · exact Or.inr ⟨k, by omega, h, h3⟩
    · exact Or.inr ⟨j, by omega, h2⟩

/-- the code and the place of what is wrong; 0: the labels are right -/
def LV (n : Int) (xs : List Int) (c k : Int) : Prop :=
  ((n < 1 ∨ 12 < n) ∧ c = 2 ∧ k = -1) ∨
  ∃ m : Nat, n = (m : Int) ∧ 1 ≤ m ∧ m ≤ 12 ∧
    ((xs.length ≠ (ptsL m).length ∧ c = 3 ∧ k = -1) ∨
     (xs.length = (ptsL m).length ∧
       ((∃ j : Nat, j < (ptsL m).length ∧ FineL (ptsL m) xs j ∧ ¬ okLab (tri (ptsL m) j) (xs.getD j 0) ∧ c = 8 ∧ k = (j : Int)) ∨
        (FineL (ptsL m) xs (ptsL m).length ∧ c = 0 ∧ k = -1))))
theorem lv (n : Int) (xs : List Int) : ∃ c k, LV n xs c k := by
  rcases (show (n < 1 ∨ 12 < n) ∨ (1 ≤ n ∧ n ≤ 12) by omega) with h | h
  · exact ⟨2, -1, Or.inl ⟨h, rfl, rfl⟩⟩
  · obtain ⟨m, rfl⟩ : ∃ m : Nat, n = (m : Int) := ⟨n.toNat, by omega⟩
    by_cases hl : xs.length = (ptsL m).length
    · rcases first_bad (ptsL m) xs (ptsL m).length with hf | ⟨j, h1, h2, h3⟩
      · exact ⟨0, -1, Or.inr ⟨m, rfl, by omega, by omega, Or.inr ⟨hl, Or.inr ⟨hf, rfl, rfl⟩⟩⟩⟩
      · exact ⟨8, j, Or.inr ⟨m, rfl, by omega, by omega, Or.inr ⟨hl, Or.inl ⟨j, h1, h2, h3, rfl, rfl⟩⟩⟩⟩
    · exact ⟨3, -1, Or.inr ⟨m, rfl, by omega, by omega, Or.inl ⟨hl, rfl, rfl⟩⟩⟩

def ErrPost (a : Nat → Addr) (c k : Int) (w : World) (e : Ending) (w' : World) : Prop := ∃ v, e = .returned v ∧ Below w.heap.size w w' ∧ ErrAt a w' v c k

theorem fault_new (a : Nat → Addr) (w : World) (k : Nat) (n : Int) (hk : k < 8) :
    ErrAt a (w.alloc (.cells #[.int .i64 n, .iface 146 (.pointer (some (a k)))] 58)) (.iface 56 (.pointer (some ⟨w.heap.size, 0, none⟩))) ((k : Int) + 1) n :=
  Or.inr (Or.inr ⟨k, w.heap.size, 0, hk, rfl, rfl, by simp, by simp⟩)

set_option maxRecDepth 100000 in
set_option maxHeartbeats 4000000 in
theorem check_bound (a : Nat → Addr) (n : Int) (p : Option Addr) (len cap : Nat) (w : World) (hS : Sents w a) (h : n < 1 ∨ 12 < n) :
    Calls Tryz.prog 11 #[.int .i64 n, .slice p len cap] w (ErrPost a 2 (-1) w) := by
  have hg : w.cell? ⟨gnum 1, 0, none⟩ = some (.iface 146 (.pointer (some (a 1)))) := hS.g 1 (by decide)
  simp only [gnum] at hg
  rcases (show n < 1 ∨ 1 ≤ n by omega) with h1 | h1
  · have d1 : decide (n < 1) = true := decide_eq_true h1
    clear h h1
    go_enter Tryz.func11, Tryz.ntmps11
    go_wp2_with fail
    go_ret
    exact ⟨_, rfl, Below.refl _ _, ErrAt.sent a _ 1 (by decide)⟩
  · have d1 : decide (n < 1) = false := decide_eq_false (by omega)
    have d2 : decide (12 < n) = true := decide_eq_true (by omega)
    clear h h1
    go_enter Tryz.func11, Tryz.ntmps11
    go_wp2_with fail
    go_ret
    exact ⟨_, rfl, Below.refl _ _, ErrAt.sent a _ 1 (by decide)⟩
set_option maxRecDepth 100000 in
set_option maxHeartbeats 4000000 in
theorem check_shape (a : Nat → Addr) (n : Nat) (hn1 : 1 ≤ n) (hn : n ≤ 12) (p : Option Addr) (len cap : Nat) (w : World) (hS : Sents w a) (h : len ≠ (ptsL n).length) :
    Calls Tryz.prog 11 #[.int .i64 (n : Int), .slice p len cap] w (ErrPost a 3 (-1) w) := by
  have d1 : decide ((n : Int) < 1) = false := decide_eq_false (by omega)
  have d2 : decide (12 < (n : Int)) = false := decide_eq_false (by omega)
  have d3 : ((len : Int) != ((ptsL n).length : Int)) = true := bne_iff_ne.2 (fun e => h (Int.ofNat.inj e))
  have d4 : (len != (ptsL n).length) = true := bne_iff_ne.2 h
  have HP := Lib.hid (points_int n hn (n : Int) rfl w)
  have HS := Lib.hid hS
  clear h hS
  go_enter Tryz.func11, Tryz.ntmps11
  go_wp2_with fail
  refine HP.out.mono ?_
  rintro e w2 ⟨g, cP, rfl, hb, -⟩
  have hg : w2.cell? ⟨gnum 2, 0, none⟩ = some (.iface 146 (.pointer (some (a 2)))) := (HS.out.below hb (Nat.le_refl _)).g 2 (by decide)
  simp only [gnum] at hg
  have HB := Lib.hid hb
  clear hb
  go_wp2_with fail
  go_ret
  exact ⟨_, rfl, HB.out, ErrAt.sent a _ 2 (by decide)⟩

set_option maxRecDepth 100000 in
set_option maxHeartbeats 8000000 in
theorem check_kind (a : Nat → Addr) (n : Nat) (hn1 : 1 ≤ n) (hn : n ≤ 12) (xs : List Int) (b off cap : Nat) (w : World) (hS : Sents w a) (hlen : xs.length = (ptsL n).length)
    (hc : ∀ i, i < xs.length → w.cell? ⟨b, off + i, none⟩ = some (.int .i64 (xs.getD i 0))) (j : Nat) (hj : j < (ptsL n).length) (hf : FineL (ptsL n) xs j) (hbad : ¬ okLab (tri (ptsL n) j) (xs.getD j 0)) :
    Calls Tryz.prog 11 #[.int .i64 (n : Int), .slice (some ⟨b, off, none⟩) xs.length cap] w (ErrPost a 8 j w) := by
  have d1 : decide ((n : Int) < 1) = false := decide_eq_false (by omega)
  have d2 : decide (12 < (n : Int)) = false := decide_eq_false (by omega)
  have HC := Lib.hid hc
  have HF := Lib.hid hf
  have HBAD := Lib.hid hbad
  have HS := Lib.hid hS
  have HP := Lib.hid (points_int n hn (n : Int) rfl w)
  have hp1 := pts_len n hn
  rw [hlen]
  rw [hlen] at HC
  clear hc hf hlen hbad hS
  generalize hPP : ptsL n = P at *
  clear hPP
  go_enter Tryz.func11, Tryz.ntmps11
  go_wp2_with fail
  refine HP.out.mono ?_
  rintro e w2 ⟨g, cP, rfl, hb, ho⟩
  have hg : w2.cell? ⟨gnum 7, 0, none⟩ = some (.iface 146 (.pointer (some (a 7)))) := (HS.out.below hb (Nat.le_refl _)).g 7 (by decide)
  simp only [gnum] at hg
  have HB := Lib.hid hb
  have HO := Lib.hid ho
  clear hb ho d1 d2
  have hne : ((P.length : Int) != (P.length : Int)) = false := by simp
  go_wp2_with fail
  go_loop [25] (fun i => ∃ k : Nat, k ≤ j ∧ i = .int .i64 k) (fun i => j - (intOf i).toNat)
  case atStart => exact ⟨0, Nat.zero_le _, rfl⟩
  case round =>
    obtain ⟨k, hk, rfl⟩ := hrel
    have hks : k < P.length := by omega
    obtain ⟨g', cap', p, hv, hp, hkp, c0, c1, c2⟩ := pts_cells HO.out k hks
    cases hv
    have cx := (HB.out.cell (p := ⟨b, off + k, none⟩) (mem_lt (HC.out k hks))).trans (HC.out k hks)
    have hpk : tri P k = p := by unfold tri; rw [List.getD_eq_getElem?_getD, hkp]; rfl
    by_cases hkj : k < j
    · have hok := HF.out k hkj
      rw [hpk] at hok
      obtain ⟨x, hx⟩ : ∃ x, xs.getD k 0 = x := ⟨_, rfl⟩
      rw [hx] at cx hok
      obtain ⟨pi, pj, pk⟩ := p
      simp only at c0 c1 c2
      clear hx hpk hkp hp hg
      unfold okLab at hok
      simp only at hok
      rcases hok with ⟨rfl, h0⟩ | ⟨rfl, h0⟩ | ⟨rfl, h0⟩
      · have q0 : ((pi : Int) == 0) = false := beq_eq_false_iff_ne.2 (by omega)
        have q1 : (pi == 0) = false := beq_eq_false_iff_ne.2 h0
        clear h0
        go_wp2_with fail
        go_round
        case rel => exact ⟨k + 1, by omega, by go_num⟩
        case measure => simp [intOf]; omega
      · have q0 : ((pj : Int) == 0) = false := beq_eq_false_iff_ne.2 (by omega)
        have q1 : (pj == 0) = false := beq_eq_false_iff_ne.2 h0
        clear h0
        go_wp2_with fail
        go_round
        case rel => exact ⟨k + 1, by omega, by go_num⟩
        case measure => simp [intOf]; omega
      · have q0 : ((pk : Int) == 0) = false := beq_eq_false_iff_ne.2 (by omega)
        have q1 : (pk == 0) = false := beq_eq_false_iff_ne.2 h0
        clear h0
        go_wp2_with fail
        go_round
        case rel => exact ⟨k + 1, by omega, by go_num⟩
        case measure => simp [intOf]; omega
    · obtain rfl : k = j := by omega
      have hno := HBAD.out
      rw [hpk] at hno
      obtain ⟨x, hx⟩ : ∃ x, xs.getD k 0 = x := ⟨_, rfl⟩
      rw [hx] at cx hno
      obtain ⟨pi, pj, pk⟩ := p
      simp only at c0 c1 c2
      clear hx hpk hkp hp
      have hx5 : x < 0 ∨ 2 < x ∨ (x = 0 ∧ pi = 0) ∨ (x = 1 ∧ pj = 0) ∨ (x = 2 ∧ pk = 0) := by unfold okLab at hno; simp only at hno; omega
      clear hno
      have HBF := Lib.hid (HB.out.alloc HB.out.size (.cells #[.int .i64 (k : Int), .iface 146 (.pointer (some (a 7)))] 58))
      have HE := Lib.hid (fault_new a w2 7 (k : Int) (by decide))
      rcases hx5 with h0 | h0 | ⟨rfl, h0⟩ | ⟨rfl, h0⟩ | ⟨rfl, h0⟩
      · have q0 : decide (x < 0) = true := decide_eq_true h0
        clear h0
        go_wp2_with fail
        go_ret
        exact ⟨_, rfl, HBF.out, HE.out⟩
      · have q0 : decide (x < 0) = false := decide_eq_false (by omega)
        have q1 : decide (2 < x) = true := decide_eq_true h0
        clear h0
        go_wp2_with fail
        go_ret
        exact ⟨_, rfl, HBF.out, HE.out⟩
      · have q0 : ((pi : Int) == 0) = true := beq_iff_eq.2 (by omega)
        have q1 : (pi == 0) = true := beq_iff_eq.2 h0
        clear h0
        go_wp2_with fail
        go_ret
        exact ⟨_, rfl, HBF.out, HE.out⟩
      · have q0 : ((pj : Int) == 0) = true := beq_iff_eq.2 (by omega)
        have q1 : (pj == 0) = true := beq_iff_eq.2 h0
        clear h0
        go_wp2_with fail
        go_ret
        exact ⟨_, rfl, HBF.out, HE.out⟩
      · have q0 : ((pk : Int) == 0) = true := beq_iff_eq.2 (by omega)
        have q1 : (pk == 0) = true := beq_iff_eq.2 h0
        clear h0
        go_wp2_with fail
        go_ret
        exact ⟨_, rfl, HBF.out, HE.out⟩

theorem check_any (a : Nat → Addr) (n : Int) (xs : List Int) (v : Value) (c k : Int) (w : World) (hS : Sents w a) (hv : IntsAt w v xs) (hV : LV n xs c k) : Calls Tryz.prog 11 #[.int .i64 n, v] w (ErrPost a c k w) := by
  have hv' := hv
  obtain ⟨p, cap, rfl, -⟩ := hv
  rcases hV with ⟨h, rfl, rfl⟩ | ⟨m, rfl, hm1, hm, ⟨h, rfl, rfl⟩ | ⟨hl, h⟩⟩
  · exact check_bound a n p _ cap w hS h
  · exact check_shape a m hm1 hm p _ cap w hS h
  · have hpp := pts_pos m
    rcases hv'.cases with ⟨h0, -⟩ | ⟨-, b, off, cc, h1, -, hc⟩
    · rw [h0] at hl; simp at hl; omega
    · cases h1
      rcases h with ⟨j, hj, hf, hbad, rfl, rfl⟩ | ⟨hf, rfl, rfl⟩
      · exact check_kind a m hm1 hm xs b off cap w hS hl hc j hj hf hbad
      · exact (check_ok m hm1 hm xs b off cap w hl (fine_labels hf) hc).mono fun e w' ⟨he, hb⟩ => ⟨_, he, hb, ErrAt.nil a w'⟩
end Go.Proofs.YtnijedeopnjklaaGreatDoor
