/-
  Check of package label at labels that are right; the walker's door.
-/
import Derived.Test.YtnijedeopnjklaaGreatDoorSmallE
import Derived.Test.YtnijedeopnjklaaGreatDoorSperG
namespace Go.Proofs.YtnijedeopnjklaaGreatDoor
open Go Go.RowKit Sper

def labF (xs : List Int) (k : Nat) : Int := xs.getD k 0

set_option maxRecDepth 100000 in
set_option maxHeartbeats 4000000 in
theorem check_ok (n : Nat) (hn1 : 1 ≤ n) (hn : n ≤ 12) (xs : List Int) (b off cap : Nat) (w : World) (hlen : xs.length = (ptsL n).length) (hl : Labels (ptsL n) (labF xs))
    (hc : ∀ i, i < xs.length → w.cell? ⟨b, off + i, none⟩ = some (.int .i64 (xs.getD i 0))) :
    Calls Tryz.prog 11 #[.int .i64 (n : Int), .slice (some ⟨b, off, none⟩) xs.length cap] w fun e w' => e = .returned .nilIface ∧ Below w.heap.size w w' := by
  have d1 : decide ((n : Int) < 1) = false := decide_eq_false (by omega)
  have d2 : decide (12 < (n : Int)) = false := decide_eq_false (by omega)
  have HC := Lib.hid hc
  have HL := Lib.hid hl
  have HP := Lib.hid (points_int n hn (n : Int) rfl w)
  have hp1 := pts_len n hn
  rw [hlen]
  rw [hlen] at HC
  clear hc hl hlen
  generalize hPP : ptsL n = P at *
  clear hPP
  go_enter Tryz.func11, Tryz.ntmps11
  go_wp2_with fail
  refine HP.out.mono ?_
  rintro e w2 ⟨g, cP, rfl, hb, ho⟩
  have HB := Lib.hid hb
  have HO := Lib.hid ho
  clear hb ho d1 d2
  have hne : ((P.length : Int) != (P.length : Int)) = false := by simp
  go_wp2_with fail
  go_loop [25] (fun i => ∃ k : Nat, k ≤ P.length ∧ i = .int .i64 k) (fun i => P.length - (intOf i).toNat)
  case atStart => exact ⟨0, Nat.zero_le _, rfl⟩
  case round =>
    obtain ⟨k, hk, rfl⟩ := hrel
    by_cases hks : k < P.length
    · obtain ⟨g', cap', p, hv, hp, hkp, c0, c1, c2⟩ := pts_cells HO.out k hks
      cases hv
      have cx := (HB.out.cell (p := ⟨b, off + k, none⟩) (mem_lt (HC.out k hks))).trans (HC.out k hks)
      have hpk : P.getD k (0, 0, 0) = p := by rw [List.getD_eq_getElem?_getD, hkp]; rfl
      have h0 := HL.out.zero k hks
      have h1 := HL.out.one k hks
      have h2 := HL.out.two k hks
      have hr := HL.out.rng k hks
      unfold i0 at h0
      unfold j0 at h1
      unfold k0 at h2
      rw [hpk] at h0 h1 h2
      unfold labF at h0 h1 h2 hr
      obtain ⟨x, hx⟩ : ∃ x, xs.getD k 0 = x := ⟨_, rfl⟩
      rw [hx] at cx h0 h1 h2 hr
      obtain ⟨pi, pj, pk⟩ := p
      simp only [beq_eq_false_iff_ne, ne_eq] at h0 h1 h2
      simp only at c0 c1 c2
      clear hx hpk hkp hp
      have HH := Lib.hid (And.intro h0 (And.intro h1 h2))
      clear h0 h1 h2
      rcases hr with rfl | rfl | rfl
      · have q0 : ((pi : Int) == 0) = false := beq_eq_false_iff_ne.2 (by have := HH.out.1 rfl; omega)
        have q1 : (pi == 0) = false := beq_eq_false_iff_ne.2 (by have := HH.out.1 rfl; omega)
        go_wp2_with fail
        go_round
        case rel => exact ⟨k + 1, by omega, by go_num⟩
        case measure => simp [intOf]; omega
      · have q0 : ((pj : Int) == 0) = false := beq_eq_false_iff_ne.2 (by have := HH.out.2.1 rfl; omega)
        have q1 : (pj == 0) = false := beq_eq_false_iff_ne.2 (by have := HH.out.2.1 rfl; omega)
        go_wp2_with fail
        go_round
        case rel => exact ⟨k + 1, by omega, by go_num⟩
        case measure => simp [intOf]; omega
      · have q0 : ((pk : Int) == 0) = false := beq_eq_false_iff_ne.2 (by have := HH.out.2.2 rfl; omega)
        have q1 : (pk == 0) = false := beq_eq_false_iff_ne.2 (by have := HH.out.2.2 rfl; omega)
        go_wp2_with fail
        go_round
        case rel => exact ⟨k + 1, by omega, by go_num⟩
        case measure => simp [intOf]; omega
    · obtain rfl : k = P.length := by omega
      go_wp2_with fail
      go_ret
      exact ⟨rfl, HB.out⟩
end Go.Proofs.YtnijedeopnjklaaGreatDoor
