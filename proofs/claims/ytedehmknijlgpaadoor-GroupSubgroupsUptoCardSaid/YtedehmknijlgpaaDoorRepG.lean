/-
  slices.Repeat of a row of one -1.
-/
import Derived.Test.YtedehmknijlgpaaDoorRepD
set_option linter.unusedSimpArgs false
set_option linter.unusedVariables false
namespace Go.Proofs.YtedehmknijlgpaaDoor
open Go Go.RowKit Go.Maps

set_option maxRecDepth 100000 in
set_option maxHeartbeats 8000000 in
theorem rep_any (W : Nat) (hW : W ≤ 24) (w : World) (p : Addr) (c : Nat) (hp : w.cell? p = some (.int .i64 (-1))) (hpl : p.block < w.heap.size) : Calls Tryd.prog 39 #[.slice (some p) 1 c, .int .i64 (W : Int)] w (RepP W w) := by
  have HM := Lib.hid (Tryd.bits_Mul 1 W (by omega) (by omega) w)
  have h1 : (1 * W / 18446744073709551616 : Nat) = 0 := by omega
  have h2 : (1 * W % 18446744073709551616 : Nat) = W := by omega
  rw [h1, h2] at HM
  have HK := Lib.hid (make_negs W (by omega) w)
  have HP := Lib.hid hp
  unfold RepP
  clear h1 h2 hp
  go_enter Tryd.func39, Tryd.ntmps39
  go_wp2_with fail
  refine HM.out.mono ?_
  rintro e w2 ⟨rfl, rfl⟩
  have hmk := HK.out
  go_upto_region 7 with fail
  have hb0 : Below w2.heap.size w2 (w2.alloc (.cells (negs 0 W).toArray 3)) := (Below.refl _ _).alloc (Nat.le_refl _) _
  have hg0 : (w2.alloc (.cells (negs 0 W).toArray 3)).heap[w2.heap.size]? = some (.cells (negs 0 W).toArray 3 (0, 0)) := heap_alloc_new _ _
  have hsrc : (w2.alloc (.cells (negs 0 W).toArray 3)).cell? p = some (.int .i64 (-1)) := (hb0.cell hpl).trans HP.out
  obtain ⟨w3, hw3⟩ : ∃ w3, w2.alloc (.cells (negs 0 W).toArray 3) = w3 := ⟨_, rfl⟩
  rw [hw3] at hb0 hg0 hsrc ⊢
  have HB := Lib.hid hb0
  obtain ⟨i3, hi3, hy0, hy1, hy2⟩ := info_parts Tryd.info3
  have hsz : (Tryd.prog.info? 3).map (·.size) = some 1 := by rw [hi3, ← hy1]; rfl
  have hpos : 0 < (List.replicate (min 1 W) (Value.int .i64 (-1))).length → some (⟨w2.heap.size, 0, none⟩ : Addr) = some ⟨w2.heap.size, 0, none⟩ ∧ ∃ ad, some p = some ad ∧ ∀ (j : Nat) v, (List.replicate (min 1 W) (Value.int .i64 (-1)))[j]? = some v → w3.cell? (ad.add j) = some v := by
    intro _
    refine ⟨rfl, p, rfl, fun j v hv => ?_⟩
    obtain ⟨hj, rfl⟩ := List.getElem?_eq_some_iff.1 hv
    rw [List.length_replicate] at hj
    obtain rfl : j = 0 := by omega
    rw [List.getElem_replicate]
    exact hsrc
  have hlp : (List.replicate (min 1 W) (Value.int .i64 (-1))).length = min 1 W := List.length_replicate
  have hsp := negs_splice (n := 0) (k := min 1 W) (W := W) (by omega)
  rw [Nat.zero_add] at hsp
  obtain ⟨xs, hxs⟩ : ∃ xs, List.replicate (min 1 W) (Value.int .i64 (-1)) = xs := ⟨_, rfl⟩
  rw [hxs] at hpos hlp hsp
  have hone : ∀ v ∈ xs, v.oneCell' = true := by intro v hv; rw [← hxs] at hv; rw [(List.mem_replicate.1 hv).2]; rfl
  have hfit : 0 + xs.length ≤ (negs 0 W).length := by rw [negs_len (Nat.zero_le _), hlp]; omega
  have hmin : xs.length = Nat.min 1 W := hlp
  have HSP := Lib.hid hsp
  have HLP := Lib.hid hlp
  clear hxs hsrc hw3 hmk hlp hsp
  go_wp2_with (refine wpList_copy_splice (o := ⟨some 33, _, _, _, _, _⟩) rfl (.tmp 31) (.tmp 32) 27 27 rfl 3 Tryd.underlying27 hsz _ _ _ _ _ _ rfl rfl w2.heap.size 0 (negs 0 W) 3 hg0 xs hmin hpos hfit hone w2.heap.size w2 hb0 (Nat.le_refl _) ?_; intro w4 hg4 hb4)
  rw [HSP.out] at hg4
  have HG4 := hg4
  have HB4 := Lib.hid hb4
  clear hg4 hb4 hpos hone hfit hmin HSP HLP hg0 hb0 HB
  go_loopw [8] (fun s wr => ∃ n : Nat, n ≤ W ∧ min 1 W ≤ n ∧ s = .int .i64 (n : Int) ∧ wr.heap[w2.heap.size]? = some (.cells (negs n W).toArray 3 (0, 0)) ∧ Below w2.heap.size w2 wr) (fun s _ => W - (intOf s).toNat)
  case atStart => exact ⟨min 1 W, by omega, Nat.le_refl _, rfl, HG4.out, HB4.out⟩
  case round =>
    obtain ⟨n, hn, hmn, rfl, hr, hb⟩ := hrel
    by_cases hlt : n < W
    · have hm1 : 1 ≤ n := by omega
      obtain ⟨k, hk⟩ : ∃ k, min (W - n) n = k := ⟨_, rfl⟩
      have hk1 : 1 ≤ k := by omega
      have hkw : n + k ≤ W := by omega
      have hsp := negs_splice (n := n) (k := k) (W := W) hkw
      have hkl : (List.replicate k (Value.int .i64 (-1))).length = k := List.length_replicate
      have hk2 : (List.replicate k (Value.int .i64 (-1))).length = Nat.min n (W - n) := by rw [hkl, ← hk]; exact Nat.min_comm _ _
      have hsrc : ∀ (j : Nat) v, (List.replicate k (Value.int .i64 (-1)))[j]? = some v → wr.drew.cell? ((⟨w2.heap.size, 0, none⟩ : Addr).add j) = some v := by
        intro j v hv
        obtain ⟨hj, rfl⟩ := List.getElem?_eq_some_iff.1 hv
        rw [List.length_replicate] at hj
        rw [List.getElem_replicate, add_zero]
        have := negs_at (n := n) (W := W) (k := j) (by omega)
        show wr.cell? ⟨w2.heap.size, j, none⟩ = _
        simpa [World.cell?, hr] using this
      obtain ⟨xs, hxs⟩ : ∃ xs, List.replicate k (Value.int .i64 (-1)) = xs := ⟨_, rfl⟩
      rw [hxs] at hsrc hkl hk2 hsp
      have hone : ∀ v ∈ xs, v.oneCell' = true := by intro v hv; rw [← hxs] at hv; rw [(List.mem_replicate.1 hv).2]; rfl
      have hfit : n + xs.length ≤ (negs n W).length := by rw [negs_len hn, hkl]; exact hkw
      have hwr : IntKind.i64.wrap ((n : Int) + (k : Int)) = ((n + k : Nat) : Int) := by rw [IntWalk.i64_in _ (by omega)]; omega
      have HWR := Lib.hid hwr
      clear hwr
      have HSP := Lib.hid hsp
      have HKL := Lib.hid hkl
      have HSR := Lib.hid hsrc
      have HFI := Lib.hid hfit
      have HON := Lib.hid hone
      have HK2 := Lib.hid hk2
      have HR := Lib.hid hr
      have HBB := Lib.hid hb
      clear hxs hsp hkl hk hsrc hfit hone hk2 hr hb
      go_wp2_with fail
      go_region_law (refine step_copy_splice rfl (.tmp 41) (.tmp 44) 27 27 rfl 3 Tryd.underlying27 hsz _ _ _ _ _ _ rfl rfl w2.heap.size n (negs n W) 3 HR.out xs HK2.out (fun _ => ⟨if_neg (by omega), _, rfl, HSR.out⟩) HFI.out HON.out w2.heap.size w2 HBB.out.drew (Nat.le_refl _) ?_; intro w4 hg4 hb4)
      all_goals
        rw [HSP.out] at hg4
        have HG5 := hg4
        have HB5 := Lib.hid hb4
        clear hg4 hb4
        go_wp2_with fail
        go_roundw
        case rel =>
          refine ⟨n + k, hkw, by omega, ?_, HG5.out, HB5.out⟩
          first | go_num | (rw [HKL.out]; go_num) | (rw [HKL.out, HWR.out]) | (rw [HKL.out]; simp only [HWR.out])
        case measure =>
          have e := HWR.out
          first | (rw [HKL.out, HWR.out]; simp [intOf]; omega) | (simp only [HKL.out, HWR.out, intOf]; omega) | (rw [HKL.out, HWR.out]; simp [intOf]; done)
    · obtain rfl : n = W := by omega
      have HR := Lib.hid hr
      have HBB := Lib.hid hb
      clear hr hb
      go_wp2_with fail
      go_ret
      exact ⟨_, Nat.le_refl _, rfl, HR.out, HBB.out⟩
end Go.Proofs.YtedehmknijlgpaaDoor
