/-
  Full of package label at labels that are right.
-/
import Derived.Test.YtnijedeopnjklaaGreatDoorOddC
import Derived.Test.YtnijedeopnjklaaGreatDoorOddE
namespace Go.Proofs.YtnijedeopnjklaaGreatDoor
open Go Go.RowKit Sper

/-- the cells of a triangle in a row of triangles -/
theorem tri_cells {w : World} {D g cap : Nat} {L : List (Nat × Nat × Nat)} (h : w.ownsRow D 36 3 (.slice (some ⟨g, 0, none⟩) L.length cap) L.length (cells3 L)) (k : Nat) (hk : k < L.length) :
    w.cell? ⟨g, k * 3, none⟩ = some (.int .i64 ((tri L k).1 : Int)) ∧ w.cell? ⟨g, k * 3 + 1, none⟩ = some (.int .i64 ((tri L k).2.1 : Int)) ∧ w.cell? ⟨g, k * 3 + 2, none⟩ = some (.int .i64 ((tri L k).2.2 : Int)) := by
  have hadd : ∀ b j, (⟨b, 0, none⟩ : Addr).add j = ⟨b, j, none⟩ := fun b j => by unfold Addr.add; split <;> simp_all
  have hg : ∀ j, j < 3 → (cells3 L)[k * 3 + j]? = (enc3 (tri L k))[j]? := fun j hj => by
    rw [cells3_flat, flat_get enc3_len (by decide) L (k * 3 + j) (by omega)]
    rw [show (k * 3 + j) / 3 = k from by omega, show (k * 3 + j) % 3 = j from by omega]
    congr 1
    unfold tri
    simp [hk]
  refine ⟨?_, ?_, ?_⟩
  · have := h.cells (g := g) rfl (k * 3 + 0) _ (hg 0 (by omega)); rwa [hadd] at this
  · have := h.cells (g := g) rfl (k * 3 + 1) _ (hg 1 (by omega)); rwa [hadd] at this
  · have := h.cells (g := g) rfl (k * 3 + 2) _ (hg 2 (by omega)); rwa [hadd] at this

/-- the full ones ahead of number k -/
def fullTo (L : List (Nat × Nat × Nat)) (xs : List Int) (k : Nat) : List Int := ((List.range k).filter fun i => isFull (labF xs) (tri L i)).map fun (i : Nat) => (i : Int)
theorem fullTo_step (L : List (Nat × Nat × Nat)) (xs : List Int) (k : Nat) : fullTo L xs (k + 1) = fullTo L xs k ++ (if isFull (labF xs) (tri L k) = true then [(k : Int)] else []) := by
  unfold fullTo
  rw [List.range_succ, List.filter_append, List.map_append]
  by_cases h : isFull (labF xs) (tri L k) = true
  · rw [if_pos h, List.filter_cons_of_pos (p := fun i => isFull (labF xs) (tri L i)) h]; rfl
  · rw [if_neg h, List.filter_cons_of_neg (p := fun i => isFull (labF xs) (tri L i)) h]; rfl
theorem fullTo_length (L : List (Nat × Nat × Nat)) (xs : List Int) (k : Nat) : (fullTo L xs k).length ≤ k := by
  unfold fullTo
  rw [List.length_map]
  have := List.length_filter_le (fun i => isFull (labF xs) (tri L i)) (List.range k)
  simpa using this
theorem raw_len (n : Nat) (hn : n ≤ 12) : (smallL n).length ≤ 1000 := by
  have a := pts_len (n - 1) (by omega)
  have b := pts_len (n - 2) (by omega)
  have e : (smallL n).length = (rawL n).length := List.length_mergeSort _
  rw [e]
  unfold rawL
  split <;> simp <;> omega
theorem small_pos (n : Nat) : 0 < (smallL n).length := by
  have a := pts_pos (n - 1)
  have e : (smallL n).length = (rawL n).length := List.length_mergeSort _
  rw [e]
  unfold rawL
  simp; omega

def FullPost (n : Nat) (xs : List Int) (w : World) (e : Ending) (w' : World) : Prop :=
  ∃ v, e = .returned (.tuple #[v, .nilIface]) ∧ Below w.heap.size w w' ∧ w'.ownsRow w.heap.size 3 1 v (fullTo (smallL n) xs (smallL n).length).length (intVs (fullTo (smallL n) xs (smallL n).length))

set_option maxRecDepth 100000 in
set_option maxHeartbeats 8000000 in
theorem full_ok (n : Nat) (hn1 : 1 ≤ n) (hn : n ≤ 12) (xs : List Int) (b off cap : Nat) (w : World) (hlen : xs.length = (ptsL n).length) (hl : Labels (ptsL n) (labF xs))
    (hc : ∀ i, i < xs.length → w.cell? ⟨b, off + i, none⟩ = some (.int .i64 (xs.getD i 0))) :
    Calls Tryz.prog 12 #[.int .i64 (n : Int), .slice (some ⟨b, off, none⟩) xs.length cap] w (FullPost n xs w) := by
  obtain ⟨i3, hi3, hz30, hz31, hz32⟩ := info_parts Tryz.info3
  have hk := chk_all n hn1 hn
  have H1 := Lib.hid (check_ok n hn1 hn xs b off cap w hlen hl hc)
  have HS := Lib.hid (small_any n hn1 hn)
  have hpos := small_pos n
  have hrl := raw_len n hn
  unfold FullPost
  unfold SmallPost at HS
  have HT := Lib.hid (fun k (hk' : k < (smallL n).length) => chk_tri hk _ (tri_mem hk'))
  rw [← hlen] at HT
  have HRNG := Lib.hid hl.rng
  rw [← hlen] at HRNG
  have HC := Lib.hid hc
  clear hc hl hk hlen
  generalize smallL n = L at *
  generalize hXN : xs.length = XN at *
  clear hXN
  go_enter Tryz.func12, Tryz.ntmps12
  go_wp2_with fail
  refine H1.out.mono ?_
  rintro e w1 ⟨rfl, hb1⟩
  have HB1 := Lib.hid hb1
  clear hb1
  go_wp2_with fail
  refine (HS.out w1).mono ?_
  rintro e w2 ⟨va, rfl, hb2, ho⟩
  obtain ⟨g, cL, rfl⟩ := Joins.ownsRow_form ho hpos
  have HB2 := Lib.hid (HB1.out.trans (hb2.mono HB1.out.size))
  have HO := Lib.hid ho
  clear hb2 ho HS H1
  go_wp2_with fail
  go_loopw [7, 19] (fun v i wr => ∃ k : Nat, k ≤ L.length ∧ i = .int .i64 k ∧ Below w2.heap.size w2 wr ∧ wr.ownsRow w2.heap.size 3 1 v (fullTo L xs k).length (intVs (fullTo L xs k))) (fun _ i _ => L.length - (intOf i).toNat)
  case atStart => exact ⟨0, Nat.zero_le _, rfl, Below.refl _ _, by simpa [fullTo, intVs] using World.ownsRow_nil w2 w2.heap.size 3 1⟩
  case round =>
    obtain ⟨k, hk, rfl, hb, hown⟩ := hrel
    by_cases hks : k < L.length
    · have hoL := owns_keep (w' := wr) HO.out fun j hj => hb.block j (HO.out.lt j hj).2
      obtain ⟨c0, c1, c2⟩ := tri_cells hoL k hks
      obtain ⟨t1, t2, t3⟩ := HT.out k hks
      have HST := Lib.hid (fullTo_step L xs k)
      have hfl := fullTo_length L xs k
      obtain ⟨rf, hrf⟩ : ∃ rf, isFull (labF xs) (tri L k) = rf := ⟨_, rfl⟩
      rw [hrf] at HST
      unfold isFull labF at hrf
      generalize tri L k = T at *
      obtain ⟨ta, tb, tc⟩ := T
      simp only at c0 c1 c2 t1 t2 t3 hrf
      have hbw := HB2.out.trans (hb.mono HB2.out.size)
      have l0 := (hbw.cell (p := ⟨b, off + ta, none⟩) (mem_lt (HC.out ta (by omega)))).trans (HC.out ta (by omega))
      have l1 := (hbw.cell (p := ⟨b, off + tb, none⟩) (mem_lt (HC.out tb (by omega)))).trans (HC.out tb (by omega))
      have l2 := (hbw.cell (p := ⟨b, off + tc, none⟩) (mem_lt (HC.out tc (by omega)))).trans (HC.out tc (by omega))
      have r0 := HRNG.out ta (by omega)
      have r1 := HRNG.out tb (by omega)
      have r2 := HRNG.out tc (by omega)
      unfold labF at r0 r1 r2
      generalize xs.getD ta 0 = x at l0 r0 hrf
      generalize xs.getD tb 0 = y at l1 r1 hrf
      generalize xs.getD tc 0 = z at l2 r2 hrf
      have x0 : 0 ≤ x ∧ x ≤ 2 := by omega
      have y0 : 0 ≤ y ∧ y ≤ 2 := by omega
      have z0 : 0 ≤ z ∧ z ≤ 2 := by omega
      obtain ⟨x0, x1⟩ := x0
      obtain ⟨y0, y1⟩ := y0
      obtain ⟨z0, z1⟩ := z0
      clear r0 r1 r2 hoL
      generalize fullTo L xs k = FL at *
      have hAL : Below wr.heap.size wr (wr.alloc (.cells #[.int .i64 (ta : Int), .int .i64 (tb : Int), .int .i64 (tc : Int)] 36)) := (Below.refl _ _).alloc (Nat.le_refl _) _
      replace l0 := (hAL.cell (p := ⟨b, off + ta, none⟩) (mem_lt l0)).trans l0
      replace l1 := (hAL.cell (p := ⟨b, off + tb, none⟩) (mem_lt l1)).trans l1
      replace l2 := (hAL.cell (p := ⟨b, off + tc, none⟩) (mem_lt l2)).trans l2
      have pa0 : (0 : Int) ≤ (ta : Int) := by omega
      have pa1 : (ta : Int) < (XN : Int) := by omega
      have pb0 : (0 : Int) ≤ (tb : Int) := by omega
      have pb1 : (tb : Int) < (XN : Int) := by omega
      have pc0 : (0 : Int) ≤ (tc : Int) := by omega
      have pc1 : (tc : Int) < (XN : Int) := by omega
      have hbz : Below w2.heap.size w2 (wr.alloc (.cells #[.int .i64 (ta : Int), .int .i64 (tb : Int), .int .i64 (tc : Int)] 36)) := hb.alloc hb.size _
      have howz := hown.alloc (.cells #[.int .i64 (ta : Int), .int .i64 (tb : Int), .int .i64 (tc : Int)] 36)
      by_cases q1 : x + y + z = 3
      · have s1 : (x + y + z == 3) = true := beq_iff_eq.2 q1
        by_cases q2 : x = y
        · have s2 : (x != y) = false := by simp [q2]
          obtain rfl : rf = false := by rw [← hrf]; simp [q2]
          clear hrf q1 q2
          rw [if_neg (by decide), List.append_nil] at HST
          go_wp2_with fail
          go_quiet (fail)
          go_wp2_with fail
          go_roundw
          case rel => exact ⟨k + 1, by omega, by go_num, hbz.trans ⟨rfl, rfl, rfl, Nat.le_refl _, fun _ _ => rfl⟩, by rw [HST.out]; exact howz⟩
          case measure => simp [intOf]; omega
        · have s2 : (x != y) = true := bne_iff_ne.2 q2
          by_cases q3 : x = z
          · have s3 : (x != z) = false := by simp [q3]
            obtain rfl : rf = false := by rw [← hrf]; simp [q3]
            clear hrf q1 q2 q3
            rw [if_neg (by decide), List.append_nil] at HST
            go_wp2_with fail
            go_quiet (fail)
            go_wp2_with fail
            go_roundw
            case rel => exact ⟨k + 1, by omega, by go_num, hbz.trans ⟨rfl, rfl, rfl, Nat.le_refl _, fun _ _ => rfl⟩, by rw [HST.out]; exact howz⟩
            case measure => simp [intOf]; omega
          · have s3 : (x != z) = true := bne_iff_ne.2 q3
            obtain rfl : rf = true := by rw [← hrf]; simp [q1, q2, q3]
            clear hrf q1 q2 q3
            rw [if_pos rfl] at HST
            go_wp2_with fail
            go_quiet (fail)
            have how2 : ((wr.alloc (.cells #[.int .i64 (ta : Int), .int .i64 (tb : Int), .int .i64 (tc : Int)] 36)).drewN nq).ownsRow w2.heap.size 3 1 _ FL.length (intVs FL) := howz
            have hb2' : Below w2.heap.size w2 ((wr.alloc (.cells #[.int .i64 (ta : Int), .int .i64 (tb : Int), .int .i64 (tc : Int)] 36)).drewN nq) := hbz.trans ⟨rfl, rfl, rfl, Nat.le_refl _, fun _ _ => rfl⟩
            have hlt := hown.lt
            clear c0 c1 c2 l0 l1 l2 howz hbz
            go_wp2_with (at_builtin; go_must (refine wpList_append_own _ rfl _ _ 22 rfl w2.heap.size 3 i3 (.int .i64 0) 1 8 Tryz.underlying22 hi3 hz30 hz31 hz32 rfl (by decide) _ _ _ rfl (how2.alloc _) ⟨wr.heap.size + 1, 0, none⟩ 1 1 [.int .i64 (k : Int)] rfl rfl (fun j u hu => by have h := cells_new ((wr.alloc (.cells #[.int .i64 (ta : Int), .int .i64 (tb : Int), .int .i64 (tc : Int)] 36)).drewN nq) #[.int .i64 (k : Int)] 3 j u hu; rw [show ((wr.alloc (.cells #[.int .i64 (ta : Int), .int .i64 (tb : Int), .int .i64 (tc : Int)] 36)).drewN nq).heap.size = wr.heap.size + 1 from by simp] at h; exact h) (fun u hu => by simp at hu; subst hu; rfl) (by unfold maxLen; omega) (by omega) (by have := hb.size; simp; omega) ?_); intro v' w4 hown' hgrow _)
            have hb4 : Below w2.heap.size w2 w4 := (hb2'.alloc hb2'.size _).grown hgrow (by have := hb.size; simp; omega) (fun j hj => (hlt j hj).1)
            clear hgrow how2 hb2' hlt
            go_wp2_with fail
            go_roundw
            case rel => exact ⟨k + 1, by omega, by go_num, hb4, by rw [HST.out]; simpa [intVs] using hown'⟩
            case measure => simp [intOf]; omega
      · have s1 : (x + y + z == 3) = false := beq_eq_false_iff_ne.2 q1
        obtain rfl : rf = false := by rw [← hrf]; simp [q1]
        clear hrf q1
        rw [if_neg (by decide), List.append_nil] at HST
        go_wp2_with fail
        go_quiet (fail)
        go_wp2_with fail
        go_roundw
        case rel => exact ⟨k + 1, by omega, by go_num, hbz.trans ⟨rfl, rfl, rfl, Nat.le_refl _, fun _ _ => rfl⟩, by rw [HST.out]; exact howz⟩
        case measure => simp [intOf]; omega
    · obtain rfl : k = L.length := by omega
      have HBF := Lib.hid (HB2.out.trans (hb.mono HB2.out.size))
      have HOF := Lib.hid (Joins.ownsRow_le hown HB2.out.size)
      clear hb hown
      go_wp2_with fail
      go_ret2
      exact ⟨_, rfl, HBF.out, HOF.out⟩
end Go.Proofs.YtnijedeopnjklaaGreatDoor
