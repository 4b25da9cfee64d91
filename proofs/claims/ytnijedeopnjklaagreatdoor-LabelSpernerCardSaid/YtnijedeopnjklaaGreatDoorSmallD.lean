/-
  'small' of package label, four: the list of small triangles.
-/
import Derived.Test.YtnijedeopnjklaaGreatDoorSmallC
import Derived.Handy
import Derived.Deep.DeepCutAuto
namespace Go.Proofs.YtnijedeopnjklaaGreatDoor
open Go Go.RowKit Go.Sort Go.Lib

def lowT (n : Nat) (p : Nat × Nat × Nat) : Nat × Nat × Nat := (numN n p.1 p.2.1, numN n p.1 (p.2.1 + 1), numN n (p.1 + 1) p.2.1)
def upT (n : Nat) (p : Nat × Nat × Nat) : Nat × Nat × Nat := (numN n p.1 (p.2.1 + 1), numN n (p.1 + 1) p.2.1, numN n (p.1 + 1) (p.2.1 + 1))
def rawL (n : Nat) : List (Nat × Nat × Nat) := (ptsL (n - 1)).map (lowT n) ++ (if 1 < n then (ptsL (n - 2)).map (upT n) else [])
/-- the small triangles of a triangle in n parts -/
def smallL (n : Nat) : List (Nat × Nat × Nat) := sort3 (rawL n)

theorem num_step (n i j : Nat) : numN n i (j + 1) = numN n i j + 1 := rfl
theorem num_next : ∀ n, n ≤ 12 → ∀ i, i < n → numN n (i + 1) 0 = numN n i 0 + (n + 1 - i) := by decide
theorem num_plus (n i j : Nat) : numN n i j = numN n i 0 + j := by simp [numN]
theorem low_sorts (n i j : Nat) (hn : n ≤ 12) (h : i + j < n) : Sorts (numN n (i + 1) j) (numN n i (j + 1)) (numN n i j) (numN n i j) (numN n i (j + 1)) (numN n (i + 1) j) := by
  have h1 := num_next n hn i (by omega)
  have h2 := num_plus n (i + 1) j
  have h3 := num_plus n i j
  have h4 := num_step n i j
  exact sorts_down (by omega) (by omega)
theorem up_sorts (n i j : Nat) (hn : n ≤ 12) (h : i + j + 1 < n) : Sorts (numN n i (j + 1)) (numN n (i + 1) j) (numN n (i + 1) (j + 1)) (numN n i (j + 1)) (numN n (i + 1) j) (numN n (i + 1) (j + 1)) := by
  have h1 := num_next n hn i (by omega)
  have h2 := num_plus n (i + 1) j
  have h3 := num_plus n i j
  have h4 := num_step n i j
  have h5 := num_step n (i + 1) j
  exact sorts_up (by omega) (by omega)

theorem pts_mem (n : Nat) (p : Nat × Nat × Nat) (h : p ∈ ptsL n) : p.1 + p.2.1 ≤ n := by
  simp only [ptsL, ptsTo, rowTo, List.mem_flatMap, List.mem_map, List.mem_range] at h
  obtain ⟨i, hi, q, hq, rfl⟩ := h
  simp only; omega
theorem pts_len (n : Nat) (hn : n ≤ 12) : (ptsL n).length ≤ 200 := by
  have := ptsTo_le n hn (n + 1)
  unfold ptsL; omega

/-- the cells of one point in a row of points -/
theorem pts_cells {w : World} {D : Nat} {P : Value} {L : List (Nat × Nat × Nat)} (h : w.ownsRow D 55 3 P L.length (cells3 L)) (k : Nat) (hk : k < L.length) :
    ∃ g cap p, P = .slice (some ⟨g, 0, none⟩) L.length cap ∧ p ∈ L ∧ L[k]? = some p ∧ w.cell? ⟨g, k * 3, none⟩ = some (.int .i64 (p.1 : Int)) ∧ w.cell? ⟨g, k * 3 + 1, none⟩ = some (.int .i64 (p.2.1 : Int)) ∧ w.cell? ⟨g, k * 3 + 2, none⟩ = some (.int .i64 (p.2.2 : Int)) := by
  obtain ⟨g, cap, rfl⟩ := Joins.ownsRow_form h (by omega)
  have hadd : ∀ b j, (⟨b, 0, none⟩ : Addr).add j = ⟨b, j, none⟩ := fun b j => by unfold Addr.add; split <;> simp_all
  have hg : ∀ j, j < 3 → (cells3 L)[k * 3 + j]? = (enc3 L[k])[j]? := fun j hj => by
    rw [cells3_flat, flat_get enc3_len (by decide) L (k * 3 + j) (by omega)]
    rw [show (k * 3 + j) / 3 = k from by omega, show (k * 3 + j) % 3 = j from by omega]
    congr 1
    simp [hk]
  refine ⟨g, cap, L[k], rfl, List.getElem_mem hk, List.getElem?_eq_getElem hk, ?_, ?_, ?_⟩
  · have := h.cells (g := g) rfl (k * 3 + 0) _ (hg 0 (by omega)); rwa [hadd] at this
  · have := h.cells (g := g) rfl (k * 3 + 1) _ (hg 1 (by omega)); rwa [hadd] at this
  · have := h.cells (g := g) rfl (k * 3 + 2) _ (hg 2 (by omega)); rwa [hadd] at this

def SmallPost (n : Nat) (w : World) (e : Ending) (w' : World) : Prop :=
  ∃ v, e = .returned v ∧ Below w.heap.size w w' ∧ w'.ownsRow w.heap.size 36 3 v (smallL n).length (cells3 (smallL n))

theorem take_map {f : Nat × Nat × Nat → Nat × Nat × Nat} {L : List (Nat × Nat × Nat)} {k : Nat} {p : Nat × Nat × Nat} (h : L[k]? = some p) : (L.take (k + 1)).map f = (L.take k).map f ++ [f p] := by
  rw [List.take_add_one, h]; simp
theorem pts_pos (n : Nat) : 0 < (ptsL n).length := by
  have h : (0, 0, n - 0 - 0) ∈ ptsL n := by
    simp only [ptsL, ptsTo, rowTo, List.mem_flatMap, List.mem_map, List.mem_range]
    exact ⟨0, by omega, 0, by omega, rfl⟩
  exact List.length_pos_of_mem h
theorem points_int (m : Nat) (hm : m ≤ 12) (q : Int) (hq : q = (m : Int)) (w : World) :
    Calls Tryz.prog 18 #[.int .i64 q] w fun e w' => ∃ g cap, e = .returned (.slice (some ⟨g, 0, none⟩) (ptsL m).length cap) ∧ Below w.heap.size w w' ∧ w'.ownsRow w.heap.size 55 3 (.slice (some ⟨g, 0, none⟩) (ptsL m).length cap) (ptsL m).length (cells3 (ptsL m)) := by
  subst hq
  refine (points_nat m hm w).mono fun e w' h => ?_
  obtain ⟨v, he, hb, ho⟩ := h
  obtain ⟨g, cap, rfl⟩ := Joins.ownsRow_form ho (pts_pos m)
  exact ⟨g, cap, he, hb, ho⟩
theorem St3.below {w1 : World} {B : Nat} {W W' : World} {l : List (Nat × Nat × Nat)} (h : St3 w1 B W l) (hb : Below W.heap.size W W') : St3 w1 B W' l := by
  obtain ⟨v, h1, h2, h3⟩ := h
  have hlt : B < W.heap.size := (Array.getElem?_eq_some_iff.1 h1).1
  exact ⟨v, by rw [hb.block B hlt]; exact h1, owns_keep h2 fun k hk => hb.block k (h2.lt k hk).2, h3.trans (hb.mono (Nat.le_of_lt hlt))⟩

set_option maxRecDepth 100000 in
set_option maxHeartbeats 8000000 in
theorem small_any (n : Nat) (hn1 : 1 ≤ n) (hn : n ≤ 12) (w : World) : Calls Tryz.prog 19 #[.int .i64 (n : Int)] w (SmallPost n w) := by
  go_enter Tryz.func19, Tryz.ntmps19
  go_wp2_with fail
  refine (points_int (n - 1) (by omega) _ (by omega) _).mono ?_
  rintro e w2 ⟨gP, cP, rfl, hb2, hP⟩
  have hsz : w.heap.size < w2.heap.size := by have := hb2.size; simp at this; omega
  have hst0 : St3 (w.alloc (.cells #[.slice none 0 0] 28)) w.heap.size (w.alloc (.cells #[.slice none 0 0] 28)) [] := ⟨.slice none 0 0, heap_alloc_new w _, World.ownsRow_nil _ _ _ _, Below.refl _ _⟩
  have hst1 := hst0.below hb2
  have hbw : Below w.heap.size w (w.alloc (.cells #[.slice none 0 0] 28)) := (Below.refl _ _).alloc (Nat.le_refl _) _
  have HBW := Lib.hid hbw
  have hML := pts_len (n - 1) (by omega)
  have HMEM := Lib.hid (pts_mem (n - 1))
  obtain ⟨L, hL⟩ : ∃ L, ptsL (n - 1) = L := ⟨_, rfl⟩
  rw [hL] at hP hML HMEM
  rw [hL]
  have HL := Lib.hid hL
  clear hL hb2 hst0 hbw
  obtain ⟨w1, hw1⟩ : ∃ w1, w1 = w.alloc (.cells #[.slice none 0 0] 28) := ⟨_, rfl⟩
  rw [← hw1] at hst1
  have HBW1 : Hid (Below w.heap.size w w1) := by rw [hw1]; exact HBW.out
  clear hw1 HBW
  go_wp2_with fail
  go_loopw [18] (fun i wr => ∃ k : Nat, k ≤ L.length ∧ i = .int .i64 k ∧ St3 w1 w.heap.size wr ((L.take k).map (lowT n)) ∧ wr.ownsRow (w.heap.size + 1) 55 3 (.slice (some ⟨gP, 0, none⟩) L.length cP) L.length (cells3 L)) (fun i _ => L.length - (intOf i).toNat)
  case atStart => exact ⟨0, Nat.zero_le _, rfl, by simpa using hst1, Joins.ownsRow_le hP (by simp)⟩
  case round =>
    obtain ⟨k, hk, rfl, hst, hown⟩ := hrel
    by_cases hks : k < L.length
    · obtain ⟨g', cap', p, hv, hp, hkp, c0, c1, c2⟩ := pts_cells hown k hks
      cases hv
      have hpm := HMEM.out p hp
      have HTM := Lib.hid (take_map (f := lowT n) hkp)
      have hlen : ((L.take k).map (lowT n)).length ≤ 100000 := by simp; omega
      obtain ⟨pi, pj, pk⟩ := p
      simp only at c0 c1 c2 hpm
      clear hkp hp
      have hst2 := fun nz => (hst.alloc (.cells #[.int .i64 (pi : Int), .int .i64 (pj : Int), .int .i64 (pk : Int)] 55)).drewN nz
      have hown2 := hown.alloc (.cells #[.int .i64 (pi : Int), .int .i64 (pj : Int), .int .i64 (pk : Int)] 55)
      clear hst hown
      go_wp2_with fail
      go_quiet (fail)
      replace hst2 := hst2 nq
      have hown3 : ((wr.alloc (.cells #[.int .i64 (pi : Int), .int .i64 (pj : Int), .int .i64 (pk : Int)] 55)).drewN nq).ownsRow (w.heap.size + 1) 55 3 (.slice (some ⟨gP, 0, none⟩) L.length cP) L.length (cells3 L) := hown2
      clear hown2 c0 c1 c2
      go_wp2_with fail
      refine (number_any n (pi + 1) pj hn (by omega) (by omega) _ _ (by omega) (by omega) _).mono ?_
      rintro e w' ⟨rfl, rfl⟩
      go_wp2_with fail
      refine (number_any n pi (pj + 1) hn (by omega) (by omega) _ _ (by omega) (by omega) _).mono ?_
      rintro e w' ⟨rfl, rfl⟩
      go_wp2_with fail
      refine (number_any n pi pj hn (by omega) (by omega) _ _ (by omega) (by omega) _).mono ?_
      rintro e w' ⟨rfl, rfl⟩
      go_wp2_with fail
      refine (put3_any w1 w.heap.size _ _ _ _ _ _ _ _ _ _ _ rfl rfl rfl (low_sorts n pi pj hn (by omega)) hlen hst2).mono ?_
      rintro e wz ⟨rfl, hst4, hkz⟩
      have hown4 := hkz _ _ _ _ _ _ (by decide) (by decide) hown3
      clear hst2 hown3 hkz
      go_wp2_with fail
      go_roundw
      case rel => exact ⟨k + 1, by omega, by go_num, by rw [HTM.out]; exact hst4, hown4⟩
      case measure => simp [intOf]; omega
    · obtain rfl : k = L.length := by omega
      rw [List.take_length, ← HL.out] at hst
      clear hown
      by_cases hn2 : 1 < n
      · have hd2 : decide (1 < (n : Int)) = true := decide_eq_true (by omega)
        go_wp2_with fail
        clear hd2
        refine (points_int (n - 2) (by omega) _ (by omega) _).mono ?_
        rintro e w5 ⟨gQ, cQ, rfl, hb5, hQ⟩
        have hst5 := hst.below hb5
        have hML2 := pts_len (n - 2) (by omega)
        have HMEM2 := Lib.hid (pts_mem (n - 2))
        have hwr : w.heap.size < wr.heap.size := by
          obtain ⟨v, h1, -, -⟩ := hst
          exact (Array.getElem?_eq_some_iff.1 h1).1
        obtain ⟨M, hM⟩ : ∃ M, ptsL (n - 2) = M := ⟨_, rfl⟩
        rw [hM] at hQ hML2 HMEM2
        rw [hM]
        have HM := Lib.hid hM
        clear hM hb5 hst
        go_wp2_with fail
        go_loopw [49] (fun i wr => ∃ k : Nat, k ≤ M.length ∧ i = .int .i64 k ∧ St3 w1 w.heap.size wr ((ptsL (n - 1)).map (lowT n) ++ (M.take k).map (upT n)) ∧ wr.ownsRow (w.heap.size + 1) 55 3 (.slice (some ⟨gQ, 0, none⟩) M.length cQ) M.length (cells3 M)) (fun i _ => M.length - (intOf i).toNat)
        case atStart => exact ⟨0, Nat.zero_le _, rfl, by simpa using hst5, Joins.ownsRow_le hQ (by omega)⟩
        case round =>
          obtain ⟨k, hk, rfl, hst, hown⟩ := hrel
          clear hst5 hQ
          by_cases hks : k < M.length
          · obtain ⟨g', cap', p, hv, hp, hkp, c0, c1, c2⟩ := pts_cells hown k hks
            cases hv
            have hpm := HMEM2.out p hp
            have HTM := Lib.hid (take_map (f := upT n) hkp)
            have hlen : ((ptsL (n - 1)).map (lowT n) ++ (M.take k).map (upT n)).length ≤ 100000 := by have := pts_len (n - 1) (by omega); simp; omega
            obtain ⟨pi, pj, pk⟩ := p
            simp only at c0 c1 c2 hpm
            clear hkp hp
            have hst2 := fun nz => (hst.alloc (.cells #[.int .i64 (pi : Int), .int .i64 (pj : Int), .int .i64 (pk : Int)] 55)).drewN nz
            have hown2 := hown.alloc (.cells #[.int .i64 (pi : Int), .int .i64 (pj : Int), .int .i64 (pk : Int)] 55)
            clear hst hown
            go_wp2_with fail
            go_quiet (fail)
            replace hst2 := hst2 nq
            have hown3 : ((wr.alloc (.cells #[.int .i64 (pi : Int), .int .i64 (pj : Int), .int .i64 (pk : Int)] 55)).drewN nq).ownsRow (w.heap.size + 1) 55 3 (.slice (some ⟨gQ, 0, none⟩) M.length cQ) M.length (cells3 M) := hown2
            clear hown2 c0 c1 c2
            go_wp2_with fail
            refine (number_any n pi (pj + 1) hn (by omega) (by omega) _ _ (by omega) (by omega) _).mono ?_
            rintro e w' ⟨rfl, rfl⟩
            go_wp2_with fail
            refine (number_any n (pi + 1) pj hn (by omega) (by omega) _ _ (by omega) (by omega) _).mono ?_
            rintro e w' ⟨rfl, rfl⟩
            go_wp2_with fail
            refine (number_any n (pi + 1) (pj + 1) hn (by omega) (by omega) _ _ (by omega) (by omega) _).mono ?_
            rintro e w' ⟨rfl, rfl⟩
            go_wp2_with fail
            refine (put3_any w1 w.heap.size _ _ _ _ _ _ _ _ _ _ _ rfl rfl rfl (up_sorts n pi pj hn (by omega)) hlen hst2).mono ?_
            rintro e wz ⟨rfl, hst4, hkz⟩
            have hown4 := hkz _ _ _ _ _ _ (by decide) (by decide) hown3
            clear hst2 hown3 hkz
            go_wp2_with fail
            go_roundw
            case rel => exact ⟨k + 1, by omega, by go_num, by rw [HTM.out, ← List.append_assoc]; exact hst4, hown4⟩
            case measure => simp [intOf]; omega
          · obtain rfl : k = M.length := by omega
            rw [List.take_length, ← HM.out] at hst
            clear hown
            obtain ⟨vv, hB, hO, hbl⟩ := hst
            obtain ⟨cB, -⟩ := cell_of_block hB
            have hlO : ((ptsL (n - 1)).map (lowT n) ++ (ptsL (n - 2)).map (upT n)).length ≤ 100000 := by have := pts_len (n - 1) (by omega); have := pts_len (n - 2) (by omega); simp; omega
            have hraw : (ptsL (n - 1)).map (lowT n) ++ (ptsL (n - 2)).map (upT n) = rawL n := by unfold rawL; simp [hn2]
            rw [hraw] at hlO hO
            have hB0 := (Array.getElem?_eq_some_iff.1 hB).1
            have HB := Lib.hid hB
            have HO := Lib.hid hO
            have HBL := Lib.hid hbl
            clear hB hO hbl
            go_wp2_with fail
            refine (sort3_any (w.heap.size + 1) vv _ wr hlO HO.out).mono ?_
            rintro e w3 ⟨rfl, hO2, hg2⟩
            have hvlt := HO.out.lt
            have hBne : some w.heap.size ≠ vv.ownBlock := fun e => by have := (hvlt _ e.symm).1; omega
            have hB2 : w3.heap[w.heap.size]? = some (.cells #[vv] 28 (0, 0)) := by
              rw [hg2.block _ hB0 hBne]; exact HB.out
            obtain ⟨cB2, -⟩ := cell_of_block hB2
            have hb2 : Below w.heap.size w w3 := (HBW1.out.trans HBL.out).grown hg2 (Nat.le_of_lt hB0) (fun j hj => by have := (hvlt j hj).1; omega)
            have HB2 := Lib.hid hb2
            have HO2 := Lib.hid hO2
            clear hB2 hg2 hO2 hb2 hBne hvlt
            go_wp2_with fail
            go_ret
            exact ⟨_, rfl, HB2.out, Joins.ownsRow_le HO2.out (by omega)⟩

      · have hd2 : decide (1 < (n : Int)) = false := decide_eq_false (by omega)
        obtain ⟨vv, hB, hO, hbl⟩ := hst
        obtain ⟨cB, -⟩ := cell_of_block hB
        have hlO : ((ptsL (n - 1)).map (lowT n)).length ≤ 100000 := by have := pts_len (n - 1) (by omega); have := pts_len (n - 2) (by omega); simp; omega
        have hraw : (ptsL (n - 1)).map (lowT n) = rawL n := by unfold rawL; simp [hn2]
        rw [hraw] at hlO hO
        have hB0 := (Array.getElem?_eq_some_iff.1 hB).1
        have HB := Lib.hid hB
        have HO := Lib.hid hO
        have HBL := Lib.hid hbl
        clear hB hO hbl
        go_wp2_with fail
        refine (sort3_any (w.heap.size + 1) vv _ wr hlO HO.out).mono ?_
        rintro e w3 ⟨rfl, hO2, hg2⟩
        have hvlt := HO.out.lt
        have hBne : some w.heap.size ≠ vv.ownBlock := fun e => by have := (hvlt _ e.symm).1; omega
        have hB2 : w3.heap[w.heap.size]? = some (.cells #[vv] 28 (0, 0)) := by
          rw [hg2.block _ hB0 hBne]; exact HB.out
        obtain ⟨cB2, -⟩ := cell_of_block hB2
        have hb2 : Below w.heap.size w w3 := (HBW1.out.trans HBL.out).grown hg2 (Nat.le_of_lt hB0) (fun j hj => by have := (hvlt j hj).1; omega)
        have HB2 := Lib.hid hb2
        have HO2 := Lib.hid hO2
        clear hB2 hg2 hO2 hb2 hBne hvlt
        go_wp2_with fail
        go_ret
        exact ⟨_, rfl, HB2.out, Joins.ownsRow_le HO2.out (by omega)⟩

end Go.Proofs.YtnijedeopnjklaaGreatDoor
