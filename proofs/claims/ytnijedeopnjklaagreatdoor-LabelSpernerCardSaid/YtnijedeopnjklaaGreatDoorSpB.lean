/-
  LabelFault of the references, by one contract.
-/
import Derived.Test.YtnijedeopnjklaaGreatDoorSpA
import Derived.Test.YtnijedeopnjklaaGreatDoorOddE
namespace Go.Proofs.YtnijedeopnjklaaGreatDoor
open Go Go.RowKit Sper

theorem cells_at {w : World} {e D g cap : Nat} {L : List (Nat × Nat × Nat)} (h : w.ownsRow D e 3 (.slice (some ⟨g, 0, none⟩) L.length cap) L.length (cells3 L)) (k : Nat) (hk : k < L.length) :
    w.cell? ⟨g, k * 3, none⟩ = some (.int .i64 ((tri L k).1 : Int)) ∧ w.cell? ⟨g, k * 3 + 1, none⟩ = some (.int .i64 ((tri L k).2.1 : Int)) ∧ w.cell? ⟨g, k * 3 + 2, none⟩ = some (.int .i64 ((tri L k).2.2 : Int)) := by
  have hadd : ∀ b j, (⟨b, 0, none⟩ : Addr).add j = ⟨b, j, none⟩ := fun b j => by unfold Addr.add; split <;> simp_all
  have hg : ∀ j, j < 3 → (cells3 L)[k * 3 + j]? = (enc3 (tri L k))[j]? := fun j hj => by
    rw [cells3_flat, flat_get enc3_len (by decide) L (k * 3 + j) (by omega)]
    rw [show (k * 3 + j) / 3 = k from by omega, show (k * 3 + j) % 3 = j from by omega]
    unfold tri
    congr 2
    simp [hk, List.getD_eq_getElem?_getD]
  refine ⟨?_, ?_, ?_⟩
  · have := h.cells (g := g) rfl (k * 3 + 0) _ (hg 0 (by omega)); rwa [hadd] at this
  · have := h.cells (g := g) rfl (k * 3 + 1) _ (hg 1 (by omega)); rwa [hadd] at this
  · have := h.cells (g := g) rfl (k * 3 + 2) _ (hg 2 (by omega)); rwa [hadd] at this

theorem two_set {w : World} {b : Nat} {x y u v : Value} {t : TypeId} (h : w.heap[b]? = some (.cells #[x, y] t (0, 0))) :
    ((w.setCell ⟨b, 0, none⟩ u).setCell ⟨b, 1, none⟩ v).heap[b]? = some (.cells #[u, v] t (0, 0)) := by
  simp [World.setCell, Array.getElem?_modify, h]
theorem two_at {w : World} {b : Nat} {x y : Value} {t : TypeId} (h : w.heap[b]? = some (.cells #[x, y] t (0, 0))) :
    w.cell? ⟨b, 0, none⟩ = some x ∧ w.cell? ⟨b, 1, none⟩ = some y ∧ w.frozen? ⟨b, 0, none⟩ = false ∧ w.frozen? ⟨b, 1, none⟩ = false := by
  simp [World.cell?, World.frozen?, h]
def LFPost (c k : Int) (w : World) (e : Ending) (w' : World) : Prop := e = .returned (.agg #[.int .i64 c, .int .i64 k]) ∧ Below w.heap.size w w'

set_option maxRecDepth 100000 in
set_option maxHeartbeats 4000000 in
theorem lf_bound (n : Int) (p : Option Addr) (len cap : Nat) (w : World) (h : n < 1 ∨ 12 < n) :
    Calls Tryz.prog 10 #[.int .i64 n, .slice p len cap] w (LFPost 2 (-1) w) := by
  rcases (show n < 1 ∨ 1 ≤ n by omega) with h1 | h1
  · have d1 : decide (n < 1) = true := decide_eq_true h1
    clear h h1
    go_enter Tryz.func10, Tryz.ntmps10
    go_wp2
    exact bodyPost_ret (v := .agg #[.int .i64 2, .int .i64 (-1)]) (by simp [results, Tryz.results10, go_sem]) rfl ⟨rfl, by go_grown⟩
  · have d1 : decide (n < 1) = false := decide_eq_false (by omega)
    have d2 : decide (12 < n) = true := decide_eq_true (by omega)
    clear h h1
    go_enter Tryz.func10, Tryz.ntmps10
    go_wp2
    exact bodyPost_ret (v := .agg #[.int .i64 2, .int .i64 (-1)]) (by simp [results, Tryz.results10, go_sem]) rfl ⟨rfl, by go_grown⟩

set_option maxRecDepth 100000 in
set_option maxHeartbeats 8000000 in
theorem lf_shape (n : Nat) (hn1 : 1 ≤ n) (hn : n ≤ 12) (p : Option Addr) (len cap : Nat) (w : World) (h : len ≠ (ptsL n).length) :
    Calls Tryz.prog 10 #[.int .i64 (n : Int), .slice p len cap] w (LFPost 3 (-1) w) := by
  have d1 : decide ((n : Int) < 1) = false := decide_eq_false (by omega)
  have d2 : decide (12 < (n : Int)) = false := decide_eq_false (by omega)
  have d3 : (((ptsL n).length : Int) != (len : Int)) = true := bne_iff_ne.2 (fun e => h (Int.ofNat.inj e).symm)
  have d4 : ((ptsL n).length != len) = true := bne_iff_ne.2 (Ne.symm h)
  have hpp := pts_pos n
  clear h
  go_enter Tryz.func10, Tryz.ntmps10
  go_wp2_with fail
  refine (spots_nat n hn _).mono ?_
  rintro e w2 ⟨va, rfl, hb2, ho⟩
  obtain ⟨g, cL, rfl⟩ := Joins.ownsRow_form ho hpp
  have hb0 : Below w.heap.size w w2 := ((Below.refl _ _).alloc (Nat.le_refl _) _).trans (hb2.mono (by simp))
  have hblk : w2.heap[w.heap.size]? = some (.cells #[.int .i64 0, .int .i64 0] 38 (0, 0)) := by
    rw [hb2.block _ (by simp)]; exact heap_alloc_new w _
  obtain ⟨z0, z1, f0, f1⟩ := two_at hblk
  obtain ⟨y0, y1, -, -⟩ := two_at (two_set (u := .int .i64 3) (v := .int .i64 (-1)) hblk)
  have HB0 := Lib.hid hb0
  have HY := Lib.hid (And.intro y0 y1)
  clear hb0 hb2 ho d1 d2 hblk y0 y1
  go_wp2_with fail
  obtain ⟨y0, y1⟩ := HY.out
  exact bodyPost_ret (v := .agg #[.int .i64 3, .int .i64 (-1)]) (by simp [results, Tryz.results10, go_sem, y0, y1]) rfl ⟨rfl, (HB0.out.setCell (Nat.le_refl _) _).setCell (Nat.le_refl _) _⟩

set_option maxRecDepth 100000 in
set_option maxHeartbeats 16000000 in
theorem lf_in (n : Nat) (hn1 : 1 ≤ n) (hn : n ≤ 12) (xs : List Int) (b off cap : Nat) (w : World) (hlen : xs.length = (ptsL n).length)
    (hc : ∀ i, i < xs.length → w.cell? ⟨b, off + i, none⟩ = some (.int .i64 (xs.getD i 0))) (c : Int) (j : Nat) (kk : Int) (hj : j ≤ (ptsL n).length) (hf : FineL (ptsL n) xs j)
    (hbad : (j < (ptsL n).length ∧ ¬ okLab (tri (ptsL n) j) (xs.getD j 0) ∧ c = 8 ∧ kk = (j : Int)) ∨ (j = (ptsL n).length ∧ c = 0 ∧ kk = -1)) :
    Calls Tryz.prog 10 #[.int .i64 (n : Int), .slice (some ⟨b, off, none⟩) xs.length cap] w (LFPost c kk w) := by
  have d1 : decide ((n : Int) < 1) = false := decide_eq_false (by omega)
  have d2 : decide (12 < (n : Int)) = false := decide_eq_false (by omega)
  have HC := Lib.hid hc
  have HF := Lib.hid hf
  have HBAD := Lib.hid hbad
  have HSP := Lib.hid (spots_nat n hn)
  have hpl := pts_len n hn
  have hpp := pts_pos n
  rw [hlen]
  rw [hlen] at HC
  clear hc hf hlen hbad
  generalize hPP : ptsL n = P at *
  clear hPP
  have hne : ((P.length : Int) != (P.length : Int)) = false := by simp
  go_enter Tryz.func10, Tryz.ntmps10
  go_wp2_with fail
  refine (HSP.out _).mono ?_
  rintro e w2 ⟨va, rfl, hb2, ho⟩
  obtain ⟨g, cL, rfl⟩ := Joins.ownsRow_form ho hpp
  have hb0 : Below w.heap.size w w2 := ((Below.refl _ _).alloc (Nat.le_refl _) _).trans (hb2.mono (by simp))
  have hblk : w2.heap[w.heap.size]? = some (.cells #[.int .i64 0, .int .i64 0] 38 (0, 0)) := by
    rw [hb2.block _ (by simp)]; exact heap_alloc_new w _
  obtain ⟨z0, z1, f0, f1⟩ := two_at hblk
  have HY := Lib.hid (fun u v => two_at (two_set (u := u) (v := v) hblk))
  have HB := Lib.hid hb0
  have HO := Lib.hid ho
  clear hb0 hb2 ho d1 d2 hblk
  go_wp2_with fail
  go_loop [6] (fun i => ∃ k : Nat, k ≤ j ∧ i = .int .i64 k) (fun i => j - (intOf i).toNat)
  case atStart => exact ⟨0, Nat.zero_le _, rfl⟩
  case round =>
    obtain ⟨k, hk, rfl⟩ := hrel
    by_cases hkj : k < j
    · have hks : k < P.length := by omega
      obtain ⟨c0, c1, c2⟩ := cells_at HO.out k hks
      have cx := (HB.out.cell (p := ⟨b, off + k, none⟩) (mem_lt (HC.out k hks))).trans (HC.out k hks)
      have hok := HF.out k hkj
      obtain ⟨x, hx⟩ : ∃ x, xs.getD k 0 = x := ⟨_, rfl⟩
      rw [hx] at cx hok
      obtain ⟨⟨pi, pj, pk⟩, hp⟩ : ∃ p, tri P k = p := ⟨_, rfl⟩
      rw [hp] at c0 c1 c2 hok
      simp only at c0 c1 c2
      clear hx hp
      unfold okLab at hok
      simp only at hok
      rcases hok with ⟨rfl, h0⟩ | ⟨rfl, h0⟩ | ⟨rfl, h0⟩
      · have q0 : decide ((0 : Int) < (pi : Int)) = true := decide_eq_true (by omega)
        have q1 : decide (0 < pi) = true := decide_eq_true (by omega)
        clear h0
        go_wp2_with fail
        go_round
        case rel => exact ⟨k + 1, by omega, by go_num⟩
        case measure => simp [intOf]; omega
      · have q0 : decide ((0 : Int) < (pj : Int)) = true := decide_eq_true (by omega)
        have q1 : decide (0 < pj) = true := decide_eq_true (by omega)
        clear h0
        go_wp2_with fail
        go_round
        case rel => exact ⟨k + 1, by omega, by go_num⟩
        case measure => simp [intOf]; omega
      · have q0 : decide ((0 : Int) < (pk : Int)) = true := decide_eq_true (by omega)
        have q1 : decide (0 < pk) = true := decide_eq_true (by omega)
        clear h0
        go_wp2_with fail
        go_round
        case rel => exact ⟨k + 1, by omega, by go_num⟩
        case measure => simp [intOf]; omega
    · obtain rfl : k = j := by omega
      rcases HBAD.out with ⟨hks, hno, hce, hke⟩ | ⟨hkl, hce, hke⟩
      · have HCE := Lib.hid hce
        have HKE := Lib.hid hke
        clear hce hke
        obtain ⟨c0, c1, c2⟩ := cells_at HO.out k hks
        have cx := (HB.out.cell (p := ⟨b, off + k, none⟩) (mem_lt (HC.out k hks))).trans (HC.out k hks)
        obtain ⟨x, hx⟩ : ∃ x, xs.getD k 0 = x := ⟨_, rfl⟩
        rw [hx] at cx hno
        obtain ⟨⟨pi, pj, pk⟩, hp⟩ : ∃ p, tri P k = p := ⟨_, rfl⟩
        rw [hp] at c0 c1 c2 hno
        simp only at c0 c1 c2
        clear hx hp
        have hx4 : (x = 0 ∧ pi = 0) ∨ (x = 1 ∧ pj = 0) ∨ (x = 2 ∧ pk = 0) ∨ (x ≠ 0 ∧ x ≠ 1 ∧ x ≠ 2) := by unfold okLab at hno; simp only at hno; omega
        clear hno
        rcases hx4 with ⟨rfl, h0⟩ | ⟨rfl, h0⟩ | ⟨rfl, h0⟩ | ⟨h0, h1, h2⟩
        · have q0 : decide ((0 : Int) < (pi : Int)) = false := decide_eq_false (by omega)
          have q1 : decide (0 < pi) = false := decide_eq_false (by omega)
          clear h0
          go_wp2_with fail
          obtain ⟨y0, y1, -, -⟩ := HY.out (.int .i64 8) (.int .i64 (k : Int))
          exact bodyPost_ret (v := .agg #[.int .i64 8, .int .i64 (k : Int)]) (by simp [results, Tryz.results10, go_sem, y0, y1]) rfl ⟨by rw [HCE.out, HKE.out], (HB.out.setCell (Nat.le_refl _) _).setCell (Nat.le_refl _) _⟩
        · have q0 : decide ((0 : Int) < (pj : Int)) = false := decide_eq_false (by omega)
          have q1 : decide (0 < pj) = false := decide_eq_false (by omega)
          clear h0
          go_wp2_with fail
          obtain ⟨y0, y1, -, -⟩ := HY.out (.int .i64 8) (.int .i64 (k : Int))
          exact bodyPost_ret (v := .agg #[.int .i64 8, .int .i64 (k : Int)]) (by simp [results, Tryz.results10, go_sem, y0, y1]) rfl ⟨by rw [HCE.out, HKE.out], (HB.out.setCell (Nat.le_refl _) _).setCell (Nat.le_refl _) _⟩
        · have q0 : decide ((0 : Int) < (pk : Int)) = false := decide_eq_false (by omega)
          have q1 : decide (0 < pk) = false := decide_eq_false (by omega)
          clear h0
          go_wp2_with fail
          obtain ⟨y0, y1, -, -⟩ := HY.out (.int .i64 8) (.int .i64 (k : Int))
          exact bodyPost_ret (v := .agg #[.int .i64 8, .int .i64 (k : Int)]) (by simp [results, Tryz.results10, go_sem, y0, y1]) rfl ⟨by rw [HCE.out, HKE.out], (HB.out.setCell (Nat.le_refl _) _).setCell (Nat.le_refl _) _⟩
        · have q0 : (x == 0) = false := beq_eq_false_iff_ne.2 h0
          have q1 : (x == 1) = false := beq_eq_false_iff_ne.2 h1
          have q2 : (x == 2) = false := beq_eq_false_iff_ne.2 h2
          clear h0 h1 h2
          go_wp2_with fail
          obtain ⟨y0, y1, -, -⟩ := HY.out (.int .i64 8) (.int .i64 (k : Int))
          exact bodyPost_ret (v := .agg #[.int .i64 8, .int .i64 (k : Int)]) (by simp [results, Tryz.results10, go_sem, y0, y1]) rfl ⟨by rw [HCE.out, HKE.out], (HB.out.setCell (Nat.le_refl _) _).setCell (Nat.le_refl _) _⟩
      · have HCE := Lib.hid hce
        have HKE := Lib.hid hke
        subst hkl
        clear hce hke
        go_wp2_with fail
        obtain ⟨y0, y1, -, -⟩ := HY.out (.int .i64 0) (.int .i64 (-1))
        exact bodyPost_ret (v := .agg #[.int .i64 0, .int .i64 (-1)]) (by simp [results, Tryz.results10, go_sem, y0, y1]) rfl ⟨by rw [HCE.out, HKE.out], (HB.out.setCell (Nat.le_refl _) _).setCell (Nat.le_refl _) _⟩

theorem lf_any (n : Int) (xs : List Int) (v : Value) (c k : Int) (w : World) (hv : IntsAt w v xs) (hV : LV n xs c k) : Calls Tryz.prog 10 #[.int .i64 n, v] w (LFPost c k w) := by
  have hv' := hv
  obtain ⟨p, cap, rfl, -⟩ := hv
  rcases hV with ⟨h, rfl, rfl⟩ | ⟨m, rfl, hm1, hm, ⟨h, rfl, rfl⟩ | ⟨hl, h⟩⟩
  · exact lf_bound n p _ cap w h
  · exact lf_shape m hm1 hm p _ cap w h
  · have hpp := pts_pos m
    rcases hv'.cases with ⟨h0, -⟩ | ⟨-, b, off, cc, h1, -, hc⟩
    · rw [h0] at hl; simp at hl; omega
    · cases h1
      rcases h with ⟨j, hj, hf, hbad, rfl, rfl⟩ | ⟨hf, rfl, rfl⟩
      · exact lf_in m hm1 hm xs b off cap w hl hc 8 j j (by omega) hf (Or.inl ⟨hj, hbad, rfl, rfl⟩)
      · exact lf_in m hm1 hm xs b off cap w hl hc 0 (ptsL m).length (-1) (Nat.le_refl _) hf (Or.inr ⟨rfl, rfl, rfl⟩)
end Go.Proofs.YtnijedeopnjklaaGreatDoor
