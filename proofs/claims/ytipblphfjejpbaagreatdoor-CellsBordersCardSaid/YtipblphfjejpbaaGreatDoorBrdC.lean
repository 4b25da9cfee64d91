/-
  The document's SameMatrix, ProductOf by contracts.
-/
import Derived.Test.YtipblphfjejpbaaGreatDoorBrdB
import Derived.IntWalk
set_option linter.unusedSimpArgs false
set_option linter.unusedVariables false
namespace Go.Proofs.YtipblphfjejpbaaGreatDoor
open Go Go.RowKit Go.Maps

/-- a matrix's value reads -/
def MatIn (B R C : Nat) (w : World) (v : Value) (l : List Int) : Prop := ∃ p c, v = .agg #[.int .i64 R, .int .i64 C, .slice p l.length c] ∧ IntsIn B w (.slice p l.length c) l
theorem MatIn.below {B R C D : Nat} {w w' : World} {v : Value} {l : List Int} (h : MatIn B R C w v l) (hb : Below D w w') (hD : w.heap.size ≤ D) : MatIn B R C w' v l := by
  obtain ⟨p, c, e, hi⟩ := h
  exact ⟨p, c, e, hi.below hb hD⟩
theorem three_cells (w : World) (x y z : Value) (t : TypeId) : ((w.alloc (.cells #[x, y, z] t)).heap[w.heap.size]? = some (.cells #[x, y, z] t (0, 0))) := heap_alloc_new w _

set_option maxHeartbeats 8000000 in
theorem sameMatrix_any (B R C : Nat) (l : List Int) (u v : Value) (w : World) (hu : MatIn B R C w u l) (hv : MatIn B R C w v l) (hl : l.length ≤ 1000000) :
    Calls Tryz.prog 18 #[u, v] w (Gives (.bool true) w) := by
  obtain ⟨p, c, rfl, hi⟩ := hu
  obtain ⟨p', c', rfl, hi'⟩ := hv
  obtain ⟨s, hs⟩ : ∃ s, l.length = s := ⟨_, rfl⟩
  rw [hs] at hi hi' ⊢
  obtain ⟨w0, hw0⟩ : ∃ w0, w0 = (w.alloc (.cells #[.int .i64 R, .int .i64 C, .slice p s c] 41)).alloc (.cells #[.int .i64 R, .int .i64 C, .slice p' s c'] 41) := ⟨_, rfl⟩
  have hb0 : Below w.heap.size w w0 := by rw [hw0]; exact ((Below.refl _ _).alloc (Nat.le_refl _) _).alloc (by simp) _
  have hk1 : w0.heap[w.heap.size]? = some (.cells #[.int .i64 R, .int .i64 C, .slice p s c] 41 (0, 0)) := by
    rw [hw0]; exact ((lit_below _ _).block _ (by simp)).trans (heap_alloc_new w _)
  have hk2 : w0.heap[w.heap.size + 1]? = some (.cells #[.int .i64 R, .int .i64 C, .slice p' s c'] 41 (0, 0)) := by
    rw [hw0]
    have h := heap_alloc_new (w.alloc (.cells #[.int .i64 R, .int .i64 C, .slice p s c] 41)) (.cells #[.int .i64 R, .int .i64 C, .slice p' s c'] 41)
    rw [lit_size] at h
    exact h
  have a0 : w0.cell? ⟨w.heap.size, 0, none⟩ = some (.int .i64 R) := (blk_at hk1 0).1
  have a1 : w0.cell? ⟨w.heap.size, 1, none⟩ = some (.int .i64 C) := (blk_at hk1 1).1
  have a2 : w0.cell? ⟨w.heap.size, 2, none⟩ = some (.slice p s c) := (blk_at hk1 2).1
  have b0 : w0.cell? ⟨w.heap.size + 1, 0, none⟩ = some (.int .i64 R) := (blk_at hk2 0).1
  have b1 : w0.cell? ⟨w.heap.size + 1, 1, none⟩ = some (.int .i64 C) := (blk_at hk2 1).1
  have b2 : w0.cell? ⟨w.heap.size + 1, 2, none⟩ = some (.slice p' s c') := (blk_at hk2 2).1
  have HSI := Lib.hid (sameInts_any _ _ l l w0 (hi.below hb0 (Nat.le_refl _)).at (hi'.below hb0 (Nat.le_refl _)).at (by omega) (by omega))
  rw [show decide (l = l) = true by simp] at HSI
  have HB0 := Lib.hid hb0
  have HW0 := Lib.hid hw0
  clear hi hi' hb0 hk1 hk2 hw0 hl hs
  go_enter Tryz.func18, Tryz.ntmps18
  go_wp2_with fail
  rw [← HW0.out]
  refine HSI.out.mono ?_
  rintro e w1 ⟨rfl, n1, rfl⟩
  go_wp2_with fail
  go_ret
  exact ⟨rfl, HB0.out.trans ((Below.drewN w0 n1).mono HB0.out.size)⟩

/-- the product's numbers, row by row -/
def dotF (l1 l2 : List Int) (K C i k : Nat) (n : Nat) : Int := sumTo (fun q => l1.getD (i * K + q) 0 * l2.getD (q * C + k) 0) n
def prodRow (l1 l2 : List Int) (K C i : Nat) (n : Nat) : List Int := (List.range n).map fun k => dotF l1 l2 K C i k K
def prodL (l1 l2 : List Int) (K C : Nat) (n : Nat) : List Int := (List.range n).flatMap fun i => prodRow l1 l2 K C i C
theorem prodRow_succ (l1 l2 : List Int) (K C i n : Nat) : prodRow l1 l2 K C i (n + 1) = prodRow l1 l2 K C i n ++ [dotF l1 l2 K C i n K] := by unfold prodRow; rw [List.range_succ, List.map_append]; rfl
theorem prodL_succ (l1 l2 : List Int) (K C n : Nat) : prodL l1 l2 K C (n + 1) = prodL l1 l2 K C n ++ prodRow l1 l2 K C n C := by unfold prodL; rw [List.range_succ, List.flatMap_append]; simp
theorem prodRow_len (l1 l2 : List Int) (K C i n : Nat) : (prodRow l1 l2 K C i n).length = n := by simp [prodRow]
theorem prodL_len (l1 l2 : List Int) (K C : Nat) : ∀ n, (prodL l1 l2 K C n).length = n * C
  | 0 => by simp [prodL]
  | n + 1 => by rw [prodL_succ, List.length_append, prodL_len l1 l2 K C n, prodRow_len, Nat.succ_mul]
theorem dotF_bd {l1 l2 : List Int} {K C i k : Nat} (h1 : ∀ x ∈ l1, -1 ≤ x ∧ x ≤ 1) (h2 : ∀ x ∈ l2, -1 ≤ x ∧ x ≤ 1) : ∀ n : Nat, -(n : Int) ≤ dotF l1 l2 K C i k n ∧ dotF l1 l2 K C i k n ≤ n
  | 0 => by simp [dotF, sumTo]
  | n + 1 => by
    have ih := dotF_bd (i := i) (k := k) (K := K) (C := C) h1 h2 n
    have hb : ∀ (l : List Int), (∀ x ∈ l, -1 ≤ x ∧ x ≤ 1) → ∀ j, l.getD j 0 = 0 ∨ l.getD j 0 = 1 ∨ l.getD j 0 = -1 := fun l h j => by
      rw [List.getD_eq_getElem?_getD]
      rcases Nat.lt_or_ge j l.length with hj | hj
      · rw [List.getElem?_eq_getElem hj]
        have := h _ (List.getElem_mem hj)
        simp only [Option.getD_some]
        omega
      · rw [List.getElem?_eq_none hj]; exact Or.inl rfl
    have e : dotF l1 l2 K C i k (n + 1) = dotF l1 l2 K C i k n + l1.getD (i * K + n) 0 * l2.getD (n * C + k) 0 := rfl
    rw [e]
    rcases hb l1 h1 (i * K + n) with h | h | h <;> rcases hb l2 h2 (n * C + k) with h' | h' | h' <;> rw [h, h'] <;> simp <;> omega

theorem wrap_nat {x : Int} {n : Nat} (h : x = (n : Int)) (hn : n ≤ 9000000000000000000) : IntKind.i64.wrap x = (n : Int) := by
  subst h
  exact IntWalk.i64_in _ (by omega)
theorem wrap_int {x : Int} (h1 : -9000000000000000000 ≤ x) (h2 : x ≤ 9000000000000000000) : IntKind.i64.wrap x = x := IntWalk.i64_in _ (by omega)

set_option maxRecDepth 100000 in
set_option maxHeartbeats 16000000 in
theorem productOf_any (B R K C : Nat) (l1 l2 : List Int) (u v : Value) (w : World) (hB : B ≤ w.heap.size) (hu : MatIn B R K w u l1) (hv : MatIn B K C w v l2) (h1l : l1.length = R * K) (h2l : l2.length = K * C) (hR : R ≤ 600) (hK : K ≤ 600) (hC : C ≤ 600)
    (hb1 : ∀ x ∈ l1, -1 ≤ x ∧ x ≤ 1) (hb2 : ∀ x ∈ l2, -1 ≤ x ∧ x ≤ 1) :
    Calls Tryz.prog 21 #[u, v] w (MatPost B R C (prodL l1 l2 K C R) w) := by
  obtain ⟨i3, hi3, hy0, hy1, hy2⟩ := info_parts Tryz.info3
  obtain ⟨p1, c1, rfl, hi1⟩ := hu
  obtain ⟨p2, c2, rfl, hi2⟩ := hv
  obtain ⟨s1, hs1⟩ : ∃ s, l1.length = s := ⟨_, rfl⟩
  obtain ⟨s2, hs2⟩ : ∃ s, l2.length = s := ⟨_, rfl⟩
  rw [hs1] at hi1 h1l ⊢
  rw [hs2] at hi2 h2l ⊢
  obtain ⟨w0, hw0⟩ : ∃ w0, w0 = (w.alloc (.cells #[.int .i64 R, .int .i64 K, .slice p1 s1 c1] 41)).alloc (.cells #[.int .i64 K, .int .i64 C, .slice p2 s2 c2] 41) := ⟨_, rfl⟩
  have hb0 : Below w.heap.size w w0 := by rw [hw0]; exact ((Below.refl _ _).alloc (Nat.le_refl _) _).alloc (by simp) _
  have hk1 : w0.heap[w.heap.size]? = some (.cells #[.int .i64 R, .int .i64 K, .slice p1 s1 c1] 41 (0, 0)) := by
    rw [hw0]; exact ((lit_below _ _).block _ (by simp)).trans (heap_alloc_new w _)
  have hk2 : w0.heap[w.heap.size + 1]? = some (.cells #[.int .i64 K, .int .i64 C, .slice p2 s2 c2] 41 (0, 0)) := by
    rw [hw0]
    have h := heap_alloc_new (w.alloc (.cells #[.int .i64 R, .int .i64 K, .slice p1 s1 c1] 41)) (.cells #[.int .i64 K, .int .i64 C, .slice p2 s2 c2] 41)
    rw [lit_size] at h
    exact h
  have hsz0 : w0.heap.size = w.heap.size + 1 + 1 := by rw [hw0]; simp
  have HI1 := Lib.hid (hi1.below hb0 (Nat.le_refl _))
  have HI2 := Lib.hid (hi2.below hb0 (Nat.le_refl _))
  have HK1 := Lib.hid hk1
  have HK2 := Lib.hid hk2
  have HB0 := Lib.hid hb0
  have HW0 := Lib.hid hw0
  have HSZ0 := Lib.hid hsz0
  have HS1 := Lib.hid hs1
  have HS2 := Lib.hid hs2
  have H1L := Lib.hid h1l
  have H2L := Lib.hid h2l
  have HBD := Lib.hid (fun i k n => dotF_bd (K := K) (C := C) (i := i) (k := k) hb1 hb2 n)
  have HST0 := Lib.hid (BordSt.start w0 R C)
  have HB := Lib.hid hB
  have HX1 := Lib.hid hb1
  have HX2 := Lib.hid hb2
  have hlt0 : w.heap.size + 1 < w0.heap.size := by omega
  have hRC : R * C ≤ 360000 := Nat.mul_le_mul hR hC
  have HRC := Lib.hid hRC
  clear hi1 hi2 hb0 hk1 hk2 hw0 h1l h2l hb1 hb2 hB hsz0 hs1 hs2 hRC
  unfold MatPost
  go_enter Tryz.func21, Tryz.ntmps21
  go_wp2_with fail
  rw [← HW0.out]
  rw [← HSZ0.out]
  go_loopw [6, 7, 8, 9] (fun i _ _ _ wr => ∃ (j : Nat) (x : Value), j ≤ R ∧ i = .int .i64 j ∧ BordSt w0 wr R C x (prodL l1 l2 K C j)) (fun i _ _ _ _ => R - (intOf i).toNat)
  case atStart => exact ⟨0, _, Nat.zero_le _, rfl, HST0.out⟩
  case round =>
    obtain ⟨j, x, hj, rfl, hst⟩ := hrel
    obtain ⟨wo, rfl⟩ : ∃ wo : World, wo = wr := ⟨_, rfl⟩
    have HST := Lib.hid hst
    have hko1 := (hst.1.block _ (Nat.lt_trans (Nat.lt_succ_self _) hlt0)).trans HK1.out
    have o0 : wo.cell? ⟨w.heap.size, 0, none⟩ = some (.int .i64 R) := (blk_at hko1 0).1
    clear hst hko1
    by_cases hjn : j < R
    · go_wp2_with fail
      go_loopw [7, 8, 9] (fun k _ _ wr => ∃ (q : Nat) (x : Value), q ≤ C ∧ k = .int .i64 q ∧ BordSt w0 wr R C x (prodL l1 l2 K C j ++ prodRow l1 l2 K C j q)) (fun k _ _ _ => C - (intOf k).toNat)
      case atStart => exact ⟨0, x, Nat.zero_le _, rfl, by simpa [prodRow] using HST.out⟩
      case round =>
        obtain ⟨q, x, hq, rfl, hst⟩ := hrel
        obtain ⟨wp, rfl⟩ : ∃ wp : World, wp = wr := ⟨_, rfl⟩
        have HSQ := Lib.hid hst
        have hkp1 := (hst.1.block _ (Nat.lt_trans (Nat.lt_succ_self _) hlt0)).trans HK1.out
        have hkp2 := (hst.1.block _ hlt0).trans HK2.out
        have p0 : wp.cell? ⟨w.heap.size, 1, none⟩ = some (.int .i64 K) := (blk_at hkp1 1).1
        have p9 : wp.cell? ⟨w.heap.size, 2, none⟩ = some (.slice p1 s1 c1) := (blk_at hkp1 2).1
        have r0 : wp.cell? ⟨w.heap.size + 1, 1, none⟩ = some (.int .i64 C) := (blk_at hkp2 1).1
        have r9 : wp.cell? ⟨w.heap.size + 1, 2, none⟩ = some (.slice p2 s2 c2) := (blk_at hkp2 2).1
        have HBP := Lib.hid hst.1
        obtain ⟨px, cx, hxe⟩ := hst.slice
        have hlen : (prodL l1 l2 K C j ++ prodRow l1 l2 K C j q).length ≤ 400000 := by
          rw [List.length_append, prodL_len, prodRow_len]
          have h1 : j * C ≤ 600 * 600 := Nat.mul_le_mul (by omega) hC
          omega
        obtain ⟨s, hs⟩ : ∃ s, (prodL l1 l2 K C j ++ prodRow l1 l2 K C j q).length = s := ⟨_, rfl⟩
        rw [hs] at hxe hlen
        subst hxe
        have HS := Lib.hid hs
        clear hst hkp1 hkp2 hs
        by_cases hqm : q < C
        · go_wp2_with fail
          go_loopw [8, 9] (fun sm y wr => ∃ (t d : Nat), t ≤ K ∧ y = .int .i64 t ∧ sm = .int .i64 (dotF l1 l2 K C j q t) ∧ wr = wp.drewN d) (fun _ y _ => K - (intOf y).toNat)
          case atStart => exact ⟨0, 0, Nat.zero_le _, rfl, rfl, rfl⟩
          case round =>
            obtain ⟨t, d, ht, rfl, rfl, rfl⟩ := hrel
            obtain ⟨hd1, hd2⟩ := HBD.out j q t
            have HDS : Hid (dotF l1 l2 K C j q (t + 1) = dotF l1 l2 K C j q t + l1.getD (j * K + t) 0 * l2.getD (t * C + q) 0) := rfl
            obtain ⟨dt, hdt⟩ : ∃ dt, dotF l1 l2 K C j q t = dt := ⟨_, rfl⟩
            rw [hdt] at hd1 hd2 HDS
            have HDT := Lib.hid hdt
            rw [hdt]
            clear hdt
            by_cases htk : t < K
            · have hx1 : j * K + t < s1 := by
                rw [H1L.out]
                have h1 : j * K + K ≤ R * K := by rw [← Nat.succ_mul]; exact Nat.mul_le_mul_right _ hjn
                omega
              have hx2 : t * C + q < s2 := by
                rw [H2L.out]
                have h1 : t * C + C ≤ K * C := by rw [← Nat.succ_mul]; exact Nat.mul_le_mul_right _ htk
                omega
              have hs1b : s1 ≤ 360000 := by rw [H1L.out]; exact Nat.mul_le_mul hR hK
              have hs2b : s2 ≤ 360000 := by rw [H2L.out]; exact Nat.mul_le_mul hK hC
              obtain ⟨p', c', hv', -, -, hxx⟩ := id (HI1.out.below HBP.out (Nat.le_refl _)).at
              obtain ⟨b1, o1, e1, e2⟩ := hxx (j * K + t) (by rw [HS1.out]; exact hx1)
              obtain ⟨rfl, rfl⟩ : p' = p1 ∧ c' = c1 := by cases hv'; exact ⟨rfl, rfl⟩
              subst e1
              clear hv'
              obtain ⟨p', c', hv', -, -, hyy⟩ := id (HI2.out.below HBP.out (Nat.le_refl _)).at
              obtain ⟨b2, o2, e3, e4⟩ := hyy (t * C + q) (by rw [HS2.out]; exact hx2)
              obtain ⟨rfl, rfl⟩ : p' = p2 ∧ c' = c2 := by cases hv'; exact ⟨rfl, rfl⟩
              subst e3
              clear hv'
              obtain ⟨ix, hix⟩ : ∃ ix, j * K + t = ix := ⟨_, rfl⟩
              obtain ⟨iy, hiy⟩ : ∃ iy, t * C + q = iy := ⟨_, rfl⟩
              obtain ⟨aN, haN⟩ : ∃ aN, j * K = aN := ⟨_, rfl⟩
              obtain ⟨bN, hbN⟩ : ∃ bN, t * C = bN := ⟨_, rfl⟩
              rw [hix] at e2 hx1 HDS
              rw [hiy] at e4 hx2 HDS
              rw [haN] at hix
              rw [hbN] at hiy
              have hxa : -1 ≤ l1.getD ix 0 ∧ l1.getD ix 0 ≤ 1 := HX1.out _ (by rw [List.getD_eq_getElem?_getD, List.getElem?_eq_getElem (by rw [HS1.out]; exact hx1)]; exact List.getElem_mem _)
              have hya : -1 ≤ l2.getD iy 0 ∧ l2.getD iy 0 ≤ 1 := HX2.out _ (by rw [List.getD_eq_getElem?_getD, List.getElem?_eq_getElem (by rw [HS2.out]; exact hx2)]; exact List.getElem_mem _)
              obtain ⟨xa, hxe⟩ : ∃ xa, l1.getD ix 0 = xa := ⟨_, rfl⟩
              obtain ⟨ya, hye⟩ : ∃ ya, l2.getD iy 0 = ya := ⟨_, rfl⟩
              rw [hxe] at e2 hxa HDS
              rw [hye] at e4 hya HDS
              obtain ⟨pr, hpr⟩ : ∃ pr, xa * ya = pr := ⟨_, rfl⟩
              have hprb : -1 ≤ pr ∧ pr ≤ 1 := by
                rcases (show xa = 0 ∨ xa = 1 ∨ xa = -1 by omega) with h | h | h <;> rcases (show ya = 0 ∨ ya = 1 ∨ ya = -1 by omega) with h' | h' | h' <;> rw [h, h'] at hpr <;> simp at hpr <;> omega
              have m1 : IntKind.i64.wrap ((j : Int) * (K : Int)) = (aN : Int) := wrap_nat (by rw [← haN]; simp) (by omega)
              have m2 : IntKind.i64.wrap ((aN : Int) + (t : Int)) = (ix : Int) := wrap_nat (by rw [← hix]; simp) (by omega)
              have m3 : IntKind.i64.wrap ((t : Int) * (C : Int)) = (bN : Int) := wrap_nat (by rw [← hbN]; simp) (by omega)
              have m4 : IntKind.i64.wrap ((bN : Int) + (q : Int)) = (iy : Int) := wrap_nat (by rw [← hiy]; simp) (by omega)
              have m5 : IntKind.i64.wrap (xa * ya) = pr := by rw [hpr]; exact wrap_int (by omega) (by omega)
              have m6 : IntKind.i64.wrap (dt + pr) = dt + pr := wrap_int (by omega) (by omega)
              rw [hpr] at HDS
              have i1 : (0 : Int) ≤ (ix : Int) := by omega
              have i2 : (ix : Int) < (s1 : Int) := by omega
              have i3' : (0 : Int) ≤ (iy : Int) := by omega
              have i4 : (iy : Int) < (s2 : Int) := by omega
              have hmeas : K - (t + 1) < K - t := by omega
              have hle : t + 1 ≤ K := by omega
              have HLE := Lib.hid hle
              have HME := Lib.hid hmeas
              clear hxx hyy haN hbN hix hiy hxe hye hpr hprb hxa hya hd1 hd2 hle hmeas
              go_wp2_with fail
              go_quiet (fail)
              go_wp2_with fail
              go_roundw
              case rel => exact ⟨t + 1, _, HLE.out, by go_num, by rw [HDS.out], by first | rfl | exact World.drewN_drewN _ _ _⟩
              case measure => simp [intOf]; exact HME.out
            · obtain rfl : t = K := by omega
              obtain ⟨w1, hw1⟩ : ∃ w1, w1 = wp.drewN d := ⟨_, rfl⟩
              rw [← hw1]
              have hb1 : Below wp.heap.size wp w1 := by rw [hw1]; exact Below.drewN wp d
              have HS1' := Lib.hid (HSQ.out.below hb1)
              have hcm : w1.cell? ⟨w0.heap.size + 1, 2, none⟩ = some (.slice px s cx) := (blk_at HS1'.out.2.2.1 2).1
              have hs1 : w0.heap.size + 2 ≤ w1.heap.size := (Array.getElem?_eq_some_iff.1 HS1'.out.2.2.1).1
              have HO := Lib.hid HS1'.out.2.2.2
              rw [HS.out] at HO
              have p01 := (hb1.cell (p := ⟨w.heap.size, 1, none⟩) (mem_lt p0)).trans p0
              clear hw1 hb1 o0 p0 p9 r0 r9 hd1 hd2
              go_wp2_with (at_builtin; refine wpList_append_lies _ rfl (.tmp 57) (.tmp 59) 26 rfl (w0.heap.size + 2) 3 i3 (.int .i64 0) 1 8 Tryz.underlying26 hi3 hy0 hy1 hy2 rfl (by decide) (.slice px s cx) s _ rfl (HO.out.alloc _) ⟨w1.heap.size, 0, none⟩ 1 1 [.int .i64 dt] rfl rfl (World.news_of_block (cs := #[.int .i64 dt]) (t := 3) (fr := (0, 0)) (heap_alloc_new w1 _)) (by simp [Value.oneCell']) (by decide) (by unfold maxLen; omega) (by omega) (by simp; omega) (w1.heap.size + 1) (by simp) ?_; intro g2 c2 w9 hown2 hgr2 hat2 hlt2; have hpu := BordSt.push (e := dt) HS1'.out (by rw [HS.out]; exact hown2) hgr2; have hcell9 : w9.cell? ⟨w0.heap.size + 1, 2, none⟩ = some (.slice px s cx) := (blk_at hpu.1 2).1; have hfrz9 := (blk_at hpu.1 2).2; have HPU := Lib.hid hpu.2; clear hown2 hgr2 hat2 hlt2 hpu)
              go_roundw
              case rel =>
                refine ⟨q + 1, .slice (some ⟨g2, 0, none⟩) (s + 1) c2, by omega, by go_num, ?_⟩
                rw [prodRow_succ, ← List.append_assoc, HDT.out]
                exact HPU.out
              case measure => simp [intOf]; omega
        · obtain rfl : q = C := by omega
          rw [← prodL_succ] at HSQ
          clear p0 p9 r9
          go_wp2_with fail
          go_roundw
          case rel => exact ⟨j + 1, _, by omega, by go_num, HSQ.out⟩
          case measure => simp [intOf]; omega
    · obtain rfl : j = R := by omega
      have hst := HST.out
      obtain ⟨px, cx, hxe⟩ := hst.slice
      have hrow := ints_owned (B := B) hst.2.2.2 rfl
      rw [hxe] at hrow
      obtain ⟨s, hs⟩ : ∃ s, (prodL l1 l2 K C j).length = s := ⟨_, rfl⟩
      rw [hs] at hxe hrow
      subst hxe
      have hk0 := hst.2.1
      have hk1 := hst.2.2.1
      obtain ⟨wf, hwf⟩ : ∃ wf, wf = ((wo.setCell ⟨w0.heap.size, 0, none⟩ (.int .i64 j)).setCell ⟨w0.heap.size, 1, none⟩ (.int .i64 C)).setCell ⟨w0.heap.size, 2, none⟩ (.slice px s cx) := ⟨_, rfl⟩
      have hgf : wo.grownBy wf (some w0.heap.size) := by rw [hwf]; exact ((grown_at wo w0.heap.size 0 _).trans (grown_at _ w0.heap.size 1 _)).trans (grown_at _ w0.heap.size 2 _)
      have hkf : wf.heap[w0.heap.size]? = some (.cells #[.int .i64 j, .int .i64 C, .slice px s cx] 41 (0, 0)) := by rw [hwf]; exact set_block (set_block (set_block hk0))
      have HFIN := Lib.hid (hrow.grown hgf (fun k e => by
        obtain rfl := Option.some.inj e
        exact ⟨Nat.le_trans HB.out HB0.out.size, fun c e => by rw [hk0] at e; cases e⟩))
      have HBF := Lib.hid (HB0.out.trans ((hst.1.grown hgf hst.1.size (fun k e => by have := Option.some.inj e; omega)).mono HB0.out.size))
      have HKF := Lib.hid hkf
      have HWF := Lib.hid hwf
      have c0 : wo.cell? ⟨w0.heap.size + 1, 0, none⟩ = some (.int .i64 j) := (blk_at hk1 0).1
      have c1 : wo.cell? ⟨w0.heap.size + 1, 1, none⟩ = some (.int .i64 C) := (blk_at hk1 1).1
      have c2 : wo.cell? ⟨w0.heap.size + 1, 2, none⟩ = some (.slice px s cx) := (blk_at hk1 2).1
      have d0 : wo.cell? ⟨w0.heap.size, 0, none⟩ = some (.int .i64 0) := (blk_at hk0 0).1
      have d1 : wo.cell? ⟨w0.heap.size, 1, none⟩ = some (.int .i64 0) := (blk_at hk0 1).1
      have d2 : wo.cell? ⟨w0.heap.size, 2, none⟩ = some (.slice none 0 0) := (blk_at hk0 2).1
      have f0 := (blk_at hk0 0).2
      have f1 := (blk_at hk0 1).2
      have f2 := (blk_at hk0 2).2
      have HS := Lib.hid hs
      clear hwf hgf hkf hrow hst hk0 hk1 hs
      go_wp2_with fail
      rw [← HWF.out]
      have r0 : wf.cell? ⟨w0.heap.size, 0, none⟩ = some (.int .i64 j) := (blk_at HKF.out 0).1
      have r1 : wf.cell? ⟨w0.heap.size, 1, none⟩ = some (.int .i64 C) := (blk_at HKF.out 1).1
      have r2 : wf.cell? ⟨w0.heap.size, 2, none⟩ = some (.slice px s cx) := (blk_at HKF.out 2).1
      refine bodyPost_ret (v := .agg #[.int .i64 j, .int .i64 C, .slice px s cx]) (by simp [results, Tryz.results21, go_sem, r0, r1, r2]) rfl ?_
      rw [HS.out]
      exact ⟨px, cx, rfl, HBF.out, HFIN.out⟩
end Go.Proofs.YtipblphfjejpbaaGreatDoor
