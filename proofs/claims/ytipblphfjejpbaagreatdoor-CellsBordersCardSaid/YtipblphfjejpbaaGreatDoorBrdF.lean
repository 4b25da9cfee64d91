/-
  cells.Boundary by a contract, where nothing is wrong.
-/
import Derived.Test.YtipblphfjejpbaaGreatDoorBrdE
set_option linter.unusedSimpArgs false
set_option linter.unusedVariables false
namespace Go.Proofs.YtipblphfjejpbaaGreatDoor
open Go Go.RowKit Go.Maps

theorem make_ints (N : Nat) (hN : N ≤ 400000) (w : World) : Sem.run Tryz.prog (Instr.makeSlice 26 (.int .i64 (N : Int)) (.int .i64 (N : Int))) w = .ok (.slice (some ⟨w.heap.size, 0, none⟩) N N) (w.alloc (.cells (numArr (fun _ => 0) N) 3)) := by
  obtain ⟨i3, hi3, hy0, hy1, hy2⟩ := info_parts Tryz.info3
  have h := run_make (P := Tryz.prog) w 26 3 i3 (.int .i64 0) Tryz.underlying26 hi3 hy0 .i64 .i64 (N : Int) (N : Int) (by omega) (by omega) (by rw [hy2]; omega) (by omega)
  rw [Int.toNat_natCast, hy1, Nat.mul_one] at h
  rw [← numArr_zero]
  exact h
theorem numIn {w : World} {B g N : Nat} {F : Nat → Int} {l : List Int} (h : w.heap[g]? = some (.cells (numArr F N) 3 (0, 0))) (hl : l.length = N) (hF : ∀ ix, ix < N → F ix = l.getD ix 0) : IntsIn B w (.slice (some ⟨g, 0, none⟩) N N) l := by
  refine ⟨_, N, by rw [hl], by rw [hl]; exact Nat.le_refl _, (fun e => by cases e), fun i hi => ⟨g, 0, rfl, ?_, Or.inr ⟨_, h⟩⟩⟩
  rw [hl] at hi
  rw [Nat.zero_add, (blk_at h i).1, numArr_at F N i hi, hF i hi]

/-- while the matrix is filled -/
def FillSt (wt wr : World) (R C N : Nat) (rows cols : List (List Int)) (F : Nat → Int) (k i : Nat) : Prop :=
  Below wt.heap.size wt wr ∧ wr.heap[wt.heap.size]? = some (.cells (numArr F N) 3 (0, 0)) ∧ wr.heap[wt.heap.size + 1]? = some (.cells #[.int .i64 R, .int .i64 C, .slice (some ⟨wt.heap.size, 0, none⟩) N N] 28 (0, 0)) ∧
    IMap wr (wt.heap.size + 2) R rows ∧ BrdF rows cols F k i
theorem FillSt.below {wt wr w' : World} {R C N : Nat} {rows cols : List (List Int)} {F : Nat → Int} {k i : Nat} (h : FillSt wt wr R C N rows cols F k i) (hb : Below wr.heap.size wr w') : FillSt wt w' R C N rows cols F k i :=
  ⟨h.1.trans (hb.mono h.1.size), (hb.block _ (Array.getElem?_eq_some_iff.1 h.2.1).1).trans h.2.1, (hb.block _ (Array.getElem?_eq_some_iff.1 h.2.2.1).1).trans h.2.2.1, h.2.2.2.1.below hb (Nat.le_refl _), h.2.2.2.2⟩
theorem FillSt.lt {wt wr : World} {R C N : Nat} {rows cols : List (List Int)} {F : Nat → Int} {k i : Nat} (h : FillSt wt wr R C N rows cols F k i) : wt.heap.size + 2 < wr.heap.size := by
  obtain ⟨Dm, hown, -⟩ := h.2.2.2.1
  exact hown.lt
theorem FillSt.put {wt wr : World} {R C N k i r0 : Nat} {rows cols : List (List Int)} {F : Nat → Int} (h : FillSt wt wr R C N rows cols F k i) (x : Int) (F' : Nat → Int) (hF : F' = upd F r0 x) (k' i' : Nat) (hB : BrdF rows cols F' k' i') : FillSt wt (wr.setCell ⟨wt.heap.size, r0, none⟩ (.int .i64 x)) R C N rows cols F' k' i' := by
  have hg := grown_at wr wt.heap.size r0 (.int .i64 x)
  refine ⟨h.1.grown hg h.1.size (fun k e => by have := Option.some.inj e; omega), ?_, ?_, h.2.2.2.1.grown hg (fun e => by have := Option.some.inj e; omega), hB⟩
  · rw [hF, ← numArr_set]; exact set_block h.2.1
  · exact (hg.block _ (Array.getElem?_eq_some_iff.1 h.2.2.1).1 (fun e => by have := Option.some.inj e; omega)).trans h.2.2.1

set_option maxRecDepth 100000 in
set_option maxHeartbeats 16000000 in
theorem boundary_ok (a : Nat → Addr) (B : Nat) (L : List (List Int)) (dim : Int) (v : Value) (w : World) (hS : Sents w a) (hB : B ≤ w.heap.size) (hv : ListsIn B w v L) (hn : L.length ≤ 100000) (hl : ∀ l ∈ L, l.length ≤ 100000) (he : errX L = 0) (hd0 : 0 ≤ dim) (hd7 : dim ≤ 7) :
    Calls Tryz.prog 13 #[.agg #[v], .int .i64 dim] w (BrdPost a B L dim w) := by
  obtain ⟨i3, hi3, hy0, hy1, hy2⟩ := info_parts Tryz.info3
  have hmm := @run_makeMap Tryz.prog
  obtain ⟨pv, cv, hve, -⟩ := id hv
  generalize hLn : L.length = n at hve
  subst hve
  obtain ⟨w0, hw0⟩ : ∃ w0, w0 = (w.alloc (.cells #[.slice pv n cv] 34)).alloc (.cells #[.int .i64 0, .int .i64 0, .slice none 0 0] 28) := ⟨_, rfl⟩
  have hb0 : Below w.heap.size w w0 := by rw [hw0]; exact ((Below.refl _ _).alloc (Nat.le_refl _) _).alloc (by simp) _
  have hk2 : w0.heap[w.heap.size + 1]? = some (.cells #[.int .i64 0, .int .i64 0, .slice none 0 0] 28 (0, 0)) := by
    rw [hw0]
    have h := heap_alloc_new (w.alloc (.cells #[.slice pv n cv] 34)) (.cells #[.int .i64 0, .int .i64 0, .slice none 0 0] 28)
    rw [lit_size] at h
    exact h
  have HB0 := Lib.hid hb0
  have HW0 := Lib.hid hw0
  have HK2 := Lib.hid hk2
  have HBB := Lib.hid hB
  have HC := Lib.hid (table_any a B L (.slice pv n cv) w0 (hS.below hb0 (Nat.le_refl _)) (Nat.le_trans hB hb0.size) (hv.below hb0 (Nat.le_refl _)) hn hl)
  have HE := Lib.hid he
  have HOK := Lib.hid (errC_ok (errX_ok he).1)
  have HE0 := Lib.hid (errX_ok he).1
  have HEB : Hid (errB L dim = 0) := by unfold Hid errB; rw [if_pos he, if_pos ⟨hd0, hd7⟩]
  unfold TabPost at HC
  unfold BrdPost
  clear hS hB hv hn hl hb0 he hLn hw0 hk2
  obtain ⟨rows, hrows⟩ : ∃ rows, dimF (allF L) (dim - 1) = rows := ⟨_, rfl⟩
  obtain ⟨cols, hcols⟩ : ∃ cols, dimF (allF L) dim = cols := ⟨_, rfl⟩
  have hR6 : rows.length ≤ 600 := by rw [← hrows]; exact Nat.le_trans (dimF_len _ _) HOK.out.2.2
  have hC6 : cols.length ≤ 600 := by rw [← hcols]; exact Nat.le_trans (dimF_len _ _) HOK.out.2.2
  obtain ⟨R, hR⟩ : ∃ R, rows.length = R := ⟨_, rfl⟩
  obtain ⟨C, hC⟩ : ∃ C, cols.length = C := ⟨_, rfl⟩
  rw [hR] at hR6
  rw [hC] at hC6
  rw [hrows, hcols, hR, hC]
  have HROWS := Lib.hid hrows
  have HCOLS := Lib.hid hcols
  have HR := Lib.hid hR
  have HCC := Lib.hid hC
  have hN : R * C ≤ 360000 := Nat.mul_le_mul hR6 hC6
  obtain ⟨N, hNe⟩ : ∃ N, R * C = N := ⟨_, rfl⟩
  rw [hNe] at hN
  have HN := Lib.hid hNe
  have mN : IntKind.i64.wrap ((R : Int) * (C : Int)) = (N : Int) := wrap_nat (by rw [← hNe]; simp) (by omega)
  clear hrows hcols hR hC hNe
  go_enter Tryz.func13, Tryz.ntmps13
  go_wp2_with fail
  rw [← HW0.out]
  refine HC.out.mono ?_
  rintro e w1 ⟨hb1, ⟨h0, tv, rfl, hT⟩ | ⟨k, hk, hek, rfl⟩⟩
  rotate_left
  · exact absurd HE.out (by omega)
  have HB1 := Lib.hid (HB0.out.trans (hb1.mono HB0.out.size))
  have hk1 := (hb1.block _ (Array.getElem?_eq_some_iff.1 HK2.out).1).trans HK2.out
  have htab := hT.tab
  obtain ⟨pt, ct, hte, -⟩ := id htab
  generalize (tableF (allF L)).length = nt at hte
  subst hte
  obtain ⟨wt, hwt⟩ : ∃ wt, wt = w1.alloc (.cells #[.slice pt nt ct] 82) := ⟨_, rfl⟩
  have hbt : Below w1.heap.size w1 wt := by rw [hwt]; exact (Below.refl _ _).alloc (Nat.le_refl _) _
  have hkt : wt.heap[w1.heap.size]? = some (.cells #[.slice pt nt ct] 82 (0, 0)) := by rw [hwt]; exact heap_alloc_new w1 _
  have hct := (one_at hkt).1
  have hzk := (hbt.block _ (Array.getElem?_eq_some_iff.1 hk1).1).trans hk1
  have HZK := Lib.hid hzk
  have HBT := Lib.hid (HB1.out.trans (hbt.mono HB1.out.size))
  have HWT := Lib.hid hwt
  have HT1 := Lib.hid (boundary1_any B w1.heap.size L (dim - 1) _ wt hct (htab.below hbt (Nat.le_refl _)) HE0.out)
  have HT2 := Lib.hid (boundary1_any B w1.heap.size L dim _ wt hct (htab.below hbt (Nat.le_refl _)) HE0.out)
  unfold DimP at HT1 HT2
  rw [HROWS.out, HR.out] at HT1
  rw [HCOLS.out, HCC.out] at HT2
  have hsub : IntKind.i64.wrap (dim - 1) = dim - 1 := wrap_int (by omega) (by omega)
  have q1 : decide (dim < 0) = false := decide_eq_false (by omega)
  have q2 : decide (7 < dim) = false := decide_eq_false (by omega)
  have hszt : w.heap.size + 1 < wt.heap.size := (Array.getElem?_eq_some_iff.1 hzk).1
  clear hb1 h0 hk1 hT htab hwt hbt hkt hct hzk HC
  go_wp2_with fail
  rw [← HWT.out]
  refine HT1.out.mono ?_
  rintro e w' ⟨pr, cr, rfl, hw', hrl⟩
  rw [hw']
  have HRL := Lib.hid hrl
  clear hrl hw'
  go_wp2_with fail
  refine HT2.out.mono ?_
  rintro e w' ⟨pc, cc, rfl, hw', hcl⟩
  rw [hw']
  have HCL := Lib.hid hcl
  clear hcl hw'
  have hmk := make_ints N (by omega)
  go_upto_region 9 with (fail)
  obtain ⟨w3, hw3⟩ : ∃ w3, w3 = (wt.alloc (.cells (numArr (fun _ => 0) N) 3)).alloc (.cells #[.int .i64 R, .int .i64 C, .slice (some ⟨wt.heap.size, 0, none⟩) N N] 28) := ⟨_, rfl⟩
  rw [← hw3]
  have hs3 : w3.heap.size = wt.heap.size + 2 := by rw [hw3]; simp
  have hb3 : Below wt.heap.size wt w3 := by rw [hw3]; exact ((Below.refl _ _).alloc (Nat.le_refl _) _).alloc (by simp) _
  have hg3 : w3.heap[wt.heap.size]? = some (.cells (numArr (fun _ => 0) N) 3 (0, 0)) := by
    rw [hw3]; exact ((lit_below _ _).block _ (by simp)).trans (heap_alloc_new wt _)
  have hm3 : w3.heap[wt.heap.size + 1]? = some (.cells #[.int .i64 R, .int .i64 C, .slice (some ⟨wt.heap.size, 0, none⟩) N N] 28 (0, 0)) := by
    rw [hw3]
    have h := heap_alloc_new (wt.alloc (.cells (numArr (fun _ => 0) N) 3)) (.cells #[.int .i64 R, .int .i64 C, .slice (some ⟨wt.heap.size, 0, none⟩) N N] 28)
    rw [lit_size] at h
    exact h
  have HW3 := Lib.hid hw3
  have HB3 := Lib.hid hb3
  have HG3 := Lib.hid hg3
  have HM3 := Lib.hid hm3
  have HS3 := Lib.hid hs3
  clear hmk hw3 hb3 hg3 hm3 hs3
  have HBL : Hid ((brdL rows cols).length = N) := by unfold Hid; rw [brdL_len, HR.out, HCC.out, HN.out]
  have HFIN : Hid (∀ (wl : World) (F : Nat → Int), Below wt.heap.size wt wl → wl.heap[wt.heap.size]? = some (.cells (numArr F N) 3 (0, 0)) → (∀ ix, ix < N → F ix = (brdL rows cols).getD ix 0) →
      ∃ wf, wf = ((wl.setCell ⟨w.heap.size + 1, 0, none⟩ (.int .i64 R)).setCell ⟨w.heap.size + 1, 1, none⟩ (.int .i64 C)).setCell ⟨w.heap.size + 1, 2, none⟩ (.slice (some ⟨wt.heap.size, 0, none⟩) N N) ∧ Below w.heap.size w wf ∧ IntsIn B wf (.slice (some ⟨wt.heap.size, 0, none⟩) N N) (brdL rows cols) ∧
        wf.heap[w.heap.size + 1]? = some (.cells #[.int .i64 R, .int .i64 C, .slice (some ⟨wt.heap.size, 0, none⟩) N N] 28 (0, 0)) ∧ wl.heap[w.heap.size + 1]? = some (.cells #[.int .i64 0, .int .i64 0, .slice none 0 0] 28 (0, 0))) := by
    intro wl F hb hg hF
    have hz : wl.heap[w.heap.size + 1]? = some (.cells #[.int .i64 0, .int .i64 0, .slice none 0 0] 28 (0, 0)) := (hb.block _ hszt).trans HZK.out
    have hgr : wl.grownBy (((wl.setCell ⟨w.heap.size + 1, 0, none⟩ (.int .i64 R)).setCell ⟨w.heap.size + 1, 1, none⟩ (.int .i64 C)).setCell ⟨w.heap.size + 1, 2, none⟩ (.slice (some ⟨wt.heap.size, 0, none⟩) N N)) (some (w.heap.size + 1)) := ((grown_at _ (w.heap.size + 1) 0 _).trans (grown_at _ (w.heap.size + 1) 1 _)).trans (grown_at _ (w.heap.size + 1) 2 _)
    have hbw := HBT.out.trans (hb.mono HBT.out.size)
    refine ⟨_, rfl, hbw.grown hgr hbw.size (fun k e => by have := Option.some.inj e; omega), numIn ((hgr.block _ (Array.getElem?_eq_some_iff.1 hg).1 (fun e => by have := Option.some.inj e; omega)).trans hg) HBL.out hF, set_block (set_block (set_block hz)), hz⟩
  by_cases hz : dim = 0
  · have q3 : (dim == 0) = true := beq_iff_eq.2 hz
    have hRz : rows = [] := by rw [← HROWS.out, hz]; exact dimF_none (Or.inl (by decide))
    have hNz : N = 0 := by rw [← HN.out, ← HR.out, hRz]; simp
    obtain ⟨wf, hwf, hbf, hif, hkf, hkz⟩ := HFIN.out w3 (fun _ => 0) HB3.out HG3.out (fun ix h => by omega)
    have c0 : w3.cell? ⟨wt.heap.size + 1, 0, none⟩ = some (.int .i64 R) := (blk_at HM3.out 0).1
    have c1 : w3.cell? ⟨wt.heap.size + 1, 1, none⟩ = some (.int .i64 C) := (blk_at HM3.out 1).1
    have c2 : w3.cell? ⟨wt.heap.size + 1, 2, none⟩ = some (.slice (some ⟨wt.heap.size, 0, none⟩) N N) := (blk_at HM3.out 2).1
    have d0 : w3.cell? ⟨w.heap.size + 1, 0, none⟩ = some (.int .i64 0) := (blk_at hkz 0).1
    have d1 : w3.cell? ⟨w.heap.size + 1, 1, none⟩ = some (.int .i64 0) := (blk_at hkz 1).1
    have d2 : w3.cell? ⟨w.heap.size + 1, 2, none⟩ = some (.slice none 0 0) := (blk_at hkz 2).1
    have f0 := (blk_at hkz 0).2
    have f1 := (blk_at hkz 1).2
    have f2 := (blk_at hkz 2).2
    have R0 : Hid (wf.cell? ⟨w.heap.size + 1, 0, none⟩ = some (.int .i64 R)) := (blk_at hkf 0).1
    have R1 : Hid (wf.cell? ⟨w.heap.size + 1, 1, none⟩ = some (.int .i64 C)) := (blk_at hkf 1).1
    have R2 : Hid (wf.cell? ⟨w.heap.size + 1, 2, none⟩ = some (.slice (some ⟨wt.heap.size, 0, none⟩) N N)) := (blk_at hkf 2).1
    have HWF := Lib.hid hwf
    have HBF := Lib.hid hbf
    have HIF := Lib.hid hif
    clear hz hRz hNz hwf hbf hif hkf hkz
    go_wp2_with fail
    rw [← HWF.out]
    refine bodyPost_ret (v := .tuple #[.agg #[.int .i64 R, .int .i64 C, .slice (some ⟨wt.heap.size, 0, none⟩) N N], .nilIface]) (by simp [results, Tryz.results13, go_sem, R0.out, R1.out, R2.out]) rfl ?_
    exact ⟨HBF.out, Or.inl ⟨HEB.out, _, rfl, _, _, by rw [HBL.out], by rw [HBL.out]; exact HIF.out⟩⟩
  · have q3 : (dim == 0) = false := beq_eq_false_iff_ne.2 hz
    go_upto_region 12 with (fail)
    have hd1 : 1 ≤ dim := by omega
    have hnd : rows.Nodup := by rw [← HROWS.out]; exact (allF_sorted L).nodup.filter _
    have hmr : ∀ r ∈ rows, IsF L r ∧ (r.length : Int) - 1 = dim - 1 := fun r hr => by
      rw [← HROWS.out] at hr
      exact ⟨mem_allF.1 (List.mem_filter.1 hr).1, by simpa using (List.mem_filter.1 hr).2⟩
    have hmc : ∀ r ∈ cols, IsF L r ∧ (r.length : Int) - 1 = dim := fun r hr => by
      rw [← HCOLS.out] at hr
      exact ⟨mem_allF.1 (List.mem_filter.1 hr).1, by simpa using (List.mem_filter.1 hr).2⟩
    have HMC := Lib.hid hmc
    have HND := Lib.hid hnd
    have HRV : Hid (∀ r ∈ rows, Vtx r) := fun r hr x hx => isF_bd HOK.out.1 (hmr r hr).1 x hx
    have HRL7 : Hid (∀ r ∈ rows, r.length ≤ 7) := fun r hr => isF_len HOK.out.2.1 (hmr r hr).1
    have HRR : Hid (∀ r ∈ rows, Rise r) := fun r hr => isF_rise HOK.out.1 (hmr r hr).1
    have HCV : Hid (∀ r ∈ cols, Vtx r) := fun r hr x hx => isF_bd HOK.out.1 (hmc r hr).1 x hx
    have HCL7 : Hid (∀ r ∈ cols, r.length ≤ 7) := fun r hr => isF_len HOK.out.2.1 (hmc r hr).1
    have HCR : Hid (∀ r ∈ cols, Rise r) := fun r hr => isF_rise HOK.out.1 (hmc r hr).1
    have HINR : Hid (∀ f ∈ cols, ∀ i, i < f.length → ∃ r0, r0 < R ∧ rows.getD r0 [] = f.eraseIdx i) := fun f hf i hi => by
      obtain ⟨h1, h2⟩ := hmc f hf
      have hl : (f.eraseIdx i).length = f.length - 1 := by rw [List.length_eraseIdx, if_pos hi]
      have hmem : f.eraseIdx i ∈ rows := by
        rw [← HROWS.out]
        refine List.mem_filter.2 ⟨mem_allF.2 (isF_sub h1 (List.eraseIdx_sublist _ _) (List.length_pos_iff.1 (by omega))), ?_⟩
        exact decide_eq_true (by omega)
      obtain ⟨r0, h3, h4⟩ := List.getElem_of_mem hmem
      exact ⟨r0, by rw [← HR.out]; exact h3, by rw [List.getD_eq_getElem?_getD, List.getElem?_eq_getElem h3]; exact h4⟩
    clear hnd hmr hmc
    obtain ⟨w4, hw4⟩ : ∃ w4, w4 = w3.alloc (.map #[] 0) := ⟨_, rfl⟩
    rw [← hw4]
    have hb34 : Below w3.heap.size w3 w4 := by rw [hw4]; exact (Below.refl _ _).alloc (Nat.le_refl _) _
    have him : IMap w4 w3.heap.size 0 rows := by rw [hw4]; exact IMap.made w3 rows
    have HB34 := Lib.hid hb34
    have HIM := Lib.hid him
    clear hw4 hb34 him
    go_wp2_with fail
    go_loopw [13, 14, 61] (fun _ _ i wr => ∃ j : Nat, j ≤ R ∧ i = .int .i64 j ∧ Below w3.heap.size w3 wr ∧ IMap wr w3.heap.size j rows) (fun _ _ i _ => R - (intOf i).toNat)
    case atStart => exact ⟨0, Nat.zero_le _, rfl, HB34.out, HIM.out⟩
    case round =>
      obtain ⟨j, hj, rfl, hb, hm⟩ := hrel
      have HBR := Lib.hid hb
      have HMR := Lib.hid hm
      have hbt := HB3.out.trans (hb.mono HB3.out.size)
      have HBTR := Lib.hid hbt
      by_cases hjR : j < R
      · have hjL : j < rows.length := by rw [HR.out]; exact hjR
        obtain ⟨b, off, c, hve⟩ := (HRL.out.below hbt (Nat.le_refl _)).form (by omega)
        rw [HR.out] at hve
        obtain ⟨rfl, rfl⟩ : pr = some ⟨b, off, none⟩ ∧ cr = c := by cases hve; exact ⟨rfl, rfl⟩
        have hrl2 : ListsIn B wr (.slice (some ⟨b, off, none⟩) R cr) rows := HRL.out.below hbt (Nat.le_refl _)
        obtain ⟨pj, cj, hcj, hij⟩ := cells_at hrl2 j hjL
        have hmem := getL_mem hjL
        have hl7 := HRL7.out _ hmem
        have hvx := HRV.out _ hmem
        have HKE := Lib.hid (key_any (rows.getD j []) _ wr hij.at hvx (by omega))
        unfold Gives at HKE
        have HKEY := Lib.hid (keyOf_key (rows.getD j []) (by omega))
        have HPE : Hid (plainElem (H := Value) Tryz.prog 3 (.int .i64 (j : Int)) = some (.lit (.int .i64 (j : Int)), [])) := plainElem_int (H := Value) (e := 3) (P := Tryz.prog) (a := (j : Int)) Tryz.underlying3 (wf_int (by omega) (by omega))
        have HPU := Lib.hid (fun (w' : World) (Dm : DataW Value) (h1 : Maps.IsMap Dm) (h2 : ∀ i, i < j → Dm.atKey (klit (rows.getD i [])) (.lit (.int .i64 0)) = .lit (.int .i64 (i : Int))) (h3 : w'.ownsMap Tryz.prog 9 (plainElem Tryz.prog 3) w3.heap.size (j + 1) (Dm.put (klit (rows.getD j [])) (.lit (.int .i64 (j : Int))))) => IMap.push h1 h2 hjL HND.out HRV.out h3)
        obtain ⟨g, hg⟩ : ∃ g, rows.getD j [] = g := ⟨_, rfl⟩
        rw [hg] at hcj HKE HKEY HPU
        generalize g.length = ng at hcj HKE
        have HTK : j < maxLen := by unfold maxLen; omega
        clear hve hij hmem hl7 hvx hrl2 hjL hg hb hm hbt
        go_wp2_with fail
        refine HKE.out.mono ?_
        rintro e w5 ⟨rfl, hb5⟩
        have HB5 := Lib.hid (HBR.out.trans (hb5.mono HBR.out.size))
        obtain ⟨Dm, hown, hx⟩ := HMR.out.below hb5 (Nat.le_refl _)
        have HOWN := Lib.hid hown
        have HX := Lib.hid hx
        clear hb5 hown hx
        go_wp2_with (at_mapUpdate; refine wpList_mapUpdate_own _ rfl _ _ _ 86 rfl 9 3 (string_keyed Tryz.underlying9) Tryz.underlying86 (plainElem Tryz.prog 3) w3.heap.size j Dm rfl HOWN.out HTK _ _ (klit g) rfl rfl HKEY.out (.lit (.int .i64 (j : Int))) [] HPE.out ?_; intro w8 hown8 hgr8; have HOWN8 := Lib.hid hown8; have HGR8 := Lib.hid hgr8; clear hown8 hgr8)
        go_roundw
        case rel => exact ⟨j + 1, by omega, by go_num, HB5.out.grown HGR8.out HB5.out.size (fun k e => by have := Option.some.inj e; omega), HPU.out w8 Dm HOWN.out.isMap HX.out HOWN8.out⟩
        case measure => simp [intOf]; omega
      · obtain rfl : R = j := by omega
        have hmq := HMR.out
        rw [HS3.out] at hmq
        have HST0 : Hid (FillSt wt wr R C N rows cols (fun _ => 0) 0 0) := ⟨HBTR.out, (HBR.out.block _ (Array.getElem?_eq_some_iff.1 HG3.out).1).trans HG3.out, (HBR.out.block _ (Array.getElem?_eq_some_iff.1 HM3.out).1).trans HM3.out, hmq, BrdF.start rows cols⟩
        obtain ⟨wq, rfl⟩ : ∃ wq : World, wq = wr := ⟨_, rfl⟩
        rw [HS3.out]
        clear hb hm hbt hmq
        go_wp2_with fail
        go_loopw [15, 16, 17, 18, 73, 80] (fun _ _ _ _ i _ wr => ∃ (k : Nat) (F : Nat → Int), k ≤ C ∧ i = .int .i64 k ∧ FillSt wt wr R C N rows cols F k 0) (fun _ _ _ _ i _ _ => C - (intOf i).toNat)
        case atStart => exact ⟨0, _, Nat.zero_le _, rfl, HST0.out⟩
        case round =>
          obtain ⟨k, F, hk, rfl, hst⟩ := hrel
          obtain ⟨wk, rfl⟩ : ∃ wk : World, wk = wr := ⟨_, rfl⟩
          have HST := Lib.hid hst
          by_cases hkC : k < C
          · have hkL : k < cols.length := by rw [HCC.out]; exact hkC
            have hcl2 : ListsIn B wk (.slice pc C cc) cols := HCL.out.below hst.1 (Nat.le_refl _)
            obtain ⟨b, off, c, hve⟩ := hcl2.form (by omega)
            rw [HCC.out] at hve
            obtain ⟨rfl, rfl⟩ : pc = some ⟨b, off, none⟩ ∧ cc = c := by cases hve; exact ⟨rfl, rfl⟩
            obtain ⟨pj, cj, hcj, hij⟩ := cells_at hcl2 k hkL
            have hmem := getL_mem hkL
            have HMEM := Lib.hid hmem
            have HIJT : Hid (∀ wx, Below wt.heap.size wt wx → IntsIn B wx (.slice pj (cols.getD k []).length cj) (cols.getD k [])) := fun wx hb => by
              obtain ⟨pj', cj', h1, h2⟩ := cells_at HCL.out k hkL
              have h3 := (hst.1.cell (p := ⟨b, off + k, none⟩) (mem_lt h1)).trans h1
              rw [hcj] at h3
              have h4 := Option.some.inj h3
              rw [h4]
              exact h2.below hb (Nat.le_refl _)
            have hf7 := HCL7.out _ hmem
            obtain ⟨f, hf⟩ : ∃ f, cols.getD k [] = f := ⟨_, rfl⟩
            rw [hf] at hcj hf7 HMEM HIJT
            have HF := Lib.hid hf
            obtain ⟨nf, hnf⟩ : ∃ nf, f.length = nf := ⟨_, rfl⟩
            rw [hnf] at hcj hf7 HIJT
            have HNF := Lib.hid hnf
            clear hve hcl2 hij hmem hf hnf hkL hst
            go_wp2_with fail
            go_loopw [17, 18, 80] (fun _ _ i wr => ∃ (i' : Nat) (F : Nat → Int), i' ≤ nf ∧ i = .int .i64 i' ∧ FillSt wt wr R C N rows cols F k i') (fun _ _ i _ => nf - (intOf i).toNat)
            case atStart => exact ⟨0, F, Nat.zero_le _, rfl, HST.out⟩
            case round =>
              obtain ⟨i', F2, hi', rfl, hst⟩ := hrel
              have HSI := Lib.hid hst
              by_cases hin : i' < nf
              · have HCLO := Lib.hid (clone_any f (.slice pj nf cj) wr (HIJT.out wr hst.1).at (by rw [HNF.out]; omega) (by rw [HNF.out]; omega))
                unfold ClonePost at HCLO
                rw [HNF.out] at HCLO
                have hlt3 := hst.lt
                clear hst
                go_wp2_with fail
                refine HCLO.out.mono ?_
                rintro e w5 ⟨g, cap, rfl, hb5, ho5⟩
                have hg5 := (ho5.lt g rfl).1
                have HB5 := Lib.hid hb5
                have ho5' := ho5
                rw [← HNF.out] at ho5'
                have HD := Lib.hid (fun j hj => delete_any f _ g cap i' j hj w5 ho5' (by rw [HNF.out]; omega) (by rw [HNF.out]; exact hin))
                unfold DeletePost at HD
                rw [HNF.out] at HD
                clear hb5 ho5 ho5' HCLO
                go_wp2_with fail
                refine (HD.out _ (by first | rfl | omega)).mono ?_
                rintro e w6 ⟨rfl, hg6, ho6⟩
                have hb6 : Below wr.heap.size wr w6 := grown_below HB5.out hg6 hg5
                have hel : (f.eraseIdx i').length = nf - 1 := by rw [List.length_eraseIdx, HNF.out, if_pos hin]
                have hi6 : IntsAt w6 (.slice (some ⟨g, 0, none⟩) (nf - 1) cap) (f.eraseIdx i') := (ints_owned (B := B) ho6 hel.symm).at
                have hvfe : Vtx (f.eraseIdx i') := fun z hz => HCV.out f HMEM.out z ((List.eraseIdx_sublist _ _).subset hz)
                have HKE := Lib.hid (key_any (f.eraseIdx i') _ w6 hi6 hvfe (by omega))
                unfold Gives at HKE
                have HKEY := Lib.hid (keyOf_key (f.eraseIdx i') (by omega))
                have HB6 := Lib.hid hb6
                clear hg6 ho6 hb6 hi6 hvfe hel HD
                go_wp2_with fail
                refine HKE.out.mono ?_
                rintro e w7 ⟨rfl, hb7⟩
                have hb07 := HB6.out.trans (hb7.mono HB6.out.size)
                have hst7 := HSI.out.below hb07
                obtain ⟨r0, hr0, hre⟩ := HINR.out f HMEM.out i' (by rw [HNF.out]; exact hin)
                obtain ⟨Dm, hown, hx⟩ := hst7.2.2.2.1
                have hx0 := hx r0 hr0
                rw [hre] at hx0
                have HX0 := Lib.hid hx0
                have HOWN := Lib.hid hown
                have HS7 := Lib.hid hst7
                have HRE := Lib.hid hre
                clear hb7 hb07 hst7 hown hx hx0 hre HKE
                go_upto_region 24 with (at_lookup; refine wpList_lookup_own_int _ rfl _ _ 86 rfl 9 3 .i64 (string_keyed Tryz.underlying9) Tryz.underlying86 Tryz.underlying3 (zero_int _) (wt.heap.size + 2) R Dm rfl HOWN.out (keyS (f.eraseIdx i')) (klit (f.eraseIdx i')) rfl HKEY.out ?_; intro cx hcc hwc; obtain rfl : cx = (r0 : Int) := (by rw [HX0.out] at hcc; simpa using hcc.symm); clear hcc hwc)
                have hixN : r0 * C + k < N := by
                  rw [← HN.out]
                  have h1 : r0 * C + C ≤ R * C := by rw [← Nat.succ_mul]; exact Nat.mul_le_mul_right _ hr0
                  omega
                have hkL : k < cols.length := by rw [HCC.out]; exact hkC
                have hstep := HS7.out.2.2.2.2.step HND.out hkL (by rw [HF.out]; exact HCR.out f HMEM.out) (i := i') (by rw [HF.out, HNF.out]; exact hin) (r0 := r0) (by rw [HR.out]; exact hr0) (by rw [HF.out]; exact HRE.out)
                rw [HCC.out] at hstep
                obtain ⟨aN, haN⟩ : ∃ aN, r0 * C = aN := ⟨_, rfl⟩
                obtain ⟨ix, hix⟩ : ∃ ix, aN + k = ix := ⟨_, rfl⟩
                rw [haN, hix] at hixN hstep
                have m1 : IntKind.i64.wrap ((r0 : Int) * (C : Int)) = (aN : Int) := wrap_nat (by rw [← haN]; simp) (by omega)
                have m2 : IntKind.i64.wrap ((aN : Int) + (k : Int)) = (ix : Int) := wrap_nat (by rw [← hix]; simp) (by omega)
                have m3 : ((aN : Int) + (k : Int)) = (ix : Int) := by rw [← hix]; simp
                have c1 : w7.cell? ⟨wt.heap.size + 1, 1, none⟩ = some (.int .i64 C) := (blk_at HS7.out.2.2.1 1).1
                have c2 : w7.cell? ⟨wt.heap.size + 1, 2, none⟩ = some (.slice (some ⟨wt.heap.size, 0, none⟩) N N) := (blk_at HS7.out.2.2.1 2).1
                have cg : w7.cell? ⟨wt.heap.size, ix, none⟩ = some (.int .i64 (F2 ix)) := by rw [(blk_at HS7.out.2.1 ix).1]; exact numArr_at F2 N ix hixN
                have fg := (blk_at HS7.out.2.1 ix).2
                obtain ⟨z, hz⟩ : ∃ z, F2 ix = z := ⟨_, rfl⟩
                rw [hz] at cg
                have i1 : (0 : Int) ≤ (ix : Int) := by omega
                have i2 : (ix : Int) < (N : Int) := by omega
                have hmeas : nf - (i' + 1) < nf - i' := by omega
                have hle : i' + 1 ≤ nf := by omega
                have HLE := Lib.hid hle
                have HME := Lib.hid hmeas
                by_cases hp : i' % 2 = 0
                · have hmod : (i' : Int) % 2 = 0 := by omega
                  have hsg : sg i' = 1 := if_pos hp
                  rw [hsg] at hstep
                  have HPUT := Lib.hid (HS7.out.put 1 _ rfl k (i' + 1) hstep)
                  clear hp hsg hstep haN hix hz hle hmeas hkL hixN
                  go_wp2_with fail
                  go_roundw
                  case rel => exact ⟨i' + 1, _, HLE.out, by go_num, HPUT.out⟩
                  case measure => simp [intOf]; exact HME.out
                · have hmod : (i' : Int) % 2 = 1 := by omega
                  have hsg : sg i' = -1 := if_neg hp
                  rw [hsg] at hstep
                  have HPUT := Lib.hid (HS7.out.put (-1) _ rfl k (i' + 1) hstep)
                  clear hp hsg hstep haN hix hz hle hmeas hkL hixN
                  go_wp2_with fail
                  go_roundw
                  case rel => exact ⟨i' + 1, _, HLE.out, by go_num, HPUT.out⟩
                  case measure => simp [intOf]; exact HME.out
              · obtain rfl : nf = i' := by omega
                have hnx := HSI.out.2.2.2.2
                rw [← HNF.out, ← HF.out] at hnx
                have hnx2 := hnx.next HRR.out (by rw [HF.out]; exact HCR.out f HMEM.out)
                have HNX : Hid (FillSt wt wr R C N rows cols F2 (k + 1) 0) := ⟨hst.1, hst.2.1, hst.2.2.1, hst.2.2.2.1, hnx2⟩
                clear hst hnx hnx2
                go_wp2_with fail
                go_roundw
                case rel => exact ⟨k + 1, F2, by omega, by go_num, HNX.out⟩
                case measure => simp [intOf]; omega
          · obtain rfl : C = k := by omega
            have hbf := hst.2.2.2.2
            have hfull : ∀ ix, ix < N → F ix = (brdL rows cols).getD ix 0 := fun ix hix => by
              refine BrdF.done (F := F) ?_ ix (by rw [HR.out, HCC.out, HN.out]; exact hix)
              rw [HCC.out]; exact hbf
            obtain ⟨wf, hwf, hbw, hif, hkf, hkz⟩ := HFIN.out wk F hst.1 hst.2.1 hfull
            have c0 : wk.cell? ⟨wt.heap.size + 1, 0, none⟩ = some (.int .i64 R) := (blk_at hst.2.2.1 0).1
            have c1 : wk.cell? ⟨wt.heap.size + 1, 1, none⟩ = some (.int .i64 C) := (blk_at hst.2.2.1 1).1
            have c2 : wk.cell? ⟨wt.heap.size + 1, 2, none⟩ = some (.slice (some ⟨wt.heap.size, 0, none⟩) N N) := (blk_at hst.2.2.1 2).1
            have d0 : wk.cell? ⟨w.heap.size + 1, 0, none⟩ = some (.int .i64 0) := (blk_at hkz 0).1
            have d1 : wk.cell? ⟨w.heap.size + 1, 1, none⟩ = some (.int .i64 0) := (blk_at hkz 1).1
            have d2 : wk.cell? ⟨w.heap.size + 1, 2, none⟩ = some (.slice none 0 0) := (blk_at hkz 2).1
            have f0 := (blk_at hkz 0).2
            have f1 := (blk_at hkz 1).2
            have f2 := (blk_at hkz 2).2
            have R0 : Hid (wf.cell? ⟨w.heap.size + 1, 0, none⟩ = some (.int .i64 R)) := (blk_at hkf 0).1
            have R1 : Hid (wf.cell? ⟨w.heap.size + 1, 1, none⟩ = some (.int .i64 C)) := (blk_at hkf 1).1
            have R2 : Hid (wf.cell? ⟨w.heap.size + 1, 2, none⟩ = some (.slice (some ⟨wt.heap.size, 0, none⟩) N N)) := (blk_at hkf 2).1
            have HWF := Lib.hid hwf
            have HBW := Lib.hid hbw
            have HIF := Lib.hid hif
            clear hbf hfull hwf hbw hif hkf hkz hst
            go_wp2_with fail
            rw [← HWF.out]
            refine bodyPost_ret (v := .tuple #[.agg #[.int .i64 R, .int .i64 C, .slice (some ⟨wt.heap.size, 0, none⟩) N N], .nilIface]) (by simp [results, Tryz.results13, go_sem, R0.out, R1.out, R2.out]) rfl ?_
            exact ⟨HBW.out, Or.inl ⟨HEB.out, _, rfl, _, _, by rw [HBL.out], by rw [HBL.out]; exact HIF.out⟩⟩

theorem boundary_any (a : Nat → Addr) (B : Nat) (L : List (List Int)) (dim : Int) (v : Value) (w : World) (hS : Sents w a) (hB : B ≤ w.heap.size) (hv : ListsIn B w v L) (hn : L.length ≤ 100000) (hl : ∀ l ∈ L, l.length ≤ 100000) :
    Calls Tryz.prog 13 #[.agg #[v], .int .i64 dim] w (BrdPost a B L dim w) := by
  by_cases he : errB L dim = 0
  · have h0 : errX L = 0 := by
      unfold errB at he
      by_cases h : errX L = 0
      · exact h
      · rw [if_neg h] at he; exact he
    have hd : 0 ≤ dim ∧ dim ≤ 7 := by
      unfold errB at he
      rw [if_pos h0] at he
      by_cases h : 0 ≤ dim ∧ dim ≤ 7
      · exact h
      · rw [if_neg h] at he; cases he
    exact boundary_ok a B L dim v w hS hB hv hn hl h0 hd.1 hd.2
  · exact boundary_bad a B L dim v w hS hB hv hn hl he
end Go.Proofs.YtipblphfjejpbaaGreatDoor
