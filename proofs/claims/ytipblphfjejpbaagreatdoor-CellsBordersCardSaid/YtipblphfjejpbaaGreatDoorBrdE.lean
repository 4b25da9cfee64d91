/-
  cells.Boundary by a contract.
-/
import Derived.Test.YtipblphfjejpbaaGreatDoorBrdD
set_option linter.unusedSimpArgs false
set_option linter.unusedVariables false
namespace Go.Proofs.YtipblphfjejpbaaGreatDoor
open Go Go.RowKit Go.Maps

def DimP (B : Nat) (L : List (List Int)) (d : Int) (w : World) (e : Ending) (w' : World) : Prop := ∃ p c, e = .returned (.slice p (dimF (allF L) d).length c) ∧ w' = w ∧ ListsIn B w (.slice p (dimF (allF L) d).length c) (dimF (allF L) d)
set_option maxRecDepth 100000 in
set_option maxHeartbeats 4000000 in
theorem boundary1_any (B b : Nat) (L : List (List Int)) (d : Int) (v : Value) (w : World) (hc : w.cell? ⟨b, 0, none⟩ = some v) (hv : TabIn B w v (tableF (allF L))) (hL : errC L = 0) :
    Calls Tryz.prog 56 #[.int .i64 d, .pointer (some ⟨b, 0, none⟩)] w (DimP B L d w) := by
  have hm7 := topN_7 hL
  obtain ⟨p1, c1, hve, -⟩ := id hv
  rw [tableF_len] at hve
  obtain ⟨m, hm⟩ : ∃ m, topN (allF L) = m := ⟨_, rfl⟩
  rw [hm] at hve hm7
  have HM := Lib.hid hm
  have HTI := Lib.hid hv
  have HNO := Lib.hid (fun h => dimF_none (L := L) (dim := d) h)
  subst hve
  clear hv hm hL
  have hnil : (d < 0 ∨ (m : Int) ≤ d) → DimP B L d w (.returned (.slice none 0 0)) w := fun h => by
    unfold DimP
    rw [HNO.out (by rw [HM.out]; exact h)]
    exact ⟨none, 0, rfl, rfl, ListsIn.nil _ _⟩
  have HNIL := Lib.hid hnil
  clear hnil
  by_cases hd : d < 0
  · have q1 : decide (d < 0) = true := decide_eq_true hd
    go_enter Tryz.func56, Tryz.ntmps56
    go_wp2_with fail
    go_ret
    exact HNIL.out (Or.inl hd)
  · have q1 : decide (d < 0) = false := decide_eq_false (by omega)
    by_cases hd2 : (m : Int) ≤ d
    · have q2 : decide ((m : Int) ≤ d) = true := decide_eq_true hd2
      go_enter Tryz.func56, Tryz.ntmps56
      go_wp2_with fail
      go_ret
      exact HNIL.out (Or.inr hd2)
    · have q2 : decide ((m : Int) ≤ d) = false := decide_eq_false hd2
      obtain ⟨k, rfl⟩ : ∃ k : Nat, d = k := ⟨d.toNat, by omega⟩
      have hdm : k < m := by omega
      obtain ⟨p', c', hv', hle, hnn, hx⟩ := id HTI.out
      obtain ⟨b2, off, u, e1, e2, e3⟩ := hx k (by rw [tableF_len, HM.out]; exact hdm)
      rw [tableF_at (by rw [HM.out]; exact hdm), ← dimF_nat] at e3
      cases hv'
      subst e1
      obtain ⟨pu, cu, hue, -⟩ := id e3
      have HX := Lib.hid e3
      obtain ⟨n, hn⟩ : ∃ n, (dimF (allF L) (k : Int)).length = n := ⟨_, rfl⟩
      rw [hn] at hue
      subst hue
      have HN2 := Lib.hid hn
      clear hx e3 hd hd2 hle hnn hn
      go_enter Tryz.func56, Tryz.ntmps56
      go_wp2_with fail
      go_ret
      show DimP B L _ w (.returned (.slice pu n cu)) w
      unfold DimP
      rw [HN2.out]
      exact ⟨pu, cu, rfl, rfl, HX.out⟩

/-- the error's number of a boundary -/
noncomputable def errB (L : List (List Int)) (dim : Int) : Nat := if errX L = 0 then (if 0 ≤ dim ∧ dim ≤ 7 then 0 else 2) else errX L
def BrdPost (a : Nat → Addr) (B : Nat) (L : List (List Int)) (dim : Int) (w : World) (e : Ending) (w' : World) : Prop :=
  Below w.heap.size w w' ∧
  ((errB L dim = 0 ∧ ∃ m, e = .returned (.tuple #[m, .nilIface]) ∧ MatIn B (dimF (allF L) (dim - 1)).length (dimF (allF L) dim).length w' m (brdL (dimF (allF L) (dim - 1)) (dimF (allF L) dim))) ∨
   (∃ k, k < 8 ∧ errB L dim = k + 1 ∧ e = .returned (.tuple #[.agg #[.int .i64 0, .int .i64 0, .slice none 0 0], errE (a k)])))

set_option maxRecDepth 100000 in
set_option maxHeartbeats 16000000 in
theorem boundary_bad (a : Nat → Addr) (B : Nat) (L : List (List Int)) (dim : Int) (v : Value) (w : World) (hS : Sents w a) (hB : B ≤ w.heap.size) (hv : ListsIn B w v L) (hn : L.length ≤ 100000) (hl : ∀ l ∈ L, l.length ≤ 100000) (he : errB L dim ≠ 0) :
    Calls Tryz.prog 13 #[.agg #[v], .int .i64 dim] w (BrdPost a B L dim w) := by
  obtain ⟨pv, cv, hve, -⟩ := id hv
  generalize hLn : L.length = n at hve
  subst hve
  obtain ⟨w0, hw0⟩ : ∃ w0, w0 = (w.alloc (.cells #[.slice pv n cv] 34)).alloc (.cells #[.int .i64 0, .int .i64 0, .slice none 0 0] 28) := ⟨_, rfl⟩
  have hb0 : Below w.heap.size w w0 := by rw [hw0]; exact ((Below.refl _ _).alloc (Nat.le_refl _) _).alloc (by simp) _
  have hk2 : w0.heap[w.heap.size + 1]? = some (.cells #[.int .i64 0, .int .i64 0, .slice none 0 0] 28 (0, 0)) := by
    rw [hw0]
    have h := heap_alloc_new (w.alloc (.cells #[.slice pv n cv] 34)) (.cells #[.int .i64 0, .int .i64 0, .slice none 0 0] 28)
    rw [lit_size] at h
    exact h
  have HB0 := Lib.hid hb0
  have HW0 := Lib.hid hw0
  have HK2 := Lib.hid hk2
  have HS := Lib.hid hS
  have HC := Lib.hid (table_any a B L (.slice pv n cv) w0 (hS.below hb0 (Nat.le_refl _)) (Nat.le_trans hB hb0.size) (hv.below hb0 (Nat.le_refl _)) hn hl)
  have HE := Lib.hid he
  unfold TabPost at HC
  clear hS hB hv hn hl hb0 he hLn hw0 hk2
  go_enter Tryz.func13, Tryz.ntmps13
  go_wp2_with fail
  rw [← HW0.out]
  refine HC.out.mono ?_
  rintro e w1 ⟨hb1, ⟨h0, tv, rfl, hT⟩ | ⟨k, hk, hek, rfl⟩⟩
  · have HB1 := Lib.hid (HB0.out.trans (hb1.mono HB0.out.size))
    have hk1 := (hb1.block _ (Array.getElem?_eq_some_iff.1 HK2.out).1).trans HK2.out
    have hdim : dim < 0 ∨ 7 < dim := by
      have h := HE.out
      unfold errB at h
      rw [if_pos h0] at h
      by_cases hd : 0 ≤ dim ∧ dim ≤ 7
      · exact absurd (if_pos hd) h
      · omega
    have HEK : Hid (errB L dim = 1 + 1) := by unfold Hid errB; rw [if_pos h0, if_neg (by omega)]
    obtain ⟨pt, ct, hte, -⟩ := hT.tab
    generalize (tableF (allF L)).length = nt at hte
    subst hte
    have hba : Below w1.heap.size w1 (w1.alloc (.cells #[.slice pt nt ct] 82)) := (Below.refl _ _).alloc (Nat.le_refl _) _
    have hka := (hba.block _ (Array.getElem?_eq_some_iff.1 hk1).1).trans hk1
    obtain ⟨wf, hwf⟩ : ∃ wf, wf = (((w1.alloc (.cells #[.slice pt nt ct] 82)).setCell ⟨w.heap.size + 1, 0, none⟩ (.int .i64 0)).setCell ⟨w.heap.size + 1, 1, none⟩ (.int .i64 0)).setCell ⟨w.heap.size + 1, 2, none⟩ (.slice none 0 0) := ⟨_, rfl⟩
    have hgf : (w1.alloc (.cells #[.slice pt nt ct] 82)).grownBy wf (some (w.heap.size + 1)) := by rw [hwf]; exact ((grown_at _ (w.heap.size + 1) 0 _).trans (grown_at _ (w.heap.size + 1) 1 _)).trans (grown_at _ (w.heap.size + 1) 2 _)
    have hkf : wf.heap[w.heap.size + 1]? = some (.cells #[.int .i64 0, .int .i64 0, .slice none 0 0] 28 (0, 0)) := by rw [hwf]; exact set_block (set_block (set_block hka))
    have HBF := Lib.hid ((HB1.out.trans (hba.mono HB1.out.size)).grown hgf (HB1.out.trans (hba.mono HB1.out.size)).size (fun k e => by have := Option.some.inj e; omega))
    have r0 : wf.cell? ⟨w.heap.size + 1, 0, none⟩ = some (.int .i64 0) := (blk_at hkf 0).1
    have r1 : wf.cell? ⟨w.heap.size + 1, 1, none⟩ = some (.int .i64 0) := (blk_at hkf 1).1
    have r2 : wf.cell? ⟨w.heap.size + 1, 2, none⟩ = some (.slice none 0 0) := (blk_at hkf 2).1
    have d0 : (w1.alloc (.cells #[.slice pt nt ct] 82)).cell? ⟨w.heap.size + 1, 0, none⟩ = some (.int .i64 0) := (blk_at hka 0).1
    have d1 : (w1.alloc (.cells #[.slice pt nt ct] 82)).cell? ⟨w.heap.size + 1, 1, none⟩ = some (.int .i64 0) := (blk_at hka 1).1
    have d2 : (w1.alloc (.cells #[.slice pt nt ct] 82)).cell? ⟨w.heap.size + 1, 2, none⟩ = some (.slice none 0 0) := (blk_at hka 2).1
    have f0 := (blk_at hka 0).2
    have f1 := (blk_at hka 1).2
    have f2 := (blk_at hka 2).2
    have hg := ((HS.out.below HB1.out (Nat.le_refl _)).below hba (Nat.le_refl _)).g 1 (by decide)
    simp only [gnum] at hg
    have HWF := Lib.hid hwf
    have R0 := Lib.hid r0
    have R1 := Lib.hid r1
    have R2 := Lib.hid r2
    have HDIM := Lib.hid hdim
    have HG := Lib.hid hg
    clear hb1 h0 hk1 hwf hba hka hgf hkf r0 r1 r2 hT
    by_cases hd : dim < 0
    focus
      have q1 : decide (dim < 0) = true := decide_eq_true hd
      clear hdim
      go_wp2_with fail
    rotate_left
    focus
      have q1 : decide (dim < 0) = false := decide_eq_false (by omega)
      have q2 : decide (7 < dim) = true := decide_eq_true (by omega)
      clear hdim hd
      go_wp2_with fail
    all_goals
      have hg := HG.out
      go_region_law (fail)
    all_goals
      go_wp2_with fail
      rw [← HWF.out]
      refine bodyPost_ret (v := .tuple #[.agg #[.int .i64 0, .int .i64 0, .slice none 0 0], .iface 225 (.pointer (some (a 1)))]) (by simp [results, Tryz.results13, go_sem, R0.out, R1.out, R2.out]) rfl ?_
      exact ⟨HBF.out.trans (((Below.refl wf.heap.size wf).drew).mono HBF.out.size), Or.inr ⟨1, by decide, HEK.out, rfl⟩⟩
  · have HB1 := Lib.hid (HB0.out.trans (hb1.mono HB0.out.size))
    have hk1 := (hb1.block _ (Array.getElem?_eq_some_iff.1 HK2.out).1).trans HK2.out
    have HEK : Hid (errB L dim = k + 1) := by unfold Hid errB; rw [if_neg (by omega)]; exact hek
    have hba : Below w1.heap.size w1 (w1.alloc (.cells #[.slice none 0 0] 82)) := (Below.refl _ _).alloc (Nat.le_refl _) _
    have hka := (hba.block _ (Array.getElem?_eq_some_iff.1 hk1).1).trans hk1
    obtain ⟨wf, hwf⟩ : ∃ wf, wf = (((w1.alloc (.cells #[.slice none 0 0] 82)).setCell ⟨w.heap.size + 1, 0, none⟩ (.int .i64 0)).setCell ⟨w.heap.size + 1, 1, none⟩ (.int .i64 0)).setCell ⟨w.heap.size + 1, 2, none⟩ (.slice none 0 0) := ⟨_, rfl⟩
    have hgf : (w1.alloc (.cells #[.slice none 0 0] 82)).grownBy wf (some (w.heap.size + 1)) := by rw [hwf]; exact ((grown_at _ (w.heap.size + 1) 0 _).trans (grown_at _ (w.heap.size + 1) 1 _)).trans (grown_at _ (w.heap.size + 1) 2 _)
    have hkf : wf.heap[w.heap.size + 1]? = some (.cells #[.int .i64 0, .int .i64 0, .slice none 0 0] 28 (0, 0)) := by rw [hwf]; exact set_block (set_block (set_block hka))
    have HBF := Lib.hid ((HB1.out.trans (hba.mono HB1.out.size)).grown hgf (HB1.out.trans (hba.mono HB1.out.size)).size (fun k e => by have := Option.some.inj e; omega))
    have r0 : wf.cell? ⟨w.heap.size + 1, 0, none⟩ = some (.int .i64 0) := (blk_at hkf 0).1
    have r1 : wf.cell? ⟨w.heap.size + 1, 1, none⟩ = some (.int .i64 0) := (blk_at hkf 1).1
    have r2 : wf.cell? ⟨w.heap.size + 1, 2, none⟩ = some (.slice none 0 0) := (blk_at hkf 2).1
    have d0 : (w1.alloc (.cells #[.slice none 0 0] 82)).cell? ⟨w.heap.size + 1, 0, none⟩ = some (.int .i64 0) := (blk_at hka 0).1
    have d1 : (w1.alloc (.cells #[.slice none 0 0] 82)).cell? ⟨w.heap.size + 1, 1, none⟩ = some (.int .i64 0) := (blk_at hka 1).1
    have d2 : (w1.alloc (.cells #[.slice none 0 0] 82)).cell? ⟨w.heap.size + 1, 2, none⟩ = some (.slice none 0 0) := (blk_at hka 2).1
    have f0 := (blk_at hka 0).2
    have f1 := (blk_at hka 1).2
    have f2 := (blk_at hka 2).2
    have HWF := Lib.hid hwf
    have R0 := Lib.hid r0
    have R1 := Lib.hid r1
    have R2 := Lib.hid r2
    clear hb1 hek hk1 hwf hka hba hgf hkf r0 r1 r2
    unfold errE
    go_wp2_with fail
    rw [← HWF.out]
    refine bodyPost_ret (v := .tuple #[.agg #[.int .i64 0, .int .i64 0, .slice none 0 0], .iface 225 (.pointer (some (a k)))]) (by simp [results, Tryz.results13, go_sem, R0.out, R1.out, R2.out]) rfl ?_
    exact ⟨HBF.out, Or.inr ⟨k, hk, HEK.out, rfl⟩⟩
end Go.Proofs.YtipblphfjejpbaaGreatDoor
