/-
  cubes.Boundary by a contract, where the image or the dimension is wrong.
  cubes.Boundary by a contract, where nothing is wrong: the four dimensions together.
-/
import Derived.Test.YtoheffkiohfmoaaGreatDoorBdA
import Derived.Test.YtoheffkiohfmoaaGreatDoorBd0
import Derived.Test.YtoheffkiohfmoaaGreatDoorBd1
import Derived.Test.YtoheffkiohfmoaaGreatDoorBd2
import Derived.Test.YtoheffkiohfmoaaGreatDoorBd3
set_option linter.unusedSimpArgs false
set_option linter.unusedVariables false
namespace Go.Proofs.YtoheffkiohfmoaaGreatDoor
open Go Go.RowKit Go.Maps FL

set_option maxRecDepth 100000 in
set_option maxHeartbeats 16000000 in
theorem boundary_bad (a : Nat → Addr) (ms : List ByteArray) (dim : Int) (v : Value) (w : World) (hS : Sents w a) (h : StrsAt w v ms) (hsz : ∀ j, (rowB ms j).size ≤ 9223372036854775807) (he : bdyE ms dim ≠ 0) :
    Calls Tryz.prog 38 #[v, .int .i64 dim] w (BdyBad a (bdyE ms dim) w) := by
  have HVA := Lib.hid (fun wx (hx : Below w.heap.size w wx) => valid_any a ms v wx (hS.below hx (Nat.le_refl _)) (h.below hx (Nat.le_refl _)) hsz)
  unfold ValP at HVA
  unfold BdyBad
  obtain ⟨pm, cm, hve, -⟩ := id h
  have HBR := Lib.hid (lit_below w (.cells #[.int .i64 0, .int .i64 0, .slice none 0 0] 58))
  have HKR := Lib.hid (heap_alloc_new w (.cells #[.int .i64 0, .int .i64 0, .slice none 0 0] 58))
  have HSS := Lib.hid (fun wx (hx : Below w.heap.size w wx) => hS.below hx (Nat.le_refl _))
  obtain ⟨gr, hgr⟩ : ∃ gr, w.heap.size = gr := ⟨_, rfl⟩
  obtain ⟨w0, hw0⟩ : ∃ w0, w.alloc (.cells #[.int .i64 0, .int .i64 0, .slice none 0 0] 58) = w0 := ⟨_, rfl⟩
  rw [hw0] at HBR HKR
  rw [hgr] at HVA HBR HKR HSS ⊢
  have HW0 := Lib.hid hw0
  have HGR := Lib.hid hgr
  have HFIN : Hid (∀ wr, Below gr w wr → wr.heap[gr]? = some (.cells #[.int .i64 0, .int .i64 0, .slice none 0 0] 58 (0, 0)) → ∃ wf, wf = ((wr.setCell ⟨gr, 0, none⟩ (.int .i64 0)).setCell ⟨gr, 1, none⟩ (.int .i64 0)).setCell ⟨gr, 2, none⟩ (.slice none 0 0) ∧ Below gr w wf ∧
      wf.cell? ⟨gr, 0, none⟩ = some (.int .i64 0) ∧ wf.cell? ⟨gr, 1, none⟩ = some (.int .i64 0) ∧ wf.cell? ⟨gr, 2, none⟩ = some (.slice none 0 0)) := fun wr hb hk => by
    obtain ⟨wf, h1, h2, -, h4⟩ := mat_fin (R := 0) (C := 0) (px := none) (s := 0) (cx := 0) (l := []) hb hk (IntsIn.nil _ _)
    exact ⟨wf, h1, h2, (blk_at h4 0).1, (blk_at h4 1).1, (blk_at h4 2).1⟩
  by_cases h0 : errV ms = 0
  rotate_left
  · have e1 : bdyE ms dim = errV ms := by unfold bdyE; rw [if_neg h0]
    obtain ⟨t, p, hp⟩ := errOf_iface (a := a) h0
    rw [e1]
    rw [hp] at HVA ⊢
    clear hS h hsz h0 hp e1 hw0 hgr he
    rw [hve] at HVA ⊢
    clear hve HSS
    go_enter Tryz.func38, Tryz.ntmps38
    go_wp2_with fail
    rw [HW0.out, HGR.out]
    refine (HVA.out _ HBR.out).mono ?_
    rintro e w1 ⟨rfl, hb⟩
    have hb1 : Below gr w w1 := HBR.out.trans (hb.mono (by have := HBR.out.size; have := HGR.out; omega))
    have hk1 := (hb.block _ (Array.getElem?_eq_some_iff.1 HKR.out).1).trans HKR.out
    obtain ⟨wf, hwf, hbf, r0, r1, r2⟩ := HFIN.out w1 hb1 hk1
    have d0 : w1.cell? ⟨gr, 0, none⟩ = some (.int .i64 0) := (blk_at hk1 0).1
    have d1 : w1.cell? ⟨gr, 1, none⟩ = some (.int .i64 0) := (blk_at hk1 1).1
    have d2 : w1.cell? ⟨gr, 2, none⟩ = some (.slice none 0 0) := (blk_at hk1 2).1
    have f0 := (blk_at hk1 0).2
    have f1 := (blk_at hk1 1).2
    have f2 := (blk_at hk1 2).2
    have HWF := Lib.hid hwf
    have HBF := Lib.hid hbf
    have R0 := Lib.hid r0
    have R1 := Lib.hid r1
    have R2 := Lib.hid r2
    clear hb hb1 hk1 hwf hbf r0 r1 r2
    go_wp2_with fail
    rw [← HWF.out]
    refine bodyPost_ret (v := .tuple #[.agg #[.int .i64 0, .int .i64 0, .slice none 0 0], .iface t p]) (by simp [results, Tryz.results38, go_sem, R0.out, R1.out, R2.out]) rfl ?_
    exact ⟨rfl, HBF.out⟩
  · have hd : ¬ (0 ≤ dim ∧ dim ≤ 3) := fun hd => he (by unfold bdyE; rw [if_pos h0, if_pos hd])
    have e1 : bdyE ms dim = 2 := by unfold bdyE; rw [if_pos h0, if_neg hd]
    have e2 : errOf a 2 = .iface 251 (.pointer (some (a 1))) := rfl
    rw [e1, e2]
    rw [h0, errOf_zero] at HVA
    have HD := Lib.hid hd
    have hgl := mem_lt (hS.g 1 (by decide))
    simp only [gnum] at hgl
    rw [hgr] at hgl
    have HGLT := Lib.hid hgl
    clear hgl hS h hsz h0 e1 e2 hw0 hgr he hd
    rw [hve] at HVA ⊢
    clear hve
    go_enter Tryz.func38, Tryz.ntmps38
    go_wp2_with fail
    rw [HW0.out, HGR.out]
    refine (HVA.out _ HBR.out).mono ?_
    rintro e w1 ⟨rfl, hb⟩
    have hb1 : Below gr w w1 := HBR.out.trans (hb.mono (by have := HBR.out.size; have := HGR.out; omega))
    have hk1 := (hb.block _ (Array.getElem?_eq_some_iff.1 HKR.out).1).trans HKR.out
    obtain ⟨wf, hwf, hbf, r0, r1, r2⟩ := HFIN.out w1 hb1 hk1
    have d0 : w1.cell? ⟨gr, 0, none⟩ = some (.int .i64 0) := (blk_at hk1 0).1
    have d1 : w1.cell? ⟨gr, 1, none⟩ = some (.int .i64 0) := (blk_at hk1 1).1
    have d2 : w1.cell? ⟨gr, 2, none⟩ = some (.slice none 0 0) := (blk_at hk1 2).1
    have f0 := (blk_at hk1 0).2
    have f1 := (blk_at hk1 1).2
    have f2 := (blk_at hk1 2).2
    have hg := (HSS.out w1 hb1).g 1 (by decide)
    simp only [gnum] at hg
    have HG1 := Lib.hid hg
    have HG := Lib.hid (far_cell (grown_at w1 gr 0 (.int .i64 0)) hg (fun e => by have := Option.some.inj e; have := HGLT.out; omega))
    have HWF := Lib.hid hwf
    have HBF := Lib.hid hbf
    have R0 := Lib.hid r0
    have R1 := Lib.hid r1
    have R2 := Lib.hid r2
    clear hb hb1 hk1 hwf hbf r0 r1 r2 HSS hg
    by_cases hd : dim < 0
    focus
      have q1 : decide (dim < 0) = true := decide_eq_true hd
      clear hd
      go_wp2_with fail
    rotate_left
    focus
      have q1 : decide (dim < 0) = false := decide_eq_false hd
      have q2 : decide (3 < dim) = true := decide_eq_true (by have := HD.out; omega)
      clear hd
      go_wp2_with fail
    all_goals
      have hg := HG.out
      have hg1 := HG1.out
      go_region_law (fail)
    all_goals
      go_wp2_with fail
      rw [← HWF.out]
      refine bodyPost_ret (v := .tuple #[.agg #[.int .i64 0, .int .i64 0, .slice none 0 0], .iface 251 (.pointer (some (a 1)))]) (by simp [results, Tryz.results38, go_sem, R0.out, R1.out, R2.out]) rfl ?_
      exact ⟨rfl, HBF.out.trans (((Below.refl wf.heap.size wf).drew).mono (by have := HBF.out.size; have := HGR.out; omega))⟩

theorem boundary_ok (a : Nat → Addr) (ms : List ByteArray) (dim : Int) (v : Value) (w : World) (hS : Sents w a) (h : StrsAt w v ms) (hsz : ∀ j, (rowB ms j).size ≤ 9223372036854775807) (he : bdyE ms dim = 0) :
    Calls Tryz.prog 38 #[v, .int .i64 dim] w (BdyOk ms dim w) := by
  have h0 : errV ms = 0 := by
    unfold bdyE at he
    by_cases h : errV ms = 0
    · exact h
    · rw [if_neg h] at he; exact he
  have hd : 0 ≤ dim ∧ dim ≤ 3 := by
    unfold bdyE at he
    rw [if_pos h0] at he
    by_cases h : 0 ≤ dim ∧ dim ≤ 3
    · exact h
    · rw [if_neg h] at he; cases he
  rcases (show dim = 0 ∨ dim = 1 ∨ dim = 2 ∨ dim = 3 by omega) with rfl | rfl | rfl | rfl
  · exact boundary_0 a ms v w hS h hsz h0
  · exact boundary_1 a ms v w hS h hsz h0
  · exact boundary_2 a ms v w hS h hsz h0
  · exact boundary_3 a ms v w hS h hsz h0
end Go.Proofs.YtoheffkiohfmoaaGreatDoor
