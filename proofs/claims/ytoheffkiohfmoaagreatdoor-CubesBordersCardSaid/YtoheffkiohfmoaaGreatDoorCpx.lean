/-
  cubes.Complex by a contract.
-/
import Derived.Test.YtoheffkiohfmoaaGreatDoorCpA
import Derived.Test.YtoheffkiohfmoaaGreatDoorRin
import Derived.Test.YtoheffkiohfmoaaGreatDoorMtA
import Derived.Test.YtoheffkiohfmoaaGreatDoorCelO
set_option linter.unusedSimpArgs false
set_option linter.unusedVariables false
namespace Go.Proofs.YtoheffkiohfmoaaGreatDoor
open Go Go.RowKit Go.Maps FL

theorem makeK_any (a : Nat → Addr) (B : Nat) (L : List (List Int)) (v : Value) (w : World) (hS : Sents w a) (hB : B ≤ w.heap.size) (hv : ListsIn B w v L) (hn : L.length ≤ 100000) (hl : ∀ l ∈ L, l.length ≤ 100000) :
    Calls Tryz.prog 45 #[v] w (MakeC a B L w) := by
  by_cases he : errC L = 0
  · exact make_ok a B L v w hS hB hv hn hl he
  · exact make_bad a B L v w hS hB hv hn hl he
noncomputable def cpxE (ms : List ByteArray) : Int := if errV ms = 0 then (errC (triTo ms ms.length) : Int) else errV ms
noncomputable def cpxL (ms : List ByteArray) : List (List Int) := if cpxE ms = 0 then madeF (triTo ms ms.length) else []
def CpxP (a : Nat → Addr) (ms : List ByteArray) (w : World) (e : Ending) (w' : World) : Prop := ∃ u, e = .returned (.tuple #[.agg #[u], errOf a (cpxE ms)]) ∧ Below w.heap.size w w' ∧ ListsIn w.heap.size w' u (cpxL ms)
theorem errOf_succ (a : Nat → Addr) (k : Nat) : errOf a ((k + 1 : Nat) : Int) = errE (a k) := by
  unfold errOf
  rw [if_neg (by omega)]
  congr 2
  omega
theorem triTo_bd (ms : List ByteArray) (n : Nat) : ∀ l ∈ triTo ms n, l.length ≤ 100000 := fun l hl => by
  unfold triTo at hl
  obtain ⟨y, -, hl⟩ := List.mem_flatMap.1 hl
  unfold triRow at hl
  obtain ⟨x, -, hl⟩ := List.mem_flatMap.1 hl
  unfold triAt at hl
  split at hl
  · unfold triI at hl
    simp only [List.mem_cons, List.mem_nil_iff, or_false] at hl
    rcases hl with rfl | rfl <;> simp
  · cases hl
theorem squares_field (p1 p2 p3 : Option Addr) (n1 n2 n3 c1 c2 c3 : Nat) (w : World) : Sem.run Tryz.prog (Instr.field 114 (.agg #[.slice p1 n1 c1, .slice p2 n2 c2, .slice p3 n3 c3]) 1) w = .ok (.slice p2 n2 c2) w := by kernel_rfl
theorem ints_three {B b : Nat} {w : World} {x y z : Int} (h : w.heap[b]? = some (.cells #[.int .i64 x, .int .i64 y, .int .i64 z] 3 (0, 0))) : IntsIn B w (.slice (some ⟨b, 0, none⟩) 3 3) [x, y, z] := by
  refine ⟨_, 3, rfl, Nat.le_refl _, (fun e => by cases e), fun i hi => ⟨b, 0, rfl, ?_, Or.inr ⟨_, h⟩⟩⟩
  simp only [World.cell?, h, Nat.zero_add]
  match i, hi with
  | 0, _ => rfl
  | 1, _ => rfl
  | 2, _ => rfl
/-- what comes out where Make's result is stored -/
theorem cpx_fin {gr : Nat} {w w2 w3 : World} {v : Value} {L : List (List Int)} (hb : Below gr w w2) (hg : w2.heap[gr]? = some (.cells #[.slice none 0 0] 32 (0, 0))) (h3 : Below w2.heap.size w2 w3) (hr : RowsO w2.heap.size gr w3 v L) :
    Below gr w (w3.setCell ⟨gr, 0, none⟩ v) ∧ ListsIn gr (w3.setCell ⟨gr, 0, none⟩ v) v L ∧ (w3.setCell ⟨gr, 0, none⟩ v).cell? ⟨gr, 0, none⟩ = some v ∧ w3.cell? ⟨gr, 0, none⟩ = some (.slice none 0 0) ∧ w3.frozen? ⟨gr, 0, none⟩ = false := by
  have hlt := (Array.getElem?_eq_some_iff.1 hg).1
  have hg3 := (h3.block gr hlt).trans hg
  have hgw := grown_at w3 gr 0 v
  have hb3 := hb.trans (h3.mono (Nat.le_of_lt hlt))
  exact ⟨hb3.setCell (Nat.le_refl _) _, (hr.grown hgw hlt (Nat.le_refl _) (fun x e => by rw [hg3] at e; cases e)).lists, one_set hg3, (one_at hg3).1, (one_at hg3).2⟩
set_option maxRecDepth 100000 in
set_option maxHeartbeats 16000000 in
theorem complex_any (a : Nat → Addr) (ms : List ByteArray) (v : Value) (w : World) (hS : Sents w a) (h : StrsAt w v ms) (hsz : ∀ j, (rowB ms j).size ≤ 9223372036854775807) :
    Calls Tryz.prog 35 #[v] w (CpxP a ms w) := by
  have HVA := Lib.hid (fun wx (hx : Below w.heap.size w wx) => valid_any a ms v wx (hS.below hx (Nat.le_refl _)) (h.below hx (Nat.le_refl _)) hsz)
  unfold ValP at HVA
  obtain ⟨i1, hi1, hz0, hz1, hz2⟩ := info_parts Tryz.info3
  obtain ⟨i3, hi3, hy0, hy1, hy2⟩ := info_parts Tryz.info51
  unfold CpxP
  obtain ⟨pm, cm, hve, -⟩ := id h
  have hbr := (Below.refl w.heap.size w).alloc (Nat.le_refl _) (.cells #[.slice none 0 0] 32)
  have HBR := Lib.hid hbr
  have HKR := Lib.hid (heap_alloc_new w (.cells #[.slice none 0 0] 32))
  obtain ⟨gr, hgr⟩ : ∃ gr, w.heap.size = gr := ⟨_, rfl⟩
  obtain ⟨w0, hw0⟩ : ∃ w0, w.alloc (.cells #[.slice none 0 0] 32) = w0 := ⟨_, rfl⟩
  rw [hw0] at HBR HKR
  rw [hgr] at HVA HBR HKR ⊢
  by_cases h0 : errV ms = 0
  rotate_left
  · obtain ⟨t, p, hp⟩ := errOf_iface (a := a) h0
    have e1 : cpxE ms = errV ms := by unfold cpxE; rw [if_neg h0]
    have e2 : cpxL ms = [] := by unfold cpxL; rw [e1, if_neg h0]
    rw [e1, e2]
    rw [hp] at HVA ⊢
    have HW0 := Lib.hid hw0
    have HGR := Lib.hid hgr
    clear hS h hsz h0 hp e1 e2 hw0 hgr
    rw [hve] at HVA ⊢
    clear hve hbr
    go_enter Tryz.func35, Tryz.ntmps35
    go_wp2_with fail
    rw [HW0.out, HGR.out]
    refine (HVA.out _ HBR.out).mono ?_
    rintro e w1 ⟨rfl, hb⟩
    obtain ⟨hf1, hf2, hf3, hf4, hf5⟩ := cpx_fin (v := .slice none 0 0) (L := []) HBR.out HKR.out hb (RowsO.nil _ _ _)
    have H1 := Lib.hid hf1
    have H2 := Lib.hid hf2
    have H3 := Lib.hid hf3
    clear hb hf1 hf2 hf3
    go_wp2_with fail
    refine bodyPost_ret (v := .tuple #[.agg #[.slice none 0 0], .iface t p]) (by simp [results, Tryz.results35, go_sem, H3.out]) rfl ?_
    exact ⟨_, rfl, H1.out, H2.out⟩
  · obtain ⟨hH24, hrect, hW24⟩ := errV_zero h0
    have e1 : cpxE ms = (errC (triTo ms ms.length) : Int) := by unfold cpxE; rw [if_pos h0]
    have e2 : cpxL ms = if (errC (triTo ms ms.length) : Int) = 0 then madeF (triTo ms ms.length) else [] := by unfold cpxL; rw [e1]
    rw [e1, e2]
    rw [h0, errOf_zero] at HVA
    have HG := Lib.hid (fun wx (hx : Below gr w wx) => grid_any ms v wx (h.below hx (by rw [hgr]; exact Nat.le_refl _)) (by omega) (by omega))
    unfold GridP at HG
    have HWI := Lib.hid (fun wx (hx : Below gr w wx) => wide_any v ms wx (h.below hx (by rw [hgr]; exact Nat.le_refl _)))
    unfold Plain at HWI
    have HTL : Hid ((triTo ms ms.length).length ≤ 100000) := by
      have h1 := tri_len (ms := ms) (y := ms.length) (x := 0) (by omega) (by omega) (by omega)
      have h2 : (gridTo (squaAt ms) (wideI ms) (ms.length + 1)).length ≤ 1 * (wideI ms + 1) * (ms.length + 1) := gridTo_len at_len3 _ _
      have h3 : 1 * (wideI ms + 1) * (ms.length + 1) ≤ 1 * 25 * 25 := Nat.mul_le_mul (by omega) (by omega)
      unfold Hid
      rw [← tri_grid hrect]
      have h4 : ∀ l : List PI, (l.flatMap (triP (wideI ms))).length = 2 * l.length := fun l => by
        induction l with
        | nil => rfl
        | cons p l ih => rw [List.flatMap_cons, List.length_append, ih]; simp [triP, triI]; omega
      rw [h4]; omega
    have HMK := Lib.hid (fun wx (hx : Below gr w wx) u (hu : RowsO gr gr wx u (triTo ms ms.length)) => makeK_any a gr (triTo ms ms.length) u wx (hS.below hx (by rw [hgr]; exact Nat.le_refl _)) (by have := hx.size; omega) hu.lists HTL.out (triTo_bd ms _))
    unfold MakeC at HMK
    obtain ⟨W, hWn⟩ : ∃ W, wideI ms = W := ⟨_, rfl⟩
    obtain ⟨S, hSn⟩ : ∃ S, gridTo (squaAt ms) (wideI ms) (ms.length + 1) = S := ⟨_, rfl⟩
    obtain ⟨n, hnn⟩ : ∃ n, S.length = n := ⟨_, rfl⟩
    have hTT : S.flatMap (triP W) = triTo ms ms.length := by rw [← hSn, ← hWn]; exact tri_grid hrect
    have hSQ : ∀ k, k < n → ∃ x y : Nat, S.getD k (0, 0) = ((x : Int), (y : Int)) ∧ x ≤ 24 ∧ y ≤ 24 := fun k hk => by
      have hm : S.getD k (0, 0) ∈ S := by rw [List.getD_eq_getElem?_getD, List.getElem?_eq_getElem (by omega)]; exact List.getElem_mem _
      rw [← hSn] at hm
      obtain ⟨y, x, hy, hx, hp⟩ := mem_grid.1 hm
      exact ⟨x, y, by rw [← hSn]; exact (squa_mem.1 hp).1, by omega, by omega⟩
    have hST : ∀ k, k < n → (S.take (k + 1)).flatMap (triP W) = (S.take k).flatMap (triP W) ++ triP W (S.getD k (0, 0)) := fun k hk => by
      rw [take_snoc_getD (0, 0) S k (by omega), List.flatMap_append]; simp
    have hSL : ∀ k, k ≤ n → ((S.take k).flatMap (triP W)).length = 2 * k := fun k hk => by
      have h4 : ∀ l : List PI, (l.flatMap (triP W)).length = 2 * l.length := fun l => by
        induction l with
        | nil => rfl
        | cons p l ih => rw [List.flatMap_cons, List.length_append, ih]; simp [triP, triI]; omega
      rw [h4, List.length_take]; omega
    have hnb : n ≤ 1000 := by
      have h2 : (gridTo (squaAt ms) (wideI ms) (ms.length + 1)).length ≤ 1 * (wideI ms + 1) * (ms.length + 1) := gridTo_len at_len3 _ _
      have h3 : 1 * (wideI ms + 1) * (ms.length + 1) ≤ 1 * 25 * 25 := Nat.mul_le_mul (by omega) (by omega)
      rw [hSn] at h2; omega
    rw [hTT.symm] at HMK ⊢
    obtain ⟨T, hT⟩ : ∃ T, S.flatMap (triP W) = T := ⟨_, rfl⟩
    rw [hT] at HMK ⊢
    obtain ⟨ec, hec⟩ : ∃ c, errC T = c := ⟨_, rfl⟩
    obtain ⟨M, hM⟩ : ∃ c, madeF T = c := ⟨_, rfl⟩
    rw [hec, hM] at HMK
    rw [hec, hM]
    obtain ⟨LX, hLX⟩ : ∃ l, (if ((ec : Nat) : Int) = 0 then M else []) = l := ⟨_, rfl⟩
    rw [hLX]
    have HLX := Lib.hid hLX
    have HT := Lib.hid hT
    rw [hSn] at HG
    rw [hWn] at HWI hW24
    have HSQ := Lib.hid hSQ
    have HSTP := Lib.hid hST
    have HSL := Lib.hid hSL
    have HN := Lib.hid hnn
    have HW0 := Lib.hid hw0
    have HGR := Lib.hid hgr
    have HGL : Hid (∀ wx, Below gr w wx → gr ≤ wx.heap.size) := fun wx hx => by have := hx.size; omega
    have HTK : Hid (S.take n = S) := by unfold Hid; rw [← hnn]; exact List.take_length
    rw [hve] at HVA HG HWI ⊢
    clear hLX hT hec hM hS h hsz hH24 hrect h0 e1 e2 HTL hWn hSn hTT hSQ hST hSL hnn hw0 hgr hve hbr
    go_enter Tryz.func35, Tryz.ntmps35
    go_wp2_with fail
    rw [HW0.out, HGR.out]
    refine (HVA.out _ HBR.out).mono ?_
    rintro e w1 ⟨rfl, hb⟩
    have HB1 := Lib.hid (HBR.out.trans (hb.mono (HGL.out _ HBR.out)))
    have HK1 := Lib.hid ((hb.block _ (Array.getElem?_eq_some_iff.1 HKR.out).1).trans HKR.out)
    clear hb HVA HBR HKR
    go_wp2_with fail
    refine (HWI.out _ HB1.out).mono ?_
    rintro e wq ⟨rfl, rfl⟩
    go_wp2_with fail
    refine (HG.out _ HB1.out).mono ?_
    rintro e w2 ⟨vc, vs, ve, rfl, hb, hc, hs, he⟩
    obtain ⟨pc, cc, rfl⟩ := hc.sliceOf
    obtain ⟨pe, ce, rfl⟩ := he.sliceOf
    have HB2 := Lib.hid (HB1.out.trans (hb.mono (HGL.out _ HB1.out)))
    have HK2 := Lib.hid ((hb.block _ (Array.getElem?_eq_some_iff.1 HK1.out).1).trans HK1.out)
    obtain ⟨ps, cs, rfl⟩ := hs.sliceOf
    rw [HN.out] at hs ⊢
    have HS := Lib.hid hs
    obtain ⟨o2, ho2⟩ : ∃ o, w2.heap.size = o := ⟨_, rfl⟩
    have HO2 := Lib.hid ho2
    have HGO : Hid (gr < o2) := by unfold Hid; rw [← ho2]; exact (Array.getElem?_eq_some_iff.1 HK2.out).1
    obtain ⟨nc, hnc⟩ : ∃ m, (gridTo (cornAt ms) (wideI ms) (ms.length + 1)).length = m := ⟨_, rfl⟩
    obtain ⟨ne, hne⟩ : ∃ m, (gridTo (edgeAt ms) (wideI ms) (ms.length + 1)).length = m := ⟨_, rfl⟩
    rw [hnc, hne]
    have hff := squares_field
    clear hb hs ho2 HG HB1 HK1 HWI hc he hnc hne
    go_wp2_with fail
    go_loopw [6, 23] (fun s6 s23 wr => ∃ k : Nat, k ≤ n ∧ s23 = .int .i64 (k : Int) ∧ Below o2 w2 wr ∧ RowsO o2 gr wr s6 ((S.take k).flatMap (triP W))) (fun _ s23 _ => n - (intOf s23).toNat)
    case atStart => exact ⟨0, Nat.zero_le _, rfl, Below.refl _ _, RowsO.nil _ _ _⟩
    case round =>
      obtain ⟨k, hk, rfl, hb, hr⟩ := hrel
      by_cases hkl : k < n
      · obtain ⟨x, y, hxy, hx24, hy24⟩ := HSQ.out k hkl
        obtain ⟨g, c, hvs, -, hgl, c0, c1⟩ := SpO.at HS.out (i := k) (by rw [HN.out]; exact hkl)
        obtain ⟨rfl, rfl⟩ : ps = some ⟨g, 0, none⟩ ∧ cs = c := by cases hvs; exact ⟨rfl, rfl⟩
        clear hvs
        rw [hxy] at c0 c1
        rw [HO2.out] at hgl
        have d0 := (hb.cell (p := ⟨g, k * 2, none⟩) hgl).trans c0
        have d1 := (hb.cell (p := ⟨g, k * 2 + 1, none⟩) hgl).trans c1
        obtain ⟨P0, hP0⟩ : ∃ P, y * (W + 1) = P := ⟨_, rfl⟩
        have hb0 : P0 ≤ 600 := by rw [← hP0]; exact Nat.le_trans (Nat.mul_le_mul hy24 (show W + 1 ≤ 25 by omega)) (by decide)
        have hm0 : (y : Int) * ((W : Int) + 1) = (P0 : Int) := by rw [← hP0]; push_cast; rfl
        have htr : triP W (S.getD k (0, 0)) = [[(P0 : Int) + (x : Int), (P0 : Int) + (x : Int) + 1, (P0 : Int) + (x : Int) + ((W : Int) + 1) + 1], [(P0 : Int) + (x : Int), (P0 : Int) + (x : Int) + ((W : Int) + 1), (P0 : Int) + (x : Int) + ((W : Int) + 1) + 1]] := by
          rw [hxy]
          unfold triP triI
          simp only [Int.toNat_natCast, Nat.succ_mul, hP0]
          push_cast
          simp only [List.cons.injEq, and_true, true_and]
          omega
        have hst := HSTP.out k hkl
        rw [htr] at hst
        have HST := Lib.hid hst
        have hlen := HSL.out k hk
        obtain ⟨L, hL⟩ : ∃ L, (S.take k).flatMap (triP W) = L := ⟨_, rfl⟩
        rw [hL] at hr hlen HST
        obtain ⟨hs, hr1, hr2, hr3⟩ := id hr
        rw [hlen] at hr1 hr2 hr3
        obtain ⟨po, co, hso⟩ : ∃ p c, u6 = .slice p (2 * k) c := by
          rcases Joins.ownsRow_forms hr1 with ⟨e, h0⟩ | ⟨g, cap, e⟩
          · exact ⟨none, 0, by rw [h0]; exact e⟩
          · exact ⟨_, cap, e⟩
        subst hso
        obtain ⟨m, hm⟩ : ∃ m, 2 * k = m := ⟨_, rfl⟩
        rw [hm] at hr hr1 hr2 hr3 hlen ⊢
        have hmb : m ≤ 2000 := by omega
        obtain ⟨E1, hE1⟩ : ∃ E : Int, (P0 : Int) + (x : Int) = E := ⟨_, rfl⟩
        rw [hE1] at HST
        have hEb : 0 ≤ E1 ∧ E1 ≤ 700 := by omega
        obtain ⟨hEb0, hEb1⟩ := hEb
        obtain ⟨wa, hwa⟩ : ∃ wa, wr.alloc (.cells #[.int .i64 (x : Int), .int .i64 (y : Int)] 117) = wa := ⟨_, rfl⟩
        obtain ⟨wb, hwb⟩ : ∃ wb, wa.alloc (.cells #[.int .i64 E1, .int .i64 (E1 + 1), .int .i64 (E1 + ((W : Int) + 1) + 1)] 3) = wb := ⟨_, rfl⟩
        obtain ⟨wc, hwc⟩ : ∃ wc, wb.alloc (.cells #[.int .i64 E1, .int .i64 (E1 + ((W : Int) + 1)), .int .i64 (E1 + ((W : Int) + 1) + 1)] 3) = wc := ⟨_, rfl⟩
        obtain ⟨wd, hwd⟩ : ∃ wd, wc.alloc (.cells #[.slice (some ⟨wr.heap.size + 1, 0, none⟩) 3 3, .slice (some ⟨wr.heap.size + 1 + 1, 0, none⟩) 3 3] 51) = wd := ⟨_, rfl⟩
        have ba : Below wr.heap.size wr wa := by rw [← hwa]; exact (Below.refl _ _).alloc (Nat.le_refl _) _
        have bb : Below wa.heap.size wa wb := by rw [← hwb]; exact (Below.refl _ _).alloc (Nat.le_refl _) _
        have bc : Below wb.heap.size wb wc := by rw [← hwc]; exact (Below.refl _ _).alloc (Nat.le_refl _) _
        have bd : Below wc.heap.size wc wd := by rw [← hwd]; exact (Below.refl _ _).alloc (Nat.le_refl _) _
        have sa : wa.heap.size = wr.heap.size + 1 := by rw [← hwa]; exact lit_size _ _
        have sb : wb.heap.size = wr.heap.size + 1 + 1 := by rw [← hwb, lit_size, sa]
        have sc : wc.heap.size = wr.heap.size + 1 + 1 + 1 := by rw [← hwc, lit_size, sb]
        have ik1 : wb.heap[wr.heap.size + 1]? = some (.cells #[.int .i64 E1, .int .i64 (E1 + 1), .int .i64 (E1 + ((W : Int) + 1) + 1)] 3 (0, 0)) := by rw [← sa, ← hwb]; exact heap_alloc_new _ _
        have ik2 : wc.heap[wr.heap.size + 1 + 1]? = some (.cells #[.int .i64 E1, .int .i64 (E1 + ((W : Int) + 1)), .int .i64 (E1 + ((W : Int) + 1) + 1)] 3 (0, 0)) := by rw [← sb, ← hwc]; exact heap_alloc_new _ _
        have ik3 : wd.heap[wr.heap.size + 1 + 1 + 1]? = some (.cells #[.slice (some ⟨wr.heap.size + 1, 0, none⟩) 3 3, .slice (some ⟨wr.heap.size + 1 + 1, 0, none⟩) 3 3] 51 (0, 0)) := by rw [← sc, ← hwd]; exact heap_alloc_new _ _
        have hi1 : IntsIn gr wb (.slice (some ⟨wr.heap.size + 1, 0, none⟩) 3 3) [E1, E1 + 1, E1 + ((W : Int) + 1) + 1] := ints_three ik1
        have hi2 : IntsIn gr wc (.slice (some ⟨wr.heap.size + 1 + 1, 0, none⟩) 3 3) [E1, E1 + ((W : Int) + 1), E1 + ((W : Int) + 1) + 1] := ints_three ik2
        have bac := ba.trans ((bb.trans (bc.mono bb.size)).mono ba.size)
        have brd := bac.trans (bd.mono bac.size)
        have hsr : o2 ≤ wr.heap.size := by rw [← HO2.out]; exact hb.size
        have hi1d := (hi1.below bc (Nat.le_refl _)).below bd (Nat.le_refl _)
        have hi2d := hi2.below bd (Nat.le_refl _)
        have hrd := hr.below brd (Nat.le_refl _)
        have hro : wd.ownsRow o2 51 1 (.slice po m co) m hs := owns_keep hr1 fun k hk => brd.block k (hr1.lt k hk).2
        have hpush : ∀ v' w', w'.ownsRow o2 51 1 v' (m + 2) (hs ++ [.slice (some ⟨wr.heap.size + 1, 0, none⟩) 3 3, .slice (some ⟨wr.heap.size + 1 + 1, 0, none⟩) 3 3]) → wd.grownBy w' (Value.slice po m co).ownBlock →
            Below o2 w2 w' ∧ RowsO o2 gr w' v' ((S.take (k + 1)).flatMap (triP W)) := fun v' w' h1 h2 => by
          refine ⟨?_, ?_⟩
          · have hB := hb.trans (brd.mono hsr)
            exact hB.grown h2 (by rw [← HO2.out]; exact hB.size) (fun k e => (hro.lt k e).1)
          · rw [HST.out]
            refine RowsO.push2 (Nat.le_of_lt HGO.out) (by rw [hlen]; exact hro) (by rw [hlen]; exact hr2) (fun i hi => ?_) hi1d hi2d (by rw [hlen]; exact h1) h2
            exact (hr3 i (by rw [← hlen]; exact hi)).below brd (Nat.le_refl _)
        have HPUSH := Lib.hid hpush
        have HRO := Lib.hid hro
        have HN9 := Lib.hid (World.news_of_block (cs := #[.slice (some ⟨wr.heap.size + 1, 0, none⟩) 3 3, .slice (some ⟨wr.heap.size + 1 + 1, 0, none⟩) 3 3]) (t := 51) (fr := (0, 0)) ik3)
        have HBS : Hid (o2 ≤ wd.heap.size) := Nat.le_trans hsr brd.size
        have HWA := Lib.hid hwa
        have HWB := Lib.hid hwb
        have HWC := Lib.hid hwc
        have HWD := Lib.hid hwd
        clear sa sb sc hb hr hxy hx24 hgl c0 c1 hP0 htr hst hlen hL hr1 hr2 hr3 hm hwa hwb hwc hwd ba bb bc bd ik1 ik2 ik3 hi1 hi2 bac brd hsr hi1d hi2d hrd hro hpush
        go_wp2_with (at_builtin; rw [HWA.out, HWB.out, HWC.out, HWD.out]; refine wpList_append_own_at _ rfl (.tmp 34) (.tmp 52) 22 rfl o2 51 i3 (.slice none 0 0) 1 24 Tryz.underlying22 hi3 hy0 hy1 hy2 rfl (by decide) _ m hs rfl HRO.out ⟨_, 0, none⟩ 2 2 [.slice (some ⟨wr.heap.size + 1, 0, none⟩) 3 3, .slice (some ⟨wr.heap.size + 1 + 1, 0, none⟩) 3 3] rfl rfl HN9.out (fun u hu => by simp at hu; rcases hu with rfl | rfl <;> rfl) (by unfold maxLen; omega) (by omega) HBS.out ?_; intro v' w' hown hgw hnil hat; have HP := Lib.hid (HPUSH.out v' w' hown hgw); clear hown hgw hnil hat)
        go_roundw
        case rel => exact ⟨k + 1, hkl, by go_num, HP.out.1, HP.out.2⟩
        case measure => simp [intOf]; omega
      · obtain rfl : k = n := by omega
        rw [HTK.out, HT.out] at hr
        have hbx := HB2.out.trans (hb.mono (by rw [← HO2.out]; exact HGL.out _ HB2.out))
        have HMX := Lib.hid (HMK.out wr hbx u6 (hr.le (Nat.le_of_lt HGO.out)))
        obtain ⟨pq, cq, hso, -⟩ := hr.lists
        obtain ⟨m, hm⟩ : ∃ m, T.length = m := ⟨_, rfl⟩
        rw [hm] at hso
        subst hso
        have hkr := (hb.block gr HGO.out).trans HK2.out
        have HBX := Lib.hid hbx
        have HKX := Lib.hid hkr
        clear hb hr hbx hm hkr HMK HS HSQ HSTP HSL
        go_wp2_with fail
        refine HMX.out.mono ?_
        rintro e w3 ⟨hb3, ⟨he0, v3, rfl, hr3⟩ | ⟨he0, j, hj8, hej, rfl⟩⟩
        · obtain ⟨p3, c3, hv3, -⟩ := hr3.lists
          obtain ⟨hf1, hf2, hf3, hf4, hf5⟩ := cpx_fin HBX.out HKX.out hb3 hr3
          obtain ⟨m3, hm3⟩ : ∃ m3, M.length = m3 := ⟨_, rfl⟩
          rw [hm3] at hv3
          subst hv3
          have H1 := Lib.hid hf1
          have H2 := Lib.hid hf2
          have H3 := Lib.hid hf3
          have H0 := Lib.hid he0
          clear hb3 hr3 hf1 hf2 hf3 hm3 he0
          go_wp2_with fail
          refine bodyPost_ret (v := .tuple #[.agg #[.slice p3 m3 c3], .nilIface]) (by simp [results, Tryz.results35, go_sem, H3.out]) rfl ?_
          refine ⟨.slice p3 m3 c3, ?_, H1.out, ?_⟩
          · rw [H0.out]; rfl
          · rw [← HLX.out, H0.out]; exact H2.out
        · obtain ⟨hf1, hf2, hf3, hf4, hf5⟩ := cpx_fin (v := .slice none 0 0) (L := []) HBX.out HKX.out hb3 (RowsO.nil _ _ _)
          have H1 := Lib.hid hf1
          have H2 := Lib.hid hf2
          have H3 := Lib.hid hf3
          have HE : Hid (errOf a ((ec : Nat) : Int) = errE (a j) ∧ ¬ ((ec : Nat) : Int) = 0) := by
            unfold Hid
            rw [hej]
            exact ⟨errOf_succ a j, by omega⟩
          unfold errE
          clear hb3 hf1 hf2 hf3 he0 hej
          go_wp2_with fail
          refine bodyPost_ret (v := .tuple #[.agg #[.slice none 0 0], .iface 251 (.pointer (some (a j)))]) (by simp [results, Tryz.results35, go_sem, H3.out]) rfl ?_
          refine ⟨.slice none 0 0, ?_, H1.out, ?_⟩
          · rw [HE.out.1]; rfl
          · rw [← HLX.out, if_neg HE.out.2]; exact H2.out
end Go.Proofs.YtoheffkiohfmoaaGreatDoor
