/-
  The program's Collapse by a contract. (Printed by tools/gen_morh.py.)
  The document's CollapsePairs by a contract.
-/
import Derived.Test.YtoheffkiohfmoaaGreatDoorMorG
import Derived.Test.YtoheffkiohfmoaaGreatDoorPairR
import Derived.Test.YtoheffkiohfmoaaGreatDoorMorK
set_option linter.unusedSimpArgs false
set_option linter.unusedVariables false
namespace Go.Proofs.YtoheffkiohfmoaaGreatDoor
open Go Go.RowKit Go.Maps

theorem two_of {w : World} {b : Nat} {x y : Value} {t : TypeId} (h : w.heap[b]? = some (.cells #[x, y] t (0, 0))) : w.cell? ⟨b, 0, none⟩ = some x ∧ w.cell? ⟨b, 1, none⟩ = some y := by simp [World.cell?, h]
theorem WrP.err {a : Nat → Addr} {k : Nat} (hk : k < 8) {at_ : Int} {n : Nat} {w : World} (h : w.heap[n]? = some (.cells #[.int .i64 at_, errE (a k)] 89 (0, 0))) : ErrAt a w (.iface 87 (.pointer (some ⟨n, 0, none⟩))) ((k : Int) + 1) at_ := by
  refine Or.inr (Or.inr ⟨k, n, 0, hk, rfl, rfl, ?_, ?_⟩)
  · simp [World.cell?, h]
  · simp [World.cell?, h]; rfl
/-- the first pairs may be taken away, one by one -/
def okTo' (F : List (List Int)) (g : List (Int × Int)) (k : Nat) : Prop := ∀ j, j < k → okP F (leftAt F g j) (g.getD j (0, 0))
theorem set_two (l : List Bool) (i j : Nat) : (l.set j false).set i false = (l.set i false).set j false := by
  by_cases h : i = j
  · subst h; rfl
  · exact List.set_comm _ _ (Ne.symm h)
theorem setCell_cell {w : World} {g o : Nat} {v : Value} {p : Addr} (h : p.block ≠ g) : (w.setCell ⟨g, o, none⟩ v).cell? p = w.cell? p := by
  unfold World.cell?
  rw [setCell_blk h]
def ColU (a : Nat → Addr) (B : Nat) (L : List (List Int)) (g : List (Int × Int)) (w : World) (e : Ending) (w' : World) : Prop :=
  Below w.heap.size w w' ∧
  ((errX L = 0 ∧ okTo' (faceN (allF L)) g g.length ∧ ∃ v, e = .returned (.tuple #[.agg #[v], .nilIface]) ∧ ListsIn B w' v (madeF (leftF (faceN (allF L)) (leftAt (faceN (allF L)) g g.length)))) ∨
   (errX L = 0 ∧ ∃ i, i < g.length ∧ okTo' (faceN (allF L)) g i ∧ ¬ okP (faceN (allF L)) (leftAt (faceN (allF L)) g i) (g.getD i (0, 0)) ∧ ∃ ve, e = .returned (.tuple #[.agg #[.slice none 0 0], ve]) ∧ ErrAt a w' ve 4 (i : Int)) ∨
   (∃ k, k < 8 ∧ errX L = k + 1 ∧ e = .returned (.tuple #[.agg #[.slice none 0 0], errE (a k)])))
set_option maxRecDepth 100000 in
set_option maxHeartbeats 32000000 in
theorem collapse_any (a : Nat → Addr) (B : Nat) (L : List (List Int)) (g : List (Int × Int)) (v vg : Value) (w : World) (hS : Sents w a) (hB : B ≤ w.heap.size) (hv : ListsIn B w v L) (hg : PairsAt w vg g) (hn : L.length ≤ 100000) (hl : ∀ l ∈ L, l.length ≤ 100000) (hgl : g.length ≤ 1000)
    (hgb : ∀ p ∈ g, (-9223372036854775808 ≤ p.1 ∧ p.1 ≤ 9223372036854775807) ∧ (-9223372036854775808 ≤ p.2 ∧ p.2 ≤ 9223372036854775807)) :
    Calls Tryz.prog 11 #[.agg #[v], vg] w (ColU a B L g w) := by
  obtain ⟨i39, hi39, hz0, hz1, hz2⟩ := info_parts Tryz.info51
  obtain ⟨pv, cv, hve, -⟩ := id hv
  obtain ⟨n0, hLn⟩ : ∃ n, L.length = n := ⟨_, rfl⟩
  rw [hLn] at hve
  subst hve
  obtain ⟨pg, cg, hge, -⟩ := id hg
  obtain ⟨ng, hng⟩ : ∃ ng, g.length = ng := ⟨_, rfl⟩
  rw [hng] at hge hgl
  subst hge
  have hb0 : Below w.heap.size w ((w.alloc (.cells #[.slice pv n0 cv] 32)).alloc (.cells #[.slice none 0 0] 32)) := ((Below.refl _ _).alloc (Nat.le_refl _) _).alloc (by simp) _
  obtain ⟨w1, hw1⟩ : ∃ w1, (w.alloc (.cells #[.slice pv n0 cv] 32)).alloc (.cells #[.slice none 0 0] 32) = w1 := ⟨_, rfl⟩
  have hg0 : w1.heap[w.heap.size]? = some (.cells #[.slice pv n0 cv] 32 (0, 0)) := by
    rw [← hw1]
    exact (((Below.refl _ (w.alloc (.cells #[.slice pv n0 cv] 32))).alloc (Nat.le_refl _) _).block w.heap.size (by simp)).trans (heap_alloc_new _ _)
  have hg1 : w1.heap[w.heap.size + 1]? = some (.cells #[.slice none 0 0] 32 (0, 0)) := by
    rw [← hw1]
    have h := heap_alloc_new (w.alloc (.cells #[.slice pv n0 cv] 32)) (.cells #[.slice none 0 0] 32)
    rwa [show (w.alloc (.cells #[.slice pv n0 cv] 32)).heap.size = w.heap.size + 1 by simp] at h
  have hs1 : w1.heap.size = w.heap.size + 2 := by rw [← hw1]; simp
  rw [hw1] at hb0
  have HB0 := Lib.hid hb0
  have HW1 := Lib.hid hw1
  have HG1 := Lib.hid hg1
  have HS := Lib.hid hS
  have HBB := Lib.hid hB
  have HNG := Lib.hid hng
  have HGB := Lib.hid hgb
  have HG := Lib.hid (hg.below hb0 (Nat.le_refl _))
  have HDA := Lib.hid (diagram_any a B L (.slice pv n0 cv) w1 (hS.below hb0 (Nat.le_refl _)) (by omega) (hv.below hb0 (Nat.le_refl _)) hn hl)
  have c0 : w1.cell? ⟨w.heap.size, 0, none⟩ = some (.slice pv n0 cv) := by simp [World.cell?, hg0]
  unfold DiaP errE at HDA
  unfold ColU
  clear hS hB hv hn hl hb0 hg0 hg1 hw1 hLn hg hng hgb
  go_enter Tryz.func11, Tryz.ntmps11
  go_upto_region 1 with fail
  rw [HW1.out]
  go_wp2_with fail
  refine HDA.out.mono ?_
  rintro e w2 ⟨hb2, ⟨h0, f, d, u, rfl, hD⟩ | ⟨k, hk, hek, rfl⟩⟩
  rotate_left
  · have HB2 := Lib.hid (HB0.out.trans (hb2.mono HB0.out.size))
    have HEK := Lib.hid hek
    have hba : Below w2.heap.size w2 (w2.alloc (.cells #[.slice none 0 0, .slice none 0 0, .slice none 0 0] 81)) := (Below.refl _ _).alloc (Nat.le_refl _) _
    have hg2 := (hb2.block (w.heap.size + 1) (by omega)).trans HG1.out
    have hga := (hba.block (w.heap.size + 1) (Array.getElem?_eq_some_iff.1 hg2).1).trans hg2
    obtain ⟨z0, zf⟩ := one_at hga
    obtain ⟨wf, hwf⟩ : ∃ wf, wf = (w2.alloc (.cells #[.slice none 0 0, .slice none 0 0, .slice none 0 0] 81)).setCell ⟨w.heap.size + 1, 0, none⟩ (.slice none 0 0) := ⟨_, rfl⟩
    have hrf : wf.cell? ⟨w.heap.size + 1, 0, none⟩ = some (.slice none 0 0) := by rw [hwf]; exact one_set hga
    have HBF : Hid (Below w.heap.size w wf) := by unfold Hid; rw [hwf]; exact (HB2.out.alloc HB2.out.size _).setCell (Nat.le_succ _) _
    have HWF := Lib.hid hwf
    have R0 := Lib.hid hrf
    clear hb2 hek c0 hba hg2 hga hwf hrf
    go_wp2_with fail
    rw [← HWF.out]
    refine bodyPost_ret (v := .tuple #[.agg #[.slice none 0 0], .iface 251 (.pointer (some (a k)))]) (by simp [results, Tryz.results11, go_sem, R0.out]) rfl ?_
    exact ⟨HBF.out, Or.inr (Or.inr ⟨k, hk, HEK.out, rfl⟩)⟩
  · have HE := Lib.hid h0
    obtain ⟨hn6, hf7⟩ := faceN_bd h0
    obtain ⟨F, hF⟩ : ∃ F, faceN (allF L) = F := ⟨_, rfl⟩
    have HFE := Lib.hid hF
    have HLR : Hid (∀ lf, errC (leftF F lf) = 0) := by unfold Hid; rw [← hF]; exact left_right (errX_ok h0).1
    rw [hF] at hD hn6 hf7
    obtain ⟨pf, cf, hfe, -⟩ := id hD.1
    obtain ⟨pd, cd, hde, -⟩ := id hD.2.1
    obtain ⟨pu, cu, hue, -⟩ := id hD.2.2
    obtain ⟨n, hnn⟩ : ∃ n, F.length = n := ⟨_, rfl⟩
    obtain ⟨nd, hnd⟩ : ∃ nd, (dnF F).length = nd := ⟨_, rfl⟩
    obtain ⟨nu, hnu⟩ : ∃ nu, (upF F).length = nu := ⟨_, rfl⟩
    rw [hnn] at hfe hn6
    rw [hnd] at hde
    rw [hnu] at hue
    subst hfe hde hue
    have HN := Lib.hid hnn
    have HF7 := Lib.hid hf7
    have hbA : Below w2.heap.size w2 (w2.alloc (.cells #[.slice pf n cf, .slice pd nd cd, .slice pu nu cu] 81)) := (Below.refl _ _).alloc (Nat.le_refl _) _
    obtain ⟨w3, hw3⟩ : ∃ w3, w2.alloc (.cells #[.slice pf n cf, .slice pd nd cd, .slice pu nu cu] 81) = w3 := ⟨_, rfl⟩
    have hk3 := heap_alloc_new w2 (.cells #[.slice pf n cf, .slice pd nd cd, .slice pu nu cu] 81)
    rw [hw3] at hbA hk3
    have hlt3 := (Array.getElem?_eq_some_iff.1 hk3).1
    have hbC : Below w3.heap.size w3 (w3.alloc (.cells #[.bool true] 4)) := (Below.refl _ _).alloc (Nat.le_refl _) _
    have hk4 := heap_alloc_new w3 (.cells #[.bool true] 4)
    have hlt4 := (Array.getElem?_eq_some_iff.1 hk4).1
    obtain ⟨c3, c4, c5, -⟩ := three_of hk3
    have hk34 := (hbC.block w2.heap.size hlt3).trans hk3
    obtain ⟨d3, d4, d5, -⟩ := three_of hk34
    have HRP := Lib.hid (repB_any (.bool true) rfl n (by omega) (w3.alloc (.cells #[.bool true] 4)) ⟨w3.heap.size, 0, none⟩ 1 (by rw [World.cell?_alloc_at _ _ _ _ rfl]; rfl) hlt4)
    have HK3 := Lib.hid hk34
    have hb14 : Below w1.heap.size w1 (w3.alloc (.cells #[.bool true] 4)) := (hb2.trans (hbA.mono hb2.size)).trans (hbC.mono (Nat.le_trans hb2.size hbA.size))
    have HB4 := Lib.hid hb14
    have HD2 := Lib.hid ((hD.below hbA (Nat.le_refl _)).below hbC (Nat.le_refl _))
    have HW3 := Lib.hid hw3
    have hlt34 : w2.heap.size < (w3.alloc (.cells #[.bool true] 4)).heap.size := (Array.getElem?_eq_some_iff.1 hk34).1
    have hlt1 : w.heap.size + 2 ≤ (w3.alloc (.cells #[.bool true] 4)).heap.size := by have := hb14.size; omega
    have HRES : Hid ((w3.alloc (.cells #[.bool true] 4)).heap[w.heap.size + 1]? = some (.cells #[.slice none 0 0] 32 (0, 0))) := (hb14.block _ (by omega)).trans HG1.out
    have HGP := Lib.hid (HG.out.below hb14 (Nat.le_refl _))
    have HS4 := Lib.hid (HS.out.below (HB0.out.trans (hb14.mono HB0.out.size)) (Nat.le_refl _))
    have HB04 := Lib.hid (HB0.out.trans (hb14.mono HB0.out.size))
    clear hb2 h0 hF hD hnn hnd hnu hbA hw3 hk3 hbC hk4 c0 hk34 hf7 hb14 HG HDA HG1
    go_upto_region 4 with fail
    rw [HW3.out]
    go_wp2_with fail
    refine HRP.out.mono ?_
    obtain ⟨wa, hwa⟩ : ∃ wa, w3.alloc (.cells #[.bool true] 4) = wa := ⟨_, rfl⟩
    have HWA := Lib.hid hwa
    rw [hwa] at hlt34 hlt4 hlt1 HRP HK3 HB4 HD2 HRES HGP HS4 HB04
    rw [hwa]
    clear hwa c3 c4 c5 d3 d4 d5
    intro e w5 hrep
    obtain ⟨vb, he, hb5, hbo⟩ := RepB.own (O := wa.heap.size) (Nat.le_refl _) (by omega) hrep
    obtain ⟨gl, hgl5, rfl, -, -⟩ := id hrep
    cases he
    have HB5 := Lib.hid hb5
    have HO5 := Lib.hid hbo
    clear hrep hb5 hbo HRP
    go_wp2_with fail
    go_loopw [32] (fun i wr => ∃ k : Nat, k ≤ ng ∧ i = .int .i64 (k : Int) ∧ Below wa.heap.size wa wr ∧ BoolO wa.heap.size wr (.slice (some ⟨gl, 0, none⟩) n n) (leftAt F g k) ∧ okTo' F g k) (fun i _ => ng - (intOf i).toNat)
    case atStart => exact ⟨0, Nat.zero_le _, rfl, HB5.out, by unfold leftAt; rw [HN.out]; exact HO5.out, fun j hj => absurd hj (Nat.not_lt_zero _)⟩
    case round =>
      obtain ⟨k, hkn, rfl, hb, hO, hok⟩ := hrel
      have HB := Lib.hid hb
      have HO := Lib.hid hO
      have HOK := Lib.hid hok
      obtain ⟨lf, hlf⟩ : ∃ lf, leftAt F g k = lf := ⟨_, rfl⟩
      have hlfl : lf.length = n := by rw [← hlf, leftAt_len, HN.out]
      have HLF := Lib.hid hlf
      have HLL := Lib.hid hlfl
      rw [hlf] at hO
      have HOL := Lib.hid hO
      clear hlf hlfl hok
      by_cases hkl : k < ng
      · obtain ⟨⟨x, y⟩, hxy⟩ : ∃ p, g.getD k (0, 0) = p := ⟨_, rfl⟩
        have hgb := HGB.out (g.getD k (0, 0)) (by rw [List.getD_eq_getElem?_getD, List.getElem?_eq_getElem (by rw [HNG.out]; exact hkl)]; exact List.getElem_mem _)
        obtain ⟨bg, og, hpe, hp1, hp2⟩ := HGP.out.at (i := k) (by rw [HNG.out]; exact hkl)
        subst hpe
        rw [hxy] at hp1 hp2 hgb
        have hq1 := (hb.cell (p := ⟨bg, og + k * 2, none⟩) (mem_lt hp1)).trans hp1
        have hq2 := (hb.cell (p := ⟨bg, og + k * 2 + 1, none⟩) (mem_lt hp2)).trans hp2
        have HXY := Lib.hid hxy
        clear hxy hp1 hp2
        dsimp only at hgb hq1 hq2
        obtain ⟨⟨hx1, hx2⟩, hy1, hy2⟩ := hgb
        have hkw := heap_alloc_new wr (.cells #[.int .i64 x, .int .i64 y] 78)
        obtain ⟨n1, n2⟩ := two_of hkw
        have HBW : Hid (Below wa.heap.size wa (wr.alloc (.cells #[.int .i64 x, .int .i64 y] 78))) := hb.alloc hb.size _
        have hbw : Below wr.heap.size wr (wr.alloc (.cells #[.int .i64 x, .int .i64 y] 78)) := (Below.refl _ _).alloc (Nat.le_refl _) _
        have HOW := Lib.hid (HOL.out.below hbw (Nat.le_refl _))
        clear hO HO5 hkw hb
        go_upto_region 8 with fail
        obtain ⟨ww, hww⟩ : ∃ ww, wr.alloc (.cells #[.int .i64 x, .int .i64 y] 78) = ww := ⟨_, rfl⟩
        rw [hww]
        rw [hww] at n1 n2 HBW HOW
        have hltw : wr.heap.size < ww.heap.size := by rw [← hww]; simp
        have hsw := HBW.out.size
        clear hww hbw
        rcases Int.lt_or_le x 0 with hx0 | hx0
        · have q0 : decide (x ≥ 0) = false := decide_eq_false (by omega)
          have q1 : decide (0 ≤ x) = false := decide_eq_false (by omega)
          have HNOK : Hid (¬ okP F lf (x, y)) := fun h => by have := h.1; dsimp only at this; omega
          go_upto_region 13 with fail
          obtain ⟨W, hW⟩ : ∃ W, ww = W := ⟨_, rfl⟩
          have hbW : Below wa.heap.size wa W := by rw [← hW]; exact HBW.out
          rw [hW]
          have hRW := (hbW.block (w.heap.size + 1) (by omega)).trans HRES.out
          obtain ⟨z0, zf⟩ := one_at hRW
          have hgE := (HS4.out.below hbW (Nat.le_refl _)).g 3 (by decide)
          simp only [gnum] at hgE
          have hsW : wa.heap.size ≤ W.heap.size := hbW.size
          obtain ⟨wf, hwf⟩ : ∃ wf, wf = ((W.setCell ⟨w.heap.size + 1, 0, none⟩ (.slice none 0 0)).alloc (.cells #[.int .i64 (k : Int), .iface 251 (.pointer (some (a 3)))] 89)) := ⟨_, rfl⟩
          have hkF : wf.heap[W.heap.size]? = some (.cells #[.int .i64 (k : Int), errE (a 3)] 89 (0, 0)) := by
            rw [hwf]
            have h := heap_alloc_new (W.setCell ⟨w.heap.size + 1, 0, none⟩ (.slice none 0 0)) (.cells #[.int .i64 (k : Int), errE (a 3)] 89)
            rwa [show (W.setCell ⟨w.heap.size + 1, 0, none⟩ (.slice none 0 0)).heap.size = W.heap.size by simp] at h
          have hbf : Below w.heap.size w wf := by rw [hwf]; exact ((HB04.out.trans (hbW.mono HB04.out.size)).setCell (Nat.le_succ _) _).alloc (by have := HB04.out.size; first | omega | (simp; omega)) _
          have hrf : wf.cell? ⟨w.heap.size + 1, 0, none⟩ = some (.slice none 0 0) := by
            have h1 : wf.heap[w.heap.size + 1]? = some (.cells #[.slice none 0 0] 32 (0, 0)) := by
              rw [hwf]
              exact (((Below.refl _ _).alloc (Nat.le_refl _) _).block (w.heap.size + 1) (by first | omega | (simp; omega))).trans (one_blk hRW)
            simp [World.cell?, h1]
          obtain ⟨z1, zg⟩ := one_at ((((Below.refl W.heap.size W).alloc (Nat.le_refl _) (.cells #[.int .i64 (k : Int), .iface 251 (.pointer (some (a 3)))] 89)).block (w.heap.size + 1) (by omega)).trans hRW)
          have HKF := Lib.hid ((WrP.err (a := a) (k := 3) (by decide) hkF).below ((Below.refl _ _).drew) (Nat.le_refl _))
          have HBF := Lib.hid hbf.drew
          have R0 := Lib.hid (((Below.refl wf.heap.size wf).drew.cell (p := ⟨w.heap.size + 1, 0, none⟩) (mem_lt hrf)).trans hrf)
          have HEX : Hid ((W.alloc (.cells #[.int .i64 (k : Int), .iface 251 (.pointer (some (a 3)))] 89)).setCell ⟨w.heap.size + 1, 0, none⟩ (.slice none 0 0) = wf) := by
            unfold Hid
            rw [hwf]
            exact World.setCell_alloc_past _ _ _ _ (by first | omega | (simp; omega))
          have HWF := Lib.hid hwf
          clear hW hwf hkF hbf hrf hbW hRW
          go_region
          all_goals
            go_wp2_with fail
            first
            | rw [HEX.out]
            | rw [← HWF.out]
            refine bodyPost_ret (v := .tuple #[.agg #[.slice none 0 0], .iface 87 (.pointer (some ⟨W.heap.size, 0, none⟩))]) (by simp [results, Tryz.results11, go_sem, R0.out]) rfl ?_
            rw [HFE.out]
            exact ⟨HBF.out, Or.inr (Or.inl ⟨HE.out, k, by rw [HNG.out]; exact hkl, HOK.out, by rw [HLF.out, HXY.out]; exact HNOK.out, _, rfl, HKF.out⟩)⟩
        · obtain ⟨xn, rfl⟩ : ∃ xn : Nat, x = (xn : Int) := ⟨x.toNat, by omega⟩
          by_cases hxn : xn < n
          · obtain ⟨l1, l2⟩ := HOW.out.cellsAt xn (by rw [HLL.out]; exact hxn)
            cases hlb : lf.getD xn false with
            | false =>
              rw [hlb] at l1
              have HNOK : Hid (¬ okP F lf ((xn : Int), y)) := fun h => by have := h.2.2.1; dsimp only at this; rw [Int.toNat_natCast, hlb] at this; cases this
              clear hlb
              go_upto_region 13 with fail
              obtain ⟨W, hW⟩ : ∃ W, ww = W := ⟨_, rfl⟩
              have hbW : Below wa.heap.size wa W := by rw [← hW]; exact HBW.out
              rw [hW]
              have hRW := (hbW.block (w.heap.size + 1) (by omega)).trans HRES.out
              obtain ⟨z0, zf⟩ := one_at hRW
              have hgE := (HS4.out.below hbW (Nat.le_refl _)).g 3 (by decide)
              simp only [gnum] at hgE
              have hsW : wa.heap.size ≤ W.heap.size := hbW.size
              obtain ⟨wf, hwf⟩ : ∃ wf, wf = ((W.setCell ⟨w.heap.size + 1, 0, none⟩ (.slice none 0 0)).alloc (.cells #[.int .i64 (k : Int), .iface 251 (.pointer (some (a 3)))] 89)) := ⟨_, rfl⟩
              have hkF : wf.heap[W.heap.size]? = some (.cells #[.int .i64 (k : Int), errE (a 3)] 89 (0, 0)) := by
                rw [hwf]
                have h := heap_alloc_new (W.setCell ⟨w.heap.size + 1, 0, none⟩ (.slice none 0 0)) (.cells #[.int .i64 (k : Int), errE (a 3)] 89)
                rwa [show (W.setCell ⟨w.heap.size + 1, 0, none⟩ (.slice none 0 0)).heap.size = W.heap.size by simp] at h
              have hbf : Below w.heap.size w wf := by rw [hwf]; exact ((HB04.out.trans (hbW.mono HB04.out.size)).setCell (Nat.le_succ _) _).alloc (by have := HB04.out.size; first | omega | (simp; omega)) _
              have hrf : wf.cell? ⟨w.heap.size + 1, 0, none⟩ = some (.slice none 0 0) := by
                have h1 : wf.heap[w.heap.size + 1]? = some (.cells #[.slice none 0 0] 32 (0, 0)) := by
                  rw [hwf]
                  exact (((Below.refl _ _).alloc (Nat.le_refl _) _).block (w.heap.size + 1) (by first | omega | (simp; omega))).trans (one_blk hRW)
                simp [World.cell?, h1]
              obtain ⟨z1, zg⟩ := one_at ((((Below.refl W.heap.size W).alloc (Nat.le_refl _) (.cells #[.int .i64 (k : Int), .iface 251 (.pointer (some (a 3)))] 89)).block (w.heap.size + 1) (by omega)).trans hRW)
              have HKF := Lib.hid ((WrP.err (a := a) (k := 3) (by decide) hkF).below ((Below.refl _ _).drew) (Nat.le_refl _))
              have HBF := Lib.hid hbf.drew
              have R0 := Lib.hid (((Below.refl wf.heap.size wf).drew.cell (p := ⟨w.heap.size + 1, 0, none⟩) (mem_lt hrf)).trans hrf)
              have HEX : Hid ((W.alloc (.cells #[.int .i64 (k : Int), .iface 251 (.pointer (some (a 3)))] 89)).setCell ⟨w.heap.size + 1, 0, none⟩ (.slice none 0 0) = wf) := by
                unfold Hid
                rw [hwf]
                exact World.setCell_alloc_past _ _ _ _ (by first | omega | (simp; omega))
              have HWF := Lib.hid hwf
              clear hW hwf hkF hbf hrf hbW hRW
              go_region
              all_goals
                go_wp2_with fail
                first
                | rw [HEX.out]
                | rw [← HWF.out]
                refine bodyPost_ret (v := .tuple #[.agg #[.slice none 0 0], .iface 87 (.pointer (some ⟨W.heap.size, 0, none⟩))]) (by simp [results, Tryz.results11, go_sem, R0.out]) rfl ?_
                rw [HFE.out]
                exact ⟨HBF.out, Or.inr (Or.inl ⟨HE.out, k, by rw [HNG.out]; exact hkl, HOK.out, by rw [HLF.out, HXY.out]; exact HNOK.out, _, rfl, HKF.out⟩)⟩
            | true =>
              rw [hlb] at l1
              obtain ⟨d3, d4, d5, -⟩ := three_of ((HBW.out.block w2.heap.size hlt34).trans HK3.out)
              have HAV := Lib.hid (above_any B F (.slice pf n cf) (.slice pd nd cd) (.slice pu nu cu) (.slice (some ⟨gl, 0, none⟩) n n) lf xn ww (HD2.out.below HBW.out (Nat.le_refl _)) HOW.out.reads (by rw [HLL.out, HN.out]) (by rw [HN.out]; exact hxn) (by rw [HN.out]; exact hn6) (fun f hf => by have := HF7.out f hf; omega))
              unfold AbvP at HAV
              have HLB := Lib.hid hlb
              have HZL := Lib.hid (above_lt (F := F) (lf := lf) (a := xn))
              have HOKI : Hid (okP F lf ((xn : Int), y) ↔ (abvF F lf xn).length = 1 ∧ (((abvF F lf xn).getD 0 0 : Nat) : Int) = y) := by
                unfold Hid okP
                dsimp only
                rw [Int.toNat_natCast, hlb, HN.out]
                exact ⟨fun h => h.2.2.2, fun h => ⟨by omega, by omega, rfl, h⟩⟩
              obtain ⟨l, hlE⟩ : ∃ l, abvF F lf xn = l := ⟨_, rfl⟩
              rw [hlE] at HAV HOKI HZL
              obtain ⟨m, hm⟩ : ∃ m, l.length = m := ⟨_, rfl⟩
              rw [hm] at HAV HOKI HZL
              have HM := Lib.hid hm
              clear hlb hlE hm
              go_wp2_with fail
              refine HAV.out.mono ?_
              rintro e w6 ⟨p6, c6, rfl, hb6, hI6⟩
              have HB6 := Lib.hid (HBW.out.trans (hb6.mono HBW.out.size))
              have HO6 := Lib.hid (HOW.out.below hb6 (Nat.le_refl _))
              have o1 := (hb6.cell (p := ⟨wr.heap.size, 0, none⟩) hltw).trans n1
              have o2 := (hb6.cell (p := ⟨wr.heap.size, 1, none⟩) hltw).trans n2
              clear n1 n2 d3 d4 d5 l1 l2
              by_cases hm1 : m = 1
              · subst hm1
                obtain ⟨z, hz⟩ : ∃ z, l.getD 0 0 = z := ⟨_, rfl⟩
                rw [hz] at HOKI HZL
                have hzn : z < n := by rw [← HN.out]; exact HZL.out rfl
                obtain ⟨g6, c6', hf6, -⟩ := hI6.row1 HM.out
                obtain ⟨rfl, rfl⟩ : p6 = some ⟨g6, 0, none⟩ ∧ c6 = c6' := by cases hf6; exact ⟨rfl, rfl⟩
                have hx6 := hI6.cell1 HM.out
                rw [hz] at hx6
                clear hb6 hI6 hf6 hz
                by_cases hzy : (z : Int) = y
                · subst hzy
                  have q1 : ((z : Int) == (z : Int)) = true := beq_self_eq_true _
                  go_upto_region 11 with fail
                  go_region
                  all_goals
                    go_upto_region 14 with fail
                    obtain ⟨w7, hw7⟩ : ∃ w7, w6.drew = w7 := ⟨_, rfl⟩
                    rw [hw7]
                    have h7 : Below w6.heap.size w6 w7 := by rw [← hw7]; exact (Below.refl _ _).drew
                    have HB7 := Lib.hid (HB6.out.trans (h7.mono HB6.out.size))
                    have hO7 := HO6.out.below h7 (Nat.le_refl _)
                    have r1 := (h7.cell (p := ⟨wr.heap.size, 0, none⟩) (mem_lt o1)).trans o1
                    have r2 := (h7.cell (p := ⟨wr.heap.size, 1, none⟩) (mem_lt o2)).trans o2
                    have hgw : wr.heap.size ≠ gl := fun e => by have := (HOL.out.lt gl rfl).2; omega
                    have r3 := (setCell_cell (w := w7) (g := gl) (o := xn) (v := .bool false) (p := ⟨wr.heap.size, 0, none⟩) hgw).trans r1
                    have r4 := (setCell_cell (w := w7) (g := gl) (o := xn) (v := .bool false) (p := ⟨wr.heap.size, 1, none⟩) hgw).trans r2
                    have r5 := (setCell_cell (w := w7) (g := gl) (o := z) (v := .bool false) (p := ⟨wr.heap.size, 0, none⟩) hgw).trans r1
                    have r6 := (setCell_cell (w := w7) (g := gl) (o := z) (v := .bool false) (p := ⟨wr.heap.size, 1, none⟩) hgw).trans r2
                    obtain ⟨s1, s2⟩ := hO7.store xn false
                    obtain ⟨s3, s4⟩ := hO7.store z false
                    obtain ⟨t1, t2⟩ := hO7.cellsAt xn (by rw [HLL.out]; exact hxn)
                    obtain ⟨t3, t4⟩ := hO7.cellsAt z (by rw [HLL.out]; exact hzn)
                    obtain ⟨t5, t6⟩ := s1.cellsAt z (by rw [List.length_set, HLL.out]; exact hzn)
                    obtain ⟨t7, t8⟩ := s3.cellsAt xn (by rw [List.length_set, HLL.out]; exact hxn)
                    have HNEW : Hid (leftAt F g (k + 1) = (lf.set xn false).set z false) := by
                      unfold Hid
                      show takeP (leftAt F g k) (g.getD k (0, 0)) = _
                      rw [HLF.out, HXY.out]
                      unfold takeP
                      dsimp only
                      rw [Int.toNat_natCast, Int.toNat_natCast]
                    have HOA := Lib.hid (s1.store z false).1
                    have HOB := Lib.hid ((set_two lf xn z) ▸ (s3.store xn false).1)
                    have HBA := Lib.hid ((HB7.out.setCell (p := ⟨gl, xn, none⟩) hgl5 (.bool false)).setCell (p := ⟨gl, z, none⟩) hgl5 (.bool false))
                    have HBB2 := Lib.hid ((HB7.out.setCell (p := ⟨gl, z, none⟩) hgl5 (.bool false)).setCell (p := ⟨gl, xn, none⟩) hgl5 (.bool false))
                    have HOK2 : Hid (okTo' F g (k + 1)) := fun j hj => by
                      by_cases hjk : j < k
                      · exact HOK.out j hjk
                      · obtain rfl : j = k := by omega
                        rw [HLF.out, HXY.out]
                        exact HOKI.out.2 ⟨by first | trivial | rfl, by first | trivial | rfl⟩
                    clear hw7 h7 hO7 o1 o2 s1 s2 s3 s4
                    go_region
                    all_goals
                      go_wp2_with fail
                      go_roundw
                      case rel => exact ⟨k + 1, hkl, by go_num, by first | exact HBA.out | exact HBA.out.drew | exact HBB2.out | exact HBB2.out.drew, by rw [HNEW.out]; first | exact HOA.out | exact HOA.out.below (Below.refl _ _).drew (Nat.le_refl _) | exact HOB.out | exact HOB.out.below (Below.refl _ _).drew (Nat.le_refl _), HOK2.out⟩
                      case measure => simp [intOf]; omega
                · have q1 : ((z : Int) == y) = false := beq_eq_false_iff_ne.2 hzy
                  have HNOK : Hid (¬ okP F lf ((xn : Int), y)) := fun h => hzy (HOKI.out.1 h).2
                  go_upto_region 11 with fail
                  go_region
                  all_goals
                    go_upto_region 13 with fail
                    obtain ⟨W, hW⟩ : ∃ W, w6.drew = W := ⟨_, rfl⟩
                    have hbW : Below wa.heap.size wa W := by rw [← hW]; exact HB6.out.drew
                    rw [hW]
                    have hRW := (hbW.block (w.heap.size + 1) (by omega)).trans HRES.out
                    obtain ⟨z0, zf⟩ := one_at hRW
                    have hgE := (HS4.out.below hbW (Nat.le_refl _)).g 3 (by decide)
                    simp only [gnum] at hgE
                    have hsW : wa.heap.size ≤ W.heap.size := hbW.size
                    obtain ⟨wf, hwf⟩ : ∃ wf, wf = ((W.setCell ⟨w.heap.size + 1, 0, none⟩ (.slice none 0 0)).alloc (.cells #[.int .i64 (k : Int), .iface 251 (.pointer (some (a 3)))] 89)) := ⟨_, rfl⟩
                    have hkF : wf.heap[W.heap.size]? = some (.cells #[.int .i64 (k : Int), errE (a 3)] 89 (0, 0)) := by
                      rw [hwf]
                      have h := heap_alloc_new (W.setCell ⟨w.heap.size + 1, 0, none⟩ (.slice none 0 0)) (.cells #[.int .i64 (k : Int), errE (a 3)] 89)
                      rwa [show (W.setCell ⟨w.heap.size + 1, 0, none⟩ (.slice none 0 0)).heap.size = W.heap.size by simp] at h
                    have hbf : Below w.heap.size w wf := by rw [hwf]; exact ((HB04.out.trans (hbW.mono HB04.out.size)).setCell (Nat.le_succ _) _).alloc (by have := HB04.out.size; first | omega | (simp; omega)) _
                    have hrf : wf.cell? ⟨w.heap.size + 1, 0, none⟩ = some (.slice none 0 0) := by
                      have h1 : wf.heap[w.heap.size + 1]? = some (.cells #[.slice none 0 0] 32 (0, 0)) := by
                        rw [hwf]
                        exact (((Below.refl _ _).alloc (Nat.le_refl _) _).block (w.heap.size + 1) (by first | omega | (simp; omega))).trans (one_blk hRW)
                      simp [World.cell?, h1]
                    obtain ⟨z1, zg⟩ := one_at ((((Below.refl W.heap.size W).alloc (Nat.le_refl _) (.cells #[.int .i64 (k : Int), .iface 251 (.pointer (some (a 3)))] 89)).block (w.heap.size + 1) (by omega)).trans hRW)
                    have HKF := Lib.hid ((WrP.err (a := a) (k := 3) (by decide) hkF).below ((Below.refl _ _).drew) (Nat.le_refl _))
                    have HBF := Lib.hid hbf.drew
                    have R0 := Lib.hid (((Below.refl wf.heap.size wf).drew.cell (p := ⟨w.heap.size + 1, 0, none⟩) (mem_lt hrf)).trans hrf)
                    have HEX : Hid ((W.alloc (.cells #[.int .i64 (k : Int), .iface 251 (.pointer (some (a 3)))] 89)).setCell ⟨w.heap.size + 1, 0, none⟩ (.slice none 0 0) = wf) := by
                      unfold Hid
                      rw [hwf]
                      exact World.setCell_alloc_past _ _ _ _ (by first | omega | (simp; omega))
                    have HWF := Lib.hid hwf
                    clear hW hwf hkF hbf hrf hbW hRW
                    go_region
                    all_goals
                      go_wp2_with fail
                      first
                      | rw [HEX.out]
                      | rw [← HWF.out]
                      refine bodyPost_ret (v := .tuple #[.agg #[.slice none 0 0], .iface 87 (.pointer (some ⟨W.heap.size, 0, none⟩))]) (by simp [results, Tryz.results11, go_sem, R0.out]) rfl ?_
                      rw [HFE.out]
                      exact ⟨HBF.out, Or.inr (Or.inl ⟨HE.out, k, by rw [HNG.out]; exact hkl, HOK.out, by rw [HLF.out, HXY.out]; exact HNOK.out, _, rfl, HKF.out⟩)⟩
              · have q1 : ((m : Int) == 1) = false := beq_eq_false_iff_ne.2 (by omega)
                have q2 : (m == 1) = false := beq_eq_false_iff_ne.2 hm1
                have HNOK : Hid (¬ okP F lf ((xn : Int), y)) := fun h => hm1 (HOKI.out.1 h).1
                clear hb6 hI6 hm1
                go_upto_region 11 with fail
                go_region
                all_goals
                  go_upto_region 13 with fail
                  obtain ⟨W, hW⟩ : ∃ W, w6.drew = W := ⟨_, rfl⟩
                  have hbW : Below wa.heap.size wa W := by rw [← hW]; exact HB6.out.drew
                  rw [hW]
                  have hRW := (hbW.block (w.heap.size + 1) (by omega)).trans HRES.out
                  obtain ⟨z0, zf⟩ := one_at hRW
                  have hgE := (HS4.out.below hbW (Nat.le_refl _)).g 3 (by decide)
                  simp only [gnum] at hgE
                  have hsW : wa.heap.size ≤ W.heap.size := hbW.size
                  obtain ⟨wf, hwf⟩ : ∃ wf, wf = ((W.setCell ⟨w.heap.size + 1, 0, none⟩ (.slice none 0 0)).alloc (.cells #[.int .i64 (k : Int), .iface 251 (.pointer (some (a 3)))] 89)) := ⟨_, rfl⟩
                  have hkF : wf.heap[W.heap.size]? = some (.cells #[.int .i64 (k : Int), errE (a 3)] 89 (0, 0)) := by
                    rw [hwf]
                    have h := heap_alloc_new (W.setCell ⟨w.heap.size + 1, 0, none⟩ (.slice none 0 0)) (.cells #[.int .i64 (k : Int), errE (a 3)] 89)
                    rwa [show (W.setCell ⟨w.heap.size + 1, 0, none⟩ (.slice none 0 0)).heap.size = W.heap.size by simp] at h
                  have hbf : Below w.heap.size w wf := by rw [hwf]; exact ((HB04.out.trans (hbW.mono HB04.out.size)).setCell (Nat.le_succ _) _).alloc (by have := HB04.out.size; first | omega | (simp; omega)) _
                  have hrf : wf.cell? ⟨w.heap.size + 1, 0, none⟩ = some (.slice none 0 0) := by
                    have h1 : wf.heap[w.heap.size + 1]? = some (.cells #[.slice none 0 0] 32 (0, 0)) := by
                      rw [hwf]
                      exact (((Below.refl _ _).alloc (Nat.le_refl _) _).block (w.heap.size + 1) (by first | omega | (simp; omega))).trans (one_blk hRW)
                    simp [World.cell?, h1]
                  obtain ⟨z1, zg⟩ := one_at ((((Below.refl W.heap.size W).alloc (Nat.le_refl _) (.cells #[.int .i64 (k : Int), .iface 251 (.pointer (some (a 3)))] 89)).block (w.heap.size + 1) (by omega)).trans hRW)
                  have HKF := Lib.hid ((WrP.err (a := a) (k := 3) (by decide) hkF).below ((Below.refl _ _).drew) (Nat.le_refl _))
                  have HBF := Lib.hid hbf.drew
                  have R0 := Lib.hid (((Below.refl wf.heap.size wf).drew.cell (p := ⟨w.heap.size + 1, 0, none⟩) (mem_lt hrf)).trans hrf)
                  have HEX : Hid ((W.alloc (.cells #[.int .i64 (k : Int), .iface 251 (.pointer (some (a 3)))] 89)).setCell ⟨w.heap.size + 1, 0, none⟩ (.slice none 0 0) = wf) := by
                    unfold Hid
                    rw [hwf]
                    exact World.setCell_alloc_past _ _ _ _ (by first | omega | (simp; omega))
                  have HWF := Lib.hid hwf
                  clear hW hwf hkF hbf hrf hbW hRW
                  go_region
                  all_goals
                    go_wp2_with fail
                    first
                    | rw [HEX.out]
                    | rw [← HWF.out]
                    refine bodyPost_ret (v := .tuple #[.agg #[.slice none 0 0], .iface 87 (.pointer (some ⟨W.heap.size, 0, none⟩))]) (by simp [results, Tryz.results11, go_sem, R0.out]) rfl ?_
                    rw [HFE.out]
                    exact ⟨HBF.out, Or.inr (Or.inl ⟨HE.out, k, by rw [HNG.out]; exact hkl, HOK.out, by rw [HLF.out, HXY.out]; exact HNOK.out, _, rfl, HKF.out⟩)⟩
          · have q1 : decide ((xn : Int) < (n : Int)) = false := decide_eq_false (by omega)
            have HNOK : Hid (¬ okP F lf ((xn : Int), y)) := fun h => by have := h.2.1; dsimp only at this; rw [HN.out] at this; omega
            go_upto_region 13 with fail
            obtain ⟨W, hW⟩ : ∃ W, ww = W := ⟨_, rfl⟩
            have hbW : Below wa.heap.size wa W := by rw [← hW]; exact HBW.out
            rw [hW]
            have hRW := (hbW.block (w.heap.size + 1) (by omega)).trans HRES.out
            obtain ⟨z0, zf⟩ := one_at hRW
            have hgE := (HS4.out.below hbW (Nat.le_refl _)).g 3 (by decide)
            simp only [gnum] at hgE
            have hsW : wa.heap.size ≤ W.heap.size := hbW.size
            obtain ⟨wf, hwf⟩ : ∃ wf, wf = ((W.setCell ⟨w.heap.size + 1, 0, none⟩ (.slice none 0 0)).alloc (.cells #[.int .i64 (k : Int), .iface 251 (.pointer (some (a 3)))] 89)) := ⟨_, rfl⟩
            have hkF : wf.heap[W.heap.size]? = some (.cells #[.int .i64 (k : Int), errE (a 3)] 89 (0, 0)) := by
              rw [hwf]
              have h := heap_alloc_new (W.setCell ⟨w.heap.size + 1, 0, none⟩ (.slice none 0 0)) (.cells #[.int .i64 (k : Int), errE (a 3)] 89)
              rwa [show (W.setCell ⟨w.heap.size + 1, 0, none⟩ (.slice none 0 0)).heap.size = W.heap.size by simp] at h
            have hbf : Below w.heap.size w wf := by rw [hwf]; exact ((HB04.out.trans (hbW.mono HB04.out.size)).setCell (Nat.le_succ _) _).alloc (by have := HB04.out.size; first | omega | (simp; omega)) _
            have hrf : wf.cell? ⟨w.heap.size + 1, 0, none⟩ = some (.slice none 0 0) := by
              have h1 : wf.heap[w.heap.size + 1]? = some (.cells #[.slice none 0 0] 32 (0, 0)) := by
                rw [hwf]
                exact (((Below.refl _ _).alloc (Nat.le_refl _) _).block (w.heap.size + 1) (by first | omega | (simp; omega))).trans (one_blk hRW)
              simp [World.cell?, h1]
            obtain ⟨z1, zg⟩ := one_at ((((Below.refl W.heap.size W).alloc (Nat.le_refl _) (.cells #[.int .i64 (k : Int), .iface 251 (.pointer (some (a 3)))] 89)).block (w.heap.size + 1) (by omega)).trans hRW)
            have HKF := Lib.hid ((WrP.err (a := a) (k := 3) (by decide) hkF).below ((Below.refl _ _).drew) (Nat.le_refl _))
            have HBF := Lib.hid hbf.drew
            have R0 := Lib.hid (((Below.refl wf.heap.size wf).drew.cell (p := ⟨w.heap.size + 1, 0, none⟩) (mem_lt hrf)).trans hrf)
            have HEX : Hid ((W.alloc (.cells #[.int .i64 (k : Int), .iface 251 (.pointer (some (a 3)))] 89)).setCell ⟨w.heap.size + 1, 0, none⟩ (.slice none 0 0) = wf) := by
              unfold Hid
              rw [hwf]
              exact World.setCell_alloc_past _ _ _ _ (by first | omega | (simp; omega))
            have HWF := Lib.hid hwf
            clear hW hwf hkF hbf hrf hbW hRW
            go_region
            all_goals
              go_wp2_with fail
              first
              | rw [HEX.out]
              | rw [← HWF.out]
              refine bodyPost_ret (v := .tuple #[.agg #[.slice none 0 0], .iface 87 (.pointer (some ⟨W.heap.size, 0, none⟩))]) (by simp [results, Tryz.results11, go_sem, R0.out]) rfl ?_
              rw [HFE.out]
              exact ⟨HBF.out, Or.inr (Or.inl ⟨HE.out, k, by rw [HNG.out]; exact hkl, HOK.out, by rw [HLF.out, HXY.out]; exact HNOK.out, _, rfl, HKF.out⟩)⟩
      · obtain rfl : k = ng := by omega
        obtain ⟨w8, rfl⟩ : ∃ x, x = wr := ⟨_, rfl⟩
        clear hb hO HO5
        obtain ⟨d3, d4, d5, -⟩ := three_of ((HB.out.block w2.heap.size hlt34).trans HK3.out)
        have HF8 := Lib.hid ((HD2.out.below HB.out (Nat.le_refl _)).1)
        have HAL : Hid (leftTo F lf n = leftF F lf) := by unfold Hid; rw [← HN.out]; rfl
        have HTL := Lib.hid (fun j => leftTo_len F lf j)
        have HST := Lib.hid (fun j => leftTo_step F lf j)
        go_wp2_with fail
        clear d3 d4 d5
        go_loopw [13, 91] (fun s i wr => ∃ j : Nat, j ≤ n ∧ i = .int .i64 (j : Int) ∧ Below w8.heap.size w8 wr ∧ RowsO w8.heap.size B wr s (leftTo F lf j)) (fun _ i _ => n - (intOf i).toNat)
        case atStart => exact ⟨0, Nat.zero_le _, rfl, Below.refl _ _, RowsO.nil _ _ _⟩
        case round =>
          obtain ⟨j, hj, rfl, hb, hR⟩ := hrel
          have HBR := Lib.hid hb
          have HR := Lib.hid hR
          have hws := hb.size
          have hst := HST.out j
          clear hb hR
          by_cases hjn : j < n
          · obtain ⟨b, off, c, hve⟩ := HF8.out.form (by rw [HN.out]; omega)
            rw [HN.out] at hve
            obtain ⟨rfl, rfl⟩ : pf = some ⟨b, off, none⟩ ∧ cf = c := by cases hve; exact ⟨rfl, rfl⟩
            have hjL : j < F.length := by rw [HN.out]; exact hjn
            obtain ⟨pj, cj, hcj, hij⟩ := cells_at (HF8.out.below HBR.out (Nat.le_refl _)) j hjL
            have hlj := HF7.out _ (getL_mem hjL)
            obtain ⟨nf, hnf⟩ : ∃ nf, (F.getD j []).length = nf := ⟨_, rfl⟩
            rw [hnf] at hij hcj hlj
            have HNF := Lib.hid hnf
            have HIJ := Lib.hid hij
            obtain ⟨l1, l2⟩ := (HOL.out.below HBR.out (Nat.le_refl _)).cellsAt j (by rw [HLL.out]; exact hjn)
            obtain ⟨hs, h1, h2, h3⟩ := HR.out
            obtain ⟨q, hq⟩ : ∃ q, (leftTo F lf j).length = q := ⟨_, rfl⟩
            have hqn : q ≤ 600 := by have := HTL.out j; omega
            rw [hq] at h1
            have HK := Lib.hid hq
            have H1 := Lib.hid h1
            have H2 := Lib.hid h2
            have H3 := Lib.hid h3
            clear hve hij hnf h1 h2 h3 hq hjL
            cases hlb : lf.getD j false with
            | false =>
              rw [hlb] at l1
              have HE : Hid (leftTo F lf (j + 1) = leftTo F lf j) := by unfold Hid; rw [hst, hlb]; simp
              clear hlb hst
              go_wp2_with fail
              go_roundw
              case rel => exact ⟨j + 1, by omega, by go_num, HBR.out, by rw [HE.out]; exact HR.out⟩
              case measure => simp [intOf]; omega
            | true =>
              rw [hlb] at l1
              have HE : Hid (leftTo F lf (j + 1) = leftTo F lf j ++ [F.getD j []]) := by unfold Hid; rw [hst, hlb]; simp
              clear hlb hst
              go_wp2_with (at_builtin; refine wpList_append_lies _ rfl (.tmp 100) (.tmp 102) 22 rfl w8.heap.size 51 i39 (.slice none 0 0) 1 24 Tryz.underlying22 hi39 hz0 hz1 hz2 rfl (by decide) _ q hs rfl (H1.out.alloc _) ⟨wr.heap.size, 0, none⟩ 1 1 [.slice pj nf cj] rfl rfl (World.news_of_block (cs := #[.slice pj nf cj]) (t := 51) (fr := (0, 0)) (heap_alloc_new wr _)) (by simp [Value.oneCell']) (by decide) (by unfold maxLen; omega) (by omega) (by simp; omega) (wr.heap.size + 1) (by simp) ?_; intro g2 c2 w9 hown2 hgr2 hat2 hlt2; have HO2 := Lib.hid hown2; have HG2 := Lib.hid hgr2; clear hown2 hgr2 hat2 hlt2)
              go_roundw
              case rel =>
                have hbA : Below wr.heap.size wr (wr.alloc (.cells #[.slice pj nf cj] 51)) := (Below.refl _ _).alloc (Nat.le_refl _) _
                refine ⟨j + 1, by omega, by go_num, (HBR.out.alloc hws _).grown HG2.out (by simp; omega) (fun i hi => (H1.out.lt i hi).1), ?_⟩
                rw [HE.out]
                exact rowsO_push (w := wr.alloc (.cells #[.slice pj nf cj] 51)) (hs := hs) (by have := HBB.out; have := HB04.out.size; have := HB.out.size; omega) (by rw [HK.out]; exact H1.out.alloc _) H2.out (fun i hi => (H3.out i hi).below hbA (Nat.le_refl _)) (HIJ.out.below hbA (Nat.le_refl _)) (by rw [HK.out]; exact HO2.out) HG2.out
              case measure => simp [intOf]; omega
          · obtain rfl : j = n := by omega
            have h := HR.out
            rw [HAL.out] at h
            have hLI := h.lists
            obtain ⟨pr, cr, hve, -⟩ := id hLI
            obtain ⟨q, hq⟩ : ∃ q, (leftF F lf).length = q := ⟨_, rfl⟩
            rw [hq] at hve
            subst hve
            have hqn : q ≤ 600 := by have := HTL.out j; rw [HAL.out] at this; omega
            have HBX := Lib.hid (HB.out.trans (HBR.out.mono HB.out.size))
            have HMK := Lib.hid (make_any a B (leftF F lf) (.slice pr q cr) wr (HS4.out.below HBX.out (Nat.le_refl _)) (by have := HBB.out; have := HB04.out.size; have := HBX.out.size; omega) hLI (by omega) (fun f hf => by have := HF7.out f (mem_leftTo (Nat.le_refl _) hf); omega))
            unfold MakeC errE at HMK
            clear h hLI hq hst hws
            go_wp2_with fail
            refine HMK.out.mono ?_
            rintro e w9 ⟨hb9, ⟨-, v9, rfl, hR9⟩ | ⟨hne, -⟩⟩
            rotate_left
            · exact absurd (HLR.out lf) hne
            · obtain ⟨p9, c9, hv9, -⟩ := id (hR9.lists)
              obtain ⟨q9, hq9⟩ : ∃ q9, (madeF (leftF F lf)).length = q9 := ⟨_, rfl⟩
              rw [hq9] at hv9
              subst hv9
              clear hq9
              have HB9 := Lib.hid (HBX.out.trans (hb9.mono HBX.out.size))
              have hR := (HB9.out.block (w.heap.size + 1) (by omega)).trans HRES.out
              obtain ⟨z0, zf⟩ := one_at hR
              obtain ⟨wf, hwf⟩ : ∃ wf, wf = w9.setCell ⟨w.heap.size + 1, 0, none⟩ (.slice p9 q9 c9) := ⟨_, rfl⟩
              have hrf : wf.cell? ⟨w.heap.size + 1, 0, none⟩ = some (.slice p9 q9 c9) := by rw [hwf]; exact one_set hR
              have HBF : Hid (Below w.heap.size w wf) := by unfold Hid; rw [hwf]; exact (HB04.out.trans (HB9.out.mono HB04.out.size)).setCell (Nat.le_succ _) _
              have HLF9 : Hid (ListsIn B wf (.slice p9 q9 c9) (madeF (leftF F lf))) := by
                unfold Hid
                rw [hwf]
                exact (hR9.grown (grown_cell _ _ _) (by have := HBX.out.size; omega) (by have := HBB.out; omega) (fun x e => by rw [hR] at e; cases e)).lists
              have HWF := Lib.hid hwf
              have R0 := Lib.hid hrf
              clear hb9 hR9 hR hwf hrf
              go_wp2_with fail
              rw [← HWF.out]
              refine bodyPost_ret (v := .tuple #[.agg #[.slice p9 q9 c9], .nilIface]) (by simp [results, Tryz.results11, go_sem, R0.out]) rfl ?_
              rw [HFE.out, HNG.out, HLF.out]
              exact ⟨HBF.out, Or.inl ⟨HE.out, HOK.out, _, rfl, HLF9.out⟩⟩

def ColD (B : Nat) (F : List (List Int)) (g : List (Int × Int)) (w : World) (e : Ending) (w' : World) : Prop :=
  Below w.heap.size w w' ∧
  ((okTo' F g g.length ∧ ∃ v, e = .returned (.tuple #[v, .int .i64 (-1)]) ∧ RowsO w.heap.size B w' v (leftF F (leftAt F g g.length))) ∨
   (∃ i, i < g.length ∧ okTo' F g i ∧ ¬ okP F (leftAt F g i) (g.getD i (0, 0)) ∧ e = .returned (.tuple #[.slice none 0 0, .int .i64 (i : Int)])))
set_option maxRecDepth 100000 in
set_option maxHeartbeats 32000000 in
theorem collapsePairs_any (B : Nat) (F : List (List Int)) (g : List (Int × Int)) (f vg : Value) (w : World) (hB : B ≤ w.heap.size) (hF : ListsIn B w f F) (hg : PairsAt w vg g) (hn : F.length ≤ 600) (hf : ∀ x ∈ F, x.length ≤ 1000) (hup : LenUp F) (hgl : g.length ≤ 1000)
    (hgb : ∀ p ∈ g, (-9223372036854775808 ≤ p.1 ∧ p.1 ≤ 9223372036854775807) ∧ (-9223372036854775808 ≤ p.2 ∧ p.2 ≤ 9223372036854775807)) :
    Calls Tryz.prog 19 #[f, vg] w (ColD B F g w) := by
  obtain ⟨i39, hi39, hz0, hz1, hz2⟩ := info_parts Tryz.info51
  obtain ⟨pf, cf, hfe, -⟩ := id hF
  obtain ⟨n, hnn⟩ : ∃ n, F.length = n := ⟨_, rfl⟩
  rw [hnn] at hfe hn
  subst hfe
  obtain ⟨pg, cg, hge, -⟩ := id hg
  obtain ⟨ng, hng⟩ : ∃ ng, g.length = ng := ⟨_, rfl⟩
  rw [hng] at hge hgl
  subst hge
  have HN := Lib.hid hnn
  have HF := Lib.hid hF
  have HFL := Lib.hid hf
  have HUP := Lib.hid hup
  have HNG := Lib.hid hng
  have HGB := Lib.hid hgb
  have HG := Lib.hid hg
  have HBB := Lib.hid hB
  have HAL := Lib.hid (allLeft_any n w (by omega))
  unfold ColD
  clear hF hg hnn hf hup hng hgb hB
  go_enter Tryz.func19, Tryz.ntmps19
  go_wp2_with fail
  refine HAL.out.mono ?_
  rintro e w5 ⟨vb, rfl, hb5, hbo⟩
  obtain ⟨pb, cb, hve⟩ := hbo.sliceOf
  rw [List.length_replicate] at hve
  subst hve
  have HB5 := Lib.hid hb5
  have HO5 := Lib.hid hbo
  clear hb5 hbo HAL
  go_wp2_with fail
  go_loopw [7, 8, 9, 10] (fun i _ _ _ wr => ∃ k : Nat, k ≤ ng ∧ i = .int .i64 (k : Int) ∧ Below w.heap.size w wr ∧ BoolO w.heap.size wr (.slice pb n cb) (leftAt F g k) ∧ okTo' F g k) (fun i _ _ _ _ => ng - (intOf i).toNat)
  case atStart => exact ⟨0, Nat.zero_le _, rfl, HB5.out, by unfold leftAt; rw [HN.out]; exact HO5.out, fun j hj => absurd hj (Nat.not_lt_zero _)⟩
  case round =>
    obtain ⟨k, hkn, rfl, hb, hO, hok⟩ := hrel
    have HB := Lib.hid hb
    have HOK := Lib.hid hok
    obtain ⟨lf, hlf⟩ : ∃ lf, leftAt F g k = lf := ⟨_, rfl⟩
    have hlfl : lf.length = n := by rw [← hlf, leftAt_len, HN.out]
    have HLF := Lib.hid hlf
    have HLL := Lib.hid hlfl
    rw [hlf] at hO
    have HOL := Lib.hid hO
    clear hlf hlfl hok hO HO5
    by_cases hkl : k < ng
    · obtain ⟨⟨x, y⟩, hxy⟩ : ∃ p, g.getD k (0, 0) = p := ⟨_, rfl⟩
      have hgb := HGB.out (g.getD k (0, 0)) (by rw [List.getD_eq_getElem?_getD, List.getElem?_eq_getElem (by rw [HNG.out]; exact hkl)]; exact List.getElem_mem _)
      obtain ⟨bg, og, hpe, hp1, hp2⟩ := HG.out.at (i := k) (by rw [HNG.out]; exact hkl)
      subst hpe
      rw [hxy] at hp1 hp2 hgb
      have hq1 := (hb.cell (p := ⟨bg, og + k * 2, none⟩) (mem_lt hp1)).trans hp1
      have hq2 := (hb.cell (p := ⟨bg, og + k * 2 + 1, none⟩) (mem_lt hp2)).trans hp2
      have HP2 := Lib.hid hp2
      have HXY := Lib.hid hxy
      clear hxy hp1 hp2
      dsimp only at hgb hq1 hq2 HP2
      obtain ⟨⟨hx1, hx2⟩, hy1, hy2⟩ := hgb
      rcases Int.lt_or_le x 0 with hx0 | hx0
      · have q0 : decide (x < 0) = true := decide_eq_true hx0
        have HNOK : Hid (¬ okP F lf (x, y)) := fun h => by have := h.1; dsimp only at this; omega
        clear hb
        go_wp2_with fail
        go_ret2
        refine ⟨HB.out, Or.inr ⟨k, by rw [HNG.out]; exact hkl, HOK.out, by rw [HLF.out, HXY.out]; exact HNOK.out, rfl⟩⟩
      · obtain ⟨xn, rfl⟩ : ∃ xn : Nat, x = (xn : Int) := ⟨x.toNat, by omega⟩
        have q0 : decide ((xn : Int) < 0) = false := decide_eq_false (by omega)
        by_cases hxn : xn < n
        · have q1 : decide ((xn : Int) ≥ (n : Int)) = false := decide_eq_false (by omega)
          have q2 : decide (xn ≥ n) = false := decide_eq_false (by omega)
          have q3 : decide ((n : Int) ≤ (xn : Int)) = false := decide_eq_false (by omega)
          have q4 : decide (n ≤ xn) = false := decide_eq_false (by omega)
          obtain ⟨gl, cl, hfm, hgl5, -⟩ := HOL.out.form (by rw [HLL.out]; omega)
          rw [HLL.out] at hfm
          obtain ⟨rfl, rfl⟩ : pb = some ⟨gl, 0, none⟩ ∧ cb = cl := by cases hfm; exact ⟨rfl, rfl⟩
          obtain ⟨l1, l2⟩ := HOL.out.cellsAt xn (by rw [HLL.out]; exact hxn)
          clear hfm
          cases hlb : lf.getD xn false with
          | false =>
            rw [hlb] at l1
            have HNOK : Hid (¬ okP F lf ((xn : Int), y)) := fun h => by have := h.2.2.1; dsimp only at this; rw [Int.toNat_natCast, hlb] at this; cases this
            clear hlb hb
            go_wp2_with fail
            go_ret2
            refine ⟨HB.out, Or.inr ⟨k, by rw [HNG.out]; exact hkl, HOK.out, by rw [HLF.out, HXY.out]; exact HNOK.out, rfl⟩⟩
          | true =>
            rw [hlb] at l1
            have HGR := Lib.hid (greater_any B F (.slice pf n cf) (.slice (some ⟨gl, 0, none⟩) n cb) lf xn wr (HF.out.below hb (Nat.le_refl _)) HOL.out.reads (by rw [HLL.out, HN.out]) (by rw [HN.out]; exact hxn) (by rw [HN.out]; exact hn) HFL.out HUP.out)
            unfold GrtP at HGR
            have HZL := Lib.hid (above_lt (F := F) (lf := lf) (a := xn))
            have HLO := Lib.hid (lastO_one (l := abvF F lf xn))
            have HOKI : Hid (okP F lf ((xn : Int), y) ↔ (abvF F lf xn).length = 1 ∧ (((abvF F lf xn).getD 0 0 : Nat) : Int) = y) := by
              unfold Hid okP
              dsimp only
              rw [Int.toNat_natCast, hlb, HN.out]
              exact ⟨fun h => h.2.2.2, fun h => ⟨by omega, by omega, rfl, h⟩⟩
            obtain ⟨l, hlE⟩ : ∃ l, abvF F lf xn = l := ⟨_, rfl⟩
            rw [hlE] at HGR HOKI HZL HLO
            obtain ⟨s, hs⟩ : ∃ s, lastO l = s := ⟨_, rfl⟩
            rw [hs] at HGR HLO
            obtain ⟨m, hm⟩ : ∃ m, l.length = m := ⟨_, rfl⟩
            rw [hm] at HGR HOKI HZL HLO
            have HM := Lib.hid hm
            clear hlb hlE hm hs hb
            go_wp2_with fail
            refine HGR.out.mono ?_
            rintro e w6 ⟨rfl, hb6⟩
            have HB6 := Lib.hid (HB.out.trans (hb6.mono HB.out.size))
            have hO6 := HOL.out.below hb6 (Nat.le_refl _)
            have o2 := (HB6.out.cell (p := ⟨bg, og + k * 2 + 1, none⟩) (mem_lt HP2.out)).trans HP2.out
            clear l1 l2 hq1 hq2 hb6
            by_cases hm1 : m = 1
            · subst hm1
              obtain ⟨z, hz⟩ : ∃ z, l.getD 0 0 = z := ⟨_, rfl⟩
              rw [hz] at HOKI HZL HLO
              have hzn : z < n := by rw [← HN.out]; exact HZL.out rfl
              obtain rfl : s = (z : Int) := HLO.out rfl
              clear hz
              by_cases hzy : (z : Int) = y
              · subst hzy
                have q5 : ((z : Int) != (z : Int)) = false := by simp
                obtain ⟨s1, s2⟩ := hO6.store xn false
                obtain ⟨t1, t2⟩ := hO6.cellsAt xn (by rw [HLL.out]; exact hxn)
                obtain ⟨t5, t6⟩ := s1.cellsAt z (by rw [List.length_set, HLL.out]; exact hzn)
                have HNEW : Hid (leftAt F g (k + 1) = (lf.set xn false).set z false) := by
                  unfold Hid
                  show takeP (leftAt F g k) (g.getD k (0, 0)) = _
                  rw [HLF.out, HXY.out]
                  unfold takeP
                  dsimp only
                  rw [Int.toNat_natCast, Int.toNat_natCast]
                have HOA := Lib.hid (s1.store z false).1
                have HBA := Lib.hid ((HB6.out.setCell (p := ⟨gl, xn, none⟩) hgl5 (.bool false)).setCell (p := ⟨gl, z, none⟩) hgl5 (.bool false))
                have HOK2 : Hid (okTo' F g (k + 1)) := fun j hj => by
                  by_cases hjk : j < k
                  · exact HOK.out j hjk
                  · obtain rfl : j = k := by omega
                    rw [HLF.out, HXY.out]
                    exact HOKI.out.2 ⟨by first | trivial | rfl, by first | trivial | rfl⟩
                clear hO6 s1 s2
                go_wp2_with fail
                go_roundw
                case rel => exact ⟨k + 1, hkl, by go_num, HBA.out, by rw [HNEW.out]; exact HOA.out, HOK2.out⟩
                case measure => simp [intOf]; omega
              · have q5 : ((z : Int) != y) = true := bne_iff_ne.2 hzy
                have HNOK : Hid (¬ okP F lf ((xn : Int), y)) := fun h => hzy (HOKI.out.1 h).2
                clear hO6 hzy
                go_wp2_with fail
                go_ret2
                refine ⟨HB6.out, Or.inr ⟨k, by rw [HNG.out]; exact hkl, HOK.out, by rw [HLF.out, HXY.out]; exact HNOK.out, rfl⟩⟩
            · have q5 : ((m : Int) != 1) = true := bne_iff_ne.2 (by omega)
              have q6 : (m != 1) = true := bne_iff_ne.2 hm1
              have HNOK : Hid (¬ okP F lf ((xn : Int), y)) := fun h => hm1 (HOKI.out.1 h).1
              clear hO6 hm1
              go_wp2_with fail
              go_ret2
              refine ⟨HB6.out, Or.inr ⟨k, by rw [HNG.out]; exact hkl, HOK.out, by rw [HLF.out, HXY.out]; exact HNOK.out, rfl⟩⟩
        · have q1 : decide ((xn : Int) ≥ (n : Int)) = true := decide_eq_true (by omega)
          have q2 : decide (xn ≥ n) = true := decide_eq_true (by omega)
          have q3 : decide ((n : Int) ≤ (xn : Int)) = true := decide_eq_true (by omega)
          have q4 : decide (n ≤ xn) = true := decide_eq_true (by omega)
          have HNOK : Hid (¬ okP F lf ((xn : Int), y)) := fun h => by have := h.2.1; dsimp only at this; rw [HN.out] at this; omega
          clear hb
          go_wp2_with fail
          go_ret2
          refine ⟨HB.out, Or.inr ⟨k, by rw [HNG.out]; exact hkl, HOK.out, by rw [HLF.out, HXY.out]; exact HNOK.out, rfl⟩⟩
    · obtain rfl : k = ng := by omega
      obtain ⟨w8, rfl⟩ : ∃ x, x = wr := ⟨_, rfl⟩
      clear hb
      have HF8 := Lib.hid (HF.out.below HB.out (Nat.le_refl _))
      have HAL : Hid (leftTo F lf n = leftF F lf) := by unfold Hid; rw [← HN.out]; rfl
      have HTL := Lib.hid (fun j => leftTo_len F lf j)
      have HST := Lib.hid (fun j => leftTo_step F lf j)
      go_wp2_with fail
      go_loopw [11, 12] (fun s i wr => ∃ j : Nat, j ≤ n ∧ i = .int .i64 (j : Int) ∧ Below w8.heap.size w8 wr ∧ RowsO w8.heap.size B wr s (leftTo F lf j)) (fun _ i _ => n - (intOf i).toNat)
      case atStart => exact ⟨0, Nat.zero_le _, rfl, Below.refl _ _, RowsO.nil _ _ _⟩
      case round =>
        obtain ⟨j, hj, rfl, hb, hR⟩ := hrel
        have HBR := Lib.hid hb
        have HR := Lib.hid hR
        have hws := hb.size
        have hst := HST.out j
        clear hb hR
        by_cases hjn : j < n
        · obtain ⟨b, off, c, hve⟩ := HF8.out.form (by rw [HN.out]; omega)
          rw [HN.out] at hve
          obtain ⟨rfl, rfl⟩ : pf = some ⟨b, off, none⟩ ∧ cf = c := by cases hve; exact ⟨rfl, rfl⟩
          have hjL : j < F.length := by rw [HN.out]; exact hjn
          obtain ⟨pj, cj, hcj, hij⟩ := cells_at (HF8.out.below HBR.out (Nat.le_refl _)) j hjL
          have hlj := HFL.out _ (getL_mem hjL)
          obtain ⟨nf, hnf⟩ : ∃ nf, (F.getD j []).length = nf := ⟨_, rfl⟩
          rw [hnf] at hij hcj hlj
          have HNF := Lib.hid hnf
          have HIJ := Lib.hid hij
          obtain ⟨gl, cl, hfm, hgl5, -⟩ := HOL.out.form (by rw [HLL.out]; omega)
          rw [HLL.out] at hfm
          obtain ⟨rfl, rfl⟩ : pb = some ⟨gl, 0, none⟩ ∧ cb = cl := by cases hfm; exact ⟨rfl, rfl⟩
          obtain ⟨l1, l2⟩ := (HOL.out.below HBR.out (Nat.le_refl _)).cellsAt j (by rw [HLL.out]; exact hjn)
          obtain ⟨hs, h1, h2, h3⟩ := HR.out
          obtain ⟨q, hq⟩ : ∃ q, (leftTo F lf j).length = q := ⟨_, rfl⟩
          have hqn : q ≤ 600 := by have := HTL.out j; omega
          rw [hq] at h1
          have HK := Lib.hid hq
          have H1 := Lib.hid h1
          have H2 := Lib.hid h2
          have H3 := Lib.hid h3
          clear hve hij hnf h1 h2 h3 hq hjL hfm
          cases hlb : lf.getD j false with
          | false =>
            rw [hlb] at l1
            have HE : Hid (leftTo F lf (j + 1) = leftTo F lf j) := by unfold Hid; rw [hst, hlb]; simp
            clear hlb hst
            go_wp2_with fail
            go_roundw
            case rel => exact ⟨j + 1, by omega, by go_num, HBR.out, by rw [HE.out]; exact HR.out⟩
            case measure => simp [intOf]; omega
          | true =>
            rw [hlb] at l1
            have HE : Hid (leftTo F lf (j + 1) = leftTo F lf j ++ [F.getD j []]) := by unfold Hid; rw [hst, hlb]; simp
            clear hlb hst
            go_wp2_with (at_builtin; refine wpList_append_lies _ rfl (.tmp 78) (.tmp 83) 22 rfl w8.heap.size 51 i39 (.slice none 0 0) 1 24 Tryz.underlying22 hi39 hz0 hz1 hz2 rfl (by decide) _ q hs rfl (H1.out.alloc _) ⟨wr.heap.size, 0, none⟩ 1 1 [.slice pj nf cj] rfl rfl (World.news_of_block (cs := #[.slice pj nf cj]) (t := 51) (fr := (0, 0)) (heap_alloc_new wr _)) (by simp [Value.oneCell']) (by decide) (by unfold maxLen; omega) (by omega) (by simp; omega) (wr.heap.size + 1) (by simp) ?_; intro g2 c2 w9 hown2 hgr2 hat2 hlt2; have HO2 := Lib.hid hown2; have HG2 := Lib.hid hgr2; clear hown2 hgr2 hat2 hlt2)
            go_roundw
            case rel =>
              have hbA : Below wr.heap.size wr (wr.alloc (.cells #[.slice pj nf cj] 51)) := (Below.refl _ _).alloc (Nat.le_refl _) _
              refine ⟨j + 1, by omega, by go_num, (HBR.out.alloc hws _).grown HG2.out (by simp; omega) (fun i hi => (H1.out.lt i hi).1), ?_⟩
              rw [HE.out]
              exact rowsO_push (w := wr.alloc (.cells #[.slice pj nf cj] 51)) (hs := hs) (by have := HBB.out; have := HB.out.size; omega) (by rw [HK.out]; exact H1.out.alloc _) H2.out (fun i hi => (H3.out i hi).below hbA (Nat.le_refl _)) (HIJ.out.below hbA (Nat.le_refl _)) (by rw [HK.out]; exact HO2.out) HG2.out
            case measure => simp [intOf]; omega
        · obtain rfl : j = n := by omega
          have h := HR.out
          rw [HAL.out] at h
          have HX := Lib.hid (h.le HB.out.size)
          have HBX := Lib.hid (HB.out.trans (HBR.out.mono HB.out.size))
          clear h hst
          go_wp2_with fail
          go_ret2
          rw [HNG.out, HLF.out]
          exact ⟨HBX.out, Or.inl ⟨HOK.out, _, rfl, HX.out⟩⟩
end Go.Proofs.YtoheffkiohfmoaaGreatDoor
