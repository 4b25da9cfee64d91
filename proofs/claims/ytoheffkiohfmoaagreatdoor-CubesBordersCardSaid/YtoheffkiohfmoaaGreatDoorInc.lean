/-
  The document's incidence and CellBorder by contracts.
-/
import Derived.Test.YtoheffkiohfmoaaGreatDoorCpA
import Derived.Test.YtoheffkiohfmoaaGreatDoorInP
import Derived.Test.YtoheffkiohfmoaaGreatDoorMtA
set_option linter.unusedSimpArgs false
set_option linter.unusedVariables false
namespace Go.Proofs.YtoheffkiohfmoaaGreatDoor
open Go Go.RowKit Go.Maps FL

theorem sq_bd {x : Int} (h0 : -1000000 ≤ x) (h1 : x ≤ 1000000) : 0 ≤ x * x ∧ x * x ≤ 1000000000000 := by
  obtain ⟨n, hn⟩ : ∃ n : Nat, x = n ∨ x = -n := ⟨x.natAbs, by omega⟩
  have hb : n ≤ 1000000 := by omega
  have h2 : n * n ≤ 1000000 * 1000000 := Nat.mul_le_mul hb hb
  have e : x * x = ((n * n : Nat) : Int) := by
    rcases hn with rfl | rfl
    · push_cast; rfl
    · push_cast; exact Int.neg_mul_neg _ _
  rw [e]; omega
set_option maxHeartbeats 4000000 in
theorem incidence_any (p q : PI) (dim : Int) (w : World) (hp : BoxI p) (hq : BoxI q) :
    Calls Tryz.prog 68 #[.agg #[.int .i64 p.1, .int .i64 p.2], .agg #[.int .i64 q.1, .int .i64 q.2], .int .i64 dim] w fun e w' => e = .returned (.int .i64 (incI p q dim)) ∧ Below w.heap.size w w' := by
  obtain ⟨⟨p0, p1⟩, p2, p3⟩ := hp
  obtain ⟨⟨q0, q1⟩, q2, q3⟩ := hq
  have hI : incI p q dim = if (p.1 - q.1) * (p.1 - q.1) + (p.2 - q.2) * (p.2 - q.2) = 1 then (if dim = 1 then (p.1 - q.1) + (p.2 - q.2) else (p.1 - q.1) - (p.2 - q.2)) else 0 := rfl
  obtain ⟨r, hr⟩ : ∃ r, incI p q dim = r := ⟨_, rfl⟩
  rw [hr] at hI ⊢
  obtain ⟨px, hpx⟩ : ∃ x, p.1 = x := ⟨_, rfl⟩
  obtain ⟨py, hpy⟩ : ∃ x, p.2 = x := ⟨_, rfl⟩
  obtain ⟨qx, hqx⟩ : ∃ x, q.1 = x := ⟨_, rfl⟩
  obtain ⟨qy, hqy⟩ : ∃ x, q.2 = x := ⟨_, rfl⟩
  rw [hpx, hpy, hqx, hqy] at hI
  rw [hpx, hpy, hqx, hqy]
  rw [hpx] at p0 p1
  rw [hpy] at p2 p3
  rw [hqx] at q0 q1
  rw [hqy] at q2 q3
  obtain ⟨dx, hdx⟩ : ∃ d, px - qx = d := ⟨_, rfl⟩
  obtain ⟨dy, hdy⟩ : ∃ d, py - qy = d := ⟨_, rfl⟩
  rw [hdx, hdy] at hI
  have bx : -1000000 ≤ dx ∧ dx ≤ 1000000 := by omega
  have byy : -1000000 ≤ dy ∧ dy ≤ 1000000 := by omega
  obtain ⟨s0, s1⟩ := sq_bd bx.1 bx.2
  obtain ⟨t0, t1⟩ := sq_bd byy.1 byy.2
  obtain ⟨bx0, bx1⟩ := bx
  obtain ⟨by0, by1⟩ := byy
  obtain ⟨sx, hsx⟩ : ∃ s, dx * dx = s := ⟨_, rfl⟩
  obtain ⟨sy, hsy⟩ : ∃ s, dy * dy = s := ⟨_, rfl⟩
  rw [hsx, hsy] at hI
  rw [hsx] at s0 s1
  rw [hsy] at t0 t1
  obtain ⟨r1, hr1⟩ : ∃ r1, sx + sy = r1 := ⟨_, rfl⟩
  rw [hr1] at hI
  have HB := Lib.hid (((Below.refl w.heap.size w).alloc (Nat.le_refl _) (.cells #[.int .i64 px, .int .i64 py] 127)).alloc (by simp) (.cells #[.int .i64 qx, .int .i64 qy] 127))
  by_cases h1 : r1 = 1
  · rw [if_pos h1] at hI
    have g1 : (r1 == 1) = true := by simp [h1]
    have g1' : (r1 != 1) = false := by simp [h1]
    by_cases h2 : dim = 1
    · rw [if_pos h2] at hI
      have g2 : (dim == 1) = true := by simp [h2]
      have HI := Lib.hid hI
      clear hI hr hpx hpy hqx hqy h1 h2
      go_enter Tryz.func68, Tryz.ntmps68
      go_wp2_with fail
      go_ret
      exact ⟨by rw [HI.out]; rfl, HB.out⟩
    · rw [if_neg h2] at hI
      have g2 : (dim == 1) = false := by simp [h2]
      have HI := Lib.hid hI
      clear hI hr hpx hpy hqx hqy h1 h2
      go_enter Tryz.func68, Tryz.ntmps68
      go_wp2_with fail
      go_ret
      exact ⟨by rw [HI.out]; rfl, HB.out⟩
  · rw [if_neg h1] at hI
    have g1 : (r1 == 1) = false := by simp [h1]
    have g1' : (r1 != 1) = true := by simp [h1]
    have HI := Lib.hid hI
    clear hI hr hpx hpy hqx hqy h1
    go_enter Tryz.func68, Tryz.ntmps68
    go_wp2_with fail
    go_ret
    exact ⟨by rw [HI.out]; rfl, HB.out⟩
/-- a matrix that grows, in a block of its own -/
def BdSt (wb wr : World) (n m : Nat) (x : Value) (l : List Int) : Prop :=
  Below wb.heap.size wb wr ∧ wr.heap[wb.heap.size]? = some (.cells #[.int .i64 n, .int .i64 m, x] 63 (0, 0)) ∧ wr.ownsRow (wb.heap.size + 1) 3 1 x l.length (intVs l)
theorem BdSt.start (wb : World) (n m : Nat) : BdSt wb (wb.alloc (.cells #[.int .i64 n, .int .i64 m, .slice none 0 0] 63)) n m (.slice none 0 0) [] :=
  ⟨(Below.refl _ _).alloc (Nat.le_refl _) _, heap_alloc_new wb _, World.ownsRow_nil _ _ _ _⟩
theorem BdSt.below {w wr w' : World} {n m : Nat} {x : Value} {l : List Int} (h : BdSt w wr n m x l) (hb : Below wr.heap.size wr w') : BdSt w w' n m x l :=
  ⟨h.1.trans (hb.mono h.1.size), (hb.block _ (Array.getElem?_eq_some_iff.1 h.2.1).1).trans h.2.1, owns_keep h.2.2 fun k hk => hb.block k (h.2.2.lt k hk).2⟩
theorem BdSt.slice {w wr : World} {n m : Nat} {x : Value} {l : List Int} (h : BdSt w wr n m x l) : ∃ p c, x = .slice p l.length c := (ints_owned (B := 0) h.2.2 rfl).len
theorem BdSt.push {w wr w9 : World} {n m : Nat} {x v' : Value} {l : List Int} {e : Int} (h : BdSt w wr n m x l) (h' : w9.ownsRow (w.heap.size + 1) 3 1 v' (l.length + 1) (intVs l ++ [.int .i64 e])) (hg : (wr.alloc (.cells #[.int .i64 e] 3)).grownBy w9 x.ownBlock) :
    w9.heap[w.heap.size]? = some (.cells #[.int .i64 n, .int .i64 m, x] 63 (0, 0)) ∧ BdSt w (w9.setCell ⟨w.heap.size, 2, none⟩ v') n m v' (l ++ [e]) := by
  have hb : Below wr.heap.size wr (wr.alloc (.cells #[.int .i64 e] 3)) := (Below.refl _ _).alloc (Nat.le_refl _) _
  have h1 := h.below hb
  have hlt := h1.2.2.lt
  have hk2 : w9.heap[w.heap.size]? = some (.cells #[.int .i64 n, .int .i64 m, x] 63 (0, 0)) := (hg.block _ (Array.getElem?_eq_some_iff.1 h1.2.1).1 (fun e => by have := (hlt _ e.symm).1; omega)).trans h1.2.1
  refine ⟨hk2, ((h1.1.grown hg h1.1.size (fun k e => by have := (hlt k e).1; omega)).setCell (Nat.le_refl _) _), set_block hk2, ?_⟩
  have hne : ∀ k, v'.ownBlock = some k → some k ≠ some w.heap.size := fun k hk e => by
    have h5 := (h'.lt k hk).1
    have h6 := Option.some.inj e
    omega
  have h7 : (w9.setCell ⟨w.heap.size, 2, none⟩ v').ownsRow (w.heap.size + 1) 3 1 v' (l.length + 1) (intVs l ++ [.int .i64 e]) := owns_keep h' fun k hk => (grown_at w9 w.heap.size 2 v').block k (h'.lt k hk).2 (hne k hk)
  rw [List.length_append, intVs_snoc]
  exact h7
/-- the rows of cells, or none -/
theorem CeO.at' {O : Nat} {w : World} {v : Value} {l : List PI} (h : CeO O w v l) {i : Nat} (hi : i < l.length) : ∃ g c, v = .slice (some ⟨g, 0, none⟩) l.length c ∧ g < w.heap.size ∧ w.cell? ⟨g, i * 2, none⟩ = some (.int .i64 (l.getD i (0, 0)).1) ∧ w.cell? ⟨g, i * 2 + 1, none⟩ = some (.int .i64 (l.getD i (0, 0)).2) := by
  have h' := h
  unfold CeO at h'
  rcases Joins.ownsRow_forms h' with ⟨rfl, h0⟩ | ⟨g, cap, rfl⟩
  · omega
  · obtain ⟨f1, f2⟩ := h.at hi
    exact ⟨g, cap, rfl, (h'.lt g rfl).2, f1, f2⟩
/-- what is handed back where the matrix is stored into the result's block -/
theorem bd_fin {gr n m s cx : Nat} {px : Option Addr} {l : List Int} {w wb wr : World} (hb : Below gr w wb) (hk : wb.heap[gr]? = some (.cells #[.int .i64 0, .int .i64 0, .slice none 0 0] 63 (0, 0))) (h : BdSt wb wr n m (.slice px s cx) l) (hs : l.length = s) :
    ∃ wf, wf = ((wr.setCell ⟨gr, 0, none⟩ (.int .i64 (n : Int))).setCell ⟨gr, 1, none⟩ (.int .i64 (m : Int))).setCell ⟨gr, 2, none⟩ (.slice px s cx) ∧ Below gr w wf ∧ IntsIn gr wf (.slice px s cx) l ∧
      wf.heap[gr]? = some (.cells #[.int .i64 n, .int .i64 m, .slice px s cx] 63 (0, 0)) ∧ wr.heap[gr]? = some (.cells #[.int .i64 0, .int .i64 0, .slice none 0 0] 63 (0, 0)) := by
  have hlt := (Array.getElem?_eq_some_iff.1 hk).1
  have hk0 := (h.1.block gr hlt).trans hk
  have hgf : wr.grownBy (((wr.setCell ⟨gr, 0, none⟩ (.int .i64 (n : Int))).setCell ⟨gr, 1, none⟩ (.int .i64 (m : Int))).setCell ⟨gr, 2, none⟩ (.slice px s cx)) (some gr) := ((grown_at wr gr 0 _).trans (grown_at _ gr 1 _)).trans (grown_at _ gr 2 _)
  have hrow : IntsIn gr wr (.slice px s cx) l := ints_owned h.2.2 rfl
  have hB := hb.trans (h.1.mono (Nat.le_of_lt hlt))
  refine ⟨_, rfl, hB.grown hgf (by have := h.1.size; omega) (fun k e => by have := Option.some.inj e; omega), hrow.grown hgf (fun k e => by
    obtain rfl := Option.some.inj e
    exact ⟨Nat.le_refl _, fun c e => by rw [hk0] at e; cases e⟩), set_block (set_block (set_block hk0)), hk0⟩
set_option maxRecDepth 100000 in
set_option maxHeartbeats 16000000 in
theorem cellBorder_any (ms : List ByteArray) (v : Value) (dim : Int) (w : World) (h : StrsAt w v ms) (hW : wideI ms ≤ 24) (hH : ms.length ≤ 24) (hd : 0 ≤ dim ∧ dim ≤ 3) :
    Calls Tryz.prog 39 #[v, .int .i64 dim] w (MatPost w.heap.size (rowsI ms dim).length (colsI ms dim).length (matI (rowsI ms dim) (colsI ms dim) dim) w) := by
  obtain ⟨i1, hi1, hz0, hz1, hz2⟩ := info_parts Tryz.info3
  obtain ⟨hd0, hd3⟩ := hd
  obtain ⟨gr, hgr⟩ : ∃ gr, w.heap.size = gr := ⟨_, rfl⟩
  have HCO := Lib.hid (fun d wx (hx : Below gr w wx) => cellsOf_any ms v d wx (h.below hx (by rw [hgr]; exact Nat.le_refl _)) (by omega) (by omega))
  unfold CofP at HCO
  obtain ⟨pm, cm, hve, -⟩ := id h
  subst hve
  have hR0 : ¬ 0 < dim → rowsI ms dim = [] := fun hn => by unfold rowsI; rw [if_neg hn]
  have hR1 : 0 < dim → rowsI ms dim = cellsTo ms (dim - 1) (ms.length + 1) := fun hn => by unfold rowsI; rw [if_pos hn]
  have hRb : ∀ p ∈ rowsI ms dim, BoxI p := fun p hp => by
    by_cases hn : 0 < dim
    · rw [hR1 hn] at hp; exact cells_box hp hW (by omega)
    · rw [hR0 hn] at hp; cases hp
  have hCb : ∀ p ∈ colsI ms dim, BoxI p := fun p hp => cells_box hp hW (by omega)
  have hRl : (rowsI ms dim).length ≤ 2500 := by
    by_cases hn : 0 < dim
    · rw [hR1 hn]; exact cells_len hW (by omega)
    · rw [hR0 hn]; simp
  have hCl : (colsI ms dim).length ≤ 2500 := cells_len hW (by omega)
  have hC1 : colsI ms dim = cellsTo ms dim (ms.length + 1) := rfl
  obtain ⟨R, hR⟩ : ∃ R, rowsI ms dim = R := ⟨_, rfl⟩
  obtain ⟨C, hC⟩ : ∃ C, colsI ms dim = C := ⟨_, rfl⟩
  rw [hR] at hR0 hR1 hRb hRl ⊢
  rw [hC] at hC1 hCb hCl ⊢
  have HR0 := Lib.hid hR0
  have HR1 := Lib.hid hR1
  have HC1 := Lib.hid hC1
  have HRB := Lib.hid hRb
  have HCB := Lib.hid hCb
  obtain ⟨n, hn⟩ : ∃ n, R.length = n := ⟨_, rfl⟩
  obtain ⟨m, hm⟩ : ∃ n, C.length = n := ⟨_, rfl⟩
  rw [hn] at hRl ⊢
  rw [hm] at hCl ⊢
  have HN := Lib.hid hn
  have HM := Lib.hid hm
  have hbr := (Below.refl w.heap.size w).alloc (Nat.le_refl _) (.cells #[.int .i64 0, .int .i64 0, .slice none 0 0] 63)
  have HBR := Lib.hid hbr
  have HKR := Lib.hid (heap_alloc_new w (.cells #[.int .i64 0, .int .i64 0, .slice none 0 0] 63))
  obtain ⟨w0, hw0⟩ : ∃ w0, w.alloc (.cells #[.int .i64 0, .int .i64 0, .slice none 0 0] 63) = w0 := ⟨_, rfl⟩
  rw [hw0] at HBR HKR
  rw [hgr] at HBR HKR
  unfold MatPost
  rw [hgr]
  have HGL : Hid (∀ wx, Below gr w wx → gr ≤ wx.heap.size) := fun wx hx => by have := hx.size; omega
  have HW0 := Lib.hid hw0
  have HGR := Lib.hid hgr
  obtain ⟨T, hT⟩ : ∃ T, matI R C dim = T := ⟨_, rfl⟩
  rw [hT]
  have HT := Lib.hid hT
  clear h hbr hw0 hgr hR0 hR1 hC1 hRb hCb hn hm hR hC hT
  by_cases hdz : 0 < dim
  · have hR := HR1.out hdz
    have HRX := Lib.hid hR
    clear hR
    go_enter Tryz.func39, Tryz.ntmps39
    go_wp2_with fail
    rw [HW0.out, HGR.out]
    refine (HCO.out _ _ HBR.out).mono ?_
    rintro e w1 ⟨vr, rfl, hb, hr⟩
    rw [← HRX.out] at hr
    have HB1 := Lib.hid (HBR.out.trans (hb.mono (HGL.out _ HBR.out)))
    have HK1 := Lib.hid ((hb.block _ (Array.getElem?_eq_some_iff.1 HKR.out).1).trans HKR.out)
    obtain ⟨pr, cr, rfl⟩ := hr.sliceOf
    rw [HN.out] at hr ⊢
    have HR1 := Lib.hid hr
    clear hb hr
    go_wp2_with fail
    refine (HCO.out _ _ HB1.out).mono ?_
    rintro e w2 ⟨vc, rfl, hb, hc⟩
    rw [← HC1.out] at hc
    have HB2 := Lib.hid (HB1.out.trans (hb.mono (HGL.out _ HB1.out)))
    have HK2 := Lib.hid ((hb.block _ (Array.getElem?_eq_some_iff.1 HK1.out).1).trans HK1.out)
    have HR2 := Lib.hid (HR1.out.below hb (Nat.le_refl _))
    obtain ⟨pc, cc, rfl⟩ := hc.sliceOf
    rw [HM.out] at hc ⊢
    have HC2 := Lib.hid hc
    clear hb hc
    go_wp2_with fail
    obtain ⟨ob, hob⟩ : ∃ o, w2.heap.size = o := ⟨_, rfl⟩
    have HOB := Lib.hid hob
    have HST0 := Lib.hid (BdSt.start w2 n m)
    obtain ⟨w3, hw3⟩ : ∃ w3, w2.alloc (.cells #[.int .i64 (n : Int), .int .i64 (m : Int), .slice none 0 0] 63) = w3 := ⟨_, rfl⟩
    rw [hw3] at HST0
    rw [hob]
    try rw [hw3]
    have HLG : Hid (gr < w2.heap.size) := (Array.getElem?_eq_some_iff.1 HK2.out).1
    clear hw3 hob
    go_loopw [8] (fun i wr => ∃ (j : Nat) (x : Value), j ≤ n ∧ i = .int .i64 (j : Int) ∧ BdSt w2 wr n m x (matI (R.take j) C dim)) (fun i _ => n - (intOf i).toNat)
    case atStart => exact ⟨0, _, Nat.zero_le _, rfl, HST0.out⟩
    case round =>
      obtain ⟨j, x, hj, rfl, hst⟩ := hrel
      by_cases hjn : j < n
      · have HSTJ := Lib.hid hst
        clear hst
        go_wp2_with fail
        go_loopw [9] (fun k wr => ∃ (q : Nat) (x : Value), q ≤ m ∧ k = .int .i64 (q : Int) ∧ BdSt w2 wr n m x (matI (R.take j) C dim ++ (C.take q).map (fun c => incI (R.getD j (0, 0)) c dim))) (fun k _ => m - (intOf k).toNat)
        case atStart => exact ⟨0, x, Nat.zero_le _, rfl, by simpa using HSTJ.out⟩
        case round =>
          clear HSTJ
          obtain ⟨q, x, hq, rfl, hst⟩ := hrel
          by_cases hqm : q < m
          · obtain ⟨g1, c1, hvr, hg1, a0, a1⟩ := CeO.at' HR2.out (i := j) (by rw [HN.out]; exact hjn)
            obtain ⟨g2, c2, hvc, hg2, b0, b1⟩ := CeO.at' HC2.out (i := q) (by rw [HM.out]; exact hqm)
            obtain ⟨rfl, rfl⟩ : pr = some ⟨g1, 0, none⟩ ∧ cr = c1 := by cases hvr; exact ⟨rfl, rfl⟩
            obtain ⟨rfl, rfl⟩ : pc = some ⟨g2, 0, none⟩ ∧ cc = c2 := by cases hvc; exact ⟨rfl, rfl⟩
            have hpb : BoxI (R.getD j (0, 0)) := HRB.out _ (by rw [List.getD_eq_getElem?_getD, List.getElem?_eq_getElem (by rw [HN.out]; exact hjn)]; exact List.getElem_mem _)
            have hqb : BoxI (C.getD q (0, 0)) := HCB.out _ (by rw [List.getD_eq_getElem?_getD, List.getElem?_eq_getElem (by rw [HM.out]; exact hqm)]; exact List.getElem_mem _)
            have htk := take_snoc_getD (0, 0) C q (by rw [HM.out]; exact hqm)
            have hstep : matI (R.take j) C dim ++ (C.take (q + 1)).map (fun c => incI (R.getD j (0, 0)) c dim) = (matI (R.take j) C dim ++ (C.take q).map (fun c => incI (R.getD j (0, 0)) c dim)) ++ [incI (R.getD j (0, 0)) (C.getD q (0, 0)) dim] := by
              rw [htk, List.map_append, ← List.append_assoc]; rfl
            have hlen : (matI (R.take j) C dim ++ (C.take q).map (fun c => incI (R.getD j (0, 0)) c dim)).length ≤ 7000000 := by
              rw [List.length_append, matI_len, List.length_map, List.length_take, List.length_take, HM.out, HN.out]
              have h1 : min j n * m ≤ 2500 * 2500 := Nat.mul_le_mul (by omega) hCl
              omega
            have HSTEP := Lib.hid hstep
            obtain ⟨P, hP⟩ : ∃ P, R.getD j (0, 0) = P := ⟨_, rfl⟩
            obtain ⟨Q, hQ⟩ : ∃ Q, C.getD q (0, 0) = Q := ⟨_, rfl⟩
            obtain ⟨L, hL⟩ : ∃ L, matI (R.take j) C dim ++ (C.take q).map (fun c => incI (R.getD j (0, 0)) c dim) = L := ⟨_, rfl⟩
            rw [hL] at hst HSTEP hlen
            rw [hP, hQ] at HSTEP
            rw [hP] at a0 a1 hpb
            rw [hQ] at b0 b1 hqb
            obtain ⟨px, cx, hxe⟩ := hst.slice
            obtain ⟨s, hs⟩ : ∃ s, L.length = s := ⟨_, rfl⟩
            rw [hs] at hxe hlen
            subst hxe
            have HS := Lib.hid hs
            have HPP := Lib.hid hP
            have HIN := Lib.hid (fun wx => incidence_any P Q dim wx hpb hqb)
            obtain ⟨I, hI⟩ : ∃ I, incI P Q dim = I := ⟨_, rfl⟩
            rw [hI] at HIN HSTEP
            have hst' := hst.below ((Below.refl wr.heap.size wr).drew)
            have HSD := Lib.hid hst'
            have HWS : Hid (w2.heap.size < wr.heap.size) := (Array.getElem?_eq_some_iff.1 hst.2.1).1
            have e0 := (hst.1.cell (p := ⟨g1, j * 2, none⟩) hg1).trans a0
            have e1 := (hst.1.cell (p := ⟨g1, j * 2 + 1, none⟩) hg1).trans a1
            have e2 := (hst.1.cell (p := ⟨g2, q * 2, none⟩) hg2).trans b0
            have e3 := (hst.1.cell (p := ⟨g2, q * 2 + 1, none⟩) hg2).trans b1
            have hk := hst.2.1
            rw [HOB.out] at hk
            have e4 : wr.cell? ⟨ob, 2, none⟩ = some (.slice px s cx) := (blk_at hk 2).1
            have HE0 := Lib.hid e0
            clear hvr hvc hpb hqb htk hstep hP hQ hL hs hI hst hst' a0 a1 b0 b1 hk
            have hws : w2.heap.size < wr.drew.heap.size := HWS.out
            have d0 : wr.drew.cell? ⟨g1, j * 2, none⟩ = some (.int .i64 P.1) := e0
            have d1 : wr.drew.cell? ⟨g1, j * 2 + 1, none⟩ = some (.int .i64 P.2) := e1
            have d2 : wr.drew.cell? ⟨g2, q * 2, none⟩ = some (.int .i64 Q.1) := e2
            have d3 : wr.drew.cell? ⟨g2, q * 2 + 1, none⟩ = some (.int .i64 Q.2) := e3
            have d4 : wr.drew.cell? ⟨ob, 2, none⟩ = some (.slice px s cx) := e4
            clear e0 e1 e2 e3 e4
            go_wp2_with fail
            apply once_four (fun w8 w9 g c => w2.heap.size < w8.heap.size ∧ BdSt w2 (w9.setCell ⟨ob, 2, none⟩ (.slice (some ⟨g, 0, none⟩) (s + 1) c)) n m (.slice (some ⟨g, 0, none⟩) (s + 1) c) (L ++ [I]))
            case h =>
              intro KEY
              go_region_law (first
                | (go_simp
                   go_at_call 68
                   refine (HIN.out _).mono ?_
                   rintro e w8 ⟨rfl, hb8⟩
                   have hst8 := HSD.out.below hb8
                   have hws8 : w2.heap.size < w8.heap.size := Nat.lt_of_lt_of_le hws hb8.size
                   have hk8 := hst8.2.1
                   rw [HOB.out] at hk8
                   have hc8 : w8.cell? ⟨ob, 2, none⟩ = some (.slice px s cx) := (blk_at hk8 2).1
                   have hc8b : (w8.alloc (.cells #[.int .i64 I] 3)).cell? ⟨ob, 2, none⟩ = some (.slice px s cx) := (blk_at (alloc_old hk8) 2).1
                   have ho8 := hst8.2.2
                   rw [HS.out] at ho8)
                | (refine step_append_lies _ (by rfl) (.tmp 37) (.tmp 48) 51 (by rfl) (w2.heap.size + 1) 3 i1 (.int .i64 0) 1 8 Tryz.underlying51 hi1 hz0 hz1 hz2 rfl (by decide) _ s (intVs L) (by rfl) (ho8.alloc _) ⟨w8.heap.size, 0, none⟩ 1 1 [.int .i64 I] (by rfl) (by rfl) (World.news_of_block (cs := #[.int .i64 I]) (t := 3) (fr := (0, 0)) (heap_alloc_new w8 _)) (by simp [Value.oneCell']) (by decide) (by unfold maxLen; omega) (by omega) (by simp; omega) (w8.heap.size + 1) (by simp) ?_
                   intro g2' c2' w9 hown2 hgr2 hat2 hlt2
                   have hpu := BdSt.push (e := I) hst8 (by rw [HS.out]; exact hown2) hgr2
                   have hk9 := hpu.1
                   rw [HOB.out] at hk9
                   have hcell9 : w9.cell? ⟨ob, 2, none⟩ = some (.slice px s cx) := (blk_at hk9 2).1
                   have hfrz9 := (blk_at hk9 2).2
                   have hp2 := hpu.2
                   rw [HOB.out] at hp2
                   have HPU := Lib.hid hp2
                   have HO2 := Lib.hid hown2
                   have HG2 := Lib.hid hgr2
                   clear hown2 hgr2 hat2 hlt2 hpu hp2 hk9 ho8 hst8))
              all_goals exact KEY.out w8 w9 g2' c2' ⟨hws8, HPU.out⟩
            intro w8 w9 g2' c2' ⟨hws8, hpu⟩
            rw [← HSTEP.out, ← HPP.out] at hpu
            have HPU := Lib.hid hpu
            clear hpu d0 d1 d2 d3 d4 hws
            go_wp2_with fail
            go_roundw
            case rel => exact ⟨q + 1, _, hqm, by go_num, HPU.out⟩
            case measure => simp [intOf]; omega
          · obtain rfl : q = m := by omega
            have hr : BdSt w2 wr n q x (matI (R.take (j + 1)) C dim) := by
              rw [take_snoc_getD (0, 0) R j (by rw [HN.out]; exact hjn), matI_snoc]
              have h1 := hst
              rwa [show C.take q = C by rw [← HM.out]; exact List.take_length] at h1
            have HRJ := Lib.hid hr
            clear hst hr
            go_wp2_with fail
            go_roundw
            case rel => exact ⟨j + 1, x, hjn, by go_num, HRJ.out⟩
            case measure => simp [intOf]; omega
      · obtain rfl : j = n := by omega
        rw [show R.take j = R by rw [← HN.out]; exact List.take_length, HT.out] at hst
        have HST := Lib.hid hst
        clear hst
        have hst := HST.out
        obtain ⟨px, cx, hxe⟩ := hst.slice
        obtain ⟨s, hs⟩ : ∃ s, T.length = s := ⟨_, rfl⟩
        rw [hs] at hxe
        subst hxe
        obtain ⟨wf, hwf, hbf, hif, hkf, hk0⟩ := bd_fin HB2.out HK2.out hst hs
        have hk1 := hst.2.1
        rw [HOB.out] at hk1
        have c0 : wr.cell? ⟨ob, 0, none⟩ = some (.int .i64 (j : Int)) := (blk_at hk1 0).1
        have c1 : wr.cell? ⟨ob, 1, none⟩ = some (.int .i64 m) := (blk_at hk1 1).1
        have c2 : wr.cell? ⟨ob, 2, none⟩ = some (.slice px s cx) := (blk_at hk1 2).1
        have d0 : wr.cell? ⟨gr, 0, none⟩ = some (.int .i64 0) := (blk_at hk0 0).1
        have d1 : wr.cell? ⟨gr, 1, none⟩ = some (.int .i64 0) := (blk_at hk0 1).1
        have d2 : wr.cell? ⟨gr, 2, none⟩ = some (.slice none 0 0) := (blk_at hk0 2).1
        have f0 := (blk_at hk0 0).2
        have f1 := (blk_at hk0 1).2
        have f2 := (blk_at hk0 2).2
        have HWF := Lib.hid hwf
        have HBF := Lib.hid hbf
        have HIF := Lib.hid hif
        have HKF := Lib.hid hkf
        have HS := Lib.hid hs
        clear hst hwf hbf hif hkf hk0 hk1 hs
        go_wp2_with fail
        rw [← HWF.out]
        have r0 : wf.cell? ⟨gr, 0, none⟩ = some (.int .i64 (j : Int)) := (blk_at HKF.out 0).1
        have r1 : wf.cell? ⟨gr, 1, none⟩ = some (.int .i64 m) := (blk_at HKF.out 1).1
        have r2 : wf.cell? ⟨gr, 2, none⟩ = some (.slice px s cx) := (blk_at HKF.out 2).1
        refine bodyPost_ret (v := .agg #[.int .i64 (j : Int), .int .i64 m, .slice px s cx]) (by simp [results, Tryz.results39, go_sem, r0, r1, r2]) rfl ?_
        rw [HS.out]
        exact ⟨px, cx, rfl, HBF.out, HIF.out⟩
  · have hR := HR0.out hdz
    have hr : CeO 0 w0 (.slice none 0 0) R := by rw [hR]; exact CeO.nil _ _
    obtain rfl : n = 0 := by rw [← HN.out, hR]; rfl
    have HTN : Hid (T = []) := by unfold Hid; rw [← HT.out, hR]; rfl
    clear hR
    go_enter Tryz.func39, Tryz.ntmps39
    go_wp2_with fail
    rw [HW0.out, HGR.out]
    obtain ⟨w1, hw1⟩ : ∃ w1, w0 = w1 := ⟨_, rfl⟩
    have HB1 := Lib.hid HBR.out
    have HK1 := Lib.hid HKR.out
    have HR1 := Lib.hid hr
    clear hr hw1
    refine (HCO.out _ _ HB1.out).mono ?_
    rintro e w2 ⟨vc, rfl, hb, hc⟩
    rw [← HC1.out] at hc
    have HB2 := Lib.hid (HB1.out.trans (hb.mono (HGL.out _ HB1.out)))
    have HK2 := Lib.hid ((hb.block _ (Array.getElem?_eq_some_iff.1 HK1.out).1).trans HK1.out)
    have HR2 := Lib.hid (HR1.out.below hb (Nat.le_refl _))
    obtain ⟨pc, cc, rfl⟩ := hc.sliceOf
    rw [HM.out] at hc ⊢
    have HC2 := Lib.hid hc
    clear hb hc
    go_wp2_with fail
    obtain ⟨ob, hob⟩ : ∃ o, w2.heap.size = o := ⟨_, rfl⟩
    have HOB := Lib.hid hob
    have HST0 : Hid (BdSt w2 (w2.alloc (.cells #[.int .i64 0, .int .i64 (m : Int), .slice none 0 0] 63)) 0 m (.slice none 0 0) []) := BdSt.start w2 0 m
    rw [hob]
    have HLG : Hid (gr < w2.heap.size) := (Array.getElem?_eq_some_iff.1 HK2.out).1
    clear hob
    go_loopw [8] (fun i wr => i = .int .i64 0 ∧ BdSt w2 wr 0 m (.slice none 0 0) []) (fun i _ => 0)
    case atStart => exact ⟨rfl, HST0.out⟩
    case round =>
      obtain ⟨rfl, hst⟩ := hrel
      rw [← HTN.out] at hst
      have HST := Lib.hid hst
      clear hst
      have hst := HST.out
      have hs : T.length = 0 := by rw [HTN.out]; rfl
      obtain ⟨wf, hwf, hbf, hif, hkf, hk0⟩ := bd_fin HB2.out HK2.out hst hs
      have hk1 := hst.2.1
      rw [HOB.out] at hk1
      have c0 : wr.cell? ⟨ob, 0, none⟩ = some (.int .i64 (0 : Int)) := (blk_at hk1 0).1
      have c1 : wr.cell? ⟨ob, 1, none⟩ = some (.int .i64 m) := (blk_at hk1 1).1
      have c2 : wr.cell? ⟨ob, 2, none⟩ = some (.slice none 0 0) := (blk_at hk1 2).1
      have d0 : wr.cell? ⟨gr, 0, none⟩ = some (.int .i64 0) := (blk_at hk0 0).1
      have d1 : wr.cell? ⟨gr, 1, none⟩ = some (.int .i64 0) := (blk_at hk0 1).1
      have d2 : wr.cell? ⟨gr, 2, none⟩ = some (.slice none 0 0) := (blk_at hk0 2).1
      have f0 := (blk_at hk0 0).2
      have f1 := (blk_at hk0 1).2
      have f2 := (blk_at hk0 2).2
      have HWF : Hid (wf = ((wr.setCell ⟨gr, 0, none⟩ (.int .i64 0)).setCell ⟨gr, 1, none⟩ (.int .i64 (m : Int))).setCell ⟨gr, 2, none⟩ (.slice none 0 0)) := hwf
      have HBF := Lib.hid hbf
      have HIF := Lib.hid hif
      have HKF := Lib.hid hkf
      have HS := Lib.hid hs
      clear hst hwf hbf hif hkf hk0 hk1 hs
      go_wp2_with fail
      rw [← HWF.out]
      have r0 : wf.cell? ⟨gr, 0, none⟩ = some (.int .i64 (0 : Int)) := (blk_at HKF.out 0).1
      have r1 : wf.cell? ⟨gr, 1, none⟩ = some (.int .i64 m) := (blk_at HKF.out 1).1
      have r2 : wf.cell? ⟨gr, 2, none⟩ = some (.slice none 0 0) := (blk_at HKF.out 2).1
      refine bodyPost_ret (v := .agg #[.int .i64 (0 : Int), .int .i64 m, .slice none 0 0]) (by simp [results, Tryz.results39, go_sem, r0, r1, r2]) rfl ?_
      rw [HS.out]
      exact ⟨none, 0, rfl, HBF.out, HIF.out⟩
end Go.Proofs.YtoheffkiohfmoaaGreatDoor
