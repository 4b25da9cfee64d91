/-
  The law CellsBorders says true.
-/
import Derived.Test.YtipblphfjejpbaaGreatDoorBrdF
set_option linter.unusedSimpArgs false
set_option linter.unusedVariables false
namespace Go.Proofs.YtipblphfjejpbaaGreatDoor
open Go Go.RowKit Go.Maps

def RefPost (v : Value) (w : World) (e : Ending) (w' : World) : Prop := e = .returned v ∧ Below w.heap.size w w'
set_option maxRecDepth 100000 in
set_option maxHeartbeats 4000000 in
theorem ref_any (R C : Int) (p : Option Addr) (n c : Nat) (w : World) :
    Calls Tryz.prog 19 #[.agg #[.int .i64 R, .int .i64 C, .slice p n c]] w (RefPost (.agg #[.int .i64 R, .int .i64 C, .slice p n c]) w) := by
  obtain ⟨wf, hwf⟩ : ∃ wf, wf = (w.alloc (.cells #[.int .i64 R, .int .i64 C, .slice p n c] 28)).alloc (.cells #[.int .i64 R, .int .i64 C, .slice p n c] 41) := ⟨_, rfl⟩
  have HBF : Hid (Below w.heap.size w wf) := by unfold Hid; rw [hwf]; exact ((Below.refl _ _).alloc (Nat.le_refl _) _).alloc (by simp) _
  have hkf : wf.heap[w.heap.size + 1]? = some (.cells #[.int .i64 R, .int .i64 C, .slice p n c] 41 (0, 0)) := by
    rw [hwf]
    have h := heap_alloc_new (w.alloc (.cells #[.int .i64 R, .int .i64 C, .slice p n c] 28)) (.cells #[.int .i64 R, .int .i64 C, .slice p n c] 41)
    rw [lit_size] at h
    exact h
  have R0 : Hid (wf.cell? ⟨w.heap.size + 1, 0, none⟩ = some (.int .i64 R)) := (blk_at hkf 0).1
  have R1 : Hid (wf.cell? ⟨w.heap.size + 1, 1, none⟩ = some (.int .i64 C)) := (blk_at hkf 1).1
  have R2 : Hid (wf.cell? ⟨w.heap.size + 1, 2, none⟩ = some (.slice p n c)) := (blk_at hkf 2).1
  have HWF := Lib.hid hwf
  clear hwf hkf
  go_enter Tryz.func19, Tryz.ntmps19
  go_wp2_with fail
  rw [← HWF.out]
  refine bodyPost_ret (v := .agg #[.int .i64 R, .int .i64 C, .slice p n c]) (by simp [results, Tryz.results19, go_sem, R0.out, R1.out, R2.out]) rfl ?_
  exact ⟨rfl, HBF.out⟩

theorem sumTo_take (rows : List (List Int)) (G : List Int → Int) : ∀ n, n ≤ rows.length → sumTo (fun q => G (rows.getD q [])) n = ((rows.take n).map G).sum
  | 0, _ => rfl
  | n + 1, h => by
    show sumTo (fun q => G (rows.getD q [])) n + G (rows.getD n []) = _
    rw [sumTo_take rows G n (by omega), take_snoc_getD [] rows n (by omega), List.map_append, List.sum_append]
    simp
theorem sumTo_list (rows : List (List Int)) (G : List Int → Int) : sumTo (fun q => G (rows.getD q [])) rows.length = (rows.map G).sum := by
  rw [sumTo_take rows G _ (Nat.le_refl _), List.take_length]
theorem dot_brd {rows2 rows cols : List (List Int)} {i k : Nat} (hi : i < rows2.length) (hk : k < cols.length) : dotF (brdL rows2 rows) (brdL rows cols) rows.length cols.length i k rows.length = prodF rows (rows2.getD i []) (cols.getD k []) := by
  unfold dotF prodF
  rw [← sumTo_list]
  exact sumTo_ext fun q hq => by rw [brdL_at hi hq, brdL_at hq hk]
theorem prod_zero {rows2 rows cols : List (List Int)} (hz : ∀ q ∈ rows2, ∀ f ∈ cols, prodF rows q f = 0) : ∀ x ∈ prodL (brdL rows2 rows) (brdL rows cols) rows.length cols.length rows2.length, x = 0 := fun x hx => by
  unfold prodL prodRow at hx
  obtain ⟨i, hi, hx⟩ := List.mem_flatMap.1 hx
  obtain ⟨k, hk, rfl⟩ := List.mem_map.1 hx
  have hi := List.mem_range.1 hi
  have hk := List.mem_range.1 hk
  rw [dot_brd hi hk]
  exact hz _ (getL_mem hi) _ (getL_mem hk)

theorem fin3 {wz : World} {B b n c : Nat} {p : Option Addr} {l : List Int} (kz : wz.heap[b]? = some (.cells #[.int .i64 0, .int .i64 0, .slice none 0 0] 41 (0, 0))) (hi : IntsIn B wz (.slice p n c) l) (hB : B ≤ b) (x y : Value) :
    ∃ WF, WF = ((wz.setCell ⟨b, 0, none⟩ x).setCell ⟨b, 1, none⟩ y).setCell ⟨b, 2, none⟩ (.slice p n c) ∧ WF.cell? ⟨b, 2, none⟩ = some (.slice p n c) ∧ IntsIn B WF (.slice p n c) l ∧ wz.grownBy WF (some b) := by
  have hg : wz.grownBy (((wz.setCell ⟨b, 0, none⟩ x).setCell ⟨b, 1, none⟩ y).setCell ⟨b, 2, none⟩ (.slice p n c)) (some b) := ((grown_at _ b 0 _).trans (grown_at _ b 1 _)).trans (grown_at _ b 2 _)
  refine ⟨_, rfl, ?_, hi.grown hg (fun k e => by obtain rfl := Option.some.inj e; exact ⟨hB, fun c e => by rw [kz] at e; cases e⟩), hg⟩
  exact (blk_at (set_block (v := .slice p n c) (k := 2) (set_block (v := y) (k := 1) (set_block (v := x) (k := 0) kz))) 2).1
theorem fin3' {wz : World} {B n c : Nat} {p : Option Addr} {l : List Int} (hi : IntsIn B wz (.slice p n c) l) (x y : Value) :
    ∃ WF, WF = wz.alloc (.cells #[x, y, .slice p n c] 41) ∧ WF.cell? ⟨wz.heap.size, 2, none⟩ = some (.slice p n c) ∧ IntsIn B WF (.slice p n c) l ∧ Below wz.heap.size wz WF := by
  have hb : Below wz.heap.size wz (wz.alloc (.cells #[x, y, .slice p n c] 41)) := (Below.refl _ _).alloc (Nat.le_refl _) _
  exact ⟨_, rfl, (blk_at (heap_alloc_new wz _) 2).1, hi.below hb (Nat.le_refl _), hb⟩

/-- the law's number of an error -/
theorem errB_lt (L : List (List Int)) (dim : Int) : errB L dim ≤ 4 := by
  unfold errB
  rcases errX_cases L with h | h | h | h <;> rw [h] <;> simp <;> split <;> omega

set_option maxRecDepth 100000 in
set_option maxHeartbeats 16000000 in
theorem cellsBorders_no (a : Nat → Addr) (L : List (List Int)) (dim : Int) (v : Value) (w : World) (hS : Sents w a) (hv : ListsIn w.heap.size w v L) (hno : littleB L 150 = false) :
    Calls Tryz.prog 3 #[v, .int .i64 dim] w (True1 w) := by
  have HV := Lib.hid hv
  have HCI := Lib.hid (circle_any a w hS)
  have HR := Lib.hid hno
  clear hS hv hno
  unfold True1
  go_enter Tryz.func3, Tryz.ntmps3
  go_wp2_with fail
  refine HCI.out.mono ?_
  rintro e w1 ⟨rfl, hb1⟩
  have HB1 := Lib.hid hb1
  have HLI := Lib.hid (little_any L 150 v w1 (HV.out.later hb1 (Nat.le_refl _) (Nat.le_refl _)) (by decide))
  rw [HR.out] at HLI
  unfold Gives at HLI
  clear hb1
  go_wp2_with fail
  refine HLI.out.mono ?_
  rintro e w2 ⟨rfl, hb2⟩
  have HB2 := Lib.hid (HB1.out.trans (hb2.mono HB1.out.size))
  clear hb2
  go_wp2_with fail
  go_ret
  exact ⟨rfl, HB2.out⟩

set_option maxRecDepth 100000 in
set_option maxHeartbeats 16000000 in
theorem cellsBorders_bad (a : Nat → Addr) (L : List (List Int)) (dim : Int) (v : Value) (w : World) (hS : Sents w a) (hv : ListsIn w.heap.size w v L) (hlit : littleB L 150 = true) (he : errB L dim ≠ 0) :
    Calls Tryz.prog 3 #[v, .int .i64 dim] w (True1 w) := by
  have HS := Lib.hid hS
  have HV := Lib.hid hv
  have HCI := Lib.hid (circle_any a w hS)
  have HR := Lib.hid hlit
  obtain ⟨hn, hl⟩ := littleB_few hlit
  have HN := Lib.hid hn
  have HL := Lib.hid hl
  have HE := Lib.hid he
  obtain ⟨c, hc⟩ : ∃ c, errX L = c := ⟨_, rfl⟩
  obtain ⟨d, hd⟩ : ∃ d, errB L dim = d := ⟨_, rfl⟩
  have hdb : (c = 0 → (dim < 0 ∨ 7 < dim) ∧ d = 2) ∧ (c ≠ 0 → d = c) := by
    rw [← hc, ← hd]
    unfold errB
    refine ⟨fun h => ?_, fun h => if_neg h⟩
    rw [if_pos h]
    unfold errB at he
    rw [if_pos h] at he
    by_cases hx : 0 ≤ dim ∧ dim ≤ 7
    · exact absurd (if_pos hx) he
    · exact ⟨by omega, if_neg hx⟩
  rw [hd] at he
  have HC := Lib.hid hc
  have HD := Lib.hid hd
  have HDB := Lib.hid hdb
  have hd1 : 0 < d := by omega
  clear hS hv hlit hn hl hc hd he hdb
  unfold True1
  go_enter Tryz.func3, Tryz.ntmps3
  go_wp2_with fail
  refine HCI.out.mono ?_
  rintro e w1 ⟨rfl, hb1⟩
  have HB1 := Lib.hid hb1
  have HLI := Lib.hid (little_any L 150 v w1 (HV.out.later hb1 (Nat.le_refl _) (Nat.le_refl _)) (by decide))
  rw [HR.out] at HLI
  unfold Gives at HLI
  clear hb1
  go_wp2_with fail
  refine HLI.out.mono ?_
  rintro e w2 ⟨rfl, hb2⟩
  have HB2 := Lib.hid (HB1.out.trans (hb2.mono HB1.out.size))
  have HCE := Lib.hid (complexError_any L v w2 (HV.out.later HB2.out (Nat.le_refl _) (Nat.le_refl _)) HN.out HL.out)
  rw [HC.out] at HCE
  unfold Gives at HCE
  clear hb2
  go_wp2_with fail
  refine HCE.out.mono ?_
  rintro e w3 ⟨rfl, hb3⟩
  have HB3 := Lib.hid (HB2.out.trans (hb3.mono HB2.out.size))
  have HCX := Lib.hid (cx_any w.heap.size L v w3 HB3.out.size (HV.out.below HB3.out (Nat.le_refl _)) HN.out HL.out)
  clear hb3
  by_cases hc0 : c = 0
  focus
    obtain ⟨hdim, hd2⟩ := HDB.out.1 hc0
    have q3 : ((c : Int) == 0) = true := beq_iff_eq.2 (by omega)
    have HD2 := Lib.hid hd2
    have HX2 : Hid ((2 : Int) = (d : Int)) := by unfold Hid; omega
    clear hc0 hd2
    by_cases hd0 : dim < 0
    focus
      have q4 : decide (dim < 0) = true := decide_eq_true hd0
      go_wp2_with fail
    rotate_left
    focus
      have q4 : decide (dim < 0) = false := decide_eq_false (by omega)
      have q5 : decide (7 < dim) = true := decide_eq_true (by omega)
      clear hd0
      go_wp2_with fail
    all_goals
      rw [HX2.out]
  rotate_left 2
  focus
    have hdc := HDB.out.2 hc0
    have q3 : ((c : Int) == 0) = false := beq_eq_false_iff_ne.2 (by omega)
    have HX3 : Hid ((c : Int) = (d : Int)) := by unfold Hid; omega
    clear hc0 hdc
    go_wp2_with fail
    rw [HX3.out]
  all_goals
    refine HCX.out.mono ?_
    rintro e w4 ⟨u, rfl, hb4, hr4⟩
    have HB4 := Lib.hid (HB3.out.trans (hb4.mono HB3.out.size))
    obtain ⟨pu, cu, hue, -⟩ := hr4.lists
    generalize L.length = nu at hue
    subst hue
    have HBR := Lib.hid (boundary_any a w.heap.size L dim (.slice pu nu cu) w4 (HS.out.below HB4.out (Nat.le_refl _)) HB4.out.size hr4.lists HN.out HL.out)
    unfold BrdPost at HBR
    rw [HD.out] at HBR
    have q6 : decide ((0 : Int) < (d : Int)) = true := decide_eq_true (by omega)
    clear hb4 hr4 HCX
    go_wp2_with fail
    refine HBR.out.mono ?_
    rintro e w5 ⟨hb5, ⟨h0, -⟩ | ⟨k, hk, hek, rfl⟩⟩
    · exact absurd h0 (by omega)
    · have HB5 := Lib.hid (HB4.out.trans (hb5.mono HB4.out.size))
      have hkz : (w5.alloc (.cells #[.int .i64 0, .int .i64 0, .slice none 0 0] 28)).heap[w5.heap.size]? = some (.cells #[.int .i64 0, .int .i64 0, .slice none 0 0] 28 (0, 0)) := heap_alloc_new w5 _
      obtain ⟨w6, hw6⟩ : ∃ w6, w6 = w5.alloc (.cells #[.int .i64 0, .int .i64 0, .slice none 0 0] 28) := ⟨_, rfl⟩
      rw [← hw6] at hkz
      have hb56 : Below w5.heap.size w5 w6 := by rw [hw6]; exact (Below.refl _ _).alloc (Nat.le_refl _) _
      have HB6 := Lib.hid (HB5.out.trans (hb56.mono HB5.out.size))
      have HKZ := Lib.hid hkz
      have HW6 := Lib.hid hw6
      have HCD := Lib.hid (coded_yes a (errE (a k)) (d : Int) (-1) (d : Int) w6 (HS.out.below HB6.out (Nat.le_refl _)) (Or.inr (Or.inl ⟨k, hk, rfl, by omega, rfl⟩)) ⟨rfl, rfl⟩)
      have hlt6 : w5.heap.size < w6.heap.size := (Array.getElem?_eq_some_iff.1 hkz).1
      unfold errE at HCD ⊢
      clear hb5 hkz hw6 hb56 HBR hek
      go_wp2_with fail
      rw [← HW6.out]
      refine HCD.out.mono ?_
      rintro e w7 ⟨rfl, hb7⟩
      have hk7 := (hb7.block _ hlt6).trans HKZ.out
      have c0 : w7.cell? ⟨w5.heap.size, 0, none⟩ = some (.int .i64 0) := (blk_at hk7 0).1
      have c1 : w7.cell? ⟨w5.heap.size, 1, none⟩ = some (.int .i64 0) := (blk_at hk7 1).1
      have c2 : w7.cell? ⟨w5.heap.size, 2, none⟩ = some (.slice none 0 0) := (blk_at hk7 2).1
      have HB7 := Lib.hid (HB6.out.trans (hb7.mono HB6.out.size))
      clear hb7 hk7
      go_wp2_with fail
      go_ret
      exact ⟨rfl, HB7.out⟩

set_option maxRecDepth 100000 in
set_option maxHeartbeats 16000000 in
theorem cellsBorders_ok (a : Nat → Addr) (L : List (List Int)) (dim : Int) (v : Value) (w : World) (hS : Sents w a) (hv : ListsIn w.heap.size w v L) (hlit : littleB L 150 = true) (he : errX L = 0) (hd0 : 0 ≤ dim) (hd7 : dim ≤ 7) :
    Calls Tryz.prog 3 #[v, .int .i64 dim] w (True1 w) := by
  have HS := Lib.hid hS
  have HV := Lib.hid hv
  have HCI := Lib.hid (circle_any a w hS)
  have HR := Lib.hid hlit
  obtain ⟨hn, hl⟩ := littleB_few hlit
  have HN := Lib.hid hn
  have HL := Lib.hid hl
  have HE := Lib.hid he
  have HOK := Lib.hid (errC_ok (errX_ok he).1)
  have HE0 := Lib.hid (errX_ok he).1
  have HEB : Hid (errB L dim = 0) := by unfold Hid errB; rw [if_pos he, if_pos ⟨hd0, hd7⟩]
  obtain ⟨rows, hrows⟩ : ∃ rows, dimF (allF L) (dim - 1) = rows := ⟨_, rfl⟩
  obtain ⟨cols, hcols⟩ : ∃ cols, dimF (allF L) dim = cols := ⟨_, rfl⟩
  have hR6 : rows.length ≤ 600 := by rw [← hrows]; exact Nat.le_trans (dimF_len _ _) HOK.out.2.2
  have hC6 : cols.length ≤ 600 := by rw [← hcols]; exact Nat.le_trans (dimF_len _ _) HOK.out.2.2
  obtain ⟨R, hR⟩ : ∃ R, rows.length = R := ⟨_, rfl⟩
  obtain ⟨C, hC⟩ : ∃ C, cols.length = C := ⟨_, rfl⟩
  obtain ⟨N, hNe⟩ : ∃ N, (brdL rows cols).length = N := ⟨_, rfl⟩
  rw [hR] at hR6
  rw [hC] at hC6
  have hN5 : N ≤ 360000 := by
    rw [← hNe, brdL_len, hR, hC]
    exact Nat.mul_le_mul hR6 hC6
  have HROWS := Lib.hid hrows
  have HCOLS := Lib.hid hcols
  have HRR := Lib.hid hR
  have HCC := Lib.hid hC
  have HNN := Lib.hid hNe
  have HA6 : Hid ((allF L).length ≤ 100000) := by have := HOK.out.2.2; unfold Hid; omega
  have HA7 : Hid (∀ l ∈ allF L, l.length ≤ 100000) := fun l hl => by have := allF_bd HE0.out l hl; omega
  clear hS hv hlit hn hl he hrows hcols hR hC hNe
  unfold True1
  go_enter Tryz.func3, Tryz.ntmps3
  go_wp2_with fail
  refine HCI.out.mono ?_
  rintro e w1 ⟨rfl, hb1⟩
  have HB1 := Lib.hid hb1
  have HLI := Lib.hid (little_any L 150 v w1 (HV.out.later hb1 (Nat.le_refl _) (Nat.le_refl _)) (by decide))
  rw [HR.out] at HLI
  unfold Gives at HLI
  clear hb1
  go_wp2_with fail
  refine HLI.out.mono ?_
  rintro e w2 ⟨rfl, hb2⟩
  have HB2 := Lib.hid (HB1.out.trans (hb2.mono HB1.out.size))
  have HCE := Lib.hid (complexError_any L v w2 (HV.out.later HB2.out (Nat.le_refl _) (Nat.le_refl _)) HN.out HL.out)
  rw [HE.out] at HCE
  unfold Gives at HCE
  clear hb2
  go_wp2_with fail
  refine HCE.out.mono ?_
  rintro e w3 ⟨rfl, hb3⟩
  have HB3 := Lib.hid (HB2.out.trans (hb3.mono HB2.out.size))
  have HCX := Lib.hid (cx_any w.heap.size L v w3 HB3.out.size (HV.out.below HB3.out (Nat.le_refl _)) HN.out HL.out)
  have q1 : decide (dim < 0) = false := decide_eq_false (by omega)
  have q2 : decide (7 < dim) = false := decide_eq_false (by omega)
  clear hb3
  go_wp2_with fail
  refine HCX.out.mono ?_
  rintro e w4 ⟨u, rfl, hb4, hr4⟩
  have HB4 := Lib.hid (HB3.out.trans (hb4.mono HB3.out.size))
  obtain ⟨pu, cu, hue, -⟩ := hr4.lists
  generalize L.length = nu at hue
  subst hue
  have HBR := Lib.hid (boundary_any a w.heap.size L dim (.slice pu nu cu) w4 (HS.out.below HB4.out (Nat.le_refl _)) HB4.out.size hr4.lists HN.out HL.out)
  unfold BrdPost at HBR
  rw [HEB.out, HROWS.out, HCOLS.out, HRR.out, HCC.out] at HBR
  clear hb4 hr4 HCX
  go_wp2_with fail
  refine HBR.out.mono ?_
  rintro e w5 ⟨hb5, ⟨-, mm, rfl, hmi⟩ | ⟨k, hk, hek, rfl⟩⟩
  rotate_left
  · exact absurd hek (by omega)
  obtain ⟨pm, cm, hme, him⟩ := hmi
  rw [HNN.out] at hme him
  subst hme
  have HB5 := Lib.hid (HB4.out.trans (hb5.mono HB4.out.size))
  obtain ⟨w6, hw6⟩ : ∃ w6, w6 = w5.alloc (.cells #[.int .i64 R, .int .i64 C, .slice pm N cm] 28) := ⟨_, rfl⟩
  have hkz : w6.heap[w5.heap.size]? = some (.cells #[.int .i64 R, .int .i64 C, .slice pm N cm] 28 (0, 0)) := by rw [hw6]; exact heap_alloc_new w5 _
  have hb56 : Below w5.heap.size w5 w6 := by rw [hw6]; exact (Below.refl _ _).alloc (Nat.le_refl _) _
  have HB6 := Lib.hid (HB5.out.trans (hb56.mono HB5.out.size))
  have HKZ := Lib.hid hkz
  have HW6 := Lib.hid hw6
  have HI6 := Lib.hid (him.below hb56 (Nat.le_refl _))
  have hlt6 : w5.heap.size < w6.heap.size := (Array.getElem?_eq_some_iff.1 hkz).1
  have HCL := Lib.hid (closed_any w.heap.size L v w6 HB6.out.size (HV.out.below HB6.out (Nat.le_refl _)) HN.out HL.out)
  unfold ClosedPost at HCL
  rw [HE0.out] at HCL
  clear hb5 hkz hw6 hb56 HBR him
  go_wp2_with fail
  rw [← HW6.out]
  refine HCL.out.mono ?_
  rintro e w7 ⟨va, rfl, hb7, hva, -⟩
  have HB7 := Lib.hid (HB6.out.trans (hb7.mono HB6.out.size))
  have HBS7 := Lib.hid hb7
  have HALL7 : Hid (ListsIn w.heap.size w7 va (allF L)) := hva (by trivial)
  clear hb7 hva HCL
  by_cases hz : dim = 0
  focus
    have q3 : decide (0 < dim) = false := decide_eq_false (by omega)
    have hrz : rows = [] := by rw [← HROWS.out, hz]; exact dimF_none (Or.inl (by decide))
    obtain ⟨vr, hvr⟩ : ∃ vr, vr = Value.slice none 0 0 := ⟨_, rfl⟩
    have HVR : Hid (ListsIn w.heap.size w7 vr rows) := by unfold Hid; rw [hvr, hrz]; exact ListsIn.nil _ _
    obtain ⟨w8, rfl⟩ : ∃ w8, w8 = w7 := ⟨_, rfl⟩
    have HB8 := HB7
    have HBS8 := HBS7
    have HALL8 := HALL7
    have q4 : (dim == 0) = true := beq_iff_eq.2 hz
    clear hz hrz
    go_upto_region 15 with (fail)
    rw [← hvr]
    clear hvr
  rotate_left
  focus
    have q3 : decide (0 < dim) = true := decide_eq_true (by omega)
    have hsub : IntKind.i64.wrap (dim - 1) = dim - 1 := wrap_int (by omega) (by omega)
    have HOD := Lib.hid (ofDim_any w.heap.size (allF L) (dim - 1) va w7 HB7.out.size HALL7.out HA6.out HA7.out)
    unfold ListPost at HOD
    rw [HROWS.out] at HOD
    have q4 : (dim == 0) = false := beq_eq_false_iff_ne.2 hz
    have hd1 : 1 ≤ dim := by omega
    clear hz
    go_wp2_with fail
    refine HOD.out.mono ?_
    rintro e w8 ⟨vr, rfl, hb8, hr8⟩
    have HB8 := Lib.hid (HB7.out.trans (hb8.mono HB7.out.size))
    have HBS8 := Lib.hid (HBS7.out.trans (hb8.mono HBS7.out.size))
    have HALL8 := Lib.hid (HALL7.out.below hb8 (Nat.le_refl _))
    have HVR := Lib.hid hr8.lists
    clear hb8 hr8 HOD hsub
    go_upto_region 15 with (fail)
  all_goals
    have hk8 := (HBS8.out.block _ hlt6).trans HKZ.out
    have c0 : w8.cell? ⟨w5.heap.size, 0, none⟩ = some (.int .i64 R) := (blk_at hk8 0).1
    have c1 : w8.cell? ⟨w5.heap.size, 1, none⟩ = some (.int .i64 C) := (blk_at hk8 1).1
    have c2 : w8.cell? ⟨w5.heap.size, 2, none⟩ = some (.slice pm N cm) := (blk_at hk8 2).1
    have HRF := Lib.hid (ref_any (R : Int) (C : Int) pm N cm w8)
    unfold RefPost at HRF
    clear hk8
    go_wp2_with fail
    refine HRF.out.mono ?_
    rintro e w9 ⟨rfl, hb9⟩
    have HB9 := Lib.hid (HB8.out.trans (hb9.mono HB8.out.size))
    have HBS9 := Lib.hid (HBS8.out.trans (hb9.mono HBS8.out.size))
    have HVR9 := Lib.hid (HVR.out.below hb9 (Nat.le_refl _))
    have HALL9 := Lib.hid (HALL8.out.below hb9 (Nat.le_refl _))
    have HOD := Lib.hid (ofDim_any w.heap.size (allF L) dim va w9 HB9.out.size HALL9.out HA6.out HA7.out)
    unfold ListPost at HOD
    rw [HCOLS.out] at HOD
    clear hb9 c0 c1 c2 HRF
    go_wp2_with fail
    refine HOD.out.mono ?_
    rintro e w10 ⟨vc, rfl, hb10, hr10⟩
    have HB10 := Lib.hid (HB9.out.trans (hb10.mono HB9.out.size))
    have HBS10 := Lib.hid (HBS9.out.trans (hb10.mono HBS9.out.size))
    have HBO := Lib.hid (border_any w.heap.size rows cols vr vc w10 HB10.out.size (HVR9.out.below hb10 (Nat.le_refl _)) hr10.lists (by rw [HRR.out]; exact hR6) (by rw [HCC.out]; exact hC6)
      (fun l hl => by rw [← HROWS.out] at hl; have := allF_bd HE0.out l (List.mem_filter.1 hl).1; omega) (fun l hl => by rw [← HCOLS.out] at hl; have := allF_bd HE0.out l (List.mem_filter.1 hl).1; omega))
    unfold MatPost at HBO
    rw [HRR.out, HCC.out, HNN.out] at HBO
    clear hb10 hr10 HOD
    go_wp2_with fail
    refine HBO.out.mono ?_
    rintro e w11 ⟨pb, cb, rfl, hb11, hi11⟩
    have HB11 := Lib.hid (HB10.out.trans (hb11.mono HB10.out.size))
    have HBS11 := Lib.hid (HBS10.out.trans (hb11.mono HBS10.out.size))
    have HSM := Lib.hid (sameMatrix_any w.heap.size R C (brdL rows cols) (.agg #[.int .i64 R, .int .i64 C, .slice pm N cm]) (.agg #[.int .i64 R, .int .i64 C, .slice pb N cb]) w11
      ⟨pm, cm, by rw [HNN.out], by rw [HNN.out]; exact HI6.out.below HBS11.out (Nat.le_refl _)⟩ ⟨pb, cb, by rw [HNN.out], by rw [HNN.out]; exact hi11⟩ (by rw [HNN.out]; omega))
    unfold Gives at HSM
    clear hb11 hi11 HBO
    go_wp2_with fail
    refine HSM.out.mono ?_
    rintro e w12 ⟨rfl, hb12⟩
    have HB12 := Lib.hid (HB11.out.trans (hb12.mono HB11.out.size))
    have HBS12 := Lib.hid (HBS11.out.trans (hb12.mono HBS11.out.size))
    clear hb12 HSM
  · have HCX := Lib.hid (cx_any w.heap.size L v w12 HB12.out.size (HV.out.below HB12.out (Nat.le_refl _)) HN.out HL.out)
    obtain ⟨rows2, hrows2⟩ : ∃ rows2, dimF (allF L) (dim - 1 - 1) = rows2 := ⟨_, rfl⟩
    have hR26 : rows2.length ≤ 600 := by rw [← hrows2]; exact Nat.le_trans (dimF_len _ _) HOK.out.2.2
    obtain ⟨R2, hR2⟩ : ∃ R2, rows2.length = R2 := ⟨_, rfl⟩
    obtain ⟨N2, hN2⟩ : ∃ N2, (brdL rows2 rows).length = N2 := ⟨_, rfl⟩
    rw [hR2] at hR26
    have hEB2 : errB L (dim - 1) = 0 := by unfold errB; rw [if_pos HE.out, if_pos ⟨by omega, by omega⟩]
    have HROWS2 := Lib.hid hrows2
    have HR2 := Lib.hid hR2
    have HN2 := Lib.hid hN2
    have HEB2 := Lib.hid hEB2
    have hsub : IntKind.i64.wrap (dim - 1) = dim - 1 := wrap_int (by omega) (by omega)
    have hrise : ∀ g ∈ allF L, Rise g := fun g hg => isF_rise HOK.out.1 (mem_allF.1 hg)
    have HZERO : Hid (∀ x ∈ prodL (brdL rows2 rows) (brdL rows cols) rows.length cols.length rows2.length, x = 0) := prod_zero fun q hq f hf => by
      rw [← HROWS2.out] at hq
      rw [← HCOLS.out] at hf
      obtain ⟨hf1, hf2⟩ := List.mem_filter.1 hf
      have hf3 : (f.length : Int) - 1 = dim := by simpa using hf2
      refine bb_zero (by rw [← HROWS.out]; exact (allF_sorted L).nodup.filter _) (fun r hr => by rw [← HROWS.out] at hr; exact hrise r (List.mem_filter.1 hr).1) (hrise f hf1) (hrise q (List.mem_filter.1 hq).1) (by omega) fun i hi => ?_
      have hl : (f.eraseIdx i).length = f.length - 1 := by rw [List.length_eraseIdx, if_pos hi]
      rw [← HROWS.out]
      refine List.mem_filter.2 ⟨mem_allF.2 (isF_sub (mem_allF.1 hf1) (List.eraseIdx_sublist _ _) (List.length_pos_iff.1 (by omega))), ?_⟩
      exact decide_eq_true (by omega)
    clear hrows2 hR2 hN2 hEB2 hrise
    go_wp2_with fail
    refine HCX.out.mono ?_
    rintro e w13 ⟨u2, rfl, hb13, hr13⟩
    have HB13 := Lib.hid (HB12.out.trans (hb13.mono HB12.out.size))
    have HBS13 := Lib.hid (HBS12.out.trans (hb13.mono HBS12.out.size))
    obtain ⟨pu2, cu2, hue2, -⟩ := hr13.lists
    generalize L.length = nu2 at hue2
    subst hue2
    have HBR2 := Lib.hid (boundary_any a w.heap.size L (dim - 1) (.slice pu2 nu2 cu2) w13 (HS.out.below HB13.out (Nat.le_refl _)) HB13.out.size hr13.lists HN.out HL.out)
    unfold BrdPost at HBR2
    rw [HEB2.out, HROWS2.out, HROWS.out, HR2.out, HRR.out] at HBR2
    clear hb13 hr13 HCX
    go_wp2_with fail
    refine HBR2.out.mono ?_
    rintro e w14 ⟨hb14, ⟨-, mn, rfl, hni⟩ | ⟨k, hk, hek, rfl⟩⟩
    rotate_left
    · exact absurd hek (by omega)
    obtain ⟨pn, cn, hne, hin⟩ := hni
    rw [HN2.out] at hne hin
    subst hne
    have HB14 := Lib.hid (HB13.out.trans (hb14.mono HB13.out.size))
    have HBS14 := Lib.hid (HBS13.out.trans (hb14.mono HBS13.out.size))
    obtain ⟨w15, hw15⟩ : ∃ w15, w15 = w14.alloc (.cells #[.int .i64 R2, .int .i64 R, .slice pn N2 cn] 28) := ⟨_, rfl⟩
    have hkn : w15.heap[w14.heap.size]? = some (.cells #[.int .i64 R2, .int .i64 R, .slice pn N2 cn] 28 (0, 0)) := by rw [hw15]; exact heap_alloc_new w14 _
    have hb145 : Below w14.heap.size w14 w15 := by rw [hw15]; exact (Below.refl _ _).alloc (Nat.le_refl _) _
    have HB15 := Lib.hid (HB14.out.trans (hb145.mono HB14.out.size))
    have hbs15 := HBS14.out.trans (hb145.mono HBS14.out.size)
    have hkm := (hbs15.block _ hlt6).trans HKZ.out
    have HI15 := Lib.hid (HI6.out.below hbs15 (Nat.le_refl _))
    have HJ15 := Lib.hid (hin.below hb145 (Nat.le_refl _))
    have HKN := Lib.hid hkn
    have HKM := Lib.hid hkm
    have HW15 := Lib.hid hw15
    have m0 : (w14.alloc (.cells #[.int .i64 R2, .int .i64 R, .slice pn N2 cn] 28)).cell? ⟨w5.heap.size, 0, none⟩ = some (.int .i64 R) := by rw [← hw15]; exact (blk_at hkm 0).1
    have hltn : w14.heap.size < w15.heap.size := (Array.getElem?_eq_some_iff.1 hkn).1
    have hltm : w5.heap.size < w15.heap.size := (Array.getElem?_eq_some_iff.1 hkm).1
    clear hb14 hkn hkm hw15 hb145 hbs15 hin HBR2
    go_wp2_with fail
    rw [← HW15.out]
    have hcur : Below w15.heap.size w15 w15.drew := (Below.refl _ _).drew
    have a0 : w15.cell? ⟨w5.heap.size, 0, none⟩ = some (.int .i64 R) := (blk_at HKM.out 0).1
    have a1 : w15.cell? ⟨w5.heap.size, 1, none⟩ = some (.int .i64 C) := (blk_at HKM.out 1).1
    have a2 : w15.cell? ⟨w5.heap.size, 2, none⟩ = some (.slice pm N cm) := (blk_at HKM.out 2).1
    have b0 : w15.cell? ⟨w14.heap.size, 0, none⟩ = some (.int .i64 R2) := (blk_at HKN.out 0).1
    have b1 : w15.cell? ⟨w14.heap.size, 1, none⟩ = some (.int .i64 R) := (blk_at HKN.out 1).1
    have b2 : w15.cell? ⟨w14.heap.size, 2, none⟩ = some (.slice pn N2 cn) := (blk_at HKN.out 2).1
    have HPR := Lib.hid (fun (W : World) (hc : Below w15.heap.size w15 W) => productOf_any w.heap.size R2 R C (brdL rows2 rows) (brdL rows cols) (.agg #[.int .i64 R2, .int .i64 R, .slice pn N2 cn]) (.agg #[.int .i64 R, .int .i64 C, .slice pm N cm]) W (Nat.le_trans HB15.out.size hc.size)
      ⟨pn, cn, by rw [HN2.out], by rw [HN2.out]; exact HJ15.out.below hc (Nat.le_refl _)⟩ ⟨pm, cm, by rw [HNN.out], by rw [HNN.out]; exact HI15.out.below hc (Nat.le_refl _)⟩
      (by rw [brdL_len, HR2.out, HRR.out]) (by rw [brdL_len, HRR.out, HCC.out]) hR26 hR6 hC6
      (fun x hx => by unfold brdL at hx; obtain ⟨g, -, hx⟩ := List.mem_flatMap.1 hx; obtain ⟨f, -, rfl⟩ := List.mem_map.1 hx; have := entry_bd g f; omega)
      (fun x hx => by unfold brdL at hx; obtain ⟨g, -, hx⟩ := List.mem_flatMap.1 hx; obtain ⟨f, -, rfl⟩ := List.mem_map.1 hx; have := entry_bd g f; omega))
    unfold MatPost at HPR
    rw [HRR.out, HCC.out, HR2.out] at HZERO
    obtain ⟨PL, hPL⟩ : ∃ PL, prodL (brdL rows2 rows) (brdL rows cols) R C R2 = PL := ⟨_, rfl⟩
    rw [hPL] at HZERO
    obtain ⟨P, hP⟩ : ∃ P, (prodL (brdL rows2 rows) (brdL rows cols) R C R2).length = P := ⟨_, rfl⟩
    rw [hP] at HPR
    have hP4 : P ≤ 360000 := by rw [← hP, prodL_len]; exact Nat.mul_le_mul hR26 hC6
    rw [hPL] at HPR hP
    have HP := Lib.hid hP
    clear hP hPL
    go_region_law (first
      | (go_simp
         go_at_call 19
         refine (ref_any _ _ _ _ _ _).mono ?_
         rintro e wn ⟨rfl, hbn⟩
         first
           | (have kz2 := (hbn.block _ (Array.getElem?_eq_some_iff.1 kz).1).trans kz
              have hcur2 := hcur.trans (hbn.mono hcur.size)
              clear kz hcur
              have kz := kz2
              have hcur := hcur2
              clear kz2 hcur2)
           | (have kz := (hbn.block _ (by simp)).trans (heap_alloc_new _ _)
              have kzb := hcur.size
              have hcur2 := (hcur.alloc hcur.size _).trans (hbn.mono (hcur.alloc hcur.size _).size)
              clear hcur
              have hcur := hcur2
              clear hcur2)
           | (have hcur2 := hcur.trans (hbn.mono hcur.size)
              clear hcur
              have hcur := hcur2
              clear hcur2)
         try (have z0 : wn.cell? ⟨_, 0, none⟩ = some (.int .i64 0) := (blk_at kz 0).1)
         try (have z1 : wn.cell? ⟨_, 1, none⟩ = some (.int .i64 0) := (blk_at kz 1).1)
         try (have z2 : wn.cell? ⟨_, 2, none⟩ = some (.slice none 0 0) := (blk_at kz 2).1)
         try (have zf0 := (blk_at kz 0).2)
         try (have zf1 := (blk_at kz 1).2)
         try (have zf2 := (blk_at kz 2).2)
         have km := (hcur.block _ hltm).trans HKM.out
         have kn := (hcur.block _ hltn).trans HKN.out
         have a0 : wn.cell? ⟨w5.heap.size, 0, none⟩ = some (.int .i64 R) := (blk_at km 0).1
         have a1 : wn.cell? ⟨w5.heap.size, 1, none⟩ = some (.int .i64 C) := (blk_at km 1).1
         have a2 : wn.cell? ⟨w5.heap.size, 2, none⟩ = some (.slice pm N cm) := (blk_at km 2).1
         have b0 : wn.cell? ⟨w14.heap.size, 0, none⟩ = some (.int .i64 R2) := (blk_at kn 0).1
         have b1 : wn.cell? ⟨w14.heap.size, 1, none⟩ = some (.int .i64 R) := (blk_at kn 1).1
         have b2 : wn.cell? ⟨w14.heap.size, 2, none⟩ = some (.slice pn N2 cn) := (blk_at kn 2).1
         have hlm : w5.heap.size < wn.heap.size := Nat.lt_of_lt_of_le hltm hcur.size
         have hln : w14.heap.size < wn.heap.size := Nat.lt_of_lt_of_le hltn hcur.size
         clear km kn hbn)
      | (go_simp
         go_at_call 21
         refine (HPR.out _ (by first | exact hcur | exact hcur.alloc hcur.size _)).mono ?_
         rintro e wz ⟨pz, cz, rfl, hbz, hiz⟩
         first
           | (have kz2 := (hbz.block _ (Array.getElem?_eq_some_iff.1 kz).1).trans kz
              have hcur2 := hcur.trans (hbz.mono hcur.size)
              clear kz hcur
              have kz := kz2
              have hcur := hcur2
              clear kz2 hcur2)
           | (have kz := (hbz.block _ (by simp)).trans (heap_alloc_new _ _)
              have kzb := hcur.size
              have hcur2 := (hcur.alloc hcur.size _).trans (hbz.mono (hcur.alloc hcur.size _).size)
              clear hcur
              have hcur := hcur2
              clear hcur2)
           | (have hcur2 := hcur.trans (hbz.mono hcur.size)
              clear hcur
              have hcur := hcur2
              clear hcur2)
         try (have z0 : wz.cell? ⟨_, 0, none⟩ = some (.int .i64 0) := (blk_at kz 0).1)
         try (have z1 : wz.cell? ⟨_, 1, none⟩ = some (.int .i64 0) := (blk_at kz 1).1)
         try (have z2 : wz.cell? ⟨_, 2, none⟩ = some (.slice none 0 0) := (blk_at kz 2).1)
         try (have zf0 := (blk_at kz 0).2)
         try (have zf1 := (blk_at kz 1).2)
         try (have zf2 := (blk_at kz 2).2)
         clear hbz))
    all_goals
      first
        | (obtain ⟨WF, hWF, hcF, hiF, hgF⟩ := fin3 kz hiz (Nat.le_trans HB15.out.size kzb) (.int .i64 R2) (.int .i64 C)
           have hbF := hcur.grown hgF hcur.size (fun k e => by obtain rfl := Option.some.inj e; exact kzb)
           rw [← hWF]
           have HBF := Lib.hid (HB15.out.trans (hbF.mono HB15.out.size))
           have HIF := Lib.hid hiF
           clear hWF hgF hbF hiF)
        | (obtain ⟨WF, hWF, hcF, hiF, hbF⟩ := fin3' hiz (.int .i64 R2) (.int .i64 C)
           rw [← hWF]
           have HBF := Lib.hid (HB15.out.trans ((hcur.trans (hbF.mono hcur.size)).mono HB15.out.size))
           have HIF := Lib.hid hiF
           clear hWF hbF hiF)
      clear a0 a1 a2 b0 b1 b2
      go_wp2_with fail
      go_loop [16] (fun i => ∃ j : Nat, j ≤ P ∧ i = .int .i64 j) (fun i => P - (intOf i).toNat)
      case atStart => exact ⟨0, Nat.zero_le _, rfl⟩
      case round =>
        obtain ⟨j, hj, rfl⟩ := hrel
        by_cases hjP : j < P
        · obtain ⟨p', c', hv', -, -, hx⟩ := id HIF.out.at
          obtain ⟨b, off, e1, e2⟩ := hx j (by rw [HP.out]; exact hjP)
          have hval : PL.getD j 0 = 0 := HZERO.out _ (by rw [List.getD_eq_getElem?_getD, List.getElem?_eq_getElem (by rw [HP.out]; exact hjP)]; exact List.getElem_mem _)
          rw [hval] at e2
          obtain ⟨rfl, rfl⟩ : p' = pz ∧ c' = cz := by cases hv'; exact ⟨rfl, rfl⟩
          subst e1
          clear hv' hx hval
          go_wp2_with fail
          go_round
          case rel => exact ⟨j + 1, by omega, by go_num⟩
          case measure => simp [intOf]; omega
        · obtain rfl : P = j := by omega
          go_wp2_with fail
          go_ret
          first
            | exact ⟨rfl, HBF.out⟩
            | exact ⟨rfl, HBF.out.trans (((Below.refl _ _).drew).mono HBF.out.size)⟩
  · go_wp2_with fail
    go_ret
    exact ⟨rfl, HB12.out⟩

theorem cellsBorders_any (a : Nat → Addr) (L : List (List Int)) (dim : Int) (v : Value) (w : World) (hS : Sents w a) (hv : ListsIn w.heap.size w v L) :
    Calls Tryz.prog 3 #[v, .int .i64 dim] w (True1 w) := by
  cases hlit : littleB L 150 with
  | false => exact cellsBorders_no a L dim v w hS hv hlit
  | true =>
    by_cases he : errB L dim = 0
    · have h0 : errX L = 0 := by
        unfold errB at he
        by_cases h : errX L = 0
        · exact h
        · rw [if_neg h] at he; exact he
      have hd : 0 ≤ dim ∧ dim ≤ 7 := by
        unfold errB at he
        rw [if_pos h0] at he
        by_cases h : 0 ≤ dim ∧ dim ≤ 7
        · exact h
        · rw [if_neg h] at he; cases he
      exact cellsBorders_ok a L dim v w hS hv hlit h0 hd.1 hd.2
    · exact cellsBorders_bad a L dim v w hS hv hlit he
end Go.Proofs.YtipblphfjejpbaaGreatDoor
