/-
  reeb.merging by a contract: the walk.
-/
import Derived.Test.YtddnjimpdidpaaaGreatDoorRbL
import Derived.Deep.DeepCutAuto
import Derived.Deep.CutBlock
import Derived.Deep.RegionHeld3
set_option linter.unusedSimpArgs false
set_option linter.unusedVariables false
namespace Go.Proofs.YtddnjimpdidpaaaGreatDoor
open Go Go.RowKit Go.Maps

theorem under_nodes : Tryz.prog.underlying 28 = some (.slice 45) := by kernel_rfl
theorem info_node : (Tryz.prog.info? 45).map (fun i => (i.zero, i.size, i.bytes)) = some (some (.agg #[.int .i64 0, .int .i64 0]), 2, 16) := by kernel_rfl
theorem under_boolsR : Tryz.prog.underlying 114 = some (.slice 4) := by kernel_rfl
theorem info_boolR : (Tryz.prog.info? 4).map (fun i => (i.zero, i.size, i.bytes)) = some (some (.bool false), 1, 1) := by kernel_rfl
theorem under_barsR : Tryz.prog.underlying 37 = some (.slice 48) := by kernel_rfl
theorem info_barR : (Tryz.prog.info? 48).map (fun i => (i.zero, i.size, i.bytes)) = some (some (.agg #[.int .i64 0, .int .i64 0, .int .i64 0]), 3, 24) := by kernel_rfl
theorem make_nodesR (N : Nat) (hN : N ≤ 100000) (w : World) : Sem.run Tryz.prog (Instr.makeSlice 28 (.int .i64 (N : Int)) (.int .i64 (N : Int))) w = .ok (.slice (some ⟨w.heap.size, 0, none⟩) N N) (w.alloc (.cells (Array.replicate (N * 2) (.int .i64 0)) 45)) := by
  obtain ⟨i3, hi3, hy0, hy1, hy2⟩ := info_parts info_node
  have h := run_make (P := Tryz.prog) w 28 45 i3 (.agg #[.int .i64 0, .int .i64 0]) under_nodes hi3 hy0 .i64 .i64 (N : Int) (N : Int) (by omega) (by omega) (by rw [hy2]; omega) (by omega)
  rw [Int.toNat_natCast, hy1] at h
  have e2 : madeCells (Value.agg #[.int .i64 0, .int .i64 0]).cells (N * 2) = Array.replicate (N * 2) (.int .i64 0) := by
    apply Array.ext
    · simp [madeCells]
    · intro i h1 h2
      have : i % 2 = 0 ∨ i % 2 = 1 := by omega
      rcases this with h | h <;> simp [madeCells, Value.cells, h]
  rw [e2] at h
  exact h
theorem make_boolsR (N : Nat) (hN : N ≤ 100000) (w : World) : Sem.run Tryz.prog (Instr.makeSlice 114 (.int .i64 (N : Int)) (.int .i64 (N : Int))) w = .ok (.slice (some ⟨w.heap.size, 0, none⟩) N N) (w.alloc (.cells (Array.replicate N (.bool false)) 4)) := by
  obtain ⟨i3, hi3, hy0, hy1, hy2⟩ := info_parts info_boolR
  have h := run_make (P := Tryz.prog) w 114 4 i3 (.bool false) under_boolsR hi3 hy0 .i64 .i64 (N : Int) (N : Int) (by omega) (by omega) (by rw [hy2]; omega) (by omega)
  rw [Int.toNat_natCast, hy1, Nat.mul_one] at h
  have e2 : madeCells (Value.bool false).cells N = Array.replicate N (.bool false) := by
    apply Array.ext
    · simp [madeCells]
    · intro i h1 h2; simp [madeCells, Value.cells, Nat.mod_one]
  rw [e2] at h
  exact h
theorem nod_full {V : List Int} {n : Nat} {xs : Array Value} (hs : xs.size = n * 2) (h : ∀ i, i < n → xs[i * 2]? = some (.int .i64 (V.getD i 0)) ∧ xs[i * 2 + 1]? = some (.int .i64 (-1))) : xs = nodA V (fun _ => none) n := by
  refine Array.ext (by rw [hs, nodA_size]) fun j h1 h2 => ?_
  have hj : j / 2 < n := by omega
  obtain ⟨a, b⟩ := h (j / 2) hj
  rw [nodA_elem]
  by_cases hp : j % 2 = 0
  · have e : j / 2 * 2 = j := by omega
    rw [e, Array.getElem?_eq_getElem h1] at a
    rw [if_pos hp]
    exact Option.some.inj a
  · have e : j / 2 * 2 + 1 = j := by omega
    rw [e, Array.getElem?_eq_getElem h1] at b
    rw [if_neg hp]
    exact Option.some.inj b

/-- the piece of hi becomes lo's, up to m -/
def relO (o : Nat → Nat) (rb : Nat → Bool) (lo hi m x : Nat) : Nat := if x < m ∧ rb x = true ∧ o x = hi then lo else o x
theorem relO_0 (o : Nat → Nat) (rb : Nat → Bool) (lo hi : Nat) : relO o rb lo hi 0 = o := funext fun x => if_neg fun h => absurd h.1 (Nat.not_lt_zero x)
theorem relO_self (o : Nat → Nat) (rb : Nat → Bool) (lo hi m : Nat) : relO o rb lo hi m m = o m := if_neg fun h => absurd h.1 (Nat.lt_irrefl m)
theorem relO_skip {o : Nat → Nat} {rb : Nat → Bool} {lo hi m : Nat} (h : ¬ (rb m = true ∧ o m = hi)) : relO o rb lo hi (m + 1) = relO o rb lo hi m := funext fun x => by
  unfold relO
  by_cases e : x = m
  · rw [e, if_neg (fun a => h a.2), if_neg (fun a => h a.2)]
  · by_cases hx : x < m ∧ rb x = true ∧ o x = hi
    · rw [if_pos hx, if_pos ⟨by omega, hx.2⟩]
    · rw [if_neg hx, if_neg (fun a => hx ⟨by omega, a.2⟩)]
theorem relO_set {o : Nat → Nat} {rb : Nat → Bool} {lo hi m : Nat} (h1 : rb m = true) (h2 : o m = hi) : updN (relO o rb lo hi m) m lo = relO o rb lo hi (m + 1) := funext fun x => by
  unfold relO updN
  by_cases e : x = m
  · rw [if_pos e, e, if_pos ⟨by omega, h1, h2⟩]
  · rw [if_neg e]
    show (if x < m ∧ rb x = true ∧ o x = hi then lo else o x) = _
    by_cases hx : x < m ∧ rb x = true ∧ o x = hi
    · rw [if_pos hx, if_pos ⟨by omega, hx.2⟩]
    · rw [if_neg hx, if_neg (fun a => hx ⟨by omega, a.2⟩)]
theorem MS.app {B0 : Nat} {w0 wr w' : World} {V h : List Int} {n : Nat} {par : Nat → Option Nat} {o hd : Nat → Nat} {rb : Nat → Bool} {bars : List (Nat × Nat)} {s s' : Value} {ob : Obj} (m : MS B0 w0 wr V h n par o hd rb bars s) {p : Nat × Nat} (hg : (wr.alloc ob).grownBy w' s.ownBlock)
    (ho : w'.ownsRow (B0 + 4) 48 3 s' (bars.length + 1) (barVs (bars.map (barI h)) ++ [.int .i64 0, .int .i64 (h.getD p.1 0), .int .i64 (h.getD p.2 0)])) : MS B0 w0 w' V h n par o hd rb (bars ++ [p]) s' := by
  have hl : B0 + 3 < wr.heap.size := (Array.getElem?_eq_some_iff.1 m.c4).1
  have hs : ∀ k, s.ownBlock = some k → B0 + 4 ≤ k := fun k e => (m.c5.lt k e).1
  have hk : ∀ k, k ≤ B0 + 3 → w'.heap[k]? = wr.heap[k]? := fun k hk => (hg.block k (by simp; omega) (fun e => by have := hs k e.symm; omega)).trans (alloc_old _ _ _ (by omega))
  refine ⟨(m.b.alloc (by omega) ob).grown hg (by simp; omega) (fun q e => by have := hs q e; omega), (hk _ (by omega)).trans m.c1, (hk _ (by omega)).trans m.c2, (hk _ (by omega)).trans m.c3, (hk _ (by omega)).trans m.c4, ?_⟩
  rw [List.length_append, List.map_append]
  show w'.ownsRow (B0 + 4) 48 3 s' (bars.length + 1) (barVs (bars.map (barI h) ++ [barI h p]))
  rw [barVs_snoc]
  exact ho
theorem MS.drew {B0 : Nat} {w0 wr : World} {V h : List Int} {n : Nat} {par : Nat → Option Nat} {o hd : Nat → Nat} {rb : Nat → Bool} {bars : List (Nat × Nat)} {s : Value} (m : MS B0 w0 wr V h n par o hd rb bars s) : MS B0 w0 wr.drew V h n par o hd rb bars s := m.kept (Below.refl _ _).drew
theorem MS.sl {B0 : Nat} {w0 wr : World} {V h : List Int} {n : Nat} {par : Nat → Option Nat} {o hd : Nat → Nat} {rb : Nat → Bool} {bars : List (Nat × Nat)} {s : Value} (m : MS B0 w0 wr V h n par o hd rb bars s) : ∃ p c, s = .slice p bars.length c := by
  rcases Joins.ownsRow_forms m.c5 with ⟨e, h0⟩ | ⟨g, cap, e⟩
  · exact ⟨none, 0, by rw [e, h0]⟩
  · exact ⟨_, cap, e⟩

set_option maxRecDepth 100000 in
set_option maxHeartbeats 64000000 in
theorem merging_any (V ht : List Int) (M : List Nat) (Ep : List (Nat × Nat)) (n ne : Nat) (pV po pe ph : Option Addr) (cV co ce ch : Nat) (hv : Value) (w : World)
    (hV : IntsAt w (.slice pV n cV) V) (hO : IntsAt w (.slice po n co) (natV M)) (hE : PairsAt w (.slice pe ne ce) (castP Ep)) (hH : IntsAt w (.slice ph n ch) ht)
    (hVn : V.length = n) (hHn : ht.length = n) (hEn : Ep.length = ne) (hn : n ≤ 1000) (hne : ne ≤ 1000) (hM : M.Perm (List.range n)) (hMs : M.Pairwise (fun i j => ht.getD i 0 < ht.getD j 0)) (g : Gr n (fun i => ht.getD i 0) (AdE Ep)) (hbd : ∀ x ∈ ht, -1048576 ≤ x ∧ x ≤ 1048576) :
    Calls Tryz.prog 35 #[.agg #[.slice pV n cV, .slice po n co, hv, .slice pe ne ce], .slice ph n ch] w (fun e w' => ∃ B0, MergeP B0 w V ht n (AdE Ep) e w') := by
  have hml : M.length = n := by rw [hM.length_eq, List.length_range]
  have HVX := Lib.hid (fun wx (hx : Below w.heap.size w wx) => (hV.in.below hx (Nat.le_refl _)).at)
  have HOX := Lib.hid (fun wx (hx : Below w.heap.size w wx) => (hO.in.below hx (Nat.le_refl _)).at)
  have HEX := Lib.hid (fun wx (hx : Below w.heap.size w wx) => hE.below hx (Nat.le_refl _))
  have HHX := Lib.hid (fun wx (hx : Below w.heap.size w wx) => (hH.in.below hx (Nat.le_refl _)).at)
  have HVN := Lib.hid hVn
  have HHN := Lib.hid hHn
  have HEN := Lib.hid hEn
  have HN := Lib.hid hn
  have HNE := Lib.hid hne
  have HM := Lib.hid hM
  have HMS := Lib.hid hMs
  have HML := Lib.hid hml
  have HG := Lib.hid g
  have HBD := Lib.hid hbd
  have hb0 : Below w.heap.size w (w.alloc (.cells #[.slice pV n cV, .slice po n co, hv, .slice pe ne ce] 75)) := lit_below' w _
  have hk0 : HillB (w.alloc (.cells #[.slice pV n cV, .slice po n co, hv, .slice pe ne ce] 75)) w.heap.size (.slice pV n cV) (.slice po n co) hv (.slice pe ne ce) := heap_alloc_new w _
  have hs0 : (w.alloc (.cells #[.slice pV n cV, .slice po n co, hv, .slice pe ne ce] 75)).heap.size = w.heap.size + 1 := by simp
  obtain ⟨w0, hw0⟩ : ∃ w0, w.alloc (.cells #[.slice pV n cV, .slice po n co, hv, .slice pe ne ce] 75) = w0 := ⟨_, rfl⟩
  rw [hw0] at hb0 hk0 hs0
  obtain ⟨kb, hkb⟩ : ∃ k, w.heap.size = k := ⟨_, rfl⟩
  obtain ⟨B0, hB0⟩ : ∃ k, w0.heap.size = k := ⟨_, rfl⟩
  have HKX : Hid (∀ wx, Below B0 w0 wx → HillB wx kb (.slice pV n cV) (.slice po n co) hv (.slice pe ne ce) ∧ Below w.heap.size w wx) := fun wx hx => by
    rw [← hB0] at hx
    refine ⟨?_, hb0.trans (hx.mono hb0.size)⟩
    rw [← hkb]
    exact hk0.kept (hx.block _ hk0.lt)
  have HW0 := Lib.hid hw0
  have HKB := Lib.hid hkb
  have HB0 := Lib.hid hB0
  have hmk1 := make_nodesR n (by omega)
  have hmk2 := make_intsR n (by omega)
  have hmk3 := make_boolsR n (by omega)
  obtain ⟨iB, hiB, hyB0, hyB1, hyB2⟩ := info_parts info_barR
  have HS0 : Hid (B0 = kb + 1) := by unfold Hid; omega
  clear hV hO hE hH hVn hHn hEn hne hM hMs g hbd hml hb0 hk0 hs0 hw0
  go_enter Tryz.func35, Tryz.ntmps35
  go_upto_region 1 with fail
  rw [HW0.out]
  go_upto_region 2 with fail
  clear hkb hB0
  have hx1 := heap_alloc_new w0 (.cells (Array.replicate (n * 2) (.int .i64 0)) 45)
  rw [HB0.out] at hx1
  have hb1 : Below B0 w0 (w0.alloc (.cells (Array.replicate (n * 2) (.int .i64 0)) 45)) := (Below.refl _ _).alloc (by rw [HB0.out]; exact Nat.le_refl _) _
  obtain ⟨w1, hw1⟩ : ∃ w1, w0.alloc (.cells (Array.replicate (n * 2) (.int .i64 0)) 45) = w1 := ⟨_, rfl⟩
  rw [hw1] at hx1 hb1
  have HX1 := Lib.hid hx1
  have HB1 := Lib.hid hb1
  have HS1 : Hid (w1.heap.size = B0 + 1) := by unfold Hid; rw [← hw1, ← HB0.out]; simp
  rw [hw1]
  clear hw1 hx1 hb1
  go_wp2_with fail
  go_loopw [26] (fun i wr => ∃ (j : Nat) (xs : Array Value), j ≤ n ∧ i = .int .i64 (j : Int) ∧ Below B0 w0 wr ∧ wr.heap.size = B0 + 1 ∧ wr.heap[B0]? = some (.cells xs 45 (0, 0)) ∧ xs.size = n * 2 ∧ ∀ t, t < j → xs[t * 2]? = some (.int .i64 (V.getD t 0)) ∧ xs[t * 2 + 1]? = some (.int .i64 (-1))) (fun i _ => n - (intOf i).toNat)
  case atStart => exact ⟨0, _, Nat.zero_le _, rfl, HB1.out, HS1.out, HX1.out, by simp, fun t ht => absurd ht (Nat.not_lt_zero t)⟩
  case round =>
    obtain ⟨j, xs, hj, rfl, hb, hs, hx, hxs, hgd⟩ := hrel
    have HB := Lib.hid hb
    have HS := Lib.hid hs
    have HX := Lib.hid hx
    have HXS := Lib.hid hxs
    have HGD := Lib.hid hgd
    obtain ⟨hk, hbw⟩ := HKX.out wr hb
    by_cases hjn : j < n
    · obtain ⟨k0, k1, k2, k3, f0, f1, f2, f3⟩ := hk.all
      obtain ⟨p, c, e1, -, -, e4⟩ := HVX.out wr hbw
      obtain ⟨b, off, e5, e6⟩ := e4 j (by rw [HVN.out]; exact hjn)
      rw [HVN.out] at e1
      obtain ⟨rfl, rfl⟩ : pV = p ∧ cV = c := by cases e1; exact ⟨rfl, rfl⟩
      subst e5
      obtain ⟨z, hz⟩ : ∃ z, V.getD j 0 = z := ⟨_, rfl⟩
      rw [hz] at e6
      have HZ := Lib.hid hz
      obtain ⟨y0, c5⟩ : ∃ y, wr.cell? ⟨B0, j * 2, none⟩ = some y := ⟨xs[j * 2]'(by rw [hxs]; omega), by rw [cell_of_row wr B0 (j * 2) _ _ _ hx, Array.getElem?_eq_getElem (by rw [hxs]; omega)]⟩
      obtain ⟨y1, c6⟩ : ∃ y, wr.cell? ⟨B0, j * 2 + 1, none⟩ = some y := ⟨xs[j * 2 + 1]'(by rw [hxs]; omega), by rw [cell_of_row wr B0 (j * 2 + 1) _ _ _ hx, Array.getElem?_eq_getElem (by rw [hxs]; omega)]⟩
      have g5 : wr.frozen? ⟨B0, j * 2, none⟩ = false := frozen_of_row wr B0 _ _ _ hx
      have g6 : wr.frozen? ⟨B0, j * 2 + 1, none⟩ = false := frozen_of_row wr B0 _ _ _ hx
      clear hb hs hx hxs hgd hk hbw e1 e4 hz k1 k2 k3 f0 f1 f2 f3
      go_wp2_with fail
      go_roundw
      case rel =>
        have hx2 := set_at (i := j * 2 + 1) (v := .int .i64 (-1)) (set_at (i := j * 2) (v := .int .i64 z) HX.out)
        refine ⟨j + 1, _, hjn, by go_num, (HB.out.setCell (p := ⟨B0, j * 2, none⟩) (Nat.le_refl _) _).setCell (p := ⟨B0, j * 2 + 1, none⟩) (Nat.le_refl _) _, by simp [World.setCell]; exact HS.out, hx2, by simp; exact HXS.out, fun t ht => ?_⟩
        have hxs := HXS.out
        rcases (show t < j ∨ t = j by omega) with h | rfl
        · obtain ⟨a, b⟩ := HGD.out t h
          constructor
          · rw [Array.getElem?_setIfInBounds, if_neg (by omega), Array.getElem?_setIfInBounds, if_neg (by omega)]; exact a
          · rw [Array.getElem?_setIfInBounds, if_neg (by omega), Array.getElem?_setIfInBounds, if_neg (by omega)]; exact b
        · constructor
          · rw [Array.getElem?_setIfInBounds, if_neg (by omega), Array.getElem?_setIfInBounds, if_pos rfl, if_pos (by omega), HZ.out]
          · rw [Array.getElem?_setIfInBounds, if_pos rfl, if_pos (by simp; omega)]
      case measure => simp [intOf]; omega
    · obtain rfl : n = j := by omega
      have hnod := nod_full HXS.out HGD.out
      have hn1 := HN.out
      subst hnod
      have hx1 := heap_alloc_new wr (.cells (Array.replicate n (.int .i64 0)) 3)
      have hx2 := heap_alloc_new (wr.alloc (.cells (Array.replicate n (.int .i64 0)) 3)) (.cells (Array.replicate n (.int .i64 0)) 3)
      have hx3 := heap_alloc_new ((wr.alloc (.cells (Array.replicate n (.int .i64 0)) 3)).alloc (.cells (Array.replicate n (.int .i64 0)) 3)) (.cells (Array.replicate n (.bool false)) 4)
      have s1 : (wr.alloc (.cells (Array.replicate n (.int .i64 0)) 3)).heap.size = B0 + 2 := by simp; omega
      have s2 : ((wr.alloc (.cells (Array.replicate n (.int .i64 0)) 3)).alloc (.cells (Array.replicate n (.int .i64 0)) 3)).heap.size = B0 + 3 := by simp; omega
      rw [hs] at hx1
      rw [s1] at hx2
      rw [s2] at hx3
      have hms : MS B0 w0 (((wr.alloc (.cells (Array.replicate n (.int .i64 0)) 3)).alloc (.cells (Array.replicate n (.int .i64 0)) 3)).alloc (.cells (Array.replicate n (.bool false)) 4)) V ht n (fun _ => none) (fun _ => 0) (fun _ => 0) (fun _ => false) [] (.slice none 0 0) := by
        refine ⟨((hb.alloc (by omega) _).alloc (by omega) _).alloc (by omega) _, ?_, ?_, ?_, ?_, World.ownsRow_nil _ _ _ _⟩
        · rw [alloc_old _ _ _ (by omega), alloc_old _ _ _ (by omega), alloc_old _ _ _ (by omega)]; exact hx
        · rw [alloc_old _ _ _ (by omega), alloc_old _ _ _ (by omega), ← natA_zero]; exact hx1
        · rw [alloc_old _ _ _ (by omega), ← natA_zero]; exact hx2
        · rw [← booA_zero]; exact hx3
      obtain ⟨w2, hw2⟩ : ∃ w2, ((wr.alloc (.cells (Array.replicate n (.int .i64 0)) 3)).alloc (.cells (Array.replicate n (.int .i64 0)) 3)).alloc (.cells (Array.replicate n (.bool false)) 4) = w2 := ⟨_, rfl⟩
      rw [hw2] at hms
      have HMS0 := Lib.hid hms
      have HW2 := Lib.hid hw2
      clear hb hx hxs hgd hk hbw hx1 hx2 hx3 s1 s2 hms hw2
      go_upto_region 11 with fail
      rw [HW2.out]
      rw [show B0 + 1 + 1 + 1 = B0 + 3 from rfl, show B0 + 1 + 1 = B0 + 2 from rfl]
      clear hs
      obtain ⟨hk, hbw⟩ := HKX.out w2 HMS0.out.b
      obtain ⟨k0, k1, k2, k3, f0, f1, f2, f3⟩ := hk.all
      have HPS0 : Hid (Pst n (fun i => ht.getD i 0) (AdE Ep) (thrF ht M n 0) (fun _ => 0) (fun _ => 0) (fun _ => none) []) := pst_init (fun x hx => by
        have h1 := thr_iff HM.out HMS.out HHN.out HBD.out (Nat.zero_le n) hx
        rw [List.take_zero] at h1
        by_cases h2 : ht.getD x 0 < thrF ht M n 0
        · exact absurd (h1.1 h2) (by simp)
        · show thrF ht M n 0 ≤ ht.getD x 0
          omega) HG.out.lt
      clear hk hbw k0 k2 k3 f0 f1 f2 f3
      go_wp2_with fail
      clear k1
      go_loopw [11, 51] (fun s i wx => ∃ (t : Nat) (o hd : Nat → Nat) (par : Nat → Option Nat) (rb : Nat → Bool) (bars : List (Nat × Nat)), t ≤ n ∧ i = .int .i64 (t : Int) ∧ MS B0 w0 wx V ht n par o hd rb bars s ∧ Pst n (fun i => ht.getD i 0) (AdE Ep) (thrF ht M n t) o hd par bars ∧ ∀ x, x < n → (rb x = true ↔ ht.getD x 0 < thrF ht M n t)) (fun _ i _ => n - (intOf i).toNat)
      case atStart => exact ⟨0, _, _, _, _, _, Nat.zero_le _, rfl, HMS0.out, HPS0.out, fun x hx => ⟨(fun h => by cases h), fun h => by
        have h1 := (thr_iff HM.out HMS.out HHN.out HBD.out (Nat.zero_le n) hx).1 h
        simp at h1⟩⟩
      case round =>
        obtain ⟨t, o, hd, par, rb, bars, htn, rfl, hms, hps, hrb⟩ := hrel
        have HMS1 := Lib.hid hms
        have HPS1 := Lib.hid hps
        have HRB := Lib.hid hrb
        obtain ⟨hk, hbw⟩ := HKX.out wr hms.b
        by_cases htl : t < n
        · obtain ⟨k0, k1, k2, k3, f0, f1, f2, f3⟩ := hk.all
          obtain ⟨p, c, e1, -, -, e4⟩ := HOX.out wr hbw
          obtain ⟨b, off, e5, e6⟩ := e4 t (by rw [natV_len, HML.out]; exact htl)
          rw [natV_len, HML.out] at e1
          obtain ⟨rfl, rfl⟩ : po = p ∧ co = c := by cases e1; exact ⟨rfl, rfl⟩
          subst e5
          rw [natV_get (by rw [HML.out]; exact htl)] at e6
          have hm : M.getD t 0 < n := List.mem_range.1 (HM.out.mem_iff.1 (by rw [getM (by rw [HML.out]; exact htl)]; exact List.getElem_mem _))
          have hthr : thrF ht M n t = ht.getD (M.getD t 0) 0 := by unfold thrF; rw [if_pos htl]
          have hnx := fun x (hx : x < n) => thr_next HM.out HMS.out HHN.out HBD.out htl hx
          obtain ⟨v, hv2⟩ : ∃ v, M.getD t 0 = v := ⟨_, rfl⟩
          rw [hv2] at e6 hm hthr hnx
          rw [hthr] at hps hrb
          obtain ⟨c2, c3, c4, -, g2, g3, g4, -⟩ := hms.cells hm
          have hms2 := ((hms.setO v v).setH v v).setB v true
          have hmst := pst_new HG.out hps hm
          have HMS2 := Lib.hid hms2
          have HMST := Lib.hid hmst
          have HNX := Lib.hid hnx
          have HV := Lib.hid hm
          have HRB2 : Hid (∀ x, x < n → (updB rb v true x = true ↔ ht.getD x 0 ≤ ht.getD v 0)) := fun x hx => by
            unfold updB
            by_cases e : x = v
            · rw [if_pos e, e]; exact ⟨fun _ => Int.le_refl _, fun _ => rfl⟩
            · rw [if_neg e, hrb x hx]
              have : ht.getD x 0 ≠ ht.getD v 0 := fun h => e (HG.out.inj x v hx hm h)
              constructor <;> intro h <;> omega
          obtain ⟨w3, hw3⟩ : ∃ w3, ((wr.setCell ⟨B0 + 1, v, none⟩ (.int .i64 (v : Int))).setCell ⟨B0 + 2, v, none⟩ (.int .i64 (v : Int))).setCell ⟨B0 + 3, v, none⟩ (.bool true) = w3 := ⟨_, rfl⟩
          rw [hw3] at hms2 HMS2
          obtain ⟨hk3, hbw3⟩ := HKX.out w3 hms2.b
          obtain ⟨-, -, -, q3, -⟩ := hk3.all
          have HW3 := Lib.hid hw3
          have hn1 := HN.out
          clear hms hps hrb hk hbw e1 e4 hthr hnx hv2 hms2 hmst hk3 hbw3 k0 k2 k3 f0 f1 f2 f3 hw3
          go_upto_region 15 with fail
          rw [HW3.out]
          go_wp2_with fail
          clear q3
          go_loopw [11, 69] (fun s i wx => ∃ (q : Nat) (o hd : Nat → Nat) (par : Nat → Option Nat) (bars : List (Nat × Nat)), q ≤ ne ∧ i = .int .i64 (q : Int) ∧ MS B0 w0 wx V ht n par o hd (updB rb v true) bars s ∧ Mst n (fun i => ht.getD i 0) (AdE Ep) v (DqF ht Ep v q) o hd par bars) (fun _ i _ => ne - (intOf i).toNat)
          case atStart => exact ⟨0, _, _, _, _, Nat.zero_le _, rfl, HMS2.out, by rw [dq_0]; exact HMST.out⟩
          case round =>
            obtain ⟨q, o, hd, par, bars, hqn, rfl, hms, hmst⟩ := hrel
            have HMS3 := Lib.hid hms
            have HMT3 := Lib.hid hmst
            obtain ⟨hk, hbw⟩ := HKX.out wr hms.b
            have hne1 := HNE.out
            by_cases hql : q < ne
            · obtain ⟨k0, k1, k2, k3, f0, f1, f2, f3⟩ := hk.all
              obtain ⟨p, c, e1, -, -, e4⟩ := HEX.out wr hbw
              have hcl : (castP Ep).length = ne := by unfold castP; rw [List.length_map, HEN.out]
              obtain ⟨b, off, e5, e6, e7⟩ := e4 q (by rw [hcl]; exact hql)
              rw [hcl] at e1
              obtain ⟨rfl, rfl⟩ : pe = p ∧ ce = c := by cases e1; exact ⟨rfl, rfl⟩
              subst e5
              have hcg : (castP Ep).getD q (0, 0) = (((Ep.getD q (0, 0)).1 : Int), ((Ep.getD q (0, 0)).2 : Int)) := by
                unfold castP
                rw [List.getD_eq_getElem?_getD, List.getElem?_map, List.getD_eq_getElem?_getD, List.getElem?_eq_getElem (by rw [HEN.out]; exact hql)]; rfl
              rw [hcg] at e6 e7
              have hmem : Ep.getD q (0, 0) ∈ Ep := by rw [List.getD_eq_getElem?_getD, List.getElem?_eq_getElem (by rw [HEN.out]; exact hql)]; exact List.getElem_mem _
              obtain ⟨⟨a, d⟩, hed⟩ : ∃ z, Ep.getD q (0, 0) = z := ⟨_, rfl⟩
              rw [hed] at e6 e7 hmem
              have had := HG.out.lt a d (Or.inl hmem)
              have HED := Lib.hid hed
              have HMEM := Lib.hid hmem
              have HAD := Lib.hid had
              have HK := Lib.hid hk
              clear hms hmst hk hbw e1 e4 hcl hcg hed hmem k0 k1 k2 f0 f1 f2 f3
              have hx4 := heap_alloc_new wr (.cells #[.int .i64 (a : Int), .int .i64 (d : Int)] 115)
              have hb4 : Below wr.heap.size wr (wr.alloc (.cells #[.int .i64 (a : Int), .int .i64 (d : Int)] 115)) := (Below.refl _ _).alloc (Nat.le_refl _) _
              obtain ⟨w4, hw4⟩ : ∃ x, wr.alloc (.cells #[.int .i64 (a : Int), .int .i64 (d : Int)] 115) = x := ⟨_, rfl⟩
              rw [hw4] at hx4 hb4
              have HMS4 := Lib.hid (HMS3.out.kept hb4)
              have y0 : w4.cell? ⟨wr.heap.size, 0, none⟩ = some (.int .i64 (a : Int)) := by rw [cell_of_row _ _ _ _ _ _ hx4]; rfl
              have y1 : w4.cell? ⟨wr.heap.size, 1, none⟩ = some (.int .i64 (d : Int)) := by rw [cell_of_row _ _ _ _ _ _ hx4]; rfl
              have HW4 := Lib.hid hw4
              clear hx4 hb4 hw4
              go_upto_region 18 with fail
              rw [HW4.out]
              clear k3 e6 e7
              obtain ⟨hk4, hbw4⟩ := HKX.out w4 HMS4.out.b
              obtain ⟨k0, -, -, k3, -⟩ := hk4.all
              clear hk4 hbw4
              go_cut [82] (fun s wx => ∃ b : Bool, s = .bool b ∧ (b = true ↔ (a ≠ v ∧ d ≠ v)) ∧ wx = w4)
              case first =>
                by_cases h1 : a = v
                · have q1 : (a : Int) = (v : Int) := by omega
                  have H1 := Lib.hid h1
                  clear h1
                  go_wp2_with fail
                  go_meet
                  exact ⟨_, rfl, by have := H1.out; simp [this], rfl⟩
                · have q1 : ¬ (a : Int) = (v : Int) := by omega
                  have H1 := Lib.hid h1
                  by_cases h2 : d = v
                  · have q2 : (d : Int) = (v : Int) := by omega
                    have H2 := Lib.hid h2
                    clear h1 h2
                    go_wp2_with fail
                    go_meet
                    exact ⟨_, rfl, by have := H1.out; have := H2.out; simp [*], rfl⟩
                  · have q2 : ¬ (d : Int) = (v : Int) := by omega
                    have H2 := Lib.hid h2
                    clear h1 h2
                    go_wp2_with fail
                    go_meet
                    exact ⟨_, rfl, by have := H1.out; have := H2.out; simp [*], rfl⟩
              case rest =>
              obtain ⟨b82, rfl, hb82, rfl⟩ := hcut
              have HB82 := Lib.hid hb82
              clear hb82
              cases b82 with
              | true =>
                go_wp2_with fail
                go_roundw
                case rel =>
                  obtain ⟨hav, hdv⟩ := HB82.out.1 rfl
                  refine ⟨q + 1, _, _, _, _, hql, by go_num, HMS4.out, ?_⟩
                  rw [dq_same (by rw [HEN.out]; exact hql) (fun u hu => by rw [HED.out] at hu; rcases hu with h | h <;> cases h <;> first | exact absurd rfl hdv | exact absurd rfl hav)]
                  exact HMT3.out
                case measure => simp [intOf]; omega
              | false =>
                obtain ⟨u, hwu, hun, hEu⟩ : ∃ u : Nat, (a : Int) + (d : Int) - (v : Int) = (u : Int) ∧ u < n ∧ ((a, d) = (u, v) ∨ (a, d) = (v, u)) := by
                  by_cases h1 : a = v
                  · exact ⟨d, by omega, HAD.out.2, Or.inr (by rw [h1])⟩
                  · by_cases h2 : d = v
                    · exact ⟨a, by omega, HAD.out.1, Or.inl (by rw [h2])⟩
                    · exact absurd (HB82.out.2 ⟨h1, h2⟩) (by simp)
                have hAuv : AdE Ep u v := by
                  have h := HMEM.out
                  rcases hEu with e | e <;> rw [e] at h
                  · exact Or.inl h
                  · exact Or.inr h
                have HEU : Hid (Ep.getD q (0, 0) = (u, v) ∨ Ep.getD q (0, 0) = (v, u)) := by unfold Hid; rw [HED.out]; exact hEu
                have HAUV := Lib.hid hAuv
                have hvn := HV.out
                have m1 : IntKind.i64.wrap ((a : Int) + (d : Int)) = (a : Int) + (d : Int) := IntWalk.i64_in _ (by have := HAD.out; omega)
                have m2 : IntKind.i64.wrap ((a : Int) + (d : Int) - (v : Int)) = (u : Int) := by rw [hwu]; exact IntWalk.i64_in _ (by omega)
                obtain ⟨o1, -, r1, -⟩ := HMS4.out.cells hun
                obtain ⟨o2, -, -, -⟩ := HMS4.out.cells hvn
                clear hEu hAuv hwu
                go_upto_region 20 with fail
                clear m1 m2 y0 y1
                cases hru : updB rb v true u with
                | false =>
                  rw [hru] at r1
                  have HRU := Lib.hid hru
                  clear hru
                  go_quiet (fail)
                  have hb5 := Below.drewN wc nq
                  obtain ⟨w5, hw5⟩ : ∃ x, wc.drewN nq = x := ⟨_, rfl⟩
                  rw [hw5] at hb5 ⊢
                  have HMS5 := Lib.hid (HMS4.out.kept hb5)
                  clear hb5 hw5 o1 o2 r1 k0 k3
                  go_wp2_with fail
                  go_roundw
                  case rel =>
                    refine ⟨q + 1, _, _, _, _, hql, by go_num, HMS5.out, ?_⟩
                    have hnr : ¬ ht.getD u 0 ≤ ht.getD v 0 := fun h => by
                      have := (HRB2.out u hun).2 h
                      rw [HRU.out] at this; cases this
                    rw [dq_same (by rw [HEN.out]; exact hql) (fun z hz => by
                      rcases HEU.out with e | e <;> rw [e] at hz <;> rcases hz with h | h <;> cases h <;> omega)]
                    exact HMT3.out
                  case measure => simp [intOf]; omega
                | true =>
                  rw [hru] at r1
                  have hlt : ht.getD u 0 < ht.getD v 0 := by
                    have h1 := (HRB2.out u hun).1 hru
                    have h2 : ht.getD u 0 ≠ ht.getD v 0 := fun h => by
                      have e := HG.out.inj u v hun hvn h
                      have h3 := HAUV.out
                      rw [e] at h3
                      exact HG.out.irr v h3
                    omega
                  have HLT := Lib.hid hlt
                  clear hru hlt
                  have HMORE : Hid (DqF ht Ep v (q + 1) = fun z => DqF ht Ep v q z ∨ z = u) := dq_more (by rw [HEN.out]; exact hql) HEU.out HLT.out
                  by_cases hou : o u = o v
                  · have q1 : (((o u : Nat) : Int) == ((o v : Nat) : Int)) = true := beq_iff_eq.2 (by omega)
                    have HOU := Lib.hid hou
                    clear hou
                    go_quiet (fail)
                    have hb5 := Below.drewN wc nq
                    obtain ⟨w5, hw5⟩ : ∃ x, wc.drewN nq = x := ⟨_, rfl⟩
                    rw [hw5] at hb5 ⊢
                    have HMS5 := Lib.hid (HMS4.out.kept hb5)
                    clear hb5 hw5 o1 o2 r1 k0 k3
                    go_wp2_with fail
                    go_roundw
                    case rel =>
                      refine ⟨q + 1, _, _, _, _, hql, by go_num, HMS5.out, ?_⟩
                      rw [HMORE.out]
                      exact mst_skip HG.out HMT3.out HAUV.out HLT.out HOU.out
                    case measure => simp [intOf]; omega
                  · have q1 : (((o u : Nat) : Int) == ((o v : Nat) : Int)) = false := beq_eq_false_iff_ne.2 (by omega)
                    have HOU := Lib.hid hou
                    clear hou
                    go_quiet (fail)
                    have hb5 := Below.drewN wc nq
                    obtain ⟨w5, hw5⟩ : ∃ x, wc.drewN nq = x := ⟨_, rfl⟩
                    rw [hw5] at hb5 ⊢
                    have HMS5 := Lib.hid (HMS4.out.kept hb5)
                    clear hb5 hw5 o1 o2 r1 k0 k3 q1
                    have inj : ∀ x y, (x < n ∧ ht.getD x 0 ≤ ht.getD v 0) → (y < n ∧ ht.getD y 0 ≤ ht.getD v 0) → ht.getD x 0 = ht.getD y 0 → x = y := fun x y a b => HG.out.inj x y a.1 b.1
                    have hRu : u < n ∧ ht.getD u 0 ≤ ht.getD v 0 := ⟨hun, by have := HLT.out; omega⟩
                    have hRv : v < n ∧ ht.getD v 0 ≤ ht.getD v 0 := ⟨hvn, Int.le_refl _⟩
                    have hou : o u < n := (HMT3.out.uf.rin hRu).1
                    have hov : o v < n := (HMT3.out.uf.rin hRv).1
                    have hhn : hd (o u) < n := (HMT3.out.uf.to (HMT3.out.uf.hr u hRu) hRu).1
                    clear inj hRu hRv
                    obtain ⟨o1, -, -, -⟩ := HMS5.out.cells hun
                    obtain ⟨o2, -, -, -⟩ := HMS5.out.cells hvn
                    go_upto_region 21 with fail
                    go_quiet (fail)
                    have hb6 := Below.drewN w5 nq
                    obtain ⟨w6, hw6⟩ : ∃ x, w5.drewN nq = x := ⟨_, rfl⟩
                    rw [hw6] at hb6 ⊢
                    have HMS6 := Lib.hid (HMS5.out.kept hb6)
                    clear hb6 hw6 o1 o2
                    obtain ⟨-, o1, -, -⟩ := HMS6.out.cells hou
                    obtain ⟨-, -, -, n1, -, -, -, nf⟩ := HMS6.out.cells hhn
                    obtain ⟨hk6, hbw6⟩ := HKX.out w6 HMS6.out.b
                    obtain ⟨k0, -, -, -, -⟩ := hk6.all
                    obtain ⟨pv', cv', ev, -, -, e4⟩ := HVX.out w6 hbw6
                    obtain ⟨bv, offv, e5, e6⟩ := e4 v (by rw [HVN.out]; exact hvn)
                    rw [HVN.out] at ev
                    obtain ⟨rfl, rfl⟩ : pV = pv' ∧ cV = cv' := by cases ev; exact ⟨rfl, rfl⟩
                    subst e5
                    obtain ⟨z, hz⟩ : ∃ z, V.getD v 0 = z := ⟨_, rfl⟩
                    rw [hz] at e6
                    have HZ := Lib.hid hz
                    clear ev e4 hz hk6 hbw6
                    go_upto_region 22 with fail
                    go_cut [] (fun wx => MS B0 w0 wx V ht n (updO par (hd (o u)) (some v)) o hd (updB rb v true) bars u11)
                    case first =>
                      go_region_with (fail)
                      all_goals
                        go_wp2
                        go_meet
                        rw [← HZ.out]
                        first | exact (HMS6.out.setP _ _).drew | exact HMS6.out.setP _ _ | trace_state
                    case rest =>
                    have HMS7 := Lib.hid hcut
                    clear hcut o1 n1 nf k0 e6
                    obtain ⟨hk7, hbw7⟩ := HKX.out wc HMS7.out.b
                    obtain ⟨ph', ch', eh, -, -, e4⟩ := HHX.out wc hbw7
                    obtain ⟨bh, offh, e5, e6⟩ := e4 (o u) (by rw [HHN.out]; exact hou)
                    rw [HHN.out] at eh
                    obtain ⟨rfl, rfl⟩ : ph = ph' ∧ ch = ch' := by cases eh; exact ⟨rfl, rfl⟩
                    subst e5
                    obtain ⟨bh', offh', e7, e8⟩ := e4 (o v) (by rw [HHN.out]; exact hov)
                    cases e7
                    obtain ⟨xu, hxu⟩ : ∃ z, ht.getD (o u) 0 = z := ⟨_, rfl⟩
                    obtain ⟨xv, hxv⟩ : ∃ z, ht.getD (o v) 0 = z := ⟨_, rfl⟩
                    rw [hxu] at e6
                    rw [hxv] at e8
                    have HXU := Lib.hid hxu
                    have HXV := Lib.hid hxv
                    clear eh e4 hk7 hbw7 hxu hxv
                    go_upto_region 23 with fail
                    go_quiet (fail)
                    have hb8 := Below.drewN wc nq
                    obtain ⟨w8, hw8⟩ : ∃ x, wc.drewN nq = x := ⟨_, rfl⟩
                    rw [hw8] at hb8 ⊢
                    have HMS8 := Lib.hid (HMS7.out.kept hb8)
                    clear hb8 hw8 e6 e8
                    go_upto_if 134 with fail
                    go_cut [17, 18] (fun s17 s18 wx => ∃ lo hi : Nat, s17 = .int .i64 (lo : Int) ∧ s18 = .int .i64 (hi : Int) ∧ ((lo = o u ∧ hi = o v) ∨ (lo = o v ∧ hi = o u)) ∧ ht.getD lo 0 ≤ ht.getD hi 0 ∧ wx = w8)
                    case first =>
                      by_cases h1 : xv < xu
                      · have q1 : decide (xu > xv) = true := decide_eq_true h1
                        have q2 : decide (xv < xu) = true := decide_eq_true h1
                        go_wp2_with fail
                        go_meet
                        exact ⟨_, _, rfl, rfl, Or.inr ⟨rfl, rfl⟩, by rw [HXU.out, HXV.out]; exact Int.le_of_lt h1, rfl⟩
                      · have q1 : decide (xu > xv) = false := decide_eq_false h1
                        have q2 : decide (xv < xu) = false := decide_eq_false h1
                        go_wp2_with fail
                        go_meet
                        exact ⟨_, _, rfl, rfl, Or.inl ⟨rfl, rfl⟩, by rw [HXU.out, HXV.out]; omega, rfl⟩
                    case rest =>
                    obtain ⟨lo, hi, rfl, rfl, hab, hle, hw⟩ := hcut
                    rw [← hw] at HMS8
                    clear hw
                    have hlo : lo < n := by rcases hab with ⟨rfl, -⟩ | ⟨rfl, -⟩ <;> assumption
                    have hhi : hi < n := by rcases hab with ⟨-, rfl⟩ | ⟨-, rfl⟩ <;> assumption
                    have HABX := Lib.hid hab
                    have HLE := Lib.hid hle
                    clear hab hle hou hov
                    obtain ⟨ps, cs, hsl⟩ := HMS8.out.sl
                    subst hsl
                    have hbl : bars.length ≤ n := bars_len HG.out (fun r k h => ((HMT3.out.bar r k).1 h).1) HMT3.out.nod
                    go_upto_if 139 with fail
                    go_cut [11] (fun s wx => MS B0 w0 wx V ht n (updO par (hd (o u)) (some v)) o hd (updB rb v true) (if hi = v then bars else bars ++ [(hi, v)]) s)
                    case first =>
                      by_cases h1 : hi = v
                      · have q1 : ((hi : Int) = (v : Int)) := by omega
                        have H1 := Lib.hid h1
                        clear h1
                        go_wp2_with fail
                        go_meet
                        rw [if_pos H1.out]
                        exact HMS8.out
                      · have q1 : ¬ ((hi : Int) = (v : Int)) := by omega
                        have H1 := Lib.hid h1
                        clear h1
                        obtain ⟨hk8, hbw8⟩ := HKX.out wc HMS8.out.b
                        obtain ⟨ph', ch', eh, -, -, e4⟩ := HHX.out wc hbw8
                        obtain ⟨bh3, offh3, e5, e6⟩ := e4 hi (by rw [HHN.out]; exact hhi)
                        rw [HHN.out] at eh
                        cases eh
                        cases e5
                        obtain ⟨bh', offh', e7, e8⟩ := e4 v (by rw [HHN.out]; exact hvn)
                        cases e7
                        obtain ⟨zh, hzh⟩ : ∃ z, ht.getD hi 0 = z := ⟨_, rfl⟩
                        obtain ⟨zv, hzv⟩ : ∃ z, ht.getD v 0 = z := ⟨_, rfl⟩
                        rw [hzh] at e6
                        rw [hzv] at e8
                        have HZH := Lib.hid hzh
                        have HZV := Lib.hid hzv
                        clear e4 hk8 hbw8 hzh hzv
                        have HSX : Hid (∀ wy, Below B0 w0 wy → wy.cell? ⟨bh, offh + hi, none⟩ = some (.int .i64 zh) ∧ wy.cell? ⟨bh, offh + v, none⟩ = some (.int .i64 zv)) := fun wy hy => by
                          obtain ⟨-, hbw9⟩ := HKX.out wy hy
                          obtain ⟨p9, c9, eh9, -, -, e49⟩ := HHX.out wy hbw9
                          obtain ⟨b9, off9, e59, e69⟩ := e49 hi (by rw [HHN.out]; exact hhi)
                          rw [HHN.out] at eh9
                          cases eh9
                          cases e59
                          obtain ⟨b10, off10, e79, e89⟩ := e49 v (by rw [HHN.out]; exact hvn)
                          cases e79
                          rw [HZH.out] at e69
                          rw [HZV.out] at e89
                          exact ⟨e69, e89⟩
                        have HMSD := Lib.hid HMS8.out.drew
                        have hsd : B0 + 4 ≤ wc.drew.heap.size := by have := (Array.getElem?_eq_some_iff.1 HMSD.out.c4).1; omega
                        have hsd2 : B0 + 4 ≤ wc.heap.size := by have := (Array.getElem?_eq_some_iff.1 HMS8.out.c4).1; omega
                        have hs0 := HSX.out _ HMSD.out.b
                        have hs1 := HSX.out _ (HMSD.out.b.alloc (by omega) (.cells #[.int .i64 0, .int .i64 zh, .int .i64 zv] 48))
                        go_upto_region 26 with fail
                        go_region_held3 (fun wy => wy.cell? ⟨bh, offh + hi, none⟩ = some (.int .i64 zh) ∧ wy.cell? ⟨bh, offh + v, none⟩ = some (.int .i64 zv)) (first | assumption)
                          (first
                            | (refine step_append_lies _ (by rfl) (.tmp 140) (.tmp 150) 37 (by rfl) (B0 + 4) 48 iB (.agg #[.int .i64 0, .int .i64 0, .int .i64 0]) 3 24 under_barsR hiB hyB0 hyB1 hyB2 rfl (by decide) _ bars.length (barVs (bars.map (barI ht))) (by rfl) (HMSD.out.c5.alloc _) ⟨wc.drew.heap.size, 0, none⟩ 1 1 [.int .i64 0, .int .i64 zh, .int .i64 zv] (by rfl) (by rfl) (World.news_of_block (cs := #[.int .i64 0, .int .i64 zh, .int .i64 zv]) (t := 48) (fr := (0, 0)) (heap_alloc_new wc.drew _)) (by simp [Value.oneCell']) (by decide) (by unfold maxLen; omega) (by omega) (by first | (simp; omega) | exact Nat.le_trans hsd (by simp)) (wc.drew.heap.size + 1) (by simp) ?_; intro g2 c2 w9 hown2 hgr2 hat2 hlt2; rw [← HZH.out, ← HZV.out] at hown2; have HMS9 := Lib.hid (HMSD.out.app (p := (hi, v)) hgr2 hown2); have hs9 := HSX.out _ HMS9.out.b; clear hown2 hgr2 hat2 hlt2))
                        all_goals
                          go_wp2
                          go_meet
                          rw [if_neg H1.out]
                          first | exact HMS9.out | exact HMS9.out.drew
                    case rest =>
                    have HMS9 := Lib.hid hcut
                    obtain ⟨bars', hbars'⟩ : ∃ x, (if hi = v then bars else bars ++ [(hi, v)]) = x := ⟨_, rfl⟩
                    rw [hbars'] at HMS9
                    have HBARS := Lib.hid hbars'
                    clear hcut hbars' hbl
                    go_wp2_with fail
                    go_loopw [154] (fun i wx => ∃ m : Nat, m ≤ n ∧ i = .int .i64 (m : Int) ∧ MS B0 w0 wx V ht n (updO par (hd (o u)) (some v)) (relO o (updB rb v true) lo hi m) hd (updB rb v true) bars' u11) (fun i _ => n - (intOf i).toNat)
                    case atStart => exact ⟨0, Nat.zero_le _, rfl, by rw [relO_0]; exact HMS9.out⟩
                    case round =>
                      obtain ⟨m, hmn, rfl, hms⟩ := hrel
                      have HMSA := Lib.hid hms
                      by_cases hml : m < n
                      · obtain ⟨c2, -, c4, -, g2, -⟩ := hms.cells hml
                        rw [relO_self] at c2
                        clear hms
                        cases hrm : updB rb v true m with
                        | false =>
                          rw [hrm] at c4
                          have HRM := Lib.hid hrm
                          clear hrm
                          go_wp2_with fail
                          go_roundw
                          case rel => exact ⟨m + 1, hml, by go_num, by rw [relO_skip (fun h => by rw [HRM.out] at h; cases h.1)]; exact HMSA.out⟩
                          case measure => simp [intOf]; omega
                        | true =>
                          rw [hrm] at c4
                          have HRM := Lib.hid hrm
                          clear hrm
                          by_cases hoh : o m = hi
                          · have q1 : (((o m : Nat) : Int) == (hi : Int)) = true := beq_iff_eq.2 (by omega)
                            have q2 : ((o m : Nat) : Int) = (hi : Int) := by omega
                            have HOH := Lib.hid hoh
                            clear hoh
                            go_wp2_with fail
                            go_roundw
                            case rel => exact ⟨m + 1, hml, by go_num, by rw [← relO_set HRM.out HOH.out]; exact HMSA.out.setO m lo⟩
                            case measure => simp [intOf]; omega
                          · have q1 : (((o m : Nat) : Int) == (hi : Int)) = false := beq_eq_false_iff_ne.2 (by omega)
                            have q2 : ¬ ((o m : Nat) : Int) = (hi : Int) := by omega
                            have HOH := Lib.hid hoh
                            clear hoh
                            go_wp2_with fail
                            go_roundw
                            case rel => exact ⟨m + 1, hml, by go_num, by rw [relO_skip (fun h => HOH.out h.2)]; exact HMSA.out⟩
                            case measure => simp [intOf]; omega
                      · obtain rfl : n = m := by omega
                        obtain ⟨-, c3, -, -, -, g3, -⟩ := hms.cells hlo
                        obtain ⟨-, c3', -, -, -, g3', -⟩ := hms.cells hhi
                        clear hms
                        have hlh : ¬ lo = hi := fun e => by
                          have h1 := HABX.out
                          have h2 := HOU.out
                          rcases h1 with ⟨a, b⟩ | ⟨a, b⟩ <;> omega
                        have hlh' : ¬ hi = lo := fun e => hlh e.symm
                        have HJ : Hid (Mst n (fun i => ht.getD i 0) (AdE Ep) v (DqF ht Ep v (q + 1)) (relO o (updB rb v true) lo hi n) (updN (updN hd lo v) hi v) (updO par (hd (o u)) (some v)) bars') := by
                          unfold Hid
                          rw [HMORE.out, ← HBARS.out]
                          refine mst_join HG.out HMT3.out HAUV.out HLT.out HOU.out HABX.out HLE.out fun x hx hxv => ?_
                          unfold relO
                          by_cases e : o x = hi
                          · rw [if_pos e, if_pos ⟨hx, (HRB2.out x hx).2 hxv, e⟩]
                          · rw [if_neg e, if_neg (fun h => e h.2.2)]
                        go_wp2_with fail
                        go_roundw
                        case rel => exact ⟨q + 1, _, _, _, _, hql, by go_num, (HMSA.out.setH lo v).setH hi v, HJ.out⟩
                        case measure => simp [intOf]; omega
            · obtain rfl : ne = q := by omega
              have hdone : Pst n (fun i => ht.getD i 0) (AdE Ep) (thrF ht M n (t + 1)) o hd par bars := by
                refine mst_done HG.out hmst (fun u a b => ?_) HNX.out
                have h := dq_full (ht := ht) (Ep := Ep) (v := v) u a b
                rwa [HEN.out] at h
              have HDONE := Lib.hid hdone
              have HMS4 := Lib.hid hms
              clear hdone hms hmst hk hbw
              go_wp2_with fail
              go_roundw
              case rel => exact ⟨t + 1, _, _, _, _, _, htl, by go_num, HMS4.out, HDONE.out, fun x hx => (HRB2.out x hx).trans (HNX.out x hx).symm⟩
              case measure => simp [intOf]; omega
        · obtain rfl : n = t := by omega
          have HME0 := Lib.hid hms.me
          have hbl : bars.length ≤ n := bars_len HG.out (fun r k h => ((hps.bar r k).1 h).1) hps.nod
          clear hps hrb hms hk hbw
          go_wp2_with fail
          go_loopw [11, 186] (fun s i wx => ∃ j : Nat, j ≤ n ∧ i = .int .i64 (j : Int) ∧ ME B0 w0 wx V n par o (allBars ht o bars j) s) (fun _ i _ => n - (intOf i).toNat)
          case atStart => exact ⟨0, Nat.zero_le _, rfl, HME0.out⟩
          case round =>
            obtain ⟨j, hjn, rfl, hme⟩ := hrel
            have HMEJ := Lib.hid hme
            have hal : (allBars ht o bars j).length ≤ n + n := by
              unfold allBars
              rw [List.length_append, List.length_map]
              have := rootsI_len o ht j
              omega
            by_cases hjl : j < n
            · have oc := hme.ocell hjl
              by_cases hoj : o j = j
              · rw [hoj] at oc
                have HOJ := Lib.hid hoj
                obtain ⟨hk9, hbw9⟩ := HKX.out wr hme.b
                obtain ⟨p9, c9, eh, -, -, e4⟩ := HHX.out wr hbw9
                obtain ⟨b9, off9, e5, e6⟩ := e4 j (by rw [HHN.out]; exact hjl)
                rw [HHN.out] at eh
                obtain ⟨rfl, rfl⟩ : ph = p9 ∧ ch = c9 := by cases eh; exact ⟨rfl, rfl⟩
                subst e5
                obtain ⟨zj, hzj⟩ : ∃ z, ht.getD j 0 = z := ⟨_, rfl⟩
                rw [hzj] at e6
                have HZJ := Lib.hid hzj
                obtain ⟨ps, cs, hsl⟩ := hme.sl
                subst hsl
                have hsd := hme.lt
                clear hme hk9 hbw9 eh e4 hzj hoj
                go_wp2_with (at_builtin; refine wpList_append_lies _ rfl (.tmp 195) (.tmp 201) 37 rfl (B0 + 4) 48 iB (.agg #[.int .i64 0, .int .i64 0, .int .i64 0]) 3 24 under_barsR hiB hyB0 hyB1 hyB2 rfl (by decide) _ (allBars ht o bars j).length (barVs (allBars ht o bars j)) rfl (HMEJ.out.c5.alloc _) ⟨wr.heap.size, 0, none⟩ 1 1 [.int .i64 0, .int .i64 zj, .int .i64 1048577] rfl rfl (World.news_of_block (cs := #[.int .i64 0, .int .i64 zj, .int .i64 1048577]) (t := 48) (fr := (0, 0)) (heap_alloc_new wr _)) (by simp [Value.oneCell']) (by decide) (by unfold maxLen; omega) (by omega) (by simp; omega) (wr.heap.size + 1) (by simp) ?_; intro g2 c2 w9 hown2 hgr2 hat2 hlt2; rw [← HZJ.out] at hown2; have HME9 := Lib.hid (HMEJ.out.app (p := (ht.getD j 0, 1048577)) hgr2 hown2); clear hown2 hgr2 hat2 hlt2)
                go_roundw
                case rel => exact ⟨j + 1, hjl, by go_num, by have h := HME9.out; unfold allBars at h ⊢; rw [rootsI_yes HOJ.out, ← List.append_assoc]; exact h⟩
                case measure => simp [intOf]; omega
              · have q1 : ¬ ((o j : Nat) : Int) = (j : Int) := by omega
                have HOJ := Lib.hid hoj
                clear hme hoj
                go_wp2_with fail
                go_roundw
                case rel => exact ⟨j + 1, hjl, by go_num, by unfold allBars; rw [rootsI_no HOJ.out]; exact HMEJ.out⟩
                case measure => simp [intOf]; omega
            · obtain rfl : n = j := by omega
              have HSORT := Lib.hid (merge_sort hme (by omega) (births_in HG.out HPS1.out HHN.out HBD.out) (births_ne HG.out HPS1.out))
              clear hme
              go_wp2_with (go_at_call 72; with_reducible refine HSORT.out.mono ?_; rintro e wz ⟨rfl, B', hp1, hp2, hme'⟩; have HP1 := Lib.hid hp1; have HP2 := Lib.hid hp2; have HMEZ := Lib.hid hme'; clear hp1 hp2 hme')
              go_ret2
              have hn2 := HN.out
              exact ⟨B0, _, o, hd, par, bars, B', thrF ht M n n, rfl, by have h1 := HKB.out; have h2 := HS0.out; omega, (HKX.out _ HMEZ.out.b).2, HMEZ.out.c1, fun x hx => (thr_iff HM.out HMS.out HHN.out HBD.out (Nat.le_refl n) hx).2 (by rw [List.take_of_length_le (by rw [HML.out]; exact Nat.le_refl _)]; exact HM.out.mem_iff.2 (List.mem_range.2 hx)), HPS1.out, HP1.out, HP2.out, HMEZ.out.c5⟩
end Go.Proofs.YtddnjimpdidpaaaGreatDoor
