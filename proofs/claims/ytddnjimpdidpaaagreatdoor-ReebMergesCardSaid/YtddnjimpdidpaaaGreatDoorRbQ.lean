/-
  reeb.of by a contract: the walk.
-/
import Derived.Test.YtddnjimpdidpaaaGreatDoorRbP
set_option linter.unusedSimpArgs false
set_option linter.unusedVariables false
namespace Go.Proofs.YtddnjimpdidpaaaGreatDoor
open Go Go.RowKit Go.Maps

theorem info_two : (Tryz.prog.info? 115).map (fun i => (i.zero, i.size, i.bytes)) = some (some (.agg #[.int .i64 0, .int .i64 0]), 2, 16) := by kernel_rfl
theorem under_twos : Tryz.prog.underlying 73 = some (.slice 115) := by kernel_rfl
def pairVs (l : List (Int × Int)) : List Value := l.flatMap fun p => [.int .i64 p.1, .int .i64 p.2]
theorem pairVs_snoc (l : List (Int × Int)) (p : Int × Int) : pairVs (l ++ [p]) = pairVs l ++ [.int .i64 p.1, .int .i64 p.2] := by unfold pairVs; rw [List.flatMap_append]; rfl
theorem pairVs_len (l : List (Int × Int)) : (pairVs l).length = l.length * 2 := by
  induction l with
  | nil => rfl
  | cons p l ih => unfold pairVs at *; rw [List.flatMap_cons, List.length_append, ih, List.length_cons]; simp; omega
theorem pairVs_get : ∀ (l : List (Int × Int)) (i : Nat), i < l.length → (pairVs l)[i * 2]? = some (.int .i64 (l.getD i (0, 0)).1) ∧ (pairVs l)[i * 2 + 1]? = some (.int .i64 (l.getD i (0, 0)).2)
  | [], i, h => absurd h (by simp)
  | p :: l, 0, _ => ⟨rfl, rfl⟩
  | p :: l, i + 1, h => by
    have ih := pairVs_get l i (by simpa using h)
    have e : pairVs (p :: l) = .int .i64 p.1 :: .int .i64 p.2 :: pairVs l := rfl
    rw [e, show (i + 1) * 2 = i * 2 + 1 + 1 by omega]
    simpa using ih
theorem pairs_owned {w : World} {O n : Nat} {v : Value} {l : List (Int × Int)} {t : TypeId} (h : w.ownsRow O t 2 v n (pairVs l)) (hn : n = l.length) : PairsAt w v l := by
  subst hn
  rcases Joins.ownsRow_forms h with ⟨rfl, h0⟩ | ⟨g, cap, rfl⟩
  · obtain rfl : l = [] := List.length_eq_zero_iff.1 h0
    exact PairsAt.nil w
  · rcases h.2 with ⟨he, _⟩ | ⟨g', cap', cur, he, _, hgg, hle, _, hcs, _⟩
    · cases he
    · cases he
      refine ⟨_, cap, rfl, hle, (fun e => by cases e), fun i hi => ⟨g, 0, rfl, ?_, ?_⟩⟩
      · rw [Nat.zero_add, h.cellAt (i * 2) (by omega)]; exact (pairVs_get l i hi).1
      · rw [Nat.zero_add, h.cellAt (i * 2 + 1) (by omega)]; exact (pairVs_get l i hi).2
theorem alloc_old (w : World) (o : Obj) (k : Nat) (hk : k < w.heap.size) : (w.alloc o).heap[k]? = w.heap[k]? := ((Below.refl w.heap.size w).alloc (Nat.le_refl _) o).block k hk
theorem hill_app {wr w9 : World} {k O : Nat} {a b c d s : Value} {e : TypeId} {sz n : Nat} {xs : List Value} {o : Obj} (hk : HillB wr k a b c d) (hO : wr.ownsRow O e sz s n xs) (hkO : k < O) (hg : (wr.alloc o).grownBy w9 s.ownBlock) : HillB w9 k a b c d :=
  (hk.kept (alloc_old _ _ _ hk.lt)).kept (hg.block k (by have := hk.lt; simp; omega) (fun e => by have := (hO.lt k e.symm).1; omega))
theorem natV_snoc (j : Nat) : natV (List.range (j + 1)) = natV (List.range j) ++ [(j : Int)] := by unfold natV; rw [List.range_succ, List.map_append]; rfl
/-- edges by numbers of vertices -/
def edgP (V : List Int) (E : List (List Int)) : List (Int × Int) := E.map fun e => ((V.idxOf (e.getD 0 0) : Int), (V.idxOf (e.getD 1 0) : Int))
theorem natV_len (M : List Nat) : (natV M).length = M.length := List.length_map ..
theorem natV_get {M : List Nat} {i : Nat} (h : i < M.length) : (natV M).getD i 0 = ((M.getD i 0 : Nat) : Int) := by
  unfold natV
  rw [List.getD_eq_getElem?_getD, List.getD_eq_getElem?_getD, List.getElem?_map, List.getElem?_eq_getElem h]; rfl
theorem make_intsR (N : Nat) (hN : N ≤ 400000) (w : World) : Sem.run Tryz.prog (Instr.makeSlice 23 (.int .i64 (N : Int)) (.int .i64 (N : Int))) w = .ok (.slice (some ⟨w.heap.size, 0, none⟩) N N) (w.alloc (.cells (Array.replicate N (.int .i64 0)) 3)) := by
  obtain ⟨i3, hi3, hy0, hy1, hy2⟩ := info_parts Tryz.info3
  have h := run_make (P := Tryz.prog) w 23 3 i3 (.int .i64 0) Tryz.underlying23 hi3 hy0 .i64 .i64 (N : Int) (N : Int) (by omega) (by omega) (by rw [hy2]; omega) (by omega)
  rw [Int.toNat_natCast, hy1, Nat.mul_one] at h
  have e2 : madeCells (Value.int .i64 0).cells N = Array.replicate N (.int .i64 0) := by
    apply Array.ext
    · simp [madeCells]
    · intro i h1 h2; simp [madeCells, Value.cells, Nat.mod_one]
  rw [e2] at h
  exact h
/-- the order is sorted, of any number -/
theorem sortP_any (O n b : Nat) (h : List Int) (s v : Value) (w : World) (hn : n ≤ 100000) (hhl : h.length = n) (hbd : ∀ x ∈ h, -1048576 ≤ x ∧ x ≤ 1048576) (hnd : h.Nodup) (hc : w.cell? ⟨b, 0, none⟩ = some v) (hv : IntsAt w v h) (hbO : b < O) (hvO : 0 < n → ∀ q, v.ownBlock = some q → q < O)
    (hown : w.ownsRow O 3 1 s n (intVs (natV (List.range n)))) :
    Calls Tryz.prog 74 #[s, .func (.func 75) #[] #[.pointer (some ⟨b, 0, none⟩)]] w (fun e w' => e = .returned (.tuple #[]) ∧ ∃ M : List Nat, M.Perm (List.range n) ∧ M.Pairwise (fun i j => h.getD i 0 < h.getD j 0) ∧ w'.ownsRow O 3 1 s n (intVs (natV M)) ∧ w.grownBy w' s.ownBlock) := by
  rcases Nat.eq_zero_or_pos n with h0 | h0
  · subst h0
    obtain ⟨p, c, rfl⟩ : ∃ p c, s = .slice p 0 c := by
      rcases Joins.ownsRow_forms hown with ⟨e, -⟩ | ⟨g, cap, e⟩
      · exact ⟨none, 0, e⟩
      · exact ⟨_, cap, e⟩
    refine (Tryz.slices_SortFunc_none_f74 (α := Nat) p c _ w).mono fun e w' ⟨he, hw⟩ => ⟨he, [], List.Perm.refl _, List.Pairwise.nil, by rw [hw]; exact hown, by rw [hw]; exact World.grownBy.refl _ _⟩
  · obtain ⟨g, cap, rfl⟩ := Joins.ownsRow_form hown h0
    have hg := (hown.lt g rfl).1
    exact (sortO_any O g n cap b h v w h0 hn hhl hbd hnd hc hv (by omega) (fun q e => by have := hvO h0 q e; omega) hown).mono fun e w' ⟨he, hgr, M, h1, h2, h3⟩ => ⟨he, M, h1, h2, h3, hgr⟩
theorem bs_any (V : List Int) (n : Nat) (p : Option Addr) (c : Nat) (y : Int) (w : World) (hV : IntsAt w (.slice p n c) V) (hn : V.length = n) (hr : Rise V) (hy : y ∈ V) (hb : n ≤ 100000) :
    Calls Tryz.prog 52 #[.slice p n c, .int .i64 y] w fun e w' => e = .returned (.tuple #[.int .i64 (V.idxOf y : Int), .bool true]) ∧ ∃ q, w' = w.drewN q := by
  obtain ⟨k, hk, hkv⟩ := List.getElem_of_mem hy
  rw [← getD_elem hk] at hkv
  obtain ⟨p', c', e1, -, -, hx⟩ := id hV
  obtain ⟨bv, ov, e2, -⟩ := hx k hk
  rw [hn] at e1
  obtain ⟨rfl, rfl⟩ : p = p' ∧ c = c' := by cases e1; exact ⟨rfl, rfl⟩
  subst e2
  have hcells : ∀ i, i < V.length → w.cell? ⟨bv, ov + i, none⟩ = some (.int .i64 (V.getD i 0)) := fun i hi2 => by
    obtain ⟨b2, o2', e5, e6⟩ := hx i hi2
    cases e5
    exact e6
  have hbs := Tryz.slices_BinarySearch_int bv ov n c V y w (by rw [hn]; exact Nat.le_refl _) (by omega) hcells (by rw [show V.take n = V by rw [← hn]; exact List.take_length]; exact List.Pairwise.imp (fun h => by omega) hr)
  rw [show V.take n = V by rw [← hn]; exact List.take_length] at hbs
  have hcount : List.countP (fun x => decide (x < y)) V = k := by rw [← hkv]; exact count_idx hr hk
  have hidx : V.idxOf y = k := idx_first hk hkv fun j hj e => by
    have h1 := List.pairwise_iff_getElem.1 hr j k (by omega) hk hj
    rw [← getD_elem (by omega), ← getD_elem hk] at h1
    omega
  rw [hcount, show V.contains y = true from List.contains_iff_mem.2 hy] at hbs
  rw [hidx]
  exact hbs
theorem drew_at {w : World} {v : Value} {xs : List Int} (h : IntsAt w v xs) (q : Nat) : IntsAt (w.drewN q) v xs := (h.in.below (Below.drewN w q) (Nat.le_refl _)).at
def HillP (L : List (List Int)) (h : List Int) (w : World) (e : Ending) (w' : World) : Prop :=
  ∃ (pV : Option Addr) (cV : Nat) (po : Option Addr) (co : Nat) (vh : Value) (pe : Option Addr) (ce : Nat) (M : List Nat),
    e = .returned (.agg #[.slice pV (vertA L).length cV, .slice po M.length co, vh, .slice pe (edgP (vertA L) (dimF (allF L) 1)).length ce]) ∧ Below w.heap.size w w' ∧
    IntsAt w' (.slice pV (vertA L).length cV) (vertA L) ∧ M.Perm (List.range h.length) ∧ M.Pairwise (fun i j => h.getD i 0 < h.getD j 0) ∧ IntsAt w' (.slice po M.length co) (natV M) ∧
    PairsAt w' (.slice pe (edgP (vertA L) (dimF (allF L) 1)).length ce) (edgP (vertA L) (dimF (allF L) 1))

set_option maxRecDepth 100000 in
set_option maxHeartbeats 64000000 in
theorem of_any (a : Nat → Addr) (B : Nat) (L : List (List Int)) (ht : List Int) (v vh : Value) (w : World) (hS : Sents w a) (hB : B ≤ w.heap.size) (hv : ListsIn B w v L) (hn : L.length ≤ 100000) (hl : ∀ l ∈ L, l.length ≤ 100000)
    (hvh : IntsIn B w vh ht) (h0 : errX L = 0) (hok : okH (vertA L) ht) :
    Calls Tryz.prog 36 #[.agg #[v], vh] w (HillP L ht w) := by
  obtain ⟨i3, hi3, hy0, hy1, hy2⟩ := info_parts Tryz.info3
  obtain ⟨i2, hi2, hz0, hz1, hz2⟩ := info_parts info_two
  obtain ⟨pv, cv, hve, -⟩ := id hv
  obtain ⟨ph, ch, hhe, hch, -⟩ := id hvh
  obtain ⟨hflL, hvlL⟩ := right_small h0
  obtain ⟨nL, hnL⟩ : ∃ n, L.length = n := ⟨_, rfl⟩
  obtain ⟨n, hnn⟩ : ∃ n, ht.length = n := ⟨_, rfl⟩
  rw [hnL] at hve
  rw [hnn] at hhe
  subst hve
  subst hhe
  have hV6 : (vertA L).length = n := hok.1.trans hnn
  rw [hV6] at hvlL
  have hbd : ∀ x ∈ ht, -1048576 ≤ x ∧ x ≤ 1048576 := fun x hx => by
    obtain ⟨j, hj, rfl⟩ := List.getElem_of_mem hx
    have := (hok.2 j hj).1
    rwa [getD_elem hj] at this
  have hnd : ht.Nodup := unlike_nodup.1 fun j hj k hk => (hok.2 j hj).2 k hk
  have HVE := Lib.hid (fun wx (hx : Below w.heap.size w wx) => vertices_any B L (.slice pv nL cv) wx (hv.below hx (Nat.le_refl _)) hn hflL)
  unfold NumsP at HVE
  have HFC := Lib.hid (fun wx (hx : Below w.heap.size w wx) => facesO_any a B L (.slice pv nL cv) wx (hS.below hx (Nat.le_refl _)) (Nat.le_trans hB hx.size) (hv.below hx (Nat.le_refl _)) hn hl h0)
  have HH := Lib.hid (fun wx (hx : Below w.heap.size w wx) => hvh.below hx (Nat.le_refl _))
  have HBB := Lib.hid hB
  have HBD := Lib.hid hbd
  have HND := Lib.hid hnd
  have HNN := Lib.hid hnn
  have HN := Lib.hid hvlL
  have HRV := Lib.hid (rise_setL L.flatten)
  have hvA : setL L.flatten = vertA L := rfl
  rw [hvA] at HRV
  have HE2 : Hid (∀ e ∈ dimF (allF L) 1, e.length = 2 ∧ ∀ x ∈ e, x ∈ vertA L) := fun e he => by
    obtain ⟨h1, h2⟩ := List.mem_filter.1 he
    have h3 := of_decide_eq_true h2
    refine ⟨by omega, fun x hx => ?_⟩
    rw [← vert_same h0, mem_vertR]
    exact closed_under e h1 [x] (List.singleton_sublist.2 hx) (by simp)
  have HEL : Hid ((dimF (allF L) 1).length ≤ 600) := Nat.le_trans (List.length_filter_le _ _) (errC_ok (errX_ok h0).1).2.2
  obtain ⟨w0, hw0⟩ : ∃ w0, ((w.alloc (.cells #[.slice pv nL cv] 34)).alloc (.cells #[.slice ph n ch] 23)).alloc (.cells #[.slice none 0 0, .slice none 0 0, .slice none 0 0, .slice none 0 0] 75) = w0 := ⟨_, rfl⟩
  have hb0 : Below w.heap.size w w0 := by rw [← hw0]; exact ((lit_below' w _).alloc (by simp) _).alloc (by simp; omega) _
  have HB0 := Lib.hid hb0
  have hbx : w0.heap[w.heap.size]? = some (.cells #[.slice pv nL cv] 34 (0, 0)) ∧ w0.heap[w.heap.size + 1]? = some (.cells #[.slice ph n ch] 23 (0, 0)) ∧ HillB w0 (w.heap.size + 1 + 1) (.slice none 0 0) (.slice none 0 0) (.slice none 0 0) (.slice none 0 0) ∧ w0.heap.size = w.heap.size + 3 := by
    rw [← hw0]
    unfold HillB
    have s1 : (w.alloc (.cells #[.slice pv nL cv] 34)).heap.size = w.heap.size + 1 := by simp
    have s2 : ((w.alloc (.cells #[.slice pv nL cv] 34)).alloc (.cells #[.slice ph n ch] 23)).heap.size = w.heap.size + 1 + 1 := by simp
    refine ⟨?_, ?_, ?_, by simp⟩
    · rw [alloc_old _ _ _ (by omega), alloc_old _ _ _ (by omega)]; exact heap_alloc_new w _
    · rw [alloc_old _ _ _ (by omega)]
      have e := heap_alloc_new (w.alloc (.cells #[.slice pv nL cv] 34)) (.cells #[.slice ph n ch] 23)
      rw [s1] at e
      exact e
    · have e := heap_alloc_new ((w.alloc (.cells #[.slice pv nL cv] 34)).alloc (.cells #[.slice ph n ch] 23)) (.cells #[.slice none 0 0, .slice none 0 0, .slice none 0 0, .slice none 0 0] 75)
      rw [s2] at e
      exact e
  have HCX : Hid (∀ wx, Below w0.heap.size w0 wx → wx.cell? ⟨w.heap.size, 0, none⟩ = some (.slice pv nL cv) ∧ wx.cell? ⟨w.heap.size + 1, 0, none⟩ = some (.slice ph n ch) ∧ HillB wx (w.heap.size + 1 + 1) (.slice none 0 0) (.slice none 0 0) (.slice none 0 0) (.slice none 0 0)) := fun wx hx =>
    ⟨(one_at ((hx.block _ (by have := hbx.2.2.2; omega)).trans hbx.1)).1, (one_at ((hx.block _ (by have := hbx.2.2.2; omega)).trans hbx.2.1)).1, hbx.2.2.1.kept (hx.block _ (by have := hbx.2.2.2; omega))⟩
  have HT : Hid (∀ wx, Below w0.heap.size w0 wx → Below w.heap.size w wx) := fun wx hx => hb0.trans (hx.mono hb0.size)
  have HW0 := Lib.hid hw0
  have HW0S : Hid (w0.heap.size = w.heap.size + 3) := hbx.2.2.2
  unfold HillP
  have HVV := Lib.hid hV6
  obtain ⟨V, hVe⟩ : ∃ V, vertA L = V := ⟨_, rfl⟩
  rw [hVe] at HVE HVV HRV HE2 ⊢
  rw [HVV.out] at HVE
  obtain ⟨E, hEe⟩ : ∃ E, dimF (allF L) 1 = E := ⟨_, rfl⟩
  rw [hEe] at HFC HE2 HEL ⊢
  obtain ⟨nE, hnE⟩ : ∃ n, E.length = n := ⟨_, rfl⟩
  have HNE := Lib.hid hnE
  clear hS hB hv hn hl hvh h0 hok hflL hvlL hnL hnn hV6 hbd hnd hvA hb0 hbx hw0 hVe hEe hnE hch
  go_enter Tryz.func36, Tryz.ntmps36
  go_upto_region 1 with fail
  rw [HW0.out]
  obtain ⟨c0, c1, c2⟩ := HCX.out w0 (Below.refl _ _)
  have HV0 := Lib.hid (HVE.out w0 HB0.out)
  go_wp2_with fail
  refine HV0.out.mono ?_
  rintro e w1 ⟨pV, cV, rfl, hb1, hi1⟩
  have HZ1 := Lib.hid hb1
  have HI1 := Lib.hid hi1
  have hb2 : Below w1.heap.size w1 (w1.alloc (.cells #[.slice pV n cV, .slice none 0 0, .slice none 0 0, .slice none 0 0] 75)) := lit_below' w1 _
  have hk2 : HillB (w1.alloc (.cells #[.slice pV n cV, .slice none 0 0, .slice none 0 0, .slice none 0 0] 75)) w1.heap.size (.slice pV n cV) (.slice none 0 0) (.slice none 0 0) (.slice none 0 0) := heap_alloc_new w1 _
  have hs2 : (w1.alloc (.cells #[.slice pV n cV, .slice none 0 0, .slice none 0 0, .slice none 0 0] 75)).heap.size = w1.heap.size + 1 := by simp
  obtain ⟨w2, hw2⟩ : ∃ w2, w1.alloc (.cells #[.slice pV n cV, .slice none 0 0, .slice none 0 0, .slice none 0 0] 75) = w2 := ⟨_, rfl⟩
  rw [hw2] at hb2 hk2 hs2
  have HW2 := Lib.hid hw2
  have HB12 := Lib.hid hb2
  have HK2 := Lib.hid hk2
  have HS2 := Lib.hid hs2
  have HWK : Hid (w.heap.size + 3 ≤ w1.heap.size) := by have h1 := hb1.size; have h2 := HW0S.out; unfold Hid; omega
  obtain ⟨k, hk⟩ : ∃ k, w1.heap.size = k := ⟨_, rfl⟩
  rw [hk] at HB12 HK2 HS2 HWK
  have HKE := Lib.hid hk
  have HS2K : Hid (w2.heap.size = k + 1) := by unfold Hid; rw [← hk]; exact hs2
  clear hb1 hi1 hb2 hk2 hs2 hw2 HV0 c0 c1 c2
  go_upto_region 2 with fail
  rw [HW2.out]
  obtain ⟨c0, c1, c2⟩ := HCX.out w2 (HZ1.out.trans ((by rw [hk]; exact HB12.out : Below w1.heap.size w1 w2).mono HZ1.out.size))
  go_wp2_with fail
  clear hk c0 c1 c2
  have HCY : Hid (∀ wx, Below k w2 wx → wx.cell? ⟨w.heap.size, 0, none⟩ = some (.slice pv nL cv) ∧ wx.cell? ⟨w.heap.size + 1, 0, none⟩ = some (.slice ph n ch) ∧ HillB wx (w.heap.size + 1 + 1) (.slice none 0 0) (.slice none 0 0) (.slice none 0 0) (.slice none 0 0) ∧ Below w.heap.size w wx ∧ IntsIn B wx (.slice pV n cV) V) := fun wx hx => by
    have h1 : Below w1.heap.size w1 wx := by
      rw [HKE.out]
      exact HB12.out.trans hx
    obtain ⟨d0, d1, d2⟩ := HCX.out wx (HZ1.out.trans (h1.mono HZ1.out.size))
    exact ⟨d0, d1, d2, HT.out _ (HZ1.out.trans (h1.mono HZ1.out.size)), HI1.out.below h1 (Nat.le_refl _)⟩
  go_loopw [22] (fun i wr => ∃ (j : Nat) (s : Value), j ≤ n ∧ i = .int .i64 (j : Int) ∧ Below k w2 wr ∧ HillB wr k (.slice pV n cV) s (.slice none 0 0) (.slice none 0 0) ∧ wr.ownsRow (k + 1) 3 1 s j (intVs (natV (List.range j)))) (fun i _ => n - (intOf i).toNat)
  case atStart => exact ⟨0, .slice none 0 0, Nat.zero_le _, rfl, Below.refl _ _, HK2.out, World.ownsRow_nil _ _ _ _⟩
  case round =>
    obtain ⟨j, s, hj, rfl, hb, hk, hO⟩ := hrel
    have HB := Lib.hid hb
    have HK := Lib.hid hk
    have HO := Lib.hid hO
    have hkl := hk.lt
    by_cases hjn : j < n
    · obtain ⟨k0, k1, k2, k3, f0, f1, f2, f3⟩ := hk.all
      have hnn := HN.out
      obtain ⟨ps, cs, rfl⟩ : ∃ p c, s = .slice p j c := by
        rcases Joins.ownsRow_forms hO with ⟨e, h0⟩ | ⟨g, cap, e⟩
        · exact ⟨none, 0, by rw [e, h0]⟩
        · exact ⟨_, cap, e⟩
      have hws : k + 1 ≤ wr.heap.size := hkl
      clear hb hk hO k0 k2 k3 f0 f2 f3
      go_wp2_with (at_builtin; refine wpList_append_lies _ rfl (.tmp 26) (.tmp 28) 23 rfl (k + 1) 3 i3 (.int .i64 0) 1 8 Tryz.underlying23 hi3 hy0 hy1 hy2 rfl (by decide) _ j (intVs (natV (List.range j))) rfl (HO.out.alloc _) ⟨wr.heap.size, 0, none⟩ 1 1 [.int .i64 (j : Int)] rfl rfl (World.news_of_block (cs := #[.int .i64 (j : Int)]) (t := 3) (fr := (0, 0)) (heap_alloc_new wr _)) (by simp [Value.oneCell']) (by decide) (by unfold maxLen; omega) (by omega) (by simp; omega) (wr.heap.size + 1) (by simp) ?_; intro g2 c2 w9 hown2 hgr2 hat2 hlt2; have HO9 := Lib.hid hown2; have HG9 := Lib.hid hgr2; have HK9 := Lib.hid (hill_app HK.out HO.out (Nat.lt_succ_self k) hgr2); obtain ⟨-, z1, -, -, -, y1, -, -⟩ := HK9.out.all; clear hown2 hgr2 hat2 hlt2)
      go_roundw
      case rel =>
        refine ⟨j + 1, _, hjn, by go_num, (((HB.out.alloc (by omega) _).grown HG9.out (by simp; omega) (fun i hi => by have := (HO.out.lt i hi).1; omega)).setCell (p := ⟨k, 1, none⟩) (Nat.le_refl _) _), HK9.out.set1 _, ?_⟩
        rw [natV_snoc, intVs_snoc]
        exact owns_set HO9.out (Nat.lt_succ_self k)
      case measure => simp [intOf]; omega
    · obtain rfl : n = j := by omega
      obtain ⟨k0, k1, k2, k3, f0, f1, f2, f3⟩ := hk.all
      obtain ⟨d0, d1, d2, d3, d4⟩ := HCY.out wr hb
      have hvq : ∀ q, (Value.slice ph n ch).ownBlock = some q → 0 < n → q < w.heap.size := fun q hq hp => by
        obtain ⟨b3, o3, c3, e1, e2⟩ := ints_cell (HH.out w (Below.refl _ _)) 0 (by rw [HNN.out]; exact hp)
        rw [HNN.out] at e1
        cases e1
        cases hq
        exact mem_lt e2
      have hwk := HWK.out
      have HSO := Lib.hid (sortP_any (k + 1) n (w.heap.size + 1) ht s (.slice ph n ch) wr HN.out HNN.out HBD.out HND.out d1 (HH.out wr d3).at (by omega) (fun hp q hq => by have := hvq q hq hp; omega) hO)
      have HB := Lib.hid hb
      have HK := Lib.hid hk
      have HO := Lib.hid hO
      clear hb hk hO k0 k2 k3 f0 f1 f2 f3 d0 d2 d3 d4 hvq
      go_wp2_with fail
      refine HSO.out.mono ?_
      rintro e w4 ⟨rfl, M, hM1, hM2, hO4, hg4⟩
      have hk4 := HK.out.kept (hg4.block k HK.out.lt (fun e => by have := (HO.out.lt k e.symm).1; omega))
      have hb4 : Below k w2 w4 := HB.out.grown hg4 (by have := HK.out.lt; omega) (fun q e => by have := (HO.out.lt q e).1; omega)
      have hml : M.length = n := by rw [hM1.length_eq, List.length_range]
      have HM1 := Lib.hid hM1
      have HM2 := Lib.hid hM2
      have HML := Lib.hid hml
      have HK4 := Lib.hid hk4
      have HB4 := Lib.hid hb4
      have HO4 := Lib.hid hO4
      obtain ⟨k0, k1', k2, k3, f0, f1, f2, f3⟩ := hk4.all
      obtain ⟨d0, d1', d2, d3, d4⟩ := HCY.out w4 hb4
      have hmk := make_intsR n (by have := HN.out; omega)
      obtain ⟨po, co, rfl⟩ : ∃ p c, s = .slice p n c := by
        rcases Joins.ownsRow_forms hO4 with ⟨e, h0⟩ | ⟨g, cap, e⟩
        · exact ⟨none, 0, by rw [e, h0]⟩
        · exact ⟨_, cap, e⟩
      have hkl := hk4.lt
      have hk5 : HillB (w4.alloc (.cells (Array.replicate n (.int .i64 0)) 3)) k (.slice pV n cV) (.slice po n co) (.slice none 0 0) (.slice none 0 0) := hk4.kept (alloc_old w4 _ k hkl)
      obtain ⟨-, -, e2, -, -, -, g2, -⟩ := hk5.all
      have hb5 : Below k w2 (w4.alloc (.cells (Array.replicate n (.int .i64 0)) 3)) := hb4.alloc (by omega) _
      have hO5 : (w4.alloc (.cells (Array.replicate n (.int .i64 0)) 3)).ownsRow (k + 1) 3 1 (.slice po n co) n (intVs (natV M)) := hO4.alloc _
      have hn5 := heap_alloc_new w4 (.cells (Array.replicate n (.int .i64 0)) 3)
      obtain ⟨w6, hw6⟩ : ∃ w6, (w4.alloc (.cells (Array.replicate n (.int .i64 0)) 3)).setCell ⟨k, 2, none⟩ (.slice (some ⟨w4.heap.size, 0, none⟩) n n) = w6 := ⟨_, rfl⟩
      have HW6 := Lib.hid hw6
      have HK6 : Hid (HillB w6 k (.slice pV n cV) (.slice po n co) (.slice (some ⟨w4.heap.size, 0, none⟩) n n) (.slice none 0 0)) := by unfold Hid; rw [← hw6]; exact hk5.set2 _
      have HB6 : Hid (Below k w2 w6) := by unfold Hid; rw [← hw6]; exact hb5.setCell (p := ⟨k, 2, none⟩) (Nat.le_refl _) _
      have HO6 : Hid (w6.ownsRow (k + 1) 3 1 (.slice po n co) n (intVs (natV M))) := by unfold Hid; rw [← hw6]; exact owns_set hO5 (Nat.lt_succ_self k)
      have HN6 : Hid (w6.heap[w4.heap.size]? = some (.cells (Array.replicate n (.int .i64 0)) 3 (0, 0))) := by
        unfold Hid
        rw [← hw6, ← hn5]
        exact Below.heap_setCell _ _ _ _ (by show w4.heap.size ≠ k; omega)
      have HS6 : Hid (w6.heap.size = w4.heap.size + 1) := by unfold Hid; rw [← hw6]; simp [World.setCell]
      have HKG : Hid (k < w4.heap.size) := hkl
      have HOG : Hid (∀ q, (Value.slice po n co).ownBlock = some q → k < q ∧ q < w4.heap.size) := fun q hq => by have := hO4.lt q hq; omega
      clear hM1 hM2 hml hk4 hb4 hO4 hg4 HSO k1 d1 hk5 hb5 hO5 hn5 hw6 hkl
      go_upto_region 9 with fail
      rw [HW6.out]
      obtain ⟨g, hg⟩ : ∃ g, w4.heap.size = g := ⟨_, rfl⟩
      rw [hg] at HK6 HN6 HS6 HKG HOG
      clear e2 g2 k0 k1' k2 k3 f0 f1 f2 f3 d0 d1' d2 d3 d4 hmk
      obtain ⟨k0, k1, k2, k3, f0, f1, f2, f3⟩ := HK6.out.all
      go_wp2_with fail
      clear k0 k1 k2 k3 f0 f1 f2 f3
      have HIO : Hid (IntsAt w6 (.slice po n co) (natV M)) := (ints_owned (B := 0) HO6.out (by rw [natV_len, HML.out])).at
      go_loopw [43] (fun i wr => ∃ (j : Nat) (xs : Array Value), j ≤ n ∧ i = .int .i64 (j : Int) ∧ Below g w6 wr ∧ wr.heap[g]? = some (.cells xs 3 (0, 0)) ∧ xs.size = n) (fun i _ => n - (intOf i).toNat)
      case atStart => exact ⟨0, _, Nat.zero_le _, rfl, Below.refl _ _, HN6.out, by simp⟩
      case round =>
        obtain ⟨j, xs, hj, rfl, hb, hx, hxs⟩ := hrel
        have HBG := Lib.hid hb
        have HXS := Lib.hid hx
        have HXN := Lib.hid hxs
        have hkg := HKG.out
        have hk := HK6.out.kept (hb.block k HKG.out)
        have HKR := Lib.hid hk
        have hior : IntsAt wr (.slice po n co) (natV M) := by
          obtain ⟨p, c, e1, e2, e3, e4⟩ := HIO.out
          refine ⟨p, c, e1, e2, e3, fun i hi => ?_⟩
          obtain ⟨b, off, e5, e6⟩ := e4 i hi
          refine ⟨b, off, e5, ?_⟩
          have hbg : b < g := (HOG.out b (by rw [e1, e5]; rfl)).2
          rw [hb.cell (p := ⟨b, off + i, none⟩) hbg]
          exact e6
        have HIR := Lib.hid hior
        by_cases hjn : j < n
        · obtain ⟨k0, k1, k2, k3, f0, f1, f2, f3⟩ := hk.all
          have hjl : j < (natV M).length := by rw [natV_len, HML.out]; exact hjn
          obtain ⟨p, c, e1, -, -, e4⟩ := hior
          obtain ⟨b, off, e5, e6⟩ := e4 j hjl
          rw [natV_len, HML.out] at e1
          obtain ⟨rfl, rfl⟩ : po = p ∧ co = c := by cases e1; exact ⟨rfl, rfl⟩
          subst e5
          rw [natV_get (by rw [HML.out]; exact hjn)] at e6
          have hm : M.getD j 0 < n := by
            have : M.getD j 0 ∈ List.range n := HM1.out.mem_iff.1 (by rw [List.getD_eq_getElem?_getD, List.getElem?_eq_getElem (by rw [HML.out]; exact hjn)]; exact List.getElem_mem _)
            exact List.mem_range.1 this
          obtain ⟨m, hmm⟩ : ∃ m, M.getD j 0 = m := ⟨_, rfl⟩
          rw [hmm] at e6 hm
          obtain ⟨y5, c5⟩ : ∃ y, wr.cell? ⟨g, m, none⟩ = some y := ⟨xs[m]'(by rw [hxs]; exact hm), by rw [cell_of_row wr g m _ _ _ hx, Array.getElem?_eq_getElem (by rw [hxs]; exact hm)]⟩
          have g5 : wr.frozen? ⟨g, m, none⟩ = false := frozen_of_row wr g m _ _ hx
          have hnb := HN.out
          clear e1 e4 hjl hmm hb hk hx hxs k0 k1 k3 f0 f1 f2 f3
          go_wp2_with fail
          go_roundw
          case rel =>
            refine ⟨j + 1, xs.setIfInBounds m (.int .i64 (j : Int)), hjn, by go_num, HBG.out.setCell (p := ⟨g, m, none⟩) (Nat.le_refl _) _, set_block HXS.out, by rw [Array.size_setIfInBounds]; exact HXN.out⟩
          case measure => simp [intOf]; omega
        · obtain rfl : n = j := by omega
          have hbk : Below k w6 wr := hb.mono (Nat.le_of_lt HKG.out)
          have HBK := Lib.hid (HB6.out.trans hbk)
          obtain ⟨d0, d1, d2, d3, d4⟩ := HCY.out wr (HB6.out.trans hbk)
          have HF7 := Lib.hid (HFC.out wr d3)
          have hgs : g < wr.heap.size := (Array.getElem?_eq_some_iff.1 hx).1
          have HGS := Lib.hid hgs
          clear hb hk hx hxs hior d1 d2 d3 d4 hbk hgs
          go_wp2_with fail
          refine HF7.out.mono ?_
          rintro e w7 ⟨hb7, v7, rfl, hR7⟩
          have HB7 := Lib.hid (HBK.out.trans (hb7.mono (by have := HGS.out; have := HKG.out; omega)))
          have HK7 := Lib.hid (HKR.out.kept (hb7.block k (by have := HGS.out; have := HKG.out; omega)))
          have HI7 : Hid (IntsAt w7 (.slice po n co) (natV M)) := by
            obtain ⟨p, c, e1, e2, e3, e4⟩ := HIR.out
            refine ⟨p, c, e1, e2, e3, fun i hi => ?_⟩
            obtain ⟨b, off, e5, e6⟩ := e4 i hi
            exact ⟨b, off, e5, (hb7.cell (p := ⟨b, off + i, none⟩) (mem_lt e6)).trans e6⟩
          have HRO7 := Lib.hid hR7
          have HWS : Hid (k < wr.heap.size) := by have := HGS.out; have := HKG.out; unfold Hid; omega
          have HW7S : Hid (wr.heap.size ≤ w7.heap.size) := hb7.size
          obtain ⟨p7, c7, hv7, -⟩ := id hR7.lists
          rw [HNE.out] at hv7
          subst hv7
          have hne6 := HEL.out
          rw [HNE.out] at hne6
          have HPOB : Hid (∀ q, (Value.slice po n co).ownBlock = some q → k < q ∧ q < w7.heap.size) := fun q hq => by
            have h1 := HOG.out q hq
            have h2 := HGS.out
            have h3 := hb7.size
            omega
          clear hb7 hR7 HF7
          go_wp2_with fail
          go_loopw [61] (fun i wx => ∃ (j : Nat) (s : Value), j ≤ nE ∧ i = .int .i64 (j : Int) ∧ w7.grownBy wx (some k) ∧ HillB wx k (.slice pV n cV) (.slice po n co) (.slice (some ⟨g, 0, none⟩) n n) s ∧ wx.ownsRow w7.heap.size 115 2 s j (pairVs (edgP V (E.take j)))) (fun i _ => nE - (intOf i).toNat)
          case atStart => exact ⟨0, .slice none 0 0, Nat.zero_le _, rfl, World.grownBy.refl _ _, HK7.out, World.ownsRow_nil _ _ _ _⟩
          case round =>
            obtain ⟨j, s, hj, rfl, hg, hk, hO⟩ := hrel
            have HG := Lib.hid hg
            have HK := Lib.hid hk
            have HO := Lib.hid hO
            have hBk : B ≤ k := by have := HBB.out; have := HWK.out; omega
            have hRx := rowsO_grown HRO7.out HK7.out HWS.out hBk hg
            by_cases hjn : j < nE
            · have hjE : j < E.length := by rw [HNE.out]; exact hjn
              obtain ⟨k0, k1, k2, k3, f0, f1, f2, f3⟩ := hk.all
              obtain ⟨bE, oE, cE, hve⟩ := hRx.lists.form (by omega)
              rw [HNE.out] at hve
              obtain ⟨rfl, rfl⟩ : p7 = some ⟨bE, oE, none⟩ ∧ c7 = cE := by cases hve; exact ⟨rfl, rfl⟩
              obtain ⟨px, cx, hcx, hix⟩ := cells_at hRx.lists j hjE
              obtain ⟨hx2, hxV⟩ := HE2.out _ (getL_mem hjE)
              have hst : edgP V (E.take (j + 1)) = edgP V (E.take j) ++ [((V.idxOf ((E.getD j []).getD 0 0) : Int), (V.idxOf ((E.getD j []).getD 1 0) : Int))] := by
                unfold edgP
                rw [take_snoc_getD [] E j hjE, List.map_append]; rfl
              obtain ⟨x, hx⟩ : ∃ x, E.getD j [] = x := ⟨_, rfl⟩
              rw [hx] at hcx hix hx2 hxV hst
              rw [hx2] at hcx hix
              obtain ⟨bx, ox, c8, e1, e2⟩ := ints_cell hix 0 (by omega)
              rw [hx2] at e1
              obtain ⟨rfl, rfl⟩ : px = some ⟨bx, ox, none⟩ ∧ cx = c8 := by cases e1; exact ⟨rfl, rfl⟩
              obtain ⟨bx', ox', c8', e3, e4⟩ := ints_cell hix 1 (by omega)
              rw [hx2] at e3
              obtain ⟨rfl, rfl, rfl⟩ : bx = bx' ∧ ox = ox' ∧ cx = c8' := by cases e3; exact ⟨rfl, rfl, rfl⟩
              have hm0 : x.getD 0 0 ∈ V := hxV _ (by rw [getD_elem (by omega)]; exact List.getElem_mem _)
              have hm1 : x.getD 1 0 ∈ V := hxV _ (by rw [getD_elem (by omega)]; exact List.getElem_mem _)
              obtain ⟨y0, hy0'⟩ : ∃ y, x.getD 0 0 = y := ⟨_, rfl⟩
              obtain ⟨y1, hy1'⟩ : ∃ y, x.getD 1 0 = y := ⟨_, rfl⟩
              rw [hy0'] at e2 hm0 hst
              rw [hy1'] at e4 hm1 hst
              have HIVx : Hid (∀ wy, Below wr.heap.size wr wy → IntsIn B wy (.slice pV n cV) V) := by
                have h0 := (HCY.out w7 HB7.out).2.2.2.2
                have h1 := ints_grown h0 HK7.out hBk hg
                exact fun wy hy => h1.below hy (Nat.le_refl _)
              have HIV0 : Hid (IntsAt wr (.slice pV n cV) V) := (HIVx.out wr (Below.refl _ _)).at
              rw [Nat.add_zero] at e2
              have HBS0 := Lib.hid (bs_any V n pV cV y0 wr.drew (HIVx.out _ (Below.refl _ _).drew).at HVV.out HRV.out hm0 HN.out)
              have HBS1 := Lib.hid (fun wy (hy : Below wr.heap.size wr wy) => bs_any V n pV cV y1 wy (HIVx.out _ hy).at HVV.out HRV.out hm1 HN.out)
              obtain ⟨x0, hx0⟩ : ∃ z, V.idxOf y0 = z := ⟨_, rfl⟩
              obtain ⟨x1, hx1⟩ : ∃ z, V.idxOf y1 = z := ⟨_, rfl⟩
              rw [hx0] at HBS0 hst
              rw [hx1] at HBS1 hst
              have HST := Lib.hid hst
              have HE2' := Lib.hid e2
              have HE4' := Lib.hid e4
              clear hve hix hx2 hxV hx e1 e3 hm0 hm1 hy0' hy1' hx0 hx1 hst hjE hRx hg hk hO k1 k2 f0 f1 f2
              go_wp2_with fail
              have HSA : Hid (∀ wy, Below wr.heap.size wr wy → wy.cell? ⟨k, 0, none⟩ = some (.slice pV n cV) ∧ wy.cell? ⟨bx, ox, none⟩ = some (.int .i64 y0) ∧ wy.cell? ⟨bx, ox + 1, none⟩ = some (.int .i64 y1)) := fun wy hy =>
                ⟨(hy.cell (p := ⟨k, 0, none⟩) (lt_of_cell k0)).trans k0, (hy.cell (p := ⟨bx, ox, none⟩) (lt_of_cell HE2'.out)).trans HE2'.out, (hy.cell (p := ⟨bx, ox + 1, none⟩) (lt_of_cell HE4'.out)).trans HE4'.out⟩
              have hs0 := HSA.out _ (Below.refl wr.heap.size wr).drew
              go_region_held3 (fun wy => wy.cell? ⟨k, 0, none⟩ = some (.slice pV n cV) ∧ wy.cell? ⟨bx, ox, none⟩ = some (.int .i64 y0) ∧ wy.cell? ⟨bx, ox + 1, none⟩ = some (.int .i64 y1)) (first | assumption)
                (first
                  | (go_at_call 52; with_reducible refine HBS0.out.mono ?_; rintro e wb ⟨rfl, qb, hwb⟩; have hbB : Below wr.heap.size wr wb := (hwb ▸ (Below.refl wr.heap.size wr).drew.trans ((Below.drewN wr.drew qb).mono (Nat.le_refl _))); have hsB := HSA.out _ hbB))
              have hb8 := Below.drewN wr (1 + qb)
              clear hsB hbB hwb hs0
              obtain ⟨w8, hw8⟩ : ∃ x, wr.drewN (1 + qb) = x := ⟨_, rfl⟩
              rw [hw8] at hb8 ⊢
              have HB8 := Lib.hid hb8
              have HBS2 := Lib.hid (HBS1.out w8.drew hb8.drew)
              have hs1 := HSA.out _ hb8.drew
              clear hw8 hb8 k0 k3 f3 e2 e4
              go_wp2_with fail
              go_region_held3 (fun wy => wy.cell? ⟨k, 0, none⟩ = some (.slice pV n cV) ∧ wy.cell? ⟨bx, ox, none⟩ = some (.int .i64 y0) ∧ wy.cell? ⟨bx, ox + 1, none⟩ = some (.int .i64 y1)) (first | assumption)
                (first
                  | (go_at_call 52; with_reducible refine HBS2.out.mono ?_; rintro e wb ⟨rfl, qc, hwb⟩; have hbB : Below wr.heap.size wr wb := (hwb ▸ (HB8.out.drew).trans ((Below.drewN w8.drew qc).mono (HB8.out.drew).size)); have hsB := HSA.out _ hbB))
              have hb9 := HB8.out.trans ((Below.drewN w8 (1 + qc)).mono HB8.out.size)
              clear hsB hbB hwb hs1
              obtain ⟨w9, hw9⟩ : ∃ x, w8.drewN (1 + qc) = x := ⟨_, rfl⟩
              rw [hw9] at hb9 ⊢
              have hk9 := HK.out.kept (hb9.block k HK.out.lt)
              have hg9 := grown_tr HG.out (below_grown2 (hb9.mono (Nat.le_of_lt HK.out.lt)) HK.out.lt fun q _ hq => hb9.block q hq)
              have hO9 := owns_keep HO.out fun q hq => hb9.block q (HO.out.lt q hq).2
              have HK9 := Lib.hid hk9
              have HG9 := Lib.hid hg9
              have HO9 := Lib.hid hO9
              have HKW7 : Hid (k < w7.heap.size) := HK7.out.lt
              obtain ⟨k0, k1, k2, k3, f0, f1, f2, f3⟩ := hk9.all
              obtain ⟨ps, cs, rfl⟩ : ∃ p c, s = .slice p j c := by
                rcases Joins.ownsRow_forms hO9 with ⟨e, h0⟩ | ⟨g, cap, e⟩
                · exact ⟨none, 0, by rw [e, h0]⟩
                · exact ⟨_, cap, e⟩
              have hws : w7.heap.size ≤ w9.heap.size := hg9.size
              clear hw9 hb9 hk9 hg9 hO9 k0 k1 k2 f0 f1 f2
              go_wp2_with (at_builtin; refine wpList_append_lies _ rfl (.tmp 84) (.tmp 88) 73 rfl w7.heap.size 115 i2 (.agg #[.int .i64 0, .int .i64 0]) 2 16 under_twos hi2 hz0 hz1 hz2 rfl (by decide) _ j (pairVs (edgP V (E.take j))) rfl (HO9.out.alloc _) ⟨w9.heap.size, 0, none⟩ 1 1 [.int .i64 (x0 : Int), .int .i64 (x1 : Int)] rfl rfl (World.news_of_block (cs := #[.int .i64 (x0 : Int), .int .i64 (x1 : Int)]) (t := 115) (fr := (0, 0)) (heap_alloc_new w9 _)) (by simp [Value.oneCell']) (by decide) (by unfold maxLen; omega) (by omega) (by simp; omega) (w9.heap.size + 1) (by simp) ?_; intro g2 c2 w10 hown2 hgr2 hat2 hlt2; have HOA := Lib.hid hown2; have HGA := Lib.hid hgr2; have HKA := Lib.hid (hill_app HK9.out HO9.out HKW7.out hgr2); obtain ⟨-, -, -, z1, -, -, -, y1'⟩ := HKA.out.all; clear hown2 hgr2 hat2 hlt2)
              go_roundw
              case rel =>
                refine ⟨j + 1, _, hjn, by go_num, ?_, HKA.out.set3 _, ?_⟩
                · have hlt7 : ∀ q, q < w7.heap.size → some q ≠ (Value.slice ps j cs).ownBlock := fun q hq e => by
                    have := (HO9.out.lt q e.symm).1
                    omega
                  have h0 : w7.grownBy w10 (some k) := ⟨HGA.out.os.trans HG9.out.os, HGA.out.tape.trans HG9.out.tape, HGA.out.output.trans HG9.out.output, by have h1 := HGA.out.size; have h2 := HG9.out.size; simp at h1; omega, fun q hq hr =>
                    ((HGA.out.block q (by simp; omega) (hlt7 q hq)).trans (alloc_old w9 _ q (by omega))).trans (HG9.out.block q hq hr)⟩
                  exact grown_tr h0 (set_grown _ k 3 _)
                · rw [HST.out, pairVs_snoc]
                  exact owns_set HOA.out HKW7.out
              case measure => simp [intOf]; omega
            · obtain rfl : nE = j := by omega
              have hT : E.take nE = E := by rw [← HNE.out, List.take_length]
              rw [hT] at hO
              obtain ⟨k0, k1, k2, k3, f0, f1, f2, f3⟩ := hk.all
              obtain ⟨-, -, hr7, hb7, hv7⟩ := HCY.out w7 HB7.out
              have hwk := HWK.out
              obtain ⟨r, hr⟩ : ∃ r, w.heap.size + 1 + 1 = r := ⟨_, rfl⟩
              rw [hr] at hr7
              have hrk : r < k := by omega
              have hrx : HillB wr r (.slice none 0 0) (.slice none 0 0) (.slice none 0 0) (.slice none 0 0) := hr7.kept (hg.block r (by have := HK7.out.lt; omega) (fun e => by cases e; omega))
              obtain ⟨r0, r1, r2, r3, s0, s1, s2, s3⟩ := hrx.all
              have hBk : B ≤ k := by have := HBB.out; omega
              have hBr : B ≤ r := by have := HBB.out; omega
              have hVx := ints_grown hv7 HK7.out hBk hg
              have hbx : Below w.heap.size w wr := hb7.grown hg hb7.size (fun q e => by cases e; omega)
              obtain ⟨pe, ce, rfl⟩ : ∃ p c, s = .slice p nE c := by
                rcases Joins.ownsRow_forms hO with ⟨e, h0⟩ | ⟨g, cap, e⟩
                · exact ⟨none, 0, by rw [e, h0]⟩
                · exact ⟨_, cap, e⟩
              obtain ⟨hi, hhi⟩ : ∃ v, Value.slice (some ⟨g, 0, none⟩) n n = v := ⟨_, rfl⟩
              obtain ⟨wf, hwf⟩ : ∃ wf, wf = (((wr.setCell ⟨r, 0, none⟩ (.slice pV n cV)).setCell ⟨r, 1, none⟩ (.slice po n co)).setCell ⟨r, 2, none⟩ (.slice (some ⟨g, 0, none⟩) n n)).setCell ⟨r, 3, none⟩ (.slice pe nE ce) := ⟨_, rfl⟩
              have hgf : wr.grownBy wf (some r) := by rw [hwf]; exact grown_tr (grown_tr (grown_tr (set_grown _ r 0 _) (set_grown _ r 1 _)) (set_grown _ r 2 _)) (set_grown _ r 3 _)
              have hkf : wf.heap[r]? = some (.cells #[.slice pV n cV, .slice po n co, .slice (some ⟨g, 0, none⟩) n n, .slice pe nE ce] 75 (0, 0)) := by
                rw [hwf]
                have h1 := hrx
                unfold HillB at h1
                simp [World.setCell, Array.getElem?_modify, h1]
              obtain ⟨t0, t1, t2, t3, -⟩ := (show HillB wf r _ _ _ _ from hkf).all
              have HBF : Hid (Below w.heap.size w wf) := hbx.grown hgf hbx.size (fun q e => by cases e; omega)
              have HVF : Hid (IntsAt wf (.slice pV n cV) V) := (ints_grown hVx hrx hBr hgf).at
              have HOF : Hid (IntsAt wf (.slice po n co) (natV M)) := by
                obtain ⟨p, c, e1, e2, e3, e4⟩ := HI7.out
                refine ⟨p, c, e1, e2, e3, fun i hi => ?_⟩
                obtain ⟨b, off, e5, e6⟩ := e4 i hi
                have hb := HPOB.out b (by rw [e1, e5]; rfl)
                exact ⟨b, off, e5, hgf.cell (hg.cell e6 (fun e => absurd (Option.some.inj e) (by show b ≠ k; omega))) (fun e => absurd (Option.some.inj e) (by show b ≠ r; omega))⟩
              have hel : (edgP V E).length = nE := by unfold edgP; rw [List.length_map, HNE.out]
              have HPF : Hid (PairsAt wf (.slice pe nE ce) (edgP V E)) := pairs_owned (owns_keep hO fun q hq => hgf.block q (hO.lt q hq).2 (fun e => by
                have := (hO.lt q hq).1
                have := HK7.out.lt
                cases e
                omega)) hel.symm
              have HWF := Lib.hid hwf
              have R0 := Lib.hid t0
              have R1 := Lib.hid t1
              have R2 := Lib.hid t2
              have R3 := Lib.hid t3
              have HEL2 := Lib.hid hel
              clear hb7 hv7 hr7 hVx hbx hgf hkf hwf t0 t1 t2 t3 hT hO hk hg hRx hrx hel f0 f1 f2 f3 hhi hi
              go_wp2_with fail
              rw [← HWF.out]
              refine bodyPost_ret (v := .agg #[.slice pV n cV, .slice po n co, .slice (some ⟨g, 0, none⟩) n n, .slice pe nE ce]) (by simp [results, Tryz.results36, go_sem, hr, R0.out, R1.out, R2.out, R3.out]) rfl ?_
              refine ⟨pV, cV, po, co, .slice (some ⟨g, 0, none⟩) n n, pe, ce, M, ?_, HBF.out, ?_, ?_, HM2.out, ?_, ?_⟩
              · rw [HVV.out, HML.out, HEL2.out]
              · rw [HVV.out]; exact HVF.out
              · rw [HNN.out]; exact HM1.out
              · rw [HML.out]; exact HOF.out
              · rw [HEL2.out]; exact HPF.out
end Go.Proofs.YtddnjimpdidpaaaGreatDoor
