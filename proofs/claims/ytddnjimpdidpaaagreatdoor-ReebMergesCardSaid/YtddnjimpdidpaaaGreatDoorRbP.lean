/-
  The order of vertices by heights: reeb.of's closure and slices.SortFunc by contracts.
  reeb.of by a contract: vertices, their order by heights, edges by numbers of vertices.
-/
import Derived.Test.YtddnjimpdidpaaaGreatDoorPut
import Derived.Test.YtddnjimpdidpaaaGreatDoorIxC
import Derived.Test.YtddnjimpdidpaaaGreatDoorIxO
import Derived.Test.YtddnjimpdidpaaaGreatDoorPairO
import Derived.Test.YtddnjimpdidpaaaGreatDoorIxD
import Derived.Test.YtddnjimpdidpaaaGreatDoorBarS
import Derived.Deep.RegionHeld3
set_option linter.unusedSimpArgs false
set_option linter.unusedVariables false
namespace Go.Proofs.YtddnjimpdidpaaaGreatDoor
open Go Go.RowKit Go.Sort Go.Lib Go.Maps

set_option maxHeartbeats 4000000 in
theorem ord_closure (b : Nat) (h : List Int) (v : Value) (i j : Nat) (w : World) (hc : w.cell? ⟨b, 0, none⟩ = some v) (hv : IntsAt w v h) (hi : i < h.length) (hj : j < h.length) (hb : ∀ x ∈ h, -1048576 ≤ x ∧ x ≤ 1048576) :
    Calls Tryz.prog 75 #[.int .i64 (i : Int), .int .i64 (j : Int), .pointer (some ⟨b, 0, none⟩)] w fun e w' => e = .returned (.int .i64 (h.getD i 0 - h.getD j 0)) ∧ ∃ m, w' = w.drewN m := by
  obtain ⟨p, c, hve, -, -, hx⟩ := id hv
  obtain ⟨bb, off, e1, e2⟩ := hx i hi
  obtain ⟨b3, o3, e3, e4⟩ := hx j hj
  subst e1
  cases e3
  have hbi := hb _ (show h.getD i 0 ∈ h by rw [getD_elem hi]; exact List.getElem_mem _)
  have hbj := hb _ (show h.getD j 0 ∈ h by rw [getD_elem hj]; exact List.getElem_mem _)
  subst hve
  generalize h.getD i 0 = x at e2 hbi ⊢
  generalize h.getD j 0 = y at e4 hbj ⊢
  have m1 : IntKind.i64.wrap (x - y) = x - y := IntWalk.i64_in _ (by omega)
  generalize h.length = n at hc hi hj
  clear hv hb hx hbi hbj
  go_enter Tryz.func75, Tryz.ntmps75
  go_wp2_with fail
  go_quiet (fail)
  go_wp2_with fail
  go_ret
  exact ⟨rfl, _, rfl⟩
/-- numbers as ints -/
def natV (M : List Nat) : List Int := M.map fun (i : Nat) => (i : Int)
def SortOP (O g n cap : Nat) (h : List Int) (w : World) (e : Ending) (w' : World) : Prop :=
  e = .returned (.tuple #[]) ∧ w.grownBy w' (some g) ∧ ∃ M : List Nat, M.Perm (List.range n) ∧ M.Pairwise (fun i j => h.getD i 0 < h.getD j 0) ∧ w'.ownsRow O 3 1 (.slice (some ⟨g, 0, none⟩) n cap) n (intVs (natV M))
theorem sortO_any (O g n cap b : Nat) (h : List Int) (v : Value) (w : World) (hp : 0 < n) (hn : n ≤ 100000) (hhl : h.length = n) (hbd : ∀ x ∈ h, -1048576 ≤ x ∧ x ≤ 1048576) (hnd : h.Nodup)
    (hc : w.cell? ⟨b, 0, none⟩ = some v) (hv : IntsAt w v h) (hbg : b ≠ g) (hvg : ∀ a, v.ownBlock = some a → a ≠ g)
    (hown : w.ownsRow O 3 1 (.slice (some ⟨g, 0, none⟩) n cap) n (intVs (natV (List.range n)))) :
    Calls Tryz.prog 74 #[.slice (some ⟨g, 0, none⟩) n cap, .func (.func 75) #[] #[.pointer (some ⟨b, 0, none⟩)]] w (SortOP O g n cap h w) := by
  obtain ⟨k, hk⟩ : ∃ k, n = k + 1 := ⟨n - 1, by omega⟩
  obtain ⟨enc, henc⟩ : ∃ enc : Fin (k + 1) → Value, enc = fun i => .int .i64 (i.val : Int) := ⟨_, rfl⟩
  obtain ⟨cf, hcf⟩ : ∃ cf : Fin (k + 1) → Fin (k + 1) → Int, cf = fun i j => h.getD i.val 0 - h.getD j.val 0 := ⟨_, rfl⟩
  obtain ⟨L, hL⟩ : ∃ L : List (Fin (k + 1)), L = List.ofFn (fun i : Fin (k + 1) => i) := ⟨_, rfl⟩
  have hLl : L.length = n := by rw [hL]; simp [hk]
  have hLv : L.map (fun i : Fin (k + 1) => i.val) = List.range n := by
    rw [hL]
    refine List.ext_getElem (by simp [hk]) fun i h1 h2 => ?_
    simp only [List.getElem_map, List.getElem_ofFn, List.getElem_range]
  have hfl : ∀ M : List (Fin (k + 1)), M.map enc = intVs (natV (M.map fun i : Fin (k + 1) => i.val)) := fun M => by
    rw [henc]; simp [intVs, natV]
  have hlt : ∀ x y, ltOf cf x y = decide (h.getD x.val 0 < h.getD y.val 0) := fun x y => by
    unfold ltOf
    rw [hcf]
    exact decide_eq_decide.2 (by show h.getD x.val 0 - h.getD y.val 0 < 0 ↔ _; omega)
  have hO : SWO (ltOf cf) :=
    { irrefl := fun x => by rw [hlt]; simp
      trans := fun x y z h1 h2 => by rw [hlt] at *; simp only [decide_eq_true_eq] at *; omega
      ntrans := fun x y z h1 h2 => by rw [hlt] at *; simp only [decide_eq_false_iff_not] at *; omega }
  have hT : ∀ x y, ltOf cf x y = false → ltOf cf y x = false → x = y := fun x y h1 h2 => by
    rw [hlt] at h1 h2
    simp only [decide_eq_false_iff_not] at h1 h2
    exact Fin.ext (nod_inj' hnd (by omega) (by omega) (by omega))
  have eg : ∀ args w, (callFunc 75 args).run Tryz.prog w = .ok (.enter 75 args) w := enters_of Tryz.func75 (by kernel_rfl) rfl
  have hg := (hown.lt g rfl).2
  have hown2 : w.ownsRow O 3 1 (.slice (some ⟨g, 0, none⟩) n cap) n (L.map enc) := by rw [hfl, hLv]; exact hown
  have hH : Holds enc w g 0 L.toArray := holds_owned hLl hown2
  have hsz : L.toArray.size = n := by simp [hLl]
  have hcmp : CmpLays1 Tryz.prog 75 #[.pointer (some ⟨b, 0, none⟩)] enc cf g 0 L.toArray.size w := by
    intro m os dk _ x y
    have hgr : w.grownBy (sortWorld enc w g 0 m dk os) (some g) := put_grown dk
    have hc2 : (sortWorld enc w g 0 m dk os).cell? ⟨b, 0, none⟩ = some v := hgr.cell hc (fun e => hbg (by cases e; rfl))
    have hv2 : IntsAt (sortWorld enc w g 0 m dk os) v h := by
      obtain ⟨p, c, hve, h1, h2, hx⟩ := hv
      refine ⟨p, c, hve, h1, h2, fun i hi => ?_⟩
      obtain ⟨bb, off, e1, e2⟩ := hx i hi
      refine ⟨bb, off, e1, hgr.cell e2 fun e => ?_⟩
      have := hvg bb (by rw [hve, e1]; rfl)
      cases e
      exact this rfl
    have hcl := ord_closure b h v x.val y.val _ hc2 hv2 (by omega) (by omega) hbd
    have e1 : enc x = .int .i64 (x.val : Int) := by rw [henc]
    have e2 : enc y = .int .i64 (y.val : Int) := by rw [henc]
    have e3 : cf x y = h.getD x.val 0 - h.getD y.val 0 := by rw [hcf]
    show Calls _ _ #[enc x, enc y, .pointer (some ⟨b, 0, none⟩)] _ _
    rw [e1, e2, e3]
    exact hcl.mono fun e w' ⟨he, q, hw⟩ => ⟨he, q, #[], by rw [hw, grow_empty]⟩
  have hcall := Tryz.slices_SortFunc_total_f74 enc (by rw [henc]; exact fun i => rfl) cf hO 75 #[.pointer (some ⟨b, 0, none⟩)] g 0 cap L.toArray w eg hcmp hH hg (by rw [hsz]; omega) hT
  rw [hsz] at hcall
  refine hcall.mono fun e w' ⟨he, q, os, hw⟩ => ?_
  have hperm := List.mergeSort_perm L.toArray.toList (fun x y => !(ltOf cf) y x)
  have hpw := List.pairwise_mergeSort (le := fun x y : Fin (k + 1) => !(ltOf cf) y x) (fun x y z h1 h2 => by
    simp only [Bool.not_eq_true'] at *
    exact hO.ntrans z y x h2 h1) (fun x y => by
    cases h1 : ltOf cf y x with
    | false => rfl
    | true =>
      cases h2 : ltOf cf x y with
      | false => rfl
      | true => have := hO.trans _ _ _ h1 h2; rw [hO.irrefl] at this; cases this) L.toArray.toList
  generalize L.toArray.toList.mergeSort (fun x y => !(ltOf cf) y x) = ml at hw hperm hpw
  have hml : ml.length = n := by rw [hperm.length_eq]; simp [hLl]
  have hmnd : ml.Nodup := hperm.nodup_iff.2 (by
    show L.Nodup
    rw [hL]
    exact List.nodup_iff_pairwise_ne.2 (List.pairwise_iff_getElem.2 fun i j hi hj hij e => by
      simp only [List.getElem_ofFn, Fin.mk.injEq] at e
      omega))
  subst hw
  refine ⟨he, put_grown _, ml.map (fun i : Fin (k + 1) => i.val), ?_, ?_, ?_⟩
  · have := hperm.map (fun i : Fin (k + 1) => i.val)
    rwa [show L.toArray.toList.map (fun i : Fin (k + 1) => i.val) = List.range n from hLv] at this
  · rw [List.pairwise_map]
    refine (hpw.and hmnd).imp fun {x y} hxy => ?_
    have h1 := hxy.1
    simp only [Bool.not_eq_true'] at h1
    rw [hlt] at h1
    simp only [decide_eq_false_iff_not] at h1
    have : h.getD x.val 0 ≠ h.getD y.val 0 := fun e => hxy.2 (Fin.ext (nod_inj' hnd (by omega) (by omega) e))
    omega
  · have h2 := put_owns (enc := enc) (q := q) (os := os) ml n hml (Nat.le_refl _) hown2
    rw [List.take_of_length_le (by rw [hml]; exact Nat.le_refl _), hfl] at h2
    exact h2

set_option maxRecDepth 100000 in
set_option maxHeartbeats 8000000 in
theorem facesO_any (a : Nat → Addr) (B : Nat) (L : List (List Int)) (v : Value) (w : World) (hS : Sents w a) (hB : B ≤ w.heap.size) (hv : ListsIn B w v L) (hn : L.length ≤ 100000) (hl : ∀ l ∈ L, l.length ≤ 100000) (he : errX L = 0) :
    Calls Tryz.prog 76 #[.agg #[v], .int .i64 1] w (fun e w' => Below w.heap.size w w' ∧ ∃ u, e = .returned (.tuple #[u, .nilIface]) ∧ RowsO w.heap.size B w' u (dimF (allF L) 1)) := by
  obtain ⟨pv, cv, hve, -⟩ := id hv
  obtain ⟨n, hLn⟩ : ∃ n, L.length = n := ⟨_, rfl⟩
  rw [hLn] at hve
  subst hve
  have hb0 : Below w.heap.size w (w.alloc (.cells #[.slice pv n cv] 34)) := (Below.refl _ _).alloc (Nat.le_refl _) _
  have HB0 := Lib.hid hb0
  have HC := Lib.hid (table_ok a B L (.slice pv n cv) _ (hS.below hb0 (Nat.le_refl _)) (Nat.le_trans hB hb0.size) (hv.below hb0 (Nat.le_refl _)) hn hl he)
  unfold TabPost at HC
  have HE := Lib.hid he
  have hwl : Hid (w.heap.size ≤ (w.alloc (.cells #[.slice pv n cv] 34)).heap.size) := by unfold Hid; simp
  clear hS hB hv hn hl hb0 hLn he
  go_enter Tryz.func76, Tryz.ntmps76
  go_wp2_with fail
  refine HC.out.mono ?_
  rintro e w1 ⟨hb1, ⟨he, v1, rfl, hT⟩ | ⟨k, hk, hek, rfl⟩⟩
  rotate_left
  · have := HE.out; omega
  have HB1 := Lib.hid (HB0.out.trans (hb1.mono HB0.out.size))
  have hm7 := topN_7 (errX_ok he).1
  obtain ⟨hs, hTH⟩ := hT
  obtain ⟨p1, c1, hve, -⟩ := id (show TabO _ _ _ _ _ from ⟨hs, hTH⟩).tab
  rw [tableF_len] at hve
  obtain ⟨m, hm⟩ : ∃ m, topN (allF L) = m := ⟨_, rfl⟩
  rw [hm] at hve hm7
  have HM := Lib.hid hm
  have HTH := Lib.hid hTH
  subst hve
  clear hb1 he hTH hm
  by_cases hd2 : m ≤ 1
  · have q2 : decide ((m : Int) ≤ 1) = true := decide_eq_true (by omega)
    have q3 : decide (m ≤ 1) = true := decide_eq_true hd2
    have q4 : decide ((1 : Int) ≥ (m : Int)) = true := decide_eq_true (by omega)
    go_wp2_with fail
    go_ret2
    refine ⟨HB1.out, _, rfl, ?_⟩
    rw [dimF_none (Or.inr (by rw [HM.out]; omega))]
    exact RowsO.nil _ _ _
  · have q2 : decide ((m : Int) ≤ 1) = false := decide_eq_false (by omega)
    have q3 : decide (m ≤ 1) = false := decide_eq_false hd2
    have q4 : decide ((1 : Int) ≥ (m : Int)) = false := decide_eq_false (by omega)
    have hlen : (tableF (allF L)).length = m := by rw [tableF_len, HM.out]
    obtain ⟨h1, h2, h3, h4⟩ := HTH.out
    rw [hlen] at h1 h2
    obtain ⟨g, cap, hge⟩ := Joins.ownsRow_form h1 (by omega)
    cases hge
    have hcell := h1.cells (g := g) rfl 1 (hs.getD 1 .nilIface) (by rw [List.getD_eq_getElem?_getD, List.getElem?_eq_getElem (by omega)]; rfl)
    rw [add_zero] at hcell
    have hrow := h3 1 (by rw [hlen]; omega)
    rw [tableF_at (by rw [HM.out]; omega), ← dimF_nat] at hrow
    have HRW := Lib.hid (hrow.le hwl.out)
    obtain ⟨u, hu⟩ : ∃ u, hs.getD 1 .nilIface = u := ⟨_, rfl⟩
    rw [hu] at hcell HRW
    have hm1 : 1 < m := by omega
    clear h1 h2 h3 h4 hrow hd2 hlen hu
    go_wp2_with fail
    go_ret2
    exact ⟨HB1.out, _, rfl, HRW.out⟩

def HillB (w : World) (k : Nat) (a b c d : Value) : Prop := w.heap[k]? = some (.cells #[a, b, c, d] 75 (0, 0))
theorem HillB.all {w : World} {k : Nat} {a b c d : Value} (h : HillB w k a b c d) : w.cell? ⟨k, 0, none⟩ = some a ∧ w.cell? ⟨k, 1, none⟩ = some b ∧ w.cell? ⟨k, 2, none⟩ = some c ∧ w.cell? ⟨k, 3, none⟩ = some d ∧ w.frozen? ⟨k, 0, none⟩ = false ∧ w.frozen? ⟨k, 1, none⟩ = false ∧ w.frozen? ⟨k, 2, none⟩ = false ∧ w.frozen? ⟨k, 3, none⟩ = false := by
  unfold HillB at h
  simp [World.cell?, World.frozen?, h]
theorem HillB.set1 {w : World} {k : Nat} {a b c d : Value} (h : HillB w k a b c d) (u : Value) : HillB (w.setCell ⟨k, 1, none⟩ u) k a u c d := by
  unfold HillB at *; simp [World.setCell, Array.getElem?_modify, h]
theorem HillB.set2 {w : World} {k : Nat} {a b c d : Value} (h : HillB w k a b c d) (u : Value) : HillB (w.setCell ⟨k, 2, none⟩ u) k a b u d := by
  unfold HillB at *; simp [World.setCell, Array.getElem?_modify, h]
theorem HillB.set3 {w : World} {k : Nat} {a b c d : Value} (h : HillB w k a b c d) (u : Value) : HillB (w.setCell ⟨k, 3, none⟩ u) k a b c u := by
  unfold HillB at *; simp [World.setCell, Array.getElem?_modify, h]
theorem HillB.kept {w w' : World} {k : Nat} {a b c d : Value} (h : HillB w k a b c d) (e : w'.heap[k]? = w.heap[k]?) : HillB w' k a b c d := e.trans h
theorem HillB.lt {w : World} {k : Nat} {a b c d : Value} (h : HillB w k a b c d) : k < w.heap.size := (Array.getElem?_eq_some_iff.1 h).1
theorem owns_set {w : World} {O k j : Nat} {e : TypeId} {sz n : Nat} {v u : Value} {xs : List Value} (h : w.ownsRow O e sz v n xs) (hk : k < O) : (w.setCell ⟨k, j, none⟩ u).ownsRow O e sz v n xs :=
  owns_keep h fun q hq => Below.heap_setCell _ _ _ _ (by have := (h.lt q hq).1; simp; omega)
theorem set_grown (w : World) (k j : Nat) (u : Value) : w.grownBy (w.setCell ⟨k, j, none⟩ u) (some k) := ⟨rfl, rfl, rfl, by simp [World.setCell], fun q _ hq => Below.heap_setCell _ _ _ _ (fun e => hq (by simp [e]))⟩
theorem rowsO_grown {O B k : Nat} {w w' : World} {v : Value} {L : List (List Int)} {a b c d : Value} (h : RowsO O B w v L) (hk : HillB w k a b c d) (hkO : k < O) (hB : B ≤ k) (hg : w.grownBy w' (some k)) : RowsO O B w' v L := by
  obtain ⟨hs, h1, h2, h3⟩ := h
  refine ⟨hs, owns_keep h1 fun q hq => hg.block q (h1.lt q hq).2 (fun e => by have := (h1.lt q hq).1; cases e; omega), h2, fun i hi => (h3 i hi).grown hg fun q e => ?_⟩
  cases e
  exact ⟨hB, fun c e => by unfold HillB at hk; rw [hk] at e; cases e⟩
theorem ints_grown {B k : Nat} {w w' : World} {v : Value} {L : List Int} {a b c d : Value} (h : IntsIn B w v L) (hk : HillB w k a b c d) (hB : B ≤ k) (hg : w.grownBy w' (some k)) : IntsIn B w' v L :=
  h.grown hg fun q e => by
    cases e
    exact ⟨hB, fun c e => by unfold HillB at hk; rw [hk] at e; cases e⟩
theorem grown_tr {a w w' : World} {row : Option Nat} (h : a.grownBy w row) (k : w.grownBy w' row) : a.grownBy w' row :=
  ⟨k.os.trans h.os, k.tape.trans h.tape, k.output.trans h.output, Nat.le_trans h.size k.size, fun i hi hr => (k.block i (Nat.lt_of_lt_of_le hi h.size) hr).trans (h.block i hi hr)⟩
theorem below_grown2 {k : Nat} {w w' : World} (h : Below k w w') (hk : k < w.heap.size) (hx : ∀ q, k < q → q < w.heap.size → w'.heap[q]? = w.heap[q]?) : w.grownBy w' (some k) := by
  refine ⟨h.os, h.tape, h.output, h.size, fun i hi hr => ?_⟩
  rcases Nat.lt_trichotomy i k with h1 | h1 | h1
  · exact h.block i h1
  · exact absurd (by rw [h1]) hr
  · exact hx i h1 hi
end Go.Proofs.YtddnjimpdidpaaaGreatDoor
