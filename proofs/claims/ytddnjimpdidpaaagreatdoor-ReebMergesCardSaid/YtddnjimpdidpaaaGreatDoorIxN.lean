/-
  A map from vertices to heights: its block, a look-up, one entry more; the closure of index.Indices over it.
  slices.MaxFunc over the closure of index.Indices: the highest vertex of a face.
-/
import Derived.Test.YtddnjimpdidpaaaGreatDoorIxD
import Derived.Maps.OwnOps
import Derived.ChangeMaps5
set_option linter.unusedSimpArgs false
set_option linter.unusedVariables false
namespace Go.Proofs.YtddnjimpdidpaaaGreatDoor
open Go Go.RowKit Go.Maps

open Go.ChangeMaps (setBlock heap_setBlock_same heap_setBlock_other)

theorem zero_intI (w : World) : (zeroValue 3).run Tryz.prog w = .ok (.int .i64 0) w := by kernel_rfl
theorem keyI : Keyed Tryz.prog 3 := int_keyed Tryz.underlying3
theorem wf_n {x : Int} (h0 : -9223372036854775808 ≤ x) (h1 : x ≤ 9223372036854775807) : (Lit.int .i64 x).wf = true := by
  simp [Lit.wf]; first | exact ⟨h0, h1⟩ | (unfold IntKind.min IntKind.max; simp [IntKind.signed, IntKind.bits]; omega) | omega
def InI (x : Int) : Prop := -9223372036854775808 ≤ x ∧ x ≤ 9223372036854775807
theorem keyOfI {x : Int} (h : InI x) : keyOf Tryz.prog 3 (.int .i64 x) = some (.int .i64 x) := keyOf_int_mk Tryz.underlying3 (wf_n h.1 h.2)
/-- the entries: vertices in order, each with its height -/
def htE (V h : List Int) : Array MapEntry := (V.zipIdx.map fun p => (⟨.int .i64 p.1, .int .i64 (h.getD p.2 0), p.2⟩ : MapEntry)).toArray
theorem htE_push (V h : List Int) (q : Int) : htE (V ++ [q]) h = (htE V h).push ⟨.int .i64 q, .int .i64 (h.getD V.length 0), V.length⟩ := by
  unfold htE
  rw [List.zipIdx_append, List.map_append]
  simp
theorem htE_at {V h : List Int} {j : Nat} {e : MapEntry} (he : (htE V h).toList[j]? = some e) : ∃ a, V[j]? = some a ∧ e.key = .int .i64 a ∧ e.val = .int .i64 (h.getD j 0) := by
  unfold htE at he
  rw [List.getElem?_map, List.getElem?_zipIdx] at he
  cases hL : V[j]? with
  | none => rw [hL] at he; cases he
  | some a =>
    rw [hL] at he
    simp only [Option.map_some, Option.some.injEq, Nat.zero_add] at he
    subst he
    exact ⟨a, rfl, rfl, rfl⟩
theorem htE_has {V h : List Int} {a : Int} (hm : a ∈ V) : ∃ e ∈ (htE V h).toList, e.key = .int .i64 a := by
  obtain ⟨i, hi, rfl⟩ := List.getElem_of_mem hm
  refine ⟨⟨.int .i64 V[i], .int .i64 (h.getD i 0), i⟩, ?_, rfl⟩
  unfold htE
  simp only [List.mem_map]
  exact ⟨(V[i], i), by rw [List.mem_zipIdx_iff_getElem?]; simp [hi], rfl⟩
/-- block b of w is the map from each vertex to its height -/
def HtMap (w : World) (b : Nat) (V h : List Int) : Prop := w.heap[b]? = some (.map (htE V h) V.length)
theorem HtMap.made (w : World) (h : List Int) : HtMap (w.alloc (.map #[] 0)) w.heap.size [] h := heap_alloc_new w _
theorem ht_keys {V h : List Int} (hs : ∀ a ∈ V, InI a) : ∀ e ∈ (htE V h).toList, ∃ l, keyOf Tryz.prog 3 e.key = some l := fun e he => by
  obtain ⟨j, hj⟩ := List.mem_iff_getElem?.1 he
  obtain ⟨a, ha, hk, -⟩ := htE_at hj
  rw [hk]
  exact ⟨_, keyOfI (hs a (List.mem_of_getElem? ha))⟩
theorem HtMap.look {w : World} {b : Nat} {V h : List Int} (hm : HtMap w b V h) (hs : ∀ a ∈ V, InI a) {x : Int} (hx : x ∈ V) (hn : V.Nodup) :
    (Instr.lookup 90 (.map (some b)) (.int .i64 x) false).run Tryz.prog w = .ok (.int .i64 (hiF V h x)) w := by
  have hl := keyOfI (hs x hx)
  have hc := fun em => keyI.check w em hl
  rcases keyI.find w hl (htE V h).toList (ht_keys hs) with ⟨h1, h2⟩ | ⟨j, e, h1, h2, h3⟩
  · obtain ⟨e, he, hk⟩ := htE_has (h := h) hx
    exact absurd hk (h2 e he)
  · obtain ⟨a, ha, hk, hv⟩ := htE_at h2
    have e1 : a = x := by
      have := hk.symm.trans h3
      simpa using this
    subst e1
    obtain ⟨hj, ha⟩ := List.getElem?_eq_some_iff.1 ha
    have e2 : hiF V h a = h.getD j 0 := by
      unfold hiF
      have : V.idxOf a = j := by
        rw [← ha]
        exact hn.idxOf_getElem j hj
      rw [this]
    rw [hv] at h1
    rw [e2]
    simp [Instr.lookup, run_underlying Tryz.underlying90, MapKept.run_getObj_map hm, hc, h1, Result.andThen]
theorem HtMap.put {w : World} {b : Nat} {V h : List Int} (hm : HtMap w b V h) (hs : ∀ a ∈ V, InI a) {x : Int} (hx : InI x) (hn : x ∉ V) :
    ∃ W, (Instr.mapUpdate 90 (.map (some b)) (.int .i64 x) (.int .i64 (h.getD V.length 0))).run Tryz.prog w = .ok () W ∧ HtMap W b (V ++ [x]) h ∧ w.grownBy W (some b) := by
  have hl := keyOfI hx
  have hc := fun em => keyI.check w em hl
  have hb := hm
  unfold HtMap at hb
  rcases keyI.find w hl (htE V h).toList (ht_keys hs) with ⟨h1, h2⟩ | ⟨j, e, h1, h2, h3⟩
  · refine ⟨setBlock w b (.map ((htE V h).push ⟨.int .i64 x, .int .i64 (h.getD V.length 0), V.length⟩) (V.length + 1)), ?_, ?_, ?_⟩
    · simp [Instr.mapUpdate, run_underlying Tryz.underlying90, MapKept.run_getObj_map hb, hc, h1, MapKept.run_setObj_map _ hb, Result.andThen, setBlock]
    · unfold HtMap
      rw [List.length_append, htE_push]
      exact heap_setBlock_same hb _
    · exact ⟨rfl, rfl, rfl, by simp [setBlock], fun i _ hi => heap_setBlock_other hb _ (fun e => hi (by rw [e]))⟩
  · obtain ⟨a', ha', hk, -⟩ := htE_at h2
    have e1 : a' = x := by
      have := hk.symm.trans h3
      simpa using this
    exact absurd (e1 ▸ List.mem_of_getElem? ha') hn
theorem HtMap.lt {w : World} {b : Nat} {V h : List Int} (hm : HtMap w b V h) : b < w.heap.size := (Array.getElem?_eq_some_iff.1 hm).1
theorem HtMap.below {C : Nat} {w w' : World} {b : Nat} {V h : List Int} (hm : HtMap w b V h) (hb : Below C w w') (hC : w.heap.size ≤ C) : HtMap w' b V h := (hb.block b (Nat.lt_of_lt_of_le hm.lt hC)).trans hm

set_option maxRecDepth 100000 in
set_option maxHeartbeats 4000000 in
theorem indices1_any (V h : List Int) (x y : Int) (c b : Nat) (w : World) (hc : w.cell? ⟨c, 0, none⟩ = some (.map (some b))) (hm : HtMap w b V h) (hs : ∀ a ∈ V, InI a) (hn : V.Nodup) (hx : x ∈ V) (hy : y ∈ V) (hb : ∀ z ∈ V, -1048576 ≤ hiF V h z ∧ hiF V h z ≤ 1048576) :
    Calls Tryz.prog 51 #[.int .i64 x, .int .i64 y, .pointer (some ⟨c, 0, none⟩)] w fun e w' => e = .returned (.int .i64 (hiF V h x - hiF V h y)) ∧ Below w.heap.size w w' := by
  have l1 := hm.look hs hx hn
  have l2 := hm.look hs hy hn
  obtain ⟨b1, b2⟩ := hb x hx
  obtain ⟨b3, b4⟩ := hb y hy
  obtain ⟨p, hp⟩ : ∃ p, hiF V h x = p := ⟨_, rfl⟩
  obtain ⟨q, hq⟩ : ∃ q, hiF V h y = q := ⟨_, rfl⟩
  rw [hp] at l1 b1 b2 ⊢
  rw [hq] at l2 b3 b4 ⊢
  have m1 : IntKind.i64.wrap (p - q) = p - q := IntWalk.i64_in _ (by omega)
  clear hm hs hn hx hy hb hp hq
  go_enter Tryz.func51, Tryz.ntmps51
  go_wp2_with fail
  go_ret
  exact ⟨rfl, Below.refl _ _⟩

set_option maxRecDepth 100000 in
set_option maxHeartbeats 4000000 in
theorem maxFunc_any (B : Nat) (V h f : List Int) (u : Value) (c b : Nat) (w : World) (hu : IntsIn B w u f) (hc : w.cell? ⟨c, 0, none⟩ = some (.map (some b))) (hm : HtMap w b V h) (hs : ∀ a ∈ V, InI a) (hn : V.Nodup) (hf : ∀ x ∈ f, x ∈ V) (hb : ∀ z ∈ V, -1048576 ≤ hiF V h z ∧ hiF V h z ≤ 1048576) (hp : 0 < f.length) (hlen : f.length ≤ 1000) :
    Calls Tryz.prog 50 #[u, .func (.func 51) #[] #[.pointer (some ⟨c, 0, none⟩)]] w fun e w' => ∃ v, e = .returned (.int .i64 v) ∧ Below w.heap.size w w' ∧ v ∈ f ∧ ∀ y ∈ f, hiF V h y ≤ hiF V h v := by
  have HCL := Lib.hid (fun wx (hx : Below w.heap.size w wx) x y (hxV : x ∈ V) (hyV : y ∈ V) => indices1_any V h x y c b wx ((hx.cell (p := ⟨c, 0, none⟩) (mem_lt hc)).trans hc) (hm.below hx (Nat.le_refl _)) hs hn hxV hyV hb)
  obtain ⟨b0, o0, cp, hve, hc0⟩ := ints_cell hu 0 hp
  obtain ⟨n, hnn⟩ : ∃ n, f.length = n := ⟨_, rfl⟩
  rw [hnn] at hve hp hlen
  subst hve
  have HN := Lib.hid hnn
  have HU := Lib.hid hu
  have HF := Lib.hid hf
  obtain ⟨z, hz⟩ : ∃ z, f.getD 0 0 = z := ⟨_, rfl⟩
  rw [hz, Nat.add_zero] at hc0
  have HZ : Hid (z ∈ f) := by unfold Hid; rw [← hz, getD_elem (by rw [hnn]; exact hp)]; exact List.getElem_mem _
  have HZ2 := Lib.hid hz
  obtain ⟨hi, hhi⟩ : ∃ g, hiF V h = g := ⟨_, rfl⟩
  rw [hhi] at HCL ⊢
  clear hu hc hm hs hn hf hb hnn hz hhi
  go_enter Tryz.func50, Tryz.ntmps50
  go_wp2_with fail
  go_loopw [5, 6] (fun mv i wr => ∃ (j : Nat) (v : Int), 1 ≤ j ∧ j ≤ n ∧ i = .int .i64 (j : Int) ∧ mv = .int .i64 v ∧ Below w.heap.size w wr ∧ v ∈ f ∧ ∀ t, t < j → hi (f.getD t 0) ≤ hi v) (fun _ i _ => n - (intOf i).toNat)
  case atStart =>
    refine ⟨1, z, Nat.le_refl _, hp, rfl, rfl, Below.refl _ _, HZ.out, fun t ht => ?_⟩
    obtain rfl : t = 0 := by omega
    rw [HZ2.out]; exact Int.le_refl _
  case round =>
    obtain ⟨j, v, hj1, hj, rfl, rfl, hb, hvf, hle⟩ := hrel
    have HBR := Lib.hid hb
    have HLE := Lib.hid hle
    have HVF := Lib.hid hvf
    by_cases hjn : j < n
    · obtain ⟨b1, o1, c', e1, e2⟩ := ints_cell (HU.out.below hb (Nat.le_refl _)) j (by rw [HN.out]; exact hjn)
      rw [HN.out] at e1
      obtain ⟨rfl, rfl, rfl⟩ : b0 = b1 ∧ o0 = o1 ∧ cp = c' := by cases e1; exact ⟨rfl, rfl, rfl⟩
      have hxf : f.getD j 0 ∈ f := by rw [getD_elem (by rw [HN.out]; exact hjn)]; exact List.getElem_mem _
      obtain ⟨x, hx⟩ : ∃ x, f.getD j 0 = x := ⟨_, rfl⟩
      rw [hx] at e2 hxf
      have HX := Lib.hid hx
      have HXF := Lib.hid hxf
      have HC := Lib.hid (HCL.out wr hb x v (HF.out x hxf) (HF.out v hvf))
      have hlt := mem_lt e2
      have HE2 := Lib.hid e2
      clear hb hle hvf e1 hx hxf
      go_wp2_with fail
      refine HC.out.mono ?_
      rintro e w2 ⟨rfl, hb2⟩
      have HB2 := Lib.hid (HBR.out.trans (hb2.mono HBR.out.size))
      have e3 := (hb2.cell (p := ⟨b0, o0 + j, none⟩) hlt).trans HE2.out
      clear hb2 HC e2
      by_cases hgt : hi v < hi x
      · have g1 : decide (hi v < hi x) = true := decide_eq_true hgt
        have HST : Hid (∀ t, t < j + 1 → hi (f.getD t 0) ≤ hi x) := fun t ht => by
          rcases (show t < j ∨ t = j by omega) with h1 | rfl
          · have := HLE.out t h1; omega
          · rw [HX.out]; exact Int.le_refl _
        clear hgt
        go_wp2_with fail
        go_roundw
        case rel => exact ⟨j + 1, x, by omega, hjn, by go_num, rfl, HB2.out, HXF.out, HST.out⟩
        case measure => simp [intOf]; omega
      · have g1 : decide (hi v < hi x) = false := decide_eq_false hgt
        have HST : Hid (∀ t, t < j + 1 → hi (f.getD t 0) ≤ hi v) := fun t ht => by
          rcases (show t < j ∨ t = j by omega) with h1 | rfl
          · exact HLE.out t h1
          · rw [HX.out]; omega
        clear hgt
        go_wp2_with fail
        go_roundw
        case rel => exact ⟨j + 1, v, by omega, hjn, by go_num, rfl, HB2.out, HVF.out, HST.out⟩
        case measure => simp [intOf]; omega
    · obtain rfl : n = j := by omega
      clear hb hle hvf
      go_wp2_with fail
      go_ret
      refine ⟨v, rfl, HBR.out, HVF.out, fun y hy => ?_⟩
      obtain ⟨t, ht, rfl⟩ := List.getElem_of_mem hy
      have := HLE.out t (by rw [← HN.out]; exact ht)
      rwa [getD_elem ht] at this
end Go.Proofs.YtddnjimpdidpaaaGreatDoor
