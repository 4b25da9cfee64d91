/-
  A map from vertices to heights: its block, a look-up, one entry more; the closure of index.Indices over it.
-/
import Derived.Test.YtddnjimpdidpaaaGreatDoorIxD
import Derived.Maps.OwnOps
import Derived.ChangeMaps5
set_option linter.unusedSimpArgs false
set_option linter.unusedVariables false
namespace Go.Proofs.YtddnjimpdidpaaaGreatDoor
open Go Go.RowKit Go.Maps
open Go.ChangeMaps (setBlock heap_setBlock_same heap_setBlock_other)

theorem zero_intI (w : World) : (zeroValue 3).run Tryz.prog w = .ok (.int .i64 0) w := by kernel_rfl
theorem keyI : Keyed Tryz.prog 3 := int_keyed Tryz.underlying3
theorem wf_n {x : Int} (h0 : -9223372036854775808 ≤ x) (h1 : x ≤ 9223372036854775807) : (Lit.int .i64 x).wf = true := by
  simp [Lit.wf]; first | exact ⟨h0, h1⟩ | (unfold IntKind.min IntKind.max; simp [IntKind.signed, IntKind.bits]; omega) | omega
def InI (x : Int) : Prop := -9223372036854775808 ≤ x ∧ x ≤ 9223372036854775807
theorem keyOfI {x : Int} (h : InI x) : keyOf Tryz.prog 3 (.int .i64 x) = some (.int .i64 x) := keyOf_int_mk Tryz.underlying3 (wf_n h.1 h.2)
/-- the entries: vertices in order, each with its height -/
def htE (V h : List Int) : Array MapEntry := (V.zipIdx.map fun p => (⟨.int .i64 p.1, .int .i64 (h.getD p.2 0), p.2⟩ : MapEntry)).toArray
theorem htE_push (V h : List Int) (q : Int) : htE (V ++ [q]) h = (htE V h).push ⟨.int .i64 q, .int .i64 (h.getD V.length 0), V.length⟩ := by
  unfold htE
  rw [List.zipIdx_append, List.map_append]
  simp
theorem htE_at {V h : List Int} {j : Nat} {e : MapEntry} (he : (htE V h).toList[j]? = some e) : ∃ a, V[j]? = some a ∧ e.key = .int .i64 a ∧ e.val = .int .i64 (h.getD j 0) := by
  unfold htE at he
  rw [List.getElem?_map, List.getElem?_zipIdx] at he
  cases hL : V[j]? with
  | none => rw [hL] at he; cases he
  | some a =>
    rw [hL] at he
    simp only [Option.map_some, Option.some.injEq, Nat.zero_add] at he
    subst he
    exact ⟨a, rfl, rfl, rfl⟩
theorem htE_has {V h : List Int} {a : Int} (hm : a ∈ V) : ∃ e ∈ (htE V h).toList, e.key = .int .i64 a := by
  obtain ⟨i, hi, rfl⟩ := List.getElem_of_mem hm
  refine ⟨⟨.int .i64 V[i], .int .i64 (h.getD i 0), i⟩, ?_, rfl⟩
  unfold htE
  simp only [List.mem_map]
  exact ⟨(V[i], i), by rw [List.mem_zipIdx_iff_getElem?]; simp [hi], rfl⟩
/-- block b of w is the map from each vertex to its height -/
def HtMap (w : World) (b : Nat) (V h : List Int) : Prop := w.heap[b]? = some (.map (htE V h) V.length)
theorem HtMap.made (w : World) (h : List Int) : HtMap (w.alloc (.map #[] 0)) w.heap.size [] h := heap_alloc_new w _
theorem ht_keys {V h : List Int} (hs : ∀ a ∈ V, InI a) : ∀ e ∈ (htE V h).toList, ∃ l, keyOf Tryz.prog 3 e.key = some l := fun e he => by
  obtain ⟨j, hj⟩ := List.mem_iff_getElem?.1 he
  obtain ⟨a, ha, hk, -⟩ := htE_at hj
  rw [hk]
  exact ⟨_, keyOfI (hs a (List.mem_of_getElem? ha))⟩
theorem HtMap.look {w : World} {b : Nat} {V h : List Int} (hm : HtMap w b V h) (hs : ∀ a ∈ V, InI a) {x : Int} (hx : x ∈ V) (hn : V.Nodup) :
    (Instr.lookup 90 (.map (some b)) (.int .i64 x) false).run Tryz.prog w = .ok (.int .i64 (hiF V h x)) w := by
  have hl := keyOfI (hs x hx)
  have hc := fun em => keyI.check w em hl
  rcases keyI.find w hl (htE V h).toList (ht_keys hs) with ⟨h1, h2⟩ | ⟨j, e, h1, h2, h3⟩
  · obtain ⟨e, he, hk⟩ := htE_has (h := h) hx
    exact absurd hk (h2 e he)
  · obtain ⟨a, ha, hk, hv⟩ := htE_at h2
    have e1 : a = x := by
      have := hk.symm.trans h3
      simpa using this
    subst e1
    obtain ⟨hj, ha⟩ := List.getElem?_eq_some_iff.1 ha
    have e2 : hiF V h a = h.getD j 0 := by
      unfold hiF
      have : V.idxOf a = j := by
        rw [← ha]
        exact hn.idxOf_getElem j hj
      rw [this]
    rw [hv] at h1
    rw [e2]
    simp [Instr.lookup, run_underlying Tryz.underlying90, MapKept.run_getObj_map hm, hc, h1, Result.andThen]
theorem HtMap.put {w : World} {b : Nat} {V h : List Int} (hm : HtMap w b V h) (hs : ∀ a ∈ V, InI a) {x : Int} (hx : InI x) (hn : x ∉ V) :
    ∃ W, (Instr.mapUpdate 90 (.map (some b)) (.int .i64 x) (.int .i64 (h.getD V.length 0))).run Tryz.prog w = .ok () W ∧ HtMap W b (V ++ [x]) h ∧ w.grownBy W (some b) := by
  have hl := keyOfI hx
  have hc := fun em => keyI.check w em hl
  have hb := hm
  unfold HtMap at hb
  rcases keyI.find w hl (htE V h).toList (ht_keys hs) with ⟨h1, h2⟩ | ⟨j, e, h1, h2, h3⟩
  · refine ⟨setBlock w b (.map ((htE V h).push ⟨.int .i64 x, .int .i64 (h.getD V.length 0), V.length⟩) (V.length + 1)), ?_, ?_, ?_⟩
    · simp [Instr.mapUpdate, run_underlying Tryz.underlying90, MapKept.run_getObj_map hb, hc, h1, MapKept.run_setObj_map _ hb, Result.andThen, setBlock]
    · unfold HtMap
      rw [List.length_append, htE_push]
      exact heap_setBlock_same hb _
    · exact ⟨rfl, rfl, rfl, by simp [setBlock], fun i _ hi => heap_setBlock_other hb _ (fun e => hi (by rw [e]))⟩
  · obtain ⟨a', ha', hk, -⟩ := htE_at h2
    have e1 : a' = x := by
      have := hk.symm.trans h3
      simpa using this
    exact absurd (e1 ▸ List.mem_of_getElem? ha') hn
theorem HtMap.lt {w : World} {b : Nat} {V h : List Int} (hm : HtMap w b V h) : b < w.heap.size := (Array.getElem?_eq_some_iff.1 hm).1
theorem HtMap.below {C : Nat} {w w' : World} {b : Nat} {V h : List Int} (hm : HtMap w b V h) (hb : Below C w w') (hC : w.heap.size ≤ C) : HtMap w' b V h := (hb.block b (Nat.lt_of_lt_of_le hm.lt hC)).trans hm

set_option maxRecDepth 100000 in
set_option maxHeartbeats 4000000 in
theorem indices1_any (V h : List Int) (x y : Int) (c b : Nat) (w : World) (hc : w.cell? ⟨c, 0, none⟩ = some (.map (some b))) (hm : HtMap w b V h) (hs : ∀ a ∈ V, InI a) (hn : V.Nodup) (hx : x ∈ V) (hy : y ∈ V) (hb : ∀ z ∈ V, -1048576 ≤ hiF V h z ∧ hiF V h z ≤ 1048576) :
    Calls Tryz.prog 51 #[.int .i64 x, .int .i64 y, .pointer (some ⟨c, 0, none⟩)] w fun e w' => e = .returned (.int .i64 (hiF V h x - hiF V h y)) ∧ Below w.heap.size w w' := by
  have l1 := hm.look hs hx hn
  have l2 := hm.look hs hy hn
  obtain ⟨b1, b2⟩ := hb x hx
  obtain ⟨b3, b4⟩ := hb y hy
  obtain ⟨p, hp⟩ : ∃ p, hiF V h x = p := ⟨_, rfl⟩
  obtain ⟨q, hq⟩ : ∃ q, hiF V h y = q := ⟨_, rfl⟩
  rw [hp] at l1 b1 b2 ⊢
  rw [hq] at l2 b3 b4 ⊢
  have m1 : IntKind.i64.wrap (p - q) = p - q := IntWalk.i64_in _ (by omega)
  clear hm hs hn hx hy hb hp hq
  go_enter Tryz.func51, Tryz.ntmps51
  go_wp2_with fail
  go_ret
  exact ⟨rfl, Below.refl _ _⟩
end Go.Proofs.YtddnjimpdidpaaaGreatDoor
