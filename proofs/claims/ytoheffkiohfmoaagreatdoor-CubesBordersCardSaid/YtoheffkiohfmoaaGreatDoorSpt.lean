/-
  Spots: as keys of a map that counts what was seen (each once); the map's block, its look-ups, one key more.
-/
import Derived.Test.YtoheffkiohfmoaaGreatDoorStr
import Derived.Maps.Keyed
import Derived.WideKeyEntry
import Derived.DeepKeys4
import Derived.ChangeMaps5
set_option linter.unusedSimpArgs false
set_option linter.unusedVariables false
namespace Go.Proofs.YtoheffkiohfmoaaGreatDoor
open Go Go.RowKit Go.Maps FL
open Go.ChangeMaps (setBlock heap_setBlock_same heap_setBlock_other)
open Go.WideElems (findIdx_born findIdx_arr modify_last)

def spV (x y : Int) : Value := .agg #[.int .i64 x, .int .i64 y]
def spN (q : Sq) : Value := spV (q.1 : Int) (q.2 : Int)
theorem spN_inj {p q : Sq} (h : spN p = spN q) : p = q := by
  unfold spN spV at h
  simp at h
  exact Prod.ext (by omega) (by omega)
theorem zero_intS (w : World) : (zeroValue 3).run Tryz.prog w = .ok (.int .i64 0) w := by kernel_rfl
theorem laidOutS : laidOutB Tryz.prog = true := by kernel_rfl
theorem rowSp : 117 < Tryz.prog.types.size := of_decide_eq_true (by kernel_rfl)
theorem wideSp : (match Tryz.prog.underlying 117 with | some (.array _ _) | some (.struct _) => true | _ => false) = true := by kernel_rfl
set_option maxRecDepth 100000 in
theorem lawSp : WideMaps.KeyLaw Tryz.prog 117 := deep_law_laid laidOutS (m := 3) (by omega) rowSp (by kernel_rfl) wideSp
theorem cellsSp : Tryz.prog.cellsOf 117 = 2 := by kernel_rfl
theorem cellsI : Tryz.prog.cellsOf 3 = 1 := by kernel_rfl
theorem keyTypeSp : Tryz.prog.keyType 117 = true := by kernel_rfl
theorem wf_i64 {x : Int} (h0 : -9223372036854775808 ≤ x) (h1 : x ≤ 9223372036854775807) : (Lit.int .i64 x).wf = true := by
  simp [Lit.wf]; first | exact ⟨h0, h1⟩ | (unfold IntKind.min IntKind.max; simp [IntKind.signed, IntKind.bits]; omega) | omega
theorem keyLits_one {P : Program} {t : TypeId} (ht : P.underlying t = some (.int .i64)) {x : Int} (hx : (Lit.int .i64 x).wf = true) (d : Nat) : P.keyLits (d + 1) t [.int .i64 x] = some [.int .i64 x] := by
  unfold Program.keyLits
  rw [ht]
  simp [hx]
theorem keyLits_two {P : Program} {k t : TypeId} {f g : Field} (hk : P.underlying k = some (.struct #[f, g])) (ht : P.underlying t = some (.int .i64)) (hf : f.type = t) (hg : g.type = t) (of : f.offset = 0) (og : g.offset = 1)
    (nn : (#[f, g] : Array Field).all (·.name != "_") = true) (ck : P.cellsOf k = 2) (ct : P.cellsOf t = 1) {x y : Int} (hx : (Lit.int .i64 x).wf = true) (hy : (Lit.int .i64 y).wf = true) (d : Nat) :
    P.keyLits (d + 2) k [.int .i64 x, .int .i64 y] = some [.int .i64 x, .int .i64 y] := by
  unfold Program.keyLits
  rw [hk]
  have e1 := keyLits_one (P := P) ht hx d
  have e2 := keyLits_one (P := P) ht hy d
  simp only [List.length_cons, List.length_nil, ck, nn, and_self, if_true]
  simp [hf, hg, of, og, ct, e1, e2]
theorem keyOf_two {P : Program} {k t : TypeId} {f g : Field} (hk : P.underlying k = some (.struct #[f, g])) (ht : P.underlying t = some (.int .i64)) (hf : f.type = t) (hg : g.type = t) (of : f.offset = 0) (og : g.offset = 1)
    (nn : (#[f, g] : Array Field).all (·.name != "_") = true) (ck : P.cellsOf k = 2) (ct : P.cellsOf t = 1) (kt : P.keyType k = true) {x y : Int} (hx : (Lit.int .i64 x).wf = true) (hy : (Lit.int .i64 y).wf = true) {d : Nat} (hd : P.types.size = d + 1) :
    keyOf P k (.agg #[.int .i64 x, .int .i64 y]) = some (.string (keyBytes [.int .i64 x, .int .i64 y])) := by
  have e := keyLits_two (P := P) hk ht hf hg of og nn ck ct hx hy d
  unfold keyOf
  rw [hk]
  simp only [kt, Value.formed, hk, ck, hd, Value.cells, Bool.true_and]
  simp [e]
theorem keyOf_sp (x y : Int) (hx : -9223372036854775808 ≤ x ∧ x ≤ 9223372036854775807) (hy : -9223372036854775808 ≤ y ∧ y ≤ 9223372036854775807) : keyOf Tryz.prog 117 (spV x y) = some (.string (keyBytes [.int .i64 x, .int .i64 y])) :=
  keyOf_two (P := Tryz.prog) (t := 3) (d := 289 - 1) Tryz.underlying117 Tryz.underlying3 rfl rfl rfl rfl (by kernel_rfl) cellsSp cellsI keyTypeSp (wf_i64 hx.1 hx.2) (wf_i64 hy.1 hy.2) (by kernel_rfl)
theorem keyOf_spN (q : Sq) (h : q.1 ≤ 1000 ∧ q.2 ≤ 1000) : keyOf Tryz.prog 117 (spN q) = some (.string (keyBytes [.int .i64 (q.1 : Int), .int .i64 (q.2 : Int)])) := keyOf_sp _ _ (by omega) (by omega)

/-- the entries: in the order in which they came, each once -/
def spotE (L : List Sq) : Array MapEntry := (L.zipIdx.map fun p => (⟨spN p.1, .int .i64 1, p.2⟩ : MapEntry)).toArray
theorem spotE_push (L : List Sq) (q : Sq) : spotE (L ++ [q]) = (spotE L).push ⟨spN q, .int .i64 1, L.length⟩ := by
  unfold spotE
  rw [List.zipIdx_append, List.map_append]
  simp
theorem spotE_size (L : List Sq) : (spotE L).size = L.length := by unfold spotE; simp
theorem spotE_mem {L : List Sq} {e : MapEntry} (h : e ∈ (spotE L).toList) : ∃ q ∈ L, e.key = spN q ∧ e.val = .int .i64 1 := by
  unfold spotE at h
  simp only [List.mem_map] at h
  obtain ⟨⟨q, i⟩, h1, rfl⟩ := h
  have := List.mem_zipIdx h1
  exact ⟨q, by rw [this.2.2]; exact List.getElem_mem _, rfl, rfl⟩
theorem spotE_has {L : List Sq} {q : Sq} (h : q ∈ L) : ∃ e ∈ (spotE L).toList, e.key = spN q := by
  obtain ⟨i, hi, rfl⟩ := List.getElem_of_mem h
  refine ⟨⟨spN L[i], .int .i64 1, i⟩, ?_, rfl⟩
  unfold spotE
  simp only [List.mem_map]
  exact ⟨(L[i], i), by rw [List.mem_zipIdx_iff_getElem?]; simp [hi], rfl⟩
theorem spotE_born (L : List Sq) : (spotE L).toList.map (·.born) = List.range L.length := by
  unfold spotE
  simp only [List.map_map]
  have : (fun x : MapEntry => x.born) ∘ (fun p : Sq × Nat => (⟨spN p.1, .int .i64 1, p.2⟩ : MapEntry)) = Prod.snd := rfl
  rw [this, List.range_eq_range']
  exact List.zipIdx_map_snd 0 L
/-- block b of w is a map in which the squares of L are counted, once each -/
def SMap (w : World) (b : Nat) (L : List Sq) : Prop := w.heap[b]? = some (.map (spotE L) L.length)
def Small (L : List Sq) : Prop := ∀ q ∈ L, q.1 ≤ 1000 ∧ q.2 ≤ 1000
theorem SMap.made (w : World) : SMap (w.alloc (.map #[] 0)) w.heap.size [] := heap_alloc_new w _
theorem spot_keys {L : List Sq} (hs : Small L) : ∀ e ∈ (spotE L).toList, ∃ l, keyOf Tryz.prog 117 e.key = some l := fun e he => by
  obtain ⟨q, hq, h1, -⟩ := spotE_mem he
  exact ⟨_, by rw [h1]; exact keyOf_spN q (hs q hq)⟩
theorem spot_find (w : World) {L : List Sq} (hs : Small L) {q : Sq} (hq : q.1 ≤ 1000 ∧ q.2 ≤ 1000) :
    (q ∉ L → (Instr.findKey 117 (spN q) (spotE L).toList).run Tryz.prog w = .ok none w) ∧ (q ∈ L → ∃ j, (Instr.findKey 117 (spN q) (spotE L).toList).run Tryz.prog w = .ok (some (j, .int .i64 1)) w) := by
  rcases lawSp.find w (keyOf_spN q hq) (spotE L).toList (spot_keys hs) with ⟨h1, h2⟩ | ⟨j, e, h1, h2, h3⟩
  · refine ⟨fun _ => h1, fun hm => ?_⟩
    obtain ⟨e, he, hk⟩ := spotE_has hm
    exact absurd hk (h2 e he)
  · obtain ⟨q', hq', hk', hv⟩ := spotE_mem (List.mem_of_getElem? h2)
    obtain rfl : q' = q := spN_inj (hk'.symm.trans h3)
    exact ⟨fun hn => absurd hq' hn, fun _ => ⟨j, by rw [h1, hv]⟩⟩
open Classical in
theorem SMap.look {w : World} {b : Nat} {L : List Sq} (h : SMap w b L) (hs : Small L) {q : Sq} (hq : q.1 ≤ 1000 ∧ q.2 ≤ 1000) :
    (Instr.lookup 119 (.map (some b)) (spN q) false).run Tryz.prog w = .ok (.int .i64 (if q ∈ L then 1 else 0)) w := by
  obtain ⟨f0, f1⟩ := spot_find w hs hq
  have hc := fun em => lawSp.check w em (keyOf_spN q hq)
  by_cases hm : q ∈ L
  · obtain ⟨j, hj⟩ := f1 hm
    rw [if_pos hm]
    simp [Instr.lookup, run_underlying Tryz.underlying119, MapKept.run_getObj_map h, hc, hj, Result.andThen]
  · rw [if_neg hm]
    simp [Instr.lookup, run_underlying Tryz.underlying119, MapKept.run_getObj_map h, hc, f0 hm, zero_intS, Result.andThen]
theorem SMap.lt {w : World} {b : Nat} {L : List Sq} (h : SMap w b L) : b < w.heap.size := (Array.getElem?_eq_some_iff.1 h).1
theorem SMap.obj {w : World} {b : Nat} {L : List Sq} (h : SMap w b L) : ∀ c t fr, w.heap[b]? ≠ some (.cells c t fr) := fun c t fr e => by
  unfold SMap at h; rw [h] at e; cases e
theorem SMap.grown {w w' : World} {b : Nat} {L : List Sq} {row : Option Nat} (h : SMap w b L) (hg : w.grownBy w' row) (hr : row ≠ some b) : SMap w' b L := (hg.block b h.lt (fun e => hr e.symm)).trans h
theorem SMap.below {C : Nat} {w w' : World} {b : Nat} {L : List Sq} (h : SMap w b L) (hb : Below C w w') (hC : w.heap.size ≤ C) : SMap w' b L := (hb.block b (Nat.lt_of_lt_of_le h.lt hC)).trans h
set_option maxHeartbeats 1000000 in
theorem SMap.hit {w : World} {b : Nat} {L : List Sq} (h : SMap w b L) (hs : Small L) {q : Sq} (hq : q.1 ≤ 1000 ∧ q.2 ≤ 1000) (hn : q ∉ L) :
    ∃ W1 W2, (Instr.lookup 119 (.map (some b)) (spN q) false).run Tryz.prog w = .ok (.int .i64 0) w ∧
      (Instr.mapEntry 119 (.map (some b)) (spN q)).run Tryz.prog w = .ok (.tuple #[.int .i64 0, .int .i64 (L.length : Int)]) W1 ∧
      (Instr.lookup 119 (.map (some b)) (spN q) false).run Tryz.prog W1 = .ok (.int .i64 0) W1 ∧
      (Instr.entryStore 119 (.map (some b)) (.int .i64 (L.length : Int)) (.int .i64 1)).run Tryz.prog W1 = .ok () W2 ∧
      SMap W2 b (L ++ [q]) ∧ w.grownBy W2 (some b) := by
  obtain ⟨f0, -⟩ := spot_find w hs hq
  have hl := h.look hs hq
  rw [if_neg hn] at hl
  have hc := fun em w' => lawSp.check w' em (keyOf_spN q hq)
  have hb := h
  unfold SMap at hb
  have hb1 : (setBlock w b (.map ((spotE L).push ⟨spN q, .int .i64 0, L.length⟩) (L.length + 1))).heap[b]? = some (.map ((spotE L).push ⟨spN q, .int .i64 0, L.length⟩) (L.length + 1)) := heap_setBlock_same hb _
  have hidx : ((spotE L).push ⟨spN q, .int .i64 0, L.length⟩).findIdx? (fun e => ((e.born : Nat) : Int) == ((L.length : Nat) : Int)) = some (spotE L).size := by
    rw [findIdx_arr]
    refine findIdx_born (l := ((spotE L).push ⟨spN q, .int .i64 0, L.length⟩).toList) (j := (spotE L).size) (e0 := ⟨spN q, .int .i64 0, L.length⟩) ?_ (by simp)
    rw [Array.toList_push, List.map_append, spotE_born]
    have : List.range L.length ++ List.map (fun x : MapEntry => x.born) [⟨spN q, .int .i64 0, L.length⟩] = List.range (L.length + 1) := by rw [List.range_succ]; rfl
    rw [this]
    exact List.nodup_range
  have hmod : ((spotE L).push ⟨spN q, .int .i64 0, L.length⟩).modify (spotE L).size (fun e => { e with val := .int .i64 1 }) = spotE (L ++ [q]) := by
    rw [spotE_push]
    apply Array.ext'
    rw [Array.toList_modify, Array.toList_push, Array.toList_push, ← Array.length_toList, modify_last]
  refine ⟨setBlock w b (.map ((spotE L).push ⟨spN q, .int .i64 0, L.length⟩) (L.length + 1)), setBlock (setBlock w b (.map ((spotE L).push ⟨spN q, .int .i64 0, L.length⟩) (L.length + 1))) b (.map (spotE (L ++ [q])) (L.length + 1)), hl, ?_, ?_, ?_, ?_, ?_⟩
  · simp [Instr.mapEntry, run_underlying Tryz.underlying119, MapKept.run_getObj_map hb, hc, f0 hn, zero_intS, MapKept.run_setObj_map _ hb, Result.andThen, setBlock, goInt]
  · -- found as it was laid: 0
    have hk : ∀ e ∈ ((spotE L).push ⟨spN q, .int .i64 0, L.length⟩).toList, ∃ l, keyOf Tryz.prog 117 e.key = some l := fun e he => by
      rw [Array.toList_push] at he
      rcases List.mem_append.1 he with h1 | h1
      · exact spot_keys hs e h1
      · rw [List.mem_singleton.1 h1]; exact ⟨_, keyOf_spN q hq⟩
    rcases lawSp.find (setBlock w b (.map ((spotE L).push ⟨spN q, .int .i64 0, L.length⟩) (L.length + 1))) (keyOf_spN q hq) _ hk with ⟨h1, h2⟩ | ⟨j, e, h1, h2, h3⟩
    · exact absurd rfl (h2 ⟨spN q, .int .i64 0, L.length⟩ (by simp))
    · have hv : e.val = .int .i64 0 := by
        have := List.mem_of_getElem? h2
        rw [Array.toList_push] at this
        rcases List.mem_append.1 this with h4 | h4
        · obtain ⟨q', hq', hk', -⟩ := spotE_mem h4
          exact absurd (spN_inj (hk'.symm.trans h3) ▸ hq') hn
        · rw [List.mem_singleton.1 h4]
      rw [hv] at h1
      rw [Array.toList_push] at h1
      simp [Instr.lookup, run_underlying Tryz.underlying119, MapKept.run_getObj_map hb1, hc, h1, Result.andThen]
  · have hr := MapKept.run_setObj_map (P := Tryz.prog) (.map (spotE (L ++ [q])) (L.length + 1)) hb1
    have hg := MapKept.run_getObj_map (P := Tryz.prog) hb1
    revert hr hg
    generalize hW : setBlock w b (.map ((spotE L).push ⟨spN q, .int .i64 0, L.length⟩) (L.length + 1)) = W1
    intro hr hg
    simp only [Instr.entryStore, Sem.run_bind, hg, Result.andThen_ok, asInt, asIntOf, Sem.run_pure, hidx, hmod, hr]
    rfl
  · unfold SMap
    rw [List.length_append]
    exact heap_setBlock_same hb1 _
  · refine ⟨rfl, rfl, rfl, by simp [setBlock], fun i _ hi => ?_⟩
    have hib : i ≠ b := fun e => hi (by rw [e])
    rw [heap_setBlock_other hb1 _ hib, heap_setBlock_other hb _ hib]
/-- what a read-only slice of strings keeps while the map is written -/
theorem StrsAt.grown {w w' : World} {v : Value} {l : List ByteArray} {b : Nat} (h : StrsAt w v l) (hg : w.grownBy w' (some b)) (hb : ∀ c t fr, w.heap[b]? ≠ some (.cells c t fr)) : StrsAt w' v l := by
  obtain ⟨p, c, hv, hc, hn, hx⟩ := h
  refine ⟨p, c, hv, hc, hn, fun i hi => ?_⟩
  obtain ⟨k, off, e1, e2⟩ := hx i hi
  refine ⟨k, off, e1, ?_⟩
  have hk : w'.heap[k]? = w.heap[k]? := hg.block k (mem_lt e2) (fun e => by
    cases e
    unfold World.cell? at e2
    split at e2
    · rename_i c t fr hc; exact hb _ _ _ hc
    · cases e2)
  unfold World.cell? at e2 ⊢
  rw [hk]; exact e2
end Go.Proofs.YtoheffkiohfmoaaGreatDoor
