/-
  Maps from a spot (an edge) to its place in a list without a double: their blocks, a look-up, one entry more.
  What cubes.Boundary gives back; the state while its matrix is filled; the end, where the matrix is stored into the result's block.
-/
import Derived.Test.YtoheffkiohfmoaaGreatDoorSpt
import Derived.Test.YtoheffkiohfmoaaGreatDoorInP
import Derived.Maps.OwnOps
import Derived.Test.YtoheffkiohfmoaaGreatDoorMtA
import Derived.Test.YtoheffkiohfmoaaGreatDoorValB
import Derived.Test.YtoheffkiohfmoaaGreatDoorGri
set_option linter.unusedSimpArgs false
set_option linter.unusedVariables false
namespace Go.Proofs.YtoheffkiohfmoaaGreatDoor
open Go Go.RowKit Go.Maps FL

open Go.ChangeMaps (setBlock heap_setBlock_same heap_setBlock_other)

/-- values that serve as keys -/
structure KeyV {α : Type} (P : Program) (k : TypeId) (kV : α → Value) (ok : α → Prop) : Prop where
  law : WideMaps.KeyLaw P k
  inj : ∀ {a b : α}, kV a = kV b → a = b
  key : ∀ {a : α}, ok a → ∃ l, keyOf P k (kV a) = some l
def ixE {α : Type} (kV : α → Value) (L : List α) : Array MapEntry := (L.zipIdx.map fun p => (⟨kV p.1, .int .i64 (p.2 : Int), p.2⟩ : MapEntry)).toArray
theorem ixE_push {α : Type} {kV : α → Value} (L : List α) (q : α) : ixE kV (L ++ [q]) = (ixE kV L).push ⟨kV q, .int .i64 (L.length : Int), L.length⟩ := by
  unfold ixE
  rw [List.zipIdx_append, List.map_append]
  simp
theorem ixE_at {α : Type} {kV : α → Value} {L : List α} {j : Nat} {e : MapEntry} (h : (ixE kV L).toList[j]? = some e) : ∃ a, L[j]? = some a ∧ e.key = kV a ∧ e.val = .int .i64 (j : Int) := by
  unfold ixE at h
  rw [List.getElem?_map, List.getElem?_zipIdx] at h
  cases hL : L[j]? with
  | none => rw [hL] at h; cases h
  | some a =>
    rw [hL] at h
    simp only [Option.map_some, Option.some.injEq, Nat.zero_add] at h
    subst h
    exact ⟨a, rfl, rfl, rfl⟩
theorem ixE_has {α : Type} {kV : α → Value} {L : List α} {a : α} (h : a ∈ L) : ∃ e ∈ (ixE kV L).toList, e.key = kV a := by
  obtain ⟨i, hi, rfl⟩ := List.getElem_of_mem h
  refine ⟨⟨kV L[i], .int .i64 (i : Int), i⟩, ?_, rfl⟩
  unfold ixE
  simp only [List.mem_map]
  exact ⟨(L[i], i), by rw [List.mem_zipIdx_iff_getElem?]; simp [hi], rfl⟩
/-- block b of w is the map from each of L to its place -/
def IxMap {α : Type} (kV : α → Value) (w : World) (b : Nat) (L : List α) : Prop := w.heap[b]? = some (.map (ixE kV L) L.length)
theorem IxMap.made {α : Type} (kV : α → Value) (w : World) : IxMap kV (w.alloc (.map #[] 0)) w.heap.size [] := heap_alloc_new w _
theorem ix_keys {α : Type} {P : Program} {k : TypeId} {kV : α → Value} {ok : α → Prop} (K : KeyV P k kV ok) {L : List α} (hs : ∀ a ∈ L, ok a) : ∀ e ∈ (ixE kV L).toList, ∃ l, keyOf P k e.key = some l := fun e he => by
  obtain ⟨j, hj⟩ := List.mem_iff_getElem?.1 he
  obtain ⟨a, ha, hk, -⟩ := ixE_at hj
  rw [hk]
  exact K.key (hs a (List.mem_of_getElem? ha))
theorem IxMap.look {α : Type} {P : Program} {k t e : TypeId} {kV : α → Value} {ok : α → Prop} (K : KeyV P k kV ok) (ht : P.underlying t = some (.map k e)) {w : World} {b : Nat} {L : List α} (h : IxMap kV w b L) (hs : ∀ a ∈ L, ok a) (hn : L.Nodup) {i : Nat} {z : α} (hi : i < L.length) :
    (Instr.lookup t (.map (some b)) (kV (L.getD i z)) false).run P w = .ok (.int .i64 (i : Int)) w := by
  have hgi : L.getD i z = L[i] := by rw [List.getD_eq_getElem?_getD, List.getElem?_eq_getElem hi]; rfl
  rw [hgi]
  have hm : L[i] ∈ L := List.getElem_mem hi
  obtain ⟨l, hl⟩ := K.key (hs _ hm)
  have hc := fun em => K.law.check w em hl
  rcases K.law.find w hl (ixE kV L).toList (ix_keys K hs) with ⟨h1, h2⟩ | ⟨j, e, h1, h2, h3⟩
  · obtain ⟨e, he, hk⟩ := ixE_has (kV := kV) hm
    exact absurd hk (h2 e he)
  · obtain ⟨a, ha, hk, hv⟩ := ixE_at h2
    have e1 := K.inj (hk.symm.trans h3)
    obtain ⟨hj, ha⟩ := List.getElem?_eq_some_iff.1 ha
    have e2 : j = i := (List.getElem_inj hn).1 (ha.trans e1)
    subst e2
    rw [hv] at h1
    simp [Instr.lookup, run_underlying ht, MapKept.run_getObj_map h, hc, h1, Result.andThen]
theorem IxMap.put {α : Type} {P : Program} {k t e : TypeId} {kV : α → Value} {ok : α → Prop} (K : KeyV P k kV ok) (ht : P.underlying t = some (.map k e)) {w : World} {b : Nat} {L : List α} (h : IxMap kV w b L) (hs : ∀ a ∈ L, ok a) {a : α} (ha : ok a) (hn : a ∉ L) :
    ∃ W, (Instr.mapUpdate t (.map (some b)) (kV a) (.int .i64 (L.length : Int))).run P w = .ok () W ∧ IxMap kV W b (L ++ [a]) ∧ w.grownBy W (some b) := by
  obtain ⟨l, hl⟩ := K.key ha
  have hc := fun em => K.law.check w em hl
  have hb := h
  unfold IxMap at hb
  rcases K.law.find w hl (ixE kV L).toList (ix_keys K hs) with ⟨h1, h2⟩ | ⟨j, e, h1, h2, h3⟩
  · refine ⟨setBlock w b (.map ((ixE kV L).push ⟨kV a, .int .i64 (L.length : Int), L.length⟩) (L.length + 1)), ?_, ?_, ?_⟩
    · simp [Instr.mapUpdate, run_underlying ht, MapKept.run_getObj_map hb, hc, h1, MapKept.run_setObj_map _ hb, Result.andThen, setBlock]
    · unfold IxMap
      rw [List.length_append, ixE_push]
      exact heap_setBlock_same hb _
    · exact ⟨rfl, rfl, rfl, by simp [setBlock], fun i _ hi => heap_setBlock_other hb _ (fun e => hi (by rw [e]))⟩
  · obtain ⟨a', ha', hk, -⟩ := ixE_at h2
    exact absurd (K.inj (hk.symm.trans h3) ▸ List.mem_of_getElem? ha') hn
theorem IxMap.lt {α : Type} {kV : α → Value} {w : World} {b : Nat} {L : List α} (h : IxMap kV w b L) : b < w.heap.size := (Array.getElem?_eq_some_iff.1 h).1
theorem IxMap.grown {α : Type} {kV : α → Value} {w w' : World} {b : Nat} {L : List α} {row : Option Nat} (h : IxMap kV w b L) (hg : w.grownBy w' row) (hr : row ≠ some b) : IxMap kV w' b L := (hg.block b h.lt (fun e => hr e.symm)).trans h
theorem IxMap.below {α : Type} {kV : α → Value} {C : Nat} {w w' : World} {b : Nat} {L : List α} (h : IxMap kV w b L) (hb : Below C w w') (hC : w.heap.size ≤ C) : IxMap kV w' b L := (hb.block b (Nat.lt_of_lt_of_le h.lt hC)).trans h

/-! ### at the operation -/
theorem wpList_lookup_run {P : Program} (w : World) {ops : Array Oper} {rest : List Oper} {o : Oper} {a : Act} {Q : Exit → Act → World → Prop}
    (hg : o.guard = none) (m x : Operand) (t : TypeId) (hop : o.op = Op.lookup t m x false) (mv key r : Value) (hm : a.eval m = mv) (hx : a.eval x = key) (hrun : (Instr.lookup t mv key false).run P w = .ok r w)
    (hK : wpList P ops Q rest (a.put o.dst r) w) : wpList P ops Q (o :: rest) a w := by
  refine wpList_plain hg fun K' hK' => ?_
  unfold Oper.wp
  simp [execOp, hop, hm, hx, hrun, Result.andThen]
  exact hK' _ _ hK
theorem wpList_mapUpdate_run {P : Program} (w w' : World) {ops : Array Oper} {rest : List Oper} {o : Oper} {a : Act} {Q : Exit → Act → World → Prop}
    (hg : o.guard = none) (m x v : Operand) (t : TypeId) (hop : o.op = Op.mapUpdate t m x v) (mv key val : Value) (hm : a.eval m = mv) (hx : a.eval x = key) (hv : a.eval v = val) (hrun : (Instr.mapUpdate t mv key val).run P w = .ok () w')
    (hK : wpList P ops Q rest (a.put o.dst undef) w') : wpList P ops Q (o :: rest) a w := by
  refine wpList_plain hg fun K' hK' => ?_
  unfold Oper.wp
  simp [execOp, hop, hm, hx, hv, hrun, Result.andThen]
  exact hK' _ _ hK

/-! ### spots and edges -/
def spK (p : PI) : Value := .agg #[.int .i64 p.1, .int .i64 p.2]
def edK (e : PI × Bool) : Value := .agg #[.int .i64 e.1.1, .int .i64 e.1.2, .bool e.2]
theorem spKey : KeyV Tryz.prog 117 spK BoxI where
  law := lawSp
  inj := fun {a b} h => by
    unfold spK at h
    simp at h
    exact Prod.ext h.1 h.2
  key := fun {a} h => ⟨_, keyOf_sp a.1 a.2 ⟨by have := h.1.1; omega, by have := h.1.2; omega⟩ ⟨by have := h.2.1; omega, by have := h.2.2; omega⟩⟩
theorem rowEd : 122 < Tryz.prog.types.size := of_decide_eq_true (by kernel_rfl)
theorem wideEd : (match Tryz.prog.underlying 122 with | some (.array _ _) | some (.struct _) => true | _ => false) = true := by kernel_rfl
set_option maxRecDepth 100000 in
theorem lawEd : WideMaps.KeyLaw Tryz.prog 122 := deep_law_laid laidOutS (m := 4) (by omega) rowEd (by kernel_rfl) wideEd
theorem cellsEd : Tryz.prog.cellsOf 122 = 3 := by kernel_rfl
theorem cellsBo : Tryz.prog.cellsOf 4 = 1 := by kernel_rfl
theorem keyTypeEd : Tryz.prog.keyType 122 = true := by kernel_rfl
theorem keyLits_bool {P : Program} {t : TypeId} (ht : P.underlying t = some .bool) (b : Bool) (d : Nat) : P.keyLits (d + 1) t [.bool b] = some [.bool b] := by
  unfold Program.keyLits
  rw [ht]
theorem keyOf_nest {P : Program} {k s t u : TypeId} {f g f' g' : Field} (hk : P.underlying k = some (.struct #[f, g])) (hs : P.underlying s = some (.struct #[f', g'])) (ht : P.underlying t = some (.int .i64)) (hu : P.underlying u = some .bool)
    (hf : f.type = s) (hg : g.type = u) (of : f.offset = 0) (og : g.offset = 2) (hf' : f'.type = t) (hg' : g'.type = t) (of' : f'.offset = 0) (og' : g'.offset = 1)
    (nn : (#[f, g] : Array Field).all (·.name != "_") = true) (nn' : (#[f', g'] : Array Field).all (·.name != "_") = true) (ck : P.cellsOf k = 3) (cs : P.cellsOf s = 2) (ct : P.cellsOf t = 1) (cu : P.cellsOf u = 1) (kt : P.keyType k = true)
    {x y : Int} {b : Bool} (hx : (Lit.int .i64 x).wf = true) (hy : (Lit.int .i64 y).wf = true) {d : Nat} (hd : P.types.size = d + 2) :
    keyOf P k (.agg #[.int .i64 x, .int .i64 y, .bool b]) = some (.string (keyBytes [.int .i64 x, .int .i64 y, .bool b])) := by
  have e1 := keyLits_two (P := P) hs ht hf' hg' of' og' nn' cs ct hx hy d
  have e2 := keyLits_bool (P := P) hu b (d + 1)
  have e : P.keyLits (d + 3) k [.int .i64 x, .int .i64 y, .bool b] = some [.int .i64 x, .int .i64 y, .bool b] := by
    unfold Program.keyLits
    rw [hk]
    simp only [List.length_cons, List.length_nil, ck, nn, and_self, if_true]
    simp [hf, hg, of, og, cs, cu, e1, e2]
  unfold keyOf
  rw [hk]
  simp only [kt, Value.formed, hk, ck, hd, Value.cells, Bool.true_and]
  simp [e]
theorem edKey : KeyV Tryz.prog 122 edK (fun e => BoxI e.1) where
  law := lawEd
  inj := fun {a b} h => by
    unfold edK at h
    simp at h
    exact Prod.ext (Prod.ext h.1 h.2.1) h.2.2
  key := fun {a} h => ⟨_, keyOf_nest (P := Tryz.prog) (s := 117) (t := 3) (u := 4) (d := 289 - 2) Tryz.underlying122 Tryz.underlying117 Tryz.underlying3 Tryz.underlying4 rfl rfl rfl rfl rfl rfl rfl rfl (by kernel_rfl) (by kernel_rfl) cellsEd cellsSp cellsI cellsBo keyTypeEd
    (wf_i64 (by have := h.1.1; omega) (by have := h.1.2; omega)) (wf_i64 (by have := h.2.1; omega) (by have := h.2.2; omega)) (by kernel_rfl)⟩

def bdyE (ms : List ByteArray) (dim : Int) : Int := if errV ms = 0 then (if 0 ≤ dim ∧ dim ≤ 3 then 0 else 2) else errV ms
theorem bdyE_range (ms : List ByteArray) (dim : Int) : 0 ≤ bdyE ms dim ∧ bdyE ms dim ≤ 8 := by
  unfold bdyE
  have h := errV_range ms
  split
  · split <;> decide
  · exact h
def BdyOk (ms : List ByteArray) (dim : Int) (w : World) (e : Ending) (w' : World) : Prop :=
  ∃ p c, e = .returned (.tuple #[.agg #[.int .i64 ((rowsI ms dim).length : Int), .int .i64 ((colsI ms dim).length : Int), .slice p (matI (rowsI ms dim) (colsI ms dim) dim).length c], .nilIface]) ∧ Below w.heap.size w w' ∧
    IntsIn w.heap.size w' (.slice p (matI (rowsI ms dim) (colsI ms dim) dim).length c) (matI (rowsI ms dim) (colsI ms dim) dim)
def BdyBad (a : Nat → Addr) (x : Int) (w : World) (e : Ending) (w' : World) : Prop := e = .returned (.tuple #[.agg #[.int .i64 0, .int .i64 0, .slice none 0 0], errOf a x]) ∧ Below w.heap.size w w'

theorem grid_field0 (p1 p2 p3 : Option Addr) (n1 n2 n3 c1 c2 c3 : Nat) (w : World) : Sem.run Tryz.prog (Instr.field 114 (.agg #[.slice p1 n1 c1, .slice p2 n2 c2, .slice p3 n3 c3]) 0) w = .ok (.slice p1 n1 c1) w := by kernel_rfl
theorem grid_field1 (p1 p2 p3 : Option Addr) (n1 n2 n3 c1 c2 c3 : Nat) (w : World) : Sem.run Tryz.prog (Instr.field 114 (.agg #[.slice p1 n1 c1, .slice p2 n2 c2, .slice p3 n3 c3]) 1) w = .ok (.slice p2 n2 c2) w := by kernel_rfl
theorem grid_field2 (p1 p2 p3 : Option Addr) (n1 n2 n3 c1 c2 c3 : Nat) (w : World) : Sem.run Tryz.prog (Instr.field 114 (.agg #[.slice p1 n1 c1, .slice p2 n2 c2, .slice p3 n3 c3]) 2) w = .ok (.slice p3 n3 c3) w := by kernel_rfl
/-- while the matrix is filled: nothing else is written -/
structure FilSt (wt wr : World) (mb N : Nat) (F : Nat → Int) : Prop where
  gr : wt.grownBy wr (some mb)
  blk : wr.heap[mb]? = some (.cells (numArr F N) 3 (0, 0))
theorem FilSt.start {wt : World} {mb N : Nat} {F : Nat → Int} (h : wt.heap[mb]? = some (.cells (numArr F N) 3 (0, 0))) : FilSt wt wt mb N F :=
  ⟨⟨rfl, rfl, rfl, Nat.le_refl _, fun _ _ _ => rfl⟩, h⟩
theorem FilSt.put {wt wr : World} {mb N ix : Nat} {F : Nat → Int} (h : FilSt wt wr mb N F) (x : Int) : FilSt wt (wr.setCell ⟨mb, ix, none⟩ (.int .i64 x)) mb N (upd F ix x) :=
  ⟨h.gr.trans (grown_at wr mb ix _), by rw [← numArr_set]; exact set_block h.blk⟩
theorem FilSt.below {wt wr w' : World} {mb N : Nat} {F : Nat → Int} (h : FilSt wt wr mb N F) (hb : Below wr.heap.size wr w') : FilSt wt w' mb N F :=
  ⟨h.gr.trans ⟨hb.os, hb.tape, hb.output, hb.size, fun k hk _ => hb.block k hk⟩, (hb.block _ (Array.getElem?_eq_some_iff.1 h.blk).1).trans h.blk⟩
/-- what is handed back where the matrix is stored into the result's block -/
theorem mat_fin {gr : Nat} {R C : Nat} {s cx : Nat} {px : Option Addr} {l : List Int} {w wr : World} (hb : Below gr w wr) (hk : wr.heap[gr]? = some (.cells #[.int .i64 0, .int .i64 0, .slice none 0 0] 58 (0, 0))) (hi : IntsIn gr wr (.slice px s cx) l) :
    ∃ wf, wf = ((wr.setCell ⟨gr, 0, none⟩ (.int .i64 (R : Int))).setCell ⟨gr, 1, none⟩ (.int .i64 (C : Int))).setCell ⟨gr, 2, none⟩ (.slice px s cx) ∧ Below gr w wf ∧ IntsIn gr wf (.slice px s cx) l ∧
      wf.heap[gr]? = some (.cells #[.int .i64 R, .int .i64 C, .slice px s cx] 58 (0, 0)) := by
  have hlt := (Array.getElem?_eq_some_iff.1 hk).1
  have hgf : wr.grownBy (((wr.setCell ⟨gr, 0, none⟩ (.int .i64 (R : Int))).setCell ⟨gr, 1, none⟩ (.int .i64 (C : Int))).setCell ⟨gr, 2, none⟩ (.slice px s cx)) (some gr) := ((grown_at wr gr 0 _).trans (grown_at _ gr 1 _)).trans (grown_at _ gr 2 _)
  refine ⟨_, rfl, hb.grown hgf (by omega) (fun k e => by have := Option.some.inj e; omega), hi.grown hgf (fun k e => by
    obtain rfl := Option.some.inj e
    exact ⟨Nat.le_refl _, fun c e => by rw [hk] at e; cases e⟩), set_block (set_block (set_block hk))⟩
/-- what is read while the matrix is filled -/
theorem FilSt.facts {w5 wx : World} {o2 N : Nat} {R C L : Value} {F : Nat → Int} (h : FilSt w5 wx (o2 + 3) N F) (hk : w5.heap[o2 + 2]? = some (.cells #[R, C, L] 58 (0, 0))) :
    wx.cell? ⟨o2 + 2, 1, none⟩ = some C ∧ wx.cell? ⟨o2 + 2, 2, none⟩ = some L ∧ ∀ ix, ix < N → wx.cell? ⟨o2 + 3, ix, none⟩ = some (.int .i64 (F ix)) ∧ wx.frozen? ⟨o2 + 3, ix, none⟩ = false := by
  have h1 := (h.gr.block (o2 + 2) (Array.getElem?_eq_some_iff.1 hk).1 (fun e => by have := Option.some.inj e; omega)).trans hk
  exact ⟨(blk_at h1 1).1, (blk_at h1 2).1, fun ix hix => ⟨by rw [(blk_at h.blk ix).1]; exact numArr_at F N ix hix, (blk_at h.blk ix).2⟩⟩
theorem FilSt.look {α : Type} {k t e : TypeId} {kV : α → Value} {ok : α → Prop} {w5 wx : World} {o2 N m : Nat} {F : Nat → Int} (h : FilSt w5 wx (o2 + 3) N F) (K : KeyV Tryz.prog k kV ok) (ht : Tryz.prog.underlying t = some (.map k e)) {L : List α} (hm : IxMap kV w5 m L) (hmb : m ≠ o2 + 3) (hs : ∀ a ∈ L, ok a) (hn : L.Nodup)
    {i : Nat} {z x : α} (hi : i < L.length) (hx : L.getD i z = x) : (Instr.lookup t (.map (some m)) (kV x) false).run Tryz.prog wx = .ok (.int .i64 (i : Int)) wx := by
  have h1 := (hm.grown h.gr (fun e => by have := Option.some.inj e; omega)).look K ht hs hn (z := z) hi
  rw [hx] at h1
  exact h1
/-- six blocks one behind the other, and a draw -/
theorem six_blocks {w2 w3 : World} {o2 : Nat} (ho : w2.heap.size = o2) {A B C D E F : Obj} (h3 : w3 = ((((((w2.alloc A).alloc B).alloc C).alloc D).alloc E).alloc F).drew) :
    Below o2 w2 w3 ∧ w3.heap.size = o2 + 6 ∧ w3.heap[o2]? = some A ∧ w3.heap[o2 + 1]? = some B ∧ w3.heap[o2 + 2]? = some C ∧ w3.heap[o2 + 3]? = some D ∧ w3.heap[o2 + 4]? = some E ∧ w3.heap[o2 + 5]? = some F := by
  have a1 := heap_alloc_new w2 A
  have a2 := heap_alloc_new (w2.alloc A) B
  have a3 := heap_alloc_new ((w2.alloc A).alloc B) C
  have a4 := heap_alloc_new (((w2.alloc A).alloc B).alloc C) D
  have a5 := heap_alloc_new ((((w2.alloc A).alloc B).alloc C).alloc D) E
  have a6 := heap_alloc_new (((((w2.alloc A).alloc B).alloc C).alloc D).alloc E) F
  simp only [lit_size, ho] at a1 a2 a3 a4 a5 a6
  subst h3
  refine ⟨?_, ?_, ?_, ?_, ?_, ?_, ?_, ?_⟩
  · rw [← ho]
    exact ((((((Below.refl _ _).alloc (Nat.le_refl _) A).alloc (by simp) B).alloc (by simp; omega) C).alloc (by simp; omega) D).alloc (by simp; omega) E).alloc (by simp; omega) F |>.drew
  · show (((((((w2.alloc A).alloc B).alloc C).alloc D).alloc E).alloc F)).heap.size = o2 + 6
    simp only [lit_size, ho]
  · exact alloc_old (alloc_old (alloc_old (alloc_old (alloc_old a1))))
  · exact alloc_old (alloc_old (alloc_old (alloc_old a2)))
  · exact alloc_old (alloc_old (alloc_old a3))
  · exact alloc_old (alloc_old a4)
  · exact alloc_old a5
  · exact a6
/-- the reads of the three rows where one block alone was written -/
theorem far_cell {wt wr : World} {row : Option Nat} {g k : Nat} {v : Value} (h : wt.grownBy wr row) (hc : wt.cell? ⟨g, k, none⟩ = some v) (hg : row ≠ some g) : wr.cell? ⟨g, k, none⟩ = some v := by
  have h1 : wr.heap[g]? = wt.heap[g]? := h.block g (mem_lt hc) (fun e => hg e.symm)
  unfold World.cell? at hc ⊢
  rw [h1]; exact hc
end Go.Proofs.YtoheffkiohfmoaaGreatDoor
