/-
  reeb.merging by a contract, first part: the arrays as functions; edges by numbers.
  reeb.merging by a contract: the end: bars of the lowest ones that are left; births unlike.
-/
import Derived.Test.YtddnjimpdidpaaaGreatDoorRbQ
import Derived.Test.YtddnjimpdidpaaaGreatDoorRbB
set_option linter.unusedSimpArgs false
set_option linter.unusedVariables false
namespace Go.Proofs.YtddnjimpdidpaaaGreatDoor
open Go Go.RowKit Go.Maps

/-- an array of numbers -/
def natA (f : Nat → Nat) (n : Nat) : Array Value := Array.ofFn (fun i : Fin n => Value.int .i64 ((f i.val : Nat) : Int))
theorem natA_size (f : Nat → Nat) (n : Nat) : (natA f n).size = n := by unfold natA; simp
theorem natA_get {f : Nat → Nat} {n i : Nat} (h : i < n) : (natA f n)[i]? = some (.int .i64 ((f i : Nat) : Int)) := by
  unfold natA
  rw [Array.getElem?_eq_getElem (by simpa using h), Array.getElem_ofFn]
theorem natA_elem (f : Nat → Nat) (n j : Nat) (h : j < (natA f n).size) : (natA f n)[j] = .int .i64 ((f j : Nat) : Int) := by simp [natA]
theorem natA_set {f : Nat → Nat} {n i v : Nat} : (natA f n).setIfInBounds i (.int .i64 (v : Int)) = natA (updN f i v) n := by
  refine Array.ext (by simp [natA]) fun j h1 h2 => ?_
  have h3 : j < (natA f n).size := by simpa using h1
  rw [Array.getElem_setIfInBounds h3, natA_elem, natA_elem]
  unfold updN
  by_cases e : i = j
  · rw [if_pos e, if_pos e.symm]
  · rw [if_neg e, if_neg (fun h => e h.symm)]
theorem natA_zero (n : Nat) : Array.replicate n (Value.int .i64 0) = natA (fun _ => 0) n := by
  refine Array.ext (by simp [natA]) fun j h1 h2 => ?_
  simp [natA]
/-- an array of answers -/
def booA (f : Nat → Bool) (n : Nat) : Array Value := Array.ofFn (fun i : Fin n => Value.bool (f i.val))
theorem booA_get {f : Nat → Bool} {n i : Nat} (h : i < n) : (booA f n)[i]? = some (.bool (f i)) := by
  unfold booA
  rw [Array.getElem?_eq_getElem (by simpa using h), Array.getElem_ofFn]
def updB (f : Nat → Bool) (a : Nat) (b : Bool) (x : Nat) : Bool := if x = a then b else f x
theorem booA_elem (f : Nat → Bool) (n j : Nat) (h : j < (booA f n).size) : (booA f n)[j] = .bool (f j) := by simp [booA]
theorem booA_set {f : Nat → Bool} {n i : Nat} {v : Bool} : (booA f n).setIfInBounds i (.bool v) = booA (updB f i v) n := by
  refine Array.ext (by simp [booA]) fun j h1 h2 => ?_
  have h3 : j < (booA f n).size := by simpa using h1
  rw [Array.getElem_setIfInBounds h3, booA_elem, booA_elem]
  unfold updB
  by_cases e : i = j
  · rw [if_pos e, if_pos e.symm]
  · rw [if_neg e, if_neg (fun h => e h.symm)]
theorem booA_zero (n : Nat) : Array.replicate n (Value.bool false) = booA (fun _ => false) n := by
  refine Array.ext (by simp [booA]) fun j h1 h2 => ?_
  simp [booA]
/-- the nodes: a vertex and its parent, two cells each -/
def parI (V : List Int) (p : Option Nat) : Int := match p with | none => -1 | some k => V.getD k 0
def nodA (V : List Int) (par : Nat → Option Nat) (n : Nat) : Array Value := Array.ofFn (fun i : Fin (n * 2) => if i.val % 2 = 0 then Value.int .i64 (V.getD (i.val / 2) 0) else .int .i64 (parI V (par (i.val / 2))))
theorem nodA_size (V : List Int) (par : Nat → Option Nat) (n : Nat) : (nodA V par n).size = n * 2 := by unfold nodA; simp
theorem nodA_fst {V : List Int} {par : Nat → Option Nat} {n i : Nat} (h : i < n) : (nodA V par n)[i * 2]? = some (.int .i64 (V.getD i 0)) := by
  unfold nodA
  rw [Array.getElem?_eq_getElem (by simp; omega), Array.getElem_ofFn]
  simp
theorem nodA_snd {V : List Int} {par : Nat → Option Nat} {n i : Nat} (h : i < n) : (nodA V par n)[i * 2 + 1]? = some (.int .i64 (parI V (par i))) := by
  unfold nodA
  rw [Array.getElem?_eq_getElem (by simp; omega), Array.getElem_ofFn]
  have e1 : (i * 2 + 1) % 2 = 1 := by omega
  have e2 : (i * 2 + 1) / 2 = i := by omega
  simp [e1, e2]
theorem nodA_elem (V : List Int) (par : Nat → Option Nat) (n j : Nat) (h : j < (nodA V par n).size) : (nodA V par n)[j] = if j % 2 = 0 then Value.int .i64 (V.getD (j / 2) 0) else .int .i64 (parI V (par (j / 2))) := by simp [nodA]
theorem nodA_set {V : List Int} {par : Nat → Option Nat} {n i : Nat} {k : Nat} : (nodA V par n).setIfInBounds (i * 2 + 1) (.int .i64 (V.getD k 0)) = nodA V (updO par i (some k)) n := by
  refine Array.ext (by simp [nodA]) fun j h1 h2 => ?_
  have h3 : j < (nodA V par n).size := by simpa using h1
  rw [Array.getElem_setIfInBounds h3, nodA_elem, nodA_elem]
  unfold updO
  by_cases e : i * 2 + 1 = j
  · subst e
    have e1 : ¬ (i * 2 + 1) % 2 = 0 := by omega
    have e2 : (i * 2 + 1) / 2 = i := by omega
    rw [if_pos rfl, if_neg e1, e2, if_pos rfl]
    rfl
  · rw [if_neg e]
    by_cases hp : j % 2 = 0
    · rw [if_pos hp, if_pos hp]
    · have hne : j / 2 ≠ i := by omega
      rw [if_neg hp, if_neg hp, if_neg hne]
/-- edges by numbers -/
def edgN (V : List Int) (E : List (List Int)) : List (Nat × Nat) := E.map fun e => (V.idxOf (e.getD 0 0), V.idxOf (e.getD 1 0))
def castP (l : List (Nat × Nat)) : List (Int × Int) := l.map fun p => ((p.1 : Int), (p.2 : Int))
theorem edgP_cast (V : List Int) (E : List (List Int)) : edgP V E = castP (edgN V E) := by unfold edgP castP edgN; rw [List.map_map]; rfl
def AdE (Ep : List (Nat × Nat)) (x y : Nat) : Prop := (x, y) ∈ Ep ∨ (y, x) ∈ Ep
def barI (h : List Int) (p : Nat × Nat) : Int × Int := (h.getD p.1 0, h.getD p.2 0)
/-- the memory of merging -/
structure MS (B0 : Nat) (w0 wr : World) (V h : List Int) (n : Nat) (par : Nat → Option Nat) (o hd : Nat → Nat) (rb : Nat → Bool) (bars : List (Nat × Nat)) (s : Value) : Prop where
  b : Below B0 w0 wr
  c1 : wr.heap[B0]? = some (.cells (nodA V par n) 45 (0, 0))
  c2 : wr.heap[B0 + 1]? = some (.cells (natA o n) 3 (0, 0))
  c3 : wr.heap[B0 + 2]? = some (.cells (natA hd n) 3 (0, 0))
  c4 : wr.heap[B0 + 3]? = some (.cells (booA rb n) 4 (0, 0))
  c5 : wr.ownsRow (B0 + 4) 48 3 s bars.length (barVs (bars.map (barI h)))
theorem MS.kept {B0 : Nat} {w0 wr wx : World} {V h : List Int} {n : Nat} {par : Nat → Option Nat} {o hd : Nat → Nat} {rb : Nat → Bool} {bars : List (Nat × Nat)} {s : Value} (m : MS B0 w0 wr V h n par o hd rb bars s) (hb : Below wr.heap.size wr wx) : MS B0 w0 wx V h n par o hd rb bars s := by
  have hl : B0 + 3 < wr.heap.size := (Array.getElem?_eq_some_iff.1 m.c4).1
  exact ⟨m.b.trans (hb.mono (by omega)), (hb.block _ (by omega)).trans m.c1, (hb.block _ (by omega)).trans m.c2, (hb.block _ (by omega)).trans m.c3, (hb.block _ hl).trans m.c4, owns_keep m.c5 fun q hq => hb.block q (m.c5.lt q hq).2⟩
theorem set_at {w : World} {g i : Nat} {cs : Array Value} {t : TypeId} {v : Value} (h : w.heap[g]? = some (.cells cs t (0, 0))) : (w.setCell ⟨g, i, none⟩ v).heap[g]? = some (.cells (cs.setIfInBounds i v) t (0, 0)) := set_block h
theorem set_off {w : World} {g i k : Nat} {v : Value} (h : k ≠ g) : (w.setCell ⟨g, i, none⟩ v).heap[k]? = w.heap[k]? := Below.heap_setCell _ _ _ _ (by simpa using h)
theorem MS.setO {B0 : Nat} {w0 wr : World} {V h : List Int} {n : Nat} {par : Nat → Option Nat} {o hd : Nat → Nat} {rb : Nat → Bool} {bars : List (Nat × Nat)} {s : Value} (m : MS B0 w0 wr V h n par o hd rb bars s) (i v : Nat) : MS B0 w0 (wr.setCell ⟨B0 + 1, i, none⟩ (.int .i64 (v : Int))) V h n par (updN o i v) hd rb bars s :=
  ⟨m.b.setCell (p := ⟨B0 + 1, i, none⟩) (by show B0 ≤ B0 + 1; omega) _, (set_off (by omega)).trans m.c1, by rw [set_at m.c2, natA_set], (set_off (by omega)).trans m.c3, (set_off (by omega)).trans m.c4, owns_set m.c5 (by omega)⟩
theorem MS.setH {B0 : Nat} {w0 wr : World} {V h : List Int} {n : Nat} {par : Nat → Option Nat} {o hd : Nat → Nat} {rb : Nat → Bool} {bars : List (Nat × Nat)} {s : Value} (m : MS B0 w0 wr V h n par o hd rb bars s) (i v : Nat) : MS B0 w0 (wr.setCell ⟨B0 + 2, i, none⟩ (.int .i64 (v : Int))) V h n par o (updN hd i v) rb bars s :=
  ⟨m.b.setCell (p := ⟨B0 + 2, i, none⟩) (by show B0 ≤ B0 + 2; omega) _, (set_off (by omega)).trans m.c1, (set_off (by omega)).trans m.c2, by rw [set_at m.c3, natA_set], (set_off (by omega)).trans m.c4, owns_set m.c5 (by omega)⟩
theorem MS.setB {B0 : Nat} {w0 wr : World} {V h : List Int} {n : Nat} {par : Nat → Option Nat} {o hd : Nat → Nat} {rb : Nat → Bool} {bars : List (Nat × Nat)} {s : Value} (m : MS B0 w0 wr V h n par o hd rb bars s) (i : Nat) (v : Bool) : MS B0 w0 (wr.setCell ⟨B0 + 3, i, none⟩ (.bool v)) V h n par o hd (updB rb i v) bars s :=
  ⟨m.b.setCell (p := ⟨B0 + 3, i, none⟩) (by show B0 ≤ B0 + 3; omega) _, (set_off (by omega)).trans m.c1, (set_off (by omega)).trans m.c2, (set_off (by omega)).trans m.c3, by rw [set_at m.c4, booA_set], owns_set m.c5 (by omega)⟩
theorem MS.setP {B0 : Nat} {w0 wr : World} {V h : List Int} {n : Nat} {par : Nat → Option Nat} {o hd : Nat → Nat} {rb : Nat → Bool} {bars : List (Nat × Nat)} {s : Value} (m : MS B0 w0 wr V h n par o hd rb bars s) (i k : Nat) : MS B0 w0 (wr.setCell ⟨B0, i * 2 + 1, none⟩ (.int .i64 (V.getD k 0))) V h n (updO par i (some k)) o hd rb bars s :=
  ⟨m.b.setCell (p := ⟨B0, i * 2 + 1, none⟩) (Nat.le_refl _) _, by rw [set_at m.c1, nodA_set], (set_off (by omega)).trans m.c2, (set_off (by omega)).trans m.c3, (set_off (by omega)).trans m.c4, owns_set m.c5 (by omega)⟩
theorem MS.cells {B0 : Nat} {w0 wr : World} {V h : List Int} {n : Nat} {par : Nat → Option Nat} {o hd : Nat → Nat} {rb : Nat → Bool} {bars : List (Nat × Nat)} {s : Value} (m : MS B0 w0 wr V h n par o hd rb bars s) {i : Nat} (hi : i < n) :
    wr.cell? ⟨B0 + 1, i, none⟩ = some (.int .i64 ((o i : Nat) : Int)) ∧ wr.cell? ⟨B0 + 2, i, none⟩ = some (.int .i64 ((hd i : Nat) : Int)) ∧ wr.cell? ⟨B0 + 3, i, none⟩ = some (.bool (rb i)) ∧ wr.cell? ⟨B0, i * 2 + 1, none⟩ = some (.int .i64 (parI V (par i))) ∧
    wr.frozen? ⟨B0 + 1, i, none⟩ = false ∧ wr.frozen? ⟨B0 + 2, i, none⟩ = false ∧ wr.frozen? ⟨B0 + 3, i, none⟩ = false ∧ wr.frozen? ⟨B0, i * 2 + 1, none⟩ = false :=
  ⟨(cell_of_row _ _ _ _ _ _ m.c2).trans (natA_get hi), (cell_of_row _ _ _ _ _ _ m.c3).trans (natA_get hi), (cell_of_row _ _ _ _ _ _ m.c4).trans (booA_get hi), (cell_of_row _ _ _ _ _ _ m.c1).trans (nodA_snd hi), frozen_of_row _ _ _ _ _ m.c2, frozen_of_row _ _ _ _ _ m.c3, frozen_of_row _ _ _ _ _ m.c4, frozen_of_row _ _ _ _ _ m.c1⟩
/-- the next height -/
def thrF (ht : List Int) (M : List Nat) (n t : Nat) : Int := if t < n then ht.getD (M.getD t 0) 0 else 2000000
theorem getM {M : List Nat} {i : Nat} (h : i < M.length) : M.getD i 0 = M[i] := by rw [List.getD_eq_getElem?_getD, List.getElem?_eq_getElem h]; rfl
theorem thr_iff {ht : List Int} {M : List Nat} {n : Nat} (hM : M.Perm (List.range n)) (hMs : M.Pairwise (fun i j => ht.getD i 0 < ht.getD j 0)) (hl : ht.length = n) (hbd : ∀ x ∈ ht, -1048576 ≤ x ∧ x ≤ 1048576) {t : Nat} (htn : t ≤ n) {x : Nat} (hx : x < n) : ht.getD x 0 < thrF ht M n t ↔ x ∈ M.take t := by
  have hml : M.length = n := by rw [hM.length_eq, List.length_range]
  have hxm : x ∈ M := hM.mem_iff.2 (List.mem_range.2 hx)
  obtain ⟨i, hi, rfl⟩ := List.getElem_of_mem hxm
  have hp := List.pairwise_iff_getElem.1 hMs
  have hmt : M[i] ∈ M.take t ↔ i < t := by
    constructor
    · intro h
      obtain ⟨q, hq, e⟩ := List.getElem_of_mem h
      rw [List.length_take] at hq
      rw [List.getElem_take] at e
      rcases Nat.lt_trichotomy q i with h1 | h1 | h1
      · have := hp q i (by omega) hi h1
        rw [e] at this; omega
      · omega
      · have := hp i q hi (by omega) h1
        rw [e] at this; omega
    · intro h
      exact List.mem_take_iff_getElem.2 ⟨i, by omega, rfl⟩
  rw [hmt]
  unfold thrF
  by_cases h : t < n
  · rw [if_pos h, getM (by omega)]
    constructor
    · intro hlt
      rcases Nat.lt_trichotomy i t with h1 | h1 | h1
      · exact h1
      · subst h1; omega
      · have := hp t i (by omega) hi h1; omega
    · intro h1
      exact hp i t hi (by omega) h1
  · rw [if_neg h]
    constructor
    · intro _; omega
    · intro _
      have h3 : ht.getD M[i] 0 ∈ ht := by
        rw [List.getD_eq_getElem?_getD, List.getElem?_eq_getElem (by rw [hl]; exact hx)]
        exact List.getElem_mem _
      have := (hbd _ h3).2
      omega
/-- one vertex more is below the next height -/
theorem thr_next {ht : List Int} {M : List Nat} {n : Nat} (hM : M.Perm (List.range n)) (hMs : M.Pairwise (fun i j => ht.getD i 0 < ht.getD j 0)) (hl : ht.length = n) (hbd : ∀ x ∈ ht, -1048576 ≤ x ∧ x ≤ 1048576) {t : Nat} (htn : t < n) {x : Nat} (hx : x < n) : ht.getD x 0 < thrF ht M n (t + 1) ↔ ht.getD x 0 ≤ ht.getD (M.getD t 0) 0 := by
  have hml : M.length = n := by rw [hM.length_eq, List.length_range]
  rw [thr_iff hM hMs hl hbd (by omega) hx, take_snoc_getD 0 M t (by omega), List.mem_append, ← thr_iff hM hMs hl hbd (by omega) hx]
  have e : thrF ht M n t = ht.getD (M.getD t 0) 0 := by unfold thrF; rw [if_pos htn]
  rw [e, List.mem_singleton]
  constructor
  · rintro (h | rfl) <;> omega
  · intro h
    by_cases h1 : ht.getD x 0 < ht.getD (M.getD t 0) 0
    · exact Or.inl h1
    · have h2 : ¬ ht.getD x 0 < thrF ht M n t := by rw [e]; exact h1
      rw [thr_iff hM hMs hl hbd (by omega) hx] at h2
      -- x stands at or behind t; at t, or its height is greater
      have hxm : x ∈ M := hM.mem_iff.2 (List.mem_range.2 hx)
      obtain ⟨i, hi, rfl⟩ := List.getElem_of_mem hxm
      rcases Nat.lt_trichotomy i t with h3 | h3 | h3
      · exact absurd (List.mem_take_iff_getElem.2 ⟨i, by omega, rfl⟩) h2
      · subst h3; exact Or.inr (getM (by omega)).symm
      · have := List.pairwise_iff_getElem.1 hMs t i (by omega) hi h3
        rw [← getM (by omega : t < M.length)] at this
        omega
/-- which neighbours have been met -/
def DqF (ht : List Int) (Ep : List (Nat × Nat)) (v q : Nat) (u : Nat) : Prop := ht.getD u 0 < ht.getD v 0 ∧ ((u, v) ∈ Ep.take q ∨ (v, u) ∈ Ep.take q)
theorem dq_0 (ht : List Int) (Ep : List (Nat × Nat)) (v : Nat) : DqF ht Ep v 0 = fun _ => False := funext fun u => propext ⟨fun h => by have := h.2; simp at this, fun h => h.elim⟩
theorem dq_same {ht : List Int} {Ep : List (Nat × Nat)} {v q : Nat} (hq : q < Ep.length) (h : ∀ u, (Ep.getD q (0, 0) = (u, v) ∨ Ep.getD q (0, 0) = (v, u)) → ¬ ht.getD u 0 < ht.getD v 0) : DqF ht Ep v (q + 1) = DqF ht Ep v q := funext fun u => propext (by
  unfold DqF
  rw [take_snoc_getD (0, 0) Ep q hq]
  simp only [List.mem_append, List.mem_singleton]
  constructor
  · rintro ⟨a, (b | b) | (b | b)⟩
    · exact ⟨a, Or.inl b⟩
    · exact absurd a (h u (Or.inl b.symm))
    · exact ⟨a, Or.inr b⟩
    · exact absurd a (h u (Or.inr b.symm))
  · rintro ⟨a, b | b⟩
    · exact ⟨a, Or.inl (Or.inl b)⟩
    · exact ⟨a, Or.inr (Or.inl b)⟩)
theorem dq_more {ht : List Int} {Ep : List (Nat × Nat)} {v q u : Nat} (hq : q < Ep.length) (he : Ep.getD q (0, 0) = (u, v) ∨ Ep.getD q (0, 0) = (v, u)) (hu : ht.getD u 0 < ht.getD v 0) : DqF ht Ep v (q + 1) = fun z => DqF ht Ep v q z ∨ z = u := funext fun z => propext (by
  unfold DqF
  rw [take_snoc_getD (0, 0) Ep q hq]
  simp only [List.mem_append, List.mem_singleton]
  constructor
  · rintro ⟨a, (b | b) | (b | b)⟩
    · exact Or.inl ⟨a, Or.inl b⟩
    · rcases he with e | e
      · rw [e] at b; cases b; exact Or.inr rfl
      · rw [e] at b; cases b; omega
    · exact Or.inl ⟨a, Or.inr b⟩
    · rcases he with e | e
      · rw [e] at b; cases b; omega
      · rw [e] at b; cases b; exact Or.inr rfl
  · rintro (⟨a, b | b⟩ | rfl)
    · exact ⟨a, Or.inl (Or.inl b)⟩
    · exact ⟨a, Or.inr (Or.inl b)⟩
    · refine ⟨hu, ?_⟩
      rcases he with e | e
      · exact Or.inl (Or.inr e.symm)
      · exact Or.inr (Or.inr e.symm))
theorem dq_full {ht : List Int} {Ep : List (Nat × Nat)} {v : Nat} : ∀ u, AdE Ep u v → ht.getD u 0 < ht.getD v 0 → DqF ht Ep v Ep.length u := fun u a h => by
  unfold DqF
  rw [List.take_length]
  exact ⟨h, a⟩

theorem barQ_fn {n : Nat} {h : Nat → Int} {Ad : Nat → Nat → Prop} (g : Gr n h Ad) {r k k' : Nat} (a : BarQ n h Ad r k) (b : BarQ n h Ad r k') : k = k' :=
  g.inj k k' a.2.1.1 b.2.1.1 (Int.le_antisymm (a.2.2 k' b.2.1) (b.2.2 k a.2.1))
theorem bars_fst {n : Nat} {h : Nat → Int} {Ad : Nat → Nat → Prop} (g : Gr n h Ad) {bars : List (Nat × Nat)} (hb : ∀ r k, (r, k) ∈ bars → BarQ n h Ad r k) (hn : bars.Nodup) : (bars.map Prod.fst).Nodup := by
  unfold List.Nodup
  rw [List.pairwise_map]
  refine List.Pairwise.imp_of_mem (fun {a b} ha hb' hne e => hne ?_) hn
  obtain ⟨a1, a2⟩ := a
  obtain ⟨b1, b2⟩ := b
  simp only at e
  subst e
  rw [barQ_fn g (hb _ _ ha) (hb _ _ hb')]
theorem bars_len {n : Nat} {h : Nat → Int} {Ad : Nat → Nat → Prop} (g : Gr n h Ad) {bars : List (Nat × Nat)} (hb : ∀ r k, (r, k) ∈ bars → BarQ n h Ad r k) (hn : bars.Nodup) : bars.length ≤ n := by
  have h1 := (bars_fst g hb hn).length_le_of_subset (l₂ := List.range n) fun r hr => by
    obtain ⟨⟨r', k⟩, hm, rfl⟩ := List.mem_map.1 hr
    exact List.mem_range.2 (hb _ _ hm).1.1
  rwa [List.length_map, List.length_range] at h1
theorem barVs_snoc (l : List (Int × Int)) (p : Int × Int) : barVs (l ++ [p]) = barVs l ++ [.int .i64 0, .int .i64 p.1, .int .i64 p.2] := by unfold barVs; rw [List.flatMap_append]; rfl
/-- the lowest ones up to j that no bar has ended -/
def rootsN (o : Nat → Nat) (j : Nat) : List Nat := (List.range j).filter fun x => o x == x
def rootsI (o : Nat → Nat) (ht : List Int) (j : Nat) : List (Int × Int) := (rootsN o j).map fun x => (ht.getD x 0, 1048577)
theorem rootsI_0 (o : Nat → Nat) (ht : List Int) : rootsI o ht 0 = [] := rfl
theorem rootsI_yes {o : Nat → Nat} {ht : List Int} {j : Nat} (h : o j = j) : rootsI o ht (j + 1) = rootsI o ht j ++ [(ht.getD j 0, 1048577)] := by
  unfold rootsI rootsN
  rw [List.range_succ, List.filter_append, List.map_append]
  simp [h]
theorem rootsI_no {o : Nat → Nat} {ht : List Int} {j : Nat} (h : ¬ o j = j) : rootsI o ht (j + 1) = rootsI o ht j := by
  unfold rootsI rootsN
  rw [List.range_succ, List.filter_append, List.map_append]
  simp [h]
theorem rootsI_len (o : Nat → Nat) (ht : List Int) (j : Nat) : (rootsI o ht j).length ≤ j := by
  unfold rootsI rootsN
  rw [List.length_map]
  exact Nat.le_trans (List.length_filter_le ..) (by simp)
def allBars (ht : List Int) (o : Nat → Nat) (bars : List (Nat × Nat)) (j : Nat) : List (Int × Int) := bars.map (barI ht) ++ rootsI o ht j
theorem births {ht : List Int} {o : Nat → Nat} {bars : List (Nat × Nat)} {n : Nat} : (allBars ht o bars n).map Prod.fst = (bars.map Prod.fst ++ rootsN o n).map fun x => ht.getD x 0 := by
  unfold allBars rootsI
  rw [List.map_append, List.map_append, List.map_map, List.map_map, List.map_map]
  rfl
theorem births_nodup {n : Nat} {ht : List Int} {Ad : Nat → Nat → Prop} (g : Gr n (fun i => ht.getD i 0) Ad) {t : Int} {o hd : Nat → Nat} {par : Nat → Option Nat} {bars : List (Nat × Nat)} (P : Pst n (fun i => ht.getD i 0) Ad t o hd par bars) : (bars.map Prod.fst ++ rootsN o n).Nodup ∧ ∀ r ∈ bars.map Prod.fst ++ rootsN o n, r < n := by
  have h1 := bars_fst g (fun r k h => ((P.bar r k).1 h).1) P.nod
  refine ⟨List.nodup_append.2 ⟨h1, List.nodup_range.filter _, fun a ha b hb e => ?_⟩, fun r hr => ?_⟩
  · obtain ⟨⟨r, k⟩, hm, rfl⟩ := List.mem_map.1 ha
    have h2 := ((P.bar r k).1 hm).2.2
    have h3 := (List.mem_filter.1 hb).2
    rw [← e] at h3
    simp at h3
    exact h2 h3
  · rcases List.mem_append.1 hr with h | h
    · obtain ⟨⟨r, k⟩, hm, rfl⟩ := List.mem_map.1 h
      exact ((P.bar r k).1 hm).1.1.1
    · exact List.mem_range.1 (List.mem_filter.1 h).1
theorem births_ne {n : Nat} {ht : List Int} {Ad : Nat → Nat → Prop} (g : Gr n (fun i => ht.getD i 0) Ad) {t : Int} {o hd : Nat → Nat} {par : Nat → Option Nat} {bars : List (Nat × Nat)} (P : Pst n (fun i => ht.getD i 0) Ad t o hd par bars) : (allBars ht o bars n).Pairwise (fun p q => p.1 ≠ q.1) := by
  obtain ⟨h1, h2⟩ := births_nodup g P
  have h3 : ((allBars ht o bars n).map Prod.fst).Pairwise (· ≠ ·) := by
    rw [births, List.pairwise_map]
    exact List.Pairwise.imp_of_mem (fun {a b} ha hb hne e => hne (g.inj a b (h2 a ha) (h2 b hb) e)) h1
  rwa [List.pairwise_map] at h3
theorem births_in {n : Nat} {ht : List Int} {Ad : Nat → Nat → Prop} (g : Gr n (fun i => ht.getD i 0) Ad) {t : Int} {o hd : Nat → Nat} {par : Nat → Option Nat} {bars : List (Nat × Nat)} (P : Pst n (fun i => ht.getD i 0) Ad t o hd par bars) (hl : ht.length = n) (hbd : ∀ x ∈ ht, -1048576 ≤ x ∧ x ≤ 1048576) : ∀ p ∈ allBars ht o bars n, -1048577 ≤ p.1 ∧ p.1 ≤ 1048577 := fun p hp => by
  have h1 : p.1 ∈ (allBars ht o bars n).map Prod.fst := List.mem_map.2 ⟨p, hp, rfl⟩
  rw [births] at h1
  obtain ⟨r, hr, e⟩ := List.mem_map.1 h1
  have hrn := (births_nodup g P).2 r hr
  have h3 : ht.getD r 0 ∈ ht := by
    rw [List.getD_eq_getElem?_getD, List.getElem?_eq_getElem (by rw [hl]; exact hrn)]
    exact List.getElem_mem _
  have := hbd _ h3
  rw [← e]
  show -1048577 ≤ ht.getD r 0 ∧ ht.getD r 0 ≤ 1048577
  omega
/-- the memory at the end -/
structure ME (B0 : Nat) (w0 wr : World) (V : List Int) (n : Nat) (par : Nat → Option Nat) (o : Nat → Nat) (L : List (Int × Int)) (s : Value) : Prop where
  b : Below B0 w0 wr
  c1 : wr.heap[B0]? = some (.cells (nodA V par n) 45 (0, 0))
  c2 : wr.heap[B0 + 1]? = some (.cells (natA o n) 3 (0, 0))
  lt : B0 + 3 < wr.heap.size
  c5 : wr.ownsRow (B0 + 4) 48 3 s L.length (barVs L)
theorem MS.me {B0 : Nat} {w0 wr : World} {V h : List Int} {n : Nat} {par : Nat → Option Nat} {o hd : Nat → Nat} {rb : Nat → Bool} {bars : List (Nat × Nat)} {s : Value} (m : MS B0 w0 wr V h n par o hd rb bars s) : ME B0 w0 wr V n par o (allBars h o bars 0) s := by
  refine ⟨m.b, m.c1, m.c2, (Array.getElem?_eq_some_iff.1 m.c4).1, ?_⟩
  unfold allBars
  rw [rootsI_0, List.append_nil, List.length_map]
  exact m.c5
theorem ME.kept {B0 : Nat} {w0 wr wx : World} {V : List Int} {n : Nat} {par : Nat → Option Nat} {o : Nat → Nat} {L : List (Int × Int)} {s : Value} (m : ME B0 w0 wr V n par o L s) (hb : Below wr.heap.size wr wx) : ME B0 w0 wx V n par o L s := by
  have hl := m.lt
  exact ⟨m.b.trans (hb.mono (by omega)), (hb.block _ (by omega)).trans m.c1, (hb.block _ (by omega)).trans m.c2, Nat.lt_of_lt_of_le hl hb.size, owns_keep m.c5 fun q hq => hb.block q (m.c5.lt q hq).2⟩
theorem ME.app {B0 : Nat} {w0 wr w' : World} {V : List Int} {n : Nat} {par : Nat → Option Nat} {o : Nat → Nat} {L : List (Int × Int)} {s s' : Value} {ob : Obj} (m : ME B0 w0 wr V n par o L s) {p : Int × Int} (hg : (wr.alloc ob).grownBy w' s.ownBlock)
    (ho : w'.ownsRow (B0 + 4) 48 3 s' (L.length + 1) (barVs L ++ [.int .i64 0, .int .i64 p.1, .int .i64 p.2])) : ME B0 w0 w' V n par o (L ++ [p]) s' := by
  have hl := m.lt
  have hs : ∀ k, s.ownBlock = some k → B0 + 4 ≤ k := fun k e => (m.c5.lt k e).1
  have hk : ∀ k, k ≤ B0 + 3 → w'.heap[k]? = wr.heap[k]? := fun k hk => (hg.block k (by simp; omega) (fun e => by have := hs k e.symm; omega)).trans (alloc_old _ _ _ (by omega))
  have hsz := hg.size
  refine ⟨(m.b.alloc (by omega) ob).grown hg (by simp; omega) (fun q e => by have := hs q e; omega), (hk _ (by omega)).trans m.c1, (hk _ (by omega)).trans m.c2, by simp at hsz; omega, ?_⟩
  rw [List.length_append, barVs_snoc]
  exact ho
theorem ME.sl {B0 : Nat} {w0 wr : World} {V : List Int} {n : Nat} {par : Nat → Option Nat} {o : Nat → Nat} {L : List (Int × Int)} {s : Value} (m : ME B0 w0 wr V n par o L s) : ∃ p c, s = .slice p L.length c := by
  rcases Joins.ownsRow_forms m.c5 with ⟨e, h0⟩ | ⟨g, cap, e⟩
  · exact ⟨none, 0, by rw [e, h0]⟩
  · exact ⟨_, cap, e⟩
theorem ME.ocell {B0 : Nat} {w0 wr : World} {V : List Int} {n : Nat} {par : Nat → Option Nat} {o : Nat → Nat} {L : List (Int × Int)} {s : Value} (m : ME B0 w0 wr V n par o L s) {i : Nat} (hi : i < n) : wr.cell? ⟨B0 + 1, i, none⟩ = some (.int .i64 ((o i : Nat) : Int)) :=
  (cell_of_row _ _ _ _ _ _ m.c2).trans (natA_get hi)
/-- what merging gives back -/
def MergeP (B0 : Nat) (w : World) (V ht : List Int) (n : Nat) (Ad : Nat → Nat → Prop) (e : Ending) (w' : World) : Prop :=
  ∃ (s : Value) (o hd : Nat → Nat) (par : Nat → Option Nat) (bars : List (Nat × Nat)) (B' : List (Int × Int)) (t : Int), e = .returned (.tuple #[.slice (some ⟨B0, 0, none⟩) n n, s]) ∧ w.heap.size ≤ B0 ∧ Below w.heap.size w w' ∧ w'.heap[B0]? = some (.cells (nodA V par n) 45 (0, 0)) ∧
    (∀ x, x < n → ht.getD x 0 < t) ∧ Pst n (fun i => ht.getD i 0) Ad t o hd par bars ∧ B'.Perm (allBars ht o bars n) ∧ B'.Pairwise (fun p q => p.1 < q.1) ∧ w'.ownsRow (B0 + 4) 48 3 s B'.length (barVs B')
theorem merge_sort {B0 : Nat} {w0 wr : World} {V : List Int} {n : Nat} {par : Nat → Option Nat} {o : Nat → Nat} {L : List (Int × Int)} {s : Value} (m : ME B0 w0 wr V n par o L s) (hL : L.length ≤ 100000) (hb : ∀ p ∈ L, -1048577 ≤ p.1 ∧ p.1 ≤ 1048577) (hd : L.Pairwise (fun p q => p.1 ≠ q.1)) :
    Calls Tryz.prog 72 #[s, .func (.func 73) #[] #[]] wr fun e w' => e = .returned (.tuple #[]) ∧ ∃ B' : List (Int × Int), B'.Perm L ∧ B'.Pairwise (fun p q => p.1 < q.1) ∧ ME B0 w0 w' V n par o B' s := by
  rcases Nat.eq_zero_or_pos L.length with h0 | h0
  · obtain ⟨p, c, rfl⟩ := m.sl
    obtain rfl := List.length_eq_zero_iff.1 h0
    have h := AnyF.slices_SortFunc_none barLays p c (.func (.func 73) #[] #[]) wr
    change Calls Tryz.prog 72 _ _ _ at h
    exact h.mono fun e w' ⟨he, hw⟩ => ⟨he, [], List.Perm.refl _, List.Pairwise.nil, by rw [hw]; exact m⟩
  · obtain ⟨g, cap, rfl⟩ := Joins.ownsRow_form m.c5 h0
    refine (sortB_any (B0 + 4) g cap L wr h0 hL hb hd m.c5).mono fun e w' ⟨he, hg, B', h1, h2, h3⟩ => ⟨he, B', h1, h2, ?_⟩
    have hgO := (m.c5.lt g rfl).1
    have hl := m.lt
    have hk : ∀ k, k ≤ B0 + 3 → w'.heap[k]? = wr.heap[k]? := fun k hk => hg.block k (by omega) (fun e => by cases e; omega)
    exact ⟨m.b.grown hg (by omega) (fun q e => by cases e; omega), (hk _ (by omega)).trans m.c1, (hk _ (by omega)).trans m.c2, Nat.lt_of_lt_of_le hl hg.size, by rw [h1.length_eq]; exact h3⟩
end Go.Proofs.YtddnjimpdidpaaaGreatDoor
