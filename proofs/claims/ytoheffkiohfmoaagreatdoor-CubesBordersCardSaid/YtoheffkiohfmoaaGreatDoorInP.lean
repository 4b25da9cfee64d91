/-
  The document's matrix of a dimension, plain: the number of a cell in a greater one; the rows, the columns; a matrix that is filled column by column, and the columns of an edge and of a square.
-/
import Derived.Test.YtoheffkiohfmoaaGreatDoorCpA
set_option linter.unusedSimpArgs false
set_option linter.unusedVariables false
namespace Go.Proofs.YtoheffkiohfmoaaGreatDoor
open Go Go.RowKit Go.Maps FL

/-- the number of cell p in the rim of cell q (twice their middles) -/
def incI (p q : PI) (dim : Int) : Int := if (p.1 - q.1) * (p.1 - q.1) + (p.2 - q.2) * (p.2 - q.2) = 1 then (if dim = 1 then (p.1 - q.1) + (p.2 - q.2) else (p.1 - q.1) - (p.2 - q.2)) else 0
def matI (rows cols : List PI) (dim : Int) : List Int := rows.flatMap fun p => cols.map fun q => incI p q dim
def BoxI (p : PI) : Prop := (0 ≤ p.1 ∧ p.1 ≤ 1000000) ∧ (0 ≤ p.2 ∧ p.2 ≤ 1000000)
theorem mem_cells {ms : List ByteArray} {dim : Int} {a : Nat} {c : PI} (h : c ∈ cellsTo ms dim a) : ∃ x y, x ≤ wideI ms ∧ y < a ∧ c ∈ cell4 x y := by
  unfold cellsTo at h
  obtain ⟨y, hy, h⟩ := List.mem_flatMap.1 h
  unfold cellRow at h
  obtain ⟨x, hx, h⟩ := List.mem_flatMap.1 h
  unfold cellAt at h
  have := List.mem_range.1 hx
  exact ⟨x, y, by omega, List.mem_range.1 hy, (List.mem_filter.1 h).1⟩
theorem cells_box {ms : List ByteArray} {dim : Int} {a : Nat} {c : PI} (h : c ∈ cellsTo ms dim a) (hW : wideI ms ≤ 24) (ha : a ≤ 25) : BoxI c := by
  obtain ⟨x, y, hx, hy, h⟩ := mem_cells h
  unfold cell4 at h
  simp only [List.mem_cons, List.mem_nil_iff, or_false] at h
  unfold BoxI
  rcases h with rfl | rfl | rfl | rfl <;> simp <;> omega
theorem cells_len {ms : List ByteArray} {dim : Int} {a : Nat} (hW : wideI ms ≤ 24) (ha : a ≤ 25) : (cellsTo ms dim a).length ≤ 2500 := by
  have h1 : ∀ x y, (cellAt ms dim x y).length ≤ 4 := fun x y => Nat.le_trans (List.length_filter_le _ _) (by simp [cell4])
  have h2 : (gridTo (cellAt ms dim) (wideI ms) a).length ≤ 4 * (wideI ms + 1) * a := gridTo_len h1 _ _
  have h3 : 4 * (wideI ms + 1) * a ≤ 100 * 25 := Nat.mul_le_mul (by omega) ha
  have e : cellsTo ms dim a = gridTo (cellAt ms dim) (wideI ms) a := rfl
  rw [e]; omega

theorem matI_len (rows cols : List PI) (dim : Int) : (matI rows cols dim).length = rows.length * cols.length := by
  unfold matI
  induction rows with
  | nil => simp
  | cons p rows ih => rw [List.flatMap_cons, List.length_append, ih, List.length_map, List.length_cons, Nat.succ_mul]; omega
def rowsI (ms : List ByteArray) (dim : Int) : List PI := if 0 < dim then cellsTo ms (dim - 1) (ms.length + 1) else []
def colsI (ms : List ByteArray) (dim : Int) : List PI := cellsTo ms dim (ms.length + 1)
theorem matI_snoc (rows cols : List PI) (p : PI) (dim : Int) : matI (rows ++ [p]) cols dim = matI rows cols dim ++ cols.map (fun q => incI p q dim) := by unfold matI; rw [List.flatMap_append]; simp

theorem matI_at : ∀ {rows cols : List PI} {dim : Int} {i k : Nat}, i < rows.length → k < cols.length → (matI rows cols dim).getD (i * cols.length + k) 0 = incI (rows.getD i (0, 0)) (cols.getD k (0, 0)) dim
  | p :: rows, cols, dim, 0, k, _, hk => by
    have hl : (cols.map fun q => incI p q dim).length = cols.length := List.length_map ..
    unfold matI
    rw [List.flatMap_cons, List.getD_eq_getElem?_getD, List.getElem?_append_left (by rw [hl]; omega), List.getElem?_map, show 0 * cols.length + k = k by omega, List.getElem?_eq_getElem hk]
    rw [List.getD_eq_getElem?_getD, List.getD_eq_getElem?_getD, List.getElem?_eq_getElem hk]
    rfl
  | p :: rows, cols, dim, i + 1, k, hi, hk => by
    have hl : (cols.map fun q => incI p q dim).length = cols.length := List.length_map ..
    have ih := matI_at (rows := rows) (cols := cols) (dim := dim) (i := i) (k := k) (by simpa using hi) hk
    have e : matI (p :: rows) cols dim = (cols.map fun q => incI p q dim) ++ matI rows cols dim := by unfold matI; rw [List.flatMap_cons]
    rw [e, List.getD_eq_getElem?_getD, List.getElem?_append_right (by rw [hl, Nat.succ_mul]; omega), hl, show (i + 1) * cols.length + k - cols.length = i * cols.length + k by rw [Nat.succ_mul]; omega, ← List.getD_eq_getElem?_getD, ih]
    rfl
  | [], _, _, _, _, hi, _ => by simp at hi

/-! ### a matrix that is filled -/
def upd (F : Nat → Int) (k : Nat) (x : Int) : Nat → Int := fun i => if i = k then x else F i
theorem pair_inj {C r c r' c' : Nat} (hc : c < C) (hc' : c' < C) (h : r * C + c = r' * C + c') : r = r' ∧ c = c' := by
  have h1 : (r * C + c) / C = r := by rw [Nat.mul_comm, Nat.mul_add_div (by omega), Nat.div_eq_of_lt hc]; rfl
  have h2 : (r' * C + c') / C = r' := by rw [Nat.mul_comm, Nat.mul_add_div (by omega), Nat.div_eq_of_lt hc']; rfl
  rw [h, h2] at h1
  subst h1
  exact ⟨rfl, by omega⟩
theorem upd_at {F : Nat → Int} {m a k r c : Nat} {x : Int} (hk : k < m) (hc : c < m) : upd F (a * m + k) x (r * m + c) = if c = k ∧ r = a then x else F (r * m + c) := by
  unfold upd
  by_cases h : c = k ∧ r = a
  · obtain ⟨rfl, rfl⟩ := h; rw [if_pos rfl, if_pos ⟨rfl, rfl⟩]
  · rw [if_neg h, if_neg (fun e => h (by obtain ⟨h1, h2⟩ := pair_inj hc hk e; exact ⟨h2, h1⟩))]
/-- columns below k hold E, the others nothing -/
def FillE (n m : Nat) (E : Nat → Nat → Int) (F : Nat → Int) (k : Nat) : Prop := ∀ r c, r < n → c < m → F (r * m + c) = if c < k then E r c else 0
theorem FillE.start (n m : Nat) (E : Nat → Nat → Int) : FillE n m E (fun _ => 0) 0 := fun r c _ _ => by rw [if_neg (Nat.not_lt_zero c)]
theorem FillE.step2 {n m : Nat} {E : Nat → Nat → Int} {F : Nat → Int} {k a b : Nat} {x y : Int} (h : FillE n m E F k) (hk : k < m) (hE : ∀ r, r < n → E r k = if r = b then y else if r = a then x else 0) : FillE n m E (upd (upd F (a * m + k) x) (b * m + k) y) (k + 1) := fun r c hr hc => by
  rw [upd_at hk hc, upd_at hk hc, h r c hr hc]
  by_cases e : c = k
  · subst e
    rw [if_neg (Nat.lt_irrefl c), if_pos (Nat.lt_succ_self c), hE r hr]
    simp
  · have e1 : (c < k + 1) = (c < k) := propext (by omega)
    simp only [e1, e, false_and, if_false]
theorem FillE.step4 {n m : Nat} {E : Nat → Nat → Int} {F : Nat → Int} {k a b a' b' : Nat} {x y x' y' : Int} (h : FillE n m E F k) (hk : k < m) (hE : ∀ r, r < n → E r k = if r = b' then y' else if r = a' then x' else if r = b then y else if r = a then x else 0) :
    FillE n m E (upd (upd (upd (upd F (a * m + k) x) (b * m + k) y) (a' * m + k) x') (b' * m + k) y') (k + 1) := fun r c hr hc => by
  rw [upd_at hk hc, upd_at hk hc, upd_at hk hc, upd_at hk hc, h r c hr hc]
  by_cases e : c = k
  · subst e
    rw [if_neg (Nat.lt_irrefl c), if_pos (Nat.lt_succ_self c), hE r hr]
    simp
  · have e1 : (c < k + 1) = (c < k) := propext (by omega)
    simp only [e1, e, false_and, if_false]
theorem FillE.done {rows cols : List PI} {dim : Int} {E : Nat → Nat → Int} {F : Nat → Int} (h : FillE rows.length cols.length E F cols.length) (hE : ∀ r c, r < rows.length → c < cols.length → E r c = incI (rows.getD r (0, 0)) (cols.getD c (0, 0)) dim) : ∀ ix, ix < rows.length * cols.length → F ix = (matI rows cols dim).getD ix 0 := fun ix hix => by
  have hC : 0 < cols.length := by
    rcases Nat.eq_zero_or_pos cols.length with h0 | h0
    · rw [h0] at hix; simp at hix
    · exact h0
  have e : ix = ix / cols.length * cols.length + ix % cols.length := by rw [Nat.mul_comm]; exact (Nat.div_add_mod _ _).symm
  have h1 : ix / cols.length < rows.length := (Nat.div_lt_iff_lt_mul hC).2 hix
  have h2 : ix % cols.length < cols.length := Nat.mod_lt _ hC
  rw [e, h _ _ h1 h2, if_pos h2, hE _ _ h1 h2, matI_at h1 h2]

/-! ### the columns -/
theorem sq_two {z : Int} (h : 2 ≤ z ∨ z ≤ -2) : 4 ≤ z * z := by
  have h1 : 2 ≤ z.natAbs := by omega
  have h2 : 2 * 2 ≤ z.natAbs * z.natAbs := Nat.mul_le_mul h1 h1
  have h3 := Int.natAbs_mul_self (a := z)
  omega
theorem sq_pos (z : Int) : 0 ≤ z * z := by
  have h3 := Int.natAbs_mul_self (a := z)
  omega
theorem sq_one {a b : Int} (ha : a % 2 = 1) (hb : b % 2 = 0) : a * a + b * b = 1 ↔ (a = 1 ∨ a = -1) ∧ b = 0 := by
  have p1 := sq_pos a
  have p2 := sq_pos b
  constructor
  · intro h
    have h1 : ¬ (2 ≤ a ∨ a ≤ -2) := fun hh => by have := sq_two hh; omega
    have h2 : ¬ (2 ≤ b ∨ b ≤ -2) := fun hh => by have := sq_two hh; omega
    omega
  · rintro ⟨h1 | h1, h2⟩ <;> subst h1 <;> subst h2 <;> rfl
theorem inc_corn (p : PI) (e : PI × Bool) : incI (cornC p) (edgeC e) 1 = if p = edTo e then 1 else if p = e.1 then -1 else 0 := by
  obtain ⟨px, py⟩ := p
  obtain ⟨⟨x, y⟩, d⟩ := e
  unfold incI cornC edgeC edTo
  cases d
  · simp only [Bool.false_eq_true, if_false, if_true, Prod.mk.injEq]
    have h := sq_one (a := 2 * px - (2 * x + 1)) (b := 2 * py - 2 * y) (by omega) (by omega)
    by_cases h1 : px = x + 1 ∧ py = y
    · rw [if_pos (h.2 (by omega)), if_pos h1]; omega
    · rw [if_neg h1]
      by_cases h2 : px = x ∧ py = y
      · rw [if_pos (h.2 (by omega)), if_pos h2]; omega
      · rw [if_neg (fun hh => by have := h.1 hh; omega), if_neg h2]
  · simp only [if_true, Prod.mk.injEq]
    have h := sq_one (a := 2 * py - (2 * y + 1)) (b := 2 * px - 2 * x) (by omega) (by omega)
    rw [Int.add_comm] at h
    by_cases h1 : px = x ∧ py = y + 1
    · rw [if_pos (h.2 (by omega)), if_pos h1]; omega
    · rw [if_neg h1]
      by_cases h2 : px = x ∧ py = y
      · rw [if_pos (h.2 (by omega)), if_pos h2]; omega
      · rw [if_neg (fun hh => by have := h.1 hh; omega), if_neg h2]
theorem inc_squa (e : PI × Bool) (p : PI) : incI (edgeC e) (squaC p) 2 = if e = (p, true) then -1 else if e = ((p.1, p.2 + 1), false) then -1 else if e = ((p.1 + 1, p.2), true) then 1 else if e = (p, false) then 1 else 0 := by
  obtain ⟨px, py⟩ := p
  obtain ⟨⟨x, y⟩, d⟩ := e
  unfold incI edgeC squaC
  cases d
  · simp only [Bool.false_eq_true, if_false, Prod.mk.injEq, and_false, and_true, show ¬ (2 : Int) = 1 by decide]
    have h := sq_one (a := 2 * y - (2 * py + 1)) (b := 2 * x + 1 - (2 * px + 1)) (by omega) (by omega)
    rw [Int.add_comm] at h
    by_cases h1 : x = px ∧ y = py + 1
    · rw [if_pos (h.2 (by omega)), if_pos h1]; omega
    · rw [if_neg h1]
      by_cases h2 : x = px ∧ y = py
      · rw [if_pos (h.2 (by omega)), if_pos h2]; omega
      · rw [if_neg (fun hh => by have := h.1 hh; omega), if_neg h2]
  · simp only [if_true, if_false, Prod.mk.injEq, and_false, and_true, Bool.true_eq_false, show ¬ (2 : Int) = 1 by decide]
    have h := sq_one (a := 2 * x - (2 * px + 1)) (b := 2 * y + 1 - (2 * py + 1)) (by omega) (by omega)
    by_cases h1 : x = px ∧ y = py
    · rw [if_pos (h.2 (by omega)), if_pos h1]; omega
    · rw [if_neg h1]
      by_cases h2 : x = px + 1 ∧ y = py
      · rw [if_pos (h.2 (by omega)), if_pos h2]; omega
      · rw [if_neg (fun hh => by have := h.1 hh; omega), if_neg h2]

/-! ### rows without a double -/
theorem nod_inj {α : Type} {l : List α} {z : α} (hn : l.Nodup) {i j : Nat} (hi : i < l.length) (hj : j < l.length) (h : l.getD i z = l.getD j z) : i = j := by
  rw [List.getD_eq_getElem?_getD, List.getD_eq_getElem?_getD, List.getElem?_eq_getElem hi, List.getElem?_eq_getElem hj] at h
  exact (List.getElem_inj hn).1 h
theorem mem_at {α : Type} {l : List α} {z x : α} (h : x ∈ l) : ∃ i, i < l.length ∧ l.getD i z = x := by
  obtain ⟨i, hi, rfl⟩ := List.getElem_of_mem h
  exact ⟨i, hi, by rw [List.getD_eq_getElem?_getD, List.getElem?_eq_getElem hi]; rfl⟩
theorem getD_map {α β : Type} {f : α → β} {l : List α} {i : Nat} {z : α} {z' : β} (h : i < l.length) : (l.map f).getD i z' = f (l.getD i z) := by
  rw [List.getD_eq_getElem?_getD, List.getD_eq_getElem?_getD, List.getElem?_map, List.getElem?_eq_getElem h]; rfl
def corns (ms : List ByteArray) : List PI := gridTo (cornAt ms) (wideI ms) (ms.length + 1)
def edges (ms : List ByteArray) : List (PI × Bool) := gridTo (edgeAt ms) (wideI ms) (ms.length + 1)
def squas (ms : List ByteArray) : List PI := gridTo (squaAt ms) (wideI ms) (ms.length + 1)
def EntC (ms : List ByteArray) (r c : Nat) : Int := incI (cornC ((corns ms).getD r (0, 0))) (edgeC ((edges ms).getD c ((0, 0), false))) 1
def EntS (ms : List ByteArray) (r c : Nat) : Int := incI (edgeC ((edges ms).getD r ((0, 0), false))) (squaC ((squas ms).getD c (0, 0))) 2
/-- the column of an edge -/
theorem col_edge {ms : List ByteArray} {e : PI × Bool} {k a b : Nat} (he : (edges ms).getD k ((0, 0), false) = e) (ha : a < (corns ms).length) (hb : b < (corns ms).length) (ea : (corns ms).getD a (0, 0) = e.1) (eb : (corns ms).getD b (0, 0) = edTo e) :
    ∀ r, r < (corns ms).length → EntC ms r k = if r = b then 1 else if r = a then -1 else 0 := fun r hr => by
  unfold EntC
  rw [he, inc_corn]
  have hn : (corns ms).Nodup := corn_nodup ms _ _
  have h1 : ((corns ms).getD r (0, 0) = edTo e) = (r = b) := propext ⟨fun h => nod_inj hn hr hb (h.trans eb.symm), fun h => by rw [h, eb]⟩
  have h2 : ((corns ms).getD r (0, 0) = e.1) = (r = a) := propext ⟨fun h => nod_inj hn hr ha (h.trans ea.symm), fun h => by rw [h, ea]⟩
  simp only [h1, h2]
/-- the column of a square -/
theorem col_squa {ms : List ByteArray} {p : PI} {k a b a' b' : Nat} (he : (squas ms).getD k (0, 0) = p) (ha : a < (edges ms).length) (hb : b < (edges ms).length) (ha' : a' < (edges ms).length) (hb' : b' < (edges ms).length)
    (ea : (edges ms).getD a ((0, 0), false) = (p, false)) (eb : (edges ms).getD b ((0, 0), false) = ((p.1 + 1, p.2), true)) (ea' : (edges ms).getD a' ((0, 0), false) = ((p.1, p.2 + 1), false)) (eb' : (edges ms).getD b' ((0, 0), false) = (p, true)) :
    ∀ r, r < (edges ms).length → EntS ms r k = if r = b' then -1 else if r = a' then -1 else if r = b then 1 else if r = a then 1 else 0 := fun r hr => by
  unfold EntS
  rw [he, inc_squa]
  have hn : (edges ms).Nodup := edge_nodup ms _ _
  have h1 : ((edges ms).getD r ((0, 0), false) = (p, true)) = (r = b') := propext ⟨fun h => nod_inj hn hr hb' (h.trans eb'.symm), fun h => by rw [h, eb']⟩
  have h2 : ((edges ms).getD r ((0, 0), false) = ((p.1, p.2 + 1), false)) = (r = a') := propext ⟨fun h => nod_inj hn hr ha' (h.trans ea'.symm), fun h => by rw [h, ea']⟩
  have h3 : ((edges ms).getD r ((0, 0), false) = ((p.1 + 1, p.2), true)) = (r = b) := propext ⟨fun h => nod_inj hn hr hb (h.trans eb.symm), fun h => by rw [h, eb]⟩
  have h4 : ((edges ms).getD r ((0, 0), false) = (p, false)) = (r = a) := propext ⟨fun h => nod_inj hn hr ha (h.trans ea.symm), fun h => by rw [h, ea]⟩
  simp only [h1, h2, h3, h4]

/-! ### rows and columns of each dimension -/
theorem cell_three (ms : List ByteArray) (x y : Nat) : cellAt ms 3 x y = [] := by
  unfold cellAt
  rw [List.filter_eq_nil_iff]
  intro c hc
  unfold keepC dimC
  simp only [Bool.and_eq_true, decide_eq_true_eq]
  intro h
  omega
theorem cells_zero (ms : List ByteArray) : cellsTo ms 0 (ms.length + 1) = (corns ms).map cornC := cellsTo_map (cell_corn ms) _
theorem cells_one (ms : List ByteArray) : cellsTo ms 1 (ms.length + 1) = (edges ms).map edgeC := cellsTo_map (cell_edge ms) _
theorem cells_two (ms : List ByteArray) : cellsTo ms 2 (ms.length + 1) = (squas ms).map squaC := cellsTo_map (cell_squa ms) _
theorem cells_three (ms : List ByteArray) : cellsTo ms 3 (ms.length + 1) = [] := by
  unfold cellsTo
  rw [List.flatMap_eq_nil_iff]
  intro y _
  unfold cellRow
  rw [List.flatMap_eq_nil_iff]
  intro x _
  exact cell_three ms x y
theorem fill_one {ms : List ByteArray} {F : Nat → Int} (h : FillE (corns ms).length (edges ms).length (EntC ms) F (edges ms).length) : ∀ ix, ix < (corns ms).length * (edges ms).length → F ix = (matI (rowsI ms 1) (colsI ms 1) 1).getD ix 0 := by
  have e1 : rowsI ms 1 = (corns ms).map cornC := by unfold rowsI; rw [if_pos (by decide)]; exact cells_zero ms
  have e2 : colsI ms 1 = (edges ms).map edgeC := cells_one ms
  rw [e1, e2]
  have h' : FillE ((corns ms).map cornC).length ((edges ms).map edgeC).length (EntC ms) F ((edges ms).map edgeC).length := by rw [List.length_map, List.length_map]; exact h
  have hd := h'.done (dim := 1) (fun r c hr hc => by
    rw [List.length_map] at hr hc
    rw [getD_map (z := (0, 0)) hr, getD_map (z := ((0, 0), false)) hc]; rfl)
  rw [List.length_map, List.length_map] at hd
  exact hd
theorem fill_two {ms : List ByteArray} {F : Nat → Int} (h : FillE (edges ms).length (squas ms).length (EntS ms) F (squas ms).length) : ∀ ix, ix < (edges ms).length * (squas ms).length → F ix = (matI (rowsI ms 2) (colsI ms 2) 2).getD ix 0 := by
  have e1 : rowsI ms 2 = (edges ms).map edgeC := by unfold rowsI; rw [if_pos (by decide)]; exact cells_one ms
  have e2 : colsI ms 2 = (squas ms).map squaC := cells_two ms
  rw [e1, e2]
  have h' : FillE ((edges ms).map edgeC).length ((squas ms).map squaC).length (EntS ms) F ((squas ms).map squaC).length := by rw [List.length_map, List.length_map]; exact h
  have hd := h'.done (dim := 2) (fun r c hr hc => by
    rw [List.length_map] at hr hc
    rw [getD_map (z := ((0, 0), false)) hr, getD_map (z := (0, 0)) hc]; rfl)
  rw [List.length_map, List.length_map] at hd
  exact hd
/-- how many rows and columns a dimension has -/
def sizeI (ms : List ByteArray) (k : Nat) : Nat := [0, (corns ms).length, (edges ms).length, (squas ms).length, 0].getD k 0
theorem size_rows (ms : List ByteArray) (d : Nat) (hd : d ≤ 3) : (rowsI ms (d : Int)).length = sizeI ms d ∧ (colsI ms (d : Int)).length = sizeI ms (d + 1) := by
  have h0 := congrArg List.length (cells_zero ms)
  have h1 := congrArg List.length (cells_one ms)
  have h2 := congrArg List.length (cells_two ms)
  have h3 := congrArg List.length (cells_three ms)
  rw [List.length_map] at h0 h1 h2
  unfold colsI
  rcases (show d = 0 ∨ d = 1 ∨ d = 2 ∨ d = 3 by omega) with rfl | rfl | rfl | rfl
  · exact ⟨rfl, h0⟩
  · exact ⟨h0, h1⟩
  · exact ⟨h1, h2⟩
  · exact ⟨h2, h3⟩
theorem size_le {ms : List ByteArray} (hW : wideI ms ≤ 24) (hH : ms.length ≤ 24) : (corns ms).length ≤ 625 ∧ (edges ms).length ≤ 1250 ∧ (squas ms).length ≤ 625 := by
  have h1 : (corns ms).length ≤ 1 * (wideI ms + 1) * (ms.length + 1) := gridTo_len at_len1 _ _
  have h2 : (edges ms).length ≤ 2 * (wideI ms + 1) * (ms.length + 1) := gridTo_len at_len2 _ _
  have h3 : (squas ms).length ≤ 1 * (wideI ms + 1) * (ms.length + 1) := gridTo_len at_len3 _ _
  have h4 : 1 * (wideI ms + 1) * (ms.length + 1) ≤ 1 * 25 * 25 := Nat.mul_le_mul (by omega) (by omega)
  have h5 : 2 * (wideI ms + 1) * (ms.length + 1) ≤ 2 * 25 * 25 := Nat.mul_le_mul (by omega) (by omega)
  omega
theorem mat_small {ms : List ByteArray} {dim : Int} (hW : wideI ms ≤ 24) (hH : ms.length ≤ 24) (hd : 0 ≤ dim ∧ dim ≤ 3) : (matI (rowsI ms dim) (colsI ms dim) dim).length ≤ 1000000 := by
  obtain ⟨s1, s2, s3⟩ := size_le hW hH
  obtain ⟨d, rfl⟩ : ∃ d : Nat, dim = (d : Int) := ⟨dim.toNat, by omega⟩
  obtain ⟨h1, h2⟩ := size_rows ms d (by omega)
  rw [matI_len, h1, h2]
  unfold sizeI
  rcases (show d = 0 ∨ d = 1 ∨ d = 2 ∨ d = 3 by omega) with rfl | rfl | rfl | rfl
  · exact Nat.le_trans (Nat.mul_le_mul (show _ ≤ 0 from Nat.le_refl _) s1) (by decide)
  · exact Nat.le_trans (Nat.mul_le_mul s1 s2) (by decide)
  · exact Nat.le_trans (Nat.mul_le_mul s2 s3) (by decide)
  · exact Nat.le_trans (Nat.mul_le_mul s3 (show _ ≤ 0 from Nat.le_refl _)) (by decide)
theorem corns_box {ms : List ByteArray} (hW : wideI ms ≤ 24) (hH : ms.length ≤ 24) {p : PI} (h : p ∈ corns ms) : BoxI p := by
  obtain ⟨y, x, hy, hx, hp⟩ := mem_grid.1 h
  obtain ⟨rfl, -⟩ := corn_mem.1 hp
  unfold BoxI; dsimp only; omega
theorem edges_box {ms : List ByteArray} (hW : wideI ms ≤ 24) (hH : ms.length ≤ 24) {e : PI × Bool} (h : e ∈ edges ms) : BoxI e.1 := by
  obtain ⟨y, x, hy, hx, hp⟩ := mem_grid.1 h
  unfold BoxI
  rcases edge_mem.1 hp with ⟨rfl, -⟩ | ⟨rfl, -⟩ <;> dsimp only <;> omega
theorem squas_box {ms : List ByteArray} (hW : wideI ms ≤ 24) (hH : ms.length ≤ 24) {p : PI} (h : p ∈ squas ms) : BoxI p := by
  obtain ⟨y, x, hy, hx, hp⟩ := mem_grid.1 h
  obtain ⟨rfl, -⟩ := squa_mem.1 hp
  unfold BoxI; dsimp only; omega
theorem mem_getD {α : Type} {l : List α} {z : α} {i : Nat} (h : i < l.length) : l.getD i z ∈ l := by
  rw [List.getD_eq_getElem?_getD, List.getElem?_eq_getElem h]; exact List.getElem_mem h
theorem edge_cols {ms : List ByteArray} (hrect : ∀ j, j < ms.length → (rowB ms j).size = wideI ms) {k : Nat} (hk : k < (edges ms).length) : ∃ a b, a < (corns ms).length ∧ b < (corns ms).length ∧ (corns ms).getD a (0, 0) = ((edges ms).getD k ((0, 0), false)).1 ∧ (corns ms).getD b (0, 0) = edTo ((edges ms).getD k ((0, 0), false)) ∧
    ∀ r, r < (corns ms).length → EntC ms r k = if r = b then 1 else if r = a then -1 else 0 := by
  have he : (edges ms).getD k ((0, 0), false) ∈ edges ms := mem_getD hk
  obtain ⟨a, ha, ea⟩ := mem_at (z := (0, 0)) (edge_from he)
  obtain ⟨b, hb, eb⟩ := mem_at (z := (0, 0)) (edge_to hrect he)
  exact ⟨a, b, ha, hb, ea, eb, col_edge rfl ha hb ea eb⟩
theorem squa_cols {ms : List ByteArray} (hrect : ∀ j, j < ms.length → (rowB ms j).size = wideI ms) {k : Nat} (hk : k < (squas ms).length) : ∃ a b a' b', a < (edges ms).length ∧ b < (edges ms).length ∧ a' < (edges ms).length ∧ b' < (edges ms).length ∧
    (edges ms).getD a ((0, 0), false) = ((squas ms).getD k (0, 0), false) ∧ (edges ms).getD b ((0, 0), false) = ((((squas ms).getD k (0, 0)).1 + 1, ((squas ms).getD k (0, 0)).2), true) ∧ (edges ms).getD a' ((0, 0), false) = ((((squas ms).getD k (0, 0)).1, ((squas ms).getD k (0, 0)).2 + 1), false) ∧ (edges ms).getD b' ((0, 0), false) = ((squas ms).getD k (0, 0), true) ∧
    ∀ r, r < (edges ms).length → EntS ms r k = if r = b' then -1 else if r = a' then -1 else if r = b then 1 else if r = a then 1 else 0 := by
  have he : (squas ms).getD k (0, 0) ∈ squas ms := mem_getD hk
  obtain ⟨e1, e2, e3, e4⟩ := squa_edges hrect he
  obtain ⟨a, ha, ea⟩ := mem_at (z := ((0, 0), false)) e1
  obtain ⟨b, hb, eb⟩ := mem_at (z := ((0, 0), false)) e2
  obtain ⟨a', ha', ea'⟩ := mem_at (z := ((0, 0), false)) e3
  obtain ⟨b', hb', eb'⟩ := mem_at (z := ((0, 0), false)) e4
  exact ⟨a, b, a', b', ha, hb, ha', hb', ea, eb, ea', eb', col_squa rfl ha hb ha' hb' ea eb ea' eb'⟩
end Go.Proofs.YtoheffkiohfmoaaGreatDoor
