/-
  The grid's lists, plain: what lies in them, no cell twice; the triangles of its squares; readings of rows of spots and edges.
-/
import Derived.Test.YtoheffkiohfmoaaGreatDoorTri
import Derived.Test.YtoheffkiohfmoaaGreatDoorCof
set_option linter.unusedSimpArgs false
set_option linter.unusedVariables false
namespace Go.Proofs.YtoheffkiohfmoaaGreatDoor
open Go Go.RowKit Go.Maps FL

theorem mem_grid {α : Type} {at' : Nat → Nat → List α} {W a : Nat} {p : α} : p ∈ gridTo at' W a ↔ ∃ y x, y < a ∧ x ≤ W ∧ p ∈ at' x y := by
  unfold gridTo gridRow
  simp only [List.mem_flatMap, List.mem_range]
  constructor
  · rintro ⟨y, hy, x, hx, hp⟩; exact ⟨y, x, hy, by omega, hp⟩
  · rintro ⟨y, x, hy, hx, hp⟩; exact ⟨y, hy, x, by omega, hp⟩
theorem grid_nodup {α : Type} {at' : Nat → Nat → List α} (key : α → Nat × Nat) (hk : ∀ x y p, p ∈ at' x y → key p = (x, y)) (hn : ∀ x y, (at' x y).Nodup) (W a : Nat) : (gridTo at' W a).Nodup := by
  unfold gridTo List.Nodup
  rw [List.pairwise_flatMap]
  have hrow : ∀ y, List.Pairwise (· ≠ ·) (gridRow at' y (W + 1)) := fun y => by
    unfold gridRow
    rw [List.pairwise_flatMap]
    refine ⟨fun x _ => hn x y, ?_⟩
    refine (List.nodup_range (n := W + 1)).imp ?_
    intro x x' hne p hp q hq e
    subst e
    have h1 := hk _ _ _ hp
    rw [hk _ _ _ hq] at h1
    exact hne (Prod.mk.inj h1).1.symm
  refine ⟨fun y _ => hrow y, ?_⟩
  refine (List.nodup_range (n := a)).imp ?_
  intro y y' hne p hp q hq e
  subst e
  unfold gridRow at hp hq
  obtain ⟨x, -, hp⟩ := List.mem_flatMap.1 hp
  obtain ⟨x', -, hq⟩ := List.mem_flatMap.1 hq
  have h1 := hk _ _ _ hp
  rw [hk _ _ _ hq] at h1
  exact hne (Prod.mk.inj h1).2.symm
theorem corn_mem {ms : List ByteArray} {x y : Nat} {p : PI} : p ∈ cornAt ms x y ↔ p = ((x : Int), (y : Int)) ∧ (nwI ms x y || neI ms x y || swI ms x y || seI ms x y) = true := by
  unfold cornAt; split <;> rename_i h <;> simp [h]
theorem squa_mem {ms : List ByteArray} {x y : Nat} {p : PI} : p ∈ squaAt ms x y ↔ p = ((x : Int), (y : Int)) ∧ seI ms x y = true := by
  unfold squaAt; split <;> rename_i h <;> simp [h]
theorem edge_mem {ms : List ByteArray} {x y : Nat} {e : PI × Bool} : e ∈ edgeAt ms x y ↔ (e = (((x : Int), (y : Int)), false) ∧ (neI ms x y || seI ms x y) = true) ∨ (e = (((x : Int), (y : Int)), true) ∧ (swI ms x y || seI ms x y) = true) := by
  unfold edgeAt
  rw [List.mem_append]
  constructor
  · rintro (h | h)
    · split at h
      · rename_i h1; left; exact ⟨by simpa using h, h1⟩
      · cases h
    · split at h
      · rename_i h1; right; exact ⟨by simpa using h, h1⟩
      · cases h
  · rintro (⟨rfl, h⟩ | ⟨rfl, h⟩)
    · left; rw [if_pos h]; simp
    · right; rw [if_pos h]; simp
theorem corn_nodup (ms : List ByteArray) (W a : Nat) : (gridTo (cornAt ms) W a).Nodup := grid_nodup (fun p => (p.1.toNat, p.2.toNat)) (fun x y p hp => by rw [(corn_mem.1 hp).1]; rfl) (fun x y => by unfold cornAt; split <;> simp) W a
theorem edge_nodup (ms : List ByteArray) (W a : Nat) : (gridTo (edgeAt ms) W a).Nodup := grid_nodup (fun e => (e.1.1.toNat, e.1.2.toNat)) (fun x y p hp => by rcases edge_mem.1 hp with ⟨h, -⟩ | ⟨h, -⟩ <;> rw [h] <;> rfl) (fun x y => by unfold edgeAt; split <;> split <;> simp) W a
/-- a full square lies in the box -/
theorem full_box {ms : List ByteArray} {x y : Nat} (h : seI ms x y = true) : y < ms.length ∧ x < (rowB ms y).size := by
  unfold seI fullI at h
  simp only [Bool.and_eq_true, decide_eq_true_eq, Int.toNat_natCast] at h
  omega
theorem full_boxW {ms : List ByteArray} {x y : Nat} (hrect : ∀ j, j < ms.length → (rowB ms j).size = wideI ms) (h : seI ms x y = true) : y < ms.length ∧ x < wideI ms := by
  obtain ⟨h1, h2⟩ := full_box h
  rw [hrect y h1] at h2
  exact ⟨h1, h2⟩
/-- the four squares round a corner, by the square itself -/
theorem ne_se {ms : List ByteArray} {x y : Nat} : neI ms x (y + 1) = seI ms x y := by unfold neI seI; congr 1; omega
theorem sw_se {ms : List ByteArray} {x y : Nat} : swI ms (x + 1) y = seI ms x y := by unfold swI seI; congr 1; omega
theorem nw_sw {ms : List ByteArray} {x y : Nat} : nwI ms x (y + 1) = swI ms x y := by unfold nwI swI; congr 1; omega
theorem nw_ne {ms : List ByteArray} {x y : Nat} : nwI ms (x + 1) y = neI ms x y := by unfold nwI neI; congr 1; omega
theorem ne_zero {ms : List ByteArray} {x : Nat} : neI ms x 0 = false := full_neg_y ms _
theorem sw_zero {ms : List ByteArray} {y : Nat} : swI ms 0 y = false := full_neg_x ms _
theorem ne_box {ms : List ByteArray} {x y : Nat} (hrect : ∀ j, j < ms.length → (rowB ms j).size = wideI ms) (h : neI ms x y = true) : y ≤ ms.length ∧ x < wideI ms := by
  cases y with
  | zero => rw [ne_zero] at h; cases h
  | succ y => rw [ne_se] at h; have := full_boxW hrect h; omega
theorem sw_box {ms : List ByteArray} {x y : Nat} (hrect : ∀ j, j < ms.length → (rowB ms j).size = wideI ms) (h : swI ms x y = true) : y < ms.length ∧ x ≤ wideI ms := by
  cases x with
  | zero => rw [sw_zero] at h; cases h
  | succ x => rw [sw_se] at h; have := full_boxW hrect h; omega
/-- both ends of an edge are corners -/
theorem edge_from {ms : List ByteArray} {e : PI × Bool} (he : e ∈ gridTo (edgeAt ms) (wideI ms) (ms.length + 1)) : e.1 ∈ gridTo (cornAt ms) (wideI ms) (ms.length + 1) := by
  obtain ⟨y, x, hy, hx, he⟩ := mem_grid.1 he
  refine mem_grid.2 ⟨y, x, hy, hx, corn_mem.2 ?_⟩
  rcases edge_mem.1 he with ⟨rfl, h⟩ | ⟨rfl, h⟩
  · refine ⟨rfl, ?_⟩
    revert h; cases nwI ms x y <;> cases neI ms x y <;> cases swI ms x y <;> cases seI ms x y <;> decide
  · refine ⟨rfl, ?_⟩
    revert h; cases nwI ms x y <;> cases neI ms x y <;> cases swI ms x y <;> cases seI ms x y <;> decide
def edTo (e : PI × Bool) : PI := if e.2 then (e.1.1, e.1.2 + 1) else (e.1.1 + 1, e.1.2)
theorem edge_to {ms : List ByteArray} (hrect : ∀ j, j < ms.length → (rowB ms j).size = wideI ms) {e : PI × Bool} (he : e ∈ gridTo (edgeAt ms) (wideI ms) (ms.length + 1)) : edTo e ∈ gridTo (cornAt ms) (wideI ms) (ms.length + 1) := by
  obtain ⟨y, x, hy, hx, he⟩ := mem_grid.1 he
  rcases edge_mem.1 he with ⟨rfl, h⟩ | ⟨rfl, h⟩
  · have hb : x < wideI ms := by
      rcases Bool.or_eq_true_iff.1 h with h | h
      · exact (ne_box hrect h).2
      · exact (full_boxW hrect h).2
    refine mem_grid.2 ⟨y, x + 1, hy, hb, corn_mem.2 ⟨by unfold edTo; simp, ?_⟩⟩
    rw [nw_ne, sw_se]
    revert h; cases neI ms x y <;> cases seI ms x y <;> simp
  · have hb : y < ms.length := by
      rcases Bool.or_eq_true_iff.1 h with h | h
      · exact (sw_box hrect h).1
      · exact (full_boxW hrect h).1
    refine mem_grid.2 ⟨y + 1, x, by omega, hx, corn_mem.2 ⟨by unfold edTo; simp, ?_⟩⟩
    rw [nw_sw, ne_se]
    revert h; cases swI ms x y <;> cases seI ms x y <;> simp
/-- the four edges of a square -/
theorem squa_edges {ms : List ByteArray} (hrect : ∀ j, j < ms.length → (rowB ms j).size = wideI ms) {p : PI} (hp : p ∈ gridTo (squaAt ms) (wideI ms) (ms.length + 1)) :
    (p, false) ∈ gridTo (edgeAt ms) (wideI ms) (ms.length + 1) ∧ ((p.1 + 1, p.2), true) ∈ gridTo (edgeAt ms) (wideI ms) (ms.length + 1) ∧ ((p.1, p.2 + 1), false) ∈ gridTo (edgeAt ms) (wideI ms) (ms.length + 1) ∧ (p, true) ∈ gridTo (edgeAt ms) (wideI ms) (ms.length + 1) := by
  obtain ⟨y, x, hy, hx, hp⟩ := mem_grid.1 hp
  obtain ⟨rfl, h⟩ := squa_mem.1 hp
  obtain ⟨h1, h2⟩ := full_boxW hrect h
  refine ⟨mem_grid.2 ⟨y, x, hy, hx, edge_mem.2 (Or.inl ⟨rfl, by rw [h]; simp⟩)⟩, mem_grid.2 ⟨y, x + 1, hy, h2, edge_mem.2 (Or.inr ⟨by simp, by rw [sw_se, h]; simp⟩)⟩, mem_grid.2 ⟨y + 1, x, by omega, hx, edge_mem.2 (Or.inl ⟨by simp, by rw [ne_se, h]; simp⟩)⟩, mem_grid.2 ⟨y, x, hy, hx, edge_mem.2 (Or.inr ⟨rfl, by rw [h]; simp⟩)⟩⟩

/-! ### the triangles of the grid's squares -/
def triP (W : Nat) (p : PI) : List (List Int) := triI (W + 1) p.1.toNat p.2.toNat
theorem squa_tri (ms : List ByteArray) (x y : Nat) : (squaAt ms x y).flatMap (triP (wideI ms)) = triAt ms x y := by
  unfold squaAt triAt triP
  split <;> simp
theorem row_tri (ms : List ByteArray) (y b : Nat) : (gridRow (squaAt ms) y b).flatMap (triP (wideI ms)) = triRow ms y b := by
  unfold gridRow triRow
  rw [List.flatMap_assoc]
  congr 1; funext x; exact squa_tri ms x y
theorem tri_grid {ms : List ByteArray} (hrect : ∀ j, j < ms.length → (rowB ms j).size = wideI ms) : (gridTo (squaAt ms) (wideI ms) (ms.length + 1)).flatMap (triP (wideI ms)) = triTo ms ms.length := by
  have hrow : ∀ y, (gridRow (squaAt ms) y (wideI ms + 1)).flatMap (triP (wideI ms)) = triRow ms y (wideI ms) := fun y => by
    rw [row_tri, triRow_succ]
    have : triAt ms (wideI ms) y = [] := by
      unfold triAt
      rw [if_neg]
      intro h
      have := full_boxW hrect h
      omega
    rw [this, List.append_nil]
  have hto : ∀ a, (gridTo (squaAt ms) (wideI ms) a).flatMap (triP (wideI ms)) = triTo ms a := fun a => by
    induction a with
    | zero => rfl
    | succ a ih => rw [gridTo_succ, List.flatMap_append, ih, hrow, triTo_succ]
  rw [hto, triTo_succ]
  have : triRow ms ms.length (wideI ms) = [] := by
    unfold triRow
    rw [List.flatMap_eq_nil_iff]
    intro x _
    unfold triAt
    rw [if_neg]
    intro h
    have := full_boxW hrect h
    omega
  rw [this, List.append_nil]

/-! ### readings -/
theorem SpO.at {O : Nat} {w : World} {v : Value} {l : List PI} (h : SpO O w v l) {i : Nat} (hi : i < l.length) : ∃ g c, v = .slice (some ⟨g, 0, none⟩) l.length c ∧ O ≤ g ∧ g < w.heap.size ∧ w.cell? ⟨g, i * 2, none⟩ = some (.int .i64 (l.getD i (0, 0)).1) ∧ w.cell? ⟨g, i * 2 + 1, none⟩ = some (.int .i64 (l.getD i (0, 0)).2) := by
  have h' := h
  unfold SpO at h'
  rcases Joins.ownsRow_forms h' with ⟨rfl, h0⟩ | ⟨g, cap, rfl⟩
  · omega
  · have hc := h'.cells (g := g) rfl
    obtain ⟨e1, e2⟩ := spVs_at hi
    have f1 := hc _ _ e1
    have f2 := hc _ _ e2
    rw [add_zero] at f1 f2
    exact ⟨g, cap, rfl, (h'.lt g rfl).1, (h'.lt g rfl).2, f1, f2⟩
theorem edVs_len (l : List (PI × Bool)) : (edVs l).length = l.length * 3 := by
  unfold edVs
  induction l with
  | nil => rfl
  | cons e l ih => rw [List.flatMap_cons, List.length_append, ih]; simp; omega
theorem edVs_at {l : List (PI × Bool)} {i : Nat} (h : i < l.length) : (edVs l)[i * 3]? = some (.int .i64 (l.getD i ((0, 0), false)).1.1) ∧ (edVs l)[i * 3 + 1]? = some (.int .i64 (l.getD i ((0, 0), false)).1.2) ∧ (edVs l)[i * 3 + 2]? = some (.bool (l.getD i ((0, 0), false)).2) := by
  have e : l = l.take i ++ [l.getD i ((0, 0), false)] ++ l.drop (i + 1) := by
    have h1 := List.take_append_drop i l
    rw [List.drop_eq_getElem_cons h] at h1
    have h2 : l.getD i ((0, 0), false) = l[i] := by rw [List.getD_eq_getElem?_getD, List.getElem?_eq_getElem h]; rfl
    rw [h2, List.append_assoc]
    exact h1.symm
  have hl : (edVs (l.take i)).length = i * 3 := by rw [edVs_len, List.length_take]; congr 1; omega
  generalize l.getD i ((0, 0), false) = p at e ⊢
  have h3 : edVs [p] = [.int .i64 p.1.1, .int .i64 p.1.2, .bool p.2] := rfl
  rw [e, edVs_app, edVs_app, h3, List.append_assoc]
  refine ⟨?_, ?_, ?_⟩
  · rw [List.getElem?_append_right (by omega), hl]; simp
  · rw [List.getElem?_append_right (by omega), hl, show i * 3 + 1 - i * 3 = 1 by omega]; simp
  · rw [List.getElem?_append_right (by omega), hl, show i * 3 + 2 - i * 3 = 2 by omega]; simp
theorem EdO.at {O : Nat} {w : World} {v : Value} {l : List (PI × Bool)} (h : EdO O w v l) {i : Nat} (hi : i < l.length) : ∃ g c, v = .slice (some ⟨g, 0, none⟩) l.length c ∧ O ≤ g ∧ g < w.heap.size ∧ w.cell? ⟨g, i * 3, none⟩ = some (.int .i64 (l.getD i ((0, 0), false)).1.1) ∧ w.cell? ⟨g, i * 3 + 1, none⟩ = some (.int .i64 (l.getD i ((0, 0), false)).1.2) ∧ w.cell? ⟨g, i * 3 + 2, none⟩ = some (.bool (l.getD i ((0, 0), false)).2) := by
  have h' := h
  unfold EdO at h'
  rcases Joins.ownsRow_forms h' with ⟨rfl, h0⟩ | ⟨g, cap, rfl⟩
  · omega
  · have hc := h'.cells (g := g) rfl
    obtain ⟨e1, e2, e3⟩ := edVs_at hi
    have f1 := hc _ _ e1
    have f2 := hc _ _ e2
    have f3 := hc _ _ e3
    rw [add_zero] at f1 f2 f3
    exact ⟨g, cap, rfl, (h'.lt g rfl).1, (h'.lt g rfl).2, f1, f2, f3⟩
end Go.Proofs.YtoheffkiohfmoaaGreatDoor
