/-
  An image, plain: what stands at a place; its error's number; its cells, by places; how many squares are the first of their pieces.
-/
import Derived.Test.YtoheffkiohfmoaaGreatDoorFlo
set_option linter.unusedVariables false
namespace Go.Proofs.YtoheffkiohfmoaaGreatDoor.FL

def rowB (ms : List ByteArray) (y : Nat) : ByteArray := ms.getD y ⟨#[]⟩
def byteI (b : ByteArray) (x : Nat) : Nat := (b.data.toList.getD x 0).toNat
def wideI (ms : List ByteArray) : Nat := if ms.length = 0 then 0 else (rowB ms 0).size
/-- is there a square? -/
def fullI (ms : List ByteArray) (x y : Int) : Bool := decide (0 ≤ y) && decide (y < ms.length) && decide (0 ≤ x) && decide (x < (rowB ms y.toNat).size) && decide (byteI (rowB ms y.toNat) x.toNat = 35)

/-! ### the cells -/
def dimC (X Y : Int) : Int := X % 2 + Y % 2
def nearC (X Y dx dy : Int) : Bool := decide ((X + dx) % 2 = 1) && decide ((Y + dy) % 2 = 1) && (decide (dx = 0) || decide (X % 2 = 0)) && (decide (dy = 0) || decide (Y % 2 = 0)) && decide (0 < X + dx) && decide (0 < Y + dy)
def touchI (ms : List ByteArray) (X Y : Int) : Bool := [-1, 0, 1].any fun dy => [-1, 0, 1].any fun dx => nearC X Y dx dy && fullI ms ((X + dx - 1) / 2) ((Y + dy - 1) / 2)

def nwI (ms : List ByteArray) (x y : Nat) : Bool := fullI ms ((x : Int) - 1) ((y : Int) - 1)
def neI (ms : List ByteArray) (x y : Nat) : Bool := fullI ms (x : Int) ((y : Int) - 1)
def swI (ms : List ByteArray) (x y : Nat) : Bool := fullI ms ((x : Int) - 1) (y : Int)
def seI (ms : List ByteArray) (x y : Nat) : Bool := fullI ms (x : Int) (y : Int)
theorem full_neg_x (ms : List ByteArray) (y : Int) : fullI ms (-1) y = false := by unfold fullI; simp
theorem full_neg_y (ms : List ByteArray) (x : Int) : fullI ms x (-1) = false := by unfold fullI; simp

theorem touch_ee (ms : List ByteArray) (x y : Nat) : touchI ms (2 * (x : Int)) (2 * (y : Int)) = (nwI ms x y || neI ms x y || swI ms x y || seI ms x y) := by
  have e1 : ((2 * (x : Int) + -1) % 2 = 1) := by omega
  have e2 : ¬ ((2 * (x : Int) + 0) % 2 = 1) := by omega
  have e3 : ((2 * (x : Int) + 1) % 2 = 1) := by omega
  have f1 : ((2 * (y : Int) + -1) % 2 = 1) := by omega
  have f2 : ¬ ((2 * (y : Int) + 0) % 2 = 1) := by omega
  have f3 : ((2 * (y : Int) + 1) % 2 = 1) := by omega
  have g1 : (2 * (x : Int)) % 2 = 0 := by omega
  have g2 : (2 * (y : Int)) % 2 = 0 := by omega
  have h1 : (2 * (x : Int) + -1 - 1) / 2 = (x : Int) - 1 := by omega
  have h2 : (2 * (x : Int) + 1 - 1) / 2 = (x : Int) := by omega
  have h3 : (2 * (y : Int) + -1 - 1) / 2 = (y : Int) - 1 := by omega
  have h4 : (2 * (y : Int) + 1 - 1) / 2 = (y : Int) := by omega
  unfold touchI nearC nwI neI swI seI
  simp only [List.any_cons, List.any_nil, e1, e2, e3, f1, f2, f3, g1, g2, h1, h2, h3, h4, decide_true, decide_false, Bool.true_and, Bool.false_and, Bool.and_true, Bool.or_false, Bool.false_or, Bool.or_true, Bool.and_false]
  have i1 : decide (0 < 2 * (x : Int) + 1) = true := by simp; omega
  have i2 : decide (0 < 2 * (y : Int) + 1) = true := by simp; omega
  rw [i1, i2]
  by_cases hx : x = 0
  · subst hx
    by_cases hy : y = 0
    · subst hy; simp [full_neg_x, full_neg_y]
    · have : decide (0 < 2 * (y : Int) + -1) = true := by simp; omega
      rw [this]; simp [full_neg_x]
  · have : decide (0 < 2 * (x : Int) + -1) = true := by simp; omega
    rw [this]
    by_cases hy : y = 0
    · subst hy; simp [full_neg_y]
    · have : decide (0 < 2 * (y : Int) + -1) = true := by simp; omega
      rw [this]; simp [Bool.or_assoc]
theorem touch_oe (ms : List ByteArray) (x y : Nat) : touchI ms (2 * (x : Int) + 1) (2 * (y : Int)) = (neI ms x y || seI ms x y) := by
  have e1 : ¬ ((2 * (x : Int) + 1 + -1) % 2 = 1) := by omega
  have e2 : ((2 * (x : Int) + 1 + 0) % 2 = 1) := by omega
  have e3 : ¬ ((2 * (x : Int) + 1 + 1) % 2 = 1) := by omega
  have f1 : ((2 * (y : Int) + -1) % 2 = 1) := by omega
  have f2 : ¬ ((2 * (y : Int) + 0) % 2 = 1) := by omega
  have f3 : ((2 * (y : Int) + 1) % 2 = 1) := by omega
  have g2 : (2 * (y : Int)) % 2 = 0 := by omega
  have h2 : (2 * (x : Int) + 1 + 0 - 1) / 2 = (x : Int) := by omega
  have h3 : (2 * (y : Int) + -1 - 1) / 2 = (y : Int) - 1 := by omega
  have h4 : (2 * (y : Int) + 1 - 1) / 2 = (y : Int) := by omega
  have i0 : decide (0 < 2 * (x : Int) + 1 + 0) = true := by simp; omega
  have i2 : decide (0 < 2 * (y : Int) + 1) = true := by simp; omega
  unfold touchI nearC neI seI
  simp only [List.any_cons, List.any_nil, e1, e2, e3, f1, f2, f3, g2, h2, h3, h4, i0, i2, decide_true, decide_false, Bool.true_and, Bool.false_and, Bool.and_true, Bool.true_or, Bool.or_false, Bool.false_or, Bool.or_true, Bool.and_false]
  by_cases hy : y = 0
  · subst hy; simp [full_neg_y]
  · have : decide (0 < 2 * (y : Int) + -1) = true := by simp; omega
    rw [this]; simp
theorem touch_eo (ms : List ByteArray) (x y : Nat) : touchI ms (2 * (x : Int)) (2 * (y : Int) + 1) = (swI ms x y || seI ms x y) := by
  have e1 : ((2 * (x : Int) + -1) % 2 = 1) := by omega
  have e2 : ¬ ((2 * (x : Int) + 0) % 2 = 1) := by omega
  have e3 : ((2 * (x : Int) + 1) % 2 = 1) := by omega
  have f1 : ¬ ((2 * (y : Int) + 1 + -1) % 2 = 1) := by omega
  have f2 : ((2 * (y : Int) + 1 + 0) % 2 = 1) := by omega
  have f3 : ¬ ((2 * (y : Int) + 1 + 1) % 2 = 1) := by omega
  have g1 : (2 * (x : Int)) % 2 = 0 := by omega
  have h1 : (2 * (x : Int) + -1 - 1) / 2 = (x : Int) - 1 := by omega
  have h2 : (2 * (x : Int) + 1 - 1) / 2 = (x : Int) := by omega
  have h4 : (2 * (y : Int) + 1 + 0 - 1) / 2 = (y : Int) := by omega
  have i0 : decide (0 < 2 * (y : Int) + 1 + 0) = true := by simp; omega
  have i2 : decide (0 < 2 * (x : Int) + 1) = true := by simp; omega
  unfold touchI nearC swI seI
  simp only [List.any_cons, List.any_nil, e1, e2, e3, f1, f2, f3, g1, h1, h2, h4, i0, i2, decide_true, decide_false, Bool.true_and, Bool.false_and, Bool.and_true, Bool.true_or, Bool.or_false, Bool.false_or, Bool.or_true, Bool.and_false]
  by_cases hx : x = 0
  · subst hx; simp [full_neg_x]
  · have : decide (0 < 2 * (x : Int) + -1) = true := by simp; omega
    rw [this]; simp
theorem touch_oo (ms : List ByteArray) (x y : Nat) : touchI ms (2 * (x : Int) + 1) (2 * (y : Int) + 1) = seI ms x y := by
  have e1 : ¬ ((2 * (x : Int) + 1 + -1) % 2 = 1) := by omega
  have e2 : ((2 * (x : Int) + 1 + 0) % 2 = 1) := by omega
  have e3 : ¬ ((2 * (x : Int) + 1 + 1) % 2 = 1) := by omega
  have f1 : ¬ ((2 * (y : Int) + 1 + -1) % 2 = 1) := by omega
  have f2 : ((2 * (y : Int) + 1 + 0) % 2 = 1) := by omega
  have f3 : ¬ ((2 * (y : Int) + 1 + 1) % 2 = 1) := by omega
  have h2 : (2 * (x : Int) + 1 + 0 - 1) / 2 = (x : Int) := by omega
  have h4 : (2 * (y : Int) + 1 + 0 - 1) / 2 = (y : Int) := by omega
  have i0 : decide (0 < 2 * (y : Int) + 1 + 0) = true := by simp; omega
  have i2 : decide (0 < 2 * (x : Int) + 1 + 0) = true := by simp; omega
  unfold touchI nearC seI
  simp only [List.any_cons, List.any_nil, e1, e2, e3, f1, f2, f3, h2, h4, i0, i2, decide_true, decide_false, Bool.true_and, Bool.false_and, Bool.and_true, Bool.true_or, Bool.or_false, Bool.false_or, Bool.or_true, Bool.and_false]

abbrev PI := Int × Int
def cell4 (x y : Nat) : List PI := [(2 * (x : Int), 2 * (y : Int)), (2 * (x : Int) + 1, 2 * (y : Int)), (2 * (x : Int), 2 * (y : Int) + 1), (2 * (x : Int) + 1, 2 * (y : Int) + 1)]
def keepC (ms : List ByteArray) (dim : Int) (c : PI) : Bool := decide (dimC c.1 c.2 = dim) && touchI ms c.1 c.2
def cellAt (ms : List ByteArray) (dim : Int) (x y : Nat) : List PI := (cell4 x y).filter (keepC ms dim)
def cellRow (ms : List ByteArray) (dim : Int) (y b : Nat) : List PI := (List.range b).flatMap fun x => cellAt ms dim x y
def cellsTo (ms : List ByteArray) (dim : Int) (a : Nat) : List PI := (List.range a).flatMap fun y => cellRow ms dim y (wideI ms + 1)
theorem range_flat {α : Type} (f : Nat → List α) (n : Nat) : (List.range (n + 1)).flatMap f = (List.range n).flatMap f ++ f n := by
  rw [List.range_succ, List.flatMap_append]; simp
theorem cellRow_succ (ms : List ByteArray) (dim : Int) (y b : Nat) : cellRow ms dim y (b + 1) = cellRow ms dim y b ++ cellAt ms dim b y := range_flat ..
theorem cellsTo_succ (ms : List ByteArray) (dim : Int) (a : Nat) : cellsTo ms dim (a + 1) = cellsTo ms dim a ++ cellRow ms dim a (wideI ms + 1) := range_flat ..
theorem dim_ee (x y : Nat) : dimC (2 * (x : Int)) (2 * (y : Int)) = 0 := by unfold dimC; omega
theorem dim_oe (x y : Nat) : dimC (2 * (x : Int) + 1) (2 * (y : Int)) = 1 := by unfold dimC; omega
theorem dim_eo (x y : Nat) : dimC (2 * (x : Int)) (2 * (y : Int) + 1) = 1 := by unfold dimC; omega
theorem dim_oo (x y : Nat) : dimC (2 * (x : Int) + 1) (2 * (y : Int) + 1) = 2 := by unfold dimC; omega

/-- what the program's grid has at a place -/
def cornAt (ms : List ByteArray) (x y : Nat) : List PI := if nwI ms x y || neI ms x y || swI ms x y || seI ms x y then [((x : Int), (y : Int))] else []
def edgeAt (ms : List ByteArray) (x y : Nat) : List (PI × Bool) := (if neI ms x y || seI ms x y then [(((x : Int), (y : Int)), false)] else []) ++ (if swI ms x y || seI ms x y then [(((x : Int), (y : Int)), true)] else [])
def squaAt (ms : List ByteArray) (x y : Nat) : List PI := if seI ms x y then [((x : Int), (y : Int))] else []
def gridRow {α : Type} (at' : Nat → Nat → List α) (y b : Nat) : List α := (List.range b).flatMap fun x => at' x y
def gridTo {α : Type} (at' : Nat → Nat → List α) (W a : Nat) : List α := (List.range a).flatMap fun y => gridRow at' y (W + 1)
theorem gridRow_succ {α : Type} (at' : Nat → Nat → List α) (y b : Nat) : gridRow at' y (b + 1) = gridRow at' y b ++ at' b y := range_flat ..
theorem gridTo_succ {α : Type} (at' : Nat → Nat → List α) (W a : Nat) : gridTo at' W (a + 1) = gridTo at' W a ++ gridRow at' a (W + 1) := range_flat ..
/-- a corner, an edge, a square by twice its middle -/
def cornC (p : PI) : PI := (2 * p.1, 2 * p.2)
def edgeC (e : PI × Bool) : PI := if e.2 then (2 * e.1.1, 2 * e.1.2 + 1) else (2 * e.1.1 + 1, 2 * e.1.2)
def squaC (p : PI) : PI := (2 * p.1 + 1, 2 * p.2 + 1)
theorem cell_corn (ms : List ByteArray) (x y : Nat) : cellAt ms 0 x y = (cornAt ms x y).map cornC := by
  unfold cellAt cell4 keepC cornAt
  simp only [List.filter_cons, List.filter_nil, dim_ee, dim_oe, dim_eo, dim_oo, touch_ee, touch_oe, touch_eo, touch_oo]
  cases nwI ms x y || neI ms x y || swI ms x y || seI ms x y <;> simp [cornC]
theorem cell_edge (ms : List ByteArray) (x y : Nat) : cellAt ms 1 x y = (edgeAt ms x y).map edgeC := by
  unfold cellAt cell4 keepC edgeAt
  simp only [List.filter_cons, List.filter_nil, dim_ee, dim_oe, dim_eo, dim_oo, touch_ee, touch_oe, touch_eo, touch_oo]
  cases neI ms x y || seI ms x y <;> cases swI ms x y || seI ms x y <;> simp [edgeC]
theorem cell_squa (ms : List ByteArray) (x y : Nat) : cellAt ms 2 x y = (squaAt ms x y).map squaC := by
  unfold cellAt cell4 keepC squaAt
  simp only [List.filter_cons, List.filter_nil, dim_ee, dim_oe, dim_eo, dim_oo, touch_ee, touch_oe, touch_eo, touch_oo]
  cases seI ms x y <;> simp [squaC]
theorem cellsTo_map {α : Type} {ms : List ByteArray} {dim : Int} {at' : Nat → Nat → List α} {f : α → PI} (h : ∀ x y, cellAt ms dim x y = (at' x y).map f) (a : Nat) : cellsTo ms dim a = (gridTo at' (wideI ms) a).map f := by
  unfold cellsTo gridTo cellRow gridRow
  rw [List.map_flatMap]
  congr 1; funext y
  rw [List.map_flatMap]
  congr 1; funext x
  exact h x y
theorem at_len1 {ms : List ByteArray} (x y : Nat) : (cornAt ms x y).length ≤ 1 := by unfold cornAt; split <;> simp
theorem at_len2 {ms : List ByteArray} (x y : Nat) : (edgeAt ms x y).length ≤ 2 := by unfold edgeAt; simp only [List.length_append]; (repeat' split) <;> simp
theorem at_len3 {ms : List ByteArray} (x y : Nat) : (squaAt ms x y).length ≤ 1 := by unfold squaAt; split <;> simp
theorem gridRow_len {α : Type} {at' : Nat → Nat → List α} {m : Nat} (h : ∀ x y, (at' x y).length ≤ m) (y b : Nat) : (gridRow at' y b).length ≤ m * b := by
  induction b with
  | zero => simp [gridRow]
  | succ b ih => rw [gridRow_succ, List.length_append]; have := h b y; rw [Nat.mul_succ]; omega
theorem gridTo_len {α : Type} {at' : Nat → Nat → List α} {m : Nat} (h : ∀ x y, (at' x y).length ≤ m) (W a : Nat) : (gridTo at' W a).length ≤ m * (W + 1) * a := by
  induction a with
  | zero => simp [gridTo]
  | succ a ih => rw [gridTo_succ, List.length_append]; have := gridRow_len h a (W + 1); rw [Nat.mul_succ]; omega

/-! ### the error's number: text 1, bound 2, shape 3 -/
def bigI (ms : List ByteArray) : Bool := decide (24 < ms.length) || ms.any fun r => decide (24 < r.size)
def unevenI (ms : List ByteArray) : Bool := ms.any fun r => decide (r.size ≠ (rowB ms 0).size)
def dotB (b : UInt8) : Bool := decide (b = 35) || decide (b = 46)
def otherI (ms : List ByteArray) : Bool := ms.any fun r => r.data.toList.any fun b => !dotB b
def errI (eb es et : Int) (ms : List ByteArray) : Int := if bigI ms then eb else if unevenI ms then es else if otherI ms then et else 0

/-! ### how many squares are the first of their pieces -/
section
open Classical
def CnI (ms : List ByteArray) (b : Bool) (p : Sq) : Prop := p.1 < wideI ms ∧ p.2 < ms.length ∧ fullI ms (p.1 : Int) (p.2 : Int) = b
def RimI (ms : List ByteArray) (p : Sq) : Prop := p.1 = 0 ∨ p.2 = 0 ∨ p.1 + 1 = wideI ms ∨ p.2 + 1 = ms.length
def TellI (ms : List ByteArray) (cor b inner : Bool) (p : Sq) : Prop := First cor (CnI ms b) (wideI ms) p ∧ (inner = true → ∀ q, Conn cor (CnI ms b) p q → ¬ RimI ms q)
noncomputable def cntI (ms : List ByteArray) (cor b inner : Bool) (k : Nat) : Nat := ((List.range k).filter fun i => decide (TellI ms cor b inner (i % wideI ms, i / wideI ms))).length
theorem cntI_zero (ms : List ByteArray) (cor b inner : Bool) : cntI ms cor b inner 0 = 0 := rfl
theorem cntI_le (ms : List ByteArray) (cor b inner : Bool) (k : Nat) : cntI ms cor b inner k ≤ k := by
  unfold cntI
  exact Nat.le_trans (List.length_filter_le _ _) (by simp)
theorem place_div {W x y : Nat} (h : x < W) : (y * W + x) % W = x ∧ (y * W + x) / W = y := by
  have hp : 0 < W := by omega
  constructor
  · rw [Nat.mul_comm, Nat.mul_add_mod, Nat.mod_eq_of_lt h]
  · rw [Nat.mul_comm, Nat.mul_add_div hp, Nat.div_eq_of_lt h]; omega
theorem cntI_yes {ms : List ByteArray} {cor b inner : Bool} {x y : Nat} (hx : x < wideI ms) (h : TellI ms cor b inner (x, y)) : cntI ms cor b inner (y * wideI ms + x + 1) = cntI ms cor b inner (y * wideI ms + x) + 1 := by
  unfold cntI
  rw [List.range_succ, List.filter_append, List.length_append]
  simp only [List.filter_cons, List.filter_nil, (place_div hx).1, (place_div hx).2]
  rw [if_pos (by simpa using h)]; rfl
theorem cntI_no {ms : List ByteArray} {cor b inner : Bool} {x y : Nat} (hx : x < wideI ms) (h : ¬ TellI ms cor b inner (x, y)) : cntI ms cor b inner (y * wideI ms + x + 1) = cntI ms cor b inner (y * wideI ms + x) := by
  unfold cntI
  rw [List.range_succ, List.filter_append, List.length_append]
  simp only [List.filter_cons, List.filter_nil, (place_div hx).1, (place_div hx).2]
  rw [if_neg (by simpa using h)]; rfl
end
end Go.Proofs.YtoheffkiohfmoaaGreatDoor.FL
