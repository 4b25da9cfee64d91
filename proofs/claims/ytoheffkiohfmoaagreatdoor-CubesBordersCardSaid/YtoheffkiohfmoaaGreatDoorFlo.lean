/-
  Pieces of squares that are alike, plain: what a flood marks; which square is the first of its piece.
-/
import Derived.Test.YtoheffkiohfmoaaGreatDoorCmp
set_option linter.unusedVariables false
namespace Go.Proofs.YtoheffkiohfmoaaGreatDoor.FL

abbrev Sq := Nat × Nat
def Adj (cor : Bool) (p q : Sq) : Prop := p.1 ≤ q.1 + 1 ∧ q.1 ≤ p.1 + 1 ∧ p.2 ≤ q.2 + 1 ∧ q.2 ≤ p.2 + 1 ∧ (cor = true ∨ p.1 = q.1 ∨ p.2 = q.2)
theorem Adj.symm {cor : Bool} {p q : Sq} (h : Adj cor p q) : Adj cor q p := ⟨h.2.1, h.1, h.2.2.2.1, h.2.2.1, h.2.2.2.2.imp id (Or.imp Eq.symm Eq.symm)⟩
inductive Conn (cor : Bool) (C : Sq → Prop) : Sq → Sq → Prop
  | refl {p : Sq} : C p → Conn cor C p p
  | step {p q r : Sq} : Conn cor C p q → Adj cor q r → C r → Conn cor C p r
section
variable {cor : Bool} {C : Sq → Prop}
theorem Conn.left {p q : Sq} (h : Conn cor C p q) : C p := by
  induction h with
  | refl h => exact h
  | step _ _ _ ih => exact ih
theorem Conn.right {p q : Sq} (h : Conn cor C p q) : C q := by
  cases h with
  | refl h => exact h
  | step _ _ h => exact h
theorem Conn.trans {p q r : Sq} (h : Conn cor C p q) (h' : Conn cor C q r) : Conn cor C p r := by
  induction h' with
  | refl _ => exact h
  | step _ ha hc ih => exact ih.step ha hc
theorem Conn.symm {p q : Sq} (h : Conn cor C p q) : Conn cor C q p := by
  induction h with
  | refl h => exact .refl h
  | step h1 ha hc ih => exact (Conn.step (.refl hc) ha.symm h1.right).trans ih
/-- what squares ahead of a number have marked -/
def Marked (cor : Bool) (C : Sq → Prop) (W k : Nat) (q : Sq) : Prop := ∃ p, p.2 * W + p.1 < k ∧ Conn cor C p q
/-- the first of its piece -/
def First (cor : Bool) (C : Sq → Prop) (W : Nat) (p : Sq) : Prop := C p ∧ ∀ q, Conn cor C q p → p.2 * W + p.1 ≤ q.2 * W + q.1
theorem Marked.conn {W k : Nat} {p q : Sq} (h : Marked cor C W k p) (h' : Conn cor C p q) : Marked cor C W k q := by
  obtain ⟨r, hr, h1⟩ := h
  exact ⟨r, hr, h1.trans h'⟩
theorem first_iff {W : Nat} {p : Sq} : First cor C W p ↔ C p ∧ ¬ Marked cor C W (p.2 * W + p.1) p := by
  refine ⟨fun h => ⟨h.1, fun ⟨q, hq, hc⟩ => ?_⟩, fun h => ⟨h.1, fun q hc => ?_⟩⟩
  · have := h.2 q hc; omega
  · rcases Nat.lt_or_ge (q.2 * W + q.1) (p.2 * W + p.1) with h1 | h1
    · exact absurd ⟨q, h1, hc⟩ h.2
    · exact h1
theorem place_inj {W : Nat} {p q : Sq} (hp : p.1 < W) (hq : q.1 < W) (h : p.2 * W + p.1 = q.2 * W + q.1) : p = q := by
  have h1 : p.2 = q.2 := by
    have e1 : (p.2 * W + p.1) / W = p.2 := by rw [Nat.mul_comm, Nat.mul_add_div (by omega), Nat.div_eq_of_lt hp]; omega
    have e2 : (q.2 * W + q.1) / W = q.2 := by rw [Nat.mul_comm, Nat.mul_add_div (by omega), Nat.div_eq_of_lt hq]; omega
    rw [← e1, ← e2, h]
  have h2 : p.1 = q.1 := by rw [h1] at h; omega
  exact Prod.ext h2 h1
/-- a number further: the square at it marks its piece, unless it is marked or is none -/
theorem marked_step {W : Nat} (hC : ∀ p, C p → p.1 < W) {p : Sq} (hp : p.1 < W) (q : Sq) : Marked cor C W (p.2 * W + p.1 + 1) q ↔ Marked cor C W (p.2 * W + p.1) q ∨ Conn cor C p q := by
  constructor
  · rintro ⟨r, hr, h⟩
    rcases Nat.lt_or_ge (r.2 * W + r.1) (p.2 * W + p.1) with h1 | h1
    · exact .inl ⟨r, h1, h⟩
    · obtain rfl := place_inj (hC r h.left) hp (by omega)
      exact .inr h
  · rintro (⟨r, hr, h⟩ | h)
    · exact ⟨r, by omega, h⟩
    · exact ⟨p, by omega, h⟩
theorem marked_same {W : Nat} (hC : ∀ p, C p → p.1 < W) {p : Sq} (hp : p.1 < W) (h : ¬ C p ∨ Marked cor C W (p.2 * W + p.1) p) (q : Sq) : Marked cor C W (p.2 * W + p.1 + 1) q ↔ Marked cor C W (p.2 * W + p.1) q := by
  rw [marked_step hC hp]
  refine ⟨?_, .inl⟩
  rintro (h1 | h1)
  · exact h1
  · rcases h with h | h
    · exact absurd h1.left h
    · exact h.conn h1
/-- what a flood has marked while squares T are still to be looked at -/
structure Flood (cor : Bool) (C : Sq → Prop) (W : Nat) (p : Sq) (S : Sq → Prop) (T : Sq → Prop) : Prop where
  old : ∀ q, Marked cor C W (p.2 * W + p.1) q → S q
  only : ∀ q, S q → Marked cor C W (p.2 * W + p.1) q ∨ Conn cor C p q
  start : S p
  todo : ∀ q, T q → Conn cor C p q
  done : ∀ q, S q → Conn cor C p q → T q ∨ ∀ r, Adj cor q r → C r → S r
theorem Flood.done_all {W : Nat} {p : Sq} {S T : Sq → Prop} (h : Flood cor C W p S T) (hT : ∀ q, ¬ T q) (hp : C p) (hf : ¬ Marked cor C W (p.2 * W + p.1) p) (hC : ∀ p, C p → p.1 < W) (hpW : p.1 < W) (q : Sq) :
    S q ↔ Marked cor C W (p.2 * W + p.1 + 1) q := by
  rw [marked_step hC hpW]
  refine ⟨h.only q, ?_⟩
  rintro (h1 | h1)
  · exact h.old q h1
  · induction h1 with
    | refl _ => exact h.start
    | step h1 ha hc ih =>
      rename_i x r
      rcases h.done _ (ih) h1 with h2 | h2
      · exact absurd h2 (hT _)
      · exact h2 _ ha hc
end
end Go.Proofs.YtoheffkiohfmoaaGreatDoor.FL
