import Derived.Test.YtddnjimpdidpaaaGreatDoorCelX
set_option linter.unusedSimpArgs false
set_option linter.unusedVariables false
/-! Readings at later worlds; Valid with its code; what a law gives. -/
namespace Go.Proofs.YtddnjimpdidpaaaGreatDoor
open Go Go.RowKit Go.Maps

theorem Tg.le {B B' t : Nat} {w : World} {b : Nat} (h : Tg B t w b) (hB : B ≤ B') : Tg B' t w b := h.imp (fun h => Nat.lt_of_lt_of_le h hB) id
theorem IntsIn.le {B B' : Nat} {w : World} {v : Value} {xs : List Int} (h : IntsIn B w v xs) (hB : B ≤ B') : IntsIn B' w v xs := by
  obtain ⟨p, c, hv, hc, hn, hx⟩ := h
  refine ⟨p, c, hv, hc, hn, fun i hi => ?_⟩
  obtain ⟨b, off, e1, e2, e3⟩ := hx i hi
  exact ⟨b, off, e1, e2, e3.le hB⟩
theorem ListsIn.le {B B' : Nat} {w : World} {v : Value} {L : List (List Int)} (h : ListsIn B w v L) (hB : B ≤ B') : ListsIn B' w v L := by
  obtain ⟨p, c, hv, hc, hn, hx⟩ := h
  refine ⟨p, c, hv, hc, hn, fun i hi => ?_⟩
  obtain ⟨b, off, u, e1, e2, e3⟩ := hx i hi
  exact ⟨b, off, u, e1, e2, e3.le hB⟩
/-- a reading at a later world, at its own bound -/
theorem ListsIn.later {B C : Nat} {w w' : World} {v : Value} {L : List (List Int)} (h : ListsIn B w v L) (hb : Below C w w') (hC : w.heap.size ≤ C) (hB : B ≤ w.heap.size) : ListsIn w'.heap.size w' v L :=
  (h.below hb hC).le (Nat.le_trans hB hb.size)

theorem littleB_few {L : List (List Int)} {m : Nat} (h : littleB L m = true) : L.length ≤ 100000 ∧ ∀ l ∈ L, l.length ≤ 100000 := by
  unfold littleB at h
  simp only [Bool.and_eq_true] at h
  obtain ⟨h1, h2⟩ := fewB_ok h.1
  exact ⟨by omega, fun l hl => by have := h2 l hl; omega⟩
theorem facets_field (p : Option Addr) (n c : Nat) (w : World) : Sem.run Tryz.prog (Instr.field 34 (.agg #[.slice p n c]) 0) w = .ok (.slice p n c) w := by kernel_rfl
def True1 (w : World) (e : Ending) (w' : World) : Prop := e = .returned (.bool true) ∧ Below w.heap.size w w'

/-- the law's last row: Valid's error has the document's code -/
theorem validCoded (a : Nat → Addr) (L : List (List Int)) (w w1 : World) (e : Ending) (v : Value) (h : ValP a L w (.returned v) w1) : ErrAt a w1 v (errX L : Int) (-1) := by
  obtain ⟨-, ⟨h0, h1⟩ | ⟨k, hk, h1, h2⟩⟩ := h
  · cases h1
    exact Or.inl ⟨rfl, by rw [h0]; rfl, rfl⟩
  · cases h2
    exact Or.inr (Or.inl ⟨k, hk, rfl, by rw [h1]; rfl, rfl⟩)
def ValV (a : Nat → Addr) (L : List (List Int)) (w : World) (e : Ending) (w' : World) : Prop := ∃ v, e = .returned v ∧ Below w.heap.size w w' ∧ ErrAt a w' v (errX L : Int) (-1)
theorem valid_v (a : Nat → Addr) (B : Nat) (L : List (List Int)) (v : Value) (w : World) (hS : Sents w a) (hB : B ≤ w.heap.size) (hv : ListsIn B w v L) (hn : L.length ≤ 100000) (hl : ∀ l ∈ L, l.length ≤ 100000) :
    Calls Tryz.prog 38 #[.agg #[v]] w (ValV a L w) := (valid_any a B L v w hS hB hv hn hl).mono fun e w' h => by
  obtain ⟨hb, ⟨h0, rfl⟩ | ⟨k, hk, h1, rfl⟩⟩ := h
  · exact ⟨_, rfl, hb, Or.inl ⟨rfl, by rw [h0]; rfl, rfl⟩⟩
  · exact ⟨_, rfl, hb, Or.inr (Or.inl ⟨k, hk, rfl, by rw [h1]; rfl, rfl⟩)⟩

end Go.Proofs.YtddnjimpdidpaaaGreatDoor
