/-
  A slice of pairs of ints ([][2]int) reads as a list of pairs.
-/
import Derived.Test.YtoheffkiohfmoaaGreatDoorMorG
import Derived.Test.YtoheffkiohfmoaaGreatDoorPairO
set_option linter.unusedVariables false
namespace Go.Proofs.YtoheffkiohfmoaaGreatDoor
open Go Go.RowKit Go.Maps

theorem PairsAt.at {w : World} {p : Option Addr} {n c : Nat} {g : List (Int × Int)} (h : PairsAt w (.slice p n c) g) {i : Nat} (hi : i < g.length) : ∃ b off, p = some ⟨b, off, none⟩ ∧ w.cell? ⟨b, off + i * 2, none⟩ = some (.int .i64 (g.getD i (0, 0)).1) ∧ w.cell? ⟨b, off + i * 2 + 1, none⟩ = some (.int .i64 (g.getD i (0, 0)).2) := by
  obtain ⟨p', c', hv, -, -, hx⟩ := h
  obtain ⟨b, off, e1, e2, e3⟩ := hx i hi
  cases hv
  exact ⟨b, off, e1, e2, e3⟩
def pairI (Q : List (Nat × Nat)) : List (Int × Int) := Q.map fun p => ((p.1 : Int), (p.2 : Int))
theorem QueH.reads {O : Nat} {w : World} {v : Value} {Q : List (Nat × Nat)} (h : QueH O w v Q) : PairsAt w v (pairI Q) := by
  obtain ⟨ao, cap, h1, h2, h3, h4, h5⟩ := h
  have hl : (pairI Q).length = Q.length := List.length_map ..
  refine ⟨ao, cap, by rw [hl]; exact h1, by rw [hl]; exact h2, h4, fun i hi => ?_⟩
  rw [hl] at hi
  obtain ⟨g, off, cur, e1, -, e3, -, e5⟩ := h5 (by omega)
  obtain ⟨f1, f2⟩ := e5 i hi
  have hg : (pairI Q).getD i (0, 0) = (((Q.getD i (0, 0)).1 : Int), ((Q.getD i (0, 0)).2 : Int)) := by
    unfold pairI
    rw [List.getD_eq_getElem?_getD, List.getD_eq_getElem?_getD, List.getElem?_map, List.getElem?_eq_getElem hi]; rfl
  rw [hg]
  refine ⟨g, off, e1, ?_, ?_⟩
  · simp only [World.cell?, e3]; exact f1
  · simp only [World.cell?, e3]; exact f2
end Go.Proofs.YtoheffkiohfmoaaGreatDoor
