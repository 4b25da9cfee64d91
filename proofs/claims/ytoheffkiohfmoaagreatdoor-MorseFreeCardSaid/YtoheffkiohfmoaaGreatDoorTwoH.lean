/-
  Two tables of int rows in memory, written in place side by side.
-/
import Derived.Test.YtoheffkiohfmoaaGreatDoorRowH
import Derived.Test.YtoheffkiohfmoaaGreatDoorCelQ
set_option linter.unusedVariables false
namespace Go.Proofs.YtoheffkiohfmoaaGreatDoor
open Go Go.RowKit Go.Maps

structure TwoH (O : Nat) (w : World) (vd vu : Value) (D U : List (List Int)) (hd hu : List Value) : Prop where
  d : HasH O w vd D hd
  u : HasH O w vu U hu
  ap : ∀ i j k, i < D.length → j < U.length → (hd.getD i .nilIface).ownBlock = some k → (hu.getD j .nilIface).ownBlock ≠ some k
  hh : ∀ k, vd.ownBlock = some k → vu.ownBlock ≠ some k
theorem TwoH.swap {O : Nat} {w : World} {vd vu : Value} {D U : List (List Int)} {hd hu : List Value} (h : TwoH O w vd vu D U hd hu) : TwoH O w vu vd U D hu hd :=
  ⟨h.u, h.d, fun i j k hi hj e e2 => h.ap j i k hj hi e2 e, fun k e e2 => h.hh k e2 e⟩
theorem TwoH.below {O C : Nat} {w w' : World} {vd vu : Value} {D U : List (List Int)} {hd hu : List Value} (h : TwoH O w vd vu D U hd hu) (hb : Below C w w') (hC : w.heap.size ≤ C) : TwoH O w' vd vu D U hd hu :=
  ⟨h.d.below hb hC, h.u.below hb hC, h.ap, h.hh⟩
theorem TwoH.rowApart {O : Nat} {w : World} {vd vu : Value} {D U : List (List Int)} {hd hu : List Value} (h : TwoH O w vd vu D U hd hu) {i : Nat} (hi : i < D.length) : ∀ k, (hd.getD i .nilIface).ownBlock = some k → vd.ownBlock ≠ some k ∧ vu.ownBlock ≠ some k := fun k hk =>
  ⟨fun e => owns_apart (h.d.2.2.1 i hi) h.d.1 (by decide) k hk e, fun e => owns_apart (h.d.2.2.1 i hi) h.u.1 (by decide) k hk e⟩
/-- a row of the first table is appended to (w': behind the append) and stored back -/
theorem TwoH.store {O g n c : Nat} {w w' : World} {vu v' : Value} {D U : List (List Int)} {hd hu : List Value} {i : Nat} {xs' : List Int} (h : TwoH O w (.slice (some ⟨g, 0, none⟩) n c) vu D U hd hu) (hi : i < D.length) (hg : w.grownBy w' (hd.getD i .nilIface).ownBlock)
    (hR : IntO O w' v' xs') (hat : v'.ownBlock = (hd.getD i .nilIface).ownBlock ∨ v'.ownBlock = some w.heap.size) : TwoH O (w'.setCell ⟨g, i, none⟩ v') (.slice (some ⟨g, 0, none⟩) n c) vu (D.set i xs') U (hd.set i v') hu := by
  have hl := h.d.2.1
  have hu1 : HasH O w' vu U hu := h.u.far hg fun k hk => ⟨(h.rowApart hi k hk).2, fun j hj => h.ap i j k hi hj hk⟩
  have hd1 : w'.ownsRow O 51 1 (.slice (some ⟨g, 0, none⟩) n c) D.length hd := owns_keep h.d.1 fun k hk => hg.block k (h.d.1.lt k hk).2 fun e => (h.rowApart hi k e.symm).1 hk
  have hn : n = D.length := by
    rcases hd1.2 with ⟨e, _⟩ | ⟨g', cap', cur, e, _⟩
    · cases e
    · cases e; rfl
  subst hn
  obtain ⟨-, hgs⟩ := hd1.stored i v'
  refine ⟨h.d.store hi hg hR hat, hu1.far hgs fun k hk => ⟨fun e => h.hh k hk e, fun j hj e => owns_apart (hu1.2.2.1 j hj) hd1 (by decide) k e hk⟩, fun i' j k hi' hj e => ?_, h.hh⟩
  rw [List.length_set] at hi'
  by_cases hii : i = i'
  · subst hii
    rw [getD_setS (by omega)] at e
    rcases hat with h2 | h2
    · rw [h2] at e; exact h.ap i j k hi hj e
    · intro e2
      rw [h2] at e
      obtain rfl := Option.some.inj e
      have := ((h.u.2.2.1 j hj).lt _ e2).2
      omega
  · rw [getD_setO hii] at e
    exact h.ap i' j k hi' hj e
theorem TwoH.cellD {O g n c : Nat} {w : World} {vu : Value} {D U : List (List Int)} {hd hu : List Value} (h : TwoH O w (.slice (some ⟨g, 0, none⟩) n c) vu D U hd hu) {i : Nat} (hi : i < D.length) :
    ∃ p q, hd.getD i .nilIface = .slice p (D.getD i []).length q ∧ w.cell? ⟨g, i, none⟩ = some (.slice p (D.getD i []).length q) ∧ w.frozen? ⟨g, i, none⟩ = false := by
  obtain ⟨p, q, e⟩ : ∃ p q, hd.getD i .nilIface = .slice p (D.getD i []).length q := by
    rcases Joins.ownsRow_forms (h.d.2.2.1 i hi) with ⟨e, h0⟩ | ⟨g, cap, e⟩
    · exact ⟨none, 0, by rw [e, h0]⟩
    · exact ⟨_, cap, e⟩
  refine ⟨p, q, e, by rw [← e]; exact h.d.cellsAt i hi, ?_⟩
  rcases h.d.1.2 with ⟨e2, _⟩ | ⟨g', cap', cur, e2, -, e3, -⟩
  · cases e2
  · obtain rfl : g = g' := Option.some.inj (congrArg Value.ownBlock e2 : some g = some g')
    simp [World.frozen?, e3]
end Go.Proofs.YtoheffkiohfmoaaGreatDoor
