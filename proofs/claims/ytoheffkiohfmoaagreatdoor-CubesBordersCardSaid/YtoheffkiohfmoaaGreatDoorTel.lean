/-
  A square tells a piece: plain.
-/
import Derived.Test.YtoheffkiohfmoaaGreatDoorIms
set_option linter.unusedVariables false
namespace Go.Proofs.YtoheffkiohfmoaaGreatDoor
open FL

theorem tell_iff {ms : List ByteArray} {cor full inner : Bool} {p : Sq} {rim : Bool} (hp : CnI ms full p) (hf : ¬ Marked cor (CnI ms full) (wideI ms) (p.2 * wideI ms + p.1) p) (hr : rim = true ↔ ∃ q, Conn cor (CnI ms full) p q ∧ RimI ms q) : TellI ms cor full inner p ↔ (!rim || !inner) = true := by
  unfold TellI
  rw [first_iff]
  constructor
  · rintro ⟨-, h⟩
    cases inner with
    | false => simp
    | true =>
      cases rim with
      | false => simp
      | true =>
        obtain ⟨q, h1, h2⟩ := hr.1 rfl
        exact absurd h2 (h rfl q h1)
  · intro h
    refine ⟨⟨hp, hf⟩, fun hi q hc hq => ?_⟩
    subst hi
    have : rim = true := hr.2 ⟨q, hc, hq⟩
    rw [this] at h; cases h
end Go.Proofs.YtoheffkiohfmoaaGreatDoor
