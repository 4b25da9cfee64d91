/-
  The program's walk and the references' are one: both are the first from n down that comes to a dead end. Plain.
-/
import Derived.Test.YtnijedeopnjklaaGreatDoorSpL
import Derived.Test.YtnijedeopnjklaaGreatDoorSpC
import Derived.Test.YtnijedeopnjklaaGreatDoorFaulted
import Derived.Test.YtnijedeopnjklaaGreatDoorCoded
namespace Go.Proofs.YtnijedeopnjklaaGreatDoor
open Go Go.RowKit Sper

theorem walks_one {n : Nat} {hk : chk (smallL n) (ptsL n) (rim n) = true} {lab : Nat → Int} {T T' : Nat → Nat} {E E' : Nat → Nat × Nat} {K K' i i' : Nat} (hi : i ≤ n) (hi' : i' ≤ n)
    (w : Walk (house (smallL n) (ptsL n) (rim n) lab hk) T E K) (w' : Walk (house (smallL n) (ptsL n) (rim n) lab hk) T' E' K') (h0 : E 0 = rimE n i) (h0' : E' 0 = rimE n i')
    (hd : odD (smallL n) lab (T K) (E K) = none) (hd' : odD (smallL n) lab (T' K') (E' K') = none)
    (hn : ∀ j, i < j → j ≤ n → ¬ Good (smallL n) (ptsL n) (rim n) lab hk (rimE n j)) (hn' : ∀ j, i' < j → j ≤ n → ¬ Good (smallL n) (ptsL n) (rim n) lab hk (rimE n j)) :
    ((List.range (K + 1)).map fun q => (T q : Int)) = (List.range (K' + 1)).map fun q => (T' q : Int) := by
  have hii : i = i' := by
    rcases Nat.lt_trichotomy i i' with h | h | h
    · exact (hn i' h hi' ⟨T', E', K', w', h0', hd'⟩).elim
    · exact h
    · exact (hn' i h hi ⟨T, E, K, w, h0, hd⟩).elim
  subst hii
  obtain ⟨rfl, hT⟩ := dead_same hk w w' (h0.trans h0'.symm) hd hd'
  refine List.map_congr_left fun q hq => ?_
  rw [hT q (by have := List.mem_range.1 hq; omega)]
end Go.Proofs.YtnijedeopnjklaaGreatDoor
