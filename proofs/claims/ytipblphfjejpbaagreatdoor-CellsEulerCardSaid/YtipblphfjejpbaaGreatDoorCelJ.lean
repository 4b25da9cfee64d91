import Derived.Test.YtipblphfjejpbaaGreatDoorCelI
set_option linter.unusedSimpArgs false
set_option linter.unusedVariables false
/-! The circle's sets: their facets (plain). -/
namespace Go.Proofs.YtipblphfjejpbaaGreatDoor
open Go Go.RowKit Go.Maps

def circL : List (List Int) := [[1, 0], [1, 2], [2, 0], [1]]
def circF : List (List Int) := [[0, 1], [0, 2], [1, 2]]
theorem sort_10 : sortI [1, 0] = [0, 1] := rise_ext (rise_sortI (by decide)) (by unfold Rise; decide) fun x => by rw [mem_sortI]; simp [or_comm]
theorem sort_12 : sortI [1, 2] = [1, 2] := rise_ext (rise_sortI (by decide)) (by unfold Rise; decide) fun x => by rw [mem_sortI]
theorem sort_20 : sortI [2, 0] = [0, 2] := rise_ext (rise_sortI (by decide)) (by unfold Rise; decide) fun x => by rw [mem_sortI]; simp [or_comm]
theorem sort_1 : sortI [1] = [1] := rise_ext (rise_sortI (by decide)) (by unfold Rise; decide) fun x => by rw [mem_sortI]
theorem circ_all : allF circL = [[0], [0, 1], [0, 2], [1], [1, 2], [2]] := by
  unfold allF circL
  simp only [List.flatMap_cons, List.flatMap_nil, sort_10, sort_12, sort_20, sort_1]
  decide
theorem circ_ok : errC circL = 0 := errC_0 (by unfold okSet circL; decide) (by unfold circL; decide) (by rw [circ_all]; decide)
theorem circ_made : madeF circL = circF := by
  unfold madeF
  rw [circ_all]
  decide
end Go.Proofs.YtipblphfjejpbaaGreatDoor
