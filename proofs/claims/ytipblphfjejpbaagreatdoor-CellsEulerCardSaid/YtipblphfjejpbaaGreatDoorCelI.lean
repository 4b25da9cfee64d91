import Derived.Test.YtipblphfjejpbaaGreatDoorCelV
import Derived.Test.YtipblphfjejpbaaGreatDoorErrsD
set_option linter.unusedSimpArgs false
set_option linter.unusedVariables false
/-! The law's 'is': a complex and an error are as they should be. -/
namespace Go.Proofs.YtipblphfjejpbaaGreatDoor
open Go Go.RowKit Go.Maps

end Go.Proofs.YtipblphfjejpbaaGreatDoor
