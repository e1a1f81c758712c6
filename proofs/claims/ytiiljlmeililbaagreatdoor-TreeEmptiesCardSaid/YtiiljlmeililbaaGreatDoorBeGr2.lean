/-
  Contracts of small functions of layers 18 and 20: Held, Less.
-/
import Derived.Test.YtiiljlmeililbaaGreatDoorChecked
import Derived.Test.YtiiljlmeililbaaGreatDoorBeGr1
namespace Go.Proofs.YtiiljlmeililbaaGreatDoor
set_option linter.unusedVariables false
set_option maxRecDepth 100000
open Go.RowKit
end Go.Proofs.YtiiljlmeililbaaGreatDoor
