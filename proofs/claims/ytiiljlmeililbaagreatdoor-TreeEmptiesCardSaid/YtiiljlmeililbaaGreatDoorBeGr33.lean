/-
  Contract of Cursor.next in trees of any height.
-/
import Derived.Test.YtiiljlmeililbaaGreatDoorBeGr28
import Derived.Test.YtiiljlmeililbaaGreatDoorBeGr30
import Derived.Test.YtiiljlmeililbaaGreatDoorBeGr3
import Derived.StillTailTactics
import Derived.Test.YtiiljlmeililbaaGreatDoorBeGr31
namespace Go.Proofs.YtiiljlmeililbaaGreatDoor
set_option linter.unusedVariables false
set_option maxRecDepth 100000
open Go.RowKit
end Go.Proofs.YtiiljlmeililbaaGreatDoor
