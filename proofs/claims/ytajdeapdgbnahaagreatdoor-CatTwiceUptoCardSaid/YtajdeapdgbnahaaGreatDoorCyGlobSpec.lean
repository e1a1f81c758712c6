/-
  What a pattern of names is; what a date's text is: in plain Lean. No program in sight.
-/
import Derived.Test.YtajdeapdgbnahaaGreatDoorCyGr4
import Derived.Lib.ValidLaws
namespace Go.Proofs.YtajdeapdgbnahaaGreatDoor
set_option linter.unusedVariables false
set_option maxRecDepth 100000
open Go.RowKit
def Ap(s:ByteArray):List Int:=(Conv.runesFrom s s.size 0 #[]).toList.map intOf
end Go.Proofs.YtajdeapdgbnahaaGreatDoor
