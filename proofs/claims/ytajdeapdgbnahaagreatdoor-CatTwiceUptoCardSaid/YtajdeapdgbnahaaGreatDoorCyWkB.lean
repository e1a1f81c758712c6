/-
  Contract of inquestlaw19.wakes.
-/
import Derived.Test.YtajdeapdgbnahaaGreatDoorCyGr42
import Derived.Test.YtajdeapdgbnahaaGreatDoorCyGr27
namespace Go.Proofs.YtajdeapdgbnahaaGreatDoor
set_option linter.unusedVariables false
set_option maxRecDepth 100000
open Go.RowKit Go.Maps
end Go.Proofs.YtajdeapdgbnahaaGreatDoor
