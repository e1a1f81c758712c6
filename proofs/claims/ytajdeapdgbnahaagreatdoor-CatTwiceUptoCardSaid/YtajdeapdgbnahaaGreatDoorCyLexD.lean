/-
  Contract of lex.mark: the longest mark at a place.
-/
import Derived.Test.YtajdeapdgbnahaaGreatDoorCyGr4
import Derived.Test.YtajdeapdgbnahaaGreatDoorCyShelf
namespace Go.Proofs.YtajdeapdgbnahaaGreatDoor
set_option linter.unusedVariables false
set_option maxRecDepth 100000
open Go.RowKit
end Go.Proofs.YtajdeapdgbnahaaGreatDoor
