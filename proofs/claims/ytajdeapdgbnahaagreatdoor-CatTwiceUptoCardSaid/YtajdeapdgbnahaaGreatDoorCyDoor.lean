/-
  A row that lists variables AND whose code reads a variable of the library's own that is not listed: the condition and the world's shape both handed to the contract.
-/
import Derived.Test.YtajdeapdgbnahaaGreatDoorCyRow
import Derived.RangeFuncOwn
import Derived.LaidMore
import Derived.Lay
import Derived.SevenTiedAt
namespace Go.Proofs.YtajdeapdgbnahaaGreatDoor
set_option linter.unusedVariables false
set_option maxRecDepth 100000
open Go.ChangeShapes Go.WideShapes Go.ChangeAt Go.RowKit
end Go.Proofs.YtajdeapdgbnahaaGreatDoor
