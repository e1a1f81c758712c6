/-
  Contract of lex.mark: the longest mark at a place.
-/
import Derived.Test.YtiffnfgmkkoaeaaGreatDoorBnGr5
import Derived.Test.YtiffnfgmkkoaeaaGreatDoorShelf
namespace Go.Proofs.YtiffnfgmkkoaeaaGreatDoor
open Go.RowKit
set_option linter.unusedVariables false
end Go.Proofs.YtiffnfgmkkoaeaaGreatDoor
