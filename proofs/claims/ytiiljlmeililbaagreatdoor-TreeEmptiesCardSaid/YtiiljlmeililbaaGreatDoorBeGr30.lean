/-
  What a cursor goes through, in plain Lean: the cells that are still ahead.
-/
import Derived.Test.YtiiljlmeililbaaGreatDoorBeGr29
import Derived.Test.YtiiljlmeililbaaGreatDoorBeGr5
import Derived.Test.YtiiljlmeililbaaGreatDoorBeGr3
import Derived.Test.YtiiljlmeililbaaGreatDoorBeGr23
namespace Go.Proofs.YtiiljlmeililbaaGreatDoor
set_option linter.unusedVariables false
set_option maxRecDepth 100000
open Go.RowKit
end Go.Proofs.YtiiljlmeililbaaGreatDoor
namespace Go.Proofs.YtiiljlmeililbaaGreatDoor
set_option linter.unusedVariables false
set_option maxRecDepth 100000
end Go.Proofs.YtiiljlmeililbaaGreatDoor
namespace Go.Proofs.YtiiljlmeililbaaGreatDoor
set_option linter.unusedVariables false
set_option maxRecDepth 100000
open Go.RowKit
section
variable {F F' S G G' : Nat->Prop} {w w' : World} {B : Nat} {v : Value} {kv : List KV} {rows : List (List Value)} {vs : List Value} {p : KV}
end
end Go.Proofs.YtiiljlmeililbaaGreatDoor
