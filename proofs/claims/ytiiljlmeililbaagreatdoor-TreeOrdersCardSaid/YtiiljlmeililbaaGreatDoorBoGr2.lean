/-
  Contracts of small functions of layers 18 and 20: Held, Less.
-/
import Derived.Test.YtiiljlmeililbaaGreatDoorChecked
import Derived.Test.YtiiljlmeililbaaGreatDoorBoGr1
namespace Go.Proofs.YtiiljlmeililbaaGreatDoor
set_option linter.unusedVariables false
set_option maxRecDepth 100000
open Go.RowKit
theorem take_next {α : Type} {xs ys : List α} {k : Nat} (h : xs.take k=ys.take k) (h1 : k < xs.length) (h2 : k < ys.length) (e : xs[k]=ys[k]) : xs.take (k + 1)=ys.take (k + 1):=by
 rw [List.take_succ_eq_append_getElem h1,List.take_succ_eq_append_getElem h2,h,e]
end Go.Proofs.YtiiljlmeililbaaGreatDoor
