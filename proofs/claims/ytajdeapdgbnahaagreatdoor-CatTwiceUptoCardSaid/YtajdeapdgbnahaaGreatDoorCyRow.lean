/-
  What is told of the arguments of the laws of this seat when they come in: slices of integers and of bytes read as lists. Used by the ends of the laws.
-/
import Derived.Test.YtajdeapdgbnahaaGreatDoorRows
import Derived.Test.YtajdeapdgbnahaaGreatDoorCyGr1
import Derived.ProofKit
import Derived.OpenShut
import Derived.ShutString
namespace Go.Proofs.YtajdeapdgbnahaaGreatDoor
set_option linter.unusedVariables false
set_option maxRecDepth 100000
open Go.ChangeShapes Go.WideShapes Go.ChangeAt Go.RowKit
theorem Fj:ownKnob Tryz.prog.godebug=none:=by kernel_rfl
theorem vR:laidOutB Tryz.prog=true:=by kernel_rfl
theorem kS{w:World}{p:Addr}{v:Value}(h:w.cell? p=some v):p.block<w.heap.size:=by
 rcases aA p.block w.heap.size with a|b
 ·exact a
 ·simp[World.cell?,Array.getElem?_eq_none b]at h
end Go.Proofs.YtajdeapdgbnahaaGreatDoor
