/-
  Contracts of small functions of layers 18 and 20: Held, Less.
-/
import Derived.Test.YtiffnfgmkkoaeaaGreatDoorChecked
import Derived.Test.YtiffnfgmkkoaeaaGreatDoorBnGr0
namespace Go.Proofs.YtiffnfgmkkoaeaaGreatDoor
open Go.RowKit
set_option linter.unusedVariables false
def heldI (n : Int) : Int := if n < 0 then 0 else if 281474976710655 < n then 281474976710655 else n
theorem heldI_0 (n : Int) : 0 ≤ heldI n := by unfold heldI; split <;> (try split) <;> omega
theorem heldI_1 (n : Int) : heldI n ≤ 281474976710655 := by unfold heldI; split <;> (try split) <;> omega
end Go.Proofs.YtiffnfgmkkoaeaaGreatDoor
namespace Go.Proofs.YtiffnfgmkkoaeaaGreatDoor
open Go.RowKit
set_option linter.unusedVariables false
end Go.Proofs.YtiffnfgmkkoaeaaGreatDoor
namespace Go.Proofs.YtiffnfgmkkoaeaaGreatDoor
set_option linter.unusedVariables false
def txtF (x : UInt8) : List UInt8 := if x = 0 then [0, 255] else [x]
def textB (s : List UInt8) : List UInt8 := s.flatMap txtF ++ [0, 1]
theorem textB_cons (x : UInt8) (s : List UInt8) : textB (x :: s) = txtF x ++ textB s := by simp [textB]
end Go.Proofs.YtiffnfgmkkoaeaaGreatDoor
