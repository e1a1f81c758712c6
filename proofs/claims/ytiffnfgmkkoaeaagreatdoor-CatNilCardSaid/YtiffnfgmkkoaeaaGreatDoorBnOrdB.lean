/-
  The plain law of layer 20's order: keys of a text and a number are in order as these are. No program in sight.
-/
import Derived.Test.YtiffnfgmkkoaeaaGreatDoorBnGr2
import Derived.Test.YtiffnfgmkkoaeaaGreatDoorBnGr1
import Derived.Lib.Bytes
namespace Go.Proofs.YtiffnfgmkkoaeaaGreatDoor
open Go.RowKit
set_option linter.unusedVariables false
def val : List UInt8 → Nat
  | [] => 0
  | b :: l => b.toNat * 256 ^ l.length + val l
theorem val_lt (l : List UInt8) : val l < 256 ^ l.length := by
  induction l with
  | nil => simp [val]
  | cons b l ih =>
    simp only [val, List.length_cons]
    have hb := b.toNat_lt
    have : b.toNat * 256 ^ l.length ≤ 255 * 256 ^ l.length := Nat.mul_le_mul_right _ (by omega)
    rw [Nat.pow_succ]
    omega
end Go.Proofs.YtiffnfgmkkoaeaaGreatDoor
