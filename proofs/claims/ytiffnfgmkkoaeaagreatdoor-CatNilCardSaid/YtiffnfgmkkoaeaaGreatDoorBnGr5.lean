/-
  Strings and lists of bytes: what the walks of the lexers share.
-/
import Derived.Test.YtiffnfgmkkoaeaaGreatDoorBnGr2
import Derived.Lib.Strings
import Derived.Test.YtiffnfgmkkoaeaaGreatDoorBnGr1
namespace Go.Proofs.YtiffnfgmkkoaeaaGreatDoor
open Go.RowKit
set_option linter.unusedVariables false
/-- The string of a list of bytes. -/
def str (l : List UInt8) : ByteArray := ⟨l.toArray⟩
theorem str_size (l : List UInt8) : (str l).size = l.length := by simp [str, ByteArray.size]
theorem str_toList (l : List UInt8) : (str l).data.toList = l := by simp [str]
theorem data_len (s : ByteArray) : s.data.toList.length = s.size := Array.length_toList
theorem str_bytes (l : List UInt8) : (str l).toList = l := by rw [ByteArray.toList_eq]; simp [str]
theorem str_append (a b : List UInt8) : str a ++ str b = str (a ++ b) := by
  apply ByteArray.ext
  simp [str]
end Go.Proofs.YtiffnfgmkkoaeaaGreatDoor
namespace Go.Proofs.YtiffnfgmkkoaeaaGreatDoor
set_option linter.unusedVariables false
/-- A token: its kind, its text, its number, its place. -/
structure Tok where
  kind : Int
  text : List UInt8
  n : Int
  pos : Nat
/-- The text behind a quote, and how many bytes it takes, the closing quote with it. -/
def quotedL : List UInt8 → Option (List UInt8 × Nat)
  | [] => none
  | c :: r =>
    if c = 34 then some ([], 1)
    else if c = 92 then
      match r with
      | [] => none
      | d :: r' => if d = 34 ∨ d = 92 then (quotedL r').map fun x => (d :: x.1, x.2 + 2) else none
    else (quotedL r).map fun x => (c :: x.1, x.2 + 1)
end Go.Proofs.YtiffnfgmkkoaeaaGreatDoor
namespace Go.Proofs.YtiffnfgmkkoaeaaGreatDoor
open Go.RowKit
set_option linter.unusedVariables false
end Go.Proofs.YtiffnfgmkkoaeaaGreatDoor
namespace Go.Proofs.YtiffnfgmkkoaeaaGreatDoor
open Go.RowKit
set_option linter.unusedVariables false
end Go.Proofs.YtiffnfgmkkoaeaaGreatDoor
namespace Go.Proofs.YtiffnfgmkkoaeaaGreatDoor
open Go.RowKit
set_option linter.unusedVariables false
end Go.Proofs.YtiffnfgmkkoaeaaGreatDoor
