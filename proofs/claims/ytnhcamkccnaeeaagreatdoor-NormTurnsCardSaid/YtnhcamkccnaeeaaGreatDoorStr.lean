/-
  Strings and lists of bytes: what the walks of the lexers share.
-/
import Derived.Test.YtnhcamkccnaeeaaGreatDoorBytes
import Derived.Lib.Strings
namespace Go.Proofs.YtnhcamkccnaeeaaGreatDoor
open Go.RowKit
set_option linter.unusedVariables false

/-- The string of a list of bytes. -/
def str (l : List UInt8) : ByteArray := ⟨l.toArray⟩
theorem ret_str {a b : List UInt8} (h : a = b) : Ending.returned (.string (str a)) = Ending.returned (.string (str b)) := by rw [h]
theorem str_size (l : List UInt8) : (str l).size = l.length := by simp [str, ByteArray.size]
theorem str_toList (l : List UInt8) : (str l).data.toList = l := by simp [str]
theorem str_eta (s : ByteArray) : str s.data.toList = s := by
  cases s; simp [str]
theorem data_len (s : ByteArray) : s.data.toList.length = s.size := Array.length_toList
theorem str_bytes (l : List UInt8) : (str l).toList = l := by rw [ByteArray.toList_eq]; simp [str]
theorem str_inj {a b : List UInt8} (h : str a = str b) : a = b := by
  have := congrArg (fun s : ByteArray => s.data.toList) h
  simpa [str] using this
theorem str_append (a b : List UInt8) : str a ++ str b = str (a ++ b) := by
  apply ByteArray.ext
  simp [str]
theorem str_extract (s : ByteArray) (a b : Nat) : s.extract a b = str ((s.data.toList.drop a).take (b - a)) := by
  apply ByteArray.ext
  apply Array.toList_inj.1
  simp [str, List.extract_eq_take_drop]
theorem str_get (s : ByteArray) (i : Nat) (h : i < s.size) (h2 : i < s.data.toList.length) : s[i] = s.data.toList[i] := by
  simp [ByteArray.getElem_eq_getElem_data]
end Go.Proofs.YtnhcamkccnaeeaaGreatDoor
