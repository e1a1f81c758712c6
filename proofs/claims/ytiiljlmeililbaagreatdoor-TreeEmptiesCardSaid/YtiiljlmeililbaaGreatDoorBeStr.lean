/-
  Strings and lists of bytes: what the walks of the lexers share.
-/
import Derived.Test.YtiiljlmeililbaaGreatDoorBeGr3
import Derived.Lib.Strings
namespace Go.Proofs.YtiiljlmeililbaaGreatDoor
set_option linter.unusedVariables false
set_option maxRecDepth 100000
open Go.RowKit
def str (l : List UInt8) : ByteArray:=⟨l.toArray⟩
theorem str_size (l : List UInt8) : (str l).size=l.length:=by simp [str,ByteArray.size]
theorem str_bytes (l : List UInt8) : (str l).toList=l:=by rw [ByteArray.toList_eq]; simp [str]
theorem str_append (a b : List UInt8) : str a ++ str b=str (a ++ b):=by
 apply ByteArray.ext
 simp [str]
end Go.Proofs.YtiiljlmeililbaaGreatDoor
