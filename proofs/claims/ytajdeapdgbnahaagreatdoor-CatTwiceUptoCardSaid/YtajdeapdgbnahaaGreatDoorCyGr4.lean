/-
  Strings and lists of bytes: what the walks of the lexers share.
-/
import Derived.Test.YtajdeapdgbnahaaGreatDoorCyGr3
import Derived.Lib.Strings
namespace Go.Proofs.YtajdeapdgbnahaaGreatDoor
set_option linter.unusedVariables false
set_option maxRecDepth 100000
section
open Go.RowKit
def str(l:List UInt8):ByteArray:=⟨l.toArray⟩
theorem dV(l:List UInt8):(str l).size=l.length:=by simp[str,ByteArray.size]
theorem fW(l:List UInt8):(str l).data.toList=l:=by simp[str]
theorem iM(s:ByteArray):s.data.toList.length=s.size:=Array.length_toList
theorem Eo(l:List UInt8):(str l).toList=l:=by rw[ByteArray.toList_eq];simp[str]
theorem tq(a b:List UInt8):str a++str b=str (a++b):=by apply ByteArray.ext;simp[str]
end
section
open Go.RowKit
theorem ky(z:Int):(jw z).length=6:=rfl
end
end Go.Proofs.YtajdeapdgbnahaaGreatDoor
