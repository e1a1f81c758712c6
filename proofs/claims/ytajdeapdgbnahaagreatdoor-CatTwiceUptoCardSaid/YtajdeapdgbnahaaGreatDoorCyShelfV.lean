/-
  Contracts of the library (by the kit's tool).
-/
import Derived.Shelf.Unicode.ValidAny
import Derived.Test.YtajdeapdgbnahaaGreatDoorProg

namespace Go.Proofs
open Go.Shelf
def Tryz.nU:Go.Shelf.Ren:=⟨fun|196=>99|259=>155|n=>n,fun|9=>9|4=>4|3=>3|5=>5|12=>12|119=>237|0=>0|46=>146|139=>240|138=>239|53=>281|n=>n,fun|3=>0|4=>1|n=>n⟩
theorem Tryz.vL:Go.Proofs.Lays.n196 Tryz.prog Tryz.nU:={
 mixed:=by kernel_rfl
 f196:=Tryz.func99.trans (congrArg some (by kernel_rfl))
 f259:=Tryz.func155.trans (congrArg some (by kernel_rfl))
 t0:=Tryz.underlying0
 a0:=Tryz.isAgg0
 z0:=Tryz.sizeOf0
 v0:=Tryz.zeroValue0
 t3:=Tryz.underlying3
 a3:=Tryz.isAgg3
 z3:=Tryz.sizeOf3
 v3:=Tryz.zeroValue3
 t4:=Tryz.underlying4
 a4:=Tryz.isAgg4
 z4:=Tryz.sizeOf4
 v4:=Tryz.zeroValue4
 t5:=Tryz.underlying5
 a5:=Tryz.isAgg5
 z5:=Tryz.sizeOf5
 v5:=Tryz.zeroValue5
 t9:=Tryz.underlying9
 a9:=Tryz.isAgg9
 z9:=Tryz.sizeOf9
 v9:=Tryz.zeroValue9
 t12:=Tryz.underlying12
 a12:=Tryz.isAgg12
 z12:=Tryz.sizeOf12
 v12:=Tryz.zeroValue12
 t46:=Tryz.underlying146
 a46:=Tryz.isAgg146
 z46:=Tryz.sizeOf146
 v46:=Tryz.zeroValue146
 t53:=Tryz.underlying281
 a53:=Tryz.isAgg281
 z53:=Tryz.sizeOf281
 v53:=Tryz.zeroValue281
 t119:=Tryz.underlying237
 a119:=Tryz.isAgg237
 z119:=Tryz.sizeOf237
 t138:=Tryz.underlying239
 a138:=Tryz.isAgg239
 z138:=Tryz.sizeOf239
 v138:=Tryz.zeroValue239
 t139:=Tryz.underlying240
 a139:=Tryz.isAgg240
 z139:=Tryz.sizeOf240
 v139:=Tryz.zeroValue240
 g3:=by kernel_rfl
 g4:=by kernel_rfl }
end Go.Proofs
