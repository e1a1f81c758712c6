/-
  Contracts of the library (by the kit's tool).
-/
import Derived.Shelf.Strings.Trim
import Derived.Shelf.Small.Utf8
import Derived.Shelf.Small.Bits
import Derived.Shelf.Small.Strs
import Derived.Shelf.Small.Wraps
import Derived.Shelf.Strconv.Itoa0
import Derived.Shelf.Strings.Search1
import Derived.Shelf.Sort.Plain
import Derived.Shelf.Strings.Runes
import Derived.Shelf.Strings.AsciiSet
import Derived.Shelf.Unicode.DecodeSlow
import Derived.Shelf.Unicode.DecodeAny
import Derived.Shelf.Slices.Reverse
import Derived.Ground.Names2Prog
import Derived.Shelf.Slices.Clone
import Derived.Shelf.Slices.SearchI
import Derived.Shelf.Slices.Delete
import Derived.Shelf.Slices.Cells
import Derived.Shelf.Slices.Empties
import Derived.Shelf.Bytes.SlSearch0
import Derived.Ground.SlbCloneProg
import Derived.Shelf.Bytes.SlClone
import Derived.Ground.SlgnProg
import Derived.Shelf.SlicesE.Clone
import Derived.Ground.SlgfProg
import Derived.Shelf.SlicesE.IndexFunc
import Derived.Shelf.SlicesE.DeleteFunc
import Derived.Ground.SlgmProg
import Derived.Shelf.SortM.SortNone
import Derived.Shelf.Bytes.SlEqualAll
import Derived.Shelf.Bytes.Small
import Derived.Test.YtiiljlmeililbaaGreatDoorProg

namespace Go.Proofs
open Go.Shelf
def Tryz.lays160_ren : Go.Shelf.Ren:=⟨fun | 160 => 139 | 232 => 160 | 231 => 159 | 227 => 161 | 234 => 163 | 233 => 162 | 236 => 165 | 235 => 164 | 228 => 175 | 271 => 178 | 151 => 177 | 197 => 176 | 120 => 183 | 152 => 185 | 260 => 184 | 137 => 197 | 119 => 198 | 224 => 199 | 225 => 200 | 217 => 207 | 266 => 209 | n => n,fun | 9 => 9 | 4 => 4 | 3 => 3 | 5 => 5 | 117 => 218 | 116 => 217 | 0 => 0 | 124 => 221 | 21 => 21 | 105 => 230 | 46 => 147 | 119 => 249 | 139 => 252 | 138 => 251 | n => n,fun | 3 => 1 | 4 => 2 | n => n⟩
theorem Tryz.lays160 : Go.Proofs.Lays.n160 Tryz.prog Tryz.lays160_ren:={
 mixed:=by kernel_rfl
 f119:=Tryz.func198.trans (congrArg some (by kernel_rfl))
 f120:=Tryz.func183.trans (congrArg some (by kernel_rfl))
 f137:=Tryz.func197.trans (congrArg some (by kernel_rfl))
 f151:=Tryz.func177.trans (congrArg some (by kernel_rfl))
 f152:=Tryz.func185.trans (congrArg some (by kernel_rfl))
 f160:=Tryz.func139.trans (congrArg some (by kernel_rfl))
 f197:=Tryz.func176.trans (congrArg some (by kernel_rfl))
 f217:=Tryz.func207.trans (congrArg some (by kernel_rfl))
 f224:=Tryz.func199.trans (congrArg some (by kernel_rfl))
 f225:=Tryz.func200.trans (congrArg some (by kernel_rfl))
 f227:=Tryz.func161.trans (congrArg some (by kernel_rfl))
 f228:=Tryz.func175.trans (congrArg some (by kernel_rfl))
 f231:=Tryz.func159.trans (congrArg some (by kernel_rfl))
 f232:=Tryz.func160.trans (congrArg some (by kernel_rfl))
 f233:=Tryz.func162.trans (congrArg some (by kernel_rfl))
 f234:=Tryz.func163.trans (congrArg some (by kernel_rfl))
 f235:=Tryz.func164.trans (congrArg some (by kernel_rfl))
 f236:=Tryz.func165.trans (congrArg some (by kernel_rfl))
 f260:=Tryz.func184.trans (congrArg some (by kernel_rfl))
 f266:=Tryz.func209.trans (congrArg some (by kernel_rfl))
 f271:=Tryz.func178.trans (congrArg some (by kernel_rfl))
 t0:=Tryz.underlying0
 a0:=Tryz.isAgg0
 z0:=Tryz.sizeOf0
 v0:=Tryz.zeroValue0
 t3:=Tryz.underlying3
 a3:=Tryz.isAgg3
 z3:=Tryz.sizeOf3
 v3:=Tryz.zeroValue3
 t4:=Tryz.underlying4
 a4:=Tryz.isAgg4
 z4:=Tryz.sizeOf4
 v4:=Tryz.zeroValue4
 t5:=Tryz.underlying5
 a5:=Tryz.isAgg5
 z5:=Tryz.sizeOf5
 v5:=Tryz.zeroValue5
 t9:=Tryz.underlying9
 a9:=Tryz.isAgg9
 z9:=Tryz.sizeOf9
 v9:=Tryz.zeroValue9
 t21:=Tryz.underlying21
 a21:=Tryz.isAgg21
 z21:=Tryz.sizeOf21
 v21:=Tryz.zeroValue21
 t46:=Tryz.underlying147
 a46:=Tryz.isAgg147
 z46:=Tryz.sizeOf147
 v46:=Tryz.zeroValue147
 t105:=Tryz.underlying230
 a105:=Tryz.isAgg230
 z105:=Tryz.sizeOf230
 v105:=Tryz.zeroValue230
 t116:=Tryz.underlying217
 a116:=Tryz.isAgg217
 z116:=Tryz.sizeOf217
 t117:=Tryz.underlying218
 a117:=Tryz.isAgg218
 z117:=Tryz.sizeOf218
 v117:=Tryz.zeroValue218
 t119:=Tryz.underlying249
 a119:=Tryz.isAgg249
 z119:=Tryz.sizeOf249
 t124:=Tryz.underlying221
 a124:=Tryz.isAgg221
 z124:=Tryz.sizeOf221
 v124:=Tryz.zeroValue221
 t138:=Tryz.underlying251
 a138:=Tryz.isAgg251
 z138:=Tryz.sizeOf251
 v138:=Tryz.zeroValue251
 t139:=Tryz.underlying252
 a139:=Tryz.isAgg252
 z139:=Tryz.sizeOf252
 v139:=Tryz.zeroValue252
 g3:=by kernel_rfl
 g4:=by kernel_rfl }
def Tryz.lays115_ren : Go.Shelf.Ren:=⟨fun | 115 => 85 | n => n,fun | 37 => 37 | 4 => 4 | 9 => 9 | 5 => 5 | n => n,fun | n => n⟩
theorem Tryz.lays115 : Go.Proofs.Lays.n115 Tryz.prog Tryz.lays115_ren:={
 mixed:=by kernel_rfl
 f115:=Tryz.func85.trans (congrArg some (by kernel_rfl))
 t4:=Tryz.underlying4
 a4:=Tryz.isAgg4
 z4:=Tryz.sizeOf4
 v4:=Tryz.zeroValue4
 t9:=Tryz.underlying9
 a9:=Tryz.isAgg9
 z9:=Tryz.sizeOf9
 v9:=Tryz.zeroValue9
 t37:=Tryz.underlying37
 a37:=Tryz.isAgg37
 z37:=Tryz.sizeOf37
 v37:=Tryz.zeroValue37 }
open Go.Proofs Go.RowKit Go.Lib in
theorem Tryz.bytes_Equal_strs (v1 v2 : Value) (t1 t2 : ByteArray) (w : World) (h1 : (convert 37 9 v1).run Tryz.prog w=.ok (.string t1) w) (h2 : (convert 37 9 v2).run Tryz.prog w=.ok (.string t2) w) :
   Calls Tryz.prog 85 #[v1,v2] w fun e w' => e=.returned (.bool (t1.toList == t2.toList))/\w'=w:=Any.bytes_Equal_strs Tryz.lays115 v1 v2 t1 t2 w h1 h2
end Go.Proofs
