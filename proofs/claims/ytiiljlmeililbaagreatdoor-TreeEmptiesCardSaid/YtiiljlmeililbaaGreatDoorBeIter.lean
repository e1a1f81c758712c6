/-
  Contracts of the library (by the kit's tool).
-/
import Derived.Shelf.SlIterI.Nil
import Derived.Shelf.SortM.Plain
import Derived.Shelf.SortM.SortNone
import Derived.Ground.GgzProg
import Derived.Ground.SlgmProg
import Derived.Test.YtiiljlmeililbaaGreatDoorProg

namespace Go.Proofs
open Go.Shelf
def Tryz.keysI_ren : Go.Shelf.Ren:=⟨fun | 7 => 146 | 10 => 169 | n => n,fun | 23 => 68 | 26 => 3 | 3 => 37 | 28 => 204 | 0 => 0 | 27 => 203 | 33 => 140 | 4 => 4 | n => n,fun | n => n⟩
theorem Tryz.keysI : Go.Proofs.SlLaysZI.n7 Tryz.prog Tryz.keysI_ren:={
 mixed:=by kernel_rfl
 f7:=⟨Tryz.f146.name,by decide,Tryz.func146.trans (congrArg some (by kernel_rfl))⟩
 f10:=⟨Tryz.f169.name,by decide,Tryz.func169.trans (congrArg some (by kernel_rfl))⟩
 t0:=Tryz.underlying0
 a0:=Tryz.isAgg0
 z0:=Tryz.sizeOf0
 v0:=Tryz.zeroValue0
 t4:=Tryz.underlying4
 a4:=Tryz.isAgg4
 z4:=Tryz.sizeOf4
 v4:=Tryz.zeroValue4
 t23:=Tryz.underlying68
 a23:=Tryz.isAgg68
 z23:=Tryz.sizeOf68
 v23:=Tryz.zeroValue68
 t26:=Tryz.underlying3
 a26:=Tryz.isAgg3
 z26:=Tryz.sizeOf3
 v26:=Tryz.zeroValue3
 t27:=Tryz.underlying203
 a27:=Tryz.isAgg203
 z27:=Tryz.sizeOf203
 v27:=Tryz.zeroValue203
 t28:=Tryz.underlying204
 a28:=Tryz.isAgg204
 z28:=Tryz.sizeOf204
 v28:=Tryz.zeroValue204
 t33:=Tryz.underlying140
 a33:=Tryz.isAgg140
 z33:=Tryz.sizeOf140
 v33:=Tryz.zeroValue140 }
def Tryz.sortedI_ren : Go.Shelf.Ren:=⟨fun | 6 => 145 | 8 => 167 | 9 => 168 | 11 => 179 | 13 => 181 | 12 => 180 | 23 => 195 | 24 => 196 | 14 => 186 | 15 => 187 | 16 => 188 | 17 => 189 | 18 => 190 | 19 => 191 | 20 => 192 | 21 => 193 | 22 => 194 | 25 => 201 | 26 => 202 | 27 => 203 | 28 => 204 | 29 => 205 | 30 => 206 | 31 => 208 | n => n,fun | 26 => 3 | 28 => 204 | 24 => 57 | 0 => 0 | 3 => 3 | 37 => 147 | 48 => 164 | 50 => 248 | 4 => 4 | 40 => 240 | 39 => 239 | 45 => 102 | 5 => 5 | 9 => 9 | 51 => 256 | 55 => 260 | 57 => 262 | 58 => 263 | 33 => 140 | n => n,fun | n => n⟩
theorem Tryz.sortedI : Go.Proofs.SlLaysZI.n6 Tryz.prog Tryz.sortedI_ren:={
 mixed:=by kernel_rfl
 f6:=⟨Tryz.f145.name,by decide,Tryz.func145.trans (congrArg some (by kernel_rfl))⟩
 f8:=⟨Tryz.f167.name,by decide,Tryz.func167.trans (congrArg some (by kernel_rfl))⟩
 f11:=⟨Tryz.f179.name,by decide,Tryz.func179.trans (congrArg some (by kernel_rfl))⟩
 t0:=Tryz.underlying0
 a0:=Tryz.isAgg0
 z0:=Tryz.sizeOf0
 v0:=Tryz.zeroValue0
 t24:=Tryz.underlying57
 a24:=Tryz.isAgg57
 z24:=Tryz.sizeOf57
 v24:=Tryz.zeroValue57
 t26:=Tryz.underlying3
 a26:=Tryz.isAgg3
 z26:=Tryz.sizeOf3
 v26:=Tryz.zeroValue3
 t28:=Tryz.underlying204
 a28:=Tryz.isAgg204
 z28:=Tryz.sizeOf204
 v28:=Tryz.zeroValue204
 i26:=by kernel_rfl }
def Tryz.sortI_ren : Go.Shelf.Ren:=⟨fun | 5 => 168 | 8 => 181 | 7 => 180 | 19 => 195 | 20 => 196 | 10 => 186 | 11 => 187 | 12 => 188 | 13 => 189 | 14 => 190 | 15 => 191 | 16 => 192 | 17 => 193 | 18 => 194 | 30 => 201 | 31 => 202 | 32 => 203 | 33 => 204 | 34 => 205 | 35 => 206 | 40 => 208 | n => n,fun | 23 => 57 | 25 => 3 | 3 => 3 | 32 => 147 | 22 => 57 | 0 => 0 | 44 => 164 | 46 => 248 | 4 => 4 | 36 => 240 | 35 => 239 | 41 => 102 | 5 => 5 | 9 => 9 | 53 => 256 | 57 => 260 | 63 => 262 | 64 => 263 | n => n,fun | n => n⟩
theorem Tryz.sortI : Go.Proofs.SlLaysM.n5 Tryz.prog Tryz.sortI_ren:={
 mixed:=by kernel_rfl
 f5:=⟨Tryz.f168.name,by decide,Tryz.func168.trans (congrArg some (by kernel_rfl))⟩
 f7:=⟨Tryz.f180.name,by decide,Tryz.func180.trans (congrArg some (by kernel_rfl))⟩
 f8:=Tryz.func181.trans (congrArg some (by kernel_rfl))
 f10:=⟨Tryz.f186.name,by decide,Tryz.func186.trans (congrArg some (by kernel_rfl))⟩
 f11:=⟨Tryz.f187.name,by decide,Tryz.func187.trans (congrArg some (by kernel_rfl))⟩
 f12:=⟨Tryz.f188.name,by decide,Tryz.func188.trans (congrArg some (by kernel_rfl))⟩
 f13:=⟨Tryz.f189.name,by decide,Tryz.func189.trans (congrArg some (by kernel_rfl))⟩
 f14:=⟨Tryz.f190.name,by decide,Tryz.func190.trans (congrArg some (by kernel_rfl))⟩
 f15:=⟨Tryz.f191.name,by decide,Tryz.func191.trans (congrArg some (by kernel_rfl))⟩
 f16:=⟨Tryz.f192.name,by decide,Tryz.func192.trans (congrArg some (by kernel_rfl))⟩
 f17:=⟨Tryz.f193.name,by decide,Tryz.func193.trans (congrArg some (by kernel_rfl))⟩
 f18:=⟨Tryz.f194.name,by decide,Tryz.func194.trans (congrArg some (by kernel_rfl))⟩
 f19:=Tryz.func195.trans (congrArg some (by kernel_rfl))
 f20:=Tryz.func196.trans (congrArg some (by kernel_rfl))
 f30:=⟨Tryz.f201.name,by decide,Tryz.func201.trans (congrArg some (by kernel_rfl))⟩
 f31:=Tryz.func202.trans (congrArg some (by kernel_rfl))
 f32:=Tryz.func203.trans (congrArg some (by kernel_rfl))
 f33:=⟨Tryz.f204.name,by decide,Tryz.func204.trans (congrArg some (by kernel_rfl))⟩
 f34:=⟨Tryz.f205.name,by decide,Tryz.func205.trans (congrArg some (by kernel_rfl))⟩
 f35:=⟨Tryz.f206.name,by decide,Tryz.func206.trans (congrArg some (by kernel_rfl))⟩
 f40:=⟨Tryz.f208.name,by decide,Tryz.func208.trans (congrArg some (by kernel_rfl))⟩
 t0:=Tryz.underlying0
 a0:=Tryz.isAgg0
 z0:=Tryz.sizeOf0
 v0:=Tryz.zeroValue0
 t3:=Tryz.underlying3
 a3:=Tryz.isAgg3
 z3:=Tryz.sizeOf3
 v3:=Tryz.zeroValue3
 t4:=Tryz.underlying4
 a4:=Tryz.isAgg4
 z4:=Tryz.sizeOf4
 v4:=Tryz.zeroValue4
 t5:=Tryz.underlying5
 a5:=Tryz.isAgg5
 z5:=Tryz.sizeOf5
 v5:=Tryz.zeroValue5
 t9:=Tryz.underlying9
 a9:=Tryz.isAgg9
 z9:=Tryz.sizeOf9
 v9:=Tryz.zeroValue9
 t22:=Tryz.underlying57
 a22:=Tryz.isAgg57
 z22:=Tryz.sizeOf57
 v22:=Tryz.zeroValue57
 t23:=Tryz.underlying57
 a23:=Tryz.isAgg57
 z23:=Tryz.sizeOf57
 v23:=Tryz.zeroValue57
 t25:=Tryz.underlying3
 a25:=Tryz.isAgg3
 z25:=Tryz.sizeOf3
 v25:=Tryz.zeroValue3
 t32:=Tryz.underlying147
 a32:=Tryz.isAgg147
 z32:=Tryz.sizeOf147
 v32:=Tryz.zeroValue147
 t35:=Tryz.underlying239
 a35:=Tryz.isAgg239
 z35:=Tryz.sizeOf239
 v35:=Tryz.zeroValue239
 t36:=Tryz.underlying240
 a36:=Tryz.isAgg240
 z36:=Tryz.sizeOf240
 v36:=Tryz.zeroValue240
 t41:=Tryz.underlying102
 a41:=Tryz.isAgg102
 z41:=Tryz.sizeOf102
 v41:=Tryz.zeroValue102
 t44:=Tryz.underlying164
 a44:=Tryz.isAgg164
 z44:=Tryz.sizeOf164
 v44:=Tryz.zeroValue164
 t46:=Tryz.underlying248
 a46:=Tryz.isAgg248
 z46:=Tryz.sizeOf248
 v46:=Tryz.zeroValue248
 t53:=Tryz.underlying256
 a53:=Tryz.isAgg256
 z53:=Tryz.sizeOf256
 v53:=Tryz.zeroValue256
 t57:=Tryz.underlying260
 a57:=Tryz.isAgg260
 z57:=Tryz.sizeOf260
 v57:=Tryz.zeroValue260
 t63:=Tryz.underlying262
 a63:=Tryz.isAgg262
 z63:=Tryz.sizeOf262
 v63:=Tryz.zeroValue262
 t64:=Tryz.underlying263
 a64:=Tryz.isAgg263
 z64:=Tryz.sizeOf263
 v64:=Tryz.zeroValue263 }
end Go.Proofs
