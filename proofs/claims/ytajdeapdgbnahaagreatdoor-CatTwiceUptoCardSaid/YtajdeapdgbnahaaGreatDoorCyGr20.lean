/-
  Quoting, in plain Lean: what two replacements of single bytes write; a quoted text is one token. No program in sight.
-/
import Derived.Test.YtajdeapdgbnahaaGreatDoorCyGr9
namespace Go.Proofs.YtajdeapdgbnahaaGreatDoor
set_option linter.unusedVariables false
set_option maxRecDepth 100000
open List Nat
def tY(c:UInt8)(new:List UInt8)(x:UInt8):List UInt8:=if x=c then new else[x]
theorem oP(c:UInt8)(new:List UInt8):∀s:List UInt8,s.count c=0->s.flatMap (tY c new)=s
 |[],_=>rfl
 |b::l,h=>by
  by_cases a:b=c
  ·subst a;simp at h
  ·rw[count_cons_of_ne a]at h;rw[flatMap_cons,oP c new l h,tY,if_neg a];rfl
theorem lK(c:UInt8)(new:List UInt8):∀(s:List UInt8) (k:Nat),s.count c<=k->Lib.replaceK [c] new k s=s.flatMap (tY c new)
 |s,0,h=>by rw[oP c new s (by omega)];rfl
 |[],k+1,_=>by rw[Lib.replaceK,Lib.index_one];rfl
 |b::l,k+1,h=>by
  by_cases a:b=c
  ·subst a;have d:Lib.index (b::l) [b]=((0:Nat):Int):=by rw[Lib.index_one,Lib.indexByte];simp
   rw[Lib.replaceK_hit _ _ _ _ 0 d,flatMap_cons,tY,if_pos rfl];have j:l.count b<=k:=by rw[count_cons_self]at h;omega
   have:=lK b new l k j;simpa using this
  ·rw[count_cons_of_ne a]at h;have ih:=lK c new l (k+1) h;rw[flatMap_cons,tY,if_neg a,<-ih];have e:(b==c)=false:=by simpa using a
   rcases Lib.index_spec l [c]with⟨g,_⟩|⟨i,d,_⟩
   ·have f:Lib.index (b::l) [c]=-1:=by rw[Lib.index_one,Lib.indexByte,e,<-Lib.index_one,g];rfl
    rw[Lib.replaceK,Lib.replaceK,f,g];rfl
   ·have f:Lib.index (b::l) [c]=((i+1:Nat):Int):=by
     rw[Lib.index_one,Lib.indexByte,e,<-Lib.index_one,d];have:((i:Int)== -1)=false:=by rw[aZ];omega
     simp[this]
    rw[Lib.replaceK_hit _ _ _ _ _ f,Lib.replaceK_hit _ _ _ _ _ d];simp
theorem sj(c:UInt8)(new s:List UInt8)(h:([c]==new)=false):Lib.replaceAll s [c] new=s.flatMap (tY c new):=by rw[Lib.replaceAll,Lib.replace,if_neg (by rw[h];exact Bool.false_ne_true)];refine lK c new s _ ?_;rw[Lib.replaceNum,if_pos (Or.inl (by decide)),Lib.count_one];exact aa _
section
open Go.RowKit
theorem Cw(c:UInt8)(new:List UInt8)(h:new.length<=2)(s:List UInt8):(s.flatMap (tY c new)).length<=2*s.length:=by
 induction s with
 |nil=>simp
 |cons b a ih=>
  have:(tY c new b).length<=2:=by unfold tY;split<;>simp[h]
  rw[flatMap_cons,aq,length_cons];omega
end
end Go.Proofs.YtajdeapdgbnahaaGreatDoor
