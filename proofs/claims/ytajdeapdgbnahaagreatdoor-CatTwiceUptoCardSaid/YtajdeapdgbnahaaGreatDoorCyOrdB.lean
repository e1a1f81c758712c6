/-
  The plain law of layer 20's order: keys of a text and a number are in order as these are. No program in sight.
-/
import Derived.Test.YtajdeapdgbnahaaGreatDoorCyGr3
import Derived.Lib.Bytes
namespace Go.Proofs.YtajdeapdgbnahaaGreatDoor
set_option linter.unusedVariables false
set_option maxRecDepth 100000
open Go.RowKit
open List Nat
def val:List UInt8->Nat
 |[]=>0
 |b::l=>b.toNat*256^l.length+val l
theorem xD(l:List UInt8):val l<256^l.length:=by
 induction l with
 |nil=>simp[val]
 |cons b l ih=>
  simp only[val,length_cons]
  have a:=b.toNat_lt
  have:b.toNat*256^l.length<=255*256^l.length:=mul_le_mul_right _ (by omega)
  rw[Nat.pow_succ]
  omega
theorem E8(p q:List UInt8)(h:p.length=q.length):cZ p q=decide (val p<val q):=by
 induction p generalizing q with
 |nil=>cases q with
  |nil=>rfl
  |cons _ _=>simp at h
 |cons a p ih=>cases q with
  |nil=>simp at h
  |cons b q=>
   have c:p.length=q.length:=by simpa using h
   have f:=xD p
   have j:=xD q
   simp only[cZ,val,c]
   rw[c]at f
   by_cases e:a=b
   ·subst e;rw[if_pos rfl,ih q c];simp
   ·rw[if_neg e];have i:a.toNat≠b.toNat:=λh=>e (UInt8.toNat_inj.1 h);rw[decide_eq_decide,UInt8.lt_iff_toNat_lt];generalize 256^q.length=m at *;constructor
    ·intro g;have:(a.toNat+1)*m<=b.toNat*m:=mul_le_mul_right _ (by omega);rw[Nat.add_mul]at this;omega
    ·intro g;rcases aA a.toNat b.toNat with d|d
     ·exact d
     ·have:(b.toNat+1)*m<=a.toNat*m:=mul_le_mul_right _ (by omega);rw[Nat.add_mul]at this;omega
theorem vf(p q l c:List UInt8)(h:p.length=q.length):cZ (p++l) (q++c)=if p=q then cZ l c else cZ p q:=by
 induction p generalizing q with
 |nil=>cases q with
  |nil=>rfl
  |cons _ _=>simp at h
 |cons a p ih=>cases q with
  |nil=>simp at h
  |cons b q=>
   have d:p.length=q.length:=by simpa using h
   simp only[cons_append,cZ,ih q d,List.cons.injEq]
   by_cases e:a=b<;>by_cases f:p=q<;>simp[e,f]
theorem iU(z:Int)(a:0<=z)(b:z<=281474976710655):val (jw z)=z.toNat:=by obtain⟨n,rfl⟩:=Int.eq_ofNat_of_zero_le a;simp only[val,jw,mI,UInt8.toNat_ofNat',length_cons,length_nil,Int.toNat_natCast];omega
theorem BP(a b:Int)(l c:List UInt8):cZ (jw (dm a)++l) (jw (dm b)++c)=if dm a=dm b then cZ l c else decide (dm a<dm b):=by
 have a0:=wj a;have d:=wk a;have f:=wj b;have g:=wk b;rw[vf (jw (dm a)) (jw (dm b)) l c rfl,E8 (jw (dm a)) (jw (dm b)) rfl,iU _ a0 d,iU _ f g];by_cases e:dm a=dm b
 ·simp[e]
 ·rw[if_neg e,if_neg,decide_eq_decide]
  ·omega
  ·intro h;have:=congrArg val h;rw[iU _ a0 d,iU _ f g]at this;omega
end Go.Proofs.YtajdeapdgbnahaaGreatDoor
