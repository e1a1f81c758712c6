/-
  Contracts of small functions of layers 18 and 20: Held, Less.
-/
import Derived.Test.YtajdeapdgbnahaaGreatDoorChecked
import Derived.Test.YtajdeapdgbnahaaGreatDoorCyGr1
namespace Go.Proofs.YtajdeapdgbnahaaGreatDoor
set_option linter.unusedVariables false
set_option maxRecDepth 100000
section
open Go.RowKit
def dm(n:Int):Int:=if n<0 then 0 else if 281474976710655<n then 281474976710655 else n
theorem wj(n:Int):0<=dm n:=by unfold dm;split<;>(try split)<;>omega
theorem wk(n:Int):dm n<=281474976710655:=by unfold dm;split<;>(try split)<;>omega
def cZ:List UInt8->List UInt8->Bool
 |[],[]=>false
 |[],_::_=>true
 |_::_,[]=>false
 |a::l,b::c=>if a=b then cZ l c else decide (a<b)
theorem ur(p l b:List UInt8):cZ (p++l) (p++b)=cZ l b:=by
 induction p with
 |nil=>rfl
 |cons a p ih=>simp[cZ,ih]
end
def iG(x:UInt8):List UInt8:=if x=0 then[0,255]else[x]
def df(s:List UInt8):List UInt8:=s.flatMap iG++[0,1]
theorem ib(x:UInt8)(s:List UInt8):df (x::s)=iG x++df s:=by simp[df]
theorem eT(x y:UInt8)(l a:List UInt8):cZ (x::l) (y::a)=if x=y then cZ l a else decide (x<y):=by rw[cZ]
theorem uu(x:UInt8)(h:x≠0):(0:UInt8)<x:=by rw[UInt8.lt_iff_toNat_lt];have:x.toNat≠0:=λe=>h (UInt8.toNat_inj.1 e);show 0<x.toNat;omega
theorem r9:∀(a b p q:List UInt8),cZ (df a++p) (df b++q)=if a=b then cZ p q else cZ a b
 |[],[],p,q=>by rw[if_pos rfl];exact ur _ _ _
 |[],y::b,p,q=>by
  rw[if_neg (by simp),ib,show df []=[0,1]from rfl]
  by_cases d:y=0
  ·subst d;rw[show iG 0=[0,255]from rfl];show cZ (0::1::p) (0::255::(df b++q))=_;rw[eT,if_pos rfl,eT,if_neg (by decide)];rfl
  ·rw[show iG y=[y]from by simp[iG,d]];show cZ (0::1::p) (y::(df b++q))=_;rw[eT,if_neg (Ne.symm d),aV (uu y d)];rfl
 |x::a,[],p,q=>by
  rw[if_neg (by simp),ib,show df []=[0,1]from rfl]
  by_cases c:x=0
  ·subst c;rw[show iG 0=[0,255]from rfl];show cZ (0::255::(df a++p)) (0::1::q)=_;rw[eT,if_pos rfl,eT,if_neg (by decide)];rfl
  ·rw[show iG x=[x]from by simp[iG,c]];show cZ (x::(df a++p)) (0::1::q)=_;rw[eT,if_neg c,aD (by have:=uu x c;rw[UInt8.lt_iff_toNat_lt]at *;omega)];rfl
 |x::a,y::b,p,q=>by
  rw[ib,ib,av,av,eT]
  by_cases e:x=y
  ·subst e;rw[ur,if_pos rfl,r9 a b p q];simp
  ·rw[if_neg (by simp[e]),if_neg e];by_cases c:x=0
   ·subst c;rw[show iG 0=[0,255]from rfl,show iG y=[y]from by simp[iG,Ne.symm e]];show cZ (0::255::(df a++p)) (y::(df b++q))=_;rw[eT,if_neg e]
   ·by_cases d:y=0
    ·subst d;rw[show iG 0=[0,255]from rfl,show iG x=[x]from by simp[iG,c]];show cZ (x::(df a++p)) (0::255::(df b++q))=_;rw[eT,if_neg e]
    ·rw[show iG x=[x]from by simp[iG,c],show iG y=[y]from by simp[iG,d]];show cZ (x::(df a++p)) (y::(df b++q))=_;rw[eT,if_neg e]
end Go.Proofs.YtajdeapdgbnahaaGreatDoor
