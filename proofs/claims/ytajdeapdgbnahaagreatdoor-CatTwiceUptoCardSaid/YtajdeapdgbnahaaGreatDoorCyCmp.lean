/-
  Contracts of bytes.Compare, bytes.Equal.
-/
import Derived.Test.YtajdeapdgbnahaaGreatDoorCyGr3
import Derived.Test.YtajdeapdgbnahaaGreatDoorCyShelf
namespace Go.Proofs.YtajdeapdgbnahaaGreatDoor
set_option linter.unusedVariables false
set_option maxRecDepth 100000
open Go.RowKit
theorem ui{w:World}:∀(l:List UInt8) (a:Addr) (b:ByteArray),(∀j x,l[j]?=some x->w.cell? (a.add j)=some (.int .u8 x.toNat))->(Extern.Bytes.loadBytes a l.length b).run Tryz.prog w=.ok ⟨b.data++l.toArray⟩ w
 |[],a,b,_=>by simp[Extern.Bytes.loadBytes]
 |x::l,a,b,h=>by
  have d:w.cell? a=some (.int .u8 x.toNat):=by have:=h 0 x rfl;simpa[Addr.add]using this
  have ih:=ui l (a.add 1) (b.push x) (λj y f=>by
   have:=h (j+1) y (by simpa using f);have e:(a.add 1).add j=a.add (j+1):=by
    unfold Addr.add;by_cases c:j=0
    ·subst c;simp
    ·simp[c];omega
   rw[e];exact this)
  have g:((x.toNat:Int).toNat).toUInt8=x:=by simp
  simp only[List.length_cons,Extern.Bytes.loadBytes,Sem.run_bind,run_load,d,Result.andThen,g]
  rw[ih]
  congr 1
  apply ByteArray.ext
  simp[ByteArray.push]
theorem qI{w:World}{B n c:Nat}{A:Option Addr}{l:List UInt8}(h:RB w B A n l):(Extern.Bytes.bytesOf (.slice A n c)).run Tryz.prog w=.ok ⟨l.toArray⟩ w:=by
 have f:=h.len;rcases A with _|d
 ·have a:n=0:=by
   rcases Nat.eq_zero_or_pos n with a|a
   ·exact a
   ·obtain⟨d,h,_⟩:=h.2 a;cases h
  subst a;have:l=[]:=bT f;subst this;rfl
 ·have m:∀j x,l[j]?=some x->w.cell? (d.add j)=some (.int .u8 x.toNat):=by intro j x g;have i:=(ay.1 g).1;obtain⟨q,e,_,b⟩:=h.2 (by omega);cases e;have o:x=l[j]:=(ay.1 g).2.symm;subst o;exact b j _ (vP i)
  have k:=ui (w:=w) l d .empty m;rw[f]at k;unfold Extern.Bytes.bytesOf;rw[k];have p:(⟨ByteArray.empty.data++l.toArray⟩:ByteArray)=⟨l.toArray⟩:=by apply ByteArray.ext;show(#[]:Array UInt8)++l.toArray=l.toArray;simp
  rw[p]
theorem vQ:∀a b,Lib.compareBytes a b=if bY a b=true then -1 else if a=b then 0 else 1
 |[],[]=>rfl
 |[],_::_=>rfl
 |_::_,[]=>by simp[Lib.compareBytes,bY]
 |a::i,b::s=>by
  rw[Lib.compareBytes,bY,vQ i s]
  have d:(a<b)=(a.toNat<b.toNat):=by simp[UInt8.lt_iff_toNat_lt]
  have f:(b<a)=(b.toNat<a.toNat):=by simp[UInt8.lt_iff_toNat_lt]
  simp only[d,f]
  by_cases c:a.toNat<b.toNat
  ·simp[c]
  ·by_cases g:b.toNat<a.toNat
   ·have:a≠b:=λe=>by subst e;omega
    simp[c,g,this]
   ·have e:a=b:=UInt8.toNat_inj.1 (by omega);subst e;simp
theorem Al(a b:List UInt8):decide (0<=Lib.compareBytes a b)=!bY a b:=by
 rw[vQ];cases h:bY a b with
 |true=>simp
 |false=>
  by_cases e:a=b
  ·simp[e]
  ·simp[e]
theorem Am(a b:List UInt8):decide (Lib.compareBytes a b<0)=bY a b:=by
 rw[vQ];cases h:bY a b with
 |true=>simp
 |false=>
  by_cases e:a=b
  ·simp[e]
  ·simp[e]
theorem mX(w:World)(B B':Nat)(A C:Option Addr)(n c m d:Nat)(a b:List UInt8)(g:RB w B A n a)(i:RB w B' C m b):Calls Tryz.prog 69 #[.slice A n c,.slice C m d] w λe w'=>e=.returned (.int .i64 (Lib.compareBytes a b))/\w=w':=by
 have j:(callFunc 115 #[.slice A n c,.slice C m d]).run Tryz.prog w=.ok (.value (.int .i64 (Lib.compareBytes a b))) w:=by rw[run_callFunc_extern (P:=Tryz.prog) (f:=115) Tryz.func115 (by kernel_rfl) (by kernel_rfl) (by kernel_rfl) (e:=Extern.BytealgCompare.compare) (by kernel_rfl)];change ((do pure (goInt (Extern.BytealgCompare.cmp (<-Extern.Bytes.bytesOf (.slice A n c)) (<-Extern.Bytes.bytesOf (.slice C m d)))):Sem Value).run Tryz.prog w).andThen _=_;simp only[Sem.run_bind,qI g,qI i,Result.andThen_ok,Sem.run_pure,Lib.cmp_eq,goInt]
 clear g i;go_enter Tryz.func69,Tryz.ntmps69;go_wp2_with fail;go_ret;exact⟨rfl,rfl⟩
theorem rV{w:World}{B n c:Nat}{A:Option Addr}{l:List UInt8}(h:RB w B A n l):(convert 23 9 (.slice A n c)).run Tryz.prog w=.ok (.string ⟨l.toArray⟩) w:=by
 have d:=h.len;rcases A with _|f
 ·have a:n=0:=by
   rcases Nat.eq_zero_or_pos n with a|a
   ·exact a
   ·obtain⟨f,h,_⟩:=h.2 a;cases h
  subst a;have:l=[]:=bT d;subst this;exact run_convert_bytes_nil (P:=Tryz.prog) w 23 5 Tryz.underlying23 Tryz.underlying5 0 c 9 Tryz.underlying9
 ·subst d;refine run_convert_bytes_back (P:=Tryz.prog) w 23 9 5 f c l Tryz.underlying23 Tryz.underlying5 Tryz.underlying9 λj g=>?_;obtain⟨i,e,_,b⟩:=h.elem g g;cases e;exact b
theorem Dh(w:World)(B B':Nat)(A C:Option Addr)(n c m d:Nat)(a b:List UInt8)(g:RB w B A n a)(i:RB w B' C m b):Calls Tryz.prog 126 #[.slice A n c,.slice C m d] w λe w'=>e=.returned (.bool (a==b))/\w=w':=by
 refine(Tryz.bytes_Equal_strs _ _ ⟨a.toArray⟩ ⟨b.toArray⟩ w (rV g) (rV i)).mono ?_;rintro e w' ⟨rfl,rfl⟩;refine⟨?_,rfl⟩;have f:∀l:List UInt8,(⟨l.toArray⟩:ByteArray).toList=l:=λl=>by rw[ByteArray.toList_eq]
 rw[f,f]
end Go.Proofs.YtajdeapdgbnahaaGreatDoor
