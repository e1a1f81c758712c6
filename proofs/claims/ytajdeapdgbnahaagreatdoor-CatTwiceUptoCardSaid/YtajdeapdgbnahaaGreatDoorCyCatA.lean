/-
  Contracts of cat.in, may, pack, order.
-/
import Derived.Test.YtajdeapdgbnahaaGreatDoorCyMay
import Derived.Test.YtajdeapdgbnahaaGreatDoorCyText
import Derived.Test.YtajdeapdgbnahaaGreatDoorCyGr12
namespace Go.Proofs.YtajdeapdgbnahaaGreatDoor
set_option linter.unusedVariables false
set_option maxRecDepth 100000
set_option maxHeartbeats 1000000
open Go.RowKit
def xL(a:Int)(b:List Int):Bool:=b.all λz=>decide (0<=z)&&decide (z<=a)
theorem Co{a:Int}{b:List Int}{k:Nat}{z:Int}(h:b[k]?=some z)(c:z<0\/a<z):xL a b=false:=by
 unfold xL;rw[List.all_eq_false];refine⟨z,bu h,?_⟩;rcases c with d|d
 ·rw[aD (by omega:¬0<=z)];simp
 ·rw[aD (by omega:¬z<=a)];simp
theorem vO(w:World)(B:Option Addr)(n c:Nat)(b:List Int)(q:RI w w.heap.size B n b)(L:n<=1000)(a:Int):Calls Tryz.prog 19 #[.int .i64 a,.slice B n c] w λe w'=>e=.returned (.bool (xL a b))/\w=w':=by
 have i:=J q.len;replace q:=J q;go_enter Tryz.func19,Tryz.ntmps19;go_wp2_with fail;go_loopw [9] (λv y=>∃k:Nat,k<=n/\v=.int .i64 (k:Int)/\Hid (∀j z,j<k->b[j]?=some z->0<=z/\z<=a)/\y=w) (λv _=>n-(intOf v).toNat)
 case atStart=>exact⟨0,by omega,rfl,J λj z l=>absurd l (by omega),rfl⟩
 case round=>
  obtain⟨k,M,rfl,d,t⟩:=hrel;subst t;by_cases A:k<n
  ·have s:k<b.length:=by have:=i.o;omega
   obtain⟨N,rfl,G,C⟩:=q.o.elem A s;obtain⟨z,g⟩:=I (b[k]);have m:=J (by rw[g];exact ak s:b[k]?=some z);rw[<-g]at C;replace g:=J g;replace d:Hid _:=d;have u:(k:Int)<(n:Int):=by omega
   have H:(0:Int)<=(k:Int):=by omega
   by_cases D:z<0
   ·have p:=J (Co m.o (.inl D):xL a b=false);go_wp2_with fail;go_ret;exact⟨by rw[p.o];rfl,rfl⟩
   ·by_cases E:a<z
    ·have p:=J (Co m.o (.inr E):xL a b=false);go_wp2_with fail;go_ret;exact⟨by rw[p.o];rfl,rfl⟩
    ·have r:Hid (∀j z,j<k+1->b[j]?=some z->0<=z/\z<=a):=J λj F l f=>by
      rcases aA j k with x|x
      ·exact d.o j F x f
      ·have:j=k:=by omega
       subst this;rw[m.o]at f;injection f with f;subst f;omega
     go_wp2_with fail;go_roundw
     case rel=>exact⟨k+1,by omega,by congr 1,r,by first|rfl|trivial⟩
     case measure=>simp[intOf];omega
  ·have p:Hid (xL a b=true):=J (by unfold xL;rw[List.all_eq_true];intro z g;obtain⟨j,l⟩:=List.mem_iff_getElem?.1 g;have K:=(ay.1 l).1;have:=d.o j z (by have:=i.o;omega) l;rw[aV this.1,aV this.2];rfl)
   have u:¬(k:Int)<(n:Int):=by omega
   go_wp2_with fail;go_ret;exact⟨by rw[p.o];rfl,rfl⟩
theorem RI.lits(w:World)(a:List Int)(t:TypeId)(n:Nat)(b:a.length=n):RI (w.alloc (.cells (iv a).toArray t)) (w.alloc (.cells (iv a).toArray t)).heap.size (some ⟨w.heap.size,0,none⟩) n a:=by refine⟨by simp[iv,b],λ_=>⟨_,rfl,by simp,λj u c=>?_⟩⟩;rw[show(⟨w.heap.size,0,none⟩:Addr).add j=⟨w.heap.size,j,none⟩from by unfold Addr.add;split<;>simp_all];rw[cell_of_row (w.alloc (.cells (iv a).toArray t)) w.heap.size j (iv a).toArray t (0,0) (heap_alloc_new w _)];simpa using c
theorem RS.KP(w:World)(s:ByteArray)(t:TypeId):RS (w.alloc (.cells #[.string s] t)) (w.alloc (.cells #[.string s] t)).heap.size (some ⟨w.heap.size,0,none⟩) 1 [s]:=by
 refine⟨by simp,λ_=>⟨_,rfl,by simp,λj u a=>?_⟩⟩
 match j,a with
 |0,a=>simp at a;subst a;simp[Addr.add]
structure jE where
 name:List UInt8
 cI:Int
 gX:Int
 crc:Int
 bR:Int
 size:Int
 at_:Int
def qd(f:jE):Array Value:=#[.string (str f.name),.int .i64 f.cI,.int .i64 f.gX,.int .u32 f.crc,.int .i64 f.bR,.int .i64 f.size,.int .i64 f.at_]
def gH(f:jE):Bool:=kR (str f.name)&&(f.cI==0||f.cI==8)&&xL 4294967295 [f.gX,f.bR,f.at_]&&xL 281474976710655 [f.size]
theorem Fh(w:World)(f:jE)(D:mc w):Calls Tryz.prog 20 #[.agg #[.string (str f.name),.int .i64 f.cI,.int .i64 f.gX,.int .u32 f.crc,.int .i64 f.bR,.int .i64 f.size,.int .i64 f.at_]] w λe w'=>e=.returned (.bool (gH f))/\Below w.heap.size w w':=by
 obtain⟨o,E⟩:=I (Obj.cells (qd f) 49);have y:=(Below.refl w.heap.size w).alloc (aa _) o;have u:mc (w.alloc o):=D.below ((Below.refl w.heap.size w).alloc (aa _) o);have g:ah (w.alloc o) w.heap.size 49 (qd f):=by rw[E];exact ah.new w 49 _
 have z:=J (I9 (str f.name) (w.alloc o) u);obtain⟨M,m⟩:=I (kR (str f.name));obtain⟨N,n⟩:=I (xL 4294967295 [f.gX,f.bR,f.at_]);obtain⟨S,p⟩:=I (xL 281474976710655 [f.size]);have A:Hid (∀(d:World) (s:Int),Calls Tryz.prog 19 #[.int .i64 s,.slice (some ⟨d.heap.size,0,none⟩) 3 3] (d.alloc (.cells #[.int .i64 f.gX,.int .i64 f.bR,.int .i64 f.at_] 3)) λe w'=>e=.returned (.bool (xL s [f.gX,f.bR,f.at_]))/\d.alloc (.cells #[.int .i64 f.gX,.int .i64 f.bR,.int .i64 f.at_] 3)=w'):=J λd s=>vO _ _ 3 3 [f.gX,f.bR,f.at_] (RI.lits d [f.gX,f.bR,f.at_] 3 3 rfl) (by omega) _
 have B:Hid (∀(d:World) (C:Obj) (s:Int),Calls Tryz.prog 19 #[.int .i64 s,.slice (some ⟨d.heap.size+1,0,none⟩) 1 1] ((d.alloc C).alloc (.cells #[.int .i64 f.size] 3)) λe w'=>e=.returned (.bool (xL s [f.size]))/\(d.alloc C).alloc (.cells #[.int .i64 f.size] 3)=w'):=J λd C s=>by have T:(d.alloc C).heap.size=d.heap.size+1:=World.size_alloc _ _;rw[<-T];exact vO _ _ 1 1 [f.size] (RI.lits (d.alloc C) [f.size] 3 1 rfl) (by omega) _
 have i:=J (by unfold gH;rw[m,n,p]:gH f=(M&&(f.cI==0||f.cI==8)&&N&&S));rw[<-m]at z;refine bX ?_ m n p D u;clear m n p D u;intro m n p D u;obtain⟨O,cI,gX,H,bR,size,at_⟩:=f;simp only at *;unfold qd at E g;simp only at E g;have X:=g.cell 0;subst E;replace g:=J g;replace y:=J y;have j:Hid (∀(v:Bool) (W:World),v=gH ⟨O,cI,gX,H,bR,size,at_⟩->Below w.heap.size w W->(Ending.returned (.bool v)=.returned (.bool (gH ⟨O,cI,gX,H,bR,size,at_⟩))/\Below w.heap.size w W)):=J λv W U V=>⟨by rw[U],V⟩;obtain⟨K,q⟩:=I ((cI==0||cI==8));rw[<-q]at i;have x:Hid (K=true/\cI=0\/K=true/\cI=8\/K=false/\(cI==0)=false/\(cI==8)=false):=J (by
  by_cases F:cI=0
  ·exact .inl ⟨by rw[q,F];rfl,F⟩
  ·by_cases G:cI=8
   ·exact .inr (.inl ⟨by rw[q,G];rfl,G⟩)
   ·have P:=(aZ (a:=cI) (b:=0)).2 F;have Q:=(aZ (a:=cI) (b:=8)).2 G;exact .inr (.inr ⟨by rw[q,P,Q];rfl,P,Q⟩))
 clear q;rcases x.o with⟨rfl,rfl⟩|⟨rfl,rfl⟩|⟨rfl,F,G⟩;all_goals
  clear x;go_enter Tryz.func20,Tryz.ntmps20;go_wp2_with fail;go_at_call 52;refine z.o.mono ?_;rintro e Y ⟨rfl,r⟩;have c:=g.o.below r (ah.lt g.o);have Z:=c.cell 1;have ab:=c.cell 2;have ac:=c.cell 4;have ad:=c.cell 5;have ae:=c.cell 6;have k:=J (y.o.trans (r.mono (by simp)));have l:=c.alloc (.cells #[.int .i64 gX,.int .i64 bR,.int .i64 at_] 3);have af:=l.cell 5;have t:=J (k.o.alloc k.o.size (.cells #[.int .i64 gX,.int .i64 bR,.int .i64 at_] 3));have L:=J (t.o.alloc t.o.size (.cells #[.int .i64 size] 3));refine bf ?_ c l r;clear c l r;intro c l r;clear z;cases M with
  |false=>
   go_wp2_with fail
   go_ret
   exact j.o _ _ (by rw[i.o];simp) k.o
  |true=>
   go_wp2_with fail
   first
   |(go_ret;exact j.o _ _ (by rw[i.o];simp) k.o)
   |(go_at_call 19
     refine(A.o _ _).mono ?_
     rintro e al ⟨rfl,rfl⟩
     rw[<-n.o]
     clear A
     cases N with
     |false=>
      go_wp2_with fail
      go_ret
      exact j.o _ _ (by rw[i.o];simp) t.o
     |true=>
      go_wp2_with fail
      go_at_call 19
      refine(B.o _ _ _).mono ?_
      rintro e am ⟨rfl,rfl⟩
      rw[<-p.o]
      clear B
      go_wp2_with fail
      go_ret
      exact j.o _ _ (by rw[i.o];simp) L.o)
end Go.Proofs.YtajdeapdgbnahaaGreatDoor
