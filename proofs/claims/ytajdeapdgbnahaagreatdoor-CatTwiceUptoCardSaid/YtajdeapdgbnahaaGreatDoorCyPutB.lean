/-
  Contracts of key.GetText and key.GetNum where a text, a number stands.
-/
import Derived.Test.YtajdeapdgbnahaaGreatDoorCyGr9
import Derived.Test.YtajdeapdgbnahaaGreatDoorCyOrdB
namespace Go.Proofs.YtajdeapdgbnahaaGreatDoor
set_option linter.unusedVariables false
set_option maxRecDepth 100000
set_option maxHeartbeats 1000000
open Go.RowKit
open List Nat
theorem IY{a:Type}{l S:List a}{k:Nat}{x y:a}(h:l.drop k=x::y::S):k+1<l.length/\l[k]?=some x/\l[k+1]?=some y:=by
 have b:=congrArg List.length h;simp at b;refine⟨by omega,?_,?_⟩
 ·have:=congrArg (·[0]?) h;simpa using this
 ·have:=congrArg (·[1]?) h;simpa using this
theorem RB.two{w:World}{B n k:Nat}{A:Option Addr}{l S:List UInt8}{x y:UInt8}(h:RB w B A n l)(i:l.drop k=x::y::S):k+1<n/\∃a,A=some a/\w.cell? (a.add k)=some (.int .u8 (x.toNat:Int))/\w.cell? ⟨a.block,a.off+(k+1),none⟩=some (.int .u8 (y.toNat:Int)):=by
 obtain⟨b,c,d⟩:=IY i;have o:=h.len;refine⟨by omega,?_⟩;obtain⟨a,e,_,j⟩:=h.elem (k:=k) (by omega) (by omega);obtain⟨f,g,_,m⟩:=h.elem (k:=k+1) (by omega) b;obtain rfl:a=f:=by rw[e]at g;exact Option.some.inj g
 refine⟨a,e,?_,?_⟩
 ·rw[ak (by omega)]at c;rw[j,Option.some.inj c]
 ·rw[ak b]at d;rw[<-Option.some.inj d,<-m];simp[Addr.add]
theorem vM{a:Type}{l S T:List a}{k:Nat}(h:l.drop k=S++T):l.drop (k+S.length)=T:=by rw[<-drop_drop,h,drop_left]
def rD(l b t:List UInt8)(p k:Nat)(d a:List UInt8):Prop:=t=d++a/\k=p+(d.flatMap iG).length/\l.drop k=df a++b
theorem rD.start{l a t:List UInt8}{p:Nat}(h:l.drop p=df t++a):rD l a t p p [] t:=⟨rfl,rfl,h⟩
theorem rD.stop{l b t:List UInt8}{p k:Nat}{d:List UInt8}(h:rD l b t p k d []):l.drop k=0::1::b/\t=d/\k+2=p+(df t).length:=by obtain⟨a,c,e⟩:=h;rw[append_nil]at a;subst a;refine⟨e,rfl,?_⟩;rw[c,df,aq];rfl
theorem rD.zero{l b t:List UInt8}{p k:Nat}{d c:List UInt8}(h:rD l b t p k d (0::c)):l.drop k=0::255::(df c++b)/\rD l b t p (k+2) (d++[0]) c:=by obtain⟨e,f,a⟩:=h;rw[ib,av]at a;refine⟨a,by rw[e];simp,by rw[f,flatMap_append,aq];rfl,vM a⟩
theorem Fc(a b:List UInt8):∃y S,df a++b=y::S:=by
 cases hr:df a++b with
 |nil=>have:=congrArg List.length hr;rw[df]at this;simp at this
 |cons y S=>exact⟨y,S,rfl⟩
theorem rD.byte{l b t:List UInt8}{p k:Nat}{x:UInt8}{d c:List UInt8}(h:rD l b t p k d (x::c))(f:x≠0):(∃y S,l.drop k=x::y::S)/\rD l b t p (k+1) (d++[x]) c:=by
 obtain⟨g,i,a⟩:=h;have e:iG x=[x]:=by simp[iG,f]
 rw[ib,av,e]at a;refine⟨?_,by rw[g];simp,by rw[i,flatMap_append,aq];simp[e];omega,vM a⟩;obtain⟨y,S,j⟩:=Fc c b;rw[j]at a;exact⟨y,S,a⟩
theorem zK(A:Option Addr)(n c p:Nat)(l K t:List UInt8)(w:World)(C:RB w w.heap.size A n l)(P:n<=1000000)(Q:p<=n)(u:l.drop p=df t++K):Calls Tryz.prog 73 #[.slice A n c,.int .i64 (p:Int)] w λe w'=>e=.returned (.tuple #[.string (str t),.int .i64 ((p+(df t).length:Nat):Int),.bool true])/\Below w.heap.size w w':=by
 have L:=J C.len;have v:=J C;clear C;replace u:=J u;have M:decide ((p:Int)<0)=false:=by simp
 have N:decide (n<p)=false:=by simp;omega
 go_enter Tryz.func73,Tryz.ntmps73;have B:=J (KI.fresh w);go_wp2_with fail;go_loopw [8] (λi wr=>∃(k:Nat) (d s:List UInt8),i=.int .i64 (k:Int)/\d.length<=k/\Hid (rD l K t p k d s)/\Hid (KI w.heap.size w.heap.size d wr)/\Below w.heap.size w wr) (λi _=>n-(intOf i).toNat)
 case atStart=>exact⟨p,[],t,rfl,by simp,rD.start u.o,B,(Below.refl _ _).alloc (aa _) _⟩
 case round=>
  obtain⟨k,d,s,rfl,O,m,q,f⟩:=hrel;have r:=f.size;clear u B M N;cases s with
  |nil=>
   obtain⟨g1,g,g3⟩:=m.o.stop
   obtain⟨E,F,rfl,G,D⟩:=(v.o.below f).two g1
   subst g
   replace g3:=J g3
   clear m g1 v
   go_wp2_with fail
   refine(xH _ _ t _ q.o r).mono ?_
   rintro e H ⟨rfl,a⟩
   have j:=f.trans a
   clear q f a
   go_wp2_with fail
   go_ret3
   refine⟨?_,j⟩
   rw[<-g3.o]
   rfl
  |cons x s=>
   by_cases z:x=0
   ·subst z;obtain⟨g1,g⟩:=m.o.zero;obtain⟨E,F,rfl,G,D⟩:=(v.o.below f).two g1;replace g:=J g;clear m g1;go_wp2_with fail;refine(nT _ _ d 0 _ q.o (by omega) r).mono ?_;rintro e H ⟨rfl,b,a⟩;have j:=f.trans a;replace b:=J b;clear q f a;go_wp2_with fail;go_roundw
    case rel=>exact⟨k+2,_,s,by go_num,by simp;omega,g,b,j⟩
    case measure=>simp[intOf];omega
   ·obtain⟨⟨y,S,g1⟩,g⟩:=m.o.byte z;obtain⟨E,F,rfl,G,D⟩:=(v.o.below f).two g1;have T:((x.toNat:Int)!=0)=true:=by rw[bne_iff_ne];intro e;exact z (UInt8.toNat_inj.1 (by show _=0;omega))
    replace g:=J g;clear m g1 z D;go_wp2_with fail;refine(nT _ _ d x _ q.o (by omega) r).mono ?_;rintro e H ⟨rfl,b,a⟩;have j:=f.trans a;replace b:=J b;clear q f a;go_wp2_with fail;go_roundw
    case rel=>exact⟨k+1,_,s,by go_num,by simp;omega,g,b,j⟩
    case measure=>simp[intOf];omega
theorem Kf(x y:Nat)(d:x<1099511627776)(f:y<=255):bits .or .i64 (wrap64 ((x:Int)*256)) (y:Int)=((x*256+y:Nat):Int):=by
 have e:wrap64 ((x:Int)*256)=((x*256:Nat):Int):=by unfold wrap64;omega
 rw[e];show IntKind.i64.wrap ((BitVec.ofInt 64 ((x*256:Nat):Int) ||| BitVec.ofInt 64 (y:Int)).toNat:Int)=_;rw[BitVec.toNat_or,ofInt_u64 _ (by omega),ofInt_u64 y (by omega)];have c:x*256 ||| y=x*256+y:=by have:=shiftLeft_add_eq_or_of_lt (a:=x) (b:=y) (i:=8) (by omega);rw[shiftLeft_eq]at this;exact this.symm
 rw[c];simp[IntKind.wrap,IntKind.bits,IntKind.signed];omega
theorem Ms(a:List UInt8)(k:Nat)(d:k<6):val (a.take k)<1099511627776:=by
 have c:=xD (a.take k);have b:(a.take k).length<=5:=by simp;omega
 have:256^(a.take k).length<=256^5:=Nat.pow_le_pow_right (by omega) b;have:(256:Nat)^5=1099511627776:=rfl;omega
theorem IZ(l:List UInt8)(b:UInt8):val (l++[b])=val l*256+b.toNat:=by
 induction l with
 |nil=>simp[val]
 |cons a l ih=>
  simp only[cons_append,val,ih,aq,length_cons,length_nil,Nat.pow_succ,Nat.zero_add,Nat.add_mul]
  rw[Nat.mul_assoc];omega
theorem lX(A:Option Addr)(n c p:Nat)(l S d:List UInt8)(w:World)(C:RB w w.heap.size A n l)(H:n<=1000000)(K:n<=c)(s:c<=maxLen)(L:p+6<=n)(q:l.drop p=d++S)(M:d.length=6):Calls Tryz.prog 31 #[.slice A n c,.int .i64 (p:Int)] w λe w'=>e=.returned (.tuple #[.int .i64 (val d:Int),.int .i64 ((p+6:Nat):Int),.bool true])/\w=w':=by
 have f:=J C.len;have D:=J C;clear C;unfold maxLen at s;replace q:=J q;obtain⟨E,rfl,-,-⟩:=D.o.elem (k:=p) (by omega) (by have:=f.o;omega);have a:∀j,j<6->∃b,d[j]?=some b/\w.cell? ((E.add p).add j)=some (.int .u8 (b.toNat:Int)):=by
  intro j W;obtain⟨T,e,_,r⟩:=D.o.elem (k:=p+j) (by omega) (by have:=f.o;omega);obtain rfl:=Option.some.inj e;refine⟨d[j],ak (by omega),?_⟩;rw[jP,r];have m:l[p+j]?=some d[j]:=by rw[<-getElem?_drop,q.o,bM (by omega),ak (by omega)]
  have F:p+j<l.length:=by have:=f.o;omega
  rw[ak F]at m;rw[Option.some.inj m]
 have N:decide ((p:Int)<0)=false:=by simp
 have O:decide (n<p)=false:=by simp;omega
 have P:decide ((n:Int)-(p:Int)<6)=false:=by simp;omega
 replace a:=J a;clear q s;go_enter Tryz.func31,Tryz.ntmps31;go_wp2_with fail;rw[show p+6-p=6 from by omega];generalize E.add p=ad2 at a⊢;generalize c-p=c2;go_loopw [7,31] (λv i wr=>∃k:Nat,k<=6/\i=.int .i64 k/\v=.int .i64 (val (d.take k):Int)/\wr=w) (λ_ i _=>6-(intOf i).toNat)
 case atStart=>exact⟨0,by omega,rfl,by simp[val],rfl⟩
 case round=>
  obtain⟨k,X,rfl,rfl,rfl⟩:=hrel;by_cases m:k<6
  ·obtain⟨b,t,U⟩:=a.o k m;have G:=J (IZ (d.take k) b);have u:Hid (d.take k++[b]=d.take (k+1)):=by show _=_;rw[take_add_one,t];rfl
   rw[u.o]at G;have g:=J (λQ=>Kf (val (d.take k)) b.toNat (Ms d k m) Q);have z:=b.toNat_lt;clear u a D t;generalize val (d.take k)=x at *;generalize b.toNat=y at *;clear M H K L N O P;replace z:y<=255:=by omega
   replace g:=J (g.o z);go_wp2_with fail;go_roundw
   case rel=>exact⟨k+1,by omega,by go_num,by rw[g.o,G.o],trivial⟩
   case measure=>simp[intOf];omega
  ·have V:k=6:=by omega
   have B:Hid (d.take k=d):=by show _=_;rw[bQ (by omega)]
   rw[B.o];clear B;go_wp2_with fail
   go_ret3
   exact⟨rfl,rfl⟩
end Go.Proofs.YtajdeapdgbnahaaGreatDoor
