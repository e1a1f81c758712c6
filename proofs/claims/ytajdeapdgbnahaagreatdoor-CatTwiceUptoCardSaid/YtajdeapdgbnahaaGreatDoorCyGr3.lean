/-
  Rows of bytes that a call owns, over this seat's program: append in three shapes.
-/
import Derived.WalkSpells
import Derived.Test.YtajdeapdgbnahaaGreatDoorCyGr2
namespace Go.Proofs.YtajdeapdgbnahaaGreatDoor
set_option linter.unusedVariables false
set_option maxRecDepth 100000
set_option maxHeartbeats 400000
open List Nat
section
open Go.RowKit
theorem eB:(Tryz.prog.info? 5).map (λi=>(i.zero,i.size,i.bytes))=some (some (.int .u8 0),1,1):=by kernel_rfl
def OB(w:World)(base:Nat)(v:Value)(n:Nat)(l:List UInt8):Prop:=w.ownsRow base 5 1 v n (bv l)
section
variable {w w':World}{base n:Nat}{v:Value}{l:List UInt8}
theorem OB.nil(w:World)(base:Nat):OB w base (.slice none 0 0) 0 []:=⟨by simp[bv],.inl ⟨rfl,rfl⟩⟩
theorem OB.empty(w:World){base:Nat}(h:base<=w.heap.size):OB (w.alloc (.cells #[] 5)) base (.slice (some ⟨w.heap.size,0,none⟩) 0 0) 0 []:=⟨by simp[bv],.inr ⟨w.heap.size,0,#[],rfl,h,heap_alloc_new w _,aa _,zero_le _,rfl,rfl⟩⟩
theorem OB.len(h:OB w base v n l):l.length=n:=by have:=h.1;simpa[bv]using this
theorem OB.form(h:OB w base v n l):∃A c,v=.slice A n c/\RB w w.heap.size A n l/\(A=none->n=0)/\n<=c/\c<=maxLen:=by
 have d:=h.2;rcases d with⟨rfl,rfl⟩|⟨g,cap,j,rfl,_,_,f,i,_⟩
 ·exact⟨none,0,rfl,Reads.fP h,λ_=>rfl,aa _,zero_le _⟩
 ·exact⟨_,_,rfl,Reads.fP h,(λe=>by cases e),f,i⟩
theorem OB.below{B:Nat}(h:OB w base v n l)(j:Below B w w')(t:w.heap.size<=B):OB w' base v n l:=by
 obtain⟨p,d⟩:=h;refine⟨p,?_⟩;rcases d with d|⟨g,cap,f,q,r,e,s⟩
 ·exact Or.inl d
 ·have c:g<w.heap.size:=by
   rcases aA g w.heap.size with c|i
   ·exact c
   ·rw[Array.getElem?_eq_none i]at e;cases e
  exact Or.inr ⟨g,cap,f,q,r,by rw[j.block g (by omega)];exact e,s⟩
theorem OB.more{b':Nat}(h:OB w base v n l)(p:b'<=base):OB w b' v n l:=by
 obtain⟨e,c⟩:=h;refine⟨e,?_⟩;rcases c with c|⟨g,cap,d,f,q,i,j⟩
 ·exact Or.inl c
 ·exact Or.inr ⟨g,cap,d,f,by omega,i,j⟩
theorem OB.alloc(h:OB w base v n l)(o:Obj):OB (w.alloc o) base v n l:=World.ownsRow.alloc h o
theorem OB.drew(h:OB w base v n l):OB w.drew base v n l:=h
theorem OB.iR(h:OB w base v n l)(k:Nat)(c:v.ownBlock=some k):base<=k:=by
 rcases h.2 with⟨rfl,rfl⟩|⟨g,cap,d,rfl,e,_⟩
 ·simp[Value.ownBlock]at c
 ·simp[Value.ownBlock]at c;omega
theorem OB.cut{g cap k:Nat}(h:OB w base (.slice (some ⟨g,0,none⟩) n cap) n l)(y:k<=n):OB w base (.slice (some ⟨g,0,none⟩) k cap) k (l.take k):=by
 obtain⟨j,p⟩:=h;rcases p with⟨q,_⟩|⟨z,r,d,s,t,u,C,e,f,c⟩
 ·cases q
 ·cases s;refine⟨?_,.inr ⟨g,cap,d,rfl,t,u,by omega,e,f,?_⟩⟩
  ·rw[dn]at j⊢;rw[aH];omega
  ·have i:(d.toList.take (n*1)).take (k*1)=(bv l).take (k*1):=by rw[c]
   rw[take_take,Nat.min_eq_left (by omega)]at i;rw[i,bv,bv,map_take,Nat.mul_one]
theorem OB.cell{g cap k:Nat}(h:OB w base (.slice (some ⟨g,0,none⟩) n cap) n l)(d:k<n)(c:k<l.length):w.cell? ⟨g,k,none⟩=some (.int .u8 ((l[k]).toNat:Int)):=by rw[World.ownsRow.cellAt h k (by omega),vP c]
theorem OB.MQ{g cap k:Nat}(h:OB w base (.slice (some ⟨g,0,none⟩) n cap) n l):w.frozen? ⟨g,k,none⟩=false:=World.ownsRow.frozenAt h k
theorem OB.stored{g cap:Nat}(h:OB w base (.slice (some ⟨g,0,none⟩) n cap) n l)(j:Nat)(b:UInt8):OB (w.setCell ⟨g,j,none⟩ (.int .u8 (b.toNat:Int))) base (.slice (some ⟨g,0,none⟩) n cap) n (l.set j b):=by have:=(World.ownsRow.stored h j (.int .u8 (b.toNat:Int))).1;unfold OB;rw[show bv (l.set j b)=(bv l).set j (.int .u8 (b.toNat:Int))from by simp[bv,map_set]];exact this
theorem OB.wU{g cap:Nat}(h:OB w base (.slice (some ⟨g,0,none⟩) n cap) n l):base<=g:=h.iR g rfl
theorem OB.parts(h:OB w base v n l):(v=.slice none 0 0/\n=0/\l=[])\/∃g cap,v=.slice (some ⟨g,0,none⟩) n cap/\n<=cap/\cap<=maxLen:=by
 rcases h.2 with⟨rfl,rfl⟩|⟨g,cap,e,rfl,_,_,c,d,_⟩
 ·exact .inl ⟨rfl,rfl,bT h.len⟩
 ·exact .inr ⟨g,cap,rfl,c,d⟩
end
theorem RB.rM(w:World)(b:UInt8)(t:TypeId):RB (w.alloc (.cells #[.int .u8 (b.toNat:Int)] t)) (w.heap.size+1) (some ⟨w.heap.size,0,none⟩) 1 [b]:=by
 refine⟨by simp[bv],λ_=>⟨_,rfl,by simp,λj u c=>?_⟩⟩
 match j,c with
 |0,c=>simp[bv]at c;subst c;simp[Addr.add]
def dH(W:World)(l:List UInt8)(e:Ending)(w':World):Prop:=∃v,e=.returned v/\OB w' W.heap.size v l.length l/\Below W.heap.size W w'
theorem dH.mk{W w':World}{l:List UInt8}{v:Value}{n:Nat}(h:OB w' W.heap.size v n l)(c:Below W.heap.size W w'):dH W l (.returned v) w':=⟨v,rfl,by rw[h.len];exact h,c⟩
theorem dH.M6{W w':World}{l c:List UInt8}{v:Value}{n:Nat}(h:OB w' W.heap.size v n c)(e:l=c)(d:Below W.heap.size W w'):dH W l (.returned v) w':=by subst e;exact dH.mk h d
section
variable {ops:Array Oper}{rest:List Oper}{o:Oper}{a:Act}{Q:Exit->Act->World->Prop}
theorem eF{w:World}(i:o.guard=none)(s x:Operand)(y:o.op=.call { callee:=.builtin .append,args:=#[s,x],argTypes:=#[23,23] })
 (base:Nat) (v:Value) (n:Nat) (l:List UInt8) (g:OB w base v n l) (z:a.eval s=v)
 (B:Nat) (A:Option Addr) (m c:Nat) (d:List UInt8) (C:a.eval x=.slice A m c) (D:RB w B A m d)
 (E:n+m<=140737488351232) (e:base<=w.heap.size)
 (h:∀f w',OB w' base f (n+m) (l++d)->Below base w w'->w.grownBy w' v.ownBlock->(f.ownBlock=v.ownBlock\/f.ownBlock=some w.heap.size)->wpList Tryz.prog ops Q rest (a.put o.dst f) w'):
 wpList Tryz.prog ops Q (o::rest) a w:=by
 obtain⟨i0,j,p,q,r⟩:=info_parts eB;refine iI w i s x _ y base 5 i0 _ 1 1 Tryz.underlying23 j p q r rfl (by omega) v n (bv l) z g B A m c (bv d) C D (kU _)
  (by simp only[maxLen];omega) (by omega) e λf w' t u H=>?_
 rw[<-fM]at t;exact h f w' t ((Below.refl _ _).grown u e λk K=>g.iR k K) u H
theorem lI{w:World}{j:Int}{t:TypeId}(b:UInt8)(p:j=(b.toNat:Int))(q:o.guard=none)(s x:Operand)(u:o.op=.call { callee:=.builtin .append,args:=#[s,x],argTypes:=#[23,23] })
 (base:Nat) (v:Value) (n:Nat) (l:List UInt8) (g:OB w base v n l) (y:a.eval s=v) (c:Nat)
 (z:a.eval x=.slice (some ⟨w.heap.size,0,none⟩) 1 c)
 (i:n+1<=140737488351232) (e:base<=w.heap.size)
 (h:∀f w',OB w' base f (n+1) (l++[b])->Below base w w'->w.grownBy w' v.ownBlock->wpList Tryz.prog ops Q rest (a.put o.dst f) w'):
 wpList Tryz.prog ops Q (o::rest) a (w.alloc (.cells #[.int .u8 j] t)):=by
 subst p;refine eF q s x u base v n l (g.alloc _) y _ _ 1 c [b] z (RB.rM w b t) i (by simp;omega) λf w' C D d H=>?_;refine h f w' C ?_ ⟨d.os,d.tape,d.output,?_,λk E r=>?_⟩
 ·exact((Below.refl _ _).alloc e _).trans D
 ·have:=d.size;simp at this;omega
 ·rw[d.block k (by simp;omega) r];exact Below.heap_alloc _ _ _ E
end
theorem og(A:Option Addr)(n c:Nat)(xs:List UInt8)(w:World)(d:RB w w.heap.size A n xs)(y:n<=140737488351232):Calls Tryz.prog 63 #[.slice A n c] w (dH w xs):=by
 have p:=λq=>Lib.run_eql_slice_nil (P:=Tryz.prog) q 23 5 A n c 0 0 Tryz.underlying23;rcases A with _|g
 ·have i:n=0:=by
   rcases eq_zero_or_pos n with f|f
   ·exact f
   ·obtain⟨g,h,_⟩:=d.2 f;cases h
  subst i;have r:xs=[]:=bT d.len;subst r;clear d;go_enter Tryz.func63,Tryz.ntmps63;go_wp2;go_ret;exact dH.mk (OB.nil _ _) (Below.refl _ _)
 ·have s:=J d;clear d;go_enter Tryz.func63,Tryz.ntmps63;go_wp2_with(at_builtin;refine eF rfl (.tmp 5) (.tmp 6) rfl w.heap.size _ 0 [] (OB.empty w (aa _)) rfl w.heap.size (some g) n c xs rfl (s.o.alloc (aa _) _) (by omega) (by simp) ?_;intro v1 z e j u t);go_ret;exact dH.mk e (((Below.refl _ _).alloc (aa _) _).trans j)
def mI(z:Int)(k:Nat):UInt8:=UInt8.ofNat (z.toNat/256^k)
def jw(z:Int):List UInt8:=[mI z 5,mI z 4,mI z 3,mI z 2,mI z 1,mI z 0]
def aP(l:List Int):List UInt8:=l.flatMap λz=>jw (dm z)
theorem GM(z:Int)(i:Nat)(c:0<=z)(hi:i<6):z/2^(8*(5-i))%256=((mI z (5-i)).toNat:Int):=by obtain⟨n,rfl⟩:=Int.eq_ofNat_of_zero_le c;unfold mI;rw[UInt8.toNat_ofNat',Int.toNat_natCast,show(256:Nat)=2^8 from rfl,<-Nat.pow_mul,Int.natCast_emod,Int.natCast_ediv,Int.natCast_pow];rfl
theorem Eb(z:Int)(i:Nat)(hi:i<6):(jw z).take (i+1)=(jw z).take i++[mI z (5-i)]:=by
 match i,hi with
 |0,_=>rfl
 |1,_=>rfl
 |2,_=>rfl
 |3,_=>rfl
 |4,_=>rfl
 |5,_=>rfl
theorem Bj(c:List Int)(k:Nat)(h:k<c.length):aP (c.take (k+1))=aP (c.take k)++jw (dm c[k]):=by unfold aP;rw[take_succ_eq_append_getElem h,flatMap_append];simp
theorem rE(A B:Option Addr)(n m c d:Nat)(xs:List UInt8)(f:List Int)(w:World)(K:RB w w.heap.size A n xs)(M:RI w w.heap.size B m f)(a2:n<=100000) (a3:m<=100000):Calls Tryz.prog 25 #[.slice A n c,.slice B m d] w (dH w (xs++aP f)):=by
 have Y:=J K.len;have y:=J M.len;have af:=J K;have al:=J M;clear K M;go_enter Tryz.func25,Tryz.ntmps25;go_wp2_with fail;refine(og _ _ _ _ _ af.o (by omega)).mono ?_;rintro e a4 ⟨v1,rfl,p,Z⟩;rw[Y.o]at p;replace p:=J p;go_wp2_with fail;go_loopw [5,13] (λv i wr=>∃k:Nat,k<=m/\i=.int .i64 k/\Hid (OB wr w.heap.size v (n+6*k) (xs++aP (f.take k)))/\Below w.heap.size w wr) (λ_ i _=>m-(intOf i).toNat)
 case atStart=>exact⟨0,by omega,rfl,by simpa[aP]using p,Z⟩
 case round=>
  obtain⟨k,a5,rfl,s,g⟩:=hrel;by_cases am:k<m
  ·have C:k<f.length:=by have:=y.o;omega
   obtain⟨a6,rfl,a0,an⟩:=(al.o.below g).elem am C;go_upto_region 5 with(fail)
   go_cut [7] (λv ao=>v=.int .i64 (dm f[k])/\ao=wr)
   case first=>
    by_cases S:f[k]<0
    ·have q:dm f[k]=0:=by simp[dm,S]
     have q:=J q;go_wp2
     go_meet
     exact⟨by rw[q.o],rfl⟩
    ·by_cases ab:281474976710655<f[k]
     ·have q:dm f[k]=281474976710655:=by simp[dm,S,ab]
      have q:=J q;go_wp2
      go_meet
      exact⟨by rw[q.o],rfl⟩
     ·have q:dm f[k]=f[k]:=by simp[dm,S,ab]
      have q:=J q;go_wp2
      go_meet
      exact⟨by rw[q.o],rfl⟩
   case rest=>
    obtain⟨rfl,rfl⟩:=hcut;have ap:=wj f[k];have a7:=wk f[k];have ac:Hid (aP (f.take (k+1))=aP (f.take k)++jw (dm f[k])):=by exact Bj f k C
    generalize dm f[k]=z at *;go_wp2_with fail;go_loopw [5,8] (λv j wr=>∃i:Nat,i<=6/\j=.int .i64 (5-(i:Int))/\Hid (OB wr w.heap.size v (n+6*k+i) (xs++aP (f.take k)++(jw z).take i))/\Below w.heap.size w wr) (λ_ j _=>(intOf j+1).toNat)
    case atStart=>exact⟨0,by omega,by go_num,by simpa using s,g⟩
    case round=>
     clear g s an;obtain⟨i,hi,rfl,s,g⟩:=hrel;have ad:=g.size;by_cases D:i<6
     ·have u:=J (GM z i ap D);go_wp2_with(at_builtin;refine lI (mI z (5-i)) u.o rfl (.tmp 24) (.tmp 30) rfl w.heap.size _ _ _ s.o rfl _ rfl (by omega) ad ?_;intro a8 a9 r E ae);replace r:=J r;have V:=g.trans E;clear g E ae;go_wp2;go_roundw
      case rel=>exact⟨i+1,by omega,by go_num,by have:=r.o;rw[av,<-Eb z i D]at this;exact this,V⟩
      case measure=>simp[intOf];omega
     ·have W:i=6:=by omega
      subst W;have t:Hid (OB wr w.heap.size u5 (n+6*(k+1)) (xs++aP (f.take (k+1)))):=by show OB _ _ _ _ _;rw[ac.o,<-av,show n+6*(k+1)=n+6*k+6 from by omega];exact s.o
      clear s ac;go_wp2;go_roundw
      case rel=>exact⟨k+1,by omega,by go_num,t,g⟩
      case measure=>simp[intOf];omega
  ·have H:k=m:=by omega
   have t:Hid (OB wr w.heap.size u5 (n+6*m) (xs++aP f)):=by subst H;have:=s.o;rw[bQ (by have:=y.o;omega)]at this;exact this
   clear s;have a1:m<=k:=by omega
   clear H;go_wp2;go_ret;exact dH.mk t.o g
end
def leB:Nat->Nat->List UInt8
 |0,_=>[]
 |k+1,n=>UInt8.ofNat (n%256)::leB k (n/256)
def fH:List UInt8->Nat
 |[]=>0
 |b::c=>b.toNat+256*fH c
theorem bq:∀k n,(leB k n).length=k
 |0,_=>rfl
 |k+1,n=>by rw[leB,length_cons,bq]
theorem Cp(n:Nat):(UInt8.ofNat (n%256)).toNat=n%256:=by rw[UInt8.toNat_ofNat'];omega
theorem fV:∀k n,fH (leB k n)=n%256^k
 |0,n=>by rw[leB,fH,Nat.pow_zero,mod_one]
 |k+1,n=>by rw[leB,fH,fV k,Cp,Nat.pow_succ,Nat.mul_comm (256^k) 256,mod_mul]
theorem xP:∀k n,leB (k+1) n=leB k n++[UInt8.ofNat (n/256^k%256)]
 |0,n=>by rw[leB,leB,leB,Nat.pow_zero,Nat.div_one];rfl
 |k+1,n=>by rw[leB,xP k (n/256),leB,cons_append,Nat.div_div_eq_div_mul,Nat.pow_succ,Nat.mul_comm (256^k) 256]
theorem Cq:∀l,fH l<256^l.length
 |[]=>by simp[fH]
 |b::c=>by
  have h:=Cq c
  have d:=b.toNat_lt
  rw[fH,length_cons,Nat.pow_succ]
  omega
theorem Dm(l:List UInt8)(k:Nat)(c:k<l.length):fH (l.drop k)=l[k].toNat+256*fH (l.drop (k+1)):=by rw[drop_eq_getElem_cons c,fH]
def bP(k:Nat)(c:List Nat):List UInt8:=c.flatMap (leB k)
theorem Dl(k:Nat)(c:List Nat)(i:Nat)(hi:i<c.length):bP k (c.take (i+1))=bP k (c.take i)++leB k (c.getD i 0):=by rw[take_succ_eq_append_getElem hi,bP,bP,flatMap_append,getD_eq_getElem?_getD,ak hi];simp
theorem cU(k:Nat):∀c,(bP k c).length=k*c.length
 |[]=>by simp[bP]
 |n::d=>by
  have:=cU k d
  unfold bP at *
  rw[flatMap_cons,aq,bq,this,length_cons,mul_succ];omega
section
open Go.RowKit
def bF(F:Nat->Prop)(w:World)(k:Nat):Prop:=k<w.heap.size/\¬F k
structure Ev (F:Nat->Prop) (w:World) (F':Nat->Prop) (w':World):Prop where
 only:R F w w'
 grow:∀k,F' k->F k\/w.heap.size<=k
def plus(F:Nat->Prop)(g:Nat):Nat->Prop:=λk=>F k\/k=g
section
variable {F F' My X:Nat->Prop}{w w' w'':World}{k:Nat}
theorem Ev.size(h:Ev F w F' w'):w.heap.size<=w'.heap.size:=h.only.size
theorem Ev.refl(F:Nat->Prop)(w:World):Ev F w F w:=⟨R.refl F w,λ_ h=>.inl h⟩
theorem Ev.trans(h:Ev F w F' w')(d:Ev F' w' My w''):Ev F w My w'':=
 ⟨h.only.trans d.only λi hi hF=>(h.grow i hF).elim id λe=>absurd e (by omega),
  λk f=>(d.grow k f).elim (λc=>h.grow k c) λc=>.inr (aO h.size c)⟩
theorem Ev.mono(h:Ev F w F' w')(c:∀k,My k->F' k):Ev F w My w':=⟨h.only,λk d=>h.grow k (c k d)⟩
theorem Ev.add(h:Ev F w F' w')(X:Nat->Prop):Ev (λk=>F k\/X k) w (λk=>F' k\/X k) w':=⟨h.only.mono λ_ _ h=>.inl h,λk d=>d.elim (λc=>(h.grow k c).imp .inl id) λc=>.inl (.inr c)⟩
theorem Ev.ag(h:Below w.heap.size w w'):Ev F w F w':=⟨(R.ag h),λ_ h=>.inl h⟩
theorem Ev.drew(h:Ev F w F' w'):Ev F w F' w'.drew:=⟨h.only.drew,h.grow⟩
theorem Ev.drewN(h:Ev F w F' w')(n:Nat):Ev F w F' (w'.drewN n):=⟨h.only.drewN n,h.grow⟩
theorem Ev.alloc(h:Ev F w F' w')(o:Obj):Ev F w (Go.Proofs.YtajdeapdgbnahaaGreatDoor.plus F' w'.heap.size) (w'.alloc o):=⟨h.only.alloc o,λk c=>c.elim (h.grow k) λe=>.inr (by rw[e];exact h.size)⟩
theorem Ev.az(h:Ev F w F' w')(o:Obj):Ev F w F' (w'.alloc o):=⟨h.only.alloc o,h.grow⟩
theorem Ev.aK(h:Ev F w F' w'){p:Addr}(c:F' p.block)(u:Value):Ev F w F' (w'.setCell p u):=h.trans ⟨(R.refl F' w').setCell (λ_=>c) u,λ_ h=>.inl h⟩
theorem Ev.below(h:Ev F w F' w')(c:Below w'.heap.size w' w''):Ev F w F' w'':=h.trans (Ev.ag c)
theorem Ev.grown(h:Ev F w F' w'){row:Option Nat}(c:w'.grownBy w'' row)(d:∀k,row=some k->F' k):Ev F w F' w'':=h.trans ⟨(R.refl F' w').grown c λk e _=>d k e,λ_ h=>.inl h⟩
theorem Ev.block(h:Ev F w F' w')(c:bF F w k):w'.heap[k]?=w.heap[k]?:=h.only.block k c.1 c.2
theorem Ev.mine(h:Ev F w F' w')(c:bF F w k):bF F' w' k:=⟨aN c.1 h.size,λhF=>(h.grow k hF).elim c.2 λd=>absurd d (by have:=c.1;omega)⟩
theorem Ev.blk(h:Ev F w F' w'){t:TypeId}{cs:Array Value}(c:ah w k t cs)(d:¬F k):ah w' k t cs:=h.only.blk c d
theorem Ev.cell(h:Ev F w F' w'){p:Addr}(c:bF F w p.block):w'.cell? p=w.cell? p:=World.cell?_of_block (h.block c)
theorem Ev.new(h:Ev F w F' w')(c:¬F k)(d:k<w.heap.size):¬F' k:=(h.mine ⟨d,c⟩).2
end
def Rd(G:Nat->Prop)(w:World)(size:Nat)(A:Option Addr)(n:Nat)(xs:List Value):Prop:=xs.length=n*size/\(0<n->∃c,A=some c/\G c.block/\∀j u,xs[j]?=some u->w.cell? (c.add j)=some u)
section
variable {G G' F F':Nat->Prop}{w w':World}{size n:Nat}{A:Option Addr}{xs:List Value}
theorem Rd.none_:Rd G w size A 0 []:=⟨by simp,λh=>absurd h (by omega)⟩
theorem Rd.keep(h:Rd G w size A n xs)(c:∀k,G k->G' k/\w'.heap[k]?=w.heap[k]?):Rd G' w' size A n xs:=⟨h.1,λf=>by obtain⟨g,e,d,i⟩:=h.2 f;exact⟨g,e,(c _ d).1,λj u p=>(World.cell?_of_block (by rw[cF];exact(c _ d).2)).trans (i j u p)⟩⟩
theorem Rd.ev(h:Rd (bF F w) w size A n xs)(c:Ev F w F' w'):Rd (bF F' w') w' size A n xs:=h.keep λk d=>⟨c.mine d,c.block d⟩
theorem Rd.reads(h:Rd G w size A n xs){B:Nat}(c:∀k,G k->k<B):Reads w B size A n xs:=⟨h.1,λd=>by obtain⟨f,e,g,i⟩:=h.2 d;exact⟨f,e,c _ g,i⟩⟩
theorem Rd.qh(h:Rd (bF F w) w size A n xs):Reads w w.heap.size size A n xs:=h.reads λ_ c=>c.1
theorem Rd.fP{base:Nat}{e:TypeId}{c:Nat}(h:w.ownsRow base e size (.slice A n c) n xs)(f:∀k,base<=k->k<w.heap.size->G k):Rd G w size A n xs:=by
 refine⟨h.1,λi=>?_⟩;obtain⟨g,cap,j,p,d⟩:=h.form i;have q:A=some ⟨g,0,none⟩:=by injection j
 subst q;exact⟨_,rfl,f g p d,h.cells (g:=g) rfl⟩
theorem Rd.cut(h:Rd G w size A n xs){k cap:Nat}(g:k<=n)(i:n<=cap):Rd G w size (if cap=k then A else A.map (·.add (k*size))) (n-k) (xs.drop (k*size)):=by refine⟨by rw[aQ,h.1,Nat.sub_mul],λp=>?_⟩;obtain⟨d,rfl,e,c⟩:=h.2 (by omega);rw[if_neg (by omega)];refine⟨d.add (k*size),rfl,by rw[cF];exact e,λj u f=>?_⟩;rw[jP];exact c _ u (by rw[<-f,getElem?_drop])
theorem Rd.take(h:Rd G w size A n xs){k:Nat}(d:k<=n):Rd G w size A k (xs.take (k*size)):=by refine⟨by rw[aH,h.1];exact Nat.min_eq_left (mul_le_mul_right _ d),λq=>?_⟩;obtain⟨f,e,g,i⟩:=h.2 (by omega);refine⟨f,e,g,λj u c=>i j u ?_⟩;have p:=(ay.1 c).1;rw[aH]at p;rw[<-c,bw,if_pos (by omega)]
end
def MB(F:Nat->Prop)(w:World)(A:Option Addr)(n:Nat)(l:List UInt8):Prop:=Rd (bF F w) w 1 A n (bv l)
section
variable {F F':Nat->Prop}{w w':World}{n:Nat}{A:Option Addr}{l:List UInt8}
theorem MB.nil(A:Option Addr):MB F w A 0 []:=⟨by simp[bv],λh=>absurd h (by omega)⟩
theorem MB.len(h:MB F w A n l):l.length=n:=by have:=h.1;simpa[bv]using this
theorem MB.ev(h:MB F w A n l)(c:Ev F w F' w'):MB F' w' A n l:=Rd.ev h c
theorem MB.rb(h:MB F w A n l):RB w w.heap.size A n l:=Rd.qh h
theorem MB.sub(h:MB F w A n l)(d:∀k,F' k->F k):MB F' w A n l:=h.keep λk c=>⟨⟨c.1,λhF=>c.2 (d k hF)⟩,rfl⟩
theorem MB.fP{base c:Nat}(h:OB w base (.slice A n c) n l)(d:∀k,base<=k->¬F k):MB F w A n l:=Rd.fP h λk e f=>⟨f,d k e⟩
theorem MB.made{base c:Nat}(h:OB w' base (.slice A n c) n l)(hF:∀k,F k->k<base):MB F w' A n l:=MB.fP h λk e d=>by have:=hF k d;omega
theorem MB.take(h:MB F w A n l){k:Nat}(c:k<=n):MB F w A k (l.take k):=by have:=Rd.take h c;rw[Nat.mul_one]at this;unfold MB bv at *;rw[map_take];exact this
theorem MB.cut(h:MB F w A n l){k cap:Nat}(c:k<=n)(d:n<=cap):MB F w (if cap=k then A else A.map (·.add k)) (n-k) (l.drop k):=by have:=Rd.cut h c d;rw[Nat.mul_one]at this;unfold MB bv at *;rw[map_drop];exact this
end
end
section
open Go.RowKit Go.Maps
def pz(v:Value):Option (DataW Value×List MemPlace):=some (.held v,[])
def GN:Value:=.slice none 0 0
def mq(m:Nat->Option Value)(k:Nat)(v:Option Value):Nat->Option Value:=λj=>if j=k then v else m j
structure Keys (D:DataW Value) (N:Nat) (m:Nat->Option Value):Prop where
 tidy:Tidy D
 only:∀kl,Maps.has D kl=true->∃k:Nat,k<N/\kl=.int .i64 (k:Int)
 some_:∀k v,k<N->m k=some v->Maps.has D (.int .i64 (k:Int))=true/\∀z,D.atKey (.int .i64 (k:Int)) z=.held v
 none_:∀k,k<N->m k=none->Maps.has D (.int .i64 (k:Int))=false
def dW(w:World)(b N:Nat)(m:Nat->Option Value):Prop:=∃c D,w.ownsMap Tryz.prog 3 pz b c D/\Keys D N m
theorem qQ:∀(N:Nat) (l:List Nat),l.Nodup->(∀x∈l,x<N)->l.length<=N
 |0,[],_,_=>aa _
 |0,a::f,_,h=>absurd (h a (.head _)) (by omega)
 |N+1,l,g,h=>by
  have j:=qQ N (l.filter (λx=>x !=N)) (g.filter _) (λx d=>by
   have i:=mem_filter.1 d;have p:=h x i.1;have q:x≠N:=by simpa using i.2
   omega)
  have r:l.length<=(l.filter (λx=>x !=N)).length+1:=by
   clear j h;induction l with
   |nil=>simp
   |cons a f ih=>
    have c:=nodup_cons.1 g
    by_cases e:a=N
    ·subst e;have:f.filter (λx=>x !=a)=f:=filter_eq_self.2 λx d=>by simp only[bne_iff_ne,ne_eq];rintro rfl;exact c.1 d
     rw[filter_cons_of_neg (by simp),this,length_cons];omega
    ·rw[filter_cons_of_pos (by simpa using e),length_cons,length_cons];have:=ih c.2;omega
  omega
def JF(p:Lit×DataW Value):Nat:=match p.1 with|.int _ a=>a.toNat|_=>0
theorem uI{D:DataW Value}{N:Nat}{m:Nat->Option Value}(h:Keys D N m)(y:∃c,D=.map c/\c.Pairwise (λp q=>p.1≠q.1)/\∀p∈c,WideAt.IsKeyLit p.1):Maps.size D<=N:=by
 obtain⟨c,rfl,d,g⟩:=y;rw[Maps.size_eq];have r:∀p∈c,∃k:Nat,k<N/\p.1=.int .i64 (k:Int):=λp d=>h.only p.1 (by
  rw[Maps.has_eq];refine any_eq_true.2 ⟨p,d,?_⟩;cases hs:p.1.sameKey p.1 with
  |true=>rfl
  |false=>exfalso;have s:=g p d;cases e:p.1<;>rw[e]at hs s<;>simp[Lit.sameKey,WideAt.IsKeyLit]at hs s)
 have z:(c.map JF).Nodup:=by rw[Nodup,pairwise_map];refine Pairwise.imp_of_mem (λ{a b} C E t=>?_) d;obtain⟨i,_,f⟩:=r a C;obtain⟨j,_,u⟩:=r b E;intro e;apply t;unfold JF at e;rw[f,u]at e;simp at e;rw[f,u,e]
 have h:=qQ N (c.map JF) z (λx H=>by obtain⟨p,d,rfl⟩:=aM.1 H;obtain⟨i,hi,f⟩:=r p d;unfold JF;rw[f];simpa using hi)
 rw[length_map]at h;exact h
theorem Ec{w:World}{b c:Nat}{D:DataW Value}(h:w.ownsMap Tryz.prog 3 pz b c D):w.ownsMap Tryz.prog 3 pz b (Maps.size D) D:=by obtain⟨d,clock,e,F,f,rfl⟩:=h;refine⟨d,clock,e,F,?_,rfl⟩;simp[Maps.size,length_sorted]
section
variable {w w':World}{b N:Nat}{m:Nat->Option Value}
theorem JG(k:Nat)(c:k<9000000000000000000):keyOf Tryz.prog 3 (.int .i64 (k:Int))=some (.int .i64 (k:Int)):=keyOf_int_mk Tryz.underlying3 (WalkArith.wf_i64 (by omega))
theorem CJ(w:World):(zeroValue 23).run Tryz.prog w=.ok GN w:=by kernel_rfl
theorem dW.new(w:World)(N:Nat):dW (w.alloc (.map #[] 0)) w.heap.size N (λ_=>none):=⟨0,_,World.ownsMap_made w Tryz.prog 3 pz,tidy_empty,λc h=>(by cases h),λk v _ h=>(by cases h),λ_ _ _=>rfl⟩
theorem dW.keep(h:dW w b N m)(c:w'.heap[b]?=w.heap[b]?):dW w' b N m:=by obtain⟨d,D,⟨e,clock,f,i⟩,g⟩:=h;exact⟨d,D,⟨e,clock,c.trans f,i⟩,g⟩
theorem dW.lt(h:dW w b N m):b<w.heap.size:=by obtain⟨d,D,c,_⟩:=h;exact c.lt
theorem dW.ne(h:dW w b N m){g:Nat}{t:TypeId}{cs:Array Value}(c:ah w g t cs):b≠g:=by obtain⟨e,D,⟨f,clock,d,j⟩,i⟩:=h;rintro rfl;unfold ah at c;rw[d]at c;cases c
theorem dW.look(h:dW w b N m)(k:Nat)(e:k<N)(p:N<=9000000000000000000):(Instr.lookup 109 (.map (some b)) (.int .i64 (k:Int)) true).run Tryz.prog w=.ok (.tuple #[(m k).getD GN,.bool (m k).isSome]) w:=by
 obtain⟨q,D,g,f⟩:=h;obtain⟨v,ps,i,c⟩:=g.look_ok (int_keyed Tryz.underlying3) Tryz.underlying109 (CJ w) (zd:=.held GN) (zp:=[]) rfl (JG k (by omega));rw[i];cases hm:m k with
 |none=>
  have d:=f.none_ k e hm
  rw[atKey_of_not_has d]at c
  simp only[pz,Option.some.injEq,Prod.mk.injEq,DataW.held.injEq]at c
  rw[d,c.1];rfl
 |some x=>
  obtain⟨d,j⟩:=f.some_ k x e hm
  rw[j]at c
  simp only[pz,Option.some.injEq,Prod.mk.injEq,DataW.held.injEq]at c
  rw[d,c.1];rfl
theorem wV(k:Nat):WideAt.IsKeyLit (.int .i64 (k:Int)):=trivial
theorem qx{j k:Nat}(h:j≠k):(Lit.int .i64 (j:Int))≠.int .i64 (k:Int):=λe=>by injection e with _ e;omega
theorem Keys.put{D:DataW Value}(h:Keys D N m)(k:Nat)(i:k<N)(v:Value):Keys (D.put (.int .i64 (k:Int)) (.held v)) N (mq m k (some v)):=by
 refine⟨h.tidy.put (wV k) _,λg d=>?_,λj u f c=>?_,λj f c=>?_⟩
 ·by_cases e:g=.int .i64 (k:Int)
  ·exact⟨k,i,e⟩
  ·rw[has_put_other e]at d;exact h.only g d
 ·unfold mq at c;by_cases e:j=k
  ·subst e;rw[if_pos rfl]at c;injection c with c;subst c;exact⟨has_put_same h.tidy.isMap (wV j) _,λz=>atKey_put_same h.tidy.isMap (wV j) _ z⟩
  ·rw[if_neg e]at c;obtain⟨p,q⟩:=h.some_ j u f c;exact⟨by rw[has_put_other (qx e)];exact p,λz=>by rw[atKey_put_other (qx e)];exact q z⟩
 ·unfold mq at c;by_cases e:j=k
  ·rw[if_pos e]at c;cases c
  ·rw[if_neg e]at c;rw[has_put_other (qx e)];exact h.none_ j f c
theorem Keys.del{D:DataW Value}(h:Keys D N m)(k:Nat):Keys (D.del (.int .i64 (k:Int))) N (mq m k none):=by
 refine⟨h.tidy.del _,λg d=>?_,λj u f c=>?_,λj f c=>?_⟩
 ·by_cases e:g=.int .i64 (k:Int)
  ·rw[e,has_del_same]at d;cases d
  ·rw[has_del_other e]at d;exact h.only g d
 ·unfold mq at c;by_cases e:j=k
  ·rw[if_pos e]at c;cases c
  ·rw[if_neg e]at c;obtain⟨i,p⟩:=h.some_ j u f c;exact⟨by rw[has_del_other (qx e)];exact i,λz=>by rw[atKey_del_other (qx e)];exact p z⟩
 ·unfold mq at c;by_cases e:j=k
  ·subst e;exact has_del_same
  ·rw[if_neg e]at c;rw[has_del_other (qx e)];exact h.none_ j f c
theorem dW.update(h:dW w b N m)(k:Nat)(g:k<N)(p:N<=1000000000)(v:Value):∃w',(Instr.mapUpdate 109 (.map (some b)) (.int .i64 (k:Int)) v).run Tryz.prog w=.ok () w'/\dW w' b N (mq m k (some v))/\w.grownBy w' (some b):=by obtain⟨q,D,c,e⟩:=h;have r:=uI e (c.entries (int_keyed Tryz.underlying3));obtain⟨w',i,f,j⟩:=(Ec c).update (int_keyed Tryz.underlying3) Tryz.underlying109 (by unfold maxLen;omega) (JG k (by omega)) (val:=v) (d:=.held v) (ps:=[]) rfl;exact⟨w',i,⟨_,_,f,e.put k g v⟩,j⟩
theorem dW.drop(h:dW w b N m)(k:Nat)(d:k<9000000000000000000)(ty:TypeId):∃w',(Builtin.delete_ #[109,3] ty #[.map (some b),.int .i64 (k:Int)]).run Tryz.prog w=.ok (.tuple #[]) w'/\dW w' b N (mq m k none)/\w.grownBy w' (some b):=by obtain⟨j,D,e,f⟩:=h;obtain⟨w',g,c,i⟩:=e.drop (int_keyed Tryz.underlying3) Tryz.underlying109 (JG k d) ty;exact⟨w',g,⟨_,_,c,f.del k⟩,i.grown⟩
end
end
def bY:List UInt8->List UInt8->Bool
 |_,[]=>false
 |[],_::_=>true
 |a::c,b::s=>if a.toNat<b.toNat then true else if b.toNat<a.toNat then false else bY c s
theorem nj(a:List UInt8):bY a []=false:=by cases a<;>rfl
theorem bU:∀a,bY a a=false
 |[]=>rfl
 |a::c=>by rw[bY,if_neg (by omega),if_neg (by omega),bU c]
theorem dq:∀a b c,bY a b=true->bY b c=true->bY a c=true
 |_,_,[],_,h=>by rw[nj]at h;cases h
 |_,[],_::_,h,_=>by rw[nj]at h;cases h
 |[],_::_,_::_,_,_=>rfl
 |a::i,b::s,c::t,h,k=>by
  rw[bY]at h k⊢
  by_cases g:a.toNat<b.toNat
  ·by_cases d:b.toNat<c.toNat
   ·rw[if_pos (by omega)]
   ·rw[if_neg d]at k;by_cases e:c.toNat<b.toNat
    ·rw[if_pos e]at k;cases k
    ·rw[if_pos (by omega)]
  ·rw[if_neg g]at h;by_cases d:b.toNat<a.toNat
   ·rw[if_pos d]at h;cases h
   ·rw[if_neg d]at h;by_cases e:b.toNat<c.toNat
    ·rw[if_pos (by omega)]
    ·rw[if_neg e]at k;by_cases f:c.toNat<b.toNat
     ·rw[if_pos f]at k;cases k
     ·rw[if_neg f]at k;rw[if_neg (by omega),if_neg (by omega)];exact dq i s t h k
theorem cq(a b:List UInt8)(h:bY a b=true):bY b a=false:=by
 cases hb:bY b a with
 |false=>rfl
 |true=>have:=dq a b a h hb;rw[bU]at this;cases this
theorem iA:∀a b,bY a b=false->bY b a=false->a=b
 |[],[],_,_=>rfl
 |[],_::_,h,_=>by cases h
 |_::_,[],_,h=>by cases h
 |a::f,b::s,h,k=>by
  rw[bY]at h k
  by_cases c:a.toNat<b.toNat
  ·rw[if_pos c]at h;cases h
  ·rw[if_neg c]at h;by_cases d:b.toNat<a.toNat
   ·rw[if_pos d]at k;cases k
   ·rw[if_neg d]at h k;rw[if_neg c]at k;have e:a=b:=UInt8.toNat_inj.1 (by omega);rw[e,iA f s h k]
theorem fF(a b c:List UInt8)(h:bY a b=true)(k:bY c b=false):bY a c=true:=by
 cases hac:bY a c with
 |true=>rfl
 |false=>
  cases hca:bY c a with
  |true=>have:=dq c a b hca h;rw[this]at k;cases k
  |false=>have:=iA a c hac hca;subst this;rw[h]at k;cases k
theorem pq(a b c:List UInt8)(h:bY b a=false)(k:bY b c=true):bY a c=true:=by
 cases hac:bY a c with
 |true=>rfl
 |false=>
  cases hab:bY a b with
  |true=>have:=dq a b c hab k;rw[this]at hac;cases hac
  |false=>have:=iA a b hab h;subst this;rw[k]at hac;cases hac
structure ai where
 key:List UInt8
 val:List UInt8
 over:Nat
 long:Nat
structure aj where
 leaf:Bool
 cells:List ai
 kids:List Nat
def jS(n:Nat):Prop:=1<=n/\n<16777216
def gJ(c:ai):Prop:=(c.over=0/\c.long=0/\c.val.length<=64)\/(jS c.over/\64<c.long/\c.long<=20000/\c.val=[])
def iK(c:ai):Prop:=c.over=0/\c.long=0/\c.val=[]
def cW:List ai->Prop
 |[]=>True
 |c::e=>(∀d∈e,bY c.key d.key=true)/\cW e
structure bJ (n:aj):Prop where
 fT:n.leaf=true->n.kids=[]
 eY:n.leaf=false->n.kids.length=n.cells.length+1
 many:n.cells.length<65536
 keys:∀c∈n.cells,1<=c.key.length/\c.key.length<=120
 rise:cW n.cells
 vals:∀c∈n.cells,if n.leaf=true then gJ c else iK c
 jT:∀k∈n.kids,jS k
def jr(leaf:Bool)(c:ai)(dM:Nat):List UInt8:=UInt8.ofNat c.key.length::(c.key++(if leaf=true then(if c.over=0 then leB 2 c.val.length++c.val else leB 2 c.long++leB 3 c.over)else leB 3 dM))
def gL(leaf:Bool):List ai->List Nat->List UInt8
 |[],_=>[]
 |c::d,ks=>jr leaf c (ks.headD 0)++gL leaf d ks.tail
def jU(n:aj):List UInt8:=(if n.leaf=true then 1 else 2)::(leB 2 n.cells.length++(if n.leaf=true then[]else leB 3 (n.kids.headD 0)))
def dJ(n:aj):List UInt8:=jU n++gL n.leaf n.cells n.kids.tail
def fu(leaf:Bool)(c:ai):Nat:=1+c.key.length+(if leaf=true then(if c.over=0 then 2+c.val.length else 5)else 3)
def aT(leaf:Bool):List ai->Nat
 |[]=>0
 |c::d=>fu leaf c+aT leaf d
def aC(n:aj):Nat:=(if n.leaf=true then 3 else 6)+aT n.leaf n.cells
theorem Ed(leaf:Bool)(c:ai)(dM:Nat):(jr leaf c dM).length=fu leaf c:=by
 unfold jr fu;cases leaf with
 |false=>simp[bq];omega
 |true=>
  by_cases h:c.over=0
  ·simp[bq,h];omega
  ·simp[bq,h];omega
theorem sK(leaf:Bool):∀cs ks,(gL leaf cs ks).length=aT leaf cs
 |[],_=>rfl
 |c::d,ks=>by rw[gL,aT,aq,Ed,sK leaf d]
theorem fN(n:aj):(dJ n).length=aC n:=by unfold dJ aC jU;rw[aq,sK];cases n.leaf<;>simp[bq]<;>omega
theorem jl(leaf:Bool):∀a b ks,gL leaf (a++b) ks=gL leaf a ks++gL leaf b (ks.drop a.length)
 |[],b,ks=>by simp[gL]
 |c::d,b,ks=>by
  rw[cons_append,gL,gL,jl leaf d b,av,length_cons]
  congr 2
  cases ks<;>simp
theorem cu(leaf:Bool):∀a b,aT leaf (a++b)=aT leaf a+aT leaf b
 |[],b=>by simp[aT]
 |c::d,b=>by rw[cons_append,aT,aT,cu leaf d b,Nat.add_assoc]
def preB(n:aj)(i:Nat):List UInt8:=jU n++gL n.leaf (n.cells.take i) n.kids.tail
theorem jK(n:aj):preB n 0=jU n:=by unfold preB;rw[take_zero,gL,append_nil]
theorem mZ(n:aj)(i:Nat)(hi:i<n.cells.length):preB n (i+1)=preB n i++jr n.leaf n.cells[i] (n.kids.getD (i+1) 0):=by
 unfold preB;rw[take_succ_eq_append_getElem hi,jl,av,gL,gL,append_nil,aH,Nat.min_eq_left (Nat.le_of_lt hi)];congr 3;cases h:n.kids with
 |nil=>simp
 |cons k c=>simp[headD_eq_head?_getD,head?_drop]
theorem xX(n:aj):preB n n.cells.length=dJ n:=by unfold preB dJ;rw[take_length]
theorem FB(n:aj)(i:Nat)(hi:i<n.cells.length):∃rest,dJ n=preB n i++(jr n.leaf n.cells[i] (n.kids.getD (i+1) 0)++rest):=by
 refine⟨gL n.leaf (n.cells.drop (i+1)) (n.kids.tail.drop (i+1)),?_⟩;have h:=mZ n i hi;have e:dJ n=preB n (i+1)++gL n.leaf (n.cells.drop (i+1)) (n.kids.tail.drop (i+1)):=by unfold dJ preB;rw[av];congr 1;have:=jl n.leaf (n.cells.take (i+1)) (n.cells.drop (i+1)) n.kids.tail;rw[bE,aH,Nat.min_eq_left (by omega)]at this;exact this
 rw[e,h,av]
def zB(n:Nat):List UInt8:=replicate n 0
theorem wW(n:Nat):(zB n).length=n:=by simp[zB]
structure aB where
 many:Nat
 free:Nat
 roots:Nat->Nat
 page:Nat->List UInt8
def aB.rN(st:aB)(no:Nat)(b:List UInt8):aB:={ st with page:=λk=>if k=no then b else st.page k }
def aB.has(st:aB)(no:Nat):Prop:=1<=no/\no<st.many
structure aB.ok (st:aB):Prop where
 one:1<=st.many
 most:st.many<=65536
 free:st.free<st.many
 roots:∀k,st.roots k<st.many
 len:∀no,st.has no->(st.page no).length=508
def dU(st:aB):Prop:=(st.free=0/\st.many<65536)\/(st.free≠0/\fH ((st.page st.free).take 4)<st.many)
def aG(st:aB):Nat:=if st.free=0 then st.many else st.free
def aW(st:aB):aB:=if st.free=0 then{ st.rN st.many (zB 508)with many:=st.many+1 }else{ st.rN st.free (zB 508)with free:=fH ((st.page st.free).take 4) }
def eO(st:aB)(no:Nat):aB:={ st.rN no (leB 4 st.free++zB 504)with free:=no }
def fQ(st:aB)(no:Nat)(b:List UInt8):aB:=st.rN no (b++zB (508-b.length))
def bo(st:aB)(k no:Nat):aB:={ st with roots:=λj=>if j=k then no else st.roots j }
theorem aB.ok.rN{st:aB}(h:st.ok)(no:Nat)(b:List UInt8)(c:b.length=508):(st.rN no b).ok:=by
 refine⟨h.one,h.most,h.free,h.roots,λk d=>?_⟩;show(if k=no then b else st.page k).length=508;split
 ·exact c
 ·exact h.len k d
theorem aB.ok.write{st:aB}(h:st.ok)(no:Nat)(b:List UInt8)(c:b.length<=508):(fQ st no b).ok:=h.rN no _ (by rw[aq,wW];omega)
theorem aB.ok.freed{st:aB}(h:st.ok)(no:Nat)(d:st.has no):(eO st no).ok:=by have c:=h.rN no (leB 4 st.free++zB 504) (by rw[aq,wW,bq]);exact⟨c.one,c.most,d.2,c.roots,c.len⟩
theorem aB.ok.set{st:aB}(h:st.ok)(k no:Nat)(c:no<st.many):(bo st k no).ok:=by
 refine⟨h.one,h.most,h.free,λj=>?_,h.len⟩;show(if j=k then no else st.roots j)<st.many;split
 ·exact c
 ·exact h.roots j
theorem aB.ok.alloc{st:aB}(h:st.ok)(c:dU st):(aW st).ok/\(aW st).has (aG st):=by
 unfold aW aG;by_cases d:st.free=0
 ·rw[if_pos d,if_pos d];rcases c with c|c
  ·refine⟨⟨by show 1<=st.many+1;omega,by show st.many+1<=65536;omega,by show st.free<st.many+1;have:=h.free;omega,λk=>by show st.roots k<st.many+1;have:=h.roots k;omega,λk g=>?_⟩,by have:=h.one;exact this,lt_succ_self _⟩;show(if k=st.many then zB 508 else st.page k).length=508;by_cases e:k=st.many
   ·rw[if_pos e,wW]
   ·rw[if_neg e];exact h.len k ⟨g.1,by have i:k<st.many+1:=g.2;omega⟩
  ·exact absurd d c.1
 ·rw[if_neg d,if_neg d];rcases c with c|c
  ·exact absurd c.1 d
  ·have f:=h.rN st.free (zB 508) (wW _);exact⟨⟨f.one,f.most,c.2,f.roots,f.len⟩,by have:=h.free;exact⟨by omega,this⟩⟩
def IsNode(b:List UInt8)(n:aj):Prop:=bJ n/\∃z,b=dJ n++zB z
def bS(st:aB)(no:Nat)(n:aj):Prop:=st.has no/\IsNode (st.page no) n
def dh(st:aB)(no:Nat)(n:aj):Prop:=st.has no/\bJ n/\aC n<=508
def aY(st:aB)(no:Nat)(n:aj):aB:=fQ st no (dJ n)
theorem aB.ok.save{st:aB}{no:Nat}{n:aj}(h:st.ok)(c:dh st no n):(aY st no n).ok:=h.write no _ (by rw[fN];exact c.2.2)
theorem sM{st:aB}{no:Nat}{n:aj}(c:dh st no n):bS (aY st no n) no n:=by refine⟨c.1,c.2.1,508-(dJ n).length,?_⟩;show(if no=no then _ else _)=_;rw[if_pos rfl]
def bL(cs:List ai)(key:List UInt8):Nat:=(cs.takeWhile λc=>bY c.key key).length
def il(cs:List ai)(i:Nat)(key:List UInt8):Bool:=match cs[i]? with|some c=>c.key==key|none=>false
def bk(n:aj)(key:List UInt8):Nat×Bool:=if il n.cells (bL n.cells key) key=true then(if n.leaf=true then bL n.cells key else bL n.cells key+1,true)else(bL n.cells key,false)
inductive gK (st:aB):Nat->Nat->List (Nat×List UInt8)->Prop
 |nil (no:Nat):gK st no 0 []
 |cons (no long:Nat) (l:List (Nat×List UInt8)) (h0:0<long) (hn:st.has no) (hr:gK st (fH ((st.page no).take 3)) (long-505) l):
  gK st no long ((no,((st.page no).drop 3).take (min long 505))::l)
def gU(b:List UInt8)(k:Nat):List (List UInt8):=(List.range k).map λi=>(b.drop (505*i)).take 505
inductive nO:aB->List (List UInt8)->Nat->aB->Nat->Prop
 |nil (st:aB) (o:Nat):nO st [] o st o
 |cons (st st':aB) (b:List UInt8) (r:List (List UInt8)) (o o':Nat) (ha:dU st) (hr:nO (fQ (aW st) (aG st) (leB 3 o++b)) r (aG st) st' o'):nO st (b::r) o st' o'
def qM(st:aB)(key b:List UInt8)(st':aB)(c:ai):Prop:=(b.length<=64/\st'=st/\c=⟨key,b,0,0⟩)\/(64<b.length/\∃o,nO st (gU b ((b.length+504)/505)).reverse 0 st' o/\c=⟨key,[],o,b.length⟩)
inductive lP:aB->Nat->Nat->aB->Prop
 |nil (st:aB) (no:Nat):lP st no 0 st
 |cons (st st':aB) (no long:Nat) (h0:0<long) (hn:st.has no) (hr:lP (eO st no) (fH ((st.page no).take 3)) (long-505) st'):lP st no long st'
def qP(st:aB)(c:ai)(st':aB):Prop:=(c.over=0/\st'=st)\/(c.over≠0/\lP st c.over c.long st')
def bD(n:aj)(a b:Nat):aj:=⟨n.leaf,(n.cells.drop a).take (b-a),if n.leaf=true then[]else(n.kids.drop a).take (b+1-a)⟩
def fo(n:aj):Nat:=if n.leaf=true then 0 else 1
def iy(n:aj)(m:Nat):Nat:=max (aC (bD n 0 m)) (aC (bD n (m+fo n) n.cells.length))
def bO(n:aj):Nat->Nat×Nat
 |0=>(0,0)
 |j+1=>if(1<=j/\j+fo n<n.cells.length)/\((bO n j).1=0\/iy n j<(bO n j).1)then(iy n j,j)else bO n j
def cutAt(n:aj):Nat:=(bO n n.cells.length).2
def aS(cs:List ai)(i:Nat):List UInt8:=match cs[i]? with|some c=>c.key|none=>[]
def cd(n:aj):aj:=bD n 0 (cutAt n)
def dG(n:aj):aj:=bD n (cutAt n+fo n) n.cells.length
def dF(n:aj):List UInt8:=aS n.cells (cutAt n)
def oZ(n:aj):Prop:=1+fo n<n.cells.length/\∀m,1<=m->m+fo n<n.cells.length->bJ (bD n 0 m)/\bJ (bD n (m+fo n) n.cells.length)
inductive rp:aB->Nat->aj->aB->Option (List UInt8×Nat)->Prop
 |fits (st:aB) (no:Nat) (n:aj) (hc:dh st no n):rp st no n (aY st no n) none
 |split (st:aB) (no:Nat) (n:aj) (hr:bJ n) (hz:508<aC n) (hm:aC n<=760) (hp:oZ n) (ha:dh st no (cd n)) (hal:dU (aY st no (cd n)))
  (hb:dh (aW (aY st no (cd n))) (aG (aY st no (cd n))) (dG n)):
  rp st no n (aY (aW (aY st no (cd n))) (aG (aY st no (cd n))) (dG n)) (some (dF n,aG (aY st no (cd n))))
def aU(a:aj)(key:List UInt8)(b:aj):aj:=⟨a.leaf,a.cells++(if a.leaf=true then[]else[⟨key,[],0,0⟩])++b.cells,if a.leaf=true then[]else a.kids++b.kids⟩
def aJ(n:aj)(i:Nat):Nat:=n.kids.getD i 0
def fq(cs:List ai)(i:Nat)(key:List UInt8):List ai:=cs.modify i λc=>{ c with key:=key }
inductive nQ:aB->aj->Nat->aB->aj->Prop
 |stays (st:aB) (n c:aj) (i:Nat) (hi:i<n.kids.length) (hl:bS st (aJ n i) c) (h:127<=aC c\/n.kids.length=1):nQ st n i st n
 |joins (st:aB) (n c a b:aj) (i k:Nat) (hi:i<n.kids.length) (hl:bS st (aJ n i) c) (h:aC c<127) (h1:n.kids.length≠1) (hk:k=min i (n.kids.length-2))
  (ha:bS st (aJ n k) a) (hb:bS st (aJ n (k+1)) b) (hkc:k<n.cells.length) (hs:dh st (aJ n k) (aU a (aS n.cells k) b)) (hg:st.has (aJ n (k+1))):
  nQ st n i (eO (aY st (aJ n k) (aU a (aS n.cells k) b)) (aJ n (k+1))) ⟨n.leaf,n.cells.eraseIdx k,n.kids.eraseIdx (k+1)⟩
 |parts (st:aB) (n c a b x:aj) (i k:Nat) (hi:i<n.kids.length) (hl:bS st (aJ n i) c) (h:aC c<127) (h1:n.kids.length≠1) (hk:k=min i (n.kids.length-2))
  (ha:bS st (aJ n k) a) (hb:bS st (aJ n (k+1)) b) (hkc:k<n.cells.length) (hx:x=aU a (aS n.cells k) b) (hxr:bJ x) (hz:508<aC x) (hm:aC x<=760) (hp:oZ x)
  (hs1:dh st (aJ n k) (cd x)) (hs2:dh (aY st (aJ n k) (cd x)) (aJ n (k+1)) (dG x)):
  nQ st n i (aY (aY st (aJ n k) (cd x)) (aJ n (k+1)) (dG x)) ⟨n.leaf,fq n.cells k (dF x),n.kids⟩
def Ge:=aB->aj->Nat->Bool->aB->aj->Prop
def bZ{c:Type}(l:List c)(i:Nat)(x:c):List c:=l.take i++x::l.drop i
inductive gZ (op:Ge) (key:List UInt8):aB->Nat->aB->Option (List UInt8×Nat)->Prop
 |leaf (st bg dC:aB) (no:Nat) (n n1:aj) (l:Option (List UInt8×Nat)) (hl:bS st no n) (hf:n.leaf=true) (ho:op st n (bk n key).1 (bk n key).2 bg n1) (hy:rp bg no n1 dC l):gZ op key st no dC l
 |split (st bg dC:aB) (no kno:Nat) (n:aj) (kk:List UInt8) (l:Option (List UInt8×Nat)) (hl:bS st no n) (hf:n.leaf=false) (hi:(bk n key).1<n.kids.length)
  (hc:gZ op key st (aJ n (bk n key).1) bg (some (kk,kno)))
  (hy:rp bg no ⟨false,bZ n.cells (bk n key).1 ⟨kk,[],0,0⟩,bZ n.kids ((bk n key).1+1) kno⟩ dC l):gZ op key st no dC l
 |one (st bg dC ja:aB) (no:Nat) (n n2:aj) (l:Option (List UInt8×Nat)) (hl:bS st no n) (hf:n.leaf=false) (hi:(bk n key).1<n.kids.length)
  (hc:gZ op key st (aJ n (bk n key).1) bg none) (hm:nQ bg n (bk n key).1 dC n2) (hy:rp dC no n2 ja l):gZ op key st no ja l
inductive ue (k:Nat):aB->Nat->Option (List UInt8×Nat)->aB->Prop
 |two (st:aB) (no kno:Nat) (kk:List UInt8) (ha:dU st) (hs:dh (aW st) (aG st) ⟨false,[⟨kk,[],0,0⟩],[no,kno]⟩):
  ue k st no (some (kk,kno)) (bo (aY (aW st) (aG st) ⟨false,[⟨kk,[],0,0⟩],[no,kno]⟩) k (aG st))
 |stays (st:aB) (no:Nat) (n:aj) (hl:bS st no n) (h:n.cells≠[]):ue k st no none st
 |less (st:aB) (no:Nat) (n:aj) (hl:bS st no n) (h:n.cells=[]) (hn:(if n.leaf=true then 0 else aJ n 0)<st.many) (hh:st.has no):
  ue k st no none (eO (bo st k (if n.leaf=true then 0 else aJ n 0)) no)
def px(c:ai):Ge:=λst n i d st' e=>(d=false/\st'=st/\e=⟨n.leaf,bZ n.cells i c,n.kids⟩)\/(d=true/\∃old,n.cells[i]?=some old/\qP st old st'/\e=⟨n.leaf,n.cells.set i c,n.kids⟩)
def yQ:Ge:=λst n i d st' c=>∃old,n.cells[i]?=some old/\qP st old st'/\c=⟨n.leaf,n.cells.eraseIdx i,n.kids⟩
inductive JA (k:Nat) (st:aB) (key b:List UInt8) (st':aB):Prop
 |first(bg:aB) (c:ai) (hc:qM st key b bg c) (h0:bg.roots k=0) (ha:dU bg) (hs:dh (aW bg) (aG bg) ⟨true,[c],[]⟩)
  (he:st'=bo (aY (aW bg) (aG bg) ⟨true,[c],[]⟩) k (aG bg))
 |more (bg dC:aB) (c:ai) (l:Option (List UInt8×Nat)) (hc:qM st key b bg c) (h0:bg.roots k≠0) (hh:gZ (px c) key bg (bg.roots k) dC l) (ht:ue k dC (bg.roots k) l st')
section
open Go.RowKit Go.Maps
def Lb(c:Nat)(st:aB)(U:Nat->Value):Array Value:=
 #[U 0,U 1,.int .i64 (st.many : Int),.int .i64 (st.free : Int),.int .i64 (st.roots 0 : Int),.int .i64 (st.roots 1 : Int),.int .i64 (st.roots 2 : Int),.int .i64 (st.roots 3 : Int),.int .i64 (st.roots 4 : Int),.int .i64 (st.roots 5 : Int),.int .i64 (st.roots 6 : Int),.int .i64 (st.roots 7 : Int),
  U 12,U 13,U 14,U 15,U 16,U 17,U 18,U 19,U 20,U 21,.map (some c),U 23,U 24,U 25,.bool false]
theorem OB.same{w w':World}{base n g c:Nat}{l:List UInt8}(h:OB w base (.slice (some ⟨g,0,none⟩) n c) n l)(e:w'.heap[g]?=w.heap[g]?):OB w' base (.slice (some ⟨g,0,none⟩) n c) n l:=by
 obtain⟨f,i⟩:=h;refine⟨f,?_⟩;rcases i with⟨j,_⟩|⟨t,cap,d,p,q,r,s⟩
 ·cases j
 ·cases p;exact Or.inr ⟨g,_,d,rfl,q,e.trans r,s⟩
structure yT (x:Nat) (w:World) (F:Nat->Prop) (gp:Nat) (st:aB):Prop where
 one:1<=st.many
 most:st.many<=65536
 lt:∀k,F k->k<w.heap.size
 own:F gp
 mem:∃gm U m,ah w gp 115 (Lb gm st U)/\F gm/\dW w gm 65536 m/\∀no,st.has no->no≠x->∃g c,m no=some (.slice (some ⟨g,0,none⟩) 508 c)/\F g/\OB w 0 (.slice (some ⟨g,0,none⟩) 508 c) 508 (st.page no)
def ar(w:World)(F:Nat->Prop)(gp:Nat)(st:aB):Prop:=yT 0 w F gp st
section
variable {w w':World}{F:Nat->Prop}{gp x:Nat}{st:aB}
theorem yT.keep(h:yT x w F gp st)(d:∀k,F k->w'.heap[k]?=w.heap[k]?)(p:w.heap.size<=w'.heap.size):yT x w' F gp st:=by obtain⟨e,U,m,q,f,r,s⟩:=h.mem;refine⟨h.one,h.most,λk i=>aN (h.lt k i) p,h.own,e,U,m,(d gp h.own).trans q,f,r.keep (d e f),λno t u=>?_⟩;obtain⟨g,c,y,j,z⟩:=s no t u;exact⟨g,c,y,j,z.same (d g j)⟩
theorem ar.keep(h:ar w F gp st)(c:∀k,F k->w'.heap[k]?=w.heap[k]?)(d:w.heap.size<=w'.heap.size):ar w' F gp st:=yT.keep h c d
theorem ar.below(h:ar w F gp st)(c:Below w.heap.size w w'):ar w' F gp st:=h.keep (λk d=>c.block k (h.lt k d)) c.size
theorem ar.drewN(h:ar w F gp st)(n:Nat):ar (w.drewN n) F gp st:=h.keep (λ_ _=>rfl) (aa _)
theorem ar.drew(h:ar w F gp st):ar w.drew F gp st:=h.keep (λ_ _=>rfl) (aa _)
theorem ar.alloc(h:ar w F gp st)(o:Obj):ar (w.alloc o) F gp st:=h.keep (λk c=>Below.heap_alloc w o k (h.lt k c)) (by simp)
theorem ar.aK(h:ar w F gp st){p:Addr}(c:¬F p.block)(u:Value):ar (w.setCell p u) F gp st:=h.keep (λk d=>Below.heap_setCell w p u k (λe=>c (by rw[<-e];exact d))) (by simp[World.setCell])
theorem ar.grown(h:ar w F gp st){row:Option Nat}(c:w.grownBy w' row)(f:∀k,row=some k->¬F k):ar w' F gp st:=h.keep (λk d=>c.block k (h.lt k d) (λe=>f k e.symm d)) c.size
theorem ar.len(h:ar w F gp st){no:Nat}(d:st.has no):(st.page no).length=508:=by obtain⟨j,U,m,p,q,r,f⟩:=h.mem;obtain⟨g,c,s,t,i⟩:=f no d (λe=>by have:=d.1;omega);exact i.len
end
theorem wX(x:Nat)(w:World)(F:Nat->Prop)(gp:Nat)(st:aB)(h:yT x w F gp st):Calls Tryz.prog 102 #[.pointer (some ⟨gp,0,none⟩)] w λe w'=>e=.returned (.int .i64 0)/\w=w':=by obtain⟨f,U,m,c,_⟩:=h.mem;have d:w.cell? ⟨gp,26,none⟩=some (.bool false):=c.cell 26;clear c;replace h:=J h;go_enter Tryz.func102,Tryz.ntmps102;go_wp2_with fail;go_ret;exact⟨rfl,rfl⟩
theorem rO(x:Nat)(w:World)(F:Nat->Prop)(gp:Nat)(st:aB)(h:yT x w F gp st)(no c:Int)(g:c<=no)(i:no<(st.many:Int)):Calls Tryz.prog 104 #[.pointer (some ⟨gp,0,none⟩),.int .i64 no,.int .i64 c] w λe w'=>e=.returned (.int .i64 0)/\w=w':=by obtain⟨j,U,m,d,_⟩:=h.mem;have p:w.cell? ⟨gp,2,none⟩=some (.int .i64 (st.many:Int)):=d.cell 2;have f:=J (wX x w F gp st h);clear d;replace h:=J h;go_enter Tryz.func104,Tryz.ntmps104;go_wp2_with fail;refine f.o.mono ?_;rintro e q ⟨rfl,rfl⟩;go_wp2_with fail;go_ret;exact⟨rfl,rfl⟩
theorem yU(c:Nat)(st:aB)(U:Nat->Value)(k:Nat)(d:k<8):(Lb c st U)[4+k]?=some (.int .i64 (st.roots k:Int)):=by
 match k,d with
 |0,_|1,_|2,_|3,_|4,_|5,_|6,_|7,_=>rfl
theorem iP(w:World)(F:Nat->Prop)(gp:Nat)(st:aB)(h:ar w F gp st)(k:Nat)(d:k<8):Calls Tryz.prog 55 #[.pointer (some ⟨gp,0,none⟩),.int .i64 (k:Int)] w λe w'=>e=.returned (.int .i64 (st.roots k:Int))/\w=w':=by
 obtain⟨f,U,m,c,_⟩:=h.mem;have j:w.cell? ⟨gp,4+k,none⟩=some (.int .i64 (st.roots k:Int)):=(c.cell (4+k)).trans (yU f st U k d);have g:=J (wX 0 w F gp st h);have i:(k:Int)<8:=by omega
 clear c;replace h:=J h;go_enter Tryz.func55,Tryz.ntmps55;go_wp2_with fail;refine g.o.mono ?_;rintro e p ⟨rfl,rfl⟩;go_wp2_with fail;go_ret;exact⟨rfl,rfl⟩
theorem JH(c:Nat)(st:aB)(U:Nat->Value)(k no:Nat)(d:k<8):(Lb c st U).setIfInBounds (4+k) (.int .i64 (no:Int))=Lb c (bo st k no) U:=by
 match k,d with
 |0,_|1,_|2,_|3,_|4,_|5,_|6,_|7,_=>rfl
def cG(F:Nat->Prop)(w:World)(gp:Nat)(st':aB)(c:Value)(e:Ending)(w':World):Prop:=e=.returned c/\∃F',ar w' F' gp st'/\Ev F w F' w'
theorem ar.JI{w:World}{F:Nat->Prop}{gp:Nat}{st:aB}(h:ar w F gp st)(k no:Nat)(s:k<8):ar (w.setCell ⟨gp,4+k,none⟩ (.int .i64 (no:Int))) F gp (bo st k no):=by
 obtain⟨i,U,m,d,t,p,u⟩:=h.mem;have q:=p.ne d;refine⟨h.one,h.most,λj f=>by have:=h.lt j f;simpa[World.setCell]using this,h.own,i,U,m,?_,t,p.keep (Below.heap_setCell w _ _ _ q),λj f y=>?_⟩
 ·have:=d.aK (4+k) (.int .i64 (no:Int));rw[JH i st U k no s]at this;exact this
 ·obtain⟨g,c,z,C,r⟩:=u j f y;exact⟨g,c,z,C,r.same (Below.heap_setCell w _ _ _ (λe=>au r d (by decide) (by rw[e];rfl)))⟩
theorem jv(w:World)(F:Nat->Prop)(gp:Nat)(st:aB)(h:ar w F gp st)(k no:Nat)(f:k<8)(q:no<st.many):Calls Tryz.prog 57 #[.pointer (some ⟨gp,0,none⟩),.int .i64 (k:Int),.int .i64 (no:Int)] w (cG F w gp (bo st k no) (.int .i64 0)):=by
 have g:=J (rO 0 w F gp st h no 0 (by omega) (by omega));have c:Hid (ar (w.setCell ⟨gp,4+k,none⟩ (.int .i64 (no:Int))) F gp (bo st k no)/\Ev F w F (w.setCell ⟨gp,4+k,none⟩ (.int .i64 (no:Int)))):=⟨h.JI k no f,(Ev.refl F w).aK (p:=⟨gp,4+k,none⟩) h.own _⟩
 obtain⟨i,U,m,d,_⟩:=h.mem;have r:w.cell? ⟨gp,4+k,none⟩=some (.int .i64 (st.roots k:Int)):=(d.cell (4+k)).trans (yU i st U k f);have s:=d.frozen (4+k);have j:(k:Int)<8:=by omega
 clear d;replace h:=J h;go_enter Tryz.func57,Tryz.ntmps57;go_wp2_with fail;refine g.o.mono ?_;rintro e t ⟨rfl,rfl⟩;go_wp2_with fail;go_ret;exact⟨rfl,F,c.o⟩
end
section
open Go.RowKit
def lS:List UInt8->List UInt8
 |[]=>[]
 |b::c=>if b=255 then lS c else(b+1)::c
def di(l:List UInt8):List UInt8:=(lS l.reverse).reverse
theorem yV(l:List UInt8)(b:UInt8):di (l++[b])=if b=255 then di l else l++[b+1]:=by unfold di;rw[reverse_append];simp only[reverse_cons,reverse_nil,nil_append,cons_append,lS];split<;>simp
theorem yX(l:List UInt8)(k:Nat)(h:k<l.length):di (l.take (k+1))=if l[k]=255 then di (l.take k)else l.take k++[l[k]+1]:=by rw[take_succ_eq_append_getElem h,yV]
theorem Bk(l:List UInt8)(k:Nat)(h:k<l.length):(l.take (k+1)).set k (l[k]+1)=l.take k++[l[k]+1]:=by rw[take_succ_eq_append_getElem h,set_append_right _ _ (by simp;omega)];simp[Nat.min_eq_left (Nat.le_of_lt h)]
theorem wY(b:UInt8)(h:b≠255):((b+1).toNat:Int)=(b.toNat:Int)+1:=by have:b.toNat≠255:=λe=>h (by apply UInt8.toNat_inj.1;simpa using e);have:=b.toNat_lt;rw[UInt8.toNat_add];simp;omega
theorem Ee(A:Option Addr)(n c:Nat)(xs:List UInt8)(w:World)(u:RB w w.heap.size A n xs)(ad:n<=100000):Calls Tryz.prog 39 #[.slice A n c] w (dH w (di xs)):=by
 have s:=J u.len;have M:=J u;clear u;go_enter Tryz.func39,Tryz.ntmps39;go_wp2_with fail;refine(og _ _ _ _ _ M.o (by omega)).mono ?_;rintro e ae ⟨v1,rfl,d,i⟩;rw[s.o]at d;have t:=s;rcases d.parts with⟨rfl,rfl,rfl⟩|⟨g,cap,rfl,S,K⟩
 ·clear d;go_wp2_with fail;refine wp_loop_rounds 1 ?_;rw[rounds_succ];go_wp2;go_ret;exact dH.mk (OB.nil _ _) i
 ·replace d:=J d;go_wp2_with fail
  go_loop [3] (λv=>∃k:Nat,k<=n/\v=.slice (some ⟨g,0,none⟩) k cap/\Hid (di xs=di (xs.take k))) (λv=>match v with|.slice _ k _=>k|_=>0)
  case atStart=>exact⟨n,aa _,rfl,by have:=t.o;rw[Hid,bQ (by omega)]⟩
  case round=>
   obtain⟨k,V,rfl,p⟩:=hrel;by_cases W:k=0
   ·subst W;have y:Hid (di xs=[]):=by rw[Hid,p.o];rfl
    go_wp2;go_ret;exact dH.M6 (OB.nil _ _) y.o i
   ·obtain⟨j,rfl⟩:∃j,k=j+1:=⟨k-1,by omega⟩;have z:j<xs.length:=by have:=t.o;omega
    have Y:=d.o.cell (k:=j) (by omega) z;have af:=d.o.MQ (k:=j);have r:=J (yX xs j z);by_cases f:xs[j]=255
    ·have q:Hid (di xs=di (xs.take j)):=by rw[Hid,p.o,r.o,if_pos f]
     rw[f,show(((255:UInt8).toNat:Int))=255 from rfl]at Y;clear r p f;go_wp2;go_round
     case rel=>exact⟨j,by omega,by go_num,q⟩
     case measure=>simp
    ·have C:((xs[j].toNat:Int)==255)=false:=by rw[aZ];intro e;apply f;apply UInt8.toNat_inj.1;have:(255:UInt8).toNat=255:=rfl;omega
     have q:Hid (di xs=(xs.take (j+1)).set j (xs[j]+1)):=by rw[Hid,p.o,r.o,if_neg f,Bk]
     have D:=J (wY xs[j] f);have E:=J ((d.o.cut V).stored j (xs[j]+1));have H:=d.o.wU;rw[D.o]at E;have ab:=xs[j].toNat_lt;have Z:(xs[j].toNat:Int)<=254:=by
      have:(xs[j].toNat:Int)≠255:=by simpa using C
      omega
     have ac:0<=(xs[j].toNat:Int):=by omega
     clear r p f D;generalize (xs[j].toNat:Int)=x at *;go_wp2;go_ret;exact dH.M6 E.o q.o (i.setCell H _)
end
def gq(l:List UInt8):Bool:=l.all (·==255)
theorem yY(c:List UInt8)(a:UInt8):lS (c++[a])=if gq c then lS [a]else lS c++[a]:=by
 induction c with
 |nil=>rfl
 |cons b c ih=>
  simp only[cons_append,lS,ih,gq,all_cons]
  by_cases e:b=255
  ·simp[e]
  ·simp[e]
theorem Ef(l:List UInt8):gq l.reverse=gq l:=by simp[gq]
theorem kL(a:UInt8)(l:List UInt8):di (a::l)=if gq l then(if a=255 then[]else[a+1])else a::di l:=by
 unfold di;rw[reverse_cons,yY,Ef];by_cases h:gq l=true
 ·simp only[h,if_true,lS];split<;>simp
 ·simp[h]
theorem yZ(l:List UInt8)(h:gq l=true):di l=[]:=by
 cases l with
 |nil=>rfl
 |cons a l=>
  have:a=255/\gq l=true:=by simpa[gq]using h
  rw[kL,if_pos this.2,if_pos this.1]
theorem Bl(l:List UInt8):(di l).length<=l.length:=by
 induction l with
 |nil=>simp[di,lS]
 |cons a l ih=>
  rw[kL]
  split
  ·split<;>simp
  ·simp;exact ih
theorem y7(a:UInt8)(h:a≠255):a≠a+1/\a<a+1:=by
 have:=wY a h;have c:(a+1).toNat=a.toNat+1:=by omega
 refine⟨λe=>?_,?_⟩
 ·have:=congrArg UInt8.toNat e;omega
 ·rw[UInt8.lt_iff_toNat_lt];omega
theorem Bn(xs more:List UInt8)(h:gq xs=false):cZ (xs++more) (di xs)=true:=by
 induction xs with
 |nil=>simp[gq]at h
 |cons a l ih=>
  rw[kL]
  by_cases c:gq l=true
  ·have d:a≠255:=λe=>by subst e;simp[gq]at h c;obtain⟨x,g,f⟩:=h;exact f (c x g)
   rw[if_pos c,if_neg d];have:=y7 a d;simp[cZ,this.2,this.1]
  ·rw[if_neg c];simp only[cons_append,cZ,if_true];exact ih (by simpa using c)
theorem y8(l c:List UInt8)(h:gq l=true):(l.isPrefixOf c||cZ c l)=true:=by
 induction l generalizing c with
 |nil=>simp
 |cons a l ih=>
  obtain⟨rfl,d⟩:a=255/\gq l=true:=by simpa[gq]using h
  cases c with
  |nil=>rfl
  |cons b c=>
   by_cases e:b=255
   ·subst e;simpa[cZ,isPrefixOf]using ih c d
   ·have i:=b.toNat_lt;have g:b.toNat≠255:=λf=>e (by apply UInt8.toNat_inj.1;simpa using f);have:b<255:=by rw[UInt8.lt_iff_toNat_lt];show b.toNat<255;omega
    simp[cZ,e,this]
theorem y9(xs other:List UInt8)(h:gq xs=false):cZ other (di xs)=(xs.isPrefixOf other||cZ other xs):=by
 induction xs generalizing other with
 |nil=>simp[gq]at h
 |cons a l ih=>
  rw[kL]
  by_cases c:gq l=true
  ·have f:a≠255:=λe=>by subst e;simp[gq]at h c;obtain⟨x,q,j⟩:=h;exact j (c x q)
   have d:=y7 a f;rw[if_pos c,if_neg f];cases other with
   |nil=>simp[cZ]
   |cons o i=>
    by_cases e:o=a
    ·subst e;have:=y8 l i c;simp[cZ,isPrefixOf,d.1,d.2,this]
    ·have s:=wY a f;have t:a.toNat≠o.toNat:=λh=>e (UInt8.toNat_inj.1 h.symm);have g:(a==o)=false:=by simp;exactλh=>e h.symm
     simp only[cZ,isPrefixOf,g,e,if_false,Bool.false_and,Bool.false_or];by_cases p:o=a+1
     ·subst p;have r:decide (a+1<a)=false:=by rw[decide_eq_false_iff_not,UInt8.lt_iff_toNat_lt];omega
      rw[if_pos rfl,r];cases i<;>rfl
     ·rw[if_neg p,decide_eq_decide,UInt8.lt_iff_toNat_lt,UInt8.lt_iff_toNat_lt];omega
  ·rw[if_neg c];cases other with
   |nil=>simp[cZ]
   |cons o i=>
    by_cases e:o=a
    ·subst e;simp[cZ,isPrefixOf,ih i (by simpa using c)]
    ·have g:(a==o)=false:=by simp;exactλh=>e h.symm
     simp[cZ,isPrefixOf,e,g]
abbrev aF:=List UInt8
def rl(lo:aF)(hi:Option aF)(x:aF):Prop:=bY x lo=false/\∀t,hi=some t->bY x t=true
def uf(lo:aF)(hi:Option aF)(x:aF):Prop:=bY lo x=true/\∀t,hi=some t->bY x t=true
theorem qt(a b c:aF)(h:bY b a=false)(k:bY c b=false):bY c a=false:=by
 cases hca:bY c a with
 |false=>rfl
 |true=>have:=fF c a b hca h;rw[this]at k;cases k
inductive Kids (T:aF->Option aF->Nat->List ai->List Nat->Prop):List ai->List Nat->aF->Option aF->List ai->List Nat->Prop
 |one (k:Nat) (lo:aF) (hi:Option aF) (L:List ai) (P:List Nat) (h:T lo hi k L P):Kids T [] [k] lo hi L P
 |more (c:ai) (cs:List ai) (k:Nat) (ks:List Nat) (lo:aF) (hi:Option aF) (l:List ai) (p:List Nat) (L:List ai) (P:List Nat) (hb:uf lo hi c.key) (h:T lo (some c.key) k l p) (hr:Kids T cs ks c.key hi L P):
  Kids T (c::cs) (k::ks) lo hi (l++L) (p++P)
section
variable {T T':aF->Option aF->Nat->List ai->List Nat->Prop}{cs:List ai}{ks:List Nat}{lo:aF}{hi:Option aF}{L:List ai}{P:List Nat}
theorem Kids.len(h:Kids T cs ks lo hi L P):ks.length=cs.length+1:=by
 induction h with
 |one=>rfl
 |more _ _ _ _ _ _ _ _ _ _ _ _ _ ih=>rw[length_cons,length_cons,ih]
theorem Kids.imp(h:Kids T cs ks lo hi L P)(f:∀lo hi k l p,(∀x∈p,x∈P)->k∈ks->T lo hi k l p->T' lo hi k l p):Kids T' cs ks lo hi L P:=by
 induction h with
 |one k lo hi L P h=>exact .one _ _ _ _ _ (f _ _ _ _ _ (λ_ h=>h) (.head _) h)
 |more c cs k ks lo hi l p L P e h j ih=>exact .more _ _ _ _ _ _ _ _ _ _ e (f _ _ _ _ _ (λx d=>mem_append_left _ d) (.head _) h) (ih λlo hi k l q g i=>f lo hi k l q (λx d=>mem_append_right _ (g x d)) (.tail _ i))
theorem Kids.keys(h:Kids T cs ks lo hi L P)(f:∀lo hi k l p,T lo hi k l p->∀x∈l,rl lo hi x.key):∀x∈L,rl lo hi x.key:=by
 induction h with
 |one k lo hi L P h=>exact f _ _ _ _ _ h
 |more c cs k ks lo hi l p L P g h j ih=>
  intro x d
  rcases mem_append.1 d with d|d
  ·have e:=f _ _ _ _ _ h x d;exact⟨e.1,λt i=>dq _ _ _ (e.2 _ rfl) (g.2 t i)⟩
  ·have e:=ih x d;exact⟨qt _ _ _ (cq _ _ g.1) e.1,e.2⟩
theorem Kids.Gq(h:Kids T cs ks lo hi L P):∀c∈cs,uf lo hi c.key:=by
 induction h with
 |one=>intro c i;cases i
 |more c cs k ks lo hi l p L P f h j ih=>
  intro d e
  rcases mem_cons.1 e with rfl|e
  ·exact f
  ·have g:=ih d e;exact⟨dq _ _ _ f.1 g.1,g.2⟩
theorem Kids.rise(h:Kids T cs ks lo hi L P):cW cs:=by
 induction h with
 |one=>trivial
 |more c cs k ks lo hi l p L P g h e ih=>exact⟨λd f=>(e.Gq d f).1,ih⟩
theorem Kids.cut(h:Kids T cs ks lo hi L P):∀(i:Nat) (c:ai),cs[i]?=some c->∃f g j q,L=f++g/\P=j++q/\Kids T (cs.take i) (ks.take (i+1)) lo (some c.key) f j/\Kids T (cs.drop (i+1)) (ks.drop (i+1)) c.key hi g q/\uf lo hi c.key:=by
 induction h with
 |one=>intro i c C;simp at C
 |more c cs k ks lo hi l p L P r h u ih=>
  intro i d e
  cases i with
  |zero=>
   simp at e
   subst e
   exact⟨l,L,p,P,rfl,rfl,.one _ _ _ _ _ h,u,r⟩
  |succ i=>
   rw[getElem?_cons_succ]at e
   obtain⟨f,g,j,q,rfl,rfl,D,E,y⟩:=ih i d e
   have z:=u.Gq d (bu e)
   exact⟨l++f,g,p++j,q,(av ..).symm,(av ..).symm,.more _ _ _ _ _ _ _ _ _ _ ⟨r.1,λt s=>by injection s with s;rw[<-s];exact z.1⟩ h D,E,⟨dq _ _ _ r.1 y.1,y.2⟩⟩
theorem Kids.glue{i j:List ai}{q r:List Nat}{s u:List ai}{y z:List Nat}{c:ai}(C:Kids T i q lo (some c.key) s y)(E:Kids T j r c.key hi u z)(f:uf lo hi c.key):Kids T (i++c::j) (q++r) lo hi (s++u) (y++z):=by
 generalize e:some c.key=hi1 at C;induction C with
 |one k lo D L P h=>subst e;exact .more _ _ _ _ _ _ _ _ _ _ f h E
 |more d M k ks lo D l p L P g h S ih=>
  subst e
  have H:=ih ⟨g.2 _ rfl,f.2⟩ rfl
  rw[cons_append,cons_append,av,av]
  exact .more _ _ _ _ _ _ _ _ _ _ ⟨g.1,λt K=>dq _ _ _ (g.2 _ rfl) (f.2 t K)⟩ h H
end
structure GP (T:aF->Option aF->Nat->List ai->List Nat->Prop) (cs:List ai) (ks:List Nat) (lo:aF) (hi:Option aF) (i j:Nat) (lo':aF) (hi':Option aF) (LA LB:List ai) (PA PB:List Nat):Prop where
 Eg:∀T',(∀lo hi k l p,(∀x∈p,x∈PA++PB)->T lo hi k l p->T' lo hi k l p)->∀cc kk l p,Kids T' cc kk lo' hi' l p->
  Kids T' (cs.take i++(cc++cs.drop (i+j))) (ks.take i++(kk++ks.drop (i+j+1))) lo hi (LA++(l++LB)) (PA++(p++PB))
 M7:i=0->lo'=lo
 lo1:∀c,0<i->cs[i-1]?=some c->lo'=c.key
 hi0:i+j=cs.length->hi'=hi
 hi1:∀c,cs[i+j]?=some c->hi'=some c.key
 le:bY lo' lo=false
 below:∀x∈LA,bY x.key lo'=true
 above:∀x∈LB,∃s,hi'=some s/\bY x.key s=false
theorem Kids.CK{T:aF->Option aF->Nat->List ai->List Nat->Prop}(H:∀lo hi k l p,T lo hi k l p->∀x∈l,rl lo hi x.key){cs:List ai}{ks:List Nat}{lo:aF}{hi:Option aF}{L:List ai}{P:List Nat}(h:Kids T cs ks lo hi L P) (j:Nat) (ae:j<ks.length):∃t l y p z,L=l++y/\P=p++z/\Kids T (cs.take j) (ks.take (j+1)) lo t l p/\GP T cs ks lo hi 0 j lo t [] y [] z:=by
 have i:=h.len;by_cases e:j=cs.length
 ·subst e;refine⟨hi,L,[],P,[],by simp,by simp,?_,⟨λT' f K M l p u=>?_,λ_=>rfl,λc r=>absurd r (by omega),λ_=>rfl,λc g=>?_,bU _,λx d=>(by cases d),λx d=>(by cases d)⟩⟩
  ·rw[take_length,<-i,take_length];exact h
  ·simpa[<-i]using u
  ·rw[Nat.zero_add,getElem?_eq_none (aa _)]at g;cases g
 ·have s:j<cs.length:=by omega
  obtain⟨S,C,V,D,rfl,rfl,W,E,Y⟩:=h.cut j _ (ak s);refine⟨_,S,C,V,D,rfl,rfl,W,⟨λT' f K M l p u=>?_,λ_=>rfl,λc r=>absurd r (by omega),λr=>absurd r (by omega),λc g=>?_,bU _,λx d=>(by cases d),λx d=>⟨_,rfl,(E.keys H x d).1⟩⟩⟩
  ·have Z:Kids T' (cs.drop (j+1)) (ks.drop (j+1)) (cs[j]).key hi C D:=E.imp λlo hi k l q ab _=>f lo hi k l q (λx d=>by simpa using ab x d);have ac:=u.glue Z Y;have ad:cs.drop j=cs[j]::cs.drop (j+1):=drop_eq_getElem_cons s;rw[take_zero,take_zero,nil_append,nil_append,nil_append,nil_append,Nat.zero_add,ad];exact ac
  ·rw[Nat.zero_add,ak s]at g;injection g with g;rw[g]
theorem Kids.around{T:aF->Option aF->Nat->List ai->List Nat->Prop}(K:∀lo hi k l p,T lo hi k l p->∀x∈l,rl lo hi x.key){cs:List ai}{ks:List Nat}{lo:aF}{hi:Option aF}{L:List ai}{P:List Nat}(h:Kids T cs ks lo hi L P):∀(i j:Nat),i+j<ks.length->∃y r E l t H p u,L=E++(l++t)/\P=H++(p++u)/\Kids T ((cs.drop i).take j) ((ks.drop i).take (j+1)) y r l p/\GP T cs ks lo hi i j y r E t H u:=by
 induction h with
 |one k lo hi L P h=>
  intro i j C
  simp at C
  obtain⟨rfl,rfl⟩:i=0/\j=0:=by omega
  obtain⟨r,l,t,p,u,M,S,D,g⟩:=Kids.CK K (.one k lo hi L P h) 0 (by simp)
  exact⟨lo,r,[],l,t,[],p,u,M,S,D,g⟩
 |more c cs k ks lo hi l p L P V h ac ih=>
  intro i j C
  cases i with
  |zero=>
   obtain⟨r,W,t,Y,u,M,S,D,g⟩:=Kids.CK K (.more c cs k ks lo hi l p L P V h ac) j (by omega)
   exact⟨lo,r,[],W,t,[],Y,u,M,S,D,g⟩
  |succ i=>
   obtain⟨y,r,E,W,t,H,Y,u,rfl,rfl,D,g⟩:=ih i j (by rw[length_cons]at C;omega)
   refine⟨y,r,l++E,W,t,p++H,Y,u,by simp,by simp,D,⟨λT' f ad ae af p2 al=>?_,λab=>absurd ab (by omega),λd ab z=>?_,λe=>g.hi0 (by rw[length_cons]at e;omega),λd z=>g.hi1 d ?_,?_,λx s=>?_,g.above⟩⟩
   ·have am:=g.Eg T' (λlo hi k l q an=>f lo hi k l q λx s=>by
     have:=an x s;simp only[mem_append]at this⊢;rcases this with h|h
     ·exact .inl (.inr h)
     ·exact .inr h) ad ae af p2 al
    have ao:=f _ _ _ _ _ (λx s=>by simp[s]) h;have ap:=Kids.more (T:=T') c _ k _ lo hi l p _ _ V ao am;have Z:i+1+j=(i+j)+1:=by omega
    rw[Z,take_succ_cons,take_succ_cons,drop_succ_cons,drop_succ_cons,av,av];exact ap
   ·cases i with
    |zero=>
     simp at z
     subst z
     exact g.M7 rfl
    |succ i=>exact g.lo1 d (by omega) (by simpa using z)
   ·have Z:i+1+j=(i+j)+1:=by omega
    rw[Z,getElem?_cons_succ]at z;exact z
   ·exact qt _ _ _ (cq _ _ V.1) g.le
   ·rcases mem_append.1 s with s|s
    ·exact fF _ _ _ ((K _ _ _ _ _ h x s).2 _ rfl) g.le
    ·exact g.below x s
def bn(st:aB):Nat->Nat->aF->Option aF->Nat->List ai->List Nat->Prop
 |0,m,lo,hi,no,L,P=>∃n,bS st no n/\m<=aC n/\(n.leaf=true/\L=n.cells/\∀c∈n.cells,rl lo hi c.key)/\P=[no]
 |h+1,m,lo,hi,no,L,P=>∃n Q,bS st no n/\m<=aC n/\(n.leaf=false/\Kids (λlo hi k l p=>bn st h 127 lo hi k l p) n.cells n.kids lo hi L Q)/\P=no::Q
def gu(st:aB):Nat->aj->aF->Option aF->List ai->List Nat->Prop
 |0,n,lo,hi,L,Q=>n.leaf=true/\L=n.cells/\(∀c∈n.cells,rl lo hi c.key)/\Q=[]
 |h+1,n,lo,hi,L,Q=>n.leaf=false/\Kids (λlo hi k l p=>bn st h 127 lo hi k l p) n.cells n.kids lo hi L Q
section
variable {st st':aB}{h m no:Nat}{lo:aF}{hi:Option aF}{L:List ai}{P:List Nat}
theorem bn.node(g:bn st h m lo hi no L P):∃n Q,bS st no n/\m<=aC n/\gu st h n lo hi L Q/\P=no::Q:=by
 cases h with
 |zero=>obtain⟨n,c,d,⟨e,f,i⟩,j⟩:=g;exact⟨n,[],c,d,⟨e,f,i,rfl⟩,j⟩
 |succ h=>obtain⟨n,Q,c,d,e,f⟩:=g;exact⟨n,Q,c,d,e,f⟩
theorem gu.tree{n:aj}{Q:List Nat}(c:gu st h n lo hi L Q)(d:bS st no n)(e:m<=aC n):bn st h m lo hi no L (no::Q):=by
 cases h with
 |zero=>obtain⟨f,g,i,rfl⟩:=c;exact⟨n,d,e,⟨f,g,i⟩,rfl⟩
 |succ h=>exact⟨n,Q,d,e,c,rfl⟩
theorem bn.mem(c:bn st h m lo hi no L P):no∈P:=by obtain⟨n,Q,_,_,_,rfl⟩:=c.node;exact .head _
theorem bn.has(c:bn st h m lo hi no L P):st.has no:=by obtain⟨n,Q,d,_⟩:=c.node;exact d.1
theorem bn.mono{c:Nat}(d:bn st h m lo hi no L P)(e:c<=m):bn st h c lo hi no L P:=by obtain⟨n,Q,f,g,i,rfl⟩:=d.node;exact i.tree f (aO e g)
end
theorem bn.keys{st:aB}:∀{h m:Nat} {lo:aF} {hi:Option aF} {no:Nat} {L:List ai} {P:List Nat},bn st h m lo hi no L P->∀x∈L,rl lo hi x.key
 |0,_,_,_,_,_,_,⟨n,_,_,⟨_,rfl,c⟩,_⟩=>c
 |h+1,_,_,_,_,_,_,⟨n,Q,_,_,⟨_,d⟩,_⟩=>d.keys λ_ _ _ _ _ e=>bn.keys e
theorem bn.frame{st st':aB}(e:st.many<=st'.many):∀{h m:Nat} {lo:aF} {hi:Option aF} {no:Nat} {L:List ai} {P:List Nat},bn st h m lo hi no L P->(∀x∈P,st'.page x=st.page x)->bn st' h m lo hi no L P
 |0,_,_,_,no,_,_,⟨n,c,f,g,rfl⟩,d=>⟨n,⟨⟨c.1.1,aN c.1.2 e⟩,by rw[d no (.head _)];exact c.2⟩,f,g,rfl⟩
 |h+1,_,_,_,no,_,_,⟨n,Q,c,f,⟨g,i⟩,rfl⟩,d=>⟨n,Q,⟨⟨c.1.1,aN c.1.2 e⟩,by rw[d no (.head _)];exact c.2⟩,f,⟨g,i.imp λ_ _ _ _ p j _ q=>bn.frame e q λx r=>d x (.tail _ (j x r))⟩,rfl⟩
theorem gu.frame{st st':aB}(d:st.many<=st'.many){h:Nat}{n:aj}{lo:aF}{hi:Option aF}{L:List ai}{Q:List Nat}(c:gu st h n lo hi L Q)(e:∀x∈Q,st'.page x=st.page x):gu st' h n lo hi L Q:=by
 cases h with
 |zero=>exact c
 |succ h=>exact⟨c.1,c.2.imp λ_ _ _ _ p f _ g=>bn.frame d g λx i=>e x (f x i)⟩
theorem cW.append{a b:List ai}(f:cW a)(g:cW b)(h:∀x∈a,∀y∈b,bY x.key y.key=true):cW (a++b):=by
 induction a with
 |nil=>exact g
 |cons c j ih=>
  refine⟨λd e=>?_,ih f.2 λx i=>h x (.tail _ i)⟩
  rcases mem_append.1 e with e|e
  ·exact f.1 d e
  ·exact h c (.head _) d e
theorem cW.left{a b:List ai}(h:cW (a++b)):cW a:=by
 induction a with
 |nil=>trivial
 |cons c f ih=>exact⟨λd e=>h.1 d (mem_append_left _ e),ih h.2⟩
theorem cW.right{a b:List ai}(h:cW (a++b)):cW b:=by
 induction a with
 |nil=>exact h
 |cons c d ih=>exact ih h.2
theorem cW.between{a b:List ai}(h:cW (a++b)):∀x∈a,∀y∈b,bY x.key y.key=true:=by
 induction a with
 |nil=>intro x d;cases d
 |cons c f ih=>
  intro x d y e
  rcases mem_cons.1 d with rfl|d
  ·exact h.1 y (mem_append_right _ e)
  ·exact ih h.2 x d y e
theorem Kids.LW{T:aF->Option aF->Nat->List ai->List Nat->Prop}{cs:List ai}{ks:List Nat}{lo:aF}{hi:Option aF}{L:List ai}{P:List Nat}(h:Kids T cs ks lo hi L P)(d:∀lo hi k l p,T lo hi k l p->∀x∈l,rl lo hi x.key) (e:∀lo hi k l p,T lo hi k l p->cW l):cW L:=by
 induction h with
 |one k lo hi L P h=>exact e _ _ _ _ _ h
 |more c cs k ks lo hi l p L P q h f ih=>
  refine(e _ _ _ _ _ h).append ih λx g y i=>?_
  have j:=(d _ _ _ _ _ h x g).2 _ rfl
  exact fF _ _ _ j (f.keys d y i).1
theorem bn.rise{st:aB}:∀{h m:Nat} {lo:aF} {hi:Option aF} {no:Nat} {L:List ai} {P:List Nat},bn st h m lo hi no L P->cW L
 |0,_,_,_,_,_,_,⟨n,d,_,⟨_,rfl,_⟩,_⟩=>d.2.1.rise
 |h+1,_,_,_,_,_,_,⟨n,Q,_,_,⟨_,e⟩,_⟩=>e.LW (λ_ _ _ _ _ c=>bn.keys c) λ_ _ _ _ _ c=>bn.rise c
inductive nR (st:aB):Nat->List Nat->Prop
 |nil:nR st 0 []
 |cons (no:Nat) (l:List Nat) (h0:st.has no) (hr:nR st (fH ((st.page no).take 4)) l):nR st no (no::l)
structure Inv (st:aB) (fl U:List Nat):Prop where
 ok:st.ok
 fr:nR st st.free fl
 nd:(fl++U).Nodup
 all:∀no,st.has no↔no∈fl++U
structure gV (U:List Nat) (st st':aB):Prop where
 page:∀x∈U,st'.page x=st.page x
 many:st.many<=st'.many
 roots:st'.roots=st.roots
theorem gV.refl(U:List Nat)(st:aB):gV U st st:=⟨λ_ _=>rfl,aa _,rfl⟩
theorem gV.trans{U U':List Nat}{a b c:aB}(h:gV U a b)(k:gV U' b c)(e:∀x∈U,x∈U'):gV U a c:=⟨λx d=>(k.page x (e x d)).trans (h.page x d),aO h.many k.many,k.roots.trans h.roots⟩
theorem gV.mono{U U':List Nat}{a b:aB}(h:gV U a b)(c:∀x∈U',x∈U):gV U' a b:=⟨λx d=>h.page x (c x d),h.many,h.roots⟩
section
variable {st:aB}{fl U U':List Nat}{no:Nat}
theorem Inv.perm(h:Inv st fl U)(c:U.Perm U'):Inv st fl U':=⟨h.ok,h.fr,(Perm.nodup_iff (Perm.append_left fl c)).1 h.nd,λno=>(h.all no).trans (Perm.mem_iff (Perm.append_left fl c))⟩
theorem Inv.wZ(h:Inv st fl U)(c:no∈U):st.has no:=(h.all no).2 (mem_append_right _ c)
theorem Inv.Mz(h:Inv st fl U):U.Nodup:=(nodup_append.1 h.nd).2.1
theorem Inv.apart(h:Inv st fl U){x:Nat}(c:x∈fl):x∉U:=λd=>(nodup_append.1 h.nd).2.2 x c x d rfl
theorem nR.frame{st':aB}{l:List Nat}(h:nR st no l)(e:st.many<=st'.many)(c:∀x∈l,st'.page x=st.page x):nR st' no l:=by
 induction h with
 |nil=>exact .nil
 |cons no l d g ih=>
  refine .cons no l ⟨d.1,aN d.2 e⟩ ?_
  rw[c no (.head _)]
  exact ih λx f=>c x (.tail _ f)
theorem nR.lt{l:List Nat}(h:nR st no l)(d:1<=st.many):no<st.many:=by
 cases h with
 |nil=>omega
 |cons _ _ c _=>exact c.2
theorem kg(no x:Nat)(b:List UInt8)(h:x≠no):(st.rN no b).page x=st.page x:=by show(if x=no then b else st.page x)=_;rw[if_neg h]
theorem Inv.write(h:Inv st fl (no::U))(b:List UInt8)(g:b.length<=508):Inv (fQ st no b) fl (no::U)/\gV U st (fQ st no b)/\(fQ st no b).many=st.many:=by have f:∀x∈fl,x≠no:=λx c e=>h.apart c (by rw[e];exact .head _);have d:∀x∈U,x≠no:=λx c e=>(nodup_cons.1 h.Mz).1 (by rw[<-e];exact c);exact⟨⟨h.ok.write no b g,h.fr.frame (aa _) λx c=>kg no x _ (f x c),h.nd,h.all⟩,⟨λx c=>kg no x _ (d x c),aa _,rfl⟩,rfl⟩
theorem Inv.free(h:Inv st fl (no::U)):Inv (eO st no) (no::fl) U/\gV U st (eO st no)/\(eO st no).many=st.many:=by
 have f:∀x∈fl,x≠no:=λx c e=>h.apart c (by rw[e];exact .head _);have d:∀x∈U,x≠no:=λx c e=>(nodup_cons.1 h.Mz).1 (by rw[<-e];exact c);have g:=h.wZ (.head _);have i:(eO st no).page no=leB 4 st.free++zB 504:=by show(if no=no then _ else _)=_;rw[if_pos rfl]
 refine⟨⟨h.ok.freed no g,?_,?_,λx=>(h.all x).trans ?_⟩,⟨λx c=>kg no x _ (d x c),aa _,rfl⟩,rfl⟩
 ·refine .cons no fl g ?_;rw[i,take_left' (bq _ _),fV,mod_eq_of_lt (by have:=h.ok.free;have:=h.ok.most;omega)];exact h.fr.frame (aa _) λx c=>kg no x _ (f x c)
 ·exact(Perm.nodup_iff (perm_middle (a:=no) (l₁:=fl) (l₂:=U)).symm).2 h.nd|>λh=>by simpa using h
 ·exact(Perm.mem_iff (perm_middle (a:=no) (l₁:=fl) (l₂:=U)))
theorem Inv.alloc(h:Inv st fl U)(M:st.many<65536):dU st/\∃C,Inv (aW st) C (aG st::U)/\gV U st (aW st)/\(aW st).many<=st.many+1/\aG st∉U:=by
 by_cases j:st.free=0
 ·have p:dU st:=.inl ⟨j,M⟩;have D:fl=[]:=by
   have:=h.fr;rw[j]at this;cases this with
   |nil=>rfl
   |cons _ _ g _=>exact absurd g.1 (by omega)
  subst D;have q:=(h.ok.alloc p).1;have i:aG st=st.many:=by unfold aG;rw[if_pos j]
  have c:aW st={ st.rN st.many (zB 508)with many:=st.many+1 }:=by unfold aW;rw[if_pos j]
  have d:st.many∉U:=λr=>by have:=(h.wZ r).2;omega
  refine⟨p,[],?_,⟨λx s=>?_,?_,?_⟩,?_,?_⟩
  ·refine⟨q,?_,?_,λx=>?_⟩
   ·rw[c];show nR _ st.free [];rw[j];exact .nil
   ·rw[i,nil_append];exact nodup_cons.2 ⟨d,h.Mz⟩
   ·rw[c,i];have g:=h.all x;have z:=h.ok.one;simp only[nil_append,mem_cons]at g⊢;rw[<-g];show(1<=x/\x<st.many+1)↔x=st.many\/(1<=x/\x<st.many);omega
  ·rw[c];exact kg st.many x _ (λe=>d (by rw[<-e];exact s))
  ·rw[c];exact le_succ _
  ·rw[c];rfl
  ·rw[c];exact aa _
  ·rw[i];exact d
 ·cases hfr:fl with
  |nil=>
   have:=h.fr
   rw[hfr]at this
   generalize e:st.free=f at this
   cases this
   exact absurd e j
  |cons f l=>
   have g:=h.fr
   rw[hfr]at g
   generalize e:st.free=f' at g
   cases g with
   |cons _ _ E H=>
    have p:dU st:=.inr ⟨by rw[e];have:=E.1;omega,by rw[e];exact H.lt h.ok.one⟩
    have q:=(h.ok.alloc p).1
    have u:¬f=0:=by have:=E.1;omega
    have i:aG st=f:=by unfold aG;rw[e,if_neg u]
    have c:aW st={ st.rN f (zB 508)with free:=fH ((st.page f).take 4) }:=by unfold aW;rw[e,if_neg u]
    have t:=h.nd
    rw[hfr,cons_append]at t
    have y:=(nodup_cons.1 t).1
    have d:f∉U:=λr=>y (mem_append_right _ r)
    have K:f∉l:=λr=>y (mem_append_left _ r)
    refine⟨p,l,⟨q,?_,?_,λx=>?_⟩,⟨λx s=>?_,?_,?_⟩,?_,?_⟩
    ·rw[c];exact H.frame (st':={ st.rN f (zB 508)with free:=fH ((st.page f).take 4) }) (aa _) λx s=>kg f x _ (λe=>K (by rw[<-e];exact s))
    ·rw[i];exact(Perm.nodup_iff perm_middle).2 t
    ·rw[c,i];have z:=h.all x;rw[hfr,cons_append]at z;exact z.trans (Perm.mem_iff perm_middle).symm
    ·rw[c];exact kg f x _ (λe=>d (by rw[<-e];exact s))
    ·rw[c];exact aa _
    ·rw[c];rfl
    ·rw[c];exact le_succ _
    ·rw[i];exact d
theorem Inv.rP(h:Inv st fl U)(k:Nat)(c:no<st.many):Inv (bo st k no) fl U:=⟨h.ok.set k no c,h.fr.frame (st':=bo st k no) (aa _) λ_ _=>rfl,h.nd,h.all⟩
theorem Inv.save(h:Inv st fl (no::U))(n:aj)(e:bJ n)(c:aC n<=508):dh st no n/\Inv (aY st no n) fl (no::U)/\gV U st (aY st no n)/\(aY st no n).many=st.many/\bS (aY st no n) no n:=by have d:dh st no n:=⟨h.wZ (.head _),e,c⟩;obtain⟨f,g,i⟩:=h.write (dJ n) (by rw[fN];exact c);exact⟨d,f,g,i,sM d⟩
end
theorem bS.size{st:aB}{no:Nat}{n:aj}(h:bS st no n)(c:st.ok):aC n<=508:=by obtain⟨d,g,z,e⟩:=h;have f:=c.len no d;rw[e,aq,fN]at f;omega
theorem oh{c:ai}(g:c.key.length<=120)(h:gJ c):fu true c<=187:=by
 unfold fu;rcases h with⟨d,e,f⟩|⟨d,e,f,i⟩
 ·rw[if_pos rfl,if_pos d];omega
 ·rw[if_pos rfl,if_neg (by have:=d.1;omega)];omega
theorem om{c:ai}(d:c.key.length<=120):fu false c<=124:=by unfold fu;rw[if_neg (by decide)];omega
theorem Eh(leaf:Bool)(c:ai):3<=fu leaf c:=by
 unfold fu;cases leaf
 ·rw[if_neg (by decide)];omega
 ·rw[if_pos rfl];split<;>omega
theorem jh(leaf:Bool):∀cs,3*cs.length<=aT leaf cs
 |[]=>zero_le _
 |c::d=>by
  have e:=Eh leaf c
  have f:=jh leaf d
  rw[aT,length_cons];omega
def GQ(leaf:Bool):Nat:=if leaf=true then 187 else 124
theorem bJ.CM{n:aj}(h:bJ n){c:ai}(d:c∈n.cells):fu n.leaf c<=GQ n.leaf:=by
 have f:=h.keys c d;have g:=h.vals c d;unfold GQ;cases e:n.leaf with
 |true=>rw[e,if_pos rfl]at g;rw[if_pos rfl];exact oh f.2 g
 |false=>rw[if_neg (by decide)];exact om f.2
def dN(n:aj)(i:Nat):Nat:=aT n.leaf (n.cells.take i)
theorem sO(n:aj)(i:Nat)(hi:i<n.cells.length):dN n (i+1)=dN n i+fu n.leaf n.cells[i]:=by unfold dN;rw[take_succ_eq_append_getElem hi,cu,aT,aT,Nat.add_zero]
theorem lM(n:aj)(i:Nat):dN n i+aT n.leaf (n.cells.drop i)=aT n.leaf n.cells:=by unfold dN;rw[<-cu,bE]
theorem bJ.part{n:aj}(h:bJ n){a b:Nat}(s:a<=b)(t:b<=n.cells.length):bJ (bD n a b):=by
 have d:∀c∈(bD n a b).cells,c∈n.cells:=λc f=>mem_of_mem_drop (mem_of_mem_take f);have p:(bD n a b).cells.length=b-a:=by simp[bD];omega
 refine⟨λe=>?_,λe=>?_,by rw[p];have:=h.many;omega,λc f=>h.keys c (d c f),?_,λc f=>h.vals c (d c f),λk r=>?_⟩
 ·have i:n.leaf=true:=e;show(if n.leaf=true then[]else _)=_;rw[if_pos i]
 ·have i:n.leaf=false:=e;have j:=h.eY i;rw[p];show(if n.leaf=true then[]else _).length=_;rw[if_neg (by rw[i];decide),aH,aQ,j];omega
 ·have q:=h.rise;rw[<-bE a n.cells]at q;have j:=q.right;rw[<-bE (b-a) (n.cells.drop a)]at j;exact j.left
 ·have g:k∈(if n.leaf=true then[]else(n.kids.drop a).take (b+1-a)):=r;split at g
  ·cases g
  ·exact h.jT k (mem_of_mem_drop (mem_of_mem_take g))
theorem jg(n:aj)(m:Nat):aC (bD n 0 m)=(if n.leaf=true then 3 else 6)+dN n m:=by unfold aC dN bD;simp
theorem jZ(n:aj)(m:Nat):aC (bD n m n.cells.length)=(if n.leaf=true then 3 else 6)+aT n.leaf (n.cells.drop m):=by unfold aC bD;simp only;rw[bQ (by simp)]
def lT(n:aj)(m:Nat):Prop:=1<=m/\m+fo n<n.cells.length
theorem qm(n:aj)(m:Nat):0<iy n m:=by
 unfold iy;rw[jg];have:3<=(if n.leaf=true then 3 else 6):=by split<;>omega
 omega
theorem nf(n:aj):∀j,((bO n j).1=0/\∀m,m<j->¬lT n m)\/(lT n (bO n j).2/\(bO n j).2<j/\(bO n j).1=iy n (bO n j).2/\∀m,m<j->lT n m->(bO n j).1<=iy n m)
 |0=>.inl ⟨rfl,λm i=>absurd i (by omega)⟩
 |j+1=>by
  have ih:=nf n j
  rw[bO]
  by_cases e:(1<=j/\j+fo n<n.cells.length)/\((bO n j).1=0\/iy n j<(bO n j).1)
  ·rw[if_pos e];refine .inr ⟨e.1,lt_succ_self _,rfl,λm i c=>?_⟩;show iy n j<=iy n m;rcases aA m j with d|d
   ·rcases ih with⟨g,f⟩|⟨_,_,_,p⟩
    ·exact absurd c (f m d)
    ·rcases e.2 with q|q
     ·have:=p m d c;rcases nf n j with⟨_,f⟩|⟨_,_,s,_⟩
      ·exact absurd c (f m d)
      ·have:=qm n (bO n j).2;omega
     ·have:=p m d c;omega
   ·have:m=j:=by omega
    rw[this];exact aa _
  ·rw[if_neg e];rcases ih with⟨g,f⟩|⟨g,f,r,p⟩
   ·refine .inl ⟨g,λm i c=>?_⟩;rcases aA m j with d|d
    ·exact f m d c
    ·have:m=j:=by omega
     subst this;exact e ⟨c,.inl g⟩
   ·refine .inr ⟨g,by omega,r,λm i c=>?_⟩;rcases aA m j with d|d
    ·exact p m d c
    ·have:m=j:=by omega
     subst this;have q:¬iy n m<(bO n m).1:=λh=>e ⟨c,.inr h⟩;omega
theorem GR(n:aj)(d:0<aT n.leaf n.cells):∃m,m<n.cells.length/\2*dN n m<=aT n.leaf n.cells/\aT n.leaf n.cells<2*dN n (m+1):=by
 have key:∀j,j<=n.cells.length->aT n.leaf n.cells<2*dN n j->∃m,m<n.cells.length/\2*dN n m<=aT n.leaf n.cells/\aT n.leaf n.cells<2*dN n (m+1):=by
  intro j;induction j with
  |zero=>intro _ h;unfold dN at h;rw[take_zero,aT]at h;omega
  |succ j ih=>
   intro e h
   by_cases c:aT n.leaf n.cells<2*dN n j
   ·exact ih (by omega) c
   ·exact⟨j,by omega,by omega,h⟩
 refine key n.cells.length (aa _) ?_;unfold dN;rw[take_length];omega
structure Lc (n:aj):Prop where
 may:lT n (cutAt n)
 parts:oZ n
 ra:bJ (cd n)
 rb:bJ (dG n)
 a1:127<=aC (cd n)
 a2:aC (cd n)<=508
 b1:127<=aC (dG n)
 b2:aC (dG n)<=508
theorem CN(n:aj)(D:bJ n)(a0:508<aC n)(a1:aC n<=760):Lc n:=by
 obtain⟨T,E⟩:=I (aT n.leaf n.cells);have z:aC n=(if n.leaf=true then 3 else 6)+T:=by rw[E];rfl
 have ac:0<aT n.leaf n.cells:=by rw[<-E];split at z<;>omega
 obtain⟨m,q,ad,r⟩:=GR n ac;rw[<-E]at ad r;have ae:=D.CM (getElem_mem q);have a2:=sO n m q;have ao:dN n 0=0:=by unfold dN;rw[take_zero,aT]
 have t:∀i,aT n.leaf (n.cells.drop i)=T-dN n i:=λi=>by have:=lM n i;omega
 have C:∀i,dN n i<=T:=λi=>by have:=lM n i;omega
 have u:dN n n.cells.length=T:=by unfold dN;rw[take_length,E]
 have d:∀i,i<n.cells.length->dN n (i+1)<=dN n i+GQ n.leaf:=λi hi=>by have:=D.CM (getElem_mem hi);have:=sO n i hi;omega
 have f:∀k,lT n k->bJ (bD n 0 k)/\bJ (bD n (k+fo n) n.cells.length):=λk af=>⟨D.part (zero_le _) (by have:=af.2;omega),D.part (by have:=af.2;omega) (aa _)⟩
 have y:=nf n n.cells.length;cases e:n.leaf with
 |true=>
  have c:fo n=0:=by unfold fo;rw[if_pos e]
  rw[e,if_pos rfl]at z
  rw[show GQ n.leaf=187 by rw[e];rfl]at ae d
  have al:m≠0:=λh=>by rw[h]at r;have g:=d 0 (by omega);rw[Nat.zero_add]at g r;omega
  have S:m+1≠n.cells.length:=λh=>by
   have g:dN n (m+1)=T:=by rw[h];exact u
   omega
  have j:lT n m:=⟨by omega,by rw[c];omega⟩
  have M:lT n (m+1):=⟨by omega,by rw[c];omega⟩
  have p:∀k,iy n k=3+max (dN n k) (T-dN n k):=λk=>by unfold iy;rw[c,Nat.add_zero,jg,jZ,e,if_pos rfl,<-e,t];omega
  rcases y with⟨_,g⟩|⟨s,g,V,H⟩
  ·exact absurd j (g m q)
  ·have W:=H m q j;have am:=H (m+1) (by omega) M;rw[V,p,p]at W am;have Y:aC (cd n)=3+dN n (bO n n.cells.length).2:=by show aC (bD n 0 (cutAt n))=_;rw[jg,if_pos e];rfl
   have Z:aC (dG n)=3+(T-dN n (bO n n.cells.length).2):=by show aC (bD n (cutAt n+fo n) n.cells.length)=_;rw[c,Nat.add_zero,jZ,if_pos e,t];rfl
   have an:=C (bO n n.cells.length).2;refine⟨s,⟨by rw[c];have:=j.2;have:=M.2;rw[c]at *;omega,λk ab K=>f k ⟨ab,K⟩⟩,(f _ s).1,(f _ s).2,?_,?_,?_,?_⟩<;>(first|rw[Y]|rw[Z])<;>omega
 |false=>
  have c:fo n=1:=by unfold fo;rw[if_neg (by rw[e];decide)]
  rw[e,if_neg (by decide)]at z
  rw[show GQ n.leaf=124 by rw[e];rfl]at ae d
  have al:m≠0:=λh=>by rw[h]at r;have g:=d 0 (by omega);rw[Nat.zero_add]at g r;omega
  have S:m+1≠n.cells.length:=λh=>by
   have g:dN n (m+1)=T:=by rw[h];exact u
   omega
  have j:lT n m:=⟨by omega,by rw[c];omega⟩
  have p:∀k,iy n k=6+max (dN n k) (T-dN n (k+1)):=λk=>by unfold iy;rw[c,jg,jZ,e,if_neg (by decide),<-e,t];omega
  rcases y with⟨_,g⟩|⟨s,g,V,H⟩
  ·exact absurd j (g m q)
  ·have W:=H m q j;rw[V,p,p]at W;have Y:aC (cd n)=6+dN n (bO n n.cells.length).2:=by show aC (bD n 0 (cutAt n))=_;rw[jg,if_neg (by rw[e];decide)];rfl
   have Z:aC (dG n)=6+(T-dN n ((bO n n.cells.length).2+1)):=by show aC (bD n (cutAt n+fo n) n.cells.length)=_;rw[c,jZ,if_neg (by rw[e];decide),t];rfl
   have an:=C (bO n n.cells.length).2;have K:=C ((bO n n.cells.length).2+1);have ap:=d _ g;refine⟨s,⟨by rw[c];have:=j.2;rw[c]at this;omega,λk ab K=>f k ⟨ab,K⟩⟩,(f _ s).1,(f _ s).2,?_,?_,?_,?_⟩<;>(first|rw[Y]|rw[Z])<;>omega
theorem bS.frame{st st':aB}{no:Nat}{n:aj}(h:bS st no n)(c:st.many<=st'.many)(d:st'.page no=st.page no):bS st' no n:=⟨⟨h.1.1,aN h.1.2 c⟩,by rw[d];exact h.2⟩
theorem nk{cs:List ai}{i:Nat}{c:ai}(h:cs[i]?=some c):aS cs i=c.key:=by unfold aS;rw[h]
theorem rl.left{lo:aF}{hi:Option aF}{s x:aF}(h:rl lo (some s) x)(c:uf lo hi s):rl lo hi x:=⟨h.1,λt d=>dq _ _ _ (h.2 _ rfl) (c.2 t d)⟩
theorem rl.right{lo:aF}{hi:Option aF}{s x:aF}(h:rl s hi x)(c:uf lo hi s):rl lo hi x:=⟨qt _ _ _ (cq _ _ c.1) h.1,h.2⟩
theorem gu.split{st:aB}{h:Nat}{n:aj}{lo:aF}{hi:Option aF}{L:List ai}{Q:List Nat}(g:gu st h n lo hi L Q)(ab:bJ n)(m:Nat)(M:lT n m):∃y z S V,L=y++z/\Q=S++V/\uf lo hi (aS n.cells m)/\gu st h (bD n 0 m) lo (some (aS n.cells m)) y S/\gu st h (bD n (m+fo n) n.cells.length) (aS n.cells m) hi z V:=by
 have p:m<n.cells.length:=by have:=M.2;omega
 have W:n.cells[m]?=some n.cells[m]:=ak p;have r:=nk W;cases h with
 |zero=>
  obtain⟨e,rfl,s,rfl⟩:=g
  have d:fo n=0:=by unfold fo;rw[if_pos e]
  have f:=ab.rise
  rw[<-bE m n.cells]at f
  have E:n.cells[m]∈n.cells.drop m:=by rw[drop_eq_getElem_cons p];exact .head _
  have D:∀x∈n.cells.take m,bY x.key (aS n.cells m)=true:=λx u=>by rw[r];exact f.between x u _ E
  have Y:∀x∈n.cells.drop m,bY x.key (aS n.cells m)=false:=λx u=>by
   rw[r];have C:=f.right;rw[drop_eq_getElem_cons p]at u C;rcases mem_cons.1 u with rfl|u
   ·exact bU _
   ·exact cq _ _ (C.1 x u)
  have ac:n.cells[0]∈n.cells.take m:=by refine bu (i:=0) ?_;rw[bw,if_pos (by have:=M.1;omega),ak (by omega)]
  refine⟨n.cells.take m,n.cells.drop m,[],[],(bE ..).symm,rfl,⟨pq _ _ _ (s _ (getElem_mem (by omega))).1 (D _ ac),λt g=>?_⟩,⟨e,by simp[bD],λc q=>?_,rfl⟩,⟨e,?_,λc q=>?_,rfl⟩⟩
  ·rw[r];exact(s _ (getElem_mem p)).2 t g
  ·have j:c∈n.cells.take m:=by simpa[bD]using q
   exact⟨(s c (mem_of_mem_take j)).1,λt g=>by injection g with g;rw[<-g];exact D c j⟩
  ·rw[d,Nat.add_zero];show _=(n.cells.drop m).take (n.cells.length-m);rw[bQ (by simp)]
  ·rw[d,Nat.add_zero]at q;have j:c∈n.cells.drop m:=mem_of_mem_take q;exact⟨Y c j,(s c (mem_of_mem_drop j)).2⟩
 |succ h=>
  obtain⟨e,Z⟩:=g
  have d:fo n=1:=by unfold fo;rw[if_neg (by rw[e];decide)]
  have al:=Z.len
  obtain⟨y,z,ad,ae,rfl,rfl,s,C,af⟩:=Z.cut m _ W
  refine⟨y,z,ad,ae,rfl,rfl,by rw[r];exact af,⟨e,?_⟩,⟨e,?_⟩⟩
  ·rw[r];have H:(bD n 0 m).cells=n.cells.take m:=by simp[bD]
   have K:(bD n 0 m).kids=n.kids.take (m+1):=by simp[bD,e]
   rw[H,K];exact s
  ·rw[r,d];have H:(bD n (m+1) n.cells.length).cells=n.cells.drop (m+1):=by show(n.cells.drop (m+1)).take (n.cells.length-(m+1))=_;rw[bQ (by simp)]
   have K:(bD n (m+1) n.cells.length).kids=n.kids.drop (m+1):=by show(if n.leaf=true then[]else _)=_;rw[if_neg (by rw[e];decide),bQ (by simp;omega)]
   rw[H,K];exact C
theorem gu.CO{st:aB}{h:Nat}{a b:aj}{lo c:aF}{hi d:Option aF}{L g:List ai}{Q i:List Nat}(e:gu st h a lo hi L Q)(f:gu st h b c d g i):b.leaf=a.leaf:=by
 cases h with
 |zero=>rw[e.1,f.1]
 |succ h=>rw[e.1,f.1]
theorem gu.join{st:aB}{h:Nat}{a b:aj}{s lo:aF}{hi:Option aF}{g i:List ai}{j p:List Nat}(q:gu st h a lo (some s) g j)(r:gu st h b s hi i p)(f:uf lo hi s):gu st h (aU a s b) lo hi (g++i) (j++p):=by
 cases h with
 |zero=>
  obtain⟨e,rfl,t,rfl⟩:=q
  obtain⟨u,rfl,y,rfl⟩:=r
  refine⟨e,by simp[aU,e],λc z=>?_,rfl⟩
  have d:c∈a.cells\/c∈b.cells:=by simpa[aU,e]using z
  rcases d with d|d
  ·exact(t c d).left f
  ·exact(y c d).right f
 |succ h=>
  obtain⟨e,C⟩:=q
  obtain⟨u,D⟩:=r
  refine⟨e,?_⟩
  have E:(aU a s b).cells=a.cells++(⟨s,[],0,0⟩:ai)::b.cells:=by simp[aU,e]
  have H:(aU a s b).kids=a.kids++b.kids:=by simp[aU,e]
  rw[E,H]
  exact Kids.glue (c:=⟨s,[],0,0⟩) C D f
theorem kM{st:aB}{T:aF->Option aF->Nat->List ai->List Nat->Prop}{cs:List ai}{ks:List Nat}{lo:aF}{hi:Option aF}{L:List ai}{P:List Nat}(h:Kids T cs ks lo hi L P)(f:∀c∈cs,iK c/\1<=c.key.length/\c.key.length<=120)(g:cs.length<65536) (i:∀k∈ks,jS k):bJ ⟨false,cs,ks⟩:=⟨λe=>(by cases e),λ_=>h.len,g,λc d=>(f c d).2,h.rise,λc d=>by rw[if_neg (λe=>by cases e)];exact(f c d).1,i⟩
theorem nr{st:aB}(c:st.ok){no:Nat}(h:st.has no):jS no:=⟨h.1,by have:=h.2;have:=c.most;omega⟩
theorem Bo{st:aB}{h:Nat}{a b:aj}{s lo:aF}{hi:Option aF}{u z:List ai}{C D:List Nat}(q:gu st h a lo (some s) u C)(r:gu st h b s hi z D)(E:uf lo hi s)(g:bJ a) (i:bJ b) (ac:a.cells.length+b.cells.length+1<65536) (H:1<=s.length) (K:s.length<=120):bJ (aU a s b):=by
 have M:=q.join r E;have ad:=q.CO r;cases h with
 |zero=>
  obtain⟨f,rfl,S,rfl⟩:=q
  obtain⟨t,rfl,V,rfl⟩:=r
  have p:(aU a s b).cells=a.cells++b.cells:=by simp[aU,f]
  refine⟨λ_=>by simp[aU,f],λe=>(by have:a.leaf=false:=e;rw[f]at this;cases this),by rw[p,aq];omega,λc d=>?_,?_,λc d=>?_,λk j=>?_⟩
  ·rw[p]at d;rcases mem_append.1 d with d|d
   ·exact g.keys c d
   ·exact i.keys c d
  ·rw[p];exact g.rise.append i.rise λx W y Y=>fF _ _ _ ((S x W).2 _ rfl) (V y Y).1
  ·show if a.leaf=true then _ else _
   rw[p]at d;rw[if_pos f];rcases mem_append.1 d with d|d
   ·have:=g.vals c d;rw[if_pos f]at this;exact this
   ·have:=i.vals c d;rw[if_pos t]at this;exact this
  ·simp[aU,f]at j
 |succ h=>
  obtain⟨f,_⟩:=q
  obtain⟨t,_⟩:=r
  have p:(aU a s b).cells=a.cells++(⟨s,[],0,0⟩:ai)::b.cells:=by simp[aU,f]
  have Z:(aU a s b).kids=a.kids++b.kids:=by simp[aU,f]
  have ab:aU a s b=⟨false,(aU a s b).cells,(aU a s b).kids⟩:=by simp[aU,f]
  rw[ab]
  refine kM (st:=st) M.2 (λc d=>?_) (by rw[p,aq,length_cons];omega) (λk j=>?_)
  ·rw[p]at d;rcases mem_append.1 d with d|d
   ·have:=g.vals c d;rw[if_neg (by rw[f];decide)]at this;exact⟨this,g.keys c d⟩
   ·rcases mem_cons.1 d with rfl|d
    ·exact⟨⟨rfl,rfl,rfl⟩,H,K⟩
    ·have:=i.vals c d;rw[if_neg (by rw[t];decide)]at this;exact⟨this,i.keys c d⟩
  ·rw[Z]at j;rcases mem_append.1 j with j|j
   ·exact g.jT k j
   ·exact i.jT k j
theorem Ei{a b:aj}(s:aF)(d:b.leaf=a.leaf):aC (aU a s b)=if a.leaf=true then aC a+aC b-3 else aC a+aC b-6+(4+s.length):=by
 unfold aC;have f:(aU a s b).leaf=a.leaf:=rfl;rw[f,d];cases e:a.leaf with
 |true=>
  have c:(aU a s b).cells=a.cells++b.cells:=by simp[aU,e]
  rw[c,cu]
  simp only[if_true];omega
 |false=>
  have c:(aU a s b).cells=a.cells++(⟨s,[],0,0⟩:ai)::b.cells:=by simp[aU,e]
  rw[c,cu,aT]
  have:fu false ⟨s,[],0,0⟩=4+s.length:=by simp[fu];omega
  rw[this]
  simp only[Bool.false_eq_true,if_false];omega
theorem kr(n:aj):3*n.cells.length+3<=aC n:=by have:=jh n.leaf n.cells;unfold aC;split<;>omega
def GS(st:aB)(h no:Nat)(lo:aF)(hi:Option aF)(L:List ai)(fl U:List Nat):Option (aF×Nat)->Prop
 |none=>∃P,Inv st fl (P++U)/\bn st h 0 lo hi no L P
 |some (c,d)=>∃e f g i,L=e++f/\uf lo hi c/\1<=c.length/\c.length<=120/\Inv st fl (g++(i++U))/\bn st h 127 lo (some c) no e g/\bn st h 127 c hi d f i
theorem xa{st:aB}{fl U Q:List Nat}{h no:Nat}{n:aj}{lo:aF}{hi:Option aF}{L:List ai}(t:Inv st fl (no::(Q++U)))(u:gu st h n lo hi L Q)(e:bJ n)(y:aC n<=760)(H:st.many<65536):∃st' o z,rp st no n st' o/\GS st' h no lo hi L z U o/\gV U st st'/\st'.many<=st.many+1:=by
 rcases aA 508 (aC n)with f|j
 ·have d:=CN n e f y;obtain⟨p,q,s1,m1,r⟩:=t.save (cd n) d.ra d.a2;obtain⟨K,C,M,s2,S,al⟩:=q.alloc (by rw[m1];exact H);obtain⟨V,i3,s3,m3,W⟩:=M.save (dG n) d.rb d.b2;have s:gV (Q++U) st (aY (aW (aY st no (cd n))) (aG (aY st no (cd n))) (dG n)):=(s1.trans s2 λx c=>.tail _ c).trans s3 λx c=>.tail _ c;have hF:=u.frame s.many (λx c=>s.page x (mem_append_left _ c));obtain⟨Y,Z,ab,ac,rfl,rfl,ad,ae,af⟩:=hF.split e _ d.may;have D:=r.frame (aO s2.many s3.many) ((s3.page no (.head _)).trans (s2.page no (.head _)));have g:cutAt n<n.cells.length:=by have:=d.may.2;omega
  have E:=e.keys _ (getElem_mem g);have i:dF n=n.cells[cutAt n].key:=nk (ak g);refine⟨_,_,C,.split st no n e f y d.parts p K V,⟨Y,Z,no::ab,aG (aY st no (cd n))::ac,rfl,ad,by rw[i];exact E.1,by rw[i];exact E.2,i3.perm ?_,ae.tree D d.a1,af.tree W d.b1⟩,s.mono λx c=>mem_append_right _ c,?_⟩
  ·refine perm_iff_count.2 λx=>?_;simp only[count_cons,count_append];omega
  ·rw[m3];exact aO S (by rw[m1];exact aa _)
 ·obtain⟨p,q,s1,m1,r⟩:=t.save n e j;have hF:=u.frame s1.many (λx c=>s1.page x (mem_append_left _ c));exact⟨_,_,fl,.fits st no n p,⟨no::Q,q,hF.tree r (zero_le _)⟩,s1.mono λx c=>mem_append_right _ c,by rw[m1];exact le_succ _⟩
theorem sP(n:aj):(if n.leaf=true then 3 else 6)<=aC n:=le_add_right _ _
theorem qy(cs:List ai)(k:Nat)(key:aF)(c:ai)(h:cs[k]?=some c):fq cs k key=cs.take k++({ c with key:=key }::cs.drop (k+1)):=by
 unfold fq;have d:k<cs.length:=(ay.1 h).1;induction cs generalizing k with
 |nil=>simp at d
 |cons a e ih=>
  cases k with
  |zero=>simp at h;subst h;rfl
  |succ k=>
   rw[modify_succ_cons,ih k (by simpa using h) (by simpa using d)]
   rfl
theorem pE{c:Type}(l:List c)(k:Nat)(x:c)(h:l[k]?=some x):l.take (k+1)=l.take k++[x]:=by obtain⟨d,rfl⟩:=ay.1 h;exact take_succ_eq_append_getElem d
theorem drop_at{c:Type}(l:List c)(k:Nat)(x:c)(h:l[k]?=some x):l.drop k=x::l.drop (k+1):=by obtain⟨d,rfl⟩:=ay.1 h;exact drop_eq_getElem_cons d
theorem oo(n:aj)(i:Nat)(hi:i<n.kids.length):n.kids[i]?=some (aJ n i):=by unfold aJ;rw[getD_eq_getElem?_getD,ak hi];rfl
theorem Bp(leaf:Bool)(a b:List ai)(c d:ai):aT leaf (a++c::b)+fu leaf d=aT leaf (a++d::b)+fu leaf c:=by rw[cu,cu,aT,aT];omega
def uJ(st:aB)(h x:Nat):aF->Option aF->Nat->List ai->List Nat->Prop:=λlo hi k l p=>bn st h (if k=x then 0 else 127) lo hi k l p
theorem GU{st:aB}{fl U Q:List Nat}{h i:Nat}{n:aj}{lo:aF}{hi:Option aF}{L:List ai}(a8:Inv st fl (Q++U))(cB:Kids (uJ st h (aJ n i)) n.cells n.kids lo hi L Q)(E:n.leaf=false)(ac:bJ n)(dt:aC n<=508) (ba:i<n.kids.length) (cD:n.cells≠[]):∃st' b3 cE bb,nQ st n i st' b3/\Inv st' cE (bb++U)/\gV U st st'/\st'.many=st.many/\gu st' (h+1) b3 lo hi L bb/\bJ b3/\aC b3<=760:=by
 have c7:=cB.len;have du:0<n.cells.length:=length_pos_iff.2 cD;have c8:∀lo hi k l p,uJ st h (aJ n i) lo hi k l p->∀x∈l,rl lo hi x.key:=λ_ _ _ _ _ b4=>bn.keys b4;obtain⟨k,b5⟩:=I (min i (n.kids.length-2));have ca:i=k\/i=k+1:=by omega
 have r:k<n.cells.length:=by omega
 obtain⟨cb,cc,d3,l,d4,s,p,t,rfl,rfl,cH,cm⟩:=cB.around c8 k 1 (by omega);have c9:(n.cells.drop k).take 1=[n.cells[k]]:=by rw[drop_eq_getElem_cons r];rfl
 have b6:=oo n k (by omega);have cn:=oo n (k+1) (by omega);have bc:(n.kids.drop k).take 2=[aJ n k,aJ n (k+1)]:=by rw[drop_at _ _ _ b6,drop_at _ _ _ cn];rfl
 rw[c9,bc]at cH;cases cH with
 |more _ _ _ _ _ _ d5 d6 d7 d8 ad cK b7=>
 cases b7 with
 |one _ _ _ _ _ cL=>
 have u:n.cells[k]?=some n.cells[k]:=ak r;have ae:=nk u;have ce:=ac.keys _ (getElem_mem r);have ao:=ac.vals _ (getElem_mem r);rw[if_neg (by rw[E];decide)]at ao;obtain⟨d,S,C,ap,a0,rfl⟩:=bn.node cK;obtain⟨f,V,D,a3,a4,rfl⟩:=bn.node cL;have cM:=a8.Mz;have H:(aJ n k::aJ n (k+1)::(S++V++(s++t)++U)).Nodup:=by refine(Perm.nodup_iff (perm_iff_count.2 λx=>?_)).1 cM;simp only[count_cons,count_append];omega
 have a5:aJ n k≠aJ n (k+1):=λe=>(nodup_cons.1 H).1 (by rw[e];exact .head _);have cP:∀x∈s++t,x≠aJ n k:=λx g e=>(nodup_cons.1 H).1 (by rw[<-e];exact mem_cons_of_mem _ (by rcases mem_append.1 g with h|h<;>simp[h]));have cS:∀x∈s++t,x≠aJ n (k+1):=λx g e=>(nodup_cons.1 (nodup_cons.1 H).2).1 (by rw[<-e];rcases mem_append.1 g with h|h<;>simp[h]);clear H;have af:∀st',st.many<=st'.many->(∀x∈s++t,st'.page x=st.page x)->∀lo hi a9 l p,(∀x∈p,x∈s++t)->uJ st h (aJ n i) lo hi a9 l p->(λlo hi k l p=>bn st' h 127 lo hi k l p) lo hi a9 l p:=by
  intro st' da cV lo hi a9 l p bd b4;have cf:=bd _ (bn.mem b4);have co:a9≠aJ n i:=by
   rcases ca with e|e
   ·rw[e];exact cP _ cf
   ·rw[e];exact cS _ cf
  have cg:bn st h (if a9=aJ n i then 0 else 127) lo hi a9 l p:=b4;rw[if_neg co]at cg;exact cg.frame da λx g=>cV x (bd x g)
 have W:∀{st':aB} {cs:List ai} {ks:List Nat} {bb:List Nat} {cX:List ai},Kids (λlo hi k l p=>bn st' h 127 lo hi k l p) cs ks lo hi cX bb->(∀c∈cs,iK c/\1<=c.key.length/\c.key.length<=120)->cs.length<=n.cells.length->(∀x∈ks,x∈n.kids)->bJ ⟨false,cs,ks⟩:=by intro st' cs ks bb cX b5 q d9 cY;exact kM (st:=st') b5 q (by have:=ac.many;omega) λx g=>ac.jT x (cY x g)
 have y:∀c∈n.cells,iK c/\1<=c.key.length/\c.key.length<=120:=λc q=>by have:=ac.vals c q;rw[if_neg (by rw[E];decide)]at this;exact⟨this,ac.keys c q⟩
 have dv:=C.size a8.ok;have dy:=D.size a8.ok;obtain⟨c,be,bi⟩:∃c,bS st (aJ n i) c/\((c=d/\i=k)\/(c=f/\i=k+1)):=by
  rcases ca with e|e
  ·exact⟨d,by rw[e];exact C,.inl ⟨rfl,e⟩⟩
  ·exact⟨f,by rw[e];exact D,.inr ⟨rfl,e⟩⟩
 have c0:127<=aC c->127<=aC d:=λh=>by
  rcases bi with⟨rfl,e⟩|⟨rfl,e⟩
  ·exact h
  ·rw[if_neg (by rw[e];exact a5)]at ap;exact ap
 have c1:127<=aC c->127<=aC f:=λh=>by
  rcases bi with⟨rfl,e⟩|⟨rfl,e⟩
  ·rw[if_neg (by rw[e];exactλbc=>a5 bc.symm)]at a3;exact a3
  ·exact h
 have cp:aC c<127->aC d+aC f<=634/\(127<=aC d\/127<=aC f):=λh=>by
  rcases bi with⟨rfl,e⟩|⟨rfl,e⟩
  ·rw[if_neg (by rw[e];exactλbc=>a5 bc.symm)]at a3;exact⟨by omega,.inr a3⟩
  ·rw[if_neg (by rw[e];exact a5)]at ap;exact⟨by omega,.inl ap⟩
 rcases aA (aC c) 127 with K|al
 ·obtain⟨dT,d0⟩:=cp K;have c2:=sP d;have c3:=sP f;have ch:=a0.CO a4;have ci:=Ei (a:=d) (b:=f) n.cells[k].key ch;have cj:=a0.join a4 ad;have db:=kr d;have dc:=kr f;have Y:=Bo a0 a4 ad C.2.1 D.2.1 (by omega) ce.1 ce.2;have a6:aC (aU d n.cells[k].key f)<=760:=by rw[ci];split<;>omega
  have b8:127<=aC (aU d n.cells[k].key f):=by rw[ci];rw[ch]at c3;split at c2<;>split<;>simp_all<;>omega
  rcases aA 508 (aC (aU d n.cells[k].key f))with bj|cr
  ·have M:=CN _ Y bj a6;have a7:Inv st fl (aJ n k::(aJ n (k+1)::(S++V++(s++t)++U))):=a8.perm (perm_iff_count.2 λx=>by simp only[count_cons,count_append];omega)
   obtain⟨ct,cv,s1,m1,cw⟩:=a7.save _ M.ra M.a2;have bl:Inv (aY st (aJ n k) (cd (aU d n.cells[k].key f))) fl (aJ n (k+1)::(aJ n k::(S++V++(s++t)++U))):=cv.perm (Perm.swap ..);obtain⟨dd,cx,s2,cy,de⟩:=bl.save _ M.rb M.b2;have z:gV (S++V++(s++t)++U) st (aY (aY st (aJ n k) (cd (aU d n.cells[k].key f))) (aJ n (k+1)) (dG (aU d n.cells[k].key f))):=(s1.mono λx g=>.tail _ g).trans s2 λx g=>.tail _ g
   have am:=cj.frame z.many (λx g=>z.page x (by rcases mem_append.1 g with h|h<;>simp[h]));obtain⟨ea,d1,eb,ec,dj,dk,dl,hA2,c4⟩:=am.split Y _ M.may;have c5:=cw.frame s2.many (s2.page _ (.head _));have cz:=hA2.tree c5 M.a1;have dp:=c4.tree de M.b1;have Z:=Kids.more (T:=λbm bp br bs bv=>bn (aY (aY st (aJ n k) (cd (aU d n.cells[k].key f))) (aJ n (k+1)) (dG (aU d n.cells[k].key f))) h 127 bm bp br bs bv)
    { n.cells[k]with key:=dF (aU d n.cells[k].key f) } [] _ _ cb cc _ _ _ _ dl cz (.one _ _ _ _ _ dp)
   have j:=cm.Eg _ (af _ z.many λx g=>z.page x (by rcases mem_append.1 g with h|h<;>simp[h])) _ _ _ _ Z;have bx:n.cells.take k++([{ n.cells[k]with key:=dF (aU d n.cells[k].key f) }]++n.cells.drop (k+1))=fq n.cells k (dF (aU d n.cells[k].key f)):=(qy _ _ _ _ u).symm;have bA:n.kids.take k++([aJ n k,aJ n (k+1)]++n.kids.drop (k+1+1))=n.kids:=by
    conv=>rhs;rw[<-bE k n.kids,drop_at _ _ _ b6,drop_at _ _ _ cn]
    rfl
   rw[bx,bA,<-dj]at j;have ck:cutAt (aU d n.cells[k].key f)<(aU d n.cells[k].key f).cells.length:=by have:=M.may.2;omega
   have an:=Y.keys _ (getElem_mem ck);have bB:dF (aU d n.cells[k].key f)=(aU d n.cells[k].key f).cells[cutAt (aU d n.cells[k].key f)].key:=nk (ak ck);have cA:∀c∈fq n.cells k (dF (aU d n.cells[k].key f)),iK c/\1<=c.key.length/\c.key.length<=120:=λc q=>by
    rw[qy _ _ _ _ u]at q;rcases mem_append.1 q with q|q
    ·exact y c (mem_of_mem_take q)
    ·rcases mem_cons.1 q with rfl|q
     ·exact⟨ao,by show 1<=(dF _).length;rw[bB];exact an.1,by show(dF _).length<=120;rw[bB];exact an.2⟩
     ·exact y c (mem_of_mem_drop q)
   have ab:(⟨n.leaf,fq n.cells k (dF (aU d n.cells[k].key f)),n.kids⟩:aj)=⟨false,fq n.cells k (dF (aU d n.cells[k].key f)),n.kids⟩:=by rw[E]
   refine⟨_,_,fl,_,.parts st n c d f _ i k ba be K (by omega) b5 C D r (by rw[ae]) Y bj a6 M.parts ct dd,cx.perm ?_,z.mono λx g=>mem_append_right _ g,cy.trans m1,⟨E,j⟩,?_,?_⟩
   ·refine perm_iff_count.2 λx=>?_;have b9:=congrArg (List.count x) dk;simp only[count_cons,count_append]at b9⊢;omega
   ·rw[ab];exact W j cA (by simp[fq]) λx g=>g
   ·have b9:=Bp false (n.cells.take k) (n.cells.drop (k+1)) { n.cells[k]with key:=dF (aU d n.cells[k].key f) } n.cells[k];have ds:n.cells.take k++n.cells[k]::n.cells.drop (k+1)=n.cells:=by rw[<-drop_eq_getElem_cons r,bE]
    rw[ds,<-qy _ _ _ _ u]at b9;have d2:fu false { n.cells[k]with key:=dF (aU d n.cells[k].key f) }<=124:=om (by show(dF _).length<=120;rw[bB];exact an.2);have c6:aC n=6+aT false n.cells:=by unfold aC;rw[E];rfl
    have b0:aC ⟨false,fq n.cells k (dF (aU d n.cells[k].key f)),n.kids⟩=6+aT false (fq n.cells k (dF (aU d n.cells[k].key f))):=rfl;rw[ab,b0];omega
  ·have a7:Inv st fl (aJ n k::(aJ n (k+1)::(S++V++(s++t)++U))):=a8.perm (perm_iff_count.2 λx=>by simp only[count_cons,count_append];omega)
   obtain⟨ct,cv,s1,m1,cw⟩:=a7.save _ Y cr;have bl:Inv (aY st (aJ n k) (aU d n.cells[k].key f)) fl (aJ n (k+1)::(aJ n k::(S++V++(s++t)++U))):=cv.perm (Perm.swap ..);obtain⟨cx,s2,cy⟩:=bl.free;have z:gV (S++V++(s++t)++U) st (eO (aY st (aJ n k) (aU d n.cells[k].key f)) (aJ n (k+1))):=(s1.mono λx g=>.tail _ g).trans s2 λx g=>.tail _ g
   have am:=cj.frame z.many (λx g=>z.page x (by rcases mem_append.1 g with h|h<;>simp[h]));have cz:=am.tree (cw.frame s2.many (s2.page _ (.head _))) b8;have Z:=Kids.one (T:=λbm bp br bs bv=>bn (eO (aY st (aJ n k) (aU d n.cells[k].key f)) (aJ n (k+1))) h 127 bm bp br bs bv) _ _ _ _ _ cz;have j:=cm.Eg _ (af _ z.many λx g=>z.page x (by rcases mem_append.1 g with h|h<;>simp[h])) _ _ _ _ Z;have bx:n.cells.take k++([]++n.cells.drop (k+1))=n.cells.eraseIdx k:=by rw[nil_append,eraseIdx_eq_take_drop_succ]
   have bA:n.kids.take k++([aJ n k]++n.kids.drop (k+1+1))=n.kids.eraseIdx (k+1):=by rw[eraseIdx_eq_take_drop_succ,pE _ _ _ b6,av]
   rw[bx,bA]at j;have ab:(⟨n.leaf,n.cells.eraseIdx k,n.kids.eraseIdx (k+1)⟩:aj)=⟨false,n.cells.eraseIdx k,n.kids.eraseIdx (k+1)⟩:=by rw[E]
   have cl:=nQ.joins st n c d f i k ba be K (by omega) b5 C D r (by rw[ae];exact ct) (a7.wZ (.tail _ (.head _)));rw[ae]at cl;refine⟨_,_,_,s++((aJ n k::(S++V))++t),cl,cx.perm (perm_iff_count.2 λx=>?_),z.mono λx g=>mem_append_right _ g,cy.trans m1,⟨E,j⟩,?_,?_⟩
   ·simp only[count_cons,count_append];omega
   ·rw[ab];exact W j (λc q=>y c (mem_of_mem_eraseIdx q)) (by rw[length_eraseIdx];split<;>omega) λx g=>mem_of_mem_eraseIdx g
   ·have b9:aT false (n.cells.eraseIdx k)<=aT false n.cells:=by
     rw[eraseIdx_eq_take_drop_succ]
     conv=>rhs;rw[<-bE k n.cells,drop_eq_getElem_cons r]
     rw[cu,cu,aT];omega
    have c6:aC n=6+aT false n.cells:=by unfold aC;rw[E];rfl
    have b0:aC ⟨false,n.cells.eraseIdx k,n.kids.eraseIdx (k+1)⟩=6+aT false (n.cells.eraseIdx k):=rfl;rw[ab,b0];omega
 ·have Z:=Kids.more (T:=λbm bp br bs bv=>bn st h 127 bm bp br bs bv) n.cells[k] [] _ _ cb cc _ _ _ _ ad (a0.tree C (c0 al)) (.one _ _ _ _ _ (a4.tree D (c1 al)));have j:=cm.Eg _ (af st (aa _) λ_ _=>rfl) _ _ _ _ Z;have bx:n.cells.take k++([n.cells[k]]++n.cells.drop (k+1))=n.cells:=by show n.cells.take k++(n.cells[k]::n.cells.drop (k+1))=n.cells;rw[<-drop_eq_getElem_cons r,bE]
  have bA:n.kids.take k++([aJ n k,aJ n (k+1)]++n.kids.drop (k+1+1))=n.kids:=by
   conv=>rhs;rw[<-bE k n.kids,drop_at _ _ _ b6,drop_at _ _ _ cn]
   rfl
  rw[bx,bA]at j;exact⟨st,n,fl,_,.stays st n c i ba be (.inl al),a8,gV.refl _ _,rfl,⟨E,j⟩,ac,by omega⟩
theorem za(cs:List ai)(key:aF):bL cs key<=cs.length:=(takeWhile_prefix _).length_le
theorem mJ(cs:List ai)(key:aF):∀j,j<bL cs key->∀c,cs[j]?=some c->bY c.key key=true:=by
 unfold bL;induction cs with
 |nil=>intro j d;simp at d
 |cons a f ih=>
  intro j d c e
  rw[takeWhile_cons]at d
  by_cases h:bY a.key key=true
  ·rw[if_pos h]at d;cases j with
   |zero=>simp at e;subst e;exact h
   |succ j=>exact ih j (by simpa using d) c (by simpa using e)
  ·rw[if_neg h]at d;simp at d
theorem o9(cs:List ai)(key:aF):∀c,cs[bL cs key]?=some c->bY c.key key=false:=by
 unfold bL;induction cs with
 |nil=>intro c d;simp at d
 |cons a e ih=>
  intro c d
  rw[takeWhile_cons]at d
  by_cases h:bY a.key key=true
  ·rw[if_pos h]at d;exact ih c (by simpa using d)
  ·rw[if_neg h]at d;simp at d;subst d;simpa using h
theorem cW.at_{cs:List ai}(h:cW cs){i j:Nat}(c:i<j){a b:ai}(d:cs[i]?=some a)(e:cs[j]?=some b):bY a.key b.key=true:=by
 rw[<-bE j cs]at h;refine h.between a ?_ b ?_
 ·exact bu (i:=i) (by rw[bw,if_pos c,d])
 ·exact bu (i:=0) (by rw[getElem?_drop,Nat.add_zero,e])
theorem mF(n:aj)(key:aF)(p:cW n.cells)(q:n.leaf=false):(bk n key).1<=n.cells.length/\(∀c,0<(bk n key).1->n.cells[(bk n key).1-1]?=some c->bY key c.key=false)/\(∀c,n.cells[(bk n key).1]?=some c->bY key c.key=true):=by
 have r:=za n.cells key;have s:=mJ n.cells key;have t:=o9 n.cells key;unfold bk;cases hk:il n.cells (bL n.cells key) key with
 |true=>
  rw[if_pos rfl,if_neg (by rw[q];decide)]
  unfold il at hk
  split at hk
  ·rename_i d g;have f:d.key=key:=by simpa using hk
   have i:=(ay.1 g).1;refine⟨i,λc _ e=>?_,λc e=>?_⟩
   ·have:some d=some c:=by rw[<-g,<-e];rfl
    injection this with this;rw[<-this,f];exact bU _
   ·have:=p.at_ (lt_succ_self _) g e;rw[f]at this;exact this
  ·cases hk
 |false=>
  rw[if_neg (by decide)]
  refine⟨r,λc u e=>cq _ _ (s _ (by show bL n.cells key-1<_;have:0<bL n.cells key:=u;omega) c e),λc e=>?_⟩
  have y:=t c e
  cases h5:bY key c.key with
  |true=>rfl
  |false=>
   have z:=iA _ _ h5 y
   have j:n.cells[bL n.cells key]?=some c:=e
   unfold il at hk
   rw[j]at hk
   simp[<-z]at hk
structure zb (op:Ge) (key:aF) (f:List ai->List ai) (pre:List ai->Prop) (st:aB) (O:List Nat):Prop where
 MR:∀A l B,(∀x∈A,bY x.key key=true)->(∀x∈B,bY key x.key=true)->f (A++(l++B))=A++(f l++B)
 pass:∀A l B,(∀x∈A,bY x.key key=true)->(∀x∈B,bY key x.key=true)->pre (A++(l++B))->pre l
 leaf:∀n fl U,n.leaf=true->bJ n->aC n<=508->pre n.cells->Inv st fl (O++U)->∃bg n1 fl1,op st n (bk n key).1 (bk n key).2 bg n1/\Inv bg fl1 U/\gV U st bg/\bg.many=st.many/\n1.leaf=true/\n1.cells=f n.cells/\bJ n1/\aC n1<=760
 keep:∀lo hi l,rl lo hi key->(∀x∈l,rl lo hi x.key)->∀x∈f l,rl lo hi x.key
theorem Bq(leaf:Bool)(cs:List ai)(i:Nat)(c:ai):aT leaf (bZ cs i c)=aT leaf cs+fu leaf c:=by
 unfold bZ;rw[cu,aT]
 conv=>rhs;rw[<-bE i cs,cu]
 omega
theorem sQ{op:Ge}{key:aF}{f:List ai->List ai}{pre:List ai->Prop}{st:aB}{O:List Nat}(af:zb op key f pre st O):∀(h m:Nat) (lo:aF) (hi:Option aF) (no:Nat) (L:List ai) (P fl U:List Nat),bn st h m lo hi no L P->7<=m->rl lo hi key->pre L->Inv st fl (P++(O++U))->st.many+h<65536->∃st' o b5,gZ op key st no st' o/\GS st' h no lo hi (f L) b5 U o/\gV U st st'/\st'.many<=st.many+(h+1):=by
 intro h;induction h with
 |zero=>
  intro m lo hi no L P fl U g cD H Y a2 bb
  obtain⟨n,r,cE,⟨C,rfl,cH⟩,rfl⟩:=g
  have a3:Inv st fl (O++(no::U)):=a2.perm (perm_iff_count.2 λx=>by simp only[count_cons,count_append,count_nil];omega)
  obtain⟨bg,b6,bd,cK,D,j,b7,a4,be,b8,a5⟩:=af.leaf n fl _ C r.2.1 (r.size a2.ok) Y a3
  have cL:gu bg 0 b6 lo hi (f n.cells) []:=⟨a4,be.symm,by rw[be];exact af.keep lo hi _ H cH,rfl⟩
  obtain⟨dC,o,al,a6,am,M,bi⟩:=xa (U:=U) D cL b8 a5 (by omega)
  exact⟨dC,o,al,.leaf st bg dC no n b6 o r C cK a6,am,(j.mono λx d=>.tail _ d).trans M λx d=>d,by omega⟩
 |succ h ih=>
  intro m lo hi no L P fl U g cD H Y a2 bb
  obtain⟨n,Q,r,cE,⟨C,b9⟩,rfl⟩:=g
  have cM:=b9.len
  obtain⟨a4,bj,bl⟩:=mF n key r.2.1.rise C
  obtain⟨i,y⟩:=I ((bk n key).1)
  rw[<-y]at a4 bj bl
  have an:i<n.kids.length:=by omega
  obtain⟨ao,ap,ca,l,cb,cc,p,ce,rfl,rfl,cf,S⟩:=b9.around (λ_ _ _ _ _ h=>bn.keys h) i 0 (by omega)
  have a7:=oo n i an
  have cP:(n.cells.drop i).take 0=[]:=rfl
  have cS:(n.kids.drop i).take 1=[aJ n i]:=by rw[drop_at _ _ _ a7];rfl
  rw[cP,cS]at cf
  cases cf with
  |one _ _ _ _ _ cg=>
  have ch:n.cells≠[]:=λe=>by
   have c2:aC n=6:=by unfold aC;rw[C,e];rfl
   omega
  have K:rl ao ap key:=by
   refine⟨?_,λt g=>?_⟩
   ·rcases eq_zero_or_pos i with a8|a8
    ·rw[S.M7 a8];exact H.1
    ·rw[S.lo1 _ a8 (ak (by omega))];exact bj _ a8 (ak (by omega))
   ·by_cases a8:i=n.cells.length
    ·rw[S.hi0 (by omega)]at g;exact H.2 t g
    ·have bs:=S.hi1 n.cells[i] (ak (by omega));rw[bs]at g;injection g with g;rw[<-g];exact bl _ (ak (by omega))
  have bm:∀x∈ca,bY x.key key=true:=λx d=>fF _ _ _ (S.below x d) K.1
  have bp:∀x∈cb,bY key x.key=true:=λx d=>by obtain⟨s,cV,bs⟩:=S.above x d;exact fF _ _ _ (K.2 s cV) bs
  have a3:Inv st fl (p++(O++(no::(cc++ce++U)))):=a2.perm (perm_iff_count.2 λx=>by simp only[count_cons,count_append];omega)
  obtain⟨bg,o,bd,br,am,j,b7⟩:=ih 127 ao ap (aJ n i) l p fl _ cg (by omega) K (af.pass _ _ _ bm bp Y) a3 (by omega)
  have a0:=af.MR ca l cb bm bp
  have V:∀c∈n.cells,iK c/\1<=c.key.length/\c.key.length<=120:=λc W=>by have:=r.2.1.vals c W;rw[if_neg (by rw[C];decide)]at this;exact⟨this,r.2.1.keys c W⟩
  have bv:=r.size a2.ok
  have cB:aC n=6+aT false n.cells:=by unfold aC;rw[C];rfl
  have cY:bS bg no n:=r.frame j.many (j.page _ (.head _))
  cases o with
  |some u=>
   obtain⟨u,z⟩:=u
   obtain⟨c3,c4,bx,c5,ci,bA,cj,a1,D,bB,ck⟩:=am
   have a9:=Kids.more (T:=λZ ab ac ad ae=>bn bg h 127 Z ab ac ad ae) ⟨u,[],0,0⟩ [] _ _ ao ap _ _ _ _ bA bB (.one _ _ _ _ _ ck)
   have E:=S.Eg (λZ ab ac ad ae=>bn bg h 127 Z ab ac ad ae) (λ_ _ _ _ q b0 g=>bn.frame j.many g λx d=>j.page x (by rcases mem_append.1 (b0 x d)with h|h<;>simp[h])) _ _ _ _ a9
   have b1:n.cells.take i++([(⟨u,[],0,0⟩:ai)]++n.cells.drop (i+0))=bZ n.cells i ⟨u,[],0,0⟩:=rfl
   have b2:n.kids.take i++([aJ n i,z]++n.kids.drop (i+0+1))=bZ n.kids (i+1) z:=by unfold bZ;rw[pE _ _ _ a7,av];rfl
   rw[b1,b2,<-ci,<-a0]at E
   have cl:bJ ⟨false,bZ n.cells i ⟨u,[],0,0⟩,bZ n.kids (i+1) z⟩:=by
    refine kM (st:=bg) E (λc W=>?_) ?_ λk ba=>?_
    ·have cm:c∈n.cells.take i\/c=⟨u,[],0,0⟩\/c∈n.cells.drop i:=by simpa[bZ]using W
     rcases cm with W|rfl|W
     ·exact V c (mem_of_mem_take W)
     ·exact⟨⟨rfl,rfl,rfl⟩,cj,a1⟩
     ·exact V c (mem_of_mem_drop W)
    ·have cn:=kr n;simp[bZ];omega
    ·have a1:k∈n.kids.take (i+1)\/k=z\/k∈n.kids.drop (i+1):=by simpa[bZ]using ba
     rcases a1 with ba|rfl|ba
     ·exact r.2.1.jT k (mem_of_mem_take ba)
     ·exact nr D.ok ck.has
     ·exact r.2.1.jT k (mem_of_mem_drop ba)
   have a5:aC ⟨false,bZ n.cells i ⟨u,[],0,0⟩,bZ n.kids (i+1) z⟩<=760:=by have cn:aC ⟨false,bZ n.cells i ⟨u,[],0,0⟩,bZ n.kids (i+1) z⟩=6+aT false (bZ n.cells i ⟨u,[],0,0⟩):=rfl;have c0:fu false ⟨u,[],0,0⟩<=124:=om a1;rw[cn,Bq];omega
   obtain⟨dC,co,al,a6,b3,M,bi⟩:=xa (h:=h+1) (no:=no) (U:=U) (D.perm (perm_iff_count.2 λx=>by simp only[count_cons,count_append];omega)) ⟨rfl,E⟩ cl a5 (by omega)
   refine⟨dC,co,al,.split st bg dC no z n u co r C (by rw[<-y];exact an) (by rw[<-y];exact br) (by rw[<-y];exact a6),b3,(j.mono λx d=>by simp[d]).trans M λx d=>d,by omega⟩
  |none=>
   obtain⟨bx,D,bB⟩:=am
   have cp:Inv bg bd ((cc++(bx++ce))++(no::U)):=D.perm (perm_iff_count.2 λx=>by simp only[count_cons,count_append];omega)
   have bc:∀Z ab ac ad ae,bn bg h 127 Z ab ac ad ae->uJ bg h (aJ n i) Z ab ac ad ae:=λZ ab ac ad ae g=>bn.mono g (by split<;>omega)
   have a9:=Kids.one (T:=uJ bg h (aJ n i)) (aJ n i) ao ap (f l) bx (by show bn bg h (if aJ n i=aJ n i then 0 else 127) _ _ _ _ _;rw[if_pos rfl];exact bB)
   have E:=S.Eg (uJ bg h (aJ n i)) (λ_ _ _ _ q b0 g=>bc _ _ _ _ _ (bn.frame j.many g λx d=>j.page x (by rcases mem_append.1 (b0 x d)with h|h<;>simp[h]))) _ _ _ _ a9
   have b1:n.cells.take i++([]++n.cells.drop (i+0))=n.cells:=by simp
   have b2:n.kids.take i++([aJ n i]++n.kids.drop (i+0+1))=n.kids:=by
    conv=>rhs;rw[<-bE i n.kids,drop_at _ _ _ a7]
    rfl
   rw[b1,b2,<-a0]at E
   obtain⟨dC,cX,al,c6,cr,ct,M,bi,cv,cw,cx⟩:=GU cp E C r.2.1 bv an ch
   obtain⟨ja,cy,cz,a6,b4,cA,c1⟩:=xa (h:=h+1) (no:=no) (U:=U) (ct.perm (perm_iff_count.2 λx=>by simp only[count_cons,count_append];omega)) cv cw cx (by omega)
   refine⟨ja,cy,cz,.one st bg dC ja no n cX cy r C (by rw[<-y];exact an) (by rw[<-y];exact br) (by rw[<-y];exact cr) a6,b4,((j.mono λx d=>by simp[d]).trans (M.mono λx d=>.tail _ d) λx d=>d).trans cA λx d=>d,by omega⟩
def kf(st:aB)(k:Nat)(L:List ai)(P:List Nat):Prop:=(st.roots k=0/\L=[]/\P=[])\/∃h,bn st h 7 [] none (st.roots k) L P
structure jF (k:Nat) (U:List Nat) (st st':aB):Prop where
 page:∀x∈U,st'.page x=st.page x
 many:st.many<=st'.many
 roots:∀j,j≠k->st'.roots j=st.roots j
theorem gV.Ld{U:List Nat}{a b:aB}(h:gV U a b)(k:Nat):jF k U a b:=⟨h.page,h.many,λj _=>by rw[h.roots]⟩
theorem jF.refl(k:Nat)(U:List Nat)(st:aB):jF k U st st:=⟨λ_ _=>rfl,aa _,λ_ _=>rfl⟩
theorem jF.trans{k:Nat}{U U':List Nat}{a b c:aB}(h:jF k U a b)(g:jF k U' b c)(f:∀x∈U,x∈U'):jF k U a c:=⟨λx d=>(g.page x (f x d)).trans (h.page x d),aO h.many g.many,λj e=>(g.roots j e).trans (h.roots j e)⟩
theorem jF.mono{k:Nat}{U U':List Nat}{a b:aB}(h:jF k U a b)(c:∀x∈U',x∈U):jF k U' a b:=⟨λx d=>h.page x (c x d),h.many,h.roots⟩
theorem jI(st:aB)(k no:Nat)(U:List Nat):jF k U st (bo st k no):=⟨λ_ _=>rfl,aa _,λj c=>by show(if j=k then no else st.roots j)=_;rw[if_neg c]⟩
theorem bn.LX{st:aB}{h m no:Nat}{lo:aF}{hi:Option aF}{L:List ai}{P:List Nat}(g:bn st h m lo hi no L P){n:aj}{Q:List Nat}(f:bS st no n)(i:gu st h n lo hi L Q)(d:n.cells≠[]):7<=aC n:=by
 obtain⟨c,p,e⟩:=exists_cons_of_ne_nil d;have j:=f.2.1.keys c (by rw[e];exact .head _);unfold aC;rw[e,aT];have:4<=fu n.leaf c/\(n.leaf=false->4<=fu n.leaf c):=by
  unfold fu;cases n.leaf
  ·rw[if_neg (by decide)];exact⟨by omega,λ_=>by omega⟩
  ·rw[if_pos rfl];split<;>exact⟨by omega,λe=>by cases e⟩
 split<;>omega
theorem CP{st:aB}{k h no:Nat}{L:List ai}{fl U:List Nat}{o:Option (aF×Nat)}(E:st.roots k=no)(S:GS st h no [] none L fl U o)(bc:st.many<65536):∃st' a0 a1,ue k st no o st'/\kf st' k L a1/\Inv st' a0 (a1++U)/\jF k U st st'/\st'.many<=st.many+1:=by
 cases o with
 |some g=>
  obtain⟨g,f⟩:=g
  obtain⟨a2,a3,ab,ac,rfl,ad,a4,a5,j,bd,be⟩:=S
  obtain⟨bi,a6,ae,s1,m1,bA⟩:=j.alloc bc
  have V:=bn.frame s1.many bd λx d=>s1.page x (by simp[d])
  have W:=bn.frame s1.many be λx d=>s1.page x (by simp[d])
  have p:=Kids.more (T:=λaf al am an ao=>bn (aW st) h 127 af al am an ao) ⟨g,[],0,0⟩ [] _ _ [] none _ _ _ _ ad V (.one _ _ _ _ _ W)
  have bj:bJ ⟨false,[⟨g,[],0,0⟩],[no,f]⟩:=by
   refine kM (st:=aW st) p (λc r=>?_) (by simp) λx d=>?_
   ·rw[mem_singleton.1 r];exact⟨⟨rfl,rfl,rfl⟩,a4,a5⟩
   ·have a7:x=no\/x=f:=by simpa using d
    rcases a7 with rfl|rfl
    ·exact nr ae.ok V.has
    ·exact nr ae.ok W.has
  have bl:aC ⟨false,[⟨g,[],0,0⟩],[no,f]⟩=10+g.length:=by simp[aC,aT,fu];omega
  obtain⟨bm,t,s2,u,bp⟩:=ae.save _ bj (by omega)
  have a8:Kids (λaf al am an ao=>bn (aY (aW st) (aG st) ⟨false,[⟨g,[],0,0⟩],[no,f]⟩) h 127 af al am an ao) [⟨g,[],0,0⟩] [no,f] [] none (a2++a3) (ab++ac):=p.imp λ_ _ _ _ q br _ H=>bn.frame s2.many H λx d=>s2.page x (by rcases mem_append.1 (br x d)with h|h<;>simp[h])
  have bs:bn (aY (aW st) (aG st) ⟨false,[⟨g,[],0,0⟩],[no,f]⟩) (h+1) 7 [] none (aG st) (a2++a3) (aG st::(ab++ac)):=⟨_,_,bp,by rw[bl];omega,⟨rfl,a8⟩,rfl⟩
  have a9:=(t.wZ (.head _)).2
  refine⟨_,a6,aG st::(ab++ac),.two st no f g bi bm,.inr ⟨h+1,?_⟩,(t.perm ?_).rP k a9,(((s1.Ld k).mono λx d=>by simp[d]).trans (s2.Ld k) λx d=>by simp[d]).trans (jI _ _ _ U) λx d=>d,?_⟩
  ·have e:(bo (aY (aW st) (aG st) ⟨false,[⟨g,[],0,0⟩],[no,f]⟩) k (aG st)).roots k=aG st:=by show(if k=k then _ else _)=_;rw[if_pos rfl]
   rw[e];exact bn.frame (st:=aY (aW st) (aG st) ⟨false,[⟨g,[],0,0⟩],[no,f]⟩) (st':=bo (aY (aW st) (aG st) ⟨false,[⟨g,[],0,0⟩],[no,f]⟩) k (aG st)) (aa _) bs λ_ _=>rfl
  ·exact perm_iff_count.2 λx=>by simp only[count_cons,count_append];omega
  ·exact aO (Nat.le_of_eq u) m1
 |none=>
  obtain⟨P,j,H⟩:=S
  obtain⟨n,Q,z,_,K,rfl⟩:=H.node
  by_cases r:n.cells=[]
  ·have ba:=j.wZ (.head _);cases h with
   |zero=>
    obtain⟨ap,rfl,bB,rfl⟩:=K
    have s:(if n.leaf=true then 0 else aJ n 0)=0:=by rw[if_pos ap]
    have C:=j.rP (no:=0) k (by have:=j.ok.one;omega)
    obtain⟨t,s2,u⟩:=C.free
    have i:=ue.less (k:=k) st no n z r (by rw[s];have:=j.ok.one;omega) ba
    rw[s]at i
    refine⟨_,_,[],i,.inl ⟨?_,r,rfl⟩,t,(jI st k 0 U).trans ((s2.Ld k)) λx d=>d,by rw[u];exact le_succ _⟩
    rw[s2.roots]
    show(if k=k then _ else _)=_
    rw[if_pos rfl]
   |succ h=>
    obtain⟨ap,M⟩:=K
    rw[r]at M
    have bb:∃x,n.kids=[x]:=by have:=M.len;simp at this;exact length_eq_one_iff.1 this
    obtain⟨x,d⟩:=bb
    rw[d]at M
    cases M with
    |one _ _ _ _ _ Y=>
    have s:(if n.leaf=true then 0 else aJ n 0)=x:=by rw[if_neg (by rw[ap];decide)];unfold aJ;rw[d];rfl
    have Z:=Y.has
    have C:=j.rP (no:=x) k Z.2
    obtain⟨t,s2,u⟩:=C.free
    have i:=ue.less (k:=k) st no n z r (by rw[s];exact Z.2) ba
    rw[s]at i
    have D:(eO (bo st k x) no).roots k=x:=by rw[s2.roots];show(if k=k then _ else _)=_;rw[if_pos rfl]
    refine⟨_,_,Q,i,.inr ⟨h,?_⟩,t,((jI st k x (Q++U)).trans (s2.Ld k) λx d=>d).mono λx d=>by simp[d],by rw[u];exact le_succ _⟩
    rw[D]
    exact(bn.frame (st:=st) s2.many Y λy bv=>s2.page y (by simp[bv])).mono (by omega)
  ·have bx:=H.LX z K r;exact⟨st,fl,no::Q,.stays st no n z r,.inr ⟨h,by rw[E];exact K.tree z bx⟩,j,jF.refl _ _ _,le_succ _⟩
theorem gK.frame{st st':aB}{no long:Nat}{l:List (Nat×List UInt8)}(h:gK st no long l)(i:st.many<=st'.many)(c:∀x∈l.map (·.1),st'.page x=st.page x):gK st' no long l:=by
 induction h with
 |nil no=>exact .nil no
 |cons no long l j d p ih=>
  have e:=c no (by simp)
  have f:=ih λx g=>c x (by simp at g⊢;exact .inr g)
  rw[<-e]at f⊢
  exact .cons no long l j ⟨d.1,aN d.2 i⟩ f
theorem gK.lt{st:aB}{no long:Nat}{l:List (Nat×List UInt8)}(h:gK st no long l)(d:0<long):st.has no:=by
 cases h with
 |nil=>omega
 |cons _ _ _ _ c _=>exact c
theorem Ej{st:aB}{no long:Nat}{l:List (Nat×List UInt8)}(h:gK st no long l):∀{fl U:List Nat},Inv st fl (l.map (·.1)++U)->∃st' f,lP st no long st'/\Inv st' f U/\gV U st st'/\st'.many=st.many:=by
 generalize d:l.length=n;induction n generalizing st no long l with
 |zero=>
  intro fl U e
  have:l=[]:=bT d
  subst this
  cases h with
  |nil=>exact⟨st,fl,.nil st no,e,gV.refl _ _,rfl⟩
 |succ n ih=>
  intro fl U e
  cases h with
  |nil=>simp at d
  |cons _ _ y p q r=>
   have g:Inv st fl (no::(y.map (·.1)++U)):=e
   obtain⟨s,s2,t⟩:=g.free
   have i:=r.frame (st':=eO st no) (aa _) λx c=>s2.page x (mem_append_left _ c)
   obtain⟨ja,j,u,i3,s3,m3⟩:=ih i (by simpa using d) s
   exact⟨ja,j,.cons st ja no long p q u,i3,(s2.mono λx c=>mem_append_right _ c).trans s3 λx c=>c,by rw[m3,t]⟩
theorem nP(b:List UInt8)(i:Nat):(gU b (i+1)).reverse=(b.drop (505*i)).take 505::(gU b i).reverse:=by unfold gU;rw[range_succ,map_append,reverse_append];rfl
theorem ze(b:List UInt8):∀(i:Nat) {st:aB} {o:Nat} {l:List (Nat×List UInt8)} {fl U:List Nat},(i=0\/505*(i-1)<b.length)->gK st o (b.length-505*i) l->l.flatMap (·.2)=b.drop (505*i)->(o=0\/st.has o)->Inv st fl (l.map (·.1)++U)->st.many+i<=65536->∃st' p s D,nO st (gU b i).reverse o st' p/\gK st' p b.length s/\s.flatMap (·.2)=b/\Inv st' D (s.map (·.1)++U)/\gV U st st'/\st'.many<=st.many+i/\(p=0\/st'.has p)
 |0,st,o,l,fl,U,_,t,u,y,q,_=>⟨st,o,l,fl,.nil st o,by simpa using t,by simpa using u,q,gV.refl _ _,aa _,y⟩
 |i+1,st,o,l,fl,U,hi,t,u,y,q,an=>by
  have al:505*i<b.length:=by rcases hi with h|h;omega;exact h
  obtain⟨S,E,V,s1,m1,ao⟩:=q.alloc (by omega)
  have am:o<65536:=by rcases y with h|h;omega;have:=h.2;have:=q.ok.most;omega
  have d:((b.drop (505*i)).take 505).length=min 505 (b.length-505*i):=by rw[aH,aQ]
  obtain⟨r,s2,W⟩:=V.write (leB 3 o++(b.drop (505*i)).take 505) (by rw[aq,bq,d];omega)
  obtain⟨dC,f⟩:=I (fQ (aW st) (aG st) (leB 3 o++(b.drop (505*i)).take 505))
  rw[<-f]at r s2 W
  have g:dC.page (aG st)=(leB 3 o++(b.drop (505*i)).take 505)++zB (508-(leB 3 o++(b.drop (505*i)).take 505).length):=by rw[f];show(if aG st=aG st then _ else _)=_;rw[if_pos rfl]
  have H:gK dC o (b.length-505*(i+1)) l:=(t.frame s1.many λx c=>s1.page x (mem_append_left _ c)).frame s2.many λx c=>s2.page x (mem_append_left _ c)
  have z:fH ((dC.page (aG st)).take 3)=o:=by rw[g,av,take_left' (bq _ _),fV,mod_eq_of_lt (by omega)]
  have j:((dC.page (aG st)).drop 3).take (min (b.length-505*i) 505)=(b.drop (505*i)).take 505:=by rw[g,av,drop_left' (bq _ _),take_append_of_le_length (by rw[d];omega),bQ (by rw[d];omega)]
  have C:gK dC (aG st) (b.length-505*i) ((aG st,(b.drop (505*i)).take 505)::l):=by rw[<-j];refine .cons _ _ _ (by omega) (r.wZ (.head _)) ?_;rw[z,Nat.sub_sub];exact H
  obtain⟨ja,K,Y,M,Z,ab,ac,ad,ae,ap,af⟩:=ze b i (st:=dC) (o:=aG st) (l:=(aG st,(b.drop (505*i)).take 505)::l) (fl:=E) (U:=U)
   (by by_cases e:i=0;exact .inl e;exact .inr (by omega)) C (by rw[flatMap_cons,u];show(b.drop (505*i)).take 505++_=_;rw[mul_succ,<-drop_drop,bE]) (.inr (r.wZ (.head _))) r (by omega)
  refine⟨ja,K,Y,M,?_,ab,ac,ad,((s1.mono λx c=>mem_append_right _ c).trans (s2.mono λx c=>mem_append_right _ c) λx c=>c).trans ae λx c=>c,by omega,af⟩
  rw[nP]
  refine .cons st ja _ _ o K S ?_
  rw[<-f];exact Z
def D5(st:aB)(c:ai)(b:List UInt8)(ps:List Nat):Prop:=(c.over=0/\b=c.val/\ps=[])\/(c.over≠0/\∃l,gK st c.over c.long l/\b=l.flatMap (·.2)/\ps=l.map (·.1))
theorem D5.frame{st st':aB}{c:ai}{b:List UInt8}{ps:List Nat}(h:D5 st c b ps)(d:st.many<=st'.many)(e:∀x∈ps,st'.page x=st.page x):D5 st' c b ps:=by
 rcases h with h|⟨f,l,g,i,rfl⟩
 ·exact .inl h
 ·exact .inr ⟨f,l,g.frame d e,i,rfl⟩
theorem zf{st:aB}{c:ai}{b:List UInt8}{ps fl U:List Nat}(h:D5 st c b ps)(g:Inv st fl (ps++U)):∃st' e,qP st c st'/\Inv st' e U/\gV U st st'/\st'.many=st.many:=by
 rcases h with⟨f,_,rfl⟩|⟨f,l,j,_,rfl⟩
 ·exact⟨st,fl,.inl ⟨f,rfl⟩,g,gV.refl _ _,rfl⟩
 ·obtain⟨st',e,d,i,s,m⟩:=Ej j g;exact⟨st',e,.inr ⟨f,d⟩,i,s,m⟩
theorem GV{st:aB}{fl U:List Nat}(f:Inv st fl U)(key b:List UInt8)(p:b.length<=20000)(u:st.many+40<=65536):∃st' c ps d,qM st key b st' c/\c.key=key/\gJ c/\D5 st' c b ps/\Inv st' d (ps++U)/\gV U st st'/\st'.many<=st.many+40:=by
 rcases aA 64 b.length with e|e
 ·obtain⟨k,q⟩:=I ((b.length+504)/505 );obtain⟨st',o,l,d,r,g,s,i,t,y,z⟩:=ze b k (st:=st) (o:=0) (l:=[]) (fl:=fl) (U:=U) (.inr (by omega)) (by
   rw[show b.length-505*k=0 from by omega];exact .nil 0) (by
   rw[drop_of_length_le (by omega)];rfl) (.inl rfl) f (by omega)
  have j:=g.lt (by omega);refine⟨st',⟨key,[],o,b.length⟩,l.map (·.1),d,.inr ⟨e,o,by rw[<-q];exact r,rfl⟩,rfl,.inr ⟨nr i.ok j,e,p,rfl⟩,.inr ⟨by have:=j.1;show o≠0;omega,l,g,s.symm,rfl⟩,i,t,by omega⟩
 ·exact⟨st,⟨key,b,0,0⟩,[],fl,.inl ⟨e,rfl,rfl⟩,rfl,.inl ⟨rfl,rfl,e⟩,.inl ⟨rfl,rfl,rfl⟩,f,gV.refl _ _,by omega⟩
def uK(L:List ai)(key:aF):List ai:=L.filter λc=>bY c.key key
def qR(L:List ai)(key:aF):List ai:=L.filter λc=>bY key c.key
def jx(c:ai)(L:List ai):List ai:=uK L c.key++c::qR L c.key
def lU(key:aF)(L:List ai):List ai:=uK L key++qR L key
section
variable {key:aF}{A B l L:List ai}
theorem GW(h:∀x∈A,bY x.key key=true):uK A key=A:=filter_eq_self.2 h
theorem CQ(h:∀x∈A,bY x.key key=false):uK A key=[]:=filter_eq_nil_iff.2 λx c=>by rw[h x c];decide
theorem Br(h:∀x∈A,bY key x.key=true):qR A key=A:=filter_eq_self.2 h
theorem CR(h:∀x∈A,bY key x.key=false):qR A key=[]:=filter_eq_nil_iff.2 λx c=>by rw[h x c];decide
theorem Bt(A B:List ai)(key:aF):uK (A++B) key=uK A key++uK B key:=filter_append ..
theorem Bu(A B:List ai)(key:aF):qR (A++B) key=qR A key++qR B key:=filter_append ..
theorem Bv(c:∀x∈A,bY x.key key=true)(d:∀x∈B,bY key x.key=true):uK (A++(l++B)) key=A++uK l key:=by rw[Bt,Bt,GW c,CQ (A:=B) λx e=>cq _ _ (d x e),append_nil]
theorem Bw(c:∀x∈A,bY x.key key=true)(d:∀x∈B,bY key x.key=true):qR (A++(l++B)) key=qR l key++B:=by rw[Bu,Bu,CR (A:=A) λx e=>cq _ _ (c x e),Br d,nil_append]
theorem ji(M:cW L)(key:aF):uK L key=L.take (bL L key)/\(il L (bL L key) key=false->qR L key=L.drop (bL L key))/\(∀q,L[bL L key]?=some q->q.key=key->qR L key=L.drop (bL L key+1)):=by
 have z:∀x∈L.take (bL L key),bY x.key key=true:=λx c=>by
  obtain⟨j,r⟩:=mem_iff_getElem?.1 c;rw[bw]at r;split at r
  ·exact mJ L key j (by assumption) x r
  ·cases r
 have C:=o9 L key;have s:=M;rw[<-bE (bL L key) L]at s;have i:=s.right;have W:=za L key;have f:∀x∈L.drop (bL L key),bY x.key key=false:=λx c=>by
  rcases aA (bL L key) L.length with g|f
  ·have e:=drop_eq_getElem_cons g;have D:=C _ (ak g);rw[e]at c i;rcases mem_cons.1 c with rfl|c
   ·exact D
   ·exact qt _ _ _ D (cq _ _ (i.1 x c))
  ·rw[drop_of_length_le f]at c;cases c
 have E:uK L key=L.take (bL L key):=by
  conv=>lhs;rw[<-bE (bL L key) L]
  rw[Bt,GW z,CQ f,append_nil]
 have t:qR L key=qR (L.drop (bL L key)) key:=by
  conv=>lhs;rw[<-bE (bL L key) L]
  rw[Bu,CR (λx c=>cq _ _ (z x c)),nil_append]
 refine⟨E,λp=>?_,λq S p=>?_⟩
 ·rw[t];refine Br λx c=>?_;cases g:bY key x.key with
  |true=>rfl
  |false=>
   exfalso
   have H:=iA _ _ g (f x c)
   rcases aA (bL L key) L.length with d|u
   ·have e:=drop_eq_getElem_cons d;unfold il at p;rw[ak d]at p;rw[e]at c i;have K:L[bL L key].key≠key:=by simpa using p
    rcases mem_cons.1 c with rfl|c
    ·exact K H.symm
    ·have y:=i.1 x c;rw[<-H]at y;rw[C _ (ak d)]at y;cases y
   ·rw[drop_of_length_le u]at c;cases c
 ·rw[t];obtain⟨d,V⟩:=ay.1 S;rw[drop_eq_getElem_cons d,V]at i⊢;have:qR (q::L.drop (bL L key+1)) key=qR (L.drop (bL L key+1)) key:=by unfold qR;rw[filter_cons_of_neg (by rw[p,bU];decide)]
  rw[this];refine Br λx c=>?_;rw[<-p];exact i.1 x c
theorem cW.filter{L:List ai}(h:cW L)(p:ai->Bool):cW (L.filter p):=by
 induction L with
 |nil=>trivial
 |cons a e ih=>
  rw[filter_cons]
  split
  ·exact⟨λd c=>h.1 d (mem_filter.1 c).1,ih h.2⟩
  ·exact ih h.2
theorem cW.ins{c:ai}(h:cW L):cW (jx c L):=by
 refine(h.filter _).append (b:=c::qR L c.key) ⟨λd g=>(mem_filter.1 g).2,h.filter _⟩ λx i y e=>?_;have f:=(mem_filter.1 i).2;rcases mem_cons.1 e with rfl|e
 ·exact f
 ·exact dq _ _ _ f (mem_filter.1 e).2
theorem cW.del{key:aF}(h:cW L):cW (lU key L):=(h.filter _).append (h.filter _) λx c y d=>dq _ _ _ (mem_filter.1 c).2 (mem_filter.1 d).2
theorem pF{c x:ai}(h:x∈jx c L):x=c\/x∈L:=by
 rcases mem_append.1 h with h|h
 ·exact .inr (mem_filter.1 h).1
 ·rcases mem_cons.1 h with h|h
  ·exact .inl h
  ·exact .inr (mem_filter.1 h).1
theorem zg{x:ai}(h:x∈lU key L):x∈L:=by
 rcases mem_append.1 h with h|h
 ·exact(mem_filter.1 h).1
 ·exact(mem_filter.1 h).1
end
theorem uL(leaf:Bool)(L:List ai)(key:aF):aT leaf (uK L key)+aT leaf (qR L key)<=aT leaf L:=by
 induction L with
 |nil=>exact aa _
 |cons a c ih=>
  unfold uK qR at *
  rw[filter_cons,filter_cons,aT]
  by_cases h:bY a.key key=true
  ·rw[if_pos h,if_neg (by rw[cq _ _ h];decide),aT];omega
  ·rw[if_neg h];split
   ·rw[aT];omega
   ·omega
theorem oq{n d:aj}(t:n.leaf=true)(p:bJ n)(f:d.leaf=true)(g:d.kids=[])(q:∀c∈d.cells,(c∈n.cells\/(gJ c/\1<=c.key.length/\c.key.length<=120)))(r:cW d.cells)(i:d.cells.length<65536):bJ d:=by
 refine⟨λ_=>g,λe=>(by rw[f]at e;cases e),i,λc j=>?_,r,λc j=>?_,λk s=>(by rw[g]at s;cases s)⟩
 ·rcases q c j with h|h
  ·exact p.keys c h
  ·exact h.2
 ·rw[if_pos f];rcases q c j with h|h
  ·have:=p.vals c h;rw[if_pos t]at this;exact this
  ·exact h.1
theorem j8(n:aj)(key:aF)(c:n.leaf=true):bk n key=(bL n.cells key,il n.cells (bL n.cells key) key):=by
 unfold bk;cases h:il n.cells (bL n.cells key) key with
 |true=>rw[if_pos rfl,if_pos c]
 |false=>rw[if_neg (by decide)]
theorem zh{c:ai}{n:aj}(d:n.leaf=true)(i:aC n<=508)(e:c.key.length<=120)(f:gJ c):aC ⟨true,jx c n.cells,[]⟩<=760/\(jx c n.cells).length<65536:=by
 have j:=uL true n.cells c.key;have p:=oh e f;have q:aC n=3+aT true n.cells:=by unfold aC;rw[d];rfl
 have r:aC ⟨true,jx c n.cells,[]⟩=3+aT true (jx c n.cells):=rfl;have s:aT true (jx c n.cells)=aT true (uK n.cells c.key)+(fu true c+aT true (qR n.cells c.key)):=by unfold jx;rw[cu,aT]
 have g:=kr ⟨true,jx c n.cells,[]⟩;have t:3*(jx c n.cells).length+3<=aC ⟨true,jx c n.cells,[]⟩:=g;exact⟨by omega,by omega⟩
theorem zi{st:aB}{c:ai}(t:gJ c)(C:1<=c.key.length)(u:c.key.length<=120):zb (px c) c.key (jx c) (λL=>∀x∈L,x.key≠c.key) st []:=by
 refine⟨λA l B j p=>?_,λA l B j p q x r=>q x (by simp[r]),λn fl U e f D q E=>?_,λlo hi l H K x r=>?_⟩
 ·unfold jx;rw[Bv j p,Bw j p,av,av];rfl
 ·have y:=j8 n c.key e;have g:il n.cells (bL n.cells c.key) c.key=false:=by
   unfold il;split
   ·rename_i d s;have:=q d (bu s);simpa using this
   ·rfl
  obtain⟨M,S,_⟩:=ji f.rise c.key;have V:bZ n.cells (bL n.cells c.key) c=jx c n.cells:=by unfold bZ jx;rw[M,S g]
  have i:=zh e D u t;have z:(⟨n.leaf,bZ n.cells (bL n.cells c.key) c,n.kids⟩:aj)=⟨true,jx c n.cells,[]⟩:=by rw[V,e,f.fT e]
  refine⟨st,⟨true,jx c n.cells,[]⟩,fl,?_,by simpa using E,gV.refl _ _,rfl,rfl,rfl,oq e f rfl rfl (λd s=>?_) f.rise.ins i.2,i.1⟩
  ·rw[y,g];exact .inl ⟨rfl,rfl,z.symm⟩
  ·rcases pF s with rfl|h
   ·exact .inr ⟨t,C,u⟩
   ·exact .inl h
 ·rcases pF r with rfl|h
  ·exact H
  ·exact K x h
theorem lQ{L:List ai}{old:ai}(g:cW L)(i:old∈L):L[bL L old.key]?=some old/\il L (bL L old.key) old.key=true:=by
 obtain⟨j,c⟩:=mem_iff_getElem?.1 i;have r:¬j<bL L old.key:=λh=>by have:=mJ L old.key j h old c;rw[bU]at this;cases this
 have q:=(ay.1 c).1;have e:bL L old.key=j:=by
  rcases aA (bL L old.key) j with h|h
  ·have d:bL L old.key<L.length:=by omega
   have f:=o9 L old.key _ (ak d);have p:=g.at_ h (ak d) c;rw[p]at f;cases f
  ·omega
 rw[e];refine⟨c,?_⟩;unfold il;rw[c];simp
theorem zj{st:aB}{c old:ai}{b:List UInt8}{O:List Nat}(u:gJ c)(K:1<=c.key.length)(y:c.key.length<=120)(M:D5 st old b O)(f:old.key=c.key):zb (px c) c.key (jx c) (λL=>old∈L) st O:=by
 refine⟨λA l B j p=>?_,λA l B j p s=>?_,λn fl U g i S s V=>?_,λlo hi l f W x Y=>?_⟩
 ·unfold jx;rw[Bv j p,Bw j p,av,av];rfl
 ·have z:old∈A\/old∈l\/old∈B:=by simpa using s
  rcases z with h|h|h
  ·have:=j old h;rw[f,bU]at this;cases this
  ·exact h
  ·have:=p old h;rw[f,bU]at this;cases this
 ·have C:=j8 n c.key g;obtain⟨e,q⟩:=lQ i.rise s;rw[f]at e q;obtain⟨Z,_,ab⟩:=ji i.rise c.key;have D:=(ay.1 e).1;have ac:n.cells.set (bL n.cells c.key) c=jx c n.cells:=by unfold jx;rw[Z,ab old e f,set_eq_take_append_cons_drop,if_pos D]
  have r:=zh g S y u;have E:(⟨n.leaf,n.cells.set (bL n.cells c.key) c,n.kids⟩:aj)=⟨true,jx c n.cells,[]⟩:=by rw[ac,g,i.fT g]
  obtain⟨bg,H,t,ad,s1,m1⟩:=zf M V;refine⟨bg,⟨true,jx c n.cells,[]⟩,H,?_,ad,s1,m1,rfl,rfl,oq g i rfl rfl (λd t=>?_) i.rise.ins r.2,r.1⟩
  ·rw[C,q];exact .inr ⟨rfl,old,e,t,E.symm⟩
  ·rcases pF t with rfl|h
   ·exact .inr ⟨u,K,y⟩
   ·exact .inl h
 ·rcases pF Y with rfl|h
  ·exact f
  ·exact W x h
theorem JJ{st:aB}{old:ai}{b:List UInt8}{O:List Nat}(y:D5 st old b O):zb yQ old.key (lU old.key) (λL=>old∈L) st O:=by
 refine⟨λA l B f g=>?_,λA l B f g p=>?_,λn fl U c e V p z=>?_,λlo hi l W C x D=>C x (zg D)⟩
 ·unfold lU;rw[Bv f g,Bw f g,av,av]
 ·have r:old∈A\/old∈l\/old∈B:=by simpa using p
  rcases r with h|h|h
  ·have:=f old h;rw[bU]at this;cases this
  ·exact h
  ·have:=g old h;rw[bU]at this;cases this
 ·have s:=j8 n old.key c;obtain⟨i,S⟩:=lQ e.rise p;obtain⟨E,_,H⟩:=ji e.rise old.key;have K:n.cells.eraseIdx (bL n.cells old.key)=lU old.key n.cells:=by unfold lU;rw[E,H old i rfl,eraseIdx_eq_take_drop_succ]
  have t:(⟨n.leaf,n.cells.eraseIdx (bL n.cells old.key),n.kids⟩:aj)=⟨true,lU old.key n.cells,[]⟩:=by rw[K,c,e.fT c]
  obtain⟨bg,u,q,M,s1,m1⟩:=zf y z;have j:aC ⟨true,lU old.key n.cells,[]⟩<=760/\(lU old.key n.cells).length<65536:=by
   have Y:=uL true n.cells old.key;have Z:aC n=3+aT true n.cells:=by unfold aC;rw[c];rfl
   have ab:aC ⟨true,lU old.key n.cells,[]⟩=3+aT true (lU old.key n.cells):=rfl;have ac:aT true (lU old.key n.cells)=aT true (uK n.cells old.key)+aT true (qR n.cells old.key):=by unfold lU;rw[cu]
   have ad:3*(lU old.key n.cells).length+3<=aC ⟨true,lU old.key n.cells,[]⟩:=kr ⟨true,lU old.key n.cells,[]⟩;exact⟨by omega,by omega⟩
  refine⟨bg,⟨true,lU old.key n.cells,[]⟩,u,?_,M,s1,m1,rfl,rfl,oq c e rfl rfl (λd q=>.inl (zg q)) e.rise.del j.2,j.1⟩;rw[s];exact⟨old,i,q,t.symm⟩
abbrev KV:=aF×List UInt8
inductive dg (st:aB):List ai->List KV->List Nat->Prop
 |nil:dg st [] [] []
 |cons (c:ai) (L:List ai) (b:List UInt8) (kv:List KV) (ps O:List Nat) (h:D5 st c b ps) (hr:dg st L kv O):dg st (c::L) ((c.key,b)::kv) (ps++O)
section
variable {st st':aB}{L A B:List ai}{kv:List KV}{O:List Nat}
theorem dg.frame(h:dg st L kv O)(f:st.many<=st'.many)(e:∀x∈O,st'.page x=st.page x):dg st' L kv O:=by
 induction h with
 |nil=>exact .nil
 |cons c L b kv ps O h g ih=>exact .cons c L b kv ps O (h.frame f λx d=>e x (mem_append_left _ d)) (ih λx d=>e x (mem_append_right _ d))
theorem dg.keys(h:dg st L kv O):kv.map (·.1)=L.map (·.key):=by
 induction h with
 |nil=>rfl
 |cons c L b kv ps O h d ih=>rw[map_cons,map_cons,ih]
theorem dg.len(h:dg st L kv O):kv.length=L.length:=by have:=congrArg List.length h.keys;simpa using this
theorem dg.app{d:List KV}{e:List Nat}(h:dg st A kv O)(f:dg st B d e):dg st (A++B) (kv++d) (O++e):=by
 induction h with
 |nil=>exact f
 |cons c L b kv ps O h g ih=>rw[cons_append,cons_append,av];exact .cons c _ b _ ps _ h ih
theorem dg.split:∀{A B:List ai} {kv:List KV} {O:List Nat},dg st (A++B) kv O->∃c d e OB,kv=c++d/\O=e++OB/\dg st A c e/\dg st B d OB
 |[],B,kv,O,h=>⟨[],kv,[],O,rfl,rfl,.nil,h⟩
 |a::A,B,_,_,h=>by
  rw[cons_append]at h
  cases h with
  |cons _ _ b kv ps O h f=>
   obtain⟨c,d,e,OB,rfl,rfl,g,i⟩:=dg.split f
   exact⟨(a.key,b)::c,d,ps++e,OB,rfl,(av ..).symm,.cons a A b c ps e h g,i⟩
end
def ru(kv:List KV)(key:aF):List KV:=kv.filter λp=>bY p.1 key
def py(kv:List KV)(key:aF):List KV:=kv.filter λp=>bY key p.1
def eP(key:aF)(b:List UInt8)(kv:List KV):List KV:=ru kv key++(key,b)::py kv key
def lD(key:aF)(kv:List KV):List KV:=ru kv key++py kv key
theorem mG{L:List ai}{kv:List KV}(c:kv.map (·.1)=L.map (·.key)){p:aF->Prop}(h:∀x∈L,p x.key):∀q∈kv,p q.1:=by
 intro q d;have:q.1∈L.map (·.key):=by rw[<-c];exact aM.2 ⟨q,d,rfl⟩
 obtain⟨x,f,e⟩:=aM.1 this;rw[<-e];exact h x f
theorem zk{A B:List KV}{key:aF}(c:∀q∈A,bY q.1 key=true)(d:∀q∈B,bY q.1 key=false):ru (A++B) key=A:=by unfold ru;rw[filter_append,filter_eq_self.2 c,filter_eq_nil_iff.2 λq e=>by rw[d q e];decide,append_nil]
theorem zl{A B:List KV}{key:aF}(c:∀q∈A,bY key q.1=false)(d:∀q∈B,bY key q.1=true):py (A++B) key=B:=by unfold py;rw[filter_append,filter_eq_self.2 d,filter_eq_nil_iff.2 λq e=>by rw[c q e];decide,nil_append]
theorem AZ{L:List ai}{key:aF}{x:ai}(h:x∈uK L key):bY x.key key=true:=(mem_filter.1 h).2
theorem GX{L:List ai}{key:aF}{x:ai}(h:x∈qR L key):bY key x.key=true:=(mem_filter.1 h).2
theorem dg.GY{st:aB}{L:List ai}{kv:List KV}{O:List Nat}(h:dg st L kv O)(C:cW L)(key:aF)(D:∀x∈L,x.key≠key):∃c OB,O=c++OB/\dg st (uK L key) (ru kv key) c/\dg st (qR L key) (py kv key) OB:=by
 have i:il L (bL L key) key=false:=by
  unfold il;split
  ·rename_i d E;have:=D d (bu E);simpa using this
  ·rfl
 obtain⟨H,e,_⟩:=ji C key;have e:=e i;have K:L=uK L key++qR L key:=by rw[H,e,bE]
 have j:=h;rw[K]at j;obtain⟨r,s,c,OB,rfl,rfl,t,u⟩:=j.split;have y:∀q∈r,bY q.1 key=true:=mG (p:=λx=>bY x key=true) t.keys λx f=>AZ f;have z:∀q∈s,bY key q.1=true:=mG (p:=λx=>bY key x=true) u.keys λx f=>GX f;rw[zk y λq g=>cq _ _ (z q g),zl (λq g=>cq _ _ (y q g)) z];exact⟨c,OB,rfl,t,u⟩
theorem dg.zm{st:aB}{L:List ai}{kv:List KV}{O:List Nat}(h:dg st L kv O)(s:cW L)(old:ai)(E:old∈L):∃f t OB b,O=f++(t++OB)/\D5 st old b t/\kv=ru kv old.key++(old.key,b)::py kv old.key/\dg st (uK L old.key) (ru kv old.key) f/\dg st (qR L old.key) (py kv old.key) OB:=by
 obtain⟨i,W⟩:=lQ s E;obtain⟨H,_,j⟩:=ji s old.key;have j:=j old i rfl;have K:L=uK L old.key++old::qR L old.key:=by rw[H,j,<-drop_at _ _ _ i,bE]
 have u:=h;rw[K]at u;obtain⟨e,c,f,OB,rfl,rfl,y,g⟩:=u.split;cases g with
 |cons _ _ b c ps OB M g=>
 have z:∀q∈e,bY q.1 old.key=true:=mG (p:=λx=>bY x old.key=true) y.keys λx r=>AZ r;have C:∀q∈c,bY old.key q.1=true:=mG (p:=λx=>bY old.key x=true) g.keys λx r=>GX r;have S:ru (e++(old.key,b)::c) old.key=e:=zk z λq d=>by
  rcases mem_cons.1 d with rfl|d
  ·exact bU _
  ·exact cq _ _ (C q d)
 have V:py (e++(old.key,b)::c) old.key=c:=by
  have D:=zl (A:=e++[(old.key,b)]) (B:=c) (key:=old.key) (λq d=>by
   rcases mem_append.1 d with d|d
   ·exact cq _ _ (z q d)
   ·rw[mem_singleton.1 d];exact bU _) C
  rw[av]at D;exact D
 rw[S,V];exact⟨f,ps,OB,b,rfl,M,rfl,y,g⟩
def ig(st:aB)(k:Nat)(kv:List KV)(c:List Nat):Prop:=∃L P O,kf st k L P/\dg st L kv O/\c=P++O
theorem kf.frame{st st':aB}{k:Nat}{L:List ai}{P:List Nat}(h:kf st k L P)(d:st.many<=st'.many)(c:st'.roots k=st.roots k)(e:∀x∈P,st'.page x=st.page x):kf st' k L P:=by
 rcases h with⟨f,g,i⟩|⟨h,j⟩
 ·exact .inl ⟨c.trans f,g,i⟩
 ·exact .inr ⟨h,by rw[c];exact j.frame d e⟩
theorem ig.frame{st st':aB}{k:Nat}{kv:List KV}{c:List Nat}(h:ig st k kv c)(e:st.many<=st'.many)(g:st'.roots k=st.roots k)(f:∀x∈c,st'.page x=st.page x):ig st' k kv c:=by obtain⟨L,P,O,i,j,rfl⟩:=h;exact⟨L,P,O,i.frame e g λx d=>f x (mem_append_left _ d),j.frame e λx d=>f x (mem_append_right _ d),rfl⟩
theorem kf.rise{st:aB}{k:Nat}{L:List ai}{P:List Nat}(h:kf st k L P):cW L:=by
 rcases h with⟨_,rfl,_⟩|⟨h,c⟩
 ·trivial
 ·exact c.rise
theorem Ek{T:aF->Option aF->Nat->List ai->List Nat->Prop}{cs:List ai}{ks:List Nat}{lo:aF}{hi:Option aF}{L:List ai}{P:List Nat}(h:Kids T cs ks lo hi L P)(z:Nat)(d:∀lo hi k l p,T lo hi k l p->z<=l.length):z*(cs.length+1)<=L.length:=by
 induction h with
 |one k lo hi L P h=>simpa using d _ _ _ _ _ h
 |more c cs k ks lo hi l p L P e h f ih=>
  have:=d _ _ _ _ _ h
  rw[aq,length_cons,mul_succ]
  omega
theorem bn.qp{st:aB}:∀{h m:Nat} {lo:aF} {hi:Option aF} {no:Nat} {L:List ai} {P:List Nat},bn st h m lo hi no L P->7<=m->2^h<=L.length
 |0,m,_,_,_,_,_,⟨n,f,g,⟨d,rfl,_⟩,_⟩,i=>by
  rcases eq_zero_or_pos n.cells.length with c|c
  ·have e:=bT c;have:aC n=3:=by unfold aC;rw[d,e];rfl
   omega
  ·exact c
 |h+1,m,_,_,_,_,_,⟨n,Q,f,g,⟨d,j⟩,_⟩,i=>by
  have q:=Ek j (2^h) λ_ _ _ _ _ p=>bn.qp p (by omega)
  have r:1<=n.cells.length:=by
   rcases eq_zero_or_pos n.cells.length with c|c
   ·have e:=bT c;have:aC n=6:=by unfold aC;rw[d,e];rfl
    omega
   ·exact c
  have s:2^h*2<=2^h*(n.cells.length+1):=mul_le_mul_left _ (by omega)
  rw[Nat.pow_succ]
  omega
theorem qU(h:Nat):h+1<=2^h:=Nat.lt_two_pow_self
theorem El{st:aB}{L:List ai}{kv:List KV}{O:List Nat}{c:ai}{b:List UInt8}{ps:List Nat}(i:dg st L kv O)(j:cW L)(p:gJ c)(q:1<=c.key.length)(r:c.key.length<=120)(s:D5 st c b ps):∃pre t u,zb (px c) c.key (jx c) pre st t/\pre L/\O.Perm (t++u)/\∃d OB,u=d++OB/\dg st (jx c L) (eP c.key b kv) (d++(ps++OB)):=by
 by_cases h:∃x∈L,x.key=c.key
 ·obtain⟨old,y,z⟩:=h;obtain⟨d,D,OB,K,rfl,E,M,f,g⟩:=i.zm j old y;rw[z]at f g;exact⟨_,D,d++OB,zj p q r E z,y,perm_iff_count.2 λx=>by simp only[count_append];omega,d,OB,rfl,f.app (.cons c _ b _ ps _ s g)⟩
 ·have C:∀x∈L,x.key≠c.key:=λx H e=>h ⟨x,H,e⟩;obtain⟨d,OB,rfl,f,g⟩:=i.GY j c.key C;exact⟨_,[],d++OB,zi p q r,C,by simp,d,OB,rfl,f.app (.cons c _ b _ ps _ s g)⟩
theorem GZ{st:aB}{fl p U:List Nat}{k:Nat}{kv:List KV}(a1:Inv st fl (p++U))(a2:ig st k kv p)(key b:List UInt8)(V:1<=key.length)(E:key.length<=120)(a3:b.length<=20000)(bj:st.many+43+kv.length<=65536):∃st' W g,JA k st key b st'/\ig st' k (eP key b kv) g/\Inv st' W (g++U)/\jF k U st st'/\st'.many<=st.many+43+kv.length:=by
 obtain⟨bg,c,ps,q,Y,Z,i,z,ab,s1,m1⟩:=GV a1 key b a3 (by omega);subst Z;obtain⟨L,P,O,C,H,rfl⟩:=a2.frame s1.many (by rw[s1.roots]) λx f=>s1.page x (by simp[f]);have r:=C.rise;have K:=H.len;rcases C with⟨a4,rfl,rfl⟩|⟨h,j⟩
 ·cases H;have ac:Inv bg q (ps++U):=by simpa using ab
  obtain⟨a5,D,a6,s2,a7,bl⟩:=ac.alloc (by omega);have a8:bJ ⟨true,[c],[]⟩:=⟨λ_=>rfl,λe=>(by cases e),by simp,λx f=>by rw[mem_singleton.1 f];exact⟨V,E⟩,⟨λd a9=>(by cases a9),trivial⟩,λx f=>by rw[mem_singleton.1 f];exact i,λx f=>by cases f⟩;have bm:aC ⟨true,[c],[]⟩=3+(fu true c+0):=rfl;have be:=oh E i;have bi:4<=fu true c:=by unfold fu;rw[if_pos rfl];split<;>omega
  obtain⟨ba,i3,s3,m3,bb⟩:=a6.save _ a8 (by omega);have ad:=(i3.wZ (.head _)).2;refine⟨_,D,aG bg::ps,.first bg c Y a4 a5 ba rfl,⟨[c],[aG bg],ps,.inr ⟨0,?_⟩,?_,rfl⟩,i3.rP k ad,?_,?_⟩
  ·have e:(bo (aY (aW bg) (aG bg) ⟨true,[c],[]⟩) k (aG bg)).roots k=aG bg:=by show(if k=k then _ else _)=_;rw[if_pos rfl]
   rw[e];exact⟨⟨true,[c],[]⟩,bb.frame (st:=aY (aW bg) (aG bg) ⟨true,[c],[]⟩) (aa _) rfl,by omega,⟨rfl,rfl,λx f=>⟨nj _,λt j=>by cases j⟩⟩,rfl⟩
  ·have s:dg bg [c] (eP c.key b []) (ps++[]):=.cons c [] b [] ps [] z .nil;rw[append_nil]at s;refine((s.frame s2.many λx f=>s2.page x (by simp[f])).frame s3.many λx f=>s3.page x (by simp[f])).frame (st:=aY (aW bg) (aG bg) ⟨true,[c],[]⟩) (aa _) λx f=>rfl
  ·exact((((s1.mono λx f=>by simp[f]).trans (s2.mono λx f=>mem_append_right _ f) λx f=>f).trans (s3.mono λx f=>mem_append_right _ f) λx f=>f).Ld k).trans (jI _ _ _ U) λx f=>f
  ·show(aY (aW bg) (aG bg) ⟨true,[c],[]⟩).many<=_;rw[m3];omega
 ·obtain⟨pre,bc,bp,ae,M,u,af,OB,rfl,al⟩:=El H r i V E z;have y:bg.roots k≠0:=by have:=j.has.1;omega
  have br:h+1<=kv.length:=by rw[K];exact aO (qU h) (j.qp (aa _))
  have bd:Inv bg q (P++(bc++(af++(ps++OB)++U))):=ab.perm (perm_iff_count.2 λx=>by have s:=perm_iff_count.1 u x;simp only[count_append]at s⊢;omega)
  obtain⟨dC,o,D,am,an,s2,a7⟩:=sQ ae h 7 [] none (bg.roots k) L P q _ j (aa _) ⟨nj _,λt j=>by cases j⟩ M bd (by omega);obtain⟨ja,ao,ap,S,a0,i3,s3,m3⟩:=CP (by rw[s2.roots]) an (by omega);refine⟨ja,ao,ap++(af++(ps++OB)),.more bg dC c o Y y am S,⟨jx c L,ap,_,a0,?_,rfl⟩,by rw[av];exact i3,?_,by omega⟩
  ·exact(al.frame s2.many λx f=>s2.page x (mem_append_left _ f)).frame s3.many λx f=>s3.page x (mem_append_left _ f)
  ·exact((((s1.mono λx f=>by simp[f]).trans (s2.mono λx f=>mem_append_right _ f) λx f=>f).Ld k).trans (s3.mono λx f=>mem_append_right _ f) λx f=>f)
def JD(k:Nat)(st:aB)(key:aF)(st':aB):Prop:=∃dC o,gZ yQ key st (st.roots k) dC o/\ue k dC (st.roots k) o st'
theorem G0{st:aB}{fl e U:List Nat}{k:Nat}{kv:List KV}(M:Inv st fl (e++U))(S:ig st k kv e)(key:List UInt8)(f:key∈kv.map (·.1))(ad:st.many+2+kv.length<=65536):∃st' u d,JD k st key st'/\ig st' k (lD key kv) d/\Inv st' u (d++U)/\jF k U st st'/\st'.many<=st.many+2+kv.length:=by
 obtain⟨L,P,O,p,g,rfl⟩:=S;have i:=p.rise;have q:=g.len;rcases p with⟨ae,rfl,rfl⟩|⟨h,j⟩
 ·cases g;simp at f
 ·rw[g.keys]at f;obtain⟨old,y,rfl⟩:=aM.1 f;obtain⟨r,V,OB,af,rfl,W,al,Y,Z⟩:=g.zm i old y;have z:dg st (lU old.key L) (lD old.key kv) (r++OB):=Y.app Z;have am:h+1<=kv.length:=by rw[q];exact aO (qU h) (j.qp (aa _))
  have ab:Inv st fl (P++(V++((r++OB)++U))):=M.perm (perm_iff_count.2 λx=>by simp only[count_append];omega);obtain⟨dC,o,ac,C,D,s2,an⟩:=sQ (JJ W) h 7 [] none (st.roots k) L P fl _ j (aa _) ⟨nj _,λt j=>by cases j⟩ y ab (by omega);obtain⟨ja,E,H,s,K,i3,s3,m3⟩:=CP (by rw[s2.roots]) D (by omega);refine⟨ja,E,H++(r++OB),⟨dC,o,C,s⟩,⟨lU old.key L,H,_,K,?_,rfl⟩,by rw[av];exact i3,?_,by omega⟩
  ·exact(z.frame s2.many λx c=>s2.page x (mem_append_left _ c)).frame s3.many λx c=>s3.page x (mem_append_left _ c)
  ·exact((s2.mono λx c=>mem_append_right _ c).Ld k).trans (s3.mono λx c=>mem_append_right _ c) λx c=>c
theorem exists_least(P:Nat->Prop):∀n,P n->∃m,P m/\∀k,P k->m<=k:=by
 intro n;induction n using Nat.strongRecOn with
 |ind n ih=>
  intro d
  by_cases h:∃k,k<n/\P k
  ·obtain⟨k,e,f⟩:=h;exact ih k e f
  ·exact⟨n,d,λk g=>by
    rcases aA k n with c|c
    ·exact absurd ⟨k,c,g⟩ h
    ·exact c⟩
theorem uE{f:Type}(c:f->Nat->Prop):∃e:f->Nat,∀a,(∃N,c a N)->c a (e a)/\∀N,c a N->e a<=N:=by
 have h:∀a,∃m,(∃N,c a N)->c a m/\∀N,c a N->m<=N:=by
  intro a;by_cases h:∃N,c a N
  ·obtain⟨N,g⟩:=h;obtain⟨m,i,d⟩:=exists_least (c a) N g;exact⟨m,λ_=>⟨i,d⟩⟩
  ·exact⟨0,λd=>absurd d h⟩
 exact⟨λa=>(h a).choose,λa=>(h a).choose_spec⟩
def kG{c:Type}(f:Nat->c)(k:Nat)(v:c):Nat->c:=λj=>if j=k then v else f j
theorem iT{c:Type}(f:Nat->c)(k:Nat)(v:c):kG f k v k=v:=if_pos rfl
theorem fS{c:Type}(f:Nat->c){j k:Nat}(v:c)(h:j≠k):kG f k v j=f j:=if_neg h
def MS(c:Nat->List Nat):List Nat:=(List.range 7).flatMap c
def Kt(c:Nat->List Nat)(k:Nat):List Nat:=((List.range 7).filter λj=>j !=k).flatMap c
theorem sS(c:Nat->List Nat)(k:Nat):∀{l:List Nat},l.Nodup->k∈l->(l.flatMap c).Perm (c k++(l.filter λj=>j !=k).flatMap c)
 |[],_,h=>by cases h
 |a::f,p,h=>by
  obtain⟨g,i⟩:=nodup_cons.1 p
  by_cases e:a=k
  ·subst e;have q:(a::f).filter (λj=>j !=a)=f:=by rw[filter_cons,if_neg (by simp)];exact filter_eq_self.2 λx r=>by have:x≠a:=λe=>g (by rw[<-e];exact r);simpa using this
   rw[q,flatMap_cons]
  ·have s:k∈f:=by
    rcases mem_cons.1 h with d|d
    ·exact absurd d.symm e
    ·exact d
   have ih:=sS c k i s;rw[filter_cons,if_pos (by simpa using e),flatMap_cons,flatMap_cons];refine(Perm.append_left (c a) ih).trans ?_;rw[<-av,<-av];exact Perm.append_right _ perm_append_comm
theorem nu(c:Nat->List Nat){k:Nat}(d:k<7):(MS c).Perm (c k++Kt c k):=sS c k nodup_range (mem_range.2 d)
theorem JK(c:Nat->List Nat)(k:Nat)(v:List Nat):Kt (kG c k v) k=Kt c k:=by
 unfold Kt;have e:∀l:List Nat,(∀j∈l,j≠k)->l.flatMap (kG c k v)=l.flatMap c:=by
  intro l;induction l with
  |nil=>intro _;rfl
  |cons a f ih=>
   intro h
   rw[flatMap_cons,flatMap_cons,ih λj d=>h j (.tail _ d),fS c v (h a (.head _))]
 exact e _ λj d=>by simpa using(mem_filter.1 d).2
theorem JL{c:Nat->List Nat}{j k:Nat}(e:j<7)(d:j≠k):∀x∈c j,x∈Kt c k:=λx f=>mem_flatMap.2 ⟨j,mem_filter.2 ⟨mem_range.2 e,by simpa using d⟩,f⟩
def fK(st:aB)(bG:Nat->List KV)(M:Nat):Prop:=∃(fl:List Nat) (c:Nat->List Nat),(∀k,k<7->ig st k (bG k) (c k))/\Inv st fl (MS c)/\st.many<=M
theorem uM{st st':aB}{bG:Nat->List KV}{i k:Nat}{f:List Nat}{d:Nat->List Nat}{c:List Nat}{wh:List KV}(t:k<7)(u:∀k,k<7->ig st k (bG k) (d k))(p:ig st' k wh c)(q:Inv st' f (c++Kt d k))(g:jF k (Kt d k) st st')(y:st'.many<=i):fK st' (kG bG k wh) i:=by
 refine⟨f,kG d k c,λj r=>?_,?_,y⟩
 ·by_cases e:j=k
  ·subst e;rw[iT,iT];exact p
  ·rw[fS bG _ e,fS d _ e];exact(u j r).frame g.many (g.roots j e) λx z=>g.page x (JL r e x z)
 ·refine q.perm ?_;have s:=nu (kG d k c) t;rw[iT,JK]at s;exact s.symm
theorem G1{st:aB}{bG:Nat->List KV}{M k:Nat}(h:fK st bG M)(c:k<7)(key b:List UInt8)(j:1<=key.length)(p:key.length<=120)(q:b.length<=20000)(z:M+43+(bG k).length<=65536):∃st',JA k st key b st'/\fK st' (kG bG k (eP key b (bG k))) (M+43+(bG k).length)/\st.ok:=by obtain⟨fl,r,d,e,C⟩:=h;obtain⟨st',u,f,s,g,i,t,y⟩:=GZ (e.perm (nu r c)) (d k c) key b j p q (by omega);exact⟨st',s,uM c d g i t (by omega),e.ok⟩
theorem G3{st:aB}{bG:Nat->List KV}{M k:Nat}(h:fK st bG M)(c:k<7)(key:List UInt8)(d:key∈(bG k).map (·.1))(u:M+2+(bG k).length<=65536):∃st',JD k st key st'/\fK st' (kG bG k (lD key (bG k))) (M+2+(bG k).length)/\st.ok:=by obtain⟨fl,p,e,f,y⟩:=h;obtain⟨st',s,g,q,i,j,r,t⟩:=G0 (f.perm (nu p c)) (e k c) key d (by omega);exact⟨st',q,uM c e i j r (by omega),f.ok⟩
theorem fK.one{st:aB}{bG:Nat->List KV}{M k:Nat}(h:fK st bG M)(e:k<7):∃(fl:List Nat) (c U:List Nat),ig st k (bG k) c/\Inv st fl (c++U)/\st.many<=M:=by obtain⟨fl,d,f,g,i⟩:=h;exact⟨fl,d k,Kt d k,f k e,g.perm (nu d e),i⟩
section
open Go.RowKit Go.Maps
theorem dW.clear{w:World}{b N:Nat}{m:Nat->Option Value}(h:dW w b N m)(ty:TypeId):∃w',(Builtin.clear_ #[109] ty #[.map (some b)]).run Tryz.prog w=.ok (.tuple #[]) w'/\dW w' b N (λ_=>none)/\w.grownBy w' (some b):=by
 obtain⟨g,D,⟨j,clock,c,hF,p,rfl⟩,q⟩:=h;have d:b<w.heap.size:=(Array.getElem?_eq_some_iff.1 c).1;refine⟨{ w with heap:=w.heap.setIfInBounds b (.map #[] clock) },?_,⟨0,.map [],⟨#[],clock,?_,⟨by simp,MapKept.stamped_empty clock,by simp⟩,aa _,rfl⟩,tidy_empty,λr h=>(by cases h),λk v _ h=>(by cases h),λ_ _ _=>rfl⟩,⟨rfl,rfl,rfl,by simp,λi hi f=>?_⟩⟩
 ·simp[Builtin.clear_,run_underlying Tryz.underlying109,MapKept.run_getObj_map c,MapKept.run_setObj_map _ c]
 ·simp[d]
 ·show(w.heap.setIfInBounds b _)[i]?=_;rw[Array.getElem?_setIfInBounds,if_neg (λe=>f (by rw[e]))]
theorem Em{D:DataW Value}{N:Nat}(h:Keys D N (λ_=>none))(c:Lit):Maps.has D c=false:=by
 cases hh:Maps.has D c with
 |false=>rfl
 |true=>
  obtain⟨k,d,e⟩:=h.only c hh
  have:=h.none_ k d rfl
  rw[<-e,hh]at this;cases this
end
end Go.Proofs.YtajdeapdgbnahaaGreatDoor
