/-
  Nodes in memory; contracts of node.child, node.cell, node.Right.
-/
import Derived.Test.YtajdeapdgbnahaaGreatDoorCyCmp
import Derived.Test.YtajdeapdgbnahaaGreatDoorCyGr12
namespace Go.Proofs.YtajdeapdgbnahaaGreatDoor
set_option linter.unusedVariables false
set_option maxRecDepth 100000
set_option maxHeartbeats 2000000
open Go.RowKit
open List Nat
def cN(G:Nat->Prop)(w:World)(vs:List Value)(c:ai):Prop:=
 ∃a b d e,vs=[.slice a c.key.length b,.slice d c.val.length e,.int .i64 (c.over:Int),.int .i64 (c.long:Int)]/\c.key.length<=b/\c.val.length<=e/\
  Rd G w 1 a c.key.length (bv c.key)/\Rd G w 1 d c.val.length (bv c.val)
def ia(G:Nat->Prop)(w:World)(A:Option Addr)(cs:List ai):Prop:=∃a:List (List Value),a.length=cs.length/\Rd G w 4 A cs.length a.flatten/\∀(k:Nat) (vs:List Value) (c:ai),a[k]?=some vs->cs[k]?=some c->cN G w vs c
def bI(G:Nat->Prop)(w:World)(v:Value)(n:aj):Prop:=∃A c B d,v=.agg #[.bool n.leaf,.slice A n.cells.length c,.slice B n.kids.length d]/\n.cells.length<=c/\n.kids.length<=d/\ia G w A n.cells/\Rd G w 1 B n.kids.length (n.kids.map encI)
section
variable {G G' F F':Nat->Prop}{w w':World}{A:Option Addr}{cs:List ai}{vs:List Value}{c:ai}{n:aj}{v:Value}
theorem cN.keep(h:cN G w vs c)(a:∀k,G k->G' k/\w'.heap[k]?=w.heap[k]?):cN G' w' vs c:=by obtain⟨b,d,f,g,e,i,j,l,m⟩:=h;exact⟨b,d,f,g,e,i,j,l.keep a,m.keep a⟩
theorem ia.keep(h:ia G w A cs)(b:∀k,G k->G' k/\w'.heap[k]?=w.heap[k]?):ia G' w' A cs:=by obtain⟨a,d,e,f⟩:=h;exact⟨a,d,e.keep b,λk vs c g i=>(f k vs c g i).keep b⟩
theorem bI.keep(h:bI G w v n)(a:∀k,G k->G' k/\w'.heap[k]?=w.heap[k]?):bI G' w' v n:=by obtain⟨A,c,B,d,e,b,f,g,i⟩:=h;exact⟨A,c,B,d,e,b,f,g.keep a,i.keep a⟩
theorem bI.ev(h:bI (bF F w) w v n)(a:Ev F w F' w'):bI (bF F' w') w' v n:=h.keep λk b=>⟨a.mine b,a.block b⟩
theorem bI.mono(h:bI G w v n)(a:∀k,G k->G' k):bI G' w v n:=h.keep λk b=>⟨a k b,rfl⟩
theorem cN.mono(h:cN G w vs c)(a:∀k,G k->G' k):cN G' w vs c:=h.keep λk b=>⟨a k b,rfl⟩
theorem kH{a:List (List Value)}(f:∀b∈a,b.length=4):∀(k j:Nat) (vs:List Value) (u:Value),a[k]?=some vs->vs[j]?=some u->a.flatten[k*4+j]?=some u:=by
 induction a with
 |nil=>intro k j vs u h;simp at h
 |cons b t ih=>
  intro k j vs u h d
  have e:b.length=4:=f b (.head _)
  cases k with
  |zero=>
   simp at h
   subst h
   have g:=(ay.1 d).1
   rw[flatten_cons,bM (by omega),Nat.zero_mul,Nat.zero_add]
   exact d
  |succ k=>
   rw[getElem?_cons_succ]at h
   rw[flatten_cons,getElem?_append_right (by omega),e,show(k+1)*4+j-4=k*4+j from by omega]
   exact ih (λb e=>f b (.tail _ e)) k j vs u h d
structure eG (G:Nat->Prop) (w:World) (p:Addr) (c:ai) (kA vA:Option Addr) (kc vc:Nat):Prop where
 c0:w.cell? p=some (.slice kA c.key.length kc)
 c1:w.cell? ⟨p.block,p.off+1,none⟩=some (.slice vA c.val.length vc)
 c2:w.cell? ⟨p.block,p.off+2,none⟩=some (.int .i64 (c.over:Int))
 c3:w.cell? ⟨p.block,p.off+3,none⟩=some (.int .i64 (c.long:Int))
 Mu:c.key.length<=kc
 Mv:c.val.length<=vc
 key:Rd G w 1 kA c.key.length (bv c.key)
 val:Rd G w 1 vA c.val.length (bv c.val)
 blk:G p.block
theorem rY(p:Addr)(j:Nat)(h:j≠0):p.add j=⟨p.block,p.off+j,none⟩:=by unfold Addr.add;rw[if_neg h]
theorem ia.Kj{a:List (List Value)}(j:a.length=cs.length)(d:∀(k:Nat) (vs:List Value) (c:ai),a[k]?=some vs->cs[k]?=some c->cN G w vs c):∀b∈a,b.length=4:=by intro b f;obtain⟨k,g,e⟩:=getElem_of_mem f;obtain⟨l,m,o,p,i,_⟩:=d k b cs[k] (by rw[ak g,e]) (ak (by omega));rw[i];rfl
theorem ia.at_(h:ia G w A cs)(k:Nat)(p:k<cs.length):∃d f g i l,A=some d/\eG G w (d.add (k*4)) cs[k] f g i l:=by
 obtain⟨b,q,r,o⟩:=h;have s:=ia.Kj q o;have m:k<b.length:=by omega
 obtain⟨f,i,g,l,e,g1,t,g3,g4⟩:=o k b[k] cs[k] (ak m) (ak p);obtain⟨d,x,y,z⟩:=r.2 (by omega);have a:∀j u,b[k][j]?=some u->w.cell? ((d.add (k*4)).add j)=some u:=by intro j u B;rw[jP];exact z _ u (kH s k j _ u (ak m) B)
 refine⟨d,f,g,i,l,x,?_,?_,?_,?_,g1,t,g3,g4,by rw[cF];exact y⟩
 ·have:=a 0 (.slice f cs[k].key.length i) (by rw[e];rfl);simpa[Addr.add]using this
 ·have:=a 1 (.slice g cs[k].val.length l) (by rw[e];rfl)
  rwa [rY _ 1 (by decide)]at this
 ·have:=a 2 (.int .i64 (cs[k].over:Int)) (by rw[e];rfl)
  rwa [rY _ 2 (by decide)]at this
 ·have:=a 3 (.int .i64 (cs[k].long:Int)) (by rw[e];rfl)
  rwa [rY _ 3 (by decide)]at this
end
theorem uj(w:World)(k:Nat)(a:jS k):Calls Tryz.prog 178 #[.int .i64 (k:Int)] w λe w'=>e=.returned (.bool true)/\w=w':=by
 have b:(1:Int)<=(k:Int):=by have:=a.1;omega
 have d:(k:Int)<16777216:=by have:=a.2;omega
 go_enter Tryz.func178,Tryz.ntmps178;go_wp2_with fail;go_ret;exact⟨rfl,rfl⟩
theorem Dn(w:World)(c:ai)(r:gJ c)(j k:Option Addr)(l m p:Nat):Calls Tryz.prog 175 #[.agg #[.slice j l m,.slice k c.val.length p,.int .i64 (c.over:Int),.int .i64 (c.long:Int)]] w λe w'=>e=.returned (.bool true)/\Below w.heap.size w w':=by
 have a:=(Below.refl w.heap.size w).alloc (aa _) (.cells #[.slice j l m,.slice k c.val.length p,.int .i64 (c.over:Int),.int .i64 (c.long:Int)] 122);have b:=ah.new w 122 #[.slice j l m,.slice k c.val.length p,.int .i64 (c.over:Int),.int .i64 (c.long:Int)];rcases r with⟨d,g,s⟩|⟨d,g,s,i⟩
 ·have z:(c.val.length:Int)<=64:=by omega
  rw[d,g]at b a⊢;refine bz ?_ d g b a;clear d g b a;intro d g b a;go_enter Tryz.func175,Tryz.ntmps175;go_wp2_with fail;go_ret;exact⟨rfl,a.o⟩
 ·have q:=J (λt=>uj t c.over d);have u:((c.over:Int)==0)=false:=by rw[aZ];have:=d.1;omega
  have x:(64:Int)<(c.long:Int):=by omega
  have y:(c.long:Int)<=20000:=by omega
  have f:c.val.length=0:=by rw[i];rfl
  rw[f]at b a⊢;refine bz ?_ i f b a;clear i f b a;intro i f b a;go_enter Tryz.func175,Tryz.ntmps175;go_wp2_with(first|(go_at_call 178;refine(q.o _).mono ?_;rintro e B ⟨rfl,rfl⟩));go_ret;exact⟨rfl,a.o⟩
theorem Rd.shape{G:Nat->Prop}{w:World}{size n:Nat}{A:Option Addr}{xs:List Value}(h:Rd G w size A n xs)(d:0<n)(f:0<size):∃b o,A=some ⟨b,o,none⟩/\G b:=by
 obtain⟨g,rfl,i,j⟩:=h.2 d;have k:0<xs.length:=by rw[h.1];exact Nat.mul_pos d f
 have a:=j 0 _ (ak k);obtain⟨b,o,s⟩:=g;cases s with
 |none=>exact⟨b,o,rfl,i⟩
 |some s=>
  exfalso
  have e:(Addr.mk b o (some s)).add 0=⟨b,o,some s⟩:=rfl
  rw[e]at a
  unfold World.cell? at a
  cases hw:w.heap[b]? with
  |none=>simp[hw]at a
  |some l=>cases l<;>simp[hw]at a
theorem Fp(w:World)(k:Nat)(a:jS k):Calls Tryz.prog 177 #[.int .i64 (k:Int)] w λe w'=>e=.returned (.bool false)/\w=w':=by have b:=J (uj w k a);go_enter Tryz.func177,Tryz.ntmps177;go_wp2_with fail;refine b.o.mono ?_;rintro e d ⟨rfl,rfl⟩;go_wp2_with fail;go_ret;exact⟨rfl,rfl⟩
theorem Aq(w:World)(B:Nat)(A:Option Addr)(n c:Nat)(a:List Nat)(d:RN w B A n a)(g:∀k∈a,jS k)(C:n<=70000):Calls Tryz.prog 194 #[.slice A n c,.func (.func 177) #[] #[]] w λe w'=>e=.returned (.int .i64 (-1))/\w=w':=by
 have r:=J d.len;have j:Hid (∀i,i<n->jS (a.getD i 0)):=J λi s=>by
  have l:i<a.length:=by have:=r.o;omega
  rw[getD_eq_getElem?_getD,ak l];exact g _ (getElem_mem l)
 have m:=J d;clear d g;go_enter Tryz.func194,Tryz.ntmps194;go_wp2_with fail;go_loopw [8] (λf t=>∃i:Nat,f=.int .i64 (i:Int)/\i<=n/\t=w) (λf _=>n-(intOf f).toNat)
 case atStart=>exact⟨0,rfl,zero_le _,rfl⟩
 case round=>
  obtain⟨i,rfl,s,p⟩:=hrel;subst p;rcases aA i n with b|x
  ·have u:(i:Int)<(n:Int):=by omega
   obtain⟨D,rfl,E,H⟩:=m.o.elem b;have q:=J (Fp wr (a.getD i 0) (j.o i b));have y:(i:Int)<=70000:=by omega
   go_wp2_with fail;refine q.o.mono ?_;rintro e K ⟨rfl,rfl⟩;go_wp2_with fail;go_roundw
   case rel=>exact⟨i+1,by simp,by omega,by first|rfl|trivial⟩
   case measure=>simp[intOf];omega
  ·have u:¬(i:Int)<(n:Int):=by omega
   have z:(n:Int)<=(i:Int):=by omega
   go_wp2_with fail;go_ret;exact⟨rfl,rfl⟩
theorem vS(w:World)(B:Nat)(A:Option Addr)(n c:Nat)(a:List Nat)(b:RN w B A n a)(d:∀k∈a,jS k)(f:n<=70000):Calls Tryz.prog 176 #[.slice A n c,.func (.func 177) #[] #[]] w λe w'=>e=.returned (.bool false)/\w=w':=by have g:=J (Aq w B A n c a b d f);clear b d;go_enter Tryz.func176,Tryz.ntmps176;go_wp2_with fail;refine g.o.mono ?_;rintro e i ⟨rfl,rfl⟩;go_wp2_with fail;go_ret;exact⟨rfl,rfl⟩
theorem vT:∀(cs:List ai),cW cs->∀(i:Nat) (h:i+1<cs.length),bY cs[i].key cs[i+1].key=true
 |[],_,i,h=>by simp at h
 |c::b,a,0,h=>a.1 _ (getElem_mem (by simp at h;omega))
 |c::b,a,i+1,h=>vT b a.2 i (by simp at h;omega)
def Cr(w:World)(k:Nat):Prop:=k<w.heap.size
theorem eG.below{w w':World}{p:Addr}{c:ai}{d e:Option Addr}{f g:Nat}{B:Nat}(h:eG (λk=>k<B) w p c d e f g)(a:Below B w w'):eG (λk=>k<B) w' p c d e f g:=
 ⟨(a.cell (p:=p) h.blk).trans h.c0,(a.cell (p:=⟨p.block,p.off+1,none⟩) h.blk).trans h.c1,(a.cell (p:=⟨p.block,p.off+2,none⟩) h.blk).trans h.c2,(a.cell (p:=⟨p.block,p.off+3,none⟩) h.blk).trans h.c3,h.Mu,h.Mv,
  h.key.keep λk b=>⟨b,a.block k b⟩,h.val.keep λk b=>⟨b,a.block k b⟩,h.blk⟩
theorem mY(w:World)(v:Value)(n:aj)(cy:bI (Cr w) w v n)(T:bJ n):Calls Tryz.prog 120 #[v] w λe w'=>e=.returned (.bool true)/\Below w.heap.size w w':=by
 obtain⟨A,c,B,d,rfl,ck,cz,a5,a6⟩:=cy;obtain⟨M,bc⟩:=I (n.cells.length);obtain⟨K,ao⟩:=I (n.kids.length);obtain⟨b9,U⟩:=I (n.leaf);have p:=T.many;rw[<-bc,<-ao,<-U];rw[<-bc]at ck p;have bd:=T.fT;have be:=T.eY;rw[<-U]at bd be;have a7:b9=true->(K:Int)=0:=λh=>by rw[ao,bd h];rfl
 have a8:b9=false->(K:Int)=(M:Int)+1:=λh=>by rw[ao,be h,bc];omega
 have c5:decide ((65536:Int)<=(M:Int))=false:=by rw[decide_eq_false_iff_not];omega
 have cA:decide (65536<=M)=false:=by rw[decide_eq_false_iff_not];omega
 have a9:K<=70000:=by
  cases b9 with
  |true=>have:=a7 rfl;omega
  |false=>have:=a8 rfl;omega
 have ca:Hid (∀ap,Below w.heap.size w ap->Calls Tryz.prog 176 #[.slice B K d,.func (.func 177) #[] #[]] ap λe w'=>e=.returned (.bool false)/\ap=w'):=J λap cB=>by
  have cc:RN w w.heap.size B K n.kids:=by rw[ao];exact a6.reads λk Y=>Y
  exact vS ap _ B K d n.kids (cc.below cB) T.jT a9
 have ba:Hid (∀i,i<M->∃x ac b l f m,n.cells[i]?=some x/\x∈n.cells/\A=some ac/\eG (Cr w) w (ac.add (i*4)) x b l f m):=J λi cl=>by
  have bi:i<n.cells.length:=by omega
  obtain⟨ac,b,l,f,m,cc,cD⟩:=a5.at_ i bi;exact⟨n.cells[i],ac,b,l,f,m,ak bi,getElem_mem bi,cc,cD⟩
 refine dS ?_ T bc ao U a5 a6 p a9;clear T bc ao U a5 a6 p a9;intro T bc ao U a5 a6 p a9;clear bd be cz ck;cases b9 with
 |true=>
  have bj:=a7 rfl
  clear a7 a8
  have ad:=J ((Below.refl _ _).alloc (aa _) _:Below w.heap.size w (w.alloc (.cells #[.bool true,.slice A M c,.slice B K d] 129)))
  have ae:=J (ah.new _ _ _:ah (w.alloc (.cells #[.bool true,.slice A M c,.slice B K d] 129)) w.heap.size 129 #[.bool true,.slice A M c,.slice B K d])
  go_enter Tryz.func120,Tryz.ntmps120
  go_wp2_with fail
  go_loopw [37] (λv37 bl=>∃i:Nat,v37=.int .i64 (i:Int)/\i<=M/\Hid (Below w.heap.size w bl)/\Hid (ah bl w.heap.size 129 #[.bool true,.slice A M c,.slice B K d])) (λv37 _=>M-(intOf v37).toNat)
  case atStart=>exact⟨0,rfl,zero_le _,ad,ae⟩
  case round=>
   clear ad ae;obtain⟨i,rfl,cl,s,H⟩:=hrel;have cE:=H.o.cell 0;have cH:=H.o.cell 1;have cK:=H.o.cell 2;rcases aA i M with bm|cm
   ·have ce:(i:Int)<(M:Int):=by omega
    have cn:(i:Int)<=70000:=by have:=p.o;omega
    obtain⟨x,ac,b,l,f,m,a0,L,cf,V⟩:=ba.o i bm;have C:=eG.below (B:=w.heap.size) V s.o;have D:=T.o.keys x L;have E:=T.o.vals x L;rw[<-U.o]at E;replace a0:=J a0;replace L:=J L;have cg:=C.c0;have ch:=C.c1;have co:=C.c2;have cp:=C.c3;have bp:(1:Int)<=(x.key.length:Int):=by omega
    have br:(x.key.length:Int)<=120:=by omega
    obtain⟨g,N⟩:=I (x.key.length);have a:=V.key;rw[<-N]at cg bp br a;obtain⟨a1,bb⟩:=I (x.val.length);rw[<-bb]at ch;have bs:=J (λap=>Dn ap x (by simpa using E) b l g f m);rw[<-bb]at bs;replace bb:=J bb;have t:=J (s.o.alloc (s.o.size) _:Below w.heap.size w (wr.alloc (.cells #[.slice b g f,.slice l a1 m,.int .i64 (x.over:Int),.int .i64 (x.long:Int)] 122)));have u:=J (H.o.alloc _:ah (wr.alloc (.cells #[.slice b g f,.slice l a1 m,.int .i64 (x.over:Int),.int .i64 (x.long:Int)] 122)) w.heap.size 129 #[.bool true,.slice A M c,.slice B K d]);have bv:=J (RB.below (Rd.reads a λk Y=>Y) t.o:RB (wr.alloc (.cells #[.slice b g f,.slice l a1 m,.int .i64 (x.over:Int),.int .i64 (x.long:Int)] 122)) w.heap.size b g x.key);have cL:(wr.alloc (.cells #[.slice b g f,.slice l a1 m,.int .i64 (x.over:Int),.int .i64 (x.long:Int)] 122)).cell? ⟨w.heap.size,0,none⟩=some (.bool true):=u.o.cell 0;have cM:(wr.alloc (.cells #[.slice b g f,.slice l a1 m,.int .i64 (x.over:Int),.int .i64 (x.long:Int)] 122)).cell? ⟨w.heap.size,1,none⟩=some (.slice A M c):=u.o.cell 1;refine bX ?_ a D C V N;clear a D C V N;intro a D C V N;clear E;subst cf;rcases eq_zero_or_pos i with a2|a2
    ·have bx:(i:Int)<=0:=by omega
     have bA:decide ((0:Int)<(i:Int))=false:=by rw[decide_eq_false_iff_not];omega
     have cr:decide (0<i)=false:=by rw[decide_eq_false_iff_not];omega
     replace a2:=J a2;go_wp2_with fail;go_quiet (fail);go_wp2_with(first|(go_at_call 175;refine(bs.o _).mono ?_;rintro e bB ⟨rfl,O⟩;have b0:=J ((below_drewN t.o _).trans (O.mono t.o.size):Below w.heap.size w bB);have af:=J ((u.o.drewN nq).below O (ah.lt u.o));have cP:bB.cell? ⟨w.heap.size,0,none⟩=some (.bool true):=af.o.cell 0;replace O:=J O));go_roundw
     case rel=>exact⟨i+1,by simp,by omega,b0,af⟩
     case measure=>simp[intOf];omega
    ·obtain⟨j,a3⟩:=I (i-1 );obtain⟨y,b1,b2,cS,b3,cV,Z,W,al,ab⟩:=ba.o j (by omega);obtain rfl:ac=b1:=by simpa using al
     have z:=eG.below (B:=w.heap.size) ab t.o;have r:bY y.key x.key=true:=by
      have b4:j+1=i:=by omega
      have am:=a0.o;rw[<-b4]at am;have b5:=ay.1 Z;have an:=ay.1 am;have:=vT n.cells T.o.rise j an.1;rw[b5.2,an.2]at this;exact this
     have p0:=z.c0;have ct:(i:Int)-1=(j:Int):=by omega
     have cv:IntKind.i64.wrap (j:Int)=(j:Int):=IntWalk.i64_in _ (by omega);have cw:(j:Int)<(M:Int):=by omega
     have X:Hid (∀q,Calls Tryz.prog 69 #[.slice b2 y.key.length b3,.slice b g f] ((wr.alloc (.cells #[.slice b g f,.slice l a1 m,.int .i64 (x.over:Int),.int .i64 (x.long:Int)] 122)).drewN q) λe w'=>e=.returned (.int .i64 (Lib.compareBytes y.key x.key))/\(wr.alloc (.cells #[.slice b g f,.slice l a1 m,.int .i64 (x.over:Int),.int .i64 (x.long:Int)] 122)).drewN q=w'):=J λq=>mX _ w.heap.size w.heap.size b2 b y.key.length b3 g f y.key x.key (RB.drewN (Rd.reads z.key λk Y=>Y) q) (bv.o.drewN q);have a4:Lib.compareBytes y.key x.key<0:=by have:=Am y.key x.key;rw[r]at this;simpa using this
     obtain⟨ci,P⟩:=I (Lib.compareBytes y.key x.key);rw[<-P]at X a4;have cj:decide ((0:Int)<=ci)=false:=by rw[decide_eq_false_iff_not];omega
     obtain⟨cX,Q⟩:=I (y.key.length);rw[<-Q]at X p0;refine dS ?_ Q z ab Z a3 P r W;clear Q z ab Z a3 P r W;intro Q z ab Z a3 P r W;clear al;have bx:(0:Int)<(i:Int):=by omega
     have bA:decide ((0:Int)<(i:Int))=true:=by rw[decide_eq_true_eq];omega
     go_wp2_with fail;go_quiet (first|(go_at_call 69;exact fE (X.o _)));go_wp2_with(first|(go_at_call 175;refine(bs.o _).mono ?_;rintro e bB ⟨rfl,O⟩;have b0:=J ((below_drewN t.o _).trans (O.mono t.o.size):Below w.heap.size w bB);have af:=J ((u.o.drewN nq).below O (ah.lt u.o));have cP:bB.cell? ⟨w.heap.size,0,none⟩=some (.bool true):=af.o.cell 0;replace O:=J O));go_roundw
     case rel=>exact⟨i+1,by simp,by omega,b0,af⟩
     case measure=>simp[intOf];omega
   ·have ce:¬(i:Int)<(M:Int):=by omega
    have cx:(M:Int)<=(i:Int):=by omega
    have b6:=J (ca.o wr s.o);go_wp2_with fail;refine b6.o.mono ?_;rintro e cY ⟨rfl,rfl⟩;go_wp2_with fail;go_ret;exact⟨rfl,s.o⟩
 |false=>
  have bj:=a8 rfl
  clear a7 a8
  obtain⟨b7,cb⟩:=I (M+1)
  have c6:(M:Int)+1=(b7:Int):=by omega
  have c7:IntKind.i64.wrap (b7:Int)=(b7:Int):=IntWalk.i64_in _ (by have:=p.o;omega)
  have c8:((K:Int)!=(b7:Int))=false:=by rw[bne_eq_false_iff_eq];omega
  have c4:(K==b7)=true:=by rw[beq_iff_eq];omega
  replace bj:=J bj
  replace cb:=J cb
  have ad:=J ((Below.refl _ _).alloc (aa _) _:Below w.heap.size w (w.alloc (.cells #[.bool false,.slice A M c,.slice B K d] 129)))
  have ae:=J (ah.new _ _ _:ah (w.alloc (.cells #[.bool false,.slice A M c,.slice B K d] 129)) w.heap.size 129 #[.bool false,.slice A M c,.slice B K d])
  go_enter Tryz.func120,Tryz.ntmps120
  go_wp2_with fail
  go_loopw [37] (λv37 bl=>∃i:Nat,v37=.int .i64 (i:Int)/\i<=M/\Hid (Below w.heap.size w bl)/\Hid (ah bl w.heap.size 129 #[.bool false,.slice A M c,.slice B K d])) (λv37 _=>M-(intOf v37).toNat)
  case atStart=>exact⟨0,rfl,zero_le _,ad,ae⟩
  case round=>
   clear ad ae;obtain⟨i,rfl,cl,s,H⟩:=hrel;have cE:=H.o.cell 0;have cH:=H.o.cell 1;have cK:=H.o.cell 2;rcases aA i M with bm|cm
   ·have ce:(i:Int)<(M:Int):=by omega
    have cn:(i:Int)<=70000:=by have:=p.o;omega
    obtain⟨x,ac,b,l,f,m,a0,L,cf,V⟩:=ba.o i bm;have C:=eG.below (B:=w.heap.size) V s.o;have D:=T.o.keys x L;have E:=T.o.vals x L;rw[<-U.o]at E;replace a0:=J a0;replace L:=J L;have cg:=C.c0;have ch:=C.c1;have co:=C.c2;have cp:=C.c3;have bp:(1:Int)<=(x.key.length:Int):=by omega
    have br:(x.key.length:Int)<=120:=by omega
    obtain⟨g,N⟩:=I (x.key.length);have a:=V.key;rw[<-N]at cg bp br a;have S:iK x:=by simpa using E
    have b8:x.val.length=0:=by rw[S.2.2];rfl
    rw[b8]at ch;rw[S.1]at co;rw[S.2.1]at cp;replace b8:=J b8;replace S:=J S;have t:=J (s.o.alloc (s.o.size) _:Below w.heap.size w (wr.alloc (.cells #[.slice b g f,.slice l 0 m,.int .i64 0,.int .i64 0] 122)));have u:=J (H.o.alloc _:ah (wr.alloc (.cells #[.slice b g f,.slice l 0 m,.int .i64 0,.int .i64 0] 122)) w.heap.size 129 #[.bool false,.slice A M c,.slice B K d]);have bv:=J (RB.below (Rd.reads a λk Y=>Y) t.o:RB (wr.alloc (.cells #[.slice b g f,.slice l 0 m,.int .i64 0,.int .i64 0] 122)) w.heap.size b g x.key);have cL:(wr.alloc (.cells #[.slice b g f,.slice l 0 m,.int .i64 0,.int .i64 0] 122)).cell? ⟨w.heap.size,0,none⟩=some (.bool false):=u.o.cell 0;have cM:(wr.alloc (.cells #[.slice b g f,.slice l 0 m,.int .i64 0,.int .i64 0] 122)).cell? ⟨w.heap.size,1,none⟩=some (.slice A M c):=u.o.cell 1;refine bX ?_ a D C V N;clear a D C V N;intro a D C V N;clear E;subst cf;rcases eq_zero_or_pos i with a2|a2
    ·have bx:(i:Int)<=0:=by omega
     have bA:decide ((0:Int)<(i:Int))=false:=by rw[decide_eq_false_iff_not];omega
     have cr:decide (0<i)=false:=by rw[decide_eq_false_iff_not];omega
     replace a2:=J a2;go_wp2_with fail;go_quiet (fail);go_wp2_with fail;go_roundw
     case rel=>exact⟨i+1,by simp,by omega,J (below_drewN t.o _),J (u.o.drewN nq)⟩
     case measure=>simp[intOf];omega
    ·obtain⟨j,a3⟩:=I (i-1 );obtain⟨y,b1,b2,cS,b3,cV,Z,W,al,ab⟩:=ba.o j (by omega);obtain rfl:ac=b1:=by simpa using al
     have z:=eG.below (B:=w.heap.size) ab t.o;have r:bY y.key x.key=true:=by
      have b4:j+1=i:=by omega
      have am:=a0.o;rw[<-b4]at am;have b5:=ay.1 Z;have an:=ay.1 am;have:=vT n.cells T.o.rise j an.1;rw[b5.2,an.2]at this;exact this
     have p0:=z.c0;have ct:(i:Int)-1=(j:Int):=by omega
     have cv:IntKind.i64.wrap (j:Int)=(j:Int):=IntWalk.i64_in _ (by omega);have cw:(j:Int)<(M:Int):=by omega
     have X:Hid (∀q,Calls Tryz.prog 69 #[.slice b2 y.key.length b3,.slice b g f] ((wr.alloc (.cells #[.slice b g f,.slice l 0 m,.int .i64 0,.int .i64 0] 122)).drewN q) λe w'=>e=.returned (.int .i64 (Lib.compareBytes y.key x.key))/\(wr.alloc (.cells #[.slice b g f,.slice l 0 m,.int .i64 0,.int .i64 0] 122)).drewN q=w'):=J λq=>mX _ w.heap.size w.heap.size b2 b y.key.length b3 g f y.key x.key (RB.drewN (Rd.reads z.key λk Y=>Y) q) (bv.o.drewN q);have a4:Lib.compareBytes y.key x.key<0:=by have:=Am y.key x.key;rw[r]at this;simpa using this
     obtain⟨ci,P⟩:=I (Lib.compareBytes y.key x.key);rw[<-P]at X a4;have cj:decide ((0:Int)<=ci)=false:=by rw[decide_eq_false_iff_not];omega
     obtain⟨cX,Q⟩:=I (y.key.length);rw[<-Q]at X p0;refine dS ?_ Q z ab Z a3 P r W;clear Q z ab Z a3 P r W;intro Q z ab Z a3 P r W;clear al;have bx:(0:Int)<(i:Int):=by omega
     have bA:decide ((0:Int)<(i:Int))=true:=by rw[decide_eq_true_eq];omega
     go_wp2_with fail;go_quiet (first|(go_at_call 69;exact fE (X.o _)));go_wp2_with fail;go_roundw
     case rel=>exact⟨i+1,by simp,by omega,J (below_drewN t.o _),J (u.o.drewN nq)⟩
     case measure=>simp[intOf];omega
   ·have ce:¬(i:Int)<(M:Int):=by omega
    have cx:(M:Int)<=(i:Int):=by omega
    have b6:=J (ca.o wr s.o);go_wp2_with fail;refine b6.o.mono ?_;rintro e cY ⟨rfl,rfl⟩;go_wp2_with fail;go_ret;exact⟨rfl,s.o⟩
end Go.Proofs.YtajdeapdgbnahaaGreatDoor
