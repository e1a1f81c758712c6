/-
  Contract of Cursor.next in trees of any height.
-/
import Derived.Test.YtajdeapdgbnahaaGreatDoorCyGr27
import Derived.StillTailTactics
namespace Go.Proofs.YtajdeapdgbnahaaGreatDoor
set_option linter.unusedVariables false
set_option maxRecDepth 100000
set_option maxHeartbeats 4000000
open List Nat
section
open Go.RowKit
def fG(F C b:Nat->Prop)(w w':World):Prop:=(∀k,C k->b k)/\∀(g:Nat) (t:TypeId) (a:Array Value),ah w g t a->¬F g->t≠194->t≠259->ah w' g t a
def La(F C:Nat->Prop)(w:World)(c:Nat)(st:aB)(gc gt:Nat)(way:List (aj×Nat))(from_:List UInt8)(d:Int)(e:Ending)(w':World):Prop:=∃a b,e=.returned (.tuple #[.agg #[.slice none 0 0,.slice none 0 0,.int .i64 0,.int .i64 0],.int .i64 3])/\ar w' a c st/\dA a b w' gc gt way from_ (-1) d/\Ev (FC F C) w (FC a b) w'/\fG F C b w w'
def JE(F C:Nat->Prop)(w:World)(a:Nat)(st:aB)(gc gt:Nat)(way:List (aj×Nat))(from_:List UInt8)(b:Int)(c:ai)(e:Ending)(w':World):Prop:=
 ∃F' C' kA kc vA vc,e=.returned (.tuple #[.agg #[.slice kA c.key.length kc,.slice vA c.val.length vc,.int .i64 (c.over:Int),.int .i64 (c.long:Int)],.int .i64 0])/\
  cN (bF (FC F' C') w') w' [.slice kA c.key.length kc,.slice vA c.val.length vc,.int .i64 (c.over:Int),.int .i64 (c.long:Int)] c/\
  ar w' F' a st/\dA F' C' w' gc gt way from_ (-1) b/\Ev (FC F C) w (FC F' C') w'/\fG F C C' w w'
def wR(F C:Nat->Prop)(w:World)(a:Nat)(st:aB)(gc gt:Nat)(way:List (aj×Nat))(from_:List UInt8)(b:Int)(d:Option ai)(e:Ending)(w':World):Prop:=
 match d with
 |some c=>JE F C w a st gc gt way from_ b c e w'
 |none=>La F C w a st gc gt way from_ b e w'
def rr(F C:Nat->Prop)(w:World)(e:Nat)(st:aB)(gc gt k f:Nat)(from_:List UInt8)(g:Int)(d:List (aj×Nat))(i:Option ai)(N:Nat)(a:World):Prop:=∃c b W,ar a c e st/\dA c b a gc gt W from_ (-1) g/\Ev (FC F C) w (FC c b) a/\b f/\ah a f 122 #[.slice none 0 0,.slice none 0 0,.int .i64 0,.int .i64 0]/\nM st N W d i/\aL a (FC c b) gt e k/\fG F C b w a
theorem nM.inv{st:aB}{N:Nat}{W a:List (aj×Nat)}{d:Option ai}(h:nM st N W a d):(W=[]/\a=[]/\d=none)\/∃way n i,W=way++[(n,i)]/\
  ((n.leaf=true/\∃c,n.cells[i]?=some c/\i<=100000/\a=way++[(n,i+1)]/\d=some c)\/
   (n.leaf=false/\∃b l M,n.kids[i]?=some b/\rq st b l/\way.length+1+l.length<=1000/\i<=100000/\N=M+1/\nM st M ((way++[(n,i+1)])++l) a d)\/
   ((if n.leaf=true then n.cells.length else n.kids.length)<=i/\∃M,N=M+1/\nM st M way a d)):=by
 cases h with
 |done=>exact .inl ⟨rfl,rfl,rfl⟩
 |cell _ way n i c f k e=>exact .inr ⟨way,n,i,rfl,.inl ⟨f,c,k,e,rfl,rfl⟩⟩
 |dM M way n i b l a d f m o g e j=>exact .inr ⟨way,n,i,rfl,.inr (.inl ⟨f,b,l,M,m,o,g,e,rfl,j⟩)⟩
 |pop M way n i a d e j=>exact .inr ⟨way,n,i,rfl,.inr (.inr ⟨e,M,rfl,j⟩)⟩
theorem wS{F C:Nat->Prop}{w:World}{gc gt:Nat}{way:List (aj×Nat)}{from_:List UInt8}{u D:Int}{s:aj×Nat}(h:dA F C w gc gt (way++[s]) from_ u D):∀g cap,w.cell? ⟨gc,1,none⟩=some (.slice (some ⟨g,0,none⟩) (way.length+1) cap)->dA F C (w.setCell ⟨gc,1,none⟩ (.slice (some ⟨g,0,none⟩) way.length cap)) gc gt way from_ u D/\Ev (FC F C) w (FC F C) (w.setCell ⟨gc,1,none⟩ (.slice (some ⟨g,0,none⟩) way.length cap)):=by
 intro g cap m;obtain⟨E,Q,S,y,T,U,b,V,n,G⟩:=h.mem;have W:E=.slice (some ⟨g,0,none⟩) (way.length+1) cap:=by have:=y.cell 1;rw[m]at this;have f:some (Value.slice (some ⟨g,0,none⟩) (way.length+1) cap)=some E:=this;injection f with f;exact f.symm
 subst W;have z:(way++[s]).length=way.length+1:=by simp
 rw[z]at V n;have o:Ev (FC F C) w (FC F C) (w.setCell ⟨gc,1,none⟩ (.slice (some ⟨g,0,none⟩) way.length cap)):=(Ev.refl _ w).aK (p:=⟨gc,1,none⟩) (.inr h.own) _;have X:R (λk=>k=gc) w (w.setCell ⟨gc,1,none⟩ (.slice (some ⟨g,0,none⟩) way.length cap)):=(R.refl (λk=>k=gc) w).setCell (p:=⟨gc,1,none⟩) (λ_=>rfl) _;have Y:∀i∈b.take way.length,i.length=4:=by
  intro i A;obtain⟨q,r,e⟩:=getElem_of_mem A;have v:q<way.length:=by simp at r;omega
  have H:q<b.length:=by omega
  obtain⟨ae,af,B',al,d,_⟩:=G q i way[q] (by rw[<-e,getElem_take];exact ak H) (by rw[bM v,ak v]);rw[d];rfl
 have x:(b.take way.length).flatten=b.flatten.take (way.length*4):=by
  have c:b=b.take way.length++b.drop way.length:=(bE ..).symm;have f:∀(l:List (List Value)),(∀i∈l,i.length=4)->l.flatten.length=l.length*4:=by
   intro l;induction l with
   |nil=>intro _;rfl
   |cons a t ih=>intro K;rw[flatten_cons,aq,ih λi A=>K i (.tail _ A),K a (.head _),length_cons];omega
  have d:=f _ Y
  conv=>rhs;rw[c,flatten_append]
  rw[take_left'];rw[d];simp;omega
 have B:w.ownsRow 0 259 4 (.slice (some ⟨g,0,none⟩) way.length cap) way.length (b.take way.length).flatten:=by obtain⟨am,Z,L,c,M,ab,N,O,P,_⟩:=sE n (by omega);injection c with c _ ac;injection c with c;injection c with c;subst c;subst ac;refine⟨by rw[x,aH,n.1];omega,.inr ⟨g,cap,L,rfl,zero_le _,M,by omega,N,O,?_⟩⟩;rw[x,<-P,take_take,Nat.min_eq_left (by omega)]
 refine⟨⟨⟨_,Q,S,y.aK 1 _,T.ev o,λk j=>U k (by simpa[Value.ownBlock]using j),b.take way.length,by simp;omega,X.row B (λk j e=>au n y (by decide) (by rw[<-e];simpa[Value.ownBlock]using j)),λq vs ad c d=>?_⟩,h.own,h.apart,λk j=>aN (h.lt k j) o.size⟩,o⟩;have r:q<way.length:=(ay.1 d).1;rw[bw,if_pos r]at c;exact(G q vs ad c (by rw[bM r];exact d)).ev o
theorem GA(x:Int)(a:0<=x)(b:x<=9223372036854775807):wrap64 x=x/\IntKind.i64.wrap x=x:=⟨by unfold wrap64;omega,IntWalk.i64_in _ (by omega)⟩
theorem GD(P cap:Nat)(h:P+1<=cap)(a:cap<=maxLen):wrap64 (P:Int)=(P:Int)/\IntKind.i64.wrap (P:Int)=(P:Int):=GA _ (by omega) (by have b:maxLen=9223372036854775807:=rfl;omega)
theorem uD(i:Nat)(h:i<=100000):wrap64 ((i:Int)+1)=((i+1:Nat):Int)/\IntKind.i64.wrap ((i:Int)+1)=((i+1:Nat):Int):=⟨by unfold wrap64;omega,by rw[IntWalk.i64_in _ (by omega)];omega⟩
theorem yS(w:World)(F C:Nat->Prop)(gc gt L k:Nat)(st:aB)(h:ar w F L st)(ea:aL w (FC F C) gt L k)(way:List (aj×Nat))(from_:List UInt8)(cK ab:Int)(cl:dA F C w gc gt way from_ cK ab)(E:List (aj×Nat))(b3:Option ai)(e4:CG st from_ way cK E b3):Calls Tryz.prog 114 #[.pointer (some ⟨gc,0,none⟩)] w (wR F C w L st gc gt E from_ ab b3):=by
 obtain⟨d,cy⟩:=I (w.heap.size);obtain⟨da,a0⟩:=I (w.alloc (.cells #[.slice none 0 0,.slice none 0 0,.int .i64 0,.int .i64 0] 122));obtain⟨bd,a3⟩:=Gl cl h.lt (.cells #[.slice none 0 0,.slice none 0 0,.int .i64 0,.int .i64 0] 122);have be:=ah.new w 122 #[.slice none 0 0,.slice none 0 0,.int .i64 0,.int .i64 0];have bv:=h.alloc (.cells #[.slice none 0 0,.slice none 0 0,.int .i64 0,.int .i64 0] 122);rw[<-cy]at be;rw[<-a0,<-cy]at bd a3;rw[<-a0]at be bv;have b5:plus C d d:=.inr rfl;have cf:¬F d:=λO=>by have:=h.lt _ O;omega
 have cz:d≠gc:=λe=>by have:=cl.lt _ cl.own;omega
 have b6:=ea.ev a3;have b7:fG F C (plus C d) w da:=⟨λk cA=>.inl cA,λg t x s _ _ _=>by rw[a0];exact s.alloc _⟩;have de:=J (λ(g:Nat) (t:TypeId) (x:Array Value) (s:ah w g t x)=>s.lt);obtain⟨fX,fY,f0,bx,_⟩:=bd.mem;have db:da.cell? ⟨gc,3,none⟩=some (.int .i64 cK):=bx.cell 3;have z3:=bx.frozen 3;have eI:(w.alloc (.cells #[.slice none 0 0,.slice none 0 0,.int .i64 0,.int .i64 0] 122)).cell? ⟨gc,3,none⟩=some (.int .i64 cK):=by rw[<-a0];exact db
 obtain⟨b8,bA⟩:=Jv bd (-1);have b9:ar (da.setCell ⟨gc,3,none⟩ (.int .i64 (-1))) F L st:=bv.aK (p:=⟨gc,3,none⟩) (cl.apart _ cl.own) _;have a7:=be.far (p:=⟨gc,3,none⟩) cz (.int .i64 (-1));have bB:=b6.ev bA;have ca:fG F C (plus C d) w (da.setCell ⟨gc,3,none⟩ (.int .i64 (-1))):=⟨λk cA=>.inl cA,λg t x s O Q T=>(b7.2 g t x s O Q T).far (p:=⟨gc,3,none⟩) (ah.iH (b7.2 g t x s O Q T) bx Q) _⟩;refine aR ?_ h ea cl bx a3 bd b8 bA bv b9 be a7 b6;clear h ea cl bx a3 bd b8 bA bv b9 be a7 b6;intro h ea cl bx a3 bd b8 bA bv b9 be a7 b6;refine eD ?_ bB a0 cy cf b5 b7 ca;clear bB a0 cy cf b5 b7 ca;intro bB a0 cy cf b5 b7 ca;obtain⟨cm,cb⟩:=uE (λ(cB:World) (N:Nat)=>rr F C w L st gc gt k d from_ ab E b3 N cB);replace cb:Hid _:=J cb;go_enter Tryz.func114,Tryz.ntmps114
 go_upto_if 13 with(fail)
 rw[<-a0.o,<-cy.o];clear eI;go_cut [] (λcB=>Hid (∃N,rr F C w L st gc gt k d from_ ab E b3 N cB))
 case first=>
  rcases e4 with⟨rfl,N,dc⟩|⟨rfl,rfl,ej,ek⟩|⟨no,l,rfl,eJ,rfl,dj,eK,N,dc⟩
  ·have V:Hid (∃N,rr F C w L st gc gt k d from_ ab E b3 N da):=J ⟨N,F,plus C d,way,bv.o,bd.o,a3.o,b5.o,be.o,dc,b6.o,b7.o⟩;clear dc;go_wp2_with fail
   go_meet
   case rel=>exact V
  ·have V:Hid (∃N,rr F C w L st gc gt k d from_ ab E b3 N (da.setCell ⟨gc,3,none⟩ (.int .i64 (-1)))):=J ⟨0,F,plus C d,[],b9.o,b8.o,a3.o.trans bA.o,b5.o,a7.o,by rw[ej,ek];exact .done 0,bB.o,ca.o⟩;clear ej ek;go_wp2_with fail
   go_meet
   case rel=>exact V
  ·have e5:(0:Int)<(no:Int):=by omega
   have e6:(0:Int)<=(no:Int):=by omega
   have dk:=J (DU _ F (plus C d) gc gt L k st b9.o bB.o [] l from_ (-1) ab b8.o no dj (by simpa using eK));replace dj:=J dj;replace dc:=J dc;clear eJ;go_wp2_with fail;refine dk.o.mono ?_;rintro e e7 ⟨rfl,e8,e9,cL,cM,cn,co,cP⟩;have V:Hid (∃N,rr F C w L st gc gt k d from_ ab E b3 N e7):=J ⟨N,e8,e9,l,cL,cM,a3.o.trans (bA.o.trans cn),co _ b5.o,cP _ _ _ a7.o cf.o (by decide) (by decide),dc.o,bB.o.ev cn,⟨λk cA=>co k (ca.o.1 k cA),λg t x s O Q T=>cP g t x (ca.o.2 g t x s O Q T) O Q T⟩⟩;refine bz ?_ cL cM cn co;clear cL cM cn co;intro cL cM cn co;replace cP:Hid _:=J cP;go_wp2_with fail
   go_meet
   case rel=>exact V
 have dl:Hid (∃N,rr F C w L st gc gt k d from_ ab E b3 N wc):=hcut;clear hcut;clear db z3 bv b9 bd b8 a3 bA be a7 b6 bB bx;go_wp2_with fail;go_loopw [7] (λ_ cB=>Hid (∃N,rr F C w L st gc gt k d from_ ab E b3 N cB)) (λ_ cB=>cm cB)
 case atStart=>exact dl
 case round=>
  obtain⟨f,H,W,bm,r,bp,U,z,ae,a1,S⟩:=(cb.o wr hrel.o).1;obtain⟨f5,cc⟩:=I (cm wr);rw[<-cc]at ae;replace cc:=J cc;clear dl hrel;have cD:Hid (∀(g:Nat) (t:TypeId) (x:Array Value),ah w g t x->¬F g->¬f g):=J λg t x s O el=>by
   by_cases a4:C g
   ·exact r.apart g (S.1 g a4) el
   ·rcases bp.grow g (.inl el)with br|br
    ·rcases br with br|br
     ·exact O br
     ·exact a4 br
    ·have:=de.o g t x s;omega
  have cS:Hid (∀(g:Nat) (t:TypeId) (x:Array Value),ah w g t x->g≠d):=J λg t x s e=>by have:=de.o g t x s;have:=cy.o;omega
  replace S:=J S;have eb:=z.cell 0;have ec:=z.cell 1;have ee:=z.cell 2;have y3:=z.cell 3;have ef:=z.frozen 0;have eg:=z.frozen 1;have eh:=z.frozen 2;have ei:=z.frozen 3;rcases ae.inv with⟨rfl,rfl,rfl⟩|⟨cg,n,i,rfl,ao⟩
  ·obtain⟨fa,fb,fc,af,_,_,fd,_,cV,_⟩:=r.mem;obtain⟨ff,eL,rfl⟩:=aE cV;have f6:wr.cell? ⟨gc,1,none⟩=some (.slice ff 0 eL):=af.cell 1;have cE:Hid (∀W,W=(((wr.setCell ⟨d,0,none⟩ (.slice none 0 0)).setCell ⟨d,1,none⟩ (.slice none 0 0)).setCell ⟨d,2,none⟩ (.int .i64 0)).setCell ⟨d,3,none⟩ (.int .i64 0)->wR F C w L st gc gt [] from_ ab none (.returned (.tuple #[.agg #[.slice none 0 0,.slice none 0 0,.int .i64 0,.int .i64 0],.int .i64 3])) W):=by
    refine J λW a8=>?_;have ch:R (λj=>j=d) wr W:=by rw[a8];exact((((R.refl (λj=>j=d) wr).setCell (p:=⟨d,0,none⟩) (λ_=>rfl) _).setCell (p:=⟨d,1,none⟩) (λ_=>rfl) _).setCell (p:=⟨d,2,none⟩) (λ_=>rfl) _).setCell (p:=⟨d,3,none⟩) (λ_=>rfl) _
    obtain⟨bs,dp⟩:=yF r z U ch;have db:ar W f L st:=bm.keep (λj ds=>ch.block j (bm.lt _ ds) (λe=>r.apart _ U (by rw[<-e];exact ds))) ch.size;exact⟨f,H,rfl,db,bs,bp.trans dp,S.o.1,λg t x s O Q T=>ch.blk (S.o.2 g t x s O Q T) (cS.o g t x s)⟩
   have D:=(((z.aK 0 (.slice none 0 0)).aK 1 (.slice none 0 0)).aK 2 (.int .i64 0)).aK 3 (.int .i64 0);refine dr ?_ bm r bp U z ae a1 af cV D;clear bm r bp U z ae a1 af cV D;intro bm r bp U z ae a1 af cV D;go_wp2_with fail;refine bodyPost_ret (v:=.tuple #[.agg #[.slice none 0 0,.slice none 0 0,.int .i64 0,.int .i64 0],.int .i64 3]) ?_ rfl (cE.o _ rfl);have D:=D.o;obtain⟨ci,dt⟩:=I ((((wr.setCell ⟨d,0,none⟩ (.slice none 0 0)).setCell ⟨d,1,none⟩ (.slice none 0 0)).setCell ⟨d,2,none⟩ (.int .i64 0)).setCell ⟨d,3,none⟩ (.int .i64 0));rw[<-dt]at D⊢;have ep:ci.cell? ⟨d,0,none⟩=some (.slice none 0 0):=D.cell 0;have eq:ci.cell? ⟨d,1,none⟩=some (.slice none 0 0):=D.cell 1;have er:ci.cell? ⟨d,2,none⟩=some (.int .i64 0):=D.cell 2;have es:ci.cell? ⟨d,3,none⟩=some (.int .i64 0):=D.cell 3;simp[results,Tryz.results114,go_sem,ep,eq,er,es]
  ·obtain⟨g,cap,f1,A,fg,B,fh,bi,a4,du,dv,bs,s0,s1,s2,s3,bj,b0⟩:=Gj r;have dy:=wS r g cap bs;obtain⟨fa,fb,fc,af,_⟩:=r.mem;have cX:=af.frozen 1;have dT:=bi.frozen (cg.length*4+3);obtain⟨P,bl⟩:=I (cg.length);rw[<-bl]at du bs s0 s1 s2 s3 b0 dy dT;obtain⟨N,dd⟩:=I (n.cells.length);obtain⟨K,d0⟩:=I (n.kids.length);obtain⟨fi,cY⟩:=I (n.leaf);rw[<-dd]at s1 bj ao;rw[<-d0]at s2 bj ao;rw[<-cY]at s0 bj ao;replace ao:Hid _:=J ao;have fj:(⟨g,0,none⟩:Addr).add (P*4)=⟨g,P*4,none⟩:=by rw[Addr.add_mid,Nat.zero_add]
   have f2:(P:Int)<(P:Int)+1:=by omega
   have f3:(0:Int)<=(P:Int):=by omega
   have f4:(P:Int)<=(cap:Int):=by omega
   refine dr ?_ bm r bp U z ae a1 af bi a4;clear bm r bp U z ae a1 af bi a4;intro bm r bp U z ae a1 af bi a4;have c4:=J (GD P cap du dv);replace dv:=J dv;replace dy:=J dy;replace b0:Hid _:=J b0;refine bX ?_ bj dd d0 cY bl;clear bj dd d0 cY bl;intro bj dd d0 cY bl;rcases ao.o with⟨rfl,c,c5,d1,rfl,rfl⟩|⟨rfl,em,l,M,ce,c6,cj,d1,eN,al⟩|⟨cp,M,eN,al⟩
   ·have en:i<N:=by rw[dd.o];exact(ay.1 c5).1
    have d2:(i:Int)<(N:Int):=by omega
    have eQ:decide ((i:Int)<(N:Int))=true:=aV d2;have et:decide (i<N)=true:=aV en;obtain⟨cr,a9,ba,bb,bc,rfl,a2⟩:∃cr a9 ba bb bc,A=some cr/\eG (bF (FC f H) wr) wr (cr.add (i*4)) c a9 ba bb bc:=by
     obtain⟨fk,fl,fm,fn,b4,_,_,eR,_⟩:=bj.o;have e0:i<n.cells.length:=by rw[<-dd.o];exact en
     obtain⟨cr,a9,ba,bb,bc,fp,a2⟩:=eR.at_ i e0;have fr:n.cells[i]=c:=(ay.1 c5).2;rw[fr]at a2;injection b4 with b4;simp at b4;exact⟨cr,a9,ba,bb,bc,b4.2.1.1.trans fp,a2⟩
    replace c5:=J c5;obtain⟨d3,cH⟩:=c4.o;obtain⟨a0,ex⟩:=uD i d1;go_wp2_with fail;go_quiet (fail);go_upto_region 14 with(fail)
    have cs:((i:Int)+1)=((i+1:Nat):Int):=by omega
    obtain⟨m,a⟩:=I ((wr.drewN nq).setCell ⟨g,P*4+3,none⟩ (.int .i64 ((i:Int)+1)));rw[<-a];rw[cs]at a;obtain⟨a5,a6⟩:=b0.o (i+1);have Z:Ev f (wr.setCell ⟨g,P*4+3,none⟩ (.int .i64 ((i+1:Nat):Int))) f m:=by have q:=(Ev.refl f (wr.setCell ⟨g,P*4+3,none⟩ (.int .i64 ((i+1:Nat):Int)))).drewN nq;rw[a];exact q
    have y:=a5.ev Z;have X:Ev (FC f H) wr (FC f H) m:=a6.trans (Z.add H);have d4:¬f g:=r.o.apart _ a4.o;have G:ar m f L st:=by rw[a];exact(bm.o.drewN nq).aK (p:=⟨g,P*4+3,none⟩) d4 _
    have b1:d≠g:=ah.iH z.o bi.o (by decide);have ac:∀b,b≠g->m.heap[b]?=wr.heap[b]?:=λb s=>by rw[a];exact Below.heap_setCell _ ⟨g,P*4+3,none⟩ _ b s
    have fs:m.cell? ⟨g,P*4+1,none⟩=some (.slice (some cr) N fg):=by rw[a,World.cell?_setCell_other _ _ _ _ (by simp)];exact s1
    have ap:∀b o,b≠g->m.cell? ⟨b,o,none⟩=wr.cell? ⟨b,o,none⟩:=λb o s=>World.cell?_of_block (ac b s);have ct:=a2.blk;have ck:(cr.add (i*4)).block≠g:=λe=>ct.2 (by rw[e];exact .inr a4.o);have am:eG (bF (FC f H) m) m (cr.add (i*4)) c a9 ba bb bc:=⟨(World.cell?_of_block (ac _ ck)).trans a2.c0,(ap _ _ ck).trans a2.c1,(ap _ _ ck).trans a2.c2,(ap _ _ ck).trans a2.c3,a2.Mu,a2.Mv,a2.key.ev X,a2.val.ev X,X.mine ct⟩;have f7:=am.c0;have f8:=am.c1;have f9:=am.c2;have ga:=am.c3;have u:ah m d 122 #[.slice none 0 0,.slice none 0 0,.int .i64 0,.int .i64 0]:=(ac _ b1).trans z.o;have cE:Hid (∀W,W=(((m.setCell ⟨d,0,none⟩ (.slice a9 c.key.length bb)).setCell ⟨d,1,none⟩ (.slice ba c.val.length bc)).setCell ⟨d,2,none⟩ (.int .i64 (c.over:Int))).setCell ⟨d,3,none⟩ (.int .i64 (c.long:Int))->
     wR F C w L st gc gt (cg++[(n,i+1)]) from_ ab (some c) (.returned (.tuple #[.agg #[.slice a9 c.key.length bb,.slice ba c.val.length bc,.int .i64 (c.over:Int),.int .i64 (c.long:Int)],.int .i64 0])) W):=by
     refine J λW a8=>?_;have ch:R (λj=>j=d) m W:=by rw[a8];exact((((R.refl (λj=>j=d) m).setCell (p:=⟨d,0,none⟩) (λ_=>rfl) _).setCell (p:=⟨d,1,none⟩) (λ_=>rfl) _).setCell (p:=⟨d,2,none⟩) (λ_=>rfl) _).setCell (p:=⟨d,3,none⟩) (λ_=>rfl) _
     obtain⟨bs,dp⟩:=yF y u U.o ch;have db:ar W f L st:=G.keep (λj ds=>ch.block j (G.lt _ ds) (λe=>r.o.apart _ U.o (by rw[<-e];exact ds))) ch.size;exact⟨f,H,a9,bb,ba,bc,rfl,⟨a9,bb,ba,bc,rfl,am.Mu,am.Mv,am.key.ev dp,am.val.ev dp⟩,db,bs,bp.o.trans (X.trans dp),S.o.1,λad t x s O Q T=>ch.blk ((ac ad (ah.iH (S.o.2 ad t x s O Q T) bi.o T)).trans (S.o.2 ad t x s O Q T)) (cS.o ad t x s)⟩
    have eb:=u.cell 0;have ec:=u.cell 1;have ee:=u.cell 2;have y3:=u.cell 3;have ef:=u.frozen 0;have eg:=u.frozen 1;have eh:=u.frozen 2;have ei:=u.frozen 3;have D:=(((u.aK 0 (.slice a9 c.key.length bb)).aK 1 (.slice ba c.val.length bc)).aK 2 (.int .i64 (c.over:Int))).aK 3 (.int .i64 (c.long:Int));refine aR ?_ D u am a2 G X y a5 a6 Z ac ap ct;clear D u am a2 G X y a5 a6 Z ac ap ct;intro D u am a2 G X y a5 a6 Z ac ap ct;replace a:=J a;clear s0 s1 s2 s3 bs dT cs;go_wp2_with fail;refine bodyPost_ret (v:=.tuple #[.agg #[.slice a9 c.key.length bb,.slice ba c.val.length bc,.int .i64 (c.over:Int),.int .i64 (c.long:Int)],.int .i64 0]) ?_ rfl (cE.o _ rfl);have D:=D.o;obtain⟨ci,dt⟩:=I ((((m.setCell ⟨d,0,none⟩ (.slice a9 c.key.length bb)).setCell ⟨d,1,none⟩ (.slice ba c.val.length bc)).setCell ⟨d,2,none⟩ (.int .i64 (c.over:Int))).setCell ⟨d,3,none⟩ (.int .i64 (c.long:Int)));rw[<-dt]at D⊢;have ep:ci.cell? ⟨d,0,none⟩=some (.slice a9 c.key.length bb):=D.cell 0;have eq:ci.cell? ⟨d,1,none⟩=some (.slice ba c.val.length bc):=D.cell 1;have er:ci.cell? ⟨d,2,none⟩=some (.int .i64 (c.over:Int)):=D.cell 2;have es:ci.cell? ⟨d,3,none⟩=some (.int .i64 (c.long:Int)):=D.cell 3;simp[results,Tryz.results114,go_sem,ep,eq,er,es]
   ·have e1:i<K:=by rw[d0.o];exact(ay.1 ce).1
    have d2:(i:Int)<(K:Int):=by omega
    have eQ:decide ((i:Int)<(K:Int))=true:=aV d2;have et:decide (i<K)=true:=aV e1;refine bz ?_ ce c6 al cj;clear ce c6 al cj;intro ce c6 al cj;obtain⟨d3,cH⟩:=c4.o;obtain⟨a0,ex⟩:=uD i d1;go_wp2_with fail;go_quiet (fail);go_upto_region 17 with(fail)
    have cs:((i:Int)+1)=((i+1:Nat):Int):=by omega
    obtain⟨m,a⟩:=I ((wr.drewN nq).setCell ⟨g,P*4+3,none⟩ (.int .i64 ((i:Int)+1)));rw[<-a];rw[cs]at a;obtain⟨a5,a6⟩:=b0.o (i+1);have Z:Ev f (wr.setCell ⟨g,P*4+3,none⟩ (.int .i64 ((i+1:Nat):Int))) f m:=by have q:=(Ev.refl f (wr.setCell ⟨g,P*4+3,none⟩ (.int .i64 ((i+1:Nat):Int)))).drewN nq;rw[a];exact q
    have y:=a5.ev Z;have X:Ev (FC f H) wr (FC f H) m:=a6.trans (Z.add H);have d4:¬f g:=r.o.apart _ a4.o;have G:ar m f L st:=by rw[a];exact(bm.o.drewN nq).aK (p:=⟨g,P*4+3,none⟩) d4 _
    have b1:d≠g:=ah.iH z.o bi.o (by decide);have ac:∀b,b≠g->m.heap[b]?=wr.heap[b]?:=λb s=>by rw[a];exact Below.heap_setCell _ ⟨g,P*4+3,none⟩ _ b s
    have ft:m.cell? ⟨g,P*4+2,none⟩=some (.slice B K fh):=by rw[a,World.cell?_setCell_other _ _ _ _ (by simp)];exact s2
    have u:ah m d 122 #[.slice none 0 0,.slice none 0 0,.int .i64 0,.int .i64 0]:=(ac _ b1).trans z.o;obtain⟨fk,fl,fm,fn,b4,_,_,_,d5⟩:=bj.o.ev X;injection b4 with b4;simp at b4;obtain⟨fv,e2,_,eo⟩:=d5.2 (Nat.lt_of_le_of_lt (zero_le i) (ay.1 ce.o).1);have e3:B=some fv:=b4.2.2.1.trans e2;subst e3;have gb:=eo i _ (show(n.kids.map encI)[i]?=some (.int .i64 (em:Int))by rw[getElem?_map,ce.o];rfl);have dk:=J (Bb m f H gc gt L k st G (a1.o.ev X) (cg++[(n,i+1)]) l from_ (-1) ab y em c6.o (by simpa using cj.o));have d6:¬f d:=r.o.apart _ U.o;clear d5 eo b4 e2;refine ik ?_ u G X y a5 a6 Z ac a;clear u G X y a5 a6 Z ac a;intro u G X y a5 a6 Z ac a;clear s0 s1 s2 s3 bs dT cs eb ec ee y3 ef eg eh ei;go_wp2_with fail;refine dk.o.mono ?_;rintro e ey ⟨rfl,fx,fy,c7,c8,cv,cw,c9⟩;have V:Hid (rr F C w L st gc gt k d from_ ab E b3 M ey):=J ⟨fx,fy,(cg++[(n,i+1)])++l,c7,c8,bp.o.trans (X.o.trans cv),cw _ U.o,c9 _ _ _ u.o d6 (by decide) (by decide),al.o,a1.o.ev (X.o.trans cv),λk cA=>cw k (S.o.1 k cA),λad t x s O Q T=>c9 ad t x ((ac.o ad (ah.iH (S.o.2 ad t x s O Q T) bi.o T)).trans (S.o.2 ad t x s O Q T)) (cD.o ad t x s O) Q T⟩;have cx:Hid (cm ey<cm wr):=J (by have Q:=(cb.o ey ⟨M,V.o⟩).2 M V.o;have T:=cc.o;omega)
    refine bz ?_ c7 c8 cv cw;clear c7 c8 cv cw;intro c7 c8 cv cw;replace c9:Hid _:=J c9;replace d6:=J d6;go_wp2_with fail;go_roundw
    case rel=>exact J ⟨M,V.o⟩
    case measure=>exact cx.o
   ·have fz:=J cp;cases fi with
    |true=>
     have d7:N<=i:=by simpa using cp
     have hd1:decide ((i:Int)<(N:Int))=false:=aD (by omega)
     have d8:decide (i<N)=false:=aD (by omega)
     have d9:¬(i:Int)<(N:Int):=by omega
     clear cp
     obtain⟨d3,cH⟩:=c4.o
     go_wp2_with fail
     go_quiet (fail)
     go_upto_region 11 with(fail)
     obtain⟨m,a⟩:=I (wr.drewN nq)
     rw[<-a]
     have Z:Ev (FC f H) wr (FC f H) m:=by rw[a];exact(Ev.refl _ wr).drewN nq
     have an:Ev f wr f m:=by rw[a];exact(Ev.refl _ wr).drewN nq
     have G:ar m f L st:=by rw[a];exact bm.o.drewN nq
     have eA:m.cell? ⟨gc,1,none⟩=some (.slice (some ⟨g,0,none⟩) (P+1) cap):=by rw[a];exact bs
     have fA:m.frozen? ⟨gc,1,none⟩=false:=by rw[a];exact cX
     have y:=r.o.ev an
     have Y:dA f H (m.setCell ⟨gc,1,none⟩ (.slice (some ⟨g,0,none⟩) P cap)) gc gt cg from_ (-1) ab/\Ev (FC f H) m (FC f H) (m.setCell ⟨gc,1,none⟩ (.slice (some ⟨g,0,none⟩) P cap)):=by have br:=wS y g cap (by rw[<-bl.o];exact eA);rw[<-bl.o]at br;exact br
     have V:Hid (∀W,W=(m.setCell ⟨gc,1,none⟩ (.slice (some ⟨g,0,none⟩) P cap)).drew->rr F C w L st gc gt k d from_ ab E b3 M W):=J λW a8=>by rw[a8];have b2:Ev f (m.setCell ⟨gc,1,none⟩ (.slice (some ⟨g,0,none⟩) P cap)) f (m.setCell ⟨gc,1,none⟩ (.slice (some ⟨g,0,none⟩) P cap)).drew:=(Ev.refl _ _).drew;have b1:d≠gc:=cz;exact⟨f,H,cg,(G.aK (p:=⟨gc,1,none⟩) (r.o.apart _ r.o.own) _).drew,Y.1.ev b2,bp.o.trans (Z.trans (Y.2.trans (b2.add H))),U.o,(((an.blk z.o (r.o.apart _ U.o)).far (p:=⟨gc,1,none⟩) b1 _)).drew,al,a1.o.ev (Z.trans (Y.2.trans (b2.add H))),S.o.1,λad t x s O Q T=>((an.blk (S.o.2 ad t x s O Q T) (cD.o ad t x s O)).far (p:=⟨gc,1,none⟩) (ah.iH (S.o.2 ad t x s O Q T) af.o Q) _).drew⟩
     have cx:Hid (∀W,rr F C w L st gc gt k d from_ ab E b3 M W->cm W<cm wr):=J (λW a8=>by have Q:=(cb.o W ⟨M,a8⟩).2 M a8;have T:=cc.o;omega)
     have eE:=J al
     clear al
     replace G:=J G
     replace Z:=J Z
     replace an:=J an
     replace y:=J y
     replace Y:=J Y
     replace a:=J a
     clear s0 s1 s2 s3 bs dT eb ec ee y3 ef eg eh ei cX hd1 d8 d9 d7
     go_still_tail 14,(by kernel_rfl)
     go_wp2_with fail
     go_roundw
     case rel=>exact J ⟨M,V.o _ rfl⟩
     case measure=>exact cx.o _ (V.o _ rfl)
    |false=>
     have d7:K<=i:=by simpa using cp
     have hd1:decide ((i:Int)<(K:Int))=false:=aD (by omega)
     have d8:decide (i<K)=false:=aD (by omega)
     have d9:¬(i:Int)<(K:Int):=by omega
     clear cp
     obtain⟨d3,cH⟩:=c4.o
     go_wp2_with fail
     go_quiet (fail)
     go_upto_region 11 with(fail)
     obtain⟨m,a⟩:=I (wr.drewN nq)
     rw[<-a]
     have Z:Ev (FC f H) wr (FC f H) m:=by rw[a];exact(Ev.refl _ wr).drewN nq
     have an:Ev f wr f m:=by rw[a];exact(Ev.refl _ wr).drewN nq
     have G:ar m f L st:=by rw[a];exact bm.o.drewN nq
     have eA:m.cell? ⟨gc,1,none⟩=some (.slice (some ⟨g,0,none⟩) (P+1) cap):=by rw[a];exact bs
     have fA:m.frozen? ⟨gc,1,none⟩=false:=by rw[a];exact cX
     have y:=r.o.ev an
     have Y:dA f H (m.setCell ⟨gc,1,none⟩ (.slice (some ⟨g,0,none⟩) P cap)) gc gt cg from_ (-1) ab/\Ev (FC f H) m (FC f H) (m.setCell ⟨gc,1,none⟩ (.slice (some ⟨g,0,none⟩) P cap)):=by have br:=wS y g cap (by rw[<-bl.o];exact eA);rw[<-bl.o]at br;exact br
     have V:Hid (∀W,W=(m.setCell ⟨gc,1,none⟩ (.slice (some ⟨g,0,none⟩) P cap)).drew->rr F C w L st gc gt k d from_ ab E b3 M W):=J λW a8=>by rw[a8];have b2:Ev f (m.setCell ⟨gc,1,none⟩ (.slice (some ⟨g,0,none⟩) P cap)) f (m.setCell ⟨gc,1,none⟩ (.slice (some ⟨g,0,none⟩) P cap)).drew:=(Ev.refl _ _).drew;have b1:d≠gc:=cz;exact⟨f,H,cg,(G.aK (p:=⟨gc,1,none⟩) (r.o.apart _ r.o.own) _).drew,Y.1.ev b2,bp.o.trans (Z.trans (Y.2.trans (b2.add H))),U.o,(((an.blk z.o (r.o.apart _ U.o)).far (p:=⟨gc,1,none⟩) b1 _)).drew,al,a1.o.ev (Z.trans (Y.2.trans (b2.add H))),S.o.1,λad t x s O Q T=>((an.blk (S.o.2 ad t x s O Q T) (cD.o ad t x s O)).far (p:=⟨gc,1,none⟩) (ah.iH (S.o.2 ad t x s O Q T) af.o Q) _).drew⟩
     have cx:Hid (∀W,rr F C w L st gc gt k d from_ ab E b3 M W->cm W<cm wr):=J (λW a8=>by have Q:=(cb.o W ⟨M,a8⟩).2 M a8;have T:=cc.o;omega)
     have eE:=J al
     clear al
     replace G:=J G
     replace Z:=J Z
     replace an:=J an
     replace y:=J y
     replace Y:=J Y
     replace a:=J a
     clear s0 s1 s2 s3 bs dT eb ec ee y3 ef eg eh ei cX hd1 d8 d9 d7
     go_still_tail 14,(by kernel_rfl)
     go_wp2_with fail
     go_roundw
     case rel=>exact J ⟨M,V.o _ rfl⟩
     case measure=>exact cx.o _ (V.o _ rfl)
def GF(F C:Nat->Prop)(w:World)(j:Nat)(st:aB)(gc gt:Nat)(way:List (aj×Nat))(from_ key b:List UInt8)(e:Ending)(w':World):Prop:=
 ∃a c g d i f,e=.returned (.tuple #[.slice g key.length d,.slice i b.length f,.int .i64 0])/\Rd (byteOf (FC a c) w') w' 1 g key.length (bv key)/\Rd (byteOf (FC a c) w') w' 1 i b.length (bv b)/\key.length<=d/\b.length<=f/\d<=maxLen/\f<=maxLen/\
  ar w' a j st/\dA a c w' gc gt way from_ (-1) 0/\Ev (FC F C) w (FC a c) w'/\fG F C c w w'
def Kp(F C:Nat->Prop)(w:World)(c:Nat)(st:aB)(gc gt:Nat)(way:List (aj×Nat))(from_:List UInt8)(e:Ending)(w':World):Prop:=∃a b,e=.returned (.tuple #[.slice none 0 0,.slice none 0 0,.int .i64 3])/\ar w' a c st/\dA a b w' gc gt way from_ (-1) 3/\Ev (FC F C) w (FC a b) w'/\fG F C b w w'
theorem Rd.Kq{F:Nat->Prop}{w':World}{base n c:Nat}{A:Option Addr}{l:List UInt8}(h:OB w' base (.slice A n c) n l)(hF:∀k,F k->k<base):Rd (byteOf F w') w' 1 A n (bv l):=Rd.keep h.KU λj b=>by obtain⟨f,d,a⟩:=b;exact⟨⟨⟨a.lt,λe=>by have:=hF j e;omega⟩,d,a⟩,rfl⟩
theorem Rd.MO{F a:Nat->Prop}{w w':World}{size n:Nat}{A:Option Addr}{xs:List Value}(h:Rd (byteOf F w) w size A n xs)(b:Ev F w a w'):Rd (byteOf a w') w' size A n xs:=h.keep λk d=>by obtain⟨c,e,f⟩:=d;have:=b.block c;exact⟨⟨b.mine c,e,Eq.trans this f⟩,this⟩
theorem Rd.M5{F:Nat->Prop}{w:World}{A:Option Addr}{n:Nat}{l:List UInt8}(h:Rd (byteOf F w) w 1 A n (bv l)):MB F w A n l:=h.keep λk a=>⟨a.1,rfl⟩
theorem GG(w:World)(F C:Nat->Prop)(gc gt y k:Nat)(st:aB)(h:ar w F y st)(D:aL w (FC F C) gt y k)(way:List (aj×Nat))(from_:List UInt8)(z:Int)(A:dA F C w gc gt way from_ z 0)(d:List (aj×Nat))(j:CG st from_ way z d none):Calls Tryz.prog 68 #[.pointer (some ⟨gc,0,none⟩)] w (Kp F C w y st gc gt d from_):=by
 have K:=J (yS w F C gc gt y k st h D way from_ z 0 A d none j);obtain⟨Q,S,T,l,_⟩:=A.mem;have a4:w.cell? ⟨gc,4,none⟩=some (.int .i64 0):=l.cell 4;refine bX ?_ h D A j l;clear h D A j l;intro h D A j l;go_enter Tryz.func68,Tryz.ntmps68;go_wp2_with fail;refine K.o.mono ?_;rintro e i ⟨B,G,rfl,m,n,q,b⟩;obtain⟨o,P⟩:=I (Obj.cells #[.slice none 0 0,.slice none 0 0,.int .i64 0,.int .i64 0] 122);have f:Ev B i B (i.alloc o):=(Ev.refl B i).az _;have a:=n.ev f;have r:=m.alloc o;obtain⟨s,u⟩:=wM a 3;obtain⟨U,V,W,c,_⟩:=a.mem;have v:fG F C G w ((i.alloc o).setCell ⟨gc,4,none⟩ (.int .i64 3)):=⟨b.1,λg t L M N H O=>((b.2 g t L M N H O).alloc o).far (p:=⟨gc,4,none⟩) (ah.iH ((b.2 g t L M N H O).alloc o) c H) _⟩;have z4:(i.alloc o).cell? ⟨gc,4,none⟩=some (.int .i64 0):=c.cell 4;have y4:=c.frozen 4;have x:ar ((i.alloc o).setCell ⟨gc,4,none⟩ (.int .i64 3)) B y st:=r.aK (p:=⟨gc,4,none⟩) (a.apart _ a.own) _;have E:Hid (Kp F C w y st gc gt d from_ (.returned (.tuple #[.slice none 0 0,.slice none 0 0,.int .i64 3])) ((i.alloc o).setCell ⟨gc,4,none⟩ (.int .i64 3))):=J ⟨B,G,rfl,x,s,q.trans ((f.add G).trans u),v⟩;subst P;refine kT ?_ m n q b v f a r s u c x;clear m n q b v f a r s u c x;intro m n q b v f a r s u c x;clear K;go_wp2_with fail
 go_ret3
 exact E.o
theorem Bg(w:World)(F C:Nat->Prop)(gc gt X k:Nat)(st:aB)(h:ar w F X st)(cf:aL w (FC F C) gt X k)(way:List (aj×Nat))(from_:List UInt8)(cg:Int)(ch:dA F C w gc gt way from_ cg 0)(a0:List (aj×Nat))(c:ai)(b:List UInt8)(b3:CG st from_ way cg a0 (some c))(b4:j9 st c b)(cL:c.key.length<=100000)(cM:b.length<=100000):Calls Tryz.prog 68 #[.pointer (some ⟨gc,0,none⟩)] w (GF F C w X st gc gt a0 from_ c.key b):=by
 have cP:=J (yS w F C gc gt X k st h cf way from_ cg 0 ch a0 (some c) b3);obtain⟨dj,dk,dl,b5,_⟩:=ch.mem;have a4:w.cell? ⟨gc,4,none⟩=some (.int .i64 0):=b5.cell 4;refine dZ ?_ h cf ch b3 b5 b4;clear h cf ch b3 b5 b4;intro h cf ch b3 b5 b4;go_enter Tryz.func68,Tryz.ntmps68;go_wp2_with fail;refine cP.o.mono ?_;rintro e a1 ⟨m,r,y,A,Y,a2,rfl,b6,a9,B,ba,ab⟩;obtain⟨v1,cS,v3,v4⟩:=Bd b6;have cV:=J cS;obtain⟨L,cb⟩:=I (c.key.length);obtain⟨M,b0⟩:=I (c.val.length);obtain⟨bb,bc⟩:=I (c.over);obtain⟨bd,be⟩:=I (c.long);rw[<-cb]at v1 v3 cL;rw[<-b0]at cS v4;rw[<-cb,<-b0,<-bc,<-be];obtain⟨o,ci⟩:=I (Obj.cells #[.slice y L A,.slice Y M a2,.int .i64 (bb:Int),.int .i64 (bd:Int)] 122);have ac:Ev m a1 m (a1.alloc o):=(Ev.refl m a1).az _;have v:=B.ev ac;have bi:=a9.alloc o;have s:ah (a1.alloc o) a1.heap.size 122 #[.slice y L A,.slice Y M a2,.int .i64 (bb:Int),.int .i64 (bd:Int)]:=by rw[ci];exact ah.new a1 122 _
 obtain⟨cj,ad⟩:=I (a1.alloc (.cells #[.slice y L A,.slice Y M a2,.int .i64 (bb:Int),.int .i64 (bd:Int)] 122));obtain⟨x,ck⟩:=I (a1.heap.size);have a3:cj=a1.alloc o:=by rw[ad,ci]
 rw[<-a3]at ac v bi s;rw[<-ck]at s;have ae:=ac.add r;have u3:=v3.ev ae;have u4:=v4.ev ae;obtain⟨n,D⟩:=wM v 0;have cx:x≠gc:=λe=>by have Z:=B.lt _ B.own;omega
 have z:=a9.lt;have bj:¬m x:=λu=>by have:=z _ u;omega
 obtain⟨dp,ds,dt,af,_⟩:=v.mem;have z4:cj.cell? ⟨gc,4,none⟩=some (.int .i64 0):=af.cell 4;have y4:=af.frozen 4;obtain⟨du,dv,dy,al,_⟩:=n.mem;have bl:ar (cj.setCell ⟨gc,4,none⟩ (.int .i64 0)) m X st:=bi.aK (p:=⟨gc,4,none⟩) (v.apart _ v.own) _;have a:=s.far (p:=⟨gc,4,none⟩) cx (.int .i64 0);obtain⟨d,am⟩:=I (cj.setCell ⟨gc,4,none⟩ (.int .i64 0));rw[<-am]at n D al bl a;have t3:=u3.ev D;have t4:=u4.ev D;have cX:d.cell? ⟨gc,0,none⟩=some (.pointer (some ⟨gt,0,none⟩)):=al.cell 0;have cY:d.cell? ⟨x,0,none⟩=some (.slice y L A):=a.cell 0;have r1:d.cell? ⟨x,1,none⟩=some (.slice Y M a2):=a.cell 1;have r2:d.cell? ⟨x,2,none⟩=some (.int .i64 (bb:Int)):=a.cell 2;have r3:d.cell? ⟨x,3,none⟩=some (.int .i64 (bd:Int)):=a.cell 3;have bm:fG F C r w d:=⟨ab.1,λg t E a5 u bp cc=>by
  have q:ah cj g t E:=by rw[ad];exact(ab.2 g t E a5 u bp cc).alloc _
  rw[am];exact q.far (p:=⟨gc,4,none⟩) (ah.iH q af bp) _⟩
 have cA:Hid (∀(g:Nat) (t:TypeId) (E:Array Value),ah w g t E->¬F g->¬m g):=J λg t E a5 u cy=>by
  by_cases cz:C g
  ·exact B.apart g (ab.1 g cz) cy
  ·rcases ba.grow g (.inl cy)with Z|Z
   ·rcases Z with Z|Z
    ·exact u Z
    ·exact cz Z
   ·have:=a5.lt;omega
 have G:Ev (FC F C) w (FC m r) d:=ba.trans (ae.trans D);have br:=cf.o.ev G;have a6:aL d.drew m gt X k:=⟨br.blk,λu=>br.o (.inl u)⟩;have cB:Hid (Calls Tryz.prog 80 #[.pointer (some ⟨gt,0,none⟩),.agg #[.slice y L A,.slice Y M a2,.int .i64 (bb:Int),.int .i64 (bd:Int)]] d.drew (pd m r d.drew X st b)):=J (by
  have Z:=uC d.drew m r n.lt gt X k st bl.drew a6 c b b4.o y Y L A a2 (λ_=>by have dd:MB (FC m r) d.drew Y M c.val:=t4;rw[<-b0];exact dd) cV.o
  rw[<-b0,<-bc,<-be]at Z;exact Z)
 obtain⟨N,ce⟩:=I (b.length);have cr:Hid (∀f H,Ev m d.drew H f->f.cell? ⟨gc,0,none⟩=some (.pointer (some ⟨gt,0,none⟩))/\f.cell? ⟨x,0,none⟩=some (.slice y L A)/\f.cell? ⟨x,1,none⟩=some (.slice Y M a2)/\f.cell? ⟨x,2,none⟩=some (.int .i64 (bb:Int))/\f.cell? ⟨x,3,none⟩=some (.int .i64 (bd:Int))):=J λf H c0=>by have de:=c0.blk (show ah d.drew gc 194 _ from al) (n.apart _ n.own);have cs:=c0.blk (show ah d.drew x 122 _ from a) bj;exact⟨de.cell 0,cs.cell 0,cs.cell 1,cs.cell 2,cs.cell 3⟩
 refine aR ?_ cb b0 bc be b6 a9 B ab bm ba v3 v4 u3;clear cb b0 bc be b6 a9 B ab bm ba v3 v4 u3;intro cb b0 bc be b6 a9 B ab bm ba v3 v4 u3;refine aR ?_ u4 t3 t4 ac v bi s ae n D af al bl;clear u4 t3 t4 ac v bi s ae n D af al bl;intro u4 t3 t4 ac v bi s ae n D af al bl;refine eD ?_ a G br a6 z bj ce;clear a G br a6 z bj ce;intro a G br a6 z bj ce;clear cP;refine bX ?_ ad am ck a3 ci;clear ad am ck a3 ci;intro ad am ck a3 ci;go_upto_region 6 with(fail)
 rw[<-ad.o,<-ck.o];go_upto_region 9 with(fail)
 rw[<-am.o];go_region_held3 (λw'=>w'.cell? ⟨gc,0,none⟩=some (.pointer (some ⟨gt,0,none⟩))/\w'.cell? ⟨x,0,none⟩=some (.slice y L A)/\w'.cell? ⟨x,1,none⟩=some (.slice Y M a2)/\w'.cell? ⟨x,2,none⟩=some (.int .i64 (bb:Int))/\w'.cell? ⟨x,3,none⟩=some (.int .i64 (bd:Int))) (first|exact⟨cX,cY,r1,r2,r3⟩|exact c1) (first
  |(go_at_call 80;refine cB.o.mono ?_;rintro e f ⟨H,cD,c2,rfl,cl,b7,b8,b1⟩;rw[<-ce.o]at b8 b1;rw[<-ce.o];have c1:=cr.o f H b7;replace b7:=J b7;replace cl:=J cl;replace b8:=J b8;replace b1:=J b1))
 have i:Ev m d H f:=((Ev.refl m d).drew).trans b7.o;have K:=i.add r;have O:=n.o.ev i;have a7:ah f x 122 #[.slice y L A,.slice Y M a2,.int .i64 (bb:Int),.int .i64 (bd:Int)]:=i.blk a.o bj.o;have s3:=t3.o.ev K;obtain⟨an,P⟩:=wM O 0;obtain⟨dT,d0,d1,ao,_⟩:=O.mem;have d3:f.cell? ⟨gc,4,none⟩=some (.int .i64 0):=ao.cell 4;have d4:=ao.frozen 4;have ap:ar (f.setCell ⟨gc,4,none⟩ (.int .i64 0)) H X st:=cl.o.aK (p:=⟨gc,4,none⟩) (O.apart _ O.own) _;have Q:=a7.far (p:=⟨gc,4,none⟩) cx (.int .i64 0);have S:Ev (FC F C) w (FC H r) (f.setCell ⟨gc,4,none⟩ (.int .i64 0)):=G.o.trans (K.trans P);have T:fG F C r w (f.setCell ⟨gc,4,none⟩ (.int .i64 0)):=⟨bm.o.1,λg t E a5 u bp cc=>by have q:=i.blk (bm.o.2 g t E a5 u bp cc) (cA.o g t E a5 u);exact q.far (p:=⟨gc,4,none⟩) (ah.iH q ao bp) _⟩
 have cm:=s3.ev P;have cn:=b8.o.ev P;obtain⟨U,bs⟩:=I (f.setCell ⟨gc,4,none⟩ (.int .i64 0));rw[<-bs]at an P ap Q S cm cn T;have d5:U.cell? ⟨x,0,none⟩=some (.slice y L A):=Q.cell 0;have ct:RB U U.heap.size y L c.key:=by have:=cm.qh;rw[cb.o]at this⊢;exact this
 have cv:RB U U.heap.size cD N b:=cn.rb;have V:∀j,FC H r j->j<U.heap.size:=λj b2=>by
  rcases b2 with b2|b2
  ·exact ap.lt j b2
  ·exact an.lt j b2
 have d2:N<=100000:=by rw[ce.o];exact cM
 have c3:=J (je y L A c.key U ct (by omega));have c4:Hid (∀a8,Below U.heap.size U a8->Calls Tryz.prog 63 #[.slice cD N c2] a8 (dH a8 b)):=J λa8 c5=>je cD N c2 b a8 ((cv.below c5).more c5.size) (by omega);refine aR ?_ i K O s3 an P ao ap a7 Q S T cm;clear i K O s3 an P ao ap a7 Q S T cm;intro i K O s3 an P ao ap a7 Q S T cm;refine bX ?_ cn ct cv V bs;clear cn ct cv V bs;intro cn ct cv V bs;clear cY r1 r2 r3 cX z4 y4;go_upto_region 13 with(fail)
 rw[<-bs.o];go_wp2_with fail;refine c3.o.mono ?_;rintro e a8 ⟨d6,rfl,bx,W⟩;obtain⟨cE,c6,rfl,co,_,c7,c8⟩:=bx.form;have c9:=J (c4.o a8 W);have b9:Rd (byteOf (FC H r) a8) a8 1 cE c.key.length (bv c.key):=Rd.Kq bx V.o;refine bz ?_ bx co W b9;clear bx co W b9;intro bx co W b9;go_wp2_with fail;refine c9.o.mono ?_;rintro e cw ⟨v9,rfl,bA,bB⟩;obtain⟨cH,da,rfl,cp,_,db,dc⟩:=bA.form;have l:Below U.heap.size U cw:=W.o.trans (bB.mono W.o.size);have ca:Rd (byteOf (FC H r) cw) cw 1 cH b.length (bv b):=Rd.Kq bA λj b2=>aN (V.o j b2) W.o.size;have cK:Hid (GF F C w X st gc gt a0 from_ c.key b (.returned (.tuple #[.slice cE c.key.length c6,.slice cH b.length da,.int .i64 0])) cw):=by exact J ⟨H,r,cE,c6,cH,da,rfl,b9.o.MO (Ev.ag bB),ca,c7,db,c8,dc,ap.o.below l,an.o.ev (Ev.ag l),S.o.below l,T.o.1,λg t E a5 u bp cc=>(T.o.2 g t E a5 u bp cc).below l (T.o.2 g t E a5 u bp cc).lt⟩
 refine bX ?_ bA cp bB l ca;clear bA cp bB l ca;intro bA cp bB l ca;go_wp2_with fail
 go_ret3
 exact cK.o
theorem D2(w:World)(F:Nat->Prop)(gt n k:Nat)(st:aB)(h:ar w F n st)(r:aL w F gt n k)(N:k<8)(key:List UInt8)(C:Option Addr)(O:Nat)(a:MB F w C key.length key)(E:key.length<=1000000)(D:Nat->Prop)(G:∀j,D j->j<w.heap.size/\¬F j):Calls Tryz.prog 67 #[.pointer (some ⟨gt,0,none⟩),.slice C key.length O] w λe w'=>∃gc,e=.returned (.pointer (some ⟨gc,0,none⟩))/\Below w.heap.size w w'/\w.heap.size<=gc/\dA F (λj=>j=gc\/D j) w' gc gt [] key (st.roots k:Int) 0:=by
 obtain⟨L,i⟩:=I (key.length);rw[<-i]at a E⊢;have d:=h.lt;have z:=ah.lt r.blk;have T:w.cell? ⟨gt,0,none⟩=some (.pointer (some ⟨n,0,none⟩)):=r.blk.cell 0;have U:w.cell? ⟨gt,1,none⟩=some (.int .i64 (k:Int)):=r.blk.cell 1;have P:=J (je C L O key w.drew a.rb (by omega));obtain⟨M,u⟩:=I (st.roots k);have B:Hid (∀W,Below w.heap.size w W->Calls Tryz.prog 55 #[.pointer (some ⟨n,0,none⟩),.int .i64 (k:Int)] W λe w'=>e=.returned (.int .i64 (M:Int))/\W=w'):=J λW l=>by rw[u];exact iP W F n st (h.below l) k N
 have H:Hid (∀W A c,OB W w.heap.size (.slice A L c) L key->Below w.heap.size w W->∃gc,Ending.returned (.pointer (some ⟨W.heap.size,0,none⟩))=.returned (.pointer (some ⟨gc,0,none⟩))/\Below w.heap.size w (W.alloc (.cells #[.pointer (some ⟨gt,0,none⟩),.slice none 0 0,.slice A L c,.int .i64 (M:Int),.int .i64 0] 194))/\w.heap.size<=gc/\dA F (λj=>j=gc\/D j) (W.alloc (.cells #[.pointer (some ⟨gt,0,none⟩),.slice none 0 0,.slice A L c,.int .i64 (M:Int),.int .i64 0] 194)) gc gt [] key (st.roots k:Int) 0):=J (by
  intro W A c K l;have V:Ev (FC F (λj=>j=W.heap.size\/D j)) W (FC F (λj=>j=W.heap.size\/D j)) (W.alloc (.cells #[.pointer (some ⟨gt,0,none⟩),.slice none 0 0,.slice A L c,.int .i64 (M:Int),.int .i64 0] 194)):=(Ev.refl _ W).az _;have X:MB (FC F (λj=>j=W.heap.size\/D j)) W A L key:=by
   refine⟨K.1,λY=>?_⟩;obtain⟨g,cap,Z,al,Q⟩:=World.ownsRow.form K Y;have ab:A=some ⟨g,0,none⟩:=by injection Z
   subst ab;refine⟨_,rfl,⟨Q,?_⟩,World.ownsRow.cells K (g:=g) rfl⟩;rintro(t|t)
   ·have v:g<w.heap.size:=d _ t;omega
   ·rcases t with v|v
    ·have am:g=W.heap.size:=v;omega
    ·have:=(G g v).1;omega
  refine⟨_,rfl,l.alloc l.size _,l.size,⟨.slice none 0 0,A,c,?_,?_,λk a=>by simp[Value.ownBlock]at a,[],rfl,⟨rfl,.inl ⟨rfl,rfl⟩⟩,λq vs s ac=>by simp at ac⟩,.inl rfl,λk a t=>by
   have v:=d _ t;have:=l.size;rcases a with a|a
   ·omega
   ·exact(G k a).2 t,λk a=>by
   have:=l.size;rcases a with a|a
   ·subst a;simp
   ·have:=(G k a).1;simp;omega⟩
  ·rw[<-i,<-u];exact ah.new W 194 _
  ·rw[<-i];exact X.ev V)
 refine dZ ?_ h r a i u d;clear h r a i u d;intro h r a i u d;go_enter Tryz.func67,Tryz.ntmps67;go_wp2_with fail;go_region_law(first
  |(go_simp;go_at_call 63;refine P.o.mono ?_;rintro e y ⟨an,rfl,f,x⟩;rw[<-i.o]at f;(obtain⟨ad,ae,rfl,_,_,_,_⟩:=f.form);have b:Below w.heap.size w y:=(Below.refl _ w).drew.trans x;have s1:y.cell? ⟨gt,0,none⟩=some (.pointer (some ⟨n,0,none⟩)):=(b.cell (p:=⟨gt,0,none⟩) z).trans T;have s2:y.cell? ⟨gt,1,none⟩=some (.int .i64 (k:Int)):=(b.cell (p:=⟨gt,1,none⟩) z).trans U;have m:=J (H.o y ad ae f b);have S:=J b;replace f:=J f;replace x:=J x;replace b:=J b)
  |(go_simp;go_at_call 55;refine(B.o _ (Below.refl _ w).drew).mono ?_;rintro e af ⟨rfl,rfl⟩)
  |(go_simp;go_at_call 55;refine(B.o _ S.o).mono ?_;rintro e af ⟨rfl,rfl⟩))
 all_goals
  go_wp2_with fail;first|exact m.o|(go_ret;exact m.o)
inductive mh (st:aB):List ai->List (List UInt8×List UInt8)->Prop
 |nil:mh st [] []
 |cons (c:ai) (b:List UInt8) (L:List ai) (kv:List (List UInt8×List UInt8)) (h:j9 st c b) (hk:c.key.length<=100000) (hb:b.length<=100000) (hr:mh st L kv):mh st (c::L) ((c.key,b)::kv)
theorem sI{w:World}{k:Nat}{t a:TypeId}{c b:Array Value}(h:ah w k t c)(d:ah w k a b):t=a:=by have e:=Eq.trans (Eq.symm h) d;injection e with e;injection e
structure sJ (f:FuncId) (caps:Array Value) (ok:List UInt8×List UInt8->Prop) (J:List (List UInt8×List UInt8)->(Nat->Prop)->World->Prop):Prop where
 fn:∀args wx,(callFunc f args).run Tryz.prog wx=.ok (.enter f args) wx
 good:∀d D w,J d D w->∀k,D k->∃t cs,ah w k t cs/\t≠194/\t≠259
 keep:∀d D w w',J d D w->(∀k,D k->w'.heap[k]?=w.heap[k]?)->w.heap.size<=w'.heap.size->J d D w'
 step:∀d D w key b kA vA kc vc,d.length<=900000->ok (key,b)->J d D w->RB w w.heap.size kA key.length key->RB w w.heap.size vA b.length b->key.length<=kc->b.length<=vc->kc<=maxLen->key.length<=100000->
  Calls Tryz.prog f (#[.slice kA key.length kc,.slice vA b.length vc]++caps) w λe w'=>e=.returned (.int .i64 0)/\∃D',J (d++[(key,b)]) D' w'/\Ev D w D' w'
theorem GH{F C D b:Nat->Prop}{w w':World}{gc gt:Nat}{way:List (aj×Nat)}{from_:List UInt8}{f q:Int}(h:dA F C w gc gt way from_ f q)(hF:∀k,F k->k<w.heap.size)(i:∀k,D k->C k)(r:∀k,D k->∃t j,ah w k t j/\t≠194/\t≠259) (c:Ev D w b w') (u:∀k,b k->k<w'.heap.size):dA F (λk=>C k\/b k) w' gc gt way from_ f q:=by
 obtain⟨v,E,G,x,H,K,l,L,y,M⟩:=h.mem;have z:¬D gc:=λm=>by obtain⟨t,j,n,N,_⟩:=r gc m;exact N (sI n x)
 have o:∀k,v.ownBlock=some k->¬D k:=λk a m=>by
  obtain⟨t,j,n,_,O⟩:=r k m;rcases y.2 with⟨e,_⟩|⟨g,cap,T,e,_,P,_⟩
  ·rw[e]at a;simp[Value.ownBlock]at a
  ·rw[e]at a;have:g=k:=by simpa[Value.ownBlock]using a
   subst this;exact O (sI n P)
 have d:∀k,b k->C k\/w.heap.size<=k:=λk a=>(c.grow k a).imp (i k) id;have A:Ev (FC F C) w (FC F (λk=>C k\/b k)) w':=⟨c.only.mono λk _ a=>.inr (i k a),λk a=>by
  rcases a with a|a|a
  ·exact .inl (.inl a)
  ·exact .inl (.inr a)
  ·exact(d k a).imp .inr id⟩
 exact⟨⟨v,E,G,c.only.blk x z,H.ev A,λk a=>.inl (K k a),l,L,c.only.row y o,λk vs s Q S=>(M k vs s Q S).ev A⟩,.inl h.own,λk a p=>by
  rcases a with a|a
  ·exact h.apart k a p
  ·rcases d k a with B|B
   ·exact h.apart k B p
   ·have:=hF k p;omega,λk a=>by
  rcases a with a|a
  ·exact aN (h.lt k a) c.size
  ·exact u k a⟩
def bW(a:List UInt8)(q:List UInt8×List UInt8):Bool:=a.isEmpty||bY q.1 a
def GJ(F D:Nat->Prop)(w:World)(f:Nat)(st:aB)(gc gt k:Nat)(from_ a:List UInt8)(i:Option Addr)(j:List (List UInt8×List UInt8)->(Nat->Prop)->World->Prop)(ok:List UInt8×List UInt8->Prop)(all:List (List UInt8×List UInt8))(N:Nat)(b:World):Prop:=∃c d g way e done rest L,ar b c f st/\dA c d b gc gt way from_ e 0/\(∀k,g k->d k)/\j done g b/\sH st from_ way e L/\mh st L rest/\all.takeWhile (bW a)=done++rest.takeWhile (bW a)/\rest.length=N/\Ev (FC F D) w (FC c d) b/\aL b (FC c d) gt f k/\MB (FC c d) b i a.length a/\∀q,q∈rest->ok q
def wT(F D:Nat->Prop)(w:World)(d:Nat)(st:aB)(f:List (List UInt8×List UInt8)->(Nat->Prop)->World->Prop)(l:List (List UInt8×List UInt8))(e:Ending)(w':World):Prop:=e=.returned (.int .i64 0)/\∃a b c,ar w' a d st/\f l c w'/\(∀k,c k->b k/\¬a k)/\Ev (FC F D) w (FC a b) w'
theorem mH(f:FuncId)(cb:Array Value)(a0:List (List UInt8×List UInt8)->(Nat->Prop)->World->Prop)(ok:List UInt8×List UInt8->Prop)(X:sJ f cb ok a0)(w:World)(F D:Nat->Prop)(gt p k:Nat)(st:aB)(h:ar w F p st)(bl:aL w (FC F D) gt p k)(cV:k<8)(from_ g:List UInt8) (cB a8:Option Addr) (cX cY:Nat) (cn:MB F w cB from_.length from_) (d0:from_.length<=100000) (bv:MB (FC F D) w a8 g.length g) (co:a0 [] D w) (bx:∀j,D j->¬F j) (L:List ai) (A:List (List UInt8×List UInt8)) (cp:sH st from_ [] (st.roots k:Int) L) (cr:mh st L A) (cc:∀q,q∈A->ok q) (bA:A.length<=900000):Calls Tryz.prog 29 #[.pointer (some ⟨gt,0,none⟩),.slice cB from_.length cX,.slice a8 g.length cY,.func (.func f) #[] cb] w (wT F D w p st a0 (A.takeWhile (bW g))):=by
 have ab:∀j,D j->j<w.heap.size:=λj a=>by obtain⟨t,a9,q,_⟩:=X.good _ _ _ co j a;exact q.lt
 have bB:aL w F gt p k:=⟨bl.blk,λdc=>bl.o (.inl dc)⟩;have ce:=J (D2 w F gt p k st h bB cV from_ cB cX cn (by omega) D (λj a=>⟨ab j a,bx j a⟩));obtain⟨d3,ba⟩:=I (from_.length);obtain⟨cD,ac⟩:=I (g.length);rw[<-ba]at ce;rw[<-ba,<-ac];refine bX ?_ h bl bB cn bv;clear h bl bB cn bv;intro h bl bB cn bv;replace co:Hid _:=J co;refine bX ?_ X bx ab cp cr;clear X bx ab cp cr;intro X bx ab cp cr;replace cc:Hid _:=J cc;refine bf ?_ ba ac bA;clear ba ac bA;intro ba ac bA;go_enter Tryz.func29,Tryz.ntmps29;go_wp2_with fail;go_at_call 67;refine ce.o.mono ?_;rintro e c0 ⟨gc,rfl,ad,d1,b0⟩;obtain⟨cs,b1⟩:=uE (λ(cf:World) (N:Nat)=>GJ F D w p st gc gt k from_ g a8 a0 ok A N cf);have a1:Ev (FC F D) w (FC F (λj=>j=gc\/D j)) c0:=⟨R.ag ad,λj a=>by
  rcases a with a|a|a
  ·exact .inl (.inl a)
  ·exact .inr (by omega)
  ·exact .inl (.inr a)⟩
 have d2:=ah.lt bl.o.blk;have cg:Hid (∃N,GJ F D w p st gc gt k from_ g a8 a0 ok A N c0):=J ⟨A.length,F,_,D,[],_,[],A,L,h.o.below ad,b0,λj a=>.inr a,X.o.keep _ _ _ _ co.o (λj a=>ad.block j (ab.o j a)) ad.size,cp.o,cr.o,rfl,rfl,a1,bl.o.ev a1,bv.o.ev a1,cc.o⟩;replace b1:Hid _:=J b1;refine bf ?_ ad b0 a1;clear ad b0 a1;intro ad b0 a1;clear ce;go_wp2_with fail;go_loopw [10] (λ_ cf=>Hid (∃N,GJ F D w p st gc gt k from_ g a8 a0 ok A N cf)) (λ_ cf=>cs cf)
 case atStart=>exact cg
 case round=>
  obtain⟨Y,ae,ap,way,cv,done,rest,d4,bm,S,x,T,bb,c1,B,b8,af,al,K,am⟩:=(b1.o wr hrel.o).1;obtain⟨a4,db,a2,bc,bd⟩:=Gr bb;have c2:Hid (done.length<=900000):=J (by have dd:=congrArg List.length B;rw[aq]at dd;have d5:=(takeWhile_prefix (l:=A) (bW g)).length_le;have d6:=bA.o;omega)
  have v:=X.o.good _ _ _ T;have M:∀j,ap j->¬Y j:=λj a=>S.apart j (x j a);have Z:Hid (∀i d,fG Y ae i wr d->∀j,ap j->d.heap[j]?=wr.heap[j]?):=J λi d de j a=>by obtain⟨t,a9,C,O,P⟩:=v j a;exact Eq.trans (de.2 j t a9 C (M j a) O P) (Eq.symm C)
  have cw:=J bc;clear bc;have dj:Hid (∀j,FC Y ae j->j<wr.heap.size):=J λj a=>a.elim (bm.lt j) (S.lt j);cases c1 with
  |nil=>
   have cx:=J (GG wr Y ae gc gt p k st bm al way from_ cv S a4 (by rw[<-(show db=none from cw.o)];exact a2))
   have ch:Hid (∀m i d,ar d m p st->Ev (FC Y ae) wr (FC m i) d->fG Y ae i wr d->wr.heap.size<=d.heap.size->(∀j,i j->¬m j)->wT F D w p st a0 (A.takeWhile (bW g)) (.returned (.int .i64 0)) d):=J λm i d C O P ct be=>by refine⟨rfl,m,i,ap,C,?_,λj a=>⟨P.1 j (x j a),be j (P.1 j (x j a))⟩,af.trans O⟩;rw[B,takeWhile_nil,append_nil];exact X.o.keep _ _ _ _ T (Z.o i d P) ct
   replace bm:=J bm
   replace S:=J S
   replace x:=J x
   replace T:Hid _:=J T
   replace bb:=J bb
   replace B:=J B
   replace b8:=J b8
   replace af:=J af
   replace al:=J al
   replace K:=J K
   replace a2:=J a2
   replace bd:=J bd
   replace v:Hid _:=J v
   replace M:=J M
   clear cg hrel am
   go_wp2_with fail
   refine cx.o.mono ?_
   rintro e d ⟨m,i,rfl,U,V,s,E⟩
   have a5:=J (ch.o m i d U s E s.size V.apart)
   replace U:=J U
   replace V:=J V
   replace s:=J s
   replace E:=J E
   clear cx ch
   go_wp2_with fail
   go_ret
   exact a5.o
  |cons c b dk wh ci b2 cy cj=>
   have ck:=J (Bg wr Y ae gc gt p k st bm al way from_ cv S a4 c b (by rw[<-(show db=some c from cw.o)];exact a2) ci b2 cy)
   obtain⟨y,b3⟩:=I (c.key)
   obtain⟨dl,b4⟩:=I (cs wr)
   rw[<-b3]at ck b2 B
   rw[<-b4]at b8
   have b5:Hid (g.isEmpty=false->bY y g=false->∀m i d,ar d m p st->Ev (FC Y ae) wr (FC m i) d->fG Y ae i wr d->(∀j,i j->¬m j)->wT F D w p st a0 (A.takeWhile (bW g)) (.returned (.int .i64 0)) d):=J λbp b9 m i d C O P be=>by refine⟨rfl,m,i,ap,C,?_,λj a=>⟨P.1 j (x j a),be j (P.1 j (x j a))⟩,af.trans O⟩;rw[B,takeWhile_cons,if_neg (by unfold bW;rw[bp,b9];decide),append_nil];exact X.o.keep _ _ _ _ T (Z.o i d P) O.size
   have cz:Hid ((g.isEmpty=true\/bY y g=true)->∀m i d r n,ar d m p st->dA m i d gc gt a4 from_ (-1) 0->Ev (FC Y ae) wr (FC m i) d->fG Y ae i wr d->a0 (done++[(y,b)]) r n->Ev ap d r n->GJ F D w p st gc gt k from_ g a8 a0 ok A wh.length n):=J λca m i d r n C O P ct be br=>by
    have a6:∀j,ap j->i j:=λj a=>ct.1 j (x j a);have c3:∀j,ap j->∃t a9,ah d j t a9/\t≠194/\t≠259:=λj a=>by obtain⟨t,a9,bp,b9,z3⟩:=v j a;exact⟨t,a9,ct.2 j t a9 bp (M j a) b9 z3,b9,z3⟩
    have c4:∀j,r j->j<n.heap.size:=λj a=>by obtain⟨t,a9,bp,_⟩:=X.o.good _ _ _ be j a;exact bp.lt
    have c5:=GH O C.lt a6 c3 br c4;have c6:ar n m p st:=C.keep (λj a=>br.only.block j (C.lt j a) (λdp=>O.apart j (a6 j dp) a)) br.size;have u:Ev (FC m i) d (FC m (λj=>i j\/r j)) n:=⟨br.only.mono λj _ a=>.inr (a6 j a),λj a=>by
     rcases a with a|a|a
     ·exact .inl (.inl a)
     ·exact .inl (.inr a)
     ·exact(br.grow j a).imp (λz=>.inr (a6 j z)) id⟩
    refine⟨m,λj=>i j\/r j,r,a4,-1,done++[(y,b)],wh,dk,c6,c5,λj a=>.inr a,be,bd,cj,?_,rfl,af.trans (P.trans u),al.ev (P.trans u),K.ev (P.trans u),λq ds=>am q (mem_cons_of_mem _ ds)⟩;rw[B,takeWhile_cons,if_pos (by unfold bW;rcases ca with z|z<;>simp[z]),av];rfl
   have cA:Hid (∀i d,fG Y ae i wr d->wr.heap.size<=d.heap.size->a0 done ap d):=J λi d C O=>X.o.keep _ _ _ _ T (Z.o i d C) O
   have cE:=J (by rw[b3];exact am _ mem_cons_self:ok (y,b))
   have a7:wh.length+1=dl:=by rw[<-b8];simp
   obtain⟨d7,bi⟩:=I (y.length)
   obtain⟨d8,b6⟩:=I (b.length)
   have cH:=J b2
   replace bm:=J bm
   replace S:=J S
   replace x:=J x
   replace T:Hid _:=J T
   replace bb:=J bb
   replace B:=J B
   replace b8:=J b8
   replace af:=J af
   replace al:=J al
   replace K:=J K
   replace a2:=J a2
   replace bd:=J bd
   replace v:Hid _:=J v
   replace M:=J M
   replace b4:=J b4
   replace b3:=J b3
   replace a7:=J a7
   replace ci:=J ci
   replace cj:=J cj
   replace bi:=J bi
   replace b6:=J b6
   replace am:Hid _:=J am
   clear cg hrel b2 cy
   go_wp2_with fail
   refine ck.o.mono ?_
   rintro e d ⟨m,i,c7,c8,dt,du,rfl,a3,bj,cK,cL,mk,c9,U,V,s,E⟩
   have a3:=a3.M5
   have bj:=bj.M5
   have cl:=cA.o i d E s.size
   have Q:=J (X.o.step done ap d y b c7 dt c8 du c2.o cE.o cl a3.rb bj.rb cK cL mk cH.o)
   have cm:=λargs=>X.o.fn args d
   have bs:=K.o.ev s
   have an:=J (mX d d.heap.size d.heap.size c7 a8 y.length c8 g.length cY y g a3.rb bs.rb)
   have G:=J (λbp b9=>b5.o bp b9 m i d U s E V.apart)
   have cM:=J (λca r n be br=>cz.o ca m i d r n U V s E be br)
   rw[<-bi.o,<-ac.o]at an
   rw[<-bi.o,<-b6.o]at Q
   rw[<-bi.o,<-b6.o]
   replace a3:=J a3
   replace bj:=J bj
   replace cK:=J cK
   replace cL:=J cL
   replace mk:=J mk
   replace c9:=J c9
   replace U:=J U
   replace V:=J V
   replace s:=J s
   replace E:=J E
   replace cl:Hid _:=J cl
   replace bs:=J bs
   clear ck b5 cz cA Z
   have H:∀(ca:g.isEmpty=true\/bY y g=true) (r:Nat->Prop) (n:World),a0 (done++[(y,b)]) r n->Ev ap d r n->Hid ((∃N,GJ F D w p st gc gt k from_ g a8 a0 ok A N n)/\cs n<cs wr):=λca r n C O=>J (by have q:=cM.o ca r n C O;have d9:=(b1.o n ⟨_,q⟩).2 _ q;have ea:=b4.o;have eb:=a7.o;exact⟨⟨_,q⟩,by omega⟩)
   replace H:Hid _:=J H
   cases hte:g.isEmpty with
   |true=>
    have cP:cD=0:=by rw[ac.o,isEmpty_iff.1 hte];rfl
    subst cP
    clear an G
    go_wp2_with fail
    refine Q.o.mono ?_
    rintro e n ⟨rfl,r,ao,u⟩
    have bc:=H.o (.inl hte) r n ao u
    replace ao:Hid _:=J ao
    replace u:=J u
    clear Q cm
    go_wp2_with fail
    go_roundw
    case rel=>exact J bc.o.1
    case measure=>exact bc.o.2
   |false=>
    have dv:(0:Int)<(cD:Int):=by
     rw[ac.o];have:g≠[]:=λe=>by rw[e]at hte;cases hte
     have:=length_pos_iff.2 this;omega
    have dy:decide (0<cD)=true:=aV (by omega)
    obtain⟨cS,b7⟩:=I (Lib.compareBytes y g)
    have W:decide (0<=cS)=!bY y g:=by rw[b7];exact Al y g
    rw[<-b7]at an
    replace b7:=J b7
    cases hlt:bY y g with
    |true=>
     rw[hlt]at W
     have da:¬(0:Int)<=cS:=by simpa using W
     replace W:=J W
     clear G
     go_wp2_with fail
     refine an.o.mono ?_
     rintro e dT ⟨rfl,rfl⟩
     go_wp2_with fail
     refine Q.o.mono ?_
     rintro e n ⟨rfl,r,ao,u⟩
     have bc:=H.o (.inr hlt) r n ao u
     replace ao:Hid _:=J ao
     replace u:=J u
     clear Q cm
     go_wp2_with fail
     go_roundw
     case rel=>exact J bc.o.1
     case measure=>exact bc.o.2
    |false=>
     rw[hlt]at W
     have da:(0:Int)<=cS:=by simpa using W
     replace W:=J W
     have a5:=J (G.o hte hlt)
     clear Q cm G
     go_wp2_with fail
     refine an.o.mono ?_
     rintro e dT ⟨rfl,rfl⟩
     go_wp2_with fail
     go_ret
     exact a5.o
theorem GK{st:aB}{h:Nat}{f:List ai}{q:List Nat}{g:aF}{j:Option aF}{L:List ai}{P:List Nat}(key:aF)(x:Kids (λg j k l p=>bn st h 127 g j k l p) f q g j L P):
 ∀i,i<q.length->(∀c,0<i->f[i-1]?=some c->bY key c.key=false)->(∀c,f[i]?=some c->bY key c.key=true)->
 ∃k m n l p,q[i]?=some k/\bn st h 127 m n k l p/\(∀c,c.key=key->c∈L->c∈l)/\(∀c∈l,c∈L)/\p.Sublist P:=by
 induction x with
 |one k g j L P h=>
  intro i e _ _
  simp at e
  subst e
  exact⟨k,g,j,L,P,rfl,h,λc _ s=>s,λc s=>s,Sublist.refl _⟩
 |more c f k q g j l p L P M h t ih=>
  intro i e u v
  cases i with
  |zero=>
   refine⟨k,g,_,l,p,rfl,h,λd a b=>?_,λd a=>mem_append_left _ a,sublist_append_left _ _⟩
   rcases mem_append.1 b with b|b
   ·exact b
   ·have o:=(t.keys (λ_ _ _ _ _ y=>bn.keys y) d b).1;have z:=v c rfl;rw[a,z]at o;cases o
  |succ i=>
   have w:bY key c.key=false:=by
    cases i with
    |zero=>exact u c (by omega) rfl
    |succ i=>
     have r:i<f.length:=by have:=t.len;simp at e;omega
     have A:=u f[i] (by omega) (by simp[getElem?_eq_getElem r])
     exact qt _ _ _ (cq _ _ (t.Gq f[i] (getElem_mem r)).1) A
   obtain⟨B,m,n,C,D,E,F,G,H,K⟩:=ih i (by simpa using e) (λd N a=>u d (by omega) (by
    cases i with
    |zero=>omega
    |succ i=>simpa using a)) (λd a=>v d (by simpa using a))
   refine⟨B,m,n,C,D,by simpa using E,F,λd a b=>?_,λd a=>mem_append_right _ (H d a),K.trans (sublist_append_right _ _)⟩
   rcases mem_append.1 b with b|b
   ·have o:=(bn.keys h d b).2 _ rfl;rw[a,w]at o;cases o
   ·exact G d a b
theorem uF{st:aB}(key:aF):∀(h m:Nat) (i:aF) (j:Option aF) (no:Nat) (L:List ai) (P:List Nat),bn st h m i j no L P->∃b g,mg st key b (no::g)/\(no::g).Sublist P/\b.leaf=true/\bJ b/\(∀c,c.key=key->c∈L->c∈b.cells)/\∀c∈b.cells,c∈L
 |0,m,i,j,no,L,P,o=>by
  obtain⟨n,d,_,⟨e,rfl,_⟩,rfl⟩:=o
  exact⟨n,[],.leaf no (by have:=d.1.1;omega) d e,Sublist.refl _,e,d.2.1,λc _ a=>a,λc a=>a⟩
 |h+1,m,i,j,no,L,P,o=>by
  obtain⟨n,Q,d,_,⟨e,q⟩,rfl⟩:=o
  have f:=mF n key d.2.1.rise e
  have F:=q.len
  obtain⟨k,r,s,l,p,t,u,v,w,x⟩:=GK key q (bk n key).1 (by have:=f.1;omega) f.2.1 f.2.2
  obtain⟨b,g,y,z,A,B,C,D⟩:=uF key h 127 r s k l p u
  exact⟨b,k::g,.inner no k n g (by have:=d.1.1;omega) d e (by have:=f.1;omega) t y,(z.trans x).cons_cons no,A,B,λc a E=>C c a (v c a E),λc a=>w c (D c a)⟩
theorem Bh{T:aF->Option aF->Nat->List ai->List Nat->Prop}{f:List ai}{g:List Nat}{a:aF}{b:Option aF}{L:List ai}{P:List Nat}{Q:ai->Prop}(h:Kids T f g a b L P)(i:∀a b k l p,T a b k l p->∀c∈l,Q c):∀c∈L,Q c:=by
 induction h with
 |one k a b L P h=>exact i _ _ _ _ _ h
 |more c f k g a b l p L P j h m ih=>
  intro d e
  rcases mem_append.1 e with e|e
  ·exact i _ _ _ _ _ h d e
  ·exact ih d e
theorem bn.cells{st:aB}:∀{h m:Nat} {d:aF} {e:Option aF} {no:Nat} {L:List ai} {P:List Nat},bn st h m d e no L P->∀c∈L,gJ c/\c.key.length<=120
 |0,_,_,_,_,_,_,⟨n,a,_,⟨f,rfl,_⟩,_⟩=>λc b=>⟨by have:=a.2.1.vals c b;rw[if_pos f]at this;exact this,(a.2.1.keys c b).2⟩
 |h+1,_,_,_,_,_,_,⟨n,Q,_,_,⟨_,g⟩,_⟩=>Bh g λ_ _ _ _ _ i=>bn.cells i
theorem kf.cells{st:aB}{k:Nat}{L:List ai}{P:List Nat}(h:kf st k L P):∀c∈L,gJ c/\c.key.length<=120:=by
 rcases h with⟨_,rfl,_⟩|⟨h,a⟩
 ·intro c b;cases b
 ·exact a.cells
theorem gK.Nf{st:aB}(a:st.free<st.many){no long:Nat}{l:List (Nat×List UInt8)}(h:gK st no long l):xN CH st no long l st:=by
 induction h with
 |nil no=>exact .nil st no
 |cons no long l b c d ih=>exact .cons st st no long l b c a ih
theorem D5.Bi{st:aB}(f:st.free<st.many){c:ai}{b:List UInt8}{ps:List Nat}(h:D5 st c b ps)(a:gJ c):j9 st c b:=by
 rcases h with⟨d,e,_⟩|⟨d,l,e,g,_⟩
 ·exact .inl ⟨d,e⟩
 ·refine .inr ⟨d,?_,l,e.Nf f,g⟩;rcases a with a|a
  ·exact absurd a.1 d
  ·exact a.2.2.1
theorem xN.MP{S:aB->Nat->aB}{st bg dC:aB}{no long:Nat}{l:List (Nat×List UInt8)}(h:xN S st no long l bg):∀{a:List (Nat×List UInt8)},xN S st no long a dC->l=a:=by
 induction h with
 |nil st no=>
  intro a b
  exact(b.done).1.symm
 |cons st st' no long l c e f g ih=>
  intro a b
  obtain⟨i,rfl,_,_,d⟩:=b.head c
  rw[ih d]
theorem j9.MP{st:aB}{c:ai}{b b':List UInt8}(h:j9 st c b)(e:j9 st c b'):b=b':=by
 rcases h with⟨a,rfl⟩|⟨a,_,l,g,rfl⟩
 ·rcases e with⟨_,rfl⟩|⟨d,_⟩
  ·rfl
  ·exact absurd a d
 ·rcases e with⟨d,_⟩|⟨_,_,i,f,rfl⟩
  ·exact absurd d a
  ·rw[g.MP f]
theorem dg.Kr{st:aB}(f:st.free<st.many):∀{L:List ai} {a:List KV} {O:List Nat},dg st L a O->(∀c∈L,gJ c/\c.key.length<=120)->(∀p∈a,p.2.length<=100000)->mh st L a
 |_,_,_,.nil,_,_=>.nil
 |_,_,_,.cons c L b a ps O h i,e,g=>.cons c b L a (h.Bi f (e c (.head _)).1) (by have:=(e c (.head _)).2;omega) (g _ (.head _)) (dg.Kr f i (λd j=>e d (.tail _ j)) λp k=>g p (.tail _ k))
theorem dg.mem{st:aB}:∀{L:List ai} {a:List KV} {O:List Nat},dg st L a O->∀c∈L,∃b ps,D5 st c b ps/\(c.key,b)∈a
 |_,_,_,.cons c L b a ps O h g,d,e=>by
  rcases mem_cons.1 e with rfl|e
  ·exact⟨b,ps,h,.head _⟩
  ·obtain⟨b',f,i,j⟩:=dg.mem g d e;exact⟨b',f,i,.tail _ j⟩
theorem nZ:∀{c:List KV},gF c->∀{key:aF} {b b':List UInt8},(key,b)∈c->(key,b')∈c->b=b'
 |[],_,_,_,_,h,_=>by cases h
 |p::j,h,key,b,b',i,e=>by
  have f:=(pairwise_cons.1 h).1
  rcases mem_cons.1 i with g|m1
  ·rcases mem_cons.1 e with a|d
   ·rw[<-g]at a;injection a with _ a;exact a.symm
   ·have:=f _ d;rw[<-g,bU]at this;cases this
  ·rcases mem_cons.1 e with a|d
   ·have:=f _ m1;rw[<-a,bU]at this;cases this
   ·exact nZ (pairwise_cons.1 h).2 m1 d
theorem ig.rise{st:aB}{k:Nat}{b:List KV}{a:List Nat}(h:ig st k b a):gF b:=by obtain⟨L,P,O,c,d,_⟩:=h;exact yK d.keys c.rise
theorem CI{st:aB}{fl j U:List Nat}{k:Nat}{t:List KV}(u:Inv st fl (j++U))(z:ig st k t j)(A:st.roots k≠0)(key:aF):∃m s,mg st key m (st.roots k::s)/\(st.roots k::s).Nodup/\((bk m key).2=true->(bk m key).1<m.cells.length)/\(∀c,m.cells[(bk m key).1]?=some c->∃b,j9 st c b)/\ ((bk m key).2=true↔key∈t.map (·.1))/\∀c b,(bk m key).2=true->m.cells[(bk m key).1]?=some c->j9 st c b->(key,b)∈t:=by
 obtain⟨L,P,O,o,r,rfl⟩:=z;have e:=o.cells;have y:=o.rise;rcases o with⟨B,_⟩|⟨h,C⟩
 ·exact absurd B A
 ·obtain⟨m,s,D,E,F,G,H,v⟩:=uF key h 7 [] none _ L P C;have l:=j8 m key F;have w:(st.roots k::s).Nodup:=by exact((nodup_append.1 u.nd).2.1).sublist ((E.trans (sublist_append_left P O)).trans (sublist_append_left _ U))
  have f:∀c,m.cells[(bk m key).1]?=some c->(bk m key).2=true->c.key=key:=by intro c d a;rw[l]at d a;simp only at d a;unfold il at a;rw[d]at a;simpa using a
  refine⟨m,s,D,w,λa=>?_,λc d=>?_,⟨λa=>?_,λa=>?_⟩,λc b a d K=>?_⟩
  ·rw[l]at a⊢;simp only at a⊢;unfold il at a;rcases aA (bL m.cells key) m.cells.length with g|g
   ·exact g
   ·rw[getElem?_eq_none g]at a;cases a
  ·have i:=v c (bu d);obtain⟨b,ps,p,_⟩:=r.mem c i;exact⟨b,p.Bi u.ok.free (e c i).1⟩
  ·have q:(bk m key).1<m.cells.length:=by
    rw[l]at a⊢;simp only at a⊢;unfold il at a;rcases aA (bL m.cells key) m.cells.length with g|g
    ·exact g
    ·rw[getElem?_eq_none g]at a;cases a
   have d:=ak q;have n:=f _ d a;have i:=v _ (getElem_mem q);rw[r.keys,<-n];exact aM.2 ⟨_,i,rfl⟩
  ·rw[r.keys]at a;obtain⟨c,d,n⟩:=aM.1 a;have q:=lQ G.rise (H c n d);rw[n]at q;rw[l];exact q.2
  ·have n:=f c d a;have i:=v c (bu d);obtain⟨b',ps,p,x⟩:=r.mem c i;have:=(p.Bi u.ok.free (e c i).1).MP K;rw[<-this,<-n];exact x
end
theorem iz:∀a b:List UInt8,cZ a b=bY a b
 |[],[]=>rfl
 |[],_::_=>rfl
 |_::_,[]=>rfl
 |a::x,b::y=>by
  have ih:=iz x y
  unfold cZ bY
  rw[ih]
  by_cases h:a=b
  ·subst h;rw[if_pos rfl,if_neg (by omega),if_neg (by omega)]
  ·rw[if_neg h];have d:a.toNat≠b.toNat:=λe=>h (UInt8.toNat_inj.1 e);rcases Nat.lt_or_gt_of_ne d with c|c
   ·rw[if_pos c];simpa[UInt8.lt_iff_toNat_lt]using c
   ·rw[if_neg (by omega),if_pos c];rw[decide_eq_false_iff_not,UInt8.lt_iff_toNat_lt];omega
theorem D7{key:aF}{b:List UInt8}{a:List KV}{p:KV}(h:p∈eP key b a):p=(key,b)\/p∈a:=by
 unfold eP at h;rcases mem_append.1 h with h|h
 ·exact .inr (mem_filter.1 h).1
 ·rcases mem_cons.1 h with h|h
  ·exact .inl h
  ·exact .inr (mem_filter.1 h).1
theorem uG(key:aF):∀a:List KV,(ru a key).length+(py a key).length<=a.length
 |[]=>by simp[ru,py]
 |p::b=>by
  have ih:=uG key b
  unfold ru py at ih⊢
  rw[filter_cons,filter_cons]
  cases h1:bY p.1 key with
  |true=>
   rw[cq _ _ h1]
   simp only[if_true,length_cons]
   simp only[Bool.false_eq_true,if_false]
   omega
  |false=>
   cases h2:bY key p.1 with
   |true=>simp only[Bool.false_eq_true,if_false,if_true,length_cons];omega
   |false=>simp only[Bool.false_eq_true,if_false,length_cons];omega
theorem uH(key:aF)(b:List UInt8)(a:List KV):(eP key b a).length<=a.length+1:=by have:=uG key a;unfold eP;simp only[aq,length_cons];omega
theorem GL{st:aB}{k:Nat}{L:List ai}{P:List Nat}(key:aF)(h:kf st k L P)(d:L.length<=1000000):sH st key [] (st.roots k:Int) (L.filter (lC key)):=by
 rcases h with⟨c,rfl,_⟩|⟨h,a⟩
 ·exact .inr (.inl ⟨by rw[c];rfl,rfl,rfl⟩)
 ·refine .inr (.inr ⟨_,h,L,P,rfl,rfl,?_,a,rfl⟩);have e:=a.qp (aa _);rcases aA h 20 with b|b
  ·omega
  ·have f:=Nat.pow_le_pow_right (n:=2) (by decide) b;have g:(2:Nat)^20=1048576:=by decide
   omega
theorem qv:∀{a b:List KV},gF a->gF b->(∀p,p∈a↔p∈b)->a=b
 |[],[],_,_,_=>rfl
 |[],y::s,_,_,h=>by have:=(h y).2 (.head _);cases this
 |x::r,[],_,_,h=>by have:=(h x).1 (.head _);cases this
 |x::r,y::s,m,n,h=>by
  obtain⟨f,j⟩:=pairwise_cons.1 m
  obtain⟨g,k⟩:=pairwise_cons.1 n
  have l:x=y:=by
   rcases mem_cons.1 ((h x).1 (.head _))with e|o
   ·exact e
   ·rcases mem_cons.1 ((h y).2 (.head _))with e|q
    ·exact e.symm
    ·have:=cq _ _ (f y q);rw[g x o]at this;cases this
  subst l
  rw[qv j k λp=>?_]
  constructor
  ·intro c;rcases mem_cons.1 ((h p).1 (.tail _ c))with e|i
   ·have d:=f p c;rw[e,bU]at d;cases d
   ·exact i
  ·intro c;rcases mem_cons.1 ((h p).2 (.tail _ c))with e|i
   ·have d:=g p c;rw[e,bU]at d;cases d
   ·exact i
theorem D8(key:aF)(b:List UInt8)(a:List KV):(key,b)∈eP key b a:=by unfold eP;exact mem_append.2 (.inr (.head _))
theorem Ea{key:aF}{b:List UInt8}{a:List KV}{p:KV}(h:p∈a):p∈eP key b a\/p.1=key:=by
 unfold eP ru py;cases h1:bY p.1 key with
 |true=>exact .inl (mem_append.2 (.inl (mem_filter.2 ⟨h,h1⟩)))
 |false=>
  cases h2:bY key p.1 with
  |true=>exact .inl (mem_append.2 (.inr (.tail _ (mem_filter.2 ⟨h,h2⟩))))
  |false=>exact .inr (iA _ _ h1 h2)
theorem qw{a:List KV}(h:gF a):jb [] a=a:=by rw[pj [] h];exact filter_eq_self.2 λp _=>by rw[nj];rfl
end Go.Proofs.YtajdeapdgbnahaaGreatDoor
