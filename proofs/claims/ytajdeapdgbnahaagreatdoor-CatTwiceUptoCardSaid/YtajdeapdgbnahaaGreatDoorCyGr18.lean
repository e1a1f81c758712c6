/-
  Contract of node.pack at a node that is right.
-/
import Derived.Test.YtajdeapdgbnahaaGreatDoorCyGr16
import Derived.Test.YtajdeapdgbnahaaGreatDoorCyRunB
import Derived.Test.YtajdeapdgbnahaaGreatDoorCyPgB
namespace Go.Proofs.YtajdeapdgbnahaaGreatDoor
set_option linter.unusedVariables false
set_option maxRecDepth 100000
set_option maxHeartbeats 4000000
open List Nat
section
open Go.RowKit
theorem vX(n:aj)(i:Nat)(a:i<=n.cells.length):(preB n i).length<=aC n:=by rw[<-fN];unfold preB dJ;have:=jl n.leaf (n.cells.take i) (n.cells.drop i) n.kids.tail;rw[bE]at this;rw[this,aq,aq,aq];omega
theorem rZ(k x:Nat):bP k [x]=leB k x:=by simp[bP]
theorem RB.old{w w':World}{n:Nat}{A:Option Addr}{l:List UInt8}{B:Nat}(h:Rd (λk=>k<B) w 1 A n (bv l))(a:Below B w w'):RB w' B A n l:=RB.below (Rd.reads h λk d=>d) a
theorem OB.Ct{w:World}{base n:Nat}{v:Value}{l:List UInt8}(h:OB w base v n l){k:Nat}(a:v.ownBlock=some k):k<w.heap.size:=by
 rcases h.2 with⟨rfl,_⟩|⟨g,cap,d,rfl,_,e,_⟩
 ·simp[Value.ownBlock]at a
 ·have:g=k:=by simpa[Value.ownBlock]using a
  subst this;exact ah.lt (show ah w g 5 d from e)
def Tr(w:World)(d:Array Value)(a:World):Prop:=Below w.heap.size w a/\ah a w.heap.size 129 d
theorem Tr.alloc{w a:World}{d:Array Value}(h:Tr w d a)(o:Obj):Tr w d (a.alloc o):=⟨h.1.alloc h.1.size o,h.2.alloc o⟩
theorem Tr.drew{w a:World}{d:Array Value}(h:Tr w d a):Tr w d a.drew:=⟨h.1.drew,h.2.drew⟩
theorem Tr.qJ{w a wy:World}{d:Array Value}(h:Tr w d a)(e:Below a.heap.size a wy):Tr w d wy:=⟨h.1.trans (e.mono h.1.size),h.2.below e (ah.lt h.2)⟩
theorem iL(a:World)(A:Option Addr)(N c k x g:Nat)(L:List UInt8)(t:TypeId)(l:RB a a.heap.size A N L)(m:ah a g t #[.int .i64 (x:Int)]) (o:N<=10000000) (d:1<=k) (e:k<=7) (r:x<9223372036854775808) (f:Int) (j:f=(k:Int)):Calls Tryz.prog 24 #[.slice A N c,.int .i64 f,.slice (some ⟨g,0,none⟩) 1 1] a (iJ a (L++leB k x)):=by subst j;have h:=eX a A (some ⟨g,0,none⟩) N c 1 1 k L [x] l (RN.lJ m) o (by omega) d e (by simpa using r);rw[rZ]at h;exact h
theorem RB.kW{w:World}{A:Option Addr}{n:Nat}{l:List UInt8}(h:RB w w.heap.size A n l)(o:Obj):RB (w.alloc o) (w.alloc o).heap.size A n l:=(h.alloc (aa _) o).more (by simp)
def um(w:World)(n:aj)(i:Nat)(a:Array Value)(v:Value)(wx:World):Prop:=OB wx w.heap.size v (preB n i).length (preB n i)/\Below w.heap.size w wx/\ah wx w.heap.size 129 a
theorem xW(w:World)(v:Value)(n:aj)(fx:bI (Cr w) w v n)(ck:bJ n)(eE:aC n<=100000):Calls Tryz.prog 121 #[v] w (iJ w (dJ n)):=by
 obtain⟨A,c,B,d,rfl,e7,fy,da,cA⟩:=fx;obtain⟨M,cp⟩:=I (n.cells.length);obtain⟨K,ds⟩:=I (n.kids.length);obtain⟨e8,ap⟩:=I (n.leaf);have W:=ck.many;rw[<-cp,<-ds,<-ap];rw[<-cp]at e7 W;have dT:=ck.eY;rw[<-ap]at dT;have d0:e8=false->K=M+1:=λh=>by rw[ds,dT h,cp]
 have d1:Hid (∀j,j<K->∃b o,B=some ⟨b,o,none⟩/\b<w.heap.size/\w.cell? ⟨b,o+j,none⟩=some (.int .i64 ((n.kids.getD j 0:Nat):Int))):=J λj fz=>by
  have cB:j<n.kids.length:=by omega
  obtain⟨b,o,e,fA⟩:=cA.shape (by omega) (by omega);obtain⟨b1,d2,_,eo⟩:=cA.2 (by omega);rw[e]at d2;cases d2;have:=eo j (.int .i64 ((n.kids.getD j 0:Nat):Int)) (by rw[getElem?_map,ak cB,getD_eq_getElem?_getD,ak cB];rfl);have e9:(Addr.mk b o none).add j=⟨b,o+j,none⟩:=by unfold Addr.add;split<;>simp_all
  rw[e9]at this;exact⟨b,o,e,fA,this⟩
 have et:Hid (∀i,i<M->∃x b1 z S C T,n.cells[i]?=some x/\x∈n.cells/\A=some b1/\eG (Cr w) w (b1.add (i*4)) x z S C T):=J λi d3=>by
  have d4:i<n.cells.length:=by omega
  obtain⟨b1,z,S,C,T,b5,cY⟩:=da.at_ i d4;exact⟨n.cells[i],b1,z,S,C,T,ak d4,getElem_mem d4,b5,cY⟩
 have d5:Hid (∀i,i<=M->(preB n i).length<=100000):=J λi d3=>by have:=vX n i (by omega);omega
 have db:Hid (∀i x,n.cells[i]?=some x->preB n (i+1)=preB n i++jr n.leaf x (n.kids.getD (i+1) 0)):=J λi x b6=>by have b5:=ay.1 b6;rw[mZ n i b5.1,b5.2]
 have d6:=J (by rw[cp];exact xX n:preB n M=dJ n);have d7:=J (jK n:preB n 0=jU n);refine dS ?_ ck cp ds ap da cA W eE;clear ck cp ds ap da cA W eE;intro ck cp ds ap da cA W eE;clear dT fy e7;cases e8 with
 |true=>
  have G:=eX (((w.alloc (.cells #[.bool true,.slice A M c,.slice B K d] 129)).alloc (.cells #[.int .u8 1] 5)).alloc (.cells #[.int .i64 (M:Int)] 3)) (some ⟨w.heap.size+1,0,none⟩) (some ⟨w.heap.size+2,0,none⟩) 1 1 1 1 2 [1] [M]
   (RB.lJ (t:=5) (g:=w.heap.size+1) (x:=1) (by have h:=(ah.new (w.alloc (.cells #[.bool true,.slice A M c,.slice B K d] 129)) 5 #[.int .u8 1]).alloc (.cells #[.int .i64 (M:Int)] 3);simpa using h))
   (RN.lJ (t:=3) (g:=w.heap.size+2) (by have h:=ah.new ((w.alloc (.cells #[.bool true,.slice A M c,.slice B K d] 129)).alloc (.cells #[.int .u8 1] 5)) 3 #[.int .i64 (M:Int)];simpa using h))
   (by omega) (by omega) (by omega) (by omega) (by simp;have:=W.o;omega)
  have fa:=J ((((Below.refl _ _).alloc (aa _) _).alloc (by simp) _).alloc (by simp;omega) _:Below w.heap.size w (((w.alloc (.cells #[.bool true,.slice A M c,.slice B K d] 129)).alloc (.cells #[.int .u8 1] 5)).alloc (.cells #[.int .i64 (M:Int)] 3)))
  have ev:=J (((ah.new _ _ _).alloc _).alloc _:ah (((w.alloc (.cells #[.bool true,.slice A M c,.slice B K d] 129)).alloc (.cells #[.int .u8 1] 5)).alloc (.cells #[.int .i64 (M:Int)] 3)) w.heap.size 129 #[.bool true,.slice A M c,.slice B K d])
  replace G:=J G
  have d8:=J (by unfold jU;rw[<-ap.o,rZ,<-cp.o];simp:jU n=[1]++bP 2 [M])
  go_enter Tryz.func121,Tryz.ntmps121
  go_wp2_with fail
  refine G.o.mono ?_
  rintro e dt ⟨fb,rfl,bi,bj⟩
  have du:Hid (um w n 0 #[.bool true,.slice A M c,.slice B K d] fb dt):=J ⟨by rw[d7.o,d8.o];exact bi.more (by simp;omega),fa.o.trans (bj.mono (by simp;omega)),ev.o.below bj (ah.lt ev.o)⟩
  have fX:=du.o.2.2.cell 0
  have m1:=du.o.2.2.cell 1
  have fY:=du.o.2.2.cell 2
  replace bi:=J bi
  replace bj:=J bj
  go_wp2_with fail
  go_loopw [3,30] (λv3 v30 wx=>∃(i:Nat) (b7:Value),b7=v3/\v30=.int .i64 (i:Int)/\i<=M/\Hid (um w n i #[.bool true,.slice A M c,.slice B K d] b7 wx)) (λ_ v30 _=>M-(intOf v30).toNat)
  case atStart=>exact⟨0,_,rfl,rfl,zero_le _,du⟩
  case round=>
   obtain⟨i,b7,rfl,rfl,d3,d9⟩:=hrel;obtain⟨ac,U,L⟩:=d9.o;clear d9;have f0:=L.cell 0;have f1:=L.cell 1;have eI:=L.cell 2;refine bf ?_ ac U L;clear ac U L;intro ac U L;rcases aA i M with ea|fc
   ·have fd:(i:Int)<(M:Int):=by omega
    have ff:(i:Int)<=70000:=by have:=W.o;omega
    obtain⟨x,b1,z,S,C,T,b6,a1,eJ,b2⟩:=et.o i ea;have bd:=eG.below (B:=w.heap.size) b2 U.o;have cD:=J (db.o i x b6);have be:=ck.o.keys x a1;have O:=ck.o.vals x a1;rw[<-ap.o]at O;have eK:=bd.c0;have eL:=bd.c1;have eb:=bd.c2;have eN:=bd.c3;have cE:=J b2.key;have dc:=J b2.val;obtain⟨P,a2⟩:∃P:UInt8,P=UInt8.ofNat x.key.length:=⟨_,rfl⟩;have ec:IntKind.u8.wrap (x.key.length:Int)=(P.toNat:Int):=by rw[a2,IntKind.wrap_u8,UInt8.toNat_ofNat'];omega
    obtain⟨D,bl⟩:=I (x.key.length);obtain⟨y,X⟩:=I (x.val.length);obtain⟨a,Y⟩:=I (x.over);obtain⟨f,ao⟩:=I (x.long);rw[<-bl]at eK cE ec;rw[<-X]at eL dc;rw[<-Y]at eb;rw[<-ao]at eN;have ad:D<=120:=by omega
    have ae:y<=64:=by rw[X];exact(by have h:=(by simpa using O:gJ x);rcases h with⟨_,_,h⟩|⟨_,_,_,h⟩;exact h;simp[h])
    have ee:=J (show jr true x (n.kids.getD (i+1) 0)=P::(x.key++(if a=0 then leB 2 y++x.val else leB 2 f++leB 3 a))by unfold jr;rw[<-a2,<-X,<-Y,<-ao];simp);have bm:=J (d5.o i d3);obtain⟨cr,bp⟩:=I (preB n i);rw[<-bp]at ac cD bm;have b8:=J (U.o.alloc U.o.size (.cells #[.slice z D C,.slice S y T,.int .i64 (a:Int),.int .i64 (f:Int)] 122));have b9:=J (L.o.alloc (.cells #[.slice z D C,.slice S y T,.int .i64 (a:Int),.int .i64 (f:Int)] 122));have cH:=J (ac.o.alloc (.cells #[.slice z D C,.slice S y T,.int .i64 (a:Int),.int .i64 (f:Int)] 122));have a3:=J (ah.new wr 122 #[.slice z D C,.slice S y T,.int .i64 (a:Int),.int .i64 (f:Int)]);obtain⟨af,a4⟩:=I (wr.alloc (.cells #[.slice z D C,.slice S y T,.int .i64 (a:Int),.int .i64 (f:Int)] 122));rw[<-a4]at b8 b9 cH a3;have ca:=J b8.o.size;have al:RB (af.drew.alloc (.cells #[.int .u8 (P.toNat:Int)] 5)) _ (some ⟨af.heap.size,0,none⟩) 1 [P]:=RB.lJ (ah.new af.drew 5 #[.int .u8 (P.toNat:Int)]);obtain⟨v4,cb,br,Z,bs,a5,_⟩:=gP (af.drew.alloc (.cells #[.int .u8 (P.toNat:Int)] 5)) w.heap.size b7 cr.length cr (cH.o.drew.alloc _) _ _ 1 1 [P] al 23 (by have:=bm.o;omega) (by have:=ca.o;simp;omega);have cc:wr.heap.size<af.heap.size:=a3.o.lt;have ce:w.heap.size<af.heap.size:=b9.o.lt;have am:∀k,b7.ownBlock=some k->k<wr.heap.size:=λk eQ=>OB.Ct ac.o eQ;have ab:ah cb wr.heap.size 122 #[.slice z D C,.slice S y T,.int .i64 (a:Int),.int .i64 (f:Int)]:=(a3.o.drew.alloc _).grown a5 (λe=>by have:=am _ e.symm;omega);have a6:ah cb w.heap.size 129 #[.bool true,.slice A M c,.slice B K d]:=(b9.o.drew.alloc _).grown a5 (λe=>au ac.o L.o (by decide) e.symm);have H:Below w.heap.size w cb:=(b8.o.drew.alloc (by have:=ca.o;simpa using this) _).trans bs;obtain⟨v5,cs,bv,bx,bA,a7,_⟩:=gP cb w.heap.size v4 _ _ Z w.heap.size z D C x.key (RB.old cE.o H) 23 (by have:=bm.o;omega) H.size;have F:ah cs wr.heap.size 122 #[.slice z D C,.slice S y T,.int .i64 (a:Int),.int .i64 (f:Int)]:=ab.grown a7 (λe=>au Z ab (by decide) e.symm);have Q:ah cs w.heap.size 129 #[.bool true,.slice A M c,.slice B K d]:=a6.grown a7 (λe=>au Z a6 (by decide) e.symm);have E:Below w.heap.size w cs:=H.trans bA;have a0:af.cell? ⟨wr.heap.size,0,none⟩=some (.slice z D C):=a3.o.cell 0;have eR:(af.alloc (.cells #[.int .u8 (P.toNat:Int)] 5)).cell? ⟨wr.heap.size,0,none⟩=some (.slice z D C):=(a3.o.alloc (.cells #[.int .u8 (P.toNat:Int)] 5)).cell 0;have e0:cb.cell? ⟨wr.heap.size,0,none⟩=some (.slice z D C):=ab.cell 0;have f2:=Q.cell 0;have f3:=Q.cell 1;have f4:=Q.cell 2;have g1:=F.cell 1;have f5:=F.cell 2;have g3:=F.cell 3;have c4:Hid (af=wr.alloc (.cells #[.slice z D C,.slice S y T,.int .i64 (a:Int),.int .i64 (f:Int)] 122)):=a4;refine aR ?_ ab a6 H bs bA a5 a7 Z bx F Q E al;clear ab a6 H bs bA a5 a7 Z bx F Q E al;intro ab a6 H bs bA a5 a7 Z bx F Q E al;refine aR ?_ am cc ce bp a2 bl X Y ao bd b2 b6 a1;clear am cc ce bp a2 bl X Y ao bd b2 b6 a1;intro am cc ce bp a2 bl X Y ao bd b2 b6 a1;refine bz ?_ O be ad ae;clear O be ad ae;intro O be ad ae;subst eJ;replace a4:=J a4;clear c4;go_upto_region 10 with(fail)
    rw[<-a4.o];go_cut [3] (λv wx=>v=v5/\wx=cs)
    case first=>
     go_region_law(first|refine Lib.wp_append_run _ (.tmp 35) (.tmp 40) 23 23 rfl _ _ rfl rfl _ _ br ?_|refine Lib.wp_append_run _ (.tmp 41) (.tmp 43) 23 23 rfl _ _ rfl rfl _ _ bv ?_)
     all_goals go_wp2_with fail
     all_goals go_meet
     all_goals exact⟨rfl,rfl⟩
    case rest=>
     obtain⟨rfl,rfl⟩:=hcut;clear br bv a0 eR e0;have e1:=J E.o.size;obtain⟨dv,c5,rfl,V,_,_,_⟩:=bx.o.form;obtain⟨cK,an⟩:=I (cr.length+1+D);obtain⟨cf,bB⟩:=I (cr++[P]++x.key);rw[<-an,<-bB]at V;have a8:=J (by have:=bm.o;have:=ad.o;omega:cK<=100121);have ct:Hid (∀(l:List UInt8) (u:Value) (m:Nat) (wx:World),OB wx w.heap.size u m (cf++l)->l=(if a=0 then leB 2 y++x.val else leB 2 f++leB 3 a)->Below w.heap.size w wx->ah wx w.heap.size 129 #[.bool true,.slice (some b1) M c,.slice B K d]->um w n (i+1) #[.bool true,.slice (some b1) M c,.slice B K d] u wx):=J λl u m wx b5 cY e2 e3=>by
      have e:preB n (i+1)=cf++l:=by rw[cD.o,<-ap.o,ee.o,cY,bB];simp
      refine⟨?_,e2,e3⟩;rw[e,b5.len];exact b5
     replace V:=J V;replace bB:=J bB;rw[<-an];replace an:=J an;rcases eq_zero_or_pos a with ef|ef
     ·subst ef;have G:=eX (wc.drew.alloc (.cells #[.int .i64 (y:Int)] 3)) dv (some ⟨wc.heap.size,0,none⟩) cK c5 1 1 2 cf [y] (((V.o.drew).alloc (aa _) _).more (by simp)) (RN.lJ (ah.new wc.drew 3 #[.int .i64 (y:Int)])) (by have:=a8.o;omega) (by omega) (by omega) (by omega) (by simp;have:=ae.o;omega);have fg:(wc.alloc (.cells #[.int .i64 (y:Int)] 3)).cell? ⟨wr.heap.size,1,none⟩=some (.slice S y T):=(F.o.alloc (.cells #[.int .i64 (y:Int)] 3)).cell 1;have cl:=J (E.o.drew.alloc (E.o.size) (.cells #[.int .i64 (y:Int)] 3));have ex:=J (F.o.drew.alloc (.cells #[.int .i64 (y:Int)] 3));have dd:=J (Q.o.drew.alloc (.cells #[.int .i64 (y:Int)] 3));replace G:=J G;go_upto_region 15 with(fail)
      go_region_law(first
       |refine Lib.wp_append_run _ (.tmp 76) (.tmp 78) 23 23 rfl _ _ rfl rfl _ _ ep ?_
       |(go_simp;go_at_call 24;refine G.o.mono ?_;rintro e b3 ⟨dy,rfl,s,r⟩;
         (obtain⟨e4,e5,ep,cg,eg,eh,_⟩:=gP b3 w.heap.size dy _ _ (s.more (by have:=cl.o.size;exact this)) w.heap.size S y T x.val (RB.old dc.o (cl.o.trans (r.mono cl.o.size))) 23 (by simp[cU];have:=V.o.len;have:=a8.o;have:=ae.o;omega) (aO cl.o.size r.size));
         (have ge:b3.cell? ⟨wr.heap.size,1,none⟩=some (.slice S y T):=(ex.o.below r (ah.lt ex.o)).cell 1);
         (have b0:=J (ct.o (leB 2 y++x.val) e4 _ e5 (by have h:=cg;rw[rZ,av]at h;exact h) (by simp) ((cl.o.trans (r.mono cl.o.size)).trans eg) ((dd.o.below r (ah.lt dd.o)).grown eh (λe=>au s (dd.o.below r (ah.lt dd.o)) (by decide) e.symm))));
         replace s:=J s;replace r:=J r;replace cg:=J cg;replace eg:=J eg;replace eh:=J eh))
      all_goals
       go_wp2_with fail;go_roundw
       case rel=>exact⟨i+1,_,rfl,by simp,by omega,b0⟩
       case measure=>simp[intOf];omega
     ·have f9:((a:Int)==0)=false:=by rw[aZ];omega
      have bc:Hid (f<=20000/\a<16777216):=J (by
       have h:=(by simpa using O.o:gJ x);rw[ao.o,Y.o];rcases h with⟨h,_,_⟩|⟨b5,_,cY,_⟩
       ·have:=Y.o;omega
       ·exact⟨cY,b5.2⟩)
      have cm:Hid (Tr w #[.bool true,.slice (some b1) M c,.slice B K d] wc):=J ⟨E.o,Q.o⟩;have ga:=J V.o.drew;have fh:=J (by omega:a≠0);have fi:=J (cm.o.alloc (.cells #[.int .i64 (f:Int)] 3)).drew;have fj:=J ((cm.o.alloc (.cells #[.int .i64 (f:Int)] 3)).alloc (.cells #[.int .i64 (a:Int)] 3)).drew;have fk:=J ((cm.o.alloc (.cells #[.int .i64 (a:Int)] 3)).alloc (.cells #[.int .i64 (f:Int)] 3)).drew;have fl:=J (iL (wc.alloc (.cells #[.int .i64 (f:Int)] 3)).drew dv cK c5 2 f wc.heap.size cf 3 (V.o.kW _) (ah.new wc 3 #[.int .i64 (f:Int)]) (by have:=a8.o;omega) (by omega) (by omega) (by have:=bc.o;omega) 2 rfl);have cw:ah ((wc.alloc (.cells #[.int .i64 (f:Int)] 3)).alloc (.cells #[.int .i64 (a:Int)] 3)) wc.heap.size 3 #[.int .i64 (f:Int)]:=(ah.new wc 3 #[.int .i64 (f:Int)]).alloc _;have ch:ah ((wc.alloc (.cells #[.int .i64 (f:Int)] 3)).alloc (.cells #[.int .i64 (a:Int)] 3)) (wc.heap.size+1) 3 #[.int .i64 (a:Int)]:=by simpa using ah.new (wc.alloc (.cells #[.int .i64 (f:Int)] 3)) 3 #[.int .i64 (a:Int)]
      have ci:ah ((wc.alloc (.cells #[.int .i64 (a:Int)] 3)).alloc (.cells #[.int .i64 (f:Int)] 3)) wc.heap.size 3 #[.int .i64 (a:Int)]:=(ah.new wc 3 #[.int .i64 (a:Int)]).alloc _;have cx:ah ((wc.alloc (.cells #[.int .i64 (a:Int)] 3)).alloc (.cells #[.int .i64 (f:Int)] 3)) (wc.heap.size+1) 3 #[.int .i64 (f:Int)]:=by simpa using ah.new (wc.alloc (.cells #[.int .i64 (a:Int)] 3)) 3 #[.int .i64 (f:Int)]
      have fm:=J (iL ((wc.alloc (.cells #[.int .i64 (f:Int)] 3)).alloc (.cells #[.int .i64 (a:Int)] 3)).drew dv cK c5 2 f wc.heap.size cf 3 ((V.o.kW _).kW _) cw (by have:=a8.o;omega) (by omega) (by omega) (by have:=bc.o;omega) 2 rfl);have fn:=J (iL ((wc.alloc (.cells #[.int .i64 (a:Int)] 3)).alloc (.cells #[.int .i64 (f:Int)] 3)).drew dv cK c5 2 f (wc.heap.size+1) cf 3 ((V.o.kW _).kW _) cx (by have:=a8.o;omega) (by omega) (by omega) (by have:=bc.o;omega) 2 rfl);have d2:(wc.alloc (.cells #[.int .i64 (f:Int)] 3)).cell? ⟨wr.heap.size,2,none⟩=some (.int .i64 (a:Int)):=(F.o.alloc (.cells #[.int .i64 (f:Int)] 3)).cell 2;have e9:(wc.alloc (.cells #[.int .i64 (a:Int)] 3)).cell? ⟨wr.heap.size,3,none⟩=some (.int .i64 (f:Int)):=(F.o.alloc (.cells #[.int .i64 (a:Int)] 3)).cell 3;have ey:=J (F.o.alloc (.cells #[.int .i64 (f:Int)] 3));obtain⟨eq,cj⟩:=I ((cf++leB 2 f).length);have c6:=J (by rw[cj,aq,bq,V.o.len];have:=a8.o;omega:eq<=10000000);refine dZ ?_ cj cw ch ci cx ef;clear cj cw ch ci cx ef;intro cj cw ch ci cx ef;go_upto_region 11 with(fail)
      go_region_law(first
       |(go_simp;go_at_call_of 24 (Value.int IntKind.i64 3);refine e6.o.mono ?_;rintro e e5 ⟨e4,rfl,cg,de⟩;
         (have b0:=J (ct.o (leB 2 f++leB 3 a) e4 _ e5 (by have h:=cg.more ei.o.1.size;rw[av]at h;exact h) (by simp[fh.o]) (ei.o.qJ de).1 (ei.o.qJ de).2));
         replace cg:=J cg;replace de:=J de)
       |(go_simp;go_at_call_of 24 (Value.int IntKind.i64 2);(with_reducible refine fl.o.mono ?_);rintro e b3 ⟨dy,rfl,s,r⟩;rw[<-cj.o]at s;(obtain⟨ej,ek,rfl,a9,_⟩:=s.form);
         (have ei:=J ((fi.o.qJ r).alloc (.cells #[.int .i64 (a:Int)] 3)));
         (have gf:b3.cell? ⟨wr.heap.size,2,none⟩=some (.int .i64 (a:Int)):=(ey.o.drew.below r (ah.lt ey.o)).cell 2);
         (have e6:=J (iL (b3.alloc (.cells #[.int .i64 (a:Int)] 3)) ej eq ek 3 a b3.heap.size _ 3 (a9.kW _) (ah.new b3 3 #[.int .i64 (a:Int)]) c6.o (by omega) (by omega) (by have:=bc.o;omega) 3 rfl));
         replace s:=J s;replace r:=J r;replace a9:=J a9)
       |(go_simp;go_at_call_of 24 (Value.int IntKind.i64 2);(with_reducible refine fm.o.mono ?_);rintro e b3 ⟨dy,rfl,s,r⟩;rw[<-cj.o]at s;(obtain⟨ej,ek,rfl,a9,_⟩:=s.form);
         (have ei:=J (fj.o.qJ r));
         (have e6:=J (iL b3 ej eq ek 3 a (wc.heap.size+1) _ 3 a9 (ch.o.drew.below r (ah.lt ch.o)) c6.o (by omega) (by omega) (by have:=bc.o;omega) 3 rfl));
         replace s:=J s;replace r:=J r;replace a9:=J a9)
       |(go_simp;go_at_call_of 24 (Value.int IntKind.i64 2);(with_reducible refine fn.o.mono ?_);rintro e b3 ⟨dy,rfl,s,r⟩;rw[<-cj.o]at s;(obtain⟨ej,ek,rfl,a9,_⟩:=s.form);
         (have ei:=J (fk.o.qJ r));
         (have e6:=J (iL b3 ej eq ek 3 a wc.heap.size _ 3 a9 (ci.o.drew.below r (ah.lt ci.o)) c6.o (by omega) (by omega) (by have:=bc.o;omega) 3 rfl));
         replace s:=J s;replace r:=J r;replace a9:=J a9))
      all_goals
       go_wp2_with fail;go_roundw
       case rel=>exact⟨i+1,_,rfl,by simp,by omega,b0⟩
       case measure=>simp[intOf];omega
   ·have fp:¬(i:Int)<(M:Int):=by omega
    have fr:(M:Int)<=(i:Int):=by omega
    have el:i=M:=by omega
    go_wp2_with fail;go_ret;rw[el]at ac;exact⟨_,rfl,by rw[<-d6.o];exact ac.o,U.o⟩
 |false=>
  obtain⟨ba,bb,rfl,cy,em⟩:=d1.o 0 (by rw[d0 rfl];omega)
  obtain⟨c7,cn⟩:=I (n.kids.getD 0 0)
  rw[<-cn,Nat.add_zero]at em
  have cL:K=M+1:=d0 rfl
  have gb:(0:Int)<(K:Int):=by omega
  have cM:Hid (∀j,j<K->n.kids.getD j 0<16777216):=J λj fz=>by
   have cB:j<n.kids.length:=by have:=ds.o;omega
   rw[getD_eq_getElem?_getD,ak cB];exact(ck.o.jT _ (getElem_mem cB)).2
  have G:=iL (((w.alloc (.cells #[.bool false,.slice A M c,.slice (some ⟨ba,bb,none⟩) K d] 129)).alloc (.cells #[.int .u8 2] 5)).alloc (.cells #[.int .i64 (M:Int)] 3)) (some ⟨w.heap.size+1,0,none⟩) 1 1 2 M (w.heap.size+2) [2] 3
   (RB.lJ (t:=5) (g:=w.heap.size+1) (x:=2) (by have h:=(ah.new (w.alloc (.cells #[.bool false,.slice A M c,.slice (some ⟨ba,bb,none⟩) K d] 129)) 5 #[.int .u8 2]).alloc (.cells #[.int .i64 (M:Int)] 3);simpa using h))
   (by have h:=ah.new ((w.alloc (.cells #[.bool false,.slice A M c,.slice (some ⟨ba,bb,none⟩) K d] 129)).alloc (.cells #[.int .u8 2] 5)) 3 #[.int .i64 (M:Int)];simpa using h)
   (by omega) (by omega) (by omega) (by have:=W.o;omega) 2 rfl
  have fs:Hid (Tr w #[.bool false,.slice A M c,.slice (some ⟨ba,bb,none⟩) K d] (((w.alloc (.cells #[.bool false,.slice A M c,.slice (some ⟨ba,bb,none⟩) K d] 129)).alloc (.cells #[.int .u8 2] 5)).alloc (.cells #[.int .i64 (M:Int)] 3))):=J ((Tr.alloc (Tr.alloc ⟨(Below.refl _ _).alloc (aa _) _,ah.new _ _ _⟩ _) _))
  replace G:=J G
  have d8:Hid (jU n=[2]++leB 2 M++leB 3 c7):=J (by unfold jU;rw[<-ap.o,<-cp.o,cn];cases n.kids<;>simp)
  refine bf ?_ cy cn cL
  clear cy cn cL
  intro cy cn cL
  clear d0
  go_enter Tryz.func121,Tryz.ntmps121
  go_wp2_with fail
  refine G.o.mono ?_
  rintro e dt ⟨fb,rfl,bi,bj⟩
  have co:=J (fs.o.qJ bj)
  have fX:=co.o.2.cell 0
  have m1:=co.o.2.cell 1
  have fY:=co.o.2.cell 2
  have mk:dt.cell? ⟨ba,bb,none⟩=some (.int .i64 (c7:Int)):=(co.o.1.cell (p:=⟨ba,bb,none⟩) cy.o).trans em
  obtain⟨eI,cP⟩:=I (([2]++leB 2 M).length)
  rw[<-cP]at bi
  obtain⟨f6,eb,rfl,dj,_⟩:=bi.form
  have er:=J (iL (dt.alloc (.cells #[.int .i64 (c7:Int)] 3)) f6 eI eb 3 c7 dt.heap.size _ 3 (dj.kW _) (ah.new dt 3 #[.int .i64 (c7:Int)]) (by rw[cP];simp[bq]) (by omega) (by omega) (by have:=cM.o 0 (by have:=cL.o;omega);rw[<-cn.o]at this;omega) 3 rfl)
  refine bz ?_ cP bi dj bj
  clear cP bi dj bj
  intro cP bi dj bj
  go_wp2_with fail
  refine er.o.mono ?_
  rintro e f7 ⟨v3,rfl,dk,dl⟩
  have b4:=(co.o.alloc (.cells #[.int .i64 (c7:Int)] 3)).qJ dl
  have du:Hid (um w n 0 #[.bool false,.slice A M c,.slice (some ⟨ba,bb,none⟩) K d] v3 f7):=J ⟨by rw[d7.o,d8.o];exact dk.more (co.o.alloc (.cells #[.int .i64 (c7:Int)] 3)).1.size,b4.1,b4.2⟩
  have gg:=b4.2.cell 0
  have gh:=b4.2.cell 1
  have gi:=b4.2.cell 2
  refine bf ?_ b4 dk dl
  clear b4 dk dl
  intro b4 dk dl
  go_wp2_with fail
  go_loopw [3,30] (λv3 v30 wx=>∃(i:Nat) (b7:Value),b7=v3/\v30=.int .i64 (i:Int)/\i<=M/\Hid (um w n i #[.bool false,.slice A M c,.slice (some ⟨ba,bb,none⟩) K d] b7 wx)) (λ_ v30 _=>M-(intOf v30).toNat)
  case atStart=>exact⟨0,_,rfl,rfl,zero_le _,du⟩
  case round=>
   obtain⟨i,b7,rfl,rfl,d3,d9⟩:=hrel;obtain⟨ac,U,L⟩:=d9.o;clear d9;have f0:=L.cell 0;have f1:=L.cell 1;have eI:=L.cell 2;refine bf ?_ ac U L;clear ac U L;intro ac U L;rcases aA i M with ea|fc
   ·have fd:(i:Int)<(M:Int):=by omega
    have ff:(i:Int)<=70000:=by have:=W.o;omega
    obtain⟨x,b1,z,S,C,T,b6,a1,eJ,b2⟩:=et.o i ea;have bd:=eG.below (B:=w.heap.size) b2 U.o;have cD:=J (db.o i x b6);have be:=ck.o.keys x a1;have O:=ck.o.vals x a1;rw[<-ap.o]at O;have eK:=bd.c0;have eL:=bd.c1;have eb:=bd.c2;have eN:=bd.c3;have cE:=J b2.key;have dc:=J b2.val;obtain⟨P,a2⟩:∃P:UInt8,P=UInt8.ofNat x.key.length:=⟨_,rfl⟩;have ec:IntKind.u8.wrap (x.key.length:Int)=(P.toNat:Int):=by rw[a2,IntKind.wrap_u8,UInt8.toNat_ofNat'];omega
    obtain⟨D,bl⟩:=I (x.key.length);obtain⟨y,X⟩:=I (x.val.length);obtain⟨a,Y⟩:=I (x.over);obtain⟨f,ao⟩:=I (x.long);rw[<-bl]at eK cE ec;rw[<-X]at eL dc;rw[<-Y]at eb;rw[<-ao]at eN;have ad:D<=120:=by omega
    have ae:y<=64:=by rw[X];exact(by have h:=(by simpa using O:iK x);rw[h.2.2];simp)
    have ee:=J (show jr false x (n.kids.getD (i+1) 0)=P::(x.key++leB 3 (n.kids.getD (i+1) 0))by unfold jr;rw[<-a2,<-X,<-Y,<-ao];simp);have bm:=J (d5.o i d3);obtain⟨cr,bp⟩:=I (preB n i);rw[<-bp]at ac cD bm;have b8:=J (U.o.alloc U.o.size (.cells #[.slice z D C,.slice S y T,.int .i64 (a:Int),.int .i64 (f:Int)] 122));have b9:=J (L.o.alloc (.cells #[.slice z D C,.slice S y T,.int .i64 (a:Int),.int .i64 (f:Int)] 122));have cH:=J (ac.o.alloc (.cells #[.slice z D C,.slice S y T,.int .i64 (a:Int),.int .i64 (f:Int)] 122));have a3:=J (ah.new wr 122 #[.slice z D C,.slice S y T,.int .i64 (a:Int),.int .i64 (f:Int)]);obtain⟨af,a4⟩:=I (wr.alloc (.cells #[.slice z D C,.slice S y T,.int .i64 (a:Int),.int .i64 (f:Int)] 122));rw[<-a4]at b8 b9 cH a3;have ca:=J b8.o.size;have al:RB (af.drew.alloc (.cells #[.int .u8 (P.toNat:Int)] 5)) _ (some ⟨af.heap.size,0,none⟩) 1 [P]:=RB.lJ (ah.new af.drew 5 #[.int .u8 (P.toNat:Int)]);obtain⟨v4,cb,br,Z,bs,a5,_⟩:=gP (af.drew.alloc (.cells #[.int .u8 (P.toNat:Int)] 5)) w.heap.size b7 cr.length cr (cH.o.drew.alloc _) _ _ 1 1 [P] al 23 (by have:=bm.o;omega) (by have:=ca.o;simp;omega);have cc:wr.heap.size<af.heap.size:=a3.o.lt;have ce:w.heap.size<af.heap.size:=b9.o.lt;have am:∀k,b7.ownBlock=some k->k<wr.heap.size:=λk eQ=>OB.Ct ac.o eQ;have ab:ah cb wr.heap.size 122 #[.slice z D C,.slice S y T,.int .i64 (a:Int),.int .i64 (f:Int)]:=(a3.o.drew.alloc _).grown a5 (λe=>by have:=am _ e.symm;omega);have a6:ah cb w.heap.size 129 #[.bool false,.slice A M c,.slice (some ⟨ba,bb,none⟩) K d]:=(b9.o.drew.alloc _).grown a5 (λe=>au ac.o L.o (by decide) e.symm);have H:Below w.heap.size w cb:=(b8.o.drew.alloc (by have:=ca.o;simpa using this) _).trans bs;obtain⟨v5,cs,bv,bx,bA,a7,_⟩:=gP cb w.heap.size v4 _ _ Z w.heap.size z D C x.key (RB.old cE.o H) 23 (by have:=bm.o;omega) H.size;have F:ah cs wr.heap.size 122 #[.slice z D C,.slice S y T,.int .i64 (a:Int),.int .i64 (f:Int)]:=ab.grown a7 (λe=>au Z ab (by decide) e.symm);have Q:ah cs w.heap.size 129 #[.bool false,.slice A M c,.slice (some ⟨ba,bb,none⟩) K d]:=a6.grown a7 (λe=>au Z a6 (by decide) e.symm);have E:Below w.heap.size w cs:=H.trans bA;have a0:af.cell? ⟨wr.heap.size,0,none⟩=some (.slice z D C):=a3.o.cell 0;have eR:(af.alloc (.cells #[.int .u8 (P.toNat:Int)] 5)).cell? ⟨wr.heap.size,0,none⟩=some (.slice z D C):=(a3.o.alloc (.cells #[.int .u8 (P.toNat:Int)] 5)).cell 0;have e0:cb.cell? ⟨wr.heap.size,0,none⟩=some (.slice z D C):=ab.cell 0;have f2:=Q.cell 0;have f3:=Q.cell 1;have f4:=Q.cell 2;have g1:=F.cell 1;have f5:=F.cell 2;have g3:=F.cell 3;have c4:Hid (af=wr.alloc (.cells #[.slice z D C,.slice S y T,.int .i64 (a:Int),.int .i64 (f:Int)] 122)):=a4;refine aR ?_ ab a6 H bs bA a5 a7 Z bx F Q E al;clear ab a6 H bs bA a5 a7 Z bx F Q E al;intro ab a6 H bs bA a5 a7 Z bx F Q E al;refine aR ?_ am cc ce bp a2 bl X Y ao bd b2 b6 a1;clear am cc ce bp a2 bl X Y ao bd b2 b6 a1;intro am cc ce bp a2 bl X Y ao bd b2 b6 a1;refine bz ?_ O be ad ae;clear O be ad ae;intro O be ad ae;subst eJ;replace a4:=J a4;clear c4;go_upto_region 10 with(fail)
    rw[<-a4.o];go_cut [3] (λv wx=>v=v5/\wx=cs)
    case first=>
     go_region_law(first|refine Lib.wp_append_run _ (.tmp 35) (.tmp 40) 23 23 rfl _ _ rfl rfl _ _ br ?_|refine Lib.wp_append_run _ (.tmp 41) (.tmp 43) 23 23 rfl _ _ rfl rfl _ _ bv ?_)
     all_goals go_wp2_with fail
     all_goals go_meet
     all_goals exact⟨rfl,rfl⟩
    case rest=>
     obtain⟨rfl,rfl⟩:=hcut;clear br bv a0 eR e0;have e1:=J E.o.size;obtain⟨dv,c5,rfl,V,_,_,_⟩:=bx.o.form;obtain⟨cK,an⟩:=I (cr.length+1+D);obtain⟨cf,bB⟩:=I (cr++[P]++x.key);rw[<-an,<-bB]at V;have a8:=J (by have:=bm.o;have:=ad.o;omega:cK<=100121);have ct:Hid (∀(l:List UInt8) (u:Value) (m:Nat) (wx:World),OB wx w.heap.size u m (cf++l)->l=leB 3 (n.kids.getD (i+1) 0)->Below w.heap.size w wx->ah wx w.heap.size 129 #[.bool false,.slice (some b1) M c,.slice (some ⟨ba,bb,none⟩) K d]->um w n (i+1) #[.bool false,.slice (some b1) M c,.slice (some ⟨ba,bb,none⟩) K d] u wx):=J λl u m wx b5 cY e2 e3=>by
      have e:preB n (i+1)=cf++l:=by rw[cD.o,<-ap.o,ee.o,cY,bB];simp
      refine⟨?_,e2,e3⟩;rw[e,b5.len];exact b5
     replace V:=J V;replace bB:=J bB;rw[<-an];replace an:=J an;obtain⟨cS,c8⟩:=I (i+1);have eA:cS<K:=by have:=cL.o;omega
     obtain⟨ft,fv,es,cz,en⟩:=d1.o cS eA;obtain⟨rfl,rfl⟩:ba=ft/\bb=fv:=by injection es with es;injection es with fg d2;exact⟨fg,d2⟩
     have gc:(i:Int)+1=(cS:Int):=by omega
     have f8:(cS:Int)<(K:Int):=by omega
     have dp:=cM.o cS eA;obtain⟨c9,cV⟩:=I (n.kids.getD cS 0);rw[<-cV]at en dp;have gd:IntKind.i64.wrap (cS:Int)=(cS:Int):=IntWalk.i64_in _ (by omega);have gj:wc.cell? ⟨ba,bb+cS,none⟩=some (.int .i64 (c9:Int)):=(E.o.cell (p:=⟨ba,bb+cS,none⟩) cz).trans en;have G:=J (iL (wc.alloc (.cells #[.int .i64 (c9:Int)] 3)) dv cK c5 3 c9 wc.heap.size cf 3 (V.o.kW _) (ah.new wc 3 #[.int .i64 (c9:Int)]) (by have:=a8.o;omega) (by omega) (by omega) (by omega) 3 rfl);have cm:Hid (Tr w #[.bool false,.slice (some b1) M c,.slice (some ⟨ba,bb,none⟩) K d] wc):=J ⟨E.o,Q.o⟩;refine bz ?_ c8 cV dp cz;clear c8 cV dp cz;intro c8 cV dp cz;clear es;go_wp2_with fail;refine G.o.mono ?_;rintro e b3 ⟨dy,rfl,s,r⟩;have cX:=(cm.o.alloc (.cells #[.int .i64 (c9:Int)] 3)).qJ r;have b0:=J (ct.o (leB 3 c9) dy _ b3 (s.more (cm.o.alloc (.cells #[.int .i64 (c9:Int)] 3)).1.size) (by rw[cV.o,c8.o]) cX.1 cX.2);refine bf ?_ s r cX;clear s r cX;intro s r cX;go_wp2_with fail;go_roundw
     case rel=>exact⟨cS,_,rfl,rfl,by have:=c8.o;omega,by rw[c8.o];exact b0⟩
     case measure=>have:=c8.o;simp[intOf];omega
   ·have fp:¬(i:Int)<(M:Int):=by omega
    have fr:(M:Int)<=(i:Int):=by omega
    have el:i=M:=by omega
    go_wp2_with fail;go_ret;rw[el]at ac;exact⟨_,rfl,by rw[<-d6.o];exact ac.o,U.o⟩
theorem OB.far{w:World}{base n:Nat}{v:Value}{l:List UInt8}(h:OB w base v n l){p:Addr}(f:v.ownBlock≠some p.block)(u:Value):OB (w.setCell p u) base v n l:=by
 obtain⟨j,a⟩:=h;refine⟨j,?_⟩;rcases a with a|⟨g,cap,d,rfl,k,m,o⟩
 ·exact Or.inl a
 ·exact Or.inr ⟨g,cap,d,rfl,k,(Below.heap_setCell w p u g (λe=>f (by rw[<-e];rfl))).trans m,o⟩
structure vY (w:World) (gr:Nat) (A:Option Addr) (N c:Nat) (b:List UInt8) (at_:Nat):Prop where
 blk:ah w gr 265 #[.slice A N c,.int .i64 (at_:Int),.bool true]
 rb:RB w gr A N b
 nc:N<=c
 small:N<=10000000
def fU(w:World)(gr:Nat)(A:Option Addr)(N c:Nat)(b:List UInt8)(at_:Nat)(w':World):Prop:=vY w' gr A N c b at_/\R (λj=>j=gr) w w'
theorem vY.moved{w w':World}{gr N c at_ at2:Nat}{A:Option Addr}{b:List UInt8}(h:vY w gr A N c b at_)(a:Below w.heap.size w w'):fU w gr A N c b at2 ((w'.setCell ⟨gr,1,none⟩ (.int .i64 (at2:Int))).setCell ⟨gr,2,none⟩ (.bool true)):=by have e:=h.blk.below a (ah.lt h.blk);have f:=(e.aK 1 (.int .i64 (at2:Int))).aK 2 (.bool true);have d:=ah.lt h.blk;refine⟨⟨f,?_,h.nc,h.small⟩,(((R.ag (S:=λj=>j=gr) a).setCell (p:=⟨gr,1,none⟩) (λ_=>rfl) _).setCell (p:=⟨gr,2,none⟩) (λ_=>rfl) _)⟩;exact((h.rb.below (a.mono (Nat.le_of_lt d))).setCell (p:=⟨gr,1,none⟩) (aa _) _).setCell (p:=⟨gr,2,none⟩) (aa _) _
theorem eZ(w:World)(gr N c at_ k:Nat)(A:Option Addr)(b:List UInt8)(h:vY w gr A N c b at_)(v:1<=k)(L:k<=4)(x:at_+k<=N)(y:Int)(z:y=(k:Int)):Calls Tryz.prog 180 #[.pointer (some ⟨gr,0,none⟩),.int .i64 y] w λe w'=>e=.returned (.int .i64 ((fH ((b.drop at_).take k):Nat):Int))/\fU w gr A N c b (at_+k) w':=by
 subst z;have B:w.cell? ⟨gr,0,none⟩=some (.slice A N c):=h.blk.cell 0;have C:w.cell? ⟨gr,1,none⟩=some (.int .i64 (at_:Int)):=h.blk.cell 1;have g:=ah.lt h.blk;have t:Hid (∀a,Below w.heap.size w a->Calls Tryz.prog 86 #[.slice A N c,.int .i64 (at_:Int),.int .i64 (k:Int)] a (qf (fH ((b.drop at_).take k)) 0 a)):=J λa r=>jR a A N c at_ k b ((h.rb.below (r.mono (Nat.le_of_lt g))).more (by have:=r.size;omega)) h.nc h.small x v (by omega)
 obtain⟨X,l⟩:=I (fH ((b.drop at_).take k));obtain⟨T,s⟩:=I (at_+k);rw[<-l,<-s];rw[<-l]at t;have H:(at_:Int)+(k:Int)=(T:Int):=by omega
 have K:(T:Int)<=10000000:=by have:=h.small;omega
 have j:Hid (∀a,Below w.heap.size w a->(a.cell? ⟨gr,0,none⟩=some (.slice A N c)/\a.cell? ⟨gr,1,none⟩=some (.int .i64 (at_:Int)))):=J λa D=>⟨(D.cell (p:=⟨gr,0,none⟩) g).trans B,(D.cell (p:=⟨gr,1,none⟩) g).trans C⟩;have E:=J (λw' r=>h.moved (at2:=T) (w':=w') r);have F:=J h.blk;refine bf ?_ l s h;clear l s h;intro l s h;go_enter Tryz.func180,Tryz.ntmps180;go_upto_region 1 with(fail)
 go_region_held3 (λw'=>w'.cell? ⟨gr,0,none⟩=some (.slice A N c)/\w'.cell? ⟨gr,1,none⟩=some (.int .i64 (at_:Int))) (first|exact⟨B,C⟩|exact j.o _ d|exact j.o _ (below_drewN d _)) ((go_at_call 86;refine(t.o _ ((Below.refl _ w).drew)).mono ?_;rintro e G ⟨rfl,m⟩;have d:Below w.heap.size w G:=(Below.refl _ w).drew.trans m;replace m:=J m))
 all_goals
  have f:=F.o.below d g;have M:=f.cell 1;have O:=f.frozen 1;have P:=f.cell 2;have Q:=f.frozen 2;have u:=J (E.o _ d);replace f:=J f;replace d:=J d;go_wp2_with fail;go_ret;exact⟨rfl,u.o⟩
def oL(w:World)(gr:Nat)(A:Option Addr)(N c:Nat)(b:List UInt8)(at_ k:Nat)(e:Ending)(w':World):Prop:=∃v,e=.returned v/\OB w' w.heap.size v k ((b.drop at_).take k)/\fU w gr A N c b (at_+k) w'
theorem vZ(w:World)(gr N c at_ k:Nat)(A:Option Addr)(b:List UInt8)(h:vY w gr A N c b at_)(y:at_+k<=N):Calls Tryz.prog 181 #[.pointer (some ⟨gr,0,none⟩),.int .i64 (k:Int)] w (oL w gr A N c b at_ k):=by
 have z:w.cell? ⟨gr,0,none⟩=some (.slice A N c):=h.blk.cell 0;have B:w.cell? ⟨gr,1,none⟩=some (.int .i64 (at_:Int)):=h.blk.cell 1;have g:=ah.lt h.blk;have u:Hid (∀d,Below w.heap.size w d->Calls Tryz.prog 130 #[.slice A N c,.int .i64 (at_:Int),.int .i64 (k:Int)] d (Fm d k ((b.drop at_).take k))):=J λd s=>xQ d A N c at_ k b ((h.rb.below (s.mono (Nat.le_of_lt g))).more (by have:=s.size;omega)) h.nc h.small y
 obtain⟨X,l⟩:=I ((b.drop at_).take k);obtain⟨T,t⟩:=I (at_+k);unfold oL;rw[<-l,<-t];rw[<-l]at u;have L:(at_:Int)+(k:Int)=(T:Int):=by omega
 have M:(T:Int)<=10000000:=by have:=h.small;omega
 have j:Hid (∀d,Below w.heap.size w d->(d.cell? ⟨gr,0,none⟩=some (.slice A N c)/\d.cell? ⟨gr,1,none⟩=some (.int .i64 (at_:Int)))):=J λd C=>⟨(C.cell (p:=⟨gr,0,none⟩) g).trans z,(C.cell (p:=⟨gr,1,none⟩) g).trans B⟩;have D:=J (λw' s=>h.moved (at2:=T) (w':=w') s);have K:=J h.blk;refine bf ?_ l t h;clear l t h;intro l t h;go_enter Tryz.func181,Tryz.ntmps181;go_upto_region 1 with(fail)
 go_region_held3 (λw'=>w'.cell? ⟨gr,0,none⟩=some (.slice A N c)/\w'.cell? ⟨gr,1,none⟩=some (.int .i64 (at_:Int))) (first|exact⟨z,B⟩|exact j.o _ f|exact j.o _ (below_drewN f _)) ((go_at_call 130;refine(u.o _ ((Below.refl _ w).drew)).mono ?_;rintro e E ⟨F,rfl,m,r⟩;have f:Below w.heap.size w E:=(Below.refl _ w).drew.trans r;replace r:=J r;replace m:=J m))
 all_goals
  have a:=K.o.below f g;have O:=a.cell 1;have P:=a.frozen 1;have Q:=a.cell 2;have S:=a.frozen 2;have x:=J (D.o _ f);have G:Hid (OB ((E.setCell ⟨gr,1,none⟩ (.int .i64 (T:Int))).setCell ⟨gr,2,none⟩ (.bool true)) w.heap.size F k X):=J (by have H:=m.o;have v:=au H a (by decide);exact OB.far (OB.far H v _) v _)
  replace a:=J a;replace f:=J f;go_wp2_with fail;go_ret;exact⟨F,rfl,G.o,x.o⟩
def jV(c:ai):List UInt8:=if c.over=0 then leB 2 c.val.length++c.val else leB 2 c.long++leB 3 c.over
theorem Du(c:ai):(jV c).length=if c.over=0 then 2+c.val.length else 5:=by unfold jV;split<;>simp[bq]
theorem kX{b x y:List UInt8}{at_:Nat}(h:(b.drop at_).take (x++y).length=x++y):(b.drop at_).take x.length=x/\(b.drop (at_+x.length)).take y.length=y:=by
 have d:(x++y).length<=(b.drop at_).length:=by rw[<-h];rw[aH];omega
 constructor
 ·have a:=congrArg (List.take x.length) h;rw[take_take,take_left]at a;rw[Nat.min_eq_left (by simp)]at a;exact a
 ·have a:=congrArg (List.drop x.length) h;rw[drop_left,drop_take,drop_drop]at a;rw[aq,Nat.add_sub_cancel_left]at a;exact a
theorem vY.only{w w':World}{gr N c at_:Nat}{A:Option Addr}{b:List UInt8}{S:Nat->Prop}(h:vY w gr A N c b at_)(a:R S w w')(d:¬S gr)(e:∀k,k<gr->¬S k):vY w' gr A N c b at_:=⟨a.blk h.blk d,h.rb.keep λp f=>World.cell?_of_block (a.block p.block (by have:=ah.lt h.blk;omega) (e _ f)),h.nc,h.small⟩
theorem vY.aK{w:World}{gr N c at_ g i:Nat}{A:Option Addr}{b:List UInt8}(h:vY w gr A N c b at_)(a:gr<g)(u:Value):vY (w.setCell ⟨g,i,none⟩ u) gr A N c b at_:=⟨h.blk.far (by exact ne_of_lt a) _,h.rb.setCell (p:=⟨g,i,none⟩) (Nat.le_of_lt a) _,h.nc,h.small⟩
def r8(w:World)(gr gc:Nat)(A:Option Addr)(N c:Nat)(b:List UInt8)(at_:Nat)(kv:Value)(x:ai)(e:Ending)(w':World):Prop:=e=.returned (.tuple #[])/\vY w' gr A N c b (at_+(jV x).length)/\R (λj=>j=gr\/j=gc) w w'/\∃a,ah w' gc 122 #[kv,a,.int .i64 (x.over:Int),.int .i64 (x.long:Int)]/\OB w' w.heap.size a x.val.length x.val
theorem Dv(w:World)(gr gc N c at_:Nat)(A:Option Addr)(b:List UInt8)(h:vY w gr A N c b at_)(kv:Value)(r:gr<gc)(B:ah w gc 122 #[kv,.slice none 0 0,.int .i64 0,.int .i64 0]) (x:ai) (ao:gJ x)(z:(b.drop at_).take (jV x).length=jV x) (a1:at_+(jV x).length<=N):Calls Tryz.prog 182 #[.pointer (some ⟨gr,0,none⟩),.pointer (some ⟨gc,0,none⟩)] w (r8 w gr gc A N c b at_ kv x):=by
 have k:=Du x;have ap:=ah.lt B;rcases ao with⟨C,L,ad⟩|⟨C,L,ad,U⟩
 ·have e:jV x=leB 2 x.val.length++x.val:=by unfold jV;rw[if_pos C]
  rw[if_pos C]at k;rw[e]at z;obtain⟨s,m⟩:=kX z;rw[bq]at s m;have l:=eZ w gr N c at_ 2 A b h (by omega) (by omega) (by omega) 2 rfl;rw[s,fV,mod_eq_of_lt (by omega)]at l;obtain⟨t,u⟩:=I (x.val.length);rw[<-u]at l ad;have a0:(t:Int)<=64:=by omega
  have ae:Hid (∀v,fU w gr A N c b (at_+2) v->Calls Tryz.prog 181 #[.pointer (some ⟨gr,0,none⟩),.int .i64 (t:Int)] v (oL v gr A N c b (at_+2) t)):=J λv Y=>vZ v gr N c (at_+2) t A b Y.1 (by rw[u];omega);unfold r8;rw[C,L,k,<-u];refine gI ?_ l u h B z s m e k C L;clear l u h B z s m e k C L;intro l u h B z s m e k C L;go_enter Tryz.func182,Tryz.ntmps182;go_wp2_with fail;refine l.o.mono ?_;rintro e Z ⟨rfl,d⟩;have F:=J (ae.o Z d);have M:=J (d.2.blk B.o (Nat.ne_of_gt r));have O:=J d.2;have af:=d.2.size;replace d:=J d;go_wp2_with fail;refine F.o.mono ?_;rintro e V ⟨v3,rfl,y,f⟩;obtain⟨H,K,al,_⟩:=y.form;subst al;have a:=f.2.blk M.o (Nat.ne_of_gt r);have a2:=a.frozen 1;have a3:=a.cell 1;have P:=J (f.1.aK (g:=gc) (i:=1) r (.slice H t K));have Q:=J (((O.o.mono (S:=λj=>j=gr\/j=gc) (λ_ _ h=>.inl h)).trans f.2 (λi _ h=>.inl h)).setCell (p:=⟨gc,1,none⟩) (λ_=>.inr rfl) _:R (λj=>j=gr\/j=gc) w (V.setCell ⟨gc,1,none⟩ (.slice H t K)));have T:=J (a.aK 1 (.slice H t K));have am:Hid (OB (V.setCell ⟨gc,1,none⟩ (.slice H t K)) w.heap.size (.slice H t K) t x.val):=J (by have:=m.o;rw[<-u.o]at this;rw[this]at y;exact(OB.far y (au y a (by decide)) _).more af)
  refine bf ?_ a y f;clear a y f;intro a y f;go_wp2_with fail
  go_end0
  exact⟨rfl,by rw[<-Nat.add_assoc];exact P.o,Q.o,.slice H t K,T.o,am.o⟩
 ·have W:x.over≠0:=by have:=C.1;omega
  have e:jV x=leB 2 x.long++leB 3 x.over:=by unfold jV;rw[if_neg W]
  rw[if_neg W]at k;rw[e]at z;obtain⟨s,m⟩:=kX z;rw[bq]at s m;rw[bq]at m;have l:=eZ w gr N c at_ 2 A b h (by omega) (by omega) (by omega) 2 rfl;rw[s,fV,mod_eq_of_lt (by omega)]at l;have X:Hid (∀v,fU w gr A N c b (at_+2) v->Calls Tryz.prog 180 #[.pointer (some ⟨gr,0,none⟩),.int .i64 3] v λe w'=>e=.returned (.int .i64 (x.over:Int))/\fU v gr A N c b (at_+2+3) w'):=J λv Y=>by have h:=eZ v gr N c (at_+2) 3 A b Y.1 (by omega) (by omega) (by omega) 3 rfl;rw[m,fV,mod_eq_of_lt (by have:=C.2;omega)]at h;exact h
  have an:(64:Int)<(x.long:Int):=by omega
  have G:x.val=[]:=U;unfold r8;rw[k,G];obtain⟨ab,D⟩:=I (x.over);obtain⟨ac,E⟩:=I (x.long);rw[<-D,<-E];rw[<-D]at X;rw[<-E]at l an;refine kT ?_ l h B z s m e k D E G U;clear l h B z s m e k D E G U;intro l h B z s m e k D E G U;go_enter Tryz.func182,Tryz.ntmps182;go_wp2_with fail;refine l.o.mono ?_;rintro e Z ⟨rfl,d⟩;have F:=J (X.o Z d);have M:=J (d.2.blk B.o (Nat.ne_of_gt r));have O:=J d.2;replace d:=J d;go_wp2_with fail;refine F.o.mono ?_;rintro e V ⟨rfl,f⟩;have a:=f.2.blk M.o (Nat.ne_of_gt r);have a4:=a.frozen 2;have a5:=a.cell 2;have a6:=a.frozen 3;have a7:=a.cell 3;have P:=J ((f.1.aK (g:=gc) (i:=3) r (.int .i64 (ac:Int))).aK (g:=gc) (i:=2) r (.int .i64 (ab:Int)));have Q:=J ((((O.o.mono (S:=λj=>j=gr\/j=gc) (λ_ _ h=>.inl h)).trans f.2 (λi _ h=>.inl h)).setCell (p:=⟨gc,3,none⟩) (λ_=>.inr rfl) _).setCell (p:=⟨gc,2,none⟩) (λ_=>.inr rfl) _:R (λj=>j=gr\/j=gc) w ((V.setCell ⟨gc,3,none⟩ (.int .i64 (ac:Int))).setCell ⟨gc,2,none⟩ (.int .i64 (ab:Int))));have T:=J ((a.aK 3 (.int .i64 (ac:Int))).aK 2 (.int .i64 (ab:Int)));replace a:=J a;replace f:=J f;go_wp2_with fail
  go_end0
  exact⟨rfl,P.o,Q.o,.slice none 0 0,T.o,OB.nil _ _⟩
theorem bI.below{w w':World}{v:Value}{n:aj}(h:bI (Cr w) w v n)(a:Below w.heap.size w w'):bI (Cr w') w' v n:=h.keep λk d=>⟨aN d a.size,a.block k d⟩
theorem bI.box{G:Nat->Prop}{w:World}{v:Value}{n:aj}(h:bI G w v n):∃A c B d,v=.agg #[.bool n.leaf,.slice A n.cells.length c,.slice B n.kids.length d]:=by obtain⟨A,c,B,d,e,_⟩:=h;exact⟨A,c,B,d,e⟩
theorem gQ(w:World)(v:Value)(n:aj)(t:bI (Cr w) w v n)(m:bJ n)(u:aC n<=100000):Calls Tryz.prog 77 #[v] w λe w'=>e=.returned (.int .i64 (aC n:Int))/\Below w.heap.size w w':=by obtain⟨A,c,B,d,rfl⟩:=t.box;obtain⟨C,k⟩:=I (n.leaf);obtain⟨M,x⟩:=I (n.cells.length);obtain⟨K,y⟩:=I (n.kids.length);rw[<-k,<-x,<-y]at t⊢;have a:=(Below.refl w.heap.size w).alloc (aa _) (.cells #[.bool C,.slice A M c,.slice B K d] 129);have f:=ah.new w 129 #[.bool C,.slice A M c,.slice B K d];have g:=t.below a;have D:=J (mY _ _ n g m);refine dS ?_ k x y m u g a f;clear k x y m u g a f;intro k x y m u g a f;clear t;go_enter Tryz.func77,Tryz.ntmps77;go_wp2_with fail;refine D.o.mono ?_;rintro e G ⟨rfl,j⟩;have r:=f.o.below j (ah.lt f.o);have H:=r.cell 0;have L:=r.cell 1;have O:=r.cell 2;have E:=J (xW G _ n (g.o.below j) m.o u.o);have z:=J (a.o.trans (j.mono a.o.size));replace r:=J r;replace j:=J j;go_wp2_with fail;refine E.o.mono ?_;rintro e P ⟨v3,rfl,l,s⟩;rw[fN]at l;obtain⟨Q,S,rfl,_⟩:=l.form;replace l:=J l;have F:=J (z.o.trans (s.mono z.o.size));replace s:=J s;go_wp2_with fail;go_ret;exact⟨rfl,F.o⟩
def Jg(w:World)(l:List UInt8)(e:Ending)(w':World):Prop:=∃v,e=.returned (.tuple #[v,.int .i64 0])/\OB w' w.heap.size v l.length l/\Below w.heap.size w w'
theorem Fy(w:World)(v:Value)(n:aj)(u:bI (Cr w) w v n)(m:bJ n)(x:aC n<=508):Calls Tryz.prog 158 #[v] w (Jg w (dJ n)):=by
 obtain⟨A,c,B,d,rfl⟩:=u.box;obtain⟨C,l⟩:=I (n.leaf);obtain⟨M,y⟩:=I (n.cells.length);obtain⟨K,z⟩:=I (n.kids.length);rw[<-l,<-y,<-z]at u⊢;have a:=(Below.refl w.heap.size w).alloc (aa _) (.cells #[.bool C,.slice A M c,.slice B K d] 129);have f:=ah.new w 129 #[.bool C,.slice A M c,.slice B K d];have g:=u.below a;have D:=J (mY _ _ n g m);have O:(aC n:Int)<=508:=by omega
 refine dS ?_ l y z m x g a f;clear l y z m x g a f;intro l y z m x g a f;clear u;go_enter Tryz.func158,Tryz.ntmps158;go_wp2_with fail;refine D.o.mono ?_;rintro e H ⟨rfl,j⟩;have r:=f.o.below j (ah.lt f.o);have P:=r.cell 0;have Q:=r.cell 1;have S:=r.cell 2;have E:=J (xW H _ n (g.o.below j) m.o (by have:=x.o;omega));have s:=J (a.o.trans (j.mono a.o.size));replace r:=J r;replace j:=J j;go_wp2_with fail;refine E.o.mono ?_;rintro e L ⟨v3,rfl,k,t⟩;have F:=J (k.more s.o.size:OB L w.heap.size v3 (dJ n).length (dJ n));rw[fN]at k;obtain⟨T,U,rfl,_⟩:=k.form;replace k:=J k;have G:=J (s.o.trans (t.mono s.o.size));replace t:=J t;go_wp2_with fail
 go_ret2
 exact⟨_,rfl,F.o,G.o⟩
def wg(n:Nat)(p:Nat->Bool)(L:Nat):Prop:=L<=n/\(∀j,j<L->p j=false)/\(L<n->p L=true)
theorem Av(w:World)(a b n:Nat)(p:Nat->Bool)(V:n<=1000000)(k:∀i j,i<=j->j<n->p i=true->p j=true)(u:∀q i,i<n->Calls Tryz.prog 125 #[.int .i64 (i:Int),.pointer (some ⟨a,0,none⟩),.pointer (some ⟨b,0,none⟩)] (w.drewN q) λe w'=>e=.returned (.bool (p i))/\∃m,w'=w.drewN m):
 Calls Tryz.prog 124 #[.int .i64 (n:Int),.func (.func 125) #[] #[.pointer (some ⟨a,0,none⟩),.pointer (some ⟨b,0,none⟩)]] w λe w'=>(∃L:Nat,e=.returned (.int .i64 (L:Int))/\wg n p L)/\∃m,w'=w.drewN m:=by
 have v:=J u;have r:=J k;clear u k;go_enter Tryz.func124,Tryz.ntmps124;go_wp2_with fail;go_loopw [5,6] (λv5 v6 wx=>∃f d m:Nat,v5=.int .i64 (f:Int)/\v6=.int .i64 (d:Int)/\f<=d/\d<=n/\Hid (∀j,j<f->p j=false)/\Hid (d<n->p d=true)/\wx=w.drewN m) (λv5 v6 _=>(intOf v6).toNat-(intOf v5).toNat)
 case atStart=>exact⟨0,n,0,rfl,rfl,zero_le _,aa _,J (λj h=>absurd h (by omega)),J (λh=>absurd h (by omega)),rfl⟩
 case round=>
  obtain⟨f,d,m,rfl,rfl,W,D,x,y,z⟩:=hrel;subst z;rcases aA f d with K|M
  ·obtain⟨H,s⟩:=I ((f+d)/2 );obtain⟨S,t⟩:=I (f+d);have O:(f:Int)+(d:Int)=(S:Int):=by omega
   have P:(S:Int)<=2000000:=by omega
   have Q:(S:Int)/2=(H:Int):=by omega
   obtain⟨E,g⟩:=I (p H);have l:=v.o m H (by omega);rw[<-g]at l;replace l:=J l;have B:H<d/\f<=H:=by omega
   have T:(H:Int)<(d:Int):=by omega
   have U:(H:Int)<=1000000:=by omega
   refine bf ?_ s t g;clear s t g;intro s t g;go_wp2_with fail;refine l.o.mono ?_;rintro e X ⟨rfl,C,rfl⟩;cases E with
   |true=>
    go_wp2_with fail
    go_roundw
    case rel=>exact⟨f,H,C,rfl,rfl,B.2,by omega,x,J (λ_=>g.o.symm),by first|rfl|trivial⟩
    case measure=>simp[intOf];omega
   |false=>
    go_wp2_with fail
    go_roundw
    case rel=>exact⟨H+1,d,C,by simp,rfl,by omega,D,J (λj Y=>by
     cases hpj:p j with
     |false=>rfl
     |true=>have h:=r.o j H (by omega) (by omega) hpj;rw[<-g.o]at h;cases h),y,by first|rfl|trivial⟩
    case measure=>simp[intOf];omega
  ·have F:¬(f:Int)<(d:Int):=by omega
   have G:(d:Int)<=(f:Int):=by omega
   go_wp2_with fail;go_ret;refine⟨⟨f,rfl,by omega,x.o,λZ=>?_⟩,m,rfl⟩;have e:f=d:=by omega
   rw[e];exact y.o (by omega)
theorem xY(a:List ai)(key:List UInt8)(L:Nat)(l:cW a)(h:wg a.length (λi=>!bY (aS a i) key) L):L=bL a key:=by
 obtain⟨d,g,k⟩:=h;unfold bL;induction a generalizing L with
 |nil=>simp at d;simp[d]
 |cons c s ih=>
  cases L with
  |zero=>
   have e:=k (by simp)
   have f:bY c.key key=false:=by simpa[aS]using e
   simp[takeWhile,f]
  |succ L=>
   have e:=g 0 (by omega)
   have f:bY c.key key=true:=by simpa[aS]using e
   have m:=ih L l.2 (by simp at d;omega) (λj o=>by have:=g (j+1) (by omega);simpa[aS]using this) (λr=>by have:=k (by simp;omega);simpa[aS]using this)
   simp[takeWhile,f,m]
theorem jL{a:List ai}{i:Nat}{c:ai}(h:a[i]?=some c):aS a i=c.key:=by unfold aS;rw[h]
theorem Dw(a:List ai)(f:cW a)(key:List UInt8)(i j:Nat)(k:i<=j)(d:j<a.length)(h:(!bY (aS a i) key)=true):(!bY (aS a j) key)=true:=by
 rcases aA i j with l|m
 ·have g:bY (aS a i) (aS a j)=true:=by
   rw[jL (ak (by omega:i<a.length)),jL (ak d)];clear h;induction a generalizing i j with
   |nil=>simp at d
   |cons c o ih=>
    cases j with
    |zero=>omega
    |succ j=>
     cases i with
     |zero=>exact f.1 _ (getElem_mem (by simp at d;omega))
     |succ i=>exact ih f.2 i j (by omega) (by simp at d;omega) (by omega)
  cases h2:bY (aS a j) key with
  |false=>rfl
  |true=>have:=dq _ _ _ g h2;rw[this]at h;cases h
 ·have e:i=j:=by omega
  subst e;exact h
theorem Fz(w:World)(a b:Nat)(n:aj)(v0:Value)(A:Option Addr)(c:Nat)(B:Option Addr)(d:Nat)(r:ia (Cr w) w A n.cells)(F:ah w a 129 #[v0,.slice A n.cells.length c,.slice B n.kids.length d])(t:Option Addr) (y:Nat) (key:List UInt8) (D:ah w b 23 #[.slice t key.length y]) (z:RB w w.heap.size t key.length key) (i:Nat) (G:i<n.cells.length) (S:i<100000) (q:Nat):Calls Tryz.prog 125 #[.int .i64 (i:Int),.pointer (some ⟨a,0,none⟩),.pointer (some ⟨b,0,none⟩)] (w.drewN q) λe w'=>e=.returned (.bool (!bY (aS n.cells i) key))/\∃m,w'=w.drewN m:=by
 obtain⟨O,H,V,K,W,rfl,s⟩:=r.at_ i G;obtain⟨x,u⟩:=I (n.cells[i]);rw[<-u]at s;have f:aS n.cells i=x.key:=by rw[u];exact jL (ak G)
 rw[f];obtain⟨M,C⟩:=I (n.cells.length);rw[<-C]at F G;have X:w.cell? ⟨a,1,none⟩=some (.slice (some O) M c):=F.cell 1;have P:w.cell? ⟨b,0,none⟩=some (.slice t key.length y):=D.cell 0;have Q:=s.c0;have E:Hid (∀p,Calls Tryz.prog 69 #[.slice H x.key.length K,.slice t key.length y] (w.drewN (q+p)) λe w'=>e=.returned (.int .i64 (Lib.compareBytes x.key key))/\w.drewN (q+p)=w'):=J λp=>mX _ w.heap.size w.heap.size H t _ K _ y x.key key (RB.drewN (Rd.reads s.key λk z=>z) _) (z.drewN _);have L:=Al x.key key;obtain⟨ab,v⟩:=I (!bY x.key key);obtain⟨Y,g⟩:=I (x.key.length);obtain⟨Z,j⟩:=I (key.length);obtain⟨cv,l⟩:=I (Lib.compareBytes x.key key);rw[<-v,<-l]at L;rw[<-g,<-j,<-l]at E;rw[<-g]at Q;rw[<-j]at P;rw[<-v];have T:(i:Int)<(M:Int):=by omega
 have U:(i:Int)<=100000:=by omega
 refine ik ?_ s u f C v g j l r;clear s u f C v g j l r;intro s u f C v g j l r;clear F D z;go_enter Tryz.func125,Tryz.ntmps125;go_wp2_with fail;go_quiet (first|(go_at_call 69;exact mz (E.o _)));go_wp2_with fail;go_ret;exact⟨rfl,q+nq,World.drewN_drewN ..⟩
theorem FA(n:aj)(key:List UInt8)(L:Nat)(x:ai)(a:L=bL n.cells key)(d:n.cells[L]?=some x):bk n key=if(x.key==key)=true then(if n.leaf=true then L else L+1,true)else(L,false):=by unfold bk il;rw[<-a,d]
theorem Dx(n:aj)(key:List UInt8)(L:Nat)(a:L=bL n.cells key)(d:n.cells.length<=L):bk n key=(L,false):=by unfold bk il;rw[<-a,getElem?_eq_none d];rfl
theorem mB(w:World)(v:Value)(n:aj)(an:bI (Cr w) w v n)(l:cW n.cells)(am:n.cells.length<=70000)(f:Option Addr)(g:Nat)(key:List UInt8)(D:RB w w.heap.size f key.length key):Calls Tryz.prog 79 #[v,.slice f key.length g] w λe w'=>e=.returned (.tuple #[.int .i64 ((bk n key).1:Int),.bool (bk n key).2])/\Below w.heap.size w w':=by
 obtain⟨A,c,B,d,rfl,ao,ap,H,U⟩:=an;have a:=((Below.refl w.heap.size w).alloc (aa _) (.cells #[.bool n.leaf,.slice A n.cells.length c,.slice B n.kids.length d] 129)).alloc (by simp) (.cells #[.slice f key.length g] 23);have r:=(ah.new w 129 #[.bool n.leaf,.slice A n.cells.length c,.slice B n.kids.length d]).alloc (.cells #[.slice f key.length g] 23);have y:ah ((w.alloc (.cells #[.bool n.leaf,.slice A n.cells.length c,.slice B n.kids.length d] 129)).alloc (.cells #[.slice f key.length g] 23)) (w.heap.size+1) 23 #[.slice f key.length g]:=by simpa using ah.new (w.alloc (.cells #[.bool n.leaf,.slice A n.cells.length c,.slice B n.kids.length d] 129)) 23 #[.slice f key.length g]
 have j:ia (Cr ((w.alloc (.cells #[.bool n.leaf,.slice A n.cells.length c,.slice B n.kids.length d] 129)).alloc (.cells #[.slice f key.length g] 23))) _ A n.cells:=H.keep λk D=>⟨aN D a.size,a.block k D⟩;have z:RB ((w.alloc (.cells #[.bool n.leaf,.slice A n.cells.length c,.slice B n.kids.length d] 129)).alloc (.cells #[.slice f key.length g] 23)) _ f key.length key:=(D.below a).more a.size;obtain⟨W,Q⟩:=I ((w.alloc (.cells #[.bool n.leaf,.slice A n.cells.length c,.slice B n.kids.length d] 129)).alloc (.cells #[.slice f key.length g] 23));rw[<-Q]at a r y j z;have K:=Av W w.heap.size (w.heap.size+1) n.cells.length (λi=>!bY (aS n.cells i) key) (by omega) (Dw n.cells l key) (λq i a0=>Fz W w.heap.size (w.heap.size+1) n _ A c B d j r f g key y z i a0 (by omega) q);have O:Hid (∀L x,n.cells[L]?=some x->∃V S T,A=some V/\W.cell? (V.add (L*4))=some (.slice S x.key.length T)/\∀q,Calls Tryz.prog 126 #[.slice S x.key.length T,.slice f key.length g] (W.drewN q) λe w'=>e=.returned (.bool (x.key==key))/\W.drewN q=w'):=J λL x s=>by obtain⟨a1,e⟩:=ay.1 s;obtain⟨V,S,bc,T,bd,a2,ac⟩:=j.at_ L a1;rw[e]at ac;exact⟨V,S,T,a2,ac.c0,λq=>Dh _ W.heap.size W.heap.size S f _ T _ g x.key key (RB.drewN (Rd.reads ac.key λk D=>D) q) (z.drewN q)⟩
 have Z:Hid (∀L,wg n.cells.length (λi=>!bY (aS n.cells i) key) L->L=bL n.cells key):=J λL h=>xY n.cells key L l h;have a3:W.cell? ⟨w.heap.size,0,none⟩=some (.bool n.leaf):=r.cell 0;have a4:W.cell? ⟨w.heap.size+1,0,none⟩=some (.slice f key.length g):=y.cell 0;have ad:W.cell? ⟨w.heap.size,1,none⟩=some (.slice A n.cells.length c):=r.cell 1;obtain⟨M,F⟩:=I (n.cells.length);obtain⟨be,C⟩:=I (key.length);obtain⟨a5,t⟩:=I (n.leaf);obtain⟨bi,G⟩:=I (n.kids.length);rw[<-F,<-t,<-G,<-C]at Q;rw[<-F]at ad K Z;rw[<-t]at a3;rw[<-C]at a4 O;rw[<-F,<-t,<-G,<-C];replace K:=J K;have a8:(M:Int)<=70000:=by omega
 refine aR ?_ F C t G H j U D z a r y Q;clear F C t G H j U D z a r y Q;intro F C t G H j U D z a r y Q;replace l:=J l;clear ao ap;go_enter Tryz.func79,Tryz.ntmps79;go_wp2_with fail;rw[<-Q.o];refine K.o.mono ?_;rintro e bj ⟨⟨L,rfl,X⟩,m,rfl⟩;have ab:=J (Z.o L X);have a9:=X.1;have ba:(L:Int)<=70000:=by omega
 replace X:=J X;cases s:n.cells[L]? with
 |none=>
  have ae:n.cells.length<=L:=List.getElem?_eq_none_iff.1 s
  have af:(M:Int)<=(L:Int):=by have:=F.o;omega
  have al:decide ((L:Int)<(M:Int))=false:=by rw[decide_eq_false_iff_not];omega
  have a6:decide (L<M)=false:=by rw[decide_eq_false_iff_not];omega
  have u:=J (Dx n key L ab.o ae)
  replace s:=J s
  clear O
  go_wp2_with fail
  go_quiet (fail)
  go_wp2_with fail
  go_ret2
  exact⟨by rw[u.o];rfl,below_drewN a.o _⟩
 |some x=>
  have bb:L<n.cells.length:=(ay.1 s).1
  have af:(L:Int)<(M:Int):=by have:=F.o;omega
  have al:decide ((L:Int)<(M:Int))=true:=by rw[decide_eq_true_eq];omega
  obtain⟨V,S,T,rfl,a7,heq⟩:=O.o L x s
  have u:=J (FA n key L x ab.o s)
  obtain⟨E,Y⟩:=I ((x.key==key))
  obtain⟨bl,P⟩:=I (x.key.length)
  rw[<-Y]at heq u
  rw[<-P]at heq a7
  rw[<-t.o]at u
  refine bz ?_ heq s Y P
  clear heq s Y P
  intro heq s Y P
  clear O
  go_wp2_with fail
  go_quiet (first|(go_at_call 126;exact mz (heq.o _)))
  cases E with
  |false=>
   go_wp2_with fail
   go_ret2
   exact⟨by rw[u.o];rfl,below_drewN a.o _⟩
  |true=>
   cases a5 with
   |true=>
    go_wp2_with fail
    go_ret2
    exact⟨by rw[u.o];rfl,below_drewN a.o _⟩
   |false=>
    go_wp2_with fail
    go_ret2
    exact⟨by rw[u.o];rfl,below_drewN a.o _⟩
def G5(B:Nat)(w:World)(k:Nat):Prop:=B<=k/\∃a,ah w k 5 a
def kY(B:Nat)(w:World)(a:List (List Value))(d:List ai):Prop:=∀(k:Nat) (vs:List Value) (c:ai),a[k]?=some vs->d[k]?=some c->cN (G5 B w) w vs c
structure dK (w:World) (B:Nat) (cv kv:Value) (n:aj):Prop where
 rows:∃rows:List (List Value),rows.length=n.cells.length/\w.ownsRow B 122 4 cv n.cells.length rows.flatten/\kY B w rows n.cells
 kids:w.ownsRow B 3 1 kv n.kids.length (n.kids.map encI)
theorem dK.gS{w:World}{B:Nat}{cv kv:Value}{n:aj}(h:dK w B cv kv n){G:Nat->Prop}(f:∀k,B<=k->k<w.heap.size->G k):bI G w (.agg #[.bool n.leaf,cv,kv]) n:=by
 obtain⟨l,u,r,o⟩:=h.rows;have s:=h.kids;have a:∀{e:TypeId} {size m:Nat} {v:Value} {xs:List Value},w.ownsRow B e size v m xs->∃A c,v=.slice A m c/\m<=c:=by
  intro e size m v xs h;rcases h.2 with⟨rfl,rfl⟩|⟨g,cap,F,rfl,_,_,o,_⟩
  ·exact⟨none,0,rfl,aa _⟩
  ·exact⟨_,_,rfl,o⟩
 obtain⟨A,c,rfl,y⟩:=a r;obtain⟨z,d,rfl,C⟩:=a s;exact⟨A,c,z,d,rfl,y,C,⟨l,u,Rd.fP r f,λk vs x D E=>(o k vs x D E).mono λj t=>f j t.1 (ah.lt t.2.choose_spec)⟩,Rd.fP s f⟩
theorem kY.jQ{B:Nat}{w w':World}{a:List (List Value)}{e:List ai}(h:kY B w a e)(f:ed 5 w w'):kY B w' a e:=λk vs c g l=>(h k vs c g l).keep λj d=>⟨⟨d.1,d.2.choose,f _ _ d.2.choose_spec⟩,(f _ _ d.2.choose_spec).trans d.2.choose_spec.symm⟩
theorem kY.snoc{B:Nat}{w:World}{a:List (List Value)}{g:List ai}(h:kY B w a g){vs:List Value}{c:ai}(l:g[a.length]?=some c)(m:cN (G5 B w) w vs c):kY B w (a++[vs]) g:=λk j o d e=>by
 rcases Nat.lt_trichotomy k a.length with f|f|f
 ·rw[bM f]at d;exact h k j o d e
 ·subst f;rw[getElem?_append_right (aa _)]at d;simp at d;rw[l]at e;injection e with e;subst d;subst e;exact m
 ·rw[getElem?_append_right (by omega)]at d;have:k-a.length=(k-a.length-1)+1:=by omega
  rw[this]at d;simp at d
theorem OB.KU{w:World}{B n c:Nat}{A:Option Addr}{l:List UInt8}(h:OB w B (.slice A n c) n l):Rd (G5 B w) w 1 A n (bv l):=by
 refine⟨h.1,λo=>?_⟩;rcases h.2 with⟨e,r⟩|⟨g,cap,a,d,f,k,s,t,v,x⟩
 ·omega
 ·cases d;refine⟨_,rfl,⟨f,a,k⟩,λj u m=>?_⟩;exact World.ownsRow.cells h rfl j u m
structure GI (w:World) (gr gn:Nat) (A:Option Addr) (N c:Nat) (b:List UInt8) (n:aj) (i kn p:Nat) (cv kv:Value) (wx:World):Prop where
 res:ah wx w.heap.size 129 #[.bool false,.slice none 0 0,.slice none 0 0]
 nL:vY wx gr A N c b p
 iY:ah wx gn 129 #[.bool n.leaf,cv,kv]
 dX:Below w.heap.size w wx
 rows:∃rows:List (List Value),rows.length=i/\wx.ownsRow gn 122 4 cv i rows.flatten/\kY w.heap.size wx rows n.cells
 kids:wx.ownsRow gn 3 1 kv kn ((n.kids.take kn).map encI)
 lr:w.heap.size<gr
 rn:gr<gn
section
variable {w wx wy:World}{gr gn N c i kn p q:Nat}{A:Option Addr}{b:List UInt8}{n:aj}{cv kv:Value}
theorem aI{e t:TypeId}{size m g:Nat}{v:Value}{xs:List Value}{B:Nat}{d:Array Value}(h:wx.ownsRow B e size v m xs)(f:ah wx g t d)(a:e≠t):∀k,v.ownBlock=some k->k≠g:=λk j e=>au h f a (by rw[j,e])
theorem GI.only(h:GI w gr gn A N c b n i kn p cv kv wx)(a:R (λj=>j=gr) wx wy)(m:vY wy gr A N c b q):GI w gr gn A N c b n i kn q cv kv wy:=by
 obtain⟨d,o,e,r⟩:=h.rows;have f:=h.lr;have g:=h.rn;have s:ed 5 wx wy:=a.jQ λk u l t=>by subst l;exact ah.iH t h.nL.blk (by decide) rfl
 exact⟨a.blk h.res (by omega),m,a.blk h.iY (by omega),h.dX.trans (a.below (B:=w.heap.size) (λk l=>by omega) h.dX.size),⟨d,o,a.row e (aI e h.nL.blk (by decide)),r.jQ s⟩,a.row h.kids (aI h.kids h.nL.blk (by decide)),f,g⟩
theorem GI.alloc(h:GI w gr gn A N c b n i kn p cv kv wx)(o:Obj):GI w gr gn A N c b n i kn p cv kv (wx.alloc o):=h.only ((R.refl _ wx).alloc o) (h.nL.only ((R.refl (λ_=>False) wx).alloc o) (λh=>h) (λ_ _ h=>h))
theorem GI.drew(h:GI w gr gn A N c b n i kn p cv kv wx):GI w gr gn A N c b n i kn p cv kv wx.drew:=h.only (R.refl _ wx).drew (h.nL.only (R.refl (λ_=>False) wx).drew (λh=>h) (λ_ _ h=>h))
theorem GI.KW(h:GI w gr gn A N c b n i kn p cv kv wx):w.heap.size<gn:=Nat.lt_trans h.lr h.rn
theorem xZ{e:TypeId}{size m:Nat}{v:Value}{xs:List Value}{B:Nat}(h:wx.ownsRow B e size v m xs):∀k,v.ownBlock=some k->B<=k:=λk a=>by
 rcases h.2 with⟨e,_⟩|⟨g,cap,d,e,f,_⟩
 ·rw[e]at a;simp[Value.ownBlock]at a
 ·rw[e]at a;simp[Value.ownBlock]at a;omega
theorem mC{e f:TypeId}{size a m t:Nat}{v l:Value}{xs o:List Value}{B B':Nat}(h:wx.ownsRow B e size v m xs)(u:wx.ownsRow B' f a l t o)(r:e≠f):∀k,v.ownBlock=some k->l.ownBlock≠some k:=λk x d=>by
 rcases u.2 with⟨j,_⟩|⟨g,cap,s,j,_,y,_⟩
 ·rw[j]at d;simp[Value.ownBlock]at d
 ·rw[j]at d;have:g=k:=by simpa[Value.ownBlock]using d
  subst this;exact au h (show ah wx g f s from y) r x
theorem dQ{e:TypeId}{size m:Nat}{v:Value}{xs:List Value}{B B':Nat}(h:wx.ownsRow B e size v m xs)(l:B'<=B):wx.ownsRow B' e size v m xs:=by
 obtain⟨f,a⟩:=h;refine⟨f,?_⟩;rcases a with a|⟨g,cap,d,j,o,k⟩
 ·exact Or.inl a
 ·exact Or.inr ⟨g,cap,d,j,by omega,k⟩
theorem GI.dM(h:GI w gr gn A N c b n i kn p cv kv wx){wh:Value}{o:Nat}(x:wx.grownBy wy kv.ownBlock)(y:wy.ownsRow gn 3 1 wh o ((n.kids.take o).map encI)):GI w gr gn A N c b n i o p cv wh (wy.setCell ⟨gn,2,none⟩ wh):=by
 obtain⟨u,L,z,M⟩:=h.rows;have C:=h.iY;have D:=h.lr;have E:=h.rn;have l:=xZ h.kids;have F:=aI h.kids h.iY (by decide);have G:∀k,kv.ownBlock=some k->∀r,¬ah wx k 5 r:=λk a r s=>au h.kids s (by decide) a;have v:=mC z h.kids (by decide);have d:ah wy gn 129 #[.bool n.leaf,cv,kv]:=C.grown x (λe=>F gn e.symm rfl);have f:R (λj=>kv.ownBlock=some j) wx wy:=(R.refl _ wx).grown x (λk a _=>a);have g:R (λj=>j=gn) wy (wy.setCell ⟨gn,2,none⟩ wh):=(R.refl (λj=>j=gn) wy).setCell (p:=⟨gn,2,none⟩) (λ_=>rfl) wh;have t:vY wy gr A N c b p:=h.nL.only f (λe=>by have:=l gr e;omega) (λk a e=>by have:=l k e;omega);have H:ed 5 wx wy:=f.jQ λk r a s=>G k a r s;have K:ed 5 wy (wy.setCell ⟨gn,2,none⟩ wh):=g.jQ λk r a s=>by subst a;exact ah.iH s d (by decide) rfl
 have m:=f.row z (λk a=>v k a);refine⟨g.blk (f.blk h.res (λe=>by have:=l _ e;omega)) (by omega),t.only g (by omega) (λk a e=>by omega),?_,h.dX.trans ((f.below (B:=w.heap.size) (λk a=>by have:=l k a;omega) h.dX.size).trans (g.below (B:=w.heap.size) (λk a=>by omega) (aO h.dX.size f.size))),⟨u,L,g.row m (aI m d (by decide)),(M.jQ H).jQ K⟩,g.row y (aI y d (by decide)),D,E⟩;exact d.aK 2 wh
theorem GI.cell(h:GI w gr gn A N c b n i kn p cv kv wx){g:Value}{vs:List Value}{x:ai}(C:wx.grownBy wy cv.ownBlock)(Q:n.cells[i]?=some x)(D:cN (G5 w.heap.size wx) wx vs x)(a:List (List Value)) (E:a.length=i) (v:wx.ownsRow gn 122 4 cv i a.flatten) (S:kY w.heap.size wx a n.cells)(o:wy.ownsRow gn 122 4 g (i+1) (a.flatten++vs)):GI w gr gn A N c b n (i+1) kn p g kv (wy.setCell ⟨gn,1,none⟩ g):=by
 have F:=h.iY;have G:=h.lr;have H:=h.rn;have r:=xZ v;have K:=aI v h.iY (by decide);have L:∀k,cv.ownBlock=some k->∀t,¬ah wx k 5 t:=λk d t u=>au v u (by decide) d;have z:=mC h.kids v (by decide);have f:ah wy gn 129 #[.bool n.leaf,cv,kv]:=F.grown C (λe=>K gn e.symm rfl);have l:R (λj=>cv.ownBlock=some j) wx wy:=(R.refl _ wx).grown C (λk d _=>d);have m:R (λj=>j=gn) wy (wy.setCell ⟨gn,1,none⟩ g):=(R.refl (λj=>j=gn) wy).setCell (p:=⟨gn,1,none⟩) (λ_=>rfl) g;have y:vY wy gr A N c b p:=h.nL.only l (λe=>by have:=r gr e;omega) (λk d e=>by have:=r k e;omega);have M:ed 5 wx wy:=l.jQ λk t d u=>L k d t u;have O:ed 5 wy (wy.setCell ⟨gn,1,none⟩ g):=m.jQ λk t d u=>by subst d;exact ah.iH u f (by decide) rfl
 have s:=l.row h.kids (λk d=>z k d);have P:kY w.heap.size wx (a++[vs]) n.cells:=S.snoc (by rw[E];exact Q) D;refine⟨m.blk (l.blk h.res (λe=>by have:=r _ e;omega)) (by omega),y.only m (by omega) (λk d e=>by omega),?_,h.dX.trans ((l.below (B:=w.heap.size) (λk d=>by have:=r k d;omega) h.dX.size).trans (m.below (B:=w.heap.size) (λk d=>by omega) (aO h.dX.size l.size))),⟨a++[vs],by simp[E],?_,(P.jQ M).jQ O⟩,m.row s (aI s f (by decide)),G,H⟩
 ·exact f.aK 1 g
 ·rw[show(a++[vs]).flatten=a.flatten++vs from by simp];exact m.row o (aI o f (by decide))
theorem dK.only{B:Nat}(h:dK wx B cv kv n){S:Nat->Prop}(g:R S wx wy)(j:∀k,S k->∃t o,ah wx k t o/\t≠5/\t≠122/\t≠3):dK wy B cv kv n:=by
 obtain⟨l,s,r,u⟩:=h.rows;have v:ed 5 wx wy:=g.jQ λk o d x=>by obtain⟨t,f,a,e,_⟩:=j k d;exact ah.iH x a (Ne.symm e) rfl
 refine⟨⟨l,s,g.row r λk d m=>?_,u.jQ v⟩,g.row h.kids λk d m=>?_⟩
 ·obtain⟨t,f,a,_,e,_⟩:=j k m;exact au r a (Ne.symm e) d
 ·obtain⟨t,f,a,_,_,e⟩:=j k m;exact au h.kids a (Ne.symm e) d
theorem GI.own(h:GI w gr gn A N c b n i kn p cv kv wx)(d:i=n.cells.length)(e:kn=n.kids.length):dK wx w.heap.size cv kv n:=by obtain⟨a,f,g,j⟩:=h.rows;have k:=h.KW;subst d;subst e;refine⟨⟨a,f,dQ g (by omega),j⟩,?_⟩;have:=dQ (B':=w.heap.size) h.kids (by omega);rw[take_length]at this;exact this
end
theorem jM:(Tryz.prog.info? 122).map (λi=>(i.zero,i.size,i.bytes))=some (some (.agg #[.slice none 0 0,.slice none 0 0,.int .i64 0,.int .i64 0]),4,64):=by kernel_rfl
theorem Cu(n:aj)(z:Nat):((dJ n++bt z).drop 0).take (jU n).length=jU n:=by rw[drop_zero];unfold dJ;rw[av,take_left]
theorem Cv(n:aj)(z i:Nat)(x:ai)(f:n.cells[i]?=some x):((dJ n++bt z).drop (preB n i).length).take (jr n.leaf x (n.kids.getD (i+1) 0)).length=jr n.leaf x (n.kids.getD (i+1) 0)/\(preB n (i+1)).length=(preB n i).length+(jr n.leaf x (n.kids.getD (i+1) 0)).length/\(preB n (i+1)).length<=(dJ n).length:=by
 obtain⟨a,e⟩:=ay.1 f;obtain⟨rest,d⟩:=FB n i a;rw[e]at d;refine⟨?_,?_,?_⟩
 ·rw[d,av,av,drop_left,take_left]
 ·rw[mZ n i a,e,aq]
 ·rw[mZ n i a,e,aq,d,aq,aq];omega
theorem FD(n:aj)(z:Nat):(dJ n++bt z).drop (preB n n.cells.length).length=bt z:=by rw[xX,drop_left]
theorem jG(w:World)(base:Nat)(v:Value)(m:Nat)(xs:List Value)(r:w.ownsRow base 122 4 v m xs)(g:Nat)(a d f k:Value)(C:∀u∈[a,d,f,k],u.oneCell'=true)(s:ah w g 122 #[a,d,f,k]) (ty:TypeId) (D:m+1<=1000000) (l:base<=w.heap.size):∃o w',(Builtin.append_ #[127,127] ty #[v,.slice (some ⟨g,0,none⟩) 1 1]).run Tryz.prog w=.ok o w'/\w'.ownsRow base 122 4 o (m+1) (xs++[a,d,f,k])/\w.grownBy w' v.ownBlock/\(o.ownBlock=v.ownBlock\/o.ownBlock=some w.heap.size):=by
 obtain⟨i0,t,x,y,z⟩:=info_parts jM;exact bN (P:=Tryz.prog) w base 127 ty 122 i0 _ 4 64 Tryz.underlying127 t x y z rfl (by omega) v m xs r w.heap.size (some ⟨g,0,none⟩) 1 1 [a,d,f,k] ⟨rfl,λ_=>⟨_,rfl,s.lt,λj u E=>by
  have e:(Addr.mk g 0 none).add j=⟨g,j,none⟩:=by
   unfold Addr.add;by_cases B:j=0
   ·subst B;rfl
   ·rw[if_neg B];simp
  rw[e,s.cell];simpa using E⟩⟩ C (by simp only[maxLen];omega) (by omega) l
theorem x8(w:World)(base:Nat)(v:Value)(m:Nat)(xs:List Value)(e:w.ownsRow base 3 1 v m xs)(g x:Nat)(r:ah w g 3 #[.int .i64 (x:Int)]) (ty:TypeId) (s:m+1<=1000000) (a:base<=w.heap.size):∃d w',(Builtin.append_ #[113,113] ty #[v,.slice (some ⟨g,0,none⟩) 1 1]).run Tryz.prog w=.ok d w'/\w'.ownsRow base 3 1 d (m+1) (xs++[.int .i64 (x:Int)])/\w.grownBy w' v.ownBlock/\(d.ownBlock=v.ownBlock\/d.ownBlock=some w.heap.size):=by obtain⟨i0,f,j,k,l⟩:=info_parts lj;exact bN (P:=Tryz.prog) w base 113 ty 3 i0 _ 1 8 Tryz.underlying113 f j k l rfl (by omega) v m xs e w.heap.size (some ⟨g,0,none⟩) 1 1 [.int .i64 (x:Int)] (by have h:=RN.lJ r;exact h) (by intro u o;simp at o;subst o;rfl) (by simp only[maxLen];omega) (by omega) a
def nW(w:World)(n:aj)(e:Ending)(w':World):Prop:=∃cv kv,e=.returned (.tuple #[.agg #[.bool n.leaf,cv,kv],.int .i64 0])/\dK w' w.heap.size cv kv n/\Below w.heap.size w w'
theorem FE(w:World)(A:Option Addr)(N c:Nat)(n:aj)(z:Nat)(bb:bJ n)(dv:n.leaf=true)(a1:RB w w.heap.size A N (dJ n++bt z))(d3:N<=c)(fr:N<=100000):Calls Tryz.prog 123 #[.slice A N c] w (nW w n):=by
 obtain⟨b,bp⟩:=I (dJ n++bt z);have O:=Cu n z;have cs:=J (Cv n z);have cg:=J (FD n z);rw[<-bp]at a1 O cs cg;have br:b.length=N:=a1.len;have c0:z=N-(dJ n).length/\(dJ n).length<=N:=by rw[bp,aq,ez]at br;omega
 obtain⟨M,ch⟩:=I (n.cells.length);have P:=bb.many;rw[<-ch]at P cg;have bc:M%256^2=M:=mod_eq_of_lt (by omega);have ci:Hid (∀i,i<=M->(preB n i).length<=N):=J λi eK=>by have cV:=vX n i (by omega);rw[<-fN]at cV;omega
 have a3:=((Below.refl w.heap.size w).alloc (aa _) (.cells #[.bool false,.slice none 0 0,.slice none 0 0] 129)).alloc (by simp) (.cells #[.slice A N c,.int .i64 0,.bool true] 265);have a4:ah ((w.alloc (.cells #[.bool false,.slice none 0 0,.slice none 0 0] 129)).alloc (.cells #[.slice A N c,.int .i64 0,.bool true] 265)) (w.heap.size+1) 265 #[.slice A N c,.int .i64 0,.bool true]:=by simpa using ah.new (w.alloc (.cells #[.bool false,.slice none 0 0,.slice none 0 0] 129)) 265 #[.slice A N c,.int .i64 0,.bool true]
 have bs:=(ah.new w 129 #[.bool false,.slice none 0 0,.slice none 0 0]).alloc (.cells #[.slice A N c,.int .i64 0,.bool true] 265);have a5:vY ((w.alloc (.cells #[.bool false,.slice none 0 0,.slice none 0 0] 129)).alloc (.cells #[.slice A N c,.int .i64 0,.bool true] 265)) (w.heap.size+1) A N c b 0:=⟨a4,(a1.below a3).more (le_succ _),d3,by omega⟩;obtain⟨cX,a6⟩:=I ((w.alloc (.cells #[.bool false,.slice none 0 0,.slice none 0 0] 129)).alloc (.cells #[.slice A N c,.int .i64 0,.bool true] 265));rw[<-a6]at a3 a4 bs a5;obtain⟨eL,r⟩:=I (n.leaf);obtain⟨gr,a7⟩:=I (w.heap.size+1);rw[<-a7]at a5 a4;have Z:=bb.eY;have Q:=bb.fT;rw[<-r]at Z Q;cases eL with
 |true=>
  have a8:jU n=[1]++(leB 2 M++[]):=by unfold jU;rw[<-r,<-ch];simp
  rw[a8]at O
  obtain⟨c1,dy⟩:=kX O
  obtain⟨cj,c2⟩:=kX dy
  have d4:([1]:List UInt8).length=1:=rfl
  rw[d4]at c1 cj c2
  rw[bq]at cj c2
  have ff:3<=N:=by have h:=ci.o 0 (zero_le _);rw[jK,a8]at h;simp[bq]at h;omega
  have ab:=eZ cX gr N c 0 1 A b a5 (by omega) (by omega) (by omega) 1 rfl
  rw[c1]at ab
  replace ab:Calls Tryz.prog 180 #[.pointer (some ⟨gr,0,none⟩),.int .i64 1] cX λe w'=>e=.returned (.int .i64 1)/\fU cX gr A N c b 1 w':=ab
  have ei:Hid (∀l,fU cX gr A N c b 1 l->Calls Tryz.prog 180 #[.pointer (some ⟨gr,0,none⟩),.int .i64 2] l λe w'=>e=.returned (.int .i64 (M:Int))/\fU l gr A N c b 3 w'):=J λl cY=>by have h:=eZ l gr N c 1 2 A b cY.1 (by omega) (by omega) (by omega) 2 rfl;rw[show(0+1:Nat)=1 from rfl]at cj;rw[cj,fV,bc]at h;exact h
  refine aR ?_ ab a6 a8 ch r P bc O c1 dy cj c2 c0
  clear ab a6 a8 ch r P bc O c1 dy cj c2 c0
  intro ab a6 a8 ch r P bc O c1 dy cj c2 c0
  refine gI ?_ br bp a1 a5 a4 bs a3 a7 bb Z Q
  clear br bp a1 a5 a4 bs a3 a7 bb Z Q
  intro br bp a1 a5 a4 bs a3 a7 bb Z Q
  clear d4
  go_enter Tryz.func123,Tryz.ntmps123
  go_wp2_with fail
  rw[<-a6.o,<-a7.o]
  refine ab.o.mono ?_
  rintro e eN ⟨rfl,ct⟩
  have d9:=J (ei.o eN ct)
  have ej:=J ct.2
  replace ct:=J ct
  go_wp2_with fail
  refine d9.o.mono ?_
  rintro e bd ⟨rfl,cw⟩
  have c3:=J (ej.o.trans cw.2 λi _ h=>h:R (λj=>j=gr) cX bd)
  have ac:Hid (GI w gr bd.heap.size A N c b n 0 0 3 (.slice none 0 0) (.slice none 0 0) (bd.alloc (.cells #[.bool true,.slice none 0 0,.slice none 0 0] 129))):=J (by
   have eQ:cX.heap.size=w.heap.size+2:=by rw[a6.o];simp
   have fg:=c3.o.size;have fs:=a7.o;refine⟨(c3.o.blk bs.o (by omega)).alloc _,cw.1.only ((R.refl (λ_=>False) bd).alloc _) (λh=>h) (λ_ _ h=>h),?_,(a3.o.trans (c3.o.below (B:=w.heap.size) (λk t=>by omega) (by omega))).alloc (by omega) _,⟨[],rfl,World.ownsRow_nil ..,λk vs c e=>by simp at e⟩,by rw[take_zero];exact World.ownsRow_nil ..,by omega,by omega⟩;rw[<-r.o];exact ah.new bd 129 #[.bool true,.slice none 0 0,.slice none 0 0])
  have ea:=J ac.o.KW
  have dT:(bd.alloc (.cells #[.bool true,.slice none 0 0,.slice none 0 0] 129)).cell? ⟨bd.heap.size,0,none⟩=some (.bool true):=by have h:=ac.o.iY.cell 0;rw[<-r.o]at h;exact h
  have r1:=ac.o.iY.cell 1
  have r2:=ac.o.iY.cell 2
  have ek:=ac.o.nL.blk.cell 2
  replace cw:=J cw
  go_wp2_with fail
  obtain⟨gn,c4⟩:=I (bd.heap.size)
  rw[<-c4]at ac ea dT r1 r2⊢
  replace c4:=J c4
  have el:Hid (GI w gr gn A N c b n 0 0 (preB n 0).length (.slice none 0 0) (.slice none 0 0) (bd.alloc (.cells #[.bool true,.slice none 0 0,.slice none 0 0] 129))):=J (by rw[jK,a8.o];simp only[aq,bq];exact ac.o)
  clear ek
  go_loopw [30] (λv30 wx=>∃(i:Nat) (cv kv:Value),v30=.int .i64 (i:Int)/\i<=M/\Hid (GI w gr gn A N c b n i 0 (preB n i).length cv kv wx)) (λv30 _=>M-(intOf v30).toNat)
  case atStart=>exact⟨0,_,_,rfl,zero_le _,el⟩
  case round=>
   obtain⟨i,cv,kv,rfl,eK,d⟩:=hrel;obtain⟨p,a2⟩:=I ((preB n i).length);rw[<-a2]at d;have dT:wr.cell? ⟨gn,0,none⟩=some (.bool true):=by have h:=d.o.iY.cell 0;rw[<-r.o]at h;exact h
   have r1:=d.o.iY.cell 1;have r2:=d.o.iY.cell 2;have ek:=d.o.nL.blk.cell 0;have g1:=d.o.nL.blk.cell 1;have ft:=d.o.nL.blk.cell 2;rcases aA i M with fh|fi
   ·have fj:(i:Int)<(M:Int):=by omega
    have fk:(i:Int)<=70000:=by have:=P.o;omega
    have cx:i<n.cells.length:=by have:=ch.o;omega
    obtain⟨x,bx⟩:=I (n.cells[i]);have c6:n.cells[i]?=some x:=by rw[bx];exact ak cx
    have bA:x∈n.cells:=by rw[bx];exact getElem_mem cx
    obtain⟨ck,bB,t3⟩:=cs.o i x c6;have ad:=bb.o.keys x bA;have ae:=bb.o.vals x bA;rw[<-r.o]at ae ck bB;rw[<-a2]at ck bB;obtain⟨K,c7⟩:∃K:UInt8,K=UInt8.ofNat x.key.length:=⟨_,rfl⟩;have cy:jr true x (n.kids.getD (i+1) 0)=[K]++(x.key++(jV x)):=by unfold jr jV;rw[<-c7];simp
    rw[cy]at ck bB;obtain⟨s1,cz⟩:=kX ck;obtain⟨s2,s3⟩:=kX cz;have b0:fH [K]=x.key.length:=by show K.toNat+256*0=_;rw[c7,UInt8.toNat_ofNat'];omega
    obtain⟨y,af⟩:=I (x.key.length);have cA:([K]:List UInt8).length=1:=rfl;rw[cA]at s1 s2 s3;rw[<-af]at s2 s3 b0 ad;have b1:p+1+y+(jV x).length<=N:=by have cV:=ci.o (i+1) (by omega);rw[bB]at cV;simp only[aq,cA]at cV;omega
    have em:=J (by rw[bB];simp only[aq,cA];omega:(preB n (i+1)).length=p+1+y+(jV x).length);have al:=eZ wr gr N c p 1 A b d.o.nL (by omega) (by omega) (by omega) 1 rfl;rw[s1,b0]at al;have hcut:Hid (∀l,fU wr gr A N c b (p+1) l->Calls Tryz.prog 181 #[.pointer (some ⟨gr,0,none⟩),.int .i64 (y:Int)] l (oL l gr A N c b (p+1) y)):=J λl cY=>vZ l gr N c (p+1) y A b cY.1 (by omega);have eR:y<=120:=ad.2;refine aR ?_ al s1 s2 cz s3 ck bB t3 a2 bx c6 bA c7;clear al s1 s2 cz s3 ck bB t3 a2 bx c6 bA c7;intro al s1 s2 cz s3 ck bB t3 a2 bx c6 bA c7;refine bX ?_ b0 af cy ad ae;clear b0 af cy ad ae;intro b0 af cy ad ae;replace cx:=J cx;replace b1:=J b1;clear cA;go_wp2_with fail;refine al.o.mono ?_;rintro e e0 ⟨rfl,b2⟩;have d5:=J (d.o.only b2.2 b2.1);have d0:=J (hcut.o e0 b2);replace b2:=J b2;go_wp2_with fail;refine d0.o.mono ?_;rintro e b3 ⟨v5,rfl,b4,b5⟩;have cB:=J (d5.o.only b5.2 b5.1);rw[s2.o]at b4;have am:=b4.more (b':=w.heap.size) d5.o.dX.size;obtain⟨V,c5,rfl,_,_,cD,_⟩:=am.form;have eb:=J am.KU;obtain⟨gc,W⟩:=I (b3.heap.size);have a9:=J (cB.o.alloc (.cells #[.slice V y c5,.slice none 0 0,.int .i64 0,.int .i64 0] 122));have c8:=J (ah.new b3 122 #[.slice V y c5,.slice none 0 0,.int .i64 0,.int .i64 0]);have ec:=J (by rw[W];exact ah.lt cB.o.nL.blk:gr<gc);have e1:=J (by rw[W];exact ah.lt cB.o.iY:gn<gc);obtain⟨c9,X⟩:=I (b3.alloc (.cells #[.slice V y c5,.slice none 0 0,.int .i64 0,.int .i64 0] 122));rw[<-X,<-W]at c8;rw[<-X]at a9;have ee:=J (by rw[X];exact(R.refl _ b3).alloc _:R (λj=>j=gr) b3 c9);have da:=J (by rw[X];exact(ed.refl 5 b3).alloc _:ed 5 b3 c9);have fv:c9.cell? ⟨gn,0,none⟩=some (.bool true):=by have h:=a9.o.iY.cell 0;rw[<-r.o]at h;exact h
    have ef:=a9.o.iY.cell 2;refine dZ ?_ X W b4 am b5 cD;clear X W b4 am b5 cD;intro X W b4 am b5 cD;have en:=J (Dv c9 gr gc N c (p+1+y) A b a9.o.nL (.slice V y c5) ec.o c8.o x (by simpa using ae.o) s3.o b1.o);go_upto_region 10 with(fail)
    rw[<-X.o,<-W.o];go_wp2_with fail;refine en.o.mono ?_;rintro e s ⟨rfl,cE,b6,fx,Y,cH⟩;have be:R (λj=>j=gr) b3 s:=ee.o.trans b6 (λk t h=>h.elim id (λh=>by have:=W.o;omega));have d6:=J (cB.o.only be cE);have an:ed 5 c9 s:=b6.jQ λk fy t a1=>by
     rcases t with rfl|rfl
     ·exact ah.iH a1 a9.o.nL.blk (by decide) rfl
     ·exact ah.iH a1 c8.o (by decide) rfl
    have ao:=cH.more (b':=w.heap.size) a9.o.dX.size;obtain⟨bi,bj,rfl,_,_,eo,_⟩:=ao.form;have d7:Hid (cN (G5 w.heap.size s) s [.slice V y c5,.slice bi x.val.length bj,.int .i64 (x.over:Int),.int .i64 (x.long:Int)] x):=J ⟨V,c5,bi,bj,by rw[af.o],by rw[<-af.o];exact cD.o,eo,by rw[<-af.o];exact eb.o.keep λk t=>⟨⟨t.1,t.2.choose,an _ _ (da.o _ _ t.2.choose_spec)⟩,(an _ _ (da.o _ _ t.2.choose_spec)).trans t.2.choose_spec.symm⟩,ao.KU⟩
    obtain⟨cl,cK⟩:=I (x.val.length);rw[<-cK]at d7 Y;refine eD ?_ cK b6 cE cH ao an be;clear cK b6 cE cH ao an be;intro cK b6 cE cH ao an be;have d1:Hid ((preB n (i+1)).length=p+1+y+(jV x).length):=em;have fz:=Y.cell 0;have fA:=Y.cell 1;have fX:=Y.cell 2;have fY:=Y.cell 3;have m1:=d6.o.iY.cell 1;have b7:=J (d6.o.alloc (.cells #[(.slice V y c5),(.slice bi cl bj),(.int .i64 (x.over:Int)),(.int .i64 (x.long:Int))] 122));have cL:=ah.new s 122 #[(.slice V y c5),(.slice bi cl bj),(.int .i64 (x.over:Int)),(.int .i64 (x.long:Int))];obtain⟨cm,cM,ba,cP⟩:=b7.o.rows;obtain⟨v9,e2,eg,b8,b9,cn⟩:=jG (s.alloc (.cells #[(.slice V y c5),(.slice bi cl bj),(.int .i64 (x.over:Int)),(.int .i64 (x.long:Int))] 122)) gn cv i cm.flatten ba s.heap.size (.slice V y c5) (.slice bi cl bj) (.int .i64 (x.over:Int)) (.int .i64 (x.long:Int)) (by intro u ep;simp at ep;rcases ep with rfl|rfl|rfl|rfl<;>rfl) cL 127 (by have:=P.o;omega) (Nat.le_of_lt (ah.lt b7.o.iY));have ca:=b7.o.iY.grown b9 (λe=>au ba b7.o.iY (by decide) e.symm);have f0:=ca.frozen 1;have f1:=ca.cell 1;have bl:cN (G5 w.heap.size (s.alloc (.cells #[(.slice V y c5),(.slice bi cl bj),(.int .i64 (x.over:Int)),(.int .i64 (x.long:Int))] 122))) (s.alloc (.cells #[(.slice V y c5),(.slice bi cl bj),(.int .i64 (x.over:Int)),(.int .i64 (x.long:Int))] 122)) [(.slice V y c5),(.slice bi cl bj),(.int .i64 (x.over:Int)),(.int .i64 (x.long:Int))] x:=d7.o.keep λk t=>⟨⟨t.1,t.2.choose,t.2.choose_spec.alloc _⟩,(Below.heap_alloc s _ k (ah.lt t.2.choose_spec))⟩;have d2:Hid (GI w gr gn A N c b n (i+1) 0 (preB n (i+1)).length v9 kv (e2.setCell ⟨gn,1,none⟩ v9)):=J (by rw[d1.o];exact b7.o.cell b9 c6.o bl cm cM ba cP b8)
    obtain⟨eq,er,es⟩:∃eq er,v9=.slice eq (i+1) er:=by
     rcases b8.2 with⟨_,f2⟩|⟨g,cap,et,e,_⟩
     ·omega
     ·exact⟨_,_,e⟩
    subst es;refine dr ?_ Y cL b8 b9 ca cM ba cP bl cn;clear Y cL b8 b9 ca cM ba cP bl cn;intro Y cL b8 b9 ca cM ba cP bl cn;go_wp2_with(at_builtin;refine Lib.wpList_append_run _ rfl (.tmp 54) (.tmp 56) 127 127 rfl _ _ rfl rfl _ _ eg ?_);go_roundw
    case rel=>exact⟨i+1,_,_,by simp,by omega,d2⟩
    case measure=>simp[intOf];omega
   ·have cb:i=M:=by omega
    have db:¬(i:Int)<(M:Int):=by omega
    have e3:(M:Int)<=(i:Int):=by omega
    have fl:decide ((i:Int)<(M:Int))=false:=by rw[decide_eq_false_iff_not];omega
    have b1:p<=N:=by rw[a2];exact ci.o i (by omega)
    have L:=d.o.own (by rw[cb];exact ch.o) (by rw[Q.o trivial];rfl);have d8:∀{e:TypeId} {size m:Nat} {v:Value} {xs:List Value} {B:Nat},wr.ownsRow B e size v m xs->∃A c,v=.slice A m c:=by
     intro e size m v xs B h;rcases h.2 with⟨rfl,rfl⟩|⟨g,cap,et,rfl,_⟩
     ·exact⟨none,0,rfl⟩
     ·exact⟨_,_,rfl⟩
    obtain⟨cm,_,cS,_⟩:=L.rows;obtain⟨C,D,rfl⟩:=d8 cS;obtain⟨E,F,rfl⟩:=d8 L.kids;have cc:=L.gS (G:=Cr wr) (λk _ t=>t);rw[<-r.o]at cc;have ce:=J (mY wr _ n cc bb.o);obtain⟨T,co⟩:=I (N-p);have ap:RB wr w.heap.size (if c=p then A else A.map (λa=>a.add (p*1))) T (bt T):=by
     have h:=Reads.cut (k:=p) (cap:=c) (a1.o.below d.o.dX) b1 d3;rw[co];have e:b.drop p=bt (N-p):=by have a0:=cg.o;rw[<-cb,<-a2]at a0;have ef:=congrArg List.length a0;rw[aQ,br.o,ez]at ef;rw[a0,ef]
     unfold RB;rw[<-e];unfold bv at h⊢;rw[map_drop];simpa using h
    have fm:T<=c-p:=by omega
    obtain⟨ev,cf⟩:=I ((if c=p then A else A.map (λa=>a.add (p*1))));rw[<-cf]at ap;refine dr ?_ ce db ap cf co cS L cc cb a2;clear ce db ap cf co cS L cc cb a2;intro ce db ap cf co cS L cc cb a2;have fn:(p:Int)<=(N:Int):=by omega
    have fp:(p:Int)<=(c:Int):=by omega
    rcases aA p c with ex|ex
    ·have e4:(p:Int)<(c:Int):=by omega
     have ey:¬c=p:=by omega
     have a0:ev=Option.map (λx=>x.add p) A:=by rw[cf.o,if_neg ey,Nat.mul_one]
     have cV:T<=(c-p):=by have:=co.o;omega
     have e5:T<=10000000:=by have:=co.o;omega
     have dc:=co.o;have dd:Hid (∀l,Below wr.heap.size wr l->Calls Tryz.prog 183 #[.slice (Option.map (λx=>x.add p) A) (N-p) (c-p),.string { data:=#[0] }] l λe w'=>e=.returned (.slice none 0 0)/\∃q,w'=l.drewN q):=J λl cY=>by have h:=RB.below ap.o (cY.mono d.o.dX.size);have eA:=oM l w.heap.size T (c-p) ev h cV e5;rw[a0,dc]at eA;exact eA
     replace a0:=J a0;replace dc:=J dc;have eh:∀l:World,(binOp .neq 23 (.slice none 0 0) (.slice none 0 0)).run Tryz.prog l=.ok (.bool false) l:=λl=>by kernel_rfl
     go_wp2_with(first
      |(go_at_call 120;refine ce.o.o.mono ?_;rintro e s ⟨rfl,f⟩;(have e6:=(d.o.nL.only (R.ag (S:=λ_=>False) f) (λh=>h) (λ_ _ h=>h)).blk.cell 0);(have e7:=(d.o.nL.only (R.ag (S:=λ_=>False) f) (λh=>h) (λ_ _ h=>h)).blk.cell 1);
        (have z0:s.cell? ⟨gn,0,none⟩=some (.bool true):=(f.cell (p:=⟨gn,0,none⟩) (ah.lt d.o.iY)).trans dT);(have e8:=(d.o.iY.below f (ah.lt d.o.iY)).cell 1);(have e9:=(d.o.iY.below f (ah.lt d.o.iY)).cell 2);
        (have H:=d.o.res.below f (ah.lt d.o.res));(have fa:=H.cell 0);(have fb:=H.cell 1);(have fc:=H.cell 2);(have u0:=H.frozen 0);(have u1:=H.frozen 1);(have u2:=H.frozen 2);
        replace H:=J H;replace f:=J f)
      |(go_at_call 183;refine(dd.o _ f.o).mono ?_;rintro e fd ⟨rfl,nq,rfl⟩))
     have de:Below w.heap.size w ((((s.drewN nq).setCell ⟨w.heap.size,0,none⟩ (.bool true)).setCell ⟨w.heap.size,1,none⟩ (.slice C n.cells.length D)).setCell ⟨w.heap.size,2,none⟩ (.slice E n.kids.length F)):=((((below_drewN (d.o.dX.trans (f.o.mono d.o.dX.size)) nq).setCell (p:=⟨w.heap.size,0,none⟩) (aa _) _).setCell (p:=⟨w.heap.size,1,none⟩) (aa _) _).setCell (p:=⟨w.heap.size,2,none⟩) (aa _) _)
     have bm:dK ((((s.drewN nq).setCell ⟨w.heap.size,0,none⟩ (.bool true)).setCell ⟨w.heap.size,1,none⟩ (.slice C n.cells.length D)).setCell ⟨w.heap.size,2,none⟩ (.slice E n.kids.length F)) w.heap.size (.slice C n.cells.length D) (.slice E n.kids.length F) n:=by
      have a0:R (λj=>j=w.heap.size) wr ((((s.drewN nq).setCell ⟨w.heap.size,0,none⟩ (.bool true)).setCell ⟨w.heap.size,1,none⟩ (.slice C n.cells.length D)).setCell ⟨w.heap.size,2,none⟩ (.slice E n.kids.length F)):=(((((R.ag (S:=λj=>j=w.heap.size) f.o).drewN nq).setCell (p:=⟨w.heap.size,0,none⟩) (λ_=>rfl) _).setCell (p:=⟨w.heap.size,1,none⟩) (λ_=>rfl) _).setCell (p:=⟨w.heap.size,2,none⟩) (λ_=>rfl) _)
      exact L.o.only a0 λk t=>by subst t;exact⟨_,_,d.o.res,by decide,by decide,by decide⟩
     have cp:Hid (nW w n (.returned (.tuple #[.agg #[.bool true,.slice C n.cells.length D,.slice E n.kids.length F],.int .i64 0])) _):=J ⟨.slice C n.cells.length D,.slice E n.kids.length F,by rw[<-r.o],bm,de⟩;refine bodyPost_ret (v:=.tuple #[.agg #[.bool true,.slice C n.cells.length D,.slice E n.kids.length F],.int .i64 0]) ?_ rfl cp.o;have U:=(((H.o.drewN nq).aK 0 (.bool true)).aK 1 (.slice C n.cells.length D)).aK 2 (.slice E n.kids.length F);obtain⟨cr,dj⟩:=I (((((s.drewN nq).setCell ⟨w.heap.size,0,none⟩ (.bool true)).setCell ⟨w.heap.size,1,none⟩ (.slice C n.cells.length D)).setCell ⟨w.heap.size,2,none⟩ (.slice E n.kids.length F)));rw[<-dj]at U⊢;have dk:=U.cell 0;have dl:=U.cell 1;have dp:=U.cell 2;have ds:cr.cell? ⟨w.heap.size,0,none⟩=some (.bool true):=dk;have dt:cr.cell? ⟨w.heap.size,1,none⟩=some (.slice C n.cells.length D):=dl;have du:cr.cell? ⟨w.heap.size,2,none⟩=some (.slice E n.kids.length F):=dp;clear dk dl dp;simp[results,Tryz.results123,go_sem,ds,dt,du]
    ·have eE:N=p/\c=p:=by omega
     obtain⟨eI,eJ⟩:=eE;have dd:Hid (∀l:World,Below wr.heap.size wr l->Calls Tryz.prog 183 #[.slice A 0 0,.string { data:=#[0] }] l λe w'=>e=.returned (.slice none 0 0)/\∃q,w'=l.drewN q):=J λl cY=>oM l 0 0 0 A ⟨by simp[bv,bt],λh=>absurd h (by omega)⟩ (by omega) (by omega);subst eI;subst eJ;have eh:∀l:World,(binOp .neq 23 (.slice none 0 0) (.slice none 0 0)).run Tryz.prog l=.ok (.bool false) l:=λl=>by kernel_rfl
     go_wp2_with(first
      |(go_at_call 120;refine ce.o.o.mono ?_;rintro e s ⟨rfl,f⟩;(have e6:=(d.o.nL.only (R.ag (S:=λ_=>False) f) (λh=>h) (λ_ _ h=>h)).blk.cell 0);(have e7:=(d.o.nL.only (R.ag (S:=λ_=>False) f) (λh=>h) (λ_ _ h=>h)).blk.cell 1);
        (have z0:s.cell? ⟨gn,0,none⟩=some (.bool true):=(f.cell (p:=⟨gn,0,none⟩) (ah.lt d.o.iY)).trans dT);(have e8:=(d.o.iY.below f (ah.lt d.o.iY)).cell 1);(have e9:=(d.o.iY.below f (ah.lt d.o.iY)).cell 2);
        (have H:=d.o.res.below f (ah.lt d.o.res));(have fa:=H.cell 0);(have fb:=H.cell 1);(have fc:=H.cell 2);(have u0:=H.frozen 0);(have u1:=H.frozen 1);(have u2:=H.frozen 2);
        replace H:=J H;replace f:=J f)
      |(go_at_call 183;refine(dd.o _ f.o).mono ?_;rintro e fd ⟨rfl,nq,rfl⟩))
     have de:Below w.heap.size w ((((s.drewN nq).setCell ⟨w.heap.size,0,none⟩ (.bool true)).setCell ⟨w.heap.size,1,none⟩ (.slice C n.cells.length D)).setCell ⟨w.heap.size,2,none⟩ (.slice E n.kids.length F)):=((((below_drewN (d.o.dX.trans (f.o.mono d.o.dX.size)) nq).setCell (p:=⟨w.heap.size,0,none⟩) (aa _) _).setCell (p:=⟨w.heap.size,1,none⟩) (aa _) _).setCell (p:=⟨w.heap.size,2,none⟩) (aa _) _)
     have bm:dK ((((s.drewN nq).setCell ⟨w.heap.size,0,none⟩ (.bool true)).setCell ⟨w.heap.size,1,none⟩ (.slice C n.cells.length D)).setCell ⟨w.heap.size,2,none⟩ (.slice E n.kids.length F)) w.heap.size (.slice C n.cells.length D) (.slice E n.kids.length F) n:=by
      have a0:R (λj=>j=w.heap.size) wr ((((s.drewN nq).setCell ⟨w.heap.size,0,none⟩ (.bool true)).setCell ⟨w.heap.size,1,none⟩ (.slice C n.cells.length D)).setCell ⟨w.heap.size,2,none⟩ (.slice E n.kids.length F)):=(((((R.ag (S:=λj=>j=w.heap.size) f.o).drewN nq).setCell (p:=⟨w.heap.size,0,none⟩) (λ_=>rfl) _).setCell (p:=⟨w.heap.size,1,none⟩) (λ_=>rfl) _).setCell (p:=⟨w.heap.size,2,none⟩) (λ_=>rfl) _)
      exact L.o.only a0 λk t=>by subst t;exact⟨_,_,d.o.res,by decide,by decide,by decide⟩
     have cp:Hid (nW w n (.returned (.tuple #[.agg #[.bool true,.slice C n.cells.length D,.slice E n.kids.length F],.int .i64 0])) _):=J ⟨.slice C n.cells.length D,.slice E n.kids.length F,by rw[<-r.o],bm,de⟩;refine bodyPost_ret (v:=.tuple #[.agg #[.bool true,.slice C n.cells.length D,.slice E n.kids.length F],.int .i64 0]) ?_ rfl cp.o;have U:=(((H.o.drewN nq).aK 0 (.bool true)).aK 1 (.slice C n.cells.length D)).aK 2 (.slice E n.kids.length F);obtain⟨cr,dj⟩:=I (((((s.drewN nq).setCell ⟨w.heap.size,0,none⟩ (.bool true)).setCell ⟨w.heap.size,1,none⟩ (.slice C n.cells.length D)).setCell ⟨w.heap.size,2,none⟩ (.slice E n.kids.length F)));rw[<-dj]at U⊢;have dk:=U.cell 0;have dl:=U.cell 1;have dp:=U.cell 2;have ds:cr.cell? ⟨w.heap.size,0,none⟩=some (.bool true):=dk;have dt:cr.cell? ⟨w.heap.size,1,none⟩=some (.slice C n.cells.length D):=dl;have du:cr.cell? ⟨w.heap.size,2,none⟩=some (.slice E n.kids.length F):=dp;clear dk dl dp;simp[results,Tryz.results123,go_sem,ds,dt,du]
 |false=>rw[dv]at r;cases r
theorem x9{w r f:World}{gr gn N c i kn p p2:Nat}{A:Option Addr}{b:List UInt8}{n:aj}{cv kv:Value}(B:GI w gr gn A N c b n i kn p cv kv r)(v:fU r gr A N c b p2 f)(x:Nat)(L:n.kids[kn]?=some x)(E:kn+1<=1000000):
 ∃j l m,(Builtin.append_ #[113,113] 113 #[kv,.slice (some ⟨f.heap.size,0,none⟩) 1 1]).run Tryz.prog (f.alloc (.cells #[.int .i64 (x:Int)] 3))=.ok (.slice j (kn+1) l) m/\f.cell? ⟨gn,2,none⟩=some kv/\(f.alloc (.cells #[.int .i64 (x:Int)] 3)).cell? ⟨gn,2,none⟩=some kv/\m.cell? ⟨gn,2,none⟩=some kv/\m.frozen? ⟨gn,2,none⟩=false/\
  GI w gr gn A N c b n i (kn+1) p2 cv (.slice j (kn+1) l) (m.setCell ⟨gn,2,none⟩ (.slice j (kn+1) l))/\ed 5 r (m.setCell ⟨gn,2,none⟩ (.slice j (kn+1) l))/\
  (∀(g:Nat) (t:TypeId) (s:Array Value),ah r g t s->t≠265->t≠129->t≠3->ah (m.setCell ⟨gn,2,none⟩ (.slice j (kn+1) l)) g t s):=by
 have y:=B.only v.2 v.1;have a:=y.alloc (.cells #[.int .i64 (x:Int)] 3);have C:=ah.new f 3 #[.int .i64 (x:Int)];obtain⟨v9,m,D,u,o,_⟩:=x8 (f.alloc (.cells #[.int .i64 (x:Int)] 3)) gn kv kn _ a.kids f.heap.size x C 113 E (Nat.le_of_lt (ah.lt a.iY));obtain⟨j,l,rfl⟩:∃j l,v9=.slice j (kn+1) l:=by
  rcases u.2 with⟨_,T⟩|⟨g,cap,S,e,_⟩
  ·omega
  ·exact⟨_,_,e⟩
 have d:=a.iY.grown o (λe=>au a.kids a.iY (by decide) e.symm);have F:(n.kids.take kn).map encI++[.int .i64 (x:Int)]=(n.kids.take (kn+1)).map encI:=by rw[take_add_one,L];simp[encI]
 rw[F]at u;refine⟨j,l,m,D,y.iY.cell 2,a.iY.cell 2,d.cell 2,d.frozen 2,a.dM o u,?_,λg t s z M O P=>?_⟩
 ·have G:ed 5 r f:=v.2.jQ λk s Q C=>by subst Q;exact ah.iH C B.nL.blk (by decide) rfl
  exact((G.alloc _).Dj o a.kids (by decide)).aK (p:=⟨gn,2,none⟩) d (by decide) _
 ·have H:ah f g t s:=v.2.blk z (λe=>by subst e;exact ah.iH z B.nL.blk M rfl);have K:=(H.alloc (.cells #[.int .i64 (x:Int)] 3)).grown o (λe=>au a.kids (H.alloc (.cells #[.int .i64 (x:Int)] 3)) P.symm e.symm);exact K.far (p:=⟨gn,2,none⟩) (ah.iH K d O) _
theorem Dy(w:World)(A:Option Addr)(N c:Nat)(n:aj)(z:Nat)(ad:bJ n)(d6:n.leaf=false)(co:RB w w.heap.size A N (dJ n++bt z))(ec:N<=c)(ga:N<=100000):Calls Tryz.prog 123 #[.slice A N c] w (nW w n):=by
 obtain⟨b,bA⟩:=I (dJ n++bt z);have U:=Cu n z;have cK:=J (Cv n z);have cp:=J (FD n z);rw[<-bA]at co U cK cp;have bB:b.length=N:=co.len;have c9:z=N-(dJ n).length/\(dJ n).length<=N:=by rw[bA,aq,ez]at bB;omega
 obtain⟨M,b0⟩:=I (n.cells.length);have F:=ad.many;rw[<-b0]at F cp;have bm:M%256^2=M:=mod_eq_of_lt (by omega);have bp:Hid (∀i,i<=M->(preB n i).length<=N):=J λi e7=>by have c3:=vX n i (by omega);rw[<-fN]at c3;omega
 have ba:=((Below.refl w.heap.size w).alloc (aa _) (.cells #[.bool false,.slice none 0 0,.slice none 0 0] 129)).alloc (by simp) (.cells #[.slice A N c,.int .i64 0,.bool true] 265);have bb:ah ((w.alloc (.cells #[.bool false,.slice none 0 0,.slice none 0 0] 129)).alloc (.cells #[.slice A N c,.int .i64 0,.bool true] 265)) (w.heap.size+1) 265 #[.slice A N c,.int .i64 0,.bool true]:=by simpa using ah.new (w.alloc (.cells #[.bool false,.slice none 0 0,.slice none 0 0] 129)) 265 #[.slice A N c,.int .i64 0,.bool true]
 have b1:=(ah.new w 129 #[.bool false,.slice none 0 0,.slice none 0 0]).alloc (.cells #[.slice A N c,.int .i64 0,.bool true] 265);have bc:vY ((w.alloc (.cells #[.bool false,.slice none 0 0,.slice none 0 0] 129)).alloc (.cells #[.slice A N c,.int .i64 0,.bool true] 265)) (w.heap.size+1) A N c b 0:=⟨bb,(co.below ba).more (le_succ _),ec,by omega⟩;obtain⟨c4,bd⟩:=I ((w.alloc (.cells #[.bool false,.slice none 0 0,.slice none 0 0] 129)).alloc (.cells #[.slice A N c,.int .i64 0,.bool true] 265));rw[<-bd]at ba bb b1 bc;obtain⟨e8,s⟩:=I (n.leaf);obtain⟨gr,be⟩:=I (w.heap.size+1);rw[<-be]at bc bb;have H:=ad.eY;have ac:=ad.fT;rw[<-s]at H ac;cases e8 with
 |true=>rw[d6]at s;cases s
 |false=>
  obtain⟨a6,da⟩:∃a6,Hid (leB 3 (n.kids.headD 0)=leB 3 a6/\n.kids[0]?=some a6):=by
   have h:=H rfl;cases hkk:n.kids with
   |nil=>rw[hkk]at h;simp at h
   |cons a gl=>exact⟨a,J ⟨rfl,rfl⟩⟩
  have ae:jU n=[2]++(leB 2 M++(leB 3 a6)):=by unfold jU;rw[<-s,<-b0];rw[da.o.1];simp
  rw[ae]at U
  obtain⟨db,d7⟩:=kX U
  obtain⟨cr,c6⟩:=kX d7
  have ee:([2]:List UInt8).length=1:=rfl
  rw[ee]at db cr c6
  rw[bq]at cr c6
  have fY:3<=N:=by have h:=bp.o 0 (zero_le _);rw[jK,ae]at h;simp[bq]at h;omega
  have Z:=eZ c4 gr N c 0 1 A b bc (by omega) (by omega) (by omega) 1 rfl
  rw[db]at Z
  replace Z:Calls Tryz.prog 180 #[.pointer (some ⟨gr,0,none⟩),.int .i64 1] c4 λe w'=>e=.returned (.int .i64 2)/\fU c4 gr A N c b 1 w':=Z
  have ef:Hid (∀l,fU c4 gr A N c b 1 l->Calls Tryz.prog 180 #[.pointer (some ⟨gr,0,none⟩),.int .i64 2] l λe w'=>e=.returned (.int .i64 (M:Int))/\fU l gr A N c b 3 w'):=J λl c7=>by have h:=eZ l gr N c 1 2 A b c7.1 (by omega) (by omega) (by omega) 2 rfl;rw[show(0+1:Nat)=1 from rfl]at cr;rw[cr,fV,bm]at h;exact h
  refine aR ?_ Z bd ae b0 s F bm U db d7 cr c6 c9
  clear Z bd ae b0 s F bm U db d7 cr c6 c9
  intro Z bd ae b0 s F bm U db d7 cr c6 c9
  refine gI ?_ bB bA co bc bb b1 ba be ad H ac
  clear bB bA co bc bb b1 ba be ad H ac
  intro bB bA co bc bb b1 ba be ad H ac
  clear ee
  go_enter Tryz.func123,Tryz.ntmps123
  go_wp2_with fail
  rw[<-bd.o,<-be.o]
  refine Z.o.mono ?_
  rintro e e9 ⟨rfl,cL⟩
  have dc:=J (ef.o e9 cL)
  have ex:=J cL.2
  replace cL:=J cL
  go_wp2_with fail
  refine dc.o.mono ?_
  rintro e br ⟨rfl,cM⟩
  have dd:=J (ex.o.trans cM.2 λi _ h=>h:R (λj=>j=gr) c4 br)
  have O:Hid (GI w gr br.heap.size A N c b n 0 0 3 (.slice none 0 0) (.slice none 0 0) (br.alloc (.cells #[.bool false,.slice none 0 0,.slice none 0 0] 129))):=J (by
   have fa:c4.heap.size=w.heap.size+2:=by rw[bd.o];simp
   have f0:=dd.o.size;have gb:=be.o;refine⟨(dd.o.blk b1.o (by omega)).alloc _,cM.1.only ((R.refl (λ_=>False) br).alloc _) (λh=>h) (λ_ _ h=>h),?_,(ba.o.trans (dd.o.below (B:=w.heap.size) (λk P=>by omega) (by omega))).alloc (by omega) _,⟨[],rfl,World.ownsRow_nil ..,λk vs c e=>by simp at e⟩,by rw[take_zero];exact World.ownsRow_nil ..,by omega,by omega⟩;rw[<-s.o];exact ah.new br 129 #[.bool false,.slice none 0 0,.slice none 0 0])
  have el:=J O.o.KW
  have c8:(br.alloc (.cells #[.bool false,.slice none 0 0,.slice none 0 0] 129)).cell? ⟨br.heap.size,0,none⟩=some (.bool false):=by have h:=O.o.iY.cell 0;rw[<-s.o]at h;exact h
  have r1:=O.o.iY.cell 1
  have r2:=O.o.iY.cell 2
  have em:=O.o.nL.blk.cell 2
  replace cM:=J cM
  go_wp2_with fail
  obtain⟨gn,de⟩:=I (br.heap.size)
  rw[<-de]at O el c8 r1 r2⊢
  replace de:=J de
  obtain⟨en,dj⟩:=I (br.alloc (.cells #[.bool false,.slice none 0 0,.slice none 0 0] 129))
  rw[<-dj]at O c8 r1 r2 em⊢
  replace dj:=J dj
  have f1:6<=N:=by have h:=bp.o 0 (zero_le _);rw[jK,ae.o]at h;simp[bq]at h;omega
  have eo:(b.drop 3).take 3=leB 3 a6:=by have h:=c6.o;simpa[bq]using h
  have cs:a6<256^3:=by have h:=ad.o.jT a6 (bu da.o.2);unfold jS at h;omega
  have b2:Hid (Calls Tryz.prog 180 #[.pointer (some ⟨gr,0,none⟩),.int .i64 3] en.drew λe w'=>e=.returned (.int .i64 ((a6:Nat):Int))/\fU en.drew gr A N c b (3+3) w'):=J (by have h:=eZ en.drew gr N c 3 3 A b O.o.drew.nL (by omega) (by omega) (by omega) 3 rfl;rw[eo,fV,mod_eq_of_lt cs]at h;exact h)
  have b3:=J O.o.drew
  replace eo:=J eo
  replace O:=J O.o
  go_cut [] (λwx=>∃a7 a8,Hid (GI w gr gn A N c b n 0 1 6 (.slice none 0 0) (.slice a7 1 a8) wx))
  case first=>
   go_region_law(first
    |(go_simp;go_at_call 180;refine b2.o.mono ?_;rintro e ep ⟨rfl,af⟩;obtain⟨a7,a8,eq,al,ct,cw,fb,fc,am,bi,V⟩:=x9 b3.o af a6 da.o.2 (by omega);replace af:=J af;replace am:=J am;replace bi:=J bi;replace V:Hid _:=J V)
    |(refine Lib.wp_append_run _ (.tmp 23) (.tmp 26) 113 113 rfl _ _ rfl rfl _ _ al ?_))
   all_goals
    go_wp2_with fail
    go_meet
    case rel=>exact⟨a7,a8,am⟩
  obtain⟨fd,ff,dk⟩:=hcut
  have ey:Hid (GI w gr gn A N c b n 0 (0+1) (preB n 0).length (.slice none 0 0) (.slice fd 1 ff) wc):=J (by rw[jK,ae.o];simp only[aq,bq];exact dk.o)
  clear em c8 r1 r2 dk b2 b3 O dc Z ef
  go_wp2_with fail
  go_loopw [30] (λv30 wx=>∃(i:Nat) (cv kv:Value),v30=.int .i64 (i:Int)/\i<=M/\Hid (GI w gr gn A N c b n i (i+1) (preB n i).length cv kv wx)) (λv30 _=>M-(intOf v30).toNat)
  case atStart=>exact⟨0,_,_,rfl,zero_le _,ey⟩
  case round=>
   obtain⟨i,cv,kv,rfl,e7,d⟩:=hrel;obtain⟨p,a9⟩:=I ((preB n i).length);rw[<-a9]at d;have c8:wr.cell? ⟨gn,0,none⟩=some (.bool false):=by have h:=d.o.iY.cell 0;rw[<-s.o]at h;exact h
   have r1:=d.o.iY.cell 1;have r2:=d.o.iY.cell 2;have em:=d.o.nL.blk.cell 0;have g1:=d.o.nL.blk.cell 1;have gd:=d.o.nL.blk.cell 2;rcases aA i M with f2|f3
   ·have f4:(i:Int)<(M:Int):=by omega
    have f5:(i:Int)<=70000:=by have:=F.o;omega
    have b4:i<n.cells.length:=by have:=b0.o;omega
    obtain⟨x,b5⟩:=I (n.cells[i]);have dl:n.cells[i]?=some x:=by rw[b5];exact ak b4
    have b6:x∈n.cells:=by rw[b5];exact getElem_mem b4
    obtain⟨cx,b7,t3⟩:=cK.o i x dl;have an:=ad.o.keys x b6;have ao:=ad.o.vals x b6;rw[<-s.o]at ao cx b7;rw[<-a9]at cx b7;obtain⟨K,dp⟩:∃K:UInt8,K=UInt8.ofNat x.key.length:=⟨_,rfl⟩;have cP:jr false x (n.kids.getD (i+1) 0)=[K]++(x.key++(leB 3 (n.kids.getD (i+1) 0))):=by unfold jr;rw[<-dp];simp
    rw[cP]at cx b7;obtain⟨s1,cS⟩:=kX cx;obtain⟨s2,s3⟩:=kX cS;have b8:fH [K]=x.key.length:=by show K.toNat+256*0=_;rw[dp,UInt8.toNat_ofNat'];omega
    obtain⟨r,ap⟩:=I (x.key.length);have cV:([K]:List UInt8).length=1:=rfl;rw[cV]at s1 s2 s3;rw[<-ap]at s2 s3 b8 an;have b9:p+1+r+(leB 3 (n.kids.getD (i+1) 0)).length<=N:=by have c3:=bp.o (i+1) (by omega);rw[b7]at c3;simp only[aq,cV]at c3;omega
    have eA:=J (by rw[b7];simp only[aq,cV];omega:(preB n (i+1)).length=p+1+r+(leB 3 (n.kids.getD (i+1) 0)).length);have a0:=eZ wr gr N c p 1 A b d.o.nL (by omega) (by omega) (by omega) 1 rfl;rw[s1,b8]at a0;have hcut:Hid (∀l,fU wr gr A N c b (p+1) l->Calls Tryz.prog 181 #[.pointer (some ⟨gr,0,none⟩),.int .i64 (r:Int)] l (oL l gr A N c b (p+1) r)):=J λl c7=>vZ l gr N c (p+1) r A b c7.1 (by omega);have fg:r<=120:=an.2;refine aR ?_ a0 s1 s2 cS s3 cx b7 t3 a9 b5 dl b6 dp;clear a0 s1 s2 cS s3 cx b7 t3 a9 b5 dl b6 dp;intro a0 s1 s2 cS s3 cx b7 t3 a9 b5 dl b6 dp;refine bX ?_ b8 ap cP an ao;clear b8 ap cP an ao;intro b8 ap cP an ao;replace b4:=J b4;replace b9:=J b9;clear cV;go_wp2_with fail;refine a0.o.mono ?_;rintro e fh ⟨rfl,ca⟩;have eg:=J (d.o.only ca.2 ca.1);have d8:=J (hcut.o fh ca);replace ca:=J ca;go_wp2_with fail;refine d8.o.mono ?_;rintro e cy ⟨v5,rfl,cb,cc⟩;have ds:=J (eg.o.only cc.2 cc.1);rw[s2.o]at cb;have a1:=cb.more (b':=w.heap.size) eg.o.dX.size;obtain⟨Y,c5,rfl,_,_,cX,_⟩:=a1.form;have er:=J a1.KU;obtain⟨gc,a2⟩:=I (cy.heap.size);have ce:=J (ds.o.alloc (.cells #[.slice Y r c5,.slice none 0 0,.int .i64 0,.int .i64 0] 122));have eh:=J (ah.new cy 122 #[.slice Y r c5,.slice none 0 0,.int .i64 0,.int .i64 0]);have fi:=J (by rw[a2];exact ah.lt ds.o.nL.blk:gr<gc);have fj:=J (by rw[a2];exact ah.lt ds.o.iY:gn<gc);obtain⟨cz,ab⟩:=I (cy.alloc (.cells #[.slice Y r c5,.slice none 0 0,.int .i64 0,.int .i64 0] 122));rw[<-ab,<-a2]at eh;rw[<-ab]at ce;have fk:=J (by rw[ab];exact(R.refl _ cy).alloc _:R (λj=>j=gr) cy cz);have dt:=J (by rw[ab];exact(ed.refl 5 cy).alloc _:ed 5 cy cz);have fl:cz.cell? ⟨gn,0,none⟩=some (.bool false):=by have h:=ce.o.iY.cell 0;rw[<-s.o]at h;exact h
    have d9:=ce.o.iY.cell 2;refine dZ ?_ ab a2 cb a1 cc cX;clear ab a2 cb a1 cc cX;intro ab a2 cb a1 cc cX;obtain⟨cf,cg⟩:∃cf,n.kids[i+1]?=some cf:=by have h:=H.o trivial;have eE:=b4.o;exact⟨_,ak (by omega)⟩
    have eI:n.kids.getD (i+1) 0=cf:=by rw[getD_eq_getElem?_getD,cg];rfl
    have es:(b.drop (p+1+r)).take 3=leB 3 cf:=by have h:=s3.o;rw[eI]at h;simpa[bq]using h
    have cs:cf<256^3:=by have h:=ad.o.jT cf (bu cg);unfold jS at h;omega
    have fm:p+1+r+3<=N:=by have h:=b9.o;simpa[bq]using h
    have et:i+1+1<=1000000:=by have:=F.o;omega
    have b2:Hid (Calls Tryz.prog 180 #[.pointer (some ⟨gr,0,none⟩),.int .i64 3] cz.drew λe w'=>e=.returned (.int .i64 ((cf:Nat):Int))/\fU cz.drew gr A N c b (p+1+r+3) w'):=J (by have h:=eZ cz.drew gr N c (p+1+r) 3 A b ce.o.drew.nL (by omega) (by omega) (by omega) 3 rfl;rw[es,fV,mod_eq_of_lt cs]at h;exact h)
    have b3:=J ce.o.drew;have ei:=J eh.o.drew;have du:=J cg;replace cg:=J cg;replace es:=J es;go_upto_region 10 with(fail)
    rw[<-ab.o,<-a2.o];go_upto_region 12 with(fail)
    go_cut [] (λwx=>∃a7 a8,Hid (GI w gr gn A N c b n i (i+1+1) (p+1+r+3) cv (.slice a7 (i+1+1) a8) wx)/\Hid (ah wx gc 122 #[.slice Y r c5,.slice none 0 0,.int .i64 0,.int .i64 0])/\Hid (ed 5 cz wx))
    case first=>
     go_region_law(first
      |(go_simp;go_at_call 180;refine b2.o.mono ?_;rintro e ep ⟨rfl,af⟩;obtain⟨a7,a8,eq,al,ct,cw,fb,fc,am,bi,V⟩:=x9 b3.o af cf du.o et;have eJ:=J (V _ _ _ ei.o (by decide) (by decide) (by decide));replace af:=J af;replace am:=J am;replace bi:=J bi;replace V:Hid _:=J V)
      |(refine Lib.wp_append_run _ (.tmp 47) (.tmp 50) 113 113 rfl _ _ rfl rfl _ _ al ?_))
     all_goals
      go_wp2_with fail
      go_meet
      case rel=>exact⟨a7,a8,am,eJ,bi⟩
    obtain⟨fn,fp,ej,a3,dv⟩:=hcut;obtain⟨t,eK⟩:=I (wc);subst eK;have W:x.over=0/\x.long=0/\x.val=[]:=by have h:=ao.o;simpa[iK]using h
    have eL:Hid (cN (G5 w.heap.size t) t [.slice Y r c5,.slice none 0 0,.int .i64 0,.int .i64 0] x):=J ⟨Y,c5,none,0,by rw[ap.o,W.1,W.2.1,W.2.2];rfl,by rw[<-ap.o];exact cX.o,by rw[W.2.2];exact aa _,by rw[<-ap.o];exact er.o.keep λk P=>⟨⟨P.1,P.2.choose,dv.o _ _ (dt.o _ _ P.2.choose_spec)⟩,(dv.o _ _ (dt.o _ _ P.2.choose_spec)).trans P.2.choose_spec.symm⟩,by rw[W.2.2];exact Rd.none_⟩
    have ea:Hid ((preB n (i+1)).length=p+1+r+3):=by have h:=eA.o;rw[bq]at h;exact J h
    clear b2 b3 ei du fl d9;have a6:=a3.cell 0;have ge:=a3.cell 1;have gf:=a3.cell 2;have gg:=a3.cell 3;have m1:=ej.o.iY.cell 1;have ch:=J (ej.o.alloc (.cells #[(.slice Y r c5),(.slice none 0 0),(.int .i64 0),(.int .i64 0)] 122));have cY:=ah.new t 122 #[(.slice Y r c5),(.slice none 0 0),(.int .i64 0),(.int .i64 0)];obtain⟨cA,c0,bj,c1⟩:=ch.o.rows;obtain⟨v9,eq,al,ci,cj,cB⟩:=jG (t.alloc (.cells #[(.slice Y r c5),(.slice none 0 0),(.int .i64 0),(.int .i64 0)] 122)) gn cv i cA.flatten bj t.heap.size (.slice Y r c5) (.slice none 0 0) (.int .i64 0) (.int .i64 0) (by intro u eN;simp at eN;rcases eN with rfl|rfl|rfl|rfl<;>rfl) cY 127 (by have:=F.o;omega) (Nat.le_of_lt (ah.lt ch.o.iY));have ck:=ch.o.iY.grown cj (λe=>au bj ch.o.iY (by decide) e.symm);have gh:=ck.frozen 1;have gi:=ck.cell 1;have bs:cN (G5 w.heap.size (t.alloc (.cells #[(.slice Y r c5),(.slice none 0 0),(.int .i64 0),(.int .i64 0)] 122))) (t.alloc (.cells #[(.slice Y r c5),(.slice none 0 0),(.int .i64 0),(.int .i64 0)] 122)) [(.slice Y r c5),(.slice none 0 0),(.int .i64 0),(.int .i64 0)] x:=eL.o.keep λk P=>⟨⟨P.1,P.2.choose,P.2.choose_spec.alloc _⟩,(Below.heap_alloc t _ k (ah.lt P.2.choose_spec))⟩;have eb:Hid (GI w gr gn A N c b n (i+1) (i+1+1) (preB n (i+1)).length v9 (.slice fn (i+1+1) fp) (eq.setCell ⟨gn,1,none⟩ v9)):=J (by rw[ea.o];exact ch.o.cell cj dl.o bs cA c0 bj c1 ci)
    obtain⟨a7,a8,eQ⟩:∃a7 a8,v9=.slice a7 (i+1) a8:=by
     rcases ci.2 with⟨_,gj⟩|⟨g,cap,eR,e,_⟩
     ·omega
     ·exact⟨_,_,e⟩
    subst eQ;refine dr ?_ a3 cY ci cj ck c0 bj c1 bs cB;clear a3 cY ci cj ck c0 bj c1 bs cB;intro a3 cY ci cj ck c0 bj c1 bs cB;go_wp2_with(at_builtin;refine Lib.wpList_append_run _ rfl (.tmp 54) (.tmp 56) 127 127 rfl _ _ rfl rfl _ _ al ?_);go_roundw
    case rel=>exact⟨i+1,_,_,by simp,by omega,eb⟩
    case measure=>simp[intOf];omega
   ·have bl:i=M:=by omega
    have dy:¬(i:Int)<(M:Int):=by omega
    have fr:(M:Int)<=(i:Int):=by omega
    have f6:decide ((i:Int)<(M:Int))=false:=by rw[decide_eq_false_iff_not];omega
    have b9:p<=N:=by rw[a9];exact bp.o i (by omega)
    have Q:=d.o.own (by rw[bl];exact b0.o) (by rw[H.o trivial,bl,b0.o]);have ek:∀{e:TypeId} {size m:Nat} {v:Value} {xs:List Value} {B:Nat},wr.ownsRow B e size v m xs->∃A c,v=.slice A m c:=by
     intro e size m v xs B h;rcases h.2 with⟨rfl,rfl⟩|⟨g,cap,eR,rfl,_⟩
     ·exact⟨none,0,rfl⟩
     ·exact⟨_,_,rfl⟩
    obtain⟨cA,_,c2,_⟩:=Q.rows;obtain⟨y,C,rfl⟩:=ek c2;obtain⟨D,E,rfl⟩:=ek Q.kids;have cl:=Q.gS (G:=Cr wr) (λk _ P=>P);rw[<-s.o]at cl;have cm:=J (mY wr _ n cl ad.o);obtain⟨T,cD⟩:=I (N-p);have a4:RB wr w.heap.size (if c=p then A else A.map (λa=>a.add (p*1))) T (bt T):=by
     have h:=Reads.cut (k:=p) (cap:=c) (co.o.below d.o.dX) b9 ec;rw[cD];have e:b.drop p=bt (N-p):=by have a5:=cp.o;rw[<-bl,<-a9]at a5;have d9:=congrArg List.length a5;rw[aQ,bB.o,ez]at d9;rw[a5,d9]
     unfold RB;rw[<-e];unfold bv at h⊢;rw[map_drop];simpa using h
    have f7:T<=c-p:=by omega
    obtain⟨e0,cn⟩:=I ((if c=p then A else A.map (λa=>a.add (p*1))));rw[<-cn]at a4;refine dr ?_ cm dy a4 cn cD c2 Q cl bl a9;clear cm dy a4 cn cD c2 Q cl bl a9;intro cm dy a4 cn cD c2 Q cl bl a9;have f8:(p:Int)<=(N:Int):=by omega
    have f9:(p:Int)<=(c:Int):=by omega
    rcases aA p c with e1|e1
    ·have fs:(p:Int)<(c:Int):=by omega
     have e2:¬c=p:=by omega
     have a5:e0=Option.map (λx=>x.add p) A:=by rw[cn.o,if_neg e2,Nat.mul_one]
     have c3:T<=(c-p):=by have:=cD.o;omega
     have eE:T<=10000000:=by have:=cD.o;omega
     have dT:=cD.o;have d0:Hid (∀l,Below wr.heap.size wr l->Calls Tryz.prog 183 #[.slice (Option.map (λx=>x.add p) A) (N-p) (c-p),.string { data:=#[0] }] l λe w'=>e=.returned (.slice none 0 0)/\∃q,w'=l.drewN q):=J λl c7=>by have h:=RB.below a4.o (c7.mono d.o.dX.size);have e3:=oM l w.heap.size T (c-p) e0 h c3 eE;rw[a5,dT]at e3;exact e3
     replace a5:=J a5;replace dT:=J dT;have ev:∀l:World,(binOp .neq 23 (.slice none 0 0) (.slice none 0 0)).run Tryz.prog l=.ok (.bool false) l:=λl=>by kernel_rfl
     go_wp2_with(first
      |(go_at_call 120;refine cm.o.o.mono ?_;rintro e t ⟨rfl,f⟩;(have ft:=(d.o.nL.only (R.ag (S:=λ_=>False) f) (λh=>h) (λ_ _ h=>h)).blk.cell 0);(have fv:=(d.o.nL.only (R.ag (S:=λ_=>False) f) (λh=>h) (λ_ _ h=>h)).blk.cell 1);
        (have z0:t.cell? ⟨gn,0,none⟩=some (.bool false):=(f.cell (p:=⟨gn,0,none⟩) (ah.lt d.o.iY)).trans c8);(have fx:=(d.o.iY.below f (ah.lt d.o.iY)).cell 1);(have fy:=(d.o.iY.below f (ah.lt d.o.iY)).cell 2);
        (have L:=d.o.res.below f (ah.lt d.o.res));(have fz:=L.cell 0);(have fA:=L.cell 1);(have fX:=L.cell 2);(have u0:=L.frozen 0);(have u1:=L.frozen 1);(have u2:=L.frozen 2);
        replace L:=J L;replace f:=J f)
      |(go_at_call 183;refine(d0.o _ f.o).mono ?_;rintro e ep ⟨rfl,nq,rfl⟩))
     have V:Below w.heap.size w ((((t.drewN nq).setCell ⟨w.heap.size,0,none⟩ (.bool false)).setCell ⟨w.heap.size,1,none⟩ (.slice y n.cells.length C)).setCell ⟨w.heap.size,2,none⟩ (.slice D n.kids.length E)):=((((below_drewN (d.o.dX.trans (f.o.mono d.o.dX.size)) nq).setCell (p:=⟨w.heap.size,0,none⟩) (aa _) _).setCell (p:=⟨w.heap.size,1,none⟩) (aa _) _).setCell (p:=⟨w.heap.size,2,none⟩) (aa _) _)
     have bx:dK ((((t.drewN nq).setCell ⟨w.heap.size,0,none⟩ (.bool false)).setCell ⟨w.heap.size,1,none⟩ (.slice y n.cells.length C)).setCell ⟨w.heap.size,2,none⟩ (.slice D n.kids.length E)) w.heap.size (.slice y n.cells.length C) (.slice D n.kids.length E) n:=by
      have a5:R (λj=>j=w.heap.size) wr ((((t.drewN nq).setCell ⟨w.heap.size,0,none⟩ (.bool false)).setCell ⟨w.heap.size,1,none⟩ (.slice y n.cells.length C)).setCell ⟨w.heap.size,2,none⟩ (.slice D n.kids.length E)):=(((((R.ag (S:=λj=>j=w.heap.size) f.o).drewN nq).setCell (p:=⟨w.heap.size,0,none⟩) (λ_=>rfl) _).setCell (p:=⟨w.heap.size,1,none⟩) (λ_=>rfl) _).setCell (p:=⟨w.heap.size,2,none⟩) (λ_=>rfl) _)
      exact Q.o.only a5 λk P=>by subst P;exact⟨_,_,d.o.res,by decide,by decide,by decide⟩
     have cE:Hid (nW w n (.returned (.tuple #[.agg #[.bool false,.slice y n.cells.length C,.slice D n.kids.length E],.int .i64 0])) _):=J ⟨.slice y n.cells.length C,.slice D n.kids.length E,by rw[<-s.o],bx,V⟩;refine bodyPost_ret (v:=.tuple #[.agg #[.bool false,.slice y n.cells.length C,.slice D n.kids.length E],.int .i64 0]) ?_ rfl cE.o;have X:=(((L.o.drewN nq).aK 0 (.bool false)).aK 1 (.slice y n.cells.length C)).aK 2 (.slice D n.kids.length E);obtain⟨cH,d1⟩:=I (((((t.drewN nq).setCell ⟨w.heap.size,0,none⟩ (.bool false)).setCell ⟨w.heap.size,1,none⟩ (.slice y n.cells.length C)).setCell ⟨w.heap.size,2,none⟩ (.slice D n.kids.length E)));rw[<-d1]at X⊢;have d2:=X.cell 0;have ct:=X.cell 1;have cw:=X.cell 2;have d3:cH.cell? ⟨w.heap.size,0,none⟩=some (.bool false):=d2;have d4:cH.cell? ⟨w.heap.size,1,none⟩=some (.slice y n.cells.length C):=ct;have d5:cH.cell? ⟨w.heap.size,2,none⟩=some (.slice D n.kids.length E):=cw;clear d2 ct cw;simp[results,Tryz.results123,go_sem,d3,d4,d5]
    ·have e4:N=p/\c=p:=by omega
     obtain⟨e5,e6⟩:=e4;have d0:Hid (∀l:World,Below wr.heap.size wr l->Calls Tryz.prog 183 #[.slice A 0 0,.string { data:=#[0] }] l λe w'=>e=.returned (.slice none 0 0)/\∃q,w'=l.drewN q):=J λl c7=>oM l 0 0 0 A ⟨by simp[bv,bt],λh=>absurd h (by omega)⟩ (by omega) (by omega);subst e5;subst e6;have ev:∀l:World,(binOp .neq 23 (.slice none 0 0) (.slice none 0 0)).run Tryz.prog l=.ok (.bool false) l:=λl=>by kernel_rfl
     go_wp2_with(first
      |(go_at_call 120;refine cm.o.o.mono ?_;rintro e t ⟨rfl,f⟩;(have ft:=(d.o.nL.only (R.ag (S:=λ_=>False) f) (λh=>h) (λ_ _ h=>h)).blk.cell 0);(have fv:=(d.o.nL.only (R.ag (S:=λ_=>False) f) (λh=>h) (λ_ _ h=>h)).blk.cell 1);
        (have z0:t.cell? ⟨gn,0,none⟩=some (.bool false):=(f.cell (p:=⟨gn,0,none⟩) (ah.lt d.o.iY)).trans c8);(have fx:=(d.o.iY.below f (ah.lt d.o.iY)).cell 1);(have fy:=(d.o.iY.below f (ah.lt d.o.iY)).cell 2);
        (have L:=d.o.res.below f (ah.lt d.o.res));(have fz:=L.cell 0);(have fA:=L.cell 1);(have fX:=L.cell 2);(have u0:=L.frozen 0);(have u1:=L.frozen 1);(have u2:=L.frozen 2);
        replace L:=J L;replace f:=J f)
      |(go_at_call 183;refine(d0.o _ f.o).mono ?_;rintro e ep ⟨rfl,nq,rfl⟩))
     have V:Below w.heap.size w ((((t.drewN nq).setCell ⟨w.heap.size,0,none⟩ (.bool false)).setCell ⟨w.heap.size,1,none⟩ (.slice y n.cells.length C)).setCell ⟨w.heap.size,2,none⟩ (.slice D n.kids.length E)):=((((below_drewN (d.o.dX.trans (f.o.mono d.o.dX.size)) nq).setCell (p:=⟨w.heap.size,0,none⟩) (aa _) _).setCell (p:=⟨w.heap.size,1,none⟩) (aa _) _).setCell (p:=⟨w.heap.size,2,none⟩) (aa _) _)
     have bx:dK ((((t.drewN nq).setCell ⟨w.heap.size,0,none⟩ (.bool false)).setCell ⟨w.heap.size,1,none⟩ (.slice y n.cells.length C)).setCell ⟨w.heap.size,2,none⟩ (.slice D n.kids.length E)) w.heap.size (.slice y n.cells.length C) (.slice D n.kids.length E) n:=by
      have a5:R (λj=>j=w.heap.size) wr ((((t.drewN nq).setCell ⟨w.heap.size,0,none⟩ (.bool false)).setCell ⟨w.heap.size,1,none⟩ (.slice y n.cells.length C)).setCell ⟨w.heap.size,2,none⟩ (.slice D n.kids.length E)):=(((((R.ag (S:=λj=>j=w.heap.size) f.o).drewN nq).setCell (p:=⟨w.heap.size,0,none⟩) (λ_=>rfl) _).setCell (p:=⟨w.heap.size,1,none⟩) (λ_=>rfl) _).setCell (p:=⟨w.heap.size,2,none⟩) (λ_=>rfl) _)
      exact Q.o.only a5 λk P=>by subst P;exact⟨_,_,d.o.res,by decide,by decide,by decide⟩
     have cE:Hid (nW w n (.returned (.tuple #[.agg #[.bool false,.slice y n.cells.length C,.slice D n.kids.length E],.int .i64 0])) _):=J ⟨.slice y n.cells.length C,.slice D n.kids.length E,by rw[<-s.o],bx,V⟩;refine bodyPost_ret (v:=.tuple #[.agg #[.bool false,.slice y n.cells.length C,.slice D n.kids.length E],.int .i64 0]) ?_ rfl cE.o;have X:=(((L.o.drewN nq).aK 0 (.bool false)).aK 1 (.slice y n.cells.length C)).aK 2 (.slice D n.kids.length E);obtain⟨cH,d1⟩:=I (((((t.drewN nq).setCell ⟨w.heap.size,0,none⟩ (.bool false)).setCell ⟨w.heap.size,1,none⟩ (.slice y n.cells.length C)).setCell ⟨w.heap.size,2,none⟩ (.slice D n.kids.length E)));rw[<-d1]at X⊢;have d2:=X.cell 0;have ct:=X.cell 1;have cw:=X.cell 2;have d3:cH.cell? ⟨w.heap.size,0,none⟩=some (.bool false):=d2;have d4:cH.cell? ⟨w.heap.size,1,none⟩=some (.slice y n.cells.length C):=ct;have d5:cH.cell? ⟨w.heap.size,2,none⟩=some (.slice D n.kids.length E):=cw;clear d2 ct cw;simp[results,Tryz.results123,go_sem,d3,d4,d5]
theorem Jh(w:World)(A:Option Addr)(N c:Nat)(n:aj)(z:Nat)(d:bJ n)(e:RB w w.heap.size A N (dJ n++bt z))(a:N<=c)(f:N<=100000):Calls Tryz.prog 123 #[.slice A N c] w (nW w n):=by
 cases h:n.leaf with
 |true=>exact FE w A N c n z d h e a f
 |false=>exact Dy w A N c n z d h e a f
end
section
open Go.RowKit Go.Maps
structure aL (w:World) (F:Nat->Prop) (gt gp k:Nat):Prop where
 blk:ah w gt 119 #[.pointer (some ⟨gp,0,none⟩),.int .i64 (k:Int)]
 o:¬F gt
theorem aL.ev{w w':World}{F a:Nat->Prop}{gt d k:Nat}(h:aL w F gt d k)(e:Ev F w a w'):aL w' a gt d k:=⟨e.blk h.blk h.o,e.new h.o (ah.lt h.blk)⟩
theorem FH(w:World)(a k:Nat)(g:k<8):Calls Tryz.prog 18 #[.pointer (some ⟨a,0,none⟩),.int .i64 (k:Int)] w λe w'=>e=.returned (.tuple #[.pointer (some ⟨w.heap.size,0,none⟩),.int .i64 0])/\w'=w.alloc (.cells #[.pointer (some ⟨a,0,none⟩),.int .i64 (k:Int)] 119):=by
 have d:(k:Int)<8:=by omega
 have f:(0:Int)<=(k:Int):=by omega
 go_enter Tryz.func18,Tryz.ntmps18;go_wp2_with fail
 go_ret2
 exact⟨rfl,rfl⟩
def wi(F:Nat->Prop)(w:World)(f:Nat)(st:aB)(n:aj)(e:Ending)(w':World):Prop:=∃a cv kv d,e=.returned (.tuple #[.agg #[.bool n.leaf,cv,kv],.int .i64 0])/\ar w' a f st/\Ev F w a w'/\(∀j,a j->j<d)/\w.heap.size<=d/\dK w' d cv kv n
theorem dz(w:World)(F:Nat->Prop)(gt T k:Nat)(st:aB)(h:ar w F T st)(V:aL w F gt T k)(no:Nat)(n:aj)(X:bS st no n):Calls Tryz.prog 78 #[.pointer (some ⟨gt,0,none⟩),.int .i64 (no:Int)] w (wi F w T st n):=by
 have bc:=ah.lt V.blk;have Y:=(Below.refl w.heap.size w).alloc (aa _) (.cells #[.bool false,.slice none 0 0,.slice none 0 0] 129);have L:=h.alloc (.cells #[.bool false,.slice none 0 0,.slice none 0 0] 129);have M:=ah.new w 129 #[.bool false,.slice none 0 0,.slice none 0 0];have t0:w.cell? ⟨gt,0,none⟩=some (.pointer (some ⟨T,0,none⟩)):=V.blk.cell 0;have ab:=J (ye _ F T st L no X.1);have O:=h.lt;obtain⟨d,z,l⟩:=X.2;obtain⟨u,x⟩:=I (n.leaf);unfold wi;rw[<-x];refine dr ?_ h V X L M Y l d O x;clear h V X L M Y l d O x;intro h V X L M Y l d O x;go_enter Tryz.func78,Tryz.ntmps78;go_wp2_with fail;refine ab.o.mono ?_;rintro e a0 ⟨al,a4,a5,rfl,a1,y,r,P⟩;have C:=P.rb;rw[l.o]at C;have ac:=J (Jh a0 a4 508 a5 n z d.o C a1 (by omega));have ad:¬F w.heap.size:=λa6=>by have:=O.o _ a6;omega
 have ae:=J (r.blk M.o ad);refine bz ?_ y r P C;clear y r P C;intro y r P C;go_wp2_with fail;refine ac.o.mono ?_;rintro e U ⟨cv,kv,rfl,s,t⟩;rw[<-x.o];have a:=ae.o.below t (ah.lt ae.o);have be:=a.frozen 0;have bi:=a.frozen 1;have bj:=a.frozen 2;have bl:=a.cell 0;have bm:=a.cell 1;have bp:=a.cell 2;have af:∀{e:TypeId} {size m:Nat} {v:Value} {xs:List Value} {B:Nat},U.ownsRow B e size v m xs->∃A c,v=.slice A m c:=by
  intro e size m v xs B h;rcases h.2 with⟨rfl,rfl⟩|⟨g,cap,bd,rfl,_⟩
  ·exact⟨none,0,rfl⟩
  ·exact⟨_,_,rfl⟩
 obtain⟨a7,_,Q,_⟩:=s.rows;obtain⟨E,G,rfl⟩:=af Q;obtain⟨H,K,rfl⟩:=af s.kids;have S:=r.o.below t;have D:Ev F w al U:=(((Ev.refl F w).az (.cells #[.bool false,.slice none 0 0,.slice none 0 0] 129)).trans S);have am:Hid (∀W,W=(((U.setCell ⟨w.heap.size,0,none⟩ (.bool u)).setCell ⟨w.heap.size,1,none⟩ (.slice E n.cells.length G)).setCell ⟨w.heap.size,2,none⟩ (.slice H n.kids.length K))->∃an cv kv ao,Ending.returned (.tuple #[.agg #[.bool u,.slice E n.cells.length G,.slice H n.kids.length K],.int .i64 0])=Ending.returned (.tuple #[.agg #[.bool u,cv,kv],.int .i64 0])/\ar W an T st/\Ev F w an W/\(∀j,an j->j<ao)/\w.heap.size<=ao/\dK W ao cv kv n):=J (by
  rintro W rfl;have Z:¬al w.heap.size:=r.o.new ad (by simp);have a2:R (λj=>j=w.heap.size) U _:=(((R.refl (λj=>j=w.heap.size) U).setCell (p:=⟨w.heap.size,0,none⟩) (λ_=>rfl) (.bool u)).setCell (p:=⟨w.heap.size,1,none⟩) (λ_=>rfl) (.slice E n.cells.length G)).setCell (p:=⟨w.heap.size,2,none⟩) (λ_=>rfl) (.slice H n.kids.length K);refine⟨al,_,_,a0.heap.size,rfl,?_,?_,y.o.lt,?_,s.only a2 λj a8=>by subst a8;exact⟨_,_,a,by decide,by decide,by decide⟩⟩
  ·exact(((y.o.below t).aK (p:=⟨w.heap.size,0,none⟩) Z _).aK (p:=⟨w.heap.size,1,none⟩) Z _).aK (p:=⟨w.heap.size,2,none⟩) Z _
  ·exact⟨D.only.trans a2 (λi br e=>by omega),D.grow⟩
  ·have:=r.o.size;simp at this;omega)
 have f:=((a.aK 0 (.bool u)).aK 1 (.slice E n.cells.length G)).aK 2 (.slice H n.kids.length K);refine eD ?_ a s t S D Q f;clear a s t S D Q f;intro a s t S D Q f;clear ac ab;go_wp2_with fail;refine bodyPost_ret (v:=.tuple #[.agg #[.bool u,.slice E n.cells.length G,.slice H n.kids.length K],.int .i64 0]) ?_ rfl (am.o _ rfl);have f:=f.o;obtain⟨ap,a3⟩:=I ((((U.setCell ⟨w.heap.size,0,none⟩ (.bool u)).setCell ⟨w.heap.size,1,none⟩ (.slice E n.cells.length G)).setCell ⟨w.heap.size,2,none⟩ (.slice H n.kids.length K)));rw[<-a3]at f⊢;have a9:ap.cell? ⟨w.heap.size,0,none⟩=some (.bool u):=f.cell 0;have ba:ap.cell? ⟨w.heap.size,1,none⟩=some (.slice E n.cells.length G):=f.cell 1;have bb:ap.cell? ⟨w.heap.size,2,none⟩=some (.slice H n.kids.length K):=f.cell 2;simp[results,Tryz.results78,go_sem,a9,ba,bb]
theorem bI.old{G:Nat->Prop}{w:World}{v:Value}{n:aj}(h:bI G w v n)(a:∀k,G k->k<w.heap.size):bI (Cr w) w v n:=h.mono a
theorem lp(w:World)(F:Nat->Prop)(gt u k:Nat)(st:aB)(h:ar w F u st)(y:aL w F gt u k)(no:Nat)(n:aj)(v:Value)(x:bI (bF F w) w v n)(l:dh st no n):Calls Tryz.prog 103 #[.pointer (some ⟨gt,0,none⟩),.int .i64 (no:Int),v] w (cG F w u (aY st no n) (.int .i64 0)):=by
 obtain⟨A,c,B,d,rfl⟩:=x.box;obtain⟨O,m⟩:=I (n.leaf);obtain⟨M,D⟩:=I (n.cells.length);obtain⟨K,E⟩:=I (n.kids.length);rw[<-m,<-D,<-E]at x⊢;have f:=(Below.refl w.heap.size w).alloc (aa _) (.cells #[.bool O,.slice A M c,.slice B K d] 129);have P:=J (Fy _ _ n ((x.old λk U=>U.1).below f) l.2.1 l.2.2);have t0:w.cell? ⟨gt,0,none⟩=some (.pointer (some ⟨u,0,none⟩)):=y.blk.cell 0;have Q:=ah.lt y.blk;have r:=h.alloc (.cells #[.bool O,.slice A M c,.slice B K d] 129);have H:(dJ n).length<=508:=by rw[fN];exact l.2.2
 refine ik ?_ h y x m D E r f l;clear h y x m D E r f l;intro h y x m D E r f l;go_enter Tryz.func103,Tryz.ntmps103;go_wp2_with fail;refine P.o.mono ?_;rintro e S ⟨Y,rfl,g,j⟩;have s:=r.o.below j;have a:=f.o.trans (j.mono f.o.size);obtain⟨L,G⟩:=I ((dJ n).length);rw[<-G]at g H;obtain⟨V,W,rfl,t,_⟩:=g.form;have T:=J (uo S F u st s no l.o.1 V L W (dJ n) t H);have Z:S.cell? ⟨gt,0,none⟩=some (.pointer (some ⟨u,0,none⟩)):=(a.cell (p:=⟨gt,0,none⟩) Q).trans t0;refine dZ ?_ G g j s t a;clear G g j s t a;intro G g j s t a;go_wp2_with fail;refine T.o.mono ?_;rintro e ab ⟨rfl,X,z,C⟩;replace z:=J z;replace C:=J C;go_wp2_with fail;go_ret;exact⟨rfl,X,z.o,(Ev.ag a.o).trans C.o⟩
theorem oN(w:World)(F:Nat->Prop)(gt x k:Nat)(st:aB)(h:ar w F x st)(y:aL w F gt x k)(n:aj)(v:Value)(z:bI (bF F w) w v n)(U:dU st)(P:st.free<st.many)(C:dh (aW st) (aG st) n):Calls Tryz.prog 56 #[.pointer (some ⟨gt,0,none⟩),v] w (cG F w x (aY (aW st) (aG st) n) (.tuple #[.int .i64 (aG st:Int),.int .i64 0])):=by
 obtain⟨A,c,B,d,rfl⟩:=z.box;obtain⟨Q,j⟩:=I (n.leaf);obtain⟨M,L⟩:=I (n.cells.length);obtain⟨K,O⟩:=I (n.kids.length);rw[<-j,<-L,<-O]at z⊢;have f:Ev F w F (w.alloc (.cells #[.bool Q,.slice A M c,.slice B K d] 129)):=(Ev.refl F w).az _;have l:=ah.new w 129 #[.bool Q,.slice A M c,.slice B K d];have D:=h.lt;have S:¬F w.heap.size:=λP=>by have:=D _ P;omega
 have t0:w.cell? ⟨gt,0,none⟩=some (.pointer (some ⟨x,0,none⟩)):=y.blk.cell 0;have Y:=ah.lt y.blk;have m:=h.alloc (.cells #[.bool Q,.slice A M c,.slice B K d] 129);have E:=J (uq _ F x st m U P);have r:=y.ev f;have s:=z.ev f;obtain⟨no,t⟩:=I (aG st);unfold jW at E;rw[<-t]at C E⊢;refine aR ?_ h y z j L O m f C t l r s;clear h y z j L O m f C t l r s;intro h y z j L O m f C t l r s;replace D:=J D;go_enter Tryz.func56,Tryz.ntmps56;go_wp2_with fail;refine E.o.mono ?_;rintro e V ⟨rfl,W,u,a⟩;have g:=a.blk l.o S;have Z:=g.cell 0;have ab:=g.cell 1;have ac:=g.cell 2;have T:=J (lp V W gt x k (aW st) u (r.o.ev a) no n _ (s.o.ev a) C.o);refine bf ?_ u a g;clear u a g;intro u a g;go_wp2_with fail;refine T.o.mono ?_;rintro e ad ⟨rfl,X,G,H⟩;replace G:=J G;replace H:=J H;go_wp2_with fail
 go_ret2
 exact⟨rfl,X,G.o,(f.o.trans a.o).trans H.o⟩
theorem FI(w:World)(F:Nat->Prop)(gt a k:Nat)(st:aB)(h:ar w F a st)(e:aL w F gt a k)(no:Nat)(n:aj)(f:bS st no n)(d:n.leaf=true):Calls Tryz.prog 78 #[.pointer (some ⟨gt,0,none⟩),.int .i64 (no:Int)] w (wi F w a st n):=dz w F gt a k st h e no n f
end
section
open Go.RowKit
def oO(G:Nat->Prop)(w:World)(v:Value)(a:aF):Prop:=∃A n c,v=.slice A n c/\n=a.length/\Rd G w 1 A n (bv a)
def Kk(G:Nat->Prop)(w:World)(v:Value)(d:Option aF):Prop:=
 match d with
 |none=>v=.slice none 0 0
 |some t=>∃a n c,v=.slice (some a) n c/\n=t.length/\Rd G w 1 (some a) n (bv t)
theorem oO.ev{F a:Nat->Prop}{w w':World}{v:Value}{d:aF}(h:oO (bF F w) w v d)(f:Ev F w a w'):oO (bF a w') w' v d:=by obtain⟨A,n,c,e,g,j⟩:=h;exact⟨A,n,c,e,g,j.ev f⟩
theorem Kk.ev{F d:Nat->Prop}{w w':World}{v:Value}{a:Option aF}(h:Kk (bF F w) w v a)(f:Ev F w d w'):Kk (bF d w') w' v a:=by
 cases a with
 |none=>exact h
 |some t=>
  obtain⟨g,n,c,e,j,k⟩:=h
  exact⟨g,n,c,e,j,k.ev f⟩
theorem qK(w:World)(a:Option Addr)(n c:Nat):(binOp .neq 23 (.slice a n c) (.slice none 0 0)).run Tryz.prog w=.ok (.bool (!a.isNone)) w:=by simp only[binOp];simp[Op.equal,Op.maxDepth,Lib.run_equalIn_slice_nil w 9999 23 5 a n c 0 0 Tryz.underlying23]
theorem KX{a x:aF}{d:Option aF}(h:rl a d x):decide (Lib.compareBytes x a<0)=false:=by rw[Am,h.1]
theorem KZ{a x t:aF}(h:rl a (some t) x):decide (0<=Lib.compareBytes x t)=false:=by rw[Al,h.2 t rfl];rfl
theorem FJ(w:World)(F:Nat->Prop)(b6 H:Nat)(b1:ah w b6 3 #[.int .i64 (H:Int)]) (no deep:Nat) (n:aj) (v ch b7:Value) (ab:aF) (b2:Option aF) (bc:bI (bF F w) w v n) (bj:bJ n) (cy:aC n<=100000) (m:n.leaf=decide (deep=H))(r:1<deep->127<=aC n) (af:n.cells≠[]) (s:∀c∈n.cells,rl ab b2 c.key) (cz:oO (bF F w) w ch ab) (bl:Kk (bF F w) w b7 b2) (dd:deep<=100000):Calls Tryz.prog 76 #[.int .i64 (no:Int),.int .i64 (deep:Int),v,ch,b7,.pointer (some ⟨b6,0,none⟩)] w λe w'=>e=.returned (.int .i64 0)/\Below w.heap.size w w':=by
 obtain⟨A,c,B,d,rfl,ci,cj,Q,al⟩:=bc;have bc:bI (bF F w) w (.agg #[.bool n.leaf,.slice A n.cells.length c,.slice B n.kids.length d]) n:=⟨A,c,B,d,rfl,ci,cj,Q,al⟩;obtain⟨b8,fl,cA,rfl,bm,am⟩:=cz;obtain⟨N,S⟩:=I (n.cells.length);obtain⟨K,bp⟩:=I (n.kids.length);obtain⟨T,C⟩:=I (n.leaf);obtain⟨Z,bd⟩:=I (aC n);have cw:0<N:=by rw[S];exact length_pos_iff.2 af
 have c7:((N:Int)==0)=false:=by rw[aZ];omega
 have c8:(N:Int)<=65536:=by have:=bj.many;omega
 rw[<-S]at ci;have c9:(N:Int)<=(c:Int):=by omega
 obtain⟨o,b3⟩:=I (Obj.cells #[.bool T,.slice A N c,.slice B K d] 129 (0,0));obtain⟨W,ac⟩:=I (w.alloc o);have U:Ev F w F W:=by rw[ac];exact(Ev.refl F w).az o
 have br:Below w.heap.size w W:=by rw[ac];exact(Below.refl _ _).alloc (aa _) o
 have a:ah W w.heap.size 129 #[.bool T,.slice A N c,.slice B K d]:=by rw[ac,b3];exact ah.new w 129 _
 have an:ah W b6 3 #[.int .i64 (H:Int)]:=by rw[ac];exact b1.alloc o
 have ao:=J (gQ W _ n ((bc.ev U).old λk ad=>ad.1) bj cy);rw[<-C,<-S,<-bp,<-bd]at ao;have G:=Q.keep (G':=bF F W) (w':=W) λk ad=>⟨U.mine ad,U.block ad⟩;have L:Rd (bF F W) W 1 b8 fl (bv ab):=am.ev U;have ap:=bl.ev U;have cB:=a.cell 0;have cD:=a.cell 1;have cE:=a.cell 2;have cH:=an.cell 0;have M:T=decide (deep=H):=C.trans m;have da:((deep:Int)==(H:Int))=T:=by
  rw[M];by_cases ck:deep=H
  ·subst ck;simp
  ·rw[aD ck,aZ];omega
 have cK:(T !=T)=false:=by cases T<;>rfl
 rw[<-C,<-S,<-bp];refine aR ?_ bd S bp C M Q al bc b1 bj U br a;clear bd S bp C M Q al bc b1 bj U br a;intro bd S bp C M Q al bc b1 bj U br a;refine dr ?_ an G L ap am bl s bm m af;clear an G L ap am bl s bm m af;intro an G L ap am bl s bm m af;have cl:w.alloc (.cells #[.bool T,.slice A N c,.slice B K d] 129)=W:=by rw[ac,b3]
 replace ac:=J ac;replace b3:=J b3;replace r:Hid _:=J r;go_enter Tryz.func76,Tryz.ntmps76;go_upto_region 1 with(fail)
 clear cl;go_cut [34] (λcm wx=>cm=.bool false/\Hid (Below W.heap.size W wx))
 case first=>
  by_cases a0:1<deep
  ·have hd1:decide (1<(deep:Int))=true:=aV (by omega);have b9:decide (1<deep)=true:=aV a0;have cx:decide ((Z:Int)<127)=false:=aD (by have:=r.o a0;have:=bd.o;omega);have cn:decide (Z<127)=false:=aD (by have:=r.o a0;have:=bd.o;omega);go_wp2_with fail;go_at_call 77;refine ao.o.mono ?_;rintro e de ⟨rfl,D⟩;have g:=a.o.below D (ah.lt a.o);have m1:=g.cell 1;have ae:=J D;replace g:=J g;clear D ao;go_wp2_with fail
   go_meet
   case rel=>exact⟨rfl,ae⟩
  ·have hd1:decide (1<(deep:Int))=false:=aD (by omega);have b9:decide (1<deep)=false:=aD a0;have ae:=J (Below.refl _ _:Below W.heap.size W W);go_wp2_with fail
   go_meet
   case rel=>exact⟨rfl,ae⟩
 case rest=>
  obtain⟨rfl,D⟩:=hcut;have g:=a.o.below D.o (ah.lt a.o);have m1:=g.cell 1;replace g:=J g;clear cB cD cE cH ao;go_wp2_with fail;go_loopw [38] (λbs wx=>∃i:Nat,bs=.int .i64 (i:Int)/\i<=N/\Hid (Below W.heap.size W wx)) (λbs _=>N-(intOf bs).toNat)
  case atStart=>exact⟨0,rfl,by omega,D⟩
  case round=>
   obtain⟨i,rfl,db,a1⟩:=hrel;clear g m1;by_cases co:i<N
   ·have a2:i<n.cells.length:=by rw[<-S.o];exact co
    have u:Ev F W F wr:=Ev.ag a1.o;have O:=G.o.keep (G':=bF F wr) (w':=wr) λk ad=>⟨u.mine ad,u.block ad⟩;obtain⟨dj,be,ca,bx,cb,rfl,P⟩:=O.at_ i a2;obtain⟨x,bA⟩:=I (n.cells[i]);have j:rl ab b2 x.key:=by rw[bA];exact s.o _ (getElem_mem a2)
    rw[<-bA]at P;have cL:=P.c0;have cM:=P.c1;have cP:=P.c2;have cS:=P.c3;obtain⟨bi,a3⟩:=I (x.key.length);obtain⟨cc,a4⟩:=I (x.val.length);obtain⟨ce,a5⟩:=I (x.over);obtain⟨cf,a6⟩:=I (x.long);have V:=P.key;rw[<-a3]at cL V;rw[<-a4]at cM;rw[<-a5]at cP;rw[<-a6]at cS;obtain⟨cV,X⟩:=I (Obj.cells #[.slice be bi bx,.slice ca cc cb,.int .i64 (ce:Int),.int .i64 (cf:Int)] 122 (0,0));obtain⟨f,y⟩:=I (wr.alloc cV);have E:Ev F wr F f:=by rw[y];exact(Ev.refl F wr).az _
    have a7:Below W.heap.size W f:=by rw[y];exact a1.o.alloc a1.o.size _
    have a8:ah f wr.heap.size 122 #[.slice be bi bx,.slice ca cc cb,.int .i64 (ce:Int),.int .i64 (cf:Int)]:=by rw[y,X];exact ah.new wr 122 _
    have l:Rd (bF F f) f 1 be bi (bv x.key):=V.ev E;have a9:Rd (bF F f) f 1 b8 fl (bv ab):=(L.o.ev u).ev E;have ba:=(ap.o.ev u).ev E;have bB:=J (mX f f.heap.size f.heap.size be b8 bi bx fl cA x.key ab l.qh a9.qh);obtain⟨cX,Y⟩:=I (Lib.compareBytes x.key ab);have cY:¬cX<0:=by have:=KX j;rw[<-Y]at this;simpa using this
    rw[<-Y]at bB;have dk:=a8.cell 0;have hrel:Hid (Below W.heap.size W f):=J a7;have c4:wr.alloc (.cells #[.slice be bi bx,.slice ca cc cb,.int .i64 (ce:Int),.int .i64 (cf:Int)] 122)=f:=by rw[y,X]
    have dc:(i:Int)<(N:Int):=by omega
    refine aR ?_ Y u O P bA V a3 a4 a5 a6 X y E;clear Y u O P bA V a3 a4 a5 a6 X y E;intro Y u O P bA V a3 a4 a5 a6 X y E;refine bf ?_ a7 a8 a9;clear a7 a8 a9;intro a7 a8 a9;replace a2:=J a2;cases b2 with
    |none=>
     obtain rfl:b7=.slice none 0 0:=bl.o
     have cg:=λwx=>qK wx none 0 0
     refine bf ?_ ba l j
     clear ba l j
     intro ba l j
     go_wp2_with fail
     go_at_call 69
     refine bB.o.mono ?_
     rintro e c5 ⟨rfl,rfl⟩
     go_wp2_with fail
     go_roundw
     case rel=>exact⟨i+1,by go_num,by omega,hrel⟩
     case measure=>simp only[intOf];omega
    |some t=>
     obtain⟨cp,cr,cs,rfl,b0,bb⟩:=ba
     have b5:=J (mX f f.heap.size f.heap.size be (some cp) bi bx cr cs x.key t l.qh bb.qh)
     obtain⟨ct,z⟩:=I (Lib.compareBytes x.key t)
     have c6:¬0<=ct:=by have:=KZ j;rw[<-z]at this;simpa using this
     rw[<-z]at b5
     have cg:=λwx=>qK wx (some cp) cr cs
     refine bX ?_ z b0 bb l j
     clear z b0 bb l j
     intro z b0 bb l j
     go_wp2_with fail
     go_at_call 69
     refine bB.o.mono ?_
     rintro e c5 ⟨rfl,rfl⟩
     go_wp2_with fail
     go_at_call 69
     refine b5.o.mono ?_
     rintro e dl ⟨rfl,rfl⟩
     go_wp2_with fail
     go_roundw
     case rel=>exact⟨i+1,by go_num,by omega,hrel⟩
     case measure=>simp only[intOf];omega
   ·obtain rfl:i=N:=by omega
    have b4:=J (br.o.trans (a1.o.mono br.o.size));go_wp2_with fail;go_ret;exact⟨rfl,b4.o⟩
end
end Go.Proofs.YtajdeapdgbnahaaGreatDoor
