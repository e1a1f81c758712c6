/-
  Contract of (*Cat).enter.
-/
import Derived.Test.YtajdeapdgbnahaaGreatDoorCyGr30
import Derived.Test.YtajdeapdgbnahaaGreatDoorCyGr26
namespace Go.Proofs.YtajdeapdgbnahaaGreatDoor
set_option linter.unusedVariables false
set_option maxRecDepth 100000
set_option maxHeartbeats 2000000
open Go.RowKit
def mn(st:aB)(k:Nat)(key b:List UInt8)(st':aB):Prop:=
 ∀(w:World) (F:Nat->Prop) (gt a:Nat) (c d:Option Addr) (e f:Nat),ar w F a st->aL w F gt a k->MB F w c key.length key->MB F w d b.length b->
  Calls Tryz.prog 22 #[.pointer (some ⟨gt,0,none⟩),.slice c key.length e,.slice d b.length f] w (cG F w a st' (.int .i64 0))
structure fD (w:World) (F:Nat->Prop) (gc gp:Nat) (ts:Nat->Nat):Prop where
 blk:ah w gc 69 #[.pointer (some ⟨gp,0,none⟩),.pointer (some ⟨ts 0,0,none⟩),.pointer (some ⟨ts 1,0,none⟩),.pointer (some ⟨ts 2,0,none⟩),.pointer (some ⟨ts 3,0,none⟩),.pointer (some ⟨ts 4,0,none⟩),.pointer (some ⟨ts 5,0,none⟩),.pointer (some ⟨ts 6,0,none⟩)]
 o:¬F gc
 tree:∀k,k<7->aL w F (ts k) gp k
theorem iF.ev{w w':World}{F c:Nat->Prop}(h:iF w)(a:Ev F w c w')(d:¬F 2):iF w':=by obtain⟨b,m,e⟩:=h;exact⟨aN b a.size,m,(a.cell (p:=⟨2,0,none⟩) ⟨b,d⟩).trans e⟩
theorem fD.ev{w w':World}{F b:Nat->Prop}{gc c:Nat}{d:Nat->Nat}(h:fD w F gc c d)(a:Ev F w b w'):fD w' b gc c d:=⟨a.blk h.blk h.o,a.new h.o (ah.lt h.blk),λk e=>(h.tree k e).ev a⟩
theorem eC(d:World)(A:Option Addr)(n c g:Nat)(b:List UInt8)(t:TypeId)(a:List Int)(e:Array Value)(i:RB d d.heap.size A n b)(j:ah d g t e)(f:e=(iv a).toArray)(k:n<=100000)(l:a.length<=100000):Calls Tryz.prog 25 #[.slice A n c,.slice (some ⟨g,0,none⟩) a.length a.length] d (dH d (b++aP a)):=rE A _ n a.length c a.length b a d i (RI.rU (by rw[<-f];exact j)) k l
theorem eu:∀a:List Int,(aP a).length=6*a.length
 |[]=>rfl
 |z::a=>by
  have h:=eu a
  unfold aP at h⊢
  rw[List.flatMap_cons,aq,h,List.length_cons]
  show 6+_=_
  omega
theorem Df(w:World)(F:Nat->Prop)(gc M:Nat)(K:Nat->Nat)(bB:aB)(S:Nat->aB)(h:ar w F M bB)(cs:fD w F gc M K)(b0:iF w)(ch:¬F 2)(f:aX)(a8:f.ok)(id no:Nat)(b9:mn bB 1 (aP [(id:Int),(no:Int)]) (dx f) (S 0)) (P:∀b,b<4->mn (S b) (3+b) (bh b f++aP [(id:Int),(no:Int)]) [] (S (b+1))) (a1:∀b,b<4->(bh b f).length<=100000):Calls Tryz.prog 26 #[.pointer (some ⟨gc,0,none⟩),.int .i64 (id:Int),.int .i64 (no:Int),.agg #[.string (str f.name),.int .i64 (f.cI:Int),.int .i64 (f.gX:Int),.int .u32 (f.crc:Int),.int .i64 (f.bR:Int),.int .i64 (f.size:Int),.int .i64 (f.at_:Int)]] w (cG F w M (S 4) (.int .i64 0)):=by
 obtain⟨l,m,p,r,s,t,at_⟩:=f;simp only at *;obtain⟨g,ci⟩:=I (w.heap.size);obtain⟨D,ap⟩:=I (w.alloc (.cells #[.string (str l),.int .i64 (m:Int),.int .i64 (p:Int),.int .u32 (r:Int),.int .i64 (s:Int),.int .i64 (t:Int),.int .i64 (at_:Int)] 49));have a9:=h.lt;have bc:¬F g:=λcY=>by have:=a9 _ cY;omega
 have N:ah D g 49 #[.string (str l),.int .i64 (m:Int),.int .i64 (p:Int),.int .u32 (r:Int),.int .i64 (s:Int),.int .i64 (t:Int),.int .i64 (at_:Int)]:=by rw[ap,ci];exact ah.new w 49 _
 have bd:Ev F w F D:=by rw[ap];exact(Ev.refl F w).az _
 have b1:Below w.heap.size w D:=by rw[ap];exact(Below.refl _ w).alloc (aa _) _
 have a6:ar D F M bB:=by rw[ap];exact h.alloc _
 have a0:=cs.ev bd;have ba:=b0.below b1;have cM:D.cell? ⟨gc,2,none⟩=some (.pointer (some ⟨K 1,0,none⟩)):=a0.blk.cell 2;have ca:=N.cell 0;have cb:=N.cell 1;have cc:=N.cell 2;have ce:=N.cell 3;have cf:=N.cell 4;have c5:=N.cell 5;have cg:=N.cell 6;have b2:=J a6.lt;have cy:Hid (∀w' u,Ev F D u w'->w'.cell? ⟨gc,2,none⟩=some (.pointer (some ⟨K 1,0,none⟩))/\w'.cell? ⟨g,0,none⟩=some (.string (str l))/\w'.cell? ⟨g,1,none⟩=some (.int .i64 (m:Int))/\w'.cell? ⟨g,2,none⟩=some (.int .i64 (p:Int))/\w'.cell? ⟨g,3,none⟩=some (.int .u32 (r:Int))/\w'.cell? ⟨g,4,none⟩=some (.int .i64 (s:Int))/\w'.cell? ⟨g,5,none⟩=some (.int .i64 (t:Int))/\w'.cell? ⟨g,6,none⟩=some (.int .i64 (at_:Int))):=J λW u am=>by have q:=(a0.ev am).blk;have y:=am.blk N bc;exact⟨q.cell 2,y.cell 0,y.cell 1,y.cell 2,y.cell 3,y.cell 4,y.cell 5,y.cell 6⟩
 have b3:=λct=>J (Dg ct ⟨l,m,p,r,s,t,at_⟩ a8);have cP:Hid ((dx ⟨l,m,p,r,s,t,at_⟩).length<=100000):=J (by unfold dx;simp only[aq,cU];have:=a8.name;simp at this⊢;omega)
 have cj:=J (eu _:(aP [(id:Int),(no:Int)]).length=12);obtain⟨cA,an⟩:=I (aP [(id:Int),(no:Int)]);obtain⟨ck,b4⟩:=I (dx ⟨l,m,p,r,s,t,at_⟩);rw[<-an]at b9 P cj;rw[<-b4]at b9 b3 cP;refine aR ?_ h cs b0 a8 ap ci N bd a6 a0 ba b1 a9;clear h cs b0 a8 ap ci N bd a6 a0 ba b1 a9;intro h cs b0 a8 ap ci N bd a6 a0 ba b1 a9;replace bc:=J bc;replace ch:=J ch;have P0':Hid (∀(w:World) (F:Nat->Prop) (gt M:Nat) (cl cm:Option Addr) (cB cD:Nat),ar w F M bB->aL w F gt M 1->MB F w cl 12 cA->MB F w cm ck.length ck->
  Calls Tryz.prog 22 #[.pointer (some ⟨gt,0,none⟩),.slice cl 12 cB,.slice cm ck.length cD] w (cG F w M (S 0) (.int .i64 0))):=J (by
  have q:=b9;unfold mn at q;rw[cj.o]at q;exact q)
 have bb:Hid (∀b,b<4->∃ao,ao=bh b ⟨l,m,p,r,s,t,at_⟩++cA/\mn (S b) (3+b) ao [] (S (b+1))):=J λb c0=>⟨_,rfl,P b c0⟩;refine bX ?_ b9 P a1 an b4;clear b9 P a1 an b4;intro b9 P a1 an b4;replace b3:Hid _:=J b3;go_enter Tryz.func26,Tryz.ntmps26;go_upto_region 1 with(fail)
 rw[<-ap.o,<-ci.o];go_region_held3 (λw'=>w'.cell? ⟨gc,2,none⟩=some (.pointer (some ⟨K 1,0,none⟩))/\w'.cell? ⟨g,0,none⟩=some (.string (str l))/\w'.cell? ⟨g,1,none⟩=some (.int .i64 (m:Int))/\w'.cell? ⟨g,2,none⟩=some (.int .i64 (p:Int))/\w'.cell? ⟨g,3,none⟩=some (.int .u32 (r:Int))/\w'.cell? ⟨g,4,none⟩=some (.int .i64 (s:Int))/\w'.cell? ⟨g,5,none⟩=some (.int .i64 (t:Int))/\w'.cell? ⟨g,6,none⟩=some (.int .i64 (at_:Int))) (first|exact⟨cM,ca,cb,cc,ce,cf,c5,cg⟩|(exact cy.o _ _ bm.o)|(exact cy.o _ F (Ev.ag (by with_reducible first|exact a.o|exact X.o|exact a.o.alloc a.o.size _|exact X.o.alloc X.o.size _)))|go_keep) (first
  |(go_at_call 25;(fail_if_success (clear a));refine(eC _ none 0 0 _ [] 3 [(id:Int),(no:Int)] #[.int .i64 (id:Int),.int .i64 (no:Int)] (RB.nil _ _) (by with_reducible first|exact(ah.new _ _ _).drew|exact ah.new _ _ _|exact(ah.new _ _ _).drew.below be.o (by simp<;>omega)) rfl (by omega) (by simp)).mono ?_;rintro e cS ⟨c4,rfl,bi,bj⟩;rw[List.nil_append,<-an.o,cj.o]at bi;have a:Hid (Below D.heap.size D cS):=J (Below.trans (by with_reducible first|exact X.o|exact X.o.alloc X.o.size _|exact a.o|exact((Below.refl _ D).alloc (aa _) _).drew|exact(Below.refl _ D).drew) (bj.mono (by first|(have:=X.o.size;simp<;>omega)|(simp<;>omega))));obtain⟨cl,cB,rfl,_,_,c1,_⟩:=bi.form;have L:Hid (MB F cS cl 12 cA):=J (MB.made bi (λk a2=>by have:=b2.o k a2;first|(have:=X.o.size;simp<;>omega)|(simp<;>omega)));(try have cv:=J (cn.o.ev (Ev.ag (F:=F) ((by with_reducible first|exact bj.mono (aa _)|exact((Below.refl _ cE).alloc (aa _) _).trans (bj.mono (by simp)))))));replace bi:=J bi;replace bj:=J bj)
  |(go_at_call 66;refine(b3.o _).o.mono ?_;rintro e cE ⟨c6,rfl,b5,be⟩;have X:Hid (Below D.heap.size D cE):=J (Below.trans (by with_reducible first|exact a.o|exact(Below.refl _ D).drew|exact((Below.refl _ D).alloc (aa _) _).drew) (be.mono (by first|(have:=a.o.size;simp<;>omega)|(simp<;>omega))));obtain⟨cm,cD,rfl,_,_,c2,_⟩:=b5.form;have cn:Hid (MB F cE cm ck.length ck):=J (MB.made b5 (λk a2=>by have:=b2.o k a2;first|(have:=a.o.size;simp<;>omega)|(simp<;>omega)));(try have cw:=J (L.o.ev (Ev.ag (F:=F) be)));replace b5:=J b5;replace be:=J be)
  |(go_at_call 22;refine(P0'.o _ F (K 1) M cl cm cB cD (by with_reducible first|exact a6.o.below a.o|exact a6.o.below X.o) (by with_reducible first|exact(a0.o.tree 1 (by omega)).ev (Ev.ag a.o)|exact(a0.o.tree 1 (by omega)).ev (Ev.ag X.o)) (by with_reducible first|exact cw.o|exact L.o) (by with_reducible first|exact cv.o|exact cn.o)).mono ?_;rintro e cH ⟨rfl,cV,b6,bl⟩;have bm:Hid (Ev F D cV cH):=J (by with_reducible first|exact(Ev.ag a.o).trans bl|exact(Ev.ag X.o).trans bl);replace b6:=J b6;replace bl:=J bl))
 all_goals
  go_wp2_with fail;have co:Hid (∃u,ar cH u M (S 0)/\Ev F D u cH):=J ⟨cV,b6.o,bm.o⟩;clear bm b6 bl;go_loopw [27] (λv ct=>∃b:Nat,b<=4/\v=.int .i64 (b:Int)/\Hid (∃u,ar ct u M (S b)/\Ev F D u ct)) (λv _=>4-(intOf v).toNat)
  case atStart=>exact⟨0,by omega,rfl,co⟩
  case round=>
   obtain⟨b,a7,rfl,cX⟩:=hrel;obtain⟨H,O,Q⟩:=cX.o;clear co cX;rcases aA b 4 with cz|c3
   ·have V:=J (a0.o.ev Q);have Y:=J (Q.blk N.o bc.o:ah wr g 49 #[.string (str l),.int .i64 (m:Int),.int .i64 (p:Int),.int .u32 (r:Int),.int .i64 (s:Int),.int .i64 (t:Int),.int .i64 (at_:Int)]);have b7:=J (Q.new bc.o N.o.lt:¬H g);have b8:=J (ba.o.ev Q ch.o:iF wr);have ca:=Y.o.cell 0;have cb:=Y.o.cell 1;have cc:=Y.o.cell 2;have ce:=Y.o.cell 3;have cf:=Y.o.cell 4;have c5:=Y.o.cell 5;have cg:=Y.o.cell 6;replace O:=J O;replace Q:=J Q;have ab:=cz;clear cz cM
    match b,a7,ab with
    |0,a7,ab=>
     obtain⟨ao,z,x⟩:=bb.o 0 (by omega)
     obtain⟨ac,d⟩:=I (bh 0 ⟨l,m,p,r,s,t,at_⟩)
     have a3:=J (by rw[d];exact a1.o 0 (by omega):ac.length<=100000)
     rw[<-d]at z
     have ad:Hid (∀W,Below wr.heap.size wr W->Calls Tryz.prog 36 #[.int .i64 0,.agg #[.string (str l),.int .i64 (m:Int),.int .i64 (p:Int),.int .u32 (r:Int),.int .i64 (s:Int),.int .i64 (t:Int),.int .i64 (at_:Int)]] W (dH W (bh 0 ⟨l,m,p,r,s,t,at_⟩))):=J λW bp=>gD W ⟨l,m,p,r,s,t,at_⟩ a8.o (b8.o.below bp) 0 (by omega)
     have br:wr.cell? ⟨gc,4,none⟩=some (.pointer (some ⟨K 3,0,none⟩)):=V.o.blk.cell 4
     have Z:Hid (∀w' u,Ev H wr u w'->w'.cell? ⟨gc,4,none⟩=some (.pointer (some ⟨K 3,0,none⟩))/\w'.cell? ⟨g,0,none⟩=some (.string (str l))/\w'.cell? ⟨g,1,none⟩=some (.int .i64 (m:Int))/\w'.cell? ⟨g,2,none⟩=some (.int .i64 (p:Int))/\w'.cell? ⟨g,3,none⟩=some (.int .u32 (r:Int))/\w'.cell? ⟨g,4,none⟩=some (.int .i64 (s:Int))/\w'.cell? ⟨g,5,none⟩=some (.int .i64 (t:Int))/\w'.cell? ⟨g,6,none⟩=some (.int .i64 (at_:Int))):=J λW u am=>by have q:=(V.o.ev am).blk;have y:=am.blk Y.o b7.o;exact⟨q.cell 4,y.cell 0,y.cell 1,y.cell 2,y.cell 3,y.cell 4,y.cell 5,y.cell 6⟩
     replace x:=J x
     replace z:=J z
     replace d:=J d
     have cp:IntKind.i64.wrap 3=3:=by decide
     go_wp2_with fail
     go_upto_region 7 with(fail)
     go_region_held3 (λw'=>w'.cell? ⟨gc,4,none⟩=some (.pointer (some ⟨K 3,0,none⟩))/\w'.cell? ⟨g,0,none⟩=some (.string (str l))/\w'.cell? ⟨g,1,none⟩=some (.int .i64 (m:Int))/\w'.cell? ⟨g,2,none⟩=some (.int .i64 (p:Int))/\w'.cell? ⟨g,3,none⟩=some (.int .u32 (r:Int))/\w'.cell? ⟨g,4,none⟩=some (.int .i64 (s:Int))/\w'.cell? ⟨g,5,none⟩=some (.int .i64 (t:Int))/\w'.cell? ⟨g,6,none⟩=some (.int .i64 (at_:Int))) (first|exact⟨br,ca,cb,cc,ce,cf,c5,cg⟩|(exact Z.o _ H (Ev.ag (by with_reducible first|exact a.o|exact c.o|exact c.o.alloc c.o.size _)))|(exact Z.o _ _ ae.o)|go_keep) (first
      |(go_at_call 36;refine(ad.o _ (by with_reducible first|exact(Below.refl _ wr).drew|exact((Below.refl _ wr).alloc (aa _) _).drew)).mono ?_;rintro e bs ⟨cK,rfl,A,B⟩;rw[<-d.o]at A;have c:Hid (Below wr.heap.size wr bs):=J (Below.trans (by with_reducible first|exact(Below.refl _ wr).drew|exact((Below.refl _ wr).alloc (aa _) _).drew) (B.mono (by simp<;>omega)));obtain⟨bv,bx,rfl,i,_,_,_⟩:=A.form;replace A:=J A;replace B:=J B;replace i:=J i)
      |(go_at_call 25;refine(eC _ bv ac.length bx _ ac 3 [(id:Int),(no:Int)] #[.int .i64 (id:Int),.int .i64 (no:Int)] (by with_reducible first|exact i.o|exact ew i.o _|exact cJ i.o _) (by with_reducible first|exact ah.new _ _ _|exact(ah.new _ _ _).drew|exact(ah.new _ _ _).drew.below B.o (by simp<;>omega)) rfl a3.o (by simp)).mono ?_;rintro e a4 ⟨cL,rfl,j,E⟩;rw[<-an.o,<-z.o]at j;have a:Hid (Below wr.heap.size wr a4):=J (Below.trans (by with_reducible first|exact c.o|exact c.o.alloc c.o.size _) (E.mono (by have:=c.o.size;simp<;>omega)));obtain⟨a5,bA,rfl,_,_,cr,_⟩:=j.form;have L:=J (MB.made j (λk a2=>by have:=O.o.lt k a2;have:=c.o.size;simp<;>omega):MB H a4 a5 ao.length ao);replace j:=J j;replace E:=J E)
      |(go_at_call 22;refine(x.o _ H (K 3) M a5 none bA 0 (by with_reducible first|exact O.o.below a.o) (by with_reducible first|exact(V.o.tree 3 (by omega)).ev (Ev.ag a.o)) (by with_reducible first|exact L.o) (MB.nil _)).mono ?_;rintro e T ⟨rfl,af,G,C⟩;have al:=J (Q.o.trans ((Ev.ag a.o).trans C):Ev F D af T);have ae:=J ((Ev.ag a.o).trans C:Ev H wr af T);replace G:=J G;replace C:=J C))
     all_goals
      have U:Hid (∃u,ar T u M (S (0+1))/\Ev F D u T):=J ⟨af,G.o,al.o⟩;go_wp2_with fail;go_roundw
      case rel=>exact⟨0+1,by omega,rfl,U⟩
      case measure=>simp[intOf]
    |1,a7,ab=>
     obtain⟨ao,z,x⟩:=bb.o 1 (by omega)
     obtain⟨ac,d⟩:=I (bh 1 ⟨l,m,p,r,s,t,at_⟩)
     have a3:=J (by rw[d];exact a1.o 1 (by omega):ac.length<=100000)
     rw[<-d]at z
     have ad:Hid (∀W,Below wr.heap.size wr W->Calls Tryz.prog 36 #[.int .i64 1,.agg #[.string (str l),.int .i64 (m:Int),.int .i64 (p:Int),.int .u32 (r:Int),.int .i64 (s:Int),.int .i64 (t:Int),.int .i64 (at_:Int)]] W (dH W (bh 1 ⟨l,m,p,r,s,t,at_⟩))):=J λW bp=>gD W ⟨l,m,p,r,s,t,at_⟩ a8.o (b8.o.below bp) 1 (by omega)
     have br:wr.cell? ⟨gc,5,none⟩=some (.pointer (some ⟨K 4,0,none⟩)):=V.o.blk.cell 5
     have Z:Hid (∀w' u,Ev H wr u w'->w'.cell? ⟨gc,5,none⟩=some (.pointer (some ⟨K 4,0,none⟩))/\w'.cell? ⟨g,0,none⟩=some (.string (str l))/\w'.cell? ⟨g,1,none⟩=some (.int .i64 (m:Int))/\w'.cell? ⟨g,2,none⟩=some (.int .i64 (p:Int))/\w'.cell? ⟨g,3,none⟩=some (.int .u32 (r:Int))/\w'.cell? ⟨g,4,none⟩=some (.int .i64 (s:Int))/\w'.cell? ⟨g,5,none⟩=some (.int .i64 (t:Int))/\w'.cell? ⟨g,6,none⟩=some (.int .i64 (at_:Int))):=J λW u am=>by have q:=(V.o.ev am).blk;have y:=am.blk Y.o b7.o;exact⟨q.cell 5,y.cell 0,y.cell 1,y.cell 2,y.cell 3,y.cell 4,y.cell 5,y.cell 6⟩
     replace x:=J x
     replace z:=J z
     replace d:=J d
     have cp:IntKind.i64.wrap 4=4:=by decide
     go_wp2_with fail
     go_upto_region 7 with(fail)
     go_region_held3 (λw'=>w'.cell? ⟨gc,5,none⟩=some (.pointer (some ⟨K 4,0,none⟩))/\w'.cell? ⟨g,0,none⟩=some (.string (str l))/\w'.cell? ⟨g,1,none⟩=some (.int .i64 (m:Int))/\w'.cell? ⟨g,2,none⟩=some (.int .i64 (p:Int))/\w'.cell? ⟨g,3,none⟩=some (.int .u32 (r:Int))/\w'.cell? ⟨g,4,none⟩=some (.int .i64 (s:Int))/\w'.cell? ⟨g,5,none⟩=some (.int .i64 (t:Int))/\w'.cell? ⟨g,6,none⟩=some (.int .i64 (at_:Int))) (first|exact⟨br,ca,cb,cc,ce,cf,c5,cg⟩|(exact Z.o _ H (Ev.ag (by with_reducible first|exact a.o|exact c.o|exact c.o.alloc c.o.size _)))|(exact Z.o _ _ ae.o)|go_keep) (first
      |(go_at_call 36;refine(ad.o _ (by with_reducible first|exact(Below.refl _ wr).drew|exact((Below.refl _ wr).alloc (aa _) _).drew)).mono ?_;rintro e bs ⟨cK,rfl,A,B⟩;rw[<-d.o]at A;have c:Hid (Below wr.heap.size wr bs):=J (Below.trans (by with_reducible first|exact(Below.refl _ wr).drew|exact((Below.refl _ wr).alloc (aa _) _).drew) (B.mono (by simp<;>omega)));obtain⟨bv,bx,rfl,i,_,_,_⟩:=A.form;replace A:=J A;replace B:=J B;replace i:=J i)
      |(go_at_call 25;refine(eC _ bv ac.length bx _ ac 3 [(id:Int),(no:Int)] #[.int .i64 (id:Int),.int .i64 (no:Int)] (by with_reducible first|exact i.o|exact ew i.o _|exact cJ i.o _) (by with_reducible first|exact ah.new _ _ _|exact(ah.new _ _ _).drew|exact(ah.new _ _ _).drew.below B.o (by simp<;>omega)) rfl a3.o (by simp)).mono ?_;rintro e a4 ⟨cL,rfl,j,E⟩;rw[<-an.o,<-z.o]at j;have a:Hid (Below wr.heap.size wr a4):=J (Below.trans (by with_reducible first|exact c.o|exact c.o.alloc c.o.size _) (E.mono (by have:=c.o.size;simp<;>omega)));obtain⟨a5,bA,rfl,_,_,cr,_⟩:=j.form;have L:=J (MB.made j (λk a2=>by have:=O.o.lt k a2;have:=c.o.size;simp<;>omega):MB H a4 a5 ao.length ao);replace j:=J j;replace E:=J E)
      |(go_at_call 22;refine(x.o _ H (K 4) M a5 none bA 0 (by with_reducible first|exact O.o.below a.o) (by with_reducible first|exact(V.o.tree 4 (by omega)).ev (Ev.ag a.o)) (by with_reducible first|exact L.o) (MB.nil _)).mono ?_;rintro e T ⟨rfl,af,G,C⟩;have al:=J (Q.o.trans ((Ev.ag a.o).trans C):Ev F D af T);have ae:=J ((Ev.ag a.o).trans C:Ev H wr af T);replace G:=J G;replace C:=J C))
     all_goals
      have U:Hid (∃u,ar T u M (S (1+1))/\Ev F D u T):=J ⟨af,G.o,al.o⟩;go_wp2_with fail;go_roundw
      case rel=>exact⟨1+1,by omega,rfl,U⟩
      case measure=>simp[intOf]
    |2,a7,ab=>
     obtain⟨ao,z,x⟩:=bb.o 2 (by omega)
     obtain⟨ac,d⟩:=I (bh 2 ⟨l,m,p,r,s,t,at_⟩)
     have a3:=J (by rw[d];exact a1.o 2 (by omega):ac.length<=100000)
     rw[<-d]at z
     have ad:Hid (∀W,Below wr.heap.size wr W->Calls Tryz.prog 36 #[.int .i64 2,.agg #[.string (str l),.int .i64 (m:Int),.int .i64 (p:Int),.int .u32 (r:Int),.int .i64 (s:Int),.int .i64 (t:Int),.int .i64 (at_:Int)]] W (dH W (bh 2 ⟨l,m,p,r,s,t,at_⟩))):=J λW bp=>gD W ⟨l,m,p,r,s,t,at_⟩ a8.o (b8.o.below bp) 2 (by omega)
     have br:wr.cell? ⟨gc,6,none⟩=some (.pointer (some ⟨K 5,0,none⟩)):=V.o.blk.cell 6
     have Z:Hid (∀w' u,Ev H wr u w'->w'.cell? ⟨gc,6,none⟩=some (.pointer (some ⟨K 5,0,none⟩))/\w'.cell? ⟨g,0,none⟩=some (.string (str l))/\w'.cell? ⟨g,1,none⟩=some (.int .i64 (m:Int))/\w'.cell? ⟨g,2,none⟩=some (.int .i64 (p:Int))/\w'.cell? ⟨g,3,none⟩=some (.int .u32 (r:Int))/\w'.cell? ⟨g,4,none⟩=some (.int .i64 (s:Int))/\w'.cell? ⟨g,5,none⟩=some (.int .i64 (t:Int))/\w'.cell? ⟨g,6,none⟩=some (.int .i64 (at_:Int))):=J λW u am=>by have q:=(V.o.ev am).blk;have y:=am.blk Y.o b7.o;exact⟨q.cell 6,y.cell 0,y.cell 1,y.cell 2,y.cell 3,y.cell 4,y.cell 5,y.cell 6⟩
     replace x:=J x
     replace z:=J z
     replace d:=J d
     have cp:IntKind.i64.wrap 5=5:=by decide
     go_wp2_with fail
     go_upto_region 7 with(fail)
     go_region_held3 (λw'=>w'.cell? ⟨gc,6,none⟩=some (.pointer (some ⟨K 5,0,none⟩))/\w'.cell? ⟨g,0,none⟩=some (.string (str l))/\w'.cell? ⟨g,1,none⟩=some (.int .i64 (m:Int))/\w'.cell? ⟨g,2,none⟩=some (.int .i64 (p:Int))/\w'.cell? ⟨g,3,none⟩=some (.int .u32 (r:Int))/\w'.cell? ⟨g,4,none⟩=some (.int .i64 (s:Int))/\w'.cell? ⟨g,5,none⟩=some (.int .i64 (t:Int))/\w'.cell? ⟨g,6,none⟩=some (.int .i64 (at_:Int))) (first|exact⟨br,ca,cb,cc,ce,cf,c5,cg⟩|(exact Z.o _ H (Ev.ag (by with_reducible first|exact a.o|exact c.o|exact c.o.alloc c.o.size _)))|(exact Z.o _ _ ae.o)|go_keep) (first
      |(go_at_call 36;refine(ad.o _ (by with_reducible first|exact(Below.refl _ wr).drew|exact((Below.refl _ wr).alloc (aa _) _).drew)).mono ?_;rintro e bs ⟨cK,rfl,A,B⟩;rw[<-d.o]at A;have c:Hid (Below wr.heap.size wr bs):=J (Below.trans (by with_reducible first|exact(Below.refl _ wr).drew|exact((Below.refl _ wr).alloc (aa _) _).drew) (B.mono (by simp<;>omega)));obtain⟨bv,bx,rfl,i,_,_,_⟩:=A.form;replace A:=J A;replace B:=J B;replace i:=J i)
      |(go_at_call 25;refine(eC _ bv ac.length bx _ ac 3 [(id:Int),(no:Int)] #[.int .i64 (id:Int),.int .i64 (no:Int)] (by with_reducible first|exact i.o|exact ew i.o _|exact cJ i.o _) (by with_reducible first|exact ah.new _ _ _|exact(ah.new _ _ _).drew|exact(ah.new _ _ _).drew.below B.o (by simp<;>omega)) rfl a3.o (by simp)).mono ?_;rintro e a4 ⟨cL,rfl,j,E⟩;rw[<-an.o,<-z.o]at j;have a:Hid (Below wr.heap.size wr a4):=J (Below.trans (by with_reducible first|exact c.o|exact c.o.alloc c.o.size _) (E.mono (by have:=c.o.size;simp<;>omega)));obtain⟨a5,bA,rfl,_,_,cr,_⟩:=j.form;have L:=J (MB.made j (λk a2=>by have:=O.o.lt k a2;have:=c.o.size;simp<;>omega):MB H a4 a5 ao.length ao);replace j:=J j;replace E:=J E)
      |(go_at_call 22;refine(x.o _ H (K 5) M a5 none bA 0 (by with_reducible first|exact O.o.below a.o) (by with_reducible first|exact(V.o.tree 5 (by omega)).ev (Ev.ag a.o)) (by with_reducible first|exact L.o) (MB.nil _)).mono ?_;rintro e T ⟨rfl,af,G,C⟩;have al:=J (Q.o.trans ((Ev.ag a.o).trans C):Ev F D af T);have ae:=J ((Ev.ag a.o).trans C:Ev H wr af T);replace G:=J G;replace C:=J C))
     all_goals
      have U:Hid (∃u,ar T u M (S (2+1))/\Ev F D u T):=J ⟨af,G.o,al.o⟩;go_wp2_with fail;go_roundw
      case rel=>exact⟨2+1,by omega,rfl,U⟩
      case measure=>simp[intOf]
    |3,a7,ab=>
     obtain⟨ao,z,x⟩:=bb.o 3 (by omega)
     obtain⟨ac,d⟩:=I (bh 3 ⟨l,m,p,r,s,t,at_⟩)
     have a3:=J (by rw[d];exact a1.o 3 (by omega):ac.length<=100000)
     rw[<-d]at z
     have ad:Hid (∀W,Below wr.heap.size wr W->Calls Tryz.prog 36 #[.int .i64 3,.agg #[.string (str l),.int .i64 (m:Int),.int .i64 (p:Int),.int .u32 (r:Int),.int .i64 (s:Int),.int .i64 (t:Int),.int .i64 (at_:Int)]] W (dH W (bh 3 ⟨l,m,p,r,s,t,at_⟩))):=J λW bp=>gD W ⟨l,m,p,r,s,t,at_⟩ a8.o (b8.o.below bp) 3 (by omega)
     have br:wr.cell? ⟨gc,7,none⟩=some (.pointer (some ⟨K 6,0,none⟩)):=V.o.blk.cell 7
     have Z:Hid (∀w' u,Ev H wr u w'->w'.cell? ⟨gc,7,none⟩=some (.pointer (some ⟨K 6,0,none⟩))/\w'.cell? ⟨g,0,none⟩=some (.string (str l))/\w'.cell? ⟨g,1,none⟩=some (.int .i64 (m:Int))/\w'.cell? ⟨g,2,none⟩=some (.int .i64 (p:Int))/\w'.cell? ⟨g,3,none⟩=some (.int .u32 (r:Int))/\w'.cell? ⟨g,4,none⟩=some (.int .i64 (s:Int))/\w'.cell? ⟨g,5,none⟩=some (.int .i64 (t:Int))/\w'.cell? ⟨g,6,none⟩=some (.int .i64 (at_:Int))):=J λW u am=>by have q:=(V.o.ev am).blk;have y:=am.blk Y.o b7.o;exact⟨q.cell 7,y.cell 0,y.cell 1,y.cell 2,y.cell 3,y.cell 4,y.cell 5,y.cell 6⟩
     replace x:=J x
     replace z:=J z
     replace d:=J d
     have cp:IntKind.i64.wrap 6=6:=by decide
     go_wp2_with fail
     go_upto_region 7 with(fail)
     go_region_held3 (λw'=>w'.cell? ⟨gc,7,none⟩=some (.pointer (some ⟨K 6,0,none⟩))/\w'.cell? ⟨g,0,none⟩=some (.string (str l))/\w'.cell? ⟨g,1,none⟩=some (.int .i64 (m:Int))/\w'.cell? ⟨g,2,none⟩=some (.int .i64 (p:Int))/\w'.cell? ⟨g,3,none⟩=some (.int .u32 (r:Int))/\w'.cell? ⟨g,4,none⟩=some (.int .i64 (s:Int))/\w'.cell? ⟨g,5,none⟩=some (.int .i64 (t:Int))/\w'.cell? ⟨g,6,none⟩=some (.int .i64 (at_:Int))) (first|exact⟨br,ca,cb,cc,ce,cf,c5,cg⟩|(exact Z.o _ H (Ev.ag (by with_reducible first|exact a.o|exact c.o|exact c.o.alloc c.o.size _)))|(exact Z.o _ _ ae.o)|go_keep) (first
      |(go_at_call 36;refine(ad.o _ (by with_reducible first|exact(Below.refl _ wr).drew|exact((Below.refl _ wr).alloc (aa _) _).drew)).mono ?_;rintro e bs ⟨cK,rfl,A,B⟩;rw[<-d.o]at A;have c:Hid (Below wr.heap.size wr bs):=J (Below.trans (by with_reducible first|exact(Below.refl _ wr).drew|exact((Below.refl _ wr).alloc (aa _) _).drew) (B.mono (by simp<;>omega)));obtain⟨bv,bx,rfl,i,_,_,_⟩:=A.form;replace A:=J A;replace B:=J B;replace i:=J i)
      |(go_at_call 25;refine(eC _ bv ac.length bx _ ac 3 [(id:Int),(no:Int)] #[.int .i64 (id:Int),.int .i64 (no:Int)] (by with_reducible first|exact i.o|exact ew i.o _|exact cJ i.o _) (by with_reducible first|exact ah.new _ _ _|exact(ah.new _ _ _).drew|exact(ah.new _ _ _).drew.below B.o (by simp<;>omega)) rfl a3.o (by simp)).mono ?_;rintro e a4 ⟨cL,rfl,j,E⟩;rw[<-an.o,<-z.o]at j;have a:Hid (Below wr.heap.size wr a4):=J (Below.trans (by with_reducible first|exact c.o|exact c.o.alloc c.o.size _) (E.mono (by have:=c.o.size;simp<;>omega)));obtain⟨a5,bA,rfl,_,_,cr,_⟩:=j.form;have L:=J (MB.made j (λk a2=>by have:=O.o.lt k a2;have:=c.o.size;simp<;>omega):MB H a4 a5 ao.length ao);replace j:=J j;replace E:=J E)
      |(go_at_call 22;refine(x.o _ H (K 6) M a5 none bA 0 (by with_reducible first|exact O.o.below a.o) (by with_reducible first|exact(V.o.tree 6 (by omega)).ev (Ev.ag a.o)) (by with_reducible first|exact L.o) (MB.nil _)).mono ?_;rintro e T ⟨rfl,af,G,C⟩;have al:=J (Q.o.trans ((Ev.ag a.o).trans C):Ev F D af T);have ae:=J ((Ev.ag a.o).trans C:Ev H wr af T);replace G:=J G;replace C:=J C))
     all_goals
      have U:Hid (∃u,ar T u M (S (3+1))/\Ev F D u T):=J ⟨af,G.o,al.o⟩;go_wp2_with fail;go_roundw
      case rel=>exact⟨3+1,by omega,rfl,U⟩
      case measure=>simp[intOf]
    |n+4,a7,ab=>exact absurd ab (by omega)
   ·obtain rfl:b=4:=by omega
    have cx:Hid (cG F w M (S 4) (.int .i64 0) (.returned (.int .i64 0)) wr):=J ⟨rfl,H,O,bd.o.trans Q⟩;replace O:=J O;replace Q:=J Q;go_wp2_with fail;go_ret;exact cx.o
end Go.Proofs.YtajdeapdgbnahaaGreatDoor
