/-
  Contract of (*Cat).Check in a catalogue that is right.
-/
import Derived.Test.YtajdeapdgbnahaaGreatDoorCyGr38
import Derived.Test.YtajdeapdgbnahaaGreatDoorCyGr24
namespace Go.Proofs.YtajdeapdgbnahaaGreatDoor
set_option linter.unusedVariables false
set_option maxRecDepth 100000
set_option maxHeartbeats 8000000
open List Nat
section
open Go.RowKit Go.Maps
structure Na (st:aB) (bH:List cC):Prop where
 Me:∀(w:World) (F:Nat->Prop) (gc gp:Nat) (ts:Nat->Nat),ar w F gp st->fD w F gc gp ts->Calls Tryz.prog 33 #[.pointer (some ⟨gc,0,none⟩)] w (oD 54 6 lG F w gp st (bH.map fL))
 tree:∀k,k<7->∀(w:World) (F:Nat->Prop) (gt gp:Nat),ar w F gp st->aL w F gt gp k->Calls Tryz.prog 34 #[.pointer (some ⟨gt,0,none⟩)] w λe w'=>e=.returned (.int .i64 0)/\∃F',ar w' F' gp st/\Ev F w F' w'
 Nb:∀a∈bH,JX st a (eV 1 a.id 0 a.files)
 get:∀a∈bH,∀(j:Nat) (f:aX),a.files[j]?=some f->∀b,b<4->tP st (3+b) (bh b f++aP [(a.id:Int),(j:Int)]) []
 range:∀b:Nat,b<4->∀(w:World) (F:Nat->Prop) (gc gp:Nat) (ts:Nat->Nat),ar w F gp st->fD w F gc gp ts->Calls Tryz.prog 10 #[.pointer (some ⟨gc,0,none⟩),.int .i64 (b:Int),.slice none 0 0,.slice none 0 0] w λe w'=>∃A c,e=.returned (.tuple #[.slice A (eS bH) c,.int .i64 0])/\∃F',ar w' F' gp st/\Ev F w F' w'
 ok:∀a∈bH,a.ok
 len:bH.length<=100000
def jk(G:Nat->Prop)(w:World)(A:Option Addr)(bH:List cC):Prop:=
 ∀i a,bH[i]?=some a->∃b,A=some b/\G b.block/\w.cell? (b.add (i*6))=some (.string (str a.path))/\w.cell? ⟨(b.add (i*6)).block,(b.add (i*6)).off+1,none⟩=some (.int .i64 (a.stamp:Int))/\
  w.cell? ⟨(b.add (i*6)).block,(b.add (i*6)).off+2,none⟩=some (.int .i64 (a.long:Int))/\w.cell? ⟨(b.add (i*6)).block,(b.add (i*6)).off+3,none⟩=some (.int .i64 (a.id:Int))/\w.cell? ⟨(b.add (i*6)).block,(b.add (i*6)).off+4,none⟩=some (.int .i64 (a.files.length:Int))/\w.cell? ⟨(b.add (i*6)).block,(b.add (i*6)).off+5,none⟩=some (.int .i64 (a.bad:Int))
theorem ET{G:Nat->Prop}{w:World}{A:Option Addr}{n:Nat}{bH:List cC}(h:Rd G w 6 A n ((bH.map fL).flatMap lG))(l:n=bH.length)(d:∀a∈bH,a.ok):jk G w A bH:=λi a c=>by
 have m:=(ay.1 c).1;have g:(bH.map fL)[i]?=some (fL a):=by rw[getElem?_map,c];rfl
 obtain⟨j,e,k,f,b⟩:=h.row ES (by omega) i _ g (by omega);rw[zJ (d a (bu c))]at f b;exact⟨j,e,k,f _ rfl,b 1 _ (by omega) rfl,b 2 _ (by omega) rfl,b 3 _ (by omega) rfl,b 4 _ (by omega) rfl,b 5 _ (by omega) rfl⟩
theorem jk.ev{F f:Nat->Prop}{w w':World}{A:Option Addr}{bH:List cC}(h:jk (bF F w) w A bH)(g:Ev F w f w'):jk (bF f w') w' A bH:=λi a k=>by obtain⟨b,e,j,l,m,n,o,q,r⟩:=h i a k;have c:(b.add (i*6)).block=b.block:=cF _ _;have d:∀p:Addr,p.block=b.block->w'.cell? p=w.cell? p:=λp s=>World.cell?_of_block (by rw[s];exact g.block j);exact⟨b,e,g.mine j,(d _ c).trans l,(d ⟨(b.add (i*6)).block,(b.add (i*6)).off+1,none⟩ c).trans m,(d ⟨(b.add (i*6)).block,(b.add (i*6)).off+2,none⟩ c).trans n,(d ⟨(b.add (i*6)).block,(b.add (i*6)).off+3,none⟩ c).trans o,(d ⟨(b.add (i*6)).block,(b.add (i*6)).off+4,none⟩ c).trans q,(d ⟨(b.add (i*6)).block,(b.add (i*6)).off+5,none⟩ c).trans r⟩
theorem BX(bH:List cC)(i:Nat)(a:cC)(h:bH[i]?=some a):eS (bH.take (i+1))=eS (bH.take i)+a.files.length:=by have b:=(ay.1 h).1;unfold eS;rw[take_succ_eq_append_getElem b,map_append,sum_append];rw[ak b]at h;rw[Option.some.inj h];simp
theorem BZ(bH:List cC)(i:Nat):eS (bH.take i)<=eS bH:=by
 have h:eS (bH.take i++bH.drop i)=eS (bH.take i)+eS (bH.drop i):=by unfold eS;rw[map_append,sum_append]
 rw[bE]at h;omega
theorem Ie(bH:List cC)(h:∀a∈bH,a.ok):eS bH<=1000*bH.length:=by
 induction bH with
 |nil=>exact aa _
 |cons a f ih=>
  have e:=(h a (.head _)).many
  have c:=ih λb d=>h b (.tail _ d)
  unfold eS at c⊢
  rw[map_cons,sum_cons,length_cons]
  omega
theorem Ig(ts:Nat->Nat):∀a,(Instr.index 67 (.agg #[.pointer (some ⟨ts 0,0,none⟩),.pointer (some ⟨ts 1,0,none⟩),.pointer (some ⟨ts 2,0,none⟩),.pointer (some ⟨ts 3,0,none⟩),.pointer (some ⟨ts 4,0,none⟩),.pointer (some ⟨ts 5,0,none⟩),.pointer (some ⟨ts 6,0,none⟩)]) (.int .i64 0)).run Tryz.prog a=.ok (.pointer (some ⟨ts 0,0,none⟩)) a:=λ_=>by kernel_rfl
theorem Ih(ts:Nat->Nat):∀a,(Instr.index 67 (.agg #[.pointer (some ⟨ts 0,0,none⟩),.pointer (some ⟨ts 1,0,none⟩),.pointer (some ⟨ts 2,0,none⟩),.pointer (some ⟨ts 3,0,none⟩),.pointer (some ⟨ts 4,0,none⟩),.pointer (some ⟨ts 5,0,none⟩),.pointer (some ⟨ts 6,0,none⟩)]) (.int .i64 1)).run Tryz.prog a=.ok (.pointer (some ⟨ts 1,0,none⟩)) a:=λ_=>by kernel_rfl
theorem Ii(ts:Nat->Nat):∀a,(Instr.index 67 (.agg #[.pointer (some ⟨ts 0,0,none⟩),.pointer (some ⟨ts 1,0,none⟩),.pointer (some ⟨ts 2,0,none⟩),.pointer (some ⟨ts 3,0,none⟩),.pointer (some ⟨ts 4,0,none⟩),.pointer (some ⟨ts 5,0,none⟩),.pointer (some ⟨ts 6,0,none⟩)]) (.int .i64 2)).run Tryz.prog a=.ok (.pointer (some ⟨ts 2,0,none⟩)) a:=λ_=>by kernel_rfl
theorem Ij(ts:Nat->Nat):∀a,(Instr.index 67 (.agg #[.pointer (some ⟨ts 0,0,none⟩),.pointer (some ⟨ts 1,0,none⟩),.pointer (some ⟨ts 2,0,none⟩),.pointer (some ⟨ts 3,0,none⟩),.pointer (some ⟨ts 4,0,none⟩),.pointer (some ⟨ts 5,0,none⟩),.pointer (some ⟨ts 6,0,none⟩)]) (.int .i64 3)).run Tryz.prog a=.ok (.pointer (some ⟨ts 3,0,none⟩)) a:=λ_=>by kernel_rfl
theorem Ik(ts:Nat->Nat):∀a,(Instr.index 67 (.agg #[.pointer (some ⟨ts 0,0,none⟩),.pointer (some ⟨ts 1,0,none⟩),.pointer (some ⟨ts 2,0,none⟩),.pointer (some ⟨ts 3,0,none⟩),.pointer (some ⟨ts 4,0,none⟩),.pointer (some ⟨ts 5,0,none⟩),.pointer (some ⟨ts 6,0,none⟩)]) (.int .i64 4)).run Tryz.prog a=.ok (.pointer (some ⟨ts 4,0,none⟩)) a:=λ_=>by kernel_rfl
theorem Il(ts:Nat->Nat):∀a,(Instr.index 67 (.agg #[.pointer (some ⟨ts 0,0,none⟩),.pointer (some ⟨ts 1,0,none⟩),.pointer (some ⟨ts 2,0,none⟩),.pointer (some ⟨ts 3,0,none⟩),.pointer (some ⟨ts 4,0,none⟩),.pointer (some ⟨ts 5,0,none⟩),.pointer (some ⟨ts 6,0,none⟩)]) (.int .i64 5)).run Tryz.prog a=.ok (.pointer (some ⟨ts 5,0,none⟩)) a:=λ_=>by kernel_rfl
theorem Im(ts:Nat->Nat):∀a,(Instr.index 67 (.agg #[.pointer (some ⟨ts 0,0,none⟩),.pointer (some ⟨ts 1,0,none⟩),.pointer (some ⟨ts 2,0,none⟩),.pointer (some ⟨ts 3,0,none⟩),.pointer (some ⟨ts 4,0,none⟩),.pointer (some ⟨ts 5,0,none⟩),.pointer (some ⟨ts 6,0,none⟩)]) (.int .i64 6)).run Tryz.prog a=.ok (.pointer (some ⟨ts 6,0,none⟩)) a:=λ_=>by kernel_rfl
theorem JY(ts:Nat->Nat)(i:Nat)(b:i<7):∀a,(Instr.index 67 (.agg #[.pointer (some ⟨ts 0,0,none⟩),.pointer (some ⟨ts 1,0,none⟩),.pointer (some ⟨ts 2,0,none⟩),.pointer (some ⟨ts 3,0,none⟩),.pointer (some ⟨ts 4,0,none⟩),.pointer (some ⟨ts 5,0,none⟩),.pointer (some ⟨ts 6,0,none⟩)]) (.int .i64 (i:Int))).run Tryz.prog a=.ok (.pointer (some ⟨ts i,0,none⟩)) a:=
 match i,b with
 |0,_=>Ig ts
 |1,_=>Ih ts
 |2,_=>Ii ts
 |3,_=>Ij ts
 |4,_=>Ik ts
 |5,_=>Il ts
 |6,_=>Im ts
def MT(F:Nat->Prop)(w:World)(gp:Nat)(st:aB)(A:Option Addr)(bH:List cC)(c:Nat)(d:Array Value)(B:Option Addr)(ap:List UInt8)(e:List aX)(a:World):Prop:=∃b,ar a b gp st/\Ev F w b a/\jk (bF b a) a A bH/\fB (bF b a) a B ap e/\ah a c 54 d/\¬b c
def MU(F:Nat->Prop)(w:World)(gp:Nat)(st:aB)(A:Option Addr)(bH:List cC)(c:Nat)(e:Array Value)(B:Option Addr)(ap:List UInt8)(f:List aX)(d:Nat)(g:Array Value)(a:World):Prop:=∃b,ar a b gp st/\Ev F w b a/\jk (bF b a) a A bH/\fB (bF b a) a B ap f/\ah a c 54 e/\¬b c/\ah a d 61 g/\¬b d
theorem Cb(w:World)(F:Nat->Prop)(gc gp:Nat)(ts:Nat->Nat)(st:aB)(h:ar w F gp st)(bs:fD w F gc gp ts)(cf:iF w)(cg:¬F 2)(bH:List cC)(ac:Na st bH):Calls Tryz.prog 12 #[.pointer (some ⟨gc,0,none⟩)] w (cG F w gp st (.int .i64 0)):=by
 have dT:=J (ac.Me w F gc gp ts h bs);obtain⟨n,bi⟩:=I (bH.length);have cE:(bH.map fL).length=n:=by rw[length_map,bi]
 have fm:n<=100000:=by rw[bi];exact ac.len
 obtain⟨cH,H⟩:=I (eS bH);have fn:cH<=100000000:=by rw[H];have:=Ie bH ac.ok;omega
 have ch:=ac.ok;refine eD ?_ h bs cf cg ac bi H;clear h bs cf cg ac bi H;intro h bs cf cg ac bi H;go_enter Tryz.func12,Tryz.ntmps12;go_wp2_with fail;go_at_call 33;refine dT.o.mono ?_;rintro e ad ⟨A,c,rfl,em,ci,bB,a5,b0⟩;rw[cE]at a5 b0⊢;have hA2:jk (bF em ad) ad A bH:=ET (rT a5 b0) bi.o ch;have O:=bs.o.ev bB;have t0:ad.cell? ⟨gc,1,none⟩=some (.pointer (some ⟨ts 0,0,none⟩)):=O.blk.cell 1;have e0:ad.cell? ⟨gc,2,none⟩=some (.pointer (some ⟨ts 1,0,none⟩)):=O.blk.cell 2;have e1:ad.cell? ⟨gc,3,none⟩=some (.pointer (some ⟨ts 2,0,none⟩)):=O.blk.cell 3;have t3:ad.cell? ⟨gc,4,none⟩=some (.pointer (some ⟨ts 3,0,none⟩)):=O.blk.cell 4;have t4:ad.cell? ⟨gc,5,none⟩=some (.pointer (some ⟨ts 4,0,none⟩)):=O.blk.cell 5;have t5:ad.cell? ⟨gc,6,none⟩=some (.pointer (some ⟨ts 5,0,none⟩)):=O.blk.cell 6;have e2:ad.cell? ⟨gc,7,none⟩=some (.pointer (some ⟨ts 6,0,none⟩)):=O.blk.cell 7;have bj:Hid (∃d,ar ad d gp st/\Ev F w d ad/\jk (bF d ad) ad A bH):=J ⟨em,ci,bB,hA2⟩;refine bz ?_ ci bB a5 b0;clear ci bB a5 b0;intro ci bB a5 b0;replace hA2:Hid _:=J hA2;replace O:=J O;replace ch:Hid _:=J ch;replace cE:=J cE;clear dT;go_wp2_with fail;go_loopw [34] (λv t=>∃k:Nat,k<=7/\v=.int .i64 (k:Int)/\Hid (∃d,ar t d gp st/\Ev F w d t/\jk (bF d t) t A bH)) (λv _=>7-(intOf v).toNat)
 case atStart=>exact⟨0,by omega,rfl,bj⟩
 case round=>
  obtain⟨k,en,rfl,cK⟩:=hrel;obtain⟨P,l,g,hA3⟩:=cK.o;clear bj cK t0 e0 e1 t3 t4 t5 e2;by_cases Q:k<7
  ·have eo:=JY ts k Q;have d0:=J (ac.o.tree k Q wr P (ts k) gp l ((bs.o.ev g).tree k Q));have fp:(k:Int)<7:=by omega
   have fr:(0:Int)<=(k:Int):=by omega
   have d1:Hid (∀cw K,ar K cw gp st->Ev P wr cw K->∃d,ar K d gp st/\Ev F w d K/\jk (bF d K) K A bH):=J λcw K ca U=>⟨cw,ca,g.trans U,hA3.ev U⟩;replace l:=J l;replace g:=J g;replace hA3:Hid _:=J hA3;go_wp2_with fail;go_at_call 34;refine d0.o.mono ?_;rintro e K ⟨rfl,cw,a0,V⟩;have ep:=J (d1.o cw K a0 V);replace a0:=J a0;replace V:=J V;clear d0 d1 eo;go_wp2_with fail;go_roundw
   case rel=>exact⟨k+1,by omega,by congr 1,ep⟩
   case measure=>simp[intOf];omega
  ·obtain rfl:k=7:=by omega
   rw[show((7:Nat):Int)=7 from rfl];have bj:Hid (∃d,ar wr d gp st/\Ev F w d wr/\jk (bF d wr) wr A bH):=J ⟨P,l,g,hA3⟩;obtain⟨f6,d2⟩:=I (wr);rw[<-d2]at bj⊢;clear d2 l g hA3 en Q;have d3:eS (bH.take 0)=0:=rfl;have fs:(n:Int)<=100000:=by omega
   go_wp2_with fail;go_loopw [8,45] (λe3 cL t=>∃i S:Nat,i<=n/\cL=.int .i64 (i:Int)/\e3=.int .i64 (S:Int)/\Hid (S=eS (bH.take i))/\Hid (∃d,ar t d gp st/\Ev F w d t/\jk (bF d t) t A bH)) (λ_ cL _=>n-(intOf cL).toNat)
   case atStart=>exact⟨0,0,by omega,rfl,rfl,J d3.symm,bj⟩
   case round=>
    obtain⟨i,S,f7,rfl,rfl,d4,cK⟩:=hrel;obtain⟨P,l,g,hA3⟩:=cK.o;clear bj d3;by_cases eq:i<n
    ·have d5:i<bH.length:=by have:=bi.o;omega
     obtain⟨a,bl⟩:∃a,bH[i]?=some a:=⟨_,ak d5⟩;have bm:=bu bl;have ae:=ch.o a bm;obtain⟨cb,rfl,_,d8,d9,cM,cP,cx,c5⟩:=hA3 i a bl;obtain⟨u,a6⟩:=I (wr.heap.size);obtain⟨K,a1⟩:=I (wr.alloc (.cells (cQ a).toArray 54));have a0:ar K P gp st:=by rw[a1];exact l.alloc _
     have a7:Ev P wr P K:=by rw[a1];exact(Ev.refl P wr).az _
     have V:=g.trans a7;have s:ah K u 54 (cQ a).toArray:=by rw[a1,a6];exact ah.new wr 54 _
     have X:¬P u:=λea=>by have:=l.lt _ ea;omega
     have cj:=J (ac.o.Nb a bm K P gc gp ts a0 (bs.o.ev V));have hA4:=hA3.ev a7;have ck:=ae.many;have a8:eS (bH.take (i+1))=S+a.files.length:=by rw[BX bH i a bl,d4.o]
     have cl:S+a.files.length<=cH:=by rw[<-a8,H.o];exact BZ bH (i+1)
     have bp:=jN 1 a.id a.files 0;have D:Hid (∀(G:Nat->Prop) (t:World) (A:Option Addr) (n:Nat),n=a.files.length->Rd G t 9 A n ((eV 1 a.id 0 a.files).flatMap (mi a.path))->fB G t A a.path a.files):=J λG t A n bi e4=>qD e4 bi ae.files ck;have eb:=J ae.files;have af:=J (ac.o.get a bm);obtain⟨M,cy⟩:=I (a.files.length);rw[<-cy]at ck a8 cl bp cx;obtain⟨f8,cm⟩:=I (eV 1 a.id 0 a.files);rw[<-cm]at cj D bp;obtain⟨ap,s0,s1,s2,s4,bv⟩:=a;simp only[cQ]at *;rw[<-cy]at a1 s cj D;have e5:=s.cell 0;have e6:=s.cell 1;have e7:=s.cell 2;have y3:=s.cell 3;have y4:=s.cell 4;have e8:=s.cell 5;obtain⟨db,cn⟩:=I (S+M);rw[<-cn]at a8;have bx:(S:Int)+(M:Int)=(db:Int):=by omega
     have e9:IntKind.i64.wrap ((S:Int)+(M:Int))=(db:Int):=by rw[bx];exact IntWalk.i64_in _ (by omega)
     have ft:(M:Int)<=1000:=by omega
     have fv:(i:Int)<(n:Int):=by omega
     have fx:(0:Int)<=(i:Int):=by omega
     have ec:Hid (wr.alloc (.cells #[.string (str ap),.int .i64 (s0:Int),.int .i64 (s1:Int),.int .i64 (s2:Int),.int .i64 (M:Int),.int .i64 (s4:Int)] 54)=K):=J a1.symm;have dc:Hid (wr.heap.size=u):=J a6.symm;refine bz ?_ a1 a6 l g;clear a1 a6 l g;intro a1 a6 l g;replace hA3:Hid _:=J hA3;refine bX ?_ a0 a7 V s X;clear a0 a7 V s X;intro a0 a7 V s X;replace hA4:Hid _:=J hA4;refine dr ?_ a8 cl bp cy cm cn bx ae bl bm;clear a8 cl bp cy cm cn bx ae bl bm;intro a8 cl bp cy cm cn bx ae bl bm;clear d5;go_upto_region 15 with(fail)
     rw[ec.o,dc.o];clear d8 d9 cM cP cx c5;go_wp2_with fail;go_at_call 15;refine cj.o.mono ?_;rintro e x ⟨B,f9,rfl,al,E,a9,Y,ba⟩;rw[bp.o]at Y ba⊢;have a2:fB (bF al x) x B ap bv:=D.o _ x B M rfl (rT Y ba);have cS:Hid (MT F w gp st (some cb) bH u #[.string (str ap),.int .i64 (s0:Int),.int .i64 (s1:Int),.int .i64 (s2:Int),.int .i64 (M:Int),.int .i64 (s4:Int)] B ap bv x):=J ⟨al,E,V.o.trans a9,hA4.o.ev a9,a2,a9.blk s.o X.o,a9.new X.o s.o.lt⟩;refine bz ?_ E a9 Y ba;clear E a9 Y ba;intro E a9 Y ba;replace a2:Hid _:=J a2;clear cj D e5 e6 e7 y3 y4 e8;obtain⟨fy,cV⟩:=I (wr);rw[<-cV]at *;clear cV;go_wp2_with fail;go_loopw [64] (λv t=>∃j:Nat,j<=M/\v=.int .i64 (j:Int)/\Hid (MT F w gp st (some cb) bH u #[.string (str ap),.int .i64 (s0:Int),.int .i64 (s1:Int),.int .i64 (s2:Int),.int .i64 (M:Int),.int .i64 (s4:Int)] B ap bv t)) (λv _=>M-(intOf v).toNat)
     case atStart=>exact⟨0,by omega,rfl,cS⟩
     case round=>
      obtain⟨j,ga,rfl,co⟩:=hrel;clear cS;by_cases fz:j<M
      ·obtain⟨cz,Z,a3,hA6,cp,bA,ab⟩:=co.o;have d6:j<bv.length:=by have:=cy.o;omega
       obtain⟨f,cA⟩:∃f,bv[j]?=some f:=⟨_,ak d6⟩;have d7:=J (eb.o f (bu cA)).1;obtain⟨dd,rfl,_,d8,d9,cM,cP,cx,c5,de,ee,ef⟩:=cp j f cA;have dj:Hid (∀b,b<4->∃cB,cB=bh b f++aP [(s2:Int),(j:Int)]/\tP st (3+b) cB []):=J λb fa=>⟨_,rfl,af.o j f cA b fa⟩;obtain⟨m,bb⟩:=I (wr.heap.size);obtain⟨am,bc⟩:=I (wr.alloc (.cells (fw ap j f).toArray 61));have L:Ev cz wr cz am:=by rw[bc];exact(Ev.refl cz wr).az _
       have bd:ah am u 54 #[.string (str ap),.int .i64 (s0:Int),.int .i64 (s1:Int),.int .i64 (s2:Int),.int .i64 (M:Int),.int .i64 (s4:Int)]:=L.blk bA ab;have be:ah am m 61 (fw ap j f).toArray:=by rw[bc,bb];exact ah.new wr 61 _
       have cX:Hid (MU F w gp st (some cb) bH u #[.string (str ap),.int .i64 (s0:Int),.int .i64 (s1:Int),.int .i64 (s2:Int),.int .i64 (M:Int),.int .i64 (s4:Int)] (some dd) ap bv m (fw ap j f).toArray am):=J ⟨cz,by rw[bc];exact Z.alloc _,a3.trans L,hA6.ev L,cp.ev L,bd,ab,be,λea=>by have:=Z.lt _ ea;omega⟩;obtain⟨b1,b2,b3,b4,b5,b6,at_⟩:=f;simp only[fw]at *;have fb:=be.cell 1;have z4:=bd.cell 4;have fA:(j:Int)<(M:Int):=by omega
       have fX:(0:Int)<=(j:Int):=by omega
       have eg:Hid (wr.alloc (.cells #[.string (str ap),.int .i64 (j:Int),.string (str b1),.int .i64 (b2:Int),.int .i64 (b3:Int),.int .u32 (b4:Int),.int .i64 (b5:Int),.int .i64 (b6:Int),.int .i64 (at_:Int)] 61)=am):=J bc.symm;have dk:Hid (wr.heap.size=m):=J bb.symm;refine bz ?_ bc bb Z a3;clear bc bb Z a3;intro bc bb Z a3;replace hA6:Hid _:=J hA6;replace cp:Hid _:=J cp;refine dZ ?_ bA ab L bd be cA;clear bA ab L bd be cA;intro bA ab L bd be cA;clear co d6;go_upto_region 22 with(fail)
       rw[eg.o,dk.o];clear d8 d9 cM cP cx c5 de ee ef;obtain⟨er,an⟩:=I (wr);rw[<-an]at *;clear an;go_wp2_with fail;go_loopw [80] (λv t=>∃b:Nat,b<=4/\v=.int .i64 (b:Int)/\Hid (MU F w gp st (some cb) bH u #[.string (str ap),.int .i64 (s0:Int),.int .i64 (s1:Int),.int .i64 (s2:Int),.int .i64 (M:Int),.int .i64 (s4:Int)] (some dd) ap bv m #[.string (str ap),.int .i64 (j:Int),.string (str b1),.int .i64 (b2:Int),.int .i64 (b3:Int),.int .u32 (b4:Int),.int .i64 (b5:Int),.int .i64 (b6:Int),.int .i64 (at_:Int)] t)) (λv _=>4-(intOf v).toNat)
       case atStart=>exact⟨0,by omega,rfl,cX⟩
       case round=>
        obtain⟨b,es,rfl,b7⟩:=hrel;clear cX fb z4;rcases aA b 4 with Q|fY
        ·obtain⟨al,E,ao,hA5,a2,y,z,r,C⟩:=b7.o;obtain⟨x,cr⟩:=I (wr);rw[<-cr]at E ao hA5 a2 y r b7⊢;have cY:=J (bs.o.ev ao);have eh:=J (cf.o.ev ao cg.o);have et:x.cell? ⟨u,3,none⟩=some (.int .i64 (s2:Int)):=y.cell 3;have cM:=r.cell 2;have cP:=r.cell 3;have cx:=r.cell 4;have c5:=r.cell 5;have de:=r.cell 6;have ee:=r.cell 7;have ef:=r.cell 8;have dl:Hid (∀cc am,ar am cc gp st->Ev al x cc am->MU F w gp st (some cb) bH u #[.string (str ap),.int .i64 (s0:Int),.int .i64 (s1:Int),.int .i64 (s2:Int),.int .i64 (M:Int),.int .i64 (s4:Int)] (some dd) ap bv m #[.string (str ap),.int .i64 (j:Int),.string (str b1),.int .i64 (b2:Int),.int .i64 (b3:Int),.int .u32 (b4:Int),.int .i64 (b5:Int),.int .i64 (b6:Int),.int .i64 (at_:Int)] am):=J λcc am ca U=>⟨cc,ca,ao.trans U,hA5.ev U,a2.ev U,U.blk y z,U.new z y.lt,U.blk r C,U.new C r.lt⟩;replace E:=J E;replace ao:=J ao;replace hA5:Hid _:=J hA5;replace a2:Hid _:=J a2;refine bX ?_ y z r C cr;clear y z r C cr;intro y z r C cr;clear b7;obtain⟨T,cD⟩:=I (3+b);obtain⟨cB,b8,af⟩:=dj.o b Q;rw[<-cD]at af;obtain⟨dp,br⟩:=I (bh b ⟨b1,b2,b3,b4,b5,b6,at_⟩);have ex:=J (by rw[br];exact lZ _ d7.o b:dp.length<=100000);rw[<-br]at b8;have c0:Hid (∀W,Below x.heap.size x W->Calls Tryz.prog 36 #[.int .i64 (b:Int),.agg #[.string (str b1),.int .i64 (b2:Int),.int .i64 (b3:Int),.int .u32 (b4:Int),.int .i64 (b5:Int),.int .i64 (b6:Int),.int .i64 (at_:Int)]] W (dH W dp)):=J λW fc=>by rw[br];exact gD W ⟨b1,b2,b3,b4,b5,b6,at_⟩ d7.o (eh.o.below fc) b Q
         have ey:T<7:=by omega
         have fd:x.cell? ⟨gc,1+T,none⟩=some (.pointer (some ⟨ts T,0,none⟩)):=by rw[cY.o.blk.cell,cD];rcases(by omega:b=0\/b=1\/b=2\/b=3)with rfl|rfl|rfl|rfl<;>rfl
         have c1:Hid (∀w' eA,Ev al x eA w'->w'.cell? ⟨gc,1+T,none⟩=some (.pointer (some ⟨ts T,0,none⟩))/\w'.cell? ⟨u,3,none⟩=some (.int .i64 (s2:Int))/\w'.cell? ⟨m,2,none⟩=some (.string (str b1))/\w'.cell? ⟨m,3,none⟩=some (.int .i64 (b2:Int))/\w'.cell? ⟨m,4,none⟩=some (.int .i64 (b3:Int))/\w'.cell? ⟨m,5,none⟩=some (.int .u32 (b4:Int))/\w'.cell? ⟨m,6,none⟩=some (.int .i64 (b5:Int))/\w'.cell? ⟨m,7,none⟩=some (.int .i64 (b6:Int))/\w'.cell? ⟨m,8,none⟩=some (.int .i64 (at_:Int))):=J λW eA ei=>by
          have p:=ei.blk y.o z.o;have c2:=ei.blk r.o C.o;have q:W.cell? ⟨gc,1+T,none⟩=some (.pointer (some ⟨ts T,0,none⟩)):=by rw[(cY.o.ev ei).blk.cell,cD];rcases(by omega:b=0\/b=1\/b=2\/b=3)with rfl|rfl|rfl|rfl<;>rfl
          exact⟨q,p.cell 3,c2.cell 2,c2.cell 3,c2.cell 4,c2.cell 5,c2.cell 6,c2.cell 7,c2.cell 8⟩
         replace af:Hid (tP st T cB []):=J af;have cs:(3:Int)+(b:Int)=(T:Int):=by omega
         have eE:IntKind.i64.wrap ((3:Int)+(b:Int))=(T:Int):=by rw[cs];exact IntWalk.i64_in _ (by omega)
         have eI:(b:Int)<4:=by omega
         have eJ:(0:Int)<=(b:Int):=by omega
         have f0:(T:Int)<7:=by omega
         have f1:(0:Int)<=(T:Int):=by omega
         refine bz ?_ cs cD b8 br;clear cs cD b8 br;intro cs cD b8 br;go_wp2_with fail;go_upto_region 27 with(fail)
         go_region_held3 (λw'=>w'.cell? ⟨gc,1+T,none⟩=some (.pointer (some ⟨ts T,0,none⟩))/\w'.cell? ⟨u,3,none⟩=some (.int .i64 (s2:Int))/\w'.cell? ⟨m,2,none⟩=some (.string (str b1))/\w'.cell? ⟨m,3,none⟩=some (.int .i64 (b2:Int))/\w'.cell? ⟨m,4,none⟩=some (.int .i64 (b3:Int))/\w'.cell? ⟨m,5,none⟩=some (.int .u32 (b4:Int))/\w'.cell? ⟨m,6,none⟩=some (.int .i64 (b5:Int))/\w'.cell? ⟨m,7,none⟩=some (.int .i64 (b6:Int))/\w'.cell? ⟨m,8,none⟩=some (.int .i64 (at_:Int))) (first|exact⟨fd,et,cM,cP,cx,c5,de,ee,ef⟩|(exact c1.o _ al (Ev.ag (by with_reducible first|exact ct.o|exact a4.o|exact a4.o.alloc a4.o.size _)))|(exact c1.o _ _ c3.o)|go_keep) (first
          |(go_at_call 36;refine(c0.o _ (by with_reducible first|exact(Below.refl _ x).drew|exact((Below.refl _ x).alloc (aa _) _).drew)).mono ?_;rintro e ff ⟨gb,rfl,c4,cv⟩;have a4:Hid (Below x.heap.size x ff):=J (Below.trans (by with_reducible first|exact(Below.refl _ x).drew|exact((Below.refl _ x).alloc (aa _) _).drew) (cv.mono (by simp<;>omega)));obtain⟨fg,fh,rfl,D,_,_,_⟩:=c4.form;replace c4:=J c4;replace cv:=J cv;replace D:=J D)
          |(go_at_call 25;refine(eC _ fg dp.length fh _ dp 3 [(s2:Int),(j:Int)] #[.int .i64 (s2:Int),.int .i64 (j:Int)] (by with_reducible first|exact D.o|exact ew D.o _|exact cJ D.o _) (by with_reducible first|exact ah.new _ _ _|exact(ah.new _ _ _).drew|exact(ah.new _ _ _).drew.below cv.o (by simp<;>omega)) rfl ex.o (by simp)).mono ?_;rintro e eK ⟨gd,rfl,b9,c6⟩;rw[<-b8.o]at b9;have ct:Hid (Below x.heap.size x eK):=J (Below.trans (by with_reducible first|exact a4.o|exact a4.o.alloc a4.o.size _) (c6.mono (by have:=a4.o.size;simp<;>omega)));obtain⟨eL,fi,rfl,_,_,f2,_⟩:=b9.form;have ej:=J (MB.made b9 (λk ac=>by have:=E.o.lt k ac;have:=a4.o.size;simp<;>omega):MB al eK eL cB.length cB);replace b9:=J b9;replace c6:=J c6)
          |(go_at_call 35;refine(af.o _ al (ts T) gp eL fi (by with_reducible first|exact E.o.below ct.o) (by with_reducible first|exact(cY.o.tree T ey).ev (Ev.ag ct.o)) (by with_reducible first|exact ej.o)).mono ?_;rintro e am ⟨cc,f3,f4,rfl,c7,c8,_,_⟩;have c3:=J ((Ev.ag ct.o).trans c8:Ev al x cc am);replace c7:=J c7;replace c8:=J c8))
         all_goals
          have ds:=J (dl.o cc am c7.o c3.o);clear eE c1 c0;go_wp2_with fail;go_roundw
          case rel=>exact⟨b+1,by omega,by congr 1,ds⟩
          case measure=>simp[intOf];omega
        ·obtain rfl:b=4:=by omega
         rw[show((4:Nat):Int)=4 from rfl];have dt:Hid (MT F w gp st (some cb) bH u #[.string (str ap),.int .i64 (s0:Int),.int .i64 (s1:Int),.int .i64 (s2:Int),.int .i64 (M:Int),.int .i64 (s4:Int)] (some dd) ap bv wr):=J (by obtain⟨al,ca,U,ek,fj,fk,fl,_,_⟩:=b7.o;exact⟨al,ca,U,ek,fj,fk,fl⟩)
         clear b7;go_wp2_with fail;go_roundw
         case rel=>exact⟨j+1,by omega,by congr 1,dt⟩
         case measure=>simp[intOf];omega
      ·obtain rfl:j=M:=by omega
       have du:Hid (∃d,ar wr d gp st/\Ev F w d wr/\jk (bF d wr) wr (some cb) bH):=J (by obtain⟨al,ca,U,ek,_⟩:=co.o;exact⟨al,ca,U,ek⟩)
       clear co;have eN:Hid (db=eS (bH.take (i+1))):=J a8.o.symm;go_wp2_with fail;go_roundw
       case rel=>exact⟨i+1,db,by omega,by congr 1,rfl,eN,du⟩
       case measure=>simp[intOf];omega
    ·obtain rfl:i=n:=by omega
     have eQ:S=cH:=by rw[d4.o,H.o,bQ (by have:=bi.o;omega)]
     subst eQ;have ce:Hid (∃d,ar wr d gp st/\Ev F w d wr):=J ⟨P,l,g⟩;clear l g hA3 cK eq;obtain⟨er,an⟩:=I (wr);rw[<-an]at ce⊢;replace an:=J an;have f5:(S:Int)<=100000000:=by omega
     go_wp2_with fail;go_loopw [113] (λv t=>∃b:Nat,b<=4/\v=.int .i64 (b:Int)/\Hid (∃d,ar t d gp st/\Ev F w d t)) (λv _=>4-(intOf v).toNat)
     case atStart=>exact⟨0,by omega,rfl,ce⟩
     case round=>
      obtain⟨b,es,rfl,c9⟩:=hrel;clear ce;obtain⟨P,l,g⟩:=c9.o;by_cases Q:b<4
      ·have da:=J (ac.o.range b Q wr P gc gp ts l (bs.o.ev g));rw[<-H.o]at da;have eI:(b:Int)<4:=by omega
       have eJ:(0:Int)<=(b:Int):=by omega
       have el:=J g;replace l:=J l;replace g:=J g;clear c9;go_wp2_with fail;go_at_call 10;refine da.o.mono ?_;rintro e eR ⟨ge,de,rfl,cz,Z,a3⟩;have dv:Hid (∃d,ar eR d gp st/\Ev F w d eR):=J ⟨cz,Z,el.o.trans a3⟩;replace Z:=J Z;replace a3:=J a3;clear da;go_wp2_with fail;go_roundw
       case rel=>exact⟨b+1,by omega,by congr 1,dv⟩
       case measure=>simp[intOf];omega
      ·obtain rfl:b=4:=by omega
       have dy:Hid (cG F w gp st (.int .i64 0) (.returned (.int .i64 0)) wr):=J ⟨rfl,P,l,g⟩;replace l:=J l;replace g:=J g;clear c9;go_wp2_with fail;go_ret;exact dy.o
section
variable {st:aB}{bG:Nat->List KV}{M N:Nat}{bH:List cC}
theorem Io(h:fK st bG M)(b:jA bH bG){a:cC}(c:a∈bH):Kz st a:=λw F gc gp ts e f d=>EO w F gc gp ts st e f d a (b.ok a c) ((Ib h (k:=0) (by omega) _).2 _ ((b.perm 0 (by omega)).mem_iff.2 (aM.2 ⟨a,c,rfl⟩)))
theorem JZ(c:jA bH bG){p:List UInt8}(d:p∉bH.map (·.path)):bK [str p]∉(bG 0).map (·.1):=λa=>by obtain⟨q,f,e⟩:=aM.1 a;obtain⟨b,g,rfl⟩:=aM.1 ((c.perm 0 (by omega)).mem_iff.1 f);exact d (aM.2 ⟨b,g,ve e⟩)
theorem Ip(g:jA bH bG){k:Nat}(b:isRow k){q:KV}(i:q∈bG k):∃a∈bH,∃(j:Nat) (f:aX),a.files[j]?=some f/\q=cO k a.id j f:=by have c:=(g.perm k b.1).mem_iff.1 i;unfold rowsOf at c;rw[if_neg b.2.1,if_neg b.2.2,mem_flatMap]at c;obtain⟨a,l,d⟩:=c;obtain⟨j,f,m,e⟩:=(iB k a.id a.files 0 q).1 d;exact⟨a,l,j,f,m,by rw[e,Nat.zero_add]⟩
theorem Iq(h:fK st bG M)(c:jA bH bG)(g:∀k,k<7->(bG k).length<=N)(z:N<=400000){a:cC}(i:a∈bH):JX st a (eV 1 a.id 0 a.files):=λw F gc gp ts r s=>by
 obtain⟨L,t,u⟩:=rS h (k:=1) (by omega) (aP [(a.id:Int)]) (by have:=g 1 (by omega);omega) (λp v=>by have:=pR c 1 (by omega) p v;omega);refine Ia w F gc gp ts st r s a (c.ok a i).id L _ _ t u (zE c (iC h (by omega)) i) (λq l=>?_) (by
  have m:(jb (aP [(a.id:Int)]) (bG 1)).length<=(bG 1).length:=by unfold jb;rw[aQ];omega
  have:=g 1 (by omega);omega)
 have n:q∈bG 1:=by unfold jb at l;exact mem_of_mem_drop l
 obtain⟨b,x,j,f,o,e⟩:=Ip c (k:=1) ⟨by omega,by omega,by omega⟩ n;have d:=c.ok b x;have A:=(ay.1 o).1;obtain⟨m,y⟩:=d.files f (bu o);exact⟨b.id,j,f,by have:=d.many;omega,vC m y,e⟩
theorem Lp(h:fK st bG M)(b:jA bH bG)(c:∀k,k<7->(bG k).length<=N)(o:N<=400000)(d:bG 0=bH.map fL)(w:World)(F:Nat->Prop)(gc gp:Nat)(ts:Nat->Nat)(g:ar w F gp st)(i:fD w F gc gp ts):Calls Tryz.prog 33 #[.pointer (some ⟨gc,0,none⟩)] w (oD 54 6 lG F w gp st (bH.map fL)):=by obtain⟨L,j,f⟩:=rS h (k:=0) (by omega) [] (by have:=c 0 (by omega);omega) (λp l=>by have:=pR b 0 (by omega) p l;omega);rw[qw (iC h (by omega)),d]at f;refine EL w F gc gp ts st g i L _ j f (λq m=>?_) (by have:=c 0 (by omega);rw[d]at this;omega);obtain⟨a,n,e⟩:=aM.1 m;exact⟨a,b.ok a n,e.symm⟩
theorem J0(h:fK st bG M)(g:jA bH bG)(i:∀k,k<7->(bG k).length<=N)(E:N<=400000)(o:Nat)(y:o<=3)(w:World)(F:Nat->Prop)(gc gp:Nat)(ts:Nat->Nat)(z:ar w F gp st)(A:fD w F gc gp ts)(from_ a:List UInt8)(d e:Option Addr)(fl l c m:Nat)(n:from_.length=fl)(r:a.length=c)(s:MB F w d fl from_)(t:fl<=100000)(u:MB F w e c a):Calls Tryz.prog 10 #[.pointer (some ⟨gc,0,none⟩),.int .i64 (o:Int),.slice d fl l,.slice e c m] w (tJ F w gp st ((jb from_ (bG (3+o))).takeWhile (bW a))):=by
 obtain⟨L,B,C⟩:=rS h (k:=3+o) (by omega) from_ (by have:=i (3+o) (by omega);omega) (λp D=>by have:=pR g (3+o) (by omega) p D;omega);refine tK w F gc gp ts st z A o y from_ a d e fl l c m n r s t u L _ B C (λq v=>?_) (by
  have H:(jb from_ (bG (3+o))).length<=(bG (3+o)).length:=by unfold jb;rw[aQ];omega
  have:=i (3+o) (by omega);omega)
 have x:q∈bG (3+o):=by unfold jb at v;exact mem_of_mem_drop v
 obtain⟨b,K,j,f,s,rfl⟩:=Ip g (k:=3+o) ⟨by omega,by omega,by omega⟩ x;have G:=lE (b.id:Int) (j:Int);unfold cO;split
 ·simp only[];omega
 ·simp only[aq];omega
theorem MV(h:fK st bG M)(d:jA bH bG)(g:∀k,k<7->(bG k).length<=N)(v:N<=100000)(l:bG 0=bH.map fL):Na st bH where
 Me w F gc gp ts hP hc:=Lp h d g (by omega) l w F gc gp ts hP hc
 tree k hk w F gt gp hP hT:=by obtain⟨fl,q,U,m,x,_⟩:=h.one hk;obtain⟨L,P,O,n,r,_⟩:=m;have s:=r.len;exact DZ w F gt gp k st hP hT (by omega) L P n (by have:=g k hk;omega)
 Nb a ha:=Iq h d g (by omega) ha
 get a ha j f hf b hb:=by
  have i:=row_in d ha hf (3+b) (by omega) (by omega) (by omega);have e:cO (3+b) a.id j f=(bh b f++aP [(a.id:Int),(j:Int)],[]):=by unfold cO;rw[if_neg (by omega),Nat.add_sub_cancel_left]
  rw[e]at i;exact(Ib h (k:=3+b) (by omega) _).2 _ i
 range b hb w F gc gp ts hP hc:=by
  refine(J0 h d g (by omega) b (by omega) w F gc gp ts hP hc [] [] none none 0 0 0 0 rfl rfl (MB.nil _) (by omega) (MB.nil _)).mono ?_;rw[qw (iC h (by omega)),nF];rintro e w' ⟨A,c,rfl,t,o,p,_⟩;have u:(bG (3+b)).length=eS bH:=by rw[(d.perm (3+b) (by omega)).length_eq,vg bH (3+b) (by omega) (by omega)]
  exact⟨A,c,by rw[u],t,o,p⟩
 ok:=d.ok
 len:=by have i:=g 0 (by omega);rw[l,length_map]at i;omega
def iD(bH:List cC):Nat:=(bH.map (·.id)).foldr max 0
theorem tQ:∀(l:List cC),(∀a∈l,a.id<=iD l)/\(l=[]\/∃a∈l,a.id=iD l)
 |[]=>⟨(λa b=>by cases b),.inl rfl⟩
 |x::c=>by
  obtain⟨d,f⟩:=tQ c
  have e:iD (x::c)=max x.id (iD c):=rfl
  rw[e]
  refine⟨λa b=>?_,.inr ?_⟩
  ·rcases mem_cons.1 b with rfl|b
   ·omega
   ·have:=d a b;omega
  ·rcases f with rfl|⟨a,b,g⟩
   ·exact⟨x,.head _,by have:iD []=0:=rfl
                       omega⟩
   ·by_cases i:iD c<=x.id
    ·exact⟨x,.head _,by omega⟩
    ·exact⟨a,.tail _ b,by omega⟩
theorem Ir(h:fK st bG M)(c:jA bH bG):iV (bG 2)=iD bH:=by
 obtain⟨d,f,g⟩:=BR c (iC h (by omega));obtain⟨g1,i⟩:=tQ bH;by_cases e:bH=[]
 ·rw[f e,e];rfl
 ·obtain⟨a,j,m⟩:=g e;rcases i with k|⟨b,l,n⟩
  ·exact absurd k e
  ·have:=d b l;have:=g1 a j;omega
theorem MW(h:fK st bG M)(b:jA bH bG)(c:∀k,k<7->(bG k).length<=N)(l:N<=400000):M8 st (iD bH+1):=λw F gc gp ts e f=>by
 obtain⟨L,g,d⟩:=rS h (k:=2) (by omega) [] (by have:=c 2 (by omega);omega) (λp i=>by have:=pR b 2 (by omega) p i;omega);rw[qw (iC h (by omega))]at d;have q:=zT w F gc gp ts st e f L _ g d (λq j=>by obtain⟨a,m,rfl⟩:=aM.1 ((b.perm 2 (by omega)).mem_iff.1 j);have:=nz (a.id:Int);show 6<=(aP [(a.id:Int)]).length;omega) (by have:=c 2 (by omega);omega)
 rw[Ir h b]at q;exact q
end
section
variable {w0 w:World}{gc gp M N:Nat}{ts:Nat->Nat}{bH:List cC}{F:Nat->Prop}
theorem fR.ml(h:fR w0 gc gp ts bH M N F w)(a:iF w0):iF w/\¬F 2:=⟨a.below h.bl,λb=>by have:=h.up _ b;have:=a.1;omega⟩
theorem Iu(h:fR w0 gc gp ts bH M N F w)(D:mc w0)(p:iF w0)(c:List UInt8)(a long:Nat)(j:Option Addr)(n q:Nat)(f:List aX)(d:(⟨c,a,long,iD bH+1,0,f⟩:cC).ok)(r:c∉bH.map (·.path))(s:jJ (bF F w) w j f)(E:f.length=n)(G:M+(5*n+2)*(43+(N+n+1))<=65536):Calls Tryz.prog 8 #[.pointer (some ⟨gc,0,none⟩),.string (str c),.int .i64 (a:Int),.int .i64 (long:Int),.slice j n q,.int .i64 0] w λe w'=>e=.returned (.int .i64 0)/\∃g,fR w0 gc gp ts (⟨c,a,long,iD bH+1,0,f⟩::bH) (M+(5*n+2)*(43+(N+n+1))) (N+n+1) g w'/\Ev F w g w':=by
 obtain⟨t,u⟩:=h.ml p;have v:=D.below h.bl;obtain⟨st,bG,H,l,m,x⟩:=h.st;have Q:N<=65536:=by have:1*(43+(N+n+1))<=(5*n+2)*(43+(N+n+1)):=mul_le_mul_right _ (by omega);omega
 have o:(iD bH+1)∉bH.map (·.id):=λy=>by obtain⟨b,K,e⟩:=aM.1 y;have:=(tQ bH).1 b K;omega
 subst E;obtain⟨bg,dC,ja,L,p1,p2,O,z,A,B⟩:=H5 (N:=N+f.length+1) l m ⟨c,a,long,iD bH+1,0,f⟩ d o r (λk P=>by have:=x k P;simp only[];omega) G;refine(zM w F gc gp ts st bg dC ja H h.at_ v t u c a long (iD bH+1) j f.length q f d.path.1 d.path.2 d.stamp d.long s rfl d.many d.files ((Ib l (k:=0) (by omega) _).1 (JZ m r)) (MW l m x (by omega)) p1 p2 (by have:=d.id.2;simp only[]at this;omega) O).mono ?_;rintro e w' ⟨rfl,g,C,i⟩;exact⟨rfl,g,h.ev i C z A B,i⟩
theorem J3(h:fR w0 gc gp ts bH M N F w)(d:iF w0){a:cC}(k:a∈bH):Calls Tryz.prog 14 #[.pointer (some ⟨gc,0,none⟩),.string (str a.path)] w λe w'=>e=.returned (.tuple #[.agg (cQ a).toArray,.bool true,.int .i64 0])/\∃b,fR w0 gc gp ts bH M N b w'/\Ev F w b w':=by obtain⟨f,n⟩:=h.ml d;obtain⟨st,bG,l,g,i,m⟩:=h.st;refine(Io g i k w F gc gp ts l h.at_ f).mono ?_;rintro e w' ⟨rfl,b,j,c⟩;exact⟨rfl,b,h.ev c j g i m,c⟩
theorem Lr(h:fR w0 gc gp ts bH M N F w)(m:N<=400000){a:cC}(n:a∈bH):Calls Tryz.prog 15 #[.pointer (some ⟨gc,0,none⟩),.agg (cQ a).toArray] w λe w'=>∃A c d,e=.returned (.tuple #[.slice A a.files.length c,.int .i64 0])/\fR w0 gc gp ts bH M N d w'/\Ev F w d w'/\fB (bF d w') w' A a.path a.files/\a.files.length<=c:=by
 obtain⟨st,bG,r,o,k,p⟩:=h.st;have f:=k.ok a n;refine(Iq o k p m n w F gc gp ts r h.at_).mono ?_;rintro e w' ⟨A,c,rfl,d,q,i,b,j⟩;have s:=jN 1 a.id a.files 0;rw[s]at b j⊢;refine⟨A,c,d,rfl,h.ev i q o k p,i,qD (rT b j) rfl f.files f.many,?_⟩;rcases b.2 with⟨l,x⟩|⟨g,cap,v,l,_,_,y,_⟩
 ·injection l with _ t u;omega
 ·injection l with _ t u;omega
theorem Iw(h:fR w0 gc gp ts bH M N F w)(c:iF w0)(d:N<=100000):Calls Tryz.prog 12 #[.pointer (some ⟨gc,0,none⟩)] w λe w'=>e=.returned (.int .i64 0)/\∃a,fR w0 gc gp ts bH M N a w'/\Ev F w a w':=by obtain⟨f,g⟩:=h.ml c;obtain⟨st,bG,o,i,j,k⟩:=h.st;obtain⟨p,q,l,m⟩:=j.sort;refine(Cb w F gc gp ts st o h.at_ f g p (MV i l k d m)).mono ?_;rintro e w' ⟨rfl,a,n,b⟩;exact⟨rfl,a,h.ev b n i j k,b⟩
theorem Ls{a:cC}(h:fR w0 gc gp ts (a::bH) M N F w)(g:iF w0)(p:M+(5*a.files.length+2)*(43+N)<=65536):Calls Tryz.prog 16 #[.pointer (some ⟨gc,0,none⟩),.string (str a.path)] w λe w'=>e=.returned (.int .i64 0)/\∃b,fR w0 gc gp ts bH (M+(5*a.files.length+2)*(43+N)) N b w'/\Ev F w b w':=by
 obtain⟨i,j⟩:=h.ml g;obtain⟨st,bG,q,f,c,k⟩:=h.st;have v:N<=65536:=by have:1*(43+N)<=(5*a.files.length+2)*(43+N):=mul_le_mul_right _ (by omega);omega
 obtain⟨bg,dC,ja,r,s,t,u,l,m,n⟩:=H6 f c k p;refine(Ic w F gc gp ts st bg dC ja q h.at_ i j a (c.ok a (.head _)) (Io f c (.head _)) (Iq f c k (by omega) (.head _)) s t u).mono ?_;rintro e w' ⟨rfl,b,o,d⟩;exact⟨rfl,b,h.ev d o l m n,d⟩
end
end
section
open Go.RowKit
def pT(a:Int):Bool:=!(decide (a<32)||a==127)
theorem vD(s:ByteArray):∀(f pos:Nat),eW s f pos=(jX f (s.data.toList.drop pos)).all pT
 |0,pos=>rfl
 |f+1,pos=>by
  rw[eW,jX]
  by_cases h:pos<s.size
  ·have a:s.data.toList.drop pos≠[]:=by intro e;have:=congrArg List.length e;simp at this;have:=iM s;omega
   rw[if_pos h,if_neg a,Lib.decodeL_drop,all_cons];have ih:=vD s f (pos+(Utf8.decode s pos).2);rw[drop_drop];have e:pT ((Utf8.decode s pos).1:Int)=!kQ (Utf8.decode s pos).1:=by
    unfold pT kQ;have b:decide (((Utf8.decode s pos).1:Int)<32)=decide ((Utf8.decode s pos).1<32):=by rw[decide_eq_decide];omega
    have c:(((Utf8.decode s pos).1:Int)==127)=((Utf8.decode s pos).1==127):=by rw[Bool.eq_iff_iff,beq_iff_eq,beq_iff_eq];omega
    rw[b,c]
   rw[e,<-ih];cases kQ (Utf8.decode s pos).1<;>simp
  ·have d:s.data.toList.drop pos=[]:=drop_eq_nil_of_le (by rw[iM];omega);rw[if_neg h,if_pos d];rfl
theorem J4(l:List UInt8)(b:List Int)(h:jt [] l=some b)(c:1<=l.length)(d:l.length<=40)(e:∀g∈b,pT g=true):kR (str l)=true:=by
 rw[DF]at h;by_cases a:Lib.validD l=true
 ·rw[if_pos a]at h;injection h with h;have f:eW (str l) (str l).size 0=true:=by rw[vD,drop_zero,<-yf,h];exact all_eq_true.2 e
  unfold kR;rw[f,fW,a,dV,aV c,aV d];rfl
 ·rw[if_neg a]at h;cases h
theorem ints_at{w:World}{b n:Nat}{v:Value}{l:List Int}(h:OI w b v n l):∃A c,v=.slice A n c/\n<=maxLen/\∀(k:Nat) (z:Int),l[k]?=some z->∃i,A=some i/\w.cell? (i.add k)=some (.int .i64 z):=by
 obtain⟨a,p⟩:=h;rcases p with⟨rfl,d⟩|⟨g,cap,j,rfl,q,r,s,m,o,t⟩
 ·refine⟨none,0,by rw[d],by rw[d];exact zero_le _,λk z f=>?_⟩;rw[d]at a;have:l.length=0:=by simpa[iv]using a
  have:=(ay.1 f).1;omega
 ·have u:=World.ownsRow.cells (w:=w) (base:=b) (e:=3) (size:=1) (n:=n) (xs:=iv l) ⟨a,.inr ⟨g,cap,j,rfl,q,r,s,m,o,t⟩⟩ (g:=g) rfl;exact⟨some ⟨g,0,none⟩,cap,rfl,by omega,λk z f=>⟨_,rfl,u k _ (by unfold iv;rw[getElem?_map,f];rfl)⟩⟩
def oF(P:Prop)(w:World)(e:Ending)(w':World):Prop:=∃b:Bool,e=.returned (.bool b)/\Below w.heap.size w w'/\(b=true->P)
theorem Iy(w:World)(A:Option Addr)(n c:Nat)(l:List UInt8)(h:RB w w.heap.size A n l)(a7:n<=1048576)(ac:n<=c):Calls Tryz.prog 37 #[.slice A n c] w (oF (kR (str l)=true) w):=by
 have Q:=J (FM w A n c l h a7 ac);have q:=h.len;replace h:=J h;clear ac;have bc:(n:Int)<=1048576:=by omega
 go_enter Tryz.func37,Tryz.ntmps37;go_wp2_with fail;go_at_call 85;refine Q.o.mono ?_;rintro e x ⟨d,ad⟩;have K:∀W,Below w.heap.size w W->oF (kR (str l)=true) w (.returned (.bool false)) W:=λW ap=>⟨false,rfl,ap,λh=>by cases h⟩;replace K:=J K;rcases ad with⟨B,v,r,rfl,S⟩|⟨r,rfl⟩
 ·obtain⟨ae,a0,rfl,am,s⟩:=ints_at S;have G:Hid (1<=n->n<=40->(∀(k:Nat) (z:Int),k<B.length->B[k]?=some z->pT z=true)->∀W,Below w.heap.size w W->oF (kR (str l)=true) w (.returned (.bool true)) W):=J λm p a8 W ap=>⟨true,rfl,ap,λ_=>J4 l B r (by omega) (by omega) λbd a9=>by obtain⟨k,E⟩:=mem_iff_getElem?.1 a9;exact a8 k bd (ay.1 E).1 E⟩
  obtain⟨P,O⟩:=I (B.length);rw[<-O]at am S G⊢;unfold maxLen at am;obtain⟨g,t⟩:=I (x.heap.size);obtain⟨u,a⟩:=I (x.alloc (.cells #[.slice ae P a0,.bool true] 163));have f:ah u g 163 #[.slice ae P a0,.bool true]:=by rw[a,t];exact ah.new x 163 _
  have i:Below w.heap.size w u:=by rw[a];exact d.alloc d.size _
  have T:Hid (∀(k:Nat) (z:Int),B[k]?=some z->∃U,ae=some U/\u.cell? (U.add k)=some (.int .i64 z)):=J λk z E=>by obtain⟨U,e,ac⟩:=s k z E;exact⟨U,e,by rw[a];exact Lib.cell?_alloc_some _ ac⟩
  have bl:=f.cell 0;have ba:=f.cell 1;have H:Hid (x.alloc (.cells #[.slice ae P a0,.bool true] 163)=u):=J a.symm;have V:Hid (x.heap.size=g):=J t.symm;have b:=J (K.o u i);refine dr ?_ a t f d i S s r O q;clear a t f d i S s r O q;intro a t f d i S s r O q;clear Q;go_upto_region 2 with(fail)
  rw[H.o,V.o];by_cases m:n<1
  ·have a1:decide ((n:Int)<1)=true:=aV (by omega);replace m:=J m;go_wp2_with fail;go_ret;exact b.o
  have a1:decide ((n:Int)<1)=false:=aD (by omega);by_cases p:40<n
  ·have a2:decide (40<(n:Int))=true:=aV (by omega);have X:decide (40<n)=true:=aV p;replace m:=J m;replace p:=J p;go_wp2_with fail;go_ret;exact b.o
  have a2:decide (40<(n:Int))=false:=aD (by omega);have X:decide (40<n)=false:=aD p;have af:=J (G.o (by omega) (by omega));have an:Hid (∀(k:Nat) (z:Int),k<0->B[k]?=some z->pT z=true):=J λk z E=>absurd E (by omega);replace m:=J m;replace p:=J p;clear G;go_wp2_with fail;go_loopw [4] (λv bb=>∃j:Nat,j<=P/\v=.int .i64 (j:Int)/\Hid (∀(k:Nat) (z:Int),k<j->B[k]?=some z->pT z=true)/\bb=u) (λv _=>P-(intOf v).toNat)
  case atStart=>exact⟨0,by omega,rfl,an,rfl⟩
  case round=>
   obtain⟨j,bm,rfl,Y,a3⟩:=hrel;subst a3;clear an;by_cases be:j<P
   ·have L:j<B.length:=by have:=O.o;omega
    obtain⟨z,C⟩:∃z,B[j]?=some z:=⟨_,ak L⟩;obtain⟨U,rfl,bp⟩:=T.o j z C;have bi:(j:Int)<(P:Int):=by omega
    have bj:(0:Int)<=(j:Int):=by omega
    by_cases D:z<32
    ·have ao:decide (z<32)=true:=aV D;replace C:=J C;replace D:=J D;clear L;go_wp2_with fail;go_ret;exact b.o
    ·have ao:decide (z<32)=false:=aD D;by_cases Z:z=127
     ·subst Z;replace C:=J C;replace D:=J D;clear L;go_wp2_with fail;go_ret;exact b.o
     ·have a4:(z==127)=false:=aZ.2 Z;have al:Hid (∀(k:Nat) (z:Int),k<j+1->B[k]?=some z->pT z=true):=J λk y E ab=>by
       rcases aA k j with a5|a5
       ·exact Y.o k y a5 ab
       ·obtain rfl:k=j:=by omega
        rw[C]at ab;injection ab with ab;subst ab;unfold pT;rw[ao,a4];rfl
      refine bf ?_ C D Z;clear C D Z;intro C D Z;clear L;go_wp2_with fail;go_roundw
      case rel=>exact⟨j+1,by omega,by congr 1,al,by first|rfl|trivial⟩
      case measure=>simp[intOf];omega
   ·obtain rfl:j=P:=by omega
    have a6:=J (af.o (λk z E=>Y.o k z (by have:=O.o;omega)) wr i.o);go_wp2_with fail;go_ret;exact a6.o
 ·obtain⟨g,t⟩:=I (x.heap.size );obtain⟨u,a⟩:=I (x.alloc (.cells #[.slice none 0 0,.bool false] 163));have f:ah u g 163 #[.slice none 0 0,.bool false]:=by rw[a,t];exact ah.new x 163 _
  have i:Below w.heap.size w u:=by rw[a];exact d.alloc d.size _
  have ba:=f.cell 1;have H:Hid (x.alloc (.cells #[.slice none 0 0,.bool false] 163)=u):=J a.symm;have V:Hid (x.heap.size=g):=J t.symm;have b:=J (K.o u i);refine eD ?_ a t f d i r q;clear a t f d i r q;intro a t f d i r q;clear Q;go_upto_region 2 with(fail)
  rw[H.o,V.o];by_cases m:n<1
  ·have a1:decide ((n:Int)<1)=true:=aV (by omega);replace m:=J m;go_wp2_with fail;go_ret;exact b.o
  have a1:decide ((n:Int)<1)=false:=aD (by omega);by_cases p:40<n
  ·have a2:decide (40<(n:Int))=true:=aV (by omega);have X:decide (40<n)=true:=aV p;replace m:=J m;replace p:=J p;go_wp2_with fail;go_ret;exact b.o
  have a2:decide (40<(n:Int))=false:=aD (by omega);have X:decide (40<n)=false:=aD p;replace m:=J m;replace p:=J p;go_wp2_with fail;go_ret;exact b.o
theorem zV(s:ByteArray):∃(K:World->Nat) (C:World->Obj),(∀w,(convert 9 23 (.string s)).run Tryz.prog w=.ok (.slice (some ⟨w.heap.size,0,none⟩) s.size (K w)) (w.drew.alloc (C w)))/\ ∀w,s.size<=K w/\RB (w.drew.alloc (C w)) (w.heap.size+1) (some ⟨w.heap.size,0,none⟩) s.size s.data.toList:=by refine⟨λw=>grownCap w s.size 0 5,λw=>.cells (bytesRow s (grownCap w s.size 0 5)) 5 ((bytesRow s (grownCap w s.size 0 5)).size,(bytesRow s (grownCap w s.size 0 5)).size+1),λw=>run_bytes_of_string w 9 23 5 s Tryz.underlying9 Tryz.underlying23 Tryz.underlying5,λw=>⟨grownCap_ge _ _ _ _,by simp[bv],λ_=>⟨_,rfl,by simp,λj u b=>?_⟩⟩⟩;have c:(w.drew.alloc (.cells (bytesRow s (grownCap w s.size 0 5)) 5 ((bytesRow s (grownCap w s.size 0 5)).size,(bytesRow s (grownCap w s.size 0 5)).size+1))).heap[w.heap.size]?=some (.cells (bytesRow s (grownCap w s.size 0 5)) 5 ((bytesRow s (grownCap w s.size 0 5)).size,(bytesRow s (grownCap w s.size 0 5)).size+1)):=heap_alloc_new _ _;rw[show(⟨w.heap.size,0,none⟩:Addr).add j=⟨w.heap.size,j,none⟩from by unfold Addr.add;split<;>simp_all,cell_of_row _ _ _ _ _ _ c];have a:=(ay.1 b).1;simp[bv]at a;unfold bytesRow;rw[Array.getElem?_append_left (by simpa using a)];simpa[bv]using b
theorem Cc(w:World)(x m:Int):Calls Tryz.prog 27 #[.int .i64 x,.int .i64 m] w λe w'=>e=.returned (.bool (decide (0<=x)&&decide (x<=m)))/\w=w':=by
 by_cases a:0<=x
 ·have b:decide (0<=x)=true:=aV a;rw[b,Bool.true_and];replace a:=J a;go_enter Tryz.func27,Tryz.ntmps27;go_wp2_with fail;go_ret;exact⟨rfl,rfl⟩
 ·have b:decide (0<=x)=false:=aD a;rw[b,Bool.false_and];replace a:=J a;go_enter Tryz.func27,Tryz.ntmps27;go_wp2_with fail;go_ret;exact⟨rfl,rfl⟩
theorem EU(w:World)(f:jE)(X:f.name.length<=1048576):Calls Tryz.prog 13 #[.agg #[.string (str f.name),.int .i64 f.cI,.int .i64 f.gX,.int .u32 f.crc,.int .i64 f.bR,.int .i64 f.size,.int .i64 f.at_]] w (oF (gH f=true) w):=by
 obtain⟨r,cI,gX,A,bR,size,at_⟩:=f;simp only at *;obtain⟨g,Q⟩:=I (w.heap.size);obtain⟨k,t⟩:=I (w.alloc (.cells #[.string (str r),.int .i64 cI,.int .i64 gX,.int .u32 A,.int .i64 bR,.int .i64 size,.int .i64 at_] 49));have u:ah k g 49 #[.string (str r),.int .i64 cI,.int .i64 gX,.int .u32 A,.int .i64 bR,.int .i64 size,.int .i64 at_]:=by rw[t,Q];exact ah.new w 49 _
 have m:Below w.heap.size w k:=by rw[t];exact(Below.refl _ w).alloc (aa _) _
 obtain⟨K,C,L,O⟩:=zV (str r);rw[dV,fW]at O;rw[dV]at L;have v:Hid (∀a:World,Calls Tryz.prog 37 #[.slice (some ⟨a.heap.size,0,none⟩) r.length (K a)] (a.drew.alloc (C a)) (oF (kR (str r)=true) (a.drew.alloc (C a)))):=J λa=>by obtain⟨a4,a5⟩:=O a;exact Iy _ _ r.length (K a) r (a5.more (by simp)) X a4
 have s:=J Cc;have x:Hid (∀W,Below w.heap.size w W->oF (gH ⟨r,cI,gX,A,bR,size,at_⟩=true) w (.returned (.bool false)) W):=J λW S=>⟨false,rfl,S,λh=>by cases h⟩;have l:Hid (∀(p:Bool) (W:World),(p=true->kR (str r)=true)->p=true->(cI=0\/cI=8)->Below w.heap.size w W->oF (gH ⟨r,cI,gX,A,bR,size,at_⟩=true) w (.returned (.bool (decide (0<=gX)&&decide (gX<=4294967295)&&(decide (0<=bR)&&decide (bR<=4294967295))&&(decide (0<=at_)&&decide (at_<=4294967295))&&(decide (0<=size)&&decide (size<=281474976710655))))) W):=J λp W a6 a7 a8 S=>⟨_,rfl,S,λad=>by
  unfold gH xL;have ae:(cI==0||cI==8)=true:=by rcases a8 with rfl|rfl<;>decide
  simp only[Bool.and_eq_true]at ad;obtain⟨⟨⟨⟨a9,ba⟩,bb,bc⟩,bd,be⟩,bi,bj⟩:=ad;simp only[a6 a7,ae,all_cons,all_nil,a9,ba,bb,bc,bd,be,bi,bj,Bool.and_self]⟩
 have br:=u.cell 0;have y:Hid (∀W,Below k.heap.size k W->W.cell? ⟨g,1,none⟩=some (.int .i64 cI)/\W.cell? ⟨g,2,none⟩=some (.int .i64 gX)/\W.cell? ⟨g,4,none⟩=some (.int .i64 bR)/\W.cell? ⟨g,5,none⟩=some (.int .i64 size)/\W.cell? ⟨g,6,none⟩=some (.int .i64 at_)):=J λW S=>by have q:=u.below S u.lt;exact⟨q.cell 1,q.cell 2,q.cell 4,q.cell 5,q.cell 6⟩
 have Y:Hid (w.alloc (.cells #[.string (str r),.int .i64 cI,.int .i64 gX,.int .u32 A,.int .i64 bR,.int .i64 size,.int .i64 at_] 49)=k):=J t.symm;have af:Hid (w.heap.size=g):=J Q.symm;refine bz ?_ t Q u m;clear t Q u m;intro t Q u m;replace O:Hid _:=J O;replace X:=J X;go_enter Tryz.func13,Tryz.ntmps13;go_upto_region 1 with(fail)
 rw[Y.o,af.o];have H:=L k;replace L:Hid _:=J L;obtain⟨Z,B⟩:=I ((decide (0<=gX)&&decide (gX<=4294967295)));obtain⟨ab,D⟩:=I ((decide (0<=bR)&&decide (bR<=4294967295)));obtain⟨ac,E⟩:=I ((decide (0<=at_)&&decide (at_<=4294967295)));obtain⟨bl,G⟩:=I ((decide (0<=size)&&decide (size<=281474976710655)));have al:Hid (∀a,Calls Tryz.prog 27 #[.int .i64 gX,.int .i64 4294967295] a λe w'=>e=.returned (.bool Z)/\a=w'):=J λa=>by rw[B];exact s.o a _ _
 have am:Hid (∀a,Calls Tryz.prog 27 #[.int .i64 bR,.int .i64 4294967295] a λe w'=>e=.returned (.bool ab)/\a=w'):=J λa=>by rw[D];exact s.o a _ _
 have an:Hid (∀a,Calls Tryz.prog 27 #[.int .i64 at_,.int .i64 4294967295] a λe w'=>e=.returned (.bool ac)/\a=w'):=J λa=>by rw[E];exact s.o a _ _
 have ao:Hid (∀a,Calls Tryz.prog 27 #[.int .i64 size,.int .i64 281474976710655] a λe w'=>e=.returned (.bool bl)/\a=w'):=J λa=>by rw[G];exact s.o a _ _
 rw[<-B,<-D,<-E,<-G]at l;refine bX ?_ B D E G s;clear B D E G s;intro B D E G s;have P:Hid (cI=0\/cI=8\/((cI==0)=false/\(cI==8)=false)):=J (by
  by_cases U:cI=0
  ·exact .inl U
  ·by_cases V:cI=8
   ·exact .inr (.inl V)
   ·exact .inr (.inr ⟨aZ.2 U,aZ.2 V⟩))
 rcases P.o with rfl|rfl|⟨U,V⟩
 ·clear P;go_wp2_with fail;go_at_call 37;refine(v.o _).mono ?_;rintro e n ⟨p,rfl,d,i⟩;have b:Below k.heap.size k n:=((Below.refl _ k).drew.alloc (aa _) (C k)).trans (d.mono (by simp));have c:=m.o.trans (b.mono m.o.size);obtain⟨ap,a0,a1,a2,a3⟩:=y.o n b;have j:=J (x.o n c);have z:=J (l.o p n i);refine bz ?_ d b c i;clear d b c i;intro d b c i;clear H v x l y;cases p with
  |false=>
   go_wp2_with fail
   go_ret
   exact j.o
  |true=>
   have T:=J (z.o rfl (by simp) c.o)
   clear z
   go_wp2_with fail
   go_at_call 27
   refine(al.o _).mono ?_
   rintro e a ⟨rfl,rfl⟩
   cases Z with
   |false=>
    go_wp2_with fail
    go_ret
    exact j.o
   |true=>
    go_wp2_with fail
    go_at_call 27
    refine(am.o _).mono ?_
    rintro e a ⟨rfl,rfl⟩
    cases ab with
    |false=>
     go_wp2_with fail
     go_ret
     exact j.o
    |true=>
     go_wp2_with fail
     go_at_call 27
     refine(an.o _).mono ?_
     rintro e a ⟨rfl,rfl⟩
     cases ac with
     |false=>
      go_wp2_with fail
      go_ret
      exact j.o
     |true=>
      go_wp2_with fail
      go_at_call 27
      refine(ao.o _).mono ?_
      rintro e a ⟨rfl,rfl⟩
      go_wp2_with fail
      go_ret
      exact T.o
 ·clear P;go_wp2_with fail;go_at_call 37;refine(v.o _).mono ?_;rintro e n ⟨p,rfl,d,i⟩;have b:Below k.heap.size k n:=((Below.refl _ k).drew.alloc (aa _) (C k)).trans (d.mono (by simp));have c:=m.o.trans (b.mono m.o.size);obtain⟨ap,a0,a1,a2,a3⟩:=y.o n b;have j:=J (x.o n c);have z:=J (l.o p n i);refine bz ?_ d b c i;clear d b c i;intro d b c i;clear H v x l y;cases p with
  |false=>
   go_wp2_with fail
   go_ret
   exact j.o
  |true=>
   have T:=J (z.o rfl (by simp) c.o)
   clear z
   go_wp2_with fail
   go_at_call 27
   refine(al.o _).mono ?_
   rintro e a ⟨rfl,rfl⟩
   cases Z with
   |false=>
    go_wp2_with fail
    go_ret
    exact j.o
   |true=>
    go_wp2_with fail
    go_at_call 27
    refine(am.o _).mono ?_
    rintro e a ⟨rfl,rfl⟩
    cases ab with
    |false=>
     go_wp2_with fail
     go_ret
     exact j.o
    |true=>
     go_wp2_with fail
     go_at_call 27
     refine(an.o _).mono ?_
     rintro e a ⟨rfl,rfl⟩
     cases ac with
     |false=>
      go_wp2_with fail
      go_ret
      exact j.o
     |true=>
      go_wp2_with fail
      go_at_call 27
      refine(ao.o _).mono ?_
      rintro e a ⟨rfl,rfl⟩
      go_wp2_with fail
      go_ret
      exact T.o
 ·have bm:(cI !=0)=true:=by unfold bne;rw[U];rfl
  have bp:(cI !=8)=true:=by unfold bne;rw[V];rfl
  clear P;go_wp2_with fail;go_at_call 37;refine(v.o _).mono ?_;rintro e n ⟨p,rfl,d,i⟩;have b:Below k.heap.size k n:=((Below.refl _ k).drew.alloc (aa _) (C k)).trans (d.mono (by simp));have c:=m.o.trans (b.mono m.o.size);obtain⟨ap,a0,a1,a2,a3⟩:=y.o n b;have j:=J (x.o n c);have z:=J (l.o p n i);refine bz ?_ d b c i;clear d b c i;intro d b c i;clear H v x l y;cases p with
  |false=>
   go_wp2_with fail
   go_ret
   exact j.o
  |true=>
   go_wp2_with fail
   go_ret
   exact j.o
end
end Go.Proofs.YtajdeapdgbnahaaGreatDoor
