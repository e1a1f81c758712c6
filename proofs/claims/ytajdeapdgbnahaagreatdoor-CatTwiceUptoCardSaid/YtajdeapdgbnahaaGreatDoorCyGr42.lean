/-
  Contract of wal.Put at one page.
-/
import Derived.Test.YtajdeapdgbnahaaGreatDoorCyGr41
import Derived.Test.YtajdeapdgbnahaaGreatDoorCyGr35
namespace Go.Proofs.YtajdeapdgbnahaaGreatDoor
set_option linter.unusedVariables false
set_option maxRecDepth 100000
set_option maxHeartbeats 4000000
open Go.RowKit Go.Maps
open List Nat
def qE(p:List UInt8):List UInt8:=([105,113,106,49]++bP 4 [1])++leB 4 0++p
def zW(p:List UInt8):List UInt8:=qE p++bP 4 [oK (qE p)]
theorem mQ(p:List UInt8)(h:p.length=512):(qE p).length=524:=by simp[qE,bP,bq,h]
theorem IC(p:List UInt8)(h:p.length=512):(zW p).length=528:=by rw[zW,aq,mQ p h];simp[bP,bq]
theorem vE(w:World)(base:Nat)(v:Value)(n:Nat)(l:List UInt8)(e:OB w base v n l)(A:Option Addr)(m c:Nat)(a:List UInt8)(k:RB w w.heap.size A m a)(ty:TypeId)(o:n+m<=1000000000)(d:base<=w.heap.size):∃b w',(Builtin.append_ #[23,23] ty #[v,.slice A m c]).run Tryz.prog w=.ok b w'/\OB w' base b (n+m) (l++a)/\w.grownBy w' v.ownBlock/\(b.ownBlock=v.ownBlock\/b.ownBlock=some w.heap.size):=by obtain⟨i0,f,g,i,j⟩:=info_parts eB;obtain⟨b,w',p,q,r,s⟩:=bN (P:=Tryz.prog) w base 23 ty 5 i0 _ 1 1 Tryz.underlying23 f g i j rfl (by omega) v n (bv l) e w.heap.size A m c (bv a) k (kU _) (by simp[maxLen];omega) (by omega) d;refine⟨b,w',p,?_,r,s⟩;unfold OB;rw[fM];exact q
theorem Cg(w:World)(z f c:Nat)(p:List UInt8)(ba:w.cell? ⟨z,0,none⟩=some (.int .i64 0))(bx:w.cell? ⟨z,1,none⟩=some (.slice (some ⟨f,0,none⟩) 512 512))(W:ah w f 306 (bv p).toArray)(F:p.length=512):Calls Tryz.prog 141 #[.slice (some ⟨z,0,none⟩) 1 c] w λe w'=>∃A v,e=.returned (.tuple #[.slice A 528 v,.int .i64 0])/\OB w' w.heap.size (.slice A 528 v) 528 (zW p)/\Below w.heap.size w w':=by
 have bl:=J (Cf w z f c ba bx);have bm:=World.block_lt_of_cell? w _ ba;have cv:=λ(am:World) (C:Array Value) (n c:Nat)=>Lib.run_convert_bytes_const (P:=Tryz.prog) am 23 5 C n c Tryz.underlying23 Tryz.underlying5;go_enter Tryz.func141,Tryz.ntmps141;go_wp2_with fail;refine bl.o.mono ?_;rintro e g ⟨rfl,y⟩;have b5:=(y.cell (p:=⟨z,0,none⟩) bm).trans ba;have b6:=(y.cell (p:=⟨z,1,none⟩) bm).trans bx;have b7:=J (W.below y W.lt);obtain⟨Y,G⟩:=I ((g.alloc (.cells #[.int .u8 105,.int .u8 113,.int .u8 106,.int .u8 49] 5 (4,5))).alloc (.cells #[.int .i64 1] 3));have an:(g.alloc (.cells #[.int .u8 105,.int .u8 113,.int .u8 106,.int .u8 49] 5 (4,5))).heap.size=g.heap.size+1:=World.size_alloc _ _;have B:Below g.heap.size g Y:=by rw[G];exact((Below.refl g.heap.size g).alloc (aa _) _).alloc (by simp) _
 have bp:RB Y Y.heap.size (some ⟨g.heap.size,0,none⟩) 4 [105,113,106,49]:=by refine tz (λi u bA=>?_) rfl (by rw[G];simp;omega);rw[G,World.cell?_alloc_lt _ _ _ (by show g.heap.size<_;rw[an];omega),cell_of_row _ _ i _ 5 (4,5) (heap_alloc_new g (.cells #[.int .u8 105,.int .u8 113,.int .u8 106,.int .u8 49] 5 (4,5)))];simpa[bv]using bA
 have ao:RN Y Y.heap.size (some ⟨g.heap.size+1,0,none⟩) 1 [1]:=by have h:=oG (g.alloc (.cells #[.int .u8 105,.int .u8 113,.int .u8 106,.int .u8 49] 5 (4,5))) 1 3;rw[an]at h;rw[G];exact h
 have ap:=J (eX Y (some ⟨g.heap.size,0,none⟩) (some ⟨g.heap.size+1,0,none⟩) 4 4 1 1 4 _ [1] bp ao (by omega) (by omega) (by omega) (by omega) (by simp));refine bz ?_ y B an W;clear y B an W;intro y B an W;clear bp ao;go_wp2_with fail;rw[<-G];refine ap.o.mono ?_;rintro e H ⟨v3,rfl,D,T⟩;have ch:([105,113,106,49]++bP 4 [1]:List UInt8).length=8:=by simp[bP,bq]
 rw[ch]at D;obtain⟨Z,ab,rfl,_,_,_,_⟩:=D.form;have l:Below g.heap.size g H:=B.o.trans (T.mono B.o.size);have U:=y.o.size;have cw:=(l.cell (p:=⟨z,0,none⟩) (by show z<_;omega)).trans b5;have r1:=(l.cell (p:=⟨z,1,none⟩) (by show z<_;omega)).trans b6;have br:=J (b7.o.below l (by have:=W.o.lt;omega):ah H f 306 (bv p).toArray);have a0:=J (y.o.trans (l.mono U):Below w.heap.size w H);have bB:=J (D.more (by have:=B.o.size;omega):OB H w.heap.size (.slice Z 8 ab) 8 ([105,113,106,49]++bP 4 [1]));obtain⟨b,j⟩:=I (H.alloc (.cells #[.int .i64 0,.slice (some ⟨f,0,none⟩) 512 512] 224));have b8:b.heap.size=H.heap.size+1:=by rw[j,World.size_alloc]
 have bb:Hid (∀q,Calls Tryz.prog 24 #[.slice none 0 0,.int .i64 4,.slice (some ⟨H.heap.size+1,0,none⟩) 1 1] ((b.alloc (.cells #[.int .i64 0] 3)).drewN q) (iJ ((b.alloc (.cells #[.int .i64 0] 3)).drewN q) (leB 4 0))):=J λq=>by
  have h:=eX ((b.alloc (.cells #[.int .i64 ((0:Nat):Int)] 3)).drewN q) none (some ⟨b.heap.size,0,none⟩) 0 0 1 1 4 [] [0] (RB.nil _ _) ((oG b 0 3).drewN q) (by omega) (by omega) (by omega) (by omega) (by simp);rw[b8]at h;have ci:([]++bP 4 [0]:List UInt8)=leB 4 0:=by simp[bP]
  rw[ci]at h;exact h
 refine bz ?_ D T l U;clear D T l U;intro D T l U;clear b5 b6 ba bx bl ap;go_wp2_with fail;go_loopw [4,6,23] (λv4 _ v23 am=>(v23=.int .i64 0/\v4=.slice Z 8 ab/\am=H)\/(v23=.int .i64 1/\∃A v,v4=.slice A 524 v/\Hid (OB am w.heap.size (.slice A 524 v) 524 (qE p)/\Below w.heap.size w am))) (λ_ _ v23 _=>1-(intOf v23).toNat)
 case atStart=>exact .inl ⟨rfl,rfl,rfl⟩
 case round=>
  rcases hrel with⟨rfl,rfl,rfl⟩|⟨rfl,A,v,rfl,cj⟩
  ·have a1:Hid (∀d ac c5,RB d d.heap.size ac 4 (leB 4 0)->Below b.heap.size b d->∃K L x ad ae af,
    (Builtin.append_ #[23,23] 23 #[.slice Z 8 ab,.slice ac 4 c5]).run Tryz.prog d=.ok (.slice K 12 L) x/\(Builtin.append_ #[23,23] 23 #[.slice K 12 L,.slice (some ⟨f,0,none⟩) 512 512]).run Tryz.prog x=.ok (.slice ad 524 ae) af/\
    d.cell? ⟨wr.heap.size,1,none⟩=some (.slice (some ⟨f,0,none⟩) 512 512)/\x.cell? ⟨wr.heap.size,1,none⟩=some (.slice (some ⟨f,0,none⟩) 512 512)/\Hid (OB af w.heap.size (.slice ad 524 ae) 524 (qE p)/\Below w.heap.size w af)):=J λd ac c5 ck a=>by
    have b9:ah b wr.heap.size 224 #[.int .i64 0,.slice (some ⟨f,0,none⟩) 512 512]:=by rw[j];exact ah.new wr 224 _
    have O:=b9.below a (by omega);have ca:OB b w.heap.size (.slice Z 8 ab) 8 ([105,113,106,49]++bP 4 [1]):=by rw[j];exact bB.o.alloc _
    have s:=ca.below a (aa _);have Q:Below w.heap.size w b:=by rw[j];exact a0.o.alloc a0.o.size _
    have a2:w.heap.size<=d.heap.size:=by have:=Q.size;have:=a.size;omega
    obtain⟨v6,x,cb,t,V,co⟩:=vE d w.heap.size _ 8 _ s ac 4 c5 (leB 4 0) ck 23 (by omega) a2;have a3:ah d f 306 (bv p).toArray:=by refine ah.below (w:=b) ?_ a (by have:=br.o.lt;omega);rw[j];exact br.o.alloc _
    have b0:some wr.heap.size≠(Value.slice Z 8 ab).ownBlock:=λe=>au s O (by decide) e.symm;have b1:some f≠(Value.slice Z 8 ab).ownBlock:=λe=>au s a3 (by decide) e.symm;have b2:=O.grown V b0;have a4:=a3.grown V b1;obtain⟨K,L,rfl,_,_,_,_⟩:=t.form;have cc:RB x x.heap.size (some ⟨f,0,none⟩) 512 p:=tz (λi u bA=>by rw[a4.cell];simpa using bA) F a4.lt;obtain⟨cx,af,ce,bs,cf,cp⟩:=vE x w.heap.size _ (8+4) _ t (some ⟨f,0,none⟩) 512 512 p cc 23 (by omega) (by have:=V.size;omega);obtain⟨ad,ae,rfl,_,_,_,_⟩:=bs.form;have a5:Below w.heap.size w x:=(Q.trans (a.mono Q.size)).grown V a2 (λk M=>s.iR k M);refine⟨K,L,x,ad,ae,af,cb,ce,O.cell 1,b2.cell 1,J ⟨?_,a5.grown cf a5.size (λk M=>t.iR k M)⟩⟩;unfold qE;exact bs
   go_upto_region 9 with(fail)
   rw[<-j];have s0:b.cell? ⟨wr.heap.size,0,none⟩=some (.int .i64 0):=by rw[j];exact(ah.new wr 224 #[.int .i64 0,.slice (some ⟨f,0,none⟩) 512 512]).cell 0
   have s1:b.cell? ⟨wr.heap.size,1,none⟩=some (.slice (some ⟨f,0,none⟩) 512 512):=by rw[j];exact(ah.new wr 224 #[.int .i64 0,.slice (some ⟨f,0,none⟩) 512 512]).cell 1
   replace j:=J j;have cl:wr.heap.size<b.heap.size:=by omega
   go_region_law(first
    |(go_simp;go_at_call 24;refine(bb.o 1).mono ?_;rintro e d ⟨v5,rfl,s,a⟩;rw[bq]at s;(obtain⟨ac,c5,rfl,a6,_,_,_⟩:=s.form);have S:Below b.heap.size b d:=((Below.refl b.heap.size b).alloc (aa _) (.cells #[.int .i64 0] 3)).drew.trans (a.mono (by simp));(obtain⟨K,L,x,ad,ae,af,bc,bd,cy,cz,be⟩:=a1.o d ac c5 a6 S);replace s:=J s;replace a:=J a;replace a6:=J a6;replace S:=J S)
    |(refine Lib.wp_append_run _ (.tmp 31) (.tmp 35) 23 23 rfl _ _ rfl rfl _ _ bc ?_)
    |(refine Lib.wp_append_run _ (.tmp 36) (.tmp 38) 23 23 rfl _ _ rfl rfl _ _ bd ?_))
   all_goals
    go_wp2_with fail;go_roundw
    case rel=>exact .inr ⟨rfl,ad,ae,rfl,be⟩
    case measure=>simp[intOf]
  ·obtain⟨bi,a7⟩:=cj.o;obtain⟨cA,cB,b3,a8,_,cr,cs⟩:=bi.form;injection b3 with b3 _ cg;subst b3;subst cg;have E:=Fx (wr.alloc (.cells #[.slice A 524 v] 23)) ⟨wr.heap.size,0,none⟩ 1 1 [qE p] rfl (by omega) (by omega) (by simp) (by
    intro k b' M
    match k,M with
    |0,M=>
     simp at M;subst M
     exact⟨A,v,by rw[mQ p F];simp[Addr.add],by rw[mQ p F];exact(a8.alloc (aa _) _).more (by simp),by rw[mQ p F];omega⟩)
   have cm:([qE p]:List (List UInt8)).flatten=qE p:=by simp
   rw[cm]at E;obtain⟨X,al⟩:=I (oK (qE p));have ct:X<4294967296:=by rw[al];exact xU _
   rw[<-al]at E;refine bX ?_ E al bi a7 a8;clear E al bi a7 a8;intro E al bi a7 a8;go_wp2_with fail;refine E.o.mono ?_;rintro e d ⟨rfl,a⟩;have m:Below wr.heap.size wr d:=((Below.refl wr.heap.size wr).alloc (aa _) (.cells #[.slice A 524 v] 23)).trans (a.mono (by simp));have bj:=J (eX (d.alloc (.cells #[.int .i64 (X:Int)] 3)) A (some ⟨d.heap.size,0,none⟩) 524 v 1 1 4 (qE p) [X] (((a8.o.below m).alloc m.size _).more (by simp;exact le_succ_of_le m.size)) (oG d X 3) (by omega) (by omega) (by omega) (by omega) (by simp;omega));have r:=a7.o.trans (m.mono a7.o.size);refine bf ?_ a m r;clear a m r;intro a m r;go_wp2_with fail;refine bj.o.mono ?_;rintro e x ⟨v6,rfl,t,a9⟩;have cn:(qE p++bP 4 [X]).length=528:=by rw[aq,mQ p F];simp[bP,bq]
   rw[cn]at t;obtain⟨K,L,rfl,_,_,_,_⟩:=t.form;have b4:Hid (∃A v,Ending.returned (.tuple #[.slice K 528 L,.int .i64 0])=.returned (.tuple #[.slice A 528 v,.int .i64 0])/\OB x w.heap.size (.slice A 528 v) 528 (zW p)/\Below w.heap.size w x):=by refine J ⟨K,L,rfl,?_,(r.o.alloc r.o.size _).trans (a9.mono (by simp;exact le_succ_of_le r.o.size))⟩;unfold zW;rw[<-al.o];exact t.more (by simp;exact le_succ_of_le r.o.size)
   replace t:=J t;replace a9:=J a9;go_wp2_with fail
   go_ret2
   exact b4.o
theorem qb.MX{w w':World}(h:qb w w'){b N:Nat}{m:Nat->Option Value}(c:dW w b N m):dW w' b N m:=
 c.keep (R.block h b c.lt λ⟨d,a⟩=>by
  rcases a with a|a|a
  ·exact c.ne a rfl
  ·exact c.ne a rfl
  ·exact c.ne a rfl)
structure J5 where
 H0:Nat
 gf:Nat
 bm:Nat
 gp:Nat
 gm:Nat
 gc:Nat
 nm:List UInt8
 a:aB
 b:aB
 row:Value
 rd:Nat
 cp:Nat
 cb:Nat
 cl:Nat
 gw:Nat
 cw:Nat
 gs:Nat
 gb:Nat
 c:Nat
 p:List UInt8
 xg:Nat
structure I6 (N:J5) (w:World):Prop where
 pg:ah w N.gp 115 (qB N.gf N.nm N.a N.b N.gm N.gc N.row N.rd)
 mp:dW w N.gm 65536 (λ_=>none)
 bp:ah w N.cp 63 #[iW N.gp]
 bb:ah w N.cb 23 #[.slice (some ⟨N.gb,0,none⟩) 528 N.c]
 bl:ah w N.cl 172 #[.slice (some ⟨N.gw,0,none⟩) 1 N.cw]
 wr:∃cs,ah w N.gw 224 cs/\cs[0]?=some (.int .i64 0)/\cs[1]?=some (.slice (some ⟨N.gs,0,none⟩) 512 512)
 ps:ah w N.gs 306 (bv N.p).toArray
 CS:OB w 0 (.slice (some ⟨N.gb,0,none⟩) 528 N.c) 528 (zW N.p)
 pl:N.p.length=512
 nl:N.nm.length<=20
 ex:ah w N.xg 63 #[iW N.gp]
theorem I6.I7{N:J5}{w w':World}(h:I6 N w)(k:qb w w'):I6 N w':=by obtain⟨b,c,d,e⟩:=h.wr;refine⟨k.blk h.pg (by decide) (by decide) (by decide),k.MX h.mp,k.blk h.bp (by decide) (by decide) (by decide),k.blk h.bb (by decide) (by decide) (by decide),k.blk h.bl (by decide) (by decide) (by decide),⟨b,k.blk c (by decide) (by decide) (by decide),d,e⟩,k.blk h.ps (by decide) (by decide) (by decide),?_,h.pl,h.nl,k.blk h.ex (by decide) (by decide) (by decide)⟩;obtain⟨f,a⟩:=jj h.CS (j:=N.gb) rfl;exact h.CS.same ((k.blk a (by decide) (by decide) (by decide)).trans a.symm)
theorem I6.src{N:J5}{w:World}(h:I6 N w):BK w N.gb 528/\528<=N.c/\N.c<=maxLen:=by obtain⟨a,b⟩:=jj h.CS (j:=N.gb) rfl;have e:=IC N.p h.pl;refine⟨⟨λi d=>⟨(zW N.p)[i]'(by omega),?_⟩,5,a,(0,0),b,by decide,by decide,by decide⟩,h.CS.rb.2⟩;exact h.CS.cell d (by omega)
def qF(N:J5)(w0:World)(most stamp kd nd kl nl:Nat)(w:World):Prop:=I6 N w/\Fr N.H0 N.gf N.bm w0 w/\∃a b c d,lh w N.H0 N.gf N.bm most stamp (ku N.nm) (dB N.nm) a kd nd b kl nl c d
theorem iE(w:World)(q:Nat):Below w.heap.size w (w.drewN q):=below_drewN (Below.refl _ _) q
section
variable {N:J5}{w0 w:World}{most stamp kd nd kl nl:Nat}
theorem qF.cells(h:I6 N w):w.cell? ⟨N.cp,0,none⟩=some (.pointer (some ⟨N.gp,0,none⟩))/\w.cell? ⟨N.gp,0,none⟩=some (.pointer (some ⟨N.gf,0,none⟩))/\w.cell? ⟨N.gp,1,none⟩=some (.string (str N.nm))/\w.cell? ⟨N.cb,0,none⟩=some (.slice (some ⟨N.gb,0,none⟩) 528 N.c):=⟨h.bp.cell 0,h.pg.cell 0,h.pg.cell 1,h.bb.cell 0⟩
theorem Mg(h:qF N w0 most stamp 0 0 0 0 w)(k:most<=65536)(t:17<=most)(u:stamp<=900000)(q:Nat):Calls Tryz.prog 137 #[.pointer (some ⟨N.gf,0,none⟩),.string (str (dB N.nm)),.int .i64 0,.slice (some ⟨N.gb,0,none⟩) 528 N.c] (w.drewN q) λe w'=>e=.returned (.int .i64 0)/\Hid (qF N w0 most (stamp+1) 0 0 9 528 w'):=by obtain⟨d,hF,f,g,i,l,m⟩:=h;have b:=d.I7 (qb.ag (iE w q));have a:=b.src;refine(CZ (w.drewN q) N.H0 N.gf N.bm most stamp f 0 0 g 0 0 N.gb 528 N.c 0 _ _ i l (m.drewN q) (by have:=d.nl;simp[dB];omega) k (by omega) (by omega) (by omega) (by omega) (by omega) a.2.1 (by have:=a.2.2;unfold maxLen at this;exact this) (by omega) (by omega) a.1).mono ?_;rintro e w' ⟨rfl,n⟩;obtain⟨j,p,r,s⟩:=n.o;exact⟨rfl,J ⟨b.I7 r,(hF.trans (R.ag (iE w q))).trans s,f,g,i,j,p⟩⟩
theorem KC(h:qF N w0 most stamp kd nd kl nl w)(i:kl<=100000)(q:Nat):Calls Tryz.prog 138 #[.pointer (some ⟨N.gf,0,none⟩),.string (str (dB N.nm))] (w.drewN q) λe w'=>e=.returned (.int .i64 0)/\Hid (qF N w0 most stamp kd nd kl nl w'):=by obtain⟨a,hF,b,c,d,f,j⟩:=h;have g:=a.I7 (qb.ag (iE w q));refine(Lh (w.drewN q) N.H0 N.gf N.bm most stamp b kd nd c kl nl _ _ d f (j.drewN q) (by have:=a.nl;simp[dB];omega) i).mono ?_;rintro e w' ⟨rfl,k⟩;obtain⟨l,m,n⟩:=k.o;exact⟨rfl,J ⟨g.I7 m,(hF.trans (R.ag (iE w q))).trans n,b,c,d,f,l⟩⟩
theorem IE(w:World):BK (w.alloc tC) w.heap.size 4:=by
 have h:=heap_alloc_new w tC;refine⟨λi a=>?_,5,uV,(4,5),h,by decide,by decide,by decide⟩;rw[cell_of_row _ _ i uV 5 (4,5) h]
 match i,a with
 |0,_=>exact⟨100,rfl⟩
 |1,_=>exact⟨111,rfl⟩
 |2,_=>exact⟨110,rfl⟩
 |3,_=>exact⟨101,rfl⟩
theorem Mh(h:qF N w0 most stamp 0 0 9 528 w)(j:most<=65536)(s:17<=most)(t:stamp<=900000)(q:Nat):Calls Tryz.prog 137 #[.pointer (some ⟨N.gf,0,none⟩),.string (str (dB N.nm)),.int .i64 ((528:Nat):Int),.slice (some ⟨w.heap.size,0,none⟩) 4 4] ((w.alloc tC).drewN q) λe w'=>e=.returned (.int .i64 0)/\Hid (qF N w0 most (stamp+1) 0 0 9 532 w'):=by obtain⟨b,hF,c,d,f,k,l⟩:=h;have a:Below w.heap.size w ((w.alloc tC).drewN q):=below_drewN ((Below.refl _ w).alloc (aa _) _) q;have g:=b.I7 (qb.ag a);refine(CZ ((w.alloc tC).drewN q) N.H0 N.gf N.bm most stamp c 0 0 d 9 528 w.heap.size 4 4 528 _ _ f k (l.below a) (by have:=b.nl;simp[dB];omega) j (by omega) (by omega) (by omega) (by omega) (by omega) (by omega) (by omega) (by omega) (by omega) (IE w)).mono ?_;rintro e w' ⟨rfl,m⟩;obtain⟨i,n,p,r⟩:=m.o;exact⟨rfl,J ⟨g.I7 p,(hF.trans (R.ag a)).trans r,c,d,f,i,n⟩⟩
theorem Mi(h:qF N w0 most stamp 0 0 9 532 w)(k:most<=65536)(u:17<=most)(l:stamp<=900000):Calls Tryz.prog 94 #[.pointer (some ⟨N.gp,0,none⟩),.slice (some ⟨N.gw,0,none⟩) 1 N.cw] w λe w'=>e=.returned (.int .i64 0)/\Hid (qF N w0 most (stamp+1) 8 512 9 532 w'):=by obtain⟨a,hF,c,d,m,f,n⟩:=h;obtain⟨v,b,g,i⟩:=a.wr;refine(JS w N.H0 N.gf N.bm most stamp c d 9 532 N.gp N.gw N.cw N.gs N.nm N.p m f _ n a.nl k (by omega) l a.pg rfl rfl ((b.cell 0).trans g) ((b.cell 1).trans i) a.ps a.pl).mono ?_;rintro e w' ⟨rfl,q⟩;obtain⟨j,r,s,t⟩:=q.o;exact⟨rfl,J ⟨a.I7 s,hF.trans t,c,d,j,f,r⟩⟩
theorem Mj(h:qF N w0 most stamp kd nd kl nl w)(m:stamp<=900000)(q:Nat):Calls Tryz.prog 95 #[.pointer (some ⟨N.gf,0,none⟩),.string (str (dB N.nm)),.int .i64 0] (w.drewN q) λe w'=>e=.returned (.int .i64 0)/\Hid (I6 N w'/\Fr N.H0 N.gf N.bm w0 w'):=by obtain⟨a,hF,c,d,f,g,i⟩:=h;have b:=a.I7 (qb.ag (iE w q));refine(Mb (w.drewN q) N.H0 N.gf N.bm most stamp c kd nd d kl nl _ _ f g (i.drewN q) (by have:=a.nl;simp[dB];omega) (by omega)).mono ?_;rintro e w' ⟨rfl,j⟩;obtain⟨k,l⟩:=j.o;exact⟨rfl,J ⟨b.I7 k,(hF.trans (R.ag (iE w q))).trans l⟩⟩
end
def kC(N:J5)(w0:World)(most stamp:Nat):Nat->World->Prop
 |0,w=>qF N w0 most stamp 0 0 0 0 w
 |1,w=>qF N w0 most (stamp+1) 0 0 9 528 w
 |2,w=>qF N w0 most (stamp+1) 0 0 9 528 w
 |3,w=>qF N w0 most (stamp+2) 0 0 9 532 w
 |4,w=>qF N w0 most (stamp+2) 0 0 9 532 w
 |5,w=>qF N w0 most (stamp+3) 8 512 9 532 w
 |_,w=>I6 N w/\Fr N.H0 N.gf N.bm w0 w
def jD(N:J5)(w0:World)(most stamp i:Nat)(e:Ending)(w':World):Prop:=e=.returned (.int .i64 0)/\Hid (kC N w0 most stamp i w')
section
variable {N:J5}{w0 w:World}{most stamp:Nat}
theorem bg(h:kC N w0 most stamp 0 w)(f:most<=65536)(a:17<=most)(g:stamp<=1000):Calls Tryz.prog 144 #[.pointer (some ⟨N.cp,0,none⟩),.pointer (some ⟨N.cb,0,none⟩)] w (jD N w0 most stamp 1):=by have c:=qF.cells h.1;exact Hm w N.cp N.gp N.gf N.nm N.cb 528 N.c (some ⟨N.gb,0,none⟩) c.1 c.2.1 c.2.2.1 h.1.nl c.2.2.2 _ (λq=>Mg h f a (by omega) q) (λe w' b=>⟨b.1,have d:=qF.cells (Hid.o b.2).1;⟨d.1,d.2.1,d.2.2.2⟩⟩)
theorem dC(h:kC N w0 most stamp 1 w):Calls Tryz.prog 145 #[.pointer (some ⟨N.cp,0,none⟩)] w (jD N w0 most stamp 2):=by have c:=qF.cells h.1;exact Ho w N.cp N.gp N.gf N.nm c.1 c.2.1 c.2.2.1 h.1.nl _ (λq=>KC h (by omega) q) (λe w' a=>⟨a.1,have d:=qF.cells (Hid.o a.2).1;⟨d.1,d.2.1⟩⟩)
theorem ja(h:kC N w0 most stamp 2 w)(f:most<=65536)(a:17<=most)(g:stamp<=1000):Calls Tryz.prog 146 #[.pointer (some ⟨N.cp,0,none⟩),.pointer (some ⟨N.cb,0,none⟩)] w (jD N w0 most stamp 3):=by have c:=qF.cells h.1;exact Ht w N.cp N.gp N.gf N.nm N.cb 528 N.c (some ⟨N.gb,0,none⟩) c.1 c.2.1 c.2.2.1 h.1.nl c.2.2.2 _ (λq=>Mh h f a (by omega) q) (λe w' b=>⟨b.1,have d:=qF.cells (Hid.o b.2).1;⟨d.1,d.2.1,d.2.2.2⟩⟩)
theorem MC(h:kC N w0 most stamp 3 w):Calls Tryz.prog 147 #[.pointer (some ⟨N.cp,0,none⟩)] w (jD N w0 most stamp 4):=by have c:=qF.cells h.1;exact Hq w N.cp N.gp N.gf N.nm c.1 c.2.1 c.2.2.1 h.1.nl _ (λq=>KC h (by omega) q) (λe w' a=>⟨a.1,have d:=qF.cells (Hid.o a.2).1;⟨d.1,d.2.1⟩⟩)
theorem Ng(h:kC N w0 most stamp 4 w)(b:most<=65536)(a:17<=most)(d:stamp<=1000):Calls Tryz.prog 148 #[.pointer (some ⟨N.cp,0,none⟩),.pointer (some ⟨N.cl,0,none⟩)] w (jD N w0 most stamp 5):=Hs w N.cp N.gp N.cl _ (h.1.bp.cell 0) (h.1.bl.cell 0) _ (Mi h b a (by omega)) (λe w' c=>c.1)
theorem Nh(h:kC N w0 most stamp 5 w)(b:stamp<=1000):Calls Tryz.prog 149 #[.pointer (some ⟨N.cp,0,none⟩)] w (jD N w0 most stamp 6):=by have c:=qF.cells h.1;exact Hr w N.cp N.gp N.gf N.nm c.1 c.2.1 c.2.2.1 h.1.nl _ (λq=>Mj h (by omega) q) (λe w' a=>⟨a.1,have d:=qF.cells (Hid.o a.2).1;⟨d.1,d.2.1⟩⟩)
end
def KD(w:World)(f b g c d gc rd:Nat)(i:List UInt8)(a:aB)(row:Value)(j:Nat)(e:Ending)(w':World):Prop:=e=.returned (.int .i64 0)/\ah w' j 63 #[iW c]/\ah w' c 115 (qB b i a a d gc row rd)/\dW w' d 65536 (λ_=>none)/\Fr f b g w w'
theorem lh.nG{w w':World}{f g b most stamp i kd nd k kl nl c:Nat}{l n:List UInt8}{o p:Value}(h:lh w f g b most stamp l n i kd nd k kl nl o p)(r:R (λj=>j=c) w w'){N:Nat}{m:Nat->Option Value}(d:dW w c N m)(q:c≠b):
 lh w' f g b most stamp l n i kd nd k kl nl o p:=
 h.keep r (λj s ⟨t,a⟩=>by
  subst s;rcases a with a|a|a
  ·exact d.ne a rfl
  ·exact d.ne a rfl
  ·exact d.ne a rfl) (λe=>q e.symm)
theorem Fr.nG{w w':World}{a c d b:Nat}(f:R (λj=>j=b) w w')(g:a<=b):Fr a c d w w':=f.mono λj _ e=>.inr (.inr (by rw[e];exact g))
theorem Fr.below{w w':World}{a b c:Nat}(d:Below w.heap.size w w'):Fr a b c w w':=R.ag d
theorem xE{w w':World}{a b:Nat}{t:TypeId}{c:Array Value}(h:ah w a t c)(e:R (λj=>j=b) w w')(d:a≠b):ah w' a t c:=e.blk h d
def KE(a:aB):List Value:=[.int .i64 (a.many:Int),.int .i64 (a.free:Int),.int .i64 (a.roots 0:Int),.int .i64 (a.roots 1:Int),.int .i64 (a.roots 2:Int),.int .i64 (a.roots 3:Int),.int .i64 (a.roots 4:Int),.int .i64 (a.roots 5:Int),.int .i64 (a.roots 6:Int),.int .i64 (a.roots 7:Int)]
theorem J6{g c d gc rd:Nat}{f:List UInt8}{row:Value}(w:World)(a b:aB)(h:ah w g 115 (qB c f a b d gc row rd)):ah (w.setCells g 12 (KE a)) g 115 (qB c f a a d gc row rd):=by
 have e:(((((((((((qB c f a b d gc row rd).setIfInBounds 12 (.int .i64 (a.many:Int))).setIfInBounds 13 (.int .i64 (a.free:Int))).setIfInBounds 14 (.int .i64 (a.roots 0:Int))).setIfInBounds 15 (.int .i64 (a.roots 1:Int))).setIfInBounds 16 (.int .i64 (a.roots 2:Int))).setIfInBounds 17 (.int .i64 (a.roots 3:Int))).setIfInBounds 18 (.int .i64 (a.roots 4:Int))).setIfInBounds 19 (.int .i64 (a.roots 5:Int))).setIfInBounds 20 (.int .i64 (a.roots 6:Int))).setIfInBounds 21 (.int .i64 (a.roots 7:Int)))=qB c f a a d gc row rd:=by kernel_rfl
 rw[<-e];generalize qB c f a b d gc row rd=P at *;exact(((((((((h.aK 12 _).aK 13 _).aK 14 _).aK 15 _).aK 16 _).aK 17 _).aK 18 _).aK 19 _).aK 20 _).aK 21 _
theorem Ch(w:World)(be z a6 most stamp cg cw d s gc rd b0:Nat)(B:List UInt8)(a b:aB)(row cx cz:Value)(am:ah w d 115 (qB z B a b s gc row rd))(b1:dW w s 65536 (λ_=>none))(h:lh w be z a6 most stamp (ku B) (dB B) cg 0 0 cw 0 0 cx cz)
 (c5:a.many=1) (em:a.free<=65536) (cA:∀k,a.roots k<=65536) (d8:be<=d) (dc:be<=s) (d9:s≠a6) (a0:most<=65536) (ch:17<=most) (co:stamp<=1000) (dd:B.length<=20) (u:ah w b0 63 #[iW d]):
 Calls Tryz.prog 96 #[.pointer (some ⟨d,0,none⟩)] w (KD w be z a6 d s gc rd B a row b0):=by
 have cB:b0≠s:=λe=>b1.ne u e.symm;have dy:b0≠d:=λe=>by subst e;exact ah.iH u am (by decide) rfl
 obtain⟨p0,bi⟩:=I (qW 0 (jy a++bt (508-(jy a).length)));have cD:p0.length=512:=by rw[bi];simp[qW,uU,bt,bq]
 have cE:d≠s:=λe=>b1.ne am e.symm;obtain⟨c6,bj⟩:=I (w.alloc (.cells #[iW d] 63));obtain⟨f,b2⟩:=I (w.heap.size);have m:Below w.heap.size w c6:=by rw[bj];exact(Below.refl w.heap.size w).alloc (aa _) _
 have O:ah c6 f 63 #[iW d]:=by rw[bj,b2];exact ah.new w 63 _
 have X:=am.below m am.lt;have a7:=b1.keep (m.block s b1.lt);have b3:=h.below m;have b4:=u.below m u.lt;have cH:=J (Cd c6 d z s gc rd B a b row X a7 (by omega) em cA);rw[<-bi]at cH;have ea:c6.cell? ⟨f,0,none⟩=some (.pointer (some ⟨d,0,none⟩)):=O.cell 0;refine kT ?_ am b1 h bi cA m O X a7 b4 u b3;clear am b1 h bi cA m O X a7 b4 u b3;intro am b1 h bi cA m O X a7 b4 u b3;go_enter Tryz.func96,Tryz.ntmps96;go_upto_region 1 with(fail)
 rw[show Value.pointer (some ⟨d,0,none⟩)=iW d from rfl,<-bj,<-b2];replace bj:=J bj;replace b2:=J b2;go_wp2_with fail;refine cH.o.mono ?_;rintro e a8 ⟨ci,dT,cK,rfl,c7,d0,Y,bl,T,eJ,eK,cL,K⟩;have cM:f≠s:=λe=>a7.o.ne O.o e.symm;have Z:=xE X.o T cE;have ab:=xE O.o T cM;have cP:=J (xE b4.o T cB);have b5:=b3.o.nG T a7.o d9;have cr:Fr be z a6 w a8:=(Fr.below m.o).trans (Fr.nG T dc);have eb:cL[0]?=some (.int .i64 0):=(K.cell 0).symm.trans c7;have ec:cL[1]?=some (.slice (some ⟨dT,0,none⟩) 512 512):=(K.cell 1).symm.trans d0;obtain⟨cy,bm⟩:=I (a8.alloc (.cells #[.slice (some ⟨ci,0,none⟩) 1 cK] 172));obtain⟨ap,br⟩:=I (a8.heap.size);have L:Below a8.heap.size a8 cy:=by rw[bm];exact(Below.refl a8.heap.size a8).alloc (aa _) _
 have P:ah cy ap 172 #[.slice (some ⟨ci,0,none⟩) 1 cK]:=by rw[bm,br];exact ah.new a8 172 _
 have ee:=(L.cell (p:=⟨ci,0,none⟩) K.lt).trans c7;have ef:=(L.cell (p:=⟨ci,1,none⟩) K.lt).trans d0;have Q:=Y.below L Y.lt;have de:=J (Cg cy ci dT cK p0 ee ef Q cD);have z0:cy.cell? ⟨ap,0,none⟩=some (.slice (some ⟨ci,0,none⟩) 1 cK):=P.cell 0;refine eD ?_ Y bl T K Z ab b5;clear Y bl T K Z ab b5;intro Y bl T K Z ab b5;replace cr:Hid _:=J cr;refine bf ?_ L P Q;clear L P Q;intro L P Q;clear c7 d0 ee ef;go_upto_region 2 with(fail)
 rw[<-bm,<-br];replace bm:=J bm;replace br:=J br;go_wp2_with fail;refine de.o.mono ?_;rintro e cj ⟨A,ck,rfl,bs,an⟩;rcases bs.parts with⟨_,en,_⟩|⟨cm,cap,d1,eL,eN⟩
 ·omega
 injection d1 with d1 _ eg;subst d1;subst eg;obtain⟨n,a9⟩:=I (cj.alloc (.cells #[.slice (some ⟨cm,0,none⟩) 528 ck] 23));obtain⟨q,b6⟩:=I (cj.heap.size);have bv:Below cj.heap.size cj n:=by rw[a9];exact(Below.refl cj.heap.size cj).alloc (aa _) _
 have ac:ah n q 23 #[.slice (some ⟨cm,0,none⟩) 528 ck]:=by rw[a9,b6];exact ah.new cj 23 _
 have r:Below a8.heap.size a8 n:=L.o.trans ((an.mono L.o.size).trans (bv.mono (by have:=L.o.size;have:=an.size;omega)));have b7:OB n 0 (.slice (some ⟨cm,0,none⟩) 528 ck) 528 (zW p0):=by rw[a9];exact(bs.more (zero_le _)).alloc _
 have ad:Below cy.heap.size cy n:=an.trans (bv.mono an.size);obtain⟨N,x⟩:∃N:J5,N=⟨be,z,a6,d,s,gc,B,a,b,row,rd,f,q,ap,ci,cK,dT,cm,ck,p0,b0⟩:=⟨_,rfl⟩;have C:=Z.o.below r Z.o.lt;have ae:=ab.o.below r ab.o.lt;have M:=b5.o.below r;have ba:I6 N n:=by rw[x];exact⟨C,bl.o.keep (r.block s bl.o.lt),ae,ac,P.o.below ad P.o.lt,⟨cL,K.o.below r K.o.lt,eb,ec⟩,Q.o.below ad Q.o.lt,b7,cD,dd,cP.o.below r cP.o.lt⟩
 have bb:qF N w most stamp 0 0 0 0 n:=⟨ba,by rw[x];exact cr.o.trans (Fr.below r),cg,cw,cx,cz,by rw[x];exact M⟩;have cS:n.cell? ⟨f,0,none⟩=some (.pointer (some ⟨d,0,none⟩)):=ae.cell 0;have cV:n.cell? ⟨d,0,none⟩=some (.pointer (some ⟨z,0,none⟩)):=C.cell 0;have a3:n.cell? ⟨d,1,none⟩=some (.string (str B)):=C.cell 1;have a4:n.cell? ⟨d,2,none⟩=some (.int .i64 1):=by have:=C.cell 2;simpa[qB,c5]using this
 have a5:n.cell? ⟨q,0,none⟩=some (.slice (some ⟨cm,0,none⟩) 528 ck):=ac.cell 0;have dj:=J (tu n.drew d B a3 dd);have dk:=J (qG n.drew 0 z a6 most stamp cg 0 0 (ku B) (dB B) (ku B) (some cg) (some cw) (M.drewN 1).fs (.inl ⟨rfl,rfl⟩) (by simp[ku];omega) cx (M.drewN 1).fd);have dl:Hid (∀w,Calls Tryz.prog 142 #[.int .i64 532] w λe w'=>e=.returned (.int .i64 9)/\w=w'):=J λw=>mO w 532 (by omega);have dp:Hid (∀w,Calls Tryz.prog 142 #[.int .i64 512] w λe w'=>e=.returned (.int .i64 8)/\w=w'):=J λw=>mO w 512 (by omega);have ds:Hid (∀w,Calls Tryz.prog 142 #[.int .i64 0] w λe w'=>e=.returned (.int .i64 0)/\w=w'):=J λw=>mO w 0 (by omega);have cs:=J (zq n.drew.drew 0 z a6 most stamp cg cw 0 0 0 0 (ku B) (dB B) cx cz (M.drewN 2).fs (M.drewN 2).fd (M.drewN 2).fl a0 (zero_le _));refine aR ?_ x ba bb bv ac r b7 ad bs an C ae M;clear x ba bb bv ac r b7 ad bs an C ae M;intro x ba bb bv ac r b7 ad bs an C ae M;go_upto_region 5 with(fail)
 rw[<-a9,<-b6];replace a9:=J a9;replace b6:=J b6;clear cH de;go_region_held3 (λw'=>w'.cell? ⟨f,0,none⟩=some (.pointer (some ⟨d,0,none⟩))/\w'.cell? ⟨d,0,none⟩=some (.pointer (some ⟨z,0,none⟩))) (first|exact⟨cS,cV⟩) (first
  |(go_at_call 89;refine dk.o.mono ?_;rintro e c8 ⟨rfl,rfl⟩)
  |(go_at_call 47;refine dj.o.mono ?_;rintro e c8 ⟨rfl,rfl⟩))
 clear dj dk;go_upto_region 6 with(fail)
 go_cut [54] (λeh l=>eh=.bool false/\Hid (Below n.heap.size n l))
 case first=>
  go_region_held3 (λw'=>w'.cell? ⟨q,0,none⟩=some (.slice (some ⟨cm,0,none⟩) 528 ck)/\w'.cell? ⟨f,0,none⟩=some (.pointer (some ⟨d,0,none⟩))/\w'.cell? ⟨d,2,none⟩=some (.int .i64 1)/\w'.cell? ⟨d,0,none⟩=some (.pointer (some ⟨z,0,none⟩))) (first|exact⟨a5,cS,a4,cV⟩|exact ei) (first
   |(go_at_call 143;refine cs.o.mono ?_;rintro e c9 ⟨rfl,ao⟩;have ei:=(show c9.cell? ⟨q,0,none⟩=some (.slice (some ⟨cm,0,none⟩) 528 ck)/\c9.cell? ⟨f,0,none⟩=some (.pointer (some ⟨d,0,none⟩))/\c9.cell? ⟨d,2,none⟩=some (.int .i64 1)/\c9.cell? ⟨d,0,none⟩=some (.pointer (some ⟨z,0,none⟩))from⟨(ao.cell (World.block_lt_of_cell? n _ a5)).trans a5,(ao.cell (World.block_lt_of_cell? n _ cS)).trans cS,(ao.cell (World.block_lt_of_cell? n _ a4)).trans a4,(ao.cell (World.block_lt_of_cell? n _ cV)).trans cV⟩);replace ao:=J ao)
   |(go_at_call 142;refine(dl.o _).mono ?_;rintro e c8 ⟨rfl,rfl⟩)
   |(go_at_call 142;refine(dp.o _).mono ?_;rintro e c8 ⟨rfl,rfl⟩)
   |(go_at_call 142;refine(ds.o _).mono ?_;rintro e c8 ⟨rfl,rfl⟩))
  all_goals
   go_wp2_with fail
   go_meet
   case rel=>first|exact⟨rfl,J (((Below.refl n.heap.size n).drew.drew).trans ao.o)⟩|(refine⟨?_,J (((Below.refl n.heap.size n).drew.drew).trans ao.o)⟩;show Value.bool (decide ((most:Int)<17))=_;rw[aD (by omega)])
 obtain⟨rfl,ct⟩:=hcut;have E:Hid (kC N w most stamp 0 wc):=by obtain⟨p1,p2,eo⟩:=bb.o;obtain⟨cg,cw,cx,cz,ep⟩:=eo;exact J ⟨p1.I7 (qb.ag ct.o),p2.trans (R.ag ct.o),cg,cw,cx,cz,ep.below ct.o⟩
 have b8:Hid (∀l,kC N w most stamp 0 l->Calls Tryz.prog 144 #[.pointer (some ⟨f,0,none⟩),.pointer (some ⟨q,0,none⟩)] l (jD N w most stamp 1)):=J λl u=>by have:=bg u a0 ch co;have e:=x.o;rw[show N.cp=f by rw[e],show N.cb=q by rw[e]]at this;exact this
 have b9:Hid (∀l,kC N w most stamp 1 l->Calls Tryz.prog 145 #[.pointer (some ⟨f,0,none⟩)] l (jD N w most stamp 2)):=J λl u=>by have:=dC u;have e:=x.o;rw[show N.cp=f by rw[e]]at this;exact this
 have ca:Hid (∀l,kC N w most stamp 2 l->Calls Tryz.prog 146 #[.pointer (some ⟨f,0,none⟩),.pointer (some ⟨q,0,none⟩)] l (jD N w most stamp 3)):=J λl u=>by have:=ja u a0 ch co;have e:=x.o;rw[show N.cp=f by rw[e],show N.cb=q by rw[e]]at this;exact this
 have cc:Hid (∀l,kC N w most stamp 3 l->Calls Tryz.prog 147 #[.pointer (some ⟨f,0,none⟩)] l (jD N w most stamp 4)):=J λl u=>by have:=MC u;have e:=x.o;rw[show N.cp=f by rw[e]]at this;exact this
 have ce:Hid (∀l,kC N w most stamp 4 l->Calls Tryz.prog 148 #[.pointer (some ⟨f,0,none⟩),.pointer (some ⟨ap,0,none⟩)] l (jD N w most stamp 5)):=J λl u=>by have:=Ng u a0 ch co;have e:=x.o;rw[show N.cp=f by rw[e],show N.cl=ap by rw[e]]at this;exact this
 have cf:Hid (∀l,kC N w most stamp 5 l->Calls Tryz.prog 149 #[.pointer (some ⟨f,0,none⟩)] l (jD N w most stamp 6)):=J λl u=>by have:=Nh u co;have e:=x.o;rw[show N.cp=f by rw[e]]at this;exact this
 clear u b4 cP am b1 h bi cA m O X a7 b3 bj b2 Y bl T K Z ab b5 cr L P Q bm br cS cV a3 a4 a5 dl dp ds cs bs an bv ac r b7 ad C ae M a9 b6 ba bb ea z0 eb ec ct;go_upto_region 8 with(fail)
 go_wp2_with fail;go_loopw [62] (λcX l=>∃i:Nat,cX=.int .i64 (i:Int)/\i<=6/\Hid (kC N w most stamp i l)) (λcX _=>6-(intOf cX).toNat)
 case atStart=>exact⟨0,rfl,by omega,E⟩
 case round=>
  obtain⟨i,rfl,cn,t⟩:=hrel;have eq:i=0\/i=1\/i=2\/i=3\/i=4\/i=5\/i=6:=by omega
  rcases eq with rfl|rfl|rfl|rfl|rfl|rfl|rfl
  ·have F:=J (b8.o _ t.o);have G:∀l,(Instr.index 231 (.agg #[.func (Fn.func 144) #[] #[.pointer (some ⟨f,0,none⟩),.pointer (some ⟨q,0,none⟩)],.func (Fn.func 145) #[] #[.pointer (some ⟨f,0,none⟩)],.func (Fn.func 146) #[] #[.pointer (some ⟨f,0,none⟩),.pointer (some ⟨q,0,none⟩)],.func (Fn.func 147) #[] #[.pointer (some ⟨f,0,none⟩)],.func (Fn.func 148) #[] #[.pointer (some ⟨f,0,none⟩),.pointer (some ⟨ap,0,none⟩)],.func (Fn.func 149) #[] #[.pointer (some ⟨f,0,none⟩)]]) (.int .i64 0)).run Tryz.prog l=.ok (.func (Fn.func 144) #[] #[.pointer (some ⟨f,0,none⟩),.pointer (some ⟨q,0,none⟩)]) l:=λ_=>by kernel_rfl
   clear b8 b9 ca cc ce cf t E x cn;go_wp2_with fail;refine F.o.mono ?_;rintro e H ⟨rfl,bc⟩;clear F G;go_wp2_with fail;go_roundw
   case rel=>exact⟨1,rfl,by omega,bc⟩
   case measure=>simp[intOf]
  ·have F:=J (b9.o _ t.o);have G:∀l,(Instr.index 231 (.agg #[.func (Fn.func 144) #[] #[.pointer (some ⟨f,0,none⟩),.pointer (some ⟨q,0,none⟩)],.func (Fn.func 145) #[] #[.pointer (some ⟨f,0,none⟩)],.func (Fn.func 146) #[] #[.pointer (some ⟨f,0,none⟩),.pointer (some ⟨q,0,none⟩)],.func (Fn.func 147) #[] #[.pointer (some ⟨f,0,none⟩)],.func (Fn.func 148) #[] #[.pointer (some ⟨f,0,none⟩),.pointer (some ⟨ap,0,none⟩)],.func (Fn.func 149) #[] #[.pointer (some ⟨f,0,none⟩)]]) (.int .i64 1)).run Tryz.prog l=.ok (.func (Fn.func 145) #[] #[.pointer (some ⟨f,0,none⟩)]) l:=λ_=>by kernel_rfl
   clear b8 b9 ca cc ce cf t E x cn;go_wp2_with fail;refine F.o.mono ?_;rintro e H ⟨rfl,bc⟩;clear F G;go_wp2_with fail;go_roundw
   case rel=>exact⟨2,rfl,by omega,bc⟩
   case measure=>simp[intOf]
  ·have F:=J (ca.o _ t.o);have G:∀l,(Instr.index 231 (.agg #[.func (Fn.func 144) #[] #[.pointer (some ⟨f,0,none⟩),.pointer (some ⟨q,0,none⟩)],.func (Fn.func 145) #[] #[.pointer (some ⟨f,0,none⟩)],.func (Fn.func 146) #[] #[.pointer (some ⟨f,0,none⟩),.pointer (some ⟨q,0,none⟩)],.func (Fn.func 147) #[] #[.pointer (some ⟨f,0,none⟩)],.func (Fn.func 148) #[] #[.pointer (some ⟨f,0,none⟩),.pointer (some ⟨ap,0,none⟩)],.func (Fn.func 149) #[] #[.pointer (some ⟨f,0,none⟩)]]) (.int .i64 2)).run Tryz.prog l=.ok (.func (Fn.func 146) #[] #[.pointer (some ⟨f,0,none⟩),.pointer (some ⟨q,0,none⟩)]) l:=λ_=>by kernel_rfl
   clear b8 b9 ca cc ce cf t E x cn;go_wp2_with fail;refine F.o.mono ?_;rintro e H ⟨rfl,bc⟩;clear F G;go_wp2_with fail;go_roundw
   case rel=>exact⟨3,rfl,by omega,bc⟩
   case measure=>simp[intOf]
  ·have F:=J (cc.o _ t.o);have G:∀l,(Instr.index 231 (.agg #[.func (Fn.func 144) #[] #[.pointer (some ⟨f,0,none⟩),.pointer (some ⟨q,0,none⟩)],.func (Fn.func 145) #[] #[.pointer (some ⟨f,0,none⟩)],.func (Fn.func 146) #[] #[.pointer (some ⟨f,0,none⟩),.pointer (some ⟨q,0,none⟩)],.func (Fn.func 147) #[] #[.pointer (some ⟨f,0,none⟩)],.func (Fn.func 148) #[] #[.pointer (some ⟨f,0,none⟩),.pointer (some ⟨ap,0,none⟩)],.func (Fn.func 149) #[] #[.pointer (some ⟨f,0,none⟩)]]) (.int .i64 3)).run Tryz.prog l=.ok (.func (Fn.func 147) #[] #[.pointer (some ⟨f,0,none⟩)]) l:=λ_=>by kernel_rfl
   clear b8 b9 ca cc ce cf t E x cn;go_wp2_with fail;refine F.o.mono ?_;rintro e H ⟨rfl,bc⟩;clear F G;go_wp2_with fail;go_roundw
   case rel=>exact⟨4,rfl,by omega,bc⟩
   case measure=>simp[intOf]
  ·have F:=J (ce.o _ t.o);have G:∀l,(Instr.index 231 (.agg #[.func (Fn.func 144) #[] #[.pointer (some ⟨f,0,none⟩),.pointer (some ⟨q,0,none⟩)],.func (Fn.func 145) #[] #[.pointer (some ⟨f,0,none⟩)],.func (Fn.func 146) #[] #[.pointer (some ⟨f,0,none⟩),.pointer (some ⟨q,0,none⟩)],.func (Fn.func 147) #[] #[.pointer (some ⟨f,0,none⟩)],.func (Fn.func 148) #[] #[.pointer (some ⟨f,0,none⟩),.pointer (some ⟨ap,0,none⟩)],.func (Fn.func 149) #[] #[.pointer (some ⟨f,0,none⟩)]]) (.int .i64 4)).run Tryz.prog l=.ok (.func (Fn.func 148) #[] #[.pointer (some ⟨f,0,none⟩),.pointer (some ⟨ap,0,none⟩)]) l:=λ_=>by kernel_rfl
   clear b8 b9 ca cc ce cf t E x cn;go_wp2_with fail;refine F.o.mono ?_;rintro e H ⟨rfl,bc⟩;clear F G;go_wp2_with fail;go_roundw
   case rel=>exact⟨5,rfl,by omega,bc⟩
   case measure=>simp[intOf]
  ·have F:=J (cf.o _ t.o);have G:∀l,(Instr.index 231 (.agg #[.func (Fn.func 144) #[] #[.pointer (some ⟨f,0,none⟩),.pointer (some ⟨q,0,none⟩)],.func (Fn.func 145) #[] #[.pointer (some ⟨f,0,none⟩)],.func (Fn.func 146) #[] #[.pointer (some ⟨f,0,none⟩),.pointer (some ⟨q,0,none⟩)],.func (Fn.func 147) #[] #[.pointer (some ⟨f,0,none⟩)],.func (Fn.func 148) #[] #[.pointer (some ⟨f,0,none⟩),.pointer (some ⟨ap,0,none⟩)],.func (Fn.func 149) #[] #[.pointer (some ⟨f,0,none⟩)]]) (.int .i64 5)).run Tryz.prog l=.ok (.func (Fn.func 149) #[] #[.pointer (some ⟨f,0,none⟩)]) l:=λ_=>by kernel_rfl
   clear b8 b9 ca cc ce cf t E x cn;go_wp2_with fail;refine F.o.mono ?_;rintro e H ⟨rfl,bc⟩;clear F G;go_wp2_with fail;go_roundw
   case rel=>exact⟨6,rfl,by omega,bc⟩
   case measure=>simp[intOf]
  ·obtain⟨H,ej⟩:=I (wr );subst ej;obtain⟨cY,c0⟩:=t.o;have e:=x.o;have af:ah H d 115 (qB z B a b s gc row rd):=by have:=cY.pg;rw[e]at this;exact this
   have dt:dW H s 65536 (λ_=>none):=by have:=cY.mp;rw[e]at this;exact this
   have al:ah H f 63 #[iW d]:=by have:=cY.bp;rw[e]at this;exact this
   have du:Hid (ah H b0 63 #[iW d]):=by have:=cY.ex;rw[e]at this;exact J this
   have d2:Hid (Fr be z a6 w H):=by rw[e]at c0;exact J c0
   have eQ:N.gp=d:=by rw[e]
   clear b8 b9 ca cc ce cf t E x cn e cY c0;have c1:=J dt;obtain⟨ff,D,bx,a1⟩:=dt;obtain⟨dv,ek,da,cv,c2⟩:=bx.range (Go.Maps.int_keyed Tryz.underlying3) Tryz.underlying109;have m:Below H.heap.size H dv:=(Below.refl _ H).grown cv (aa _) (by simp);have er:H.cell? ⟨f,0,none⟩=some (.pointer (some ⟨d,0,none⟩)):=al.cell 0;have es:H.cell? ⟨d,22,none⟩=some (.map (some s)):=af.cell 22;have U:=af.below m af.lt;have V:=al.below m al.lt;have bA:=c1.o.keep (m.block s c1.o.lt);refine gI ?_ af al bx a1 da cv c2 m U V bA;clear af al bx a1 da cv c2 m U V bA;intro af al bx a1 da cv c2 m U V bA;go_wp2_with fail;go_loopw [] (λl=>l=dv) (λ_=>0)
   case atStart=>rfl
   case round=>
    subst hrel;rcases da.o.next (Go.Maps.int_keyed Tryz.underlying3) 0 with⟨en,c3,c4⟩|⟨key,v,k,y,a8,et,ev,db,_⟩
    ·have eR:∀ty,(Instr.next (.pointer (some ⟨H.heap.size,0,none⟩)) false ty).run Tryz.prog _=_:=λ_=>c4;replace c3:=J c3;clear c4;have fg:wr.cell? ⟨d,22,none⟩=some (.map (some s)):=U.o.cell 22;have fh:wr.cell? ⟨f,0,none⟩=some (.pointer (some ⟨d,0,none⟩)):=V.o.cell 0;obtain⟨g,br,bd,bB⟩:=dW.clear bA.o 0;have S:R (λj=>j=s) wr g:=(R.refl _ wr).grown bB (λk d3 _=>by injection d3 with d3;exact d3.symm);have c:=S.blk U.o cE;have d4:=J (S.blk (du.o.below m.o du.o.lt) cB);have a2:=S.blk V.o (λe=>cM e);have d5:=J ((d2.o.trans (R.ag m.o)).trans (Fr.nG S dc):Fr be z a6 w g);have c7:g.cell? ⟨f,0,none⟩=some (.pointer (some ⟨d,0,none⟩)):=a2.cell 0;have fi:g.cell? ⟨d,2,none⟩=some (.int .i64 (a.many:Int)):=c.cell 2;have g3:g.cell? ⟨d,3,none⟩=some (.int .i64 (a.free:Int)):=c.cell 3;have g4:g.cell? ⟨d,4,none⟩=some (.int .i64 (a.roots 0:Int)):=c.cell 4;have fj:g.cell? ⟨d,5,none⟩=some (.int .i64 (a.roots 1:Int)):=c.cell 5;have fk:g.cell? ⟨d,6,none⟩=some (.int .i64 (a.roots 2:Int)):=c.cell 6;have fm:g.cell? ⟨d,7,none⟩=some (.int .i64 (a.roots 3:Int)):=c.cell 7;have fn:g.cell? ⟨d,8,none⟩=some (.int .i64 (a.roots 4:Int)):=c.cell 8;have fp:g.cell? ⟨d,9,none⟩=some (.int .i64 (a.roots 5:Int)):=c.cell 9;have e0:g.cell? ⟨d,10,none⟩=some (.int .i64 (a.roots 6:Int)):=c.cell 10;have e1:g.cell? ⟨d,11,none⟩=some (.int .i64 (a.roots 7:Int)):=c.cell 11;have e2:g.cell? ⟨d,12,none⟩=some (.int .i64 (b.many:Int)):=c.cell 12;have e3:g.cell? ⟨d,13,none⟩=some (.int .i64 (b.free:Int)):=c.cell 13;have e4:g.cell? ⟨d,14,none⟩=some (.int .i64 (b.roots 0:Int)):=c.cell 14;have e5:g.cell? ⟨d,15,none⟩=some (.int .i64 (b.roots 1:Int)):=c.cell 15;have e6:g.cell? ⟨d,16,none⟩=some (.int .i64 (b.roots 2:Int)):=c.cell 16;have e7:g.cell? ⟨d,17,none⟩=some (.int .i64 (b.roots 3:Int)):=c.cell 17;have e8:g.cell? ⟨d,18,none⟩=some (.int .i64 (b.roots 4:Int)):=c.cell 18;have e9:g.cell? ⟨d,19,none⟩=some (.int .i64 (b.roots 5:Int)):=c.cell 19;have fa:g.cell? ⟨d,20,none⟩=some (.int .i64 (b.roots 6:Int)):=c.cell 20;have fb:g.cell? ⟨d,21,none⟩=some (.int .i64 (b.roots 7:Int)):=c.cell 21;have f12:g.frozen? ⟨d,12,none⟩=false:=c.frozen 12;have f13:g.frozen? ⟨d,13,none⟩=false:=c.frozen 13;have f14:g.frozen? ⟨d,14,none⟩=false:=c.frozen 14;have f15:g.frozen? ⟨d,15,none⟩=false:=c.frozen 15;have f16:g.frozen? ⟨d,16,none⟩=false:=c.frozen 16;have f17:g.frozen? ⟨d,17,none⟩=false:=c.frozen 17;have f18:g.frozen? ⟨d,18,none⟩=false:=c.frozen 18;have f19:g.frozen? ⟨d,19,none⟩=false:=c.frozen 19;have f20:g.frozen? ⟨d,20,none⟩=false:=c.frozen 20;have fc:g.frozen? ⟨d,21,none⟩=false:=c.frozen 21;have fr:=Tryz.underlying112;have d6:Hid (∀W,W=g.setCells d 12 (KE a)->KD w be z a6 d s gc rd B a row b0 (.returned (.int .i64 0)) W.drew):=by
      refine J λW el=>?_;have ey:ah W d 115 (qB z B a a s gc row rd):=by rw[el];exact J6 g a b c
      have d7:R (λj=>j=d) g W:=by rw[el];exact gW (KE a) 12 g (R.refl (λj=>j=d) g)
      have eA:dW W s 65536 (λ_=>none):=bd.keep (d7.block s bd.lt (λe=>cE e.symm));have eE:Fr be z a6 g W:=d7.mono λj _ e=>.inr (.inr (by rw[e];exact d8));have eI:ah W b0 63 #[iW d]:=d7.blk d4.o dy;exact⟨rfl,eI,ey,eA,d5.o.trans eE.drew⟩
     refine dZ ?_ c5 bd bB S c a2;clear c5 bd bB S c a2;intro c5 bd bB S c a2;clear er es ek;go_wp2_with fail
     go_region
     all_goals
      go_wp2_with fail;go_ret;exact d6.o _ (by simp only[KE,World.setCells])
    ·exact absurd db (by rw[Em a1.o];simp)
def rJ:aB:=⟨0,0,λ_=>0,λ_=>[]⟩
def hd1:aB:=⟨1,0,λ_=>0,λ_=>[]⟩
theorem EV(w:World)(q g j most stamp k i f r gc rd:Nat)(c:List UInt8)(a b:aB)(row s l:Value)(d:ah w f 115 (qB g c a b r gc row rd))(h:lh w q g j most stamp (ku c) (dB c) k 0 0 i 0 0 s l)(m:c.length<=20):Calls Tryz.prog 50 #[.pointer (some ⟨f,0,none⟩)] w λe w'=>e=.returned (.int .i64 0)/\Below w.heap.size w w':=by
 have t:w.cell? ⟨f,0,none⟩=some (.pointer (some ⟨g,0,none⟩)):=d.cell 0;have u:w.cell? ⟨f,1,none⟩=some (.string (str c)):=d.cell 1;have n:=J (kO w.drew f c u m);have p:=J (qG w.drew 0 g j most stamp i 0 0 (ku c) (dB c) (dB c) (some k) (some i) (h.drewN 1).fs (.inr ⟨rfl,rfl⟩) (by simp[dB];omega) l (h.drewN 1).fl);have v:Hid (Below w.heap.size w w.drew):=J (Below.refl _ _).drew;replace d:=J d;replace h:=J h;go_enter Tryz.func50,Tryz.ntmps50;go_wp2_with fail;go_region_held3 (λw'=>w'.cell? ⟨f,0,none⟩=some (.pointer (some ⟨g,0,none⟩))) (first|exact t) (first
  |(go_at_call 89;refine p.o.mono ?_;rintro e x ⟨rfl,rfl⟩)
  |(go_at_call 49;refine n.o.mono ?_;rintro e x ⟨rfl,rfl⟩))
 all_goals
  go_wp2_with fail;go_ret;exact⟨rfl,v.o⟩
theorem IG{i d f gc rd:Nat}{g:List UInt8}{row:Value}(w:World)(a b c:aB)(h:ah w i 115 (qB d g a b f gc row rd)):ah (w.setCells i 2 (KE c)) i 115 (qB d g c b f gc row rd):=by
 have e:(((((((((((qB d g a b f gc row rd).setIfInBounds 2 (.int .i64 (c.many:Int))).setIfInBounds 3 (.int .i64 (c.free:Int))).setIfInBounds 4 (.int .i64 (c.roots 0:Int))).setIfInBounds 5 (.int .i64 (c.roots 1:Int))).setIfInBounds 6 (.int .i64 (c.roots 2:Int))).setIfInBounds 7 (.int .i64 (c.roots 3:Int))).setIfInBounds 8 (.int .i64 (c.roots 4:Int))).setIfInBounds 9 (.int .i64 (c.roots 5:Int))).setIfInBounds 10 (.int .i64 (c.roots 6:Int))).setIfInBounds 11 (.int .i64 (c.roots 7:Int)))=qB d g c b f gc row rd:=by kernel_rfl
 rw[<-e];generalize qB d g a b f gc row rd=P at *;exact(((((((((h.aK 2 _).aK 3 _).aK 4 _).aK 5 _).aK 6 _).aK 7 _).aK 8 _).aK 9 _).aK 10 _).aK 11 _
theorem lh.II{w w':World}{f g b most stamp i kd nd k kl nl c:Nat}{l m:List UInt8}{n o:Value}{t:TypeId}{p:Array Value}(h:lh w f g b most stamp l m i kd nd k kl nl n o)(r:R (λj=>j=c) w w')(d:ah w c t p)(s:t≠74)(u:t≠216)(v:t≠221)(q:c≠b):
 lh w' f g b most stamp l m i kd nd k kl nl n o:=
 h.keep r (λj x ⟨p,a⟩=>by
  subst x;rcases a with a|a|a
  ·exact ah.iH d a s rfl
  ·exact ah.iH d a u rfl
  ·exact ah.iH d a v rfl) (λe=>q e.symm)
def KF(w:World)(d a f b c gc rd:Nat)(g:List UInt8)(row:Value)(i:Nat)(e:Ending)(w':World):Prop:=e=.returned (.int .i64 0)/\ah w' i 63 #[iW b]/\ah w' b 115 (qB a g hd1 hd1 c gc row rd)/\dW w' c 65536 (λ_=>none)/\Fr d a f w w'
theorem EW(w:World)(i d g most stamp m t b f gc rd n:Nat)(c:List UInt8)(row u y:Value)(a:ah w b 115 (qB d c rJ rJ f gc row rd))(k:dW w f 65536 (λ_=>none))(h:lh w i d g most stamp (ku c) (dB c) m 0 0 t 0 0 u y)
 (r:i<=b) (z:i<=f) (A:f≠g) (B:b≠g) (p:most<=65536) (v:17<=most) (C:stamp<=1000) (s:c.length<=20) (l:ah w n 63 #[iW b]):
 Calls Tryz.prog 51 #[.pointer (some ⟨b,0,none⟩)] w (KF w i d g b f gc rd c row n):=by
 have D:b≠f:=λe=>k.ne a e.symm;have K:w.cell? ⟨b,0,none⟩=some (.pointer (some ⟨d,0,none⟩)):=a.cell 0;have L:w.cell? ⟨b,1,none⟩=some (.string (str c)):=a.cell 1;have ab:w.cell? ⟨b,2,none⟩=some (.int .i64 0):=a.cell 2;have ac:w.frozen? ⟨b,2,none⟩=false:=a.frozen 2;have g3:w.cell? ⟨b,3,none⟩=some (.int .i64 0):=a.cell 3;have ad:w.frozen? ⟨b,3,none⟩=false:=a.frozen 3;have g4:w.cell? ⟨b,4,none⟩=some (.int .i64 0):=a.cell 4;have ae:w.frozen? ⟨b,4,none⟩=false:=a.frozen 4;have af:w.cell? ⟨b,5,none⟩=some (.int .i64 0):=a.cell 5;have f5:w.frozen? ⟨b,5,none⟩=false:=a.frozen 5;have al:w.cell? ⟨b,6,none⟩=some (.int .i64 0):=a.cell 6;have f6:w.frozen? ⟨b,6,none⟩=false:=a.frozen 6;have am:w.cell? ⟨b,7,none⟩=some (.int .i64 0):=a.cell 7;have f7:w.frozen? ⟨b,7,none⟩=false:=a.frozen 7;have an:w.cell? ⟨b,8,none⟩=some (.int .i64 0):=a.cell 8;have f8:w.frozen? ⟨b,8,none⟩=false:=a.frozen 8;have ao:w.cell? ⟨b,9,none⟩=some (.int .i64 0):=a.cell 9;have ap:w.frozen? ⟨b,9,none⟩=false:=a.frozen 9;have Y:w.cell? ⟨b,10,none⟩=some (.int .i64 0):=a.cell 10;have f10:w.frozen? ⟨b,10,none⟩=false:=a.frozen 10;have Z:w.cell? ⟨b,11,none⟩=some (.int .i64 0):=a.cell 11;have f11:w.frozen? ⟨b,11,none⟩=false:=a.frozen 11;have E:=J (tu w.drew b c L s);have F:=J (qG w.drew 0 d g most stamp m 0 0 (ku c) (dB c) (ku c) (some m) (some t) (h.drewN 1).fs (.inl ⟨rfl,rfl⟩) (by simp[ku];omega) u (h.drewN 1).fd);have G:Hid (∀W,W=w.setCells b 2 (KE hd1)->Calls Tryz.prog 96 #[.pointer (some ⟨b,0,none⟩)] W.drew (KF w i d g b f gc rd c row n)):=J λW H=>by
  have M:ah W b 115 (qB d c hd1 rJ f gc row rd):=by rw[H];exact IG w rJ rJ hd1 a
  have q:R (λj=>j=b) w W:=by rw[H];exact gW (KE hd1) 2 w (R.refl (λj=>j=b) w)
  have O:dW W f 65536 (λ_=>none):=k.keep (q.block f k.lt (λe=>D e.symm));have P:Fr i d g w W:=q.mono λj _ e=>.inr (.inr (by rw[e];exact r));have Q:=h.II q a (by decide) (by decide) (by decide) B;refine(Ch W.drew i d g most stamp m t b f gc rd n c hd1 rJ row u y M (O.keep rfl) (Q.drewN 1) rfl (by decide) (λ_=>zero_le _) r z A p v C s (q.blk l (λe=>ah.iH l a (by decide) e))).mono ?_;rintro e w' ⟨rfl,S,T,U,V⟩;exact⟨rfl,S,T,U,(show Fr i d g w W.drew from P.drew).trans V⟩
 refine bz ?_ a k l h;clear a k l h;intro a k l h;go_enter Tryz.func51,Tryz.ntmps51;go_wp2_with fail;go_region_held3 (λw'=>w'.cell? ⟨b,0,none⟩=some (.pointer (some ⟨d,0,none⟩))) (first|exact K) (first
  |(go_at_call 89;refine F.o.mono ?_;rintro e X ⟨rfl,rfl⟩)
  |(go_at_call 47;refine E.o.mono ?_;rintro e X ⟨rfl,rfl⟩))
 all_goals
  go_wp2_with fail;refine(G.o _ (by simp[KE,hd1,World.setCells])).mono ?_;rintro e a0 ⟨rfl,x⟩;replace x:=J x;go_wp2_with fail;go_ret;exact⟨rfl,x.o⟩
structure Mk where
 H0:Nat
 gf:Nat
 bm:Nat
 most:Nat
 stamp:Nat
 gp:Nat
 gm:Nat
 gc:Nat
 cp:Nat
 nm:List UInt8
def zX:Value:=.slice none 0 0
structure I8 (N:Mk) (w0 w:World):Prop where
 pg:ah w N.gp 115 (qB N.gf N.nm rJ rJ N.gm N.gc zX 0)
 mp:dW w N.gm 65536 (λ_=>none)
 cp:ah w N.cp 63 #[iW N.gp]
 fr:Fr N.H0 N.gf N.bm w0 w
 sz:N.H0<=w.heap.size
 CW:N.gf<N.H0
 MF:N.bm<N.H0
 MG:N.H0<=N.gp
 MH:N.H0<=N.gm
 Nc:N.H0<=N.cp
 nl:N.nm.length<=20
 hd:mL (ku N.nm)
 hl:mL (dB N.nm)
def mR(N:Mk)(w0:World):Nat->World->Prop
 |0,w=>I8 N w0 w/\dY w 0 N.gf N.bm N.most N.stamp (ku N.nm) (dB N.nm) none none
 |1,w=>I8 N w0 w/\∃a,N.H0<=a/\dY w 0 N.gf N.bm N.most (N.stamp+1) (ku N.nm) (dB N.nm) (some a) none/\dO w 0 a 0 0 (.slice none 0 0)
 |2,w=>I8 N w0 w/\∃a b,lh w N.H0 N.gf N.bm N.most (N.stamp+2) (ku N.nm) (dB N.nm) a 0 0 b 0 0 (.slice none 0 0) (.slice none 0 0)
 |3,w=>I8 N w0 w/\∃a b,lh w N.H0 N.gf N.bm N.most (N.stamp+2) (ku N.nm) (dB N.nm) a 0 0 b 0 0 (.slice none 0 0) (.slice none 0 0)
 |_,w=>ah w N.cp 63 #[iW N.gp]/\ah w N.gp 115 (qB N.gf N.nm hd1 hd1 N.gm N.gc zX 0)/\dW w N.gm 65536 (λ_=>none)/\Fr N.H0 N.gf N.bm w0 w
def mS(N:Mk)(w0:World)(i:Nat)(e:Ending)(w':World):Prop:=e=.returned (.int .i64 0)/\Hid (mR N w0 i w')
section
variable {N:Mk}{w0 w w':World}
theorem I8.below(h:I8 N w0 w)(a:Below w.heap.size w w'):I8 N w0 w':=⟨h.pg.below a h.pg.lt,h.mp.keep (a.block _ h.mp.lt),h.cp.below a h.cp.lt,h.fr.trans (R.ag a),aO h.sz a.size,h.CW,h.MF,h.MG,h.MH,h.Nc,h.nl,h.hd,h.hl⟩
theorem I8.only(h:I8 N w0 w)(a:R (λj=>j=N.gf\/j=N.bm) w w'):I8 N w0 w':=by
 have b:=h.CW;have c:=h.MF;have n3:=h.MG;have n4:=h.MH;have d:=h.Nc;have f:=h.sz;have g:=a.size;exact⟨a.blk h.pg (by omega),h.mp.keep (a.block _ h.mp.lt (by omega)),a.blk h.cp (by omega),h.fr.trans (a.mono λj _ e=>by
  rcases e with e|e
  ·exact .inl e
  ·exact .inr (.inl e)),by omega,b,c,n3,n4,d,h.nl,h.hd,h.hl⟩
theorem IJ(a:List UInt8):ku a≠dB a:=λe=>by have:=congrArg List.length e;simp[ku,dB]at this
theorem Ni(h:mR N w0 0 w)(n:N.stamp<=1000):Calls Tryz.prog 45 #[.pointer (some ⟨N.cp,0,none⟩)] w (mS N w0 1):=by obtain⟨a,j⟩:=h;refine Eu w N.cp N.gp N.nm (a.cp.cell 0) (a.pg.cell 1) a.nl _ (λq=>?_) (λe w' d=>d.1);have f:Below w.heap.size w (w.drewN q):=iE w q;have b:=a.below f;have c:dY (w.drewN q) 0 N.gf N.bm N.most N.stamp (ku N.nm) (dB N.nm) none none:=j.only (S:=λ_=>False) (R.ag f) (λh=>h) (λh=>h);refine uS (w.drewN q) N.gp N.gf (ku N.nm) (b.pg.cell 0) _ (vF (w.drewN q) 0 N.gf N.bm N.most N.stamp (ku N.nm) (dB N.nm) (ku N.nm) none none c (.inl ⟨rfl,rfl⟩) (by have:=a.hd.len;omega)) ((G6 (w.drewN q) 0 N.gf N.bm N.most N.stamp _ _ c a.hd (by omega) (zero_le _)).mono ?_) (λe w' d=>d.1);rintro e w' ⟨g,rfl,i,k,l,m⟩;simp only[Le,Lf,if_true]at i;exact⟨rfl,J ⟨b.only l,g,aO b.sz m,i,k⟩⟩
theorem Nj(h:mR N w0 1 w)(y:N.stamp<=1000):Calls Tryz.prog 48 #[.pointer (some ⟨N.cp,0,none⟩)] w (mS N w0 2):=by obtain⟨c,d,n,s,t⟩:=h;refine Ew w N.cp N.gp N.nm (c.cp.cell 0) (c.pg.cell 1) c.nl _ (λq=>?_) (λe w' k=>k.1);have l:Below w.heap.size w (w.drewN q):=iE w q;have a:=c.below l;have f:dY (w.drewN q) 0 N.gf N.bm N.most (N.stamp+1) (ku N.nm) (dB N.nm) (some d) none:=s.only (S:=λ_=>False) (R.ag l) (λh=>h) (λh=>h);have i:dO (w.drewN q) 0 d 0 0 (.slice none 0 0):=t.only (S:=λ_=>False) (R.ag l) (λh=>h) (λ_ _ h=>h);refine uS (w.drewN q) N.gp N.gf (dB N.nm) (a.pg.cell 0) _ (vF (w.drewN q) 0 N.gf N.bm N.most (N.stamp+1) (ku N.nm) (dB N.nm) (dB N.nm) (some d) none f (.inr ⟨rfl,rfl⟩) (by have:=c.hl.len;omega)) ((G8 (w.drewN q) 0 N.gf N.bm N.most (N.stamp+1) _ _ d f c.hl (by omega) (zero_le _)).mono ?_) (λe w' k=>k.1);rintro e w' ⟨g,rfl,o,u,m,v⟩;simp only[Le,Lf,if_neg (IJ N.nm).symm]at o;have z:=a.CW;have A:=a.MF;obtain⟨st,p⟩:=i.st;have x:=p.lt;have r:dO w' 0 d 0 0 (.slice none 0 0):=i.only m (by omega) (λj b=>by cases b);exact⟨rfl,J ⟨a.only m,d,g,⟨o,r,u,⟨n,λj b=>by cases b⟩,⟨aO a.sz v,λj b=>by cases b⟩,by omega,λj b=>(by cases b),aO a.sz m.size⟩⟩⟩
theorem Nk(h:mR N w0 2 w):Calls Tryz.prog 50 #[.pointer (some ⟨N.gp,0,none⟩)] w (mS N w0 3):=by obtain⟨a,b,c,d⟩:=h;refine(EV w N.H0 N.gf N.bm N.most (N.stamp+2) b c N.gp N.gm N.gc 0 N.nm rJ rJ zX _ _ a.pg d a.nl).mono ?_;rintro e w' ⟨rfl,f⟩;exact⟨rfl,J ⟨a.below f,b,c,d.below f⟩⟩
theorem Nl(h:mR N w0 3 w)(m:N.stamp<=900)(c:N.most<=65536)(b:17<=N.most):Calls Tryz.prog 51 #[.pointer (some ⟨N.gp,0,none⟩)] w (mS N w0 4):=by obtain⟨a,d,f,g⟩:=h;have n:=a.MF;have n3:=a.MG;have n4:=a.MH;refine(EW w N.H0 N.gf N.bm N.most (N.stamp+2) d f N.gp N.gm N.gc 0 N.cp N.nm zX _ _ a.pg a.mp g a.MG a.MH (by omega) (by omega) c b (by omega) a.nl a.cp).mono ?_;rintro e w' ⟨rfl,i,j,k,l⟩;exact⟨rfl,J ⟨i,j,k,a.fr.trans l⟩⟩
end
def KG(w:World)(c d:Nat)(f:List UInt8)(e:Ending)(w':World):Prop:=∃a b gc,e=.returned (.tuple #[.pointer (some ⟨a,0,none⟩),.int .i64 0])/\w.heap.size<=a/\w.heap.size<=b/\ah w' a 115 (qB c f hd1 hd1 b gc zX 0)/\dW w' b 65536 (λ_=>none)/\Fr w.heap.size c d w w'
theorem IK(w:World)(g r most stamp:Nat)(c:List UInt8)(h:dY w 0 g r most stamp (ku c) (dB c) none none)(A:mL (ku c))(B:mL (dB c))(ae:1<=c.length)(L:c.length<=20)(C:most<=65536)(E:17<=most)(ad:stamp<=100):Calls Tryz.prog 17 #[.pointer (some ⟨g,0,none⟩),.string (str c)] w (KG w g r c):=by
 have D:=J (IL w 0 g r most stamp _ _ none none h);have T:¬((str c).size:Int)<1:=by simp[str,ByteArray.size];omega
 have U:¬20<((str c).size:Int):=by simp[str,ByteArray.size];omega
 have M:=@run_makeMap Tryz.prog;obtain⟨x,j⟩:=I (((((w.alloc (.map #[] 0)).alloc (.map #[] 0)).alloc (.cells #[Value.pointer (some ⟨g,0,none⟩),Value.string (str c),Value.int .i64 0,Value.int .i64 0,Value.int .i64 0,Value.int .i64 0,Value.int .i64 0,Value.int .i64 0,Value.int .i64 0,Value.int .i64 0,Value.int .i64 0,Value.int .i64 0,Value.int .i64 0,Value.int .i64 0,Value.int .i64 0,Value.int .i64 0,Value.int .i64 0,Value.int .i64 0,Value.int .i64 0,Value.int .i64 0,Value.int .i64 0,Value.int .i64 0,Value.map (some w.heap.size),Value.map (some (w.heap.size+1)),Value.slice none 0 0,Value.int .i64 0,Value.bool false] 115)).alloc (.cells #[.pointer (some ⟨w.heap.size+1+1,0,none⟩)] 63)));obtain⟨N,b⟩:∃N:Mk,N=⟨w.heap.size,g,r,most,stamp,w.heap.size+1+1,w.heap.size,w.heap.size+1,w.heap.size+1+1+1,c⟩:=⟨_,rfl⟩;have O:r<w.heap.size:=by obtain⟨af,V,_⟩:=h.mp;exact V.lt
 have P:g<w.heap.size:=h.st.lt;have m:Below w.heap.size w x:=by rw[j];exact((((Below.refl w.heap.size w).alloc (aa _) _).alloc (by simp) _).alloc (by simp<;>omega) _).alloc (by simp<;>omega) _
 have f:Hid (mR N w 0 x):=by
  have W:((w.alloc (.map #[] 0)).alloc (.map #[] 0)).heap.size=w.heap.size+1+1:=by simp
  have X:(((w.alloc (.map #[] 0)).alloc (.map #[] 0)).alloc (.cells #[Value.pointer (some ⟨g,0,none⟩),Value.string (str c),Value.int .i64 0,Value.int .i64 0,Value.int .i64 0,Value.int .i64 0,Value.int .i64 0,Value.int .i64 0,Value.int .i64 0,Value.int .i64 0,Value.int .i64 0,Value.int .i64 0,Value.int .i64 0,Value.int .i64 0,Value.int .i64 0,Value.int .i64 0,Value.int .i64 0,Value.int .i64 0,Value.int .i64 0,Value.int .i64 0,Value.int .i64 0,Value.int .i64 0,Value.map (some w.heap.size),Value.map (some (w.heap.size+1)),Value.slice none 0 0,Value.int .i64 0,Value.bool false] 115)).heap.size=w.heap.size+1+1+1:=by simp
  have Y:ah x (w.heap.size+1+1) 115 (qB g c rJ rJ w.heap.size (w.heap.size+1) zX 0):=by rw[j];have q:=ah.new ((w.alloc (.map #[] 0)).alloc (.map #[] 0)) 115 #[Value.pointer (some ⟨g,0,none⟩),Value.string (str c),Value.int .i64 0,Value.int .i64 0,Value.int .i64 0,Value.int .i64 0,Value.int .i64 0,Value.int .i64 0,Value.int .i64 0,Value.int .i64 0,Value.int .i64 0,Value.int .i64 0,Value.int .i64 0,Value.int .i64 0,Value.int .i64 0,Value.int .i64 0,Value.int .i64 0,Value.int .i64 0,Value.int .i64 0,Value.int .i64 0,Value.int .i64 0,Value.int .i64 0,Value.map (some w.heap.size),Value.map (some (w.heap.size+1)),Value.slice none 0 0,Value.int .i64 0,Value.bool false];rw[W]at q;exact q.below ((Below.refl _ _).alloc (aa _) _) q.lt
  have Z:dW x w.heap.size 65536 (λ_=>none):=by
   rw[j];have q:=dW.new w 65536;have al:(w.alloc (.map #[] 0)).heap.size=w.heap.size+1:=by simp
   refine q.keep ((((Below.refl (w.heap.size+1) (w.alloc (.map #[] 0))).alloc (by simp) _).alloc (by simp<;>omega) _ |>.alloc (by simp<;>omega) _).block _ (by omega))
  have ab:ah x (w.heap.size+1+1+1) 63 #[iW (w.heap.size+1+1)]:=by rw[j];have q:=ah.new (((w.alloc (.map #[] 0)).alloc (.map #[] 0)).alloc (.cells #[Value.pointer (some ⟨g,0,none⟩),Value.string (str c),Value.int .i64 0,Value.int .i64 0,Value.int .i64 0,Value.int .i64 0,Value.int .i64 0,Value.int .i64 0,Value.int .i64 0,Value.int .i64 0,Value.int .i64 0,Value.int .i64 0,Value.int .i64 0,Value.int .i64 0,Value.int .i64 0,Value.int .i64 0,Value.int .i64 0,Value.int .i64 0,Value.int .i64 0,Value.int .i64 0,Value.int .i64 0,Value.int .i64 0,Value.map (some w.heap.size),Value.map (some (w.heap.size+1)),Value.slice none 0 0,Value.int .i64 0,Value.bool false] 115)) 63 #[.pointer (some ⟨w.heap.size+1+1,0,none⟩)];rw[X]at q;exact q
  refine J ?_;rw[b];exact⟨⟨Y,Z,ab,R.ag m,m.size,P,O,by show w.heap.size<=w.heap.size+1+1;omega,aa _,by show w.heap.size<=w.heap.size+1+1+1;omega,L,A,B⟩,h.only (S:=λ_=>False) (R.ag m) (λh=>h) (λh=>h)⟩
 replace b:=J b;have s:Hid (∀a,mR N w 0 a->Calls Tryz.prog 45 #[.pointer (some ⟨w.heap.size+1+1+1,0,none⟩)] a (mS N w 1)):=J λa n=>by have:=Ni n (by rw[b.o];show stamp<=1000;omega);rw[show N.cp=w.heap.size+1+1+1 by rw[b.o]]at this;exact this
 have t:Hid (∀a,mR N w 1 a->Calls Tryz.prog 48 #[.pointer (some ⟨w.heap.size+1+1+1,0,none⟩)] a (mS N w 2)):=J λa n=>by have:=Nj n (by rw[b.o];show stamp<=1000;omega);rw[show N.cp=w.heap.size+1+1+1 by rw[b.o]]at this;exact this
 have u:Hid (∀a,mR N w 2 a->Calls Tryz.prog 50 #[.pointer (some ⟨w.heap.size+1+1,0,none⟩)] a (mS N w 3)):=J λa n=>by have:=Nk n;rw[show N.gp=w.heap.size+1+1 by rw[b.o]]at this;exact this
 have v:Hid (∀a,mR N w 3 a->Calls Tryz.prog 51 #[.pointer (some ⟨w.heap.size+1+1,0,none⟩)] a (mS N w 4)):=J λa n=>by have:=Nl n (by rw[b.o];show stamp<=900;omega) (by rw[b.o];exact C) (by rw[b.o];exact E);rw[show N.gp=w.heap.size+1+1 by rw[b.o]]at this;exact this
 refine bz ?_ h A B m;clear h A B m;intro h A B m;go_enter Tryz.func17,Tryz.ntmps17;go_wp2_with fail;refine D.o.mono ?_;rintro e am ⟨rfl,rfl⟩;go_wp2_with fail;rw[<-j];replace j:=J j;clear M D;go_loopw [38] (λy a=>∃i:Nat,y=.int .i64 (i:Int)/\i<=4/\Hid (mR N w i a)) (λy _=>4-(intOf y).toNat)
 case atStart=>exact⟨0,rfl,by omega,f⟩
 case round=>
  obtain⟨i,rfl,z,d⟩:=hrel;have ac:i=0\/i=1\/i=2\/i=3\/i=4:=by omega
  rcases ac with rfl|rfl|rfl|rfl|rfl
  ·have k:=J (s.o _ d.o);have l:∀a,(Instr.index 117 (.agg #[.func (Fn.func 45) #[] #[.pointer (some ⟨w.heap.size+1+1+1,0,none⟩)],.func (Fn.func 48) #[] #[.pointer (some ⟨w.heap.size+1+1+1,0,none⟩)],.func (Fn.func 50) #[.pointer (some ⟨w.heap.size+1+1,0,none⟩)] #[],.func (Fn.func 51) #[.pointer (some ⟨w.heap.size+1+1,0,none⟩)] #[]]) (.int .i64 0)).run Tryz.prog a=.ok (.func (Fn.func 45) #[] #[.pointer (some ⟨w.heap.size+1+1+1,0,none⟩)]) a:=λ_=>by kernel_rfl
   clear s t u v d f b z;go_wp2_with fail;refine k.o.mono ?_;rintro e F ⟨rfl,p⟩;clear k l;go_wp2_with fail;go_roundw
   case rel=>exact⟨1,rfl,by omega,p⟩
   case measure=>simp[intOf]
  ·have k:=J (t.o _ d.o);have l:∀a,(Instr.index 117 (.agg #[.func (Fn.func 45) #[] #[.pointer (some ⟨w.heap.size+1+1+1,0,none⟩)],.func (Fn.func 48) #[] #[.pointer (some ⟨w.heap.size+1+1+1,0,none⟩)],.func (Fn.func 50) #[.pointer (some ⟨w.heap.size+1+1,0,none⟩)] #[],.func (Fn.func 51) #[.pointer (some ⟨w.heap.size+1+1,0,none⟩)] #[]]) (.int .i64 1)).run Tryz.prog a=.ok (.func (Fn.func 48) #[] #[.pointer (some ⟨w.heap.size+1+1+1,0,none⟩)]) a:=λ_=>by kernel_rfl
   clear s t u v d f b z;go_wp2_with fail;refine k.o.mono ?_;rintro e F ⟨rfl,p⟩;clear k l;go_wp2_with fail;go_roundw
   case rel=>exact⟨2,rfl,by omega,p⟩
   case measure=>simp[intOf]
  ·have k:=J (u.o _ d.o);have l:∀a,(Instr.index 117 (.agg #[.func (Fn.func 45) #[] #[.pointer (some ⟨w.heap.size+1+1+1,0,none⟩)],.func (Fn.func 48) #[] #[.pointer (some ⟨w.heap.size+1+1+1,0,none⟩)],.func (Fn.func 50) #[.pointer (some ⟨w.heap.size+1+1,0,none⟩)] #[],.func (Fn.func 51) #[.pointer (some ⟨w.heap.size+1+1,0,none⟩)] #[]]) (.int .i64 2)).run Tryz.prog a=.ok (.func (Fn.func 50) #[.pointer (some ⟨w.heap.size+1+1,0,none⟩)] #[]) a:=λ_=>by kernel_rfl
   clear s t u v d f b z;go_wp2_with fail;refine k.o.mono ?_;rintro e F ⟨rfl,p⟩;clear k l;go_wp2_with fail;go_roundw
   case rel=>exact⟨3,rfl,by omega,p⟩
   case measure=>simp[intOf]
  ·have k:=J (v.o _ d.o);have l:∀a,(Instr.index 117 (.agg #[.func (Fn.func 45) #[] #[.pointer (some ⟨w.heap.size+1+1+1,0,none⟩)],.func (Fn.func 48) #[] #[.pointer (some ⟨w.heap.size+1+1+1,0,none⟩)],.func (Fn.func 50) #[.pointer (some ⟨w.heap.size+1+1,0,none⟩)] #[],.func (Fn.func 51) #[.pointer (some ⟨w.heap.size+1+1,0,none⟩)] #[]]) (.int .i64 3)).run Tryz.prog a=.ok (.func (Fn.func 51) #[.pointer (some ⟨w.heap.size+1+1,0,none⟩)] #[]) a:=λ_=>by kernel_rfl
   clear s t u v d f b z;go_wp2_with fail;refine k.o.mono ?_;rintro e F ⟨rfl,p⟩;clear k l;go_wp2_with fail;go_roundw
   case rel=>exact⟨4,rfl,by omega,p⟩
   case measure=>simp[intOf]
  ·obtain⟨Q,G,H,K⟩:=d.o;have e:=b.o;have an:wr.cell? ⟨w.heap.size+1+1+1,0,none⟩=some (.pointer (some ⟨w.heap.size+1+1,0,none⟩)):=by have:=Q.cell 0;rw[e]at this;exact this
   have r1:Hid (KG w g r c (.returned (.tuple #[.pointer (some ⟨w.heap.size+1+1,0,none⟩),.int .i64 0])) wr):=by rw[e]at G H K;exact J ⟨_,_,_,rfl,by omega,aa _,G,H,K⟩
   clear s t u v d f b z e Q G H K;go_wp2_with fail
   go_ret2
   exact r1.o
theorem Ml{w:World}{b a gc c:Nat}{d:List UInt8}(e:ah w b 115 (qB c d hd1 hd1 a gc zX 0))(f:dW w a 65536 (λ_=>none)):ar w (λk=>k=b\/k=a) b hd1:=by
 refine⟨aa 1,by decide,λk j=>?_,.inl rfl,a,λi=>(qB c d hd1 hd1 a gc zX 0).getD i undef,λ_=>none,e,.inr rfl,f,λno g _=>?_⟩
 ·rcases j with rfl|rfl
  ·exact e.lt
  ·exact f.lt
 ·have l:=g.1;have m:no<1:=g.2;omega
end Go.Proofs.YtajdeapdgbnahaaGreatDoor
