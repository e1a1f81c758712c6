/-
  Contract of tree.top where the root stays (a leaf).
-/
import Derived.Test.YtajdeapdgbnahaaGreatDoorCyGr25
namespace Go.Proofs.YtajdeapdgbnahaaGreatDoor
set_option linter.unusedVariables false
set_option maxRecDepth 100000
set_option maxHeartbeats 8000000
open Go.RowKit
open List Nat
theorem DP(w:World)(F:Nat->Prop)(gt s k:Nat)(st:aB)(h:ar w F s st)(T:aL w F gt s k)(bi:k<8)(key b:List UInt8)(bl bm:Option Addr)(bB b0:Nat)(al:MB F w bl key.length key)(am:MB F w bm b.length b)(a6:1<=key.length) (a7:key.length<=120) (an:b.length<=64) (a8:st.roots k=0) (a9:dU st) (z:st.free<st.many) (ba:dh (aW st) (aG st) ⟨true,[⟨key,b,0,0⟩],[]⟩) (bb:aG st<(aW st).many):Calls Tryz.prog 22 #[.pointer (some ⟨gt,0,none⟩),.slice bl key.length bB,.slice bm b.length b0] w (cG F w s (bo (aY (aW st) (aG st) ⟨true,[⟨key,b,0,0⟩],[]⟩) k (aG st)) (.int .i64 0)):=by
 obtain⟨L,ao⟩:=I (key.length);obtain⟨M,ap⟩:=I (b.length);rw[<-ao]at al a6 a7⊢;rw[<-ap]at am an⊢;have cp:decide ((L:Int)<1)=false:=aD (by omega);have cr:decide (120<(L:Int))=false:=aD (by omega);have ck:decide (120<L)=false:=aD (by omega);have cs:decide (20000<(M:Int))=false:=aD (by omega);have cl:decide (20000<M)=false:=aD (by omega);have cm:¬L=0:=by omega
 have A:Ev F w F (w.alloc (.cells #[.pointer (some ⟨gt,0,none⟩)] 66)):=(Ev.refl F w).az _;have K:=ah.new w 66 #[.pointer (some ⟨gt,0,none⟩)];have U:=h.alloc (.cells #[.pointer (some ⟨gt,0,none⟩)] 66);have bj:=J (su (w.alloc (.cells #[.pointer (some ⟨gt,0,none⟩)] 66)) gt bl bm L M bB b0 key b (al.ev A).rb (am.ev A).rb (by omega) an);have ct:(w.alloc (.cells #[.pointer (some ⟨gt,0,none⟩)] 66)).cell? ⟨w.heap.size,0,none⟩=some (.pointer (some ⟨gt,0,none⟩)):=K.cell 0;have cn:=ah.lt T.blk;have b1:¬F w.heap.size:=λz=>by have:=h.lt _ z;omega
 refine aR ?_ h T al am ao ap A K U a6 a7 an a8;clear h T al am ao ap A K U a6 a7 an a8;intro h T al am ao ap A K U a6 a7 an a8;refine bz ?_ a9 z ba bb;clear a9 z ba bb;intro a9 z ba bb;go_enter Tryz.func22,Tryz.ntmps22;go_wp2_with fail;go_at_call 54;refine bj.o.mono ?_;rintro e f ⟨bp,br,bs,V,t⟩;replace bs:e=.returned (.tuple #[.agg #[bp,br,.int .i64 0,.int .i64 0],.int .i64 0]):=bs;subst bs;have v:cN (G5 (w.heap.size+1) f) f [bp,br,.int .i64 0,.int .i64 0] ⟨key,b,0,0⟩:=by simpa using V
 obtain⟨g,i,l,m,b2,b3⟩:∃g i l m,bp=.slice g L i/\br=.slice l M m:=by obtain⟨g,i,l,m,bc,_⟩:=v;injection bc with ca bc;injection bc with a0 bc;exact⟨g,i,l,m,by rw[ao.o];exact ca,by rw[ap.o];exact a0⟩
 subst b2;subst b3;have W:=K.o.below t (by simp);have N:=A.o.below t;have X:=U.o.below t;have co:=N.size;have cb:w.heap.size<f.heap.size:=by have:=t.size;simp at this;omega
 obtain⟨o,b4⟩:=I (Obj.cells #[.slice g L i,.slice l M m,.int .i64 0,.int .i64 0] 122 (0,0));have O:Ev F w F (f.alloc o):=N.az o;have P:=T.o.ev O;have Q:=X.alloc o;have Y:=W.alloc o;have x:ah (f.alloc o) f.heap.size 122 #[.slice g L i,.slice l M m,.int .i64 0,.int .i64 0]:=by rw[b4];exact ah.new _ _ _
 have a1:=J (λq=>iP ((f.alloc o).drewN q) F s st (Q.drewN q) k bi);rw[a8.o]at a1;have t0:(f.alloc o).cell? ⟨w.heap.size,0,none⟩=some (.pointer (some ⟨gt,0,none⟩)):=Y.cell 0;have cw:(f.alloc o).cell? ⟨gt,0,none⟩=some (.pointer (some ⟨s,0,none⟩)):=P.blk.cell 0;have cx:(f.alloc o).cell? ⟨gt,1,none⟩=some (.int .i64 (k:Int)):=P.blk.cell 1;have t4:=x.cell 0;have t5:=x.cell 1;have cc:=x.cell 2;have ce:=x.cell 3;subst b4;refine gI ?_ V v t W N X O P Q Y x;clear V v t W N X O P Q Y x;intro V v t W N X O P Q Y x;clear bj;go_wp2_with fail;go_quiet (first|(go_at_call 55;exact fE (a1.o _)));obtain⟨d,a⟩:=I ((f.alloc (.cells #[.slice g L i,.slice l M m,.int .i64 0,.int .i64 0] 122)).drewN nq);rw[<-a];have Z:Ev F w F d:=by rw[a];exact O.o.drewN nq
 have ab:ar d F s st:=by rw[a];exact Q.o.drewN nq
 have ac:d.heap.size=f.heap.size+1:=by rw[a];simp[World.drewN]
 have t0:d.cell? ⟨w.heap.size,0,none⟩=some (.pointer (some ⟨gt,0,none⟩)):=by rw[a];exact t0
 have cy:d.cell? ⟨f.heap.size,0,none⟩=some (.slice g L i):=by rw[a];exact t4
 have r1:d.cell? ⟨f.heap.size,1,none⟩=some (.slice l M m):=by rw[a];exact t5
 have r2:d.cell? ⟨f.heap.size,2,none⟩=some (.int .i64 0):=by rw[a];exact cc
 have r3:d.cell? ⟨f.heap.size,3,none⟩=some (.int .i64 0):=by rw[a];exact ce
 have D:Ev F w F (d.alloc (.cells #[.slice g L i,.slice l M m,.int .i64 0,.int .i64 0] 122)):=Z.az _;have ad:=ah.new d 122 #[.slice g L i,.slice l M m,.int .i64 0,.int .i64 0];have y:=h.o.lt;have ae:bI (bF F (d.alloc (.cells #[.slice g L i,.slice l M m,.int .i64 0,.int .i64 0] 122))) (d.alloc (.cells #[.slice g L i,.slice l M m,.int .i64 0,.int .i64 0] 122)) (.agg #[.bool true,.slice (some ⟨d.heap.size,0,none⟩) 1 1,.slice none 0 0]) ⟨true,[⟨key,b,0,0⟩],[]⟩:=by
  refine⟨some ⟨d.heap.size,0,none⟩,1,none,0,rfl,aa _,aa _,⟨[[.slice g L i,.slice l M m,.int .i64 0,.int .i64 0]],rfl,⟨rfl,λ_=>⟨_,rfl,⟨by simp,λz=>by have bv:d.heap.size<w.heap.size:=y _ z;omega⟩,λj u cf=>?_⟩⟩,λq vs c a0 b5=>?_⟩,Rd.none_⟩
  ·rw[Addr.add_lit,Nat.zero_add,ad.cell];simpa using cf
  ·obtain rfl:q=0:=by have:=(ay.1 a0).1;simp at this;exact this
   simp at a0 b5;subst a0;subst b5;refine v.o.keep λq cg=>?_;obtain⟨cz,ch,b6⟩:=cg;have b7:ah (d.alloc (.cells #[.slice g L i,.slice l M m,.int .i64 0,.int .i64 0] 122)) q 5 ch:=by rw[a];exact((b6.alloc _).drewN nq).alloc _
   exact⟨⟨ah.lt b7,λz=>by have:=y _ z;omega⟩,Eq.trans b7 b6.symm⟩
 have a2:=J (oN _ F gt s k st (ab.alloc (.cells #[.slice g L i,.slice l M m,.int .i64 0,.int .i64 0] 122)) (T.o.ev D) ⟨true,[⟨key,b,0,0⟩],[]⟩ _ ae a9.o z.o ba.o);have bx:(d.alloc (.cells #[.slice g L i,.slice l M m,.int .i64 0,.int .i64 0] 122)).cell? ⟨w.heap.size,0,none⟩=some (.pointer (some ⟨gt,0,none⟩)):=by rw[World.cell?_alloc_lt _ _ _ (by show w.heap.size<d.heap.size;omega)];exact t0
 obtain⟨no,E⟩:=I (aG st);obtain⟨bg,r⟩:=I (aY (aW st) no ⟨true,[⟨key,b,0,0⟩],[]⟩);rw[<-E,<-r]at a2⊢;have b8:=J (by rw[r,E];exact bb.o:no<bg.many);refine dr ?_ E r a ac Z ab D ad y ae;clear E r a ac Z ab D ad y ae;intro E r a ac Z ab D ad y ae;go_wp2_with fail;go_at_call 56;refine a2.o.mono ?_;rintro e bd ⟨rfl,ci,af,G⟩;have S:=T.o.ev (D.o.trans G);have u0:bd.cell? ⟨w.heap.size,0,none⟩=some (.pointer (some ⟨gt,0,none⟩)):=(G.cell (p:=⟨w.heap.size,0,none⟩) ⟨by have:=ac.o;show w.heap.size<(d.alloc _).heap.size;simp;omega,b1⟩).trans bx;have u1:bd.cell? ⟨gt,0,none⟩=some (.pointer (some ⟨s,0,none⟩)):=S.blk.cell 0;have u2:bd.cell? ⟨gt,1,none⟩=some (.int .i64 (k:Int)):=S.blk.cell 1;have b9:=J (jv bd.drew ci s bg af.drew k no bi b8.o);have bA:=J ((D.o.trans G).drew);refine bf ?_ S af G;clear S af G;intro S af G;have be:Hid (∀a3,cG F w s (bo bg k no) (.int .i64 0) (.returned (.int .i64 0)) a3->cG F w s (bo (aY (aW st) (aG st) ⟨true,[⟨key,b,0,0⟩],[]⟩) k (aG st)) (.int .i64 0) (.returned (.int .i64 0)) a3):=J λa3 bv=>by rw[r.o,E.o]at bv;exact bv
 clear a2 a1;go_wp2_with fail;go_region_law(go_simp;go_at_call 57;refine b9.o.mono ?_;rintro e a3 ⟨rfl,cj,a4,a5⟩;(have H:=be.o a3 ⟨rfl,cj,a4,bA.o.trans a5⟩);replace H:=J H;replace a4:=J a4;replace a5:=J a5)
 all_goals
  go_wp2_with fail;go_ret;exact H.o
theorem cN.xM{F F':Nat->Prop}{w w':World}{vs:List Value}{c:ai}(h:cN (byteOf F w) w vs c)(a:Ev F w F' w'):cN (byteOf F' w') w' vs c:=h.keep λk d=>by obtain⟨b,e,f⟩:=d;have:=a.block b;exact⟨⟨a.mine b,e,Eq.trans this f⟩,this⟩
def uz(G:Nat->Prop)(w:World)(vs:List Value)(s:aj×Nat):Prop:=∃A c B d,vs=[.bool s.1.leaf,.slice A s.1.cells.length c,.slice B s.1.kids.length d,.int .i64 (s.2:Int)]/\bI G w (.agg #[.bool s.1.leaf,.slice A s.1.cells.length c,.slice B s.1.kids.length d]) s.1
def FC(F C:Nat->Prop)(k:Nat):Prop:=F k\/C k
structure dA (F C:Nat->Prop) (w:World) (gc gt:Nat) (way:List (aj×Nat)) (from_:List UInt8) (tgt:Int) (er:Int):Prop where
 mem:∃wv fA fc,ah w gc 194 #[.pointer (some ⟨gt,0,none⟩),wv,.slice fA from_.length fc,.int .i64 tgt,.int .i64 er]/\MB (FC F C) w fA from_.length from_/\
  (∀k,wv.ownBlock=some k->C k)/\∃rows:List (List Value),rows.length=way.length/\w.ownsRow 0 259 4 wv way.length rows.flatten/\∀(k:Nat) (vs:List Value) (s:aj×Nat),rows[k]?=some vs->way[k]?=some s->uz (bF (FC F C) w) w vs s
 own:C gc
 apart:∀k,C k->¬F k
 lt:∀k,C k->k<w.heap.size
section
variable {F F' C:Nat->Prop}{w w':World}{gc gt:Nat}{way:List (aj×Nat)}{from_:List UInt8}{tgt er:Int}
theorem uz.ev{vs:List Value}{s:aj×Nat}(h:uz (bF F w) w vs s)(a:Ev F w F' w'):uz (bF F' w') w' vs s:=by obtain⟨A,c,B,d,e,b⟩:=h;exact⟨A,c,B,d,e,b.ev a⟩
theorem dA.ev(h:dA F C w gc gt way from_ tgt er)(b:Ev F w F' w'):dA F' C w' gc gt way from_ tgt er:=by obtain⟨f,g,i,j,l,e,d,m,o,p⟩:=h.mem;have c:Ev (FC F C) w (FC F' C) w':=b.add C;refine⟨⟨f,g,i,b.blk j (h.apart _ h.own),l.ev c,e,d,m,b.only.row o (λk a=>h.apart k (e k a)),λk vs s q r=>(p k vs s q r).ev c⟩,h.own,λk a=>b.new (h.apart k a) (h.lt k a),λk a=>aN (h.lt k a) b.size⟩
end
inductive xN (S:aB->Nat->aB):aB->Nat->Nat->List (Nat×List UInt8)->aB->Prop
 |nil (st:aB) (no:Nat):xN S st no 0 [] st
 |cons (st st':aB) (no long:Nat) (l:List (Nat×List UInt8)) (h0:0<long) (hn:st.has no) (hf:st.free<st.many) (hr:xN S (S st no) (fH ((st.page no).take 3)) (long-505) l st'):
  xN S st no long ((no,((st.page no).drop 3).take (min long 505))::l) st'
theorem xN.head{S:aB->Nat->aB}{st st':aB}{no long:Nat}{l:List (Nat×List UInt8)}(h:xN S st no long l st')(b:0<long):∃a,l=(no,((st.page no).drop 3).take (min long 505))::a/\st.has no/\st.free<st.many/\xN S (S st no) (fH ((st.page no).take 3)) (long-505) a st':=by
 cases h with
 |nil=>omega
 |cons _ _ _ _ a b c d e=>exact⟨a,rfl,c,d,e⟩
theorem xN.done{S:aB->Nat->aB}{st st':aB}{no:Nat}{l:List (Nat×List UInt8)}(h:xN S st no 0 l st'):l=[]/\st=st':=by
 cases h with
 |nil=>exact⟨rfl,rfl⟩
 |cons _ _ _ _ e a b c d=>omega
theorem xN.len{S:aB->Nat->aB}{st st':aB}{no long:Nat}{l:List (Nat×List UInt8)}(h:xN S st no long l st'):l.length<=long:=by
 induction h with
 |nil=>exact aa _
 |cons _ _ _ _ e a b c d ih=>rw[length_cons];omega
structure AL (S:aB->Nat->aB) (f:FuncId) (caps:Array Value) (gp:Nat) (J:List (Nat×List UInt8)->(Nat->Prop)->(Nat->Prop)->World->Prop):Prop where
 fn:∀args wx,(callFunc f args).run Tryz.prog wx=.ok (.enter f args) wx
 keep:∀d D F F' w w',J d D F w->Ev F w F' w'->J d D F' w'
 step:∀d D F w st no b A c,J d D F w->ar w F gp st->st.has no->st.free<st.many->RB w w.heap.size A b.length b->b.length<=c->b.length<=505->d.length<=100000->
  Calls Tryz.prog f (#[.int .i64 (no:Int),.slice A b.length c]++caps) w λe w'=>e=.returned (.int .i64 0)/\∃F' D',ar w' F' gp (S st no)/\J (d++[(no,b)]) D' F' w'/\Ev (FC F D) w (FC F' D') w'
def yx(F D:Nat->Prop)(w:World)(b:Nat)(c:List (Nat×List UInt8)->(Nat->Prop)->(Nat->Prop)->World->Prop)(l:List (Nat×List UInt8))(st':aB)(e:Ending)(w':World):Prop:=e=.returned (.int .i64 0)/\∃F' a,ar w' F' b st'/\c l a F' w'/\Ev (FC F D) w (FC F' a) w'
def K7(S:aB->Nat->aB)(F D:Nat->Prop)(w:World)(gt c k:Nat)(f:List (Nat×List UInt8)->(Nat->Prop)->(Nat->Prop)->World->Prop)(l:List (Nat×List UInt8))(st':aB)(no:Nat)(x:Int)(a:World):Prop:=∃F' b bg d e,l=d++e/\xN S bg no x.toNat e st'/\ar a F' c bg/\f d b F' a/\Ev (FC F D) w (FC F' b) a/\aL a (FC F' b) gt c k
theorem uA(S:aB->Nat->aB)(f:FuncId)(K:Array Value)(i:Nat)(O:List (Nat×List UInt8)->(Nat->Prop)->(Nat->Prop)->World->Prop)(ab:AL S f K i O)(w:World)(F D:Nat->Prop)(gt k:Nat)(st st':aB)(h:ar w F i st)(ap:aL w (FC F D) gt i k)(P long:Nat) (l:List (Nat×List UInt8)) (ac:xN S st P long l st') (a5:O [] D F w) (a0:long<=100000):Calls Tryz.prog 110 #[.pointer (some ⟨gt,0,none⟩),.int .i64 (P:Int),.int .i64 (long:Int),.func (.func f) #[] K] w (yx F D w i O l st'):=by
 have ad:Hid (K7 S F D w gt i k O l st' P (long:Int) w):=J ⟨F,D,st,[],l,rfl,by simpa using ac,h,a5,Ev.refl _ w,ap⟩;have a8:=J (aO ac.len a0);refine bf ?_ h ap ac;clear h ap ac;intro h ap ac;replace a5:Hid _:=J a5;replace ab:=J ab;go_enter Tryz.func110,Tryz.ntmps110;go_wp2_with fail;go_loopw [1,2] (λv1 a6 bi=>∃(no:Nat) (x:Int),v1=.int .i64 (no:Int)/\a6=.int .i64 x/\-505<=x/\x<=100000/\Hid (K7 S F D w gt i k O l st' no x bi)) (λ_ a6 _=>(intOf a6).toNat)
 case atStart=>exact⟨P,long,rfl,rfl,by omega,by omega,ad⟩
 case round=>
  obtain⟨no,x,rfl,rfl,b1,b2,a7⟩:=hrel;obtain⟨ae,L,bg,d,b8,a,g,M,t,G,b⟩:=a7.o;by_cases bj:0<x
  ·obtain⟨bl,Q,j,p,z⟩:=g.head (by omega);have a3:=J (ye wr ae i bg M no j);have t0:wr.cell? ⟨gt,0,none⟩=some (.pointer (some ⟨i,0,none⟩)):=b.blk.cell 0;have af:aL wr ae gt i k:=⟨b.blk,λbm=>b.o (.inl bm)⟩;have q:=M.len j;replace M:=J M;replace t:Hid _:=J t;refine dS ?_ G b af g z Q a q;clear G b af g z Q a q;intro G b af g z Q a q;clear a7 ad;go_wp2_with fail;go_at_call 122;refine a3.o.mono ?_;rintro e bp ⟨N,A,c,rfl,E,T,U,u⟩;obtain⟨al,rfl,_,_⟩:=u.2 (by omega);have V:=J (jR bp (some al) 508 c 0 3 (bg.page no) u.rb E (by omega) (by omega) (by omega) (by omega));rw[drop_zero]at V;obtain⟨a9,H⟩:=I (fH ((bg.page no).take 3));rw[<-H]at V;refine bX ?_ T U u H E;clear T U u H E;intro T U u H E;go_wp2_with fail;go_at_call 86;refine V.o.mono ?_;rintro e r ⟨rfl,v⟩;obtain⟨m,a1⟩:∃m:Nat,m=min x.toNat 505:=⟨_,rfl⟩;have b3:min x 505=(m:Int):=by omega
   have ba:m<=505:=by omega
   have y:Ev ae wr N r:=U.o.below v;have W:ar r N i bg:=T.o.below v;have am:O d L N r:=ab.o.keep d L ae N wr r t.o y;have X:MB N r (some al) 508 (bg.page no):=u.o.ev (Ev.ag v);have Y:RB r r.heap.size (some (al.add 3)) m (((bg.page no).drop 3).take m):=by have bb:=(X.cut (k:=3) (cap:=c) (by omega) (by have:=E.o;omega)).take (k:=m) (by omega);rw[if_neg (by have:=E.o;omega)]at bb;exact bb.rb
   have s:(((bg.page no).drop 3).take m).length=m:=by rw[aH,aQ,q.o];omega
   have a4:Hid (Calls Tryz.prog f (#[.int .i64 (no:Int),.slice (some (al.add 3)) m (c-3)]++K) r λe w'=>e=.returned (.int .i64 0)/\∃F' bc,ar w' F' i (S bg no)/\O (d++[(no,((bg.page no).drop 3).take m)]) bc F' w'/\Ev (FC N L) r (FC F' bc) w'):=J (by have bd:=ab.o.step d L N r bg no (((bg.page no).drop 3).take m) (some (al.add 3)) (c-3) am W j p (by rw[s];exact Y) (by rw[s];have:=E.o;omega) (by rw[s];exact ba) (by have br:=a8.o;rw[a.o,aq]at br;omega);rw[s]at bd;exact bd)
   refine bf ?_ v y W;clear v y W;intro v y W;replace am:Hid _:=J am;refine dZ ?_ X Y s a1 j p;clear X Y s a1 j p;intro X Y s a1 j p;have b4:(508:Int)<=(c:Int):=by have:=E.o;omega
   have b5:508<=c:=E.o;have b6:3+m-3=m:=by omega
   have be:=λargs=>ab.o.fn args r;clear a3 V;go_wp2_with fail;refine a4.o.mono ?_;rintro e bs ⟨rfl,bv,bx,an,ao,Z⟩;have hrel:Hid (K7 S F D w gt i k O l st' a9 (x-505) bs):=J (by
    have bA:(x-505).toNat=x.toNat-505:=by omega
    refine⟨bv,bx,S bg no,d++[(no,((bg.page no).drop 3).take m)],bl,?_,?_,an,ao,?_,b.o.ev ((y.o.add L).trans Z)⟩
    ·rw[a.o,Q.o,<-a1.o];simp
    ·rw[bA,H.o];exact z.o
    ·exact G.o.trans ((y.o.add L).trans Z))
   have b7:wrap64 (x-505)=x-505:=by unfold wrap64;omega
   have bB:IntKind.i64.wrap (x-505)=x-505:=IntWalk.i64_in _ (by omega);replace an:=J an;replace ao:Hid _:=J ao;replace Z:=J Z;clear a4 be;go_wp2_with fail;go_roundw
   case rel=>exact⟨a9,x-505,rfl,rfl,by omega,by omega,hrel⟩
   case measure=>simp[intOf];omega
  ·have b0:x.toNat=0:=by omega
   rw[b0]at g;obtain⟨rfl,rfl⟩:=g.done;have a2:Hid (yx F D w i O l bg (.returned (.int .i64 0)) wr):=J (by rw[append_nil]at a;subst a;exact⟨rfl,ae,L,M,t,G⟩)
   replace M:=J M;replace t:Hid _:=J t;refine bz ?_ G b g a;clear G b g a;intro G b g a;clear a7 ad;go_wp2_with fail;go_ret;exact a2.o
theorem K8(w:World)(base:Nat)(v:Value)(n:Nat)(l:List UInt8)(e:OB w base v n l)(B:Nat)(A:Option Addr)(m c:Nat)(a:List UInt8)(o:RB w B A m a)(ty:TypeId)(p:n+m<=1000000)(b:base<=w.heap.size):∃d w',(Builtin.append_ #[23,23] ty #[v,.slice A m c]).run Tryz.prog w=.ok d w'/\OB w' base d (n+m) (l++a)/\w.grownBy w' v.ownBlock:=by obtain⟨i0,f,g,i,j⟩:=info_parts eB;obtain⟨d,w',q,k,r,_⟩:=bN (P:=Tryz.prog) w base 23 ty 5 i0 _ 1 1 Tryz.underlying23 f g i j rfl (by omega) v n (bv l) e B A m c (bv a) o (kU _) (by simp only[maxLen];omega) (by omega) b;rw[<-fM]at k;exact⟨d,w',q,k,r⟩
theorem DQ{op:Oper}{a:Act}{Q:Exit->Act->World->Prop}{K:Act->World->Prop}{w:World}(s x:Operand)(p:op.op=.call { callee:=.builtin .append,args:=#[s,x],argTypes:=#[23,23] })
 (base:Nat) (v:Value) (n:Nat) (l:List UInt8) (f:OB w base v n l) (q:a.eval s=v) (B:Nat) (A:Option Addr) (m c:Nat) (b:List UInt8) (r:a.eval x=.slice A m c) (t:RB w B A m b) (u:n+m<=1000000) (d:base<=w.heap.size)
 (h:∀e w',OB w' base e (n+m) (l++b)->w.grownBy w' v.ownBlock->K (a.put op.dst e) w'):Oper.wp Tryz.prog op a w K Q:=by
 obtain⟨i0,g,i,j,k⟩:=info_parts eB;refine nN w s x 23 p base 5 i0 _ 1 1 Tryz.underlying23 g i j k rfl (by omega) v n (bv l) q f B A m c (bv b) r t (kU _) (by simp only[maxLen];omega) (by omega) d λe w' o y z=>?_;rw[<-fM]at o;exact h e w' o y
theorem RN.Jr{w:World}{g:Nat}{t:TypeId}{x:Nat}(h:ah w g t #[.int .i64 (x:Int)]):RN w w.heap.size (some ⟨g,0,none⟩) 1 [x]:=by refine⟨rfl,λ_=>⟨_,rfl,h.lt,λj u a=>?_⟩⟩;rw[Addr.add_lit,Nat.zero_add,h.cell];simpa[encI]using a
def sC(F:Nat->Prop)(w:World)(d:Nat)(st':aB)(c:ai)(e:Ending)(w':World):Prop:=∃a b F',e=.returned (.tuple #[.agg #[a,b,.int .i64 (c.over:Int),.int .i64 (c.long:Int)],.int .i64 0])/\ar w' F' d st'/\Ev F w F' w'/\cN (byteOf F' w') w' [a,b,.int .i64 (c.over:Int),.int .i64 (c.long:Int)] c
def Ga(F:Nat->Prop)(w:World)(i:Nat)(st':aB)(o:Nat)(b:List UInt8)(L M e f:Nat)(g:Option Addr)(j:Nat)(key:List UInt8)(k:Nat)(a:World):Prop:=∃c bg d,ar a c i bg/\bg.ok/\nO bg (gU b k).reverse d st' o/\Ev F w c a/\ah a e 122 #[.slice none 0 0,.slice none 0 0,.int .i64 0,.int .i64 0]/\ah a f 122 #[.slice g L j,.slice none 0 0,.int .i64 (d:Int),.int .i64 (M:Int)]/\¬c e/\¬c f/\Rd (byteOf c a) a 1 g L (bv key)/\d<65536
theorem DR(w:World)(F:Nat->Prop)(gt r k:Nat)(st st':aB)(o:Nat)(h:ar w F r st)(cB:aL w F gt r k)(cD:st.ok)(c7 de:Option Addr)(L M dj b6:Nat)(key b:List UInt8)(a6:MB F w c7 L key)(b7:MB F w de M b)(dk:M<=b6)(e3:L<=1000000)(e4:64<M)(ey:M<=20000)(bc:nO st (gU b ((M+504)/505)).reverse 0 st' o):Calls Tryz.prog 54 #[.pointer (some ⟨gt,0,none⟩),.slice c7 L dj,.slice de M b6] w (sC F w r st' ⟨key,[],o,M⟩):=by
 have eA:¬(M:Int)<=64:=by omega
 have eE:decide ((M:Int)<=64)=false:=aD (by omega);have bx:Hid (key.length=L):=J a6.len;have cP:Hid (b.length=M):=J b7.len;obtain⟨cS,rfl,d8,_⟩:=b7.2 (by omega);obtain⟨Q,cb⟩:=I ((M-1)/505);have bA:(M+504)/505=Q+1:=by omega
 rw[bA]at bc;have cc:=(Below.refl w.heap.size w).alloc (aa _) (.cells #[.slice none 0 0,.slice none 0 0,.int .i64 0,.int .i64 0] 122);have bd:=ah.new w 122 #[.slice none 0 0,.slice none 0 0,.int .i64 0,.int .i64 0];have be:Ev F w F (w.alloc (.cells #[.slice none 0 0,.slice none 0 0,.int .i64 0,.int .i64 0] 122)):=(Ev.refl F w).az _;have bB:=h.alloc (.cells #[.slice none 0 0,.slice none 0 0,.int .i64 0,.int .i64 0] 122);have H:=h.lt;have dl:=J (je c7 L dj key (w.alloc (.cells #[.slice none 0 0,.slice none 0 0,.int .i64 0,.int .i64 0] 122)) ((a6.ev be).rb) (by omega));refine aR ?_ a6 b7 cc bd be bB h cB cD bc H cb bA;clear a6 b7 cc bd be bB h cB cD bc H cb bA;intro a6 b7 cc bd be bB h cB cD bc H cb bA;go_enter Tryz.func54,Tryz.ntmps54;go_wp2_with fail;go_at_call 63;refine dl.o.mono ?_;rintro e br ⟨e5,rfl,ao,D⟩;rw[bx.o]at ao;obtain⟨t,y,rfl,ce,_,b0,_⟩:=ao.form;have O:=bd.o.below D (ah.lt bd.o);have ab:=be.o.below D;have b1:=bB.o.below D;have b2:Rd (byteOf F br) br 1 t L (bv key):=by have:=ao.KU;exact Rd.keep this λk a6=>⟨⟨⟨ah.lt a6.2.choose_spec,λcf=>by have cg:=H.o k cf;have d9:=a6.1;simp at d9;omega⟩,a6.2⟩,rfl⟩
 refine bz ?_ ao D ce b0;clear ao D ce b0;intro ao D ce b0;have z0:=O.cell 0;have ea:=O.cell 1;have dp:=O.cell 2;have z3:=O.cell 3;refine bz ?_ O ab b1 b2;clear O ab b1 b2;intro O ab b1 b2;go_upto_region 7 with(fail)
 obtain⟨f,bi⟩:=I (w.heap.size);obtain⟨z,ap⟩:=I (br.heap.size);obtain⟨ds,S⟩:=I (br.alloc (.cells #[.slice t L y,.slice none 0 0,.int .i64 0,.int .i64 (M:Int)] 122));rw[<-S,<-bi,<-ap];have ac:Ev F br F ds:=by rw[S];exact(Ev.refl F br).az _
 have c8:f≠z:=by have bj:=ab.o.size;have ch:=D.o.size;simp at ch;omega
 have cV:Hid (Ga F w r st' o b L M f z t y key (Q+1) ds):=J (by
  refine⟨F,st,0,by rw[S];exact b1.o.alloc _,cD.o,bc.o,ab.o.trans ac,?_,?_,?_,?_,b2.o.xM ac,by omega⟩
  ·rw[bi,S];exact O.o.alloc _
  ·rw[ap,S];exact ah.new br 122 _
  ·intro cf;have:=H.o _ cf;omega
  ·intro cf;have:=H.o _ cf;have:=ab.o.size;omega)
 have eb:w.heap.size<=f:=by omega
 have ec:w.heap.size<=z:=by rw[ap];exact ab.o.size
 have dt:=J (by have:=cb.o;omega:(Q:Int)*505+1<=(M:Int));refine bz ?_ bi ap S ac;clear bi ap S ac;intro bi ap S ac;clear z0 ea dp z3;go_loopw [9] (λv9 cE=>∃a1:Nat,v9=.int .i64 (505*(a1:Int)-505)/\a1<=Q+1/\Hid (Ga F w r st' o b L M f z t y key a1 cE)) (λv9 _=>(intOf v9+505).toNat)
 case atStart=>exact⟨Q+1,by congr 1;have:=cb.o;omega,aa _,cV⟩
 case round=>
  obtain⟨a1,rfl,eI,du⟩:=hrel;obtain⟨dv,bg,l,ad,K,m,U,d,s,ae,a2,a4,eJ⟩:=du.o;have a5:=cB.o.ev U;have t0:wr.cell? ⟨gt,0,none⟩=some (.pointer (some ⟨r,0,none⟩)):=a5.blk.cell 0;have ee:=s.cell 0;have ef:=s.cell 1;have eg:=s.cell 2;have eh:=s.cell 3;have dy:=s.frozen 2;have a0:=d.cell 0;have ei:=d.cell 1;have ej:=d.cell 2;have a3:=d.cell 3;have dT:=d.frozen 0;have d0:=d.frozen 1;have d1:=d.frozen 2;have d2:=d.frozen 3;clear du cV;cases a1 with
  |zero=>
   have c9:Hid (bg=st'/\l=o):=J (by have e:(gU b 0).reverse=[]:=rfl;rw[e]at m;cases m;exact⟨rfl,rfl⟩)
   have da:Hid (∀W,R (λj=>j=f) wr W->sC F w r st' ⟨key,[],o,M⟩ (.returned (.tuple #[.agg #[.slice t L y,.slice none 0 0,.int .i64 (l:Int),.int .i64 (M:Int)],.int .i64 0])) W):=J (by
    obtain⟨rfl,rfl⟩:=c9.o;intro W bl;refine⟨.slice t L y,.slice none 0 0,dv,rfl,ad.keep (λj bm=>bl.block j (ad.lt j bm) (λe=>ae (by rw[<-e];exact bm))) bl.size,⟨U.only.trans bl (λi ek e=>by subst e;omega),U.grow⟩,t,y,none,0,?_,?_,aa _,?_,by simpa[bv]using Rd.none_⟩
    ·show[Value.slice t L y,_,_,_]=[Value.slice t key.length y,_,_,_];rw[bx.o];rfl
    ·show key.length<=y;rw[bx.o];exact b0.o
    ·show Rd _ W 1 t key.length _;rw[bx.o];exact a4.keep λj bm=>by obtain⟨⟨bj,ch⟩,ci,cj⟩:=bm;have ck:=bl.block j bj (ah.iH cj d (by decide));have cl:ah W j 5 ci:=Eq.trans ck cj;exact⟨⟨⟨cl.lt,ch⟩,ci,cl⟩,ck⟩)
   have E:=(((d.aK 0 (.slice t L y)).aK 1 (.slice none 0 0)).aK 2 (.int .i64 (l:Int))).aK 3 (.int .i64 (M:Int))
   have cm:R (λj=>j=f) wr ((((wr.setCell ⟨f,0,none⟩ (.slice t L y)).setCell ⟨f,1,none⟩ (.slice none 0 0)).setCell ⟨f,2,none⟩ (.int .i64 (l:Int))).setCell ⟨f,3,none⟩ (.int .i64 (M:Int))):=((((R.refl (λj=>j=f) wr).setCell (p:=⟨f,0,none⟩) (λ_=>rfl) _).setCell (p:=⟨f,1,none⟩) (λ_=>rfl) _).setCell (p:=⟨f,2,none⟩) (λ_=>rfl) _).setCell (p:=⟨f,3,none⟩) (λ_=>rfl) _
   replace ad:=J ad
   replace K:=J K
   replace m:=J m
   replace U:=J U
   replace d:=J d
   replace s:=J s
   replace ae:=J ae
   replace a2:=J a2
   replace a4:=J a4
   replace a5:=J a5
   replace E:=J E
   replace cm:=J cm
   go_wp2_with fail
   refine bodyPost_ret (v:=.tuple #[.agg #[.slice t L y,.slice none 0 0,.int .i64 (l:Int),.int .i64 (M:Int)],.int .i64 0]) ?_ rfl (da.o _ cm.o)
   obtain⟨cH,d3⟩:=I (((((wr.setCell ⟨f,0,none⟩ (.slice t L y)).setCell ⟨f,1,none⟩ (.slice none 0 0)).setCell ⟨f,2,none⟩ (.int .i64 (l:Int))).setCell ⟨f,3,none⟩ (.int .i64 (M:Int))))
   replace E:=E.o
   rw[<-d3]at E⊢
   have el:cH.cell? ⟨f,0,none⟩=some (.slice t L y):=E.cell 0
   have em:cH.cell? ⟨f,1,none⟩=some (.slice none 0 0):=E.cell 1
   have en:cH.cell? ⟨f,2,none⟩=some (.int .i64 (l:Int)):=E.cell 2
   have eo:cH.cell? ⟨f,3,none⟩=some (.int .i64 (M:Int)):=E.cell 3
   simp[results,Tryz.results54,go_sem,el,em,en,eo]
  |succ a1=>
   obtain⟨X,cK⟩:∃X:Nat,X=505*a1:=⟨_,rfl⟩
   have db:505*((a1+1:Nat):Int)-505=(X:Int):=by omega
   rw[db]
   have eK:X<M:=by have:=dt.o;have eL:a1<=Q:=(by omega);omega
   rw[nP]at m
   obtain⟨a7,bp⟩:=I ((b.drop (505*a1)).take 505)
   rw[<-bp]at m
   obtain⟨cL,Z⟩:dU bg/\nO (fQ (aW bg) (aG bg) (leB 3 l++a7)) (gU b a1).reverse (aG bg) st' o:=by
    cases m with
    |cons _ _ _ _ _ _ cL dc=>exact⟨cL,dc⟩
   obtain⟨T,b8⟩:=I (min (X+505) M)
   have eN:T<=M:=by omega
   have eQ:X<T:=by omega
   have cn:a7.length=T-X:=by rw[bp,aH,aQ,cP.o];omega
   have co:=J (uq wr dv r bg ad cL K.free)
   obtain⟨bs,a8⟩:=K.alloc cL
   obtain⟨no,b3⟩:=I (aG bg)
   obtain⟨dC,af⟩:=I (aW bg)
   unfold jW at co
   rw[<-b3,<-af]at co Z
   rw[<-b3,<-af]at a8
   rw[<-af]at bs
   replace ad:=J ad
   replace K:=J K
   replace m:=J m
   replace U:=J U
   replace d:=J d
   replace s:=J s
   replace ae:=J ae
   replace a2:=J a2
   replace a4:=J a4
   replace a5:=J a5
   replace Z:=J Z
   replace cn:=J cn
   replace bp:=J bp
   replace b8:=J b8
   replace b3:=J b3
   replace af:=J af
   replace cK:=J cK
   clear a0 ei ej a3 dT d0 d1 d2
   go_wp2_with fail
   go_at_call 100
   refine co.o.mono ?_
   rintro e a ⟨rfl,cp,cr,G⟩
   have a9:=G.blk d.o ae.o
   have N:=G.blk s.o a2.o
   have ba:=G.new ae.o (ah.lt d.o)
   have al:=G.new a2.o (ah.lt s.o)
   have cs:=a4.o.xM G
   have b4:=a5.o.ev G
   have bb:=U.o.trans G
   have ct:=b7.o.ev bb
   have t5:a.cell? ⟨gt,0,none⟩=some (.pointer (some ⟨r,0,none⟩)):=b4.blk.cell 0
   have cw:a.cell? ⟨z,2,none⟩=some (.int .i64 (l:Int)):=N.cell 2
   replace cr:=J cr
   replace G:=J G
   replace a9:=J a9
   replace N:=J N
   replace ba:=J ba
   replace al:=J al
   replace cs:=J cs
   replace b4:=J b4
   replace bb:=J bb
   replace ct:=J ct
   clear t0 ee ef eg eh dy
   go_upto_region 12 with(fail)
   have cX:Hid (∀W,Below a.heap.size a W->W.cell? ⟨gt,0,none⟩=some (.pointer (some ⟨r,0,none⟩))/\W.cell? ⟨z,2,none⟩=some (.int .i64 (l:Int))):=J λW an=>⟨(an.cell (World.block_lt_of_cell? a _ t5)).trans t5,(an.cell (World.block_lt_of_cell? a _ cw)).trans cw⟩
   have cY:Hid (∀W F',Ev cp a F' W->W.cell? ⟨gt,0,none⟩=some (.pointer (some ⟨r,0,none⟩))/\W.cell? ⟨z,2,none⟩=some (.int .i64 (l:Int))):=J λW F' d4=>⟨(b4.o.ev d4).blk.cell 0,(d4.blk N.o al.o).cell 2⟩
   have c0:Hid (∀W g,Below a.heap.size a W->ah W g 3 #[.int .i64 (l:Int)]->Calls Tryz.prog 24 #[.slice none 0 0,.int .i64 3,.slice (some ⟨g,0,none⟩) 1 1] W λe b9=>∃P ca,e=.returned (.slice P 3 ca)/\OB b9 a.heap.size (.slice P 3 ca) 3 (leB 3 l)/\Below a.heap.size a b9):=J (by
    intro W g an ep;refine(eX W none (some ⟨g,0,none⟩) 0 0 1 1 3 [] [l] (RB.nil _ _) (RN.Jr ep) (by omega) (by omega) (by omega) (by omega) (λx eq=>by rw[mem_singleton.1 eq];omega)).mono ?_;rintro e b9 ⟨v,rfl,bl,D⟩;have dd:bP 3 [l]=leB 3 l:=by simp[bP]
    rw[nil_append,dd,bq]at bl;obtain⟨P,ca,rfl,_⟩:=bl.form;exact⟨P,ca,rfl,dQ bl an.size,an.trans (D.mono an.size)⟩)
   have c1:Hid (∀W,Below a.heap.size a W->RB W W.heap.size (some (cS.add X)) (T-X) a7):=J (by
    intro W an;have bj:=((ct.o.ev (Ev.ag an)).cut (k:=X) (cap:=b6) (by omega) dk).take (k:=T-X) (by omega);rw[if_neg (by omega)]at bj;have dd:(b.drop X).take (T-X)=a7:=by
     rw[bp.o,<-cK.o,b8.o];have:=cP.o;by_cases cg:X+505<=M
     ·rw[Nat.min_eq_left cg,Nat.add_sub_cancel_left]
     ·rw[Nat.min_eq_right (by omega),bQ (by rw[aQ];omega),bQ (by rw[aQ];omega)]
    rw[dd]at bj;exact bj.rb)
   have c2:Hid (∀W A n c,n=3+(T-X)->Below a.heap.size a W->RB W W.heap.size A n (leB 3 l++a7)->Calls Tryz.prog 101 #[.pointer (some ⟨r,0,none⟩),.int .i64 (no:Int),.slice A n c] W (cG cp W r (fQ dC no (leB 3 l++a7)) (.int .i64 0))):=J (by intro W A n c e6 an dc;exact uo W cp r dC (cr.o.below an) no a8 A n c _ dc (by have:=b8.o;omega))
   have eR:min ((X:Int)+505) (M:Int)=(T:Int):=by have:=b8.o;omega
   have es:(X:Int)<=(T:Int):=by omega
   have e0:(T:Int)<=(b6:Int):=by omega
   have e1:¬b6=X:=by omega
   have d5:IntKind.i64.wrap ((X:Int)+505)=(X:Int)+505:=IntWalk.i64_in _ (by omega)
   go_cut [12] (λv12 cE=>v12=.int .i64 0/\Hid (∃d6,ar cE d6 r (fQ dC no (leB 3 l++a7))/\Ev cp a d6 cE))
   case first=>
    go_region_held3 (λw'=>w'.cell? ⟨gt,0,none⟩=some (.pointer (some ⟨r,0,none⟩))/\w'.cell? ⟨z,2,none⟩=some (.int .i64 (l:Int))) (first|exact⟨t5,cw⟩|exact cY.o _ _ cx.o|exact cX.o _ (by with_reducible first|exact(Below.refl _ a).drew|exact Below.refl _ a|exact(Below.refl _ a).alloc (aa _) _|exact((Below.refl _ a).alloc (aa _) _).drew|exact u.o|exact u.o.drew|exact V.o|exact V.o.drew)|go_keep) (first
     |(go_at_call 24;(with_reducible refine(c0.o _ _ (by with_reducible first|exact(Below.refl _ a).drew|exact Below.refl _ a|exact(Below.refl _ a).alloc (aa _) _|exact((Below.refl _ a).alloc (aa _) _).drew|exact u.o|exact u.o.drew|exact V.o|exact V.o.drew) (by with_reducible first|exact ah.new _ _ _|exact(ah.new _ _ _).drew)).mono ?_);rintro e b9 ⟨P,ca,rfl,b5,c3⟩;have u:=J c3;replace b5:=J b5;clear c3)
     |(rw[if_pos (by rfl)];refine DQ (.tmp 55) (.tmp 63) rfl a.heap.size (.slice P 3 ca) 3 (leB 3 l) b5.o rfl b9.heap.size (some (cS.add X)) (T-X) (b6-X) a7 rfl (c1.o _ (by with_reducible first|exact(Below.refl _ a).drew|exact Below.refl _ a|exact(Below.refl _ a).alloc (aa _) _|exact((Below.refl _ a).alloc (aa _) _).drew|exact u.o|exact u.o.drew|exact V.o|exact V.o.drew)) (by omega) (by first|exact u.o.size|exact u.o.drew.size) ?_;intro v6 et c4 c5;have V:=J (u.o.trans ((Below.refl a.heap.size b9).grown c5 u.o.size (λj bm=>(dw b5.o bm).1)):Below a.heap.size a et);(obtain⟨e7,e8,rfl,cy,_⟩:=c4.form);replace cy:=J cy;clear c4 c5)
     |(go_at_call 101;(with_reducible refine(c2.o _ _ _ _ rfl V.o cy.o).mono ?_);rintro e e9 ⟨rfl,cM,Y,q⟩;have cx:=J ((Ev.ag (F:=cp) V.o).trans q);replace Y:=J Y;clear q))
    all_goals
     go_wp2_with fail
     go_meet
     case rel=>exact⟨rfl,J ⟨cM,Y.o,cx.o⟩⟩
   case rest=>
    obtain⟨rfl,c6⟩:=hcut;obtain⟨cM,Y,q⟩:=c6.o;have am:=q.blk N.o al.o;have hrel:Hid (Ga F w r st' o b L M f z t y key a1 (wc.setCell ⟨z,2,none⟩ (.int .i64 (no:Int)))):=J (by
     have cz:R (λj=>j=z) wc (wc.setCell ⟨z,2,none⟩ (.int .i64 (no:Int))):=(R.refl (λj=>j=z) wc).setCell (p:=⟨z,2,none⟩) (λ_=>rfl) _;have cA:=q.new al.o (ah.lt N.o);have d7:Ev F w cM (wc.setCell ⟨z,2,none⟩ (.int .i64 (no:Int))):=by have cg:=bb.o.trans q;exact⟨cg.only.trans cz (λi ek e=>by subst e;omega),cg.grow⟩
     refine⟨cM,fQ dC no (leB 3 l++a7),no,Y.aK cA _,?_,Z.o,d7,cz.blk (q.blk a9.o ba.o) c8,am.aK 2 _,q.new ba.o (ah.lt a9.o),cA,?_,?_⟩
     ·exact bs.write no _ (by have:=cn.o;have:=b8.o;rw[aq,bq];omega)
     ·exact(cs.o.xM q).keep λj bm=>by obtain⟨⟨bj,ch⟩,ci,cj⟩:=bm;have ck:=cz.block j bj (ah.iH cj am (by decide));have cl:ah _ j 5 ci:=Eq.trans ck cj;exact⟨⟨⟨cl.lt,ch⟩,ci,cl⟩,ck⟩
     ·have:=a8.2;have:=bs.most;omega)
    have dp:=am.cell 2;have e2:=am.frozen 2;have ex:IntKind.i64.wrap ((X:Int)-505)=(X:Int)-505:=IntWalk.i64_in _ (by omega);refine bf ?_ Y q am;clear Y q am;intro Y q am;clear c6 cX cY c0 c1 c2 d5;go_wp2_with fail;go_roundw
    case rel=>exact⟨a1,by congr 1;have:=cK.o;omega,by omega,hrel⟩
    case measure=>simp only[intOf];omega
theorem yz(w:World)(F:Nat->Prop)(gt a k:Nat)(st bg:aB)(c:ai)(h:ar w F a st)(y:aL w F gt a k)(z:st.ok)(d f:Option Addr)(L M l g:Nat)(key b:List UInt8)(p:MB F w d L key)(i:MB F w f M b)(q:64<M->M<=g)(r:L<=1000000)(A:M<=20000)(s:qM st key b bg c):Calls Tryz.prog 54 #[.pointer (some ⟨gt,0,none⟩),.slice d L l,.slice f M g] w (sC F w a bg c):=by
 rcases s with⟨H,rfl,rfl⟩|⟨t,o,u,rfl⟩
 ·refine(su w gt d f L M l g key b p.rb i.rb r (by have:=i.len;omega)).mono ?_;rintro e w' ⟨D,E,rfl,v,x⟩;exact⟨D,E,F,rfl,h.below x,Ev.ag x,v.mono λj m=>⟨⟨ah.lt m.2.choose_spec,λG=>by have:=h.lt j G;have:=m.1;omega⟩,m.2⟩⟩
 ·obtain rfl:=i.len;exact DR w F gt a k st bg o h y z d f L _ l g key b p i (q t) r t A u
section
variable {F F':Nat->Prop}{w w':World}{B:Nat}{cv kv:Value}{n:aj}
theorem bC.ic{gk K b:Nat}(h:bC F w B cv (.slice (some ⟨gk,0,none⟩) K b) n)(i:Nat)(a:i<n.kids.length):w.cell? ⟨gk,i,none⟩=some (.int .i64 (aJ n i:Int)):=by
 have c:=h.kids.cells (g:=gk) rfl i (.int .i64 (aJ n i:Int)) (by rw[getElem?_map,ak a];simp[aJ,encI,a])
 rwa [Addr.add_lit,Nat.zero_add]at c
theorem bC.j7(h:bC F w B cv kv n)(i:0<n.kids.length):∃gk a,kv=.slice (some ⟨gk,0,none⟩) n.kids.length a/\n.kids.length<=a/\¬F gk/\B<=gk/\gk<w.heap.size:=by
 have c:=h.kF;rcases h.kids.2 with⟨_,j⟩|⟨g,cap,b,rfl,d,e,f,_⟩
 ·omega
 ·exact⟨g,cap,rfl,f,c g rfl,d,ah.lt (show ah w g _ b from e)⟩
theorem bC.qn(h:bC F w B cv kv n)(l:0<n.cells.length):∃a b,cv=.slice (some ⟨a,0,none⟩) n.cells.length b/\n.cells.length<=b/\¬F a/\B<=a/\a<w.heap.size:=by
 obtain⟨d,m,e,o⟩:=h.rows;have f:=h.rF;rcases e.2 with⟨_,p⟩|⟨g,cap,c,rfl,i,j,k,_⟩
 ·omega
 ·exact⟨g,cap,rfl,k,f g rfl,i,ah.lt (show ah w g _ c from j)⟩
theorem bC.wH{k M r:Nat}(h:bC F w B (.slice (some ⟨k,0,none⟩) M r) kv n)(i:Nat)(m:i<n.cells.length):∃o p,w.cell? ⟨k,i*4,none⟩=some (.slice o (aS n.cells i).length p)/\Rd (byteOf F w) w 1 o (aS n.cells i).length (bv (aS n.cells i))/\(aS n.cells i).length<=p:=by
 obtain⟨a,s,t,q⟩:=h.rows;have b:i<a.length:=by omega
 obtain⟨c,d,x,y,e,u,z,v,A⟩:=q i a[i] n.cells[i] (ak b) (ak m);have f:=kH (q.four s) i 0 a[i] (.slice c (n.cells[i]).key.length d) (ak b) (by rw[e];rfl);rw[Nat.add_zero]at f;have j:=t.cells (g:=k) rfl (i*4) _ f;rw[Addr.add_lit,Nat.zero_add]at j;have l:aS n.cells i=(n.cells[i]).key:=jL (ak m);rw[l];exact⟨c,d,j,v,u⟩
end
theorem mE(a:List (List Value))(i:Nat)(b:∀c∈a,c.length=4):(a.eraseIdx i).flatten=a.flatten.take (i*4)++a.flatten.drop ((i+1)*4):=by rw[eraseIdx_eq_take_drop_succ,flatten_append,(eU a i b).1,(eU a (i+1) b).2]
theorem DS(l:List Nat)(i:Nat):(l.eraseIdx i).map encI=(l.map encI).take (i*1)++(l.map encI).drop ((i+1)*1):=by rw[eraseIdx_eq_take_drop_succ,map_append,map_take,map_drop,Nat.mul_one,Nat.mul_one]
theorem cR.erase{F:Nat->Prop}{w:World}{a:List (List Value)}{f:List ai}(h:cR F w a f)(i:Nat):cR F w (a.eraseIdx i) (f.eraseIdx i):=by
 intro k vs c d b;rw[getElem?_eraseIdx]at d b;split at d
 ·rename_i e;rw[if_pos e]at b;exact h k vs c d b
 ·rename_i e;rw[if_neg e]at b;exact h _ vs c d b
theorem ar.only{w w':World}{F S:Nat->Prop}{a:Nat}{st:aB}(h:ar w F a st)(b:R S w w')(d:∀k,F k->¬S k):ar w' F a st:=h.keep (λk c=>b.block k (h.lt k c) (d k c)) b.size
theorem wI{F:Nat->Prop}{c f:World}{p M K a:Nat}{i j:Value}{n:aj}{b:List (List Value)}{v:Array Value}(l:b.length=n.cells.length)(m:cR F c b n.cells)(q:M=n.cells.length)(s:K=n.kids.length)(A:a<M)(D:a+1<K)(t:R (λk=>k=p) c f) (u:ah c p 129 v) (hF:∀k,F k->k<c.heap.size) (d:f.ownsRow c.heap.size 122 4 i (M-1) (b.flatten.take (a*4)++b.flatten.drop ((a+1)*4)))
 (e:f.ownsRow c.heap.size 3 1 j (K-1) ((n.kids.map encI).take ((a+1)*1)++(n.kids.map encI).drop ((a+1+1)*1))):
 bC F f c.heap.size i j ⟨n.leaf,n.cells.eraseIdx a,n.kids.eraseIdx (a+1)⟩:=by
 have r:(n.cells.eraseIdx a).length=M-1:=by rw[length_eraseIdx,if_pos (by omega),q]
 have x:(n.kids.eraseIdx (a+1)).length=K-1:=by rw[length_eraseIdx,if_pos (by omega),s]
 have y:(b.eraseIdx a).length=M-1:=by rw[length_eraseIdx,l,if_pos (by omega),q]
 rw[<-mE _ _ (m.four l),<-r]at d;rw[<-DS,<-x]at e;exact⟨⟨b.eraseIdx a,y.trans r.symm,d,(m.erase a).iZ t λk E g z=>by subst g;exact ah.iH z u (by decide) rfl⟩,e,
  λk g o=>by have:=hF k o;have:=(dw d g).1;omega,λk g o=>by have:=hF k o;have:=(dw e g).1;omega⟩
def lN(F:Nat->Prop)(w:World)(c a:Nat)(st':aB)(b:aj)(e:Ending)(w':World):Prop:=e=.returned (.int .i64 0)/\∃F' B cv kv,ar w' F' c st'/\R (λk=>F k\/k=a) w w'/\(∀k,F' k->F k\/w.heap.size<=k)/\bC F' w' B cv kv b/\ah w' a 129 #[.bool b.leaf,cv,kv]/\¬F' a
theorem dK.sB{a:Nat}{F:Nat->Prop}{w:World}{cv kv:Value}{n:aj}(h:dK w a cv kv n)(hF:∀j,F j->j<a):bC F w a cv kv n:=(h.Jl hF).sB
theorem AO(w:World)(F:Nat->Prop)(gt U k:Nat)(st:aB)(h:ar w F U st)(ae:aL w F gt U k)(af:st.ok)(G B:Nat)(cv kv:Value)(n c:aj)(t:bC F w B cv kv n)(p:ah w G 129 #[.bool n.leaf,cv,kv]) (V:¬F G)(i:Nat) (a0:i<n.kids.length) (a8:n.kids.length<=65536) (H:bS st (aJ n i) c) (L:127<=aC c\/n.kids.length=1):Calls Tryz.prog 107 #[.pointer (some ⟨gt,0,none⟩),.pointer (some ⟨G,0,none⟩),.int .i64 (i:Int)] w (lN F w U G st n):=by
 have an:=J (dz w F gt U k st h ae (aJ n i) c H);obtain⟨gk,a9,rfl,a1,ba,_,bd⟩:=t.j7 (by omega);have bb:=t.ic i a0;obtain⟨dM,j⟩:=I (aJ n i);obtain⟨K,al⟩:=I (n.kids.length);rw[<-j]at an bb;rw[<-al]at a0 a8 a1 L p t;have bl:w.cell? ⟨G,2,none⟩=some (.slice (some ⟨gk,0,none⟩) K a9):=p.cell 2;have X:=H.size af;have v:=H.2.1;have be:(i:Int)<(K:Int):=by omega
 have bi:(0:Int)<=(i:Int):=by omega
 have a2:=p.lt;obtain⟨M,q⟩:=I (c.leaf);refine gI ?_ h ae af t p H j al v q L;clear h ae af t p H j al v q L;intro h ae af t p H j al v q L;go_enter Tryz.func107,Tryz.ntmps107;go_wp2_with fail;go_at_call 78;refine an.o.mono ?_;rintro e u ⟨Y,a3,a4,bc,rfl,x,y,z,bj,A⟩;rw[<-q.o];have b:bC Y u bc a3 a4 c:=A.sB z;have d:=b.gS;rw[<-q.o]at d;obtain⟨N,O,rfl⟩:=aE b.kids;obtain⟨P,Q,rfl⟩:=aE b.rows.choose_spec.2.1;obtain⟨S,D⟩:=I (c.cells.length);obtain⟨T,E⟩:=I (c.kids.length);rw[<-D,<-E]at d⊢;have r:Ev F w Y (u.alloc (.cells #[.bool M,.slice P S Q,.slice N T O] 129)):=y.az _;have f:=ah.new u 129 #[.bool M,.slice P S Q,.slice N T O];have l:=J (gQ (u.alloc (.cells #[.bool M,.slice P S Q,.slice N T O] 129)) (.agg #[.bool M,.slice P S Q,.slice N T O]) c ((d.ev ((Ev.refl Y u).az _)).old λk ap=>ap.1) v.o (by omega));obtain⟨Z,am⟩:=I (aC c);rw[<-am]at l X L;have g:=r.blk p.o V;have m:Hid (∀W,Below (u.alloc (.cells #[.bool M,.slice P S Q,.slice N T O] 129)).heap.size (u.alloc (.cells #[.bool M,.slice P S Q,.slice N T O] 129)) W->lN F w U G st n (.returned (.int .i64 0)) W):=J (by intro W a5;have ab:Ev F w Y W:=r.below a5;exact⟨rfl,Y,B,cv,_,(x.alloc _).below a5,ab.only.mono λk _ ap=>.inl ap,ab.grow,t.o.ev ab,ab.blk p.o V,ab.new V a2⟩)
 have bm:=f.cell 0;have m1:=f.cell 1;have bp:=f.cell 2;have br:=g.cell 2;refine kT ?_ f g r b d A z x y D E am;clear f g r b d A z x y D E am;intro f g r b d A z x y D E am;rcases L.o with s|s
 ·have a6:decide ((127:Int)<=(Z:Int))=true:=aV (by omega);have a7:decide (127<=Z)=true:=aV s;go_wp2_with(first|(go_at_call 77;refine l.o.mono ?_;rintro e ac ⟨rfl,a⟩;have ad:=J (m.o ac a);replace a:=J a));go_ret;exact ad.o
 ·by_cases ao:127<=Z
  ·have a6:decide ((127:Int)<=(Z:Int))=true:=aV (by omega);have a7:decide (127<=Z)=true:=aV ao;go_wp2_with(first|(go_at_call 77;refine l.o.mono ?_;rintro e ac ⟨rfl,a⟩;have ad:=J (m.o ac a);replace a:=J a));go_ret;exact ad.o
  ·have a6:decide ((127:Int)<=(Z:Int))=false:=aD (by omega);have a7:decide (127<=Z)=false:=aD ao;have t3:((K:Int)==1)=true:=by rw[s];rfl
   replace s:=J s;go_wp2_with(first|(go_at_call 77;refine l.o.mono ?_;rintro e ac ⟨rfl,a⟩;have ad:=J (m.o ac a);have u2:=g.o.below a g.o.lt;have u3:=u2.cell 2;replace u2:=J u2;replace a:=J a));go_ret;exact ad.o
theorem bC.K9{F:Nat->Prop}{w:World}{B l:Nat}{cv kv:Value}{n:aj}{vs:Array Value}(h:bC F w B cv kv n)(e:ah w l 129 vs):bI (λk=>bF F w k/\k≠l) w (.agg #[.bool n.leaf,cv,kv]) n:=by obtain⟨f,q,g,r⟩:=h.rows;have a:=h.kids;have m:=h.rF;have o:=h.kF;obtain⟨A,c,rfl,s⟩:=iO g;obtain⟨t,d,rfl,u⟩:=iO a;exact⟨A,c,t,d,rfl,s,u,⟨f,q,Rd.oW g λk a i=>⟨⟨i,m k a⟩,aI g e (by decide) k a⟩,λk vs x v y=>(r k vs x v y).mono λj p=>⟨p.1,by obtain⟨_,D,z⟩:=p;exact ah.iH z e (by decide)⟩⟩,Rd.oW a λk b i=>⟨⟨i,o k b⟩,aI a e (by decide) k b⟩⟩
theorem lu{w:World}{base g n c j:Nat}{xs:List Value}(h:w.ownsRow base 122 4 (.slice (some ⟨g,0,none⟩) n c) n xs)(v:Value):(w.setCell ⟨g,j,none⟩ v).ownsRow base 122 4 (.slice (some ⟨g,0,none⟩) n c) n (xs.set j v):=by
 obtain⟨b,d⟩:=h;refine⟨by rw[length_set];exact b,?_⟩;rcases d with⟨e,_⟩|⟨q,cap,a,e,f,i,k,l,m,o⟩
 ·cases e
 ·injection e with e _ p;injection e with e;injection e with e _;subst e;refine .inr ⟨g,cap,a.setIfInBounds j v,by rw[p],f,(show ah w g 122 a from i).aK j v,k,l,by simpa using m,?_⟩;rw[Array.toList_setIfInBounds,take_set,o]
theorem wJ(a:List (List Value))(d:∀b∈a,b.length=4)(i:Nat)(v:Value):(a.modify i λb=>b.set 0 v).flatten=a.flatten.set (i*4) v:=by
 induction a generalizing i with
 |nil=>simp
 |cons b t ih=>
  have c:b.length=4:=d b (.head _)
  cases i with
  |zero=>
   simp only[modify_zero_cons,flatten_cons,Nat.zero_mul]
   rw[set_append_left _ _ (by omega)]
  |succ i=>
   simp only[modify_succ_cons,flatten_cons]
   rw[ih (λb c=>d b (.tail _ c)),set_append_right _ _ (by rw[c];omega),c,show(i+1)*4-4=i*4 from by omega]
theorem cR.fq{F:Nat->Prop}{w:World}{d:List (List Value)}{g:List ai}(h:cR F w d g)(i:Nat){k:Option Addr}{l:Nat}{key:List UInt8}(p:Rd (byteOf F w) w 1 k key.length (bv key))(m:key.length<=l):cR F w (d.modify i λo=>o.set 0 (.slice k key.length l)) (Go.Proofs.YtajdeapdgbnahaaGreatDoor.fq g i key):=by
 intro j vs c b a;unfold Go.Proofs.YtajdeapdgbnahaaGreatDoor.fq at a;rw[getElem?_modify]at b a;by_cases f:i=j
 ·subst f;simp only[if_true]at b a;cases hr:d[i]? with
  |none=>rw[hr]at b;simp at b
  |some o=>
   cases hcs:g[i]? with
   |none=>rw[hcs]at a;simp at a
   |some q=>
    rw[hr]at b
    rw[hcs]at a
    simp at b a
    obtain⟨v,x,r,s,e,y,t,z,u⟩:=h i o q hr hcs
    subst b;subst a
    rw[e]
    exact⟨k,l,r,s,rfl,m,t,p,u⟩
 ·simp only[if_neg f]at b a;exact h j vs c (by simpa using b) (by simpa using a)
theorem yB{F:Nat->Prop}{a W:World}{m M K c f g B:Nat}{i:Option Addr}{e kv:Value}{n:aj}{b:List (List Value)}{v:Array Value}{key:List UInt8}(o:b.length=n.cells.length)(p:cR F a b n.cells)(q:M=n.cells.length)(D:K=n.kids.length)(r:R (λk=>k=m) a W) (s:ah a m 129 v) (hF:∀k,F k->k<a.heap.size) (j:W.ownsRow a.heap.size 122 4 e M (b.modify c λt=>t.set 0 (.slice i f g)).flatten) (d:a.ownsRow B 3 1 kv K (n.kids.map encI)) (u:∀k,kv.ownBlock=some k->¬F k)
 (l:Rd (byteOf F a) a 1 i f (bv key)) (x:key.length<=g) (y:f=key.length):bC F W 0 e kv ⟨n.leaf,fq n.cells c key,n.kids⟩:=by
 subst y;have z:(fq n.cells c key).length=M:=by unfold fq;rw[length_modify,q]
 have E:(b.modify c λt=>t.set 0 (.slice i key.length g)).length=M:=by rw[length_modify,o,q]
 rw[<-z]at j;rw[D]at d;refine⟨⟨_,E.trans z.symm,dQ j (zero_le _),(p.fq c l x).iZ r λk L d G=>by subst d;exact ah.iH G s (by decide) rfl⟩,dQ (r.row d (aI d s (by decide))) (zero_le _),λk A H=>by have:=hF k H;have:=(dw j A).1;omega,u⟩
theorem AP(w:World)(F:Nat->Prop)(gt v k:Nat)(st:aB)(h:ar w F v st)(ch:aL w F gt v k)(ek:st.ok)(j B:Nat)(cv kv:Value)(n c a b:aj)(ao:bC F w B cv kv n)(V:ah w j 129 #[.bool n.leaf,cv,kv]) (ab:¬F j)(i d:Nat) (hw:i<n.kids.length) (hZ:n.kids.length<=65536) (fy:bS st (aJ n i) c) (A:aC c<127) (id:n.kids.length≠1) (e5:d=min i (n.kids.length-2)) (bi:bS st (aJ n d) a) (bj:bS st (aJ n (d+1)) b) (e6:d<n.cells.length) (hx:n.cells.length<=65536)(cy:dh st (aJ n d) (aU a (aS n.cells d) b)) (gp:st.has (aJ n (d+1))):Calls Tryz.prog 107 #[.pointer (some ⟨gt,0,none⟩),.pointer (some ⟨j,0,none⟩),.int .i64 (i:Int)] w (lN F w v j (eO (aY st (aJ n d) (aU a (aS n.cells d) b)) (aJ n (d+1))) ⟨n.leaf,n.cells.eraseIdx d,n.kids.eraseIdx (d+1)⟩):=by
 have f1:=J (dz w F gt v k st h ch (aJ n i) c fy);obtain⟨gk,fz,rfl,e7,g5,i6,g6⟩:=ao.j7 (by omega);obtain⟨el,g7,rfl,e8,ie,i7,ii⟩:=ao.qn (by omega);have hy:=ao.ic i hw;obtain⟨dM,cz⟩:=I (aJ n i);obtain⟨K,ci⟩:=I (n.kids.length);obtain⟨M,em⟩:=I (n.cells.length);obtain⟨hz,dk⟩:=I (n.leaf);rw[<-cz]at f1 hy;rw[<-ci]at hw hZ e7 e5 id V ao;rw[<-em]at e6 e8 V ao hx;rw[<-dk]at V;have im:w.cell? ⟨j,2,none⟩=some (.slice (some ⟨gk,0,none⟩) K fz):=V.cell 2;have hA:=fy.size ek;have i8:=bi.size ek;have i9:=bj.size ek;have g8:=jh a.leaf a.cells;have g9:=jh b.leaf b.cells;have ha:aC a=(if a.leaf=true then 3 else 6)+aT a.leaf a.cells:=rfl;have hb:aC b=(if b.leaf=true then 3 else 6)+aT b.leaf b.cells:=rfl;have ac:a.cells.length<=200/\a.kids.length<=201:=by
  have f2:=bi.2.1.fT;have f3:=bi.2.1.eY;have f4:a.cells.length<=200:=by omega
  refine⟨f4,?_⟩;cases ap:a.leaf with
  |true=>rw[f2 ap];simp
  |false=>rw[f3 ap];omega
 have ad:b.cells.length<=200/\b.kids.length<=201:=by
  have f2:=bj.2.1.fT;have f3:=bj.2.1.eY;have f4:b.cells.length<=200:=by omega
  refine⟨f4,?_⟩;cases ap:b.leaf with
  |true=>rw[f2 ap];simp
  |false=>rw[f3 ap];omega
 have cA:=fy.2.1;have jn:2<=K:=by omega
 have f5:d+1<K:=by omega
 have jp:(i:Int)<(K:Int):=by omega
 have js:(0:Int)<=(i:Int):=by omega
 have jz:(d:Int)<(K:Int):=by omega
 have j0:(0:Int)<=(d:Int):=by omega
 have io:(d:Int)+1<(K:Int):=by omega
 have j1:(d:Int)<(M:Int):=by omega
 have j2:(K:Int)<=65536:=by omega
 have ip:min (i:Int) ((K:Int)-2)=(d:Int):=by omega
 have gB:=V.lt;obtain⟨L,D⟩:=I (aJ n d);obtain⟨f6,E⟩:=I (aJ n (d+1));clear ha hb g8 g9;refine aR ?_ h ch ek ao V fy bi bj cz ci em dk D;clear h ch ek ao V fy bi bj cz ci em dk D;intro h ch ek ao V fy bi bj cz ci em dk D;refine eD ?_ E cA e5 ac ad e7 e8;clear E cA e5 ac ad e7 e8;intro E cA e5 ac ad e7 e8;go_enter Tryz.func107,Tryz.ntmps107;go_wp2_with fail;go_at_call 78;refine f1.o.mono ?_;rintro e fA ⟨cj,hB,hC,ir,rfl,dl,dp,e9,is,S⟩;have bl:bC cj fA ir hB hC c:=S.sB e9;obtain⟨hc,hd,rfl⟩:=aE bl.kids;obtain⟨he,ds,rfl⟩:=aE bl.rows.choose_spec.2.1;obtain⟨f7,bm⟩:=I (c.leaf);obtain⟨hf,dt⟩:=I (c.cells.length);obtain⟨gr,du⟩:=I (c.kids.length);rw[<-dt,<-du]at bl;rw[<-bm,<-dt,<-du];obtain⟨f8,bp⟩:=I (fA.alloc (.cells #[.bool f7,.slice he hf ds,.slice hc gr hd] 129));have br:Ev cj fA cj f8:=by rw[bp];exact(Ev.refl _ _).az _
 have a1:Ev F w cj f8:=dp.trans br;have cB:ar f8 cj v st:=by rw[bp];exact dl.alloc _
 have cD:=bl.ev br;have bs:ah f8 fA.heap.size 129 #[.bool f7,.slice he hf ds,.slice hc gr hd]:=by rw[bp];exact ah.new _ _ _
 have j3:¬cj fA.heap.size:=λap=>by have:=dl.lt _ ap;omega
 have it:w.heap.size<=fA.heap.size:=dp.size;refine aR ?_ dl dp e9 S bl bm dt du bp br a1 cB cD;clear dl dp e9 S bl bm dt du bp br a1 cB cD;intro dl dp e9 S bl bm dt du bp br a1 cB cD;replace bs:=J bs;have en:=J (gQ f8 (.agg #[.bool f7,.slice he hf ds,.slice hc gr hd]) c (by have l:=cD.o.gS;rw[<-bm.o]at l;exact l.old λk x=>x.1) cA.o (by omega));obtain⟨Z,hg⟩:=I (aC c);rw[<-hg]at en hA A;replace hg:=J hg;have kj:decide ((127:Int)<=(Z:Int))=false:=aD (by omega);have kk:decide (127<=Z)=false:=aD (by omega);have t3:((K:Int)==1)=false:=by rw[aZ];omega
 have hD:=bs.o.cell 0;have hE:=bs.o.cell 1;have hG:=bs.o.cell 2;go_upto_region 2 with(fail)
 rw[<-bp.o];go_upto_region 5 with(first|(go_at_call 77;refine en.o.mono ?_;rintro e f9 ⟨rfl,dv⟩;have ga:=(a1.o.blk V.o ab).below dv (a1.o.blk V.o ab).lt;have u2:=ga.cell 2;replace ga:=J ga;replace dv:=J dv))
 have ck:Ev F w cj f9:=a1.o.below dv.o;have fa:ar f9 cj v st:=cB.o.below dv.o;have fb:=ao.o.ev ck;have hH:=fb.ic d (by rw[<-ci.o];omega);have eo:=J (dz f9 cj gt v k st fa (ch.o.ev ck) (aJ n d) a bi.o);rw[<-D.o]at hH eo;refine bf ?_ ck fa fb;clear ck fa fb;intro ck fa fb;clear im hy hD hE hG en;go_wp2_with fail;go_at_call 78;refine eo.o.mono ?_;rintro e P ⟨cE,hI,hJ,hh,rfl,dy,dT,fc,iu,fd⟩;have bv:bC cE P hh hI hJ a:=fd.sB fc;obtain⟨ep,y4,rfl⟩:=aE bv.kids;obtain⟨eq,es,rfl⟩:=aE bv.rows.choose_spec.2.1;obtain⟨cl,bx⟩:=I (a.leaf);obtain⟨m4,d0⟩:=I (a.cells.length);obtain⟨et,d1⟩:=I (a.kids.length);rw[<-d0,<-d1]at bv;rw[<-bx,<-d0,<-d1];obtain⟨d2,bA⟩:=I (P.alloc (.cells #[.bool cl,.slice eq m4 es,.slice ep et y4] 129));have bB:Ev cE P cE d2:=by rw[bA];exact(Ev.refl _ _).az _
 have cH:Ev cj f9 cE d2:=dT.trans bB;have cK:ar d2 cE v st:=by rw[bA];exact dy.alloc _
 have cL:=bv.ev bB;have ex:ah d2 P.heap.size 129 #[.bool cl,.slice eq m4 es,.slice ep et y4]:=by rw[bA];exact ah.new _ _ _
 have hK:¬cE P.heap.size:=λap=>by have:=dy.lt _ ap;omega
 have iv:f9.heap.size<=P.heap.size:=dT.size;refine aR ?_ dy dT fc fd bv bx d0 d1 bA bB cH cK cL;clear dy dT fc fd bv bx d0 d1 bA bB cH cK cL;intro dy dT fc fd bv bx d0 d1 bA bB cH cK cL;replace ex:=J ex;have b0:Ev F w cE d2:=ck.o.trans cH.o;have ff:=ao.o.ev b0;have fg:=b0.blk V.o ab;have hi:=fg.cell 2;have hL:=ff.ic (d+1) (by rw[<-ci.o];omega);have ey:=J (dz d2 cE gt v k st cK.o (ch.o.ev b0) (aJ n (d+1)) b bj.o);rw[<-E.o]at hL ey;refine bf ?_ b0 ff fg;clear b0 ff fg;intro b0 ff fg;clear u2 hH eo;go_upto_region 8 with(fail)
 rw[<-bA.o];go_wp2_with fail;go_at_call 78;refine ey.o.mono ?_;rintro e Q ⟨t,hM,hN,hj,rfl,d3,d4,fh,ix,fi⟩;have b1:bC t Q hj hM hN b:=fi.sB fh;obtain⟨eA,eE,rfl⟩:=aE b1.kids;obtain⟨eI,eJ,rfl⟩:=aE b1.rows.choose_spec.2.1;obtain⟨cm,b2⟩:=I (b.leaf);obtain⟨eK,d5⟩:=I (b.cells.length);obtain⟨eL,d6⟩:=I (b.kids.length);rw[<-d5,<-d6]at b1;rw[<-b2,<-d5,<-d6];obtain⟨f,b3⟩:=I (Q.alloc (.cells #[.bool cm,.slice eI eK eJ,.slice eA eL eE] 129));have b4:Ev t Q t f:=by rw[b3];exact(Ev.refl _ _).az _
 have a2:Ev cE d2 t f:=d4.trans b4;have cM:ar f t v st:=by rw[b3];exact d3.alloc _
 have cP:=b1.ev b4;have eN:ah f Q.heap.size 129 #[.bool cm,.slice eI eK eJ,.slice eA eL eE]:=by rw[b3];exact ah.new _ _ _
 have j4:¬t Q.heap.size:=λap=>by have:=d3.lt _ ap;omega
 have iS:d2.heap.size<=Q.heap.size:=d4.size;refine aR ?_ d3 d4 fh fi b1 b2 d5 d6 b3 b4 a2 cM cP;clear d3 d4 fh fi b1 b2 d5 d6 b3 b4 a2 cM cP;intro d3 d4 fh fi b1 b2 d5 d6 b3 b4 a2 cM cP;replace eN:=J eN;have bb:Ev F w t f:=b0.o.trans a2.o;have fj:=ao.o.ev bb;have d7:=bb.blk V.o ab;have cn:ar f t v st:=cM.o;have fk:bC t f hh (.slice eq m4 es) (.slice ep et y4) a:=cL.o.ev a2.o;have fl:bC t f hj (.slice eI eK eJ) (.slice eA eL eE) b:=cP.o;have ae:ah f P.heap.size 129 #[.bool cl,.slice eq m4 es,.slice ep et y4]:=a2.o.blk ex.o hK;have af:ah f Q.heap.size 129 #[.bool cm,.slice eI eK eJ,.slice eA eL eE]:=eN.o;obtain⟨gs,gv,gb,d8,d9⟩:=fj.wH d (by rw[<-em.o];exact e6);obtain⟨fX,co⟩:=I (aS n.cells d);obtain⟨U,eQ⟩:=I (fX.length);rw[<-co,<-eQ]at gb d8 d9;have u1:=d7.cell 1;have a0:=ae.cell 0;have hk:=ae.cell 1;have hl:=ae.cell 2;have hm:=af.cell 0;have hn:=af.cell 1;have ho:=af.cell 2;have hp:el<f.heap.size:=by have:=bb.size;omega
 have gC:Hid (∀m,Below f.heap.size f m->Calls Tryz.prog 162 #[.agg #[.bool cl,.slice eq m4 es,.slice ep et y4],.slice gs U gv,.agg #[.bool cm,.slice eI eK eJ,.slice eA eL eE]] m (rK t m (aU a fX b))):=J λm A=>by have gd:Ev t f t m:=Ev.ag A;have l:=yu m t (λk x=>aN (cn.lt k x) A.size) a b hh hj _ _ _ _ (fk.ev gd) (fl.ev gd) (by have:=ac.o.1;omega) (by have:=ad.o.1;omega) (by have:=ac.o.2;omega) (by have:=ad.o.2;omega) gs gv fX (by rw[<-eQ];exact d8.xM gd) (by rw[<-eQ];exact d9);rw[<-bx.o,<-b2.o,<-eQ]at l;exact l
 have ea:Hid (∀m,Below f.heap.size f m->(m.cell? ⟨P.heap.size,0,none⟩=some (.bool cl)/\m.cell? ⟨P.heap.size,1,none⟩=some (.slice eq m4 es)/\m.cell? ⟨P.heap.size,2,none⟩=some (.slice ep et y4)/\m.cell? ⟨j,1,none⟩=some (.slice (some ⟨el,0,none⟩) M g7)/\m.cell? ⟨el,d*4,none⟩=some (.slice gs U gv)/\m.cell? ⟨Q.heap.size,0,none⟩=some (.bool cm)/\m.cell? ⟨Q.heap.size,1,none⟩=some (.slice eI eK eJ)/\m.cell? ⟨Q.heap.size,2,none⟩=some (.slice eA eL eE))):=J λm A=>⟨(A.cell (p:=⟨P.heap.size,0,none⟩) ae.lt).trans a0,(A.cell (p:=⟨P.heap.size,1,none⟩) ae.lt).trans hk,(A.cell (p:=⟨P.heap.size,2,none⟩) ae.lt).trans hl,(A.cell (p:=⟨j,1,none⟩) d7.lt).trans u1,(A.cell (p:=⟨el,d*4,none⟩) hp).trans gb,(A.cell (p:=⟨Q.heap.size,0,none⟩) af.lt).trans hm,(A.cell (p:=⟨Q.heap.size,1,none⟩) af.lt).trans hn,(A.cell (p:=⟨Q.heap.size,2,none⟩) af.lt).trans ho⟩
 refine kT ?_ bb fj d7 cn fk fl ae af d8 d9 co eQ;clear bb fj d7 cn fk fl ae af d8 d9 co eQ;intro bb fj d7 cn fk fl ae af d8 d9 co eQ;clear hi hL ey;go_upto_region 11 with(fail)
 rw[<-b3.o];go_cut [12] (λv12 fY=>∃(y:Nat) (b5 b6:Option Addr) (cS b7 cV b8:Nat),v12=.pointer (some ⟨y,0,none⟩)/\Hid (Below f.heap.size f fY/\f.heap.size<=y/\ah fY y 129 #[.bool (aU a fX b).leaf,.slice b5 cS b7,.slice b6 cV b8]/\bC t fY f.heap.size (.slice b5 cS b7) (.slice b6 cV b8) (aU a fX b)))
 case first=>
  go_region_held3 (λw'=>w'.cell? ⟨P.heap.size,0,none⟩=some (.bool cl)/\w'.cell? ⟨P.heap.size,1,none⟩=some (.slice eq m4 es)/\w'.cell? ⟨P.heap.size,2,none⟩=some (.slice ep et y4)/\w'.cell? ⟨j,1,none⟩=some (.slice (some ⟨el,0,none⟩) M g7)/\w'.cell? ⟨el,d*4,none⟩=some (.slice gs U gv)/\w'.cell? ⟨Q.heap.size,0,none⟩=some (.bool cm)/\w'.cell? ⟨Q.heap.size,1,none⟩=some (.slice eI eK eJ)/\w'.cell? ⟨Q.heap.size,2,none⟩=some (.slice eA eL eE)) (first|exact⟨a0,hk,hl,u1,gb,hm,hn,ho⟩|(with_reducible exact ea.o _ bc.o)|(with_reducible exact ea.o _ (bc.o.alloc bc.o.size _))|(exact ea.o _ (kZ bc.o (aa _) _ _ _))|(exact ea.o _ (by with_reducible first|exact(Below.refl _ f).drew|exact(Below.refl _ f).alloc (aa _) _|exact((Below.refl _ f).alloc (aa _) _).drew|exact Below.refl _ f))|go_keep) (first
   |(go_at_call 162;(with_reducible refine(gC.o _ (by with_reducible first|exact(Below.refl _ f).drew|exact(Below.refl _ f).alloc (aa _) _|exact((Below.refl _ f).alloc (aa _) _).drew|exact Below.refl _ f)).mono ?_);rintro e gw ⟨j5,j6,rfl,cp,eb⟩;have bc:Hid (Below f.heap.size f gw):=J (Below.trans (by with_reducible first|exact(Below.refl _ f).drew|exact(Below.refl _ f).alloc (aa _) _|exact((Below.refl _ f).alloc (aa _) _).drew|exact Below.refl _ f) (eb.mono (Below.size (B:=f.heap.size) (by with_reducible first|exact(Below.refl _ f).drew|exact(Below.refl _ f).alloc (aa _) _|exact((Below.refl _ f).alloc (aa _) _).drew|exact Below.refl _ f))));(try(have cX:ah gw f.heap.size 129 #[.bool false,.slice none 0 0,.slice none 0 0]:=(by first|exact ah.below (ah.new f 129 #[.bool false,.slice none 0 0,.slice none 0 0]) eb (by simp)|exact ah.below (ah.new f 129 #[.bool false,.slice none 0 0,.slice none 0 0]).drew eb (by simp));have gr:=cX.cell 0;have kl:=cX.cell 1;have hO:=cX.cell 2;have gb:=cX.frozen 0;have r1:=cX.frozen 1;have r2:=cX.frozen 2;replace cX:=J cX));(obtain⟨b5,b7,rfl,fm⟩:=iO cp.rows.choose_spec.2.1);(obtain⟨b6,b8,rfl,fn⟩:=iO cp.kids);replace cp:=J cp;replace eb:=J eb))
  all_goals go_wp2_with fail
  all_goals go_meet
  ·exact⟨_,b5,b6,_,b7,_,b8,rfl,J ⟨bc.o.alloc bc.o.size _,bc.o.size,ah.new _ _ _,(cp.o.more (by first|exact aa _|(simp<;>omega))).ev ((Ev.refl t gw).az _)⟩⟩
  ·have gO:=cX.o;exact⟨_,b5,b6,_,b7,_,b8,rfl,J ⟨kZ bc.o (aa _) _ _ _,aa _,fZ.own ⟨_,_,_,gO⟩ _ _ _,(cp.o.more (by first|exact aa _|(simp<;>omega))).only (kK (R.refl (λk=>k=f.heap.size) gw) rfl _ _ _) λk x=>by subst x;exact⟨_,_,gO,by decide,by decide,by decide⟩⟩⟩
 case rest=>
  obtain⟨y,b5,b6,cS,b7,cV,b8,rfl,hP⟩:=hcut;obtain⟨ec,ka,T,bd⟩:=hP.o;clear hP gC ea a0 hk hl hm hn ho u1 gb;obtain⟨X,f0⟩:=I (aU a fX b);rw[<-f0]at T bd;have ee:Ev F w t wc:=bb.o.below ec;have fp:ar wc t v st:=cn.o.below ec;have fm:cS=X.cells.length:=by
   rcases bd.rows.choose_spec.2.1.2 with⟨b9,l⟩|⟨g,cap,hQ,b9,_⟩
   ·injection b9 with _ b9 _;omega
   ·injection b9 with _ b9 _
  have fn:cV=X.kids.length:=by
   rcases bd.kids.2 with⟨b9,l⟩|⟨g,cap,hQ,b9,_⟩
   ·injection b9 with _ b9 _;omega
   ·injection b9 with _ b9 _
  obtain⟨ge,cr⟩:=I (X.leaf);rw[<-cr]at T;have eR:¬t y:=λap=>by have:=cn.o.lt _ ap;omega
  have e0:=ee.blk V.o ab;have iX:j≠y:=by have:=bb.o.size;omega
  rw[<-co.o,<-f0]at cy;have e1:=J (gQ wc (.agg #[.bool ge,.slice b5 cS b7,.slice b6 cV b8]) X (by have l:=bd.gS;rw[<-cr]at l;exact l.old λk x=>x.1) cy.2.1 (by have:=cy.2.2;omega));obtain⟨hq,ef⟩:=I (aC X);have gx:hq<=508:=by rw[ef];exact cy.2.2
  rw[<-ef]at e1;have s1:decide ((hq:Int)<=508)=true:=aV (by omega);have s2:decide (hq<=508)=true:=aV gx;have i0:=T.cell 0;have i1:=T.cell 1;have i2:=T.cell 2;refine aR ?_ ec T bd f0 ee fp fm fn cr e0 ef cy gp;clear ec T bd f0 ee fp fm fn cr e0 ef cy gp;intro ec T bd f0 ee fp fm fn cr e0 ef cy gp;go_upto_region 13 with(first|(go_at_call 77;refine e1.o.mono ?_;rintro e ca ⟨rfl,a3⟩;replace a3:=J a3))
  have z:Ev F w t ca:=ee.o.below a3.o;have cY:ar ca t v st:=fp.o.below a3.o;have c0:=bd.o.ev (Ev.ag (F:=t) a3.o);have c1:=ao.o.ev z;have a4:=z.blk V.o ab;have q:=T.o.below a3.o T.o.lt;have gf:=c1.ic d (by rw[<-ci.o];omega);have v9:=a4.cell 2;have ds:=q.cell 0;have gy:=q.cell 1;have gz:=q.cell 2;have fr:gk<ca.heap.size:=by have:=z.size;omega
  have gg:=J (lp ca.drew t gt v k st cY.drew (ch.o.ev z.drew) (aJ n d) X (.agg #[.bool ge,.slice b5 cS b7,.slice b6 cV b8]) (by have l:=(c0.ev ((Ev.refl t ca).drew)).gS;rw[<-cr.o]at l;exact l) cy.o);rw[<-D.o]at gf gg;have gA:Hid (∀m,Below ca.heap.size ca m->(m.cell? ⟨j,2,none⟩=some (.slice (some ⟨gk,0,none⟩) K fz)/\m.cell? ⟨gk,d,none⟩=some (.int .i64 (L:Int))/\m.cell? ⟨y,0,none⟩=some (.bool ge)/\m.cell? ⟨y,1,none⟩=some (.slice b5 cS b7)/\m.cell? ⟨y,2,none⟩=some (.slice b6 cV b8))):=J λm A=>⟨(A.cell (p:=⟨j,2,none⟩) a4.lt).trans v9,(A.cell (p:=⟨gk,d,none⟩) fr).trans gf,(A.cell (p:=⟨y,0,none⟩) q.lt).trans ds,(A.cell (p:=⟨y,1,none⟩) q.lt).trans gy,(A.cell (p:=⟨y,2,none⟩) q.lt).trans gz⟩
  refine dZ ?_ z cY c0 c1 a4 q;clear z cY c0 c1 a4 q;intro z cY c0 c1 a4 q;clear i0 i1 i2 e1;go_cut [13] (λgR fY=>gR=.int .i64 0/\Hid (∃al,ar fY al v (aY st L X)/\Ev F w al fY))
  case first=>
   go_region_held3 (λw'=>w'.cell? ⟨j,2,none⟩=some (.slice (some ⟨gk,0,none⟩) K fz)/\w'.cell? ⟨gk,d,none⟩=some (.int .i64 (L:Int))/\w'.cell? ⟨y,0,none⟩=some (.bool ge)/\w'.cell? ⟨y,1,none⟩=some (.slice b5 cS b7)/\w'.cell? ⟨y,2,none⟩=some (.slice b6 cV b8)) (first|exact⟨v9,gf,ds,gy,gz⟩|exact hR.o) (first
    |(go_at_call 103;refine gg.o.mono ?_;rintro e s ⟨rfl,al,G,N⟩;have hR:=J (by have hS:=z.o.new ab gB;have hT:=z.o.new g5 g6;exact⟨(N.cell (p:=⟨j,2,none⟩) ⟨a4.o.lt,hS⟩).trans v9,(N.cell (p:=⟨gk,d,none⟩) ⟨fr,hT⟩).trans gf,(N.cell (p:=⟨y,0,none⟩) ⟨q.o.lt,eR⟩).trans ds,(N.cell (p:=⟨y,1,none⟩) ⟨q.o.lt,eR⟩).trans gy,(N.cell (p:=⟨y,2,none⟩) ⟨q.o.lt,eR⟩).trans gz⟩:s.cell? ⟨j,2,none⟩=some (.slice (some ⟨gk,0,none⟩) K fz)/\s.cell? ⟨gk,d,none⟩=some (.int .i64 (L:Int))/\s.cell? ⟨y,0,none⟩=some (.bool ge)/\s.cell? ⟨y,1,none⟩=some (.slice b5 cS b7)/\s.cell? ⟨y,2,none⟩=some (.slice b6 cV b8));have u:=J (z.o.drew.trans N:Ev F w al s);replace G:=J G;replace N:=J N))
   all_goals go_wp2_with fail
   all_goals go_meet
   all_goals exact⟨rfl,J ⟨al,G.o,u.o⟩⟩
  case rest=>
  obtain⟨rfl,gh⟩:=hcut;obtain⟨al,G,c2⟩:=gh.o;obtain⟨s,e2⟩:=I (wc);rw[<-e2]at G c2⊢;replace e2:=J e2;have u:=J c2;replace G:=J G;clear c2 gh;have a5:=ao.o.ev u.o;have r:=u.o.blk V.o ab;have c3:=u.o.new ab gB;have g0:=a5.ic (d+1) (by rw[<-ci.o];omega);rw[<-E.o]at g0;obtain⟨c4,eg,eh,ei⟩:=a5.rows;rw[<-em.o]at eh;have c5:=Reads.fP eh;have cs:=a5.kids;rw[<-ci.o]at cs;have e3:=Reads.fP cs;replace cs:=J cs;have fs:=ei.one eg;have g1:=J (nY s (some ⟨el,0,none⟩) M g7 c4.flatten c5 fs (by omega));have v1:=r.cell 1;have hi:=r.cell 2;have i3:=r.frozen 1;have i4:=r.frozen 2;have t0:s.cell? ⟨gt,0,none⟩=some (.pointer (some ⟨v,0,none⟩)):=(ch.o.ev u.o).blk.cell 0;have hr:gt≠j:=ah.iH (ch.o.ev u.o).blk r (by decide);refine eD ?_ a5 r eg eh ei c5 e3;clear a5 r eg eh ei c5 e3;intro a5 r eg eh ei c5 e3;replace fs:Hid _:=J fs;clear v9 gf ds gy gz gg gA;go_upto_region 17 with(fail)
  go_upto_region 18 with(first
   |(go_at_call 163;refine g1.o.mono ?_;rintro e hU ⟨v12,rfl,a6,c6⟩;have c7:=r.o.below c6 r.o.lt;(obtain⟨kb,kc,rfl⟩:=aE a6);have g2:=J (yt hU s.heap.size _ M d c4.flatten a6 e6 fs.o (by omega));replace a6:=J a6;replace c6:=J c6;replace c7:=J c7)
   |(go_at_call 88;refine g2.o.mono ?_;rintro e gi ⟨gR,rfl,cb,c8,gj⟩;have a7:=c7.o.grown c8 (λe=>aI a6.o c7.o (by decide) j e.symm rfl);have hs:=a7.cell 1;have ht:=a7.frozen 1;(obtain⟨ft,fv,rfl⟩:=aE cb);replace cb:=J cb;replace c8:=J c8;replace a7:=J a7;replace gj:=J gj))
  obtain⟨am,W⟩:=I (gi.setCell ⟨j,1,none⟩ (.slice ft (M-1) fv));rw[<-W];have ct:R (λk=>k=j) s am:=by have l:R (λk=>k=j) s gi:=(R.ag c6.o).grown c8.o (λk x g3=>by have:=(dw a6.o x).1;omega);rw[W];exact l.setCell (p:=⟨j,1,none⟩) (λ_=>rfl) _
  have O:ah am j 129 #[.bool hz,.slice ft (M-1) fv,.slice (some ⟨gk,0,none⟩) K fz]:=by rw[W];exact a7.o.aK 1 _
  have cc:am.ownsRow s.heap.size 122 4 (.slice ft (M-1) fv) (M-1) (c4.flatten.take (d*4)++c4.flatten.drop ((d+1)*4)):=by rw[W];exact((R.refl (λk=>k=j) gi).setCell (p:=⟨j,1,none⟩) (λ_=>rfl) _).row cb.o (aI cb.o a7.o (by decide))
  have be:=ct.row cs.o (aI cs.o r.o (by decide));have g4:=J (sA am (some ⟨gk,0,none⟩) K fz (n.kids.map encI) (Reads.fP be) (o6 _) (by omega));have hO:=O.cell 2;have p2:=O.frozen 2;have hu:s.heap.size<=am.heap.size:=ct.size;have hV:IntKind.i64.wrap ((d:Int)+2)=(d:Int)+2:=IntWalk.i64_in _ (by omega);refine bX ?_ W ct O cc be;clear W ct O cc be;intro W ct O cc be;clear g1 g2 hs ht v1 hi i3 i4;go_upto_region 19 with(first
   |(go_at_call 165;refine g4.o.mono ?_;rintro e hW ⟨kd,rfl,a8,c9⟩;have da:=O.o.below c9 O.o.lt;(obtain⟨ke,kh,rfl⟩:=aE a8);(have e4:=FW hW am.heap.size _ K (d+1) (n.kids.map encI) a8 f5 (o6 _) (by omega));(rw[show((d+1:Nat):Int)=(d:Int)+1 from by omega,show(d:Int)+1+1=(d:Int)+2 from by omega]at e4);have hX:=J e4;clear e4;replace a8:=J a8;replace c9:=J c9;replace da:=J da)
   |(go_at_call 164;refine hX.o.mono ?_;rintro e gl ⟨ki,rfl,ce,db,gm⟩;have a9:=da.o.grown db (λe=>aI a8.o da.o (by decide) j e.symm rfl);have hs:=a9.cell 2;have ht:=a9.frozen 2;(obtain⟨gn,go,rfl⟩:=aE ce);replace ce:=J ce;replace db:=J db;replace a9:=J a9;replace gm:=J gm))
  clear hV;obtain⟨an,Y⟩:=I (gl.setCell ⟨j,2,none⟩ (.slice gn (K-1) go));rw[<-Y];have ej:R (λk=>k=j) am an:=by have l:R (λk=>k=j) am gl:=(R.ag c9.o).grown db.o (λk x g3=>by have:=(dw a8.o x).1;omega);rw[Y];exact l.setCell (p:=⟨j,2,none⟩) (λ_=>rfl) _
  have cf:ah an j 129 #[.bool hz,.slice ft (M-1) fv,.slice gn (K-1) go]:=by rw[Y];exact a9.o.aK 2 _
  have dc:an.ownsRow am.heap.size 3 1 (.slice gn (K-1) go) (K-1) ((n.kids.map encI).take ((d+1)*1)++(n.kids.map encI).drop ((d+1+1)*1)):=by rw[Y];exact((R.refl (λk=>k=j) gl).setCell (p:=⟨j,2,none⟩) (λ_=>rfl) _).row ce.o (aI ce.o a9.o (by decide))
  have dd:=ej.row cc.o (aI cc.o O.o (by decide));have cg:R (λk=>k=j) s an:=ct.o.trans ej (λ_ _ h=>h);have de:ar an al v (aY st L X):=G.o.only cg λk x e=>c3 (by rw[<-e];exact x);have dj:=wI eg.o ei.o em.o ci.o e6 f5 cg r.o G.o.lt dd (dQ dc hu);have S:R (λk=>F k\/k=j) w an:=(u.o.only.mono λk _ x=>.inl x).trans cg λk _ x=>.inr x;have fx:(aY st L X).ok:=by have l:=ek.o.save cy.o;rw[<-D.o]at l;exact l
  have hY:=J (o7 an al v (aY st L X) de f6 (by have l:=gp.o;rw[<-E.o]at l;exact l) fx.free);have km:an.cell? ⟨gt,0,none⟩=some (.pointer (some ⟨v,0,none⟩)):=(cg.blk (ch.o.ev u.o).blk hr).cell 0;have hv:Hid (∀cw cx,ar cw cx v (eO (aY st L X) f6)->Ev al an cx cw->lN F w v j (eO (aY st (aJ n d) (aU a (aS n.cells d) b)) (aJ n (d+1))) ⟨n.leaf,n.cells.eraseIdx d,n.kids.eraseIdx (d+1)⟩ (.returned (.int .i64 0)) cw):=J (by
   intro cw cx ba H;refine⟨rfl,cx,s.heap.size,_,_,?_,?_,λk x=>?_,dj.ev H,?_,H.new c3 cf.lt⟩
   ·rw[D.o,E.o,f0.o,co.o]at ba;exact ba
   ·exact S.trans H.only λk g3 x=>(u.o.grow k x).elim .inl (λl=>absurd l (by omega))
   ·rcases H.grow k x with l|l
    ·exact u.o.grow k l
    ·exact .inr (aO S.size l)
   ·rw[<-dk.o];exact H.blk cf c3)
  refine dr ?_ Y ej cf dc dd cg de dj S fx;clear Y ej cf dc dd cg de dj S fx;intro Y ej cf dc dd cg de dj S fx;clear g4 hs ht hO p2 g0 t0;go_wp2_with(first|(go_at_call 112;refine hY.o.mono ?_;rintro e cw ⟨rfl,cx,ba,H⟩;have i5:=J (hv.o cw cx ba H);replace ba:=J ba;replace H:=J H));go_ret;exact i5.o
theorem AQ(w:World)(F:Nat->Prop)(gt N k:Nat)(st:aB)(h:ar w F N st)(cY:aL w F gt N k)(go:st.ok)(t B:Nat)(cv kv:Value)(n c a b:aj)(a7:bC F w B cv kv n)(ae:ah w t 129 #[.bool n.leaf,cv,kv]) (am:¬F t)(i d:Nat) (iS:i<n.kids.length) (kj:n.kids.length<=65536) (gp:bS st (aJ n i) c) (a8:aC c<127) (hM:n.kids.length≠1) (ft:d=min i (n.kids.length-2)) (b3:bS st (aJ n d) a) (b4:bS st (aJ n (d+1)) b) (hD:d<n.cells.length) (iX:n.cells.length<=65536)(cB:bJ (aU a (aS n.cells d) b)) (d5:508<aC (aU a (aS n.cells d) b)) (d6:aC (aU a (aS n.cells d) b)<=760) (g0:oZ (aU a (aS n.cells d) b)) (d7:dh st (aJ n d) (cd (aU a (aS n.cells d) b))) (d8:dh (aY st (aJ n d) (cd (aU a (aS n.cells d) b))) (aJ n (d+1)) (dG (aU a (aS n.cells d) b))):Calls Tryz.prog 107 #[.pointer (some ⟨gt,0,none⟩),.pointer (some ⟨t,0,none⟩),.int .i64 (i:Int)] w (lN F w N t (aY (aY st (aJ n d) (cd (aU a (aS n.cells d) b))) (aJ n (d+1)) (dG (aU a (aS n.cells d) b))) ⟨n.leaf,fq n.cells d (dF (aU a (aS n.cells d) b)),n.kids⟩):=by
 have g2:=J (dz w F gt N k st h cY (aJ n i) c gp);obtain⟨gk,e1,rfl,fv,g3,li,g4⟩:=a7.j7 (by omega);obtain⟨e2,hN,rfl,fx,kk,lk,kl⟩:=a7.qn (by omega);have i1:=a7.ic i iS;obtain⟨dM,c0⟩:=I (aJ n i);obtain⟨K,cz⟩:=I (n.kids.length);obtain⟨M,e3⟩:=I (n.cells.length);obtain⟨km,d9⟩:=I (n.leaf);rw[<-c0]at g2 i1;rw[<-cz]at iS kj fv ft hM ae a7;rw[<-e3]at hD fx ae a7 iX;rw[<-d9]at ae;have kn:w.cell? ⟨t,2,none⟩=some (.slice (some ⟨gk,0,none⟩) K e1):=ae.cell 2;have i2:=gp.size go;have lm:=b3.size go;have ln:=b4.size go;have hO:=jh a.leaf a.cells;have hP:=jh b.leaf b.cells;have hQ:aC a=(if a.leaf=true then 3 else 6)+aT a.leaf a.cells:=rfl;have hR:aC b=(if b.leaf=true then 3 else 6)+aT b.leaf b.cells:=rfl;have a4:a.cells.length<=200/\a.kids.length<=201:=by
  have g5:=b3.2.1.fT;have g6:=b3.2.1.eY;have ea:a.cells.length<=200:=by omega
  refine⟨ea,?_⟩;cases W:a.leaf with
  |true=>rw[g5 W];simp
  |false=>rw[g6 W];omega
 have a5:b.cells.length<=200/\b.kids.length<=201:=by
  have g5:=b4.2.1.fT;have g6:=b4.2.1.eY;have ea:b.cells.length<=200:=by omega
  refine⟨ea,?_⟩;cases W:b.leaf with
  |true=>rw[g5 W];simp
  |false=>rw[g6 W];omega
 have c1:=gp.2.1;have lo:2<=K:=by omega
 have ko:d+1<K:=by omega
 have lr:(i:Int)<(K:Int):=by omega
 have ls:(0:Int)<=(i:Int):=by omega
 have lv:(d:Int)<(K:Int):=by omega
 have lw:(0:Int)<=(d:Int):=by omega
 have kp:(d:Int)+1<(K:Int):=by omega
 have lx:(d:Int)<(M:Int):=by omega
 have ly:(K:Int)<=65536:=by omega
 have kq:min (i:Int) ((K:Int)-2)=(d:Int):=by omega
 have hE:=ae.lt;obtain⟨a9,Q⟩:=I (aJ n d);obtain⟨c2,S⟩:=I (aJ n (d+1));clear hQ hR hO hP;refine aR ?_ h cY go a7 ae gp b3 b4 c0 cz e3 d9 Q;clear h cY go a7 ae gp b3 b4 c0 cz e3 d9 Q;intro h cY go a7 ae gp b3 b4 c0 cz e3 d9 Q;refine eD ?_ S c1 ft a4 a5 fv fx;clear S c1 ft a4 a5 fv fx;intro S c1 ft a4 a5 fv fx;go_enter Tryz.func107,Tryz.ntmps107;go_wp2_with fail;go_at_call 78;refine g2.o.mono ?_;rintro e gr ⟨cA,i3,i4,ks,rfl,eb,ec,fy,kt,b5⟩;have b6:bC cA gr ks i3 i4 c:=b5.sB fy;obtain⟨hS,hT,rfl⟩:=aE b6.kids;obtain⟨hU,ee,rfl⟩:=aE b6.rows.choose_spec.2.1;obtain⟨g7,b7⟩:=I (c.leaf);obtain⟨hV,ef⟩:=I (c.cells.length);obtain⟨hr,eg⟩:=I (c.kids.length);rw[<-ef,<-eg]at b6;rw[<-b7,<-ef,<-eg];obtain⟨g8,b8⟩:=I (gr.alloc (.cells #[.bool g7,.slice hU hV ee,.slice hS hr hT] 129));have b9:Ev cA gr cA g8:=by rw[b8];exact(Ev.refl _ _).az _
 have ba:Ev F w cA g8:=ec.trans b9;have c3:ar g8 cA N st:=by rw[b8];exact eb.alloc _
 have c4:=b6.ev b9;have ca:ah g8 gr.heap.size 129 #[.bool g7,.slice hU hV ee,.slice hS hr hT]:=by rw[b8];exact ah.new _ _ _
 have lz:¬cA gr.heap.size:=λW=>by have:=eb.lt _ W;omega
 have kw:w.heap.size<=gr.heap.size:=ec.size;refine aR ?_ eb ec fy b5 b6 b7 ef eg b8 b9 ba c3 c4;clear eb ec fy b5 b6 b7 ef eg b8 b9 ba c3 c4;intro eb ec fy b5 b6 b7 ef eg b8 b9 ba c3 c4;replace ca:=J ca;have e4:=J (gQ g8 (.agg #[.bool g7,.slice hU hV ee,.slice hS hr hT]) c (by have v:=c4.o.gS;rw[<-b7.o]at v;exact v.old λk l=>l.1) c1.o (by omega));obtain⟨Z,hW⟩:=I (aC c);rw[<-hW]at e4 i2 a8;replace hW:=J hW;have l2:decide ((127:Int)<=(Z:Int))=false:=aD (by omega);have l3:decide (127<=Z)=false:=aD (by omega);have t3:((K:Int)==1)=false:=by rw[aZ];omega
 have i5:=ca.o.cell 0;have i6:=ca.o.cell 1;have i7:=ca.o.cell 2;go_upto_region 2 with(fail)
 rw[<-b8.o];go_upto_region 5 with(first|(go_at_call 77;refine e4.o.mono ?_;rintro e g9 ⟨rfl,eh⟩;have ha:=(ba.o.blk ae.o am).below eh (ba.o.blk ae.o am).lt;have u2:=ha.cell 2;replace ha:=J ha;replace eh:=J eh))
 have cD:Ev F w cA g9:=ba.o.below eh.o;have fz:ar g9 cA N st:=c3.o.below eh.o;have fA:=a7.o.ev cD;have i8:=fA.ic d (by rw[<-cz.o];omega);have e5:=J (dz g9 cA gt N k st fz (cY.o.ev cD) (aJ n d) a b3.o);rw[<-Q.o]at i8 e5;refine bf ?_ cD fz fA;clear cD fz fA;intro cD fz fA;clear kn i1 i5 i6 i7 e4;go_wp2_with fail;go_at_call 78;refine e5.o.mono ?_;rintro e af ⟨c5,i9,jn,hX,rfl,an,E,fX,kx,fY⟩;have cb:bC c5 af hX i9 jn a:=fY.sB fX;obtain⟨e6,y4,rfl⟩:=aE cb.kids;obtain⟨e7,e8,rfl⟩:=aE cb.rows.choose_spec.2.1;obtain⟨cE,cc⟩:=I (a.leaf);obtain⟨m4,ei⟩:=I (a.cells.length);obtain⟨e9,ej⟩:=I (a.kids.length);rw[<-ei,<-ej]at cb;rw[<-cc,<-ei,<-ej];obtain⟨ek,ce⟩:=I (af.alloc (.cells #[.bool cE,.slice e7 m4 e8,.slice e6 e9 y4] 129));have cf:Ev c5 af c5 ek:=by rw[ce];exact(Ev.refl _ _).az _
 have c6:Ev cA g9 c5 ek:=E.trans cf;have c7:ar ek c5 N st:=by rw[ce];exact an.alloc _
 have c8:=cb.ev cf;have fa:ah ek af.heap.size 129 #[.bool cE,.slice e7 m4 e8,.slice e6 e9 y4]:=by rw[ce];exact ah.new _ _ _
 have jp:¬c5 af.heap.size:=λW=>by have:=an.lt _ W;omega
 have kA:g9.heap.size<=af.heap.size:=E.size;refine aR ?_ an E fX fY cb cc ei ej ce cf c6 c7 c8;clear an E fX fY cb cc ei ej ce cf c6 c7 c8;intro an E fX fY cb cc ei ej ce cf c6 c7 c8;replace fa:=J fa;have cg:Ev F w c5 ek:=cD.o.trans c6.o;have f0:=a7.o.ev cg;have f1:=cg.blk ae.o am;have kB:=f1.cell 2;have js:=f0.ic (d+1) (by rw[<-cz.o];omega);have fb:=J (dz ek c5 gt N k st c7.o (cY.o.ev cg) (aJ n (d+1)) b b4.o);rw[<-S.o]at js fb;refine bf ?_ cg f0 f1;clear cg f0 f1;intro cg f0 f1;clear u2 i8 e5;go_upto_region 8 with(fail)
 rw[<-ce.o];go_wp2_with fail;go_at_call 78;refine fb.o.mono ?_;rintro e al ⟨r,jz,j0,hY,rfl,el,em,f2,k0,f3⟩;have ch:bC r al hY jz j0 b:=f3.sB f2;obtain⟨fc,fd,rfl⟩:=aE ch.kids;obtain⟨ff,fg,rfl⟩:=aE ch.rows.choose_spec.2.1;obtain⟨cH,ci⟩:=I (b.leaf);obtain⟨fh,en⟩:=I (b.cells.length);obtain⟨fi,eo⟩:=I (b.kids.length);rw[<-en,<-eo]at ch;rw[<-ci,<-en,<-eo];obtain⟨m,cj⟩:=I (al.alloc (.cells #[.bool cH,.slice ff fh fg,.slice fc fi fd] 129));have ck:Ev r al r m:=by rw[cj];exact(Ev.refl _ _).az _
 have bb:Ev c5 ek r m:=em.trans ck;have c9:ar m r N st:=by rw[cj];exact el.alloc _
 have da:=ch.ev ck;have fj:ah m al.heap.size 129 #[.bool cH,.slice ff fh fg,.slice fc fi fd]:=by rw[cj];exact ah.new _ _ _
 have lA:¬r al.heap.size:=λW=>by have:=el.lt _ W;omega
 have k1:ek.heap.size<=al.heap.size:=em.size;refine aR ?_ el em f2 f3 ch ci en eo cj ck bb c9 da;clear el em f2 f3 ch ci en eo cj ck bb c9 da;intro el em f2 f3 ch ci en eo cj ck bb c9 da;replace fj:=J fj;have br:Ev F w r m:=cg.o.trans bb.o;have f4:=a7.o.ev br;have ep:=br.blk ae.o am;have cK:ar m r N st:=c9.o;have f5:bC r m hX (.slice e7 m4 e8) (.slice e6 e9 y4) a:=c8.o.ev bb.o;have f6:bC r m hY (.slice ff fh fg) (.slice fc fi fd) b:=da.o;have x:ah m af.heap.size 129 #[.bool cE,.slice e7 m4 e8,.slice e6 e9 y4]:=bb.o.blk fa.o jp;have G:ah m al.heap.size 129 #[.bool cH,.slice ff fh fg,.slice fc fi fd]:=fj.o;obtain⟨hs,ht,hb,eq,es⟩:=f4.wH d (by rw[<-e3.o];exact hD);obtain⟨gs,cl⟩:=I (aS n.cells d);obtain⟨U,fk⟩:=I (gs.length);rw[<-cl,<-fk]at hb eq es;have u1:=ep.cell 1;have a0:=x.cell 0;have hZ:=x.cell 1;have id:=x.cell 2;have ie:=G.cell 0;have ii:=G.cell 1;have im:=G.cell 2;have io:e2<m.heap.size:=by have:=br.size;omega
 have hG:Hid (∀Y,Below m.heap.size m Y->Calls Tryz.prog 162 #[.agg #[.bool cE,.slice e7 m4 e8,.slice e6 e9 y4],.slice hs U ht,.agg #[.bool cH,.slice ff fh fg,.slice fc fi fd]] Y (rK r Y (aU a gs b))):=J λY a8=>by have hc:Ev r m r Y:=Ev.ag a8;have v:=yu Y r (λk l=>aN (cK.lt k l) a8.size) a b hX hY _ _ _ _ (f5.ev hc) (f6.ev hc) (by have:=a4.o.1;omega) (by have:=a5.o.1;omega) (by have:=a4.o.2;omega) (by have:=a5.o.2;omega) hs ht gs (by rw[<-fk];exact eq.xM hc) (by rw[<-fk];exact es);rw[<-cc.o,<-ci.o,<-fk]at v;exact v
 have et:Hid (∀Y,Below m.heap.size m Y->(Y.cell? ⟨af.heap.size,0,none⟩=some (.bool cE)/\Y.cell? ⟨af.heap.size,1,none⟩=some (.slice e7 m4 e8)/\Y.cell? ⟨af.heap.size,2,none⟩=some (.slice e6 e9 y4)/\Y.cell? ⟨t,1,none⟩=some (.slice (some ⟨e2,0,none⟩) M hN)/\Y.cell? ⟨e2,d*4,none⟩=some (.slice hs U ht)/\Y.cell? ⟨al.heap.size,0,none⟩=some (.bool cH)/\Y.cell? ⟨al.heap.size,1,none⟩=some (.slice ff fh fg)/\Y.cell? ⟨al.heap.size,2,none⟩=some (.slice fc fi fd))):=J λY a8=>⟨(a8.cell (p:=⟨af.heap.size,0,none⟩) x.lt).trans a0,(a8.cell (p:=⟨af.heap.size,1,none⟩) x.lt).trans hZ,(a8.cell (p:=⟨af.heap.size,2,none⟩) x.lt).trans id,(a8.cell (p:=⟨t,1,none⟩) ep.lt).trans u1,(a8.cell (p:=⟨e2,d*4,none⟩) io).trans hb,(a8.cell (p:=⟨al.heap.size,0,none⟩) G.lt).trans ie,(a8.cell (p:=⟨al.heap.size,1,none⟩) G.lt).trans ii,(a8.cell (p:=⟨al.heap.size,2,none⟩) G.lt).trans im⟩
 refine kT ?_ br f4 ep cK f5 f6 x G eq es cl fk;clear br f4 ep cK f5 f6 x G eq es cl fk;intro br f4 ep cK f5 f6 x G eq es cl fk;clear kB js fb;go_upto_region 11 with(fail)
 rw[<-cj.o];go_cut [12] (λv12 gv=>∃(gw:Nat) (ex ey:Option Addr) (gx eA gy eE:Nat),v12=.pointer (some ⟨gw,0,none⟩)/\Hid (Below m.heap.size m gv/\m.heap.size<=gw/\ah gv gw 129 #[.bool (aU a gs b).leaf,.slice ex gx eA,.slice ey gy eE]/\bC r gv m.heap.size (.slice ex gx eA) (.slice ey gy eE) (aU a gs b)))
 case first=>
  go_region_held3 (λw'=>w'.cell? ⟨af.heap.size,0,none⟩=some (.bool cE)/\w'.cell? ⟨af.heap.size,1,none⟩=some (.slice e7 m4 e8)/\w'.cell? ⟨af.heap.size,2,none⟩=some (.slice e6 e9 y4)/\w'.cell? ⟨t,1,none⟩=some (.slice (some ⟨e2,0,none⟩) M hN)/\w'.cell? ⟨e2,d*4,none⟩=some (.slice hs U ht)/\w'.cell? ⟨al.heap.size,0,none⟩=some (.bool cH)/\w'.cell? ⟨al.heap.size,1,none⟩=some (.slice ff fh fg)/\w'.cell? ⟨al.heap.size,2,none⟩=some (.slice fc fi fd)) (first|exact⟨a0,hZ,id,u1,hb,ie,ii,im⟩|(with_reducible exact et.o _ bs.o)|(with_reducible exact et.o _ (bs.o.alloc bs.o.size _))|(exact et.o _ (kZ bs.o (aa _) _ _ _))|(exact et.o _ (by with_reducible first|exact(Below.refl _ m).drew|exact(Below.refl _ m).alloc (aa _) _|exact((Below.refl _ m).alloc (aa _) _).drew|exact Below.refl _ m))|go_keep) (first
   |(go_at_call 162;(with_reducible refine(hG.o _ (by with_reducible first|exact(Below.refl _ m).drew|exact(Below.refl _ m).alloc (aa _) _|exact((Below.refl _ m).alloc (aa _) _).drew|exact Below.refl _ m)).mono ?_);rintro e hu ⟨lB,lO,rfl,cL,eI⟩;have bs:Hid (Below m.heap.size m hu):=J (Below.trans (by with_reducible first|exact(Below.refl _ m).drew|exact(Below.refl _ m).alloc (aa _) _|exact((Below.refl _ m).alloc (aa _) _).drew|exact Below.refl _ m) (eI.mono (Below.size (B:=m.heap.size) (by with_reducible first|exact(Below.refl _ m).drew|exact(Below.refl _ m).alloc (aa _) _|exact((Below.refl _ m).alloc (aa _) _).drew|exact Below.refl _ m))));(try(have db:ah hu m.heap.size 129 #[.bool false,.slice none 0 0,.slice none 0 0]:=(by first|exact ah.below (ah.new m 129 #[.bool false,.slice none 0 0,.slice none 0 0]) eI (by simp)|exact ah.below (ah.new m 129 #[.bool false,.slice none 0 0,.slice none 0 0]).drew eI (by simp));have hr:=db.cell 0;have l4:=db.cell 1;have l5:=db.cell 2;have hb:=db.frozen 0;have r1:=db.frozen 1;have r2:=db.frozen 2;replace db:=J db));(obtain⟨ex,eA,rfl,f7⟩:=iO cL.rows.choose_spec.2.1);(obtain⟨ey,eE,rfl,f8⟩:=iO cL.kids);replace cL:=J cL;replace eI:=J eI))
  all_goals go_wp2_with fail
  all_goals go_meet
  ·exact⟨_,ex,ey,_,eA,_,eE,rfl,J ⟨bs.o.alloc bs.o.size _,bs.o.size,ah.new _ _ _,(cL.o.more (by first|exact aa _|(simp<;>omega))).ev ((Ev.refl r hu).az _)⟩⟩
  ·have hH:=db.o;exact⟨_,ex,ey,_,eA,_,eE,rfl,J ⟨kZ bs.o (aa _) _ _ _,aa _,fZ.own ⟨_,_,_,hH⟩ _ _ _,(cL.o.more (by first|exact aa _|(simp<;>omega))).only (kK (R.refl (λk=>k=m.heap.size) hu) rfl _ _ _) λk l=>by subst l;exact⟨_,_,hH,by decide,by decide,by decide⟩⟩⟩
 case rest=>
  obtain⟨gw,ex,ey,gx,eA,gy,eE,rfl,j1⟩:=hcut;obtain⟨eJ,lR,ao,bx⟩:=j1.o;clear j1 hG et a0 hZ id ie ii im u1 hb;obtain⟨X,fl⟩:=I (aU a gs b);rw[<-fl]at ao bx;have eK:Ev F w r wc:=br.o.below eJ;have f9:ar wc r N st:=cK.o.below eJ;have f7:gx=X.cells.length:=by
   rcases bx.rows.choose_spec.2.1.2 with⟨cm,v⟩|⟨g,cap,j2,cm,_⟩
   ·injection cm with _ cm _;omega
   ·injection cm with _ cm _
  have f8:gy=X.kids.length:=by
   rcases bx.kids.2 with⟨cm,v⟩|⟨g,cap,j2,cm,_⟩
   ·injection cm with _ cm _;omega
   ·injection cm with _ cm _
  obtain⟨j3,cn⟩:=I (X.leaf);rw[<-cn]at ao;have k2:¬r gw:=λW=>by have:=cK.o.lt _ W;omega
  have fm:=eK.blk ae.o am;have k3:t≠gw:=by have:=br.o.size;omega
  rw[<-cl.o,<-fl]at cB d5 d6 g0 d7 d8;have fn:=J (gQ wc (.agg #[.bool j3,.slice ex gx eA,.slice ey gy eE]) X (by have v:=bx.gS;rw[<-cn]at v;exact v.old λk l=>l.1) cB (by omega));obtain⟨ip,eL⟩:=I (aC X);have kd:508<ip:=by rw[eL];exact d5
  rw[<-eL]at fn;have s1:decide ((ip:Int)<=508)=false:=aD (by omega);have s2:decide (ip<=508)=false:=aD (by omega);have i0:=ao.cell 0;have k4:=ao.cell 1;have k5:=ao.cell 2;refine aR ?_ eJ ao bx fl eK f9 f7 f8 cn fm eL cB d5;clear eJ ao bx fl eK f9 f7 f8 cn fm eL cB d5;intro eJ ao bx fl eK f9 f7 f8 cn fm eL cB d5;refine bz ?_ d6 g0 d7 d8;clear d6 g0 d7 d8;intro d6 g0 d7 d8;go_upto_region 20 with(first|(go_at_call 77;refine fn.o.mono ?_;rintro e eN ⟨rfl,bc⟩;have co:=ao.o.below bc ao.o.lt;have ee:=co.cell 0;have hv:=co.cell 1;have hw:=co.cell 2;replace co:=J co;replace bc:=J bc))
  have cp:Ev F w r eN:=eK.o.below bc.o;have bd:ar eN r N st:=f9.o.below bc.o;have cr:=bx.o.ev (Ev.ag (F:=r) bc.o);have b0:=cp.blk ae.o am;have hI:=J (sy eN (λk=>bF r eN k/\k≠t) (byteOf r eN) (.agg #[.bool j3,.slice ex gx eA,.slice ey gy eE]) X (by have v:=cr.K9 b0;rw[<-cn.o]at v;exact v) (λk l=>l.1.1) (λk l=>l.1.1) (by have v:=cr.wF;rw[<-cn.o]at v;exact v) cB.o (by have:=d6.o;omega) g0.o.1);refine bz ?_ cp bd cr b0;clear cp bd cr b0;intro cp bd cr b0;go_wp2_with fail;go_at_call 159;refine hI.o.mono ?_;rintro e f ⟨k6,k7,eQ,ga,rfl,gb,gd,dc,hd,O⟩;have be:bI (bF r f) f k6 (cd X):=gb.mono λk l=>⟨aN l.1.1 O.size,l.1.2⟩;have bi:bI (λk=>bF r f k/\k≠t) f k7 (dG X):=gd.mono λk l=>⟨⟨aN l.1.1 O.size,l.1.2⟩,l.2⟩;have a6:Rd (byteOf r f) f 1 eQ (dF X).length (bv (dF X)):=dc.FX λk l=>by obtain⟨⟨hM,k8⟩,k9,la⟩:=l;have j4:=la.below O hM;exact⟨⟨j4.lt,k8⟩,k9,j4⟩
  obtain⟨hx,cM⟩:=I ((dF X).length);obtain⟨gz,g1,gA,gB,rfl⟩:=be.box;obtain⟨dd,r1,de,r2,rfl⟩:=bi.box;obtain⟨gC,dj⟩:=I ((cd X).leaf);obtain⟨dk,dl⟩:=I ((dG X).leaf);obtain⟨gO,ge⟩:=I ((cd X).cells.length);obtain⟨dp,gf⟩:=I ((dG X).cells.length);obtain⟨gR,gg⟩:=I ((cd X).kids.length);obtain⟨ds,gh⟩:=I ((dG X).kids.length);rw[<-dj,<-ge,<-gg]at be⊢;rw[<-dl,<-gf,<-gh]at bi⊢;rw[<-cM]at a6 hd⊢;obtain⟨bB,bA⟩:=I ((f.alloc (.cells #[.bool gC,.slice gz gO g1,.slice gA gR gB] 129)).alloc (.cells #[.bool dk,.slice dd dp r1,.slice de ds r2] 129));have ab:Ev r f r bB:=by rw[bA];exact((Ev.refl r f).az _).az _
  have cs:Ev F w r f:=cp.o.below O;have E:Ev F w r bB:=cs.trans ab;have x:ah bB f.heap.size 129 #[.bool gC,.slice gz gO g1,.slice gA gR gB]:=by rw[bA];exact(ah.new f 129 _).alloc _
  have G:ah bB (f.heap.size+1) 129 #[.bool dk,.slice dd dp r1,.slice de ds r2]:=by rw[bA];have q:=ah.new (f.alloc (.cells #[.bool gC,.slice gz gO g1,.slice gA gR gB] 129)) 129 #[.bool dk,.slice dd dp r1,.slice de ds r2];rw[World.size_alloc]at q;exact q
  have an:ar bB r N st:=by rw[bA];exact((bd.o.below O).alloc _).alloc _
  have hA4:=be.ev ab;have gi:bI (λk=>bF r bB k/\k≠t) bB (.agg #[.bool dk,.slice dd dp r1,.slice de ds r2]) (dG X):=bi.keep λk l=>⟨⟨ab.mine l.1,l.2⟩,ab.block l.1⟩;have gj:=a6.xM ab;have fp:¬r f.heap.size:=λW=>by have:=(bd.o.below O).lt _ W;omega
  have he:¬r (f.heap.size+1):=λW=>by have:=(bd.o.below O).lt _ W;omega
  have gl:=a7.o.ev E;have ct:=E.blk ae.o am;have hy:=gl.ic d (by rw[<-cz.o];omega);have v9:=ct.cell 2;have hf:=x.cell 0;have hg:=x.cell 1;have hh:=x.cell 2;have ir:gk<bB.heap.size:=by have:=E.size;omega
  have hi:=J (lp bB.drew r gt N k st an.drew (cY.o.ev E.drew) (aJ n d) (cd X) (.agg #[.bool gC,.slice gz gO g1,.slice gA gR gB]) (hA4.ev ((Ev.refl r bB).drew)) d7.o);rw[<-Q.o]at hy hi;refine aR ?_ bA ab cs E x G an hA4 gi gj gl ct gb;clear bA ab cs E x G an hA4 gi gj gl ct gb;intro bA ab cs E x G an hA4 gi gj gl ct gb;refine aR ?_ gd be bi dc a6 O cM dj dl ge gf gg gh;clear gd be bi dc a6 O cM dj dl ge gf gg gh;intro gd be bi dc a6 O cM dj dl ge gf gg gh;clear i0 k4 k5 fn hI ee hv hw;go_upto_region 21 with(fail)
  rw[<-bA.o];go_cut [18] (λj5 gv=>j5=.int .i64 0/\Hid (∃y,ar gv y N (aY st a9 (cd X))/\Ev r bB y gv))
  case first=>
   go_region_held3 (λw'=>w'.cell? ⟨t,2,none⟩=some (.slice (some ⟨gk,0,none⟩) K e1)/\w'.cell? ⟨gk,d,none⟩=some (.int .i64 (a9:Int))/\w'.cell? ⟨f.heap.size,0,none⟩=some (.bool gC)/\w'.cell? ⟨f.heap.size,1,none⟩=some (.slice gz gO g1)/\w'.cell? ⟨f.heap.size,2,none⟩=some (.slice gA gR gB)) (first|exact⟨v9,hy,hf,hg,hh⟩|exact hj.o) (first
    |(go_at_call 103;refine hi.o.mono ?_;rintro e H ⟨rfl,y,P,s⟩;have hj:=J (by have j6:=E.o.new am hE;have ka:=E.o.new g3 g4;exact⟨(s.cell (p:=⟨t,2,none⟩) ⟨ct.o.lt,j6⟩).trans v9,(s.cell (p:=⟨gk,d,none⟩) ⟨ir,ka⟩).trans hy,(s.cell (p:=⟨f.heap.size,0,none⟩) ⟨x.o.lt,fp⟩).trans hf,(s.cell (p:=⟨f.heap.size,1,none⟩) ⟨x.o.lt,fp⟩).trans hg,(s.cell (p:=⟨f.heap.size,2,none⟩) ⟨x.o.lt,fp⟩).trans hh⟩:H.cell? ⟨t,2,none⟩=some (.slice (some ⟨gk,0,none⟩) K e1)/\H.cell? ⟨gk,d,none⟩=some (.int .i64 (a9:Int))/\H.cell? ⟨f.heap.size,0,none⟩=some (.bool gC)/\H.cell? ⟨f.heap.size,1,none⟩=some (.slice gz gO g1)/\H.cell? ⟨f.heap.size,2,none⟩=some (.slice gA gR gB));replace P:=J P;replace s:=J s))
   all_goals go_wp2_with fail
   all_goals go_meet
   all_goals exact⟨rfl,J ⟨y,P.o,(Ev.refl r bB).drew.trans s.o⟩⟩
  case rest=>
   obtain⟨rfl,hk⟩:=hcut;obtain⟨y,P,s⟩:=hk.o;obtain⟨H,fr⟩:=I (wc);rw[<-fr]at P s⊢;replace fr:=J fr;clear hk;have A:Ev F w y H:=E.o.trans s;have ap:=a7.o.ev A;have L:=A.blk ae.o am;have b1:=A.new am hE;have b2:=s.blk G.o he;have dt:bI (λk=>bF y H k/\k≠t) H (.agg #[.bool dk,.slice dd dp r1,.slice de ds r2]) (dG X):=gi.o.keep λk l=>⟨⟨s.mine l.1,l.2⟩,s.block l.1⟩;have du:=gj.o.xM s;have hl:=ap.ic (d+1) (by rw[<-cz.o];omega);rw[<-S.o]at hl;obtain⟨fs,cP,eR,cS⟩:=ap.rows;rw[<-e3.o]at eR;have hm:=cS.one cP;have cV:=ap.kids;rw[<-cz.o]at cV;have hJ:=J (nY H (some ⟨e2,0,none⟩) M hN fs.flatten (Reads.fP eR) hm (by omega));have gm:gk<H.heap.size:=by have:=A.size;omega
   have is:gk≠t:=aI cV L (by decide) gk rfl;have it:f.heap.size+1≠t:=by have:=cs.o.size;omega
   have iu:gt≠t:=ah.iH (cY.o.ev A).blk L (by decide);have ke:=L.lt;have v1:=L.cell 1;have lb:=L.frozen 1;have cw:=cY.o.ev A;refine aR ?_ cw P s A ap L b2 dt du cP eR cS cV;clear cw P s A ap L b2 dt du cP eR cS cV;intro cw P s A ap L b2 dt du cP eR cS cV;replace hm:Hid _:=J hm;clear v9 hy hf hg hh hi;go_upto_region 25 with(first
    |(go_at_call 163;refine hJ.o.mono ?_;rintro e hn ⟨l0,rfl,cx,dv⟩;have bj:=L.o.below dv L.o.lt;(obtain⟨T,gn,rfl,kh,ki⟩:=cx.form (by omega));have lc:=bj.cell 1;have le:=bj.frozen 1;replace cx:=J cx;replace dv:=J dv;replace bj:=J bj))
   obtain⟨cX,a1⟩:=I (hn.setCell ⟨t,1,none⟩ (.slice (some ⟨T,0,none⟩) M gn));rw[<-a1];have dy:R (λk=>k=t) H cX:=by have v:R (λk=>k=t) H hn:=R.ag dv.o;rw[a1];exact v.setCell (p:=⟨t,1,none⟩) (λ_=>rfl) _
   have bl:ah cX t 129 #[.bool km,.slice (some ⟨T,0,none⟩) M gn,.slice (some ⟨gk,0,none⟩) K e1]:=by rw[a1];exact bj.o.aK 1 _
   have ac:cX.ownsRow H.heap.size 122 4 (.slice (some ⟨T,0,none⟩) M gn) M fs.flatten:=by rw[a1];exact((R.refl (λk=>k=t) hn).setCell (p:=⟨t,1,none⟩) (λ_=>rfl) _).row cx.o (aI cx.o bj.o (by decide))
   have hz:T≠t:=aI ac bl (by decide) T rfl;have D:R (λk=>k=t) H (cX.setCell ⟨T,d*4,none⟩ (.slice eQ hx ga)):=dy.setCell (p:=⟨T,d*4,none⟩) (λv=>absurd v (by simp<;>omega)) _;have a2:=bl.far (p:=⟨T,d*4,none⟩) (Ne.symm hz) (.slice eQ hx ga);have bm:=lu (j:=d*4) ac (.slice eQ hx ga);rw[<-wJ _ (cS.o.four cP.o)]at bm;obtain⟨old,iv⟩:∃u,cX.cell? ⟨T,d*4,none⟩=some u:=by
    have ea:d*4<fs.flatten.length:=by have:=ac.1;omega
    have v:=ac.cells (g:=T) rfl (d*4) _ (ak ea);rw[Addr.add_lit,Nat.zero_add]at v;exact⟨_,v⟩
   have kb:=World.ownsRow.frozenAt ac (d*4);have u1:=bl.cell 1;obtain⟨a3,e0⟩:=I (cX.setCell ⟨T,d*4,none⟩ (.slice eQ hx ga));rw[<-e0]at D a2 bm;have dT:ar a3 y N (aY st a9 (cd X)):=P.o.only D λk l e=>b1 (by rw[<-e];exact l);have d0:aL a3 y gt N k:=⟨D.blk cw.o.blk iu,cw.o.o⟩;have d1:bI (bF y a3) a3 (.agg #[.bool dk,.slice dd dp r1,.slice de ds r2]) (dG X):=dt.o.keep λk l=>⟨⟨aN l.1.1 D.size,l.1.2⟩,D.block k l.1.1 l.2⟩;have ad:=D.blk b2.o it;have hK:a3.cell? ⟨gk,d+1,none⟩=some (.int .i64 (c2:Int)):=(World.cell?_of_block (D.block gk gm is)).trans hl;have hL:=a2.cell 2;have ee:=ad.cell 0;have hv:=ad.cell 1;have hw:=ad.cell 2;have d2:bC y a3 0 (.slice (some ⟨T,0,none⟩) M gn) (.slice (some ⟨gk,0,none⟩) K e1) ⟨n.leaf,fq n.cells d (dF X),n.kids⟩:=yB cP.o cS.o e3.o cz.o D L.o P.o.lt bm cV.o ap.o.kF du.o (by rw[<-cM.o];exact hd) cM.o;have ho:=J (lp a3.drew y gt N k (aY st a9 (cd X)) dT.drew (d0.ev ((Ev.refl y a3).drew)) (aJ n (d+1)) (dG X) (.agg #[.bool dk,.slice dd dp r1,.slice de ds r2]) (d1.ev ((Ev.refl y a3).drew)) (by have v:=d8.o;rw[<-Q.o]at v;exact v));rw[<-S.o]at ho;have d3:f.heap.size+1<a3.heap.size:=ad.lt;have d4:¬y (f.heap.size+1):=s.o.new he G.o.lt;have hp:¬y gk:=A.o.new g3 g4;have ix:Hid (∀V cy,ar V cy N (aY (aY st a9 (cd X)) c2 (dG X))->Ev y a3.drew cy V->lN F w N t (aY (aY st (aJ n d) (cd (aU a (aS n.cells d) b))) (aJ n (d+1)) (dG (aU a (aS n.cells d) b))) ⟨n.leaf,fq n.cells d (dF (aU a (aS n.cells d) b)),n.kids⟩ (.returned (.int .i64 0)) V):=J (by
    intro V cy bp hA;have z:Ev y a3 cy V:=(Ev.refl y a3).drew.trans hA;have b5:R (λk=>F k\/k=t) w a3:=(A.o.only.mono λk _ l=>.inl l).trans D λk _ l=>.inr l;have hq:=d2.ev z;rw[fl.o,cl.o]at hq;refine⟨rfl,cy,0,_,_,?_,?_,λk l=>?_,hq,?_,z.new b1 a2.lt⟩
    ·rw[Q.o,S.o,fl.o,cl.o]at bp;exact bp
    ·exact b5.trans z.only λk l1 l=>(A.o.grow k l).elim .inl (λv=>absurd v (by omega))
    ·rcases z.grow k l with v|v
     ·exact A.o.grow k v
     ·exact .inr (aO b5.size v)
    ·rw[<-d9.o];exact z.blk a2 b1)
   refine gI ?_ e0 a1 dy bl ac D bm dT d0 d1 d2;clear e0 a1 dy bl ac D bm dT d0 d1 d2;intro e0 a1 dy bl ac D bm dT d0 d1 d2;have hB:=a2.lt;have hC:gk<a3.heap.size:=aN gm D.o.size;replace a2:=J a2;replace ad:=J ad;clear hJ lc le v1 lb hl;go_upto_region 26 with(fail)
   rw[<-e0.o];clear u1 iv kb;have kc:IntKind.i64.wrap ((d:Int)+1)=(d:Int)+1:=IntWalk.i64_in _ (by omega);have lf:(0:Int)<=(d:Int)+1:=by clear kc;omega
   go_region_held3 (λw'=>w'.cell? ⟨t,2,none⟩=some (.slice (some ⟨gk,0,none⟩) K e1)/\w'.cell? ⟨gk,d+1,none⟩=some (.int .i64 (c2:Int))/\w'.cell? ⟨f.heap.size+1,0,none⟩=some (.bool dk)/\w'.cell? ⟨f.heap.size+1,1,none⟩=some (.slice dd dp r1)/\w'.cell? ⟨f.heap.size+1,2,none⟩=some (.slice de ds r2)) (first|exact⟨hL,hK,ee,hv,hw⟩|exact hj.o) (first
    |(go_at_call 103;refine ho.o.mono ?_;rintro e V ⟨rfl,cy,bp,z⟩;have hj:Hid (V.cell? ⟨t,2,none⟩=some (.slice (some ⟨gk,0,none⟩) K e1)/\V.cell? ⟨gk,d+1,none⟩=some (.int .i64 (c2:Int))/\V.cell? ⟨f.heap.size+1,0,none⟩=some (.bool dk)/\V.cell? ⟨f.heap.size+1,1,none⟩=some (.slice dd dp r1)/\V.cell? ⟨f.heap.size+1,2,none⟩=some (.slice de ds r2)):=J ⟨(z.cell (p:=⟨t,2,none⟩) ⟨hB,b1⟩).trans hL,(z.cell (p:=⟨gk,d+1,none⟩) ⟨hC,hp⟩).trans hK,(z.cell (p:=⟨f.heap.size+1,0,none⟩) ⟨d3,d4⟩).trans ee,(z.cell (p:=⟨f.heap.size+1,1,none⟩) ⟨d3,d4⟩).trans hv,(z.cell (p:=⟨f.heap.size+1,2,none⟩) ⟨d3,d4⟩).trans hw⟩;have lg:=J (ix.o V cy bp z);replace bp:=J bp;replace z:=J z))
   all_goals
    go_wp2_with fail;go_ret;exact lg.o
theorem nQ.ok{st st':aB}{n m:aj}{i:Nat}(h:nQ st n i st' m)(d:st.ok):st'.ok:=by
 cases h with
 |stays c _ e f h=>exact d
 |joins c a b _ k e f h o p q r g s t=>exact(d.save s).freed _ t
 |parts c a b x _ k e f h o p q r g v u y z A j l=>exact(d.save j).save l
theorem Gb(w:World)(F:Nat->Prop)(gt e k:Nat)(st st':aB)(h:ar w F e st)(r:aL w F gt e k)(s:st.ok)(d B:Nat)(cv kv:Value)(n D:aj)(t:bC F w B cv kv n)(u:ah w d 129 #[.bool n.leaf,cv,kv]) (f:¬F d)(i:Nat) (v:n.kids.length<=65536) (q:n.cells.length<=65536) (M:nQ st n i st' D):Calls Tryz.prog 107 #[.pointer (some ⟨gt,0,none⟩),.pointer (some ⟨d,0,none⟩),.int .i64 (i:Int)] w (lN F w e d st' D):=by
 cases M with
 |stays c _ g j l=>exact AO w F gt e k st h r s d B cv kv n c t u f i g v j l
 |joins c a b _ y g j l z A m o p N O=>exact AP w F gt e k st h r s d B cv kv n c a b t u f i y g v j l z A m o p q N O
 |parts c a b x _ y g j l z A m o p P E G H Q K L=>
  subst P
  exact AQ w F gt e k st h r s d B cv kv n c a b t u f i y g v j l z A m o p q E G H Q K L
theorem Gc(w:World)(F:Nat->Prop)(gt l k:Nat)(st:aB)(h:ar w F l st)(q:aL w F gt l k)(r no:Nat)(n:aj)(j:ah w r 184 #[.slice none 0 0,.int .i64 (no:Int)]) (M:¬F r) (s:bS st no n) (c:n.cells≠[]):Calls Tryz.prog 62 #[.pointer (some ⟨gt,0,none⟩),.slice (some ⟨r,0,none⟩) 1 1] w (cG F w l st (.int .i64 0)):=by
 have x:=J (dz w F gt l k st h q no n s);have O:=ah.lt j;have p0:=j.cell 0;have p1:w.cell? ⟨r,1,none⟩=some (.int .i64 (no:Int)):=j.cell 1;obtain⟨N,t⟩:=I (n.cells.length);have y:(0:Int)<(N:Int):=by have:n.cells.length≠0:=λe=>c (bT e);omega
 have P:decide ((0:Int)<(N:Int))=true:=aV y;have Q:decide (0<N)=true:=aV (by omega);obtain⟨K,u⟩:=I (n.kids.length);obtain⟨z,d⟩:=I (n.leaf);refine dS ?_ h q s c j u t d;clear h q s c j u t d;intro h q s c j u t d;go_enter Tryz.func62,Tryz.ntmps62;go_wp2_with fail;go_at_call 78;refine x.o.mono ?_;rintro e m ⟨L,cv,kv,T,rfl,f,g,p,S,b⟩;obtain⟨A,D,rfl⟩:=aE b.kids;obtain⟨E,G,rfl⟩:=aE b.rows.choose_spec.2.1;rw[<-t.o,<-u.o,<-d.o];have v:Hid (∀W,Below m.heap.size m W->cG F w l st (.int .i64 0) (.returned (.int .i64 0)) W):=J λW H=>⟨rfl,L,f.below H,g.below H⟩;have i:=(Below.refl m.heap.size m).alloc (aa _) (.cells #[.bool z,.slice E N G,.slice A K D] 129);have a:=ah.new m 129 #[.bool z,.slice E N G,.slice A K D];have U:=a.cell 0;have V:=a.cell 1;have X:=a.cell 2;refine dZ ?_ a i b p f g;clear a i b p f g;intro a i b p f g;go_wp2_with fail;go_ret;exact v.o _ i.o
theorem tZ(w:World)(F:Nat->Prop)(gt a k:Nat)(st:aB)(h:ar w F a st)(r:aL w F gt a k)(ad:k<8)(S:st.ok)(T no:Nat)(n:aj)(E:ah w T 184 #[.slice none 0 0,.int .i64 (no:Int)]) (a9:¬F T) (G:bS st no n) (N:n.cells=[]) (U:n.leaf=true) (X:0<st.many):Calls Tryz.prog 62 #[.pointer (some ⟨gt,0,none⟩),.slice (some ⟨T,0,none⟩) 1 1] w (cG F w a (eO (bo st k 0) no) (.int .i64 0)):=by
 have ae:=J (dz w F gt a k st h r no n G);have ba:=ah.lt E;have p0:=E.cell 0;have p1:w.cell? ⟨T,1,none⟩=some (.int .i64 (no:Int)):=E.cell 1;obtain⟨j,f⟩:∃j:Nat,j=0:=⟨_,rfl⟩;have u:n.leaf=false->n.kids.length=1:=λV=>by rw[G.2.1.eY V,N];rfl
 have s:=G.1;rw[<-f]at X;refine dZ ?_ h r S G E f;clear h r S G E f;intro h r S G E f;replace u:Hid _:=J u;replace s:=J s;go_enter Tryz.func62,Tryz.ntmps62;go_wp2_with fail;go_at_call 78;refine ae.o.mono ?_;rintro e Y ⟨W,cv,kv,a4,rfl,v,x,y,bb,z⟩;have l:bC W Y a4 cv kv n:=z.sB y;have A:n.cells.length=0:=by rw[N];rfl
 obtain⟨af,al,rfl⟩:=aE l.kids;obtain⟨K,Z⟩:=I (n.kids.length);rw[<-Z];replace Z:=J Z;obtain⟨am,an,rfl⟩:=aE l.rows.choose_spec.2.1;rw[U,A];refine bf ?_ N U A;clear N U A;intro N U A;obtain⟨H,c⟩:=I (Y.alloc (.cells #[.bool true,.slice am 0 an,.slice af K al] 129));have m:Ev F w W H:=by rw[c];exact x.az _
 have D:ar H W a st:=by rw[c];exact v.alloc _
 have p:=r.o.ev m;have g:ah H Y.heap.size 129 #[.bool true,.slice am 0 an,.slice af K al]:=by rw[c];exact ah.new _ _ _
 have a5:=g.cell 0;have a6:=g.cell 1;have a7:=g.cell 2;have ao:H.cell? ⟨gt,0,none⟩=some (.pointer (some ⟨a,0,none⟩)):=p.blk.cell 0;have ap:H.cell? ⟨gt,1,none⟩=some (.int .i64 (k:Int)):=p.blk.cell 1;have O:(j:Int)=0:=by rw[f.o];rfl
 have P:=J (jv H.drew W a st D.drew k j ad X);rw[O]at P;replace O:=J O;have ab:Hid (∀L M,ar L M a (eO (bo st k j) no)->Ev F w M L->cG F w a (eO (bo st k 0) no) (.int .i64 0) (.returned (.int .i64 0)) L):=J λL M i q=>⟨rfl,M,by rw[f.o]at i;exact i,q⟩;refine dr ?_ g m D p l z y v x c;clear g m D p l z y v x c;intro g m D p l z y v x c;go_upto_region 8 with(fail)
 rw[<-c.o];go_upto_region 13 with(fail)
 go_cut [11] (λv11 a0=>v11=.int .i64 0/\Hid (∃t,ar a0 t a (bo st k j)/\Ev F w t a0))
 case first=>
  go_region_held3 (λw'=>w'.cell? ⟨gt,0,none⟩=some (.pointer (some ⟨a,0,none⟩))/\w'.cell? ⟨gt,1,none⟩=some (.int .i64 (k:Int))) (first|exact⟨ao,ap⟩|exact a1.o) (first
   |(go_at_call 57;refine P.o.mono ?_;rintro e ac ⟨rfl,t,d,b⟩;have Q:=J (m.o.drew.trans b:Ev F w t ac);have a1:=J (by have V:=r.o.ev Q.o;exact⟨V.blk.cell 0,V.blk.cell 1⟩:ac.cell? ⟨gt,0,none⟩=some (.pointer (some ⟨a,0,none⟩))/\ac.cell? ⟨gt,1,none⟩=some (.int .i64 (k:Int)));replace d:=J d;replace b:=J b))
  all_goals go_wp2_with fail
  all_goals go_meet
  all_goals exact⟨rfl,J ⟨t,d.o,Q.o⟩⟩
 case rest=>obtain⟨rfl,a2⟩:=hcut;obtain⟨t,d,b⟩:=a2.o;have t4:wc.cell? ⟨gt,0,none⟩=some (.pointer (some ⟨a,0,none⟩)):=(r.o.ev b).blk.cell 0;have a3:=J (o7 wc t a (bo st k j) d no s.o (S.o.set k j X).free);replace d:=J d;replace b:=J b;clear a2 P a5 a6 a7 ao ap;go_wp2_with(first|(go_at_call 112;refine a3.o.mono ?_;rintro e L ⟨rfl,M,i,q⟩;have a8:=J (ab.o L M i (b.o.trans q));replace i:=J i;replace q:=J q));go_ret;exact a8.o
theorem sD(w:World)(F:Nat->Prop)(gt b k:Nat)(st:aB)(h:ar w F b st)(t:aL w F gt b k)(Z:k<8)(P:st.ok)(Q no:Nat)(n:aj)(H:ah w Q 184 #[.slice none 0 0,.int .i64 (no:Int)]) (a7:¬F Q) (K:bS st no n) (N:n.cells=[]) (m:n.leaf=false) (V:(aJ n 0)<st.many):Calls Tryz.prog 62 #[.pointer (some ⟨gt,0,none⟩),.slice (some ⟨Q,0,none⟩) 1 1] w (cG F w b (eO (bo st k (aJ n 0)) no) (.int .i64 0)):=by
 have ab:=J (dz w F gt b k st h t no n K);have a8:=ah.lt H;have p0:=H.cell 0;have p1:w.cell? ⟨Q,1,none⟩=some (.int .i64 (no:Int)):=H.cell 1;obtain⟨p,g⟩:∃p:Nat,p=(aJ n 0):=⟨_,rfl⟩;have a:n.leaf=false->n.kids.length=1:=λS=>by rw[K.2.1.eY S,N];rfl
 have u:=K.1;rw[<-g]at V;refine dZ ?_ h t P K H g;clear h t P K H g;intro h t P K H g;replace a:Hid _:=J a;replace u:=J u;go_enter Tryz.func62,Tryz.ntmps62;go_wp2_with fail;go_at_call 78;refine ab.o.mono ?_;rintro e W ⟨T,cv,kv,a2,rfl,y,z,A,a9,D⟩;have i:bC T W a2 cv kv n:=D.sB A;have E:n.cells.length=0:=by rw[N];rfl
 obtain⟨gk,ac,rfl,ad,_,_,_⟩:=i.j7 (by rw[a.o m];omega);have ae:=i.ic 0 (by rw[a.o m];omega);rw[a.o m]at ad;rw[a.o m];rw[<-g.o]at ae;obtain⟨af,al,rfl⟩:=aE i.rows.choose_spec.2.1;rw[m,E];refine bf ?_ N m E;clear N m E;intro N m E;obtain⟨v,c⟩:=I (W.alloc (.cells #[.bool false,.slice af 0 al,.slice (some ⟨gk,0,none⟩) 1 ac] 129));have q:Ev F w T v:=by rw[c];exact z.az _
 have G:ar v T b st:=by rw[c];exact y.alloc _
 have r:=t.o.ev q;have j:ah v W.heap.size 129 #[.bool false,.slice af 0 al,.slice (some ⟨gk,0,none⟩) 1 ac]:=by rw[c];exact ah.new _ _ _
 have a3:=j.cell 0;have a4:=j.cell 1;have a5:=j.cell 2;have am:v.cell? ⟨gt,0,none⟩=some (.pointer (some ⟨b,0,none⟩)):=r.blk.cell 0;have an:v.cell? ⟨gt,1,none⟩=some (.int .i64 (k:Int)):=r.blk.cell 1;have ba:v.cell? ⟨gk,0,none⟩=some (.int .i64 (p:Int)):=by rw[c,World.cell?_alloc_lt _ _ _ (by assumption)];exact ae
 have U:=J (jv v.drew T b st G.drew k p Z V);have X:Hid (∀L M,ar L M b (eO (bo st k p) no)->Ev F w M L->cG F w b (eO (bo st k (aJ n 0)) no) (.int .i64 0) (.returned (.int .i64 0)) L):=J λL M l s=>⟨rfl,M,by rw[g.o]at l;exact l,s⟩;refine dr ?_ j q G r i D A y z c;clear j q G r i D A y z c;intro j q G r i D A y z c;go_upto_region 8 with(fail)
 rw[<-c.o];go_upto_region 13 with(fail)
 go_cut [11] (λv11 ao=>v11=.int .i64 0/\Hid (∃x,ar ao x b (bo st k p)/\Ev F w x ao))
 case first=>
  go_region_held3 (λw'=>w'.cell? ⟨gt,0,none⟩=some (.pointer (some ⟨b,0,none⟩))/\w'.cell? ⟨gt,1,none⟩=some (.int .i64 (k:Int))) (first|exact⟨am,an⟩|exact ap.o) (first
   |(go_at_call 57;refine U.o.mono ?_;rintro e Y ⟨rfl,x,f,d⟩;have O:=J (q.o.drew.trans d:Ev F w x Y);have ap:=J (by have S:=t.o.ev O.o;exact⟨S.blk.cell 0,S.blk.cell 1⟩:Y.cell? ⟨gt,0,none⟩=some (.pointer (some ⟨b,0,none⟩))/\Y.cell? ⟨gt,1,none⟩=some (.int .i64 (k:Int)));replace f:=J f;replace d:=J d))
  all_goals go_wp2_with fail
  all_goals go_meet
  all_goals exact⟨rfl,J ⟨x,f.o,O.o⟩⟩
 case rest=>obtain⟨rfl,a0⟩:=hcut;obtain⟨x,f,d⟩:=a0.o;have t4:wc.cell? ⟨gt,0,none⟩=some (.pointer (some ⟨b,0,none⟩)):=(t.o.ev d).blk.cell 0;have a1:=J (o7 wc x b (bo st k p) f no u.o (P.o.set k p V).free);replace f:=J f;replace d:=J d;clear a0 U a3 a4 a5 am an;go_wp2_with(first|(go_at_call 112;refine a1.o.mono ?_;rintro e L ⟨rfl,M,l,s⟩;have a6:=J (X.o L M l (d.o.trans s));replace l:=J l;replace s:=J s));go_ret;exact a6.o
theorem Gd{F:Nat->Prop}{w:World}{gc a no e b:Nat}{d:Option Addr}{key:List UInt8}(i:ah w gc 122 #[.slice d key.length b,.slice none 0 0,.int .i64 0,.int .i64 0]) (k:ah w a 3 #[.int .i64 (no:Int),.int .i64 (e:Int)]) (l:¬F gc) (m:¬F a)(r:Rd (byteOf F w) w 1 d key.length (bv key)) (o:key.length<=b):bI (bF F w) w (.agg #[.bool false,.slice (some ⟨gc,0,none⟩) 1 1,.slice (some ⟨a,0,none⟩) 2 2]) ⟨false,[⟨key,[],0,0⟩],[no,e]⟩:=by
 refine⟨some ⟨gc,0,none⟩,1,some ⟨a,0,none⟩,2,rfl,aa _,aa _,⟨[[.slice d key.length b,.slice none 0 0,.int .i64 0,.int .i64 0]],rfl,⟨rfl,λ_=>⟨_,rfl,⟨i.lt,l⟩,λj u f=>?_⟩⟩,λq vs c g p=>?_⟩,⟨rfl,λ_=>⟨_,rfl,⟨k.lt,m⟩,λj u f=>?_⟩⟩⟩
 ·rw[Addr.add_lit,Nat.zero_add,i.cell];simpa using f
 ·obtain rfl:q=0:=by have:=(ay.1 g).1;simp at this;exact this
  simp at g p;subst g;subst p;exact⟨d,b,none,0,rfl,o,aa _,r.FX λj s=>s.1,Rd.none_⟩
 ·rw[Addr.add_lit,Nat.zero_add,k.cell];simpa[encI]using f
theorem Js(w:World)(F:Nat->Prop)(gt g k:Nat)(st:aB)(h:ar w F g st)(D:aL w F gt g k)(a1:k<8)(H:st.ok)(d no b t:Nat)(u:Option Addr)(key:List UInt8)(y:ah w d 184 #[.slice none 0 0,.int .i64 (no:Int),.slice u key.length t,.int .i64 (b:Int)]) (K:¬F d)(Z:Rd (byteOf F w) w 1 u key.length (bv key)) (a2:key.length<=t) (L:dU st) (ab:dh (aW st) (aG st) ⟨false,[⟨key,[],0,0⟩],[no,b]⟩):Calls Tryz.prog 62 #[.pointer (some ⟨gt,0,none⟩),.slice (some ⟨d,0,none⟩) 2 2] w (cG F w g (bo (aY (aW st) (aG st) ⟨false,[⟨key,[],0,0⟩],[no,b]⟩) k (aG st)) (.int .i64 0)):=by
 have p1:w.cell? ⟨d,1,none⟩=some (.int .i64 (no:Int)):=y.cell 1;have am:w.cell? ⟨d,3,none⟩=some (.int .i64 (b:Int)):=y.cell 3;have p2:w.cell? ⟨d,2,none⟩=some (.slice u key.length t):=y.cell 2;obtain⟨U,M⟩:=I (key.length);rw[<-M]at p2;obtain⟨E,j⟩:=I (aG st);obtain⟨bg,i⟩:=I (aY (aW st) E ⟨false,[⟨key,[],0,0⟩],[no,b]⟩);have N:=y.lt;have m:=h.lt;have O:Hid (∀f gc P,Ev F w F f->ar f F g st->ah f gc 122 #[.slice u U t,.slice none 0 0,.int .i64 0,.int .i64 0]->ah f P 3 #[.int .i64 (no:Int),.int .i64 (b:Int)]->w.heap.size<=gc->w.heap.size<=P->
  Calls Tryz.prog 56 #[.pointer (some ⟨gt,0,none⟩),.agg #[.bool false,.slice (some ⟨gc,0,none⟩) 1 1,.slice (some ⟨P,0,none⟩) 2 2]] f (cG F f g bg (.tuple #[.int .i64 (E:Int),.int .i64 0]))):=J (by
  intro f gc P G a8 Q a9 bd be;rw[M]at Q;have a3:¬F gc:=λan=>by have:=m _ an;omega
  have a4:¬F P:=λan=>by have:=m _ an;omega
  have ac:=oN f F gt g k st a8 (D.ev G) ⟨false,[⟨key,[],0,0⟩],[no,b]⟩ _ (Gd Q a9 a3 a4 (Z.xM G) a2) L H.free ab;rw[i,j];exact ac)
 have ao:E<bg.many:=by rw[i,j];exact((H.alloc L).2).2
 have ap:Hid (∀r z,ar r z g (bo bg k E)->Ev F w z r->cG F w g (bo (aY (aW st) (aG st) ⟨false,[⟨key,[],0,0⟩],[no,b]⟩) k (aG st)) (.int .i64 0) (.returned (.int .i64 0)) r):=J λr z l v=>⟨rfl,z,by rw[i,j]at l;exact l,v⟩;obtain⟨S,T⟩:=I (Obj.cells #[.slice u U t,.slice none 0 0,.int .i64 0,.int .i64 0] 122 (0,0));obtain⟨V,W⟩:=I (Obj.cells #[.int .i64 (no:Int),.int .i64 (b:Int)] 3 (0,0));have ad:=J (O.o ((w.alloc S).alloc V).drew w.heap.size (w.heap.size+1) (((Ev.refl F w).az _).az _).drew ((h.alloc _).alloc _).drew (by rw[T];exact(ah.new w _ _).alloc _) (by rw[W];have q:=ah.new (w.alloc S) 3 #[.int .i64 (no:Int),.int .i64 (b:Int)];rw[World.size_alloc]at q;exact q) (aa _) (le_succ _))
 have ae:=J (O.o ((w.alloc V).alloc S).drew (w.heap.size+1) w.heap.size (((Ev.refl F w).az _).az _).drew ((h.alloc _).alloc _).drew (by rw[T];have q:=ah.new (w.alloc V) 122 #[.slice u U t,.slice none 0 0,.int .i64 0,.int .i64 0];rw[World.size_alloc]at q;exact q) (by rw[W];exact(ah.new w _ _).alloc _) (le_succ _) (aa _))
 have af:Hid (Ev F w F ((w.alloc S).alloc V).drew):=J (((Ev.refl F w).az _).az _).drew;have al:Hid (Ev F w F ((w.alloc V).alloc S).drew):=J (((Ev.refl F w).az _).az _).drew;have A:Hid (∀F' f,Ev F w F' f->(f.cell? ⟨d,1,none⟩=some (.int .i64 (no:Int))/\f.cell? ⟨d,2,none⟩=some (.slice u U t)/\f.cell? ⟨d,3,none⟩=some (.int .i64 (b:Int)))):=J λF' f G=>⟨(G.cell (p:=⟨d,1,none⟩) ⟨N,K⟩).trans p1,(G.cell (p:=⟨d,2,none⟩) ⟨N,K⟩).trans p2,(G.cell (p:=⟨d,3,none⟩) ⟨N,K⟩).trans am⟩;subst T;subst W;refine dr ?_ h D H y Z L ab M j i;clear h D H y Z L ab M j i;intro h D H y Z L ab M j i;replace m:Hid _:=J m;clear O;go_enter Tryz.func62,Tryz.ntmps62;go_upto_region 2 with(fail)
 go_cut [5,6] (λv5 v6 a5=>v5=.int .i64 (E:Int)/\v6=.int .i64 0/\Hid (∃s,ar a5 s g bg/\Ev F w s a5))
 case first=>
  go_region_held3 (λw'=>w'.cell? ⟨d,1,none⟩=some (.int .i64 (no:Int))/\w'.cell? ⟨d,2,none⟩=some (.slice u U t)/\w'.cell? ⟨d,3,none⟩=some (.int .i64 (b:Int))) (first|exact⟨p1,p2,am⟩|(with_reducible exact A.o _ _ X.o)|(exact A.o F _ ((Ev.refl F w).az _))|(exact A.o F _ (((Ev.refl F w).az _).az _))|go_keep) (first
   |(go_at_call 56;(with_reducible refine ad.o.mono ?_);rintro e a0 ⟨rfl,s,c,a⟩;have X:=J (af.o.trans a:Ev F w s a0);replace c:=J c;replace a:=J a)
   |(go_at_call 56;(with_reducible refine ae.o.mono ?_);rintro e a0 ⟨rfl,s,c,a⟩;have X:=J (al.o.trans a:Ev F w s a0);replace c:=J c;replace a:=J a))
  all_goals go_wp2_with fail
  all_goals go_meet
  all_goals exact⟨rfl,rfl,J ⟨s,c.o,X.o⟩⟩
 case rest=>
  obtain⟨rfl,rfl,Q⟩:=hcut;obtain⟨s,c,a⟩:=Q.o;have x:=D.o.ev a;have ba:wc.cell? ⟨gt,0,none⟩=some (.pointer (some ⟨g,0,none⟩)):=x.blk.cell 0;have bb:wc.cell? ⟨gt,1,none⟩=some (.int .i64 (k:Int)):=x.blk.cell 1;have a6:=J (jv wc.drew s g bg c.drew k E a1 ao);refine bf ?_ c a x;clear c a x;intro c a x;clear Q ad ae af al A p1 p2 am;go_upto_region 5 with(fail)
  go_region_held3 (λw'=>w'.cell? ⟨gt,0,none⟩=some (.pointer (some ⟨g,0,none⟩))/\w'.cell? ⟨gt,1,none⟩=some (.int .i64 (k:Int))) (first|exact⟨ba,bb⟩|exact a7.o) (first
   |(go_at_call 57;refine a6.o.mono ?_;rintro e r ⟨rfl,z,l,v⟩;have Y:=J (a.o.drew.trans v:Ev F w z r);have a7:=J (by have ac:=D.o.ev Y.o;exact⟨ac.blk.cell 0,ac.blk.cell 1⟩:r.cell? ⟨gt,0,none⟩=some (.pointer (some ⟨g,0,none⟩))/\r.cell? ⟨gt,1,none⟩=some (.int .i64 (k:Int)));have bc:=J (ap.o r z l Y.o);replace l:=J l;replace v:=J v))
  all_goals
   go_wp2_with fail;go_ret;exact bc.o
theorem CB(w:World)(F:Nat->Prop)(gt a k:Nat)(st st':aB)(h:ar w F a st)(f:aL w F gt a k)(e:k<8)(j:st.ok)(b no m:Nat)(l:Option (List UInt8×Nat))(o:mD F w b no m l)(c:¬F b)(u:ue k st no l st'):Calls Tryz.prog 62 #[.pointer (some ⟨gt,0,none⟩),.slice (some ⟨b,0,none⟩) m m] w (cG F w a st' (.int .i64 0)):=by
 cases u with
 |two q v x y=>
  obtain⟨rfl,z,A,d,D,r⟩:=o
  exact Js w F gt a k st h f e j b no q A z v d c D r x y
 |stays n g s=>
  obtain⟨rfl,d⟩:=o
  exact Gc w F gt a k _ h f b no n d c g s
 |less n g t i E=>
  obtain⟨rfl,d⟩:=o
  cases hf:n.leaf with
  |true=>
   have p:=tZ w F gt a k st h f e j b no n d c g t hf (by rw[hf]at i;exact i)
   simpa[hf]using p
  |false=>
   have p:=sD w F gt a k st h f e j b no n d c g t hf (by rw[hf]at i;exact i)
   simpa[hf]using p
def qo(F:Nat->Prop)(w:World)(b c d:Nat)(bg:aB)(a:aj)(e:Ending)(w':World):Prop:=e=.returned (.int .i64 0)/\∃F' B cv kv,ar w' F' b bg/\R (λk=>F k\/d<=k) w w'/\(∀k,F' k->F k\/w.heap.size<=k)/\bC F' w' B cv kv a/\ah w' c 129 #[.bool a.leaf,cv,kv]
theorem yo.sB{F:Nat->Prop}{w:World}{a b c:Nat}{bg:aB}{d:aj}{e:Ending}{w':World}(h:yo F w a b c bg d e w'):qo F w a b c bg d e w':=by obtain⟨f,F',B,cv,kv,g,i,j,k,l⟩:=h;exact⟨f,F',B,cv,kv,g,i,j,k.sB,l⟩
def Kn(f:FuncId)(e:Array Value)(op:Ge)(w:World)(F:Nat->Prop)(j:Nat)(st:aB):Prop:=
 ∀n i g bg k,op st n i g bg k->(g=false->i<=n.cells.length)->bJ n->∀a b c B d cv kv,ar a b j st->Ev F w b a->iw b a B cv kv n->ah a c 129 #[.bool n.leaf,cv,kv]->¬b c->w.heap.size<=d->d<=c->d<=B->B<=a.heap.size->
  Calls Tryz.prog f (#[.pointer (some ⟨c,0,none⟩),.int .i64 (i:Int),.bool g]++e) a (qo b a j c d bg k)
theorem Kn.ev{f:FuncId}{a:Array Value}{op:Ge}{w w':World}{F F':Nat->Prop}{b:Nat}{st:aB}(h:Kn f a op w F b st)(c:Ev F w F' w'):Kn f a op w' F' b st:=λn i d bg e g j k l m o B p cv kv q r s t u v x y z=>h n i d bg e g j k l m o B p cv kv q (c.trans r) s t u (aO c.size v) x y z
theorem Gf(n:aj)(key:List UInt8)(h:(bk n key).2=false):(bk n key).1<=n.cells.length:=by
 unfold bk at h⊢;by_cases a:il n.cells (bL n.cells key) key=true
 ·rw[if_pos a]at h;cases h
 ·rw[if_neg a];exact Sublist.length_le (takeWhile_sublist _)
theorem wK(w:World)(F:Nat->Prop)(gt Q k:Nat)(st:aB)(h:ar w F Q st)(a2:aL w F gt Q k)(no:Nat)(n:aj)(T:bS st no n)(d:n.leaf=true)(bs:Option Addr)(bB:Nat)(key:List UInt8)(U:MB F w bs key.length key)(f:FuncId) (a5:Array Value) (op:Ge) (bg dC:aB) (V:aj) (l:Option (List UInt8×Nat)) (a6:∀args b0,(callFunc f args).run Tryz.prog b0=.ok (.enter f args) b0) (a7:Kn f a5 op w F Q st) (Y:op st n (bk n key).1 (bk n key).2 bg V) (W:bg.ok) (X:rp bg no V dC l):Calls Tryz.prog 58 #[.pointer (some ⟨gt,0,none⟩),.int .i64 (no:Int),.slice bs key.length bB,.func (.func f) #[] a5] w (iN F w Q no dC l):=by
 have Z:=T.2.1;have b1:=J (FI w F gt Q k st h a2 no n T d);have ce:=ah.lt a2.blk;have g:=T.2.1.rise;have p:=T.2.1.many;obtain⟨L,a3⟩:=I (key.length);rw[<-a3]at U⊢;refine bz ?_ h a2 T U;clear h a2 T U;intro h a2 T U;replace a7:Hid _:=J a7;replace X:=J X;replace Y:Hid _:=J Y;replace W:=J W;replace a6:Hid _:=J a6;refine bz ?_ Z a3 g p;clear Z a3 g p;intro Z a3 g p;obtain⟨b9,y⟩:=I (n.leaf);have b2:b9=true:=y.trans d;subst b2;replace y:=J y;replace d:=J d;go_enter Tryz.func58,Tryz.ntmps58;go_wp2_with fail;go_at_call 78;refine b1.o.mono ?_;rintro e x ⟨a4,cv,kv,b3,rfl,z,A,ab,cf,ac⟩;rw[<-y.o];have q:=ac.CA (Nat.min_le_left b3 x.heap.size);obtain⟨a8,ad⟩:=I (min b3 x.heap.size);rw[<-ad]at q;have ae:∀j,a4 j->j<a8:=λj bd=>by have:=ab j bd;have:=z.lt j bd;omega
 have b4:w.heap.size<=a8:=by have:=A.size;omega
 have cg:a8<=x.heap.size:=by omega
 have a:=q.Jl ae;obtain⟨H,M,rfl⟩:=aE a.kids;obtain⟨O,P,rfl⟩:=aE a.rows.choose_spec.2.1;obtain⟨N,be⟩:=I (n.cells.length);obtain⟨K,bi⟩:=I (n.kids.length);rw[<-be,<-bi]at a⊢;refine dr ?_ be bi ac q ab ae ad z A a;clear be bi ac q ab ae ad z A a;intro be bi ac q ab ae ad z A a;go_wp2_with fail;have E:¬a4 x.heap.size:=λca=>by have:=z.o.lt _ ca;omega
 have af:=ah.new x 129 #[.bool true,.slice O N P,.slice H K M];have r:Ev F w a4 (x.alloc (.cells #[.bool true,.slice O N P,.slice H K M] 129)):=A.o.az _;have a9:=J (mB (x.alloc (.cells #[.bool true,.slice O N P,.slice H K M] 129)) (.agg #[.bool true,.slice O N P,.slice H K M]) n (by have s:=(a.o.gS.ev ((Ev.refl a4 x).az (.cells #[.bool true,.slice O N P,.slice H K M] 129))).old λk U=>U.1;rw[<-y.o]at s;exact s) g.o (by have:=p.o;omega) bs bB key (by have s:=(U.o.ev r).rb;rw[a3.o]at s;exact s))
 rw[<-a3.o]at a9;obtain⟨ch,bj⟩:=I ((bk n key).1);obtain⟨S,bl⟩:=I ((bk n key).2);rw[<-bj,<-bl]at a9 Y;replace bj:=J bj;replace bl:=J bl;go_at_call 79;refine a9.o.mono ?_;rintro e bv ⟨rfl,b⟩;have t:=af.below b (by simp);have al:=(z.o.alloc (.cells #[.bool true,.slice O N P,.slice H K M] 129)).below b;have c:=r.below b;have am:iw a4 bv a8 (.slice O N P) (.slice H K M) n:=a.o.only (((R.refl (λ_=>False) x).alloc _).trans (R.ag b) (λ_ _ h=>h)) (λ_ h=>h.elim);have ci:=c.size;have bx:=J (a7.o n ch S bg V Y.o (λe=>by rw[bj.o];exact Gf n key (by rw[<-bl.o];exact e)) Z.o bv a4 x.heap.size a8 w.heap.size (.slice O N P) (.slice H K M) al c am (by rw[<-y.o];exact t) E (aa _) A.o.size b4 (by have:=b.size;simp at this;omega));have bA:=λargs=>a6.o args bv;have co:=t.cell 0;have cp:=t.cell 1;have cr:=t.cell 2;refine dS ?_ t af b al r c am E;clear t af b al r c am E;intro t af b al r c am E;go_wp2_with fail;refine bx.o.mono ?_;rintro e b5 ⟨rfl,b6,cs,cj,ck,an,ao,ap,u,v⟩;have D:Ev F w b6 b5:=⟨c.o.only.trans ao λi ct bm=>by
  rcases bm with bm|bm
  ·rcases c.o.grow i bm with s|s
   ·exact s
   ·omega
  ·omega,λj bd=>by
  rcases ap j bd with s|s
  ·exact c.o.grow j s
  ·exact .inr (by omega)⟩
 have br:=J (wG b5 b6 gt Q k bg dC an (a2.o.ev D) W.o no V l _ u.gS u.wF X.o);clear bA;obtain⟨cw,cx,rfl⟩:=aE u.rows.choose_spec.2.1;obtain⟨cy,cz,rfl⟩:=aE u.kids;obtain⟨cA,a0⟩:=I (V.cells.length);obtain⟨cB,a1⟩:=I (V.kids.length);obtain⟨cl,G⟩:=I (V.leaf);rw[<-a0,<-a1,<-G]at br v;have cD:=v.cell 0;have cE:=v.cell 1;have cH:=v.cell 2;have cm:=D.size;refine ik ?_ a0 a1 G v an ao ap u D;clear a0 a1 G v an ao ap u D;intro a0 a1 G v an ao ap u D;go_wp2_with fail;go_at_call 105;refine br.o.mono ?_;rintro e cb ⟨cc,b7,m,rfl,ba,bb,cn,b8,bc⟩;have bp:Hid (iN F w Q no dC l (.returned (.tuple #[.slice (some ⟨b7,0,none⟩) m m,.int .i64 0])) cb):=J ⟨cc,b7,m,rfl,ba,D.o.trans bb,by omega,b8,bc⟩;replace ba:=J ba;replace bb:=J bb;replace bc:Hid _:=J bc;go_wp2_with fail
 go_ret2
 exact bp.o
theorem AR(w:World)(F:Nat->Prop)(gt G k:Nat)(st:aB)(h:ar w F G st)(X:aL w F gt G k)(no:Nat)(n:aj)(al:bS st no n)(s:n.leaf=false)(bi:Option Addr)(b4:Nat)(key:List UInt8)(Y:MB F w bi key.length key)(Q:(bk n key).1<n.kids.length) (f:FuncId) (bj:Array Value) (bg dC ja:aB) (am:aj) (l:Option (List UInt8×Nat)) (d:∀a r,ar a r G st->aL a r gt G k->Ev F w r a->MB r a bi key.length key->Calls Tryz.prog 58 #[.pointer (some ⟨gt,0,none⟩),.int .i64 (aJ n (bk n key).1:Int),.slice bi key.length b4,.func (.func f) #[] bj] a (iN r a G (aJ n (bk n key).1) bg none))(T:bg.ok) (U:dC.ok) (Z:nQ bg n (bk n key).1 dC am) (V:rp dC no am ja l):Calls Tryz.prog 58 #[.pointer (some ⟨gt,0,none⟩),.int .i64 (no:Int),.slice bi key.length b4,.func (.func f) #[] bj] w (iN F w G no ja l):=by
 have ab:=al.2.1;have b9:=J (dz w F gt G k st h X no n al);have cA:=ah.lt X.blk;have t:=al.2.1.rise;have c:=al.2.1.many;obtain⟨L,bd⟩:=I (key.length);rw[<-bd]at Y d⊢;refine bz ?_ h X al Y;clear h X al Y;intro h X al Y;replace d:Hid _:=J d;refine ik ?_ Z Q V T U ab bd t c;clear Z Q V T U ab bd t c;intro Z Q V T U ab bd t c;obtain⟨co,H⟩:=I (n.leaf);have ca:co=false:=H.trans s;subst ca;replace H:=J H;replace s:=J s;go_enter Tryz.func58,Tryz.ntmps58;go_wp2_with fail;go_at_call 78;refine b9.o.mono ?_;rintro e a ⟨r,cv,kv,cb,rfl,M,O,ap,cB,a0⟩;rw[<-H.o];have u:=a0.CA (Nat.min_le_left cb a.heap.size);obtain⟨bl,a1⟩:=I (min cb a.heap.size);rw[<-a1]at u;have a2:∀j,r j->j<bl:=λj bx=>by have:=ap j bx;have:=M.lt j bx;omega
 have cD:w.heap.size<=bl:=by have:=O.size;omega
 have cE:bl<=a.heap.size:=by omega
 have g:=u.Jl a2;obtain⟨gk,ac,rfl,bm,_,_,cH⟩:=g.sB.j7 (Nat.lt_of_le_of_lt (zero_le _) Q.o);obtain⟨ad,ae,rfl⟩:=aE g.rows.choose_spec.2.1;obtain⟨N,bA⟩:=I (n.cells.length);obtain⟨K,be⟩:=I (n.kids.length);rw[<-bA,<-be]at g⊢;rw[<-be]at Q bm;refine dr ?_ bA be a0 u ap a2 a1 M O g;clear bA be a0 u ap a2 a1 M O g;intro bA be a0 u ap a2 a1 M O g;go_wp2_with fail;have v:¬r a.heap.size:=λcp=>by have:=M.o.lt _ cp;omega
 have a3:=ah.new a 129 #[.bool false,.slice ad N ae,.slice (some ⟨gk,0,none⟩) K ac];have x:Ev F w r (a.alloc (.cells #[.bool false,.slice ad N ae,.slice (some ⟨gk,0,none⟩) K ac] 129)):=O.o.az _;have bp:=J (mB (a.alloc (.cells #[.bool false,.slice ad N ae,.slice (some ⟨gk,0,none⟩) K ac] 129)) (.agg #[.bool false,.slice ad N ae,.slice (some ⟨gk,0,none⟩) K ac]) n (by have y:=(g.o.gS.ev ((Ev.refl r a).az (.cells #[.bool false,.slice ad N ae,.slice (some ⟨gk,0,none⟩) K ac] 129))).old λk Y=>Y.1;rw[<-H.o]at y;exact y) t.o (by have:=c.o;omega) bi b4 key (by have y:=(Y.o.ev x).rb;rw[bd.o]at y;exact y))
 rw[<-bd.o]at bp;obtain⟨b2,bB⟩:=I ((bk n key).1);obtain⟨S,b5⟩:=I ((bk n key).2);rw[<-bB,<-b5]at bp;rw[<-bB]at d Z Q;replace bB:=J bB;replace b5:=J b5;go_at_call 79;refine bp.o.mono ?_;rintro e cc ⟨rfl,z⟩;have p:=a3.below z (by simp);have a4:=(M.o.alloc (.cells #[.bool false,.slice ad N ae,.slice (some ⟨gk,0,none⟩) K ac] 129)).below z;have q:=x.below z;have af:iw r cc bl (.slice ad N ae) (.slice (some ⟨gk,0,none⟩) K ac) n:=g.o.only (((R.refl (λ_=>False) a).alloc _).trans (R.ag z) (λ_ _ h=>h)) (λ_ h=>h.elim);have cK:=q.size;have cr:=af.sB.ic b2 (by rw[<-be.o];exact Q.o);obtain⟨dM,an⟩:=I (aJ n b2);rw[<-an]at cr d;have ce:=J (d.o cc r a4 (X.o.ev q) q (Y.o.ev q));have cL:(b2:Int)<(K:Int):=by have:=Q.o;omega
 have cM:(0:Int)<=(b2:Int):=by omega
 replace bm:=J bm;replace an:=J an;have c2:=p.cell 0;have c3:=p.cell 1;have c4:=p.cell 2;refine dS ?_ p a3 z a4 x q af v;clear p a3 z a4 x q af v;intro p a3 z a4 x q af v;go_wp2_with fail;go_at_call 58;refine ce.o.mono ?_;rintro e cf ⟨cg,c5,m,rfl,a5,A,cP,cS,ch⟩;obtain⟨rfl,br⟩:=ch;have a6:=af.o.sB.ev A;have a7:ah cf a.heap.size 129 #[.bool false,.slice ad N ae,.slice (some ⟨gk,0,none⟩) K ac]:=A.only.blk p.o v.o;refine bX ?_ a7 br a6 a5 A;clear a7 br a6 a5 A;intro a7 br a6 a5 A;go_wp2_with fail;go_loopw [67] (λci cs=>ci=.int .i64 0/\cs=cf) (λ_ _=>0)
 case atStart=>exact⟨rfl,rfl⟩
 case round=>
  obtain⟨rfl,cj⟩:=hrel;subst cj;have b:=q.o.trans A.o;have b6:¬cg a.heap.size:=A.o.new v.o p.o.lt;have ck:=J (Gb wr cg gt G k bg dC a5.o (X.o.ev b) T.o a.heap.size bl _ _ n am a6.o (by rw[<-H.o];exact a7.o) b6 b2 (by have:=ab.o.many;have:=ab.o.eY s.o;omega) (by have:=c.o;omega) Z.o);go_wp2_with fail;go_at_call 107;refine ck.o.mono ?_;rintro e cl ⟨rfl,cm,c6,cV,cX,a8,a9,ba,D,E,ct⟩;have cY:=b.size;have cw:=O.o.size;have P:Ev F w cm cl:=⟨b.only.trans a9 λi Q b0=>by
   rcases b0 with b0|b0
   ·rcases b.grow i b0 with y|y
    ·exact y
    ·omega
   ·omega,λj bx=>by
   rcases ba j bx with y|y
   ·exact b.grow j y
   ·exact .inr (by omega)⟩
  have b3:=J (wG cl cm gt G k dC ja a8 (X.o.ev P) U.o no am l _ D.gS D.wF V.o);obtain⟨c7,c8,rfl⟩:=aE D.rows.choose_spec.2.1;obtain⟨c9,da,rfl⟩:=aE D.kids;obtain⟨db,bb⟩:=I (am.cells.length);obtain⟨dc,bc⟩:=I (am.kids.length);obtain⟨c0,W⟩:=I (am.leaf);rw[<-bb,<-bc,<-W]at b3 E;have dd:=E.cell 0;have de:=E.cell 1;have dj:=E.cell 2;have c1:=P.size;refine dr ?_ bb bc W E a8 a9 ba D P b;clear bb bc W E a8 a9 ba D P b;intro bb bc W E a8 a9 ba D P b;go_wp2_with fail;go_at_call 105;refine b3.o.mono ?_;rintro e cx ⟨cy,cn,b7,rfl,bs,bv,cz,b8,ao⟩;have b1:Hid (iN F w G no ja l (.returned (.tuple #[.slice (some ⟨cn,0,none⟩) b7 b7,.int .i64 0])) cx):=J ⟨cy,cn,b7,rfl,bs,P.o.trans bv,by omega,b8,ao⟩;replace bs:=J bs;replace bv:=J bv;replace ao:Hid _:=J ao;go_wp2_with fail
  go_ret2
  exact b1.o
section
variable {F:Nat->Prop}{w w':World}{B:Nat}{cv kv cv' wh:Value}{n:aj}
theorem bC.MK(h:bC F w B cv kv n)(l:∀k,F k->k<w.heap.size){i:Nat}{c:ai}{vs:List Value}(s:w.grownBy w' cv.ownBlock)(d:i<=n.cells.length)(a:List (List Value))(e:a.length=n.cells.length)(m:w.ownsRow B 122 4 cv n.cells.length a.flatten) (o:cR F w a n.cells) (t:cN (byteOf F w) w vs c) (f:w'.ownsRow B 122 4 cv' (n.cells.length+1) (eH a.flatten i vs))(g:∀k,cv'.ownBlock=some k->cv.ownBlock=some k\/w.heap.size<=k):bC F w' B cv' kv ⟨n.leaf,bZ n.cells i c,n.kids⟩:=by
 have p:R (λj=>cv.ownBlock=some j) w w':=(R.refl _ w).grown s (λk b _=>b);refine⟨⟨bZ a i vs,by rw[gE _ _ _ (by omega),gE _ _ _ d,e],?_,(o.ins e t d).iZ p λk v b u=>au m u (by decide) b⟩,p.row h.kids λk b=>mC h.kids m (by decide) k b,λk b q=>?_,h.kF⟩
 ·show w'.ownsRow B 122 4 cv' (bZ n.cells i c).length _;rw[gE _ _ _ d,ym _ _ _ (o.four e)];exact f
 ·rcases g k b with r|r
  ·exact h.rF k r q
  ·have:=l k q;omega
theorem yC(a:List Nat)(i x:Nat):(bZ a i x).map encI=gY (a.map encI) i [encI x]:=by unfold bZ gY;simp[map_take,map_drop]
theorem bC.ML(h:bC F w B cv kv n)(e:∀k,F k->k<w.heap.size){i x:Nat}(o:w.grownBy w' kv.ownBlock)(p:i<=n.kids.length)(b:w'.ownsRow B 3 1 wh (n.kids.length+1) (gY (n.kids.map encI) i [encI x])) (c:∀k,wh.ownBlock=some k->kv.ownBlock=some k\/w.heap.size<=k):bC F w' B cv wh ⟨n.leaf,n.cells,bZ n.kids i x⟩:=by
 have f:R (λj=>kv.ownBlock=some j) w w':=(R.refl _ w).grown o (λk a _=>a);obtain⟨d,q,g,r⟩:=h.rows;refine⟨⟨d,q,f.row g λk a=>mC g h.kids (by decide) k a,r.iZ f λk t a s=>au h.kids s (by decide) a⟩,?_,h.rF,λk a l=>?_⟩
 ·show w'.ownsRow B 3 1 wh (bZ n.kids i x).length _;rw[gE _ _ _ p,yC];exact b
 ·rcases c k a with m|m
  ·exact h.kF k m l
  ·have:=e k l;omega
end
structure LV (F:Nat->Prop) (w:World) (gp:Nat) (st:aB) (B gn:Nat) (cv kv:Value) (lf:Bool) (n:aj) (S:Nat->Prop) (w':World):Prop where
 pg:ar w' F gp st
 node:bC F w' B cv kv n
 blk:ah w' gn 129 #[.bool lf,cv,kv]
 only:R S w w'
theorem Gg(w:World)(F:Nat->Prop)(K:Nat)(st:aB)(L:ar w F K st)(B a q i:Nat)(cv kv:Value)(n:aj)(D:Bool)(c:ai)(r s t v:Value)(E:bC F w B cv kv n)(M:ah w a 129 #[.bool D,cv,kv]) (N:¬F a)(O:cN (byteOf F w) w [r,s,t,v] c) (V:ah w q 122 #[r,s,t,v]) (P:cv.ownBlock≠some q) (Q:i<=n.cells.length) (G:n.cells.length<=100000) (W:B<=w.heap.size):Calls Tryz.prog 60 #[cv,.int .i64 (i:Int),.slice (some ⟨q,0,none⟩) 1 1] w λe b=>∃d f,e=.returned (.slice d (n.cells.length+1) f)/\ah b a 129 #[.bool D,cv,kv]/\
  LV F w K st B a (.slice d (n.cells.length+1) f) kv D ⟨n.leaf,bZ n.cells i c,n.kids⟩ (λk=>cv.ownBlock=some k\/k=a) (b.setCell ⟨a,1,none⟩ (.slice d (n.cells.length+1) f)):=by
 obtain⟨j,y,l,z⟩:=E.rows;have X:∀u∈[r,s,t,v],u.oneCell'=true:=by obtain⟨Z,ab,ac,ad,e,_⟩:=O;rw[e];intro u S;simp at S;rcases S with rfl|rfl|rfl|rfl<;>rfl
 refine(Cy w B cv n.cells.length i j.flatten l Q W (z.one y) q (.inr P) r s t v X V G).mono ?_;rintro e b ⟨ae,rfl,m,x,H⟩;obtain⟨d,f,rfl⟩:=aE m;have o:=M.grown x λe=>au l M (by decide) e.symm;have T:=E.MK L.lt x Q j y l z O m H;have A:R (λk=>k=a) b (b.setCell ⟨a,1,none⟩ (.slice d (n.cells.length+1) f)):=(R.refl (λk=>k=a) b).setCell (p:=⟨a,1,none⟩) (λ_=>rfl) _;have U:R (λk=>cv.ownBlock=some k) w b:=(R.refl _ _).grown x (λk g _=>g);refine⟨d,f,rfl,o,(L.grown x (λk g Y=>E.rF k g Y)).aK N _,T.only A λk g=>by subst g;exact⟨_,_,o,by decide,by decide,by decide⟩,o.aK 1 _,?_⟩;exact(U.mono λk _ h=>.inl h).trans (A.mono λk _ h=>.inr h) (λk g h=>h)
theorem Jt(w:World)(F:Nat->Prop)(z:Nat)(st:aB)(A:ar w F z st)(B a l i x:Nat)(cv kv:Value)(n:aj)(r:Bool)(m:bC F w B cv kv n)(D:ah w a 129 #[.bool r,cv,kv]) (E:¬F a)(M:ah w l 3 #[.int .i64 (x:Int)]) (G:kv.ownBlock≠some l) (H:i<=n.kids.length) (s:n.kids.length<=100000) (N:B<=w.heap.size):Calls Tryz.prog 106 #[kv,.int .i64 (i:Int),.slice (some ⟨l,0,none⟩) 1 1] w λe b=>∃c d,e=.returned (.slice c (n.kids.length+1) d)/\ah b a 129 #[.bool r,cv,kv]/\
  LV F w z st B a cv (.slice c (n.kids.length+1) d) r ⟨n.leaf,n.cells,bZ n.kids i x⟩ (λk=>kv.ownBlock=some k\/k=a) (b.setCell ⟨a,2,none⟩ (.slice c (n.kids.length+1) d)):=by
 refine(FZ w B kv n.kids.length i (n.kids.map encI) m.kids H N (λu t=>by obtain⟨y,_,rfl⟩:=aM.1 t;rfl) l (.inr G) (.int .i64 (x:Int)) (λu t=>by rw[mem_singleton.1 t];rfl) M s).mono ?_;rintro e b ⟨P,rfl,g,o,v⟩;obtain⟨c,d,rfl⟩:=aE g;have j:=D.grown o λe=>au m.kids D (by decide) e.symm;have K:=m.ML A.lt o H g v;have q:R (λk=>k=a) b (b.setCell ⟨a,2,none⟩ (.slice c (n.kids.length+1) d)):=(R.refl (λk=>k=a) b).setCell (p:=⟨a,2,none⟩) (λ_=>rfl) _;have L:R (λk=>kv.ownBlock=some k) w b:=(R.refl _ _).grown o (λk f _=>f);refine⟨c,d,rfl,j,(A.grown o (λk f O=>m.kF k f O)).aK E _,K.only q λk f=>by subst f;exact⟨_,_,j,by decide,by decide,by decide⟩,j.aK 2 _,?_⟩;exact(L.mono λk _ h=>.inl h).trans (q.mono λk _ h=>.inr h) (λk f h=>h)
def Gh(F b:Nat->Prop)(w:World)(f:Nat)(bg:aB)(B g:Nat)(n:aj)(N K:Nat)(a:World):Prop:=∃A c d e,ar a b f bg/\bC b a B (.slice A (N+1) c) (.slice d (K+1) e) n/\ah a g 129 #[.bool false,.slice A (N+1) c,.slice d (K+1) e]/\Ev F w b a
theorem wL(w:World)(F:Nat->Prop)(gt t k:Nat)(st:aB)(h:ar w F t st)(b6:aL w F gt t k)(no:Nat)(n:aj)(b7:bS st no n)(u:n.leaf=false)(cH:Option Addr)(db:Nat)(key:List UInt8)(bj:MB F w cH key.length key)(z:(bk n key).1<n.kids.length) (f:FuncId) (cK:Array Value) (bg dC:aB) (d:Nat) (bl:List UInt8) (l:Option (List UInt8×Nat)) (A:∀b U,ar b U t st->aL b U gt t k->Ev F w U b->MB U b cH key.length key->Calls Tryz.prog 58 #[.pointer (some ⟨gt,0,none⟩),.int .i64 (aJ n (bk n key).1:Int),.slice cH key.length db,.func (.func f) #[] cK] b (iN U b t (aJ n (bk n key).1) bg (some (bl,d))))(bb:bg.ok) (D:rp bg no ⟨false,bZ n.cells (bk n key).1 ⟨bl,[],0,0⟩,bZ n.kids ((bk n key).1+1) d⟩ dC l):Calls Tryz.prog 58 #[.pointer (some ⟨gt,0,none⟩),.int .i64 (no:Int),.slice cH key.length db,.func (.func f) #[] cK] w (iN F w t no dC l):=by
 have bm:=b7.2.1;have de:=J (dz w F gt t k st h b6 no n b7);have ej:=ah.lt b6.blk;have W:=b7.2.1.rise;have q:=b7.2.1.many;obtain⟨L,cA⟩:=I (key.length);rw[<-cA]at bj A⊢;refine bz ?_ h b6 b7 bj;clear h b6 b7 bj;intro h b6 b7 bj;replace A:Hid _:=J A;refine eD ?_ z D bb bm cA W q;clear z D bb bm cA W q;intro z D bb bm cA W q;obtain⟨d4,a3⟩:=I (n.leaf);have dj:d4=false:=a3.trans u;subst dj;replace a3:=J a3;replace u:=J u;go_enter Tryz.func58,Tryz.ntmps58;go_wp2_with fail;go_at_call 78;refine de.o.mono ?_;rintro e b ⟨U,cv,kv,dk,rfl,a4,a5,cc,v,ce⟩;rw[<-a3.o];have Y:=ce.CA (Nat.min_le_left dk b.heap.size);obtain⟨bc,cf⟩:=I (min dk b.heap.size);rw[<-cf]at Y;have cg:∀j,U j->j<bc:=λj dl=>by have:=cc j dl;have:=a4.lt j dl;omega
 have ek:w.heap.size<=bc:=by have:=a5.size;omega
 have el:bc<=b.heap.size:=by omega
 have r:=Y.Jl cg;obtain⟨gk,Z,rfl,cL,_,_,em⟩:=r.sB.j7 (Nat.lt_of_le_of_lt (zero_le _) z.o);obtain⟨a1,a2,rfl⟩:=aE r.rows.choose_spec.2.1;obtain⟨N,cB⟩:=I (n.cells.length);obtain⟨K,E⟩:=I (n.kids.length);rw[<-cB,<-E]at r⊢;rw[<-E]at z cL;refine dr ?_ cB E ce Y cc cg cf a4 a5 r;clear cB E ce Y cc cg cf a4 a5 r;intro cB E ce Y cc cg cf a4 a5 r;go_wp2_with fail;have ab:¬U b.heap.size:=λd5=>by have:=a4.o.lt _ d5;omega
 have ch:=ah.new b 129 #[.bool false,.slice a1 N a2,.slice (some ⟨gk,0,none⟩) K Z];have ac:Ev F w U (b.alloc (.cells #[.bool false,.slice a1 N a2,.slice (some ⟨gk,0,none⟩) K Z] 129)):=a5.o.az _;have cM:=J (mB (b.alloc (.cells #[.bool false,.slice a1 N a2,.slice (some ⟨gk,0,none⟩) K Z] 129)) (.agg #[.bool false,.slice a1 N a2,.slice (some ⟨gk,0,none⟩) K Z]) n (by have a:=(r.o.gS.ev ((Ev.refl U b).az (.cells #[.bool false,.slice a1 N a2,.slice (some ⟨gk,0,none⟩) K Z] 129))).old λk bj=>bj.1;rw[<-a3.o]at a;exact a) W.o (by have:=q.o;omega) cH db key (by have a:=(bj.o.ev ac).rb;rw[cA.o]at a;exact a))
 rw[<-cA.o]at cM;obtain⟨ad,c4⟩:=I ((bk n key).1);obtain⟨S,cP⟩:=I ((bk n key).2);rw[<-c4,<-cP]at cM;rw[<-c4]at A D z;replace c4:=J c4;replace cP:=J cP;go_at_call 79;refine cM.o.mono ?_;rintro e dp ⟨rfl,M⟩;have x:=ch.below M (by simp);have ci:=(a4.o.alloc (.cells #[.bool false,.slice a1 N a2,.slice (some ⟨gk,0,none⟩) K Z] 129)).below M;have y:=ac.below M;have bp:iw U dp bc (.slice a1 N a2) (.slice (some ⟨gk,0,none⟩) K Z) n:=r.o.only (((R.refl (λ_=>False) b).alloc _).trans (R.ag M) (λ_ _ h=>h)) (λ_ h=>h.elim);have en:=y.size;have d6:=bp.sB.ic ad (by rw[<-E.o];exact z.o);obtain⟨dM,b8⟩:=I (aJ n ad);rw[<-b8]at d6 A;have ds:=J (A.o dp U ci (b6.o.ev y) y (bj.o.ev y));have eo:(ad:Int)<(K:Int):=by have:=z.o;omega
 have ep:(0:Int)<=(ad:Int):=by omega
 replace cL:=J cL;replace b8:=J b8;have eI:=x.cell 0;have eJ:=x.cell 1;have eK:=x.cell 2;refine dS ?_ x ch M ci ac y bp ab;clear x ch M ci ac y bp ab;intro x ch M ci ac y bp ab;go_wp2_with fail;go_at_call 58;refine ds.o.mono ?_;rintro e V ⟨p,eL,m,rfl,cj,O,eq,es,dt⟩;obtain⟨rfl,P,Q,a6,br,ae⟩:=dt;have bs:=bp.o.sB.ev O;have af:ah V b.heap.size 129 #[.bool false,.slice a1 N a2,.slice (some ⟨gk,0,none⟩) K Z]:=O.only.blk x.o ab.o;refine bX ?_ af a6 bs cj O;clear af a6 bs cj O;intro af a6 bs cj O;go_wp2_with fail;have G:=y.o.trans O.o;have c:¬p b.heap.size:=O.o.new ab.o x.o.lt;obtain⟨b9,al⟩:=I (bl.length);rw[<-al]at a6 br ae;have p2:=a6.o.cell 2;have eN:=a6.o.cell 3;refine bf ?_ br ae al;clear br ae al;intro br ae al;obtain⟨bx,bA⟩:=I (b.heap.size);rw[<-bA]at af x c⊢;have d7:w.heap.size<=bx:=by rw[bA];exact a5.o.size
 have d8:bx<V.heap.size:=af.o.lt;have c9:ad<=n.cells.length:=by have a:=bm.o.eY u.o;have:=z.o;rw[E.o,a]at this;omega
 have du:n.kids.length<=100000:=by have:=bm.o.eY u.o;have:=q.o;omega
 have dv:n.cells.length<=100000:=by have:=q.o;omega
 have da:bc<=V.heap.size:=by have:=G.size;have:=y.o.size;have:=O.o.size;have a:=M.o.size;simp at a;omega
 obtain⟨bB,T⟩:=I (V.alloc (.cells #[.slice P b9 Q,.int .i64 (d:Int)] 184));obtain⟨ca,v⟩:=I (bB.alloc (.cells #[.slice P b9 Q,.slice none 0 0,.int .i64 0,.int .i64 0] 122));have b0:Ev p V p bB:=by rw[T];exact(Ev.refl p V).az _
 have s:Ev p V p ca:=by rw[v];exact b0.az _
 have H:ah bB V.heap.size 184 #[.slice P b9 Q,.int .i64 (d:Int)]:=by rw[T];exact ah.new V 184 _
 have am:ah ca V.heap.size 184 #[.slice P b9 Q,.int .i64 (d:Int)]:=by rw[v];exact H.alloc _
 have bd:ah ca bB.heap.size 122 #[.slice P b9 Q,.slice none 0 0,.int .i64 0,.int .i64 0]:=by rw[v];exact ah.new bB 122 _
 have cS:bB.heap.size=V.heap.size+1:=by rw[T];simp
 have b1:=bs.o.ev s;have ck:ar ca p t bg:=by rw[v,T];exact(cj.o.alloc _).alloc _
 have cl:=s.blk af.o c;have cm:=b0.blk af.o c;have cn:cN (byteOf p ca) ca [.slice P b9 Q,.slice none 0 0,.int .i64 0,.int .i64 0] ⟨bl,[],0,0⟩:=by refine⟨P,Q,none,0,by rw[al.o];rfl,by rw[<-al.o];exact ae.o,aa _,?_,by simpa[bv]using Rd.none_⟩;rw[<-al.o];exact br.o.xM s
 have co:(Value.slice a1 N a2).ownBlock≠some bB.heap.size:=λe=>by have a:=bs.o.rows.choose_spec.2.1;have cD:=(dw a e).2;omega
 have cV:=J (Gg ca p t bg ck bc bx bB.heap.size ad (.slice a1 N a2) (.slice (some ⟨gk,0,none⟩) K Z) n false ⟨bl,[],0,0⟩ _ _ _ _ b1 cl c cn bd co c9 dv (aO da s.size));rw[<-cB.o]at cV;have et:=H.cell 0;have ex:=H.cell 1;have ey:=cm.cell 1;refine aR ?_ b0 s H am bd b1 ck cl cm cn co cS bA;clear b0 s H am bd b1 ck cl cm cn co cS bA;intro b0 s H am bd b1 ck cl cm cn co cS bA;refine bz ?_ G c T v;clear G c T v;intro G c T v;go_loopw [67] (λcp dy=>(cp=.int .i64 0/\dy=V)\/(cp=.int .i64 1/\Hid (Gh F p w t bg bc bx ⟨false,bZ n.cells ad ⟨bl,[],0,0⟩,bZ n.kids (ad+1) d⟩ N K dy))) (λcp _=>1-(intOf cp).toNat)
 case atStart=>exact .inl ⟨rfl,rfl⟩
 case round=>
  rcases hrel with⟨rfl,dT⟩|⟨rfl,cP⟩
  ·subst dT;go_upto_region 16 with(fail)
   rw[<-T.o];go_wp2_with fail;go_at_call 60;rw[<-v.o];refine cV.o.mono ?_;rintro e d9 ⟨cX,cY,rfl,b2,g⟩;have m1:=b2.cell 1;have eQ:=b2.frozen 1;obtain⟨be,b3⟩:=I (d9.setCell ⟨bx,1,none⟩ (.slice cX (N+1) cY));rw[<-b3]at g;have cr:Ev F w p be:=by
    have a:=G.o.trans s.o;refine⟨a.only.trans g.only λi z bi=>?_,a.grow⟩;rcases bi with bi|bi
    ·have cD:=r.o.rows.choose_spec.2.1;have ea:=(dw cD bi).1;omega
    ·omega
   have an:ah be wr.heap.size 184 #[.slice P b9 Q,.int .i64 (d:Int)]:=g.only.blk am.o (by
    rintro(e|e)
    ·have cD:=b1.o.rows.choose_spec.2.1;exact au cD am.o (by decide) e
    ·omega)
   obtain⟨c5,ao⟩:=I (be.alloc (.cells #[.int .i64 (d:Int)] 3));have ap:Ev p be p c5:=by rw[ao];exact(Ev.refl p be).az _
   have cs:(Value.slice (some ⟨gk,0,none⟩) K Z).ownBlock≠some be.heap.size:=λe=>by have cD:=(dw g.node.kids e).2;omega
   have ct:ah c5 be.heap.size 3 #[.int .i64 (d:Int)]:=by rw[ao];exact ah.new be 3 _
   have b4:=g.blk;have cw:=ap.blk b4 c.o;have cx:ar c5 p t bg:=by rw[ao];exact g.pg.alloc _
   have d0:=J (Jt c5 p t bg cx bc bx be.heap.size (ad+1) d (.slice cX (N+1) cY) (.slice (some ⟨gk,0,none⟩) K Z) _ false (g.node.ev ap) cw c.o ct cs (by have:=z.o;rw[E.o]at this;exact this) du (aO da (aO s.o.size (aO g.only.size ap.size))));have eb:=an.cell 0;have ec:=an.cell 1;have ee:=b4.cell 2;have eA:(ad:Int)+0+1=((ad+1:Nat):Int):=by omega
   refine kT ?_ b2 g cr an ap cs ct b4 cw cx ao b3;clear b2 g cr an ap cs ct b4 cw cx ao b3;intro b2 g cr an ap cs ct b4 cw cx ao b3;go_upto_region 17 with(fail)
   rw[<-b3.o];go_wp2_with fail;go_at_call 106;rw[<-ao.o];refine d0.o.mono ?_;rintro e ef ⟨c6,c7,rfl,cy,a7⟩;have X:Hid (Gh F p w t bg bc bx ⟨false,bZ n.cells ad ⟨bl,[],0,0⟩,bZ n.kids (ad+1) d⟩ N K (ef.setCell ⟨bx,2,none⟩ (.slice c6 (n.kids.length+1) c7))):=J (by
    have a:=cr.o.trans ap.o;have cD:=g.o.node.kids;have ea:=G.o.trans s.o;have d1:=a3.o;refine⟨cX,cY,c6,c7,a7.pg,?_,?_,⟨a.only.trans a7.only λi z bi=>?_,a.grow⟩⟩
    ·have c8:=a7.node;rw[d1,<-E.o]at *;exact c8
    ·have c8:=a7.blk;rw[<-E.o]at c8⊢;exact c8
    ·rcases bi with bi|bi
     ·have eR:=(dw r.o.kids bi).1;omega
     ·omega)
   rw[<-E.o]at X⊢;have e0:=cy.cell 2;have e1:=cy.frozen 2;replace cy:=J cy;replace a7:=J a7;go_wp2_with fail;go_roundw
   case rel=>exact .inr ⟨rfl,X⟩
   case measure=>simp only[intOf];omega
  ·obtain⟨cX,cY,c6,c7,cz,a8,a9,ba⟩:=cP.o;obtain⟨cE,a0⟩:∃cE:aj,cE=⟨false,bZ n.cells ad ⟨bl,[],0,0⟩,bZ n.kids (ad+1) d⟩:=⟨_,rfl⟩;rw[<-a0]at a8 D;have b5:cE.leaf=false:=by rw[a0]
   have c0:cE.cells.length=N+1:=by rw[a0,cB.o];exact gE _ _ _ c9
   have c1:cE.kids.length=K+1:=by rw[a0,E.o];exact gE _ _ _ (by have:=z.o;rw[E.o]at this;exact this)
   have d2:=J (wG wr p gt t k bg dC cz (b6.o.ev ba) bb.o no cE l (.agg #[.bool false,.slice cX (N+1) cY,.slice c6 (K+1) c7]) (by have a:=a8.gS;rw[b5]at a;exact a) (by have a:=a8.wF;rw[b5]at a;exact a) D.o);have eb:=a9.cell 0;have ec:=a9.cell 1;have ee:=a9.cell 2;have eE:=ba.size;refine dS ?_ cz a8 a9 ba a0 b5 c0 c1;clear cz a8 a9 ba a0 b5 c0 c1;intro cz a8 a9 ba a0 b5 c0 c1;go_wp2_with fail;go_at_call 105;refine d2.o.mono ?_;rintro e eg ⟨eh,d3,dc,rfl,c2,c3,ei,dd,cb⟩;have X:Hid (iN F w t no dC l (.returned (.tuple #[.slice (some ⟨d3,0,none⟩) dc dc,.int .i64 0])) eg):=J ⟨eh,d3,dc,rfl,c2,ba.o.trans c3,by omega,dd,cb⟩;replace c2:=J c2;replace c3:=J c3;replace cb:Hid _:=J cb;go_wp2_with fail
   go_ret2
   exact X.o
def Ju(op:Ge):Prop:=∀st n i a bg b,st.ok->bJ n->op st n i a bg b->bg.ok
theorem gZ.ok{op:Ge}{key:List UInt8}{st st':aB}{no:Nat}{l:Option (List UInt8×Nat)}(h:gZ op key st no st' l)(d:Ju op):st.ok->st'.ok:=by
 induction h with
 |leaf bg dC no n m l c e f b=>exactλa=>b.ok (d _ _ _ _ _ _ a c.2.1 f)
 |split bg dC no k n o l c e g i b ih=>exactλa=>b.ok (ih a)
 |one bg dC ja no n p l c e g i j b ih=>exactλa=>b.ok (j.ok (ih a))
theorem qN(gt e k:Nat)(j:Option Addr)(v:Nat)(key:List UInt8)(f:FuncId)(b:Array Value)(op:Ge)(D:∀args E,(callFunc f args).run Tryz.prog E=.ok (.enter f args) E)(c:Ju op){st st':aB} {no:Nat} {l:Option (List UInt8×Nat)} (g:gZ op key st no st' l):st.ok->∀(w:World) (F:Nat->Prop),ar w F e st->aL w F gt e k->MB F w j key.length key->Kn f b op w F e st->Calls Tryz.prog 58 #[.pointer (some ⟨gt,0,none⟩),.int .i64 (no:Int),.slice j key.length v,.func (.func f) #[] b] w (iN F w e no st' l):=by
 induction g with
 |leaf bg dC no n L l i m G o=>
  intro a w F p q r d
  exact wK w F gt e k st p q no n i m j v key r f b op bg dC L l D d G (c _ _ _ _ _ _ a i.2.1 G) o
 |split bg dC no H n M l i m x g o ih=>
  intro a w F p q r d
  exact wL w F gt e k st p q no n i m j v key r x f b bg dC H M l (λy z s t A u=>ih a y z s t u (d.ev A)) (g.ok c a) o
 |one bg dC ja no n N l i m x g K o ih=>
  intro a w F p q r d
  exact AR w F gt e k st p q no n i m j v key r x f b bg dC ja N l (λy z s t A u=>ih a y z s t u (d.ev A)) (g.ok c a) (K.ok (g.ok c a)) K o
theorem Gi{T:aF->Option aF->Nat->List ai->List Nat->Prop}{a:List ai}{f:List Nat}{e:aF}{d:Option aF}{L:List ai}{P:List Nat}(h:Kids T a f e d L P):∀(i k:Nat),f[i]?=some k->∃l p,T (if i=0 then e else aS a (i-1)) (if i<a.length then some (aS a i)else d) k l p:=by
 induction h with
 |one k e d L P h=>
  intro i g b
  cases i with
  |zero=>simp at b;subst b;exact⟨L,P,by simpa using h⟩
  |succ i=>simp at b
 |more c a k f e d l p L P s h t ih=>
  intro i g b
  cases i with
  |zero=>simp at b;subst b;exact⟨l,p,by simpa[aS]using h⟩
  |succ i=>
   obtain⟨m,o,j⟩:=ih i g (by simpa using b)
   refine⟨m,o,?_⟩
   rw[if_neg (by omega)]
   have q:aS (c::a) (i+1)=aS a i:=by simp[aS]
   have r:(if i+1<(c::a).length then some (aS (c::a) (i+1))else d)=if i<a.length then some (aS a i)else d:=by rw[q];simp
   rw[r]
   cases i with
   |zero=>simpa[aS]using j
   |succ i=>simpa[aS]using j
def yD(F:Nat->Prop)(w:World)(a:Nat)(st:aB)(e:Ending)(w':World):Prop:=e=.returned (.int .i64 0)/\∃F',ar w' F' a st/\Ev F w F' w'
def MM(gt a k b H:Nat)(st:aB)(h m:Nat)(e:aF)(f:Option aF)(no:Nat):Prop:=
 ∀(w:World) (F:Nat->Prop) (deep:Nat) (c d:Value),ar w F a st->aL w F gt a k->ah w b 3 #[.int .i64 (H:Int)]->¬F b->deep+h=H->1<=deep->(1<deep->127<=m)->oO (bF F w) w c e->Kk (bF F w) w d f->H<=1000->
  Calls Tryz.prog 75 #[.pointer (some ⟨gt,0,none⟩),.int .i64 (no:Int),.int .i64 (deep:Int),c,d,.func (.func 76) #[] #[.pointer (some ⟨b,0,none⟩)]] w (yD F w a st)
theorem AU{n:aj}{m:Nat}(c:7<=m)(a:m<=aC n):n.cells≠[]:=by
 intro e;unfold aC at a;rw[e]at a;cases hf:n.leaf with
 |true=>rw[hf]at a;have b:m<=3:=a;omega
 |false=>rw[hf]at a;have b:m<=6:=a;omega
theorem uB(gt U k ch H:Nat)(st:aB)(h m:Nat)(bs:aF)(b1:Option aF)(no:Nat)(n:aj)(a2:bS st no n)(b2:m<=aC n)(ci:7<=m)(d:n.leaf=decide (h=0))(v:∀c∈n.cells,rl bs b1 c.key)(a3:n.leaf=false->∀(i dM:Nat),n.kids[i]?=some dM->MM gt U k ch H st (h-1) 127 (if i=0 then bs else aS n.cells (i-1)) (if i<n.cells.length then some (aS n.cells i)else b1) dM):MM gt U k ch H st h m bs b1 no:=by
 intro w F deep d7 cA b3 bv bx P ac hd1 V W ad c3;have ae:=AU ci b2;have x:=a2.2.1;have cB:=J (dz w F gt U k st b3 bv no n a2);have ba:aC n<=508:=by obtain⟨z,cD⟩:=a2.2.2;have af:=b3.len a2.1;have cj:=congrArg List.length cD;rw[af,aq,fN]at cj;omega
 have dl:=ah.lt bv.blk;have X:n.leaf=decide (deep=H):=by
  rw[d];by_cases al:h=0
  ·rw[aV al,aV (by omega)]
  ·rw[aD al,aD (by omega)]
 have c2:=x.many;obtain⟨ck,fl,cl,rfl,bb,bc⟩:=W;have W:oO (bF F w) w (.slice ck fl cl) bs:=⟨ck,fl,cl,rfl,bb,bc⟩;obtain⟨b4,p⟩:=I (n.leaf);refine aR ?_ b3 bv a2 bx W bb bc ad x p d X v;clear b3 bv a2 bx W bb bc ad x p d X v;intro b3 bv a2 bx W bb bc ad x p d X v;replace a3:Hid _:=J a3;replace V:Hid _:=J V;refine bX ?_ ae ac ba b2 P;clear ae ac ba b2 P;intro ae ac ba b2 P;have dp:(deep:Int)<=1000:=by have:=ac.o;omega
 go_enter Tryz.func75,Tryz.ntmps75;go_wp2_with fail;go_at_call 78;refine cB.o.mono ?_;rintro e Y ⟨l,cv,kv,cE,rfl,Q,bd,be,ds,bi⟩;rw[<-p.o];have y:=bi.CA (Nat.min_le_left cE Y.heap.size);obtain⟨c4,bj⟩:=I (min cE Y.heap.size);rw[<-bj]at y;have bl:∀j,l j->j<c4:=λj b5=>by have:=be j b5;have:=Q.lt j b5;omega
 have A:=(y.Jl bl).sB;obtain⟨cm,a4,rfl⟩:=aE A.rows.choose_spec.2.1;obtain⟨cn,bA,rfl⟩:=aE A.kids;obtain⟨N,b⟩:=I (n.cells.length);obtain⟨K,am⟩:=I (n.kids.length);rw[<-b,<-am]at A⊢;obtain⟨b6,D⟩:=I (Y.alloc (.cells #[.bool b4,.slice cm N a4,.slice cn K bA] 129));have E:Ev l Y l b6:=by rw[D];exact(Ev.refl l Y).az _
 have G:=bd.trans E;have bm:ar b6 l U st:=by rw[D];exact Q.alloc _
 have q:ah b6 Y.heap.size 129 #[.bool b4,.slice cm N a4,.slice cn K bA]:=by rw[D];exact ah.new Y 129 _
 have Z:¬l Y.heap.size:=λW=>by have:=Q.lt _ W;omega
 have an:=A.ev E;have ao:=an.gS;rw[<-p.o]at ao;have cp:=J (FJ b6 l ch H (G.blk bx.o P.o) no deep n (.agg #[.bool b4,.slice cm N a4,.slice cn K bA]) (.slice ck fl cl) cA bs b1 ao x.o (by have:=ba.o;omega) X.o (λaf=>by have:=V.o af;have:=b2.o;omega) ae.o v.o (W.o.ev G) (ad.o.ev G) (by omega));have c5:=q.cell 0;have c6:=q.cell 1;have c7:=q.cell 2;have ct:Y.alloc (.cells #[.bool b4,.slice cm N a4,.slice cn K bA] 129)=b6:=D.symm;refine aR ?_ b am bi y be bl bj Q bd A D E G;clear b am bi y be bl bj Q bd A D E G;intro b am bi y be bl bj Q bd A D E G;refine bX ?_ bm q Z an ao;clear bm q Z an ao;intro bm q Z an ao;go_wp2_with fail;go_at_call 76;refine cp.o.mono ?_;rintro e bB ⟨rfl,r⟩;have L:=G.o.below r;have S:=bm.o.below r;have M:=an.o.ev (Ev.ag (F:=l) r);have s:=q.o.below r (ah.lt q.o);have c8:=s.cell 0;have m1:=s.cell 1;have c9:=s.cell 2;clear cp c5 c6 c7 ct;cases hlc:b4 with
 |true=>
  subst hlc
  have ab:Hid (yD F w U st (.returned (.int .i64 0)) bB):=J ⟨rfl,l,S,L⟩
  replace L:=J L
  replace S:=J S
  replace M:=J M
  replace s:=J s
  replace r:=J r
  go_wp2_with fail
  go_ret
  exact ab.o
 |false=>
  subst hlc
  have dt:K=N+1:=by rw[am.o,b.o];exact x.o.eY p.o.symm
  have du:0<N:=by rw[b.o];exact length_pos_iff.2 ae.o
  have dv:(K:Int)<=70000:=by have:=b.o;omega
  have a5:=Z.o
  obtain⟨gk,dy,cr,cw,_,_,_⟩:=M.j7 (by have:=am.o;omega)
  rw[<-am.o]at cr cw
  injection cr with hA1 _ cH
  subst hA1 cH
  obtain⟨d8,dT,cs,cx,_,_,_⟩:=M.qn (by have:=b.o;omega)
  rw[<-b.o]at cs cx
  injection cs with hA2 _ cK
  subst hA2 cK
  have da:(K:Int)<=(bA:Int):=by omega
  have db:(N:Int)<=(a4:Int):=by omega
  have bp:Hid (∃F',ar bB F' U st/\Ev l bB F' bB):=J ⟨l,S,Ev.refl _ _⟩
  replace L:=J L
  replace S:=J S
  replace M:=J M
  replace s:=J s
  replace r:=J r
  replace a5:=J a5
  go_wp2_with fail
  go_loopw [47] (λb7 b0=>∃i:Nat,b7=.int .i64 (i:Int)/\i<=K/\Hid (∃F',ar b0 F' U st/\Ev l bB F' b0)) (λb7 _=>K-(intOf b7).toNat)
  case atStart=>exact⟨0,rfl,by omega,bp⟩
  case round=>
   obtain⟨i,rfl,d0,cL⟩:=hrel;obtain⟨ap,t,a⟩:=cL.o;clear bp c8 m1 c9 cL;have f:=a.blk s.o a5.o;have m1:=f.cell 2;by_cases cM:i<K
   ·have T:=M.o.ev a;have u:=L.o.trans a;have br:i<n.kids.length:=by rw[<-am.o];exact cM
    have dc:=T.ic i br;obtain⟨dM,O⟩:∃dM,n.kids[i]?=some dM:=⟨n.kids[i],ak br⟩;have b8:aJ n i=dM:=by simp[aJ,O]
    rw[b8]at dc;have dd:(i:Int)<(K:Int):=by omega
    have d1:(i:Int)<=70000:=by omega
    have d2:(0:Int)<=(i:Int):=by omega
    have d3:(i:Int)<(bA:Int):=by omega
    have d9:=f.cell 1;have ea:=f.cell 2;refine dZ ?_ T u t a f O;clear T u t a f O;intro T u t a f O;replace br:=J br;replace b8:=J b8;clear m1;obtain⟨cy,a0⟩:=I (if i=0 then bs else aS n.cells (i-1));obtain⟨HI,a1⟩:=I (if i<n.cells.length then some (aS n.cells i)else b1);have d4:1<deep+1->127<=127:=λ_=>aa _;have b9:=J (a3.o p.o.symm i dM O.o);rw[<-a0,<-a1]at b9;replace a0:=J a0;replace a1:=J a1
    go_upto_if 55 with(fail)
    go_cut [18] (λcP b0=>oO (bF ap wr) wr cP cy/\b0=wr)
    case first=>
     by_cases al:i=0
     ·have rJ:decide ((0:Int)<(i:Int))=false:=aD (by omega);have a6:=J (by rw[a0.o,if_pos al];exact W.o.ev u.o:oO (bF ap wr) wr (.slice ck fl cl) cy);go_wp2_with fail
      go_meet
      case rel=>exact⟨a6.o,rfl⟩
     ·have rJ:decide ((0:Int)<(i:Int))=true:=aV (by omega);obtain⟨j,b5⟩:∃j,i=j+1:=⟨i-1,by omega⟩;have d5:(i:Int)-1=(j:Int):=by omega
      have cS:(j:Int)<(N:Int):=by omega
      have d6:(0:Int)<=(j:Int):=by omega
      have cV:(j:Int)<(a4:Int):=by omega
      obtain⟨co,ca,de,g,cX⟩:=T.o.wH j (by rw[<-b.o];omega);have a6:Hid (oO (bF ap wr) wr (.slice co (aS n.cells j).length ca) cy):=J (by rw[a0.o,if_neg al,show i-1=j by omega];exact⟨co,_,ca,rfl,rfl,g.keep λk cz=>⟨cz.1,rfl⟩⟩)
      replace g:=J g;replace b5:=J b5;go_wp2_with fail
      go_meet
      case rel=>exact⟨a6.o,rfl⟩
    case rest=>
     obtain⟨cb,a7⟩:=hcut;replace a7:=a7.symm;subst a7;replace cb:=J cb
     go_upto_if 67 with(fail)
     go_cut [19] (λcY b0=>Kk (bF ap wr) wr cY HI/\b0=wr)
     case first=>
      by_cases al:i<N
      ·have rJ:decide ((i:Int)<(N:Int))=true:=aV (by omega);have cS:(i:Int)<(N:Int):=by omega
       have cV:(i:Int)<(a4:Int):=by omega
       obtain⟨co,ca,de,g,cX⟩:=T.o.wH i (by rw[<-b.o];omega);obtain⟨dj,cc,_⟩:=g.2 (by have:=(x.o.keys (n.cells[i]'(by rw[<-b.o];omega)) (getElem_mem _)).1;rw[jL (ak (by rw[<-b.o];omega))];exact this);have a8:Hid (Kk (bF ap wr) wr (.slice co (aS n.cells i).length ca) HI):=J (by rw[a1.o,if_pos (by rw[<-b.o];exact al),cc];rw[cc]at g;exact⟨dj,_,ca,rfl,rfl,g.keep λk cz=>⟨cz.1,rfl⟩⟩)
       clear cc;replace g:=J g;go_wp2_with fail
       go_meet
       case rel=>exact⟨a8.o,rfl⟩
      ·have rJ:decide ((i:Int)<(N:Int))=false:=aD (by omega);have a8:Hid (Kk (bF ap wr) wr cA HI):=J (by rw[a1.o,if_neg (by rw[<-b.o];exact al)];exact ad.o.ev u.o)
       go_wp2_with fail
       go_meet
       case rel=>exact⟨a8.o,rfl⟩
     case rest=>
      obtain⟨ce,a7⟩:=hcut;replace a7:=a7.symm;subst a7;replace ce:=J ce;have a9:=J (b9.o wr ap (deep+1) _ _ t.o (bv.o.ev u.o) (u.o.blk bx.o P.o) (λc0=>by
       rcases u.o.grow ch c0 with af|af
       ·exact P.o af
       ·have:=ah.lt bx.o;omega) (by have:=ac.o;have:h≠0:=(λaf=>by have cj:=d.o;rw[af]at cj;have ci:=p.o;rw[cj]at ci;cases ci);omega) (by omega) (λ_=>aa _) cb.o ce.o c3)
      rw[show((deep+1:Nat):Int)=(deep:Int)+1 from rfl]at a9;go_wp2_with fail;refine a9.o.mono ?_;rintro e c1 ⟨rfl,dk,cf,cg⟩;have bp:Hid (∃F',ar c1 F' U st/\Ev l bB F' c1):=J ⟨dk,cf,a.o.trans cg⟩;replace cf:=J cf;replace cg:=J cg;clear a9;go_wp2_with fail;go_roundw
      case rel=>exact⟨i+1,rfl,by omega,bp⟩
      case measure=>simp[intOf];omega
   ·obtain rfl:i=K:=by omega
    have ab:Hid (yD F w U st (.returned (.int .i64 0)) wr):=J ⟨rfl,ap,t,L.o.trans a⟩;refine bf ?_ t a f;clear t a f;intro t a f;go_wp2_with fail;go_ret;exact ab.o
end Go.Proofs.YtajdeapdgbnahaaGreatDoor
