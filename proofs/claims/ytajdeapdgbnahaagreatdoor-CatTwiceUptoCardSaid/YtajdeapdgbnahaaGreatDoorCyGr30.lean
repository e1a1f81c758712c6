/-
  Contracts of cat.pack, order.
-/
import Derived.Test.YtajdeapdgbnahaaGreatDoorCyCatA
import Derived.Lib.AppendZeros
namespace Go.Proofs.YtajdeapdgbnahaaGreatDoor
set_option linter.unusedVariables false
set_option maxRecDepth 100000
set_option maxHeartbeats 2000000
open Go.RowKit
open List Nat
theorem RN.rU{w:World}{g:Nat}{t:TypeId}{a:List Nat}(h:ah w g t (a.map encI).toArray):RN w w.heap.size (some ⟨g,0,none⟩) a.length a:=by refine⟨by simp,λ_=>⟨_,rfl,h.lt,λj u b=>?_⟩⟩;rw[show(⟨g,0,none⟩:Addr).add j=⟨g,j,none⟩from by unfold Addr.add;split<;>simp_all];rw[h.cell];simpa using b
theorem RI.rU{w:World}{g:Nat}{t:TypeId}{a:List Int}(h:ah w g t (iv a).toArray):RI w w.heap.size (some ⟨g,0,none⟩) a.length a:=by refine⟨by simp[iv],λ_=>⟨_,rfl,h.lt,λj u b=>?_⟩⟩;rw[show(⟨g,0,none⟩:Addr).add j=⟨g,j,none⟩from by unfold Addr.add;split<;>simp_all];rw[h.cell];simpa using b
theorem RS.rU{w:World}{g:Nat}{t:TypeId}{s:ByteArray}(h:ah w g t #[.string s]):RS w w.heap.size (some ⟨g,0,none⟩) 1 [s]:=by
 refine⟨by simp,λ_=>⟨_,rfl,h.lt,λj u a=>?_⟩⟩;rw[show(⟨g,0,none⟩:Addr).add j=⟨g,j,none⟩from by unfold Addr.add;split<;>simp_all];rw[h.cell]
 match j,a with
 |0,a=>simpa using a
theorem cT(w:World)(o:Obj)(t:TypeId)(a:Array Value):ah ((w.alloc o).alloc (.cells a t)) (w.heap.size+1) t a:=by have q:=ah.new (w.alloc o) t a;rw[World.size_alloc]at q;exact q
theorem dR(w:World)(a b:Obj):Below w.heap.size w ((w.alloc a).alloc b):=((Below.refl _ w).alloc (aa _) a).alloc (by simp) b
theorem ew{w:World}{A:Option Addr}{n:Nat}{l:List UInt8}(h:RB w w.heap.size A n l)(o:Obj):RB (w.alloc o) (w.alloc o).heap.size A n l:=(h.alloc (aa _) o).more (by simp)
theorem cJ{w:World}{A:Option Addr}{n:Nat}{l:List UInt8}(h:RB w w.heap.size A n l)(o:Obj):RB (w.alloc o).drew (w.alloc o).drew.heap.size A n l:=ew h o
theorem En(w:World)(base:Nat)(v:Value)(n:Nat)(l:List UInt8)(b:OB w base v n l)(z:ByteArray)(j:n+z.size<=140737488351232)(a:base<=w.heap.size){ty:TypeId}:∃c w',(Builtin.append_ #[23,9] ty #[v,.string z]).run Tryz.prog w=.ok c w'/\OB w' base c (n+z.size) (l++z.data.toList)/\Below base w w':=by obtain⟨i0,d,e,f,g⟩:=info_parts eB;obtain⟨c,w',m,i,o,_⟩:=Lib.run_append_own_string (P:=Tryz.prog) (w:=w) base 23 9 ty 5 i0 Tryz.underlying23 Tryz.underlying9 d e f g v n (bv l) b z (by simp only[maxLen];omega) (by omega) a;rw[show Lib.strCells z=bv z.data.toList from rfl,<-fM]at i;exact⟨c,w',m,i,(Below.refl _ _).grown o a λk p=>b.iR k p⟩
theorem pG(d:World)(A:Option Addr)(n c k g:Nat)(b:List UInt8)(t:TypeId)(a:List Nat)(l:RB d d.heap.size A n b)(e:Array Value)(m:ah d g t e)(f:e=(a.map encI).toArray)(o:n<=10000000)(p:a.length<=1000)(i:1<=k)(j:k<=7)(q:∀x∈a,x<9223372036854775808):Calls Tryz.prog 24 #[.slice A n c,.int .i64 (k:Int),.slice (some ⟨g,0,none⟩) a.length a.length] d (iJ d (b++bP k a)):=eX d A _ n c a.length a.length k b a l (RN.rU (by rw[<-f];exact m)) o p i j q
structure aX where
 name:List UInt8
 cI:Nat
 gX:Nat
 crc:Nat
 bR:Nat
 size:Nat
 at_:Nat
def aX.c(f:aX):jE:=⟨f.name,f.cI,f.gX,f.crc,f.bR,f.size,f.at_⟩
def zA:Array Value:=#[.string ⟨#[]⟩,.int .i64 0,.int .i64 0,.int .i64 0,.int .i64 0,.int .i64 0]
def dx(f:aX):List UInt8:=bP 1 [f.cI]++bP 4 [f.gX,f.crc,f.bR,f.at_]++bP 6 [f.size]++f.name
structure aX.ok (f:aX):Prop where
 name:f.name.length<=1000
 cI:f.cI<9223372036854775808
 gX:f.gX<9223372036854775808
 crc:f.crc<4294967296
 bR:f.bR<9223372036854775808
 size:f.size<9223372036854775808
 at_:f.at_<9223372036854775808
theorem Dg(w:World)(f:aX)(a5:f.ok):Calls Tryz.prog 66 #[.agg #[.string (str f.name),.int .i64 (f.cI:Int),.int .i64 (f.gX:Int),.int .u32 (f.crc:Int),.int .i64 (f.bR:Int),.int .i64 (f.size:Int),.int .i64 (f.at_:Int)]] w (dH w (dx f)):=by
 obtain⟨n,d,j,i,k,m,at_⟩:=f;obtain⟨bA,P,U,V,X,Q,Y⟩:=a5;simp only at *;obtain⟨o,K⟩:=I (Obj.cells #[.string (str n),.int .i64 (d:Int),.int .i64 (j:Int),.int .u32 (i:Int),.int .i64 (k:Int),.int .i64 (m:Int),.int .i64 (at_:Int)] 49);obtain⟨a,p⟩:=I (w.alloc o);have C:Below w.heap.size w a:=by rw[p];exact(Below.refl _ _).alloc (aa _) o
 obtain⟨g,L⟩:=I (w.heap.size);have b:ah a g 49 #[.string (str n),.int .i64 (d:Int),.int .i64 (j:Int),.int .u32 (i:Int),.int .i64 (k:Int),.int .i64 (m:Int),.int .i64 (at_:Int)]:=by rw[p,K,L];exact ah.new w 49 _
 have S:g<a.heap.size:=b.lt;have bB:=b.cell 0;have a6:=b.cell 1;have a7:=b.cell 2;have a8:=b.cell 3;have a9:=b.cell 4;have c5:=b.cell 5;have ba:=b.cell 6;have Z:=J (by rw[p,K]:a=w.alloc (.cells #[.string (str n),.int .i64 (d:Int),.int .i64 (j:Int),.int .u32 (i:Int),.int .i64 (k:Int),.int .i64 (m:Int),.int .i64 (at_:Int)] 49));have bs:IntKind.i64.wrap (i:Int)=(i:Int):=IntWalk.i64_in _ (by omega);have an:=J (by simpa using P:∀x∈[d],x<9223372036854775808);have ao:Hid (∀x∈[j,i,k,at_],x<9223372036854775808):=J (by intro x ap;simp at ap;rcases ap with rfl|rfl|rfl|rfl<;>omega);have a0:=J (by simpa using Q:∀x∈[m],x<9223372036854775808);refine ik ?_ P U V X Q Y K p L;clear P U V X Q Y K p L;intro P U V X Q Y K p L;have D:Hid (∀w',Below a.heap.size a w'->w'.cell? ⟨g,1,none⟩=some (.int .i64 (d:Int))/\w'.cell? ⟨g,2,none⟩=some (.int .i64 (j:Int))/\w'.cell? ⟨g,3,none⟩=some (.int .u32 (i:Int))/\w'.cell? ⟨g,4,none⟩=some (.int .i64 (k:Int))/\w'.cell? ⟨g,6,none⟩=some (.int .i64 (at_:Int))):=J λW ab=>by have q:=b.below ab S;exact⟨q.cell 1,q.cell 2,q.cell 3,q.cell 4,q.cell 6⟩
 have s:Hid (∀w',Below a.heap.size a w'->w'.cell? ⟨g,0,none⟩=some (.string (str n))/\w'.cell? ⟨g,5,none⟩=some (.int .i64 (m:Int))):=J λW ab=>by have q:=b.below ab S;exact⟨q.cell 0,q.cell 5⟩
 replace b:=J b;replace C:=J C;go_enter Tryz.func66,Tryz.ntmps66;go_upto_region 1 with(fail)
 rw[<-Z.o,<-L.o];have a1:23+(str n).size<=140737488351232:=by rw[dV];omega
 have ac:=J (by rw[aq,cU,cU];rfl:(bP 1 [d]++bP 4 [j,i,k,at_]).length=17);have ad:=J (by rw[aq,aq,cU,cU,cU];rfl:(bP 1 [d]++bP 4 [j,i,k,at_]++bP 6 [m]).length=23);have a2:=J (by rw[cU];rfl:(bP 1 [d]).length=1);go_region_held3 (λw'=>w'.cell? ⟨g,1,none⟩=some (.int .i64 (d:Int))/\w'.cell? ⟨g,2,none⟩=some (.int .i64 (j:Int))/\w'.cell? ⟨g,3,none⟩=some (.int .u32 (i:Int))/\w'.cell? ⟨g,4,none⟩=some (.int .i64 (k:Int))/\w'.cell? ⟨g,6,none⟩=some (.int .i64 (at_:Int))) (first|(exact⟨a6,a7,a8,a9,ba⟩)|(with_reducible exact D.o _ t)|(with_reducible exact D.o _ c)|(with_reducible exact D.o _ (c.alloc c.size _))|(with_reducible exact D.o _ (c.alloc c.size _).drew)|go_keep) (first
  |(go_at_call 24;(fail_if_success (clear r));refine(pG _ none 0 0 1 _ [] 3 [d] (RB.nil _ _) #[.int .i64 (d:Int)] (by with_reducible first|exact(ah.new _ _ _).drew|exact((ah.new _ _ _).alloc _).drew|exact(cT _ _ _ _).drew|exact ah.new _ _ _|exact(ah.new _ _ _).alloc _|exact cT _ _ _ _) rfl (by omega) (by simp) (by omega) (by omega) an.o).mono ?_;rintro e bb ⟨b0,rfl,E,u⟩;rw[nil_append,a2.o]at E;have c:Below a.heap.size a bb:=Below.trans (by with_reducible first|exact((Below.refl _ a).alloc (aa _) _).drew|exact(dR a _ _).drew|exact(Below.refl _ a).alloc (aa _) _|exact dR a _ _|exact(Below.refl _ a).drew|exact Below.refl _ a) (u.mono (by simp[World.drew]<;>omega));obtain⟨bc,bd,rfl,r,_,_,_⟩:=E.form;replace E:=J E;replace u:=J u;replace r:=J r)
  |(go_at_call 24;refine(pG _ bc 1 bd 4 _ (bP 1 [d]) 3 [j,i,k,at_] (by with_reducible first|exact r.o|exact ew r.o _|exact cJ r.o _) #[.int .i64 (j:Int),.int .i64 (i:Int),.int .i64 (k:Int),.int .i64 (at_:Int)] (by with_reducible first|exact(ah.new _ _ _).drew|exact ah.new _ _ _|exact((ah.new _ _ _).alloc _).drew.below u.o (by simp[World.drew]<;>omega)|exact(cT _ _ _ _).drew.below u.o (by simp[World.drew]<;>omega)) rfl (by omega) (by simp) (by omega) (by omega) ao.o).mono ?_;rintro e v ⟨b1,rfl,F,G⟩;rw[ac.o]at F;have t:Below a.heap.size a v:=(by with_reducible first|exact c.trans (G.mono c.size)|exact(c.alloc c.size _).trans (G.mono (c.alloc c.size _).size));obtain⟨be,bi,rfl,y,_,_,_⟩:=F.form;have b2:=(s.o _ t).1;have b3:=(s.o _ t).2;have z:=J t;replace F:=J F;replace G:=J G;replace y:=J y))
 all_goals
  go_upto_region 2 with(fail)
  have bv:(v.alloc (.cells #[.int .i64 (m:Int)] 3)).cell? ⟨g,0,none⟩=some (.string (str n)):=(s.o _ (z.o.alloc z.o.size _)).1;go_region_law(first
   |(refine Lib.wp_append_run _ (.tmp 23) (.tmp 25) 23 9 rfl _ _ rfl rfl _ _ ae ?_)
   |(go_simp;go_at_call 24;refine(pG _ be 17 bi 6 _ (bP 1 [d]++bP 4 [j,i,k,at_]) 3 [m] (by with_reducible first|exact y.o|exact ew y.o _|exact cJ y.o _) #[.int .i64 (m:Int)] (by with_reducible first|exact(ah.new _ _ _).drew|exact((ah.new _ _ _).alloc _).drew|exact(cT _ _ _ _).drew|exact ah.new _ _ _|exact(ah.new _ _ _).alloc _|exact cT _ _ _ _) rfl (by omega) (by simp) (by omega) (by omega) a0.o).mono ?_;rintro e wc ⟨b4,rfl,A,M⟩;rw[ad.o]at A;obtain⟨bj,bl,rfl,T,_,_,_⟩:=A.form;have B:Below a.heap.size a wc:=z.o.trans ((Below.trans (by with_reducible first|exact((Below.refl _ v).alloc (aa _) _).drew|exact(dR v _ _).drew|exact(Below.refl _ v).alloc (aa _) _|exact dR v _ _|exact(Below.refl _ v).drew|exact Below.refl _ v) (M.mono (by simp[World.drew]<;>omega))).mono z.o.size);have af:=J (OB.more A (by have:=z.o.size;simp[World.drew]<;>omega):OB wc a.heap.size (.slice bj 23 bl) 23 (bP 1 [d]++bP 4 [j,i,k,at_]++bP 6 [m]));replace M:=J M;replace A:=J A;replace T:=J T;obtain⟨v5,al,ae,N,O⟩:=En wc a.heap.size _ 23 _ af.o (str n) a1 B.size (ty:=23);have H:Hid (∃l,OB al a.heap.size v5 (23+(str n).size) l/\l=dx ⟨n,d,j,i,k,m,at_⟩/\Below a.heap.size a al):=J ⟨_,N,by rw[fW];rfl,B.trans O⟩;have bx:=(s.o _ B).1;replace N:=J N;replace O:=J O))
 all_goals
  obtain⟨b5,a3,bm,bp⟩:=H.o;have am:Hid (dH w (dx ⟨n,d,j,i,k,m,at_⟩) (.returned v5) al):=J (by rw[<-bm];have a4:=C.o.size;refine⟨v5,rfl,?_,C.o.trans (bp.mono a4)⟩;have br:=a3.len;rw[br];exact a3.more a4)
  clear H;go_wp2_with fail;go_ret;exact am.o
def iF(w:World):Prop:=2<w.heap.size/\∃m:Int,w.cell? ⟨2,0,none⟩=some (.int .i64 m)
theorem iF.below{w w':World}(h:iF w)(a:Below w.heap.size w w'):iF w':=by obtain⟨b,m,c⟩:=h;exact⟨aN b a.size,m,(a.cell (p:=⟨2,0,none⟩) b).trans c⟩
def bh(CS:Nat)(f:aX):List UInt8:=if CS=0 then bK [str f.name]else if CS=1 then aP [(f.size:Int)]else if CS=2 then aP [(f.gX:Int)]else aP [(f.crc:Int)]
def xb(p:Nat)(f:aX):Nat:=if p=2 then f.size else if p=3 then f.gX else f.crc
def gG(f:aX):Array Value:=#[.string (str f.name),.int .i64 (f.cI:Int),.int .i64 (f.gX:Int),.int .u32 (f.crc:Int),.int .i64 (f.bR:Int),.int .i64 (f.size:Int),.int .i64 (f.at_:Int)]
theorem Bx(w:World)(g:Nat)(f:aX)(c:f.ok)(d:ah w g 49 (gG f))(i:iF w):Calls Tryz.prog 81 #[.pointer (some ⟨g,0,none⟩)] w (dH w (bK [str f.name])):=by have r:w.cell? ⟨g,0,none⟩=some (.string (str f.name)):=d.cell 0;have j:=(Below.refl w.heap.size w).alloc (aa _) (.cells #[.string (str f.name)] 9);obtain⟨p,m,n⟩:=i.below ((Below.refl w.heap.size w).alloc (aa _) (.cells #[.string (str f.name)] 9));have a:=J (ny none _ 0 1 0 1 [] [str f.name] m _ (RB.nil _ _) (RS.KP w (str f.name) 9) (by omega) (by omega) (by intro t a;simp at a;rw[a,dV];have:=c.name;omega) p n);rw[nil_append]at a;refine bz ?_ d i j c;clear d i j c;intro d i j c;clear n;go_enter Tryz.func81,Tryz.ntmps81;go_wp2_with fail;refine a.o.mono ?_;rintro e q ⟨v,rfl,k,b⟩;have l:Hid (dH w (bK [str f.name]) (.returned v) q):=J ⟨v,rfl,k.more (by simp),j.o.trans (b.mono (by simp))⟩;replace k:=J k;replace b:=J b;go_wp2_with fail;go_ret;exact l.o
theorem Bz(w:World)(g:Nat)(f:aX)(c:f.ok)(a:ah w g 49 (gG f)):Calls Tryz.prog 82 #[.pointer (some ⟨g,0,none⟩)] w (dH w (aP [(xb 2 f:Int)])):=by have q:=c.crc;obtain⟨r,s,m,d,t,n,at_⟩:=f;simp only[gG]at *;have y:w.cell? ⟨g,2,none⟩=some (.int .i64 (m:Int)):=a.cell 2;have A:w.cell? ⟨g,3,none⟩=some (.int .u32 (d:Int)):=a.cell 3;have c5:w.cell? ⟨g,5,none⟩=some (.int .i64 (n:Int)):=a.cell 5;have x:IntKind.i64.wrap (d:Int)=(d:Int):=IntWalk.i64_in _ (by omega);obtain⟨z,j⟩:∃z:Nat,z=xb 2 ⟨r,s,m,d,t,n,at_⟩:=⟨_,rfl⟩;have i:=(Below.refl w.heap.size w).alloc (aa _) (.cells #[.int .i64 (z:Int)] 3);have p:=J (rE none _ 0 1 0 1 [] [(z:Int)] _ (RB.nil _ _) (RI.lits w [(z:Int)] 3 1 rfl) (by omega) (by omega));rw[nil_append]at p;rw[<-j];simp[xb]at j;subst j;refine bf ?_ a i c;clear a i c;intro a i c;clear q;go_enter Tryz.func82,Tryz.ntmps82;go_wp2_with fail;refine p.o.mono ?_;rintro e u ⟨v,rfl,k,b⟩;have l:=J (show dH w _ (.returned v) u from⟨v,rfl,k.more (by simp),i.o.trans (b.mono (by simp))⟩);replace k:=J k;replace b:=J b;go_wp2_with fail;go_ret;exact l.o
theorem BA(w:World)(g:Nat)(f:aX)(c:f.ok)(a:ah w g 49 (gG f)):Calls Tryz.prog 83 #[.pointer (some ⟨g,0,none⟩)] w (dH w (aP [(xb 3 f:Int)])):=by have q:=c.crc;obtain⟨r,s,m,d,t,n,at_⟩:=f;simp only[gG]at *;have y:w.cell? ⟨g,2,none⟩=some (.int .i64 (m:Int)):=a.cell 2;have A:w.cell? ⟨g,3,none⟩=some (.int .u32 (d:Int)):=a.cell 3;have c5:w.cell? ⟨g,5,none⟩=some (.int .i64 (n:Int)):=a.cell 5;have x:IntKind.i64.wrap (d:Int)=(d:Int):=IntWalk.i64_in _ (by omega);obtain⟨z,j⟩:∃z:Nat,z=xb 3 ⟨r,s,m,d,t,n,at_⟩:=⟨_,rfl⟩;have i:=(Below.refl w.heap.size w).alloc (aa _) (.cells #[.int .i64 (z:Int)] 3);have p:=J (rE none _ 0 1 0 1 [] [(z:Int)] _ (RB.nil _ _) (RI.lits w [(z:Int)] 3 1 rfl) (by omega) (by omega));rw[nil_append]at p;rw[<-j];simp[xb]at j;subst j;refine bf ?_ a i c;clear a i c;intro a i c;clear q;go_enter Tryz.func83,Tryz.ntmps83;go_wp2_with fail;refine p.o.mono ?_;rintro e u ⟨v,rfl,k,b⟩;have l:=J (show dH w _ (.returned v) u from⟨v,rfl,k.more (by simp),i.o.trans (b.mono (by simp))⟩);replace k:=J k;replace b:=J b;go_wp2_with fail;go_ret;exact l.o
theorem BB(w:World)(g:Nat)(f:aX)(c:f.ok)(a:ah w g 49 (gG f)):Calls Tryz.prog 84 #[.pointer (some ⟨g,0,none⟩)] w (dH w (aP [(xb 4 f:Int)])):=by have q:=c.crc;obtain⟨r,s,m,d,t,n,at_⟩:=f;simp only[gG]at *;have y:w.cell? ⟨g,2,none⟩=some (.int .i64 (m:Int)):=a.cell 2;have A:w.cell? ⟨g,3,none⟩=some (.int .u32 (d:Int)):=a.cell 3;have c5:w.cell? ⟨g,5,none⟩=some (.int .i64 (n:Int)):=a.cell 5;have x:IntKind.i64.wrap (d:Int)=(d:Int):=IntWalk.i64_in _ (by omega);obtain⟨z,j⟩:∃z:Nat,z=xb 4 ⟨r,s,m,d,t,n,at_⟩:=⟨_,rfl⟩;have i:=(Below.refl w.heap.size w).alloc (aa _) (.cells #[.int .i64 (z:Int)] 3);have p:=J (rE none _ 0 1 0 1 [] [(z:Int)] _ (RB.nil _ _) (RI.lits w [(z:Int)] 3 1 rfl) (by omega) (by omega));rw[nil_append]at p;rw[<-j];simp[xb]at j;subst j;refine bf ?_ a i c;clear a i c;intro a i c;clear q;go_enter Tryz.func84,Tryz.ntmps84;go_wp2_with fail;refine p.o.mono ?_;rintro e u ⟨v,rfl,k,b⟩;have l:=J (show dH w _ (.returned v) u from⟨v,rfl,k.more (by simp),i.o.trans (b.mono (by simp))⟩);replace k:=J k;replace b:=J b;go_wp2_with fail;go_ret;exact l.o
theorem LY(g:Nat):∀a,(Instr.index 161 (.agg #[.func (Fn.func 81) #[] #[.pointer (some ⟨g,0,none⟩)],.func (Fn.func 82) #[] #[.pointer (some ⟨g,0,none⟩)],.func (Fn.func 83) #[] #[.pointer (some ⟨g,0,none⟩)],.func (Fn.func 84) #[] #[.pointer (some ⟨g,0,none⟩)]]) (.int .i64 0)).run Tryz.prog a=.ok (#[Value.func (Fn.func 81) #[] #[.pointer (some ⟨g,0,none⟩)],.func (Fn.func 82) #[] #[.pointer (some ⟨g,0,none⟩)],.func (Fn.func 83) #[] #[.pointer (some ⟨g,0,none⟩)],.func (Fn.func 84) #[] #[.pointer (some ⟨g,0,none⟩)]][0]!) a:=λ_=>by kernel_rfl
theorem LZ(g:Nat):∀a,(Instr.index 161 (.agg #[.func (Fn.func 81) #[] #[.pointer (some ⟨g,0,none⟩)],.func (Fn.func 82) #[] #[.pointer (some ⟨g,0,none⟩)],.func (Fn.func 83) #[] #[.pointer (some ⟨g,0,none⟩)],.func (Fn.func 84) #[] #[.pointer (some ⟨g,0,none⟩)]]) (.int .i64 1)).run Tryz.prog a=.ok (#[Value.func (Fn.func 81) #[] #[.pointer (some ⟨g,0,none⟩)],.func (Fn.func 82) #[] #[.pointer (some ⟨g,0,none⟩)],.func (Fn.func 83) #[] #[.pointer (some ⟨g,0,none⟩)],.func (Fn.func 84) #[] #[.pointer (some ⟨g,0,none⟩)]][1]!) a:=λ_=>by kernel_rfl
theorem L6(g:Nat):∀a,(Instr.index 161 (.agg #[.func (Fn.func 81) #[] #[.pointer (some ⟨g,0,none⟩)],.func (Fn.func 82) #[] #[.pointer (some ⟨g,0,none⟩)],.func (Fn.func 83) #[] #[.pointer (some ⟨g,0,none⟩)],.func (Fn.func 84) #[] #[.pointer (some ⟨g,0,none⟩)]]) (.int .i64 2)).run Tryz.prog a=.ok (#[Value.func (Fn.func 81) #[] #[.pointer (some ⟨g,0,none⟩)],.func (Fn.func 82) #[] #[.pointer (some ⟨g,0,none⟩)],.func (Fn.func 83) #[] #[.pointer (some ⟨g,0,none⟩)],.func (Fn.func 84) #[] #[.pointer (some ⟨g,0,none⟩)]][2]!) a:=λ_=>by kernel_rfl
theorem L7(g:Nat):∀a,(Instr.index 161 (.agg #[.func (Fn.func 81) #[] #[.pointer (some ⟨g,0,none⟩)],.func (Fn.func 82) #[] #[.pointer (some ⟨g,0,none⟩)],.func (Fn.func 83) #[] #[.pointer (some ⟨g,0,none⟩)],.func (Fn.func 84) #[] #[.pointer (some ⟨g,0,none⟩)]]) (.int .i64 3)).run Tryz.prog a=.ok (#[Value.func (Fn.func 81) #[] #[.pointer (some ⟨g,0,none⟩)],.func (Fn.func 82) #[] #[.pointer (some ⟨g,0,none⟩)],.func (Fn.func 83) #[] #[.pointer (some ⟨g,0,none⟩)],.func (Fn.func 84) #[] #[.pointer (some ⟨g,0,none⟩)]][3]!) a:=λ_=>by kernel_rfl
theorem gD(w:World)(f:aX)(d:f.ok)(n:iF w)(CS:Nat)(p:CS<4):Calls Tryz.prog 36 #[.int .i64 (CS:Int),.agg #[.string (str f.name),.int .i64 (f.cI:Int),.int .i64 (f.gX:Int),.int .u32 (f.crc:Int),.int .i64 (f.bR:Int),.int .i64 (f.size:Int),.int .i64 (f.at_:Int)]] w (dH w (bh CS f)):=by
 have k:=(Below.refl w.heap.size w).alloc (aa _) (.cells (gG f) 49);have g:ah (w.alloc (.cells (gG f) 49)) w.heap.size 49 (gG f):=ah.new w 49 _;have j:=n.below k;have b:Hid (∀e i l,dH (w.alloc (.cells (gG f) 49)) l e i->dH w l e i):=J λe i l ⟨v,a,c,q⟩=>⟨v,a,c.more (by simp),k.trans (q.mono (by simp))⟩;have r:=J (Bx _ w.heap.size f d g j);have s:=J (Bz _ w.heap.size f d g);have t:=J (BA _ w.heap.size f d g);have u:=J (BB _ w.heap.size f d g);refine bX ?_ k g n j d;clear k g n j d;intro k g n j d
 match CS,p with
 |0,_=>
  have m:=LY w.heap.size
  go_enter Tryz.func36,Tryz.ntmps36
  go_wp2_with fail
  refine r.o.mono ?_
  rintro e i a
  have c:=J (b.o _ _ _ a)
  obtain⟨v,rfl,_,_⟩:=a
  go_wp2_with fail
  go_ret
  exact c.o
 |1,_=>
  have m:=LZ w.heap.size
  go_enter Tryz.func36,Tryz.ntmps36
  go_wp2_with fail
  refine s.o.mono ?_
  rintro e i a
  have c:=J (b.o _ _ _ a)
  obtain⟨v,rfl,_,_⟩:=a
  go_wp2_with fail
  go_ret
  exact c.o
 |2,_=>
  have m:=L6 w.heap.size
  go_enter Tryz.func36,Tryz.ntmps36
  go_wp2_with fail
  refine t.o.mono ?_
  rintro e i a
  have c:=J (b.o _ _ _ a)
  obtain⟨v,rfl,_,_⟩:=a
  go_wp2_with fail
  go_ret
  exact c.o
 |3,_=>
  have m:=L7 w.heap.size
  go_enter Tryz.func36,Tryz.ntmps36
  go_wp2_with fail
  refine u.o.mono ?_
  rintro e i a
  have c:=J (b.o _ _ _ a)
  obtain⟨v,rfl,_,_⟩:=a
  go_wp2_with fail
  go_ret
  exact c.o
theorem CT(k:Nat):∀(a:List Nat) (i:Nat) (n:Nat),a[i]?=some n->((bP k a).drop (k*i)).take k=leB k n
 |[],i,n,h=>by simp at h
 |x::b,0,n,h=>by
  have e:x=n:=by simpa using h
  subst e
  unfold bP
  rw[flatMap_cons,Nat.mul_zero,drop_zero,take_append_of_le_length (by rw[bq];exact aa _),bQ (by rw[bq];exact aa _)]
 |x::b,i+1,n,h=>by
  have ih:=CT k b i n (by simpa using h)
  unfold bP at ih⊢
  rw[flatMap_cons,mul_succ,Nat.add_comm,<-drop_drop,drop_left' (bq k x)]
  exact ih
theorem mK(k:Nat)(a:List Nat)(i n:Nat)(h:a[i]?=some n)(b:n<256^k):fH (((bP k a).drop (k*i)).take k)=n:=by rw[CT k a i n h,fV,mod_eq_of_lt b]
def zn(w:World)(a:ByteArray)(b c d n3 n4:Nat)(e:Ending)(w':World):Prop:=e=.returned (.tuple #[.agg #[.string a,.int .i64 (b:Int),.int .i64 (c:Int),.int .i64 (d:Int),.int .i64 (n3:Int),.int .i64 (n4:Int)],.int .i64 0])/\Below w.heap.size w w'
def upTo(i j n:Nat):Value:=.int .i64 ((if j<i then n else 0:Nat):Int)
structure ry (w:World) (g:Nat) (path:ByteArray) (n0 n1 n2 n3 n4:Nat) (i:Nat) (wx:World):Prop where
 r:ah wx g 54 zA
 a:ah wx (g+1) 54 #[.string path,upTo i 0 n0,upTo i 1 n1,upTo i 2 n2,upTo i 3 n3,.int .i64 0]
 b:ah wx (g+2) 3 #[upTo i 4 n4]
 s:ah wx (g+3) 165 #[.pointer (some ⟨g+1,1,none⟩),.pointer (some ⟨g+1,2,none⟩),.pointer (some ⟨g+1,3,none⟩),.pointer (some ⟨g+1,4,none⟩),.pointer (some ⟨g+2,0,none⟩)]
 bl:Below w.heap.size w wx
theorem ry.below{w e w':World}{g:Nat}{c:ByteArray}{f j k n3 n4 i:Nat}(h:ry w g c f j k n3 n4 i e)(d:Below e.heap.size e w'):ry w g c f j k n3 n4 i w':=⟨h.r.below d h.r.lt,h.a.below d h.a.lt,h.b.below d h.b.lt,h.s.below d h.s.lt,h.bl.trans (d.mono h.bl.size)⟩
theorem ry.ptr{w u:World}{g:Nat}{c:ByteArray}{d f l n3 n4 i:Nat}(h:ry w g c d f l n3 n4 i u)(D:w.heap.size<=g)(y:i<5):∃P:Addr,u.cell? ⟨g+3,i,none⟩=some (.pointer (some P))/\∀w',ry w g c d f l n3 n4 i w'->(∃v,w'.cell? P=some v)/\w'.frozen? P=false/\∀n:Nat,[d,f,l,n3,n4][i]?=some n->ry w g c d f l n3 n4 (i+1) (w'.setCell P (.int .i64 (n:Int))):=by
 have key:∀(k:Nat) (z:1<=k/\k<=4) (w':World) (n:Nat),ry w g c d f l n3 n4 i w'->∀t,t=(#[.string c,upTo i 0 d,upTo i 1 f,upTo i 2 l,upTo i 3 n3,.int .i64 0]:Array Value).setIfInBounds k (.int .i64 (n:Int))->t=#[.string c,upTo (i+1) 0 d,upTo (i+1) 1 f,upTo (i+1) 2 l,upTo (i+1) 3 n3,.int .i64 0]->upTo (i+1) 4 n4=upTo i 4 n4->ry w g c d f l n3 n4 (i+1) (w'.setCell ⟨g+1,k,none⟩ (.int .i64 (n:Int))):=λk z w' n q t A B C=>by have m:R (λj=>j=g+1) w' (w'.setCell ⟨g+1,k,none⟩ (.int .i64 (n:Int))):=(R.refl (λj=>j=g+1) w').setCell (p:=⟨g+1,k,none⟩) (λ_=>rfl) _;refine⟨m.blk q.r (by omega),?_,by rw[C];exact m.blk q.b (by omega),m.blk q.s (by omega),q.bl.trans (m.below (λj e=>by omega) q.bl.size)⟩;have x:=q.a.aK k (.int .i64 (n:Int));rw[<-A,B]at x;exact x
 match i,y with
 |0,_=>exact⟨⟨g+1,1,none⟩,h.s.cell 0,λw' q=>⟨⟨_,q.a.cell 1⟩,q.a.frozen 1,λn o=>by
  obtain rfl:d=n:=by simpa using o
  exact key 1 (by omega) w' _ q _ rfl rfl rfl⟩⟩
 |1,_=>exact⟨⟨g+1,2,none⟩,h.s.cell 1,λw' q=>⟨⟨_,q.a.cell 2⟩,q.a.frozen 2,λn o=>by
  obtain rfl:f=n:=by simpa using o
  exact key 2 (by omega) w' _ q _ rfl rfl rfl⟩⟩
 |2,_=>exact⟨⟨g+1,3,none⟩,h.s.cell 2,λw' q=>⟨⟨_,q.a.cell 3⟩,q.a.frozen 3,λn o=>by
  obtain rfl:l=n:=by simpa using o
  exact key 3 (by omega) w' _ q _ rfl rfl rfl⟩⟩
 |3,_=>exact⟨⟨g+1,4,none⟩,h.s.cell 3,λw' q=>⟨⟨_,q.a.cell 4⟩,q.a.frozen 4,λn o=>by
  obtain rfl:n3=n:=by simpa using o
  exact key 4 (by omega) w' _ q _ rfl rfl rfl⟩⟩
 |4,_=>
  refine⟨⟨g+2,0,none⟩,h.s.cell 4,λw' q=>⟨⟨_,q.b.cell 0⟩,q.b.frozen 0,λn o=>?_⟩⟩
  have m:R (λj=>j=g+2) w' (w'.setCell ⟨g+2,0,none⟩ (.int .i64 (n:Int))):=(R.refl (λj=>j=g+2) w').setCell (p:=⟨g+2,0,none⟩) (λ_=>rfl) _
  obtain rfl:n4=n:=by simpa using o
  exact⟨m.blk q.r (by omega),m.blk q.a (by omega),q.b.aK 0 _,m.blk q.s (by omega),q.bl.trans (m.below (λj e=>by omega) q.bl.size)⟩
theorem uN(w:World)(f:ByteArray)(A:Option Addr)(c l m s n3 n4:Nat)(Z:RB w w.heap.size A 30 (bP 6 [l,m,s,n3,n4]))(S:30<=c)(ab:l<281474976710656)(ac:m<281474976710656)(ad:s<281474976710656)(ae:n3<281474976710656)(af:n4<281474976710656):Calls Tryz.prog 38 #[.string f,.slice A 30 c] w (zn w f l m s n3 n4):=by
 obtain⟨g,H⟩:=I (w.heap.size);have u:w.heap.size<=g:=by omega
 obtain⟨a7,B⟩:=I ((((w.alloc (.cells #[.string ⟨#[]⟩,.int .i64 0,.int .i64 0,.int .i64 0,.int .i64 0,.int .i64 0] 54)).alloc (.cells #[.string f,.int .i64 0,.int .i64 0,.int .i64 0,.int .i64 0,.int .i64 0] 54)).alloc (.cells #[.int .i64 0] 3)).alloc (.cells #[.pointer (some ⟨w.heap.size+1,1,none⟩),.pointer (some ⟨w.heap.size+1,2,none⟩),.pointer (some ⟨w.heap.size+1,3,none⟩),.pointer (some ⟨w.heap.size+1,4,none⟩),.pointer (some ⟨w.heap.size+2,0,none⟩)] 165));have W:Hid (ry w g f l m s n3 n4 0 a7):=J (by
  subst H;rw[B];refine⟨(((ah.new w 54 _).alloc _).alloc _).alloc _,((cT w _ 54 _).alloc _).alloc _,?_,?_,((((Below.refl _ w).alloc (aa _) _).alloc (by simp) _).alloc (by simp<;>omega) _).alloc (by simp<;>omega) _⟩
  ·have q:=ah.new ((w.alloc (.cells #[.string ⟨#[]⟩,.int .i64 0,.int .i64 0,.int .i64 0,.int .i64 0,.int .i64 0] 54)).alloc (.cells #[.string f,.int .i64 0,.int .i64 0,.int .i64 0,.int .i64 0,.int .i64 0] 54)) 3 #[.int .i64 0];rw[World.size_alloc,World.size_alloc]at q;exact q.alloc _
  ·have q:=ah.new (((w.alloc (.cells #[.string ⟨#[]⟩,.int .i64 0,.int .i64 0,.int .i64 0,.int .i64 0,.int .i64 0] 54)).alloc (.cells #[.string f,.int .i64 0,.int .i64 0,.int .i64 0,.int .i64 0,.int .i64 0] 54)).alloc (.cells #[.int .i64 0] 3)) 165 #[.pointer (some ⟨w.heap.size+1,1,none⟩),.pointer (some ⟨w.heap.size+1,2,none⟩),.pointer (some ⟨w.heap.size+1,3,none⟩),.pointer (some ⟨w.heap.size+1,4,none⟩),.pointer (some ⟨w.heap.size+2,0,none⟩)];rw[World.size_alloc,World.size_alloc,World.size_alloc]at q;exact q)
 have k:Hid (∀(i n:Nat) (z:World),i<5->[l,m,s,n3,n4][i]?=some n->Below w.heap.size w z->Calls Tryz.prog 86 #[.slice A 30 c,.int .i64 ((6*i:Nat):Int),.int .i64 6] z (qf n 0 z)):=J λi n z a8 x al=>by
  have q:=jR z A 30 c (6*i) 6 _ ((Z.below al).more al.size) S (by omega) (by omega) (by omega) (by omega);rw[mK 6 _ i n x (by
   have a9:(256:Nat)^6=281474976710656:=by decide
   rw[a9];have am:=bu x;simp only[mem_cons,not_mem_nil,or_false]at am;rcases am with rfl|rfl|rfl|rfl|rfl<;>assumption)]at q
  exact q
 replace Z:=J Z;have bp:(30:Int)<=(c:Int):=by omega
 refine eD ?_ S ab ac ad ae af u;clear S ab ac ad ae af u;intro S ab ac ad ae af u;have an:Hid (w.heap.size=g):=J H.symm;have ao:w.heap.size=g:=H.symm;replace H:=J H;replace B:=J B;clear ao;go_enter Tryz.func38,Tryz.ntmps38;go_upto_region 4 with(fail)
 rw[<-B.o,an.o];go_wp2_with fail;go_loopw [20] (λv20 z=>∃i:Nat,v20=.int .i64 (i:Int)/\i<=5/\Hid (ry w g f l m s n3 n4 i z)) (λv20 _=>5-(intOf v20).toNat)
 case atStart=>exact⟨0,rfl,by omega,W⟩
 case round=>
  obtain⟨i,rfl,a8,T⟩:=hrel;clear W;by_cases K:i<5
  ·obtain⟨P,ba,L⟩:=T.o.ptr u.o K;obtain⟨n,x⟩:∃n,[l,m,s,n3,n4][i]?=some n:=⟨_,ak (by simpa using K)⟩;have M:=J (k.o i n wr K x T.o.bl);obtain⟨X,U⟩:∃X:Nat,X=6*i:=⟨_,rfl⟩;rw[<-U]at M;have C:(6:Int)*(i:Int)=(X:Int):=by omega
   have ap:IntKind.i64.wrap ((6:Int)*(i:Int))=(X:Int):=by rw[C];exact IntWalk.i64_in _ (by omega)
   have br:(i:Int)<5:=by omega
   have bs:(0:Int)<=(i:Int):=by omega
   replace L:Hid _:=J L;refine bz ?_ x U C k;clear x U C k;intro x U C k;go_wp2_with fail;go_at_call 86;refine M.o.mono ?_;rintro e a1 ⟨rfl,N⟩;obtain⟨⟨bv,bx⟩,bA,D⟩:=L.o a1 (T.o.below N);have V:=J (D n x.o:ry w g f l m s n3 n4 (i+1) (a1.setCell P (.int .i64 (n:Int))));replace N:=J N;clear M ap ba D;go_wp2_with fail;go_roundw
   case rel=>exact⟨i+1,by go_num,by omega,V⟩
   case measure=>simp only[intOf];omega
  ·obtain rfl:i=5:=by omega
   have d:=T.o;have a0:wr.cell? ⟨g+1,0,none⟩=some (.string f):=d.a.cell 0;have bB:wr.cell? ⟨g+1,1,none⟩=some (.int .i64 (l:Int)):=d.a.cell 1;have b0:wr.cell? ⟨g+1,2,none⟩=some (.int .i64 (m:Int)):=d.a.cell 2;have a3:wr.cell? ⟨g+1,3,none⟩=some (.int .i64 (s:Int)):=d.a.cell 3;have a4:wr.cell? ⟨g+1,4,none⟩=some (.int .i64 (n3:Int)):=d.a.cell 4;have a5:wr.cell? ⟨g+1,5,none⟩=some (.int .i64 0):=d.a.cell 5;have b1:wr.cell? ⟨g+2,0,none⟩=some (.int .i64 (n4:Int)):=d.b.cell 0;have b2:=d.a.frozen 5;have b3:wr.cell? ⟨g,0,none⟩=some (.string ⟨#[]⟩):=d.r.cell 0;have b4:wr.cell? ⟨g,1,none⟩=some (.int .i64 0):=d.r.cell 1;have b5:wr.cell? ⟨g,2,none⟩=some (.int .i64 0):=d.r.cell 2;have y3:wr.cell? ⟨g,3,none⟩=some (.int .i64 0):=d.r.cell 3;have y4:wr.cell? ⟨g,4,none⟩=some (.int .i64 0):=d.r.cell 4;have b6:wr.cell? ⟨g,5,none⟩=some (.int .i64 0):=d.r.cell 5;have b7:=d.r.frozen 0;have b8:=d.r.frozen 1;have b9:=d.r.frozen 2;have ca:=d.r.frozen 3;have cb:=d.r.frozen 4;have f5:=d.r.frozen 5;have O:R (λj=>w.heap.size<=j) w wr:=(R.ag d.bl).mono λ_ _ h=>h;have E:=d.r;have y:=d.bl;refine bX ?_ d k O E y;clear d k O E y;intro d k O E y;go_wp2_with fail;obtain⟨F,Q⟩:=I (wr.setCell ⟨g+1,5,none⟩ (.int .i64 (n4:Int)));rw[<-Q];have a2:ah F g 54 zA:=by rw[Q];exact((R.refl (λj=>j=g+1) wr).setCell (p:=⟨g+1,5,none⟩) (λ_=>rfl) _).blk E.o (by omega)
   have Y:Below w.heap.size w F:=by rw[Q];exact y.o.trans (((R.refl (λj=>j=g+1) wr).setCell (p:=⟨g+1,5,none⟩) (λ_=>rfl) _).below (λj e=>by have:=u.o;omega) y.o.size)
   have bb:R (λj=>j=g) F ((((((F.setCell ⟨g,0,none⟩ (.string f)).setCell ⟨g,1,none⟩ (.int .i64 (l:Int))).setCell ⟨g,2,none⟩ (.int .i64 (m:Int))).setCell ⟨g,3,none⟩ (.int .i64 (s:Int))).setCell ⟨g,4,none⟩ (.int .i64 (n3:Int))).setCell ⟨g,5,none⟩ (.int .i64 (n4:Int))):=((((((R.refl (λj=>j=g) F).setCell (p:=⟨g,0,none⟩) (λ_=>rfl) _).setCell (p:=⟨g,1,none⟩) (λ_=>rfl) _).setCell (p:=⟨g,2,none⟩) (λ_=>rfl) _).setCell (p:=⟨g,3,none⟩) (λ_=>rfl) _).setCell (p:=⟨g,4,none⟩) (λ_=>rfl) _).setCell (p:=⟨g,5,none⟩) (λ_=>rfl) _
   have t:=(((((a2.aK 0 (.string f)).aK 1 (.int .i64 (l:Int))).aK 2 (.int .i64 (m:Int))).aK 3 (.int .i64 (s:Int))).aK 4 (.int .i64 (n3:Int))).aK 5 (.int .i64 (n4:Int));refine bodyPost_ret (v:=.tuple #[.agg #[.string f,.int .i64 (l:Int),.int .i64 (m:Int),.int .i64 (s:Int),.int .i64 (n3:Int),.int .i64 (n4:Int)],.int .i64 0]) ?_ rfl ⟨rfl,Y.trans (bb.below (λj e=>by have:=u.o;omega) Y.size)⟩;obtain⟨G,a6⟩:=I (((((((F.setCell ⟨g,0,none⟩ (.string f)).setCell ⟨g,1,none⟩ (.int .i64 (l:Int))).setCell ⟨g,2,none⟩ (.int .i64 (m:Int))).setCell ⟨g,3,none⟩ (.int .i64 (s:Int))).setCell ⟨g,4,none⟩ (.int .i64 (n3:Int))).setCell ⟨g,5,none⟩ (.int .i64 (n4:Int))));rw[<-a6]at t⊢;have bc:G.cell? ⟨g,0,none⟩=some (.string f):=t.cell 0;have bd:G.cell? ⟨g,1,none⟩=some (.int .i64 (l:Int)):=t.cell 1;have be:G.cell? ⟨g,2,none⟩=some (.int .i64 (m:Int)):=t.cell 2;have bi:G.cell? ⟨g,3,none⟩=some (.int .i64 (s:Int)):=t.cell 3;have bj:G.cell? ⟨g,4,none⟩=some (.int .i64 (n3:Int)):=t.cell 4;have bm:G.cell? ⟨g,5,none⟩=some (.int .i64 (n4:Int)):=t.cell 5;simp[results,Tryz.results38,go_sem,bc,bd,be,bi,bj,bm]
theorem uO{W:World}{B n c:Nat}{A:Option Addr}{l:List UInt8}(h:RB W B A n l):(convert 23 9 (.slice A n c)).run Tryz.prog W=.ok (.string (str l)) W:=by
 cases A with
 |none=>
  have f:l=[]:=by
   by_cases m:0<n
   ·obtain⟨d,e,_⟩:=h.2 m;cases e
   ·have:=h.len;exact bT (by omega)
  subst f
  rw[run_convert_bytes_nil W 23 5 Tryz.underlying23 Tryz.underlying5 n c 9 Tryz.underlying9]
  rfl
 |some d=>
  have g:=h.len
  have f:(loadCells d n).run Tryz.prog W=.ok ((l.map λb=>(b.toNat:Int)).map (Value.int .u8)).toArray W:=by
   have:=run_loadCells_list (P:=Tryz.prog) W d ((l.map λb=>(b.toNat:Int)).map (Value.int .u8)) (λj v i=>by have a:=(ay.1 i).1;simp at a;obtain⟨p,e,_,o⟩:=h.elem (k:=j) (by omega) a;injection e with e;subst e;rw[o];simp[ak a]at i;rw[<-i])
   simpa[g]using this
  rw[run_convert_bytes_string W 23 9 5 _ n c Tryz.underlying23 Tryz.underlying5 Tryz.underlying9,run_bytesToString W d n c _ f,foldl_push_bytes]
  congr 2
  simp only[ByteArray.empty,ByteArray.emptyWithCapacity,str,map_map]
  congr 1
  refine Array.toList_inj.1 ?_
  simp only[Array.toList_append]
  show[]++l.map _=l
  rw[nil_append]
  conv=>rhs;rw[<-map_id l]
  refine map_congr_left λx _=>?_
  simp
theorem sU{d:Type}(a b c:List d)(j k:Nat)(h:j+k<=b.length):((a++b++c).drop (a.length+j)).take k=(b.drop j).take k:=by rw[av,<-drop_drop,drop_left,drop_append_of_le_length (by omega),take_append_of_le_length (by rw[aQ];omega)]
structure aX.small (f:aX):Prop where
 cI:f.cI<256
 gX:f.gX<4294967296
 crc:f.crc<4294967296
 bR:f.bR<4294967296
 size:f.size<281474976710656
 at_:f.at_<4294967296
 name:1<=f.name.length/\f.name.length<=1000
theorem CU(f:aX)(h:f.cI<256):fH (((dx f).drop 0).take 1)=f.cI:=by
 have e:dx f=[]++bP 1 [f.cI]++(bP 4 [f.gX,f.crc,f.bR,f.at_]++(bP 6 [f.size]++f.name)):=by unfold dx;simp only[av,nil_append]
 rw[e];have a:=sU ([]:List UInt8) (bP 1 [f.cI]) (bP 4 [f.gX,f.crc,f.bR,f.at_]++(bP 6 [f.size]++f.name)) 0 1 (by rw[cU];simp);simp only[length_nil,Nat.zero_add]at a;rw[a];have b:=mK 1 [f.cI] 0 f.cI rfl (by omega)
 rwa [Nat.mul_zero]at b
theorem pH(f:aX)(i n:Nat)(b:[f.gX,f.crc,f.bR,f.at_][i]?=some n)(h:n<4294967296):fH (((dx f).drop (1+4*i)).take 4)=n:=by
 have c:=(ay.1 b).1;simp at c;have e:dx f=bP 1 [f.cI]++bP 4 [f.gX,f.crc,f.bR,f.at_]++(bP 6 [f.size]++f.name):=by unfold dx;simp only[av]
 rw[e];have a:=sU (bP 1 [f.cI]) (bP 4 [f.gX,f.crc,f.bR,f.at_]) (bP 6 [f.size]++f.name) (4*i) 4 (by rw[cU];simp;omega);rw[cU]at a;simp only[length_cons,length_nil,Nat.zero_add,Nat.mul_one]at a;rw[a];exact mK 4 _ i n b h
theorem CV(f:aX)(h:f.size<281474976710656):fH (((dx f).drop 17).take 6)=f.size:=by
 have e:dx f=(bP 1 [f.cI]++bP 4 [f.gX,f.crc,f.bR,f.at_])++bP 6 [f.size]++f.name:=rfl;rw[e];have a:=sU (bP 1 [f.cI]++bP 4 [f.gX,f.crc,f.bR,f.at_]) (bP 6 [f.size]) f.name 0 6 (by rw[cU];simp);rw[aq,cU,cU]at a;simp only[length_cons,length_nil,Nat.zero_add,Nat.mul_one,Nat.add_zero]at a;rw[a]
 have b:=mK 6 [f.size] 0 f.size rfl (by have c:(256:Nat)^6=281474976710656:=(by decide);omega)
 rwa [Nat.mul_zero]at b
theorem sV(f:aX):(dx f).drop 23=f.name:=by unfold dx;refine drop_left' ?_;simp only[aq,cU,length_cons,length_nil]
theorem BC(f:aX):(dx f).length=23+f.name.length:=by unfold dx;simp only[aq,cU,length_cons,length_nil]
def uP(w:World)(f:aX)(e:Ending)(w':World):Prop:=e=.returned (.tuple #[.agg #[.string (str f.name),.int .i64 (f.cI:Int),.int .i64 (f.gX:Int),.int .u32 (f.crc:Int),.int .i64 (f.bR:Int),.int .i64 (f.size:Int),.int .i64 (f.at_:Int)],.int .i64 0])/\Below w.heap.size w w'
def zF:Array Value:=#[.string ⟨#[]⟩,.int .i64 0,.int .i64 0,.int .u32 0,.int .i64 0,.int .i64 0,.int .i64 0]
structure ug (w:World) (g:Nat) (f:aX) (i:Nat) (wx:World):Prop where
 r:ah wx g 49 zF
 a:ah wx (g+1) 49 #[.string ⟨#[]⟩,.int .i64 (f.cI:Int),.int .i64 0,.int .u32 0,.int .i64 0,.int .i64 0,.int .i64 0]
 b:ah wx (g+2) 168 #[upTo i 0 f.gX,upTo i 1 f.crc,upTo i 2 f.bR,upTo i 3 f.at_]
 bl:Below w.heap.size w wx
theorem ug.below{w d w':World}{g:Nat}{f:aX}{i:Nat}(h:ug w g f i d)(c:Below d.heap.size d w'):ug w g f i w':=⟨h.r.below c h.r.lt,h.a.below c h.a.lt,h.b.below c h.b.lt,h.bl.trans (c.mono h.bl.size)⟩
theorem ug.next{w c:World}{g:Nat}{f:aX}{i n:Nat}(h:ug w g f i c)(o:w.heap.size<=g)(d:[f.gX,f.crc,f.bR,f.at_][i]?=some n):(∃v,c.cell? ⟨g+2,i,none⟩=some v)/\ug w g f (i+1) (c.setCell ⟨g+2,i,none⟩ (.int .i64 (n:Int))):=by
 have l:=(ay.1 d).1;simp at l;have m:R (λj=>j=g+2) c (c.setCell ⟨g+2,i,none⟩ (.int .i64 (n:Int))):=(R.refl (λj=>j=g+2) c).setCell (p:=⟨g+2,i,none⟩) (λ_=>rfl) _;have k:=h.b.aK i (.int .i64 (n:Int));refine⟨?_,m.blk h.r (by omega),m.blk h.a (by omega),?_,h.bl.trans (m.below (λj e=>by omega) h.bl.size)⟩
 ·rw[h.b.cell]
  match i,l with
  |0,_|1,_|2,_|3,_=>exact⟨_,rfl⟩
 ·match i,l with
  |0,_=>obtain rfl:f.gX=n:=by simpa using d
        exact k
  |1,_=>obtain rfl:f.crc=n:=by simpa using d
        exact k
  |2,_=>obtain rfl:f.bR=n:=by simpa using d
        exact k
  |3,_=>obtain rfl:f.at_=n:=by simpa using d
        exact k
theorem BD(w:World)(A:Option Addr)(n c:Nat)(f:aX)(M:f.small)(a6:RB w w.heap.size A n (dx f))(al:n<=c):Calls Tryz.prog 41 #[.slice A n c] w (uP w f):=by
 have a7:n=23+f.name.length:=by rw[<-BC];exact a6.len.symm
 have a8:=M.name;obtain⟨g,am⟩:=I (w.heap.size);have N:w.heap.size<=g:=by omega
 obtain⟨a9,L⟩:=I (((w.alloc (.cells #[.string ⟨#[]⟩,.int .i64 0,.int .i64 0,.int .u32 0,.int .i64 0,.int .i64 0,.int .i64 0] 49)).alloc (.cells #[.string ⟨#[]⟩,.int .i64 0,.int .i64 0,.int .u32 0,.int .i64 0,.int .i64 0,.int .i64 0] 49)).alloc (.cells #[.int .i64 0,.int .i64 0,.int .i64 0,.int .i64 0] 168));have S:Below w.heap.size w a9:=by rw[L];exact(((Below.refl _ w).alloc (aa _) _).alloc (by simp) _).alloc (by simp<;>omega) _
 have ba:ah a9 g 49 zF:=by rw[L,am];exact((ah.new w 49 _).alloc _).alloc _
 have bb:ah a9 (g+1) 49 zF:=by rw[L,am];exact(cT w _ 49 _).alloc _
 have br:ah a9 (g+2) 168 #[.int .i64 0,.int .i64 0,.int .i64 0,.int .i64 0]:=by rw[L,am];have q:=ah.new ((w.alloc (.cells #[.string ⟨#[]⟩,.int .i64 0,.int .i64 0,.int .u32 0,.int .i64 0,.int .i64 0,.int .i64 0] 49)).alloc (.cells #[.string ⟨#[]⟩,.int .i64 0,.int .i64 0,.int .u32 0,.int .i64 0,.int .i64 0,.int .i64 0] 49)) 168 #[.int .i64 0,.int .i64 0,.int .i64 0,.int .i64 0];rw[World.size_alloc,World.size_alloc]at q;exact q
 have O:Hid (∀l,Below w.heap.size w l->RB l l.heap.size A n (dx f)):=J λl Q=>(a6.below Q).more Q.size;have ck:Hid (∀l,Below w.heap.size w l->Calls Tryz.prog 86 #[.slice A n c,.int .i64 0,.int .i64 1] l (qf f.cI 0 l)):=J λl Q=>by have q:=jR l A n c 0 1 _ (O.o l Q) al (by omega) (by omega) (by omega) (by omega);rw[CU f M.cI]at q;exact q
 have cl:Hid (∀(i m:Nat) (l:World),[f.gX,f.crc,f.bR,f.at_][i]?=some m->Below w.heap.size w l->Calls Tryz.prog 86 #[.slice A n c,.int .i64 ((1+4*i:Nat):Int),.int .i64 4] l (qf m 0 l)):=J λi m l Z Q=>by
  have cm:=(ay.1 Z).1;simp at cm;have q:=jR l A n c (1+4*i) 4 _ (O.o l Q) al (by omega) (by omega) (by omega) (by omega);rw[pH f i m Z (by have bc:=bu Z;simp only[mem_cons,not_mem_nil,or_false]at bc;have:=M.gX;have:=M.crc;have:=M.bR;have:=M.at_;rcases bc with rfl|rfl|rfl|rfl<;>assumption)]at q
  exact q
 have cn:Hid (∀l,Below w.heap.size w l->Calls Tryz.prog 86 #[.slice A n c,.int .i64 17,.int .i64 6] l (qf f.size 0 l)):=J λl Q=>by have q:=jR l A n c 17 6 _ (O.o l Q) al (by omega) (by omega) (by omega) (by omega);rw[CV f M.size]at q;exact q
 obtain⟨cf,ab⟩:=I (n-23);obtain⟨cg,ao⟩:=I (c-23);have co:Hid (∀l,Below w.heap.size w l->(convert 23 9 (.slice (A.map λx=>x.add 23) cf cg)).run Tryz.prog l=.ok (.string (str f.name)) l):=J λl Q=>by have q:=(O.o l Q).cutAt (k:=23) (c:=c) (by omega) al (by omega);rw[sV,<-ab]at q;exact uO q
 have c3:∃H,A=some H:=by obtain⟨H,e,_⟩:=a6.2 (by omega);exact⟨H,e⟩
 obtain⟨H,rfl⟩:=c3;have cp:Hid (∀l,(Instr.slice 23 (.slice (some H) n c) (some (.int .i64 23)) none none).run Tryz.prog l=.ok (.slice ((some H).map λx=>x.add 23) cf cg) l):=J λl=>by
  have c4:(23:Int)<=(n:Int):=by omega
  have c5:¬c=23:=by omega
  obtain⟨i0,b5,dv,cr,dy⟩:=info_parts eB;simp[Instr.slice,Sem.run_bind,run_underlying Tryz.underlying23,Instr.sliceBounds,Instr.sliceBound,asIntOf,sizeOf,typeInfo,b5,cr,c4,c5,ab,ao,go_sem];try omega
 obtain⟨ch,ac⟩:=I (f.cI);have bd:Hid (∀l,Below w.heap.size w l->ah l g 49 zF->ah l (g+1) 49 zF->ah l (g+2) 168 #[.int .i64 0,.int .i64 0,.int .i64 0,.int .i64 0]->ug w g f 0 (l.setCell ⟨g+1,1,none⟩ (.int .i64 (ch:Int)))):=J λl cs c6 c7 c8=>by have be:R (λj=>j=g+1) l (l.setCell ⟨g+1,1,none⟩ (.int .i64 (ch:Int))):=(R.refl (λj=>j=g+1) l).setCell (p:=⟨g+1,1,none⟩) (λ_=>rfl) _;refine⟨be.blk c6 (by omega),?_,be.blk c8 (by omega),cs.trans (be.below (λj e=>by omega) cs.size)⟩;rw[<-ac];exact c7.aK 1 _
 have T:=ck.o a9 S;rw[<-ac]at T;refine aR ?_ T a6 al M a7 a8 N ac ab ao S ba bb;clear T a6 al M a7 a8 N ac ab ao S ba bb;intro T a6 al M a7 a8 N ac ab ao S ba bb;replace br:=J br;have ct:Hid (w.heap.size=g):=J am.symm;refine bf ?_ am L O;clear am L O;intro am L O;go_enter Tryz.func41,Tryz.ntmps41;go_upto_region 3 with(fail)
 rw[<-L.o,ct.o];go_wp2_with fail;go_at_call 86;refine T.o.mono ?_;rintro e ci ⟨rfl,U⟩;have ad:=bb.o.below U bb.o.lt;have c9:ci.cell? ⟨g+1,1,none⟩=some (.int .i64 0):=ad.cell 1;have da:=ad.frozen 1;have b6:=J (bd.o ci (S.o.trans (U.mono S.o.size)) (ba.o.below U ba.o.lt) ad (br.o.below U br.o.lt):ug w g f 0 (ci.setCell ⟨g+1,1,none⟩ (.int .i64 (ch:Int))));replace ad:=J ad;replace U:=J U;clear T bd;go_wp2_with fail;go_loopw [15] (λbi l=>∃i:Nat,bi=.int .i64 (i:Int)/\i<=4/\Hid (ug w g f i l)) (λbi _=>4-(intOf bi).toNat)
 case atStart=>exact⟨0,rfl,by omega,b6⟩
 case round=>
  obtain⟨i,rfl,cm,bs⟩:=hrel;clear b6 c9 da;by_cases cv:i<4
  ·obtain⟨m,Z⟩:∃m,[f.gX,f.crc,f.bR,f.at_][i]?=some m:=⟨_,ak (by simpa using cv)⟩;have bj:=J (cl.o i m wr Z bs.o.bl);obtain⟨X,bv⟩:∃X:Nat,X=1+4*i:=⟨_,rfl⟩;rw[<-bv]at bj;obtain⟨Y,cj⟩:∃Y:Nat,Y=4*i:=⟨_,rfl⟩;have ap:(4:Int)*(i:Int)=(Y:Int):=by omega
   have cw:IntKind.i64.wrap ((4:Int)*(i:Int))=(Y:Int):=by rw[ap];exact IntWalk.i64_in _ (by omega)
   have a1:(1:Int)+(Y:Int)=(X:Int):=by omega
   have cx:IntKind.i64.wrap ((1:Int)+(Y:Int))=(X:Int):=by rw[a1];exact IntWalk.i64_in _ (by omega)
   have dT:(i:Int)<4:=by omega
   have b5:(0:Int)<=(i:Int):=by omega
   refine bX ?_ Z bv cj a1 ap;clear Z bv cj a1 ap;intro Z bv cj a1 ap;go_wp2_with fail;go_at_call 86;refine bj.o.mono ?_;rintro e s ⟨rfl,P⟩;have d:=bs.o.below P;obtain⟨⟨d0,d1⟩,a2⟩:=d.next N.o Z.o
   have d2:=d.b.frozen i;have bx:Hid (ug w g f (i+1) (s.setCell ⟨g+2,i,none⟩ (.int .i64 (m:Int)))):=J a2;replace d:=J d;replace P:=J P;clear bj cx cw a2;go_wp2_with fail;go_roundw
   case rel=>exact⟨i+1,by go_num,by omega,bx⟩
   case measure=>simp only[intOf];omega
  ·obtain rfl:i=4:=by omega
   have bm:=J (cn.o wr bs.o.bl);obtain⟨G,D,y,u,B,E,at_⟩:=f;simp only at *;go_wp2_with fail;go_at_call 86;refine bm.o.mono ?_;rintro e s ⟨rfl,P⟩;have d:=bs.o.below P;have K:Hid (∀W,R (λj=>j=g+1) s W->(convert 23 9 (.slice (some ⟨H.block,H.off+23,none⟩) cf cg)).run Tryz.prog W.drew=.ok (.string (str G)) W.drew):=J λW be=>by
    have bc:=co.o W.drew (d.bl.trans (be.below (λj e=>by have:=N.o;omega) d.bl.size)).drew
    rwa [show(some H).map (λx=>x.add 23)=some ⟨H.block,H.off+23,none⟩from rfl]at bc
   have bA:=K.o s (R.refl (λj=>j=g+1) s);have bB:=K.o (s.setCell ⟨g+1,2,none⟩ (.int .i64 (y:Int))) ((R.refl (λj=>j=g+1) s).setCell (p:=⟨g+1,2,none⟩) (λ_=>rfl) (.int .i64 (y:Int)));have b0:=K.o ((s.setCell ⟨g+1,2,none⟩ (.int .i64 (y:Int))).setCell ⟨g+1,3,none⟩ (.int .u32 (u:Int))) (((R.refl (λj=>j=g+1) s).setCell (p:=⟨g+1,2,none⟩) (λ_=>rfl) (.int .i64 (y:Int))).setCell (p:=⟨g+1,3,none⟩) (λ_=>rfl) (.int .u32 (u:Int)));have b1:=K.o (((s.setCell ⟨g+1,2,none⟩ (.int .i64 (y:Int))).setCell ⟨g+1,3,none⟩ (.int .u32 (u:Int))).setCell ⟨g+1,4,none⟩ (.int .i64 (B:Int))) ((((R.refl (λj=>j=g+1) s).setCell (p:=⟨g+1,2,none⟩) (λ_=>rfl) (.int .i64 (y:Int))).setCell (p:=⟨g+1,3,none⟩) (λ_=>rfl) (.int .u32 (u:Int))).setCell (p:=⟨g+1,4,none⟩) (λ_=>rfl) (.int .i64 (B:Int)));have b2:=K.o ((((s.setCell ⟨g+1,2,none⟩ (.int .i64 (y:Int))).setCell ⟨g+1,3,none⟩ (.int .u32 (u:Int))).setCell ⟨g+1,4,none⟩ (.int .i64 (B:Int))).setCell ⟨g+1,6,none⟩ (.int .i64 (at_:Int))) (((((R.refl (λj=>j=g+1) s).setCell (p:=⟨g+1,2,none⟩) (λ_=>rfl) (.int .i64 (y:Int))).setCell (p:=⟨g+1,3,none⟩) (λ_=>rfl) (.int .u32 (u:Int))).setCell (p:=⟨g+1,4,none⟩) (λ_=>rfl) (.int .i64 (B:Int))).setCell (p:=⟨g+1,6,none⟩) (λ_=>rfl) (.int .i64 (at_:Int)));have b3:=K.o (((((s.setCell ⟨g+1,2,none⟩ (.int .i64 (y:Int))).setCell ⟨g+1,3,none⟩ (.int .u32 (u:Int))).setCell ⟨g+1,4,none⟩ (.int .i64 (B:Int))).setCell ⟨g+1,6,none⟩ (.int .i64 (at_:Int))).setCell ⟨g+1,5,none⟩ (.int .i64 (E:Int))) ((((((R.refl (λj=>j=g+1) s).setCell (p:=⟨g+1,2,none⟩) (λ_=>rfl) (.int .i64 (y:Int))).setCell (p:=⟨g+1,3,none⟩) (λ_=>rfl) (.int .u32 (u:Int))).setCell (p:=⟨g+1,4,none⟩) (λ_=>rfl) (.int .i64 (B:Int))).setCell (p:=⟨g+1,6,none⟩) (λ_=>rfl) (.int .i64 (at_:Int))).setCell (p:=⟨g+1,5,none⟩) (λ_=>rfl) (.int .i64 (E:Int)));have bp:=cp.o;rw[show(some H).map (λx=>x.add 23)=some ⟨H.block,H.off+23,none⟩from rfl]at bp;obtain⟨d3,cy⟩:=I (s);have db:s.cell? ⟨g+2,0,none⟩=some (.int .i64 (y:Int)):=d.b.cell 0;have dc:s.cell? ⟨g+2,1,none⟩=some (.int .i64 (u:Int)):=d.b.cell 1;have dd:s.cell? ⟨g+2,2,none⟩=some (.int .i64 (B:Int)):=d.b.cell 2;have de:s.cell? ⟨g+2,3,none⟩=some (.int .i64 (at_:Int)):=d.b.cell 3;have a0:s.cell? ⟨g+1,0,none⟩=some (.string ⟨#[]⟩):=d.a.cell 0;have cz:s.cell? ⟨g+1,1,none⟩=some (.int .i64 (D:Int)):=d.a.cell 1;have cA:s.cell? ⟨g+1,2,none⟩=some (.int .i64 0):=d.a.cell 2;have a3:s.cell? ⟨g+1,3,none⟩=some (.int .u32 0):=d.a.cell 3;have a4:s.cell? ⟨g+1,4,none⟩=some (.int .i64 0):=d.a.cell 4;have a5:s.cell? ⟨g+1,5,none⟩=some (.int .i64 0):=d.a.cell 5;have cB:s.cell? ⟨g+1,6,none⟩=some (.int .i64 0):=d.a.cell 6;have cD:=d.a.frozen 0;have cE:=d.a.frozen 1;have cH:=d.a.frozen 2;have cK:=d.a.frozen 3;have cL:=d.a.frozen 4;have cM:=d.a.frozen 5;have cP:=d.a.frozen 6;have cS:s.cell? ⟨g,0,none⟩=some (.string ⟨#[]⟩):=d.r.cell 0;have cV:s.cell? ⟨g,1,none⟩=some (.int .i64 0):=d.r.cell 1;have cX:s.cell? ⟨g,2,none⟩=some (.int .i64 0):=d.r.cell 2;have y3:s.cell? ⟨g,3,none⟩=some (.int .u32 0):=d.r.cell 3;have y4:s.cell? ⟨g,4,none⟩=some (.int .i64 0):=d.r.cell 4;have cY:s.cell? ⟨g,5,none⟩=some (.int .i64 0):=d.r.cell 5;have c0:s.cell? ⟨g,6,none⟩=some (.int .i64 0):=d.r.cell 6;have b7:=d.r.frozen 0;have b8:=d.r.frozen 1;have b9:=d.r.frozen 2;have ca:=d.r.frozen 3;have cb:=d.r.frozen 4;have cc:=d.r.frozen 5;have ce:=d.r.frozen 6;have c1:IntKind.u32.wrap (u:Int)=(u:Int):=by have bc:u<4294967296:=M.o.crc;exact IntWalk.u32_in _ (by omega)
   replace d:=J d;replace P:=J P;clear bm cy;go_wp2_with fail;go_upto_region 12 with(fail)
   go_region
   obtain⟨z,V⟩:=I (((((((s.setCell ⟨g+1,2,none⟩ (.int .i64 (y:Int))).setCell ⟨g+1,3,none⟩ (.int .u32 (u:Int))).setCell ⟨g+1,4,none⟩ (.int .i64 (B:Int))).setCell ⟨g+1,6,none⟩ (.int .i64 (at_:Int))).setCell ⟨g+1,5,none⟩ (.int .i64 (E:Int))).setCell ⟨g+1,0,none⟩ (.string (str G))).drew);rw[<-V];have ae:R (λj=>j=g+1) s z:=by rw[V];exact(((((((R.refl (λj=>j=g+1) s).setCell (p:=⟨g+1,2,none⟩) (λ_=>rfl) (.int .i64 (y:Int))).setCell (p:=⟨g+1,3,none⟩) (λ_=>rfl) (.int .u32 (u:Int))).setCell (p:=⟨g+1,4,none⟩) (λ_=>rfl) (.int .i64 (B:Int))).setCell (p:=⟨g+1,6,none⟩) (λ_=>rfl) (.int .i64 (at_:Int))).setCell (p:=⟨g+1,5,none⟩) (λ_=>rfl) (.int .i64 (E:Int))).setCell (p:=⟨g+1,0,none⟩) (λ_=>rfl) (.string (str G))).drew
   have t:ah z g 49 zF:=ae.blk d.o.r (by omega);have af:Below w.heap.size w z:=d.o.bl.trans (ae.below (λj e=>by have:=N.o;omega) d.o.bl.size);have F:ah z (g+1) 49 #[.string (str G),.int .i64 (D:Int),.int .i64 (y:Int),.int .u32 (u:Int),.int .i64 (B:Int),.int .i64 (E:Int),.int .i64 (at_:Int)]:=by rw[V];exact((((((d.o.a.aK 2 (.int .i64 (y:Int))).aK 3 (.int .u32 (u:Int))).aK 4 (.int .i64 (B:Int))).aK 6 (.int .i64 (at_:Int))).aK 5 (.int .i64 (E:Int))).aK 0 (.string (str G))).drew
   have b4:Hid (uP w ⟨G,D,y,u,B,E,at_⟩ (.returned (.tuple #[.agg #[.string (str G),.int .i64 (D:Int),.int .i64 (y:Int),.int .u32 (u:Int),.int .i64 (B:Int),.int .i64 (E:Int),.int .i64 (at_:Int)],.int .i64 0])) (((((((z.setCell ⟨g,0,none⟩ (.string (str G))).setCell ⟨g,1,none⟩ (.int .i64 (D:Int))).setCell ⟨g,2,none⟩ (.int .i64 (y:Int))).setCell ⟨g,3,none⟩ (.int .u32 (u:Int))).setCell ⟨g,4,none⟩ (.int .i64 (B:Int))).setCell ⟨g,5,none⟩ (.int .i64 (E:Int))).setCell ⟨g,6,none⟩ (.int .i64 (at_:Int)))):=J ⟨rfl,af.trans (((((((((R.refl (λj=>j=g) z).setCell (p:=⟨g,0,none⟩) (λ_=>rfl) _).setCell (p:=⟨g,1,none⟩) (λ_=>rfl) _).setCell (p:=⟨g,2,none⟩) (λ_=>rfl) _).setCell (p:=⟨g,3,none⟩) (λ_=>rfl) _).setCell (p:=⟨g,4,none⟩) (λ_=>rfl) _).setCell (p:=⟨g,5,none⟩) (λ_=>rfl) _).setCell (p:=⟨g,6,none⟩) (λ_=>rfl) _).below (λj e=>by have:=N.o;omega) af.size)⟩;have C:ah (((((((z.setCell ⟨g,0,none⟩ (.string (str G))).setCell ⟨g,1,none⟩ (.int .i64 (D:Int))).setCell ⟨g,2,none⟩ (.int .i64 (y:Int))).setCell ⟨g,3,none⟩ (.int .u32 (u:Int))).setCell ⟨g,4,none⟩ (.int .i64 (B:Int))).setCell ⟨g,5,none⟩ (.int .i64 (E:Int))).setCell ⟨g,6,none⟩ (.int .i64 (at_:Int))) g 49 #[.string (str G),.int .i64 (D:Int),.int .i64 (y:Int),.int .u32 (u:Int),.int .i64 (B:Int),.int .i64 (E:Int),.int .i64 (at_:Int)]:=(((((((t.aK 0 (.string (str G))).aK 1 (.int .i64 (D:Int))).aK 2 (.int .i64 (y:Int))).aK 3 (.int .u32 (u:Int))).aK 4 (.int .i64 (B:Int))).aK 5 (.int .i64 (E:Int))).aK 6 (.int .i64 (at_:Int)));clear db dc dd de c1 a0 cz cA a3 a4 a5 cB cD cE cH cK cL cM cP cS cV cX y3 y4 cY c0 b7 b8 b9 ca cb cc ce bA bB b0 b1 b2 b3 bp;have a0:z.cell? ⟨g+1,0,none⟩=some (.string (str G)):=F.cell 0;have cS:z.cell? ⟨g,0,none⟩=some (.string ⟨#[]⟩):=t.cell 0;have b7:=t.frozen 0;have cz:z.cell? ⟨g+1,1,none⟩=some (.int .i64 (D:Int)):=F.cell 1;have cV:z.cell? ⟨g,1,none⟩=some (.int .i64 0):=t.cell 1;have b8:=t.frozen 1;have cA:z.cell? ⟨g+1,2,none⟩=some (.int .i64 (y:Int)):=F.cell 2;have cX:z.cell? ⟨g,2,none⟩=some (.int .i64 0):=t.cell 2;have b9:=t.frozen 2;have a3:z.cell? ⟨g+1,3,none⟩=some (.int .u32 (u:Int)):=F.cell 3;have y3:z.cell? ⟨g,3,none⟩=some (.int .u32 0):=t.cell 3;have ca:=t.frozen 3;have a4:z.cell? ⟨g+1,4,none⟩=some (.int .i64 (B:Int)):=F.cell 4;have y4:z.cell? ⟨g,4,none⟩=some (.int .i64 0):=t.cell 4;have cb:=t.frozen 4;have a5:z.cell? ⟨g+1,5,none⟩=some (.int .i64 (E:Int)):=F.cell 5;have cY:z.cell? ⟨g,5,none⟩=some (.int .i64 0):=t.cell 5;have cc:=t.frozen 5;have cB:z.cell? ⟨g+1,6,none⟩=some (.int .i64 (at_:Int)):=F.cell 6;have c0:z.cell? ⟨g,6,none⟩=some (.int .i64 0):=t.cell 6;have ce:=t.frozen 6;refine dZ ?_ t F ae af V C;clear t F ae af V C;intro t F ae af V C;go_wp2_with fail;refine bodyPost_ret (v:=.tuple #[.agg #[.string (str G),.int .i64 (D:Int),.int .i64 (y:Int),.int .u32 (u:Int),.int .i64 (B:Int),.int .i64 (E:Int),.int .i64 (at_:Int)],.int .i64 0]) ?_ rfl b4.o;replace C:=C.o;obtain⟨an,c2⟩:=I ((((((((z.setCell ⟨g,0,none⟩ (.string (str G))).setCell ⟨g,1,none⟩ (.int .i64 (D:Int))).setCell ⟨g,2,none⟩ (.int .i64 (y:Int))).setCell ⟨g,3,none⟩ (.int .u32 (u:Int))).setCell ⟨g,4,none⟩ (.int .i64 (B:Int))).setCell ⟨g,5,none⟩ (.int .i64 (E:Int))).setCell ⟨g,6,none⟩ (.int .i64 (at_:Int))));rw[<-c2]at C⊢;have dj:an.cell? ⟨g,0,none⟩=some (.string (str G)):=C.cell 0;have dk:an.cell? ⟨g,1,none⟩=some (.int .i64 (D:Int)):=C.cell 1;have dl:an.cell? ⟨g,2,none⟩=some (.int .i64 (y:Int)):=C.cell 2;have dp:an.cell? ⟨g,3,none⟩=some (.int .u32 (u:Int)):=C.cell 3;have ds:an.cell? ⟨g,4,none⟩=some (.int .i64 (B:Int)):=C.cell 4;have dt:an.cell? ⟨g,5,none⟩=some (.int .i64 (E:Int)):=C.cell 5;have du:an.cell? ⟨g,6,none⟩=some (.int .i64 (at_:Int)):=C.cell 6;simp[results,Tryz.results41,go_sem,dj,dk,dl,dp,ds,dt,du]
end Go.Proofs.YtajdeapdgbnahaaGreatDoor
