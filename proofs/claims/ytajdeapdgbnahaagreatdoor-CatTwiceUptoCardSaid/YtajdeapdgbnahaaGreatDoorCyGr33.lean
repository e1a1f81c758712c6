/-
  A new store's pager: contracts of db, log, sectors, there, and of what Open does first.
-/
import Derived.Test.YtajdeapdgbnahaaGreatDoorCyGr32
import Derived.Test.YtajdeapdgbnahaaGreatDoorCyPgB
namespace Go.Proofs.YtajdeapdgbnahaaGreatDoor
set_option linter.unusedVariables false
set_option maxRecDepth 100000
set_option maxHeartbeats 2000000
open Go.RowKit Go.Maps
def qB(c:Nat)(d:List UInt8)(a b:aB)(e gc:Nat)(row:Value)(rd:Nat):Array Value:=
 #[iW c,.string (str d),.int .i64 (a.many : Int),.int .i64 (a.free : Int),.int .i64 (a.roots 0 : Int),.int .i64 (a.roots 1 : Int),.int .i64 (a.roots 2 : Int),.int .i64 (a.roots 3 : Int),.int .i64 (a.roots 4 : Int),.int .i64 (a.roots 5 : Int),.int .i64 (a.roots 6 : Int),.int .i64 (a.roots 7 : Int),
  .int .i64 (b.many:Int),.int .i64 (b.free:Int),.int .i64 (b.roots 0:Int),.int .i64 (b.roots 1:Int),.int .i64 (b.roots 2:Int),.int .i64 (b.roots 3:Int),.int .i64 (b.roots 4:Int),.int .i64 (b.roots 5:Int),.int .i64 (b.roots 6:Int),.int .i64 (b.roots 7:Int),
  .map (some e),.map (some gc),row,.int .i64 (rd:Int),.bool false]
def ku(a:List UInt8):List UInt8:=a++[46,100,98]
def dB(a:List UInt8):List UInt8:=a++[46,108,111,103]
theorem Lj(a:List UInt8):str a++(⟨#[46,100,98]⟩:ByteArray)=str (ku a):=tq a [46,100,98]
theorem JR(a:List UInt8):str a++(⟨#[46,108,111,103]⟩:ByteArray)=str (dB a):=tq a [46,108,111,103]
theorem tu(w:World)(b:Nat)(a:List UInt8)(c:w.cell? ⟨b,1,none⟩=some (.string (str a)))(d:a.length<=20):Calls Tryz.prog 47 #[.pointer (some ⟨b,0,none⟩)] w λe w'=>e=.returned (.string (str (ku a)))/\w=w':=by
 have f:¬9223372036854775807<(str a).size+3:=by rw[dV];omega
 have g:=Lj a;go_enter Tryz.func47,Tryz.ntmps47;go_wp2_with fail;go_ret;exact⟨rfl,rfl⟩
theorem kO(w:World)(b:Nat)(a:List UInt8)(c:w.cell? ⟨b,1,none⟩=some (.string (str a)))(d:a.length<=20):Calls Tryz.prog 49 #[.pointer (some ⟨b,0,none⟩)] w λe w'=>e=.returned (.string (str (dB a)))/\w=w':=by
 have f:¬9223372036854775807<(str a).size+4:=by rw[dV];omega
 have g:=JR a;go_enter Tryz.func49,Tryz.ntmps49;go_wp2_with fail;go_ret;exact⟨rfl,rfl⟩
theorem mO(w:World)(n:Nat)(c:n<=1000000000):Calls Tryz.prog 142 #[.int .i64 (n:Int)] w λe w'=>e=.returned (.int .i64 (((n+63)/64:Nat):Int))/\w=w':=by
 obtain⟨D,a⟩:=I ((n+63)/64);rw[<-a];have b:((n:Int)+64-1)/64=(D:Int):=by omega
 replace b:=J b;replace a:=J a;go_enter Tryz.func142,Tryz.ntmps142;go_wp2_with fail;go_ret;exact⟨bV b.o,rfl⟩
theorem uS(w:World)(i f:Nat)(g:List UInt8)(m:w.cell? ⟨i,0,none⟩=some (.pointer (some ⟨f,0,none⟩)))(j:Ending->World->Prop)(a:Calls Tryz.prog 89 #[.pointer (some ⟨f,0,none⟩),.string (str g)] w λe w'=>e=.returned (.tuple #[.int .i64 0,.bool false])/\w=w')
 (b:Calls Tryz.prog 90 #[.pointer (some ⟨f,0,none⟩),.string (str g)] w j) (d:∀e w',j e w'->e=.returned (.int .i64 0)):
 Calls Tryz.prog 46 #[.pointer (some ⟨i,0,none⟩),.string (str g)] w j:=by
 refine bf ?_ a b d;clear a b d;intro a b d;go_enter Tryz.func46,Tryz.ntmps46;go_wp2_with fail;refine a.o.mono ?_;rintro e n ⟨rfl,rfl⟩;go_wp2_with fail;refine b.o.mono ?_;intro e k c;have l:=d.o e k c;subst l;replace c:=J c;go_wp2_with fail;first|exact c.o|(go_ret;exact c.o)
theorem Eu(w:World)(g c:Nat)(d:List UInt8)(p:w.cell? ⟨g,0,none⟩=some (.pointer (some ⟨c,0,none⟩)))(l:w.cell? ⟨c,1,none⟩=some (.string (str d)))(m:d.length<=20)(i:Ending->World->Prop)(a:∀q,Calls Tryz.prog 46 #[.pointer (some ⟨c,0,none⟩),.string (str (ku d))] (w.drewN q) i) (f:∀e w',i e w'->e=.returned (.int .i64 0)):Calls Tryz.prog 45 #[.pointer (some ⟨g,0,none⟩)] w i:=by
 have j:=J (λq=>tu (w.drewN q) c d l m);replace a:=J a;replace f:=J f;go_enter Tryz.func45,Tryz.ntmps45;go_wp2_with fail
 go_region_with (first
  |(go_at_call 47;refine(j.o 1).mono ?_;rintro e k ⟨rfl,rfl⟩)
  |(go_at_call 46;refine(a.o 1).mono ?_;intro e k b;have n:=f.o e k b;subst n;replace b:=J b))
 all_goals
  go_wp2_with fail;first|exact b.o|(go_ret;exact b.o)
theorem Ew(w:World)(g c:Nat)(d:List UInt8)(p:w.cell? ⟨g,0,none⟩=some (.pointer (some ⟨c,0,none⟩)))(l:w.cell? ⟨c,1,none⟩=some (.string (str d)))(m:d.length<=20)(i:Ending->World->Prop)(a:∀q,Calls Tryz.prog 46 #[.pointer (some ⟨c,0,none⟩),.string (str (dB d))] (w.drewN q) i) (f:∀e w',i e w'->e=.returned (.int .i64 0)):Calls Tryz.prog 48 #[.pointer (some ⟨g,0,none⟩)] w i:=by
 have j:=J (λq=>kO (w.drewN q) c d l m);replace a:=J a;replace f:=J f;go_enter Tryz.func48,Tryz.ntmps48;go_wp2_with fail
 go_region_with (first
  |(go_at_call 49;refine(j.o 1).mono ?_;rintro e k ⟨rfl,rfl⟩)
  |(go_at_call 46;refine(a.o 1).mono ?_;intro e k b;have n:=f.o e k b;subst n;replace b:=J b))
 all_goals
  go_wp2_with fail;first|exact b.o|(go_ret;exact b.o)
def uT(st:aB):Array Value:=#[.int .i64 (st.many:Int),.int .i64 (st.free:Int),.int .i64 (st.roots 0:Int),.int .i64 (st.roots 1:Int),.int .i64 (st.roots 2:Int),.int .i64 (st.roots 3:Int),.int .i64 (st.roots 4:Int),.int .i64 (st.roots 5:Int),.int .i64 (st.roots 6:Int),.int .i64 (st.roots 7:Int)]
def xo(st:aB):List Nat:=[st.roots 0,st.roots 1,st.roots 2,st.roots 3,st.roots 4,st.roots 5,st.roots 6,st.roots 7]
def jy(st:aB):List UInt8:=([105,113,100,98]++bP 4 [st.many,st.free])++bP 4 (xo st)
theorem uU(st:aB):(jy st).length=44:=by simp[jy,xo,bP,bq]
theorem ld(w:World)(g n c:Nat)(C:Array Value)(h:w.heap[g]?=some (.cells C 5 (0,0))):∃w',(convert 23 23 (.slice (some ⟨g,0,none⟩) n c)).run Tryz.prog w=.ok (.slice (some ⟨g,0,none⟩) n c) w'/\(∀i,w'.cell? ⟨g,i,none⟩=C[i]?)/\R (λj=>j=g) w w':=by
 have a:w.shape? g=some (5,C.size):=by unfold World.shape?;rw[h]
 have d:=Tryz.underlying23;have f:=Tryz.underlying5;refine⟨w.freeze ⟨g,C.size,none⟩ 1,?_,λi=>?_,?_⟩
 ·simp[convert,run_underlying d,run_underlying f,markStringish,a]
 ·have l:(w.freeze ⟨g,C.size,none⟩ 1).heap[g]?=some (.cells C 5 (C.size,C.size+1)):=by unfold World.freeze;rw[if_neg (by decide)];show(w.heap.modify g _)[g]?=_;rw[Array.getElem?_modify,if_pos rfl,h];rfl
  exact cell_of_row _ g i C 5 _ l
 ·refine⟨rfl,rfl,rfl,?_,λk m b=>?_⟩
  ·unfold World.freeze;rw[if_neg (by decide)];simp
  ·unfold World.freeze;rw[if_neg (by decide)];show(w.heap.modify g _)[k]?=_;rw[Array.getElem?_modify,if_neg (λe=>b e.symm)]
structure ME (Wh wz:World) (bm bi:Nat) (st:aB):Prop where
 mark:RB wz wz.heap.size (some ⟨bm,0,none⟩) 4 [105,113,100,98]
 nm:RN wz wz.heap.size (some ⟨bi,0,none⟩) 2 [st.many,st.free]
 be:Below Wh.heap.size Wh wz
theorem tz{w:World}{g m:Nat}{l:List UInt8}(h:∀i u,(bv l)[i]?=some u->w.cell? ⟨g,i,none⟩=some u)(b:l.length=m)(c:g<w.heap.size):RB w w.heap.size (some ⟨g,0,none⟩) m l:=by
 refine⟨by rw[dn,b,Nat.mul_one],λ_=>⟨_,rfl,c,λj u d=>?_⟩⟩;have e:(Addr.mk g 0 none).add j=⟨g,j,none⟩:=by
  unfold Addr.add;by_cases a:j=0
  ·subst a;rfl
  ·rw[if_neg a];simp
 rw[e];exact h j u d
theorem zy{w:World}{g o m:Nat}{l:List Nat}(h:∀i u,(l.map encI)[i]?=some u->w.cell? ⟨g,o+i,none⟩=some u)(a:l.length=m)(b:g<w.heap.size):RN w w.heap.size (some ⟨g,o,none⟩) m l:=by refine⟨by simp[a],λ_=>⟨_,rfl,b,λj u c=>?_⟩⟩;have e:(Addr.mk g o none).add j=⟨g,o+j,none⟩:=Addr.add_mid g o j;rw[e];exact h j u c
def Hl:Op:=Op.convert 23 23 (Operand.tmp 3)
theorem BM(w:World)(st:aB)(a2:st.many<=65536)(a3:st.free<=65536)(m:∀k,st.roots k<=65536):Calls Tryz.prog 179 #[.agg (uT st)] w (iJ w (jy st)):=by
 obtain⟨M,E⟩:∃M:Array Value,M=(bv [105,113,100,98]).toArray:=⟨_,rfl⟩;obtain⟨f,V⟩:∃f:Array Value,f=#[.int .i64 (st.many:Int),.int .i64 (st.free:Int)]:=⟨_,rfl⟩;obtain⟨a,l⟩:=I (w.alloc (.cells (uT st) 112));obtain⟨h,F⟩:=I (w.heap.size);have p:a.heap.size=h+1:=by rw[l,World.size_alloc,F]
 have r:∀(b:World) (g:Nat),(∀i,b.cell? ⟨g,i,none⟩=M[i]?)->g<b.heap.size->RB b b.heap.size (some ⟨g,0,none⟩) 4 [105,113,100,98]:=λb g d T=>tz (λi u j=>by rw[d,E];simpa using j) rfl T;have s:∀(b:World) (g:Nat),(∀i,b.cell? ⟨g,i,none⟩=f[i]?)->g<b.heap.size->RN b b.heap.size (some ⟨g,0,none⟩) 2 [st.many,st.free]:=λb g d T=>zy (λi u j=>by rw[Nat.zero_add,d,V];simpa[encI]using j) rfl T;obtain⟨G,r1,W,t⟩:=ld ((a.alloc (.cells M 5)).drew) (h+1) 4 4 M (by have:=heap_alloc_new a (.cells M 5);rw[p]at this;exact this);obtain⟨X,r2,Y,y⟩:=ld (((a.alloc (.cells M 5)).alloc (.cells f 3)).drew) (h+1) 4 4 M (by have d:=heap_alloc_new a (.cells M 5);rw[p]at d;exact(Below.heap_alloc (a.alloc (.cells M 5)) (.cells f 3) (h+1) (by rw[World.size_alloc,p];omega)).trans d)
 obtain⟨Z,r3,ab,z⟩:=ld (((a.alloc (.cells f 3)).alloc (.cells M 5)).drew) (h+2) 4 4 M (by have d:=heap_alloc_new (a.alloc (.cells f 3)) (.cells M 5);rw[World.size_alloc,p]at d;exact d)
 have am:Hid (ME a (G.alloc (.cells f 3)) (h+1) G.heap.size st):=by
  refine J ⟨r _ _ (λi=>?_) (by have:=t.size;simp at this;simp;omega),s _ _ (λi=>?_) (by simp),?_⟩
  ·rw[World.cell?_alloc_lt _ _ _ (by show h+1<G.heap.size;have:=t.size;simp at this;omega)];exact W i
  ·exact(ah.new G 3 f).cell i
  ·exact(((Below.refl a.heap.size a).alloc (aa _) (.cells M 5)).drew.trans (t.below (λk H=>by omega) (by simp))).alloc (by have:=t.size;simp at this;omega) _
 have an:Hid (ME a X (h+1) (h+2) st):=by
  refine J ⟨r _ _ Y (by have:=y.size;simp at this;omega),s _ _ (λi=>?_) (by have:=y.size;simp at this;omega),?_⟩
  ·have d:=ah.new (a.alloc (.cells M 5)) 3 f;rw[World.size_alloc,p]at d;exact(y.blk (show ah ((a.alloc (.cells M 5)).alloc (.cells f 3)).drew (h+2) 3 f from d) (by omega)).cell i
  ·exact(((Below.refl a.heap.size a).alloc (aa _) (.cells M 5)).alloc (by simp) (.cells f 3)).drew.trans (y.below (λk H=>by omega) (by simp;omega))
 have ao:Hid (ME a Z (h+2) (h+1) st):=by
  refine J ⟨r _ _ ab (by have:=z.size;simp at this;omega),s _ _ (λi=>?_) (by have:=z.size;simp at this;omega),?_⟩
  ·have d:=(ah.new a 3 f).alloc (.cells M 5);rw[p]at d;exact(z.blk (show ah ((a.alloc (.cells f 3)).alloc (.cells M 5)).drew (h+1) 3 f from d) (by omega)).cell i
  ·exact(((Below.refl a.heap.size a).alloc (aa _) (.cells f 3)).alloc (by simp) (.cells M 5)).drew.trans (z.below (λk H=>by omega) (by simp;omega))
 have B:Below w.heap.size w a:=by rw[l];exact(Below.refl w.heap.size w).alloc (aa _) _
 have q:ah a h 112 (uT st):=by rw[l,F];exact ah.new w 112 _
 have ap:Hid (∀b K L,ME a b K L st->Calls Tryz.prog 24 #[.slice (some ⟨K,0,none⟩) 4 4,.int .i64 4,.slice (some ⟨L,0,none⟩) 2 2] b λe w'=>∃A c,e=.returned (.slice A 12 c)/\Hid (RB w' w'.heap.size A 12 ([105,113,100,98]++bP 4 [st.many,st.free])/\Below a.heap.size a w')):=J λb K L n=>by
  refine(eX b (some ⟨K,0,none⟩) (some ⟨L,0,none⟩) 4 4 2 2 4 _ [st.many,st.free] n.mark n.nm (by omega) (by omega) (by omega) (by omega) (by simp;omega)).mono ?_;rintro e w' ⟨v,rfl,N,U⟩;have ac:([105,113,100,98]++bP 4 [st.many,st.free]).length=12:=by simp[bP,bq]
  rw[ac]at N;obtain⟨A,c,rfl,m,_⟩:=N.form;exact⟨A,c,rfl,J ⟨m,n.be.trans (U.mono n.be.size)⟩⟩
 have a0:Hid (∀b A c,(RB b b.heap.size A 12 ([105,113,100,98]++bP 4 [st.many,st.free])/\Below a.heap.size a b)->Calls Tryz.prog 24 #[.slice A 12 c,.int .i64 4,.slice (some ⟨h,2,none⟩) 8 8] b λe w'=>∃v,e=.returned v/\Hid (iJ w (jy st) (.returned v) w'/\Below a.heap.size a w')):=J λb A c n=>by
  have O:ah b h 112 (uT st):=q.below n.2 (by omega);refine(eX b A (some ⟨h,2,none⟩) 12 c 8 8 4 _ (xo st) n.1 (zy (λi u j=>?_) rfl O.lt) (by omega) (by omega) (by omega) (by omega) (λx a1=>?_)).mono ?_
  ·rw[O.cell]
   match i,j with
   |0,j|1,j|2,j|3,j|4,j|5,j|6,j|7,j=>exact j
  ·simp[xo]at a1;have:=m 0;have:=m 1;have:=m 2;have:=m 3;have:=m 4;have:=m 5;have:=m 6;have:=m 7;omega
  ·rintro e w' ⟨v,rfl,N,U⟩;have d:=n.2.trans (U.mono n.2.size);exact⟨v,rfl,J ⟨⟨v,rfl,N.more (by have:=n.2.size;omega),B.trans (d.mono B.size)⟩,d⟩⟩
 have ad:=E;have C:∀b,Below a.heap.size a b->b.cell? ⟨h,0,none⟩=some (.int .i64 (st.many:Int))/\b.cell? ⟨h,1,none⟩=some (.int .i64 (st.free:Int)):=λb ae=>⟨(q.below ae (by omega)).cell 0,(q.below ae (by omega)).cell 1⟩;obtain⟨p0,p1⟩:=C a (Below.refl _ _);obtain⟨p2,a4⟩:=C _ ((Below.refl a.heap.size a).alloc (aa _) (.cells M 5));obtain⟨a5,a6⟩:=C G (((Below.refl a.heap.size a).alloc (aa _) (.cells M 5)).drew.trans (t.below (λk H=>by omega) (by simp)));obtain⟨a7,a8⟩:=C X ((((Below.refl a.heap.size a).alloc (aa _) (.cells M 5)).alloc (by simp) (.cells f 3)).drew.trans (y.below (λk H=>by omega) (by simp;omega)));obtain⟨a9,ba⟩:=C Z ((((Below.refl a.heap.size a).alloc (aa _) (.cells f 3)).alloc (by simp) (.cells M 5)).drew.trans (z.below (λk H=>by omega) (by simp;omega)));have P:=J C;have af:M=#[.int .u8 105,.int .u8 113,.int .u8 100,.int .u8 98]:=by rw[E];rfl
 have D:a=w.alloc (.cells #[.int .i64 (st.many:Int),.int .i64 (st.free:Int),.int .i64 (st.roots 0:Int),.int .i64 (st.roots 1:Int),.int .i64 (st.roots 2:Int),.int .i64 (st.roots 3:Int),.int .i64 (st.roots 4:Int),.int .i64 (st.roots 5:Int),.int .i64 (st.roots 6:Int),.int .i64 (st.roots 7:Int)] 112):=l;clear C r s W Y ab ad;refine eD ?_ q E t y z B l;clear q E t y z B l;intro q E t y z B l;unfold uT;go_enter Tryz.func179,Tryz.ntmps179;go_wp2_with fail;rw[<-D,<-F];replace D:=J D;replace F:=J F;subst af;subst V;have al:Hl=Op.convert 23 23 (Operand.tmp 3):=rfl;rw[<-al];go_region_held3 (λw'=>w'.cell? ⟨h,0,none⟩=some (.int .i64 (st.many:Int))/\w'.cell? ⟨h,1,none⟩=some (.int .i64 (st.free:Int))) (first|go_keep|(exact⟨by assumption,by assumption⟩)|exact P.o _ Q.o.2|exact P.o _ S.o.2) (first
  |(go_at_call 24;refine(a0.o _ _ _ S.o).mono ?_;rintro e bb ⟨v6,rfl,Q⟩)
  |(go_at_call 24;refine(ap.o _ _ _ (by first|exact am.o|exact an.o|exact ao.o)).mono ?_;rintro e bc ⟨bd,c5,rfl,S⟩))
 all_goals
  go_wp2_with fail;go_ret;exact Q.o.1
def Kx(w:World)(a:Nat)(m:Nat->Option Value)(no n:Nat)(l:List UInt8)(e:Ending)(w':World):Prop:=∃g c,e=.returned (.tuple #[])/\dW w' a 65536 (mq m no (some (.slice (some ⟨g,0,none⟩) n c)))/\OB w' w.heap.size (.slice (some ⟨g,0,none⟩) n c) n l/\R (λj=>j=a) w w'/\w.heap.size<=g
theorem BN(w:World)(i b:Nat)(m:Nat->Option Value)(v:w.cell? ⟨i,22,none⟩=some (.map (some b)))(z:dW w b 65536 m)(no:Nat)(G:no<65536)(A:Option Addr)(n c:Nat)(l:List UInt8)(ad:0<n)(ap:n<=508)(B:RB w w.heap.size A n l):Calls Tryz.prog 156 #[.pointer (some ⟨i,0,none⟩),.int .i64 (no:Int),.slice A n c] w (Kx w b m no n l):=by
 have ae:=B.len;obtain⟨i0,H,K,L,M⟩:=info_parts eB;have O:=z.lt;have Q:i<w.heap.size:=World.block_lt_of_cell? w _ v;obtain⟨Z,t⟩:∃Z:Array Value,Z=(bv (bt 508)).toArray:=⟨_,rfl⟩;have af:∀j:World,(Instr.makeSlice 23 (.int .i64 0) (.int .i64 508)).run Tryz.prog j=.ok (.slice (some ⟨j.heap.size,0,none⟩) 0 508) (j.alloc (.cells Z 5)):=λj=>by rw[t];exact kP j 0 (by omega)
 have q:OB (w.drew.alloc (.cells Z 5)) w.heap.size (.slice (some ⟨w.heap.size,0,none⟩) 0 508) 0 []:=by refine⟨by simp[bv],.inr ⟨w.heap.size,508,Z,rfl,aa _,heap_alloc_new w.drew _,by omega,by simp[maxLen],?_,by simp[bv]⟩⟩;rw[t];simp[bv,bt]
 obtain⟨V,u,C,d,x,S⟩:=bN (P:=Tryz.prog) (w.drew.alloc (.cells Z 5)) w.heap.size 23 23 5 i0 _ 1 1 Tryz.underlying23 H K L M rfl (by omega) _ 0 (bv []) q w.heap.size A n c (bv l)
  ((B.drew).alloc (by exact aa _) _) (kU _) (by simp[maxLen];omega) (by omega) (by simp)
 have a:OB u w.heap.size V n l:=by have:=d;unfold OB;simpa[bv]using this
 have f:Below w.heap.size w u:=(((Below.refl w.heap.size w).drew).alloc (aa _) (.cells Z 5)).grown x (by simp) (λk r=>by simp[Value.ownBlock]at r;omega);rcases a.parts with⟨_,T,_⟩|⟨g,cap,rfl,al,am⟩
 ·omega
 have W:w.heap.size<=g:=a.wU;have an:u.cell? ⟨i,22,none⟩=some (.map (some b)):=(f.cell (p:=⟨i,22,none⟩) Q).trans v;obtain⟨X,U,y,s⟩:=(z.keep (f.block b O)).update no G (by omega) (.slice (some ⟨g,0,none⟩) n cap);have D:g<u.heap.size:=by
  rcases a.2 with⟨T,_⟩|⟨a0,Y,ao,ab,_,ac,_⟩
  ·cases T
  ·cases ab;exact ah.lt ac
 have E:b≠g:=by omega
 have F:Hid (Kx w b m no n l (.returned (.tuple #[])) X):=J ⟨g,cap,rfl,y,a.same (s.block g D (λe=>by injection e with e;exact E e.symm)),(R.ag f).grown s (λk r _=>by injection r with r;exact r.symm),W⟩;obtain⟨N,a1⟩:=I (n);clear d x S f a s y z q B;replace t:=J t;go_enter Tryz.func156,Tryz.ntmps156;go_region_law(refine Lib.wp_append_run _ (.tmp 11) (.tmp 12) 23 23 rfl _ _ rfl rfl _ _ C ?_)
 all_goals
  go_end0
  exact F.o
end Go.Proofs.YtajdeapdgbnahaaGreatDoor
