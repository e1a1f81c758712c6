/-
  Sums of 32 bits: contracts of begin, New, Add, Sum, Of.
-/
import Derived.Test.YtajdeapdgbnahaaGreatDoorCyGr12
import Derived.Deep.WholeRow
import Derived.Great.BuildSlice
import Derived.StillTailTactics
namespace Go.Proofs.YtajdeapdgbnahaaGreatDoor
set_option linter.unusedVariables false
set_option maxRecDepth 100000
set_option maxHeartbeats 2000000
open Go.RowKit
open List Nat
def xS(x:Nat):Nat:=if x%2=1 then(x/2) ^^^ 3988292384 else x/2
def xT:Nat->Nat->Nat
 |0,x=>x
 |k+1,x=>xS (xT k x)
def vU(i:Nat):Nat:=xT 4 i
theorem Jb{x:Nat}(h:x<4294967296):xS x<4294967296:=by
 unfold xS;split
 ·exact xor_lt_two_pow (n:=32) (by omega) (by decide)
 ·omega
theorem vV{x:Nat}(h:x<4294967296):∀k,xT k x<4294967296
 |0=>h
 |k+1=>Jb (vV h k)
theorem Cs(i:Nat)(h:i<16):vU i<4294967296:=vV (by omega) 4
def ll(x:Nat):Value:=.int .u32 (x:Int)
def mA(i:Nat):Array Value:=((List.range 16).map λj=>ll (if j<i then vU j else 0)).toArray
theorem dI(i:Nat):(mA i).size=16:=by simp[mA]
theorem oJ(i j:Nat)(a:j<16):(mA i)[j]?=some (ll (if j<i then vU j else 0)):=by unfold mA;simp[a]
theorem Fq(i:Nat)(c:i<16):(mA i).setIfInBounds i (ll (vU i))=mA (i+1):=by
 apply Array.ext';apply ext_getElem?;intro j;rcases aA j 16 with a|a
 ·have d:=oJ (i+1) j a;rw[Array.getElem?_toList,Array.getElem?_toList,d,Array.getElem?_setIfInBounds];by_cases e:i=j
  ·subst e;rw[if_pos rfl,if_pos (by rw[dI];exact c),if_pos (by omega)]
  ·rw[if_neg e,oJ i j a];congr 2;by_cases b:j<i
   ·rw[if_pos b,if_pos (by omega)]
   ·rw[if_neg b,if_neg (by omega)]
 ·rw[getElem?_eq_none (by simp[dI];omega),getElem?_eq_none (by simp[dI];omega)]
theorem Dp:mA 0=#[.int .u32 0,.int .u32 0,.int .u32 0,.int .u32 0,.int .u32 0,.int .u32 0,.int .u32 0,.int .u32 0,.int .u32 0,.int .u32 0,.int .u32 0,.int .u32 0,.int .u32 0,.int .u32 0,.int .u32 0,.int .u32 0]:=by rfl
theorem Fs(i:Nat):(mA i).all (·.oneCell')=true:=by simp[mA,ll,Value.oneCell']
theorem below_setRow{B:Nat}{a w:World}(h:Below B a w){g:Nat}(d:B<=g)(b:Array Value):Below B a (w.setRow g b):=⟨h.os,h.tape,h.output,by simpa[World.setRow]using h.size,λi c=>(setRow_other w g i b (by omega)).trans (h.block i c)⟩
theorem Dq(w:World):Calls Tryz.prog 219 #[] w λe w'=>e=.returned (.agg (mA 16))/\Below w.heap.size w w':=by
 obtain⟨Z,n⟩:=I (mA 0);obtain⟨T,g⟩:=I (mA 16);have a:T.size=16:=by rw[g];exact dI 16
 have x:Hid (T.all (·.oneCell')=true):=by rw[g];exact Fs 16
 have l:Z.size=16:=by rw[n];exact dI 0
 have m:=n;rw[Dp]at m;rw[<-g];refine bz ?_ g n a l;clear g n a l;intro g n a l;go_enter Tryz.func219,Tryz.ntmps219;go_wp2_with fail;rw[<-m];replace m:=J m;go_loopw [2,3,4] (λN v3 v4 t=>∃i:Nat,v4=.int .i64 (i:Int)/\i<=16/\Hid (Below w.heap.size w t/\ah t w.heap.size 301 Z/\ah t (w.heap.size+1) 301 (mA i))) (λ_ _ v4 _=>16-(intOf v4).toNat)
 case atStart=>
  refine⟨0,rfl,by omega,J ⟨?_,?_,?_⟩⟩
  ·exact((Below.refl w.heap.size w).alloc (aa _) _).alloc (by simp) _
  ·exact(ah.new w 301 Z).alloc _
  ·have h:=ah.new (w.alloc (.cells Z 301)) 301 Z;rw[World.size_alloc]at h;rw[<-n.o];exact h
 case round=>
  obtain⟨i,rfl,O,q⟩:=hrel;rcases aA i 16 with z|K
  ·have L:(i:Int)<16:=by omega
   go_wp2_with fail;go_loopw [3,9] (λv3 v9 t=>∃j:Nat,v9=.int .i64 (j:Int)/\j<=4/\v3=.int .u32 ((xT j i:Nat):Int)/\t=wr) (λ_ v9 _=>4-(intOf v9).toNat)
   case atStart=>exact⟨0,rfl,by omega,by simp[xT],rfl⟩
   case round=>
    obtain⟨j,rfl,P,rfl,rfl⟩:=hrel;obtain⟨X,r⟩:=I (xT j i);have D:X<4294967296:=by rw[r];exact vV (by omega) j
    have u:bits .and .u32 (X:Int) 1=((X%2:Nat):Int):=by have h:=u32_and_nat X 1 D (by omega);rw[and_one_is_mod]at h;exact h
    have d:bits .xor .u32 ((X/2:Nat):Int) 3988292384=(((X/2) ^^^ 3988292384:Nat):Int):=u32_xor_nat (X/2) 3988292384 (by omega) (by omega);have s:xT (j+1) i=xS X:=by rw[xT,<-r]
    have f:=J (by omega:(X:Int)/2=((X/2:Nat):Int));replace d:=J d;rw[<-r];replace r:=J r;rcases aA j 4 with G|H
    ·have M:(j:Int)<4:=by omega
     by_cases k:X%2=1
     ·have b:xS X=(X/2) ^^^ 3988292384:=by unfold xS;rw[if_pos k]
      rw[k]at u;replace s:=J s;replace b:=J b;go_wp2_with fail;go_roundw
      case rel=>exact⟨j+1,by simp,by omega,by rw[s.o,b.o];first|rw[f.o,d.o]|rw[f.o],by first|rfl|trivial⟩
      case measure=>simp[intOf];omega
     ·have b:xS X=X/2:=by unfold xS;rw[if_neg k]
      have E:X%2=0:=by omega
      rw[E]at u;replace s:=J s;replace b:=J b;go_wp2_with fail;go_roundw
      case rel=>exact⟨j+1,by simp,by omega,by rw[s.o,b.o];first|rw[f.o,d.o]|rw[f.o],by first|rfl|trivial⟩
      case measure=>simp[intOf];omega
    ·have F:j=4:=by omega
     subst F;have A:Hid (X=vU i):=r;have c:=q.o.2.2;have ci:=(c.cell i).trans (oJ i i z);have Q:=c.frozen i;have y:Hid (Hid (Below w.heap.size w (wr.setCell ⟨w.heap.size+1,i,none⟩ (.int .u32 (X:Int)))/\ah (wr.setCell ⟨w.heap.size+1,i,none⟩ (.int .u32 (X:Int))) w.heap.size 301 Z/\ah (wr.setCell ⟨w.heap.size+1,i,none⟩ (.int .u32 (X:Int))) (w.heap.size+1) 301 (mA (i+1)))):=by refine J (J ⟨q.o.1.setCell (p:=⟨w.heap.size+1,i,none⟩) (by simp) _,q.o.2.1.far (p:=⟨w.heap.size+1,i,none⟩) (by simp) _,?_⟩);have h:=c.aK i (ll X);rw[A.o,Fq i z,<-A.o]at h;exact h
     replace c:=J c;go_wp2_with fail;go_roundw
     case rel=>exact⟨i+1,by simp,by omega,y.o⟩
     case measure=>simp[intOf];omega
  ·have C:i=16:=by omega
   subst C;have c:=q.o.2.2;rw[<-g.o]at c;replace c:=J c;have B:=J q.o.2.1;go_wp2_with(first
    |refine wpList_load_row rfl 301 (.tmp 1) rfl (w.heap.size+1) rfl 301 T (0,0) _ c.o Tryz.underlying301 rfl (by rw[a.o];kernel_rfl) ?_
    |refine wpList_store_rowTo rfl 301 (.tmp 0) (.tmp 24) rfl rfl w.heap.size T rfl rfl 301 Z B.o (by rw[a.o];kernel_rfl) (by rw[a.o,l.o]) x.o ?_)
   refine bodyPost_ret (v:=.agg T) ?_ rfl ⟨rfl,?_⟩
   ·exact results_cell_row rfl _ _ w.heap.size 301 T (0,0) _ rfl (setRow_heap _ _ _ _ _ _ B.o) Tryz.underlying301 rfl (by rw[a.o];kernel_rfl)
   ·exact below_setRow q.o.1 (aa _) T
def kV(x l:Nat):Array Value:=mA 16++#[ll x,.int .i64 (l:Int)]
theorem Fu(x l j:Nat)(a:j<16):(kV x l)[j]?=some (ll (vU j)):=by unfold kV;rw[Array.getElem?_append,if_pos (by rw[dI];exact a),oJ 16 j a,if_pos a]
theorem Ar(x l:Nat):(kV x l)[16]?=some (ll x):=by unfold kV;rw[Array.getElem?_append,if_neg (by rw[dI];decide),dI];rfl
theorem KS(x l:Nat):(kV x l)[17]?=some (.int .i64 (l:Int)):=by unfold kV;rw[Array.getElem?_append,if_neg (by rw[dI];decide),dI];rfl
theorem qg(x y l:Nat):(kV x l).setIfInBounds 16 (ll y)=kV y l:=by unfold kV;rw[Array.setIfInBounds_append_right (by rw[dI];decide),dI];rfl
theorem Dr(x l m:Nat):(kV x l).setIfInBounds 17 (.int .i64 (m:Int))=kV x m:=by unfold kV;rw[Array.setIfInBounds_append_right (by rw[dI];decide),dI];rfl
def Fv(x:Nat):Nat:=(x/16) ^^^ vU (x%16)
def KT(x c:Nat):Nat:=Fv (Fv (x ^^^ c))
def nK(x:Nat)(b:List UInt8):Nat:=b.foldl (λx c=>KT x c.toNat) x
theorem vW{x:Nat}(h:x<4294967296):Fv x<4294967296:=xor_lt_two_pow (n:=32) (by omega) (Cs _ (mod_lt _ (by decide)))
theorem Jc{x:Nat}(c:UInt8)(h:x<4294967296):KT x c.toNat<4294967296:=vW (vW (xor_lt_two_pow (n:=32) h (by have:=c.toNat_lt;omega)))
theorem rG{x:Nat}(h:x<4294967296)(b:List UInt8):nK x b<4294967296:=by
 unfold nK;induction b generalizing x with
 |nil=>exact h
 |cons c a ih=>exact ih (Jc c h)
theorem Ds(x:Nat)(b:List UInt8)(k:Nat)(a:k<b.length):nK x (b.take (k+1))=KT (nK x (b.take k)) (b[k]).toNat:=by unfold nK;rw[take_succ_eq_append_getElem a,foldl_append];rfl
theorem Dt:Tryz.prog.built 304 [(0,.agg (mA 16)),(1,.int .u32 4294967295)]=some (kV 4294967295 0):=by kernel_rfl
theorem Jd(w:World):Calls Tryz.prog 185 #[] w λe w'=>∃s,e=.returned (.pointer (some ⟨s,0,none⟩))/\ah w' s 304 (kV 4294967295 0)/\Below w.heap.size w w'/\w.heap.size<=s:=by
 have d:=J (Dq w);obtain⟨T,b⟩:=I (mA 16);obtain⟨C,c⟩:=I (kV 4294967295 0);have f:Hid (Tryz.prog.built 304 [(0,.agg T),(1,.int .u32 4294967295)]=some C):=by rw[b,c];exact Dt
 rw[<-b]at d;rw[<-c];replace b:=J b;replace c:=J c;go_enter Tryz.func185,Tryz.ntmps185;go_wp2_with fail;refine d.o.mono ?_;rintro e g ⟨rfl,a⟩;replace a:=J a;go_wp2_with(refine wpList_buildTo rfl 304 _ rfl (some 2) rfl C (Eq.trans (by kernel_rfl) f.o) ?_);go_ret;exact⟨g.heap.size,rfl,ah.new g 304 C,a.o.alloc a.o.size _,a.o.size⟩
theorem uk{W:World}{s x l:Nat}(h:ah W s 304 (kV x l))(a:x<4294967296):∃b Q T y:Nat,(b:Int)<16/\W.cell? ⟨s,16,none⟩=some (.int .u32 (x:Int))/\W.cell? ⟨s,b,none⟩=some (.int .u32 (T:Int))/\W.frozen? ⟨s,16,none⟩=false/\bits .and .u32 (x:Int) 15=(b:Int)/\(x:Int)/16=(Q:Int)/\bits .xor .u32 (Q:Int) (T:Int)=(y:Int)/\y<4294967296/\Hid (y=Fv x):=by
 refine⟨x%16,x/16,vU (x%16),Fv x,by omega,(h.cell 16).trans (Ar x l),(h.cell _).trans (Fu x l _ (by omega)),h.frozen 16,?_,by omega,?_,vW a,rfl⟩
 ·have h:=u32_and_nat x 15 a (by omega);rw[show(15:Nat)=2^4-1 from rfl,and_two_pow_sub_one_eq_mod]at h;exact h
 ·exact u32_xor_nat (x/16) (vU (x%16)) (by omega) (Cs _ (by omega))
def Au(w:World)(s x l:Nat)(b:List UInt8)(k:Nat)(a:World):Prop:=ah a s 304 (kV (nK x (b.take k)) l)/\R (λj=>j=s) w a
theorem Je(w:World)(s x l:Nat)(A:Option Addr)(n c:Nat)(b:List UInt8)(P:ah w s 304 (kV x l))(bb:x<4294967296)(Q:RB w s A n b)(b4:n<=1000000000)(b5:l<=1000000000):Calls Tryz.prog 186 #[.pointer (some ⟨s,0,none⟩),.slice A n c] w λe w'=>e=.returned (.tuple #[])/\ah w' s 304 (kV (nK x b) (l+n))/\R (λj=>j=s) w w':=by
 have H:=J Q.len;have S:Hid (Au w s x l b 0 w):=J ⟨P,R.refl _ w⟩;replace Q:=J Q;replace P:=J P;go_enter Tryz.func186,Tryz.ntmps186;go_wp2_with fail;go_loopw [5,10] (λv5 v10 bc=>∃k:Nat,v10=.int .i64 (k:Int)/\k<=n/\Hid (Au w s x l b k bc)) (λ_ v10 _=>n-(intOf v10).toNat)
 case atStart=>exact⟨0,rfl,by omega,S⟩
 case round=>
  obtain⟨k,rfl,b6,K⟩:=hrel;rcases aA k n with af|bp
  ·have br:(k:Int)<(n:Int):=by omega
   have Z:k<b.length:=by have:=H.o;omega
   obtain⟨X,g⟩:=I (nK x (b.take k));have L:X<4294967296:=by rw[g];exact rG bb _
   obtain⟨bd,rfl,bs,C⟩:=(Q.o).elem (k:=k) af Z;obtain⟨y,N⟩:∃y:UInt8,y=b[k]:=⟨_,rfl⟩;have m:=Ds x b k Z;rw[<-g,<-N]at m;rw[<-N]at C;have f:=K.o.1;rw[<-g]at f;have al:wr.cell? (bd.add k)=some (.int .u8 (y.toNat:Int)):=by rw[World.cell?_of_block (w:=w) (K.o.2.block _ (by rw[cF];have:=P.o.lt;omega) (by rw[cF];omega))];exact C
   obtain⟨Y,O⟩:∃Y:Nat,Y=y.toNat:=⟨_,rfl⟩;have bv:Y<256:=by rw[O];exact y.toNat_lt
   rw[<-O]at al m;have am:=(f.cell 16).trans (Ar X l);have f16:=f.frozen 16;obtain⟨G,q⟩:=I (X ^^^ Y);have a4:bits .xor .u32 (X:Int) (Y:Int)=(G:Int):=by rw[q];exact u32_xor_nat X Y L (by omega)
   refine bX ?_ q m g N O;clear q m g N O;intro q m g N O;unfold ll at am;have ab:G<4294967296:=by rw[q.o];exact xor_lt_two_pow (n:=32) L (by omega)
   have a:=f.aK 16 (ll G);rw[qg]at a;have d:R (λj=>j=s) w (wr.setCell ⟨s,16,none⟩ (ll G)):=K.o.2.setCell (p:=⟨s,16,none⟩) (λ_=>rfl) _;replace f:=J f;unfold ll at a d;obtain⟨T,D⟩:=I (wr.setCell ⟨s,16,none⟩ (.int .u32 (G:Int)));rw[<-D]at a d;obtain⟨b7,b8,b9,U,bx,an,bA,ao,a5,a6,a7,ac,ap⟩:=uk a ab;replace a:=J a;replace d:=J d;go_wp2_with fail;rw[<-D];replace D:=J D
   go_still_tail 19,(by kernel_rfl)
   change wpList _ _ _ _ _ T.drew;have u:=ah.drew a.o;have v:=d.o.drew;have be:T.drew.frozen? ⟨s,16,none⟩=false:=ao;have bi:T.drew.cell? ⟨s,16,none⟩=some (.int .u32 (G:Int)):=an;generalize T.drew=W2d at *;have i:=u.aK 16 (ll U);rw[qg]at i;have r:=v.setCell (p:=⟨s,16,none⟩) (λ_=>rfl) (ll U);replace u:=J u;replace v:=J v;unfold ll at i r;obtain⟨V,E⟩:=I (W2d.setCell ⟨s,16,none⟩ (.int .u32 (U:Int)));rw[<-E]at i r;obtain⟨ca,cb,cc,ad,bB,a0,b0,a1,a8,a9,ba,bj,a2⟩:=uk i ac;replace i:=J i;replace r:=J r;go_wp2_with fail;rw[<-E];replace E:=J E
   go_still_tail 19,(by kernel_rfl)
   change wpList _ _ _ _ _ V.drew;have z:=ah.drew i.o;have B:=r.o.drew;have bl:V.drew.frozen? ⟨s,16,none⟩=false:=a1;have bm:V.drew.cell? ⟨s,16,none⟩=some (.int .u32 (U:Int)):=a0;generalize V.drew=W3d at *;have t:=z.aK 16 (ll ad);rw[qg]at t;have F:=B.setCell (p:=⟨s,16,none⟩) (λ_=>rfl) (ll ad);replace z:=J z;replace B:=J B;have ae:Hid (ad=nK x (b.take (k+1))):=by rw[m.o,a2.o,ap.o,q.o];exact J rfl
   unfold ll at t F;replace t:=J t;replace F:=J F;go_wp2_with fail;go_roundw
   case rel=>exact⟨k+1,by simp,by omega,by unfold Au;rw[<-ae.o];exact J ⟨t.o,F.o⟩⟩
   case measure=>simp[intOf];omega
  ·have a3:k=n:=by omega
   subst a3;have f:=K.o.1;rw[bQ (by rw[H.o];exact aa _)]at f;obtain⟨X,g⟩:=I (nK x b);rw[<-g]at f;have b1:=(f.cell 17).trans (KS X l);have f17:=f.frozen 17;obtain⟨M,W⟩:=I (l+k);have b2:(l:Int)+(k:Int)=(M:Int):=by omega
   have a:=f.aK 17 (.int .i64 (M:Int));rw[Dr]at a;have d:=K.o.2.setCell (p:=⟨s,17,none⟩) (λ_=>rfl) (.int .i64 (M:Int));refine bX ?_ W g f a d;clear W g f a d;intro W g f a d;have b3:¬(k:Int)<(k:Int):=by omega
   go_wp2_with fail
   go_end0
   exact⟨rfl,by rw[<-g.o,<-W.o];exact a.o,d.o⟩
theorem Jf(w:World)(s x l:Nat)(a:ah w s 304 (kV x l))(c:x<4294967296):Calls Tryz.prog 187 #[.pointer (some ⟨s,0,none⟩)] w λe w'=>e=.returned (.int .u32 ((4294967295 ^^^ x:Nat):Int))/\w=w':=by have b:=(a.cell 16).trans (Ar x l);unfold ll at b;replace a:=J a;have d:IntKind.u32.signed=false:=rfl;go_enter Tryz.func187,Tryz.ntmps187;go_wp2_with fail;go_ret;exact⟨bV (u32_xor_nat 4294967295 x (by omega) c),rfl⟩
def oK(b:List UInt8):Nat:=4294967295 ^^^ nK 4294967295 b
theorem xU(b:List UInt8):oK b<4294967296:=xor_lt_two_pow (n:=32) (by decide) (rG (by decide) b)
theorem xV(x:Nat)(a b:List UInt8):nK x (a++b)=nK (nK x a) b:=foldl_append
def Fw(w:World)(a:List (List UInt8))(B:Nat)(k:Nat)(s:Nat)(b:World):Prop:=ah b s 304 (kV (nK 4294967295 (a.take k).flatten) (a.take k).flatten.length)/\Below B w b
theorem Fx(w:World)(C:Addr)(n c:Nat)(a:List (List UInt8))(am:a.length=n)(Y:0<n)(Z:n<=100)(L:C.block<w.heap.size)(D:∀k b,a[k]?=some b->∃A H,w.cell? (C.add k)=some (.slice A b.length H)/\RB w w.heap.size A b.length b/\b.length<=1000000):Calls Tryz.prog 135 #[.slice (some C) n c] w λe w'=>e=.returned (.int .u32 ((oK a.flatten:Nat):Int))/\Below w.heap.size w w':=by
 have M:=J (Jd w);replace D:Hid _:=J D;go_enter Tryz.func135,Tryz.ntmps135;go_wp2_with fail;refine M.o.mono ?_;rintro e T ⟨s,rfl,u,v,G⟩;have E:Hid (Fw w a w.heap.size 0 s T):=J ⟨u,v⟩;replace u:=J u;replace v:=J v;go_wp2_with fail;go_loopw [5,9] (λv5 v9 U=>∃k:Nat,v9=.int .i64 (k:Int)/\k<=n/\Hid (Fw w a w.heap.size k s U)) (λ_ v9 _=>n-(intOf v9).toNat)
 case atStart=>exact⟨0,rfl,by omega,E⟩
 case round=>
  obtain⟨k,rfl,V,g⟩:=hrel;rcases aA k n with ab|ac
  ·have ad:(k:Int)<(n:Int):=by omega
   obtain⟨b,x⟩:∃b,a[k]?=some b:=⟨_,ak (by omega)⟩;obtain⟨A,H,d,i,ae⟩:=D.o k b x;have N:=(g.o.2.cell (p:=C.add k) (by rw[cF];exact L)).trans d;obtain⟨X,r⟩:=I (nK 4294967295 (a.take k).flatten);obtain⟨l,t⟩:=I ((a.take k).flatten.length);have f:=g.o.1;rw[<-r,<-t]at f;have S:l<=100000000:=by
    rw[t];have key:∀q,q<=n->(a.take q).flatten.length<=q*1000000:=by
     intro q;induction q with
     |zero=>intro _;simp
     |succ q ih=>
      intro an
      obtain⟨_,_,_,_,af⟩:=D.o q a[q] (ak (by omega))
      rw[take_succ_eq_append_getElem (by omega),flatten_append,aq]
      have:=ih (by omega)
      rw[flatten_cons,flatten_nil,append_nil];omega
    have:=key k V;omega
   have y:=J (Je wr s X l A b.length H b f (by rw[r];exact rG (by decide) _) ((i.below g.o.2).more G) (by omega) (by omega));have j:(a.take (k+1)).flatten=(a.take k).flatten++b:=by obtain⟨W,z⟩:=ay.1 x;rw[take_succ_eq_append_getElem W,flatten_append,z];simp
   obtain⟨m,B⟩:=I (b.length);rw[<-B]at N y;refine dS ?_ B j r t f x d i;clear B j r t f x d i;intro B j r t f x d i;go_wp2_with fail;refine y.o.mono ?_;rintro e O ⟨rfl,z,K⟩;have F:Hid (Fw w a w.heap.size (k+1) s O):=by refine J ⟨?_,g.o.2.trans (K.below (λq e=>by rw[e];exact G) g.o.2.size)⟩;rw[j.o,xV,aq,<-r.o,<-t.o,<-B.o];exact z
   replace z:=J z;replace K:=J K;go_wp2_with fail;go_roundw
   case rel=>exact⟨k+1,by simp,by omega,F⟩
   case measure=>simp[intOf];omega
  ·have P:k=n:=by omega
   subst P;have f:=g.o.1;rw[bQ (by omega)]at f;have Q:=J (Jf wr s _ _ f (rG (by decide) _));replace f:=J f;have al:¬(k:Int)<(k:Int):=by omega
   go_wp2_with fail;refine Q.o.mono ?_;rintro e O ⟨rfl,rfl⟩;go_wp2_with fail;go_ret;exact⟨rfl,g.o.2⟩
end Go.Proofs.YtajdeapdgbnahaaGreatDoor
