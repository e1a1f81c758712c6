/-
  Contract of vfs.right at names that are right.
-/
import Derived.Test.YtajdeapdgbnahaaGreatDoorCyVfs
import Derived.Test.YtajdeapdgbnahaaGreatDoorCyShelf
import Derived.Shelf.Strings.SlTrimAscii
namespace Go.Proofs.YtajdeapdgbnahaaGreatDoor
set_option linter.unusedVariables false
set_option maxRecDepth 100000
set_option maxHeartbeats 2000000
open List Nat
section
open Go.RowKit
def rQ:List UInt8:=[97,98,99,100,101,102,103,104,105,106,107,108,109,110,111,112,113,114,115,116,117,118,119,120,121,122,48,49,50,51,52,53,54,55,56,57,46,45,47]
theorem nS{p:UInt8->Bool}:∀l:List UInt8,(∀x∈l,p x=true)->l.dropWhile p=[]
 |[],_=>rfl
 |a::c,h=>by rw[dropWhile_cons,if_pos (h a (.head _)),nS c λx b=>h x (.tail _ b)]
theorem G4(l b:List UInt8)(h:∀x∈l,b.contains x=true):Lib.trimS l b=[]:=by unfold Lib.trimS Lib.trimRightS Lib.trimLeftS;rw[nS l.reverse λx c=>h x (mem_reverse.1 c)];rfl
theorem sW(w:World)(b:List UInt8)(j:b≠[])(n:b.length<=24)(k:∀x∈b,rQ.contains x=true):Calls Tryz.prog 132 #[.string (str b)] w λe w'=>e=.returned (.bool true)/\Below w.heap.size w w':=by
 have c:=Any.strings_Trim_laid Tryz.JM (by kernel_rfl) (str b) ⟨#[97,98,99,100,101,102,103,104,105,106,107,108,109,110,111,112,113,114,115,116,117,118,119,120,121,122,48,49,50,51,52,53,54,55,56,57,46,45,47]⟩ w (by simp[str,ByteArray.size];omega) (by decide) (ascii_of_all (by decide));have i:Lib.trimS (str b).data.toList (ByteArray.mk #[97,98,99,100,101,102,103,104,105,106,107,108,109,110,111,112,113,114,115,116,117,118,119,120,121,122,48,49,50,51,52,53,54,55,56,57,46,45,47]).data.toList=[]:=by have:=G4 b rQ k;simpa[str,rQ]using this
 rw[i]at c;have d:Hid (Calls Tryz.prog 184 #[.string (str b),.string ⟨#[97,98,99,100,101,102,103,104,105,106,107,108,109,110,111,112,113,114,115,116,117,118,119,120,121,122,48,49,50,51,52,53,54,55,56,57,46,45,47]⟩] w (λe w'=>e=.returned (.string ⟨#[]⟩)/\Below w.heap.size w w')):=c;have f:(str b).toList.isEmpty=false:=by
  rw[Eo];cases b with
  |nil=>exact absurd rfl j
  |cons a q=>rfl
 have l:¬(str b).toList=[]:=by intro e;rw[e]at f;cases f
 have m:((str b).size:Int)<=24:=by simp[str,ByteArray.size];omega
 clear c i;go_enter Tryz.func132,Tryz.ntmps132;go_wp2_with fail;refine d.o.mono ?_;rintro e p ⟨rfl,g⟩;replace g:=J g;go_wp2_with fail;go_ret;exact⟨rfl,g.o⟩
structure mL (nm:List UInt8):Prop where
 ne:nm≠[]
 len:nm.length<=24
 set:∀x∈nm,rQ.contains x=true
def Le(b c:List UInt8)(d:Option Nat)(g:Nat):Option Nat:=if b=c then some g else d
def Lf(b c:List UInt8)(fl:Option Nat)(g:Nat):Option Nat:=if b=c then fl else some g
def Ku(w:World)(B f i c b:Nat)(d l k:List UInt8)(m fl:Option Nat)(e:Ending)(w':World):Prop:=∃g,e=.returned (.int .i64 0)/\dY w' B f i c (b+1) d l (Le k d m g) (Lf k d fl g)/\dO w' B g 0 0 (.slice none 0 0)/\R (λj=>j=f\/j=i) w w'/\w.heap.size<=g
theorem G6(w:World)(B r s f b:Nat)(c A:List UInt8)(h:dY w B r s f b c A none none)(t:mL c)(O:b<=1000000)(a3:B<=w.heap.size):Calls Tryz.prog 90 #[.pointer (some ⟨r,0,none⟩),.string (str c)] w (Ku w B r s f b c A c none none):=by
 have U:=J (sZ w B r s f b c A c none none h (.inl ⟨rfl,rfl⟩) (by have:=t.len;omega));have V:=J (sW w c t.ne t.len t.set);replace h:=J h;replace t:=J t;go_enter Tryz.func90,Tryz.ntmps90;go_wp2_with fail;refine U.o.mono ?_;rintro e a4 ⟨rfl,rfl⟩;go_wp2_with fail;refine V.o.mono ?_;rintro e C ⟨rfl,D⟩;have E:R (λ_=>False) w C:=R.ag D;have p:=J (h.o.only E (λh=>h) (λh=>h));have L:=J (mM C B r s f b c A none none p.o);go_wp2_with fail;refine L.o.mono ?_;rintro e a5 ⟨rfl,rfl⟩;have a6:=p.o.st.cell 4;obtain⟨P,K,F⟩:=p.o.mp;have a1:P<=0:=F;clear F;have W:=J (K.alloc (.cells #[.slice none 0 0,.int .i64 0,.int .i64 0] 216));have M:=J (ah.new C 216 #[.slice none 0 0,.int .i64 0,.int .i64 0]);have X:=J (p.o.st.alloc (.cells #[.slice none 0 0,.int .i64 0,.int .i64 0] 216));have Y:=p.o.zo p.o.st;have Z:=J (E.alloc (.cells #[.slice none 0 0,.int .i64 0,.int .i64 0] 216));have m:w.heap.size<=C.heap.size:=D.size;obtain⟨g,G⟩:=I (C.heap.size);have ab:=J (xe c (by have:=t.o.len;omega));rw[<-G]at M m;replace m:=J m;replace K:=J K;clear V U L D E;obtain⟨H,an,x,n⟩:=W.o.update (Go.Maps.string_keyed Tryz.underlying9) Tryz.underlying72 (by unfold maxLen;omega) ab.o (val:=.pointer (some ⟨C.heap.size,0,none⟩)) (d:=.held (iW g)) (ps:=[]) (by rw[G];rfl);have v:=X.o.grown n (λe=>Y (by injection e with e;exact e.symm));have y:=M.o.grown n (λe=>by injection e with e;have:=K.o.lt;omega);have z:=(Z.o.mono (S:=λj=>j=r\/j=s) (λ_ _ h=>h.elim)).grown n (λk T _=>.inr (by injection T with T;exact T.symm));have l:dY H B r s f b c A (some g) none:=⟨v,⟨P+1,x,by show P+1<=1+0;omega⟩,p.o.ne,p.o.gB,p.o.bB⟩;have q:dO H B g 0 0 (.slice none 0 0):=⟨⟨0,y⟩,⟨[],⟨by simp,.inl ⟨rfl,rfl⟩⟩,λj u ao=>by cases ao⟩,by have:=m.o;omega⟩;have a2:(Instr.lookup 72 (.map (some s)) (.string (str c)) false).run Tryz.prog H=.ok (.pointer (some ⟨g,0,none⟩)) H:=l.G7 (by have:=t.o.len;omega);have N:=J (mN H B r s f b g 0 0 c A (some g) none _ l q O);have a7:=v.cell 4;refine dS ?_ x n v y l q z G;clear x n v y l q z G;intro x n v y l q z G;go_wp2_with fail;refine N.o.mono ?_;rintro e a8 ⟨rfl,ac,ad,ae⟩;have af:=J ac;have al:=J ad;have am:=J ae;clear ac ad ae N;go_wp2_with fail;go_ret;refine⟨g,rfl,?_,al.o,?_,m.o⟩
 ·have ap:Le c c none g=some g:=by rw[Le,if_pos rfl]
  have a0:Lf c c none g=none:=by rw[Lf,if_pos rfl]
  rw[ap,a0];exact af.o
 ·exact(z.o.trans am.o λi a9 O=>O.elim .inl λe=>by have:=m.o;omega)
theorem G8(w:World)(B r s f b:Nat)(t c:List UInt8)(v:Nat)(h:dY w B r s f b t c (some v) none)(x:mL c)(P:b<=1000000)(a4:B<=w.heap.size):Calls Tryz.prog 90 #[.pointer (some ⟨r,0,none⟩),.string (str c)] w (Ku w B r s f b t c c (some v) none):=by
 have V:=J (sZ w B r s f b t c c (some v) none h (.inr ⟨rfl,rfl⟩) (by have:=x.len;omega));have W:=J (sW w c x.ne x.len x.set);replace h:=J h;replace x:=J x;go_enter Tryz.func90,Tryz.ntmps90;go_wp2_with fail;refine V.o.mono ?_;rintro e a5 ⟨rfl,rfl⟩;go_wp2_with fail;refine W.o.mono ?_;rintro e D ⟨rfl,E⟩;have F:R (λ_=>False) w D:=R.ag E;have l:=J (h.o.only F (λh=>h) (λh=>h));have M:=J (mM D B r s f b t c (some v) none l.o);go_wp2_with fail;refine M.o.mono ?_;rintro e a6 ⟨rfl,rfl⟩;have a7:=l.o.st.cell 4;obtain⟨T,L,G⟩:=l.o.mp;have a2:T<=1:=G;clear G;have X:=J (L.alloc (.cells #[.slice none 0 0,.int .i64 0,.int .i64 0] 216));have N:=J (ah.new D 216 #[.slice none 0 0,.int .i64 0,.int .i64 0]);have Y:=J (l.o.st.alloc (.cells #[.slice none 0 0,.int .i64 0,.int .i64 0] 216));have Z:=l.o.zo l.o.st;have ab:=J (F.alloc (.cells #[.slice none 0 0,.int .i64 0,.int .i64 0] 216));have n:w.heap.size<=D.heap.size:=E.size;obtain⟨g,H⟩:=I (D.heap.size);have ac:=J (xe c (by have:=x.o.len;omega));rw[<-H]at N n;replace n:=J n;replace L:=J L;clear W V M E F;obtain⟨K,ao,z,p⟩:=X.o.update (Go.Maps.string_keyed Tryz.underlying9) Tryz.underlying72 (by unfold maxLen;omega) ac.o (val:=.pointer (some ⟨D.heap.size,0,none⟩)) (d:=.held (iW g)) (ps:=[]) (by rw[H];rfl);have y:=Y.o.grown p (λe=>Z (by injection e with e;exact e.symm));have A:=N.o.grown p (λe=>by injection e with e;have:=L.o.lt;omega);have C:=(ab.o.mono (S:=λj=>j=r\/j=s) (λ_ _ h=>h.elim)).grown p (λk U _=>.inr (by injection U with U;exact U.symm));have m:dY K B r s f b t c (some v) (some g):=⟨y,⟨T+1,z,by show T+1<=1+1;omega⟩,l.o.ne,l.o.gB,l.o.bB⟩;have q:dO K B g 0 0 (.slice none 0 0):=⟨⟨0,A⟩,⟨[],⟨by simp,.inl ⟨rfl,rfl⟩⟩,λj u ap=>by cases ap⟩,by have:=n.o;omega⟩;have a3:(Instr.lookup 72 (.map (some s)) (.string (str c)) false).run Tryz.prog K=.ok (.pointer (some ⟨g,0,none⟩)) K:=m.G9 (by have:=x.o.len;omega);have O:=J (mN K B r s f b g 0 0 t c (some v) (some g) _ m q P);have a8:=y.cell 4;refine dS ?_ z p y A m q C H;clear z p y A m q C H;intro z p y A m q C H;go_wp2_with fail;refine O.o.mono ?_;rintro e a9 ⟨rfl,ad,ae,af⟩;have al:=J ad;have am:=J ae;have an:=J af;clear ad ae af O;go_wp2_with fail;go_ret;refine⟨g,rfl,?_,am.o,?_,n.o⟩
 ·have a0:Le c t (some v) g=some v:=by rw[Le,if_neg (λe=>l.o.ne e.symm)]
  have a1:Lf c t none g=some g:=by rw[Lf,if_neg (λe=>l.o.ne e.symm)]
  rw[a0,a1];exact al.o
 ·exact(C.o.trans an.o λi ba P=>P.elim .inl λe=>by have:=n.o;omega)
end
section
open Go.RowKit Go.Maps
theorem lV{b c:List UInt8}(g:b≠c)(d f:Nat):rz b c (some d) (some f)=.map [(.string c,.held (iW f)),(.string b,.held (iW d))]\/rz b c (some d) (some f)=.map [(.string b,.held (iW d)),(.string c,.held (iW f))]:=by
 have i:(Lit.string b).sameKey (.string c)=false:=by simp[Lit.sameKey,g]
 have e:rz b c (some d) (some f)=.map (DataW.insert (Lit.string c,.held (iW f)) [(Lit.string b,.held (iW d))]):=by simp[rz,DataW.put,DataW.insert,i]
 rw[e];unfold DataW.insert;split
 ·exact .inl rfl
 ·exact .inr rfl
theorem Ha{c d:List UInt8}(f:c≠d)(i j:Nat)(b:Lit):Maps.has (rz c d (some i) (some j)) b=true->b=.string c\/b=.string d:=by
 intro h;have g:∀l,(Lit.string l).sameKey b=true->b=.string l:=λl k=>(WideAt.sameKey_eq k).symm;rcases lV f i j with e|e<;>rw[e]at h<;>simp[Maps.has]at h<;>rcases h with h|h
 ·exact .inr (g _ h)
 ·exact .inl (g _ h)
 ·exact .inl (g _ h)
 ·exact .inr (g _ h)
theorem Ep{b c:List UInt8}(d:b≠c)(f g:Nat):Maps.has (rz b c (some f) (some g)) (.string b)=true:=by rcases lV d f g with e|e<;>rw[e]<;>simp[Maps.has,Lit.sameKey]
theorem Er{c b:List UInt8}(d:c≠b)(f g:Nat):Maps.has (rz c b (some f) (some g)) (.string b)=true:=by rcases lV d f g with e|e<;>rw[e]<;>simp[Maps.has,Lit.sameKey]
theorem dP{w:World}{B n:Nat}{e:TypeId}{b:Nat}{v:Value}{xs:List Value}(h:w.ownsRow B e b v n xs):∃o cap,v=.slice o n cap:=by
 rcases h.2 with⟨rfl,rfl⟩|⟨g,cap,c,rfl,_⟩
 ·exact⟨none,0,rfl⟩
 ·exact⟨_,cap,rfl⟩
def xh(w:World)(B g i b j l m n:Nat)(c d:List UInt8)(v3:Value)(e:World):Prop:=
 ∃(left:Lit->Bool) (f x:Nat),v3=.int .i64 (x:Int)/\e.ranges Tryz.prog 9 BF g w.heap.size i (rz c d (some m) (some n)) left f/\Below w.heap.size w e/\
  x+(if left (.string c)then 0 else j)+(if left (.string d)then 0 else l)=b/\(∀k,left k=true->k=.string c\/k=.string d)
theorem zq(w:World)(B a6 F c ac G H p bb q bc:Nat)(O P:List UInt8)(bd be:Value)(h:dY w B a6 F c ac O P (some G) (some H))(ao:dO w B G p bb bd)(ap:dO w B H q bc be)(ba:c<=65536)(a7:p+q<=c):Calls Tryz.prog 143 #[.pointer (some ⟨a6,0,none⟩)] w λe w'=>e=.returned (.int .i64 ((c-p-q:Nat):Int))/\Below w.heap.size w w':=by
 have b4:=h.st.cell 0;have b5:=h.st.cell 3;have b6:=h.st.cell 4;obtain⟨a0,ad,bB⟩:=h.mp;obtain⟨bi,b0,ae,L,S⟩:=ad.range (Go.Maps.string_keyed Tryz.underlying9) Tryz.underlying72;have M:Below w.heap.size w bi:=(Below.refl _ w).grown L (aa _) (by simp);obtain⟨b1,A⟩:=ao.st;obtain⟨b2,C⟩:=ap.st;obtain⟨b7,al,_⟩:=ao.row;obtain⟨b8,am,_⟩:=ap.row;obtain⟨b9,bj,rfl⟩:=dP al;obtain⟨ol,bl,rfl⟩:=dP am;have t:=J h.ne;refine eD ?_ ad ae M L S A C;clear ad ae M L S A C;intro ad ae M L S A C;clear ao ap al am;replace h:=J h;go_enter Tryz.func143,Tryz.ntmps143;go_wp2_with fail;go_loopw [3] (λv3 a1=>Hid (xh w B F a0 c p q G H O P v3 a1)) (λ_ a1=>a1.rangeLeft F w.heap.size)
 case atStart=>refine J ⟨_,_,c,rfl,ae.o,M.o,?_,λk a7=>Ha t.o G H k a7⟩;rw[Ep t.o,Er t.o];simp
 case round=>
  obtain⟨left,b3,x,rfl,m,f,b,T⟩:=hrel.o;clear hrel;rcases m.next (Go.Maps.string_keyed Tryz.underlying9) 0 with⟨ca,K,z⟩|⟨key,v,k,y,af,bm,U,d,N,V,z,r,W,g,X,bp⟩
  ·have a8:∀ty,(Instr.next (.pointer (some ⟨w.heap.size,0,none⟩)) false ty).run Tryz.prog _=_:=λ_=>z;rw[K,K]at b;have br:x=c-p-q:=by simp at b;omega
   replace f:=J f;replace m:=J m;clear z K b;go_wp2_with fail;go_ret;exact⟨by rw[<-br];rfl,f.o⟩
  ·have a8:∀ty,(Instr.next (.pointer (some ⟨w.heap.size,0,none⟩)) false ty).run Tryz.prog _=_:=λ_=>z;have n:Below w.heap.size w af:=f.trans ⟨g.os,g.tape,g.output,g.size,λi bs=>g.block i (aN bs f.size) (λe=>by injection e with e;omega)⟩;have bv:y=(.held v,[]):=by simp[BF]at N;exact N.symm
   subst bv;have j:=V (.held (.pointer none));have Y:=m.left_eq;have Z:=r.left_eq;have ab:Hid (af.rangeLeft F w.heap.size<wr.rangeLeft F w.heap.size):=by rw[Y,Z];exact J W
   have a9:(Lit.string O).sameKey (.string P)=false:=by simp[Lit.sameKey,t.o]
   have a2:(Lit.string P).sameKey (.string O)=false:=by simp[Lit.sameKey];exactλe=>t.o e.symm
   have an:∀l:List UInt8,(Lit.string l).sameKey (.string l)=true:=λl=>by simp[Lit.sameKey]
   rcases T k d with rfl|rfl
   ·rw[Hb t.o]at j;have a3:v=.pointer (some ⟨G,0,none⟩):=by simp only[DataW.held.injEq]at j;exact j.symm
    subst a3;have s:=ah.below A.o n (ah.lt A.o);have bx:=s.cell 0;have u:p<=x:=by rw[d]at b;simp at b;split at b<;>omega
    have bA:(x:Int)-(p:Int)=((x-p:Nat):Int):=by omega
    have a4:wrap64 ((x-p:Nat):Int)=((x-p:Nat):Int):=by
     have D:=b;rw[d]at D;simp at D;have:x<=65536:=by omega
     simp only[wrap64];omega
    have hrel:Hid (xh w B F a0 c p q G H O P (.int .i64 ((x-p:Nat):Int)) af):=by refine J ⟨_,_,x-p,rfl,r,n,?_,λa5 E=>T a5 (by simp at E;exact E.1)⟩;simp only[an,a2,Bool.not_true,Bool.and_false,Bool.not_false,Bool.and_true];rw[d]at b;simp at b⊢;omega
    refine dS ?_ s n r m f u b g;clear s n r m f u b g;intro s n r m f u b g;clear V j U N Y Z W X;go_wp2_with fail;go_roundw
    case rel=>rw[a4];exact hrel
    case measure=>exact ab.o
   ·rw[Hd t.o]at j;have a3:v=.pointer (some ⟨H,0,none⟩):=by simp only[DataW.held.injEq]at j;exact j.symm
    subst a3;have s:=ah.below C.o n (ah.lt C.o);have bx:=s.cell 0;have u:q<=x:=by rw[d]at b;simp at b;split at b<;>omega
    have bA:(x:Int)-(q:Int)=((x-q:Nat):Int):=by omega
    have a4:wrap64 ((x-q:Nat):Int)=((x-q:Nat):Int):=by
     have D:=b;rw[d]at D;simp at D;have:x<=65536:=by omega
     simp only[wrap64];omega
    have hrel:Hid (xh w B F a0 c p q G H O P (.int .i64 ((x-q:Nat):Int)) af):=by refine J ⟨_,_,x-q,rfl,r,n,?_,λa5 E=>T a5 (by simp at E;exact E.1)⟩;simp only[an,a9,Bool.not_true,Bool.and_false,Bool.not_false,Bool.and_true];rw[d]at b;simp at b⊢;omega
    refine dS ?_ s n r m f u b g;clear s n r m f u b g;intro s n r m f u b g;clear V j U N Y Z W X;go_wp2_with fail;go_roundw
    case rel=>rw[a4];exact hrel
    case measure=>exact ab.o
def kN:Array Value:=(replicate 128 (Value.int .u8 0)++[Value.bool false]).toArray
theorem BG:Tryz.prog.built 221 []=some kN:=by kernel_rfl
theorem zt(w:World):(Instr.buildSlice 214 1 #[(0,.agg kN)]).run Tryz.prog w=.ok (.slice (some ⟨w.heap.size,0,none⟩) 1 1) (w.alloc (.cells kN 221)):=by kernel_rfl
theorem BH(w:World):(Instr.build 221 #[]).run Tryz.prog w=.ok (.agg kN) w:=run_build w 221 #[] kN BG
theorem Es:(Tryz.prog.info? 221).map (λi=>(i.zero,i.size,i.bytes))=some (some (.agg kN),129,129):=by kernel_rfl
theorem ou:kN.size=129:=by simp[kN]
theorem uQ:∀u∈kN.toList,u.oneCell'=true:=by intro u b;simp only[kN,mem_append,mem_replicate,mem_singleton]at b;rcases b with⟨_,rfl⟩|rfl<;>rfl
theorem qz.app{a b:List Value}(d:qz a)(e:qz b):qz (a++b):=λj u c=>by
 rcases aA j a.length with h|h
 ·rw[bM h]at c;exact d j u c
 ·rw[getElem?_append_right h]at c;exact e _ u c
theorem BI:qz kN.toList:=λj u b=>uQ u (bu b)
theorem uR(w:World)(b:Array Value)(t:TypeId)(g:0<b.size):Reads (w.alloc (.cells b t)) (w.heap.size+1) b.size (some ⟨w.heap.size,0,none⟩) 1 b.toList:=by
 refine⟨by simp,λ_=>⟨_,rfl,by simp,λj x d=>?_⟩⟩;have f:=ah.new w t b;have e:(Addr.mk w.heap.size 0 none).add j=⟨w.heap.size,j,none⟩:=by
  unfold Addr.add;by_cases c:j=0
  ·subst c;rfl
  ·rw[if_neg c];simp
 rw[e,f.cell];simpa using d
section
variable {ops:Array Oper}{rest:List Oper}{o:Oper}{a:Act}{Q:Exit->Act->World->Prop}
theorem rA{w:World}(l:o.guard=none)(s y:Operand)(z:o.op=.call { callee:=.builtin .append,args:=#[s,y],argTypes:=#[214,214] })
 (base k:Nat) (v:Value) (b:∃xs,w.ownsRow base 221 129 v k xs/\qz xs) (A:a.eval s=v) (c:Nat) (B:a.eval y=.slice (some ⟨w.heap.size,0,none⟩) 1 c) (C:k+1<=1000000) (x:base<=w.heap.size) (m:Array Value) (n:m=kN)
 (h:∀d w',(∃xs,w'.ownsRow base 221 129 d (k+1) xs/\qz xs)->w.grownBy w' v.ownBlock->(d.ownBlock=v.ownBlock\/∃j,d.ownBlock=some j/\w.heap.size<=j)->wpList Tryz.prog ops Q rest (a.put o.dst d) w'):
 wpList Tryz.prog ops Q (o::rest) a (w.alloc (.cells m 221)):=by
 subst n;obtain⟨xs,b,i⟩:=b;obtain⟨i0,p,q,r,t⟩:=info_parts Es;have g:=uR w kN 221 (by rw[ou];omega);rw[ou]at g;refine iI _ l s y _ z base 221 i0 _ 129 129 Tryz.underlying214 p q r t ou (by omega) v k xs A (World.ownsRow.alloc b _) _ _ 1 c kN.toList B g uQ
  (by simp only[maxLen];omega) (by omega) (by simp;omega) λd w' D e f=>?_
 refine h d w' ⟨_,D,i.app BI⟩ ⟨e.os,e.tape,e.output,?_,λk E u=>?_⟩ ?_
 ·have:=e.size;simp at this;omega
 ·rw[e.block k (by simp;omega) u];exact Below.heap_alloc _ _ _ E
 ·rcases f with f|f
  ·exact .inl f
  ·exact .inr ⟨_,f,by simp⟩
end
def tf(w:World)(g:Nat):Nat:=match w.cell? ⟨g,0,none⟩with|some (.slice _ n _)=>n|_=>0
def xj(w:World)(B g k N D:Nat)(v:Value)(d:World):Prop:=∃b c,dO d B g b N c/\R (λj=>j=g\/v.ownBlock=some j) w d/\(c.ownBlock=v.ownBlock\/∃j,c.ownBlock=some j/\w.heap.size<=j)/\k<=b/\b<=max k D
def JN(w:World)(B g k N D:Nat)(v:Value)(e:Ending)(w':World):Prop:=e=.returned (.tuple #[])/\∃b,dO w' B g (max k D) N b/\R (λj=>j=g\/v.ownBlock=some j) w w'/\(b.ownBlock=v.ownBlock\/∃j,b.ownBlock=some j/\w.heap.size<=j)
theorem He(w:World)(B g k n m:Nat)(v:Value)(u:dO w B g k n v)(br:k<=100000)(bs:n<=4000000)(bv:m<=4000000)(bx:B<=w.heap.size):Calls Tryz.prog 189 #[.pointer (some ⟨g,0,none⟩),.int .i64 (m:Int)] w (JN w B g k (max n m) ((max n m+63)/64) v):=by
 obtain⟨N,O⟩:=I (max n m);obtain⟨D,F⟩:=I ((N+63)/64);rw[<-O,<-F];have bb:max (n:Int) (m:Int)=(N:Int):=by omega
 obtain⟨st,C⟩:=u.st;obtain⟨xs,G,x⟩:=u.row;obtain⟨bA,a6,ap⟩:=dP G;have a2:=u.L8;have X:=u.gB;have bB:=C.cell 1;have b0:=C.frozen 1;have Y:=C.aK 1 (.int .i64 (N:Int));have Z:R (λj=>j=g\/v.ownBlock=some j) w (w.setCell ⟨g,1,none⟩ (.int .i64 (N:Int))):=(R.refl _ w).setCell (p:=⟨g,1,none⟩) (λ_=>.inl rfl) _;have r:R (λj=>j=g) w (w.setCell ⟨g,1,none⟩ (.int .i64 (N:Int))):=(R.refl (λj=>j=g) w).setCell (p:=⟨g,1,none⟩) (λ_=>rfl) _;have ab:=r.row G (λj E e=>a2 (by rw[E,e]));have ac:dO (w.setCell ⟨g,1,none⟩ (.int .i64 (N:Int))) B g k N v:=⟨⟨st,Y⟩,⟨xs,ab,x⟩,X⟩;have P:Hid (xj w B g k N D v (w.setCell ⟨g,1,none⟩ (.int .i64 (N:Int)))):=J ⟨k,v,ac,Z,.inl rfl,aa _,by omega⟩;have bc:N<=4000000:=by omega
 have bd:D<=62501:=by omega
 refine eD ?_ C G x u O F ap;clear C G x u O F ap;intro C G x u O F ap;clear ac ab r Z Y;have ad:Hid (∀w,Calls Tryz.prog 139 #[.int .i64 (N:Int)] w λe w'=>e=.returned (.int .i64 (D:Int))/\w=w'):=J λw=>by rw[F.o];exact tg w N (by omega)
 have be:=BH;have bi:=zt;go_enter Tryz.func189,Tryz.ntmps189;go_wp2_with fail;go_loopw [] (λa0=>Hid (xj w B g k N D v a0)) (λa0=>D-tf a0 g)
 case atStart=>exact P
 case round=>
  obtain⟨b,a7,c,d,i,bj,bl⟩:=hrel.o;clear hrel;obtain⟨stx,f⟩:=c.st;obtain⟨b1,s,H⟩:=c.row;replace H:=J H;have t:=c.L8;obtain⟨a8,a1,rfl⟩:=dP s;have a9:=f.cell 0;have b2:=f.cell 1;have y:tf wr g=b:=by unfold tf;rw[a9];rfl
  refine eD ?_ f s c d i t y;clear f s c d i t y;intro f s c d i t y;rcases aA b D with a3|bm
  ·have a4:(b:Int)<(D:Int):=by omega
   go_wp2_with fail;go_quiet (first|(go_at_call 139;exact fE (ad.o _)));go_wp2_with(refine rA rfl _ _ rfl B b _ ?r1 rfl 1 rfl ?r2 ?r3 _ ?r4 ?_)
   case r1=>exact⟨_,s.o,H.o⟩
   case r2=>omega
   case r3=>have:=d.o.size;show B<=wr.heap.size;omega
   case r4=>kernel_rfl
   intro a7 w' bp K L S T;replace L:=J L;obtain⟨l,q,rfl⟩:=dP K;have ae:ah (wr.drewN nq) g 216 #[.slice a8 b a1,.int .i64 (N:Int),.int .i64 (stx:Int)]:=f.o;have z:=ae.grown S (λe=>t.o e.symm);have ba:g<wr.heap.size:=ah.lt f.o;have b3:=z.cell 0;have b4:=z.frozen 0;have M:=z.aK 0 (.slice l (b+1) q);have af:=(d.o.drewN nq).grown S (λj E a3=>by
    rcases i.o with e|⟨U,e,A⟩
    ·exact .inr (by rw[<-e];exact E)
    ·rw[E]at e;injection e with e;omega)
   have al:=af.setCell (p:=⟨g,0,none⟩) (λ_=>.inl rfl) (.slice l (b+1) q);have am:(Value.slice l (b+1) q).ownBlock≠some g:=by
    rcases T with e|⟨U,e,A⟩
    ·rw[e];exact t.o
    ·rw[e];intro a5;injection a5 with a5;have:wr.heap.size<=U:=A;omega
   have r:R (λj=>j=g) w' (w'.setCell ⟨g,0,none⟩ (.slice l (b+1) q)):=(R.refl (λj=>j=g) w').setCell (p:=⟨g,0,none⟩) (λ_=>rfl) _;have an:=r.row K (λj E e=>am (by rw[E,e]));have ao:(Value.slice l (b+1) q).ownBlock=v.ownBlock\/∃j,(Value.slice l (b+1) q).ownBlock=some j/\w.heap.size<=j:=by
    rcases T with e|⟨U,e,A⟩
    ·rw[e];exact i.o
    ·exact .inr ⟨U,e,aO d.o.size A⟩
   have V:Hid (xj w B g k N D v (w'.setCell ⟨g,0,none⟩ (.slice l (b+1) q))):=J ⟨b+1,_,⟨⟨stx,M⟩,⟨_,an,L.o⟩,X⟩,al,ao,by omega,by omega⟩
   have W:Hid (D-tf (w'.setCell ⟨g,0,none⟩ (.slice l (b+1) q)) g<D-tf wr g):=by
    have:tf (w'.setCell ⟨g,0,none⟩ (.slice l (b+1) q)) g=b+1:=by unfold tf;rw[M.cell 0];rfl
    rw[this,y.o];exact J (by omega)
   replace S:=J S;replace T:=J T;clear M af al r an ao K ae z am;go_wp2_with fail;go_roundw
   case rel=>exact V
   case measure=>exact W.o
  ·have a4:(D:Int)<=(b:Int):=by omega
   go_wp2_with fail;go_quiet (first|(go_at_call 139;exact fE (ad.o _)));go_wp2_with fail
   go_end0
   have:b=max k D:=by omega
   subst this;exact⟨rfl,_,⟨c.o.st,c.o.row,c.o.gB⟩,d.o.drewN _,i.o⟩
end
end Go.Proofs.YtajdeapdgbnahaaGreatDoor
