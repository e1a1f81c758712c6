/-
  Contract of slices.Insert of one cell into a row of cells of the call's own.
-/
import Derived.Test.YtajdeapdgbnahaaGreatDoorCyGr18
import Derived.Shelf.Spec.SlicesInsertGrow
import Derived.Test.YtajdeapdgbnahaaGreatDoorCyRegion
namespace Go.Proofs.YtajdeapdgbnahaaGreatDoor
set_option linter.unusedVariables false
set_option maxRecDepth 100000
set_option maxHeartbeats 8000000
open Go.RowKit
open List Nat
theorem jm(w:World)(ty:TypeId)(g off b f:Nat)(i:Addr)(d k:Nat)(a:Array Value)(cs:List Value)(s:w.heap[g]?=some (.cells a 122 (0,0)))(t:cs.length=(Nat.min d b)*4)(l:∀j v,cs[j]?=some v->w.cell? (i.add j)=some v) (o:off+cs.length<=a.size) (u:∀v∈cs,v.oneCell'=true):(Builtin.copy_ #[127,127] ty #[.slice (some ⟨g,off,none⟩) b f,.slice (some i) d k]).run Tryz.prog w=.ok (goInt (Nat.min d b)) (w.setRow g (a.toList.take off++(cs++a.toList.drop (off+cs.length))).toArray):=by obtain⟨i0,p,x,q,y⟩:=info_parts jM;have r:=run_loadCells_list (P:=Tryz.prog) w i cs l;have e:=run_storeCells_at Tryz.prog g off 122 cs 0 a w s (by simpa using o) u;simp only[Nat.add_zero]at e;rw[t]at r;simp[Builtin.copy_,run_underlying Tryz.underlying127,Builtin.lenOf,Builtin.firstCells,sizeOf,typeInfo,p,q,r,e,append_assoc]
def eH(xs:List Value)(i:Nat)(vs:List Value):List Value:=xs.take (i*4)++(vs++xs.drop (i*4))
def ql(w:World)(base:Nat)(row:Option Nat)(n:Nat)(b:List Value)(e:Ending)(w':World):Prop:=∃a,e=.returned a/\w'.ownsRow base 122 4 a (n+1) b/\w.grownBy w' row/\(∀k,a.ownBlock=some k->row=some k\/w.heap.size<=k)
theorem DH(T xs vs:List Value)(n i:Nat)(b:T.take (n*4)=xs)(j:(n+1)*4<=T.length)(k:i<n)(d:vs.length=4):(((T.take ((i+1)*4)++(xs.drop (i*4)++T.drop ((i+1)*4+(xs.drop (i*4)).length))).take (i*4)++(vs++(T.take ((i+1)*4)++(xs.drop (i*4)++T.drop ((i+1)*4+(xs.drop (i*4)).length))).drop (i*4+4)))).take ((n+1)*4)=xs.take (i*4)++(vs++xs.drop (i*4)):=by
 have a:xs.length=n*4:=by rw[<-b,aH];omega
 have e:(T.take ((i+1)*4)++(xs.drop (i*4)++T.drop ((i+1)*4+(xs.drop (i*4)).length))).take (i*4)=xs.take (i*4):=by rw[take_append_of_le_length (by rw[aH];omega),take_take,Nat.min_eq_left (by omega),<-b,take_take,Nat.min_eq_left (by omega)]
 have f:(T.take ((i+1)*4)++(xs.drop (i*4)++T.drop ((i+1)*4+(xs.drop (i*4)).length))).drop (i*4+4)=xs.drop (i*4)++T.drop ((i+1)*4+(xs.drop (i*4)).length):=by rw[show i*4+4=(T.take ((i+1)*4)).length from by rw[aH];omega,drop_left]
 rw[e,f,<-av,<-av,av (xs.take (i*4)) vs];rw[take_append_of_le_length (by simp only[aq,aH,aQ,d,a];omega)];exact bQ (by simp only[aq,aH,aQ,d,a];omega)
theorem Jk(w:World)(base:Nat)(v:Value)(n:Nat)(xs:List Value)(a:w.ownsRow base 122 4 v n xs)(g:Nat)(f i j l:Value)(x:∀u∈[f,i,j,l],u.oneCell'=true)(p:ah w g 122 #[f,i,j,l]) (H:n<=100000) (q:base<=w.heap.size):Calls Tryz.prog 60 #[v,.int .i64 (n:Int),.slice (some ⟨g,0,none⟩) 1 1] w (ql w base v.ownBlock n (xs++[f,i,j,l])):=by
 obtain⟨y,w',t,r,d,e⟩:=jG w base v n xs a g f i j l x p 127 (by omega) q;have z:∃A c,v=.slice A n c/\n<=c:=by
  rcases a.2 with⟨rfl,rfl⟩|⟨g,cap,D,rfl,_,_,d,_⟩
  ·exact⟨none,0,rfl,aa _⟩
  ·exact⟨_,_,rfl,d⟩
 obtain⟨A,c,rfl,K⟩:=z;have E:(n:Int)<=(c:Int):=by omega
 obtain⟨row,b⟩:=I ((Value.slice A n c).ownBlock);rw[<-b]at d e⊢;have C:Hid (∀k,y.ownBlock=some k->row=some k\/w.heap.size<=k):=J (λk s=>by
  rcases e with e|e
  ·exact .inl (e.symm.trans s)
  ·rw[e]at s;injection s with s;exact .inr (by omega))
 clear e;refine bX ?_ b a p r d;clear b a p r d;intro b a p r d;clear x;go_enter Tryz.func60,Tryz.ntmps60;go_wp2_with(at_builtin;refine Lib.wpList_append_run _ rfl (.tmp 23) (.tmp 24) 127 127 rfl _ _ rfl rfl _ _ t ?_);all_goals
  go_ret;exact⟨y,rfl,r.o,d.o,C.o⟩
theorem FO(w:World)(base g0 cap:Nat)(n i:Nat)(xs:List Value)(b:Array Value)(an:base<=g0)(l:w.heap[g0]?=some (.cells b 122 (0,0)))(O:b.size=cap*4)(W:xs.length=n*4)(Q:b.toList.take (n*4)=xs)(a5:i<n)(ab:n+1<=cap)(ao:cap<=maxLen)(g:Nat) (ad:g≠g0) (z C D E:Value) (ap:∀u∈[z,C,D,E],u.oneCell'=true) (ae:∀u∈xs,u.oneCell'=true) (T:ah w g 122 #[z,C,D,E]) (bA:n<=100000):Calls Tryz.prog 60 #[.slice (some ⟨g0,0,none⟩) n cap,.int .i64 (i:Int),.slice (some ⟨g,0,none⟩) 1 1] w (ql w base (some g0) n (eH xs i [z,C,D,E])):=by
 have a6:((i:Int)==(n:Int))=false:=by rw[aZ];omega
 have ba:(i:Int)<=(n:Int):=by omega
 have bb:(n:Int)<=(cap:Int):=by omega
 have bc:(n:Int)+1<=(cap:Int):=by omega
 have bd:(n:Int)<=100000:=by omega
 obtain⟨a,X⟩:=I (n+1);have be:(n:Int)+1=(a:Int):=by omega
 have bi:(a:Int)<=(cap:Int):=by omega
 have bj:decide ((cap:Int)<(a:Int))=false:=by rw[decide_eq_false_iff_not];omega
 have bl:IntKind.i64.wrap (a:Int)=(a:Int):=IntWalk.i64_in _ (by omega);have bm:(i:Int)<=(a:Int):=by omega
 obtain⟨d,ac⟩:=I (i+1);have bp:(i:Int)+1=(d:Int):=by omega
 have br:IntKind.i64.wrap (d:Int)=(d:Int):=IntWalk.i64_in _ (by omega);have bs:(d:Int)<=(a:Int):=by omega
 have a0:(callFunc 108 #[.slice (some ⟨g,0,none⟩) 1 1,.slice (some ⟨g0,d*4,none⟩) (a-d) (cap-d)]).run Tryz.prog w=.ok (.value (.bool false)) w:=by
  rw[run_callFunc_extern (P:=Tryz.prog) (f:=108) Tryz.func108 (by kernel_rfl) (by kernel_rfl) (by kernel_rfl) (e:=Extern.SlicesOverlaps.overlaps #[127,127] #[4]) (by kernel_rfl),
   Lib.run_overlaps_apart w 127 4 122 Tryz.underlying127 4 Tryz.sizeOf122 ⟨g,0,none⟩ ⟨g0,d*4,none⟩ 1 1 (a-d) (cap-d) ad 122 122 4 b.size (by unfold ah at T;simp[World.shape?,T]) (by simp[World.shape?,l]) (by omega) (T.frozen 0) (T.frozen 4)]
  rfl
 have r:(xs.drop (i*4)).length=(n-i)*4:=by rw[aQ,W];omega
 have s:Nat.min (a-i) (a-d)=n-i:=by show min (a-i) (a-d)=n-i;omega
 obtain⟨p,x⟩:=I ((b.toList.take (d*4)++(xs.drop (i*4)++b.toList.drop (d*4+(xs.drop (i*4)).length))).toArray);have H:=jm w.drew 3 g0 (d*4) (a-d) (cap-d) ⟨g0,i*4,none⟩ (a-i) (cap-i) b (xs.drop (i*4)) l (by rw[s,r]) (λj v Y=>by rw[Addr.add_lit];have a7:w.cell? ⟨g0,i*4+j,none⟩=b[i*4+j]?:=(show ah w g0 122 b from l).cell _;have a8:w.drew.cell? ⟨g0,i*4+j,none⟩=w.cell? ⟨g0,i*4+j,none⟩:=rfl;rw[a8,a7];have a1:=(ay.1 Y).1;rw[getElem?_drop,<-Q,bw,if_pos (by rw[r]at a1;omega)]at Y;simpa using Y) (by rw[r,O];omega) (λv a9=>ae v (mem_of_mem_drop a9))
 rw[<-x,s]at H;have t:p.size=cap*4:=by rw[x];simp[r,O];omega
 have V:ah (w.drew.setRow g0 p) g0 122 p:=setRow_heap w.drew g0 b p 122 (0,0) l;have K:ah (w.drew.setRow g0 p) g 122 #[z,C,D,E]:=(setRow_other w.drew g0 g p ad).trans T;have q:Nat.min 1 (a-i)=1:=by show min 1 (a-i)=1;omega
 obtain⟨Z,y⟩:=I ((p.toList.take (i*4)++([z,C,D,E]++p.toList.drop (i*4+[z,C,D,E].length))).toArray);have M:=jm (w.drew.setRow g0 p) 3 g0 (i*4) (a-i) (cap-i) ⟨g,0,none⟩ 1 1 p [z,C,D,E] V (by rw[q];rfl) (λj v Y=>by rw[Addr.add_lit,Nat.zero_add,K.cell];simpa using Y) (by rw[t];simp;omega) ap
 rw[<-y,q]at M;have al:Hid (ql w base (some g0) n (eH xs i [z,C,D,E]) (.returned (.slice (some ⟨g0,0,none⟩) a cap)) ((w.drew.setRow g0 p).setRow g0 Z)):=J (by
  have am:Z.size=cap*4:=by rw[y];simp[t];omega
  have a2:=DH b.toList xs [z,C,D,E] n i Q (by simp[O];omega) a5 rfl;refine⟨_,rfl,?_,⟨rfl,rfl,rfl,by simp[World.setRow],λk a3 a4=>?_⟩,λk a3=>.inl a3⟩
  ·rw[X];refine⟨?_,.inr ⟨g0,cap,Z,rfl,an,setRow_heap (w.drew.setRow g0 p) g0 p Z 122 (0,0) V,ab,ao,am,?_⟩⟩
   ·unfold eH;simp[r,W];omega
   ·rw[y,x,ac];exact a2
  ·have af:k≠g0:=λe=>a4 (by rw[e]);rw[setRow_other (w.drew.setRow g0 p) g0 k Z af,setRow_other w.drew g0 k p af];rfl)
 have bv:¬cap=d:=by omega
 have bx:¬cap=i:=by omega
 clear ap ae;replace H:Hid _:=J H;replace M:Hid _:=J M;refine aR ?_ V K x y t s q r X ac l T Q;clear V K x y t s q r X ac l T Q;intro V K x y t s q r X ac l T Q;replace O:=J O;replace W:=J W;go_enter Tryz.func60,Tryz.ntmps60;go_wp2_with(simp only[a0]);go_region_law(refine wp_copy_runI _ (.tmp 73) (.tmp 76) 127 127 rfl (.slice (some ⟨g0,d*4,none⟩) (a-d) (cap-d)) (.slice (some ⟨g0,i*4,none⟩) (a-i) (cap-i)) (by simp[Act.eval,Act.put]) (by simp[Act.eval,Act.put]) H.o ?_)
 go_wp2;rw[M.o];go_wp2;all_goals
  go_ret;exact al.o
theorem Ax(a xs vs:List Value)(n i:Nat)(e:a.take (i*4)=xs.take (i*4))(j:(n+1)*4<=a.length)(b:xs.length=n*4)(k:i<n)(d:vs.length=4):(((a.take (i*4)++(vs++a.drop (i*4+vs.length))).take ((i+1)*4))++(xs.drop (i*4)++(a.take (i*4)++(vs++a.drop (i*4+vs.length))).drop ((i+1)*4+(xs.drop (i*4)).length))).take ((n+1)*4)=xs.take (i*4)++(vs++xs.drop (i*4)):=by
 have f:(a.take (i*4)++(vs++a.drop (i*4+vs.length))).take ((i+1)*4)=xs.take (i*4)++vs:=by rw[<-av,e];exact take_left' (by rw[aq,aH,b,d];omega)
 rw[f,<-av (xs.take (i*4)) vs (xs.drop (i*4)),<-av (xs.take (i*4)++vs) (xs.drop (i*4))];exact take_left' (by simp only[aq,aH,aQ,d,b];omega)
theorem FP(w:World)(base g0:Nat)(n i:Nat)(xs:List Value)(Q:Array Value)(bv:base<=w.heap.size)(b:w.heap[g0]?=some (.cells Q 122 (0,0)))(p:xs.length=n*4)(al:Q.toList.take (n*4)=xs)(bA:i<n)(g:Nat) (X Y Z ab:Value) (bm:∀u∈[X,Y,Z,ab],u.oneCell'=true) (a6:∀u∈xs,u.oneCell'=true) (ao:ah w g 122 #[X,Y,Z,ab]) (cp:n<=100000):Calls Tryz.prog 60 #[.slice (some ⟨g0,0,none⟩) n n,.int .i64 (i:Int),.slice (some ⟨g,0,none⟩) 1 1] w (ql w base (some g0) n (eH xs i [X,Y,Z,ab])):=by
 obtain⟨i0,a7,a8,a9,ap⟩:=info_parts jM;have bB:((i:Int)==(n:Int))=false:=by rw[aZ];omega
 have b5:(i:Int)<=(n:Int):=by omega
 have b6:(n:Int)<=100000:=by omega
 have bx:g0<w.heap.size:=by
  rcases aA g0 w.heap.size with h|h
  ·exact h
  ·rw[Array.getElem?_eq_none h]at b;cases b
 have b0:g<w.heap.size:=ao.lt;obtain⟨a,am⟩:=I (n+1);have b7:(n:Int)+1=(a:Int):=by omega
 have b8:decide ((n:Int)<(a:Int))=true:=by rw[decide_eq_true_iff];omega
 have b1:decide (n<a)=true:=by rw[decide_eq_true_iff];omega
 have b9:IntKind.i64.wrap (a:Int)=(a:Int):=IntWalk.i64_in _ (by omega);have ca:(i:Int)<=(a:Int):=by omega
 obtain⟨z,a4⟩:=I (i+1);have cb:(i:Int)+1=(z:Int):=by omega
 have cc:IntKind.i64.wrap (z:Int)=(z:Int):=IntWalk.i64_in _ (by omega);have ce:(z:Int)<=(a:Int):=by omega
 obtain⟨M,bc⟩:=I (n+1-i);have cf:(a:Int)-(i:Int)=(M:Int):=by omega
 have cg:IntKind.i64.wrap (M:Int)=(M:Int):=IntWalk.i64_in _ (by omega);obtain⟨G,an⟩:=I (grownCap w a n 122);have ch:a<=G:=by rw[an];exact grownCap_ge w _ _ _
 have ci:(a:Int)<=(G:Int):=by omega
 have ba:G<=maxLen:=by rw[an];exact grownCap_le_maxLen w a n 122 (by unfold maxLen;omega)
 have b2:(G:Int)<=9223372036854775807:=by unfold maxLen at ba;omega
 obtain⟨B,a0⟩:=I (w.heap.size);obtain⟨d,s⟩:∃d:Array Value,d=(xs.take (i*4)).toArray++Builtin.zeroCells (Value.agg #[.slice none 0 0,.slice none 0 0,.int .i64 0,.int .i64 0]).cells M++Builtin.zeroCells (Value.agg #[.slice none 0 0,.slice none 0 0,.int .i64 0,.int .i64 0]).cells (G-a):=⟨_,rfl⟩;have T:d.size=G*4:=by rw[s];simp only[Array.size_append,size_toArray,aH,size_zeroCells,p];show min (i*4) (n*4)+M*4+(G-a)*4=G*4;omega
 obtain⟨K,f⟩:=I (w.drew.alloc (.cells d 122));have C:∀j v,xs[j]?=some v->w.cell? ⟨g0,j,none⟩=some v:=λj v t=>by rw[(show ah w g0 122 Q from b).cell];have cj:=(ay.1 t).1;rw[<-al,bw,if_pos (by omega)]at t;simpa using t
 have a1:(Builtin.firstCells i0.size i (.slice (some ⟨g0,0,none⟩) i n)).run Tryz.prog w.drew=.ok (xs.take (i*4)).toArray w.drew:=by
  rw[a9];exact run_firstCells_some w.drew 4 i ⟨g0,0,none⟩ i n (xs.take (i*4)) (by rw[aH,p];omega) (λj v t=>by
   rw[Addr.add_lit];rw[bw]at t;split at t
   ·simpa using C j v t
   ·cases t)
 have bp:∀ty,(Builtin.append_ #[127,3] ty #[.slice (some ⟨g0,0,none⟩) i n,.int .i64 (M:Int)]).run Tryz.prog w=.ok (.slice (some ⟨B,0,none⟩) a G) K:=λty=>by
  have h:=Lib.run_append_grow_zeros w 127 3 ty 122 i0 _ .i64 .i64 Tryz.underlying127 Tryz.underlying3 a7 a8 (some ⟨g0,0,none⟩) i n (xs.take (i*4)) a1 M (by omega) (by omega) (by omega) (by omega) (by rw[ap];omega) (by rw[ap];exact growslice_fits (by omega) (by omega));have e:i+M=a:=by omega
  rw[e,<-an,<-s,<-f,<-a0]at h;exact h
 have ae:ah K B 122 d:=by rw[f,a0];exact heap_alloc_new w.drew _
 have a2:∀k bd,w.heap[k]?=some bd->K.heap[k]?=some bd:=λk bd h=>by
  have a5:k<w.heap.size:=by
   rcases aA k w.heap.size with be|be
   ·exact be
   ·rw[Array.getElem?_eq_none be]at h;cases h
  rw[f];exact(Below.heap_alloc w.drew _ k a5).trans h
 have ac:ah K g 122 #[X,Y,Z,ab]:=a2 g _ ao;have x:ah K g0 122 Q:=a2 g0 _ b;have ck:g≠B:=by omega
 have bi:g0≠B:=by omega
 have q:Nat.min 1 (a-i)=1:=by show min 1 (a-i)=1;omega
 obtain⟨O,V⟩:=I ((d.toList.take (i*4)++([X,Y,Z,ab]++d.toList.drop (i*4+[X,Y,Z,ab].length))).toArray);have D:=jm K 3 B (i*4) (a-i) (G-i) ⟨g,0,none⟩ 1 1 d [X,Y,Z,ab] ae (by rw[q];rfl) (λj v t=>by rw[Addr.add_lit,Nat.zero_add,ac.cell];simpa using t) (by rw[T];simp;omega) bm
 rw[<-V,q]at D;have E:O.size=G*4:=by rw[V];simp[T];omega
 obtain⟨P,l⟩:=I (K.setRow B O);rw[<-l]at D;have af:ah P B 122 O:=by rw[l];exact setRow_heap K B d O 122 (0,0) ae
 have y:ah P g0 122 Q:=by rw[l];exact(setRow_other K B g0 O bi).trans x
 have H:(xs.drop (i*4)).length=(n-i)*4:=by rw[aQ,p];omega
 have r:Nat.min (n-i) (a-z)=n-i:=by show min (n-i) (a-z)=n-i;omega
 obtain⟨a3,W⟩:=I ((O.toList.take (z*4)++(xs.drop (i*4)++O.toList.drop (z*4+(xs.drop (i*4)).length))).toArray);have ad:=jm P.drew 3 B (z*4) (a-z) (G-z) ⟨g0,i*4,none⟩ (n-i) (n-i) O (xs.drop (i*4)) af (by rw[r,H]) (λj v t=>by rw[Addr.add_lit];have b3:P.drew.cell? ⟨g0,i*4+j,none⟩=P.cell? ⟨g0,i*4+j,none⟩:=rfl;rw[b3,y.cell,<-(show ah w g0 122 Q from b).cell];rw[getElem?_drop]at t;exact C _ _ t) (by rw[H,E];omega) (λv b4=>a6 v (mem_of_mem_drop b4))
 rw[<-W,r]at ad;have bj:Hid (ql w base (some g0) n (eH xs i [X,Y,Z,ab]) (.returned (.slice (some ⟨B,0,none⟩) a G)) (P.drew.setRow B a3)):=J (by
  have bl:a3.size=G*4:=by rw[W];simp[H,E];omega
  have br:d.toList.take (i*4)=xs.take (i*4):=by rw[s];simp only[Array.toList_append,av];exact take_left' (by rw[aH,p];omega)
  have bs:=Ax d.toList xs [X,Y,Z,ab] n i br (by simp[T];omega) p bA rfl;refine⟨_,rfl,?_,⟨by rw[l,f];rfl,by rw[l,f];rfl,by rw[l,f];rfl,by rw[l,f];simp[World.setRow],λk a5 cl=>?_⟩,λk a5=>by
   have cr:B=k:=by injection a5
   exact .inr (by omega)⟩
  ·rw[am];refine⟨?_,.inr ⟨B,G,a3,rfl,by omega,setRow_heap P.drew B O a3 122 (0,0) af,by omega,ba,bl,?_⟩⟩
   ·unfold eH;simp[H,p];omega
   ·rw[W,V,a4];exact bs
  ·have bb:k≠B:=by omega
   rw[setRow_other P.drew B k a3 bb,show P.drew.heap=P.heap from rfl,l,setRow_other K B k O bb,f];exact Below.heap_alloc w.drew _ k (show k<w.heap.size by omega))
 have cm:¬G=i:=by omega
 have cn:¬G=z:=by omega
 have co:¬n=i:=by omega
 clear bm a6 a1 C a2;replace D:Hid _:=J D;replace ad:Hid _:=J ad;refine aR ?_ ae af ac x y V W E q r H am a4;clear ae af ac x y V W E q r H am a4;intro ae af ac x y V W E q r H am a4;refine gI ?_ bc an a0 f l s T b ao al p;clear bc an a0 f l s T b ao al p;intro bc an a0 f l s T b ao al p;clear a7 a8 a9 ap;go_enter Tryz.func60,Tryz.ntmps60;go_wp2_with(at_builtin;refine Lib.wpList_append_run _ rfl _ _ _ _ rfl _ _ rfl rfl _ _ (bp _) ?_);rw[D.o];go_wp2;go_region_law(refine wp_copy_runI _ (.tmp 50) (.tmp 53) 127 127 rfl (.slice (some ⟨B,z*4,none⟩) (a-z) (G-z)) (.slice (some ⟨g0,i*4,none⟩) (n-i) (n-i)) (by simp[Act.eval,Act.put]) (by simp[Act.eval,Act.put]) ad.o ?_)
 go_wp2;all_goals
  go_ret;exact bj.o
theorem Cy(w:World)(base:Nat)(v:Value)(n i:Nat)(xs:List Value)(j:w.ownsRow base 122 4 v n xs)(O:i<=n)(k:base<=w.heap.size)(q:∀u∈xs,u.oneCell'=true)(g:Nat) (y:g<base\/v.ownBlock≠some g) (a b d f:Value) (s:∀u∈[a,b,d,f],u.oneCell'=true) (t:ah w g 122 #[a,b,d,f]) (x:n<=100000):Calls Tryz.prog 60 #[v,.int .i64 (i:Int),.slice (some ⟨g,0,none⟩) 1 1] w (ql w base v.ownBlock n (eH xs i [a,b,d,f])):=by
 have o:=j.1;by_cases z:i=n
 ·subst z;have h:=Jk w base v i xs j g a b d f s t x k;have e:eH xs i [a,b,d,f]=xs++[a,b,d,f]:=by unfold eH;rw[bQ (by omega),drop_of_length_le (by omega),append_nil]
  rw[e];exact h
 ·rcases j.2 with⟨rfl,rfl⟩|⟨g0,cap,r,rfl,C,D,M,E,H,l⟩
  ·simp at o;omega
  ·have K:g≠g0:=by
    rcases y with h|h
    ·omega
    ·intro e;exact h (by rw[e];rfl)
   by_cases p:n+1<=cap
   ·exact FO w base g0 cap n i xs r C D H o l (by omega) p E g K a b d f s q t x
   ·obtain rfl:cap=n:=by omega
    exact FP w base g0 cap i xs r k D o l (by omega) g a b d f s q t x
def byteOf(F:Nat->Prop)(w:World)(k:Nat):Prop:=bF F w k/\∃cs,ah w k 5 cs
def cR(F:Nat->Prop)(w:World)(rows:List (List Value))(cs:List ai):Prop:=∀(k:Nat) (vs:List Value) (c:ai),rows[k]?=some vs->cs[k]?=some c->cN (byteOf F w) w vs c
structure iw (F:Nat->Prop) (w:World) (B:Nat) (cv kv:Value) (n:aj):Prop where
 rows:∃rows:List (List Value),rows.length=n.cells.length/\w.ownsRow B 122 4 cv n.cells.length rows.flatten/\cR F w rows n.cells
 kids:w.ownsRow B 3 1 kv n.kids.length (n.kids.map encI)
 above:∀j,F j->j<B
section
variable {F F' S:Nat->Prop}{w w':World}{B:Nat}{cv kv:Value}{n:aj}{rows:List (List Value)}{cs:List ai}
theorem dK.Jl(h:dK w B cv kv n)(hF:∀j,F j->j<B):iw F w B cv kv n:=by obtain⟨rows,b,d,e⟩:=h.rows;exact⟨⟨rows,b,d,λk vs c f i=>(e k vs c f i).mono λj a=>⟨⟨ah.lt a.2.choose_spec,λl=>by have:=hF j l;have:=a.1;omega⟩,a.2⟩⟩,h.kids,hF⟩
theorem cN.iZ{vs:List Value}{c:ai}(h:cN (byteOf F w) w vs c)(e:R S w w')(f:∀k cs,S k->¬ah w k 5 cs):cN (byteOf F w') w' vs c:=h.keep λj i=>by obtain⟨⟨p,l⟩,d,b⟩:=i;have a:ah w' j 5 d:=e.blk b λo=>f _ _ o b;exact⟨⟨⟨ah.lt a,l⟩,d,a⟩,Eq.trans a b.symm⟩
theorem cR.iZ(h:cR F w rows cs)(a:R S w w')(b:∀k cs,S k->¬ah w k 5 cs):cR F w' rows cs:=λk vs c d e=>(h k vs c d e).iZ a b
theorem cR.one(h:cR F w rows cs)(j:rows.length=cs.length):∀u∈rows.flatten,u.oneCell'=true:=by intro u d;obtain⟨vs,b,a⟩:=mem_flatten.1 d;obtain⟨k,f,e⟩:=getElem_of_mem b;obtain⟨l,o,p,q,i,_⟩:=h k vs cs[k] (by rw[ak f,e]) (ak (by omega));subst i;simp at a;rcases a with rfl|rfl|rfl|rfl<;>rfl
theorem cR.four(h:cR F w rows cs)(i:rows.length=cs.length):∀a∈rows,a.length=4:=by intro a b;obtain⟨k,d,e⟩:=getElem_of_mem b;obtain⟨j,l,o,p,f,_⟩:=h k a cs[k] (by rw[ak d,e]) (ak (by omega));rw[f];rfl
theorem eU:∀(rows:List (List Value)) (i:Nat),(∀a∈rows,a.length=4)->(rows.take i).flatten=rows.flatten.take (i*4)/\(rows.drop i).flatten=rows.flatten.drop (i*4)
 |[],i,_=>by simp
 |a::t,0,_=>by simp
 |a::t,i+1,h=>by
  have j:a.length=4:=h a (.head _)
  obtain⟨b,d⟩:=eU t i λx f=>h x (.tail _ f)
  have e:(i+1)*4=a.length+i*4:=by omega
  constructor
  ·rw[take_succ_cons,flatten_cons,flatten_cons,b,e,take_length_add_append]
  ·rw[drop_succ_cons,flatten_cons,d,e,drop_length_add_append]
theorem ym(rows:List (List Value))(i:Nat)(vs:List Value)(a:∀e∈rows,e.length=4):(bZ rows i vs).flatten=eH rows.flatten i vs:=by obtain⟨b,d⟩:=eU rows i a;unfold bZ eH;rw[flatten_append,flatten_cons,b,d]
theorem yn{d:Type}(l:List d)(i:Nat)(x:d)(f:i<=l.length)(k:Nat):(bZ l i x)[k]?=if k<i then l[k]? else if k=i then some x else l[k-1]?:=by
 unfold bZ;have e:(l.take i).length=i:=by rw[aH];omega
 by_cases a:k<i
 ·rw[if_pos a,bM (by omega),bw,if_pos a]
 ·rw[if_neg a,getElem?_append_right (by omega),e];by_cases b:k=i
  ·rw[if_pos b,b,Nat.sub_self];rfl
  ·rw[if_neg b,show k-i=(k-i-1)+1 from by omega,getElem?_cons_succ,getElem?_drop,show i+(k-i-1)=k-1 from by omega]
theorem gE{a:Type}(l:List a)(i:Nat)(x:a)(b:i<=l.length):(bZ l i x).length=l.length+1:=by unfold bZ;simp;omega
theorem cR.ins(h:cR F w rows cs)(p:rows.length=cs.length){vs:List Value}{c:ai}(l:cN (byteOf F w) w vs c){i:Nat}(o:i<=cs.length):cR F w (bZ rows i vs) (bZ cs i c):=by
 intro k e j b a;rw[yn _ _ _ (by omega)]at b;rw[yn _ _ _ o]at a;split at b
 ·rename_i f;rw[if_pos f]at a;exact h k e j b a
 ·rename_i f;rw[if_neg f]at a;split at b
  ·rename_i d;rw[if_pos d]at a;injection b with b;injection a with a;subst b;subst a;exact l
  ·rename_i d;rw[if_neg d]at a;exact h _ e j b a
theorem iw.only(h:iw F w B cv kv n)(f:R S w w')(i:∀k,S k->∃t cs,ah w k t cs/\t≠5/\t≠122/\t≠3):iw F w' B cv kv n:=by
 obtain⟨rows,o,l,p⟩:=h.rows;refine⟨⟨rows,o,f.row l λk b j=>?_,p.iZ f λk cs b q=>?_⟩,f.row h.kids λk b j=>?_,h.above⟩
 ·obtain⟨t,e,a,_,d,_⟩:=i k j;exact au l a (Ne.symm d) b
 ·obtain⟨t,e,a,d,_⟩:=i k b;exact ah.iH q a (Ne.symm d) rfl
 ·obtain⟨t,e,a,_,_,d⟩:=i k j;exact au h.kids a (Ne.symm d) b
theorem iw.gS(h:iw F w B cv kv n):bI (bF F w) w (.agg #[.bool n.leaf,cv,kv]) n:=by
 obtain⟨rows,o,f,b⟩:=h.rows;have i:=h.kids;have a:∀{e:TypeId} {size m:Nat} {v:Value} {xs:List Value},w.ownsRow B e size v m xs->∃A c,v=.slice A m c/\m<=c:=by
  intro e size m v xs h;rcases h.2 with⟨rfl,rfl⟩|⟨g,cap,C,rfl,_,_,b,_⟩
  ·exact⟨none,0,rfl,aa _⟩
  ·exact⟨_,_,rfl,b⟩
 obtain⟨A,c,rfl,p⟩:=a f;obtain⟨q,d,rfl,r⟩:=a i;have l:∀k,B<=k->k<w.heap.size->bF F w k:=λk D s=>⟨s,λt=>by have:=h.above k t;omega⟩;exact⟨A,c,q,d,rfl,p,r,⟨rows,o,Rd.fP f l,λk vs x u y=>(b k vs x u y).mono λj z=>z.1⟩,Rd.fP i l⟩
theorem iw.ins(h:iw F w B cv kv n){a:Value}{i:Nat}{c:ai}{vs:List Value}(q:w.grownBy w' cv.ownBlock)(d:i<=n.cells.length)(rows:List (List Value))(e:rows.length=n.cells.length)(l:w.ownsRow B 122 4 cv n.cells.length rows.flatten) (o:cR F w rows n.cells) (r:cN (byteOf F w) w vs c) (f:w'.ownsRow B 122 4 a (n.cells.length+1) (eH rows.flatten i vs)):iw F w' B a kv ⟨n.leaf,bZ n.cells i c,n.kids⟩:=by have p:R (λj=>cv.ownBlock=some j) w w':=(R.refl _ w).grown q (λk b _=>b);refine⟨⟨bZ rows i vs,by rw[gE _ _ _ (by omega),gE _ _ _ d,e],?_,(o.ins e r d).iZ p λk cs b s=>au l s (by decide) b⟩,p.row h.kids λk b=>mC h.kids l (by decide) k b,h.above⟩;show w'.ownsRow B 122 4 a (bZ n.cells i c).length _;rw[gE _ _ _ d,ym _ _ _ (o.four e)];exact f
end
def yo(F:Nat->Prop)(w:World)(b d f:Nat)(bg:aB)(a:aj)(e:Ending)(w':World):Prop:=e=.returned (.int .i64 0)/\∃F' B cv kv,ar w' F' b bg/\R (λk=>F k\/f<=k) w w'/\(∀k,F' k->F k\/w.heap.size<=k)/\iw F' w' B cv kv a/\ah w' d 129 #[.bool a.leaf,cv,kv]
theorem dw{w:World}{B size m k:Nat}{e:TypeId}{v:Value}{xs:List Value}(h:w.ownsRow B e size v m xs)(a:v.ownBlock=some k):B<=k/\k<w.heap.size:=by
 rcases h.2 with⟨e,_⟩|⟨g,cap,b,e,d,f,_⟩
 ·rw[e]at a;simp[Value.ownBlock]at a
 ·rw[e]at a;have:g=k:=by simpa[Value.ownBlock]using a
  subst this;exact⟨d,ah.lt (show ah w g _ b from f)⟩
theorem aE{w:World}{B size m:Nat}{e:TypeId}{v:Value}{xs:List Value}(h:w.ownsRow B e size v m xs):∃A c,v=.slice A m c:=by
 rcases h.2 with⟨rfl,a⟩|⟨g,cap,b,rfl,_⟩
 ·rw[a];exact⟨none,0,rfl⟩
 ·exact⟨_,_,rfl⟩
theorem FQ(w:World)(F:Nat->Prop)(ae:Nat)(st:aB)(ao:ar w F ae st)(a gc gt B af i:Nat)(cv kv:Value)(n:aj)(c:ai)(x y z C:Value)(W:iw F w B cv kv n)(M:ah w a 129 #[.bool n.leaf,cv,kv])(O:ah w gc 122 #[x,y,z,C]) (al:cN (byteOf F w) w [x,y,z,C] c) (am:i<=n.cells.length) (D:n.cells.length<=100000) (a3:af<=a) (bm:af<=B) (bp:B<=w.heap.size) (a4:¬F a):Calls Tryz.prog 59 #[.pointer (some ⟨a,0,none⟩),.int .i64 (i:Int),.bool false,.pointer (some ⟨gc,0,none⟩),.pointer (some ⟨gt,0,none⟩)] w (yo F w ae a af st ⟨n.leaf,bZ n.cells i c,n.kids⟩):=by
 obtain⟨rows,v,l,P⟩:=W.rows;have a0:=P.one v;have a5:∀u∈[x,y,z,C],u.oneCell'=true:=by obtain⟨bA,bB,b0,b1,e,_⟩:=al;injection e with ba e;injection e with bb e;injection e with bc e;injection e with bd e;subst ba;subst bb;subst bc;subst bd;intro u a6;simp at a6;rcases a6 with rfl|rfl|rfl|rfl<;>rfl
 obtain⟨o,a7⟩:=I (Obj.cells #[x,y,z,C] 122 (0,0));have br:=ah.lt M;have bs:=ah.lt O;have f:R (λ_=>False) w (w.alloc o).drew:=((R.refl _ w).alloc o).drew;have d:=f.row l (λ_ _ h=>h);have r:cR F (w.alloc o).drew rows n.cells:=P.iZ f (λ_ _ h=>h.elim);have Y:=al.iZ f (λ_ _ h=>h.elim);have T:ah (w.alloc o).drew a 129 #[.bool n.leaf,cv,kv]:=f.blk M (λh=>h);have Z:iw F (w.alloc o).drew B cv kv n:=⟨⟨rows,v,d,r⟩,f.row W.kids (λ_ _ h=>h),W.above⟩;have ab:ar (w.alloc o).drew F ae st:=(ao.alloc o).drew;have ac:ah (w.alloc o).drew w.heap.size 122 #[x,y,z,C]:=by rw[a7];exact ah.new w 122 #[x,y,z,C]
 have X:=J (Cy (w.alloc o).drew B cv n.cells.length i rows.flatten d am (by simp[World.drew];omega) a0 w.heap.size (.inr λe=>by have:=(dw l e).2;omega) x y z C a5 ac D);have E:Hid (∀s b,b.ownsRow B 122 4 s (n.cells.length+1) (eH rows.flatten i [x,y,z,C])->(w.alloc o).drew.grownBy b cv.ownBlock->ah b a 129 #[.bool n.leaf,cv,kv]->yo F w ae a af st ⟨n.leaf,bZ n.cells i c,n.kids⟩ (.returned (.int .i64 0)) (b.setCell ⟨a,1,none⟩ s)):=J (by
  intro s b j t q;have a8:R (λk=>cv.ownBlock=some k) (w.alloc o).drew b:=(R.refl _ _).grown t (λk H _=>H);have a1:R (λk=>k=a) b (b.setCell ⟨a,1,none⟩ s):=(R.refl (λk=>k=a) b).setCell (p:=⟨a,1,none⟩) (λ_=>rfl) s;have be:=Z.ins t am rows v d r Y j;refine⟨rfl,F,B,s,kv,?_,?_,λk H=>.inl H,be.only a1 λk H=>by subst H;exact⟨_,_,q,by decide,by decide,by decide⟩,q.aK 1 s⟩
  ·exact(ab.grown t (λk H bi=>by have:=W.above k bi;have:=(dw l H).1;omega)).aK a4 s
  ·exact((f.mono (λ_ _ h=>h.elim)).trans a8 (λk H h=>.inr (by have:=(dw l h).1;omega))).trans a1 (λk H h=>.inr (by subst h;exact a3)))
 have an:Hid (∀b,(w.alloc o).drew.grownBy b cv.ownBlock->ah b a 129 #[.bool n.leaf,cv,kv]):=J λb t=>T.grown t λe=>au d T (by decide) e.symm;obtain⟨b2,V⟩:=I (n.leaf);obtain⟨N,ad⟩:=I (n.cells.length);obtain⟨Q,a2⟩:=I (yo F w ae a af st ⟨n.leaf,bZ n.cells i c,n.kids⟩);rw[<-a2]at E⊢;replace a2:=J a2;rw[<-ad]at X;rw[<-V,<-ad]at E;rw[<-V]at an M;have a9:∃A cap,cv=.slice A N cap:=by
  rw[ad];rcases l.2 with⟨rfl,bj⟩|⟨g,cap,bv,rfl,_⟩
  ·rw[bj];exact⟨none,0,rfl⟩
  ·exact⟨_,_,rfl⟩
 obtain⟨A,cap,rfl⟩:=a9;obtain⟨row,K⟩:=I ((Value.slice A N cap).ownBlock);rw[<-K]at X E an;have b3:w.cell? ⟨a,1,none⟩=some (.slice A N cap):=M.cell 1;have bx:(w.alloc o).cell? ⟨a,1,none⟩=some (.slice A N cap):=(M.alloc o).cell 1;have b4:w.cell? ⟨gc,0,none⟩=some x:=O.cell 0;have b5:w.cell? ⟨gc,1,none⟩=some y:=O.cell 1;have b6:w.cell? ⟨gc,2,none⟩=some z:=O.cell 2;have b7:w.cell? ⟨gc,3,none⟩=some C:=O.cell 3;subst a7;refine aR ?_ ao W M O al l P f d r Y T Z;clear ao W M O al l P f d r Y T Z;intro ao W M O al l P f d r Y T Z;refine dS ?_ ab ac V ad K v am D;clear ab ac V ad K v am D;intro ab ac V ad K v am D;clear a5 a0;go_enter Tryz.func59,Tryz.ntmps59;go_wp2_with fail;go_region_law(go_simp;go_at_call 60;refine X.o.mono ?_;rintro e b ⟨s,rfl,j,t,_⟩;have q:=an.o b t;(have ap:=J (E.o s b j t q));(obtain⟨b8,bl,rfl⟩:=aE j);have m1:=q.cell 1;have b9:=q.frozen 1;replace q:=J q;replace j:=J j;replace t:=J t)
 all_goals
  go_wp2_with fail;exact ap.o
def mD(F:Nat->Prop)(w:World)(a no:Nat)(m:Nat)(l:Option (List UInt8×Nat)):Prop:=
 match l with
 |none=>m=1/\ah w a 184 #[.slice none 0 0,.int .i64 (no:Int)]
 |some (key,b)=>m=2/\∃d e,ah w a 184 #[.slice none 0 0,.int .i64 (no:Int),.slice d key.length e,.int .i64 (b:Int)]/\Rd (byteOf F w) w 1 d key.length (bv key)/\key.length<=e
def iN(F:Nat->Prop)(w:World)(b no:Nat)(st':aB)(l:Option (List UInt8×Nat))(e:Ending)(w':World):Prop:=∃F' a m,e=.returned (.tuple #[.slice (some ⟨a,0,none⟩) m m,.int .i64 0])/\ar w' F' b st'/\Ev F w F' w'/\w.heap.size<=a/\¬F' a/\mD F' w' a no m l
theorem FR(w:World)(F:Nat->Prop)(gt D k:Nat)(st:aB)(h:ar w F D st)(C:aL w F gt D k)(no:Nat)(n:aj)(v:Value)(r:bI (bF F w) w v n)(s:dh st no n):Calls Tryz.prog 105 #[.pointer (some ⟨gt,0,none⟩),.int .i64 (no:Int),v] w (iN F w D no (aY st no n) none):=by
 obtain⟨A,c,B,d,rfl⟩:=r.box;obtain⟨X,t⟩:=I (n.leaf);obtain⟨M,P⟩:=I (n.cells.length);obtain⟨K,Q⟩:=I (n.kids.length);rw[<-t,<-P,<-Q]at r⊢;have b:Ev F w F (w.alloc (.cells #[.bool X,.slice A M c,.slice B K d] 129)):=(Ev.refl F w).az _;have a:=ah.new w 129 #[.bool X,.slice A M c,.slice B K d];have u:=h.lt;have af:¬F w.heap.size:=λY=>by have:=u _ Y;omega
 have al:=ah.lt C.blk;have x:=h.alloc (.cells #[.bool X,.slice A M c,.slice B K d] 129);have E:=C.ev b;have y:=r.ev b;have W:=J (gQ _ _ n (y.old λk ac=>ac.1) s.2.1 (by have:=s.2.2;omega));have H:=J (by have:=s.2.2;omega:(aC n:Int)<=508);obtain⟨Z,T⟩:=I (aC n);rw[<-T]at W H;have am:(Z:Int)<=508:=H.o;refine aR ?_ h C r t P Q T x b s a E y;clear h C r t P Q T x b s a E y;intro h C r t P Q T x b s a E y;replace u:=J u;have an:=a.o.cell 0;have ao:=a.o.cell 1;have ap:=a.o.cell 2;go_enter Tryz.func105,Tryz.ntmps105;go_wp2_with(first|(go_at_call 77;refine W.o.mono ?_;rintro e j ⟨rfl,f⟩;have i:=a.o.below f (ah.lt a.o);have l:=i.alloc (.cells #[.slice none 0 0,.int .i64 (no:Int)] 184);have a1:=i.cell 0;have a2:=i.cell 1;have a3:=i.cell 2;have a0:=l.cell 0;have a4:=l.cell 1;have a5:=l.cell 2;replace f:=J f;replace i:=J i;replace l:=J l));have p:Ev F w F (j.alloc (.cells #[.slice none 0 0,.int .i64 (no:Int)] 184)):=(b.o.below f.o).az _;have ab:=J (lp _ F gt D k st ((x.o.below f.o).alloc _) (C.o.ev p) no n _ (r.o.ev p) s.o);have z:Hid (w.heap.size<=j.heap.size/\¬F j.heap.size/\ah (j.alloc (.cells #[.slice none 0 0,.int .i64 (no:Int)] 184)) j.heap.size 184 #[.slice none 0 0,.int .i64 (no:Int)]):=J (by
  have a6:=b.o.size;have a7:=f.o.size;have ad:w.heap.size<=j.heap.size:=by omega
  exact⟨ad,λY=>by have:=u.o _ Y;omega,ah.new j 184 _⟩)
 replace p:=J p;go_at_call 103;refine ab.o.mono ?_;rintro e ae ⟨rfl,F',O,q⟩;have V:Hid (iN F w D no (aY st no n) none (.returned (.tuple #[.slice (some ⟨j.heap.size,0,none⟩) 1 1,.int .i64 0])) ae):=J ⟨F',j.heap.size,1,rfl,O,p.o.trans q,z.o.1,q.new z.o.2.1 (by simp),rfl,q.blk z.o.2.2 z.o.2.1⟩;replace O:=J O;replace q:=J q;go_wp2_with fail
 go_ret2
 exact V.o
theorem DI(w:World)(gt:Nat)(c:ai)(b d:Option Addr)(f i j k:Nat)(l:c.over=0):Calls Tryz.prog 61 #[.pointer (some ⟨gt,0,none⟩),.agg #[.slice b f j,.slice d i k,.int .i64 (c.over:Int),.int .i64 (c.long:Int)]] w λe w'=>e=.returned (.int .i64 0)/\Below w.heap.size w w':=by rw[l];have a:=((Below.refl w.heap.size w).alloc (aa _) (.cells #[.pointer (some ⟨gt,0,none⟩)] 66)).alloc (by simp) (.cells #[.slice b f j,.slice d i k,.int .i64 ((0:Nat):Int),.int .i64 (c.long:Int)] 122);replace a:=J a;go_enter Tryz.func61,Tryz.ntmps61;go_wp2_with fail;go_ret;exact⟨rfl,a.o⟩
theorem je(A:Option Addr)(n c:Nat)(xs:List UInt8)(w:World)(a:RB w w.heap.size A n xs)(s:n<=140737488351232):Calls Tryz.prog 63 #[.slice A n c] w (dH w xs):=by
 have j:=λk=>Lib.run_eql_slice_nil (P:=Tryz.prog) k 23 5 A n c 0 0 Tryz.underlying23;rcases A with _|e
 ·have f:n=0:=by
   rcases eq_zero_or_pos n with d|d
   ·exact d
   ·obtain⟨e,h,_⟩:=a.2 d;cases h
  subst f;have l:xs=[]:=bT a.len;subst l;clear a;go_enter Tryz.func63,Tryz.ntmps63;go_wp2;go_ret;exact dH.mk (OB.nil _ _) (Below.refl _ _)
 ·have p:=J a;clear a;go_enter Tryz.func63,Tryz.ntmps63;go_wp2_with(at_builtin;refine eF rfl (.tmp 5) (.tmp 6) rfl w.heap.size _ 0 [] (OB.empty w (aa _)) rfl w.heap.size (some e) n c xs rfl (p.o.alloc (aa _) _) (by omega) (by simp) ?_;intro v1 t b i r q);go_ret;exact dH.mk b (((Below.refl _ _).alloc (aa _) _).trans i)
def Cz(w:World)(c:ai)(e:Ending)(w':World):Prop:=∃a b,e=.returned (.tuple #[.agg #[a,b,.int .i64 (c.over:Int),.int .i64 (c.long:Int)],.int .i64 0])/\cN (G5 w.heap.size w') w' [a,b,.int .i64 (c.over:Int),.int .i64 (c.long:Int)] c/\Below w.heap.size w w'
theorem su(w:World)(gt:Nat)(ae af:Option Addr)(L M ap a0:Nat)(key b:List UInt8)(a:RB w w.heap.size ae L key)(X:RB w w.heap.size af M b)(bl:L<=1000000)(bm:M<=64):Calls Tryz.prog 54 #[.pointer (some ⟨gt,0,none⟩),.slice ae L ap,.slice af M a0] w (Cz w ⟨key,b,0,0⟩):=by
 have be:(M:Int)<=64:=by omega
 have O:Hid (key.length=L):=J a.len;have P:Hid (b.length=M):=J X.len;have Q:=(Below.refl w.heap.size w).alloc (aa _) (.cells #[.slice none 0 0,.slice none 0 0,.int .i64 0,.int .i64 0] 122);have H:=ah.new w 122 #[.slice none 0 0,.slice none 0 0,.int .i64 0,.int .i64 0];have a1:=J (je ae L ap key (w.alloc (.cells #[.slice none 0 0,.slice none 0 0,.int .i64 0,.int .i64 0] 122)) (a.kW _) (by omega));refine bz ?_ a X Q H;clear a X Q H;intro a X Q H;go_enter Tryz.func54,Tryz.ntmps54;go_wp2_with fail;go_at_call 63;refine a1.o.mono ?_;rintro e l ⟨bp,rfl,C,D⟩;rw[O.o]at C;obtain⟨f,i,rfl,Y,_,T,_⟩:=C.form;have u:=H.o.below D (ah.lt H.o);refine bz ?_ C D Y T;clear C D Y T;intro C D Y T;have z0:=u.cell 0;have br:=u.cell 1;have bs:=u.cell 2;have z3:=u.cell 3;replace u:=J u;go_wp2_with fail;have x:Below w.heap.size w l:=Q.o.trans (D.o.mono (by simp));have bi:w.heap.size<l.heap.size:=by have:=D.o.size;simp at this;omega
 have bj:¬l.heap.size=w.heap.size:=by omega
 have al:¬w.heap.size=l.heap.size:=by omega
 have am:=J (je af M a0 b (l.alloc (.cells #[.slice f L i,.slice none 0 0,.int .i64 0,.int .i64 0] 122)) (((RB.below X.o x).more x.size).kW _) (by omega));replace x:=J x;refine am.o.mono ?_;rintro e r ⟨v4,rfl,E,y⟩;rw[P.o]at E;obtain⟨q,s,rfl,Z,_,V,_⟩:=E.form;have t:=(ah.new l 122 #[.slice f L i,.slice none 0 0,.int .i64 0,.int .i64 0]).below y (by simp);have d:=(u.o.alloc (.cells #[.slice f L i,.slice none 0 0,.int .i64 0,.int .i64 0] 122)).below y (by simp;omega);have z:Below w.heap.size w r:=(x.o.trans ((Below.refl w.heap.size l).alloc (by omega) (.cells #[.slice f L i,.slice none 0 0,.int .i64 0,.int .i64 0] 122))).trans (y.mono (by simp;omega));have an:Hid (∀W,R (λk=>k=w.heap.size\/k=l.heap.size) r W->Cz w ⟨key,b,0,0⟩ (.returned (.tuple #[.agg #[.slice f L i,.slice q M s,.int .i64 0,.int .i64 0],.int .i64 0])) W):=J (by
  intro W ac;have a5:∀j,(∃cs,ah r j 5 cs)->W.heap[j]?=r.heap[j]?:=λj ab=>by
   obtain⟨cs,ab⟩:=ab;refine ac.block j (ah.lt ab) ?_;rintro(rfl|rfl)
   ·exact ah.iH ab d (by decide) rfl
   ·exact ah.iH ab t (by decide) rfl
  have a6:Rd (G5 w.heap.size l) l 1 f L (bv key):=by have:=C.o.KU;exact Rd.keep this λk a=>⟨⟨by have:=a.1;simp at this;omega,a.2⟩,rfl⟩
  have a2:Rd (G5 w.heap.size r) r 1 f L (bv key):=a6.keep λk a=>by obtain⟨a7,cs,ao⟩:=a;have a3:=(ao.alloc (.cells #[.slice f L i,.slice none 0 0,.int .i64 0,.int .i64 0] 122)).below y (by have:=ah.lt ao;simp;omega);exact⟨⟨a7,cs,a3⟩,Eq.trans a3 ao.symm⟩
  have a8:Rd (G5 w.heap.size r) r 1 q M (bv b):=by have:=E.KU;exact Rd.keep this λk a=>⟨⟨by have:=a.1;simp at this;omega,a.2⟩,rfl⟩
  have a:∀k,G5 w.heap.size r k->G5 w.heap.size W k/\W.heap[k]?=r.heap[k]?:=λk a=>by have:=a5 k a.2;exact⟨⟨a.1,a.2.choose,this.trans a.2.choose_spec⟩,this⟩
  refine⟨.slice f L i,.slice q M s,rfl,⟨f,i,q,s,?_,?_,?_,?_,?_⟩,?_⟩
  ·show[Value.slice f L i,Value.slice q M s,_,_]=[Value.slice f key.length i,Value.slice q b.length s,_,_];rw[O.o,P.o]
  ·show key.length<=i;rw[O.o];exact T.o
  ·show b.length<=s;rw[P.o];exact V
  ·show Rd _ W 1 f key.length _;rw[O.o];exact a2.keep a
  ·show Rd _ W 1 q b.length _;rw[P.o];exact a8.keep a
  ·exact z.trans (ac.below (λk a=>by rcases a with rfl|rfl<;>omega) z.size))
 have bx:=t.cell 0;have bA:=t.cell 1;have bB:=t.cell 2;have b0:=t.cell 3;have b1:=t.frozen 1;have b2:=d.cell 0;have b3:=d.cell 1;have b4:=d.cell 2;have y3:=d.cell 3;have g0:=d.frozen 0;have g1:=d.frozen 1;have b5:=d.frozen 2;have g3:=d.frozen 3;refine eD ?_ t d E y Z V z;clear t d E y Z V z;intro t d E y Z V z;go_wp2_with fail;have ac:R (λk=>k=w.heap.size\/k=l.heap.size) r (((((r.setCell ⟨l.heap.size,1,none⟩ (.slice q M s)).setCell ⟨w.heap.size,0,none⟩ (.slice f L i)).setCell ⟨w.heap.size,1,none⟩ (.slice q M s)).setCell ⟨w.heap.size,2,none⟩ (.int .i64 0)).setCell ⟨w.heap.size,3,none⟩ (.int .i64 0)):=(((((R.refl _ r).setCell (p:=⟨l.heap.size,1,none⟩) (λ_=>Or.inr rfl) _).setCell (p:=⟨w.heap.size,0,none⟩) (λ_=>Or.inl rfl) _).setCell (p:=⟨w.heap.size,1,none⟩) (λ_=>Or.inl rfl) _).setCell (p:=⟨w.heap.size,2,none⟩) (λ_=>Or.inl rfl) _).setCell (p:=⟨w.heap.size,3,none⟩) (λ_=>Or.inl rfl) _
 refine bodyPost_ret (v:=.tuple #[.agg #[.slice f L i,.slice q M s,.int .i64 0,.int .i64 0],.int .i64 0]) ?_ rfl (an.o _ ac);have a9:=ah.far d.o (p:=⟨l.heap.size,1,none⟩) al (.slice q M s);have K:=(((a9.aK 0 (.slice f L i)).aK 1 (.slice q M s)).aK 2 (.int .i64 0)).aK 3 (.int .i64 0);obtain⟨ad,a4⟩:=I ((((((r.setCell ⟨l.heap.size,1,none⟩ (.slice q M s)).setCell ⟨w.heap.size,0,none⟩ (.slice f L i)).setCell ⟨w.heap.size,1,none⟩ (.slice q M s)).setCell ⟨w.heap.size,2,none⟩ (.int .i64 0)).setCell ⟨w.heap.size,3,none⟩ (.int .i64 0)));rw[<-a4]at K⊢;have ba:ad.cell? ⟨w.heap.size,0,none⟩=some (.slice f L i):=K.cell 0;have bb:ad.cell? ⟨w.heap.size,1,none⟩=some (.slice q M s):=K.cell 1;have bc:ad.cell? ⟨w.heap.size,2,none⟩=some (.int .i64 0):=K.cell 2;have bd:ad.cell? ⟨w.heap.size,3,none⟩=some (.int .i64 0):=K.cell 3;simp[results,Tryz.results54,go_sem,ba,bb,bc,bd]
theorem dK.CA{w:World}{B B':Nat}{cv kv:Value}{n:aj}(h:dK w B cv kv n)(a:B'<=B):dK w B' cv kv n:=by obtain⟨rows,d,e,f⟩:=h.rows;exact⟨⟨rows,d,dQ e a,λk vs c i l=>(f k vs c i l).mono λj b=>⟨aO a b.1,b.2⟩⟩,dQ h.kids a⟩
theorem sw(t e:TypeId)(d:Nat)(o:Tryz.prog.underlying t=some (.slice e))(f:(Tryz.prog.info? e).map (·.size)=some d)(A:Option Addr)(N c a b:Nat)(j:a<=b)(p:b<=c)(k:World):(Instr.slice t (.slice A N c) (some (.int .i64 (a:Int))) (some (.int .i64 (b:Int))) (some (.int .i64 (b:Int)))).run Tryz.prog k=.ok (.slice (if b=a then A else A.map (·.add (a*d))) (b-a) (b-a)) k:=by
 have q:(0:Int)<=(b:Int)/\(b:Int)<=(c:Int):=by omega
 have s:(0:Int)<=(b:Int)/\(b:Int)<=(b:Int):=by omega
 have r:(0:Int)<=(a:Int)/\(a:Int)<=(b:Int):=by omega
 cases hq:Tryz.prog.info? e with
 |none=>simp[hq]at f
 |some i=>
  have l:i.size=d:=by simpa[hq]using f
  simp[Instr.slice,Sem.run_bind,run_underlying o,Instr.sliceBounds,Instr.sliceBound,asIntOf,sizeOf,typeInfo,hq,l,q,r,p,j,go_sem]
def lL(w:World)(G:Nat->Prop)(n:aj)(e:Ending)(w':World):Prop:=∃A c B d,e=.returned (.agg #[.bool n.leaf,.slice A n.cells.length c,.slice B n.kids.length d])/\bI G w' (.agg #[.bool n.leaf,.slice A n.cells.length c,.slice B n.kids.length d]) n/\Below w.heap.size w w'
theorem ia.slice{G:Nat->Prop}{w:World}{A:Option Addr}{cs:List ai}(h:ia G w A cs){a b:Nat}(e:a<=b)(o:b<=cs.length):ia G w (if b=a then A else A.map (·.add (a*4))) ((cs.drop a).take (b-a)):=by
 obtain⟨rows,f,p,i⟩:=h;have j:=ia.Kj f i;have q:((rows.drop a).take (b-a)).length=((cs.drop a).take (b-a)).length:=by simp[f]
 have r:((cs.drop a).take (b-a)).length=b-a:=by simp;omega
 refine⟨(rows.drop a).take (b-a),q,?_,λk vs c d l=>?_⟩
 ·have r1:=(p.take o).cut (k:=a) (cap:=b) e (aa _);rw[r];have s:((rows.drop a).take (b-a)).flatten=((rows.flatten.take (b*4)).drop (a*4)):=by rw[<-drop_take,(eU (rows.take b) a (λx t=>j x (mem_of_mem_take t))).2,(eU rows b j).1]
  rw[s];exact r1
 ·have u:=(ay.1 d).1;have v:k<b-a:=by simp at u;omega
  rw[bw,if_pos v,getElem?_drop]at d l;exact i _ _ _ d l
theorem Rd.K6{G:Nat->Prop}{w:World}{A:Option Addr}{n:Nat}{xs:List Value}(h:Rd G w 1 A n xs){a b:Nat}(d:a<=b)(e:b<=n):Rd G w 1 (if b=a then A else A.map (·.add (a*1))) (b-a) ((xs.drop a).take (b-a)):=by have r1:=(h.take e).cut (k:=a) (cap:=b) d (aa _);rw[Nat.mul_one,Nat.mul_one]at r1;rw[<-drop_take,Nat.mul_one];exact r1
theorem Ay:(Tryz.prog.info? 122).map (·.size)=some 4:=by kernel_rfl
theorem DJ:(Tryz.prog.info? 3).map (·.size)=some 1:=by kernel_rfl
theorem FT(w:World)(G:Nat->Prop)(v:Value)(n:aj)(h:bI G w v n)(a2:∀k,G k->k<w.heap.size)(a b:Nat)(Z:a<=b)(an:b<=n.cells.length)(s:n.leaf=false->n.kids.length=n.cells.length+1)(X:n.cells.length<=65536):Calls Tryz.prog 196 #[v,.int .i64 (a:Int),.int .i64 (b:Int)] w (lL w G (bD n a b)):=by
 obtain⟨A,c,B,d,rfl,a3,ac,C,t⟩:=h;obtain⟨N,E⟩:=I (n.cells.length);obtain⟨K,x⟩:=I (n.kids.length);obtain⟨Y,f⟩:=I (n.leaf);obtain⟨e,hA1⟩:=I ((if b=a then A else A.map (·.add (a*4))));obtain⟨j,r⟩:=I ((if b+1=a then B else B.map (·.add (a*1))));have s1:=λad=>sw 127 122 4 Tryz.underlying127 Ay A N c a b Z (by omega) ad;rw[<-hA1]at s1;have D:ia G w e (bD n a b).cells:=by rw[hA1];exact C.slice Z an
 rw[<-E,<-x,<-f];rw[<-E]at an a3 X s;rw[<-x]at ac s;rw[<-f]at s;have l:(bD n a b).cells.length=b-a:=by simp[bD];omega
 have p:∀(W:World) (H:Option Addr) (O M:Nat),Below w.heap.size w W->M=(bD n a b).kids.length->M<=O->Rd G w 1 H M ((bD n a b).kids.map encI)->lL w G (bD n a b) (.returned (.agg #[.bool Y,.slice e (b-a) (b-a),.slice H M O])) W:=by intro W H O M P Q ao u;have ae:Y=(bD n a b).leaf:=f;refine⟨e,b-a,H,O,by rw[l,<-Q,<-ae],?_,P⟩;rw[l,<-Q,<-ae];have ap:∀k,G k->G k/\W.heap[k]?=w.heap[k]?:=λk s=>⟨s,P.block k (a2 k s)⟩;have a0:bI G w (.agg #[.bool Y,.slice e (b-a) (b-a),.slice H M O]) (bD n a b):=⟨e,b-a,H,O,by rw[l,<-Q,<-ae],by rw[l];exact aa _,by rw[<-Q];exact ao,D,by rw[<-Q];exact u⟩;exact a0.keep ap
 have a6:(a:Int)<=70000:=by omega
 have a7:(b:Int)<=70000:=by omega
 have a8:(0:Int)<=(b:Int):=by omega
 have a9:(0:Int)<=(a:Int):=by omega
 refine eD ?_ D hA1 E x l C p;clear D hA1 E x l C p;intro D hA1 E x l C p;cases Y with
 |true=>
  have y:Hid (∀W,Below w.heap.size w W->lL w G (bD n a b) (.returned (.agg #[.bool true,.slice e (b-a) (b-a),.slice none 0 0])) W):=J λW P=>p.o W none 0 0 P (by simp[bD,<-f]) (aa _) (by simp[bD,<-f];exact Rd.none_)
  replace t:=J t
  replace f:=J f
  replace r:=J r
  clear s ac
  go_enter Tryz.func196,Tryz.ntmps196
  go_wp2_with fail
  go_region
  all_goals
   go_wp2_with fail;refine bodyPost_ret (v:=.agg #[.bool true,.slice e (b-a) (b-a),.slice none 0 0]) ?_ rfl (y.o _ (((((Below.refl w.heap.size w).alloc (aa _) _).alloc (by simp) _).alloc (by simp<;>omega) _).drew));have i:ah ((((w.alloc (.cells #[.bool true,.slice A N c,.slice B K d] 129)).alloc (.cells #[.bool true,.slice e (b-a) (b-a),.slice none 0 0] 129)).alloc (.cells #[.bool true,.slice e (b-a) (b-a),.slice none 0 0] 129)).drew) (w.heap.size+1) 129 #[.bool true,.slice e (b-a) (b-a),.slice none 0 0]:=by have q:=ah.new (w.alloc (.cells #[.bool true,.slice A N c,.slice B K d] 129)) 129 #[.bool true,.slice e (b-a) (b-a),.slice none 0 0];rw[World.size_alloc]at q;exact q.alloc _
   obtain⟨z,T⟩:=I (((((w.alloc (.cells #[.bool true,.slice A N c,.slice B K d] 129)).alloc (.cells #[.bool true,.slice e (b-a) (b-a),.slice none 0 0] 129)).alloc (.cells #[.bool true,.slice e (b-a) (b-a),.slice none 0 0] 129)).drew));rw[<-T]at i⊢;have af:z.cell? ⟨w.heap.size+1,0,none⟩=some (.bool true):=i.cell 0;have al:z.cell? ⟨w.heap.size+1,1,none⟩=some (.slice e (b-a) (b-a)):=i.cell 1;have am:z.cell? ⟨w.heap.size+1,2,none⟩=some (.slice none 0 0):=i.cell 2;simp[results,Tryz.results196,go_sem,af,al,am]
 |false=>
  have a1:=s rfl
  have s2:=λad=>sw 113 3 1 Tryz.underlying113 DJ B K d a (b+1) (by omega) (by omega) ad
  rw[<-r]at s2
  have ab:((b+1:Nat):Int)=(b:Int)+1:=by omega
  rw[ab]at s2
  have V:(bD n a b).kids.length=b+1-a:=by simp[bD,<-f];have:=E.o;have:=x.o;omega
  have u:Rd G w 1 j (b+1-a) ((bD n a b).kids.map encI):=by
   rw[r];have a4:=t.K6 (a:=a) (b:=b+1) (by omega) (by have:=x.o;omega);have a5:(bD n a b).kids.map encI=((n.kids.map encI).drop a).take (b+1-a):=by simp[bD,<-f,map_take,map_drop]
   rw[a5];exact a4
  have y:Hid (∀W,Below w.heap.size w W->lL w G (bD n a b) (.returned (.agg #[.bool false,.slice e (b-a) (b-a),.slice j (b+1-a) (b+1-a)])) W):=J λW P=>p.o W j (b+1-a) (b+1-a) P V.symm (aa _) u
  replace t:=J t
  replace f:=J f
  replace r:=J r
  replace u:=J u
  replace V:=J V
  clear s ac a1 ab
  go_enter Tryz.func196,Tryz.ntmps196
  go_wp2_with fail
  go_region
  all_goals
   go_wp2_with fail;refine bodyPost_ret (v:=.agg #[.bool false,.slice e (b-a) (b-a),.slice j (b+1-a) (b+1-a)]) ?_ rfl (y.o _ (((((Below.refl w.heap.size w).alloc (aa _) _).alloc (by simp) _).alloc (by simp<;>omega) _).drew));have i:ah ((((w.alloc (.cells #[.bool false,.slice A N c,.slice B K d] 129)).alloc (.cells #[.bool false,.slice e (b-a) (b-a),.slice j (b+1-a) (b+1-a)] 129)).alloc (.cells #[.bool false,.slice e (b-a) (b-a),.slice j (b+1-a) (b+1-a)] 129)).drew) (w.heap.size+1) 129 #[.bool false,.slice e (b-a) (b-a),.slice j (b+1-a) (b+1-a)]:=by have q:=ah.new (w.alloc (.cells #[.bool false,.slice A N c,.slice B K d] 129)) 129 #[.bool false,.slice e (b-a) (b-a),.slice j (b+1-a) (b+1-a)];rw[World.size_alloc]at q;exact q.alloc _
   obtain⟨z,T⟩:=I (((((w.alloc (.cells #[.bool false,.slice A N c,.slice B K d] 129)).alloc (.cells #[.bool false,.slice e (b-a) (b-a),.slice j (b+1-a) (b+1-a)] 129)).alloc (.cells #[.bool false,.slice e (b-a) (b-a),.slice j (b+1-a) (b+1-a)] 129)).drew));rw[<-T]at i⊢;have af:z.cell? ⟨w.heap.size+1,0,none⟩=some (.bool false):=i.cell 0;have al:z.cell? ⟨w.heap.size+1,1,none⟩=some (.slice e (b-a) (b-a)):=i.cell 1;have am:z.cell? ⟨w.heap.size+1,2,none⟩=some (.slice j (b+1-a) (b+1-a)):=i.cell 2;simp[results,Tryz.results196,go_sem,af,al,am]
theorem kZ{B g:Nat}{a w:World}(h:Below B a w)(b:B<=g)(u0 u1 u2:Value):Below B a (((w.setCell ⟨g,0,none⟩ u0).setCell ⟨g,1,none⟩ u1).setCell ⟨g,2,none⟩ u2):=((h.setCell (p:=⟨g,0,none⟩) b u0).setCell (p:=⟨g,1,none⟩) b u1).setCell (p:=⟨g,2,none⟩) b u2
theorem jY{w:World}{g k:Nat}{t:TypeId}{cs:Array Value}(h:ah w g t cs)(a:g≠k)(u0 u1 u2:Value):ah (((w.setCell ⟨k,0,none⟩ u0).setCell ⟨k,1,none⟩ u1).setCell ⟨k,2,none⟩ u2) g t cs:=((h.far (p:=⟨k,0,none⟩) a u0).far (p:=⟨k,1,none⟩) a u1).far (p:=⟨k,2,none⟩) a u2
def fZ(w:World)(g:Nat):Prop:=∃p0 p1 p2,ah w g 129 #[p0,p1,p2]
section
variable {w w':World}{g:Nat}
theorem fZ.lt(h:fZ w g):g<w.heap.size:=by obtain⟨a,b,c,h⟩:=h;exact h.lt
theorem fZ.alloc(h:fZ w g)(o:Obj):fZ (w.alloc o) g:=by obtain⟨a,b,c,h⟩:=h;exact⟨a,b,c,h.alloc o⟩
theorem fZ.own(h:fZ w g)(u0 u1 u2:Value):ah (((w.setCell ⟨g,0,none⟩ u0).setCell ⟨g,1,none⟩ u1).setCell ⟨g,2,none⟩ u2) g 129 #[u0,u1,u2]:=by obtain⟨a,b,c,h⟩:=h;exact((h.aK 0 u0).aK 1 u1).aK 2 u2
theorem fZ.set(h:fZ w g)(k:Nat)(u0 u1 u2:Value):fZ (((w.setCell ⟨k,0,none⟩ u0).setCell ⟨k,1,none⟩ u1).setCell ⟨k,2,none⟩ u2) g:=by
 by_cases e:g=k
 ·subst e;exact⟨u0,u1,u2,h.own u0 u1 u2⟩
 ·obtain⟨a,b,c,h⟩:=h;exact⟨a,b,c,jY h e u0 u1 u2⟩
theorem fZ.below(h:fZ w g)(d:Below w.heap.size w w'):fZ w' g:=by obtain⟨a,b,c,h⟩:=h;exact⟨a,b,c,h.below d h.lt⟩
end
def XO(w0:World)(G:Nat->Prop)(v:Value)(a:aj):Prop:=∃A c B d,v=.agg #[.bool a.leaf,.slice A a.cells.length c,.slice B a.kids.length d]/\bI G w0 v a
def MJ(i:Nat):Bool:=i<11||(12<i&&i<26)||36<i
structure HV (w0:World) (G:Nat->Prop) (nv:Value) (A:Option Addr) (g0 N c m sk:Nat) (na nb:aj) (U0:Nat->Value) (L:Nat->Bool) (U:Nat->Value) (w:World):Prop where
 fix:∀i,MJ i=true->U i=U0 i
 dX:Below w0.heap.size w0 w
 s0:L 0=true->U 26=nv
 s1:L 1=true->U 27=.int .i64 (m:Int)
 s2:L 2=true->XO w0 G (U 28) na
 s3:L 3=true->U 29=nv
 s4:L 4=true->U 30=.int .i64 (m:Int)
 s5:L 5=true->U 31=.int .i64 (sk:Int)
 s6:L 6=true->U 32=.int .i64 ((m:Int)+(sk:Int))
 s7:L 7=true->U 33=.pointer (some ⟨g0,1,none⟩)
 s8:L 8=true->U 34=.slice A N c
 s9:L 9=true->U 35=.int .i64 (N:Int)
 s10:L 10=true->XO w0 G (U 36) nb
 x:L 11=true->∃g,U 11=.pointer (some ⟨g,0,none⟩)/\w0.heap.size<=g/\fZ w g/\(L 13=true->∃cs,U 28=.agg cs/\ah w g 129 cs)
 y:L 12=true->∃g,U 12=.pointer (some ⟨g,0,none⟩)/\w0.heap.size<=g/\fZ w g/\(L 14=true->∃cs,U 36=.agg cs/\ah w g 129 cs)
 xy:L 11=true->L 12=true->U 11≠U 12
 d13:L 13=true->L 11=true/\L 2=true
 d14:L 14=true->L 12=true/\L 10=true
def aw(L:Nat->Bool)(i:Nat):Nat->Bool:=λj=>if j=i then true else L j
def ax(U:Nat->Value)(s:Nat)(v:Value):Nat->Value:=λn=>if n=s then v else U n
section
variable {w0 w w':World}{G:Nat->Prop}{nv:Value}{A:Option Addr}{g0 N c m sk:Nat}{na nb:aj}{U0:Nat->Value}{L:Nat->Bool}{U:Nat->Value}
theorem HV.LI(h:HV w0 G nv A g0 N c m sk na nb U0 L U w):HV w0 G nv A g0 N c m sk na nb U0 (aw L 0) (ax U 26 nv) w where
 fix:=λi a=>by
  have b:i≠26:=λe=>by subst e;cases a
  rw[<-h.fix i a];simp[ax,b]
 dX:=h.dX
 s0:=λ_=>by simp[ax]
 s1:=by simpa[aw,ax]using h.s1
 s2:=by simpa[aw,ax]using h.s2
 s3:=by simpa[aw,ax]using h.s3
 s4:=by simpa[aw,ax]using h.s4
 s5:=by simpa[aw,ax]using h.s5
 s6:=by simpa[aw,ax]using h.s6
 s7:=by simpa[aw,ax]using h.s7
 s8:=by simpa[aw,ax]using h.s8
 s9:=by simpa[aw,ax]using h.s9
 s10:=by simpa[aw,ax]using h.s10
 x:=by simpa[aw,ax]using h.x
 y:=by simpa[aw,ax]using h.y
 xy:=by simpa[aw,ax]using h.xy
 d13:=by simpa[aw,ax]using h.d13
 d14:=by simpa[aw,ax]using h.d14
theorem HV.LJ(h:HV w0 G nv A g0 N c m sk na nb U0 L U w):HV w0 G nv A g0 N c m sk na nb U0 (aw L 1) (ax U 27 (.int .i64 (m:Int))) w where
 fix:=λi a=>by
  have b:i≠27:=λe=>by subst e;cases a
  rw[<-h.fix i a];simp[ax,b]
 dX:=h.dX
 s0:=by simpa[aw,ax]using h.s0
 s1:=λ_=>by simp[ax]
 s2:=by simpa[aw,ax]using h.s2
 s3:=by simpa[aw,ax]using h.s3
 s4:=by simpa[aw,ax]using h.s4
 s5:=by simpa[aw,ax]using h.s5
 s6:=by simpa[aw,ax]using h.s6
 s7:=by simpa[aw,ax]using h.s7
 s8:=by simpa[aw,ax]using h.s8
 s9:=by simpa[aw,ax]using h.s9
 s10:=by simpa[aw,ax]using h.s10
 x:=by simpa[aw,ax]using h.x
 y:=by simpa[aw,ax]using h.y
 xy:=by simpa[aw,ax]using h.xy
 d13:=by simpa[aw,ax]using h.d13
 d14:=by simpa[aw,ax]using h.d14
theorem HV.LK(h:HV w0 G nv A g0 N c m sk na nb U0 L U w):HV w0 G nv A g0 N c m sk na nb U0 (aw L 3) (ax U 29 nv) w where
 fix:=λi a=>by
  have b:i≠29:=λe=>by subst e;cases a
  rw[<-h.fix i a];simp[ax,b]
 dX:=h.dX
 s0:=by simpa[aw,ax]using h.s0
 s1:=by simpa[aw,ax]using h.s1
 s2:=by simpa[aw,ax]using h.s2
 s3:=λ_=>by simp[ax]
 s4:=by simpa[aw,ax]using h.s4
 s5:=by simpa[aw,ax]using h.s5
 s6:=by simpa[aw,ax]using h.s6
 s7:=by simpa[aw,ax]using h.s7
 s8:=by simpa[aw,ax]using h.s8
 s9:=by simpa[aw,ax]using h.s9
 s10:=by simpa[aw,ax]using h.s10
 x:=by simpa[aw,ax]using h.x
 y:=by simpa[aw,ax]using h.y
 xy:=by simpa[aw,ax]using h.xy
 d13:=by simpa[aw,ax]using h.d13
 d14:=by simpa[aw,ax]using h.d14
theorem HV.LL(h:HV w0 G nv A g0 N c m sk na nb U0 L U w):HV w0 G nv A g0 N c m sk na nb U0 (aw L 4) (ax U 30 (.int .i64 (m:Int))) w where
 fix:=λi a=>by
  have b:i≠30:=λe=>by subst e;cases a
  rw[<-h.fix i a];simp[ax,b]
 dX:=h.dX
 s0:=by simpa[aw,ax]using h.s0
 s1:=by simpa[aw,ax]using h.s1
 s2:=by simpa[aw,ax]using h.s2
 s3:=by simpa[aw,ax]using h.s3
 s4:=λ_=>by simp[ax]
 s5:=by simpa[aw,ax]using h.s5
 s6:=by simpa[aw,ax]using h.s6
 s7:=by simpa[aw,ax]using h.s7
 s8:=by simpa[aw,ax]using h.s8
 s9:=by simpa[aw,ax]using h.s9
 s10:=by simpa[aw,ax]using h.s10
 x:=by simpa[aw,ax]using h.x
 y:=by simpa[aw,ax]using h.y
 xy:=by simpa[aw,ax]using h.xy
 d13:=by simpa[aw,ax]using h.d13
 d14:=by simpa[aw,ax]using h.d14
theorem HV.LM(h:HV w0 G nv A g0 N c m sk na nb U0 L U w):HV w0 G nv A g0 N c m sk na nb U0 (aw L 5) (ax U 31 (.int .i64 (sk:Int))) w where
 fix:=λi a=>by
  have b:i≠31:=λe=>by subst e;cases a
  rw[<-h.fix i a];simp[ax,b]
 dX:=h.dX
 s0:=by simpa[aw,ax]using h.s0
 s1:=by simpa[aw,ax]using h.s1
 s2:=by simpa[aw,ax]using h.s2
 s3:=by simpa[aw,ax]using h.s3
 s4:=by simpa[aw,ax]using h.s4
 s5:=λ_=>by simp[ax]
 s6:=by simpa[aw,ax]using h.s6
 s7:=by simpa[aw,ax]using h.s7
 s8:=by simpa[aw,ax]using h.s8
 s9:=by simpa[aw,ax]using h.s9
 s10:=by simpa[aw,ax]using h.s10
 x:=by simpa[aw,ax]using h.x
 y:=by simpa[aw,ax]using h.y
 xy:=by simpa[aw,ax]using h.xy
 d13:=by simpa[aw,ax]using h.d13
 d14:=by simpa[aw,ax]using h.d14
theorem HV.LN(h:HV w0 G nv A g0 N c m sk na nb U0 L U w):HV w0 G nv A g0 N c m sk na nb U0 (aw L 6) (ax U 32 (.int .i64 ((m:Int)+(sk:Int)))) w where
 fix:=λi a=>by
  have b:i≠32:=λe=>by subst e;cases a
  rw[<-h.fix i a];simp[ax,b]
 dX:=h.dX
 s0:=by simpa[aw,ax]using h.s0
 s1:=by simpa[aw,ax]using h.s1
 s2:=by simpa[aw,ax]using h.s2
 s3:=by simpa[aw,ax]using h.s3
 s4:=by simpa[aw,ax]using h.s4
 s5:=by simpa[aw,ax]using h.s5
 s6:=λ_=>by simp[ax]
 s7:=by simpa[aw,ax]using h.s7
 s8:=by simpa[aw,ax]using h.s8
 s9:=by simpa[aw,ax]using h.s9
 s10:=by simpa[aw,ax]using h.s10
 x:=by simpa[aw,ax]using h.x
 y:=by simpa[aw,ax]using h.y
 xy:=by simpa[aw,ax]using h.xy
 d13:=by simpa[aw,ax]using h.d13
 d14:=by simpa[aw,ax]using h.d14
theorem HV.LP(h:HV w0 G nv A g0 N c m sk na nb U0 L U w):HV w0 G nv A g0 N c m sk na nb U0 (aw L 7) (ax U 33 (.pointer (some ⟨g0,1,none⟩))) w where
 fix:=λi a=>by
  have b:i≠33:=λe=>by subst e;cases a
  rw[<-h.fix i a];simp[ax,b]
 dX:=h.dX
 s0:=by simpa[aw,ax]using h.s0
 s1:=by simpa[aw,ax]using h.s1
 s2:=by simpa[aw,ax]using h.s2
 s3:=by simpa[aw,ax]using h.s3
 s4:=by simpa[aw,ax]using h.s4
 s5:=by simpa[aw,ax]using h.s5
 s6:=by simpa[aw,ax]using h.s6
 s7:=λ_=>by simp[ax]
 s8:=by simpa[aw,ax]using h.s8
 s9:=by simpa[aw,ax]using h.s9
 s10:=by simpa[aw,ax]using h.s10
 x:=by simpa[aw,ax]using h.x
 y:=by simpa[aw,ax]using h.y
 xy:=by simpa[aw,ax]using h.xy
 d13:=by simpa[aw,ax]using h.d13
 d14:=by simpa[aw,ax]using h.d14
theorem HV.LQ(h:HV w0 G nv A g0 N c m sk na nb U0 L U w):HV w0 G nv A g0 N c m sk na nb U0 (aw L 8) (ax U 34 (.slice A N c)) w where
 fix:=λi a=>by
  have b:i≠34:=λe=>by subst e;cases a
  rw[<-h.fix i a];simp[ax,b]
 dX:=h.dX
 s0:=by simpa[aw,ax]using h.s0
 s1:=by simpa[aw,ax]using h.s1
 s2:=by simpa[aw,ax]using h.s2
 s3:=by simpa[aw,ax]using h.s3
 s4:=by simpa[aw,ax]using h.s4
 s5:=by simpa[aw,ax]using h.s5
 s6:=by simpa[aw,ax]using h.s6
 s7:=by simpa[aw,ax]using h.s7
 s8:=λ_=>by simp[ax]
 s9:=by simpa[aw,ax]using h.s9
 s10:=by simpa[aw,ax]using h.s10
 x:=by simpa[aw,ax]using h.x
 y:=by simpa[aw,ax]using h.y
 xy:=by simpa[aw,ax]using h.xy
 d13:=by simpa[aw,ax]using h.d13
 d14:=by simpa[aw,ax]using h.d14
theorem HV.LR(h:HV w0 G nv A g0 N c m sk na nb U0 L U w):HV w0 G nv A g0 N c m sk na nb U0 (aw L 9) (ax U 35 (.int .i64 (N:Int))) w where
 fix:=λi a=>by
  have b:i≠35:=λe=>by subst e;cases a
  rw[<-h.fix i a];simp[ax,b]
 dX:=h.dX
 s0:=by simpa[aw,ax]using h.s0
 s1:=by simpa[aw,ax]using h.s1
 s2:=by simpa[aw,ax]using h.s2
 s3:=by simpa[aw,ax]using h.s3
 s4:=by simpa[aw,ax]using h.s4
 s5:=by simpa[aw,ax]using h.s5
 s6:=by simpa[aw,ax]using h.s6
 s7:=by simpa[aw,ax]using h.s7
 s8:=by simpa[aw,ax]using h.s8
 s9:=λ_=>by simp[ax]
 s10:=by simpa[aw,ax]using h.s10
 x:=by simpa[aw,ax]using h.x
 y:=by simpa[aw,ax]using h.y
 xy:=by simpa[aw,ax]using h.xy
 d13:=by simpa[aw,ax]using h.d13
 d14:=by simpa[aw,ax]using h.d14
theorem HV.call2{v:Value}(h:HV w0 G nv A g0 N c m sk na nb U0 L U w)(q:L 2=false)(b:Below w.heap.size w w')(r:XO w0 G v na):HV w0 G nv A g0 N c m sk na nb U0 (aw L 2) (ax U 28 v) w' where
 fix:=λi l=>by
  have d:i≠28:=λe=>by subst e;cases l
  rw[<-h.fix i l];simp[ax,d]
 dX:=h.dX.trans (b.mono h.dX.size)
 s0:=by simpa[aw,ax]using h.s0
 s1:=by simpa[aw,ax]using h.s1
 s2:=λ_=>by simpa[ax]using r
 s3:=by simpa[aw,ax]using h.s3
 s4:=by simpa[aw,ax]using h.s4
 s5:=by simpa[aw,ax]using h.s5
 s6:=by simpa[aw,ax]using h.s6
 s7:=by simpa[aw,ax]using h.s7
 s8:=by simpa[aw,ax]using h.s8
 s9:=by simpa[aw,ax]using h.s9
 s10:=by simpa[aw,ax]using h.s10
 x:=by
  intro f
  obtain⟨g,e,j,k,o⟩:=h.x (by simpa[aw]using f)
  refine⟨g,by simpa[ax]using e,j,k.below b,λa=>?_⟩
  have d:=(h.d13 (by simpa[aw]using a)).2
  rw[q]at d;cases d
 y:=by
  intro f
  obtain⟨g,e,j,k,o⟩:=h.y (by simpa[aw]using f)
  refine⟨g,by simpa[ax]using e,j,k.below b,λa=>?_⟩
  obtain⟨cs,s,p⟩:=o (by simpa[aw]using a)
  exact⟨cs,by simpa[ax]using s,p.below b p.lt⟩
 xy:=by simpa[aw,ax]using h.xy
 d13:=λa=>⟨by simpa[aw]using(h.d13 (by simpa[aw]using a)).1,by simp[aw]⟩
 d14:=by simpa[aw,ax]using h.d14
theorem HV.call10{v:Value}(h:HV w0 G nv A g0 N c m sk na nb U0 L U w)(q:L 10=false)(b:Below w.heap.size w w')(r:XO w0 G v nb):HV w0 G nv A g0 N c m sk na nb U0 (aw L 10) (ax U 36 v) w' where
 fix:=λi l=>by
  have d:i≠36:=λe=>by subst e;cases l
  rw[<-h.fix i l];simp[ax,d]
 dX:=h.dX.trans (b.mono h.dX.size)
 s0:=by simpa[aw,ax]using h.s0
 s1:=by simpa[aw,ax]using h.s1
 s2:=by simpa[aw,ax]using h.s2
 s3:=by simpa[aw,ax]using h.s3
 s4:=by simpa[aw,ax]using h.s4
 s5:=by simpa[aw,ax]using h.s5
 s6:=by simpa[aw,ax]using h.s6
 s7:=by simpa[aw,ax]using h.s7
 s8:=by simpa[aw,ax]using h.s8
 s9:=by simpa[aw,ax]using h.s9
 s10:=λ_=>by simpa[ax]using r
 x:=by
  intro f
  obtain⟨g,e,j,k,o⟩:=h.x (by simpa[aw]using f)
  refine⟨g,by simpa[ax]using e,j,k.below b,λa=>?_⟩
  obtain⟨cs,s,p⟩:=o (by simpa[aw]using a)
  exact⟨cs,by simpa[ax]using s,p.below b p.lt⟩
 y:=by
  intro f
  obtain⟨g,e,j,k,o⟩:=h.y (by simpa[aw]using f)
  refine⟨g,by simpa[ax]using e,j,k.below b,λa=>?_⟩
  have d:=(h.d14 (by simpa[aw]using a)).2
  rw[q]at d;cases d
 xy:=by simpa[aw,ax]using h.xy
 d13:=by simpa[aw,ax]using h.d13
 d14:=λa=>⟨by simpa[aw]using(h.d14 (by simpa[aw]using a)).1,by simp[aw]⟩
theorem HV.Jm{p0 p1 p2:Value}(h:HV w0 G nv A g0 N c m sk na nb U0 L U w)(o:L 11=false):HV w0 G nv A g0 N c m sk na nb U0 (aw L 11) (ax U 11 (.pointer (some ⟨w.heap.size,0,none⟩))) (w.alloc (.cells #[p0,p1,p2] 129)) where
 fix:=λi f=>by
  have a:i≠11:=λe=>by subst e;cases f
  rw[<-h.fix i f];simp[ax,a]
 dX:=h.dX.alloc h.dX.size _
 s0:=by simpa[aw,ax]using h.s0
 s1:=by simpa[aw,ax]using h.s1
 s2:=by simpa[aw,ax]using h.s2
 s3:=by simpa[aw,ax]using h.s3
 s4:=by simpa[aw,ax]using h.s4
 s5:=by simpa[aw,ax]using h.s5
 s6:=by simpa[aw,ax]using h.s6
 s7:=by simpa[aw,ax]using h.s7
 s8:=by simpa[aw,ax]using h.s8
 s9:=by simpa[aw,ax]using h.s9
 s10:=by simpa[aw,ax]using h.s10
 x:=by
  intro j
  refine⟨w.heap.size,by simp[ax],h.dX.size,⟨p0,p1,p2,ah.new _ _ _⟩,λb=>?_⟩
  have a:=(h.d13 (by simpa[aw]using b)).1
  rw[o]at a;cases a
 y:=by
  intro j
  obtain⟨g,e,k,d,l⟩:=h.y (by simpa[aw]using j)
  refine⟨g,by simpa[ax]using e,k,d.alloc _,λb=>?_⟩
  obtain⟨cs,p,q⟩:=l (by simpa[aw]using b)
  exact⟨cs,by simpa[ax]using p,q.alloc _⟩
 xy:=by intro t r;obtain⟨g,e,k,d,l⟩:=h.y (by simpa[aw]using r);have s:=d.lt;simp only[ax];rw[if_pos trivial,if_neg (by decide),e];intro a;injection a with a;injection a with a;injection a with a;omega
 d13:=λb=>⟨by simp[aw],by simpa[aw]using(h.d13 (by simpa[aw]using b)).2⟩
 d14:=by simpa[aw,ax]using h.d14
theorem HV.Jn{p0 p1 p2:Value}(h:HV w0 G nv A g0 N c m sk na nb U0 L U w)(o:L 12=false):HV w0 G nv A g0 N c m sk na nb U0 (aw L 12) (ax U 12 (.pointer (some ⟨w.heap.size,0,none⟩))) (w.alloc (.cells #[p0,p1,p2] 129)) where
 fix:=λi f=>by
  have a:i≠12:=λe=>by subst e;cases f
  rw[<-h.fix i f];simp[ax,a]
 dX:=h.dX.alloc h.dX.size _
 s0:=by simpa[aw,ax]using h.s0
 s1:=by simpa[aw,ax]using h.s1
 s2:=by simpa[aw,ax]using h.s2
 s3:=by simpa[aw,ax]using h.s3
 s4:=by simpa[aw,ax]using h.s4
 s5:=by simpa[aw,ax]using h.s5
 s6:=by simpa[aw,ax]using h.s6
 s7:=by simpa[aw,ax]using h.s7
 s8:=by simpa[aw,ax]using h.s8
 s9:=by simpa[aw,ax]using h.s9
 s10:=by simpa[aw,ax]using h.s10
 x:=by
  intro j
  obtain⟨g,e,k,d,l⟩:=h.x (by simpa[aw]using j)
  refine⟨g,by simpa[ax]using e,k,d.alloc _,λb=>?_⟩
  obtain⟨cs,p,q⟩:=l (by simpa[aw]using b)
  exact⟨cs,by simpa[ax]using p,q.alloc _⟩
 y:=by
  intro j
  refine⟨w.heap.size,by simp[ax],h.dX.size,⟨p0,p1,p2,ah.new _ _ _⟩,λb=>?_⟩
  have a:=(h.d14 (by simpa[aw]using b)).1
  rw[o]at a;cases a
 xy:=by intro r t;obtain⟨g,e,k,d,l⟩:=h.x (by simpa[aw]using r);have s:=d.lt;simp only[ax];rw[if_neg (by decide),if_pos trivial,e];intro a;injection a with a;injection a with a;injection a with a;omega
 d13:=by simpa[aw,ax]using h.d13
 d14:=λb=>⟨by simp[aw],by simpa[aw]using(h.d14 (by simpa[aw]using b)).2⟩
theorem HV.Jo{g:Nat}{u0 u1 u2:Value}(h:HV w0 G nv A g0 N c m sk na nb U0 L U w)(d:L 11=true)(o:L 2=true)(f:U 11=.pointer (some ⟨g,0,none⟩))(p:U 28=.agg #[u0,u1,u2]):HV w0 G nv A g0 N c m sk na nb U0 (aw L 13) U (((w.setCell ⟨g,0,none⟩ u0).setCell ⟨g,1,none⟩ u1).setCell ⟨g,2,none⟩ u2) where
 fix:=h.fix
 dX:=by obtain⟨j,e,a,b,k⟩:=h.x d;rw[f]at e;injection e with e;injection e with e;injection e with e;subst e;exact kZ h.dX a _ _ _
 s0:=by simpa[aw]using h.s0
 s1:=by simpa[aw]using h.s1
 s2:=by simpa[aw]using h.s2
 s3:=by simpa[aw]using h.s3
 s4:=by simpa[aw]using h.s4
 s5:=by simpa[aw]using h.s5
 s6:=by simpa[aw]using h.s6
 s7:=by simpa[aw]using h.s7
 s8:=by simpa[aw]using h.s8
 s9:=by simpa[aw]using h.s9
 s10:=by simpa[aw]using h.s10
 x:=by
  intro l
  obtain⟨j,e,a,b,k⟩:=h.x d
  rw[f]at e;injection e with e;injection e with e;injection e with e;subst e
  exact⟨g,f,a,b.set _ _ _ _,λ_=>⟨_,p,b.own _ _ _⟩⟩
 y:=by
  intro l
  have i:L 12=true:=by simpa[aw]using l
  obtain⟨j,e,a,b,k⟩:=h.y i
  refine⟨j,e,a,b.set _ _ _ _,λq=>?_⟩
  obtain⟨cs,r,s⟩:=k (by simpa[aw]using q)
  refine⟨cs,r,jY s (λt=>?_) _ _ _⟩
  subst t
  exact h.xy d i (by rw[f,e])
 xy:=by simpa[aw]using h.xy
 d13:=λ_=>⟨by simpa[aw]using d,by simpa[aw]using o⟩
 d14:=by simpa[aw]using h.d14
theorem HV.Jp{g:Nat}{u0 u1 u2:Value}(h:HV w0 G nv A g0 N c m sk na nb U0 L U w)(d:L 12=true)(o:L 10=true)(f:U 12=.pointer (some ⟨g,0,none⟩))(p:U 36=.agg #[u0,u1,u2]):HV w0 G nv A g0 N c m sk na nb U0 (aw L 14) U (((w.setCell ⟨g,0,none⟩ u0).setCell ⟨g,1,none⟩ u1).setCell ⟨g,2,none⟩ u2) where
 fix:=h.fix
 dX:=by obtain⟨j,e,a,b,k⟩:=h.y d;rw[f]at e;injection e with e;injection e with e;injection e with e;subst e;exact kZ h.dX a _ _ _
 s0:=by simpa[aw]using h.s0
 s1:=by simpa[aw]using h.s1
 s2:=by simpa[aw]using h.s2
 s3:=by simpa[aw]using h.s3
 s4:=by simpa[aw]using h.s4
 s5:=by simpa[aw]using h.s5
 s6:=by simpa[aw]using h.s6
 s7:=by simpa[aw]using h.s7
 s8:=by simpa[aw]using h.s8
 s9:=by simpa[aw]using h.s9
 s10:=by simpa[aw]using h.s10
 x:=by
  intro l
  have i:L 11=true:=by simpa[aw]using l
  obtain⟨j,e,a,b,k⟩:=h.x i
  refine⟨j,e,a,b.set _ _ _ _,λq=>?_⟩
  obtain⟨cs,r,s⟩:=k (by simpa[aw]using q)
  refine⟨cs,r,jY s (λt=>?_) _ _ _⟩
  subst t
  exact h.xy i d (by rw[f,e])
 y:=by
  intro l
  obtain⟨j,e,a,b,k⟩:=h.y d
  rw[f]at e;injection e with e;injection e with e;injection e with e;subst e
  exact⟨g,f,a,b.set _ _ _ _,λ_=>⟨_,p,b.own _ _ _⟩⟩
 xy:=by simpa[aw]using h.xy
 d13:=by simpa[aw]using h.d13
 d14:=λ_=>⟨by simpa[aw]using d,by simpa[aw]using o⟩
theorem HV.start(a:Below w0.heap.size w0 w):HV w0 G nv A g0 N c m sk na nb U0 (λ_=>false) U0 w where
 fix:=λ_ _=>rfl
 dX:=a
 s0:=λh=>by cases h
 s1:=λh=>by cases h
 s2:=λh=>by cases h
 s3:=λh=>by cases h
 s4:=λh=>by cases h
 s5:=λh=>by cases h
 s6:=λh=>by cases h
 s7:=λh=>by cases h
 s8:=λh=>by cases h
 s9:=λh=>by cases h
 s10:=λh=>by cases h
 x:=λh=>by cases h
 y:=λh=>by cases h
 xy:=λh=>by cases h
 d13:=λh=>by cases h
 d14:=λh=>by cases h
end
section
variable {w0 w:World}{G:Nat->Prop}{nv kv:Value}{A:Option Addr}{g0 N c m sk jf:Nat}{na nb:aj}{U0:Nat->Value}{listed:Array Bool}{act:Act}
def Mw(a:Array Value):Nat->Value:=λn=>a.getD n undef
def HI(w0:World)(G:Nat->Prop)(nv kv:Value)(A:Option Addr)(g0 N c m sk jf:Nat)(na nb:aj)(U0:Nat->Value)(listed:Array Bool)(act:Act)(w:World):Prop:=∃U:Nat->Value,act={ tmps:=#[nv,.pointer (some ⟨g0,0,none⟩),.pointer (some ⟨g0+1,0,none⟩),.slice none 0 0,.pointer (some ⟨g0+1+1,0,none⟩),.pointer (some ⟨g0+1+1+1,0,none⟩),.pointer (some ⟨g0+1+1+1+1,0,none⟩),kv,.int .i64 (jf:Int),.int .i64 (sk:Int),.int .i64 (m:Int),U 11,U 12,U 13,U 14,U 15,U 16,U 17,U 18,U 19,U 20,U 21,U 22,U 23,U 24,U 25,U 26,U 27,U 28,U 29,U 30,U 31,U 32,U 33,U 34,U 35,U 36,U 37,U 38,U 39,U 40,U 41,U 42,U 43,U 44,U 45,U 46,U 47,U 48,U 49,U 50,U 51,U 52,U 53,U 54,U 55,U 56,U 57,U 58,U 59,U 60],defers:=[] }/\HV w0 G nv A g0 N c m sk na nb U0 (λj=>listed.getD j false) U w
theorem HI.mk{u11 u12 u13 u14 u15 u16 u17 u18 u19 u20 u21 u22 u23 u24 u25 u26 u27 u28 u29 u30 u31 u32 u33 u34 u35 u36 u37 u38 u39 u40 u41 u42 u43 u44 u45 u46 u47 u48 u49 u50 u51 u52 u53 u54 u55 u56 u57 u58 u59 u60:Value}(a:Below w0.heap.size w0 w):HI w0 G nv kv A g0 N c m sk jf na nb (Mw #[undef,undef,undef,undef,undef,undef,undef,undef,undef,undef,undef,u11,u12,u13,u14,u15,u16,u17,u18,u19,u20,u21,u22,u23,u24,u25,u26,u27,u28,u29,u30,u31,u32,u33,u34,u35,u36,u37,u38,u39,u40,u41,u42,u43,u44,u45,u46,u47,u48,u49,u50,u51,u52,u53,u54,u55,u56,u57,u58,u59,u60]) (Array.replicate 15 false) { tmps:=#[nv,.pointer (some ⟨g0,0,none⟩),.pointer (some ⟨g0+1,0,none⟩),.slice none 0 0,.pointer (some ⟨g0+1+1,0,none⟩),.pointer (some ⟨g0+1+1+1,0,none⟩),.pointer (some ⟨g0+1+1+1+1,0,none⟩),kv,.int .i64 (jf:Int),.int .i64 (sk:Int),.int .i64 (m:Int),u11,u12,u13,u14,u15,u16,u17,u18,u19,u20,u21,u22,u23,u24,u25,u26,u27,u28,u29,u30,u31,u32,u33,u34,u35,u36,u37,u38,u39,u40,u41,u42,u43,u44,u45,u46,u47,u48,u49,u50,u51,u52,u53,u54,u55,u56,u57,u58,u59,u60],defers:=[] } w:=by
 refine⟨Mw #[undef,undef,undef,undef,undef,undef,undef,undef,undef,undef,undef,u11,u12,u13,u14,u15,u16,u17,u18,u19,u20,u21,u22,u23,u24,u25,u26,u27,u28,u29,u30,u31,u32,u33,u34,u35,u36,u37,u38,u39,u40,u41,u42,u43,u44,u45,u46,u47,u48,u49,u50,u51,u52,u53,u54,u55,u56,u57,u58,u59,u60],rfl,?_⟩;rw[show(λj=>(Array.replicate 15 false).getD j false)=λ_=>false from by funext j;rw[Array.getD_eq_getD_getElem?,Array.getElem?_replicate];split<;>rfl]
 exact HV.start a
theorem Az(a:listed.size=15)(i:Nat)(b:i<15):(λj=>(listed.setIfInBounds i true).getD j false)=aw (λj=>listed.getD j false) i:=by
 funext j;simp only[aw,Array.getD_eq_getD_getElem?];by_cases e:j=i
 ·subst e;rw[Array.getElem?_setIfInBounds_self_of_lt (by omega),if_pos rfl];rfl
 ·rw[Array.getElem?_setIfInBounds_ne (Ne.symm e),if_neg e]
theorem HI.next{Q:Exit->Act->World->Prop}(i:Nat)(b:i<15)(d:listed.size=15)(a:Nat->Value)(e:act={ tmps:=#[nv,.pointer (some ⟨g0,0,none⟩),.pointer (some ⟨g0+1,0,none⟩),.slice none 0 0,.pointer (some ⟨g0+1+1,0,none⟩),.pointer (some ⟨g0+1+1+1,0,none⟩),.pointer (some ⟨g0+1+1+1+1,0,none⟩),kv,.int .i64 (jf:Int),.int .i64 (sk:Int),.int .i64 (m:Int),a 11,a 12,a 13,a 14,a 15,a 16,a 17,a 18,a 19,a 20,a 21,a 22,a 23,a 24,a 25,a 26,a 27,a 28,a 29,a 30,a 31,a 32,a 33,a 34,a 35,a 36,a 37,a 38,a 39,a 40,a 41,a 42,a 43,a 44,a 45,a 46,a 47,a 48,a 49,a 50,a 51,a 52,a 53,a 54,a 55,a 56,a 57,a 58,a 59,a 60],defers:=[] })
 (f:HV w0 G nv A g0 N c m sk na nb U0 (aw (λj=>listed.getD j false) i) a w):
 Km (λk w'=>HI w0 G nv kv A g0 N c m sk jf na nb U0 (listed.setIfInBounds i true) k w') Q .normal act w:=by
 refine⟨a,e,?_⟩;rw[Az d i b];exact f
theorem kJ{i:Nat}(h:(!listed.getD i true)=true):listed.getD i false=false:=by
 rw[Array.getD_eq_getD_getElem?]at h⊢;cases hx:listed[i]? with
 |none=>rfl
 |some v=>rw[hx]at h;simpa using h
end
theorem AA{listed:Array Bool}{n:Nat}(d:listed.size=n)(a:∀i,i<n->listed.getD i true=true)(i:Nat)(b:i<n):listed.getD i false=true:=by have h:=a i b;rw[Array.getD_eq_getD_getElem?,Array.getElem?_eq_getElem (by omega)]at h⊢;exact h
theorem DK(n:aj)(m:Nat)(a:1<=m)(b:m+fo n<n.cells.length):bO n (m+1)=if(bO n m).1=0\/iy n m<(bO n m).1 then(iy n m,m)else bO n m:=by
 rw[bO];by_cases h:(bO n m).1=0\/iy n m<(bO n m).1
 ·rw[if_pos ⟨⟨a,b⟩,h⟩,if_pos h]
 ·rw[if_neg (λd=>h d.2),if_neg h]
theorem yq(n:aj)(m:Nat)(h:n.cells.length<=m+fo n):∀j,bO n (m+j)=bO n m
 |0=>rfl
 |j+1=>by rw[<-Nat.add_assoc,bO,if_neg (λa=>by have:=a.1.2;omega),yq n m h j]
theorem kK{S:Nat->Prop}{g:Nat}{a w:World}(h:R S a w)(b:S g)(u0 u1 u2:Value):R S a (((w.setCell ⟨g,0,none⟩ u0).setCell ⟨g,1,none⟩ u1).setCell ⟨g,2,none⟩ u2):=((h.setCell (p:=⟨g,0,none⟩) (λ_=>b) u0).setCell (p:=⟨g,1,none⟩) (λ_=>b) u1).setCell (p:=⟨g,2,none⟩) (λ_=>b) u2
def nX(f:Nat->Prop)(w:World)(v:Value)(n:aj):Prop:=∀(l:Bool) (A:Option Addr) (x c:Nat) (B:Option Addr) (y d:Nat),v=.agg #[.bool l,.slice A x c,.slice B y d]->
 ∀(i:Nat) (a:ai) (b:Addr) (e:Option Addr) (j:Nat),n.cells[i]?=some a->A=some b->w.cell? (b.add (i*4))=some (.slice e a.key.length j)->Rd f w 1 e a.key.length (bv a.key)
def ux(w:World)(G i:Nat->Prop)(n:aj)(e:Ending)(w':World):Prop:=∃a b d f,e=.returned (.tuple #[a,.slice d (dF n).length f,b])/\bI G w' a (cd n)/\bI G w' b (dG n)/\Rd i w' 1 d (dF n).length (bv (dF n))/\(dF n).length<=f/\Below w.heap.size w w'
structure Mx (w:World) (G G2:Nat->Prop) (n:aj) (nv z1 z2:Array Value) (v7:Value) (jf m:Nat) (ca cb:Array Value) (wx:World):Prop where
 dX:Below w.heap.size w wx
 b0:ah wx w.heap.size 129 nv
 b1:ah wx (w.heap.size+1) 129 z1
 b2:ah wx (w.heap.size+2) 129 z2
 ba:ah wx (w.heap.size+3) 129 ca
 bb:ah wx (w.heap.size+4) 129 cb
 m1:1<=m
 m2:m+fo n<=n.cells.length
 M4:jf=(bO n m).1
 got:jf≠0->bI G wx (.agg ca) (bD n 0 (bO n m).2)/\bI G wx (.agg cb) (bD n ((bO n m).2+fo n) n.cells.length)/\∃kA kc,v7=.slice kA (aS n.cells (bO n m).2).length kc/\Rd G2 wx 1 kA (aS n.cells (bO n m).2).length (bv (aS n.cells (bO n m).2))/\(aS n.cells (bO n m).2).length<=kc
theorem sy(w:World)(G co:Nat->Prop)(v:Value)(n:aj)(h:bI G w v n)(a3:∀k,G k->k<w.heap.size)(ej:∀k,co k->k<w.heap.size)(ek:nX co w v n)(dj:bJ n)(b3:aC n<=100000)(f1:1+fo n<n.cells.length):Calls Tryz.prog 159 #[v] w (ux w G co n):=by
 obtain⟨A,c,B,d,rfl⟩:=h.box;obtain⟨bs,cX⟩:=I (n.leaf);obtain⟨N,P⟩:=I (n.cells.length);obtain⟨K,eR⟩:=I (n.kids.length);obtain⟨sk,Y⟩:=I (fo n);have d5:=dj.many;rw[<-cX,<-P,<-eR]at h⊢;have e5:Hid (∀(a b:Nat) t,a<=b->b<=N->Below w.heap.size w t->Calls Tryz.prog 196 #[.agg #[.bool bs,.slice A N c,.slice B K d],.int .i64 (a:Int),.int .i64 (b:Int)] t (lL t G (bD n a b))):=J λa b t f2 e0 a4=>FT t G _ n (h.keep λk s=>⟨s,a4.block k (a3 k s)⟩) (λk s=>aN (a3 k s) a4.size) a b f2 (by omega) (λgy=>dj.eY gy) (by omega)
 obtain⟨f3,ae⟩:=I (((((w.alloc (.cells #[.bool bs,.slice A N c,.slice B K d] 129)).alloc (.cells #[.bool false,.slice none 0 0,.slice none 0 0] 129)).alloc (.cells #[.bool false,.slice none 0 0,.slice none 0 0] 129)).alloc (.cells #[.bool false,.slice none 0 0,.slice none 0 0] 129)).alloc (.cells #[.bool false,.slice none 0 0,.slice none 0 0] 129));have cY:Hid (Mx w G co n #[.bool bs,.slice A N c,.slice B K d] #[.bool false,.slice none 0 0,.slice none 0 0] #[.bool false,.slice none 0 0,.slice none 0 0] (.slice none 0 0) 0 1 #[.bool false,.slice none 0 0,.slice none 0 0] #[.bool false,.slice none 0 0,.slice none 0 0] f3):=J (by
  have el:∀(W:World) (g:Nat) cs,g=W.heap.size->ah (W.alloc (.cells cs 129)) g 129 cs:=λW g cs e=>by rw[e];exact ah.new W 129 cs
  refine⟨?_,?_,?_,?_,?_,?_,aa _,by omega,by simp[bO],λh=>absurd rfl h⟩
  ·rw[ae];exact(((((Below.refl w.heap.size w).alloc (aa _) _).alloc (by simp) _).alloc (by simp<;>omega) _).alloc (by simp<;>omega) _).alloc (by simp<;>omega) _
  ·rw[ae];exact((((el w _ _ rfl).alloc _).alloc _).alloc _).alloc _
  ·rw[ae];exact(((el _ _ _ (by simp)).alloc _).alloc _).alloc _
  ·rw[ae];exact((el _ _ _ (by simp)).alloc _).alloc _
  ·rw[ae];exact(el _ _ _ (by simp)).alloc _
  ·rw[ae];exact el _ _ _ (by simp))
 have em:=J (by rw[Y,cX];rfl:sk=if bs=true then 0 else 1);have c1:=cY.o.b0.cell 0;have dk:=cY.o.b0.cell 1;have eg:=cY.o.b0.cell 2;rw[ae]at c1;replace ae:=J ae;replace ek:Hid _:=J ek;refine dZ ?_ h cX P eR dj Y;clear h cX P eR dj Y;intro h cX P eR dj Y;clear dk eg;go_enter Tryz.func159,Tryz.ntmps159
 go_upto_if 16 with(fail)
 rw[<-ae.o];rw[<-ae.o]at c1;go_cut [9] (λv9 en=>v9=.int .i64 (sk:Int)/\en=f3)
 case first=>
  cases bs with
  |true=>
   have eo:sk=0:=em.o
   go_wp2_with fail
   go_meet
   case rel=>exact⟨by rw[eo];rfl,rfl⟩
  |false=>
   have eo:sk=1:=em.o
   go_wp2_with fail
   go_meet
   case rel=>exact⟨by rw[eo];rfl,rfl⟩
 obtain⟨rfl,rfl⟩:=hcut;have ep:=J (by rw[Y.o,P.o];exact f1:1+sk<N);have hA:N<65536:=by rw[P.o];exact d5
 have gz:sk<=1:=by rw[em.o];split<;>omega
 clear f1 d5;go_wp2_with fail;go_loopw [7,8,10] (λgA gB v10 en=>∃(jf m:Nat) (b4 b5:Bool) (b6 b7 b8 b9:Option Addr) (af ca V cb al cc X ce:Nat) (cD:Option Addr) (c2 cE:Nat),gA=.slice cD c2 cE/\gB=.int .i64 (jf:Int)/\v10=.int .i64 (m:Int)/\Hid (Mx w G co n #[.bool bs,.slice A N c,.slice B K d] #[.bool false,.slice none 0 0,.slice none 0 0] #[.bool false,.slice none 0 0,.slice none 0 0] (.slice cD c2 cE) jf m #[.bool b4,.slice b6 af ca,.slice b7 V cb] #[.bool b5,.slice b8 al cc,.slice b9 X ce] en)) (λ_ _ v10 _=>N-(intOf v10).toNat)
 case atStart=>exact⟨0,1,false,false,none,none,none,none,0,0,0,0,0,0,0,0,none,0,0,rfl,rfl,rfl,cY⟩
 case round=>
  obtain⟨jf,m,b4,b5,b6,b7,b8,b9,af,ca,V,cb,al,cc,X,ce,cD,c2,cE,rfl,rfl,rfl,l⟩:=hrel;clear cY c1;have c1:=l.o.b0.cell 0;have dk:=l.o.b0.cell 1;have eg:=l.o.b0.cell 2;have f4:=l.o.m1;have hB:m+sk<=N:=by rw[Y.o,P.o];exact l.o.m2
  by_cases f5:m+sk<N
  ·have gC:decide ((m:Int)+(sk:Int)<(N:Int))=true:=aV (by omega);have hC:(0:Int)<=(m:Int):=by omega
   have e6:Hid (∀t,Below wr.heap.size wr t->Calls Tryz.prog 196 #[.agg #[.bool bs,.slice A N c,.slice B K d],.int .i64 0,.int .i64 (m:Int)] t (lL t G (bD n 0 m))):=J λt a4=>e5.o 0 m t (zero_le _) (by omega) (l.o.dX.trans (a4.mono l.o.dX.size));have e7:Hid (∀t,Below wr.heap.size wr t->Calls Tryz.prog 196 #[.agg #[.bool bs,.slice A N c,.slice B K d],.int .i64 ((m:Int)+(sk:Int)),.int .i64 (N:Int)] t (lL t G (bD n (m+sk) N))):=J λt a4=>by have a5:=e5.o (m+sk) N t (by omega) (aa _) (l.o.dX.trans (a4.mono l.o.dX.size));rw[show((m+sk:Nat):Int)=(m:Int)+(sk:Int)from by omega]at a5;exact a5
   have d6:Hid (∀t,Below wr.heap.size wr t->(t.cell? ⟨w.heap.size,0,none⟩=some (.bool bs)/\t.cell? ⟨w.heap.size,1,none⟩=some (.slice A N c)/\t.cell? ⟨w.heap.size,2,none⟩=some (.slice B K d))):=J λt b3=>⟨(b3.cell (p:=⟨w.heap.size,0,none⟩) l.o.b0.lt).trans c1,(b3.cell (p:=⟨w.heap.size,1,none⟩) l.o.b0.lt).trans dk,(b3.cell (p:=⟨w.heap.size,2,none⟩) l.o.b0.lt).trans eg⟩
   have br:Hid (w.heap.size<=wr.heap.size):=J l.o.dX.size;have f6:(m:Int)<=65536:=by omega
   have fm:(sk:Int)<=1:=by omega
   have gO:(0:Int)<=(sk:Int):=by omega
   have fn:IntKind.i64.wrap ((m:Int)+(sk:Int))=(m:Int)+(sk:Int):=IntWalk.i64_in _ (by omega);go_upto_region 10 with(fail)
   refine wp_region_any (by kernel_rfl) ?_;refine uy (HI wr G (.agg #[.bool bs,.slice A N c,.slice B K d]) (.slice cD c2 cE) A w.heap.size N c m sk jf (bD n 0 m) (bD n (m+sk) N) ?U0) (by kernel_rfl) ?_ ?_ _ _ _ _ (by simp) (by decide) ?init
   case init=>exact HI.mk (Below.refl _ wr).drew
   ·generalize Mw _=U0;rintro listed i act Q d7 ⟨U,rfl,f⟩ e1;obtain⟨e8,f7⟩:=mem_filter.1 e1;have fp:i<15:=mem_range.1 e8;have D:listed.size=15:=d7;have f8:=d6.o Q f.dX;obtain⟨f9,ga,gb⟩:=f8;clear e1 e8 d7 c1 dk eg
    match i,fp,f7 with
    |0,_,j=>
     have z:=J (f.LI)
     replace f:=J f
     clear j
     refine dD rfl ?_
     go_wp2_with fail
     exact HI.next 0 (by decide) D _ (by first|rfl|simp[ax]) z.o
    |1,_,j=>
     have z:=J (f.LJ)
     replace f:=J f
     clear j
     refine dD rfl ?_
     go_wp2_with fail
     exact HI.next 1 (by decide) D _ (by first|rfl|simp[ax]) z.o
    |2,_,j=>
     have be:=kJ (listed:=listed) (i:=2) (by simp only[Bool.and_eq_true]at j;exact j.1)
     have bi:listed.getD 0 false=true/\listed.getD 1 false=true:=by simp only[Array.getD_eq_getD_getElem?];simp[Region.binds]at j;exact⟨by simp[j],by simp[j]⟩
     obtain⟨rJ,hd1⟩:=bi
     have gc:=f.s0 rJ
     have gd:=f.s1 hd1
     have cf:=J f
     have eq:=J (e6.o Q f.dX)
     clear j f f9 ga gb rJ hd1
     refine dD rfl ?_
     go_wp2_with(first|(go_at_call 196;refine eq.o.mono ?_;rintro e gR ⟨am,an,ao,ap,rfl,cg,bj⟩;have ch:bI G wr _ _:=cg.keep (w':=wr) λk s=>⟨s,((cf.o.dX.trans (bj.mono cf.o.dX.size)).block k (aN (a3 k s) (br.o))).symm⟩;have z:=J (cf.o.call2 be bj ⟨am,an,ao,ap,rfl,ch⟩);replace cg:=J cg;replace bj:=J bj;replace ch:=J ch))
     exact HI.next 2 (by decide) D _ (by first|rfl|simp[ax,gc,gd]) z.o
    |3,_,j=>
     have z:=J (f.LK)
     replace f:=J f
     clear j
     refine dD rfl ?_
     go_wp2_with fail
     exact HI.next 3 (by decide) D _ (by first|rfl|simp[ax]) z.o
    |4,_,j=>
     have z:=J (f.LL)
     replace f:=J f
     clear j
     refine dD rfl ?_
     go_wp2_with fail
     exact HI.next 4 (by decide) D _ (by first|rfl|simp[ax]) z.o
    |5,_,j=>
     have z:=J (f.LM)
     replace f:=J f
     clear j
     refine dD rfl ?_
     go_wp2_with fail
     exact HI.next 5 (by decide) D _ (by first|rfl|simp[ax]) z.o
    |6,_,j=>
     have bi:listed.getD 4 false=true/\listed.getD 5 false=true:=by simp only[Array.getD_eq_getD_getElem?];simp[Region.binds]at j;exact⟨by simp[j],by simp[j]⟩
     obtain⟨e9,d8⟩:=bi
     have ge:=f.s4 e9
     have gf:=f.s5 d8
     have z:=J (f.LN)
     replace f:=J f
     clear j e9 d8
     refine dD rfl ?_
     go_wp2_with fail
     exact HI.next 6 (by decide) D _ (by first|rfl|simp[ax,ge,gf]) z.o
    |7,_,j=>
     have z:=J (f.LP)
     replace f:=J f
     clear j
     refine dD rfl ?_
     go_wp2_with fail
     exact HI.next 7 (by decide) D _ (by first|rfl|simp[ax]) z.o
    |8,_,j=>
     have fa:listed.getD 7 false=true:=by rw[Array.getD_eq_getD_getElem?];simp[Region.binds]at j;simp[j]
     have gg:=f.s7 fa
     have z:=J (f.LQ)
     replace f:=J f
     clear j fa
     refine dD rfl ?_
     go_wp2_with fail
     exact HI.next 8 (by decide) D _ (by first|rfl|simp[ax,gg]) z.o
    |9,_,j=>
     have fb:listed.getD 8 false=true:=by rw[Array.getD_eq_getD_getElem?];simp[Region.binds]at j;simp[j]
     have gh:=f.s8 fb
     have z:=J (f.LR)
     replace f:=J f
     clear j fb
     refine dD rfl ?_
     go_wp2_with fail
     exact HI.next 9 (by decide) D _ (by first|rfl|simp[ax,gh]) z.o
    |10,_,j=>
     have be:=kJ (listed:=listed) (i:=10) (by simp only[Bool.and_eq_true]at j;exact j.1)
     have bi:listed.getD 3 false=true/\listed.getD 6 false=true/\listed.getD 9 false=true:=by simp only[Array.getD_eq_getD_getElem?];simp[Region.binds]at j;exact⟨by simp[j],by simp[j],by simp[j]⟩
     obtain⟨fc,fd,ff⟩:=bi
     have gi:=f.s3 fc
     have gj:=f.s6 fd
     have gl:=f.s9 ff
     have cf:=J f
     have eq:=J (e7.o Q f.dX)
     clear j f f9 ga gb fc fd ff
     refine dD rfl ?_
     go_wp2_with(first|(go_at_call 196;refine eq.o.mono ?_;rintro e gR ⟨am,an,ao,ap,rfl,cg,bj⟩;have ch:bI G wr _ _:=cg.keep (w':=wr) λk s=>⟨s,((cf.o.dX.trans (bj.mono cf.o.dX.size)).block k (aN (a3 k s) (br.o))).symm⟩;have z:=J (cf.o.call10 be bj ⟨am,an,ao,ap,rfl,ch⟩);replace cg:=J cg;replace bj:=J bj;replace ch:=J ch))
     exact HI.next 10 (by decide) D _ (by first|rfl|simp[ax,gi,gj,gl]) z.o
    |11,_,j=>
     have be:=kJ (listed:=listed) (i:=11) (by simp only[Bool.and_eq_true]at j;exact j.1)
     have z:=J (f.Jm (p0:=.bool false) (p1:=.slice none 0 0) (p2:=.slice none 0 0) be)
     replace f:=J f
     clear j be
     refine dD rfl ?_
     go_wp2_with fail
     exact HI.next 11 (by decide) D _ (by first|rfl|simp[ax]) z.o
    |12,_,j=>
     have be:=kJ (listed:=listed) (i:=12) (by simp only[Bool.and_eq_true]at j;exact j.1)
     have z:=J (f.Jn (p0:=.bool false) (p1:=.slice none 0 0) (p2:=.slice none 0 0) be)
     replace f:=J f
     clear j be
     refine dD rfl ?_
     go_wp2_with fail
     exact HI.next 12 (by decide) D _ (by first|rfl|simp[ax]) z.o
    |13,_,j=>
     have bi:listed.getD 11 false=true/\listed.getD 2 false=true:=by simp only[Array.getD_eq_getD_getElem?];simp[Region.binds]at j;exact⟨by simp[j],by simp[j]⟩
     obtain⟨dl,er⟩:=bi
     obtain⟨ad,a9,gm,⟨p0,p1,p2,r⟩,_⟩:=f.x dl
     obtain⟨am,an,ao,ap,a1,_⟩:=f.s2 er
     have z:=J (f.Jo dl er a9 a1)
     have z0:=r.cell 0
     have g2:=r.cell 1
     have g5:=r.cell 2
     have dp:=r.frozen 0
     have V:=r.frozen 1
     have X:=r.frozen 2
     replace r:=J r
     replace f:=J f
     clear j dl er
     refine dD rfl ?_
     go_wp2_with fail
     exact HI.next 13 (by decide) D U (by simp[a9,a1]) z.o
    |14,_,j=>
     have bi:listed.getD 12 false=true/\listed.getD 10 false=true:=by simp only[Array.getD_eq_getD_getElem?];simp[Region.binds]at j;exact⟨by simp[j],by simp[j]⟩
     obtain⟨ds,dt⟩:=bi
     obtain⟨ad,a9,gm,⟨p0,p1,p2,r⟩,_⟩:=f.y ds
     obtain⟨am,an,ao,ap,a1,_⟩:=f.s10 dt
     have z:=J (f.Jp ds dt a9 a1)
     have z0:=r.cell 0
     have g2:=r.cell 1
     have g5:=r.cell 2
     have dp:=r.frozen 0
     have V:=r.frozen 1
     have X:=r.frozen 2
     replace r:=J r
     replace f:=J f
     clear j ds dt
     refine dD rfl ?_
     go_wp2_with fail
     exact HI.next 14 (by decide) D U (by simp[a9,a1]) z.o
   ·rintro listed act Q d7 ⟨U,rfl,f⟩ du;have dv:=f.fix 14 rfl;have dy:=f.fix 15 rfl;have dT:=f.fix 16 rfl;have d0:=f.fix 58 rfl;have d1:=f.fix 59 rfl;have d2:=f.fix 60 rfl;simp[Mw]at dv dy dT d0 d1 d2;rw[dv,dy,dT,d0,d1,d2];clear dv dy dT d0 d1 d2;have c3:=λi e1=>AA (n:=15) d7 du i e1;obtain⟨ad,a9,g6,_,r⟩:=f.x (c3 11 (by decide));obtain⟨a6,d9,g7,_,M⟩:=f.y (c3 12 (by decide));obtain⟨am,an,ao,ap,a1,ci⟩:=f.s2 (c3 2 (by decide));obtain⟨cp,cr,ct,cw,c4,cj⟩:=f.s10 (c3 10 (by decide));obtain⟨cs,a7,r⟩:=r (c3 13 (by decide));obtain⟨hD,a8,M⟩:=M (c3 14 (by decide));rw[a1]at a7;rw[c4]at a8;rw[a1]at ci;rw[c4]at cj;injection a7 with a7;injection a8 with a8;subst a7;subst a8;have E:=f.dX;have c6:bJ (bD n 0 m)/\bJ (bD n (m+sk) N):=⟨dj.o.part (zero_le _) (by have:=P.o;omega),dj.o.part (by have:=P.o;omega) (by rw[P.o];exact aa _)⟩;have c7:aC (bD n 0 m)<=100000/\aC (bD n (m+sk) N)<=100000:=by have a7:=jg n m;have a8:=jZ n (m+sk);have gn:=lM n m;have io:=lM n (m+sk);have es:aC n=(if n.leaf=true then 3 else 6)+aT n.leaf n.cells:=rfl;rw[P.o];constructor<;>omega
    obtain⟨fr,c8⟩:=I (aC (bD n 0 m));obtain⟨fs,c9⟩:=I (aC (bD n (m+sk) N));obtain⟨Z,da⟩:=I (iy n m);have ck:max (fr:Int) (fs:Int)=(Z:Int):=by
     have e:Z=max fr fs:=by rw[da,c8,c9];unfold iy;rw[<-Y.o,<-P.o]
     omega
    have et:Hid (∀t,Below wr.heap.size wr t->Calls Tryz.prog 77 #[.agg #[.bool (bD n 0 m).leaf,.slice am (bD n 0 m).cells.length an,.slice ao (bD n 0 m).kids.length ap]] t λe w'=>e=.returned (.int .i64 (fr:Int))/\Below t.heap.size t w'):=J λt a4=>by rw[c8];exact gQ t _ _ (ci.keep λk s=>⟨aN (aN (a3 k s) br.o) a4.size,a4.block k (aN (a3 k s) br.o)⟩) c6.1 c7.1
    have ev:Hid (∀t,Below wr.heap.size wr t->Calls Tryz.prog 77 #[.agg #[.bool (bD n (m+sk) N).leaf,.slice cp (bD n (m+sk) N).cells.length cr,.slice ct (bD n (m+sk) N).kids.length cw]] t λe w'=>e=.returned (.int .i64 (fs:Int))/\Below t.heap.size t w'):=J λt a4=>by rw[c9];exact gQ t _ _ (cj.keep λk s=>⟨aN (aN (a3 k s) br.o) a4.size,a4.block k (aN (a3 k s) br.o)⟩) c6.2 c7.2
    obtain⟨bc,cH⟩:=I ((bD n 0 m).leaf);obtain⟨bl,cK⟩:=I ((bD n (m+sk) N).leaf);obtain⟨cx,ea⟩:=I ((bD n 0 m).cells.length);obtain⟨cL,eb⟩:=I ((bD n (m+sk) N).cells.length);obtain⟨cy,ec⟩:=I ((bD n 0 m).kids.length);obtain⟨cM,ee⟩:=I ((bD n (m+sk) N).kids.length);rw[<-cH,<-ea,<-ec]at et r ci;rw[<-cK,<-eb,<-ee]at ev M cj;have ex:=r.cell 0;have af:=r.cell 1;have al:=r.cell 2;have dp:=M.cell 0;have V:=M.cell 1;have X:=M.cell 2;have d3:Hid (∀t,Below Q.heap.size Q t->(t.cell? ⟨ad,0,none⟩=some (.bool bc)/\t.cell? ⟨ad,1,none⟩=some (.slice am cx an)/\t.cell? ⟨ad,2,none⟩=some (.slice ao cy ap)/\t.cell? ⟨a6,0,none⟩=some (.bool bl)/\t.cell? ⟨a6,1,none⟩=some (.slice cp cL cr)/\t.cell? ⟨a6,2,none⟩=some (.slice ct cM cw))):=J λt b3=>⟨(b3.cell (p:=⟨ad,0,none⟩) r.lt).trans ex,(b3.cell (p:=⟨ad,1,none⟩) r.lt).trans af,(b3.cell (p:=⟨ad,2,none⟩) r.lt).trans al,(b3.cell (p:=⟨a6,0,none⟩) M.lt).trans dp,(b3.cell (p:=⟨a6,1,none⟩) M.lt).trans V,(b3.cell (p:=⟨a6,2,none⟩) M.lt).trans X⟩
    rw[a9,d9];refine aR ?_ r M ci cj E f a9 d9 a1 c4 c8 c9 da;clear r M ci cj E f a9 d9 a1 c4 c8 c9 da;intro r M ci cj E f a9 d9 a1 c4 c8 c9 da;refine dS ?_ cH cK ea eb ec ee c6 c7;clear cH cK ea eb ec ee c6 c7;intro cH cK ea eb ec ee c6 c7;replace c3:Hid _:=J c3;replace du:Hid _:=J du;clear e6 e7 d6;go_upto_region 11 with(fail)
    go_cut [13] (λfg en=>fg=.int .i64 (Z:Int)/\Hid (Below Q.heap.size Q en))
    case first=>
     go_region_held3 (λw'=>w'.cell? ⟨ad,0,none⟩=some (.bool bc)/\w'.cell? ⟨ad,1,none⟩=some (.slice am cx an)/\w'.cell? ⟨ad,2,none⟩=some (.slice ao cy ap)/\w'.cell? ⟨a6,0,none⟩=some (.bool bl)/\w'.cell? ⟨a6,1,none⟩=some (.slice cp cL cr)/\w'.cell? ⟨a6,2,none⟩=some (.slice ct cM cw)) (first|exact⟨ex,af,al,dp,V,X⟩|(with_reducible exact d3.o _ ab.o)|(with_reducible exact d3.o _ ac.o)) (first
      |(go_at_call 77;(with_reducible refine(et.o _ (E.o.trans ((by first|(with_reducible exact ab.o)|(with_reducible exact(Below.refl _ Q).drew):Below Q.heap.size Q _).mono E.o.size))).mono ?_);rintro e g8 ⟨rfl,ey⟩;have ac:Hid (Below Q.heap.size Q g8):=J (Below.trans (by with_reducible first|exact ab.o|exact(Below.refl _ Q).drew) (ey.mono (by first|(with_reducible exact ab.o.size)|exact aa _)));replace ey:=J ey)
      |(go_at_call 77;(with_reducible refine(ev.o _ (E.o.trans ((by first|(with_reducible exact ac.o)|(with_reducible exact(Below.refl _ Q).drew):Below Q.heap.size Q _).mono E.o.size))).mono ?_);rintro e g9 ⟨rfl,eA⟩;have ab:Hid (Below Q.heap.size Q g9):=J (Below.trans (by with_reducible first|exact ac.o|exact(Below.refl _ Q).drew) (eA.mono (by first|(with_reducible exact ac.o.size)|exact aa _)));replace eA:=J eA))
     all_goals go_wp2_with fail
     all_goals go_meet
     all_goals exact⟨by first|rfl|rw[ck],by first|(with_reducible exact ab)|(with_reducible exact ac)⟩
    case rest=>
     obtain⟨rfl,ef⟩:=hcut;have hE:0<Z:=by rw[da.o];exact qm n m
     have C:=DK n m f4 (by rw[<-Y.o,<-P.o];exact f5);have T:Below w.heap.size w wc:=l.o.dX.trans ((E.o.trans (ef.o.mono E.o.size)).mono l.o.dX.size);have O:Below wr.heap.size wr wc:=E.o.trans (ef.o.mono E.o.size);have bx:=l.o.b0.below O l.o.b0.lt;have a7:=l.o.b1.below O l.o.b1.lt;have a8:=l.o.b2.below O l.o.b2.lt;have bm:=l.o.ba.below O l.o.ba.lt;have bp:=l.o.bb.below O l.o.bb.lt;have cz:=r.o.below ef.o r.o.lt;have cA:=M.o.below ef.o M.o.lt;have eE:=J (by omega:((m:Int)+1)=((m+1:Nat):Int));have hG:(m:Int)<=65535:=by omega
     have a2:m+1+fo n<=n.cells.length:=by rw[<-Y.o,<-P.o];omega
     have H:=l.o.M4;have cl:=l.o.got;have cP:∀{W:World},Below wr.heap.size wr W->∀k,G k->G k/\W.heap[k]?=wr.heap[k]?:=λa4 k s=>⟨s,a4.block k (aN (a3 k s) br.o)⟩;clear ex af al dp V X et ev d3 c1 dk eg fn;have c1:=bx.cell 0;have dk:=bx.cell 1;have eg:=bx.cell 2;by_cases bd:(bO n m).1=0\/iy n m<(bO n m).1
     ·rw[if_pos bd]at C;have eI:m<n.cells.length:=by rw[<-P.o];omega
      have go:=(h.o.keep (w':=wc) λk s=>⟨s,T.block k (a3 k s)⟩);obtain⟨ip,c5,ir,is,es,gp,d8,cS,d4⟩:=go;injection es with es;simp at es;obtain⟨g1,⟨rfl,eJ,rfl⟩,rfl,g3,rfl⟩:=es;clear g1 eJ g3;obtain⟨eK,cm,hH,cB,hI,ha,db⟩:=cS.at_ m eI;subst ha;obtain⟨e2,cn⟩:=I ((aS n.cells m).length);have cV:(n.cells[m]).key=aS n.cells m:=(jL (ak eI)).symm;have gr:=db.c0;have dc:Rd co w 1 cm (n.cells[m]).key.length (bv (n.cells[m]).key):=ek.o _ _ _ _ _ _ _ rfl m _ eK cm cB (ak eI) rfl ((World.cell?_of_block (T.block _ (a3 _ db.blk))).symm.trans db.c0);have dd:=db.Mu;rw[cV,<-cn]at gr dc dd;have hb:(m:Int)<(N:Int):=by omega
      have hc:m<N:=by omega
      have ex:=cz.cell 0;have af:=cz.cell 1;have al:=cz.cell 2;have dp:=cA.cell 0;have V:=cA.cell 1;have X:=cA.cell 2;have a0:=bm.cell 0;have hd:=bm.cell 1;have he:=bm.cell 2;have hf:=bp.cell 0;have hg:=bp.cell 1;have hh:=bp.cell 2;have hJ:=bm.frozen 0;have hK:=bm.frozen 1;have hL:=bm.frozen 2;have hM:=bp.frozen 0;have hN:=bp.frozen 1;have hO:=bp.frozen 2;have ft:Hid (∀W,R (λk=>k=w.heap.size+3\/k=w.heap.size+4) wc W->ah W (w.heap.size+3) 129 #[.bool bc,.slice am cx an,.slice ao cy ap]->ah W (w.heap.size+4) 129 #[.bool bl,.slice cp cL cr,.slice ct cM cw]->
       Mx w G co n #[.bool bs,.slice (some eK) N c,.slice B K d] #[.bool false,.slice none 0 0,.slice none 0 0] #[.bool false,.slice none 0 0,.slice none 0 0] (.slice cm e2 cB) Z (m+1) #[.bool bc,.slice am cx an,.slice ao cy ap] #[.bool bl,.slice cp cL cr,.slice ct cM cw] W):=J (by
       intro W eh hi a4;have de:Below w.heap.size w W:=T.trans (eh.below (B:=w.heap.size) (λk s=>by omega) T.size);have fh:∀k,G k->G k/\W.heap[k]?=w.heap[k]?:=λk s=>⟨s,de.block k (a3 k s)⟩;have fi:∀k,G k->G k/\w.heap[k]?=wr.heap[k]?:=λk s=>⟨s,(l.o.dX.block k (a3 k s)).symm⟩;have hP:∀k,G k->G k/\w.heap[k]?=wc.heap[k]?:=λk s=>⟨s,(T.block k (a3 k s)).symm⟩;refine⟨de,eh.blk bx (by omega),eh.blk a7 (by omega),eh.blk a8 (by omega),hi,a4,by omega,a2,by rw[C];exact da.o,λ_=>?_⟩;rw[C];refine⟨(ci.o.keep fi).keep fh,?_,cm,cB,by rw[cn],?_,by rw[<-cn];exact dd⟩
       ·have a5:=(cj.o.keep fi).keep fh;rw[Y.o,P.o]at a5;exact a5
       ·have a5:=Rd.keep dc (w':=W) (G':=co) λk s=>⟨s,de.block k (ej k s)⟩;rw[cn]at a5;exact a5)
      refine gI ?_ C bx a7 a8 bm bp cz cA T O H;clear C bx a7 a8 bm bp cz cA T O H;intro C bx a7 a8 bm bp cz cA T O H;replace cl:Hid _:=J cl;refine ik ?_ a2 ck db cS d4 cn cV dc dd;clear a2 ck db cS d4 cn cV dc dd;intro a2 ck db cS d4 cn cV dc dd;clear cP gp d8;have e3:(jf=0/\((jf:Int)==0)=true)\/(((jf:Int)==0)=false/\decide ((Z:Int)<(jf:Int))=true/\decide (Z<jf)=true):=by
       by_cases e0:jf=0
       ·exact .inl ⟨e0,by rw[e0];rfl⟩
       ·rcases bd with a5|a5
        ·exact absurd (H.o.trans a5) e0
        ·rw[<-da.o,<-H.o]at a5;exact .inr ⟨by rw[aZ];omega,aV (by omega),aV a5⟩
      replace bd:=J bd;have gs:=l.o.bb.lt;have gt:=a3 _ db.o.blk;have fj:Hid (∀W,R (λk=>k=w.heap.size+1+1+1\/k=w.heap.size+1+1+1+1) wc W->(W.cell? ⟨w.heap.size,1,none⟩=some (.slice (some eK) N c)/\W.cell? ⟨ad,0,none⟩=some (.bool bc)/\W.cell? ⟨ad,1,none⟩=some (.slice am cx an)/\W.cell? ⟨ad,2,none⟩=some (.slice ao cy ap)/\W.cell? ⟨a6,0,none⟩=some (.bool bl)/\W.cell? ⟨a6,1,none⟩=some (.slice cp cL cr)/\W.cell? ⟨a6,2,none⟩=some (.slice ct cM cw)/\W.cell? (eK.add (m*4))=some (.slice cm e2 cB))):=J (by
       intro W eh;have q:∀(p:Addr) u,wc.cell? p=some u->p.block<wc.heap.size->p.block≠w.heap.size+1+1+1->p.block≠w.heap.size+1+1+1+1->W.cell? p=some u:=λp u hj hk fv e4=>(World.cell?_of_block (eh.block p.block hk (λh=>h.elim fv e4))).trans hj;have hl:=bx.o.lt;have fx:=cz.o.lt;have fy:=cA.o.lt;have it:=T.o.size;exact⟨q ⟨w.heap.size,1,none⟩ _ dk hl (by simp<;>omega) (by simp<;>omega),q ⟨ad,0,none⟩ _ ex fx (by simp<;>omega) (by simp<;>omega),q ⟨ad,1,none⟩ _ af fx (by simp<;>omega) (by simp<;>omega),q ⟨ad,2,none⟩ _ al fx (by simp<;>omega) (by simp<;>omega),
        q ⟨a6,0,none⟩ _ dp fy (by simp<;>omega) (by simp<;>omega),q ⟨a6,1,none⟩ _ V fy (by simp<;>omega) (by simp<;>omega),q ⟨a6,2,none⟩ _ X fy (by simp<;>omega) (by simp<;>omega),q (eK.add (m*4)) _ gr (by omega) (by omega) (by omega)⟩)
      have eL:ah wc (w.heap.size+1+1+1) 129 _:=bm.o;have eN:ah wc (w.heap.size+1+1+1+1) 129 _:=bp.o;have hm:w.heap.size+4<ad:=by omega
      have hn:w.heap.size+4<a6:=by omega
      replace eL:=J eL;replace eN:=J eN;clear gs gt;have bA:=J (ft.o _ (kK (kK (R.refl _ wc) (.inl rfl) (.bool bc) (.slice am cx an) (.slice ao cy ap)) (.inr rfl) (.bool bl) (.slice cp cL cr) (.slice ct cM cw)).drew
       (jY (fZ.own ⟨_,_,_,eL.o⟩ (.bool bc) (.slice am cx an) (.slice ao cy ap)) (by omega) _ _ _).drew (fZ.own ⟨_,_,_,jY eN.o (by omega) _ _ _⟩ _ _ _).drew)
      obtain⟨u10,u11,u12,u13,ho,hp,hq,hr⟩:=fj.o _ (kK (R.refl _ wc) (.inl rfl) (.bool bc) (.slice am cx an) (.slice ao cy ap));obtain⟨v10,v11,v12,fg,hQ,hR,hS,hT⟩:=fj.o _ (kK (R.refl _ wc) (.inr rfl) (.bool bl) (.slice cp cL cr) (.slice ct cM cw));have hs:(0:Int)<=(m:Int):=by omega
      rcases e3 with⟨hU,gv⟩|⟨gv,gw,ht⟩
      ·go_upto_region 13 with(fail)
       go_region
       all_goals
        go_wp2_with fail;exact⟨⟨Z,m+1,bc,bl,am,ao,cp,ct,cx,an,cy,ap,cL,cr,cM,cw,cm,e2,cB,rfl,rfl,by rw[eE.o],bA⟩,by simp[intOf];omega⟩
      ·go_upto_region 13 with(fail)
       go_region
       all_goals
        go_wp2_with fail;exact⟨⟨Z,m+1,bc,bl,am,ao,cp,ct,cx,an,cy,ap,cL,cr,cM,cw,cm,e2,cB,rfl,rfl,by rw[eE.o],bA⟩,by simp[intOf];omega⟩
     ·rw[if_neg bd]at C;have hV:¬jf=0:=λe=>bd (.inl (by rw[<-H];exact e));have gv:((jf:Int)==0)=false:=by rw[aZ];omega
      have gw:decide ((Z:Int)<(jf:Int))=false:=by refine aD λa5=>bd (.inr ?_);rw[<-da.o,<-H];omega
      have ht:decide (Z<jf)=false:=aD (by have:=of_decide_eq_false gw;omega);have fz:Hid (Mx w G co n #[.bool bs,.slice A N c,.slice B K d] #[.bool false,.slice none 0 0,.slice none 0 0] #[.bool false,.slice none 0 0,.slice none 0 0] (.slice cD c2 cE) jf (m+1) #[.bool b4,.slice b6 af ca,.slice b7 V cb] #[.bool b5,.slice b8 al cc,.slice b9 X ce] wc):=J (by refine⟨T,bx,a7,a8,bm,bp,by omega,a2,by rw[C];exact H,λh=>?_⟩;obtain⟨g1,eJ,fk,fl,g3,g4,fA⟩:=cl h;rw[C];exact⟨g1.keep (cP O),eJ.keep (cP O),fk,fl,g3,Rd.keep g4 (λk s=>⟨s,O.block k (aN (ej k s) br.o)⟩),fA⟩)
      refine gI ?_ C bx a7 a8 bm bp cz cA T O H;clear C bx a7 a8 bm bp cz cA T O H;intro C bx a7 a8 bm bp cz cA T O H;replace cl:Hid _:=J cl;refine bf ?_ a2 bd ck;clear a2 bd ck;intro a2 bd ck;clear cP;go_wp2_with fail;go_roundw
      case rel=>exact⟨jf,m+1,b4,b5,b6,b7,b8,b9,af,ca,V,cb,al,cc,X,ce,cD,c2,cE,rfl,rfl,by rw[eE.o],fz⟩
      case measure=>simp[intOf];omega
  ·have gC:decide ((m:Int)+(sk:Int)<(N:Int))=false:=aD (by omega);have a0:=l.o.ba.cell 0;have hd:=l.o.ba.cell 1;have he:=l.o.ba.cell 2;have hf:=l.o.bb.cell 0;have hg:=l.o.bb.cell 1;have hh:=l.o.bb.cell 2;have hW:=l.o.b1.cell 0;have hX:=l.o.b1.cell 1;have z12:=l.o.b1.cell 2;have z20:=l.o.b2.cell 0;have z21:=l.o.b2.cell 1;have z22:=l.o.b2.cell 2;have hY:=l.o.b1.frozen 0;have hZ:=l.o.b1.frozen 1;have id:=l.o.b1.frozen 2;have ie:=l.o.b2.frozen 0;have ii:=l.o.b2.frozen 1;have im:=l.o.b2.frozen 2;have bB:bO n n.cells.length=bO n m:=by
    have a5:=yq n m (by rw[<-Y.o,<-P.o];omega) (n.cells.length-m)
    rwa [show m+(n.cells.length-m)=n.cells.length from by have:=P.o;omega]at a5
   have fX:jf≠0:=λe=>by
    rcases nf n n.cells.length with⟨fv,e4⟩|⟨fv,e4,hu,iu⟩
    ·exact e4 1 (by have:=ep.o;have:=P.o;omega) ⟨aa _,by rw[<-Y.o,<-P.o];exact ep.o⟩
    ·rw[bB]at hu;have iv:=l.o.M4;have ix:=qm n (bO n m).2;omega
   have bA:Hid (∀W,Below w.heap.size wr W->ux w G co n (.returned (.tuple #[.agg #[.bool b4,.slice b6 af ca,.slice b7 V cb],.slice cD c2 cE,.agg #[.bool b5,.slice b8 al cc,.slice b9 X ce]])) W):=J (by
    intro W eQ;obtain⟨g1,eJ,fk,fl,g3,g4,fA⟩:=l.o.got fX;injection g3 with a7 a8 gn;subst a7;subst a8;subst gn;have s:∀k,G k->G k/\W.heap[k]?=wr.heap[k]?:=λk s=>⟨s,eQ.block k (a3 k s)⟩;have fY:cutAt n=(bO n m).2:=by unfold cutAt;rw[bB]
    have f0:dF n=aS n.cells (bO n m).2:=by unfold dF;rw[fY]
    refine⟨_,_,cD,cE,by rw[f0],?_,?_,?_,by rw[f0];exact fA,l.o.dX.trans eQ⟩
    ·unfold cd;rw[fY];exact g1.keep s
    ·unfold dG;rw[fY];exact eJ.keep s
    ·rw[f0];exact Rd.keep g4 λk s=>⟨s,eQ.block k (ej k s)⟩)
   have de:=J (bA.o _ (kZ (kZ (Below.refl _ wr) (g:=w.heap.size+1) (by omega) (.bool b4) (.slice b6 af ca) (.slice b7 V cb)) (g:=w.heap.size+1+1) (by omega) (.bool b5) (.slice b8 al cc) (.slice b9 X ce)).drew);have ac:=J (jY (fZ.own ⟨_,_,_,l.o.b1⟩ (.bool b4) (.slice b6 af ca) (.slice b7 V cb)) (k:=w.heap.size+1+1) (by omega) (.bool b5) (.slice b8 al cc) (.slice b9 X ce)).drew;have ab:=J (fZ.own (g:=w.heap.size+1+1) ⟨_,_,_,jY l.o.b2 (k:=w.heap.size+1) (by omega) (.bool b4) (.slice b6 af ca) (.slice b7 V cb)⟩ (.bool b5) (.slice b8 al cc) (.slice b9 X ce)).drew;replace bB:=J bB;have f6:(m:Int)<=65536:=by omega
   have fm:(sk:Int)<=1:=by omega
   go_upto_region 14 with(fail)
   go_region
   all_goals
    go_wp2_with fail;refine bodyPost_ret (v:=.tuple #[.agg #[.bool b4,.slice b6 af ca,.slice b7 V cb],.slice cD c2 cE,.agg #[.bool b5,.slice b8 al cc,.slice b9 X ce]]) ?_ rfl de.o;have ac:=ac.o;have ab:=ab.o;obtain⟨ei,gx⟩:=I ((((((wr.setCell ⟨w.heap.size+1,0,none⟩ (.bool b4)).setCell ⟨w.heap.size+1,1,none⟩ (.slice b6 af ca)).setCell ⟨w.heap.size+1,2,none⟩ (.slice b7 V cb)).setCell ⟨w.heap.size+1+1,0,none⟩ (.bool b5)).setCell ⟨w.heap.size+1+1,1,none⟩ (.slice b8 al cc)).setCell ⟨w.heap.size+1+1,2,none⟩ (.slice b9 X ce));rw[<-gx]at ac ab⊢;have hv:ei.cell? ⟨w.heap.size+1,0,none⟩=some (.bool b4):=ac.cell 0;have hw:ei.cell? ⟨w.heap.size+1,1,none⟩=some (.slice b6 af ca):=ac.cell 1;have hx:ei.cell? ⟨w.heap.size+1,2,none⟩=some (.slice b7 V cb):=ac.cell 2;have i0:ei.cell? ⟨w.heap.size+1+1,0,none⟩=some (.bool b5):=ab.cell 0;have hy:ei.cell? ⟨w.heap.size+1+1,1,none⟩=some (.slice b8 al cc):=ab.cell 1;have hz:ei.cell? ⟨w.heap.size+1+1,2,none⟩=some (.slice b9 X ce):=ab.cell 2;simp[results,Tryz.results159,go_sem,hv,hw,hx,i0,hy,hz]
def wu(w:World)(base:Nat)(t:TypeId)(size n:Nat)(xs:List Value)(e:Ending)(w':World):Prop:=∃a,e=.returned a/\w'.ownsRow base t size a n xs/\Below w.heap.size w w'
def wD(w:World)(base:Nat)(t:TypeId)(size:Nat)(v:Value)(n:Nat)(b:List Value)(e:Ending)(w':World):Prop:=∃a,e=.returned a/\w'.ownsRow base t size a n b/\w.grownBy w' v.ownBlock/\a.ownBlock=v.ownBlock
theorem Reads.LS{w:World}{B size n:Nat}{xs:List Value}(h:Reads w B size none n xs):n=0/\xs=[]:=by
 have a:n=0:=by
  rcases eq_zero_or_pos n with a|a
  ·exact a
  ·obtain⟨b,e,_⟩:=h.2 a;cases e
 subst a;exact⟨rfl,bT (by rw[h.1];omega)⟩
theorem Reads.FU{w:World}{B size n:Nat}{d:Addr}{xs:List Value}(h:Reads w B size (some d) n xs):∀j u,xs[j]?=some u->w.cell? (d.add j)=some u:=λj u b=>by
 have a:0<n:=by
  rcases eq_zero_or_pos n with a|a
  ·subst a;have:=h.1;rw[Nat.zero_mul]at this;rw[bT this]at b;cases b
  ·exact a
 obtain⟨i,e,_,f⟩:=h.2 a;injection e with e;subst e;exact f j u b
def eM(a:Array Value)(o:Nat)(vs:List Value):Array Value:=(a.toList.take o++(vs++a.toList.drop (o+vs.length))).toArray
theorem fO(a:Array Value)(o:Nat)(vs:List Value)(h:o+vs.length<=a.size):(eM a o vs).size=a.size:=by unfold eM;simp;omega
theorem ah.setCells_at{g:Nat}{t:TypeId}:∀(vs:List Value) {w:World} {a:Array Value} (h:ah w g t a) (o:Nat),o+vs.length<=a.size->ah (w.setCells g o vs) g t (eM a o vs)
 |[],w,a,h,o,_=>by
  have e:eM a o []=a:=by unfold eM;simp
  rw[e];exact h
 |v::b,w,a,h,o,f=>by
  rw[length_cons]at f
  have d:=ah.setCells_at b (h.aK o v) (o+1) (by simp;omega)
  have e:eM (a.setIfInBounds o v) (o+1) b=eM a o (v::b):=by
   unfold eM;congr 1;rw[Array.toList_setIfInBounds];have i:(a.toList.set o v).take (o+1)=a.toList.take o++[v]:=by rw[take_succ_eq_append_getElem (by simp;omega),take_set_of_le (aa _)];simp
   have j:(a.toList.set o v).drop (o+1+b.length)=a.toList.drop (o+(v::b).length):=by rw[drop_set_of_lt (by omega),length_cons];congr 1;omega
   rw[i,j];simp
  rw[e]at d
  exact d
theorem ju{g:Nat}{a:World}:∀(vs:List Value) (o:Nat) (w:World),R (λj=>j=g) a w->R (λj=>j=g) a (w.setCells g o vs)
 |[],_,_,h=>h
 |v::b,o,w,h=>ju b (o+1) _ (h.setCell (p:=⟨g,o,none⟩) (λ_=>rfl) v)
theorem R.FV{g:Nat}{w w':World}(h:R (λj=>j=g) w w'):w.grownBy w' (some g):=⟨h.os,h.tape,h.output,h.size,λk b a=>h.block k b λe=>a (by rw[e])⟩
theorem wE(w:World)(base:Nat)(v:Value)(m:Nat)(xs:List Value)(e:w.ownsRow base 122 4 v m xs)(B:Nat)(A:Option Addr)(k c:Nat)(a:List Value)(o:Reads w B 4 A k a)(p:∀u∈a,u.oneCell'=true)(ty:TypeId)(q:m+k<=1000000)(b:base<=w.heap.size):∃d w',(Builtin.append_ #[127,127] ty #[v,.slice A k c]).run Tryz.prog w=.ok d w'/\w'.ownsRow base 122 4 d (m+k) (xs++a)/\w.grownBy w' v.ownBlock/\(d.ownBlock=v.ownBlock\/d.ownBlock=some w.heap.size):=by obtain⟨i0,f,i,j,l⟩:=info_parts jM;exact bN (P:=Tryz.prog) w base 127 ty 122 i0 _ 4 64 Tryz.underlying127 f i j l rfl (by omega) v m xs e B A k c a o p (by simp only[maxLen];omega) (by omega) b
theorem nY(w:World)(A:Option Addr)(n c:Nat)(xs:List Value)(h:Reads w w.heap.size 4 A n xs)(p:∀u∈xs,u.oneCell'=true)(C:n<=100000):Calls Tryz.prog 163 #[.slice A n c] w (wu w w.heap.size 122 4 n xs):=by
 have i:=λr=>Lib.run_eql_slice_nil (P:=Tryz.prog) r 127 122 A n c 0 0 Tryz.underlying127;rcases A with _|s
 ·obtain⟨rfl,rfl⟩:=Reads.LS h;clear h;go_enter Tryz.func163,Tryz.ntmps163;go_wp2;go_ret;exact⟨_,rfl,⟨rfl,.inl ⟨rfl,rfl⟩⟩,Below.refl _ _⟩
 ·obtain⟨i0,a,b,d,e⟩:=info_parts jM;have t:=J h.1;have v:=J (Reads.FU h);have q:Hid (∀u∈xs,u.oneCell'=true):=J p;refine bz ?_ a b d e;clear a b d e;intro a b d e;clear h p;go_enter Tryz.func163,Tryz.ntmps163;go_wp2_with(at_builtin;refine wpList_append_own _ rfl _ _ 127 rfl w.heap.size 122 i0 _ 4 64 Tryz.underlying127 a.o b.o d.o e.o rfl (by decide) _ _ _ rfl (World.ownsRow_made w #[] 0 (aa _) (zero_le _) (by simp)) s n c xs rfl ?qc1 ?qc2 ?qc3 ?qc4 ?qc5 ?qc6 ?_)
  case qc1=>exact t.o
  case qc2=>exactλj u x=>Lib.cell?_alloc_some _ (v.o j u x)
  case qc3=>exact q.o
  case qc4=>simp only[maxLen];omega
  case qc5=>omega
  case qc6=>simp
  intro y D l f i;go_wp2;go_ret;exact⟨y,rfl,by simpa using l,((Below.refl _ w).alloc (aa _) _).grown f (by simp) (by intro k z;simp[Value.ownBlock]at z;omega)⟩
theorem AF(w:World)(ty:TypeId)(b o c:Nat)(i:∀j,j<4->(w.cell? ⟨b,o+j,none⟩).isSome=true)(k:∀j,j<4->w.frozen? ⟨b,o+j,none⟩=false):(Builtin.clear_ #[127] ty #[.slice (some ⟨b,o,none⟩) 1 c]).run Tryz.prog w=.ok (.tuple #[]) (w.setCells b o [.slice none 0 0,.slice none 0 0,.int .i64 0,.int .i64 0]):=by
 have a:=run_storeCells_cells (P:=Tryz.prog) b o [.slice none 0 0,.slice none 0 0,.int .i64 0,.int .i64 0] 0 w (by simpa using i) (by simpa using k) (by intro v d;simp at d;rcases d with rfl|rfl|rfl|rfl<;>rfl);simp only[Nat.add_zero]at a;have e:(zeroValue 122).run Tryz.prog w=.ok (.agg #[.slice none 0 0,.slice none 0 0,.int .i64 0,.int .i64 0]) w:=Tryz.zeroValue122 w;have f:(Builtin.zeroCells (Value.agg #[.slice none 0 0,.slice none 0 0,.int .i64 0,.int .i64 0]).cells 1).toList=[.slice none 0 0,.slice none 0 0,.int .i64 0,.int .i64 0]:=by simp[Builtin.zeroCells,Value.cells,range_succ]
 simp[Builtin.clear_,run_underlying Tryz.underlying127,e,f,a]
theorem yt(w:World)(base:Nat)(v:Value)(n i:Nat)(xs:List Value)(Y:w.ownsRow base 122 4 v n xs)(bl:i<n)(ab:∀u∈xs,u.oneCell'=true)(bm:n<=100000):Calls Tryz.prog 88 #[v,.int .i64 (i:Int),.int .i64 ((i:Int)+1)] w (wD w base 122 4 v (n-1) (xs.take (i*4)++xs.drop ((i+1)*4))):=by
 obtain⟨M,⟨_,ac⟩|⟨g,cap,f,rfl,ad,ae,V,af,d,O⟩⟩:=Y
 ·omega
 obtain⟨j,Q⟩:=I (i+1);have C:(i:Int)+1=(j:Int):=by omega
 rw[C];have P:ah w g 122 f:=ae;obtain⟨a,b⟩:=I (xs.drop (j*4));have l:a.length=(n-j)*4:=by rw[b,aQ,M,Nat.sub_mul]
 have D:∀q u,xs[q]?=some u->w.cell? ⟨g,q,none⟩=some u:=λq u p=>by
  rw[P.cell];rw[<-O,bw]at p;split at p
  ·simpa using p
  ·cases p
 obtain⟨A,bp,Z⟩:∃A:Addr,(if cap=j then some (⟨g,0,none⟩:Addr)else some ⟨g,j*4,none⟩)=some A/\Hid (∀t u,a[t]?=some u->w.drew.cell? (A.add t)=some u):=by
  by_cases h:cap=j
  ·refine⟨⟨g,0,none⟩,by simp[h],λt u r=>?_⟩
   have ac:a.length=0:=by rw[l];have:n-j=0:=by omega
                          rw[this,Nat.zero_mul]
   rw[length_eq_zero_iff.1 ac]at r;simp at r
  ·refine⟨⟨g,j*4,none⟩,by simp[h],λt u r=>?_⟩;rw[Addr.add_lit];rw[b,getElem?_drop]at r;exact D _ _ r
 have s1:Hid (a.length=(n-j)*4):=l;have s2:Hid (∀u∈a,u.oneCell'=true):=λu r=>ab u (by rw[b]at r;exact mem_of_mem_drop r);have W:∀q,w.frozen? ⟨g,q,none⟩=false:=λq=>P.frozen q;have E:∀q,q<cap*4->(w.cell? ⟨g,q,none⟩).isSome=true:=λq p=>by rw[P.cell,Array.getElem?_eq_getElem (by rw[d];exact p)];rfl
 have e:i*4+a.length<=cap*4:=by rw[l,<-Nat.add_mul];exact mul_le_mul_right _ (by omega)
 have s3:Hid (∀t,t<a.length->(w.drew.cell? ⟨g,0+i*4+t,none⟩).isSome=true/\w.drew.frozen? ⟨g,0+i*4+t,none⟩=false):=λt br=>by rw[Nat.zero_add];exact⟨E _ (by omega),W _⟩
 obtain⟨s,H⟩:=I (w.drew.setCells g (0+i*4) a);have K:ah s g 122 (eM f (i*4) a):=by rw[H,Nat.zero_add];exact ah.setCells_at a (w:=w.drew) P (i*4) (by rw[d];exact e)
 have a0:i+(n-j)=n-1:=by omega
 have al:∀ty,(Builtin.clear_ #[127] ty #[.slice (some ⟨g,0+(n-1)*4,none⟩) 1 (cap-(n-1))]).run Tryz.prog s=.ok (.tuple #[]) (s.setCells g (0+(n-1)*4) [.slice none 0 0,.slice none 0 0,.int .i64 0,.int .i64 0]):=λty=>by
  rw[Nat.zero_add];exact AF s ty g ((n-1)*4) (cap-(n-1)) (λq p=>by
   rw[K.cell,Array.getElem?_eq_getElem (by rw[fO _ _ _ (by rw[d];exact e),d];have:(n-1)*4+4=n*4:=by omega
                                           have T:n*4<=cap*4:=mul_le_mul_right _ V
                                           omega)];rfl) (λq p=>K.frozen _)
 have x:Hid (wD w base 122 4 (.slice (some ⟨g,0,none⟩) n cap) (n-1) (xs.take (i*4)++xs.drop (j*4)) (.returned (.slice (some ⟨g,0,none⟩) (n-1) cap)) (s.setCells g (0+(n-1)*4) [.slice none 0 0,.slice none 0 0,.int .i64 0,.int .i64 0])):=J (by
  have a8:(n-1)*4+4=n*4:=by omega
  have a9:n*4<=cap*4:=mul_le_mul_right _ V;have y:(eM f (i*4) a).size=cap*4:=by rw[fO _ _ _ (by rw[d];exact e),d]
  have am:=ah.setCells_at [.slice none 0 0,.slice none 0 0,.int .i64 0,.int .i64 0] K ((n-1)*4) (by rw[y];simp;omega);rw[Nat.zero_add];have z:i*4+a.length=(n-1)*4:=by rw[l,<-Nat.add_mul,a0]
  have a1:R (λk=>k=g) w (s.setCells g ((n-1)*4) [.slice none 0 0,.slice none 0 0,.int .i64 0,.int .i64 0]):=ju _ _ _ (by rw[H];exact ju _ _ _ (R.refl _ w).drew);refine⟨_,rfl,⟨?_,.inr ⟨g,cap,_,rfl,ad,am,by omega,af,?_,?_⟩⟩,a1.FV,rfl⟩
  ·rw[aq,<-b,aH,M,Nat.min_eq_left (mul_le_mul_right _ (by omega))];exact z
  ·rw[fO _ _ _ (by rw[y];simp;omega),y]
  ·have X:(f.toList.take (i*4)).length=i*4:=by rw[aH,Array.length_toList,d];exact Nat.min_eq_left (mul_le_mul_right _ (by omega))
   have an:f.toList.take (i*4)=xs.take (i*4):=by rw[<-O,take_take,Nat.min_eq_left (mul_le_mul_right _ (by omega))]
   unfold eM;simp only;rw[take_append_of_le_length (by simp;rw[d];omega),take_take,Nat.min_self,<-av,take_append_of_le_length (by rw[aq,X,z];exact aa _),bQ (by rw[aq,X,z];exact aa _),an,b])
 have ba:i<=cap:=by omega
 have bb:j<=cap:=by omega
 have bc:j<=n:=by omega
 have a2:Hid (s=w.drew.setCells g (0+i*4) a):=H;have a3:n-(n-1)=1:=by omega
 have bd:¬cap=n-1:=by omega
 have be:((n-1:Nat):Int)<=(n:Int):=by omega
 replace x:=J x.o;replace Q:Hid _:=J Q;replace C:Hid _:=J C;have a4:((i:Int)==(j:Int))=false:=by rw[aZ];have:=C.o;omega
 have a5:(j:Int)<=(n:Int):=by omega
 have a6:(i:Int)<=(j:Int):=by have:=Q.o;omega
 have a7:(n:Int)<=(cap:Int):=by omega
 obtain⟨i0,ao,bi,ap,bj⟩:=info_parts jM;clear H K P ae D E l e W M O d ab;replace b:Hid _:=J b;simp only[Nat.zero_add]at al;go_enter Tryz.func88,Tryz.ntmps88;go_wp2_with fail;go_region_law(refine step_append_room rfl (.tmp 22) (.tmp 25) 127 rfl 122 i0 4 Tryz.underlying127 ao ap g 0 i cap (by simp[Act.eval,Act.put]) A (n-j) (cap-j) a (by simp[Act.eval,Act.put]) s1.o Z.o s2.o (by omega) s3.o ?_;rw[<-a2.o])
 all_goals
  go_wp2;go_ret;have T:=x.o;rw[Q.o]at T;simp only[Nat.zero_add]at T⊢;exact T
theorem oV(w:World)(base:Nat)(v:Value)(m:Nat)(xs:List Value)(e:w.ownsRow base 3 1 v m xs)(B:Nat)(A:Option Addr)(k c:Nat)(a:List Value)(o:Reads w B 1 A k a)(p:∀u∈a,u.oneCell'=true)(ty:TypeId)(q:m+k<=1000000)(b:base<=w.heap.size):∃d w',(Builtin.append_ #[113,113] ty #[v,.slice A k c]).run Tryz.prog w=.ok d w'/\w'.ownsRow base 3 1 d (m+k) (xs++a)/\w.grownBy w' v.ownBlock/\(d.ownBlock=v.ownBlock\/d.ownBlock=some w.heap.size):=by obtain⟨i0,f,i,j,l⟩:=info_parts lj;exact bN (P:=Tryz.prog) w base 113 ty 3 i0 _ 1 8 Tryz.underlying113 f i j l rfl (by omega) v m xs e B A k c a o p (by simp only[maxLen];omega) (by omega) b
theorem sA(w:World)(A:Option Addr)(n c:Nat)(xs:List Value)(h:Reads w w.heap.size 1 A n xs)(p:∀u∈xs,u.oneCell'=true)(C:n<=100000):Calls Tryz.prog 165 #[.slice A n c] w (wu w w.heap.size 3 1 n xs):=by
 have i:=λr=>Lib.run_eql_slice_nil (P:=Tryz.prog) r 113 3 A n c 0 0 Tryz.underlying113;rcases A with _|s
 ·obtain⟨rfl,rfl⟩:=Reads.LS h;clear h;go_enter Tryz.func165,Tryz.ntmps165;go_wp2;go_ret;exact⟨_,rfl,⟨rfl,.inl ⟨rfl,rfl⟩⟩,Below.refl _ _⟩
 ·obtain⟨i0,a,b,d,e⟩:=info_parts lj;have t:=J h.1;have v:=J (Reads.FU h);have q:Hid (∀u∈xs,u.oneCell'=true):=J p;refine bz ?_ a b d e;clear a b d e;intro a b d e;clear h p;go_enter Tryz.func165,Tryz.ntmps165;go_wp2_with(at_builtin;refine wpList_append_own _ rfl _ _ 113 rfl w.heap.size 3 i0 _ 1 8 Tryz.underlying113 a.o b.o d.o e.o rfl (by decide) _ _ _ rfl (World.ownsRow_made w #[] 0 (aa _) (zero_le _) (by simp)) s n c xs rfl ?qc1 ?qc2 ?qc3 ?qc4 ?qc5 ?qc6 ?_)
  case qc1=>exact t.o
  case qc2=>exactλj u x=>Lib.cell?_alloc_some _ (v.o j u x)
  case qc3=>exact q.o
  case qc4=>simp only[maxLen];omega
  case qc5=>omega
  case qc6=>simp
  intro y D l f i;go_wp2;go_ret;exact⟨y,rfl,by simpa using l,((Below.refl _ w).alloc (aa _) _).grown f (by simp) (by intro k z;simp[Value.ownBlock]at z;omega)⟩
theorem AJ(w:World)(ty:TypeId)(b o c:Nat)(i:∀j,j<1->(w.cell? ⟨b,o+j,none⟩).isSome=true)(k:∀j,j<1->w.frozen? ⟨b,o+j,none⟩=false):(Builtin.clear_ #[113] ty #[.slice (some ⟨b,o,none⟩) 1 c]).run Tryz.prog w=.ok (.tuple #[]) (w.setCells b o [.int .i64 0]):=by
 have a:=run_storeCells_cells (P:=Tryz.prog) b o [.int .i64 0] 0 w (by simpa using i) (by simp) (by intro v d;simp at d;subst d;rfl);simp only[Nat.add_zero]at a;have e:(zeroValue 3).run Tryz.prog w=.ok (.int .i64 0) w:=Tryz.zeroValue3 w;have f:(Builtin.zeroCells (Value.int .i64 0).cells 1).toList=[.int .i64 0]:=by simp[Builtin.zeroCells,Value.cells]
 simp[Builtin.clear_,run_underlying Tryz.underlying113,e,f,a]
theorem FW(w:World)(base:Nat)(v:Value)(n i:Nat)(xs:List Value)(Y:w.ownsRow base 3 1 v n xs)(bm:i<n)(ab:∀u∈xs,u.oneCell'=true)(bp:n<=100000):Calls Tryz.prog 164 #[v,.int .i64 (i:Int),.int .i64 ((i:Int)+1)] w (wD w base 3 1 v (n-1) (xs.take (i*1)++xs.drop ((i+1)*1))):=by
 obtain⟨M,⟨_,ac⟩|⟨g,cap,f,rfl,ad,ae,V,af,d,O⟩⟩:=Y
 ·omega
 obtain⟨j,Q⟩:=I (i+1);have C:(i:Int)+1=(j:Int):=by omega
 rw[C];have P:ah w g 3 f:=ae;obtain⟨a,b⟩:=I (xs.drop (j*1));have l:a.length=(n-j)*1:=by rw[b,aQ,M,Nat.sub_mul]
 have D:∀q u,xs[q]?=some u->w.cell? ⟨g,q,none⟩=some u:=λq u p=>by
  rw[P.cell];rw[<-O,bw]at p;split at p
  ·simpa using p
  ·cases p
 obtain⟨A,a0,Z⟩:∃A:Addr,(if cap=j then some (⟨g,0,none⟩:Addr)else some ⟨g,j*1,none⟩)=some A/\Hid (∀t u,a[t]?=some u->w.drew.cell? (A.add t)=some u):=by
  by_cases h:cap=j
  ·refine⟨⟨g,0,none⟩,by simp[h],λt u r=>?_⟩
   have ac:a.length=0:=by rw[l];have:n-j=0:=by omega
                          rw[this,Nat.zero_mul]
   rw[length_eq_zero_iff.1 ac]at r;simp at r
  ·refine⟨⟨g,j*1,none⟩,by simp[h],λt u r=>?_⟩;rw[Addr.add_lit];rw[b,getElem?_drop]at r;exact D _ _ r
 have s1:Hid (a.length=(n-j)*1):=l;have s2:Hid (∀u∈a,u.oneCell'=true):=λu r=>ab u (by rw[b]at r;exact mem_of_mem_drop r);have W:∀q,w.frozen? ⟨g,q,none⟩=false:=λq=>P.frozen q;have E:∀q,q<cap*1->(w.cell? ⟨g,q,none⟩).isSome=true:=λq p=>by rw[P.cell,Array.getElem?_eq_getElem (by rw[d];exact p)];rfl
 have e:i*1+a.length<=cap*1:=by rw[l,<-Nat.add_mul];exact mul_le_mul_right _ (by omega)
 have s3:Hid (∀t,t<a.length->(w.drew.cell? ⟨g,0+i*1+t,none⟩).isSome=true/\w.drew.frozen? ⟨g,0+i*1+t,none⟩=false):=λt br=>by rw[Nat.zero_add];exact⟨E _ (by omega),W _⟩
 obtain⟨s,H⟩:=I (w.drew.setCells g (0+i*1) a);have K:ah s g 3 (eM f (i*1) a):=by rw[H,Nat.zero_add];exact ah.setCells_at a (w:=w.drew) P (i*1) (by rw[d];exact e)
 have a1:i+(n-j)=n-1:=by omega
 have al:∀ty,(Builtin.clear_ #[113] ty #[.slice (some ⟨g,0+(n-1)*1,none⟩) 1 (cap-(n-1))]).run Tryz.prog s=.ok (.tuple #[]) (s.setCells g (0+(n-1)*1) [.int .i64 0]):=λty=>by
  rw[Nat.zero_add];exact AJ s ty g ((n-1)*1) (cap-(n-1)) (λq p=>by
   rw[K.cell,Array.getElem?_eq_getElem (by rw[fO _ _ _ (by rw[d];exact e),d];have:(n-1)*1+1=n*1:=by omega
                                           have T:n*1<=cap*1:=mul_le_mul_right _ V
                                           omega)];rfl) (λq p=>K.frozen _)
 have x:Hid (wD w base 3 1 (.slice (some ⟨g,0,none⟩) n cap) (n-1) (xs.take (i*1)++xs.drop (j*1)) (.returned (.slice (some ⟨g,0,none⟩) (n-1) cap)) (s.setCells g (0+(n-1)*1) [.int .i64 0])):=J (by
  have a9:(n-1)*1+1=n*1:=by omega
  have ba:n*1<=cap*1:=mul_le_mul_right _ V;have y:(eM f (i*1) a).size=cap*1:=by rw[fO _ _ _ (by rw[d];exact e),d]
  have am:=ah.setCells_at [.int .i64 0] K ((n-1)*1) (by rw[y];simp;omega);rw[Nat.zero_add];have z:i*1+a.length=(n-1)*1:=by rw[l,<-Nat.add_mul,a1]
  have a2:R (λk=>k=g) w (s.setCells g ((n-1)*1) [.int .i64 0]):=ju _ _ _ (by rw[H];exact ju _ _ _ (R.refl _ w).drew);refine⟨_,rfl,⟨?_,.inr ⟨g,cap,_,rfl,ad,am,by omega,af,?_,?_⟩⟩,a2.FV,rfl⟩
  ·rw[aq,<-b,aH,M,Nat.min_eq_left (mul_le_mul_right _ (by omega))];exact z
  ·rw[fO _ _ _ (by rw[y];simp;omega),y]
  ·have X:(f.toList.take (i*1)).length=i*1:=by rw[aH,Array.length_toList,d];exact Nat.min_eq_left (mul_le_mul_right _ (by omega))
   have an:f.toList.take (i*1)=xs.take (i*1):=by rw[<-O,take_take,Nat.min_eq_left (mul_le_mul_right _ (by omega))]
   unfold eM;simp only;rw[take_append_of_le_length (by simp;rw[d];omega),take_take,Nat.min_self,<-av,take_append_of_le_length (by rw[aq,X,z];exact aa _),bQ (by rw[aq,X,z];exact aa _),an,b])
 have bb:i<=cap:=by omega
 have bc:j<=cap:=by omega
 have bd:j<=n:=by omega
 have a3:Hid (s=w.drew.setCells g (0+i*1) a):=H;have a4:n-(n-1)=1:=by omega
 have be:¬cap=n-1:=by omega
 have bi:((n-1:Nat):Int)<=(n:Int):=by omega
 replace x:=J x.o;replace Q:Hid _:=J Q;replace C:Hid _:=J C;have a5:((i:Int)==(j:Int))=false:=by rw[aZ];have:=C.o;omega
 have a6:(j:Int)<=(n:Int):=by omega
 have a7:(i:Int)<=(j:Int):=by have:=Q.o;omega
 have a8:(n:Int)<=(cap:Int):=by omega
 obtain⟨i0,ao,bj,ap,bl⟩:=info_parts lj;clear H K P ae D E l e W M O d ab;replace b:Hid _:=J b;simp only[Nat.mul_one,Nat.zero_add]at a0 al;go_enter Tryz.func164,Tryz.ntmps164;go_wp2_with fail;go_region_law(refine step_append_room rfl (.tmp 22) (.tmp 25) 113 rfl 3 i0 1 Tryz.underlying113 ao ap g 0 i cap (by simp[Act.eval,Act.put]) A (n-j) (cap-j) a (by simp[Act.eval,Act.put]) s1.o Z.o s2.o (by omega) s3.o ?_;rw[<-a3.o])
 all_goals
  go_wp2;go_ret;have T:=x.o;rw[Q.o]at T;simp only[Nat.zero_add,Nat.mul_one]at T⊢;exact T
structure bC (F:Nat->Prop) (w:World) (B:Nat) (cv kv:Value) (n:aj):Prop where
 rows:∃rows:List (List Value),rows.length=n.cells.length/\w.ownsRow B 122 4 cv n.cells.length rows.flatten/\cR F w rows n.cells
 kids:w.ownsRow B 3 1 kv n.kids.length (n.kids.map encI)
 rF:∀k,cv.ownBlock=some k->¬F k
 kF:∀k,kv.ownBlock=some k->¬F k
section
variable {F F' S:Nat->Prop}{w w':World}{B:Nat}{cv kv:Value}{n:aj}{rows:List (List Value)}{cs:List ai}
theorem iw.sB(h:iw F w B cv kv n):bC F w B cv kv n:=by obtain⟨rows,e,d,f⟩:=h.rows;exact⟨⟨rows,e,d,f⟩,h.kids,λk a b=>by have:=h.above k b;have:=(dw d a).1;omega,λk a b=>by have:=h.above k b;have:=(dw h.kids a).1;omega⟩
theorem cN.Nd{vs:List Value}{c:ai}(h:cN (byteOf F w) w vs c)(a:Ev F w F' w'):cN (byteOf F' w') w' vs c:=h.keep λj d=>by obtain⟨b,e,f⟩:=d;have:=a.block b;exact⟨⟨a.mine b,e,Eq.trans this f⟩,this⟩
theorem cR.ev(h:cR F w rows cs)(a:Ev F w F' w'):cR F' w' rows cs:=λk vs c d e=>(h k vs c d e).keep λj f=>by obtain⟨b,i,l⟩:=f;have:=a.block b;exact⟨⟨a.mine b,i,Eq.trans this l⟩,this⟩
theorem bC.ev(h:bC F w B cv kv n)(a:Ev F w F' w'):bC F' w' B cv kv n:=by obtain⟨rows,e,d,f⟩:=h.rows;exact⟨⟨rows,e,a.only.row d h.rF,f.ev a⟩,a.only.row h.kids h.kF,λk b=>a.new (h.rF k b) (dw d b).2,λk b=>a.new (h.kF k b) (dw h.kids b).2⟩
theorem bC.only(h:bC F w B cv kv n)(f:R S w w')(i:∀k,S k->∃t cs,ah w k t cs/\t≠5/\t≠122/\t≠3):bC F w' B cv kv n:=by
 obtain⟨rows,o,l,p⟩:=h.rows;refine⟨⟨rows,o,f.row l λk b j=>?_,p.iZ f λk cs b q=>?_⟩,f.row h.kids λk b j=>?_,h.rF,h.kF⟩
 ·obtain⟨t,e,a,_,d,_⟩:=i k j;exact au l a (Ne.symm d) b
 ·obtain⟨t,e,a,d,_⟩:=i k b;exact ah.iH q a (Ne.symm d) rfl
 ·obtain⟨t,e,a,_,_,d⟩:=i k j;exact au h.kids a (Ne.symm d) b
theorem bC.more{B':Nat}(h:bC F w B cv kv n)(a:B'<=B):bC F w B' cv kv n:=by obtain⟨rows,b,d,e⟩:=h.rows;exact⟨⟨rows,b,dQ d a,e⟩,dQ h.kids a,h.rF,h.kF⟩
theorem Rd.oW{base:Nat}{e:TypeId}{size c m:Nat}{A:Option Addr}{xs:List Value}{G:Nat->Prop}(h:w.ownsRow base e size (.slice A m c) m xs)(b:∀k,(Value.slice A m c).ownBlock=some k->k<w.heap.size->G k):Rd G w size A m xs:=by
 refine⟨h.1,λd=>?_⟩;obtain⟨g,cap,f,j,a⟩:=h.form d;have i:A=some ⟨g,0,none⟩:=by injection f
 subst i;exact⟨_,rfl,b g rfl a,h.cells (g:=g) rfl⟩
theorem iO{e:TypeId}{size m:Nat}{v:Value}{xs:List Value}(h:w.ownsRow B e size v m xs):∃A c,v=.slice A m c/\m<=c:=by
 rcases h.2 with⟨rfl,rfl⟩|⟨g,cap,b,rfl,_,_,a,_⟩
 ·exact⟨none,0,rfl,aa _⟩
 ·exact⟨_,_,rfl,a⟩
theorem bC.gS(h:bC F w B cv kv n):bI (bF F w) w (.agg #[.bool n.leaf,cv,kv]) n:=by obtain⟨rows,l,e,o⟩:=h.rows;have a:=h.kids;have f:=h.rF;have i:=h.kF;obtain⟨A,c,rfl,p⟩:=iO e;obtain⟨q,d,rfl,r⟩:=iO a;exact⟨A,c,q,d,rfl,p,r,⟨rows,l,Rd.oW e λk a b=>⟨b,f k a⟩,λk vs x s t=>(o k vs x s t).mono λj u=>u.1⟩,Rd.oW a λk a b=>⟨b,i k a⟩⟩
theorem bC.wF(h:bC F w B cv kv n):nX (byteOf F w) w (.agg #[.bool n.leaf,cv,kv]) n:=by
 intro l A x c B' y d j i p P Q T q D a;injection j with j;simp at j;obtain⟨_,r,_⟩:=j;subst r;subst D;obtain⟨rows,s,t,u⟩:=h.rows;have k:i<rows.length:=by rw[s];exact(ay.1 q).1
 obtain⟨v,z,V,W,e,X,Y,E,Z⟩:=u i rows[i] p (ak k) q;rcases t.2 with⟨b,_⟩|⟨g,cap,H,b,_,ab,_,_,_,K⟩
 ·cases b
 ·injection b with b M O;injection b with b;subst b;have o:=kH (u.four s) i 0 rows[i] (.slice v p.key.length z) (ak k) (by rw[e];rfl);rw[Nat.add_zero]at o;have C:=t.cells (g:=g) rfl (i*4) _ o;have f:=C.symm.trans a;replace a:=f;injection a with a;injection a with a;subst a;exact E
end
theorem rp.ok{st st':aB}{no:Nat}{n:aj}{l:Option (List UInt8×Nat)}(h:rp st no n st' l)(a:st.ok):st'.ok:=by
 cases h with
 |fits d=>exact a.save d
 |split i j k o e b f=>exact((a.save e).alloc b).1.save f
theorem Rd.xM{F F':Nat->Prop}{w w':World}{size n:Nat}{A:Option Addr}{xs:List Value}(h:Rd (byteOf F w) w size A n xs)(a:Ev F w F' w'):Rd (byteOf F' w') w' size A n xs:=h.keep λk d=>by obtain⟨b,e,f⟩:=d;have:=a.block b;exact⟨⟨a.mine b,e,Eq.trans this f⟩,this⟩
theorem Rd.FX{G G':Nat->Prop}{w:World}{size n:Nat}{A:Option Addr}{xs:List Value}(h:Rd G w size A n xs)(a:∀k,G k->G' k):Rd G' w size A n xs:=h.keep λk b=>⟨a k b,rfl⟩
theorem nX.ev{F F':Nat->Prop}{w w':World}{v:Value}{n:aj}(h:nX (byteOf F w) w v n)(q:bI (bF F w) w v n)(j:Ev F w F' w'):nX (byteOf F' w') w' v n:=by intro l A x c B y d k i r s t u o p e;obtain⟨T,c5,V,W,a,E,H,f,z⟩:=q;rw[k]at a;injection a with a;simp at a;obtain⟨_,⟨rfl,_,rfl⟩,_⟩:=a;obtain⟨K,M,O,P,Q,C,D⟩:=f.at_ i (ay.1 o).1;have b:=p.symm.trans C;injection b with b;subst b;exact(h l A x c B y d k i r s t u o p ((j.cell D.blk).symm.trans e)).xM j
theorem DL(w:World)(F:Nat->Prop)(gt af k:Nat)(st:aB)(h:ar w F af st)(bb:aL w F gt af k)(bB:st.ok)(no:Nat)(n:aj)(v:Value)(al:bI (bF F w) w v n)(ao:nX (byteOf F w) w v n)(bd:bJ n) (cB:508<aC n) (b0:aC n<=760) (b1:oZ n) (be:dh st no (cd n)) (W:dU (aY st no (cd n))) (bi:dh (aW (aY st no (cd n))) (aG (aY st no (cd n))) (dG n)):Calls Tryz.prog 105 #[.pointer (some ⟨gt,0,none⟩),.int .i64 (no:Int),v] w (iN F w af no (aY (aW (aY st no (cd n))) (aG (aY st no (cd n))) (dG n)) (some (dF n,aG (aY st no (cd n))))):=by
 obtain⟨A,c,B,d,rfl⟩:=al.box;obtain⟨cx,ap⟩:=I (n.leaf);obtain⟨M,b2⟩:=I (n.cells.length);obtain⟨K,b3⟩:=I (n.kids.length);rw[<-ap,<-b2,<-b3]at al ao⊢;have H:Ev F w F (w.alloc (.cells #[.bool cx,.slice A M c,.slice B K d] 129)):=(Ev.refl F w).az _;have s:=ah.new w 129 #[.bool cx,.slice A M c,.slice B K d];have X:=h.lt;have cV:¬F w.heap.size:=λbj=>by have:=X _ bj;omega
 have cX:=ah.lt bb.blk;have O:=al.ev H;have am:=ao.ev al H;have bl:=J (gQ _ _ n (O.old λk l=>l.1) bd (by omega));obtain⟨Z,b4⟩:=I (aC n);rw[<-b4]at bl cB;have cY:decide ((Z:Int)<=508)=false:=aD (by omega);have c0:decide (Z<=508)=false:=aD (by omega);obtain⟨Y,y⟩:=I (aG (aY st no (cd n)));obtain⟨bg,a⟩:=I (aY st no (cd n));obtain⟨dC,z⟩:=I (aY (aW bg) Y (dG n));have a0:bg.ok:=by rw[a];exact bB.save be
 rw[<-y,<-a]at bi⊢;rw[<-a]at W;rw[<-z];have i:Y=aG bg:=by rw[a];exact y
 refine bf ?_ h bb al;clear h bb al;intro h bb al;replace ao:Hid _:=J ao;replace am:Hid _:=J am;refine aR ?_ ap b2 b3 b4 H be bi W s O X bd b1;clear ap b2 b3 b4 H be bi W s O X bd b1;intro ap b2 b3 b4 H be bi W s O X bd b1;refine eD ?_ b0 y i a z bB a0;clear b0 y i a z bB a0;intro b0 y i a z bB a0;have c2:=s.o.cell 0;have c3:=s.o.cell 1;have c4:=s.o.cell 2;go_enter Tryz.func105,Tryz.ntmps105;go_wp2_with(first|(go_at_call 77;refine bl.o.mono ?_;rintro e b5 ⟨rfl,C⟩;have ab:=s.o.below C (ah.lt s.o);have c5:=ab.cell 0;have c6:=ab.cell 1;have c7:=ab.cell 2;replace C:=J C;replace ab:=J ab));have bm:Ev F w F b5:=H.o.below C.o;have bp:=O.o.ev (Ev.ag C.o);have an:=am.o.ev O.o (Ev.ag C.o);have co:=J (sy b5 (bF F b5) (byteOf F b5) _ n bp (λk l=>l.1) (λk l=>l.1.1) an bd.o (by have:=b0.o;omega) b1.o.1);replace bm:=J bm;replace bp:=J bp;replace an:Hid _:=J an;go_at_call 159;refine co.o.mono ?_;rintro e b ⟨cD,cE,br,cr,rfl,b6,b7,T,cp,t⟩;have ac:Ev F w F b:=bm.o.below t;have hA3:bI (bF F b) b cD (cd n):=b6.mono λk l=>⟨aN l.1 t.size,l.2⟩;have p:bI (bF F b) b cE (dG n):=b7.mono λk l=>⟨aN l.1 t.size,l.2⟩;have j:Rd (byteOf F b) b 1 br (dF n).length (bv (dF n)):=T.FX λk l=>by obtain⟨⟨cH,cK⟩,cL,cM⟩:=l;have cy:=cM.below t cH;exact⟨⟨cy.lt,cK⟩,cL,cy⟩
 obtain⟨ct,D⟩:=I ((dF n).length);obtain⟨b8,b9,ca,cb,rfl⟩:=hA3.box;obtain⟨cc,ce,cf,cg,rfl⟩:=p.box;obtain⟨ch,a1⟩:=I ((cd n).leaf);obtain⟨ci,a2⟩:=I ((dG n).leaf);obtain⟨cj,a3⟩:=I ((cd n).cells.length);obtain⟨ck,a4⟩:=I ((dG n).cells.length);obtain⟨cl,a5⟩:=I ((cd n).kids.length);obtain⟨cm,a6⟩:=I ((dG n).kids.length);rw[<-a1,<-a3,<-a5]at hA3⊢;rw[<-a2,<-a4,<-a6]at p⊢;rw[<-D]at j cp⊢;obtain⟨bc,u⟩:=I ((b.alloc (.cells #[.bool ch,.slice b8 cj b9,.slice ca cl cb] 129)).alloc (.cells #[.bool ci,.slice cc ck ce,.slice cf cm cg] 129));have f:Ev F b F bc:=by rw[u];exact((Ev.refl F b).az _).az _
 have P:Ev F w F bc:=ac.trans f;have Q:ah bc b.heap.size 129 #[.bool ch,.slice b8 cj b9,.slice ca cl cb]:=by rw[u];exact(ah.new b 129 _).alloc _
 have a7:ah bc (b.heap.size+1) 129 #[.bool ci,.slice cc ck ce,.slice cf cm cg]:=by rw[u];have q:=ah.new (b.alloc (.cells #[.bool ch,.slice b8 cj b9,.slice ca cl cb] 129)) 129 #[.bool ci,.slice cc ck ce,.slice cf cm cg];rw[World.size_alloc]at q;exact q
 have a8:ar bc F af st:=by rw[u];exact((((h.o.alloc _).below C.o).below t).alloc _).alloc _
 have bs:=J (lp bc F gt af k st a8 (bb.o.ev P) no (cd n) (.agg #[.bool ch,.slice b8 cj b9,.slice ca cl cb]) (hA3.ev f) be.o);rw[<-a.o]at bs;have c1:w.heap.size<=b.heap.size:=ac.size;have cz:¬F (b.heap.size+1):=λbj=>by have:=X.o _ bj;omega
 have c8:=Q.cell 0;have c9:=Q.cell 1;have da:=Q.cell 2;refine aR ?_ u f P ac Q a7 a8 b6 b7 hA3 p T j;clear u f P ac Q a7 a8 b6 b7 hA3 p T j;intro u f P ac Q a7 a8 b6 b7 hA3 p T j;refine dS ?_ t D a1 a2 a3 a4 a5 a6;clear t D a1 a2 a3 a4 a5 a6;intro t D a1 a2 a3 a4 a5 a6;go_upto_region 4 with(fail)
 rw[<-u.o];go_wp2_with fail;go_at_call 103;refine bs.o.mono ?_;rintro e cP ⟨rfl,cS,a9,x⟩;have r:=x.blk a7.o cz;have g0:=r.cell 0;have g1:=r.cell 1;have db:=r.cell 2;have bx:=J (oN cP cS gt af k bg a9 (bb.o.ev (P.o.trans x)) (dG n) (.agg #[.bool ci,.slice cc ck ce,.slice cf cm cg]) ((p.o.ev f.o).ev x) W.o a0.o.free (by rw[<-i.o];exact bi.o));rw[<-i.o,<-z.o]at bx;refine bf ?_ r a9 x;clear r a9 x;intro r a9 x;clear bs co bl;go_wp2_with fail;go_at_call 56;refine bx.o.mono ?_;rintro e V ⟨rfl,bA,ad,ae⟩;have E:Ev F w bA V:=P.o.trans (x.o.trans ae);have ba:=ah.new V 184 #[.slice none 0 0,.int .i64 (no:Int),.slice br ct cr,.int .i64 (Y:Int)];have cn:Hid (iN F w af no dC (some (dF n,Y)) (.returned (.tuple #[.slice (some ⟨V.heap.size,0,none⟩) 2 2,.int .i64 0])) (V.alloc (.cells #[.slice none 0 0,.int .i64 (no:Int),.slice br ct cr,.int .i64 (Y:Int)] 184))):=J (by
  have cA:Rd (byteOf bA V) V 1 br ct (bv (dF n)):=((j.o.xM f.o).xM x.o).xM ae;have cw:¬bA V.heap.size:=λbj=>by have:=ad.lt _ bj;omega
  refine⟨bA,V.heap.size,2,rfl,ad.alloc _,E.az _,E.size,cw,rfl,br,cr,?_,?_,?_⟩
  ·rw[<-D.o];exact ba
  ·rw[<-D.o];exact cA.xM ((Ev.refl bA V).az _)
  ·rw[<-D.o];exact cp)
 refine bz ?_ ad ae E ba;clear ad ae E ba;intro ad ae E ba;clear bx;go_wp2_with fail
 go_ret2
 exact cn.o
theorem wG(w:World)(F:Nat->Prop)(gt a k:Nat)(st st':aB)(h:ar w F a st)(b:aL w F gt a k)(i:st.ok)(no:Nat)(n:aj)(l:Option (List UInt8×Nat))(v:Value)(d:bI (bF F w) w v n)(e:nX (byteOf F w) w v n)(j:rp st no n st' l):Calls Tryz.prog 105 #[.pointer (some ⟨gt,0,none⟩),.int .i64 (no:Int),v] w (iN F w a no st' l):=by
 cases j with
 |fits o=>exact FR w F gt a k st h b no n v d o
 |split p q r s t f u=>exact DL w F gt a k st h b i no n v d e p q r s t f u
def rK(F:Nat->Prop)(w:World)(n:aj)(e:Ending)(w':World):Prop:=∃cv kv,e=.returned (.agg #[.bool n.leaf,cv,kv])/\bC F w' w.heap.size cv kv n/\Below w.heap.size w w'
structure Jq (F:Nat->Prop) (w:World) (lf lb:Bool) (cvb kvb:Value) (gn:Nat) (cs:List ai) (ks:List Nat) (cv kv:Value) (wx:World):Prop where
 dX:Below w.heap.size w wx
 bb:ah wx (w.heap.size+1) 129 #[.bool lb,cvb,kvb]
 br:ah wx (w.heap.size+1+1) 129 #[.bool false,.slice none 0 0,.slice none 0 0]
 nd:ah wx gn 129 #[.bool lf,cv,kv]
 LU:w.heap.size+2<gn
 rows:∃rows:List (List Value),rows.length=cs.length/\wx.ownsRow w.heap.size 122 4 cv cs.length rows.flatten/\cR F wx rows cs
 kids:wx.ownsRow w.heap.size 3 1 kv ks.length (ks.map encI)
theorem Jq.turn{F:Nat->Prop}{w l W:World}{u x:Bool}{r s cv kv d f:Value}{a:Nat}{cs b:List ai}{z i:List Nat}(h:Jq F w u x r s a cs z cv kv l)(o:R (λk=>cv.ownBlock=some k\/k=a) l W)
 (C:ah W a 129 #[.bool u,d,f]) (D:∃rows:List (List Value),rows.length=b.length/\W.ownsRow w.heap.size 122 4 d b.length rows.flatten/\cR F l rows b) (j:W.ownsRow w.heap.size 3 1 f i.length (i.map encI)):
 Jq F w u x r s a b i d f W:=by
 obtain⟨rows,O,v,P⟩:=h.rows;obtain⟨p,g1,E,g3⟩:=D;have y:=h.LU;have H:∀k,(cv.ownBlock=some k\/k=a)->w.heap.size<=k:=λk j=>j.elim (λe=>(dw v e).1) (λe=>by omega);have t:∀g cs,ah l g 129 cs->g≠a->¬(cv.ownBlock=some g\/g=a):=λg cs q K M=>M.elim (λe=>aI v q (by decide) g e rfl) K;exact⟨h.dX.trans (o.below H h.dX.size),o.blk h.bb (t _ _ h.bb (by omega)),o.blk h.br (t _ _ h.br (by omega)),C,y,⟨p,g1,E,g3.iZ o λk cs j q=>j.elim (λe=>au v q (by decide) e) (λe=>by subst e;exact ah.iH q h.nd (by decide) rfl)⟩,j⟩
theorem o6(l:List Nat):∀u∈l.map encI,u.oneCell'=true:=by intro u a;obtain⟨x,_,rfl⟩:=aM.1 a;rfl
theorem yu(w:World)(F:Nat->Prop)(hF:∀k,F k->k<w.heap.size)(na nb:aj)(e9 fa:Nat)(d7 d8 d9 ea:Value)(c8:bC F w e9 d7 d8 na)(a8:bC F w fa d9 ea nb)(ex:na.cells.length<=40000)(ey:nb.cells.length<=40000)(eA:na.kids.length<=40001)(eE:nb.kids.length<=40001)(ck:Option Addr) (cl:Nat) (key:List UInt8) (f:Rd (byteOf F w) w 1 ck key.length (bv key)) (eI:key.length<=cl):Calls Tryz.prog 162 #[.agg #[.bool na.leaf,d7,d8],.slice ck key.length cl,.agg #[.bool nb.leaf,d9,ea]] w (rK F w (aU na key nb)):=by
 obtain⟨ba,cm,cn,co⟩:=c8.rows;obtain⟨c2,cp,cr,ct⟩:=a8.rows;have c9:=co.one cm;have da:=ct.one cp;have bc:=c8.kids;have bd:=a8.kids;obtain⟨A,c,rfl,fY⟩:=iO cn;obtain⟨b1,d,rfl,db⟩:=iO bc;obtain⟨B,x,rfl,f0⟩:=iO cr;obtain⟨B',y,rfl,f1⟩:=iO bd;have cw:=Reads.fP cn;have cx:=Reads.fP cr;have be:=Reads.fP bc;have bi:=Reads.fP bd;obtain⟨s,Z⟩:=I (na.leaf);obtain⟨b2,cb⟩:=I (nb.leaf);obtain⟨M,bj⟩:=I (na.cells.length);obtain⟨N,cc⟩:=I (nb.cells.length);obtain⟨K,cM⟩:=I (na.kids.length);obtain⟨L,cP⟩:=I (nb.kids.length);obtain⟨U,dc⟩:=I (key.length);rw[<-Z,<-cb,<-bj,<-cc,<-cM,<-cP,<-dc];rw[<-bj]at cw ex;rw[<-cc]at cx ey;rw[<-cM]at be eA;rw[<-cP]at bi eE;obtain⟨i,ap⟩:=I (((w.alloc (.cells #[.bool s,.slice A M c,.slice b1 K d] 129)).alloc (.cells #[.bool b2,.slice B N x,.slice B' L y] 129)).alloc (.cells #[.bool false,.slice none 0 0,.slice none 0 0] 129));have V:Below w.heap.size w i:=by rw[ap];exact(((Below.refl w.heap.size w).alloc (aa _) _).alloc (by simp) _).alloc (by simp<;>omega) _
 have dd:i.heap.size=w.heap.size+3:=by rw[ap];simp
 have b3:ah i w.heap.size 129 #[.bool s,.slice A M c,.slice b1 K d]:=by rw[ap];exact((ah.new w 129 _).alloc _).alloc _
 have de:ah i (w.heap.size+1) 129 #[.bool b2,.slice B N x,.slice B' L y]:=by rw[ap];have q:=ah.new (w.alloc (.cells #[.bool s,.slice A M c,.slice b1 K d] 129)) 129 #[.bool b2,.slice B N x,.slice B' L y];rw[World.size_alloc]at q;exact q.alloc _
 have dj:ah i (w.heap.size+1+1) 129 #[.bool false,.slice none 0 0,.slice none 0 0]:=by rw[ap];have q:=ah.new ((w.alloc (.cells #[.bool s,.slice A M c,.slice b1 K d] 129)).alloc (.cells #[.bool b2,.slice B N x,.slice B' L y] 129)) 129 #[.bool false,.slice none 0 0,.slice none 0 0];rw[World.size_alloc,World.size_alloc]at q;exact q
 have a0:=b3.cell 0;have eh:=b3.cell 1;have ei:=b3.cell 2;have eb:Hid (∀E,Below i.heap.size i E->Calls Tryz.prog 163 #[.slice A M c] E (wu E E.heap.size 122 4 M ba.flatten)):=J λE a1=>nY E A M c ba.flatten ((cw.below (V.trans (a1.mono V.size))).more (aO V.size a1.size)) c9 (by omega);have b6:Hid (∀E,Below i.heap.size i E->(E.cell? ⟨w.heap.size,0,none⟩=some (.bool s)/\E.cell? ⟨w.heap.size,1,none⟩=some (.slice A M c))):=J λE a1=>⟨(a1.cell (p:=⟨w.heap.size,0,none⟩) b3.lt).trans a0,(a1.cell (p:=⟨w.heap.size,1,none⟩) b3.lt).trans eh⟩;have dk:Hid (∀a9 a ab ac,Below i.heap.size i a9->ah a9 a 129 #[.bool s,.slice ab M ac,.slice none 0 0]->i.heap.size<=a->a9.ownsRow w.heap.size 122 4 (.slice ab M ac) M ba.flatten->
  Jq F w s b2 (.slice B N x) (.slice B' L y) a na.cells [] (.slice ab M ac) (.slice none 0 0) a9/\ah a9 w.heap.size 129 #[.bool s,.slice A M c,.slice b1 K d]):=J (by
  intro a9 a ab ac d4 fb f2 fc;have ec:Below w.heap.size w a9:=V.trans (d4.mono V.size);refine⟨⟨ec,de.below d4 de.lt,dj.below d4 dj.lt,fb,by omega,⟨ba,cm,by rw[<-bj];exact fc,co.ev (Ev.ag ec)⟩,⟨rfl,.inl ⟨rfl,rfl⟩⟩⟩,b3.below d4 b3.lt⟩)
 refine aR ?_ c8 a8 f Z cb bj cc cM cP dc ap V dd;clear c8 a8 f Z cb bj cc cM cP dc ap V dd;intro c8 a8 f Z cb bj cc cM cP dc ap V dd;refine ik ?_ b3 de dj cm cp cn cr co ct;clear b3 de dj cm cp cn cr co ct;intro b3 de dj cm cp cn cr co ct;replace c9:Hid _:=J c9;replace da:Hid _:=J da;refine dZ ?_ bc bd cw cx be bi;clear bc bd cw cx be bi;intro bc bd cw cx be bi;replace hF:Hid _:=J hF;go_enter Tryz.func162,Tryz.ntmps162;go_upto_region 1 with(fail)
 rw[<-ap.o];go_cut [7] (λfd a9=>∃(a:Nat) (ab:Option Addr) (ac:Nat),fd=.pointer (some ⟨a,0,none⟩)/\Hid (Jq F w s b2 (.slice B N x) (.slice B' L y) a na.cells [] (.slice ab M ac) (.slice none 0 0) a9/\ah a9 w.heap.size 129 #[.bool s,.slice A M c,.slice b1 K d]))
 case first=>
  go_region_held3 (λw'=>w'.cell? ⟨w.heap.size,0,none⟩=some (.bool s)/\w'.cell? ⟨w.heap.size,1,none⟩=some (.slice A M c)) (first|exact⟨a0,eh⟩|(with_reducible exact b6.o _ a4.o)|(with_reducible exact b6.o _ (a4.o.alloc a4.o.size _))|(exact b6.o _ (kZ a4.o (aa _) _ _ _))|go_keep) (first
   |(go_at_call 163;(with_reducible refine(eb.o _ (by with_reducible first|exact(Below.refl _ i).drew|exact(Below.refl _ i).alloc (aa _) _|exact((Below.refl _ i).alloc (aa _) _).drew|exact Below.refl _ i)).mono ?_);rintro e ej ⟨v3,rfl,b7,cy⟩;have a4:Hid (Below i.heap.size i ej):=J (Below.trans (by with_reducible first|exact(Below.refl _ i).drew|exact(Below.refl _ i).alloc (aa _) _|exact((Below.refl _ i).alloc (aa _) _).drew|exact Below.refl _ i) (cy.mono (Below.size (B:=i.heap.size) (by with_reducible first|exact(Below.refl _ i).drew|exact(Below.refl _ i).alloc (aa _) _|exact((Below.refl _ i).alloc (aa _) _).drew|exact Below.refl _ i))));(try(have Y:ah ej i.heap.size 129 #[.bool false,.slice none 0 0,.slice none 0 0]:=(by first|exact ah.below (ah.new i 129 #[.bool false,.slice none 0 0,.slice none 0 0]) cy (by simp)|exact ah.below (ah.new i 129 #[.bool false,.slice none 0 0,.slice none 0 0]).drew cy (by simp));have eJ:=Y.cell 0;have ce:=Y.cell 1;have b4:=Y.cell 2;have eK:=Y.frozen 0;have r1:=Y.frozen 1;have r2:=Y.frozen 2;replace Y:=J Y));(obtain⟨ab,ac,rfl,fx⟩:=iO b7);replace b7:=J b7;replace cy:=J cy))
  all_goals go_wp2_with fail
  all_goals go_meet
  ·refine⟨_,ab,ac,rfl,J (dk.o _ _ ab ac (a4.o.alloc a4.o.size _) (ah.new _ _ _) a4.o.size (World.ownsRow.alloc (dQ b7.o (by first|exact V.o.size|(have:=V.o.size;simp<;>omega))) _))⟩
  ·have ee:=Y.o;refine⟨_,ab,ac,rfl,J (dk.o _ _ ab ac (kZ a4.o (aa _) _ _ _) (fZ.own ⟨_,_,_,ee⟩ _ _ _) (aa _) ((kK (R.refl (λk=>k=i.heap.size) ej) rfl _ _ _).row (dQ b7.o (by first|exact V.o.size|(have:=V.o.size;simp<;>omega))) (aI b7.o ee (by decide))))⟩
 case rest=>
  obtain⟨a,ab,ac,rfl,ef⟩:=hcut;obtain⟨ad,bl⟩:=ef.o;clear ef a0 eh ei b6 eb dk;have a0:=bl.cell 0;have ei:=bl.cell 2;have ek:=ad.nd.cell 0;have el:=ad.nd.cell 1;have em:=ad.nd.cell 2;have ff:=ad.nd.frozen 1;have fg:=ad.nd.frozen 2;have en:=ad.bb.cell 1;have fh:=ad.bb.cell 2;replace bl:=J bl;replace ad:=J ad
  go_upto_if 16 with(fail)
  go_cut [] (λa9=>∃(cS cf:Option Addr) (C bm cV cg:Nat),Hid (C=(aU na key nb).cells.length-N/\bm=(aU na key nb).kids.length/\Jq F w s b2 (.slice B N x) (.slice B' L y) a (na.cells++if s=true then[]else[⟨key,[],0,0⟩]) (if s=true then[]else na.kids++nb.kids) (.slice cS C cV) (.slice cf bm cg) a9))
  case first=>
   cases s with
   |true=>
    have hrel:Hid (M=(aU na key nb).cells.length-N/\0=(aU na key nb).kids.length/\Jq F w true b2 (.slice B N x) (.slice B' L y) a (na.cells++if true=true then[]else[⟨key,[],0,0⟩]) (if true=true then[]else na.kids++nb.kids) (.slice ab M ac) (.slice none 0 0) wc):=J (by
     refine⟨?_,?_,?_⟩
     ·unfold aU;simp[<-Z.o];rw[bj.o,cc.o];omega
     ·unfold aU;simp[<-Z.o]
     ·simpa using ad.o)
    go_wp2_with fail
    go_meet
    case rel=>exact⟨ab,none,M,0,ac,0,hrel⟩
   |false=>
    obtain⟨rows,al,r,a5⟩:=ad.o.rows
    rw[<-bj.o]at r
    have dl:ah (wc.alloc (.cells #[.slice ck U cl,.slice none 0 0,.int .i64 0,.int .i64 0] 122)) wc.heap.size 122 #[.slice ck U cl,.slice none 0 0,.int .i64 0,.int .i64 0]:=ah.new _ _ _
    obtain⟨dp,c7,bp,am,c3,eg⟩:=jG (wc.alloc (.cells #[.slice ck U cl,.slice none 0 0,.int .i64 0,.int .i64 0] 122)) w.heap.size (.slice ab M ac) M rows.flatten (World.ownsRow.alloc r _) wc.heap.size (.slice ck U cl) (.slice none 0 0) (.int .i64 0) (.int .i64 0) (by intro u eL;simp at eL;rcases eL with rfl|rfl|rfl<;>rfl) dl 127 (by omega) (aO ad.o.dX.size (by simp))
    have ch:R (λk=>(Value.slice ab M ac).ownBlock=some k\/k=a) wc c7:=(((R.refl _ wc).alloc _).grown c3 (λk f _=>.inl f))
    have a2:ah c7 a 129 #[.bool false,.slice ab M ac,.slice none 0 0]:=(ad.o.nd.alloc _).grown c3 (λe=>aI r ad.o.nd (by decide) a e.symm rfl)
    have H:Jq F w false b2 (.slice B N x) (.slice B' L y) a (na.cells++[⟨key,[],0,0⟩]) [] dp (.slice none 0 0) (c7.setCell ⟨a,1,none⟩ dp):=by
     refine ad.o.turn (ch.setCell (p:=⟨a,1,none⟩) (λ_=>.inr rfl) dp) (a2.aK 1 dp) ⟨rows++[[.slice ck U cl,.slice none 0 0,.int .i64 0,.int .i64 0]],by simp[al],?_,?_⟩ ⟨rfl,.inl ⟨rfl,rfl⟩⟩
     ·have cX:=((R.refl (λk=>k=a) c7).setCell (p:=⟨a,1,none⟩) (λ_=>rfl) dp).row am (aI am a2 (by decide));rw[aq,<-bj.o];simpa using cX
     ·intro q vs d5 b5 ds;rcases Nat.lt_trichotomy q rows.length with Y|Y|Y
      ·rw[bM Y]at b5;rw[bM (by omega)]at ds;exact a5 q vs d5 b5 ds
      ·subst Y;rw[getElem?_append_right (aa _)]at b5;rw[al,getElem?_append_right (aa _)]at ds;simp at b5 ds;subst b5;subst ds;refine⟨ck,cl,none,0,by rw[dc.o];rfl,eI,aa _,?_,Rd.none_⟩;exact(f.o.xM (Ev.ag ad.o.dX))
      ·rw[getElem?_append_right (by omega)]at b5;have:q-rows.length=(q-rows.length-1)+1:=by omega
       rw[this]at b5;simp at b5
    obtain⟨cY,c0,rfl⟩:=aE am
    have eN:=bl.o.cell 2
    have bs:ah (c7.setCell ⟨a,1,none⟩ (.slice cY (M+1) c0)) w.heap.size 129 #[.bool false,.slice A M c,.slice b1 K d]:=(ch.setCell (p:=⟨a,1,none⟩) (λ_=>.inr rfl) _).blk bl.o (λdt=>dt.elim (λe=>aI r bl.o (by decide) _ e rfl) (λe=>by have:=ad.o.LU;omega))
    have m1:=a2.cell 1
    have g1:=a2.frozen 1
    replace am:=J am
    replace c3:=J c3
    replace eg:=J eg
    replace ch:=J ch
    replace a2:=J a2
    replace al:=J al
    replace r:=J r
    replace a5:=J a5
    replace dl:=J dl
    replace H:=J H
    replace bs:=J bs
    clear eN
    go_upto_region 3 with(fail)
    go_wp2_with(at_builtin;refine Lib.wpList_append_run _ rfl (.tmp 18) (.tmp 21) 127 127 rfl _ _ rfl rfl _ _ bp ?_)
    obtain⟨l,du⟩:=I (c7.setCell ⟨a,1,none⟩ (.slice cY (M+1) c0))
    rw[<-du]at H bs⊢
    have D:=H.o.dX
    have t0:=bs.o.cell 2
    have fi:=H.o.bb.cell 2
    have f3:=H.o.nd.cell 2
    have t3:=H.o.nd.frozen 2
    have eQ:Hid (∀E,Below l.heap.size l E->Calls Tryz.prog 165 #[.slice b1 K d] E (wu E E.heap.size 3 1 K (na.kids.map encI))):=J λE a1=>sA E b1 K d (na.kids.map encI) ((be.o.below (D.trans (a1.mono D.size))).more (aO D.size a1.size)) (o6 _) (by omega)
    have ci:Hid (∀z X cz cA v11 eo,Below l.heap.size l z->z.ownsRow eo 3 1 (.slice cA K cz) K (na.kids.map encI)->l.heap.size<=eo->z.grownBy X (Value.slice cA K cz).ownBlock->X.ownsRow w.heap.size 3 1 v11 (K+L) (na.kids.map encI++nb.kids.map encI)->
     ah X a 129 #[.bool false,.slice cY (M+1) c0,.slice none 0 0]/\Jq F w false b2 (.slice B N x) (.slice B' L y) a (na.cells++[⟨key,[],0,0⟩]) (na.kids++nb.kids) (.slice cY (M+1) c0) v11 (X.setCell ⟨a,2,none⟩ v11)):=J (by
     intro z X cz cA v11 eo ae Q fy an ao;have bx:R (λk=>(Value.slice cY (M+1) c0).ownBlock=some k\/k=a) l X:=(R.ag ae).grown an λk f eR=>by have:=(dw Q f).1;omega
     have dv:=H.o.nd.below ae H.o.nd.lt;have c1:ah X a 129 #[.bool false,.slice cY (M+1) c0,.slice none 0 0]:=dv.grown an λe=>aI Q dv (by decide) a e.symm rfl;obtain⟨rows,ce,b4,fj⟩:=H.o.rows;have e0:R (λk=>k=a) l X:=(R.ag ae).grown an λk f eR=>by have:=(dw Q f).1;omega
     have dy:R (λk=>k=a) l (X.setCell ⟨a,2,none⟩ v11):=e0.setCell (p:=⟨a,2,none⟩) (λ_=>rfl) v11;refine⟨c1,H.o.turn (dy.mono λk _ e=>.inr e) (c1.aK 2 v11) ⟨rows,ce,dy.row b4 (aI b4 H.o.nd (by decide)),fj⟩ ?_⟩;have cX:=((R.refl (λk=>k=a) X).setCell (p:=⟨a,2,none⟩) (λ_=>rfl) v11).row ao (aI ao c1 (by decide));rw[map_append,aq,<-cM.o,<-cP.o];exact cX)
    have ep:Hid (∀z,Below l.heap.size l z->Reads z z.heap.size 1 B' L (nb.kids.map encI)):=J λz a1=>(bi.o.below (D.trans (a1.mono D.size))).more (aO D.size a1.size)
    have dT:Hid (w.heap.size<=l.heap.size):=J D.size
    have d0:=o6 nb.kids
    replace d0:Hid _:=J d0
    replace D:=J D
    replace du:=J du
    clear ei ek el em ff fg en fh m1 g1 bp
    have eq:Hid (∀E,Below l.heap.size l E->(E.cell? ⟨w.heap.size,2,none⟩=some (.slice b1 K d)/\E.cell? ⟨w.heap.size+1,2,none⟩=some (.slice B' L y))):=J λE a1=>⟨(a1.cell (p:=⟨w.heap.size,2,none⟩) bs.o.lt).trans t0,(a1.cell (p:=⟨w.heap.size+1,2,none⟩) H.o.bb.lt).trans fi⟩
    go_region_law(first
     |(refine Lib.wp_append_run _ (.tmp 26) (.tmp 28) 113 113 rfl _ _ rfl rfl _ _ cj.o ?_)
     |(go_simp;go_at_call 165;refine(eQ.o _ (by with_reducible first|exact(Below.refl _ l).drew|exact Below.refl _ l)).mono ?_;rintro e z ⟨v10,rfl,Q,ae⟩;(have af:Below l.heap.size l z:=by first|exact ae|exact(Below.refl _ l).drew.trans ae);(obtain⟨cA,cz,rfl,fk⟩:=iO Q);(have fl:=af.size);(obtain⟨v11,X,cj,ao,an,d1⟩:=oV z w.heap.size _ K (na.kids.map encI) (dQ Q (by first|exact dT.o|(have:=dT.o;simp<;>omega))) z.heap.size B' L y (nb.kids.map encI) (ep.o z af) d0.o 113 (by omega) (by have:=dT.o;omega));(have db:=ci.o z X cz cA v11 _ af Q (by simp) an ao);(obtain⟨e1,e2,rfl⟩:=aE ao);have e3:=J db.2;have f4:=db.1.cell 2;have f5:=db.1.frozen 2;clear db;(have b6:=eq.o z af);obtain⟨fz,fA⟩:=b6;replace Q:=J Q;replace ae:=J ae;replace af:=J af;replace ao:=J ao;replace an:=J an;replace d1:=J d1;replace cj:=J cj))
    all_goals
     go_wp2_with fail
     go_meet
     exact⟨cY,e1,M+1,K+L,c0,e2,J ⟨by unfold aU;rw[<-Z.o];simp;rw[bj.o,cc.o];omega,by unfold aU;rw[<-Z.o];simp;rw[cM.o,cP.o],by simpa using e3.o⟩⟩
  case rest=>
   obtain⟨cS,cf,C,bm,cV,cg,b⟩:=hcut;obtain⟨c4,c5,b⟩:=b.o;obtain⟨cs,b8⟩:=I (na.cells++(if s=true then[]else[⟨key,[],0,0⟩]));obtain⟨e4,cB⟩:=I ((if s=true then[]else na.kids++nb.kids));rw[<-b8,<-cB]at b;have bA:(aU na key nb).cells=cs++nb.cells:=by unfold aU;rw[b8,Z.o]
   have cD:(aU na key nb).kids=e4:=by unfold aU;rw[cB,Z.o]
   have c6:(aU na key nb).leaf=s:=by rw[Z.o];rfl
   have cE:C=cs.length:=by rw[c4,bA,aq,<-cc.o];omega
   have cH:bm=e4.length:=by rw[c5,cD]
   obtain⟨rows,al,r,a5⟩:=b.rows;have bB:=b.kids;rw[<-cE]at r;rw[<-cH]at bB;have fm:cs.length<=40001:=by rw[b8,aq,<-bj.o];split<;>simp<;>omega
   obtain⟨v9,l,bp,bx,cK,d2⟩:=wE wc w.heap.size (.slice cS C cV) C rows.flatten r wc.heap.size B N x c2.flatten ((cx.o.below b.dX).more b.dX.size) da.o 127 (by omega) b.dX.size;have T:ah l a 129 #[.bool s,.slice cS C cV,.slice cf bm cg]:=b.nd.grown cK (λe=>aI r b.nd (by decide) a e.symm rfl);have am:R (λk=>(Value.slice cS C cV).ownBlock=some k\/k=a) wc l:=(R.refl _ wc).grown cK (λk f _=>.inl f);obtain⟨O,P,rfl⟩:=aE bx;have a6:R (λk=>(Value.slice cS C cV).ownBlock=some k\/k=a) wc (l.setCell ⟨a,1,none⟩ (.slice O (C+N) P)):=am.setCell (p:=⟨a,1,none⟩) (λ_=>.inr rfl) _;have b0:=((R.refl (λk=>k=a) l).setCell (p:=⟨a,1,none⟩) (λ_=>rfl) (.slice O (C+N) P)).row bx (aI bx T (by decide));have b9:=a6.row bB (λk f dt=>dt.elim (λe=>mC bB r (by decide) k f e) (λe=>aI bB b.nd (by decide) k f e));have a3:=T.aK 1 (.slice O (C+N) P);have er:∀k,((Value.slice cS C cV).ownBlock=some k\/k=a)->w.heap.size<=k:=λk f=>f.elim (λe=>(dw r e).1) (λe=>by have:=b.LU;omega);have a7:Below w.heap.size w (l.setCell ⟨a,1,none⟩ (.slice O (C+N) P)):=b.dX.trans (a6.below er b.dX.size);have j:=a6.blk b.br (λdt=>dt.elim (λe=>aI r b.br (by decide) _ e rfl) (λe=>by have:=b.LU;omega));have ci:Hid (∀W,R (λk=>k=w.heap.size+1+1) (l.setCell ⟨a,1,none⟩ (.slice O (C+N) P)) W->rK F w (aU na key nb) (.returned (.agg #[.bool s,.slice O (C+N) P,.slice cf bm cg])) W):=J (by
    intro W d3;have e5:∀k t cs,k=w.heap.size+1+1->ah (l.setCell ⟨a,1,none⟩ (.slice O (C+N) P)) k t cs->t=129:=λk t cs f a8=>by subst f;have cX:=a8.symm.trans j;injection cX with cX;injection cX
    have b5:(aU na key nb).cells.length=C+N:=by rw[bA,aq,cE,cc.o]
    refine⟨_,_,by rw[c6],⟨⟨rows++c2,by rw[bA,aq,aq,al,cp.o],?_,?_⟩,?_,λk f es=>?_,λk f es=>?_⟩,a7.trans (d3.below (λk f=>by omega) a7.size)⟩
    ·rw[b5,flatten_append];exact d3.row b0 (λk f e=>aI b0 j (by decide) k f e)
    ·rw[bA];intro q vs d5 ce b4;have e6:Ev F w F W:=Ev.ag (a7.trans (d3.below (λk f=>by omega) a7.size));rcases aA q rows.length with Y|Y
     ·rw[bM Y]at ce;rw[bM (by omega)]at b4;exact((a5 q vs d5 ce b4).iZ a6 λk cs f a8=>f.elim (λe=>au r a8 (by decide) e) (λe=>by subst e;exact ah.iH a8 b.nd (by decide) rfl)).iZ d3 λk cs f a8=>by have:=e5 k _ cs f a8;exact absurd this (by decide)
     ·rw[getElem?_append_right Y]at ce;rw[getElem?_append_right (by omega),<-al]at b4;exact cN.Nd (ct.o (q-rows.length) vs d5 ce b4) e6
    ·rw[cD,<-cH];exact d3.row b9 (λk f e=>aI b9 j (by decide) k f e)
    ·have:=hF.o k es;have:=(dw b0 f).1;omega
    ·have:=hF.o k es;have:=(dw b9 f).1;omega)
   have ek:=b.nd.cell 0;have el:=b.nd.cell 1;have em:=b.nd.cell 2;have en:=b.bb.cell 1;have fn:=T.cell 0;have fp:=T.cell 1;have fr:=T.cell 2;have fs:=T.frozen 1;have i0:=a3.cell 0;have ft:=a3.cell 1;have fv:=a3.cell 2;have eK:=j.cell 0;have r1:=j.cell 1;have r2:=j.cell 2;have r3:=j.frozen 0;have r4:=j.frozen 1;have r5:=j.frozen 2;have fX:=b.LU;obtain⟨e7,cL⟩:=I (l.setCell ⟨a,1,none⟩ (.slice O (C+N) P));rw[<-cL]at ci a6 b0 b9 a3 a7 j i0 ft fv eK r1 r2 r3 r4 r5;have d6:=J (ci.o _ (kK (R.refl (λk=>k=w.heap.size+1+1) e7) rfl (.bool s) (.slice O (C+N) P) (.slice cf bm cg)));have ca:=J (fZ.own ⟨_,_,_,j⟩ (.bool s) (.slice O (C+N) P) (.slice cf bm cg));refine aR ?_ cL b al r a5 bB bx cK d2 T am a6 b0;clear cL b al r a5 bB bx cK d2 T am a6 b0;intro cL b al r a5 bB bx cK d2 T am a6 b0;replace b9:=J b9;replace a3:=J a3;replace er:Hid _:=J er;refine gI ?_ a7 j c4 c5 b8 cB bA cD c6 cE cH;clear a7 j c4 c5 b8 cB bA cD c6 cE cH;intro a7 j c4 c5 b8 cB bA cD c6 cE cH;go_upto_region 6 with(first|(at_builtin;refine Lib.wpList_append_run _ rfl (.tmp 32) (.tmp 34) 127 127 rfl _ _ rfl rfl _ _ bp ?_))
   rw[<-cL.o];clear bp ek el em en fn fp fr fs;go_wp2_with fail;refine bodyPost_ret (v:=.agg #[.bool s,.slice O (C+N) P,.slice cf bm cg]) ?_ rfl d6.o;have ca:=ca.o;obtain⟨et,e8⟩:=I (((e7.setCell ⟨w.heap.size+1+1,0,none⟩ (.bool s)).setCell ⟨w.heap.size+1+1,1,none⟩ (.slice O (C+N) P)).setCell ⟨w.heap.size+1+1,2,none⟩ (.slice cf bm cg));rw[<-e8]at ca⊢;have eJ:et.cell? ⟨w.heap.size+1+1,0,none⟩=some (.bool s):=ca.cell 0;have ce:et.cell? ⟨w.heap.size+1+1,1,none⟩=some (.slice O (C+N) P):=ca.cell 1;have b4:et.cell? ⟨w.heap.size+1+1,2,none⟩=some (.slice cf bm cg):=ca.cell 2;simp[results,Tryz.results162,go_sem,eJ,ce,b4]
theorem jo(w:World)(ty:TypeId)(g off b f:Nat)(i:Addr)(d k:Nat)(a:Array Value)(cs:List Value)(s:w.heap[g]?=some (.cells a 3 (0,0)))(t:cs.length=(Nat.min d b))(l:∀j v,cs[j]?=some v->w.cell? (i.add j)=some v) (o:off+cs.length<=a.size) (u:∀v∈cs,v.oneCell'=true):(Builtin.copy_ #[113,113] ty #[.slice (some ⟨g,off,none⟩) b f,.slice (some i) d k]).run Tryz.prog w=.ok (goInt (Nat.min d b)) (w.setRow g (a.toList.take off++(cs++a.toList.drop (off+cs.length))).toArray):=by obtain⟨i0,p,x,q,y⟩:=info_parts lj;have r:=run_loadCells_list (P:=Tryz.prog) w i cs l;have e:=run_storeCells_at Tryz.prog g off 3 cs 0 a w s (by simpa using o) u;simp only[Nat.add_zero]at e;rw[t]at r;simp[Builtin.copy_,run_underlying Tryz.underlying113,Builtin.lenOf,Builtin.firstCells,sizeOf,typeInfo,p,q,r,e,append_assoc]
def gY(xs:List Value)(i:Nat)(vs:List Value):List Value:=xs.take (i)++(vs++xs.drop (i))
def ng(w:World)(base:Nat)(row:Option Nat)(n:Nat)(b:List Value)(e:Ending)(w':World):Prop:=∃a,e=.returned a/\w'.ownsRow base 3 1 a (n+1) b/\w.grownBy w' row/\(∀k,a.ownBlock=some k->row=some k\/w.heap.size<=k)
theorem AK(T xs vs:List Value)(n i:Nat)(b:T.take (n)=xs)(j:(n+1)<=T.length)(k:i<n)(d:vs.length=1):(((T.take ((i+1))++(xs.drop (i)++T.drop ((i+1)+(xs.drop (i)).length))).take (i)++(vs++(T.take ((i+1))++(xs.drop (i)++T.drop ((i+1)+(xs.drop (i)).length))).drop (i+1)))).take ((n+1))=xs.take (i)++(vs++xs.drop (i)):=by
 have a:xs.length=n:=by rw[<-b,aH];omega
 have e:(T.take ((i+1))++(xs.drop (i)++T.drop ((i+1)+(xs.drop (i)).length))).take (i)=xs.take (i):=by rw[take_append_of_le_length (by rw[aH];omega),take_take,Nat.min_eq_left (by omega),<-b,take_take,Nat.min_eq_left (by omega)]
 have f:(T.take ((i+1))++(xs.drop (i)++T.drop ((i+1)+(xs.drop (i)).length))).drop (i+1)=xs.drop (i)++T.drop ((i+1)+(xs.drop (i)).length):=by exact drop_left' (by rw[aH];omega)
 rw[e,f,<-av,<-av,av (xs.take (i)) vs];rw[take_append_of_le_length (by simp only[aq,aH,aQ,d,a];omega)];exact bQ (by simp only[aq,aH,aQ,d,a];omega)
theorem FY(w:World)(base:Nat)(v:Value)(n:Nat)(xs:List Value)(a:w.ownsRow base 3 1 v n xs)(g:Nat)(i:Value)(s:∀u∈[i],u.oneCell'=true)(f:ah w g 3 #[i]) (E:n<=100000) (l:base<=w.heap.size):Calls Tryz.prog 106 #[v,.int .i64 (n:Int),.slice (some ⟨g,0,none⟩) 1 1] w (ng w base v.ownBlock n (xs++[i])):=by
 obtain⟨t,w',r,p,d,e⟩:=oV w base v n xs a w.heap.size (some ⟨g,0,none⟩) 1 1 [i] ⟨rfl,λ_=>⟨_,rfl,f.lt,λj u y=>by rw[Addr.add_lit,Nat.zero_add,f.cell];simpa using y⟩⟩ s 113 (by omega) l
 have x:∃A c,v=.slice A n c/\n<=c:=by
  rcases a.2 with⟨rfl,rfl⟩|⟨g,cap,C,rfl,_,_,d,_⟩
  ·exact⟨none,0,rfl,aa _⟩
  ·exact⟨_,_,rfl,d⟩
 obtain⟨A,c,rfl,H⟩:=x;have D:(n:Int)<=(c:Int):=by omega
 obtain⟨row,b⟩:=I ((Value.slice A n c).ownBlock);rw[<-b]at d e⊢;have z:Hid (∀k,t.ownBlock=some k->row=some k\/w.heap.size<=k):=J (λk q=>by
  rcases e with e|e
  ·exact .inl (e.symm.trans q)
  ·rw[e]at q;injection q with q;exact .inr (by omega))
 clear e;refine bX ?_ b a f p d;clear b a f p d;intro b a f p d;clear s;go_enter Tryz.func106,Tryz.ntmps106;go_wp2_with(at_builtin;refine Lib.wpList_append_run _ rfl (.tmp 23) (.tmp 24) 113 113 rfl _ _ rfl rfl _ _ r ?_);all_goals
  go_ret;exact⟨t,rfl,p.o,d.o,z.o⟩
theorem DM(w:World)(base g0 cap:Nat)(n i:Nat)(xs:List Value)(b:Array Value)(af:base<=g0)(l:w.heap[g0]?=some (.cells b 3 (0,0)))(H:b.size=cap)(Q:xs.length=n)(K:b.toList.take (n)=xs)(a2:i<n)(X:n+1<=cap)(al:cap<=maxLen)(g:Nat) (Z:g≠g0) (z:Value) (am:∀u∈[z],u.oneCell'=true) (ab:∀u∈xs,u.oneCell'=true) (M:ah w g 3 #[z]) (bs:n<=100000):Calls Tryz.prog 106 #[.slice (some ⟨g0,0,none⟩) n cap,.int .i64 (i:Int),.slice (some ⟨g,0,none⟩) 1 1] w (ng w base (some g0) n (gY xs i [z])):=by
 have a3:((i:Int)==(n:Int))=false:=by rw[aZ];omega
 have a7:(i:Int)<=(n:Int):=by omega
 have a8:(n:Int)<=(cap:Int):=by omega
 have a9:(n:Int)+1<=(cap:Int):=by omega
 have ba:(n:Int)<=100000:=by omega
 obtain⟨a,T⟩:=I (n+1);have bb:(n:Int)+1=(a:Int):=by omega
 have bc:(a:Int)<=(cap:Int):=by omega
 have bd:decide ((cap:Int)<(a:Int))=false:=by rw[decide_eq_false_iff_not];omega
 have be:IntKind.i64.wrap (a:Int)=(a:Int):=IntWalk.i64_in _ (by omega);have bi:(i:Int)<=(a:Int):=by omega
 obtain⟨d,Y⟩:=I (i+1);have bj:(i:Int)+1=(d:Int):=by omega
 have bl:IntKind.i64.wrap (d:Int)=(d:Int):=IntWalk.i64_in _ (by omega);have bm:(d:Int)<=(a:Int):=by omega
 have an:(callFunc 160 #[.slice (some ⟨g,0,none⟩) 1 1,.slice (some ⟨g0,d,none⟩) (a-d) (cap-d)]).run Tryz.prog w=.ok (.value (.bool false)) w:=by
  rw[run_callFunc_extern (P:=Tryz.prog) (f:=160) Tryz.func160 (by kernel_rfl) (by kernel_rfl) (by kernel_rfl) (e:=Extern.SlicesOverlaps.overlaps #[113,113] #[1]) (by kernel_rfl),
   Lib.run_overlaps_apart w 113 1 3 Tryz.underlying113 1 Tryz.sizeOf3 ⟨g,0,none⟩ ⟨g0,d,none⟩ 1 1 (a-d) (cap-d) Z 3 3 1 b.size (by unfold ah at M;simp[World.shape?,M]) (by simp[World.shape?,l]) (by omega) (M.frozen 0) (M.frozen 1)]
  rfl
 have r:(xs.drop (i)).length=(n-i):=by rw[aQ,Q]
 have s:Nat.min (a-i) (a-d)=n-i:=by show min (a-i) (a-d)=n-i;omega
 obtain⟨p,x⟩:=I ((b.toList.take (d)++(xs.drop (i)++b.toList.drop (d+(xs.drop (i)).length))).toArray);have C:=jo w.drew 3 g0 (d) (a-d) (cap-d) ⟨g0,i,none⟩ (a-i) (cap-i) b (xs.drop (i)) l (by rw[s,r]) (λj v V=>by rw[Addr.add_lit];have a4:w.cell? ⟨g0,i+j,none⟩=b[i+j]?:=(show ah w g0 3 b from l).cell _;have a5:w.drew.cell? ⟨g0,i+j,none⟩=w.cell? ⟨g0,i+j,none⟩:=rfl;rw[a5,a4];have ao:=(ay.1 V).1;rw[getElem?_drop,<-K,bw,if_pos (by rw[r]at ao;omega)]at V;simpa using V) (by rw[r,H];omega) (λv a6=>ab v (mem_of_mem_drop a6))
 rw[<-x,s]at C;have t:p.size=cap:=by rw[x];simp[r,H]<;>omega
 have O:ah (w.drew.setRow g0 p) g0 3 p:=setRow_heap w.drew g0 b p 3 (0,0) l;have D:ah (w.drew.setRow g0 p) g 3 #[z]:=(setRow_other w.drew g0 g p Z).trans M;have q:Nat.min 1 (a-i)=1:=by show min 1 (a-i)=1;omega
 obtain⟨W,y⟩:=I ((p.toList.take (i)++([z]++p.toList.drop (i+[z].length))).toArray);have E:=jo (w.drew.setRow g0 p) 3 g0 (i) (a-i) (cap-i) ⟨g,0,none⟩ 1 1 p [z] O (by rw[q];rfl) (λj v V=>by rw[Addr.add_lit,Nat.zero_add,D.cell];simpa using V) (by rw[t];simp;omega) am
 rw[<-y,q]at E;have ad:Hid (ng w base (some g0) n (gY xs i [z]) (.returned (.slice (some ⟨g0,0,none⟩) a cap)) ((w.drew.setRow g0 p).setRow g0 W)):=J (by
  have ae:W.size=cap:=by rw[y];simp[t]<;>omega
  have ap:=AK b.toList xs [z] n i K (by simp[H]<;>omega) a2 rfl;refine⟨_,rfl,?_,⟨rfl,rfl,rfl,by simp[World.setRow],λk a0 a1=>?_⟩,λk a0=>.inl a0⟩
  ·rw[T];simp only[World.ownsRow,Nat.mul_one];refine⟨?_,.inr ⟨g0,cap,W,rfl,af,setRow_heap (w.drew.setRow g0 p) g0 p W 3 (0,0) O,X,al,ae,?_⟩⟩
   ·unfold gY;simp[r,Q]<;>omega
   ·rw[y,x,Y];exact ap
  ·have ac:k≠g0:=λe=>a1 (by rw[e]);rw[setRow_other (w.drew.setRow g0 p) g0 k W ac,setRow_other w.drew g0 k p ac];rfl)
 have bp:¬cap=d:=by omega
 have br:¬cap=i:=by omega
 clear am ab;replace C:Hid _:=J C;replace E:Hid _:=J E;refine aR ?_ O D x y t s q r T Y l M K;clear O D x y t s q r T Y l M K;intro O D x y t s q r T Y l M K;replace H:=J H;replace Q:=J Q;go_enter Tryz.func106,Tryz.ntmps106;go_wp2_with(simp only[an]);go_region_law(refine wp_copy_runI _ (.tmp 73) (.tmp 76) 113 113 rfl (.slice (some ⟨g0,d,none⟩) (a-d) (cap-d)) (.slice (some ⟨g0,i,none⟩) (a-i) (cap-i)) (by simp[Act.eval,Act.put]) (by simp[Act.eval,Act.put]) C.o ?_)
 go_wp2;rw[E.o];go_wp2;all_goals
  go_ret;exact ad.o
theorem yw(a xs vs:List Value)(n i:Nat)(e:a.take (i)=xs.take (i))(j:(n+1)<=a.length)(b:xs.length=n)(k:i<n)(d:vs.length=1):(((a.take (i)++(vs++a.drop (i+vs.length))).take ((i+1)))++(xs.drop (i)++(a.take (i)++(vs++a.drop (i+vs.length))).drop ((i+1)+(xs.drop (i)).length))).take ((n+1))=xs.take (i)++(vs++xs.drop (i)):=by
 have f:(a.take (i)++(vs++a.drop (i+vs.length))).take ((i+1))=xs.take (i)++vs:=by rw[<-av,e];exact take_left' (by rw[aq,aH,b,d];omega)
 rw[f,<-av (xs.take (i)) vs (xs.drop (i)),<-av (xs.take (i)++vs) (xs.drop (i))];exact take_left' (by simp only[aq,aH,aQ,d,b];omega)
theorem DN(w:World)(base g0:Nat)(n i:Nat)(xs:List Value)(Q:Array Value)(bp:base<=w.heap.size)(b:w.heap[g0]?=some (.cells Q 3 (0,0)))(p:xs.length=n)(ad:Q.toList.take (n)=xs)(bs:i<n)(g:Nat) (X:Value) (bi:∀u∈[X],u.oneCell'=true) (a3:∀u∈xs,u.oneCell'=true) (al:ah w g 3 #[X]) (cn:n<=100000):Calls Tryz.prog 106 #[.slice (some ⟨g0,0,none⟩) n n,.int .i64 (i:Int),.slice (some ⟨g,0,none⟩) 1 1] w (ng w base (some g0) n (gY xs i [X])):=by
 obtain⟨i0,a4,a5,a6,am⟩:=info_parts lj;have bv:((i:Int)==(n:Int))=false:=by rw[aZ];omega
 have b3:(i:Int)<=(n:Int):=by omega
 have b4:(n:Int)<=100000:=by omega
 have br:g0<w.heap.size:=by
  rcases aA g0 w.heap.size with h|h
  ·exact h
  ·rw[Array.getElem?_eq_none h]at b;cases b
 have bx:g<w.heap.size:=al.lt;obtain⟨a,ae⟩:=I (n+1);have b5:(n:Int)+1=(a:Int):=by omega
 have b6:decide ((n:Int)<(a:Int))=true:=by rw[decide_eq_true_iff];omega
 have bA:decide (n<a)=true:=by rw[decide_eq_true_iff];omega
 have b7:IntKind.i64.wrap (a:Int)=(a:Int):=IntWalk.i64_in _ (by omega);have b8:(i:Int)<=(a:Int):=by omega
 obtain⟨z,a1⟩:=I (i+1);have b9:(i:Int)+1=(z:Int):=by omega
 have ca:IntKind.i64.wrap (z:Int)=(z:Int):=IntWalk.i64_in _ (by omega);have cb:(z:Int)<=(a:Int):=by omega
 obtain⟨M,a9⟩:=I (n+1-i);have cc:(a:Int)-(i:Int)=(M:Int):=by omega
 have ce:IntKind.i64.wrap (M:Int)=(M:Int):=IntWalk.i64_in _ (by omega);obtain⟨G,af⟩:=I (grownCap w a n 3);have cf:a<=G:=by rw[af];exact grownCap_ge w _ _ _
 have cg:(a:Int)<=(G:Int):=by omega
 have a7:G<=maxLen:=by rw[af];exact grownCap_le_maxLen w a n 3 (by unfold maxLen;omega)
 have bB:(G:Int)<=9223372036854775807:=by unfold maxLen at a7;omega
 obtain⟨B,an⟩:=I (w.heap.size);obtain⟨d,s⟩:∃d:Array Value,d=(xs.take (i)).toArray++Builtin.zeroCells (Value.int .i64 0).cells M++Builtin.zeroCells (Value.int .i64 0).cells (G-a):=⟨_,rfl⟩;have T:d.size=G:=by rw[s];simp only[Array.size_append,size_toArray,aH,size_zeroCells,p];have b0:(Value.int .i64 0).cells.size=1:=rfl;rw[b0];omega
 obtain⟨K,f⟩:=I (w.drew.alloc (.cells d 3));have C:∀j v,xs[j]?=some v->w.cell? ⟨g0,j,none⟩=some v:=λj v t=>by rw[(show ah w g0 3 Q from b).cell];have ch:=(ay.1 t).1;rw[<-ad,bw,if_pos (by omega)]at t;simpa using t
 have ao:(Builtin.firstCells i0.size i (.slice (some ⟨g0,0,none⟩) i n)).run Tryz.prog w.drew=.ok (xs.take (i)).toArray w.drew:=by
  rw[a6];exact run_firstCells_some w.drew 1 i ⟨g0,0,none⟩ i n (xs.take (i)) (by rw[aH,p];omega) (λj v t=>by
   rw[Addr.add_lit];rw[bw]at t;split at t
   ·simpa using C j v t
   ·cases t)
 have bj:∀ty,(Builtin.append_ #[113,3] ty #[.slice (some ⟨g0,0,none⟩) i n,.int .i64 (M:Int)]).run Tryz.prog w=.ok (.slice (some ⟨B,0,none⟩) a G) K:=λty=>by
  have h:=Lib.run_append_grow_zeros w 113 3 ty 3 i0 _ .i64 .i64 Tryz.underlying113 Tryz.underlying3 a4 a5 (some ⟨g0,0,none⟩) i n (xs.take (i)) ao M (by omega) (by omega) (by omega) (by omega) (by rw[am];omega) (by rw[am];exact growslice_fits (by omega) (by omega));have e:i+M=a:=by omega
  rw[e,<-af,<-s,<-f,<-an]at h;exact h
 have ab:ah K B 3 d:=by rw[f,an];exact heap_alloc_new w.drew _
 have ap:∀k ba,w.heap[k]?=some ba->K.heap[k]?=some ba:=λk ba h=>by
  have a2:k<w.heap.size:=by
   rcases aA k w.heap.size with bb|bb
   ·exact bb
   ·rw[Array.getElem?_eq_none bb]at h;cases h
  rw[f];exact(Below.heap_alloc w.drew _ k a2).trans h
 have Y:ah K g 3 #[X]:=ap g _ al;have x:ah K g0 3 Q:=ap g0 _ b;have ci:g≠B:=by omega
 have bc:g0≠B:=by omega
 have q:Nat.min 1 (a-i)=1:=by show min 1 (a-i)=1;omega
 obtain⟨O,V⟩:=I ((d.toList.take (i)++([X]++d.toList.drop (i+[X].length))).toArray);have D:=jo K 3 B (i) (a-i) (G-i) ⟨g,0,none⟩ 1 1 d [X] ab (by rw[q];rfl) (λj v t=>by rw[Addr.add_lit,Nat.zero_add,Y.cell];simpa using t) (by rw[T];simp;omega) bi
 rw[<-V,q]at D;have E:O.size=G:=by rw[V];simp[T]<;>omega
 obtain⟨P,l⟩:=I (K.setRow B O);rw[<-l]at D;have ac:ah P B 3 O:=by rw[l];exact setRow_heap K B d O 3 (0,0) ab
 have y:ah P g0 3 Q:=by rw[l];exact(setRow_other K B g0 O bc).trans x
 have H:(xs.drop (i)).length=(n-i):=by rw[aQ,p]
 have r:Nat.min (n-i) (a-z)=n-i:=by show min (n-i) (a-z)=n-i;omega
 obtain⟨a0,W⟩:=I ((O.toList.take (z)++(xs.drop (i)++O.toList.drop (z+(xs.drop (i)).length))).toArray);have Z:=jo P.drew 3 B (z) (a-z) (G-z) ⟨g0,i,none⟩ (n-i) (n-i) O (xs.drop (i)) ac (by rw[r,H]) (λj v t=>by rw[Addr.add_lit];have b1:P.drew.cell? ⟨g0,i+j,none⟩=P.cell? ⟨g0,i+j,none⟩:=rfl;rw[b1,y.cell,<-(show ah w g0 3 Q from b).cell];rw[getElem?_drop]at t;exact C _ _ t) (by rw[H,E];omega) (λv b2=>a3 v (mem_of_mem_drop b2))
 rw[<-W,r]at Z;have bd:Hid (ng w base (some g0) n (gY xs i [X]) (.returned (.slice (some ⟨B,0,none⟩) a G)) (P.drew.setRow B a0)):=J (by
  have be:a0.size=G:=by rw[W];simp[H,E]<;>omega
  have bl:d.toList.take (i)=xs.take (i):=by rw[s];simp only[Array.toList_append,av];exact take_left' (by rw[aH,p];omega)
  have bm:=yw d.toList xs [X] n i bl (by simp[T]<;>omega) p bs rfl;refine⟨_,rfl,?_,⟨by rw[l,f];rfl,by rw[l,f];rfl,by rw[l,f];rfl,by rw[l,f];simp[World.setRow],λk a2 cj=>?_⟩,λk a2=>by
   have co:B=k:=by injection a2
   exact .inr (by omega)⟩
  ·rw[ae];simp only[World.ownsRow,Nat.mul_one];refine⟨?_,.inr ⟨B,G,a0,rfl,by omega,setRow_heap P.drew B O a0 3 (0,0) ac,by omega,a7,be,?_⟩⟩
   ·unfold gY;simp[H,p]<;>omega
   ·rw[W,V,a1];exact bm
  ·have a8:k≠B:=by omega
   rw[setRow_other P.drew B k a0 a8,show P.drew.heap=P.heap from rfl,l,setRow_other K B k O a8,f];exact Below.heap_alloc w.drew _ k (show k<w.heap.size by omega))
 have ck:¬G=i:=by omega
 have cl:¬G=z:=by omega
 have cm:¬n=i:=by omega
 clear bi a3 ao C ap;replace D:Hid _:=J D;replace Z:Hid _:=J Z;refine aR ?_ ab ac Y x y V W E q r H ae a1;clear ab ac Y x y V W E q r H ae a1;intro ab ac Y x y V W E q r H ae a1;refine gI ?_ a9 af an f l s T b al ad p;clear a9 af an f l s T b al ad p;intro a9 af an f l s T b al ad p;clear a4 a5 a6 am;go_enter Tryz.func106,Tryz.ntmps106;go_wp2_with(at_builtin;refine Lib.wpList_append_run _ rfl _ _ _ _ rfl _ _ rfl rfl _ _ (bj _) ?_);rw[D.o];go_wp2;go_region_law(refine wp_copy_runI _ (.tmp 50) (.tmp 53) 113 113 rfl (.slice (some ⟨B,z,none⟩) (a-z) (G-z)) (.slice (some ⟨g0,i,none⟩) (n-i) (n-i)) (by simp[Act.eval,Act.put]) (by simp[Act.eval,Act.put]) Z.o ?_)
 go_wp2;all_goals
  go_ret;exact bd.o
theorem FZ(w:World)(base:Nat)(v:Value)(n i:Nat)(xs:List Value)(d:w.ownsRow base 3 1 v n xs)(H:i<=n)(f:base<=w.heap.size)(l:∀u∈xs,u.oneCell'=true)(g:Nat) (t:g<base\/v.ownBlock≠some g) (b:Value) (q:∀u∈[b],u.oneCell'=true) (r:ah w g 3 #[b]) (s:n<=100000):Calls Tryz.prog 106 #[v,.int .i64 (i:Int),.slice (some ⟨g,0,none⟩) 1 1] w (ng w base v.ownBlock n (gY xs i [b])):=by
 have j:=d.1;rw[Nat.mul_one]at j;by_cases x:i=n
 ·subst x;have h:=FY w base v i xs d g b q r s f;have e:gY xs i [b]=xs++[b]:=by unfold gY;rw[bQ (by omega),drop_of_length_le (by omega),append_nil]
  rw[e];exact h
 ·rcases d.2 with⟨rfl,rfl⟩|⟨g0,cap,o,rfl,y,z,E,C,p,a⟩
  ·simp at j;omega
  ·rw[Nat.mul_one]at p a;have D:g≠g0:=by
    rcases t with h|h
    ·omega
    ·intro e;exact h (by rw[e];rfl)
   by_cases k:n+1<=cap
   ·exact DM w base g0 cap n i xs o y z p j a (by omega) k C g D b q l r s
   ·obtain rfl:cap=n:=by omega
    exact DN w base g0 cap i xs o f z j a (by omega) g b q l r s
end Go.Proofs.YtajdeapdgbnahaaGreatDoor
