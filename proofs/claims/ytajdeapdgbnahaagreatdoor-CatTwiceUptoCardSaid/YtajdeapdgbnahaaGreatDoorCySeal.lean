/-
  Contract of page.Seal.
-/
import Derived.Test.YtajdeapdgbnahaaGreatDoorCyPage
import Derived.Laws.CopyOwn
import Derived.Great.Walk
import Derived.Shelf.Spec.SlicesInsert
namespace Go.Proofs.YtajdeapdgbnahaaGreatDoor
set_option linter.unusedVariables false
set_option maxRecDepth 100000
set_option maxHeartbeats 1000000
open Go.RowKit
open List Nat
def qW(no:Nat)(p:List UInt8):List UInt8:=p++leB 4 (oK (leB 4 no++p))
def Dc(w:World)(no:Nat)(b:List UInt8)(e:Ending)(w':World):Prop:=∃g,e=.returned (.tuple #[.slice (some ⟨g,0,none⟩) 512 512,.int .i64 0])/\ah w' g 306 (bv (qW no (b++bt (508-b.length)))).toArray/\Below w.heap.size w w'/\w.heap.size<=g
theorem Cm(ρ:Operand->Value)(w:World)(o:Oper)(a:o.op=.alloc 306):(execOp ρ o).run Tryz.prog w=.ok (.value (.pointer (some ⟨w.heap.size,0,none⟩))) (w.alloc (.cells (bv (bt 512)).toArray 306)):=by unfold execOp;simp only[a];kernel_rfl
theorem I0(w:World)(g:Nat):(Instr.sliceAt 306 (.pointer (some ⟨g,0,none⟩)) none (some (.int .i64 508)) none).run Tryz.prog w=.ok (.slice (some ⟨g,0,none⟩) 508 512) w:=by kernel_rfl
theorem I3(w:World)(g:Nat):(Instr.sliceAt 306 (.pointer (some ⟨g,0,none⟩)) (some (.int .i64 508)) none none).run Tryz.prog w=.ok (.slice (some ⟨g,508,none⟩) 4 4) w:=by kernel_rfl
theorem I4(w:World)(g:Nat):(Instr.sliceAt 306 (.pointer (some ⟨g,0,none⟩)) none none none).run Tryz.prog w=.ok (.slice (some ⟨g,0,none⟩) 512 512) w:=by kernel_rfl
theorem Ae{w:World}{g m:Nat}{t:TypeId}{l i:List UInt8}(h:w.heap[g]?=some (.cells (bv (l++i)).toArray t (0,0)))(d:l.length=m)(f:g<w.heap.size):RB w w.heap.size (some ⟨g,0,none⟩) m l:=by
 refine⟨by rw[dn,d,Nat.mul_one],λ_=>⟨_,rfl,f,λj u a=>?_⟩⟩;have e:(Addr.mk g 0 none).add j=⟨g,j,none⟩:=by
  unfold Addr.add;by_cases b:j=0
  ·subst b;rfl
  ·rw[if_neg b];simp
 rw[e,cell_of_row w g j _ t (0,0) h];have c:=(ay.1 a).1;rw[fM];simpa[bM c]using a
theorem Fe(b:List UInt8)(a:b.length<=508):splice (bv (bt 512)) 0 (bv b)=bv (b++bt (508-b.length)++bt 4):=by unfold splice bv bt;rw[take_zero,nil_append,Nat.zero_add,<-map_drop,<-map_append];simp only[length_map,drop_replicate,av,replicate_append_replicate];congr 3;omega
theorem Cn(p q z:List UInt8)(a:p.length=508)(b:q.length=4)(c:z.length=4):splice (bv (p++z)) 508 (bv q)=bv (p++q):=by unfold splice bv;rw[<-map_take,<-map_drop,take_left' a,drop_of_length_le (by simp;omega),map_nil,append_nil,<-map_append]
theorem IB(w:World)(no:Nat)(bl:no<16777216)(A:Option Addr)(n c:Nat)(b:List UInt8)(T:RB w w.heap.size A n b)(a9:n<=508):Calls Tryz.prog 193 #[.int .i64 (no:Int),.slice A n c] w (Dc w no b):=by
 have a:=T.len;obtain⟨P,S⟩:=I (b++bt (508-b.length));have U:P.length=508:=by rw[S,aq,ez];omega
 have s:=xR (w.alloc (.cells #[.int .i64 (no:Int)] 3)) (some ⟨w.heap.size,0,none⟩) 1 1 3 [no] (oG w no 3) (by omega) (by omega) (by omega) (by simp;omega);obtain⟨Z,V⟩:=I ((bv (bt 512)).toArray);have a4:Hid (∀(ρ:Operand->Value) (W:World) (o:Oper) (a5:o.op=.alloc 306),(execOp ρ o).run Tryz.prog W=.ok (.value (.pointer (some ⟨W.heap.size,0,none⟩))) (W.alloc (.cells Z 306))):=J λρ W o a5=>by rw[V];exact Cm ρ W o a5
 have bm:=I0;have bp:=I3;have ba:=I4;refine bX ?_ s T V S a;clear s T V S a;intro s T V S a;go_enter Tryz.func193,Tryz.ntmps193;go_wp2_with fail;refine s.o.mono ?_;rintro e bs ⟨rfl,bb⟩;subst bb;obtain⟨g,X⟩:=I (w.heap.size+1);obtain⟨af,B⟩:=I ((w.alloc (.cells #[.int .i64 (no:Int)] 3)).alloc (.cells Z 306));have a0:Hid (af.heap[g]?=some (.cells (bv (bt 512)).toArray 306 (0,0))):=by rw[B,X,V.o];have h:=heap_alloc_new (w.alloc (.cells #[.int .i64 (no:Int)] 3)) (.cells (bv (bt 512)).toArray 306);rw[World.size_alloc]at h;exact h
 have C:Below w.heap.size w af:=by rw[B];exact((Below.refl w.heap.size w).alloc (aa _) _).alloc (by simp) _
 have F:w.heap.size<=g:=by omega
 have t:RB af w.heap.size A n b:=T.o.below C;have H:(w.alloc (.cells #[.int .i64 (no:Int)] 3)).heap.size=g:=by rw[World.size_alloc,X]
 have br:(n:Int)<=508:=by omega
 refine bz ?_ C X H t;clear C X H t;intro C X H t;replace a:=a;obtain⟨bc,k⟩:=I (splice (bv (bt 512)) 0 (bv b));have x:=Fe b (by have:=a.o;omega);rw[<-k,<-S.o]at x;replace k:=J k;replace x:=J x;obtain⟨G,l⟩:=I (bv b);have m:G.length=n:=by rw[l,dn,a.o]
 have f:∀v∈G,v.oneCell'=true:=by rw[l];exact kU b
 have i:0<G.length->∃al,A=some al/\∀j v,G[j]?=some v->af.cell? (al.add j)=some v:=λa6=>by obtain⟨al,e,_,bd⟩:=t.o.2 (by omega);exact⟨al,e,λj v be=>bd j v (by rw[<-l];exact be)⟩
 have y:G.length=Nat.min n 508:=by rw[m];exact(Nat.min_eq_left a9).symm
 rw[<-l]at k;replace k:Hid (bc=splice (bv (bt 512)) 0 G):=k;refine bX ?_ l f i y m;clear l f i y m;intro l f i y m;go_upto_region 6 with(refine Go.Great.wpList_runTo rfl (some 6) rfl _ _ (a4.o _ _ _ rfl) ?_)
 rw[<-B,H.o];replace B:=J B;go_upto_region 7 with(refine wpList_copy_splice rfl (.tmp 16) (.tmp 17) 23 23 rfl 5 Tryz.underlying23 (by kernel_rfl) (some ⟨g,0,none⟩) A 508 512 n c rfl rfl g 0 (bv (bt 512)) 306 a0.o G y.o (λa6=>⟨rfl,i.o a6⟩) (by rw[m.o];simp[bv,bt];omega) f.o w.heap.size w C.o F ?_;intro p ao K;replace K:=J K;rw[<-k.o]at ao)
 have L:Hid (p.heap[g]?=some (.cells (bv (P++bt 4)).toArray 306 (0,0))):=by rw[<-x.o];exact ao
 have q:g<p.heap.size:=(Array.getElem?_eq_some_iff.1 L.o).1;have ap:=J (IX p.drew no (some ⟨g,0,none⟩) 508 512 P (by omega) (Ae (w:=p) L.o U q) (by omega));obtain⟨Q,Y⟩:=I (leB 4 (oK (leB 4 no++P)));have D:Q.length=4:=by rw[Y,bq]
 rw[<-Y]at ap;replace Y:=J Y;replace q:=J q;have ab:Hid (∀d:World,Below p.heap.size p d->Dc w no b (.returned (.tuple #[.slice (some ⟨g,0,none⟩) 512 512,.int .i64 0])) (d.setRow g (bv (P++Q)).toArray)):=J λd am=>by have E:Below w.heap.size w d:=K.o.trans (am.mono (K.o.size));have bi:d.heap[g]?=some (.cells (bv (P++bt 4)).toArray 306 (0,0)):=(am.block g q.o).trans L.o;refine⟨g,rfl,?_,below_setRow E F _,F⟩;have bj:=setRow_heap d g _ (bv (P++Q)).toArray 306 (0,0) bi;unfold qW;rw[<-S.o,<-Y.o];exact bj
 obtain⟨a7,M⟩:=I ((bv (P++Q)).toArray);have a1:Hid ((((bv (P++bt 4)).toArray.toList.take 508++bv Q++(bv (P++bt 4)).toArray.toList.drop (508+(bv Q).length)).toArray)=a7):=by have h:=Cn P Q (bt 4) U D (ez 4);unfold splice at h;rw[M,<-h,av];exact J rfl
 have an:Hid (508+(bv Q).length<=(bv (P++bt 4)).toArray.size):=by rw[dn,D];simp[bv,bt,U];exact J trivial
 rw[<-M]at ab;have a2:Hid (∀(d:World) (r:Addr) (ac:Nat),Below p.heap.size p d->(∀j u,(bv Q)[j]?=some u->d.cell? (r.add j)=some u)->(Builtin.copy_ #[23,23] 3 #[.slice (some ⟨g,508,none⟩) 4 4,.slice (some r) 4 ac]).run Tryz.prog d=.ok (goInt 4) (d.setRow g a7)):=J λd r ac am N=>by have a8:=(am.block g q.o).trans L.o;have ad:=run_copy_row (P:=Tryz.prog) d 23 23 3 5 g 508 4 4 r 4 ac _ 306 (bv Q) Tryz.underlying23 (by kernel_rfl) a8 (by rw[dn,D];rfl) N an.o (kU Q);rw[a1.o,dn,D]at ad;exact ad
 replace M:=J M
 go_region_with (go_at_call 195;refine ap.o.mono ?_;rintro e d ⟨v4,rfl,O,E⟩;rw[D]at O;(obtain⟨bx,ac,rfl,ae,hA4,_,_⟩:=O.form);(obtain⟨r,rfl,_,N⟩:=ae.2 (by omega));have z:Below p.heap.size p d:=(Below.refl _ p).drew.trans E;have ad:=a2.o d r ac z N;have a3:=J (ab.o d z);replace z:=J z;replace O:=J O;replace E:=J E;replace ae:=J ae;clear N)
 all_goals
  go_wp2_with fail
  go_ret2
  exact a3.o
end Go.Proofs.YtajdeapdgbnahaaGreatDoor
