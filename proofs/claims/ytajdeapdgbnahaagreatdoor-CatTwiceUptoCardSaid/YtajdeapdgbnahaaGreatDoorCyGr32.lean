/-
  Contract of vfs.put: bytes go into the slots; what the slots hold is left open.
-/
import Derived.Test.YtajdeapdgbnahaaGreatDoorCyGr31
import Derived.Laws.CopyOwn
namespace Go.Proofs.YtajdeapdgbnahaaGreatDoor
set_option linter.unusedVariables false
set_option maxRecDepth 100000
set_option maxHeartbeats 2000000
open Go.RowKit Go.Maps
open List Nat
theorem xk(w:World)(b o a:Nat)(g:a<64):(Instr.sliceAt 219 (.pointer (some ⟨b,o,none⟩)) (some (.int .i64 (a:Int))) none none).run Tryz.prog w=.ok (.slice (some ⟨b,o+a,none⟩) (64-a) (64-a)) w:=by
 have c:Tryz.prog.arrayLen 219=64:=by kernel_rfl
 have h:=run_sliceAt_array_l (P:=Tryz.prog) w 219 ⟨b,o,none⟩ (by kernel_rfl) .i64 (a:Int) (by omega) (by rw[c];omega);have d:(sizeOf (Tryz.prog.elem 219)).run Tryz.prog w=.ok 1 w:=by kernel_rfl
 rw[h,d,c];show Result.ok _ w=_;unfold slicedAt;have e:((a:Int)).toNat=a:=by omega
 rw[e,if_neg (by omega),Nat.mul_one];unfold Addr.add;split
 ·rename_i f;subst f;rfl
 ·rfl
def BJ(w:World)(B g k n stx b cap m o c p e:Nat)(v1 q:Value)(d:World):Prop:=
 ∃(i X:Nat) (f:Option Addr) (l:Nat),X=e+i/\v1=.int .i64 (X:Int)/\q=.slice f (c-i) l/\i<=c/\(i<c->f=some ⟨m,o+i,none⟩/\l=p-i)/\
  ah d g 216 #[.slice (some ⟨b,0,none⟩) k cap,.int .i64 (n:Int),.int .i64 (stx:Int)]/\R (λj=>j=b) w d/\(∃a:List Value,d.heap[b]?=some (.cells a.toArray 221 (0,0))/\a.length=cap*129/\qz (a.take (k*129)))
def L9(v:Value):Nat:=match v with|.slice _ n _=>n|_=>0
theorem JO(w:World)(B g k n a cap d m D Q E stx:Nat)(b:List UInt8)(a1:ah w g 216 #[.slice (some ⟨a,0,none⟩) k cap,.int .i64 (n:Int),.int .i64 (stx:Int)])(Et:List Value) (a2:w.heap[a]?=some (.cells Et.toArray 221 (0,0))) (S:Et.length=cap*129) (z:qz (Et.take (k*129))) (ca:k<=cap) (b2:k<=100000) (cb:D<=Q) (cc:Q<=9223372036854775807) (ce:E+D<=64*k) (bp:d≠a) (ac:g≠a)(ad:∀i,i<D->∃x:UInt8,w.cell? ⟨d,m+i,none⟩=some (.int .u8 (x.toNat:Int))):Calls Tryz.prog 190 #[.pointer (some ⟨g,0,none⟩),.int .i64 (E:Int),.slice (some ⟨d,m,none⟩) D Q] w λe w'=>e=.returned (.tuple #[])/\
  ah w' g 216 #[.slice (some ⟨a,0,none⟩) k cap,.int .i64 (n:Int),.int .i64 (stx:Int)]/\R (λj=>j=a) w w'/\(∃F:List Value,w'.heap[a]?=some (.cells F.toArray 221 (0,0))/\F.length=cap*129/\qz (F.take (k*129))):=by
 have a3:Hid (BJ w B g k n stx a cap d m D Q E (.int .i64 (E:Int)) (.slice (some ⟨d,m,none⟩) D Q) w):=J ⟨0,E,some ⟨d,m,none⟩,Q,by simp,rfl,by simp,by omega,λ_=>⟨by simp,by simp⟩,a1,R.refl _ w,⟨Et,a2,S,z⟩⟩
 refine bX ?_ a1 a2 S ad z;clear a1 a2 S ad z;intro a1 a2 S ad z;go_enter Tryz.func190,Tryz.ntmps190;go_wp2_with fail;go_loopw [1,2] (λv1 ba b3=>Hid (BJ w B g k n stx a cap d m D Q E v1 ba b3)) (λ_ ba _=>L9 ba)
 case atStart=>exact a3
 case round=>
  obtain⟨i,X,cr,cs,bb,rfl,rfl,ct,br,r,s,f,t,G,V⟩:=hrel.o;replace V:=J V;clear hrel;have cv:=r.cell 0;rcases aA i D with al|cf
  ·obtain⟨rfl,rfl⟩:=br al;clear br;obtain⟨H,ab⟩:=I (D-i);obtain⟨C,a4⟩:=I (Q-i);obtain⟨q,bc⟩:=I (X/64);obtain⟨l,bd⟩:=I (X%64);rw[<-ab,<-a4];have cg:0<H:=by omega
   have ch:(0:Int)<(H:Int):=by omega
   have ci:q<k:=by omega
   have be:l<64:=by omega
   have cj:(X:Int).tdiv 64=(q:Int):=by rw[Int.tdiv_eq_ediv_of_nonneg (by omega)];omega
   have ck:(X:Int).tmod 64=(l:Int):=by rw[Int.tmod_eq_emod_of_nonneg (by omega)];omega
   have b4:(X:Int)/64=(q:Int):=by omega
   have b5:(X:Int)%64=(l:Int):=by omega
   have cl:=xk wr a (q*129) l be;obtain⟨L,am⟩:=I (Nat.min H (64-l));have cm:L<=H/\L<=64-l/\0<L:=by rw[am];show min H (64-l)<=H/\min H (64-l)<=64-l/\0<min H (64-l);omega
   obtain⟨N,O⟩:∃N:List Value,N=(List.range L).map λj=>(wr.cell? ⟨d,m+i+j,none⟩).getD undef:=⟨_,rfl⟩;have bs:N.length=L:=by rw[O];simp
   have W:∀j,j<L->∃x:UInt8,wr.cell? ⟨d,m+i+j,none⟩=some (.int .u8 (x.toNat:Int)):=by
    intro j c;obtain⟨x,Z⟩:=ad.o (i+j) (by omega);have bv:d<w.heap.size:=by
     rcases aA d w.heap.size with h|h
     ·exact h
     ·unfold World.cell? at Z;simp[Array.getElem?_eq_none h]at Z
    refine⟨x,?_⟩;rw[World.cell?_of_block (w:=w) (s.block d bv bp),<-Z,Nat.add_assoc]
   have bi:∀j v,N[j]?=some v->wr.cell? ((⟨d,m+i,none⟩:Addr).add j)=some v:=by
    intro j v c;have a8:j<L:=by
     rcases aA j L with h|h
     ·exact h
     ·rw[getElem?_eq_none (by omega)]at c;cases c
    obtain⟨x,Z⟩:=W j a8;have e:(⟨d,m+i,none⟩:Addr).add j=⟨d,m+i+j,none⟩:=by
     unfold Addr.add;split
     ·rename_i b6;subst b6;rfl
     ·rfl
    rw[e,Z];rw[O]at c;simp[a8,Z]at c;rw[c]
   have an:∀v∈N,v.oneCell'=true:=by intro v bx;rw[O]at bx;obtain⟨j,c,rfl⟩:=aM.1 bx;obtain⟨x,Z⟩:=W j (mem_range.1 c);rw[Z];rfl
   refine bf ?_ O W am;clear O W am;intro O W am;have bj:q*129+l+N.length<=f.toArray.size:=by simp;omega
   obtain⟨y,K⟩:=I ((List.take (q*129+l) f++(N++List.drop (q*129+l+L) f)).toArray);have ao:y.size=cap*129:=by rw[K];simp;omega
   have P:ah (wr.setRow a y) a 221 y:=setRow_heap wr a _ y 221 (0,0) t;have b1:q*129+128<cap*129:=by omega
   have ap:=P.cell (q*129+128);obtain⟨u128,T⟩:∃u,y[q*129+128]?=some u:=⟨_,Array.getElem?_eq_getElem (by omega)⟩;rw[T]at ap;replace T:=J T;have bl:=P.frozen (q*129+128);have ae:=P.aK (q*129+128) (.bool true);have bA:R (λj=>j=a) wr (wr.setRow a y):=⟨rfl,rfl,rfl,by simp[World.setRow],λk b2 ac=>setRow_other wr a k y ac⟩;have af:R (λj=>j=a) w ((wr.setRow a y).setCell ⟨a,q*129+128,none⟩ (.bool true)):=(s.trans bA λi _ h=>h).setCell (p:=⟨a,q*129+128,none⟩) (λ_=>rfl) _
   have U:ah ((wr.setRow a y).setCell ⟨a,q*129+128,none⟩ (.bool true)) g 216 #[.slice (some ⟨a,0,none⟩) k cap,.int .i64 (n:Int),.int .i64 (stx:Int)]:=ah.far (p:=⟨a,q*129+128,none⟩) (show ah (wr.setRow a y) g _ _ from(setRow_other wr a g y ac).trans r) ac _
   have A:∃F:List Value,((wr.setRow a y).setCell ⟨a,q*129+128,none⟩ (.bool true)).heap[a]?=some (.cells F.toArray 221 (0,0))/\F.length=cap*129/\qz (F.take (k*129)):=by
    refine⟨(y.setIfInBounds (q*129+128) (.bool true)).toList,by rw[Array.toArray_toList];exact ae,by simp;omega,λj u c=>?_⟩;rw[bw]at c;split at c
    ·rename_i a9;rw[Array.toList_setIfInBounds,getElem?_set]at c;split at c
     ·split at c
      ·injection c with c;rw[<-c];rfl
      ·cases c
     ·rw[K]at c;have M:(List.take (q*129+l) f++(N++List.drop (q*129+l+L) f))[j]?=some u:=by simpa using c
      have al:(List.take (q*129+l) f).length=q*129+l:=by rw[aH];omega
      rcases aA j (q*129+l)with bB|bB
      ·rw[bM (by omega),bw,if_pos bB]at M;exact V.o j u (by rw[bw,if_pos a9];exact M)
      ·rw[getElem?_append_right (by omega),al]at M;rcases aA (j-(q*129+l)) N.length with a0|a0
       ·rw[bM a0]at M;exact an u (bu M)
       ·rw[getElem?_append_right a0,getElem?_drop]at M;refine V.o j u ?_;rw[bw,if_pos a9,<-M];congr 1;omega
    ·cases c
   obtain⟨Y,b0⟩:=I (X+L);have a5:Hid (∀nq a6 a7,(L<H->a6=some ⟨d,m+i+L,none⟩/\a7=C-L)->BJ w B g k n stx a cap d m D Q E (.int .i64 (Y:Int)) (.slice a6 (H-L) a7) (((wr.setRow a y).setCell ⟨a,q*129+128,none⟩ (.bool true)).drewN nq)):=by refine J λnq a6 a7 a0=>⟨i+L,Y,a6,a7,by omega,rfl,by rw[ab,Nat.sub_sub],by omega,λh=>?_,U,af.drewN nq,A⟩;obtain⟨b7,b8⟩:=a0 (by omega);exact⟨by rw[b7,Nat.add_assoc],by rw[b8];omega⟩
   have cn:(X:Int)+(L:Int)=(Y:Int):=by omega
   have co:(Y:Int)<=6400000:=by omega
   replace b0:=J b0;have b9:(L:Int)<=(H:Int):=by omega
   have cp:(H:Int)<=(C:Int):=by omega
   rw[K]at ap bl;refine aR ?_ P ae af U A ao K bb bc bd ab a4 r;clear P ae af U A ao K bb bc bd ab a4 r;intro P ae af U A ao K bb bc bd ab a4 r;refine bf ?_ s t G;clear s t G;intro s t G;go_wp2_with(refine wpList_copy_own rfl _ _ 23 23 rfl 5 Tryz.underlying23 ?p1 a (q*129+l) (64-l) (64-l) ⟨d,m+i,none⟩ H C rfl rfl f.toArray 221 t.o N ?p2 bi bj an ?_)
   case p1=>kernel_rfl
   case p2=>rw[bs,am.o]
   go_quiet (fail);go_wp2_with fail;go_roundw
   case rel=>rw[<-K.o];exact J (a5.o _ _ _ (λh=>⟨by rw[if_neg (by omega)],rfl⟩))
   case measure=>show H-L<H;omega
  ·have ab:D-i=0:=by omega
   rw[ab];refine bz ?_ r s t G;clear r s t G;intro r s t G;go_wp2_with fail
   go_end0
   exact⟨rfl,r.o,s.o,⟨f,t.o,G.o,V.o⟩⟩
def Ma(w:World)(B gf bm most stamp:Nat)(da la:List UInt8)(gd gl g K N:Nat)(v:Value)(e:Ending)(w':World):Prop:=e=.returned (.int .i64 0)/\dY w' B gf bm most (stamp+1) da la (some gd) (some gl)/\∃a,dO w' B g K N a/\R (λj=>j=gf\/j=g\/v.ownBlock=some j) w w'/\(a.ownBlock=v.ownBlock\/∃j,a.ownBlock=some j/\w.heap.size<=j)
theorem tj(w:World)(B gf bm most stamp gd kd nd gl kl nl g k n f bd c ac a:Nat)(da la ad:List UInt8)(vd vl v:Value)(h:dY w B gf bm most stamp da la (some gd) (some gl))(ae:dO w B gd kd nd vd)(af:dO w B gl kl nl vl)(al:Names ad da la (some gd) (some gl) (some g)) (cp:ad.length<=24) (t:dO w B g k n v) (am:most<=65536) (ch:kd+kl<=most) (cr:k<=most) (cs:n<=2000000) (bs:stamp<=1000000) (cS:B<=w.heap.size)(ct:a<=n) (cV:0<c) (bv:c<=ac) (cv:ac<=9223372036854775807) (ci:c<=1000000) (an:(max n (a+c)+63)/64-k<=most-kd-kl)(bx:f<w.heap.size) (a4:v.ownBlock≠some f) (bA:f≠g)(G:∀i,i<c->∃x:UInt8,w.cell? ⟨f,bd+i,none⟩=some (.int .u8 (x.toNat:Int))):Calls Tryz.prog 137 #[.pointer (some ⟨gf,0,none⟩),.string (str ad),.int .i64 (a:Int),.slice (some ⟨f,bd,none⟩) c ac] w (Ma w B gf bm most stamp da la gd gl g (max k ((max n (a+c)+63)/64)) (max n (a+c)) v):=by
 have bB:=J (pI w B gf bm most stamp g da la ad (some gd) (some gl) h al (by omega));obtain⟨E,u⟩:=I (a+c);obtain⟨N,y⟩:=I (max n E);obtain⟨D,q⟩:=I ((N+63)/64);obtain⟨b0,T⟩:=I (most-kd-kl);rw[<-u,<-y,<-q];rw[<-u,<-y,<-q,<-T]at an;have cw:(a:Int)+(c:Int)=(E:Int):=by omega
 have cx:max (n:Int) (E:Int)=(N:Int):=by omega
 have cy:N<=5000000:=by omega
 have cz:D<=80000:=by omega
 have a5:Hid (∀b,Calls Tryz.prog 139 #[.int .i64 (N:Int)] b λe w'=>e=.returned (.int .i64 (D:Int))/\b=w'):=J λb=>by rw[q];exact tg b N (by omega)
 have a6:Hid (∀b,Below w.heap.size w b->Calls Tryz.prog 143 #[.pointer (some ⟨gf,0,none⟩)] b λe w'=>e=.returned (.int .i64 (b0:Int))/\Below b.heap.size b w'):=J λb U=>by have V:R (λ_=>False) w b:=R.ag U;rw[T];exact zq b B gf bm most stamp gd gl kd nd kl nl da la vd vl (h.only V (λh=>h) (λh=>h)) (ae.only V (λh=>h) (λ_ _ h=>h)) (af.only V (λh=>h) (λ_ _ h=>h)) am ch
 obtain⟨st,z⟩:=t.st;obtain⟨xs,W,_⟩:=t.row;obtain⟨b1,X,ao⟩:=dP W;have be:=z.cell 0;have bi:=z.cell 1;rw[ao]at be bi;have r:Hid (∀b,Below w.heap.size w b->(b.cell? ⟨g,0,none⟩=some (.slice b1 k X)/\b.cell? ⟨g,1,none⟩=some (.int .i64 (n:Int)))):=J λb U=>⟨(U.cell (p:=⟨g,0,none⟩) z.lt).trans be,(U.cell (p:=⟨g,1,none⟩) z.lt).trans bi⟩
 have cA:(D:Int)-(k:Int)<=(b0:Int):=by omega
 have cB:IntKind.i64.wrap (E:Int)=(E:Int):=IntWalk.i64_in _ (by omega);have cD:IntKind.i64.wrap ((D:Int)-(k:Int))=(D:Int)-(k:Int):=IntWalk.i64_in _ (by omega);have hA0:decide ((a:Int)<0)=false:=by rw[decide_eq_false_iff_not];omega
 have hA1:decide (n<a)=false:=by rw[decide_eq_false_iff_not];omega
 have hA2:decide ((n:Int)<(a:Int))=false:=by rw[decide_eq_false_iff_not];omega
 have cj:(a:Int)<=(n:Int):=by omega
 have cE:(0:Int)<(c:Int):=by omega
 have cH:decide ((b0:Int)<(D:Int)-(k:Int))=false:=by rw[decide_eq_false_iff_not];omega
 refine aR ?_ h ae af t z W ao u y q T al G;clear h ae af t z W ao u y q T al G;intro h ae af t z W ao u y q T al G;go_enter Tryz.func137,Tryz.ntmps137;go_upto_region 2 with((go_at_call 131;refine bB.o.mono ?_;rintro e cX ⟨rfl,rfl⟩))
 go_upto_region 6 with(fail)
 go_cut [32] (λv32 ck=>v32=.bool false/\Hid (Below w.heap.size w ck))
 case first=>
  go_region_held3 (λw'=>w'.cell? ⟨g,0,none⟩=some (.slice b1 k X)/\w'.cell? ⟨g,1,none⟩=some (.int .i64 (n:Int))) (first|exact⟨be,bi⟩|exact r.o _ Y|exact r.o _ (below_drewN Y _)) ((first
   |(go_at_call 139;refine(a5.o _).mono ?_;rintro e b2 ⟨rfl,rfl⟩)
   |(go_at_call 143;refine(a6.o _ ((Below.refl _ w).drew)).mono ?_;rintro e b2 ⟨rfl,bj⟩;have Y:Below w.heap.size w b2:=(Below.refl _ w).drew.trans bj;replace bj:=J bj)))
  all_goals go_wp2_with fail
  all_goals go_meet
  all_goals exact⟨rfl,J Y⟩
 case rest=>
  obtain⟨rfl,a7⟩:=hcut;clear a6 a5 r bB;have H:=R.ag (S:=λ_=>False) a7.o;have a8:=J (h.o.only H (λh=>h) (λh=>h));have a9:=J (mM _ B gf bm most stamp da la (some gd) (some gl) a8.o);go_wp2_with fail;refine a9.o.mono ?_;rintro e cY ⟨rfl,rfl⟩;go_wp2_with fail;have cK:w.heap.size<=wc.heap.size:=a7.o.size;have A:=He wc B g k n E v (t.o.only H (λh=>h) (λ_ _ h=>h)) (by omega) (by omega) (by have:=u.o;omega) (by omega);rw[<-y.o,<-q.o]at A;replace A:=J A;refine A.o.mono ?_;rintro e ap ⟨rfl,v4,d,l,m⟩;have cg:g≠0\/True:=.inr trivial;obtain⟨MC,K⟩:=d.st;obtain⟨cL,L,b3⟩:=d.row;have cM:1<=D:=by have:=q.o;have:=y.o;have:=u.o;omega
  have cl:E<=64*max k D:=by have:=q.o;have:=y.o;omega
  rcases L.2 with⟨_,U⟩|⟨C,cap,b4,rfl,b5,Q,Z,b6,b7,cm⟩
  ·exfalso;omega
  ·have bl:f≠C:=by
    rintro rfl;rcases m with e|⟨j,e,b8⟩
    ·exact a4 (by rw[<-e];rfl)
    ·have F:f=j:=by simpa[Value.ownBlock]using e
     omega
   have bp:g≠C:=λe=>d.L8 (by rw[e];rfl);have ba:=J (JO ap B g (max k D) N C cap f bd c ac a MC [] K b4.toList (by simpa using Q) (by simpa using b7) (by rw[cm];exact b3) Z (by omega) bv (by omega) (by have:=u.o;omega) bl bp (λi b9=>by obtain⟨x,cn⟩:=G.o i b9;refine⟨x,?_⟩;rw[World.cell?_of_block (w:=w) ((l.block f (by omega) (λe=>e.elim (λe=>bA e) (λe=>a4 e))).trans (H.block f bx (λh=>h)))];exact cn))
   refine dZ ?_ d l m K L Q;clear d l m K L Q;intro d l m K L Q;clear A;go_wp2_with fail;refine ba.o.mono ?_;rintro e a0 ⟨rfl,ca,bb,ab,cb,bc,cc⟩;have br:=a8.o;have M:dY ap B gf bm most stamp da la (some gd) (some gl):=br.only l.o
    (λe=>e.elim (λe=>((t.o.CW h.o).1 e)) (λe=>(t.o.CW h.o).2 e))
    (λe=>e.elim (λe=>h.o.zo z.o e) (λe=>by
     rcases W.o.2 with⟨F,_⟩|⟨co,c0,cP,F,_,ce,_⟩
     ·rw[F]at e;cases e
     ·rw[F]at e;exact h.o.zo (show ah w co _ _ from ce) (by simpa[Value.ownBlock]using e.symm)))
   have O:dY a0 B gf bm most stamp da la (some gd) (some gl):=M.only bb (ah.iH M.st (show ah ap C _ _ from Q.o) (by decide)) (M.zo (show ah ap C _ _ from Q.o));have P:dO a0 B g (max k D) N (.slice (some ⟨C,0,none⟩) (max k D) cap):=⟨⟨MC,ca⟩,⟨ab.take (max k D*129),⟨by rw[aH,bc];exact Nat.min_eq_left (mul_le_mul_right _ Z),.inr ⟨C,cap,ab.toArray,rfl,b5,cb,Z,b6,by simpa using bc,rfl⟩⟩,cc⟩,d.o.gB⟩
   have cf:=J (mN a0 B gf bm most stamp g (max k D) N da la (some gd) (some gl) _ O P bs);have s:R (λj=>j=gf\/j=g\/v.ownBlock=some j) w a0:=(((H.mono (S:=λj=>j=gf\/j=g\/v.ownBlock=some j) (λ_ _ h=>h.elim)).trans l.o (λi _ e=>.inr e)).trans bb (λi b9 e=>by
    rcases m.o with F|⟨j,F,b8⟩
    ·exact .inr (.inr (by rw[<-F,e];rfl))
    ·have c1:C=j:=by simpa[Value.ownBlock]using F
     omega))
   refine bf ?_ O P s;clear O P s;intro O P s;clear M ba a9;go_wp2_with fail;refine cf.o.mono ?_;rintro e c2 ⟨rfl,a1,a2,a3⟩;refine bf ?_ a1 a2 a3;clear a1 a2 a3;intro a1 a2 a3;go_wp2_with fail;go_ret;exact⟨rfl,a1.o,_,a2.o,s.o.trans a3.o (λi _ e=>e.elim .inl (λe=>.inr (.inl e))),m.o.imp id (λ⟨j,e,b8⟩=>⟨j,e,by omega⟩)⟩
def Kv(w:World)(B gf bm most stamp:Nat)(da la:List UInt8)(a fl:Option Nat)(g k n:Nat)(v:Value)(e:Ending)(w':World):Prop:=e=.returned (.int .i64 0)/\dY w' B gf bm most stamp da la a fl/\dO w' B g k n v/\R (λj=>v.ownBlock=some j) w w'
def Hf(w:World)(g k n st b cap:Nat)(c:World):Prop:=ah c g 216 #[.slice (some ⟨b,0,none⟩) k cap,.int .i64 (n:Int),.int .i64 (st:Int)]/\R (λj=>j=b) w c/\∃a:List Value,c.heap[b]?=some (.cells a.toArray 221 (0,0))/\a.length=cap*129/\qz (a.take (k*129))
theorem Hg:(Tryz.prog.info? 219).map (·.size)=some 64:=by kernel_rfl
theorem pJ{g:Nat}{t:TypeId}:∀(vs:List Value) (o:Nat) (w:World) (c:Array Value),ah w g t c->∃a,ah (w.setCells g o vs) g t a/\a.size=c.size/\∀(j:Nat) (u:Value),a[j]?=some u->u∈vs\/c[j]?=some u
 |[],o,w,c,h=>⟨c,h,rfl,λ_ _ h=>.inr h⟩
 |v::k,o,w,c,h=>by
  obtain⟨a,d,e,f⟩:=pJ k (o+1) _ _ (h.aK o v)
  refine⟨a,d,by rw[e];simp,λj u i=>?_⟩
  rcases f j u i with b|b
  ·exact .inl (.tail _ b)
  ·rw[Array.getElem?_setIfInBounds]at b;split at b
   ·split at b
    ·injection b with b;subst b;exact .inl (.head _)
    ·cases b
   ·exact .inr b
theorem gW{g:Nat}{a:World}:∀(vs:List Value) (o:Nat) (w:World),R (λj=>j=g) a w->R (λj=>j=g) a (w.setCells g o vs)
 |[],_,_,h=>h
 |v::b,o,w,h=>gW b (o+1) _ (h.setCell (p:=⟨g,o,none⟩) (λ_=>rfl) v)
theorem Lg{w':World}{g a i:Nat}{b:List Value}{u:Value}(c:g≠a)(e:b.length=64)(h:w'.cell? ⟨g,0,none⟩=some u/\w'.rangeAt a (i*129) b/\w'.there a (i*129+64) 64/\(w'.cell? ⟨a,i*129+128,none⟩).isSome=true/\w'.frozen? ⟨a,i*129+128,none⟩=false):(w'.setCells a (i*129+64) b).cell? ⟨g,0,none⟩=some u/\(w'.setCells a (i*129+64) b).rangeAt a (i*129) b/\(w'.setCells a (i*129+64) b).there a (i*129+64) 64/\((w'.setCells a (i*129+64) b).cell? ⟨a,i*129+128,none⟩).isSome=true/\(w'.setCells a (i*129+64) b).frozen? ⟨a,i*129+128,none⟩=false:=⟨by rw[World.cell?_setCells_out a b _ w' ⟨g,0,none⟩ (λd _=>absurd d c)];exact h.1,World.rangeAt_setCells_apart h.2.1 _ _ _ (.inr (.inl (by omega))),World.there_setCells h.2.2.1 _ _ _,World.isSome_setCells a b _ w' _ h.2.2.2.1,by rw[World.frozen?_setCells];exact h.2.2.2.2⟩
theorem JP{w':World}{g a i:Nat}{b:List Value}{u:Value}(c:g≠a)(e:b.length=64)(h:w'.cell? ⟨g,0,none⟩=some u/\w'.rangeAt a (i*129) b/\w'.there a (i*129+64) 64/\(w'.cell? ⟨a,i*129+128,none⟩).isSome=true/\w'.frozen? ⟨a,i*129+128,none⟩=false):(w'.setCell ⟨a,i*129+128,none⟩ (.bool false)).cell? ⟨g,0,none⟩=some u/\(w'.setCell ⟨a,i*129+128,none⟩ (.bool false)).rangeAt a (i*129) b/\(w'.setCell ⟨a,i*129+128,none⟩ (.bool false)).there a (i*129+64) 64/\((w'.setCell ⟨a,i*129+128,none⟩ (.bool false)).cell? ⟨a,i*129+128,none⟩).isSome=true/\(w'.setCell ⟨a,i*129+128,none⟩ (.bool false)).frozen? ⟨a,i*129+128,none⟩=false:=⟨(World.cell?_setCells_out a [.bool false] (i*129+128) w' ⟨g,0,none⟩ (λd _=>absurd d c)).trans h.1,World.rangeAt_setCells_apart (vs:=[.bool false]) h.2.1 a (i*129+128) (.inr (.inl (by omega))),World.there_setCells (vs:=[.bool false]) h.2.2.1 a (i*129+128),World.isSome_setCells a [.bool false] (i*129+128) w' _ h.2.2.2.1,(World.frozen?_setCells a [.bool false] (i*129+128) w' ⟨a,i*129+128,none⟩).trans h.2.2.2.2⟩
theorem zu(w:World)(B gf bm most stamp g k n:Nat)(da la S:List UInt8)(L fl:Option Nat)(v:Value)(h:dY w B gf bm most stamp da la L fl)(T:Names S da la L fl (some g))(cb:S.length<=24)(A:dO w B g k n v)(ci:k<=100000):Calls Tryz.prog 138 #[.pointer (some ⟨gf,0,none⟩),.string (str S)] w (Kv w B gf bm most stamp da la L fl g k n v):=by
 have a5:=J (pI w B gf bm most stamp g da la S L fl h T (by omega));have Z:=J (mM w B gf bm most stamp da la L fl h);obtain⟨st,M⟩:=A.st;obtain⟨xs,G,H⟩:=A.row;obtain⟨cj,b,D⟩:=dP G;have bv:=M.cell 0;rw[D]at bv;have K:0<k->∃a,v=.slice (some ⟨a,0,none⟩) k b/\Hid (Hf w g k n st a b w)/\k<=b/\g≠a/\B<=a:=λU=>by
  rcases G.2 with⟨_,ck⟩|⟨a,cap,t,e,E,bx,F,cc,x,bA⟩
  ·omega
  ·rw[D]at e;injection e with al s am;subst al;subst am;refine⟨a,D,J ⟨by rw[D]at M;exact M,R.refl _ w,t.toList,by simpa using bx,by simpa using x,by rw[bA];exact H⟩,F,λe=>A.L8 (by rw[D,e];rfl),E⟩
 have br:=J H;clear H;refine bX ?_ h M G A T;clear h M G A T;intro h M G A T;rcases eq_zero_or_pos k with U|U
 ·subst U;clear K;replace D:=J D;go_enter Tryz.func138,Tryz.ntmps138;go_wp2_with fail;refine a5.o.mono ?_;rintro e bB ⟨rfl,rfl⟩;go_wp2_with fail;refine Z.o.mono ?_;rintro e b0 ⟨rfl,rfl⟩;go_wp2_with fail;go_loopw [7,27] (λ_ v27 an=>v27=.int .i64 0/\an=w) (λ_ _ _=>0)
  case atStart=>exact⟨rfl,rfl⟩
  case round=>obtain⟨rfl,rfl⟩:=hrel;go_wp2_with fail;go_ret;exact⟨rfl,h.o,A.o,R.refl _ _⟩
 ·obtain⟨a,rfl,a6,F,N,E⟩:=K U;injection D with al;subst al;replace E:=J E;have a7:Hid (∀w':World,∀i:Nat,(w'.cell? ⟨a,i,none⟩).isSome=true->w'.frozen? ⟨a,i,none⟩=false->(Instr.storeAt 4 (.pointer (some ⟨a,i,none⟩)) (.bool false)).run Tryz.prog w'=.ok () (w'.setCell ⟨a,i,none⟩ (.bool false))):=J λw' i ao r=>by
   have ap:=run_storeVar_mid (P:=Tryz.prog) w' a i 4 #[.bool false] (λj c=>by
    have a8:j=0:=by simpa using c
    subst a8;exact⟨ao,r⟩) (by kernel_rfl) (by simp[Value.oneCell'])
   simp only[Instr.storeAt,Instr.sureAddr,Sem.run_bind,Sem.run_pure,Result.andThen_ok];exact ap
  go_enter Tryz.func138,Tryz.ntmps138;go_wp2_with fail;refine a5.o.mono ?_;rintro e bB ⟨rfl,rfl⟩;go_wp2_with fail;refine Z.o.mono ?_;rintro e b0 ⟨rfl,rfl⟩;go_wp2_with fail;go_loopw [7,27] (λ_ v27 an=>∃i:Nat,v27=.int .i64 (i:Int)/\i<=k/\Hid (Hf w g k n st a b an)) (λ_ v27 _=>k-(intOf v27).toNat)
  case atStart=>exact⟨0,rfl,by omega,a6⟩
  case round=>
   obtain⟨i,rfl,ce,V⟩:=hrel;rcases aA i k with cf|cg
   ·have b1:(i:Int)<(k:Int):=by omega
    have b2:(0:Int)<=(i:Int):=by omega
    obtain⟨l,m,t,f,y,q⟩:=V.o;have b3:=l.cell 0;have a9:k*129<=b*129:=mul_le_mul_right _ F;have bs:i*129+129<=k*129:=by omega
    obtain⟨d,x⟩:=I ((t.drop (i*129)).take 64);have C:d.length=64:=by rw[x,aH,aQ];omega
    have a0:∀u∈d,u.oneCell'=true:=λu W=>by
     obtain⟨j,c⟩:=mem_iff_getElem?.1 W;rw[x,bw]at c;split at c
     ·rw[getElem?_drop]at c;exact q (i*129+j) u (by rw[bw,if_pos (by omega)];exact c)
     ·cases c
    have ab:wr.rangeAt a (i*129) d:=λj u c=>by
     rw[cell_of_row wr a (i*129+j) _ _ (0,0) f];rw[x,bw]at c;split at c
     ·rw[getElem?_drop]at c;simpa using c
     ·cases c
    have O:∀j,j<b*129->(wr.cell? ⟨a,j,none⟩).isSome=true/\wr.frozen? ⟨a,j,none⟩=false:=λj c=>by refine⟨?_,ah.frozen (show ah wr a _ _ from f) j⟩;rw[cell_of_row wr a j _ _ (0,0) f];simp;omega
    have ac:wr.there a (i*129+64) 64:=λj c=>O _ (by omega);have Q:=O (i*129+128) (by omega);have X:wr.cell? ⟨g,0,none⟩=some (.slice (some ⟨a,0,none⟩) k b)/\wr.rangeAt a (i*129) d/\wr.there a (i*129+64) 64/\(wr.cell? ⟨a,i*129+128,none⟩).isSome=true/\wr.frozen? ⟨a,i*129+128,none⟩=false:=⟨b3,ab,ac,Q.1,Q.2⟩;obtain⟨b4,ba,bb,bc,bd⟩:=X;obtain⟨fl,z⟩:∃fl:World->Value,∀w':World,(w'.cell? ⟨a,i*129+128,none⟩).isSome=true->w'.cell? ⟨a,i*129+128,none⟩=some (fl w'):=⟨λw'=>(w'.cell? ⟨a,i*129+128,none⟩).getD undef,λw' h=>by obtain⟨u,W⟩:=Option.isSome_iff_exists.1 h;show _=some ((w'.cell? ⟨a,i*129+128,none⟩).getD undef);rw[W];rfl⟩
    have ad:Hid (∀w':World,(w'.cell? ⟨g,0,none⟩=some (.slice (some ⟨a,0,none⟩) k b)/\w'.rangeAt a (i*129) d/\w'.there a (i*129+64) 64/\w'.cell? ⟨a,i*129+128,none⟩=some (fl w')/\w'.frozen? ⟨a,i*129+128,none⟩=false)->
     ((w'.setCells a (i*129+64) d).cell? ⟨g,0,none⟩=some (.slice (some ⟨a,0,none⟩) k b)/\(w'.setCells a (i*129+64) d).rangeAt a (i*129) d/\(w'.setCells a (i*129+64) d).there a (i*129+64) 64/\(w'.setCells a (i*129+64) d).cell? ⟨a,i*129+128,none⟩=some (fl (w'.setCells a (i*129+64) d))/\(w'.setCells a (i*129+64) d).frozen? ⟨a,i*129+128,none⟩=false)):=J λw' h=>by
     have r:=Lg N C ⟨h.1,h.2.1,h.2.2.1,by rw[h.2.2.2.1];rfl,h.2.2.2.2⟩;exact⟨r.1,r.2.1,r.2.2.1,z _ r.2.2.2.1,r.2.2.2.2⟩
    have ae:Hid (∀w':World,(w'.cell? ⟨g,0,none⟩=some (.slice (some ⟨a,0,none⟩) k b)/\w'.rangeAt a (i*129) d/\w'.there a (i*129+64) 64/\w'.cell? ⟨a,i*129+128,none⟩=some (fl w')/\w'.frozen? ⟨a,i*129+128,none⟩=false)->
     ((w'.setCell ⟨a,i*129+128,none⟩ (.bool false)).cell? ⟨g,0,none⟩=some (.slice (some ⟨a,0,none⟩) k b)/\(w'.setCell ⟨a,i*129+128,none⟩ (.bool false)).rangeAt a (i*129) d/\(w'.setCell ⟨a,i*129+128,none⟩ (.bool false)).there a (i*129+64) 64/\(w'.setCell ⟨a,i*129+128,none⟩ (.bool false)).cell? ⟨a,i*129+128,none⟩=some (fl (w'.setCell ⟨a,i*129+128,none⟩ (.bool false)))/\(w'.setCell ⟨a,i*129+128,none⟩ (.bool false)).frozen? ⟨a,i*129+128,none⟩=false)):=J λw' h=>by
     have r:=JP N C ⟨h.1,h.2.1,h.2.2.1,by rw[h.2.2.2.1];rfl,h.2.2.2.2⟩;exact⟨r.1,r.2.1,r.2.2.1,z _ r.2.2.2.1,r.2.2.2.2⟩
    have X:Hid (∀nq,(wr.drewN nq).cell? ⟨g,0,none⟩=some (.slice (some ⟨a,0,none⟩) k b)/\(wr.drewN nq).rangeAt a (i*129) d/\(wr.drewN nq).there a (i*129+64) 64/\(wr.drewN nq).cell? ⟨a,i*129+128,none⟩=some (fl (wr.drewN nq))/\(wr.drewN nq).frozen? ⟨a,i*129+128,none⟩=false):=J λnq=>⟨b4,ba,bb,z _ bc,bd⟩;have W:=Tryz.underlying219;have b5:(Tryz.prog.info? 219).map (·.size)=some d.length:=by rw[C];exact Hg
    replace z:=J z;clear ba bb bc bd a7;refine bX ?_ l m f x q;clear l m f x q;intro l m f x q;replace V:=J V.o;clear O ab ac Q;go_wp2_with fail;go_region_held3 (λw'=>w'.cell? ⟨g,0,none⟩=some (.slice (some ⟨a,0,none⟩) k b)/\w'.rangeAt a (i*129) d/\w'.there a (i*129+64) 64/\w'.cell? ⟨a,i*129+128,none⟩=some (fl w')/\w'.frozen? ⟨a,i*129+128,none⟩=false) (first|exact X.o 0|exact X.o 1|exact ad.o _ (by assumption)|exact ae.o _ (by assumption)|exact ad.o _ ⟨by assumption,by assumption,by assumption,by assumption,by assumption⟩|exact ae.o _ ⟨by assumption,by assumption,by assumption,by assumption,by assumption⟩) (fail)
    have Y:Hid (Hf w g k n st a b ((wr.drew.setCells a (i*129+64) d).setCell ⟨a,i*129+128,none⟩ (.bool false))):=by
     have b6:=(gW d (i*129+64) wr.drew m.o.drew).setCell (p:=⟨a,i*129+128,none⟩) (λ_=>rfl) (.bool false);obtain⟨a1,ao,r,ap⟩:=pJ d (i*129+64) wr.drew t.toArray (show ah wr.drew a 221 t.toArray from f.o);have b7:=ao.aK (i*129+128) (.bool false);refine J ⟨(((gW d (i*129+64) wr.drew ((R.refl (λj=>j=a) wr).drew)).setCell (p:=⟨a,i*129+128,none⟩) (λ_=>rfl) (.bool false))).blk l.o N,b6,(a1.setIfInBounds (i*129+128) (.bool false)).toList,by rw[Array.toArray_toList];exact b7,by simp[r,y],λj u c=>?_⟩;rw[bw]at c;split at c
     ·rename_i be;rw[Array.getElem?_toList,Array.getElem?_setIfInBounds]at c;split at c
      ·split at c
       ·injection c with c;rw[<-c];rfl
       ·cases c
      ·rcases ap j u c with a2|a2
       ·exact a0 u a2
       ·exact q.o j u (by rw[bw,if_pos be];simpa using a2)
     ·cases c
    go_wp2_with fail;go_roundw
    case rel=>exact⟨i+1,by simp,by omega,Y⟩
    case measure=>simp[intOf];omega
   ·have bi:i=k:=by omega
    subst bi;obtain⟨l,m,t,f,y,q⟩:=V.o;have a3:Hid (Kv w B gf bm most stamp da la L fl g i n (.slice (some ⟨a,0,none⟩) i b) (.returned (.int .i64 0)) wr):=by
     have bj:R (λj=>(Value.slice (some ⟨a,0,none⟩) i b).ownBlock=some j) w wr:=m.mono λj _ e=>by rw[e];rfl
     have bl:=A.o.CW h.o;refine J ⟨rfl,h.o.only m (λe=>bl.2 (by rw[<-e];rfl)) (λe=>?_),⟨⟨st,l⟩,⟨t.take (i*129),⟨by rw[aH,y];exact Nat.min_eq_left (mul_le_mul_right _ F),.inr ⟨a,b,t.toArray,rfl,E.o,f,F,?_,by simpa using y,by simp⟩⟩,q⟩,A.o.gB⟩,bj⟩
     ·rcases G.o.2 with⟨s,_⟩|⟨a4,b8,bp,s,_,af,_⟩
      ·cases s
      ·have am:a4=a:=by injection s with s;injection s with s;injection s with s;exact s.symm
       subst am;exact h.o.zo (show ah w a4 _ _ from af) e
     ·rcases G.o.2 with⟨s,_⟩|⟨a4,b8,bp,s,_,af,_,b9,_⟩
      ·cases s
      ·injection s with _ _ ca;rw[ca];exact b9
    have ch:¬(i:Int)<(i:Int):=by omega
    refine bX ?_ l m f y q;clear l m f y q;intro l m f y q;go_wp2_with fail;go_ret;exact a3.o
theorem zw(w:World)(gf bm most stamp g:Nat)(u1 u2:Value)(st:Nat)(h:ah w gf 74 #[.int .i64 (most:Int),.int .i64 (stamp:Int),.int .i64 (-1),.bool false,.map (some bm)]) (b:ah w g 216 #[u1,u2,.int .i64 (st:Int)]) (m:stamp<=1000000):Calls Tryz.prog 134 #[.pointer (some ⟨gf,0,none⟩),.pointer (some ⟨g,0,none⟩)] w λe w'=>e=.returned (.int .i64 0)/\R (λj=>j=gf\/j=g) w w':=by
 have i:gf≠g:=ah.iH h b (by decide);have n:=h.cell 1;have q:=h.frozen 1;have r:=b.cell 2;have r2:=b.frozen 2;obtain⟨d,f⟩:=I (stamp+1);have s:(stamp:Int)+1=(d:Int):=by omega
 have a:=b.far (p:=⟨gf,1,none⟩) (λe=>i e.symm) (.int .i64 (d:Int));have t:=a.cell 2;have u:=a.frozen 2;have c:R (λj=>j=gf\/j=g) w (w.setCell ⟨gf,1,none⟩ (.int .i64 (d:Int))):=(R.refl _ w).setCell (p:=⟨gf,1,none⟩) (λ_=>.inl rfl) _;have k:=J (c.setCell (p:=⟨g,2,none⟩) (λ_=>.inr rfl) (.int .i64 (d:Int)));have l:=(h.aK 1 (.int .i64 (d:Int))).cell 1;refine bX ?_ h b f a c;clear h b f a c;intro h b f a c;go_enter Tryz.func134,Tryz.ntmps134;go_wp2_with fail;go_ret;exact⟨rfl,k.o⟩
theorem Hj(w:World)(B gf bm most stamp g k n:Nat)(da la l:List UInt8)(m fl:Option Nat)(v:Value)(h:dY w B gf bm most stamp da la m fl)(q:Names l da la m fl (some g))(G:l.length<=24)(d:dO w B g k n v)(C:stamp<=1000000):Calls Tryz.prog 95 #[.pointer (some ⟨gf,0,none⟩),.string (str l),.int .i64 0] w λe w'=>e=.returned (.int .i64 0)/\R (λj=>j=gf\/j=g) w w':=by
 have D:=J (pI w B gf bm most stamp g da la l m fl h q (by omega));have y:=J (mM w B gf bm most stamp da la m fl h);have z:=J (λE=>tg E 0 (by omega));obtain⟨st,a⟩:=d.st;obtain⟨xs,r,b⟩:=d.row;obtain⟨s,F,rfl⟩:=dP r;have H:=a.cell 0;have K:=a.cell 1;have L:=a.frozen 0;have M:=a.frozen 1;have t:gf≠g:=(d.CW h).1;have c:=h.st;refine eD ?_ h a r d q b c;clear h a r d q b c;intro h a r d q b c;have f:=(a.o.aK 1 (.int .i64 0)).aK 0 (.slice s 0 0);have i:=(c.o.far (p:=⟨g,1,none⟩) t (.int .i64 0)).far (p:=⟨g,0,none⟩) t (.slice s 0 0);have u:R (λj=>j=gf\/j=g) w ((w.setCell ⟨g,1,none⟩ (.int .i64 0)).setCell ⟨g,0,none⟩ (.slice s 0 0)):=((R.refl _ w).setCell (p:=⟨g,1,none⟩) (λ_=>.inr rfl) _).setCell (p:=⟨g,0,none⟩) (λ_=>.inr rfl) _;have A:=J (zw (((w.setCell ⟨g,1,none⟩ (.int .i64 0)).setCell ⟨g,0,none⟩ (.slice s 0 0)).drew) gf bm most stamp g _ _ st i.drew f.drew C);replace u:=J u.drew;replace f:=J f;replace i:=J i;go_enter Tryz.func95,Tryz.ntmps95;go_upto_region 8 with(first|(go_at_call 131;refine D.o.mono ?_;rintro e N ⟨rfl,rfl⟩)|(go_at_call 133;refine y.o.mono ?_;rintro e O ⟨rfl,rfl⟩))
 go_region_with (go_at_call 139;refine(z.o _).mono ?_;rintro e P ⟨rfl,rfl⟩)
 all_goals
  go_wp2_with fail;refine A.o.mono ?_;rintro e Q ⟨rfl,x⟩;replace x:=J x;go_wp2_with fail;go_ret;exact⟨rfl,u.o.trans x.o λ_ _ h=>h⟩
def Kw(w:World)(j:Nat):Prop:=∃a,ah w j 74 a\/ah w j 216 a\/ah w j 221 a
def qb(w w':World):Prop:=R (Kw w) w w'
theorem qb.trans{a b c:World}(h:qb a b)(k:qb b c):qb a c:=R.trans h k λi l m=>Classical.byContradiction λe=>by
 have f:=R.block h i l e;obtain⟨g,j⟩:=m;rcases j with d|d|d
 ·exact e ⟨g,.inl (f.symm.trans d)⟩
 ·exact e ⟨g,.inr (.inl (f.symm.trans d))⟩
 ·exact e ⟨g,.inr (.inr (f.symm.trans d))⟩
theorem qb.ag{w w':World}(h:Below w.heap.size w w'):qb w w':=R.ag h
theorem qb.blk{w w':World}(h:qb w w'){g:Nat}{t:TypeId}{d:Array Value}(b:ah w g t d)(e:t≠74)(f:t≠216)(i:t≠221):ah w' g t d:=
 R.blk h b λ⟨c,a⟩=>by
  rcases a with a|a|a
  ·exact ah.iH b a e rfl
  ·exact ah.iH b a f rfl
  ·exact ah.iH b a i rfl
structure lh (w:World) (H0 gf bm most stamp:Nat) (da la:List UInt8) (gd kd nd gl kl nl:Nat) (vd vl:Value):Prop where
 fs:dY w 0 gf bm most stamp da la (some gd) (some gl)
 fd:dO w 0 gd kd nd vd
 fl:dO w 0 gl kl nl vl
 hd:H0<=gd/\∀j,vd.ownBlock=some j->H0<=j
 hl:H0<=gl/\∀j,vl.ownBlock=some j->H0<=j
 ne:gd≠gl
 ap:∀j,vd.ownBlock=some j->vl.ownBlock≠some j
 sz:H0<=w.heap.size
def Fr(H0 gf bm:Nat)(w w':World):Prop:=R (λj=>j=gf\/j=bm\/H0<=j) w w'
theorem Fr.trans{H0 gf bm:Nat}{a b c:World}(h:Fr H0 gf bm a b)(k:Fr H0 gf bm b c):Fr H0 gf bm a c:=R.trans h k λ_ _ h=>h
theorem jj{w:World}{B n:Nat}{e:TypeId}{c j:Nat}{v:Value}{xs:List Value}(h:w.ownsRow B e c v n xs)(a:v.ownBlock=some j):∃d,ah w j e d:=by
 rcases h.2 with⟨rfl,_⟩|⟨g,cap,b,rfl,_,f,_⟩
 ·cases a
 ·have:g=j:=by simpa[Value.ownBlock]using a
  subst this;exact⟨b,f⟩
section
variable {w w':World}{H0 gf bm most stamp gd kd nd gl kl nl:Nat}{da la:List UInt8}{vd vl:Value}
theorem lh.CX(h:lh w H0 gf bm most stamp da la gd kd nd gl kl nl vd vl):Kw w gf:=⟨_,.inl h.fs.st⟩
theorem lh.Hk(h:lh w H0 gf bm most stamp da la gd kd nd gl kl nl vd vl):Kw w gd:=by obtain⟨st,a⟩:=h.fd.st;exact⟨_,.inr (.inl a)⟩
theorem lh.CY(h:lh w H0 gf bm most stamp da la gd kd nd gl kl nl vd vl):Kw w gl:=by obtain⟨st,a⟩:=h.fl.st;exact⟨_,.inr (.inl a)⟩
theorem lh.xm(h:lh w H0 gf bm most stamp da la gd kd nd gl kl nl vd vl){j:Nat}(a:vd.ownBlock=some j):Kw w j:=by obtain⟨xs,b,_⟩:=h.fd.row;obtain⟨c,d⟩:=jj b a;exact⟨c,.inr (.inr d)⟩
theorem lh.xn(h:lh w H0 gf bm most stamp da la gd kd nd gl kl nl vd vl){j:Nat}(a:vl.ownBlock=some j):Kw w j:=by obtain⟨xs,b,_⟩:=h.fl.row;obtain⟨c,d⟩:=jj b a;exact⟨c,.inr (.inr d)⟩
theorem lh.keep(h:lh w H0 gf bm most stamp da la gd kd nd gl kl nl vd vl){S:Nat->Prop}(b:R S w w')(a:∀j,S j->¬Kw w j)(d:¬S bm):lh w' H0 gf bm most stamp da la gd kd nd gl kl nl vd vl:=⟨h.fs.only b (λe=>a _ e h.CX) d,h.fd.only b (λe=>a _ e h.Hk) (λj c e=>a _ e (h.xm c)),h.fl.only b (λe=>a _ e h.CY) (λj c e=>a _ e (h.xn c)),h.hd,h.hl,h.ne,h.ap,aO h.sz b.size⟩
theorem lh.below(h:lh w H0 gf bm most stamp da la gd kd nd gl kl nl vd vl)(a:Below w.heap.size w w'):lh w' H0 gf bm most stamp da la gd kd nd gl kl nl vd vl:=h.keep (S:=λ_=>False) (R.ag a) (λ_ h=>h.elim) (λh=>h)
theorem lh.drewN(h:lh w H0 gf bm most stamp da la gd kd nd gl kl nl vd vl)(q:Nat):lh (w.drewN q) H0 gf bm most stamp da la gd kd nd gl kl nl vd vl:=h.below (below_drewN (Below.refl _ _) q)
end
def BK(w:World)(a n:Nat):Prop:=(∀i,i<n->∃x:UInt8,w.cell? ⟨a,i,none⟩=some (.int .u8 (x.toNat:Int)))/\(∃t b c,w.heap[a]?=some (.cells b t c)/\t≠74/\t≠216/\t≠221)
theorem BK.not{w:World}{d n j:Nat}(h:BK w d n)(f:Kw w j):d≠j:=by
 rintro rfl;obtain⟨_,t,l,m,b,g,i,k⟩:=h;obtain⟨c,a⟩:=f;rcases a with a|a|a
 ·unfold ah at a;rw[b]at a;injection a with a;injection a with _ e;exact g e
 ·unfold ah at a;rw[b]at a;injection a with a;injection a with _ e;exact i e
 ·unfold ah at a;rw[b]at a;injection a with a;injection a with _ e;exact k e
theorem CZ(w:World)(H0 gf bm most stamp gd kd nd gl kl nl l c m b:Nat)(da la:List UInt8)(vd vl:Value)(h:lh w H0 gf bm most stamp da la gd kd nd gl kl nl vd vl)(t:la.length<=24)(n:most<=65536)(C:kd+kl<=most)(u:nl<=2000000)(v:stamp<=1000000)(x:b<=nl) (D:0<c) (y:c<=m) (z:m<=9223372036854775807) (r:c<=1000000) (o:(max nl (b+c)+63)/64-kl<=most-kd-kl) (d:BK w l c):Calls Tryz.prog 137 #[.pointer (some ⟨gf,0,none⟩),.string (str la),.int .i64 (b:Int),.slice (some ⟨l,0,none⟩) c m] w λe w'=>e=.returned (.int .i64 0)/\
  Hid (∃A,lh w' H0 gf bm most (stamp+1) da la gd kd nd gl (max kl ((max nl (b+c)+63)/64)) (max nl (b+c)) vd A/\qb w w'/\Fr H0 gf bm w w'):=by
 have s:l<w.heap.size:=(Array.getElem?_eq_some_iff.1 d.2.choose_spec.choose_spec.choose_spec.1).1;refine(tj w 0 gf bm most stamp gd kd nd gl kl nl gl kl nl l 0 c m b da la la vd vl vl h.fs h.fd h.fl (.inr ⟨rfl,rfl⟩) t h.fl n C (by omega) u v (zero_le _) x D y z r o s (λe=>d.not (h.xn e) rfl) (λe=>d.not h.CY e) (λi E=>by rw[Nat.zero_add];exact d.1 i E)).mono ?_;rintro e w' ⟨rfl,F,G,H,p,B⟩;refine⟨rfl,J ⟨G,⟨F,h.fd.only p ?_ ?_,H,h.hd,⟨h.hl.1,λj a=>?_⟩,h.ne,λj a e=>?_,aO h.sz p.size⟩,p.mono λj a d=>?_,p.mono λj a d=>?_⟩⟩
 ·rintro(e|e|e)
  ·exact(h.fd.CW h.fs).1 e.symm
  ·exact h.ne e
  ·exact absurd e (λe=>by obtain⟨xs,f,_⟩:=h.fl.row;obtain⟨st,g⟩:=h.fd.st;exact au f g (by decide) e)
 ·rintro j a (e|e|e)
  ·exact(h.fd.CW h.fs).2 (by rw[a,e])
  ·obtain⟨xs,f,_⟩:=h.fd.row;obtain⟨st,g⟩:=h.fl.st;exact au f g (by decide) (by rw[a,e])
  ·exact h.ap j a e
 ·rcases B with e|⟨q,e,K⟩
  ·exact h.hl.2 j (by rw[<-e];exact a)
  ·rw[a]at e;injection e with e;have:=h.sz;omega
 ·rcases B with k|⟨q,k,K⟩
  ·exact h.ap j a (by rw[<-k];exact e)
  ·rw[e]at k;injection k with k;obtain⟨xs,f,_⟩:=h.fd.row;obtain⟨L,g⟩:=jj f a;have:=g.lt;omega
 ·rcases d with rfl|rfl|e
  ·exact h.CX
  ·exact h.CY
  ·exact h.xn e
 ·rcases d with rfl|rfl|e
  ·exact .inl rfl
  ·exact .inr (.inr h.hl.1)
  ·exact .inr (.inr (h.hl.2 j e))
theorem JQ(w:World)(H0 gf bm most stamp gd kd nd gl kl nl l c m b:Nat)(da la:List UInt8)(vd vl:Value)(h:lh w H0 gf bm most stamp da la gd kd nd gl kl nl vd vl)(t:da.length<=24)(n:most<=65536)(C:kd+kl<=most)(u:nd<=2000000)(v:stamp<=1000000)(x:b<=nd) (D:0<c) (y:c<=m) (z:m<=9223372036854775807) (r:c<=1000000) (o:(max nd (b+c)+63)/64-kd<=most-kd-kl) (d:BK w l c):Calls Tryz.prog 137 #[.pointer (some ⟨gf,0,none⟩),.string (str da),.int .i64 (b:Int),.slice (some ⟨l,0,none⟩) c m] w λe w'=>e=.returned (.int .i64 0)/\
  Hid (∃A,lh w' H0 gf bm most (stamp+1) da la gd (max kd ((max nd (b+c)+63)/64)) (max nd (b+c)) gl kl nl A vl/\qb w w'/\Fr H0 gf bm w w'):=by
 have s:l<w.heap.size:=(Array.getElem?_eq_some_iff.1 d.2.choose_spec.choose_spec.choose_spec.1).1;refine(tj w 0 gf bm most stamp gd kd nd gl kl nl gd kd nd l 0 c m b da la da vd vl vd h.fs h.fd h.fl (.inl ⟨rfl,rfl⟩) t h.fd n C (by omega) u v (zero_le _) x D y z r o s (λe=>d.not (h.xm e) rfl) (λe=>d.not h.Hk e) (λi E=>by rw[Nat.zero_add];exact d.1 i E)).mono ?_;rintro e w' ⟨rfl,F,G,H,p,B⟩;refine⟨rfl,J ⟨G,⟨F,H,h.fl.only p ?_ ?_,⟨h.hd.1,λj a=>?_⟩,h.hl,h.ne,λj a e=>?_,aO h.sz p.size⟩,p.mono λj a d=>?_,p.mono λj a d=>?_⟩⟩
 ·rintro(e|e|e)
  ·exact(h.fl.CW h.fs).1 e.symm
  ·exact h.ne e.symm
  ·obtain⟨xs,f,_⟩:=h.fd.row;obtain⟨st,g⟩:=h.fl.st;exact au f g (by decide) e
 ·rintro j a (e|e|e)
  ·exact(h.fl.CW h.fs).2 (by rw[a,e])
  ·obtain⟨xs,f,_⟩:=h.fl.row;obtain⟨st,g⟩:=h.fd.st;exact au f g (by decide) (by rw[a,e])
  ·exact h.ap j e a
 ·rcases B with e|⟨q,e,K⟩
  ·exact h.hd.2 j (by rw[<-e];exact a)
  ·rw[a]at e;injection e with e;have:=h.sz;omega
 ·rcases B with k|⟨q,k,K⟩
  ·exact h.ap j (by rw[<-k];exact a) e
  ·rw[a]at k;injection k with k;obtain⟨xs,f,_⟩:=h.fl.row;obtain⟨L,g⟩:=jj f e;have:=g.lt;omega
 ·rcases d with rfl|rfl|e
  ·exact h.CX
  ·exact h.Hk
  ·exact h.xm e
 ·rcases d with rfl|rfl|e
  ·exact .inl rfl
  ·exact .inr (.inr h.hd.1)
  ·exact .inr (.inr (h.hd.2 j e))
theorem Lh(w:World)(H0 gf bm most stamp gd kd nd gl kl nl:Nat)(da la:List UInt8)(vd vl:Value)(h:lh w H0 gf bm most stamp da la gd kd nd gl kl nl vd vl)(d:la.length<=24)(f:kl<=100000):Calls Tryz.prog 138 #[.pointer (some ⟨gf,0,none⟩),.string (str la)] w λe w'=>e=.returned (.int .i64 0)/\Hid (lh w' H0 gf bm most stamp da la gd kd nd gl kl nl vd vl/\qb w w'/\Fr H0 gf bm w w'):=by refine(zu w 0 gf bm most stamp gl kl nl da la la (some gd) (some gl) vl h.fs (.inr ⟨rfl,rfl⟩) d h.fl f).mono ?_;rintro e w' ⟨rfl,g,i,a⟩;refine⟨rfl,J ⟨⟨g,h.fd.only a (λe=>?_) (λj b e=>h.ap j b e),i,h.hd,h.hl,h.ne,h.ap,aO h.sz a.size⟩,a.mono λj b c=>h.xn c,a.mono λj b c=>.inr (.inr (h.hl.2 j c))⟩⟩;obtain⟨xs,k,_⟩:=h.fl.row;obtain⟨st,l⟩:=h.fd.st;exact au k l (by decide) e
theorem Li(w:World)(H0 gf bm most stamp gd kd nd gl kl nl:Nat)(da la:List UInt8)(vd vl:Value)(h:lh w H0 gf bm most stamp da la gd kd nd gl kl nl vd vl)(d:da.length<=24)(f:kd<=100000):Calls Tryz.prog 138 #[.pointer (some ⟨gf,0,none⟩),.string (str da)] w λe w'=>e=.returned (.int .i64 0)/\Hid (lh w' H0 gf bm most stamp da la gd kd nd gl kl nl vd vl/\qb w w'/\Fr H0 gf bm w w'):=by refine(zu w 0 gf bm most stamp gd kd nd da la da (some gd) (some gl) vd h.fs (.inl ⟨rfl,rfl⟩) d h.fd f).mono ?_;rintro e w' ⟨rfl,g,i,a⟩;refine⟨rfl,J ⟨⟨g,i,h.fl.only a (λe=>?_) (λj b e=>h.ap j e b),h.hd,h.hl,h.ne,h.ap,aO h.sz a.size⟩,a.mono λj b c=>h.xm c,a.mono λj b c=>.inr (.inr (h.hd.2 j c))⟩⟩;obtain⟨xs,k,_⟩:=h.fd.row;obtain⟨st,l⟩:=h.fl.st;exact au k l (by decide) e
theorem Mb(w:World)(H0 gf bm most stamp gd kd nd gl kl nl:Nat)(da la:List UInt8)(vd vl:Value)(h:lh w H0 gf bm most stamp da la gd kd nd gl kl nl vd vl)(b:la.length<=24)(c:stamp<=1000000):Calls Tryz.prog 95 #[.pointer (some ⟨gf,0,none⟩),.string (str la),.int .i64 0] w λe w'=>e=.returned (.int .i64 0)/\Hid (qb w w'/\Fr H0 gf bm w w'):=by
 refine(Hj w 0 gf bm most stamp gl kl nl da la la (some gd) (some gl) vl h.fs (.inr ⟨rfl,rfl⟩) b h.fl c).mono ?_;rintro e w' ⟨rfl,d⟩;refine⟨rfl,J ⟨d.mono λj f a=>?_,d.mono λj f a=>?_⟩⟩
 ·rcases a with rfl|rfl
  ·exact h.CX
  ·exact h.CY
 ·rcases a with rfl|rfl
  ·exact .inl rfl
  ·exact .inr (.inr h.hl.1)
end Go.Proofs.YtajdeapdgbnahaaGreatDoor
