/-
  Contracts of the pager's page, change.
-/
import Derived.Test.YtajdeapdgbnahaaGreatDoorCyGr5
import Derived.Test.YtajdeapdgbnahaaGreatDoorCyGr12
import Derived.Deep.RegionLaw
namespace Go.Proofs.YtajdeapdgbnahaaGreatDoor
set_option linter.unusedVariables false
set_option maxRecDepth 100000
set_option maxHeartbeats 1000000
open Go.RowKit Go.Maps
open List Nat
def Ke(F:Nat->Prop)(w:World)(b:Nat)(st:aB)(no:Nat)(e:Ending)(w':World):Prop:=∃a g c,e=.returned (.tuple #[.slice (some ⟨g,0,none⟩) 508 c,.int .i64 0])/\ar w' a b st/\Ev F w a w'/\a g/\OB w' 0 (.slice (some ⟨g,0,none⟩) 508 c) 508 (st.page no)
theorem Ad(w:World)(F:Nat->Prop)(a:Nat)(st:aB)(h:ar w F a st)(no:Nat)(i:st.has no):Calls Tryz.prog 97 #[.pointer (some ⟨a,0,none⟩),.int .i64 (no:Int)] w (Ke F w a st no):=by
 obtain⟨k,U,m,l,q,b,n⟩:=h.mem;have r:w.cell? ⟨a,22,none⟩=some (.map (some k)):=l.cell 22;obtain⟨g,c,d,p,f⟩:=n no i (λe=>by have:=i.1;omega);have j:=b.look no (by have:=i.2;have:=h.most;omega) (by omega);rw[d]at j;have s:(Instr.lookup 109 (.map (some k)) (.int .i64 (no:Int)) true).run Tryz.prog w=.ok (.tuple #[.slice (some ⟨g,0,none⟩) 508 c,.bool true]) w:=j;clear j l n;refine bz ?_ h b d f;clear h b d f;intro h b d f;go_enter Tryz.func97,Tryz.ntmps97;go_wp2_with fail
 go_ret2
 exact⟨F,g,c,rfl,h.o,Ev.refl F w,p,f.o⟩
theorem OB.rb{w:World}{base n g c:Nat}{l:List UInt8}(h:OB w base (.slice (some ⟨g,0,none⟩) n c) n l):RB w w.heap.size (some ⟨g,0,none⟩) n l/\n<=c/\c<=maxLen:=by obtain⟨A,f,e,a,_,b,d⟩:=h.form;cases e;exact⟨a,b,d⟩
theorem LH(n:Nat):(bv (bt n)).toArray=madeCells (Value.int .u8 0).cells (n*1):=by
 apply Array.ext
 ·simp[madeCells,bv,bt]
 ·intro i a b;simp[madeCells,bv,bt,Value.cells,mod_one]
theorem kP(w:World)(n:Nat)(e:n<=508):(Instr.makeSlice 23 (.int .i64 (n:Int)) (.int .i64 508)).run Tryz.prog w=.ok (.slice (some ⟨w.heap.size,0,none⟩) n 508) (w.alloc (.cells (bv (bt 508)).toArray 5)):=by obtain⟨i0,a,b,c,d⟩:=info_parts eB;have h:=tX (P:=Tryz.prog) 23 5 i0 (.int .u8 0) Tryz.underlying23 a b .i64 .i64 n 508 e (by rw[d];omega) (by omega) w;rw[c]at h;rw[LH];exact h
def E9(F:Nat->Prop)(w:World)(b:Nat)(st:aB)(no:Nat)(l:List UInt8)(e:Ending)(w':World):Prop:=e=.returned (.tuple #[])/\∃a,ar w' a b (st.rN no l)/\Ev F w a w'
theorem ma(x:Nat)(w:World)(F:Nat->Prop)(f:Nat)(st:aB)(h:yT x w F f st)(no:Nat)(L:x=0\/x=no)(a3:st.has no)(A:Option Addr)(c:Nat)(l:List UInt8)(M:RB w w.heap.size A 508 l):Calls Tryz.prog 156 #[.pointer (some ⟨f,0,none⟩),.int .i64 (no:Int),.slice A 508 c] w (E9 F w f st no l):=by
 obtain⟨q,U,m,r,D,s,Y⟩:=h.mem;have a9:=M.len;obtain⟨i0,ab,ac,ad,ae⟩:=info_parts eB;have af:w.cell? ⟨f,22,none⟩=some (.map (some q)):=r.cell 22;have E:=r.lt;have al:=s.lt;obtain⟨Z,z⟩:∃Z:Array Value,Z=(bv (bt 508)).toArray:=⟨_,rfl⟩;have ba:∀t:World,(Instr.makeSlice 23 (.int .i64 0) (.int .i64 508)).run Tryz.prog t=.ok (.slice (some ⟨t.heap.size,0,none⟩) 0 508) (t.alloc (.cells Z 5)):=λt=>by rw[z];exact kP t 0 (by omega)
 have u:OB (w.drew.alloc (.cells Z 5)) w.heap.size (.slice (some ⟨w.heap.size,0,none⟩) 0 508) 0 []:=by refine⟨by simp[bv],.inr ⟨w.heap.size,508,Z,rfl,aa _,heap_alloc_new w.drew _,by omega,by simp[maxLen],?_,by simp[bv]⟩⟩;rw[z];simp[bv,bt]
 obtain⟨a4,v,N,n,G,am⟩:=bN (P:=Tryz.prog) (w.drew.alloc (.cells Z 5)) w.heap.size 23 23 5 i0 _ 1 1 Tryz.underlying23 ab ac ad ae rfl (by omega) _ 0 (bv []) u w.heap.size A 508 c (bv l)
  ((M.drew).alloc (by exact aa _) _) (kU _) (by simp[maxLen]) (by omega) (by simp)
 have i:OB v w.heap.size a4 508 l:=by have:=n;unfold OB;simpa[bv]using this
 have a:Below w.heap.size w v:=(((Below.refl w.heap.size w).drew).alloc (aa _) (.cells Z 5)).grown G (by simp) (λk b=>by simp[Value.ownBlock]at b;omega);rcases i.parts with⟨_,B,_⟩|⟨g,cap,rfl,bb,bc⟩
 ·omega
 have bi:w.heap.size<=g:=i.wU;have bd:v.cell? ⟨f,22,none⟩=some (.map (some q)):=(a.cell (p:=⟨f,22,none⟩) E).trans af;obtain⟨C,a2,H,d⟩:=(s.keep (a.block q al)).update no (by have:=a3.2;have:=h.most;omega) (by omega) (.slice (some ⟨g,0,none⟩) 508 cap);have O:Ev F w (plus F g) C:=⟨((Ev.ag (F:=F) a).grown d (λk b=>by cases b;exact D)).only,λk (b:F k\/k=g)=>b.elim .inl λe=>.inr (by omega)⟩;have Q:q≠g:=by omega
 have S:g<v.heap.size:=by
  rcases i.2 with⟨B,_⟩|⟨a5,T,K,V,_,W,_⟩
  ·cases B
  ·cases V;exact ah.lt W
 have an:ar C (plus F g) f (st.rN no l):=by
  refine⟨h.one,h.most,λk b=>?_,.inl h.own,q,U,_,?_,.inl D,H,λj a6 be=>?_⟩
  ·have ao:=O.size;have X:=d.size;rcases b with b|b
   ·have:=h.lt k b;omega
   ·omega
  ·have ap:ah v f 115 (Lb q st U):=(a.block f E).trans r;exact ap.grown d (λe=>by injection e with e;exact s.ne r e.symm)
  ·unfold mq;by_cases e:j=no
   ·subst e;rw[if_pos rfl];refine⟨g,cap,rfl,.inr rfl,?_⟩;show OB C 0 _ 508 (if j=j then l else st.page j);rw[if_pos rfl];exact(i.more (zero_le _)).same (d.block g S (λe=>by injection e with e;exact Q e.symm))
   ·rw[if_neg e];obtain⟨g1,a7,ao,X,a0⟩:=Y j a6 (λbj=>by rcases L with L|L<;>omega);refine⟨g1,a7,ao,.inl X,?_⟩;show OB C 0 _ 508 (if j=no then l else st.page j);rw[if_neg e];have a1:=h.lt g1 X;have a8:=a0.same (a.block g1 a1);exact a8.same (d.block g1 (by have:=a.size;omega) (λe=>by
     injection e with e;rcases a0.2 with⟨B,_⟩|⟨a5,T,K,V,_,W,_⟩
     ·cases B
     ·cases V;exact s.ne (show ah w g1 5 K from W) e.symm))
 have y:=J (And.intro an O);clear an O n G am a i d H s Y r u M;replace h:=J h;replace z:=J z;go_enter Tryz.func156,Tryz.ntmps156;go_region_law(refine Lib.wp_append_run _ (.tmp 11) (.tmp 12) 23 23 rfl _ _ rfl rfl _ _ N ?_)
 all_goals
  go_end0
  exact⟨rfl,_,y.o.1,y.o.2⟩
theorem tU(A:Option Addr)(n c:Nat)(xs:List UInt8)(w:World)(a:RB w w.heap.size A n xs)(q:n<=140737488351232):Calls Tryz.prog 157 #[.slice A n c] w (dH w xs):=by
 have i:=λj=>Lib.run_eql_slice_nil (P:=Tryz.prog) j 23 5 A n c 0 0 Tryz.underlying23;rcases A with _|e
 ·have f:n=0:=by
   rcases eq_zero_or_pos n with d|d
   ·exact d
   ·obtain⟨e,h,_⟩:=a.2 d;cases h
  subst f;have k:xs=[]:=bT a.len;subst k;clear a;go_enter Tryz.func157,Tryz.ntmps157;go_wp2;go_ret;exact dH.mk (OB.nil _ _) (Below.refl _ _)
 ·have l:=J a;clear a;go_enter Tryz.func157,Tryz.ntmps157;go_wp2_with(at_builtin;refine eF rfl (.tmp 5) (.tmp 6) rfl w.heap.size _ 0 [] (OB.empty w (aa _)) rfl w.heap.size (some e) n c xs rfl (l.o.alloc (aa _) _) (by omega) (by simp) ?_;intro v1 r b g p m);go_ret;exact dH.mk b (((Below.refl _ _).alloc (aa _) _).trans g)
theorem yT.Gu{x o:Nat}{w:World}{F:Nat->Prop}{b:Nat}{st:aB}(h:yT x w F b st)(i:Nat)(v:Value)(st':aB)(d:∀a U,(Lb a st U).setIfInBounds i v=Lb a st' U)(f:1<=st'.many)(k:st'.many<=65536)(p:∀no,st'.has no->no≠o->st.has no/\no≠x/\st'.page no=st.page no):yT o (w.setCell ⟨b,i,none⟩ v) F b st':=by
 obtain⟨a,U,m,l,t,q,u⟩:=h.mem;have r:=q.ne l;refine⟨f,k,λj n=>by have:=h.lt j n;simpa[World.setCell]using this,h.own,a,U,m,?_,t,q.keep (Below.heap_setCell w _ _ _ r),λj n y=>?_⟩
 ·have:=l.aK i v;rw[d]at this;exact this
 ·obtain⟨z,A,B⟩:=p j n y;obtain⟨g,c,f,k,s⟩:=u j z A;refine⟨g,c,f,k,?_⟩;rw[B];exact s.same (Below.heap_setCell w _ _ _ (λe=>au s l (by decide) (by rw[e];rfl)))
theorem yT.alloc{x:Nat}{w:World}{F:Nat->Prop}{a:Nat}{st:aB}(h:yT x w F a st)(o:Obj):yT x (w.alloc o) F a st:=h.keep (λk b=>Below.heap_alloc w o k (h.lt k b)) (by simp)
theorem C9(w:World)(n:Nat):RB (w.alloc (.cells (bv (bt n)).toArray 5)) (w.heap.size+1) (some ⟨w.heap.size,0,none⟩) n (bt n):=by
 refine⟨by rw[dn,ez,Nat.mul_one],λ_=>⟨_,rfl,lt_succ_self _,λj u b=>?_⟩⟩;have c:=ah.new w 5 (bv (bt n)).toArray;have e:(Addr.mk w.heap.size 0 none).add j=⟨w.heap.size,j,none⟩:=by
  unfold Addr.add;by_cases a:j=0
  ·subst a;rfl
  ·rw[if_neg a];simp
 rw[e,c.cell];simpa using b
theorem RN.rM(w:World)(x:Nat)(t:TypeId):RN (w.alloc (.cells #[.int .i64 (x:Int)] t)) (w.alloc (.cells #[.int .i64 (x:Int)] t)).heap.size (some ⟨w.heap.size,0,none⟩) 1 [x]:=by
 refine⟨by simp,λ_=>⟨_,rfl,by simp,λj u a=>?_⟩⟩
 match j,a with
 |0,a=>simp[encI]at a;subst a;simp[Addr.add]
def jW(F:Nat->Prop)(w:World)(a:Nat)(st:aB):Ending->World->Prop:=cG F w a (aW st) (.tuple #[.int .i64 (aG st:Int),.int .i64 0])
theorem Fb(w:World)(F:Nat->Prop)(a:Nat)(st:aB)(h:ar w F a st)(d:st.free=0)(D:st.many<65536):Calls Tryz.prog 100 #[.pointer (some ⟨a,0,none⟩)] w (jW F w a st):=by
 obtain⟨M,l⟩:=I (st.many+1);obtain⟨Z,f⟩:∃Z:Array Value,Z=(bv (bt 508)).toArray:=⟨_,rfl⟩;have z:∀g:World,(Instr.makeSlice 23 (.int .i64 508) (.int .i64 508)).run Tryz.prog g=.ok (.slice (some ⟨g.heap.size,0,none⟩) 508 508) (g.alloc (.cells Z 5)):=λg=>by rw[f];exact kP g 508 (by omega)
 have n:yT st.many (w.setCell ⟨a,2,none⟩ (.int .i64 (M:Int))) F a { st with many:=M }:=h.Gu 2 _ { st with many:=M } (λ_ _=>rfl) (by show 1<=M;omega) (by show M<=65536;omega) (λno s E=>⟨⟨s.1,by have G:no<M:=s.2;omega⟩,by have:=s.1;omega,rfl⟩)
 have i:=ma st.many ((w.setCell ⟨a,2,none⟩ (.int .i64 (M:Int))).alloc (.cells Z 5)) F a { st with many:=M } (n.alloc _) st.many (.inr rfl) ⟨h.one,by show st.many<M;omega⟩ (some ⟨w.heap.size,0,none⟩) 508 (bt 508) (by have u:=C9 (w.setCell ⟨a,2,none⟩ (.int .i64 (M:Int))) 508;rw[f];simpa[World.setCell]using u)
 replace i:=J i;have q:Ev F w F ((w.setCell ⟨a,2,none⟩ (.int .i64 (M:Int))).alloc (.cells Z 5)):=((Ev.refl F w).aK (p:=⟨a,2,none⟩) h.own _).az _;have v:=J (wX 0 w F a st h);have A:(w.setCell ⟨a,2,none⟩ (.int .i64 (M:Int))).heap.size=w.heap.size:=by simp[World.setCell]
 have b:aW st=({ st with many:=M }:aB).rN st.many (bt 508):=by unfold aW;rw[if_pos d,l];rfl
 have c:aG st=st.many:=by unfold aG;rw[if_pos d]
 obtain⟨H,U,m,r,B,t,x⟩:=h.mem;have K:w.cell? ⟨a,2,none⟩=some (.int .i64 (st.many:Int)):=r.cell 2;have L:w.cell? ⟨a,3,none⟩=some (.int .i64 0):=by rw[r.cell 3];show some (Value.int .i64 (st.free:Int))=_;rw[d];rfl
 have N:=r.frozen 2;have O:(st.many:Int)+1=(M:Int):=by omega
 have C:((st.many:Int)==65536)=false:=by rw[aZ];omega
 unfold jW;rw[c,b];refine dS ?_ l f q b c d h n;clear l f q b c d h n;intro l f q b c d h n;clear r t x;go_enter Tryz.func100,Tryz.ntmps100;go_wp2_with fail;refine v.o.mono ?_;rintro e P ⟨rfl,rfl⟩;go_wp2_with fail;refine i.o.mono ?_;rintro e Q ⟨rfl,y,j,k⟩;replace j:=J j;replace k:=J k;go_wp2_with fail
 go_ret2
 exact⟨rfl,y,j.o,q.o.trans k.o⟩
theorem alloc_old(w:World)(F:Nat->Prop)(a:Nat)(st:aB)(h:ar w F a st)(z:st.free≠0)(N:st.free<st.many):Calls Tryz.prog 100 #[.pointer (some ⟨a,0,none⟩)] w (jW F w a st):=by
 obtain⟨f,j⟩:=I (st.free);obtain⟨M,A⟩:=I (fH ((st.page st.free).take 4));obtain⟨Z,B⟩:∃Z:Array Value,Z=(bv (bt 508)).toArray:=⟨_,rfl⟩;have ac:∀C:World,(Instr.makeSlice 23 (.int .i64 508) (.int .i64 508)).run Tryz.prog C=.ok (.slice (some ⟨C.heap.size,0,none⟩) 508 508) (C.alloc (.cells Z 5)):=λC=>by rw[B];exact kP C 508 (by omega)
 have L:=J (Ad w F a st h f ⟨by omega,by omega⟩);have V:=J (wX 0 w F a st h);have l:aW st=({ st with free:=M }:aB).rN f (bt 508):=by unfold aW;rw[if_neg z,A,j];rfl
 have n:aG st=f:=by unfold aG;rw[if_neg z,j]
 have H:=h.most;have O:=h.one;obtain⟨am,U,m,Q,ad,S,W⟩:=h.mem;have an:w.cell? ⟨a,3,none⟩=some (.int .i64 (f:Int)):=by rw[Q.cell 3,j];rfl
 have ae:((f:Int)==0)=false:=by rw[aZ];omega
 have q:1<=f/\f<st.many:=by omega
 unfold jW;rw[n,l];refine ik ?_ j A B l n z h N q;clear j A B l n z h N q;intro j A B l n z h N q;clear Q S W;go_enter Tryz.func100,Tryz.ntmps100;go_wp2_with fail;refine V.o.mono ?_;rintro e ao ⟨rfl,rfl⟩;go_wp2_with fail;refine L.o.mono ?_;rintro e X ⟨P,g,c,rfl,r,s,af,t⟩;have D:=t.rb;have b:=jR X (some ⟨g,0,none⟩) 508 c 0 4 (st.page f) D.1 D.2.1 (by omega) (by omega) (by omega) (by omega);rw[drop_zero,j.o,<-A.o]at b;refine bz ?_ b r s t;clear b r s t;intro b r s t;clear D L;go_wp2_with fail;refine b.o.mono ?_;rintro e y ⟨rfl,i⟩;have d:=r.o.below i;have u:=s.o.below i;have K:ar (y.setCell ⟨a,3,none⟩ (.int .i64 (M:Int))) P a { st with free:=M }:=yT.Gu d 3 _ { st with free:=M } (λ_ _=>rfl) O H (λno T ap=>⟨T,by have:=T.1;omega,rfl⟩)
 have v:Ev F w P ((y.setCell ⟨a,3,none⟩ (.int .i64 (M:Int))).alloc (.cells Z 5)):=(u.aK (p:=⟨a,3,none⟩) d.own _).az _;have x:=ma 0 ((y.setCell ⟨a,3,none⟩ (.int .i64 (M:Int))).alloc (.cells Z 5)) P a { st with free:=M } (K.alloc _) f (.inl rfl) q.o (some ⟨y.heap.size,0,none⟩) 508 (bt 508) (by have Y:=C9 (y.setCell ⟨a,3,none⟩ (.int .i64 (M:Int))) 508;rw[B.o];simpa[World.setCell]using Y)
 obtain⟨al,a0,m3,k,_⟩:=d.mem;have a1:=k.frozen 3;have a2:y.cell? ⟨a,3,none⟩=some (.int .i64 (st.free:Int)):=k.cell 3;refine dZ ?_ x K v d u i;clear x K v d u i;intro x K v d u i;clear k b;go_wp2_with fail;refine x.o.mono ?_;rintro e a3 ⟨rfl,ab,E,G⟩;replace E:=J E;replace G:=J G;go_wp2_with fail
 go_ret2
 exact⟨rfl,ab,E.o,v.o.trans G.o⟩
theorem uq(w:World)(F:Nat->Prop)(a:Nat)(st:aB)(h:ar w F a st)(c:dU st)(d:st.free<st.many):Calls Tryz.prog 100 #[.pointer (some ⟨a,0,none⟩)] w (jW F w a st):=by
 by_cases b:st.free=0
 ·exact Fb w F a st h b (c.elim (λh=>h.2) (λh=>absurd b h.1))
 ·exact alloc_old w F a st h b d
def Db(F:Nat->Prop)(w:World)(b:Nat)(st:aB)(no:Nat)(e:Ending)(w':World):Prop:=∃a A c,e=.returned (.tuple #[.slice A 508 c,.int .i64 0])/\508<=c/\ar w' a b st/\Ev F w a w'/\MB a w' A 508 (st.page no)
theorem ye(w:World)(F:Nat->Prop)(j:Nat)(st:aB)(h:ar w F j st)(no:Nat)(l:st.has no):Calls Tryz.prog 122 #[.pointer (some ⟨j,0,none⟩),.int .i64 (no:Int)] w (Db F w j st no):=by
 have x:=J (rO 0 w F j st h no 0 (by omega) (by have:=l.2;omega));have p:=J (Ad w F j st h no l);have C:((no:Int)==0)=false:=by rw[aZ];have:=l.1;omega
 replace h:=J h;replace l:=J l;go_enter Tryz.func122,Tryz.ntmps122;go_wp2_with fail;refine x.o.mono ?_;rintro e E ⟨rfl,rfl⟩;go_wp2_with fail;refine p.o.mono ?_;rintro e y ⟨z,g,c,rfl,a,f,D,b⟩;have q:=J (tU (some ⟨g,0,none⟩) 508 c (st.page no) y b.rb.1 (by omega));have m:Hid ((st.page no).length=508):=b.len;refine bf ?_ a f b;clear a f b;intro a f b;go_wp2_with fail;refine q.o.mono ?_;rintro e A ⟨v,rfl,d,i⟩;rw[m.o]at d;obtain⟨r,s,rfl,_,_,t,_⟩:=d.form;have u:=a.o.lt;have n:Hid (Db F w j st no (.returned (.tuple #[.slice r 508 s,.int .i64 0])) A):=⟨z,r,s,rfl,t,a.o.below i,f.o.below i,MB.made d (λk B=>u k B)⟩
 replace d:=J d;replace i:=J i;go_wp2_with fail
 go_ret2
 exact n.o
theorem uo(w:World)(F:Nat->Prop)(p:Nat)(st:aB)(h:ar w F p st)(no:Nat)(l:st.has no)(A:Option Addr)(n c:Nat)(b:List UInt8)(q:RB w w.heap.size A n b)(O:n<=508):Calls Tryz.prog 101 #[.pointer (some ⟨p,0,none⟩),.int .i64 (no:Int),.slice A n c] w (cG F w p (fQ st no b) (.int .i64 0)):=by
 have G:=J (rO 0 w F p st h no 1 (by have:=l.1;omega) (by have:=l.2;omega));have z:=J (tU A n c b w q (by omega));have r:Hid (b.length=n):=q.len;obtain⟨D,m⟩:=I (508-n);have P:(508:Int)-(n:Int)=(D:Int):=by omega
 have Q:(n:Int)<=508:=by omega
 have s:=h.lt;refine bX ?_ h l q m s;clear h l q m s;intro h l q m s;go_enter Tryz.func101,Tryz.ntmps101;go_wp2_with fail;refine G.o.mono ?_;rintro e S ⟨rfl,rfl⟩;go_wp2_with fail;refine z.o.mono ?_;rintro e H ⟨v,rfl,a,d⟩;rw[r.o]at a;obtain⟨v3,B,y,f,i,t⟩:=pU H w.heap.size v n b a D 23 (by have:=m.o;omega) d.size;have g:Below w.heap.size w B:=d.grown i d.size (λk K=>a.iR k K);rw[show n+D=508 from by have:=m.o;omega]at f;obtain⟨L,M,rfl,j,_⟩:=f.form;have C:=J (ma 0 B F p st (h.o.below g) no (.inl rfl) l.o L M _ j);have E:Hid (fQ st no b=st.rN no (b++bt D)):=by unfold fQ;rw[r.o,<-m.o];rfl
 refine eD ?_ a d f i t g j;clear a d f i t g j;intro a d f i t g j;go_wp2_with(at_builtin;refine Lib.wpList_append_run _ rfl (.tmp 20) (.tmp 23) 23 3 rfl _ _ rfl rfl _ _ y ?_);refine C.o.mono ?_;rintro e T ⟨rfl,N,u,x⟩;replace u:=J u;replace x:=J x;go_wp2_with fail;go_ret;exact⟨rfl,N,by rw[E.o];exact u.o,(Ev.ag g.o).trans x.o⟩
theorem o7(w:World)(F:Nat->Prop)(a:Nat)(st:aB)(h:ar w F a st)(no:Nat)(t:st.has no)(Y:st.free<st.many):Calls Tryz.prog 112 #[.pointer (some ⟨a,0,none⟩),.int .i64 (no:Int)] w (cG F w a (eO st no) (.int .i64 0)):=by
 have P:=J (rO 0 w F a st h no 1 (by have:=t.1;omega) (by have:=t.2;omega));have y:=h.most;have B:=h.one;obtain⟨Z,U,m,D,W,E,Q⟩:=h.mem;have ab:w.cell? ⟨a,3,none⟩=some (.int .i64 (st.free:Int)):=D.cell 3;have i:=eX (w.alloc (.cells #[.int .i64 (st.free:Int)] 3)) none (some ⟨w.heap.size,0,none⟩) 0 0 1 1 4 [] [st.free] (RB.nil _ _) (RN.rM w st.free 3) (by omega) (by omega) (by omega) (by omega) (by simp;omega);replace i:=J i;have u:=h.lt;refine bf ?_ h t u;clear h t u;intro h t u;clear D E Q;go_enter Tryz.func112,Tryz.ntmps112;go_wp2_with fail;refine P.o.mono ?_;rintro e ac ⟨rfl,rfl⟩;go_wp2_with fail;refine i.o.mono ?_;rintro e S ⟨v,rfl,b,c⟩;have z:([]++bP 4 [st.free]).length=4:=by simp[bP,bq]
 rw[z]at b;obtain⟨v3,G,C,n,q,x⟩:=pU S _ v 4 _ b 504 23 (by omega) c.size;have f:Below w.heap.size w G:=(((Below.refl w.heap.size w).alloc (aa _) (.cells #[.int .i64 (st.free:Int)] 3)).trans (c.mono (by simp))).grown q (by have:=c.size;simp at this;omega) (λk T=>by have:=b.iR k T;simp at this;omega);obtain⟨V,H,rfl,g,_⟩:=n.form;have K:Hid ([]++bP 4 [st.free]++bt 504=leB 4 st.free++bt 504):=by simp[bP,J]
 rw[K.o]at g;have L:=J (ma 0 G F a st (h.o.below f) no (.inl rfl) t.o V H _ g);refine dS ?_ b c n q x f g z;clear b c n q x f g z;intro b c n q x f g z;go_wp2_with(at_builtin;refine Lib.wpList_append_run _ rfl (.tmp 20) (.const (.int .i64 504)) 23 3 rfl _ _ rfl rfl _ _ C ?_);refine L.o.mono ?_;rintro e M ⟨rfl,N,d,r⟩;have A:ar (M.setCell ⟨a,3,none⟩ (.int .i64 (no:Int))) N a (eO st no):=yT.Gu d 3 _ (eO st no) (λ_ _=>rfl) B y (λj O ad=>⟨O,by have:=O.1;omega,rfl⟩)
 have s:=r.aK (p:=⟨a,3,none⟩) d.own (.int .i64 (no:Int));obtain⟨X,ae,m3,l,_⟩:=d.mem;have af:=l.frozen 3;have al:M.cell? ⟨a,3,none⟩=some (.int .i64 (st.free:Int)):=l.cell 3;refine bz ?_ d r A s;clear d r A s;intro d r A s;clear l;go_wp2_with fail;go_ret;exact⟨rfl,N,A.o,(Ev.ag f.o).trans s.o⟩
end Go.Proofs.YtajdeapdgbnahaaGreatDoor
