/- Walk of CatTwice. -/
import Derived.Test.YtajdeapdgbnahaaGreatDoorCyWkB
import Derived.Test.YtajdeapdgbnahaaGreatDoorCyGr39
namespace Go.Proofs.YtajdeapdgbnahaaGreatDoor
set_option linter.unusedVariables false
set_option maxRecDepth 100000
set_option maxHeartbeats 8000000
open Go.RowKit Go.Maps
open List Nat
def oH:List UInt8:=[99,97,116]
theorem Mm:mL (ku oH):=⟨by decide,by decide,by decide⟩
theorem Mn:mL (dB oH):=⟨by decide,by decide,by decide⟩
def Lu(a:Nat->Nat)(k j:Nat):Value:=if j<k then .pointer (some ⟨a j,0,none⟩)else .pointer none
def Lv(c:Nat)(a:Nat->Nat)(k:Nat):Array Value:=#[.pointer (some ⟨c,0,none⟩),Lu a k 0,Lu a k 1,Lu a k 2,Lu a k 3,Lu a k 4,Lu a k 5,Lu a k 6]
theorem IM(a:Nat)(c:Nat->Nat)(k t:Nat)(d:k<7):(Lv a c k).setIfInBounds (1+k) (.pointer (some ⟨t,0,none⟩))=Lv a (λj=>if j=k then t else c j) (k+1):=by
 match k,d with
 |0,_|1,_|2,_|3,_|4,_|5,_|6,_=>rfl
def J7(w:World)(gc d:Nat)(F:Nat->Prop)(k:Nat)(a:World):Prop:=∃c:Nat->Nat,ah a gc 69 (Lv d c k)/\(∀j,j<k->ah a (c j) 119 #[.pointer (some ⟨d,0,none⟩),.int .i64 j]/\¬F (c j))/\Below w.heap.size w a
def IP(w:World)(c d:Nat)(e:Ending)(w':World):Prop:=∃gc a F f,e=.returned (.tuple #[.pointer (some ⟨gc,0,none⟩),.int .i64 0])/\fD w' F gc a f/\ar w' F a hd1/\R (λk=>k=c\/k=d) w w'/\(∀k,F k->w.heap.size<=k)/\w.heap.size<=gc
theorem vG(w:World)(u D m n:Nat)(h:dY w 0 u D m n (ku oH) (dB oH) none none)(z:m<=65536)(G:17<=m)(O:n<=100):Calls Tryz.prog 6 #[.pointer (some ⟨u,0,none⟩)] w (IP w u D):=by
 have P:=J (IK w u D m n oH h Mm Mn (by decide) (by decide) z G O);replace h:=J h;clear z G O;go_enter Tryz.func6,Tryz.ntmps6;go_wp2_with fail;refine P.o.mono ?_;rintro e c ⟨d,ae,a0,rfl,g1,a1,A,B,s⟩;have g:=Ml A B;obtain⟨F,hF⟩:∃F:Nat->Prop,F=(λk=>k=d\/k=ae):=⟨_,rfl⟩;rw[<-hF]at g;have C:∀k,F k->w.heap.size<=k:=λk x=>by rw[hF]at x;rcases x with rfl|rfl<;>omega
 have f:=g.lt;obtain⟨gc,i⟩:=I (c.heap.size);obtain⟨af,l⟩:=I (c.alloc (.cells #[.pointer (some ⟨d,0,none⟩),.pointer none,.pointer none,.pointer none,.pointer none,.pointer none,.pointer none,.pointer none] 69));have H:Hid (J7 c gc d F 0 af):=J ⟨λ_=>0,by rw[l,i];exact ah.new c 69 _,λj K=>absurd K (by omega),by rw[l];exact(Below.refl _ c).alloc (aa _) _⟩;have T:Hid (∀W,J7 c gc d F 7 W->IP w u D (.returned (.tuple #[.pointer (some ⟨gc,0,none⟩),.int .i64 0])) W):=J (by
  rintro W ⟨L,t,y,r⟩;have X:¬F gc:=λa=>by have:=f _ a;omega
  have Y:ar W F d hd1:=g.below r;refine⟨gc,d,F,L,rfl,⟨t,X,λk x=>⟨(y k x).1,(y k x).2⟩⟩,Y,?_,C,by have:=s.size;omega⟩;have al:R (λk=>k=u\/k=D) w c:=(R.refl _ w).trans s (λk x a=>by
   rcases a with a|a|a
   ·exact .inl a
   ·exact .inr a
   ·omega)
  exact al.trans (R.ag (S:=λk=>k=u\/k=D) r) (λ_ _ a=>a))
 refine ik ?_ A B s g hF C f i l;clear A B s g hF C f i l;intro A B s g hF C f i l;clear P;go_upto_region 5 with(fail)
 rw[<-l.o,<-i.o];go_wp2_with fail;go_loopw [19] (λv am=>∃k:Nat,k<=7/\v=.int .i64 k/\Hid (J7 c gc d F k am)) (λv _=>7-(intOf v).toNat)
 case atStart=>exact⟨0,by omega,rfl,H⟩
 case round=>
  obtain⟨k,x,rfl,U⟩:=hrel;clear H;by_cases Z:k<7
  ·obtain⟨L,t,y,r⟩:=U.o;have ab:=J (FH wr.drew d k (by omega));have ao:(k:Int)<7:=by omega
   have ap:(0:Int)<=(k:Int):=by omega
   obtain⟨o,ac⟩:=I (Obj.cells #[.pointer (some ⟨d,0,none⟩),.int .i64 k] 119);have E:=t.alloc o;have a2:(wr.alloc o).frozen? ⟨gc,1+k,none⟩=false:=E.frozen (1+k);obtain⟨a3,a4⟩:∃v,(wr.alloc o).cell? ⟨gc,1+k,none⟩=some v:=by
    rw[E.cell]
    match k,Z with
    |0,_|1,_|2,_|3,_|4,_|5,_|6,_=>exact⟨_,rfl⟩
   have M:Hid (∀W,W=((wr.alloc o).setCell ⟨gc,1+k,none⟩ (.pointer (some ⟨wr.heap.size,0,none⟩))).drew->J7 c gc d F (k+1) W):=J λW ad=>by
    have V:R (λj=>j=gc) (wr.alloc o) W:=by rw[ad];exact((R.refl (λj=>j=gc) (wr.alloc o)).setCell (p:=⟨gc,1+k,none⟩) (λ_=>rfl) _).drew
    have Q:Below c.heap.size c (wr.alloc o):=r.alloc r.size o;have an:gc<wr.heap.size:=t.lt;refine⟨λj=>if j=k then wr.heap.size else L j,?_,λj K=>?_,Q.trans (V.below (λj K=>by rw[K,i.o];exact aa _) Q.size)⟩
    ·rw[ad,<-IM d L k wr.heap.size Z];exact(E.aK (1+k) _).drew
    ·by_cases e:j=k
     ·subst e;simp only[if_true];refine⟨V.blk (by rw[ac];exact ah.new wr 119 _) (by omega),λa=>?_⟩;have a5:=f.o _ a;have a6:=r.size;omega
     ·simp only[if_neg e];have q:=y j (by omega);exact⟨V.blk (q.1.alloc o) (ah.iH q.1 t (by decide)),q.2⟩
   subst ac;refine bz ?_ t y r E;clear t y r E;intro t y r E;clear U;go_wp2_with fail;go_region_law(first
    |(go_simp;go_at_call 18;refine ab.o.mono ?_;rintro e a7 ⟨rfl,rfl⟩))
   all_goals
    go_wp2_with fail;go_roundw
    case rel=>exact⟨k+1,by omega,by congr 1,J (M.o _ rfl)⟩
    case measure=>simp[intOf];omega
  ·obtain rfl:k=7:=by omega
   have N:=J (T.o _ U.o);go_wp2_with fail
   go_ret2
   exact N.o
def rB(key b:List UInt8):aj:=⟨true,[⟨key,b,0,0⟩],[]⟩
def mr(st:aB)(k:Nat)(key b:List UInt8):aB:=bo (aY (aW st) (aG st) (rB key b)) k (aG st)
theorem Ci(key b:List UInt8)(e:1<=key.length)(f:key.length<=120)(g:b.length<=64):bJ (rB key b) where
 fT:=λ_=>rfl
 eY:=λh=>by cases h
 many:=by show 1<65536;decide
 keys:=λc a=>by
  have:c=⟨key,b,0,0⟩:=by simpa[rB]using a
  subst this;exact⟨e,f⟩
 rise:=⟨λd i=>(by cases i),trivial⟩
 vals:=λc a=>by
  have:c=⟨key,b,0,0⟩:=by simpa[rB]using a
  subst this;exact .inl ⟨rfl,rfl,g⟩
 jT:=λk j=>by cases j
theorem vH(key b:List UInt8)(a:1<=key.length)(c:key.length<=120)(d:b.length<=64):aC (rB key b)<=508/\7<=aC (rB key b):=by simp[aC,rB,aT,fu];omega
section
variable {st:aB}{k:Nat}{key b:List UInt8}
theorem vI(a:st.free=0)(f:1<=st.many)(c:1<=key.length)(d:key.length<=120)(e:b.length<=64):dh (aW st) (aG st) (rB key b):=by refine⟨?_,Ci key b c d e,(vH key b c d e).1⟩;unfold aW aG;rw[if_pos a,if_pos a];exact⟨f,lt_succ_self _⟩
theorem nH(a:st.free=0):(mr st k key b).free=0:=by unfold mr bo aY fQ aB.rN aW;rw[if_pos a];exact a
theorem lH(a:st.free=0):(mr st k key b).many=st.many+1:=by unfold mr bo aY fQ aB.rN aW;rw[if_pos a]
theorem EX(a:st.free=0):(mr st k key b).roots k=st.many:=by unfold mr bo aG;simp[a]
theorem ij(a:st.free=0)(j:Nat)(c:j≠k):(mr st k key b).roots j=st.roots j:=by unfold mr bo aY fQ aB.rN aW;rw[if_pos a];simp[c,aB.rN]
theorem EY(a:st.free=0)(no:Nat)(c:no≠st.many):(mr st k key b).page no=st.page no:=by unfold mr bo aY fQ aB.rN aW aG;rw[if_pos a,if_pos a];simp[c,aB.rN]
theorem EZ(a:st.free=0)(c:1<=st.many)(d:1<=key.length)(f:key.length<=120)(g:b.length<=64):bS (mr st k key b) st.many (rB key b):=by
 have h:=sM (vI (key:=key) (b:=b) a c d f g);have e:aG st=st.many:=by unfold aG;rw[if_pos a]
 rw[e]at h;unfold mr;rw[e];exact h
theorem qH(a:st.free=0){no:Nat}{n:aj}(h:bS st no n):bS (mr st k key b) no n:=by have c:=h.1.2;refine⟨⟨h.1.1,by rw[lH a];omega⟩,?_⟩;rw[EY a no (by omega)];exact h.2
theorem xF(l:k<8)(m:st.roots k=0)(a:st.free=0)(c:1<=st.many)(v:st.many<60000)(d:1<=key.length)(f:key.length<=120)(g:b.length<=64):mn st k key b (mr st k key b):=λw F gt n o p q r s t i j=>by
 have e:aG st=st.many:=by unfold aG;rw[if_pos a]
 have u:(aW st).many=st.many+1:=by unfold aW;rw[if_pos a]
 exact DP w F gt n k st s t l key b o p q r i j d f g m (.inl ⟨a,by omega⟩) (by rw[a];exact c) (vI a c d f g) (by rw[e,u];omega)
end
def zY:List UInt8:=[97,46,122,105,112]
def qX:aX:=⟨[120],0,0,0,0,0,0⟩
def s1:aB:=mr hd1 0 (bK [str zY]) (bP 6 [1,2,1,1,0])
def s2:aB:=mr s1 2 (aP [1]) zY
def mT(b:Nat):List UInt8:=bh b qX++aP [1,0]
def sN:Nat->aB
 |0=>mr s2 1 (aP [1,0]) (dx qX)
 |b+1=>mr (sN b) (3+b) (mT b) []
theorem nI:∀b,b<4->1<=(mT b).length/\(mT b).length<=120:=by decide
theorem l8:s1.free=0/\s1.many=2/\∀j,j≠0->s1.roots j=0:=⟨nH rfl,lH rfl,λj a=>ij rfl j a⟩
theorem l9:s2.free=0/\s2.many=3/\∀j,j≠0->j≠2->s2.roots j=0:=⟨nH l8.1,by rw[s2,lH l8.1,l8.2.1],λj a c=>(ij l8.1 j c).trans (l8.2.2 j a)⟩
theorem gN:∀b,(sN b).free=0/\(sN b).many=4+b/\∀j,3+b<=j->(sN b).roots j=0
 |0=>⟨nH l9.1,by rw[sN,lH l9.1,l9.2.1],λj c=>(ij l9.1 j (by omega)).trans (l9.2.2 j (by omega) (by omega))⟩
 |b+1=>by
  obtain⟨a,d,e⟩:=gN b
  exact⟨nH a,by rw[sN,lH a,d];omega,λj c=>(ij a j (by omega)).trans (e j (by omega))⟩
theorem MZ:mn hd1 0 (bK [str zY]) (bP 6 [1,2,1,1,0]) s1:=xF (by omega) rfl rfl (by decide) (by decide) (by decide) (by decide) (by decide)
theorem M3:mn s1 2 (aP [1]) zY s2:=xF (by omega) (l8.2.2 2 (by omega)) l8.1 (by rw[l8.2.1];omega) (by rw[l8.2.1];omega) (by decide) (by decide) (by decide)
theorem IQ:jq 1 s2 0 [qX] (sN 4):=
 .cons s2 (sN 4) sN 0 qX [] (xF (by omega) (l9.2.2 1 (by omega) (by omega)) l9.1 (by rw[l9.2.1];omega) (by rw[l9.2.1];omega) (by decide) (by decide) (by decide))
  (λb a=>xF (by omega) ((gN b).2.2 _ (aa _)) (gN b).1 (by rw[(gN b).2.1];omega) (by rw[(gN b).2.1];omega) (nI b a).1 (nI b a).2 (by decide)) (.nil _ 1)
theorem Mo:bS (sN 4) 4 (rB (mT 0) []):=by have h:=EZ (k:=3+0) (key:=mT 0) (b:=[]) (gN 0).1 (by rw[(gN 0).2.1];omega) (nI 0 (by omega)).1 (nI 0 (by omega)).2 (by decide);rw[(gN 0).2.1]at h;exact qH (gN 3).1 (qH (gN 2).1 (qH (gN 1).1 h))
theorem Mp:(sN 4).roots 3=4:=by have h:(sN 1).roots (3+0)=4:=(EX (gN 0).1).trans (gN 0).2.1;exact(ij (k:=3+3) (gN 3).1 3 (by omega)).trans ((ij (k:=3+2) (gN 2).1 3 (by omega)).trans ((ij (k:=3+1) (gN 1).1 3 (by omega)).trans h))
theorem Et:sH (sN 4) [] [] ((sN 4).roots (3+0):Int) [⟨mT 0,[],0,0⟩]:=by
 refine .inr (.inr ⟨4,0,[⟨mT 0,[],0,0⟩],[4],by rw[Mp],rfl,by omega,⟨rB (mT 0) [],Mo,(vH _ _ (nI 0 (by omega)).1 (nI 0 (by omega)).2 (by decide)).2,⟨rfl,rfl,λc a=>?_⟩,rfl⟩,(AY λx d=>by obtain rfl:=mem_singleton.1 d;show bY (mT 0) []=false;decide).symm⟩)
 have:c=⟨mT 0,[],0,0⟩:=by simpa[rB]using a
 subst this;refine⟨?_,λt e=>by cases e⟩;show bY (mT 0) []=false;decide
theorem Mq:mh (sN 4) [⟨mT 0,[],0,0⟩] [(mT 0,[])]:=.cons _ _ _ _ (.inl ⟨rfl,rfl⟩) (by decide) (by decide) .nil
theorem Mr:([(mT 0,([]:List UInt8))].takeWhile (bW [])).flatMap (λq=>vm q.1)=[.int .i64 1,.int .i64 0]:=by
 have a:val (Ll (mT 0))=1:=by decide
 have c:val (JT (mT 0))=0:=by decide
 simp[bW,vm,a,c]
theorem J8(a b c d:Int)(w:World):(Op.equalIn 10000 44 (.agg #[.int .i64 a,.int .i64 b]) (.agg #[.int .i64 c,.int .i64 d])).run Tryz.prog w=.ok (a==c&&b==d) w:=by have u3:=Tryz.underlying3;have a3:=Tryz.isAgg3;have z3:=Tryz.sizeOf3;rw[show(10000:Nat)=9999+1 from rfl,Op.equalIn];simp only[Sem.run_bind,run_underlying Tryz.underlying44,Result.andThen_ok];simp only[Std.Legacy.Range.forIn_eq_forIn_range',Std.Legacy.Range.size,Nat.sub_zero,Nat.add_sub_cancel,Nat.div_one,range'_succ,range'_zero,forIn_cons,forIn_nil];go_simp;by_cases e:a=c<;>by_cases f:b=d<;>simp[e,f]
theorem Lw{w:World}{F:Nat->Prop}{g:Nat}(a:ah w g 49 #[.string ⟨#[120]⟩,.int .i64 0,.int .i64 0,.int .u32 0,.int .i64 0,.int .i64 0,.int .i64 0]) (hF:¬F g):jJ (bF F w) w (some ⟨g,0,none⟩) [qX]:=λi f c=>by
 have d:i=0:=by have:=(ay.1 c).1;simp at this;omega
 subst d;obtain rfl:qX=f:=by simpa using c
 exact⟨_,rfl,⟨a.lt,hF⟩,a.cell 0,a.cell 1,a.cell 2,a.cell 3,a.cell 4,a.cell 5,a.cell 6⟩
theorem Cj{w:World}{A:Option Addr}{c:Nat}{d f:Value}(h:w.ownsRow 0 44 2 (.slice A 1 c) 1 [d,f]):∃g,A=some ⟨g,0,none⟩/\1<=c/\w.cell? ⟨g,0,none⟩=some d/\w.cell? ⟨g,1,none⟩=some f:=by
 rcases h.2 with⟨_,m⟩|⟨g,cap,a,e,_,n,o,_,t,i⟩
 ·cases m
 ·injection e with p u q;subst p q;have j:ah w g 44 a:=n;have r:a.toList[0]?=some d:=by have:=congrArg (λl:List Value=>l[0]?) i;simpa[getElem?_take]using this
  have s:a.toList[1]?=some f:=by have:=congrArg (λl:List Value=>l[1]?) i;simpa[getElem?_take]using this
  exact⟨g,rfl,o,(j.cell 0).trans (by simpa using r),(j.cell 1).trans (by simpa using s)⟩
def IU(F:Nat->Prop)(w:World)(e:Ending)(w':World):Prop:=∃g c a,e=.returned (.tuple #[.slice (some ⟨g,0,none⟩) 1 c,.int .i64 0])/\1<=c/\w'.cell? ⟨g,0,none⟩=some (.int .i64 1)/\w'.cell? ⟨g,1,none⟩=some (.int .i64 0)/\Ev F w a w'
theorem range_one(w:World)(F:Nat->Prop)(gc d:Nat)(f:Nat->Nat)(h:ar w F d (sN 4))(i:fD w F gc d f):Calls Tryz.prog 10 #[.pointer (some ⟨gc,0,none⟩),.int .i64 0,.slice none 0 0,.slice none 0 0] w (IU F w):=by
 refine(tK w F gc d f (sN 4) h i 0 (by omega) [] [] none none 0 0 0 0 rfl rfl (MB.nil _) (by omega) (MB.nil _) _ _ Et Mq (λq j=>by obtain rfl:=mem_singleton.1 j;decide) (by decide)).mono ?_
 rintro e w' ⟨A,c,rfl,l,s,m,a,_⟩;rw[Mr]at a;have n:([(mT 0,([]:List UInt8))].takeWhile (bW [])).length=1:=by simp[bW]
 rw[n]at a⊢;obtain⟨g,rfl,o,p,r⟩:=Cj a;exact⟨g,c,l,rfl,o,p,r,m⟩
theorem Ck(w:World)(S:mc w)(t:iF w):Calls Tryz.prog 5 #[] w λe w'=>e=.returned (.bool true)/\Below w.heap.size w w':=by
 have z:=J (zZ w 5000 (by omega) (by omega):Calls Tryz.prog 7 #[.int .i64 5000] w (C8 w 5000));replace S:=J S;replace t:=J t;go_enter Tryz.func5,Tryz.ntmps5;go_wp2_with fail;refine z.o.mono ?_;rintro e V ⟨W,X,rfl,u,l⟩;have a:=u (ku oH) (dB oH) (IJ oH);have y:dY V 0 W X 5000 0 (ku oH) (dB oH) none none:=⟨a.st,a.mp,a.ne,zero_le _,zero_le _⟩;have af:=a.gB;have al:=a.bB;have N:=J (vG V W X 5000 0 y (by omega) (by omega) (by omega));refine bz ?_ u a y l;clear u a y l;intro u a y l;clear z;go_wp2_with fail;refine N.o.mono ?_;rintro e i ⟨gc,K,F,L,rfl,n,p,v,x,am⟩;have q:Below w.heap.size w i:=l.o.trans (R.below v (λk A=>by rcases A with rfl|rfl<;>omega) l.o.size);have m:∀k,F k->w.heap.size<=k:=λk A=>aO l.o.size (x k A);obtain⟨B,O⟩:=I (Obj.cells #[.string ⟨#[120]⟩,.int .i64 0,.int .i64 0,.int .u32 0,.int .i64 0,.int .i64 0,.int .i64 0] 49);have r:Ev F i F (i.alloc B):=(Ev.refl F i).az _;have d:Below w.heap.size w (i.alloc B):=q.alloc q.size _;have C:¬F i.heap.size:=λT=>by have:=p.lt _ T;omega
 have j:jJ (bF F (i.alloc B)) (i.alloc B) (some ⟨i.heap.size,0,none⟩) [qX]:=Lw (by rw[O];exact ah.new i 49 _) C;have D:¬F 2:=λT=>by have:=m _ T;have:=t.o.1;omega
 have E:=J (zM (i.alloc B) F gc K L hd1 s1 s2 (sN 4) (p.alloc _) (n.ev r) (S.o.below d) (t.o.below d) D zY 1 2 1 (some ⟨i.heap.size,0,none⟩) 1 1 [qX] (by decide) (by decide) (by decide) (by decide) j rfl (by omega)
  (λf y=>by obtain rfl:=mem_singleton.1 y;exact⟨⟨by decide,by decide,by decide,by decide,by decide,by decide,by decide⟩,by decide⟩) (vk hd1 0 (by omega) _ rfl) (λw F gc K L ab ac=>BS w F gc K L hd1 ab ac rfl) MZ M3 (by decide) IQ)
 subst O;refine dS ?_ n p v x m q d r;clear n p v x m q d r;intro n p v x m q d r;replace j:Hid _:=J j;replace D:=J D;replace C:=J C;clear N;go_wp2_with fail;refine E.o.mono ?_;rintro e ad ⟨rfl,Y,G,s⟩;have P:=J (range_one ad Y gc K L G (n.o.ev (r.o.trans s)));have Q:=J (d.o.trans (R.below s.only m.o d.o.size));have Z:Hid (∀k,Y k->w.heap.size<=k):=J λk A=>by
  rcases s.grow k A with M|M
  ·exact m.o k M
  ·exact aO d.o.size M
 replace G:=J G;replace s:=J s;clear E;go_wp2_with fail;refine P.o.mono ?_;rintro e ae ⟨g,c,ao,rfl,M,ap,a0,H⟩;have U:=J (Q.o.trans (R.below H.only Z.o Q.o.size):Below w.heap.size w ae);replace H:=J H;clear P;have an:=J8 1 0 1 0;go_wp2_with fail;go_ret;exact⟨rfl,U.o⟩
def dE:Nat->List cC
 |0=>[]
 |k+1=>⟨[UInt8.ofNat (98+k)],1,1,k+1,0,[]⟩::dE k
theorem mU:∀k,iD (dE k)=k
 |0=>rfl
 |k+1=>by
  have e:iD (dE (k+1))=max (k+1) (iD (dE k)):=rfl
  rw[e,mU k];omega
theorem IV(k:Nat)(a:k<3):[UInt8.ofNat (98+k)]∉(dE k).map (·.path):=by
 match k,a with
 |0,_|1,_|2,_=>decide
theorem LC(k:Nat)(a:k<4):([97]:List UInt8)∉(dE k).map (·.path):=by
 match k,a with
 |0,_|1,_|2,_|3,_=>decide
theorem fC:∀k,(dE k).length=k/\eS (dE k)=0
 |0=>⟨rfl,rfl⟩
 |k+1=>by
  obtain⟨a,c⟩:=fC k
  refine⟨by show(dE k).length+1=_;rw[a],?_⟩
  show 0+eS (dE k)=0
  rw[c]
theorem fR.lens{a w:World}{gc c M N:Nat}{d:Nat->Nat}{bH:List cC}{F:Nat->Prop}(h:fR a gc c d bH M N F w){e f:Nat}(l:M<=e)(p:bH.length+eS bH<=f):fR a gc c d bH e f F w:=by
 obtain⟨st,bG,m,n,g,_⟩:=h.st;refine⟨⟨st,bG,m,jO n l,g,λk o=>?_⟩,h.at_,h.bl,h.up⟩;rw[(g.perm k o).length_eq];by_cases i:k=0
 ·subst i;unfold rowsOf;rw[if_pos rfl,length_map];omega
 ·by_cases j:k=2
  ·subst j;unfold rowsOf;rw[if_neg (by omega),if_pos rfl,length_map];omega
  ·rw[vg bH k i j];omega
theorem z7:fK hd1 (λ_=>[]) 1/\jA [] (λ_=>[]):=by
 refine⟨⟨[],λ_=>[],λk _=>⟨[],[],[],.inl ⟨rfl,rfl,rfl⟩,.nil,rfl⟩,?_,aa _⟩,⟨λk i=>?_,nodup_nil,nodup_nil,λa f=>by cases f⟩⟩
 ·have e:MS (λ_=>([]:List Nat))=[]:=rfl;rw[e];refine⟨⟨by decide,by decide,by decide,λk=>(by decide:0<1),λno c=>by have g:no<1:=c.2;have d:=c.1;omega⟩,.nil,nodup_nil,λno=>?_⟩
  constructor
  ·rintro⟨g,d⟩;have:no<1:=d;omega
  ·intro h;cases h
 ·unfold rowsOf;split
  ·exact List.Perm.refl _
  ·split<;>exact List.Perm.refl _
theorem J9(d g c:World)(i l:Nat)(o:Below d.heap.size d g)(p:∀q r,q≠r->dY c g.heap.size i l 60000 0 q r none none)(s:Below g.heap.size g c):Calls Tryz.prog 6 #[.pointer (some ⟨i,0,none⟩)] c λe w'=>∃gc m n F,e=.returned (.tuple #[.pointer (some ⟨gc,0,none⟩),.int .i64 0])/\fR d gc m n [] 1 0 F w':=by have a:=p (ku oH) (dB oH) (IJ oH);have y:dY c 0 i l 60000 0 (ku oH) (dB oH) none none:=⟨a.st,a.mp,a.ne,zero_le _,zero_le _⟩;have B:=a.gB;have C:=a.bB;have t:=o.size;have D:=s.size;refine(vG c i l 60000 0 y (by omega) (by omega) (by omega)).mono ?_;rintro e G ⟨gc,m,F,n,rfl,u,v,w,x,E⟩;have f:Below d.heap.size d c:=o.trans (s.mono t);exact⟨gc,m,n,F,rfl,⟨hd1,_,v,z7.1,z7.2,λk _=>zero_le _⟩,u,f.trans (R.below w (λk z=>by rcases z with rfl|rfl<;>omega) f.size),λj A=>aO f.size (x j A)⟩
def toN(f:jE):aX:=⟨f.name,f.cI.toNat,f.gX.toNat,f.crc.toNat,f.bR.toNat,f.size.toNat,f.at_.toNat⟩
theorem KH{f:jE}(h:gH f=true)(a:0<=f.crc/\f.crc<=4294967295):(toN f).c=f/\(toN f).ok:=by
 obtain⟨d,e,g,i,j,l,at_⟩:=f;have m:d.length<=40:=by
  unfold gH kR at h;simp only[Bool.and_eq_true,decide_eq_true_eq]at h;have:=h.1.1.1.1.1.2
  rwa [dV]at this
 unfold gH xL at h;simp at h;obtain⟨⟨⟨_,n⟩,o,p,q⟩,r⟩:=h;simp only at a;unfold toN aX.c;simp only;refine⟨?_,⟨by simp only;omega,by simp only;omega,by simp only;omega,by simp only;omega,by simp only;omega,by simp only;omega,by simp only;omega⟩⟩;congr 1<;>omega
structure mw (w:World) (A:Option Addr) (n c:Nat) (fs:List jE):Prop where
 len:fs.length=n
 cap:n<=c
 mem:∀i f,fs[i]?=some f->∃ad,A=some ad/\ad.block<w.heap.size/\w.cell? (ad.add (i*7))=some (.string (str f.name))/\w.cell? ⟨(ad.add (i*7)).block,(ad.add (i*7)).off+1,none⟩=some (.int .i64 f.cI)/\w.cell? ⟨(ad.add (i*7)).block,(ad.add (i*7)).off+2,none⟩=some (.int .i64 f.gX)/\
  w.cell? ⟨(ad.add (i*7)).block,(ad.add (i*7)).off+3,none⟩=some (.int .u32 f.crc)/\w.cell? ⟨(ad.add (i*7)).block,(ad.add (i*7)).off+4,none⟩=some (.int .i64 f.bR)/\w.cell? ⟨(ad.add (i*7)).block,(ad.add (i*7)).off+5,none⟩=some (.int .i64 f.size)/\w.cell? ⟨(ad.add (i*7)).block,(ad.add (i*7)).off+6,none⟩=some (.int .i64 f.at_)
 small:∀f∈fs,f.name.length<=1048576/\0<=f.crc/\f.crc<=4294967295
theorem mw.below{w w':World}{A:Option Addr}{n c:Nat}{j:List jE}(h:mw w A n c j)(l:Below w.heap.size w w'):mw w' A n c j:=⟨h.len,h.cap,λi f o=>by obtain⟨a,e,m,q,r,s,t,u,v,x⟩:=h.mem i f o;have d:(a.add (i*7)).block=a.block:=cF _ _;have g:∀p:Addr,p.block=a.block->w'.cell? p=w.cell? p:=λp y=>l.cell (by rw[y];exact m);exact⟨a,e,aN m l.size,(g _ d).trans q,(g ⟨(a.add (i*7)).block,(a.add (i*7)).off+1,none⟩ d).trans r,(g ⟨(a.add (i*7)).block,(a.add (i*7)).off+2,none⟩ d).trans s,(g ⟨(a.add (i*7)).block,(a.add (i*7)).off+3,none⟩ d).trans t,(g ⟨(a.add (i*7)).block,(a.add (i*7)).off+4,none⟩ d).trans u,(g ⟨(a.add (i*7)).block,(a.add (i*7)).off+5,none⟩ d).trans v,(g ⟨(a.add (i*7)).block,(a.add (i*7)).off+6,none⟩ d).trans x⟩,h.small⟩
theorem E0{w:World}{A:Option Addr}{n c:Nat}{m:List jE}(h:mw w A n c m)(B:∀f∈m,gH f=true){F:Nat->Prop}{q:World}(C:Below w.heap.size w q)(hF:∀j,F j->w.heap.size<=j):jJ (bF F q) q A (m.map toN):=λi g d=>by
 rw[getElem?_map]at d;cases a:m[i]? with
 |none=>rw[a]at d;cases d
 |some f=>
  rw[a]at d
  have e:toN f=g:=by simpa using d
  have o:=bu a
  obtain⟨D,_⟩:=KH (B f o) (h.small f o).2
  obtain⟨r,E,G,s,t,u,v,x,y,z⟩:=(h.below C).mem i f a
  obtain⟨_,_,p,_⟩:=h.mem i f a
  obtain⟨rfl⟩:A=some r:=E
  have H:r.block<w.heap.size:=by obtain⟨K,l,p,_⟩:=h.mem i f a;injection l with l;rw[l];exact p
  rw[<-D]at s t u v x y z
  rw[e]at s t u v x y z
  exact⟨r,rfl,⟨G,λa=>by have:=hF _ a;omega⟩,s,t,u,v,x,y,z⟩
theorem vJ(d:Nat)(s:ByteArray)(a b c e f g:Int)(w:World):(Op.equalIn (d+3) 49 (.agg #[.string s,.int .i64 a,.int .i64 b,.int .u32 c,.int .i64 e,.int .i64 f,.int .i64 g]) (.agg #[.string s,.int .i64 a,.int .i64 b,.int .u32 c,.int .i64 e,.int .i64 f,.int .i64 g])).run Tryz.prog w=.ok true w:=by rw[run_equalIn_struct w (d+2) 49 _ _ (by kernel_rfl) (by kernel_rfl)];go_simp
theorem IW(d:Nat)(p s:ByteArray)(n a b c e f g:Int)(w:World):(Op.equalIn (d+4) 61 (.agg #[.string p,.int .i64 n,.string s,.int .i64 a,.int .i64 b,.int .u32 c,.int .i64 e,.int .i64 f,.int .i64 g]) (.agg #[.string p,.int .i64 n,.string s,.int .i64 a,.int .i64 b,.int .u32 c,.int .i64 e,.int .i64 f,.int .i64 g])).run Tryz.prog w=.ok true w:=by have i:=vJ d s a b c e f g w;rw[run_equalIn_struct w (d+3) 61 _ _ (by kernel_rfl) (by kernel_rfl)];go_simp
theorem Ka(k:Nat)(c:k<3):(⟨[UInt8.ofNat (98+k)],1,1,iD (dE k)+1,0,[]⟩:cC).ok:=by rw[mU];exact⟨⟨aa 1,by show 1<=24;omega⟩,by show 1<=281474976710655;omega,by show 1<=281474976710655;omega,⟨by show 1<=k+1;omega,by show k+1<=281474976710655;omega⟩,by show 0<=255;omega,by show 0<=1000;omega,λf a=>by cases a⟩
def mV(k:Nat)(a:List aX):cC:=⟨[97],5,6,k+1,0,a⟩
theorem Kb(k:Nat)(e:k<4)(a:List aX)(g:a.length<=30)(d:∀f∈a,f.ok/\gH f.c=true):(mV k a).ok:=⟨⟨aa 1,by show 1<=24;omega⟩,by show 5<=281474976710655;omega,by show 6<=281474976710655;omega,⟨by show 1<=k+1;omega,by show k+1<=281474976710655;omega⟩,by show 0<=255;omega,by show a.length<=1000;omega,d⟩
def LD(a:List aX)(i k:Nat)(F:Nat->Prop)(c:World):Prop:=∃d e f g,ah c i 52 #[.slice d (if 0<k then a.length else 0) e,.slice f (if 1<k then a.length else 0) g]/\(0<k->fB (bF F c) c d [97] a/\a.length<=e)/\(1<k->fB (bF F c) c f [97] a/\a.length<=g)
theorem LD.ev{e:List aX}{c k:Nat}{F f:Nat->Prop}{g w':World}(h:LD e c k F g)(l:¬F c)(d:Ev F g f w'):LD e c k f w':=by obtain⟨m,n,o,p,q,i,j⟩:=h;exact⟨m,n,o,p,d.blk q l,λa=>⟨(i a).1.ev d,(i a).2⟩,λa=>⟨(j a).1.ev d,(j a).2⟩⟩
theorem fB.leave{F:Nat->Prop}{w w':World}{A s t:Option Addr}{l:List UInt8}{o:List aX}{m u v y z:Nat}(h:fB (bF F w) w A l o)(B:ah w m 52 #[.slice s u v,.slice t y z]) (q:R (λj=>j=m) w w'):fB (bF F w') w' A l o:=λi f C=>by
 obtain⟨a,e,n,D,g,E,G,H,K,L,M,N⟩:=h i f C;have c:(a.add (i*9)).block=a.block:=cF _ _;have r:a.block≠m:=λO=>by
  rw[c,O,B.cell]at g;generalize (a.add (i*9)).off=x at g
  match x,g with
  |0,g=>simp at g
  |x+1,g=>simp at g
 have d:∀p:Addr,p.block=a.block->w'.cell? p=w.cell? p:=λp P=>World.cell?_of_block (by rw[P];exact q.block _ n.1 r);exact⟨a,e,⟨aN n.1 q.size,n.2⟩,(d _ c).trans D,(d ⟨(a.add (i*9)).block,(a.add (i*9)).off+1,none⟩ c).trans g,(d ⟨(a.add (i*9)).block,(a.add (i*9)).off+2,none⟩ c).trans E,(d ⟨(a.add (i*9)).block,(a.add (i*9)).off+3,none⟩ c).trans G,(d ⟨(a.add (i*9)).block,(a.add (i*9)).off+4,none⟩ c).trans H,(d ⟨(a.add (i*9)).block,(a.add (i*9)).off+5,none⟩ c).trans K,(d ⟨(a.add (i*9)).block,(a.add (i*9)).off+6,none⟩ c).trans L,(d ⟨(a.add (i*9)).block,(a.add (i*9)).off+7,none⟩ c).trans M,(d ⟨(a.add (i*9)).block,(a.add (i*9)).off+8,none⟩ c).trans N⟩
theorem LD.put{e:List aX}{a k:Nat}{F:Nat->Prop}{d:World}(h:LD e a k F d)(l:k<2){A:Option Addr}{c:Nat}(o:fB (bF F d) d A [97] e)(m:e.length<=c):(∃v,d.cell? ⟨a,k,none⟩=some v)/\d.frozen? ⟨a,k,none⟩=false/\R (λj=>j=a) d (d.setCell ⟨a,k,none⟩ (.slice A e.length c))/\LD e a (k+1) F (d.setCell ⟨a,k,none⟩ (.slice A e.length c)):=by
 obtain⟨q,r,s,t,f,u,y⟩:=h;have i:R (λj=>j=a) d (d.setCell ⟨a,k,none⟩ (.slice A e.length c)):=(R.refl (λj=>j=a) d).setCell (p:=⟨a,k,none⟩) (λ_=>rfl) _;have n:=f.aK k (.slice A e.length c);have g:=o.leave f i;refine⟨?_,f.frozen k,i,?_⟩
 ·rw[f.cell]
  match k,l with
  |0,_|1,_=>exact⟨_,rfl⟩
 ·match k,l with
  |0,_=>exact⟨A,c,s,t,n,λ_=>⟨g,m⟩,λh=>absurd h (by omega)⟩
  |1,_=>
   obtain⟨w,x⟩:=u (by omega)
   exact⟨q,r,A,c,n,λ_=>⟨w.leave f i,x⟩,λ_=>⟨g,m⟩⟩
theorem fR.only{d w w':World}{gc g M N a:Nat}{i:Nat->Nat}{bH:List cC}{F:Nat->Prop}{m:Array Value}(h:fR d gc g i bH M N F w)(l:ah w a 52 m)(n:¬F a)(p:d.heap.size<=a)(c:R (λj=>j=a) w w'):fR d gc g i bH M N F w':=by obtain⟨st,bG,q,r,s,t⟩:=h.st;refine⟨⟨st,bG,q.only c (λj u e=>n (by rw[<-e];exact u)),r,s,t⟩,⟨c.blk h.at_.blk (ah.iH h.at_.blk l (by decide)),h.at_.o,λk f=>⟨c.blk (h.at_.tree k f).blk (ah.iH (h.at_.tree k f).blk l (by decide)),(h.at_.tree k f).o⟩⟩,h.bl.trans (c.below (λj e=>by rw[e];exact p) h.bl.size),h.up⟩
structure MI (w0:World) (gc gp:Nat) (ts:Nat->Nat) (m:Nat) (fs:List aX) (gr k:Nat) (F:Nat->Prop) (wx:World):Prop where
 cf:fR w0 gc gp ts (if k=2 then mV m fs::dE m else dE m) (601+k*30000) 40 F wx
 fr:¬F gr
 rows:LD fs gr k F wx
theorem tW(w:World)(A:Option Addr)(n c T:Nat)(br:List jE)(bc:mw w A n c br)(eQ:c<=maxLen)(f9:T<256)(cr:mc w)(K:iF w):Calls Tryz.prog 4 #[.slice A n c,.int .u8 T] w λe w'=>e=.returned (.bool true)/\Below w.heap.size w w':=by
 have dl:=J (Ck w cr K);have fn:=bc.cap;unfold maxLen at eQ;have a4:=bc.len;refine bz ?_ bc cr K a4;clear bc cr K a4;intro bc cr K a4;go_enter Tryz.func4,Tryz.ntmps4;go_wp2_with fail;refine dl.o.mono ?_;rintro e d6 ⟨rfl,bs⟩;replace bs:=J bs;clear dl;by_cases a5:30<n
 ·have eR:decide (30<(n:Int))=true:=aV (by omega);have ej:decide (30<n)=true:=aV a5;replace a5:=J a5;go_wp2_with fail;go_ret;exact⟨rfl,bs.o⟩
 have eR:decide (30<(n:Int))=false:=aD (by omega);have ej:decide (30<n)=false:=aD a5;have e0:n<=30:=by omega
 have fp:(n:Int)<=30:=by omega
 have e1:(n:Int)<=(c:Int):=by omega
 replace a5:=J a5;have dp:Hid (∀(k:Nat) (f:jE),k<0->br[k]?=some f->gH f=true):=J λk f cs=>absurd cs (by omega);go_wp2_with fail;go_loopw [23] (λv Y=>∃i:Nat,i<=n/\v=.int .i64 i/\Hid (∀(k:Nat) (f:jE),k<i->br[k]?=some f->gH f=true)/\Hid (Below w.heap.size w Y)) (λv _=>n-(intOf v).toNat)
 case atStart=>exact⟨0,by omega,rfl,dp,bs⟩
 case round=>
  obtain⟨i,ga,rfl,cy,bv⟩:=hrel;clear dp bs;by_cases fs:i<n
  ·have ds:i<br.length:=by have:=a4.o;omega
   obtain⟨f,t⟩:∃f,br[i]?=some f:=⟨_,ak ds⟩;obtain⟨cz,_,_⟩:=bc.o.small f (bu t);obtain⟨ek,rfl,_,e2,e3,e4,e5,e6,c5,e7⟩:=(bc.o.below bv.o).mem i f t;have ct:=J (EU (wr.alloc (.cells (qd f) 49)) f cz);have da:Hid (gH f=true->∀(k:Nat) (g:jE),k<i+1->br[k]?=some g->gH g=true):=J λh k g cs bx=>by
    rcases aA k i with cv|cv
    ·exact cy.o k g cv bx
    ·obtain rfl:k=i:=by omega
     rw[t]at bx;injection bx with bx;rw[<-bx];exact h
   have dt:=J (bv.o.alloc bv.o.size (.cells (qd f) 49));obtain⟨cA,cB,cD,cE,b6,cH,at_⟩:=f;simp only[qd]at *;have ft:(i:Int)<(n:Int):=by omega
   have fv:(0:Int)<=(i:Int):=by omega
   replace t:=J t;replace cz:=J cz;clear ds;go_wp2_with fail;go_at_call 13;refine ct.o.mono ?_;rintro e bA ⟨b,rfl,cK,cL⟩;have cM:=J (dt.o.trans (cK.mono dt.o.size):Below w.heap.size w bA);replace cK:=J cK;clear ct e2 e3 e4 e5 e6 c5 e7;cases b with
   |false=>
    replace cL:=J cL
    go_wp2_with fail
    go_ret
    exact⟨rfl,cM.o⟩
   |true=>
    have el:=J (da.o (cL rfl))
    replace cL:=J cL
    go_wp2_with fail
    go_roundw
    case rel=>exact⟨i+1,by omega,by congr 1,el,cM⟩
    case measure=>simp[intOf];omega
  ·obtain rfl:i=n:=by omega
   have b7:Hid (∀f∈br,gH f=true):=J λf t=>by obtain⟨k,cs⟩:=mem_iff_getElem?.1 t;exact cy.o k f (by have:=(ay.1 cs).1;have:=a4.o;omega) cs
   obtain⟨d6,cP⟩:=I (wr);rw[<-cP]at bv⊢;replace cP:=J cP;have cS:=J (zZ d6 60000 (by omega) (by omega));go_wp2_with fail;go_at_call 7;refine cS.o.mono ?_;rintro e e8 ⟨e9,fa,rfl,cV,cX⟩;have du:=J (J9 w d6 e8 e9 fa bv.o cV cX);replace cV:Hid _:=J cV;replace cX:=J cX;clear cS;go_wp2_with fail;go_at_call 6;refine du.o.mono ?_;rintro e fb ⟨gc,P,Q,fc,rfl,cY⟩;have c0:Hid (∃F,fR w gc P Q (dE 0) (1+200*0) 0 F fb):=J ⟨fc,cY⟩;replace cY:=J cY;clear du;obtain⟨m,ct⟩:=I (T%4);have fx:m<4:=by omega
   have fy:(T:Int).tmod 4=(m:Int):=by rw[Int.tmod_eq_emod_of_nonneg (by omega),ct];simp
   have fz:(T:Int)<=255:=by omega
   have fA:(m:Int)<4:=by omega
   replace ct:=J ct;go_wp2_with fail;go_loopw [41] (λv Y=>∃k:Nat,k<=m/\v=.int .i64 k/\Hid (∃F,fR w gc P Q (dE k) (1+200*k) k F Y)) (λv _=>m-(intOf v).toNat)
   case atStart=>exact⟨0,by omega,rfl,c0⟩
   case round=>
    obtain⟨k,cs,rfl,cw⟩:=hrel;obtain⟨b8,D⟩:=cw.o;clear c0;by_cases fX:k<m
    ·have dv:k<3:=by omega
     obtain⟨x,Z⟩:=I (UInt8.ofNat (98+k));have cb:x.toNat=98+k:=by rw[Z,UInt8.toNat_ofNat'];omega
     obtain⟨X,db⟩:∃X:Nat,X=98+k:=⟨_,rfl⟩;have cc:(98:Int)+(k:Int)=(X:Int):=by omega
     have em:IntKind.u8.wrap (k:Int)=(k:Int):=IntWalk.u8_in _ (by omega);have d7:IntKind.u8.wrap ((98:Int)+(k:Int))=(X:Int):=by rw[cc];exact IntWalk.u8_in _ (by omega)
     have en:(convert 23 9 (.slice (some ⟨wr.heap.size,0,none⟩) 1 1)).run Tryz.prog (wr.alloc (.cells #[.int .u8 X] 5))=.ok (.string (str [x])) (wr.alloc (.cells #[.int .u8 X] 5)):=by have q:=RB.rM wr x 5;rw[cb,<-db]at q;exact uO (c:=1) q
     have L:=D.below ((Below.refl _ wr).alloc (aa _) (.cells #[.int .u8 X] 5));have bB:=J (Iu L cr.o K.o [x] 1 1 none 0 0 [] (by rw[Z];exact Ka k dv) (by rw[Z];exact IV k dv) (λi f t=>by simp at t) rfl (by omega));have dy:Hid (∀z w',fR w gc P Q ((⟨[x],1,1,iD (dE k)+1,0,[]⟩:cC)::dE k) (1+200*k+(5*0+2)*(43+(k+0+1))) (k+0+1) z w'->∃F,fR w gc P Q (dE (k+1)) (1+200*(k+1)) (k+1) F w'):=J λz w' q=>⟨z,by
      have e:dE (k+1)=(⟨[x],1,1,iD (dE k)+1,0,[]⟩:cC)::dE k:=by rw[mU,Z];rfl
      rw[e];exact q.lens (by omega) (by rw[<-e,(fC (k+1)).1,(fC (k+1)).2];omega)⟩
     have fY:(k:Int)<(m:Int):=by omega
     have f0:(0:Int)<=(k:Int):=by omega
     refine dZ ?_ D L Z cb db cc;clear D L Z cb db cc;intro D L Z cb db cc;clear cw;go_wp2_with fail;go_at_call 8;refine bB.o.mono ?_;rintro e bA ⟨rfl,c1,M,ac⟩;have eo:=J (dy.o c1 bA M);replace M:=J M;replace ac:=J ac;clear bB dy en em d7;go_wp2_with fail;go_roundw
     case rel=>exact⟨k+1,by omega,by congr 1,eo⟩
     case measure=>simp[intOf];omega
    ·obtain rfl:k=m:=by omega
     obtain⟨y,a6⟩:=I (wr.heap.size);obtain⟨d8,a7⟩:=I (wr.alloc (.cells #[.slice none 0 0,.slice none 0 0] 52));have ce:Below wr.heap.size wr d8:=by rw[a7];exact(Below.refl _ wr).alloc (aa _) _
     obtain⟨d,a8⟩:=I (br.map toN);have p:d.length=i:=by rw[a8,length_map];exact a4.o
     have d9:Hid (∀f∈d,f.ok/\gH f.c=true):=J λg bx=>by rw[a8]at bx;obtain⟨f,t,rfl⟩:=aM.1 bx;obtain⟨dc,dd⟩:=KH (b7.o f t) (bc.o.small f t).2;exact⟨dd,by rw[dc];exact b7.o f t⟩
     have dT:Hid (∀(F:Nat->Prop) (Y:World),Below w.heap.size w Y->(∀j,F j->w.heap.size<=j)->jJ (bF F Y) Y A d):=J λF Y dc dd=>by rw[a8];exact E0 bc.o b7.o dc dd
     have c2:Hid (∃F,MI w gc P Q k d y 0 F d8):=J ⟨b8,⟨by rw[if_neg (by omega)];exact(D.below ce).lens (by omega) (by rw[(fC k).1,(fC k).2];omega),λZ=>by have:=D.lt _ Z;omega,none,0,none,0,by rw[a7,a6];exact ah.new wr 52 _,λh=>absurd h (by omega),λh=>absurd h (by omega)⟩⟩
     have cg:w.heap.size<=y:=by rw[a6];exact D.bl.size
     have ea:Hid (wr.alloc (.cells #[.slice none 0 0,.slice none 0 0] 52)=d8):=J a7.symm;have eb:Hid (wr.heap.size=y):=J a6.symm;obtain⟨b0,b1⟩:=I (k+1);have bd:(1:Int)+(k:Int)=(b0:Int):=by omega
     have fd:IntKind.i64.wrap ((1:Int)+(k:Int))=(b0:Int):=by rw[bd];exact IntWalk.i64_in _ (by omega)
     refine ik ?_ bd b1 a7 a6 a8 p ce cg D;clear bd b1 a7 a6 a8 p ce cg D;intro bd b1 a7 a6 a8 p ce cg D;clear cw;go_upto_region 21 with(fail)
     rw[ea.o,eb.o];obtain⟨f1,c3⟩:=I (wr);rw[<-c3]at *;clear c3;go_wp2_with fail;go_loopw [53] (λv Y=>∃j:Nat,j<=2/\v=.int .i64 j/\Hid (∃F,MI w gc P Q k d y j F Y)) (λv _=>2-(intOf v).toNat)
     case atStart=>exact⟨0,by omega,rfl,c2⟩
     case round=>
      obtain⟨j,gb,rfl,cw⟩:=hrel;clear c2;obtain⟨b8,r⟩:=cw.o;clear cw;by_cases ep:j<2
      ·have a9:=r.cf;rw[if_neg (by omega)]at a9;have ch:=r.fr;have ci:=r.rows;have cj:(5*i+2)*(43+(40+i+1))<=152*114:=Nat.mul_le_mul (by omega) (by omega);have bB:=J (Iu a9 cr.o K.o [97] 5 6 A i c d (by rw[mU];exact Kb k (by omega) d (by rw[p.o];omega) d9.o) (LC k (by omega)) (dT.o b8 wr a9.bl a9.up) p.o (by omega));have ck:Hid (∀z w',fR w gc P Q ((⟨[97],5,6,iD (dE k)+1,0,d⟩:cC)::dE k) (601+j*30000+(5*i+2)*(43+(40+i+1))) (40+i+1) z w'->fR w gc P Q (mV k d::dE k) (601+j*30000+17328) 40 z w'):=J λz w' q=>by
        rw[mU]at q;refine q.lens (by omega) ?_;have ec:(mV k d::dE k).length=k+1:=by rw[length_cons,(fC k).1]
        have ff:eS (mV k d::dE k)=i:=by have cv:eS (mV k d::dE k)=d.length+eS (dE k):=rfl;rw[cv,(fC k).2,p.o,Nat.add_zero]
        have eq:((⟨[97],5,6,k+1,0,d⟩:cC)::dE k).length=k+1:=ec;have er:eS ((⟨[97],5,6,k+1,0,d⟩:cC)::dE k)=i:=ff;rw[eq,er];omega
       have f2:(j:Int)<2:=by omega
       have f3:(0:Int)<=(j:Int):=by omega
       replace a9:=J a9;replace ch:=J ch;replace ci:Hid _:=J ci;replace r:=J r;replace cj:=J cj;go_wp2_with fail;go_at_call 8;refine bB.o.mono ?_;rintro e bA ⟨rfl,c1,be,b2⟩;have L:=ck.o c1 bA be;have ad:=b2.new ch.o (by obtain⟨_,_,_,_,q,_⟩:=ci.o;exact q.lt);have bi:=ci.o.ev ch.o b2;have d0:Hid (Calls Tryz.prog 14 #[.pointer (some ⟨gc,0,none⟩),.string (str [97])] bA λe w'=>e=.returned (.tuple #[.agg #[.string (str [97]),.int .i64 5,.int .i64 6,.int .i64 b0,.int .i64 i,.int .i64 0],.bool true,.int .i64 0])/\∃z,fR w gc P Q (mV k d::dE k) (601+j*30000+17328) 40 z w'/\Ev c1 bA z w'):=J (by rw[b1.o];have q:=J3 L K.o (a:=mV k d) (.head _);simp only[cQ,mV,p.o]at q;exact q)
       refine bz ?_ be L b2 ad;clear be L b2 ad;intro be L b2 ad;replace bi:Hid _:=J bi;clear bB ck;go_wp2_with fail;go_at_call 14;refine d0.o.mono ?_;rintro e V ⟨rfl,ee,M,ac⟩;obtain⟨c4,b3⟩:=I (V.heap.size);obtain⟨cx,ba⟩:=I (V.alloc (.cells #[.string (str [97]),.int .i64 5,.int .i64 6,.int .i64 b0,.int .i64 i,.int .i64 0] 54));have ae:Below V.heap.size V cx:=by rw[ba];exact(Below.refl _ V).alloc (aa _) _
       have cl:=M.below ae;have af:Ev c1 bA ee cx:=ac.trans (Ev.ag ae);have al:=af.new ad.o (by obtain⟨_,_,_,_,q,_⟩:=bi.o;exact q.lt);have bj:=bi.o.ev ad.o af;have E:ah cx c4 54 #[.string (str [97]),.int .i64 5,.int .i64 6,.int .i64 b0,.int .i64 i,.int .i64 0]:=by rw[ba,b3];exact ah.new V 54 _
       have cm:¬ee c4:=λZ=>by have:=M.lt _ Z;omega
       have d1:Hid (Calls Tryz.prog 15 #[.pointer (some ⟨gc,0,none⟩),.agg #[.string (str [97]),.int .i64 5,.int .i64 6,.int .i64 b0,.int .i64 i,.int .i64 0]] cx λe w'=>∃c6 c7 z,e=.returned (.tuple #[.slice c6 i c7,.int .i64 0])/\fR w gc P Q (mV k d::dE k) (601+j*30000+17328) 40 z w'/\Ev ee cx z w'/\fB (bF z w') w' c6 [97] d/\i<=c7):=J (by rw[b1.o];have q:=Lr cl (by omega) (a:=mV k d) (.head _);simp only[cQ,mV,p.o]at q;exact q)
       have z0:=E.cell 0;have fg:=E.cell 1;have fh:=E.cell 2;have z3:=E.cell 3;have z4:=E.cell 4;have z5:=E.cell 5;have ef:Hid (V.alloc (.cells #[.string (str [97]),.int .i64 5,.int .i64 6,.int .i64 b0,.int .i64 i,.int .i64 0] 54)=cx):=J ba.symm;have eg:Hid (V.heap.size=c4):=J b3.symm;refine dS ?_ ba b3 ae M ac cl af al;clear ba b3 ae M ac cl af al;intro ba b3 ae M ac cl af al;replace bj:Hid _:=J bj;replace E:=J E;replace cm:=J cm;clear d0;go_upto_region 27 with(fail)
       rw[ef.o,eg.o];go_wp2_with fail;go_at_call 15;refine d1.o.mono ?_;rintro e eh ⟨c6,c7,gd,rfl,cn,am,c8,es⟩;have an:=am.new al.o (by obtain⟨_,_,_,_,q,_⟩:=bj.o;exact q.lt);have bm:=bj.o.ev al.o am;have ao:=am.blk E.o cm.o;have b9:=am.new cm.o E.o.lt;obtain⟨⟨ge,gf⟩,gg,ap,S⟩:=bm.put ep c8 (by rw[p.o];exact es);rw[p.o]at ap S;have l:∃b6,ah eh y 52 b6:=by obtain⟨_,_,_,_,q,_⟩:=bm;exact⟨_,q⟩
       obtain⟨f4,l⟩:=l;have b4:=cn.only l an cg.o ap;have co:c4≠y:=ah.iH ao l (by decide);have a0:=ap.blk ao co;obtain⟨N,G⟩:=I (eh.setCell ⟨y,j,none⟩ (.slice c6 i c7));rw[<-G]at ap S b4 a0;have y3:N.cell? ⟨c4,3,none⟩=some (.int .i64 b0):=a0.cell 3;have d2:=J (Iw b4 K.o (by omega));have ei:Hid (eh.setCell ⟨y,j,none⟩ (.slice c6 i c7)=N):=J G.symm;refine bf ?_ G cn am;clear G cn am;intro G cn am;replace c8:Hid _:=J c8;replace an:=J an;replace bm:Hid _:=J bm;refine bf ?_ ao b9 ap;clear ao b9 ap;intro ao b9 ap;replace S:Hid _:=J S;refine bz ?_ l b4 a0 co;clear l b4 a0 co;intro l b4 a0 co;clear d1 z0 fg fh z3 z4 z5;go_upto_region 28 with(fail)
       rw[ei.o];go_wp2_with fail;go_at_call 12;refine d2.o.mono ?_;rintro e cp ⟨rfl,d3,B,C⟩;have a1:y<N.heap.size:=by obtain⟨_,_,_,_,q,_⟩:=S.o;exact q.lt
       have s:=C.new an.o a1;have u:=S.o.ev an.o C;clear d2 y3;rcases(by omega:j=0\/j=1)with rfl|rfl
       ·have a2:(5*i+2)*(43+40)<=152*83:=Nat.mul_le_mul (by omega) (by omega);have d4:Hid (Calls Tryz.prog 16 #[.pointer (some ⟨gc,0,none⟩),.string (str [97])] cp λe w'=>e=.returned (.int .i64 0)/\∃z,fR w gc P Q (dE k) (601+0*30000+17328+(5*i+2)*(43+40)) 40 z w'/\Ev d3 cp z w'):=J (by have q:=Ls (a:=mV k d) B K.o (by rw[show(mV k d).files.length=i from p.o];omega);rw[show(mV k d).files.length=i from p.o]at q;exact q)
        refine bf ?_ B C s;clear B C s;intro B C s;replace u:Hid _:=J u;replace a1:=J a1;go_wp2_with fail;go_at_call 16;refine d4.o.mono ?_;rintro e et ⟨rfl,ex,bp,a3⟩;have ab:y<cp.heap.size:=by obtain⟨_,_,_,_,q,_⟩:=u.o;exact q.lt
        have H:Hid (∃F,MI w gc P Q k d y 1 F et):=J ⟨ex,⟨by rw[if_neg (by omega)];exact bp.lens (by omega) (by rw[(fC k).1,(fC k).2];omega),a3.new s.o ab,u.o.ev s.o a3⟩⟩
        refine bz ?_ bp a3 ab a2;clear bp a3 ab a2;intro bp a3 ab a2;clear d4;go_wp2_with fail;go_roundw
        case rel=>exact⟨1,by omega,rfl,H⟩
        case measure=>simp[intOf]
       ·have H:Hid (∃F,MI w gc P Q k d y 2 F cp):=J ⟨d3,⟨by
         rw[if_pos rfl];exact B.lens (by omega) (by
          have ec:(mV k d::dE k).length=k+1:=by rw[length_cons,(fC k).1]
          have cv:eS (mV k d::dE k)=d.length+eS (dE k):=rfl;rw[ec,cv,(fC k).2,p.o];omega),s,u⟩⟩
        refine bf ?_ B C s;clear B C s;intro B C s;replace u:Hid _:=J u;replace a1:=J a1;go_wp2_with fail;go_roundw
        case rel=>exact⟨2,by omega,rfl,H⟩
        case measure=>simp[intOf]
      ·obtain rfl:j=2:=by omega
       rw[show((2:Nat):Int)=2 from rfl];have ey:=r.rows;obtain⟨eA,de,eE,dj,l,bb,H⟩:=ey;rw[if_pos (by omega),if_pos (by omega),p.o]at l;obtain⟨bb,rJ⟩:=bb (by omega);obtain⟨H,hd1⟩:=H (by omega);have O:=dT.o b8 wr r.cf.bl r.cf.up;have U:=r.cf.bl;obtain⟨N,G⟩:=I (wr);rw[<-G]at l bb H O U⊢;have eI:N.cell? ⟨y,0,none⟩=some (.slice eA i de):=l.cell 0;have eJ:N.cell? ⟨y,1,none⟩=some (.slice eE i dj):=l.cell 1;have fi:(i:Int)<=(de:Int):=by rw[p.o]at rJ;omega
       have fj:(i:Int)<=(dj:Int):=by rw[p.o]at hd1;omega
       refine bf ?_ G r l;clear G r l;intro G r l;replace bb:Hid _:=J bb;replace H:Hid _:=J H;replace O:Hid _:=J O;refine bf ?_ U rJ hd1;clear U rJ hd1;intro U rJ hd1;go_wp2_with fail;have c9:=J (Below.refl _ N:Below N.heap.size N N);go_loopw [109] (λv Y=>∃x:Nat,x<=i/\v=.int .i64 x/\Hid (Below N.heap.size N Y)) (λv _=>i-(intOf v).toNat)
       case atStart=>exact⟨0,by omega,rfl,c9⟩
       case round=>
        obtain⟨x,Z,rfl,b5⟩:=hrel;clear c9;by_cases eK:x<i
        ·have d5:x<d.length:=by rw[p.o];exact eK
         obtain⟨f,t⟩:∃f,d[x]?=some f:=⟨_,ak d5⟩;have ca:=Ev.ag (F:=b8) b5.o;obtain⟨ek,rfl,_,p0,p1,p2,gh,gi,gj,gl,gm,gn⟩:=bb.o.ev ca x f t;obtain⟨fk,rfl,_,go,dc,dd,gp,gr,gs,gt,gv,gw⟩:=H.o.ev ca x f t;obtain⟨gx,rfl,_,gy,r1,r2,r3,r4,r5,gz⟩:=O.o.ev ca x f t;have fl:wr.cell? ⟨y,0,none⟩=some (.slice (some ek) i de):=(ca.blk l.o r.o.fr).cell 0;have fm:wr.cell? ⟨y,1,none⟩=some (.slice (some fk) i dj):=(ca.blk l.o r.o.fr).cell 1;obtain⟨cA,cB,cD,cE,b6,cH,at_⟩:=f;simp only at *;have f5:∀W,(Op.equalIn 10000 61 (.agg #[.string (str [97]),.int .i64 x,.string (str cA),.int .i64 cB,.int .i64 cD,.int .u32 cE,.int .i64 b6,.int .i64 cH,.int .i64 at_]) (.agg #[.string (str [97]),.int .i64 x,.string (str cA),.int .i64 cB,.int .i64 cD,.int .u32 cE,.int .i64 b6,.int .i64 cH,.int .i64 at_])).run Tryz.prog W=.ok true W:=λW=>IW 9996 _ _ _ _ _ _ _ _ _ W;have f6:∀W,(Op.equalIn 10000 49 (.agg #[.string (str cA),.int .i64 cB,.int .i64 cD,.int .u32 cE,.int .i64 b6,.int .i64 cH,.int .i64 at_]) (.agg #[.string (str cA),.int .i64 cB,.int .i64 cD,.int .u32 cE,.int .i64 b6,.int .i64 cH,.int .i64 at_])).run Tryz.prog W=.ok true W:=λW=>vJ 9997 _ _ _ _ _ _ _ W;have f7:(x:Int)<(i:Int):=by omega
         have f8:(0:Int)<=(x:Int):=by omega
         have eL:Hid (∀q,Below N.heap.size N (wr.drewN q)):=J λq=>below_drewN b5.o q;replace t:=J t;replace ca:=J ca;clear d5 eI eJ;go_wp2_with fail;go_quiet (fail);have eN:=J (eL.o nq);go_wp2_with fail;go_roundw
         case rel=>exact⟨x+1,by omega,by congr 1,eN⟩
         case measure=>simp[intOf];omega
        ·obtain rfl:x=i:=by omega
         have fl:wr.cell? ⟨y,0,none⟩=some (.slice eA x de):=((Ev.ag (F:=b8) b5.o).blk l.o r.o.fr).cell 0;have fm:wr.cell? ⟨y,1,none⟩=some (.slice eE x dj):=((Ev.ag (F:=b8) b5.o).blk l.o r.o.fr).cell 1;have dk:=J (U.o.trans (b5.o.mono U.o.size):Below w.heap.size w wr);clear eI eJ;go_wp2_with fail;go_ret;exact⟨rfl,dk.o⟩
end Go.Proofs.YtajdeapdgbnahaaGreatDoor
