/-
  Contract of Cursor.down at a leaf.
-/
import Derived.Test.YtajdeapdgbnahaaGreatDoorCyGr26
namespace Go.Proofs.YtajdeapdgbnahaaGreatDoor
set_option linter.unusedVariables false
set_option maxRecDepth 100000
set_option maxHeartbeats 4000000
open List Nat
section
open Go.RowKit
theorem DT:(Tryz.prog.info? 259).map (λi=>(i.zero,i.size,i.bytes))=some (some (.agg #[.bool false,.slice none 0 0,.slice none 0 0,.int .i64 0]),4,64):=by kernel_rfl
theorem jH(w:World)(base:Nat)(v:Value)(m:Nat)(xs:List Value)(k:w.ownsRow base 259 4 v m xs)(g:Nat)(a b c d:Value)(t:∀u∈[a,b,c,d],u.oneCell'=true)(l:ah w g 259 #[a,b,c,d]) (ty:TypeId) (x:m+1<=1000000) (f:base<=w.heap.size):∃i w',(Builtin.append_ #[192,192] ty #[v,.slice (some ⟨g,0,none⟩) 1 1]).run Tryz.prog w=.ok i w'/\w'.ownsRow base 259 4 i (m+1) (xs++[a,b,c,d])/\w.grownBy w' v.ownBlock/\(i.ownBlock=v.ownBlock\/i.ownBlock=some w.heap.size):=by
 obtain⟨i0,o,p,q,r⟩:=info_parts DT;exact bN (P:=Tryz.prog) w base 192 ty 259 i0 _ 4 64 Tryz.underlying192 o p q r rfl (by omega) v m xs k w.heap.size (some ⟨g,0,none⟩) 1 1 [a,b,c,d] ⟨rfl,λ_=>⟨_,rfl,l.lt,λj u y=>by
  have e:(Addr.mk g 0 none).add j=⟨g,j,none⟩:=by
   unfold Addr.add;by_cases s:j=0
   ·subst s;rfl
   ·rw[if_neg s];simp
  rw[e,l.cell];simpa using y⟩⟩ t (by simp only[maxLen];omega) (by omega) f
theorem o8{F C:Nat->Prop}{w b:World}{gc gt:Nat}{way:List (aj×Nat)}{from_:List UInt8}{tgt er:Int}{d v5:Value}{t:Option Addr}{v:Nat}{rows:List (List Value)}{vs:List Value}{s:aj×Nat}(i:ah w gc 194 #[.pointer (some ⟨gt,0,none⟩),d,.slice t from_.length v,.int .i64 tgt,.int .i64 er]) (E:MB (FC F C) w t from_.length from_) (x:∀k,d.ownBlock=some k->C k) (y:rows.length=way.length) (G:w.ownsRow 0 259 4 d way.length rows.flatten)(H:∀(k:Nat) (vs:List Value) (s:aj×Nat),rows[k]?=some vs->way[k]?=some s->uz (bF (FC F C) w) w vs s) (own:C gc) (apart:∀k,C k->¬F k) (lt:∀k,C k->k<w.heap.size) (hF:∀k,F k->k<w.heap.size) (K:uz (bF (FC F C) w) w vs s)(m:w.grownBy b d.ownBlock) (c:b.ownsRow 0 259 4 v5 (way.length+1) (rows.flatten++vs)) (L:v5.ownBlock=d.ownBlock\/v5.ownBlock=some w.heap.size):dA F (λk=>C k\/v5.ownBlock=some k) (b.setCell ⟨gc,1,none⟩ v5) gc gt (way++[s]) from_ tgt er/\Ev (FC F C) w (FC F (λk=>C k\/v5.ownBlock=some k)) (b.setCell ⟨gc,1,none⟩ v5):=by
 have j:∀k,v5.ownBlock=some k->C k\/k=w.heap.size:=λk a=>by
  rcases L with e|e
  ·exact .inl (x k (by rw[<-e];exact a))
  ·rw[e]at a;injection a with a;exact .inr a.symm
 have M:R (FC F C) w (b.setCell ⟨gc,1,none⟩ v5):=((R.refl (FC F C) w).grown m (λk a _=>.inr (x k a))).setCell (p:=⟨gc,1,none⟩) (λ_=>.inr own) v5;have o:Ev (FC F C) w (FC F (λk=>C k\/v5.ownBlock=some k)) (b.setCell ⟨gc,1,none⟩ v5):=⟨M,λk a=>by
  rcases a with a|a|a
  ·exact .inl (.inl a)
  ·exact .inl (.inr a)
  ·rcases j k a with f|f
   ·exact .inl (.inr f)
   ·exact .inr (by omega)⟩
 have q:some gc≠d.ownBlock:=λe=>au G i (by decide) e.symm;have z:=(i.grown m q).aK 1 v5;have r:R (λk=>k=gc) b (b.setCell ⟨gc,1,none⟩ v5):=(R.refl (λk=>k=gc) b).setCell (p:=⟨gc,1,none⟩) (λ_=>rfl) v5;have O:b.heap.size<=(b.setCell ⟨gc,1,none⟩ v5).heap.size:=r.size;refine⟨⟨⟨v5,t,v,z,E.ev o,λk a=>.inr a,rows++[vs],by simp[y],?_,λk A N g l=>?_⟩,.inl own,λk a u=>?_,λk a=>?_⟩,o⟩
 ·rw[aq,flatten_append];simp only[flatten_cons,flatten_nil,append_nil,length_cons,length_nil,Nat.zero_add];exact r.row c (aI c (i.grown m q) (by decide))
 ·by_cases a:k<rows.length
  ·rw[bM a]at g;rw[bM (by omega)]at l;exact(H k A N g l).ev o
  ·have D:k=rows.length:=by have:=(ay.1 g).1;simp at this;omega
   subst D;rw[getElem?_append_right (aa _),Nat.sub_self]at g;rw[y,getElem?_append_right (aa _),Nat.sub_self]at l;simp at g l;subst g;subst l;exact K.ev o
 ·rcases a with a|a
  ·exact apart k a u
  ·rcases j k a with f|f
   ·exact apart k f u
   ·have:=hF k u;omega
 ·rcases a with a|a
  ·have P:=lt k a;have f:=m.size;omega
  ·have:=(dw c a).2;omega
def rL(F C:Nat->Prop)(w:World)(c:Nat)(st:aB)(gc gt:Nat)(way:List (aj×Nat))(from_:List UInt8)(tgt er:Int)(e:Ending)(w':World):Prop:=e=.returned (.int .i64 0)/\∃a b,ar w' a c st/\dA a b w' gc gt way from_ tgt er/\Ev (FC F C) w (FC a b) w'/\(∀k,C k->b k)/\∀(g:Nat) (t:TypeId) (cs:Array Value),ah w g t cs->¬F g->t≠194->t≠259->ah w' g t cs
theorem yE(w:World)(gt:Nat)(f b:Option Addr)(g c i d j:Nat):Calls Tryz.prog 80 #[.pointer (some ⟨gt,0,none⟩),.agg #[.slice f g i,.slice b c d,.int .i64 0,.int .i64 (j:Int)]] w λe w'=>e=.returned (.tuple #[.slice b c d,.int .i64 0])/\Below w.heap.size w w':=by
 have a:=(Below.refl w.heap.size w).alloc (aa _) (.cells #[.slice f g i,.slice b c d,.int .i64 0,.int .i64 (j:Int)] 122);replace a:=J a;go_enter Tryz.func80,Tryz.ntmps80;go_wp2_with fail
 go_ret2
 exact⟨rfl,a.o⟩
section
variable {F C:Nat->Prop}{w:World}{gc gt:Nat}{way:List (aj×Nat)}{from_:List UInt8}{tgt er:Int}
theorem Jv(h:dA F C w gc gt way from_ tgt er)(a:Int):dA F C (w.setCell ⟨gc,3,none⟩ (.int .i64 a)) gc gt way from_ a er/\Ev (FC F C) w (FC F C) (w.setCell ⟨gc,3,none⟩ (.int .i64 a)):=by obtain⟨e,f,g,c,i,j,rows,l,d,m⟩:=h.mem;have b:Ev (FC F C) w (FC F C) (w.setCell ⟨gc,3,none⟩ (.int .i64 a)):=(Ev.refl _ w).aK (p:=⟨gc,3,none⟩) (.inr h.own) _;have o:R (λk=>k=gc) w (w.setCell ⟨gc,3,none⟩ (.int .i64 a)):=(R.refl (λk=>k=gc) w).setCell (p:=⟨gc,3,none⟩) (λ_=>rfl) _;exact⟨⟨⟨e,f,g,c.aK 3 _,i.ev b,j,rows,l,o.row d (aI d c (by decide)),λk vs s q r=>(m k vs s q r).ev b⟩,h.own,h.apart,λk t=>aN (h.lt k t) b.size⟩,b⟩
theorem wM(h:dA F C w gc gt way from_ tgt er)(a:Int):dA F C (w.setCell ⟨gc,4,none⟩ (.int .i64 a)) gc gt way from_ tgt a/\Ev (FC F C) w (FC F C) (w.setCell ⟨gc,4,none⟩ (.int .i64 a)):=by obtain⟨e,f,g,c,i,j,rows,l,d,m⟩:=h.mem;have b:Ev (FC F C) w (FC F C) (w.setCell ⟨gc,4,none⟩ (.int .i64 a)):=(Ev.refl _ w).aK (p:=⟨gc,4,none⟩) (.inr h.own) _;have o:R (λk=>k=gc) w (w.setCell ⟨gc,4,none⟩ (.int .i64 a)):=(R.refl (λk=>k=gc) w).setCell (p:=⟨gc,4,none⟩) (λ_=>rfl) _;exact⟨⟨⟨e,f,g,c.aK 4 _,i.ev b,j,rows,l,o.row d (aI d c (by decide)),λk vs s q r=>(m k vs s q r).ev b⟩,h.own,h.apart,λk t=>aN (h.lt k t) b.size⟩,b⟩
end
theorem sE{w:World}{B m:Nat}{e:TypeId}{v:Value}{xs:List Value}(h:w.ownsRow B e 4 v m xs)(l:0<m):∃g cap a,v=.slice (some ⟨g,0,none⟩) m cap/\ah w g e a/\m<=cap/\cap<=maxLen/\a.size=cap*4/\a.toList.take (m*4)=xs/\B<=g:=by
 rcases h.2 with⟨b,o⟩|⟨g,cap,a,b,c,d,f,i,j,k⟩
 ·omega
 ·exact⟨g,cap,a,b,d,f,i,j,k,c⟩
theorem Gj{F C:Nat->Prop}{w:World}{gc gt:Nat}{way:List (aj×Nat)}{from_:List UInt8}{tgt er:Int}{n:aj}{i:Nat}(h:dA F C w gc gt (way++[(n,i)]) from_ tgt er):
 ∃g cap f A c B d,ah w g 259 f/\C g/\way.length+1<=cap/\cap<=maxLen/\w.cell? ⟨gc,1,none⟩=some (.slice (some ⟨g,0,none⟩) (way.length+1) cap)/\
  w.cell? ⟨g,way.length*4,none⟩=some (.bool n.leaf)/\w.cell? ⟨g,way.length*4+1,none⟩=some (.slice A n.cells.length c)/\w.cell? ⟨g,way.length*4+2,none⟩=some (.slice B n.kids.length d)/\w.cell? ⟨g,way.length*4+3,none⟩=some (.int .i64 (i:Int))/\
  bI (bF (FC F C) w) w (.agg #[.bool n.leaf,.slice A n.cells.length c,.slice B n.kids.length d]) n/\
  ∀j:Nat,dA F C (w.setCell ⟨g,way.length*4+3,none⟩ (.int .i64 (j:Int))) gc gt (way++[(n,j)]) from_ tgt er/\Ev (FC F C) w (FC F C) (w.setCell ⟨g,way.length*4+3,none⟩ (.int .i64 (j:Int))):=by
 obtain⟨a1,am,an,Q,ao,W,rows,D,X,S⟩:=h.mem;obtain⟨g,cap,f,rfl,x,o,M,Y,E,_⟩:=sE X (by simp);have r:(way++[(n,i)]).length=way.length+1:=by simp
 rw[r]at D X o E;have N:C g:=W g rfl;obtain⟨pre,vs,Z⟩:∃pre vs,rows=pre++[vs]:=by
  have:rows≠[]:=λe=>by rw[e]at D;simp at D
  exact⟨rows.dropLast,rows.getLast this,(dropLast_concat_getLast this).symm⟩
 subst Z;have y:pre.length=way.length:=by simp at D;exact D
 obtain⟨A,c,B,d,ab,O⟩:=S way.length vs (n,i) (by rw[<-y];simp) (by simp);subst ab;have ac:∀G∈pre,G.length=4:=by
  intro G T;obtain⟨q,H,e⟩:=getElem_of_mem T;have z:q<way.length:=by omega
  obtain⟨a2,a3,B',a4,v,_⟩:=S q G way[q] (by rw[bM H,ak H,e]) (by rw[bM z,ak z]);rw[v];rfl
 have K:pre.flatten.length=way.length*4:=by
  have:=(eU pre pre.length ac).2;rw[drop_length]at this;have U:∀(l:List (List Value)),(∀G∈l,G.length=4)->l.flatten.length=l.length*4:=by
   intro l;induction l with
   |nil=>intro _;rfl
   |cons a t ih=>intro ad;rw[flatten_cons,aq,ih λG T=>ad G (.tail _ T),ad a (.head _),length_cons];omega
  rw[U pre ac,y]
 have b:∀j u,[Value.bool n.leaf,.slice A n.cells.length c,.slice B n.kids.length d,.int .i64 (i:Int)][j]?=some u->w.cell? ⟨g,way.length*4+j,none⟩=some u:=by
  intro j u ae;have ap:=(ay.1 ae).1;simp at ap;rw[x.cell];have U:f.toList[way.length*4+j]?=some u:=by
   have m:(f.toList.take ((way.length+1)*4))[way.length*4+j]?=some u:=by rw[E,flatten_append,getElem?_append_right (by omega),K,Nat.add_sub_cancel_left];simpa using ae
   rw[bw,if_pos (by omega)]at m;exact m
  simpa using U
 refine⟨g,cap,f,A,c,B,d,x,N,o,M,by have:=Q.cell 1;rw[r]at this;exact this,b 0 _ rfl,b 1 _ rfl,b 2 _ rfl,b 3 _ rfl,O,λj=>?_⟩;have L:Ev (FC F C) w (FC F C) (w.setCell ⟨g,way.length*4+3,none⟩ (.int .i64 (j:Int))):=(Ev.refl _ w).aK (p:=⟨g,way.length*4+3,none⟩) (.inr N) _;have V:gc≠g:=ah.iH Q x (by decide);have af:=x.aK (way.length*4+3) (.int .i64 (j:Int));have P:(way++[(n,j)]).length=way.length+1:=by simp
 refine⟨⟨⟨_,am,an,Q.far (p:=⟨g,way.length*4+3,none⟩) V _,ao.ev L,W,pre++[[.bool n.leaf,.slice A n.cells.length c,.slice B n.kids.length d,.int .i64 (j:Int)]],by rw[P];simp[y],?_,λq al s m v=>?_⟩,h.own,h.apart,λk a0=>aN (h.lt k a0) L.size⟩,L⟩
 ·rw[P,r];refine⟨by simp[K];omega,.inr ⟨g,cap,_,rfl,zero_le _,af,o,M,by simp[Y],?_⟩⟩;have m:(f.setIfInBounds (way.length*4+3) (.int .i64 (j:Int))).toList.take ((way.length+1)*4)=(f.toList.take ((way.length+1)*4)).set (way.length*4+3) (.int .i64 (j:Int)):=by rw[Array.toList_setIfInBounds,take_set]
  rw[m,E,flatten_append,flatten_append,set_append_right _ _ (by omega),K,Nat.add_sub_cancel_left];rfl
 ·by_cases H:q<pre.length
  ·rw[bM H]at m;rw[bM (by omega)]at v;exact(S q al s (by rw[bM H];exact m) (by rw[bM (by omega)];exact v)).ev L
  ·have z:q=pre.length:=by have:=(ay.1 m).1;simp at this;omega
   subst z;rw[getElem?_append_right (aa _),Nat.sub_self]at m;rw[y,getElem?_append_right (aa _),Nat.sub_self]at v;simp at m v;subst m;subst v;exact⟨A,c,B,d,rfl,O.ev L⟩
theorem Gl{F C:Nat->Prop}{w:World}{gc gt:Nat}{way:List (aj×Nat)}{from_:List UInt8}{tgt er:Int}(h:dA F C w gc gt way from_ tgt er)(hF:∀k,F k->k<w.heap.size)(o:Obj):dA F (plus C w.heap.size) (w.alloc o) gc gt way from_ tgt er/\Ev (FC F C) w (FC F (plus C w.heap.size)) (w.alloc o):=by
 have b:Ev (FC F C) w (FC F (plus C w.heap.size)) (w.alloc o):=((Ev.refl (FC F C) w).alloc o).mono (λk a=>by
  rcases a with a|a|a
  ·exact .inl (.inl a)
  ·exact .inl (.inr a)
  ·exact .inr a)
 obtain⟨d,f,g,i,j,l,rows,m,p,q⟩:=h.mem;refine⟨⟨⟨d,f,g,i.alloc o,j.ev b,λk a=>.inl (l k a),rows,m,((R.refl (λ_=>False) w).alloc o).row p (λ_ _ h=>h),λk vs s r t=>(q k vs s r t).ev b⟩,.inl h.own,λk a c=>a.elim (λa=>h.apart k a c) (λe=>by have:=hF k c;omega),λk a=>?_⟩,b⟩;have u:(w.alloc o).heap.size=w.heap.size+1:=World.size_alloc _ _;rcases a with a|a
 ·have:=h.lt k a;omega
 ·omega
theorem yF{F C:Nat->Prop}{w w':World}{gc gt f:Nat}{way:List (aj×Nat)}{from_:List UInt8}{tgt er:Int}{cs:Array Value}(h:dA F C w gc gt way from_ tgt er)(g:ah w f 122 cs)(l:C f)(d:R (λj=>j=f) w w'):
 dA F C w' gc gt way from_ tgt er/\Ev (FC F C) w (FC F C) w':=by
 have b:Ev (FC F C) w (FC F C) w':=⟨d.mono λj _ e=>.inr (by rw[e];exact l),λk a=>.inl a⟩;obtain⟨m,o,p,c,q,r,rows,t,i,u⟩:=h.mem;exact⟨⟨⟨m,o,p,d.blk c (ah.iH c g (by decide)),q.ev b,r,rows,t,d.row i (λk a e=>au i g (by decide) (by rw[a,e])),λk vs s v x=>(u k vs s v x).ev b⟩,h.own,h.apart,λk a=>aN (h.lt k a) b.size⟩,b⟩
theorem wrap_small(x:Int)(a:0<=x)(b:x<=100000):IntKind.i64.wrap x=x:=by
 have e:x%(2^64:Int)=x:=Int.emod_eq_of_lt a (by
  have:(2^64:Int)=18446744073709551616:=by decide
  omega)
 show(if(true&&decide (x%(2^64:Int)>=(2^63:Int)))=true then x%(2^64:Int)-(2^64:Int)else x%(2^64:Int))=x;rw[e,if_neg];have:(2^63:Int)=9223372036854775808:=by decide
 simp only[Bool.true_and,decide_eq_true_eq];omega
inductive sF (st:aB) (key:List UInt8):Nat->List (aj×Nat)->Prop
 |leaf (no:Nat) (n:aj) (hl:bS st no n) (hf:n.leaf=true):sF st key no [(n,(bk n key).1)]
 |inner (no dM:Nat) (n:aj) (l:List (aj×Nat)) (hl:bS st no n) (hf:n.leaf=false) (hk:n.kids[(bk n key).1]?=some dM) (hd:sF st key dM l):sF st key no ((n,(bk n key).1+1)::l)
theorem sF.head{st:aB}{key:List UInt8}{no:Nat}{l:List (aj×Nat)}(h:sF st key no l):∃n,bS st no n/\((n.leaf=true/\l=[(n,(bk n key).1)])\/(n.leaf=false/\∃dM c,l=(n,(bk n key).1+1)::c/\n.kids[(bk n key).1]?=some dM/\sF st key dM c)):=by
 cases h with
 |leaf _ n a b=>exact⟨n,a,.inl ⟨b,rfl⟩⟩
 |inner _ dM n c a b d e=>exact⟨n,a,.inr ⟨b,dM,c,rfl,d,e⟩⟩
def iQ(w:World)(gc:Nat):Nat:=match w.cell? ⟨gc,1,none⟩with|some (.slice _ n _)=>n|_=>0
def Gm(F C:Nat->Prop)(w:World)(d:Nat)(st:aB)(gc gt:Nat)(way l:List (aj×Nat))(from_:List UInt8)(tgt er:Int)(no:Nat)(a:World):Prop:=
 ∃(done rest:List (aj×Nat)) (b c:Nat->Prop),l=done++rest/\sF st from_ no rest/\ar a b d st/\dA b c a gc gt (way++done) from_ tgt er/\Ev (FC F C) w (FC b c) a/\(∀k,C k->c k)/\
  ∀(g:Nat) (t:TypeId) (cs:Array Value),ah w g t cs->¬F g->t≠194->t≠259->ah a g t cs
theorem DU(w:World)(F C:Nat->Prop)(gc gt a9 k:Nat)(st:aB)(h:ar w F a9 st)(cH:aL w (FC F C) gt a9 k)(way l:List (aj×Nat))(from_:List UInt8)(tgt er:Int)(z:dA F C w gc gt way from_ tgt er)(cf:Nat)(cK:sF st from_ cf l)(dc:way.length+l.length<=1000):Calls Tryz.prog 172 #[.pointer (some ⟨gc,0,none⟩),.int .i64 (cf:Int),.bool false] w (rL F C w a9 st gc gt (way++l) from_ tgt er):=by
 have c2:Hid (Gm F C w a9 st gc gt way l from_ tgt er cf w):=J ⟨[],l,F,C,rfl,cK,h,by rw[append_nil];exact z,Ev.refl _ w,λk U=>U,λg t cs ca _ _ _=>ca⟩;refine bz ?_ h cH z cK;clear h cH z cK;intro h cH z cK;go_enter Tryz.func172,Tryz.ntmps172;go_wp2_with fail;go_loopw [1] (λv1 cY=>∃no:Nat,v1=.int .i64 (no:Int)/\Hid (Gm F C w a9 st gc gt way l from_ tgt er no cY)) (λ_ cY=>way.length+l.length-iQ cY gc)
 case atStart=>exact⟨cf,rfl,c2⟩
 case round=>
  obtain⟨no,rfl,dd⟩:=hrel;obtain⟨done,rest,b0,ao,br,cg,cL,ab,a1,V,ch⟩:=dd.o;obtain⟨n,cb,bs⟩:=cg.head;obtain⟨cp,ba⟩:=I (way++done);rw[<-ba]at ab;have bA:cp.length+rest.length=way.length+l.length:=by rw[ba,br];simp;omega
  have a7:1<=rest.length:=by rcases bs with⟨_,e⟩|⟨_,_,_,e,_⟩<;>rw[e]<;>simp
  have b1:=cH.o.ev a1;have ci:aL wr b0 gt a9 k:=⟨b1.blk,λap=>b1.o (.inl ap)⟩;have c3:=J (dz wr b0 gt a9 k st cL ci no n cb);have ct:=ab;obtain⟨d5,cM,cP,E,bb,ac,rows,bv,bc,b2⟩:=ab.mem;have d6:wr.cell? ⟨gc,0,none⟩=some (.pointer (some ⟨gt,0,none⟩)):=E.cell 0;have dt:=ah.lt E;have a0:¬b0 gc:=ab.apart _ ab.own;have a8:=cb.2.1.rise;have ad:=cb.2.1.many;obtain⟨L,bm⟩:=I (from_.length);obtain⟨P,ae⟩:=I (cp.length);rw[<-bm]at E bb;rw[<-ae]at bv bc;obtain⟨cc,wc,rfl⟩:=aE bc;have z:=J ab;have du:P+1<=1000:=by omega
  obtain⟨b3,G⟩:=I (n.leaf);refine aR ?_ cL ab ct b1 ci cb E bb ac bv bc b2 bm;clear cL ab ct b1 ci cb E bb ac bv bc b2 bm;intro cL ab ct b1 ci cb E bb ac bv bc b2 bm;refine dr ?_ ae a8 ad a0 G bs br cg a1 V;clear ae a8 ad a0 G bs br cg a1 V;intro ae a8 ad a0 G bs br cg a1 V;replace ch:Hid _:=J ch;refine bf ?_ ba bA a7;clear ba bA a7;intro ba bA a7;go_wp2_with fail;go_at_call 78;refine c3.o.mono ?_;rintro e a6 ⟨T,cv,kv,d7,rfl,b4,cj,ck,dv,bx⟩;rw[<-G.o];have a2:bI (bF (FC T ao) a6) a6 (.agg #[.bool n.leaf,cv,kv]) n:=(bx.Jl (F:=FC T ao) (λj cw=>by
   rcases cw with cw|cw
   ·exact ck j cw
   ·have:=z.o.lt j cw;omega)).gS
  obtain⟨a,b,rfl⟩:=aE bx.kids;obtain⟨c,d,rfl⟩:=aE bx.rows.choose_spec.2.1;obtain⟨N,bB⟩:=I (n.cells.length);obtain⟨K,bp⟩:=I (n.kids.length);rw[<-bB,<-bp,<-G.o]at a2;rw[<-bB,<-bp];have cx:¬T a6.heap.size:=λap=>by have:=b4.lt _ ap;omega
  have a3:=ah.new a6 129 #[.bool b3,.slice c N d,.slice a K b];have a4:Ev b0 wr T (a6.alloc (.cells #[.bool b3,.slice c N d,.slice a K b] 129)):=cj.az _;have cX:=z.o.ev a4;have W:ah (a6.alloc (.cells #[.bool b3,.slice c N d,.slice a K b] 129)) gc 194 #[.pointer (some ⟨gt,0,none⟩),.slice cc P wc,.slice cM L cP,.int .i64 tgt,.int .i64 er]:=a4.blk E.o a0.o;have b5:=b4.alloc (.cells #[.bool b3,.slice c N d,.slice a K b] 129);have cy:=J (mB (a6.alloc (.cells #[.bool b3,.slice c N d,.slice a K b] 129)).drew (.agg #[.bool b3,.slice c N d,.slice a K b]) n ((a2.ev ((Ev.refl (FC T ao) a6).az (.cells #[.bool b3,.slice c N d,.slice a K b] 129)).drew).old λk U=>U.1) a8.o (by have:=ad.o;omega) cM cP from_ (by have x:=(bb.o.ev (a4.drew.add ao)).rb;rw[bm.o]at x;exact x));rw[<-bm.o]at cy;obtain⟨m,cr⟩:=I ((bk n from_).1);obtain⟨S,cS⟩:=I ((bk n from_).2);rw[<-cr,<-cS]at cy;have d8:=a3.cell 0;have m1:=a3.cell 1;have d9:=a3.cell 2;have ea:=W.cell 1;have eb:=W.cell 2;refine aR ?_ bB bp cr cS a2 bx ck b4 cj b5 a4 a3 W;clear bB bp cr cS a2 bx ck b4 cj b5 a4 a3 W;intro bB bp cr cS a2 bx ck b4 cj b5 a4 a3 W;replace cX:=J cX;replace cx:=J cx;go_wp2_with fail;go_region_law(go_simp;go_at_call 79;refine cy.o.mono ?_;rintro e A ⟨rfl,H⟩;have D:=a3.o.drew.below H (ah.lt a3.o);have ec:=D.cell 0;have ee:=D.cell 1;have ef:=D.cell 2;have M:=W.o.drew.below H (ah.lt W.o);have eg:=M.cell 1;have eh:=M.frozen 1;replace D:=J D;replace M:=J M;replace H:=J H)
  all_goals
   cases b3 with
   |true=>
    have O:Ev b0 wr T A:=a4.o.drew.below H.o;have af:ar A T a9 st:=b5.o.drew.below H.o;have q:=O.only.row bc.o (λk U=>z.o.apart k (ac.o k U));have al:=ah.new A 259 #[.bool true,.slice c N d,.slice a K b,.int .i64 (m:Int)];have i:((A.alloc (.cells #[.bool true,.slice c N d,.slice a K b,.int .i64 (m:Int)] 259)).drew).ownsRow 0 259 4 (.slice cc P wc) P rows.flatten:=(((R.refl (λ_=>False) A).alloc _).drew).row q (λ_ _ h=>h);obtain⟨v5,bd,ce,r,v,am⟩:=jH _ 0 _ P rows.flatten i A.heap.size (.bool true) (.slice c N d) (.slice a K b) (.int .i64 (m:Int)) (by intro u cz;simp at cz;rcases cz with rfl|rfl|rfl|rfl<;>rfl) (show ah (A.alloc _).drew A.heap.size 259 _ from al) 192 (by have:=ae.o;omega) (zero_le _);have f:=(O.az (.cells #[.bool true,.slice c N d,.slice a K b,.int .i64 (m:Int)] 259)).drew;have an:=(af.alloc (.cells #[.bool true,.slice c N d,.slice a K b,.int .i64 (m:Int)] 259)).drew;have y:=o8 (s:=(n,m)) (vs:=[.bool true,.slice c N d,.slice a K b,.int .i64 (m:Int)]) (way:=cp) (from_:=from_) (by rw[<-bm.o];exact f.blk E.o a0.o) (by rw[<-bm.o];exact bb.o.ev (f.add ao)) ac.o (by rw[<-ae.o];exact bv.o) (by rw[<-ae.o];exact i) (λk vs s cA cB=>(b2.o k vs s cA cB).ev (f.add ao)) z.o.own (z.o.ev f).apart (z.o.ev f).lt an.lt ⟨c,d,a,b,by show[Value.bool true,.slice c N d,.slice a K b,.int .i64 (m:Int)]=[.bool n.leaf,.slice c n.cells.length d,.slice a n.kids.length b,.int .i64 (m:Int)];rw[<-bB.o,<-bp.o,<-G.o],by have x:=a2.o.ev ((((Ev.refl (FC T ao) a6).az (.cells #[.bool true,.slice c N d,.slice a K b] 129)).drew.below H.o).az (.cells #[.bool true,.slice c N d,.slice a K b,.int .i64 (m:Int)] 259)).drew;show bI _ _ (.agg #[.bool n.leaf,.slice c n.cells.length d,.slice a n.kids.length b]) n;rw[<-G.o,<-bB.o,<-bp.o];exact x⟩ v (by rw[<-ae.o];exact r) am
    have X:=(an.grown v (λk U=>(z.o.ev f).apart k (ac.o k U))).aK (p:=⟨gc,1,none⟩) ((z.o.ev f).apart gc z.o.own) v5;have Y:Ev (FC F C) w (FC T _) (bd.setCell ⟨gc,1,none⟩ v5):=a1.o.trans ((f.add ao).trans y.2);have Z:∀(g:Nat) (t:TypeId) (cs:Array Value),ah w g t cs->¬F g->t≠194->t≠259->ah (bd.setCell ⟨gc,1,none⟩ v5) g t cs:=λg t cs ca b6 b7 b8=>by
     have be:=ch.o g t cs ca b6 b7 b8;have bi:¬b0 g:=λap=>by
      by_cases b9:C g
      ·exact z.o.apart g (V.o g b9) ap
      ·rcases a1.o.grow g (.inl ap)with x|x
       ·rcases x with x|x
        ·exact b6 x
        ·exact b9 x
       ·have:=ca.lt;omega
     exact((f.blk be bi).grown v (λe=>au i (f.blk be bi) b8.symm e.symm)).far (p:=⟨gc,1,none⟩) (ah.iH be E.o b7) v5
    have a5:rest=[(n,m)]:=by
     rcases bs.o with⟨_,e⟩|⟨ap,_⟩
     ·rw[cr.o];exact e
     ·exact absurd (G.o.trans ap) (by simp)
    have cl:Hid (rL F C w a9 st gc gt (way++l) from_ tgt er (.returned (.int .i64 0)) (bd.setCell ⟨gc,1,none⟩ v5)):=J (by
     have c0:cp++[(n,m)]=way++l:=by rw[ba.o,br.o,a5,av]
     refine⟨rfl,T,_,X,?_,Y,λk U=>.inl (V.o k U),Z⟩;rw[<-c0];exact y.1)
    replace X:=J X;replace Y:=J Y;replace Z:Hid _:=J Z;replace a5:=J a5;clear y;replace f:=J f;replace an:=J an;have c4:(A.alloc (.cells #[.bool true,.slice c N d,.slice a K b,.int .i64 (m:Int)] 259)).cell? ⟨gc,1,none⟩=some (.slice cc P wc):=(M.o.alloc _).cell 1;have p0:=(D.o.alloc (.cells #[.bool true,.slice c N d,.slice a K b,.int .i64 (m:Int)] 259)).cell 0;have p1:=(D.o.alloc (.cells #[.bool true,.slice c N d,.slice a K b,.int .i64 (m:Int)] 259)).cell 1;have p2:=(D.o.alloc (.cells #[.bool true,.slice c N d,.slice a K b,.int .i64 (m:Int)] 259)).cell 2;have Q:ah bd gc 194 #[.pointer (some ⟨gt,0,none⟩),.slice cc P wc,.slice cM L cP,.int .i64 tgt,.int .i64 er]:=(show ah (A.alloc (.cells #[.bool true,.slice c N d,.slice a K b,.int .i64 (m:Int)] 259)).drew gc 194 _ from M.o.alloc _).grown v (λe=>au q M.o (by decide) e.symm);obtain⟨de,c5,rfl⟩:=aE r;have dj:=Q.cell 1;have dk:=Q.frozen 1;refine ik ?_ O af q i al Q r v am;clear O af q i al Q r v am;intro O af q i al Q r v am;go_wp2_with fail;go_region_law(refine Lib.wp_append_run _ (.tmp 39) (.tmp 43) 192 192 rfl _ _ rfl rfl _ _ ce ?_)
    all_goals
     go_wp2_with fail;first|exact cl.o|(go_ret;exact cl.o)
   |false=>
    have O:Ev b0 wr T A:=a4.o.drew.below H.o;have af:ar A T a9 st:=b5.o.drew.below H.o;have q:=O.only.row bc.o (λk U=>z.o.apart k (ac.o k U));have al:=ah.new A 259 #[.bool false,.slice c N d,.slice a K b,.int .i64 ((m:Int)+1)];have i:((A.alloc (.cells #[.bool false,.slice c N d,.slice a K b,.int .i64 ((m:Int)+1)] 259)).drew).ownsRow 0 259 4 (.slice cc P wc) P rows.flatten:=(((R.refl (λ_=>False) A).alloc _).drew).row q (λ_ _ h=>h);obtain⟨v5,bd,ce,r,v,am⟩:=jH _ 0 _ P rows.flatten i A.heap.size (.bool false) (.slice c N d) (.slice a K b) (.int .i64 ((m:Int)+1)) (by intro u cz;simp at cz;rcases cz with rfl|rfl|rfl|rfl<;>rfl) (show ah (A.alloc _).drew A.heap.size 259 _ from al) 192 (by have:=ae.o;omega) (zero_le _);have f:=(O.az (.cells #[.bool false,.slice c N d,.slice a K b,.int .i64 ((m:Int)+1)] 259)).drew;have an:=(af.alloc (.cells #[.bool false,.slice c N d,.slice a K b,.int .i64 ((m:Int)+1)] 259)).drew;have y:=o8 (s:=(n,m+1)) (vs:=[.bool false,.slice c N d,.slice a K b,.int .i64 ((m:Int)+1)]) (way:=cp) (from_:=from_) (by rw[<-bm.o];exact f.blk E.o a0.o) (by rw[<-bm.o];exact bb.o.ev (f.add ao)) ac.o (by rw[<-ae.o];exact bv.o) (by rw[<-ae.o];exact i) (λk vs s cA cB=>(b2.o k vs s cA cB).ev (f.add ao)) z.o.own (z.o.ev f).apart (z.o.ev f).lt an.lt ⟨c,d,a,b,by show[Value.bool false,.slice c N d,.slice a K b,.int .i64 ((m:Int)+1)]=[.bool n.leaf,.slice c n.cells.length d,.slice a n.kids.length b,.int .i64 ((m:Int)+1)];rw[<-bB.o,<-bp.o,<-G.o],by have x:=a2.o.ev ((((Ev.refl (FC T ao) a6).az (.cells #[.bool false,.slice c N d,.slice a K b] 129)).drew.below H.o).az (.cells #[.bool false,.slice c N d,.slice a K b,.int .i64 ((m:Int)+1)] 259)).drew;show bI _ _ (.agg #[.bool n.leaf,.slice c n.cells.length d,.slice a n.kids.length b]) n;rw[<-G.o,<-bB.o,<-bp.o];exact x⟩ v (by rw[<-ae.o];exact r) am
    have X:=(an.grown v (λk U=>(z.o.ev f).apart k (ac.o k U))).aK (p:=⟨gc,1,none⟩) ((z.o.ev f).apart gc z.o.own) v5;have Y:Ev (FC F C) w (FC T _) (bd.setCell ⟨gc,1,none⟩ v5):=a1.o.trans ((f.add ao).trans y.2);have Z:∀(g:Nat) (t:TypeId) (cs:Array Value),ah w g t cs->¬F g->t≠194->t≠259->ah (bd.setCell ⟨gc,1,none⟩ v5) g t cs:=λg t cs ca b6 b7 b8=>by
     have be:=ch.o g t cs ca b6 b7 b8;have bi:¬b0 g:=λap=>by
      by_cases b9:C g
      ·exact z.o.apart g (V.o g b9) ap
      ·rcases a1.o.grow g (.inl ap)with x|x
       ·rcases x with x|x
        ·exact b6 x
        ·exact b9 x
       ·have:=ca.lt;omega
     exact((f.blk be bi).grown v (λe=>au i (f.blk be bi) b8.symm e.symm)).far (p:=⟨gc,1,none⟩) (ah.iH be E.o b7) v5
    obtain⟨dM,c1,a5,bj,cm⟩:∃dM c1,rest=(n,m+1)::c1/\n.kids[m]?=some dM/\sF st from_ dM c1:=by
     rcases bs.o with⟨ap,_⟩|⟨_,x⟩
     ·exact absurd (G.o.trans ap) (by simp)
     ·rw[cr.o];exact x
    have c6:=(a2.o.ev ((((Ev.refl (FC T ao) a6).az (.cells #[.bool false,.slice c N d,.slice a K b] 129)).drew.below H.o).az (.cells #[.bool false,.slice c N d,.slice a K b,.int .i64 ((m:Int)+1)] 259)).drew).ev y.2;obtain⟨ei,ej,ek,el,cD,_,_,_,cE⟩:=c6;injection cD with cD;simp at cD;have c7:m<n.kids.length:=(ay.1 bj).1;obtain⟨dl,c8,_,cn⟩:=cE.2 (by omega);have hA1:a=some dl:=by have x:=cD.2.2.1;exact x.trans c8
    have em:=cn m _ (show(n.kids.map encI)[m]?=some (.int .i64 (dM:Int))by rw[getElem?_map,bj];rfl);clear cD cn cE c8;have bl:ah (A.alloc (.cells #[.bool false,.slice c N d,.slice a K b,.int .i64 ((m:Int)+1)] 259)).drew a6.heap.size 129 #[.bool false,.slice c N d,.slice a K b]:=D.o.alloc _;have co:=(bl.grown v (λe=>au i bl (by decide) e.symm)).far (p:=⟨gc,1,none⟩) (ah.iH D.o M.o (by decide)) v5;have en:=co.cell 2;have dp:(m:Int)<(K:Int):=by have:=bp.o;omega
    have dy:(0:Int)<=(m:Int):=by omega
    have dT:(m:Int)<=70000:=by have:=cb.o.2.1.eY (by rw[<-G.o]);have:=ad.o;omega
    replace hA1:=J hA1;have d0:IntKind.i64.wrap ((m:Int)+1)=(m:Int)+1:=wrap_small _ (by omega) (by omega);have ds:wrap64 ((m:Int)+1)=(m:Int)+1:=by unfold wrap64;omega
    have hrel:Hid (Gm F C w a9 st gc gt way l from_ tgt er dM (bd.setCell ⟨gc,1,none⟩ v5)):=J (by refine⟨done++[(n,m+1)],c1,T,_,by rw[br.o,a5];simp,cm,X,?_,Y,λk U=>.inl (V.o k U),Z⟩;rw[<-av,<-ba.o];exact y.1)
    have cV:Hid (way.length+l.length-iQ (bd.setCell ⟨gc,1,none⟩ v5) gc<way.length+l.length-iQ wr gc):=J (by
     have cA:iQ wr gc=P:=by unfold iQ;rw[E.o.cell 1];rfl
     obtain⟨d1,d2,d3,c9,_,_,db,d4,da,_⟩:=y.1.mem;obtain⟨eo,ep,rfl⟩:=aE da;have cB:iQ (bd.setCell ⟨gc,1,none⟩ v5) gc=P+1:=by unfold iQ;rw[c9.cell 1];show(cp++[(n,m+1)]).length=_;rw[ae.o];simp
     have:=bA.o;have:=a7.o;have:=ae.o;rw[cA,cB];omega)
    replace X:=J X;replace Y:=J Y;replace Z:Hid _:=J Z;refine bX ?_ a5 bj cm co bl;clear a5 bj cm co bl;intro a5 bj cm co bl;clear c7;clear y;replace f:=J f;replace an:=J an;have c4:(A.alloc (.cells #[.bool false,.slice c N d,.slice a K b,.int .i64 ((m:Int)+1)] 259)).cell? ⟨gc,1,none⟩=some (.slice cc P wc):=(M.o.alloc _).cell 1;have p0:=(D.o.alloc (.cells #[.bool false,.slice c N d,.slice a K b,.int .i64 ((m:Int)+1)] 259)).cell 0;have p1:=(D.o.alloc (.cells #[.bool false,.slice c N d,.slice a K b,.int .i64 ((m:Int)+1)] 259)).cell 1;have p2:=(D.o.alloc (.cells #[.bool false,.slice c N d,.slice a K b,.int .i64 ((m:Int)+1)] 259)).cell 2;have Q:ah bd gc 194 #[.pointer (some ⟨gt,0,none⟩),.slice cc P wc,.slice cM L cP,.int .i64 tgt,.int .i64 er]:=(show ah (A.alloc (.cells #[.bool false,.slice c N d,.slice a K b,.int .i64 ((m:Int)+1)] 259)).drew gc 194 _ from M.o.alloc _).grown v (λe=>au q M.o (by decide) e.symm);obtain⟨de,c5,rfl⟩:=aE r;have dj:=Q.cell 1;have dk:=Q.frozen 1;refine ik ?_ O af q i al Q r v am;clear O af q i al Q r v am;intro O af q i al Q r v am;go_wp2_with fail;go_region_law(refine Lib.wp_append_run _ (.tmp 51) (.tmp 56) 192 192 rfl _ _ rfl rfl _ _ ce ?_)
    all_goals
     have hA1:=hA1.o;subst hA1;go_wp2_with fail;go_roundw
     case rel=>exact⟨dM,rfl,hrel⟩
     case measure=>exact cV.o
inductive mg (st:aB) (key:List UInt8) (m:aj):List Nat->Prop
 |leaf (no:Nat) (hno:no≠0) (hl:bS st no m) (hf:m.leaf=true):mg st key m [no]
 |inner (no dM:Nat) (n:aj) (r:List Nat) (hno:no≠0) (hl:bS st no n) (hf:n.leaf=false) (hi:(bk n key).1<n.kids.length) (hk:n.kids[(bk n key).1]?=some dM) (hd:mg st key m (dM::r)):mg st key m (no::dM::r)
theorem mg.head{st:aB}{key:List UInt8}{m:aj}{no:Nat}{e:List Nat}(h:mg st key m (no::e)):no≠0/\((m.leaf=true/\bS st no m/\e=[])\/∃dM n b,e=dM::b/\bS st no n/\n.leaf=false/\n.kids[(bk n key).1]?=some dM/\mg st key m (dM::b)):=by
 cases h with
 |leaf _ a c d=>exact⟨a,.inl ⟨d,c,rfl⟩⟩
 |inner _ dM n b a c d i f g=>exact⟨a,.inr ⟨dM,n,b,rfl,c,d,f,g⟩⟩
def Gn(w:World)(F:Nat->Prop)(gt e:Nat)(st:aB)(key:List UInt8)(m:aj)(a:List Nat)(no:Nat)(b:World):Prop:=∃(pre d:List Nat) (c:Nat->Prop),a=pre++no::d/\mg st key m (no::d)/\ar b c e st/\Ev F w c b
theorem CC{pre a:List Nat}{no:Nat}(h:(pre++no::a).Nodup):(pre++no::a).idxOf no=pre.length:=by
 have b:no∉pre:=λc=>by have:=(nodup_append.1 h).2.2;exact this no c no (.head _) rfl
 rw[idxOf_append,if_neg b];simp
inductive jC (st:aB):List Nat->Prop
 |nil:jC st []
 |leaf (no:Nat) (m:aj) (hno:no≠0) (hl:bS st no m) (hf:m.leaf=true):jC st [no]
 |inner (no dM:Nat) (n:aj) (r:List Nat) (hno:no≠0) (hl:bS st no n) (hf:n.leaf=false) (hk:n.kids[0]?=some dM) (hd:jC st (dM::r)):jC st (no::dM::r)
theorem jC.head{st:aB}{no:Nat}{e:List Nat}(h:jC st (no::e)):no≠0/\∃n,bS st no n/\((n.leaf=true/\e=[])\/(n.leaf=false/\∃dM b,e=dM::b/\n.kids[0]?=some dM/\jC st (dM::b))):=by
 cases h with
 |leaf _ m a c d=>exact⟨a,m,c,.inl ⟨d,rfl⟩⟩
 |inner _ dM n b a c d f g=>exact⟨a,n,c,.inr ⟨d,dM,b,rfl,f,g⟩⟩
def Ko(F:Nat->Prop)(w:World)(b:Nat)(st:aB)(n:Nat)(e:Ending)(w':World):Prop:=e=.returned (.tuple #[.int .i64 (n:Int),.int .i64 0])/\∃a,ar w' a b st/\Ev F w a w'
def CD(w:World)(F:Nat->Prop)(d:Nat)(st:aB)(a:List Nat)(j no:Nat)(b:World):Prop:=∃(pre rest:List Nat) (c:Nat->Prop),a=pre++rest/\j=pre.length/\no=rest.headD 0/\jC st rest/\ar b c d st/\Ev F w c b
theorem AV(w:World)(F:Nat->Prop)(gt b k:Nat)(st:aB)(h:ar w F b st)(H:aL w F gt b k)(a8:k<8)(a:List Nat)(ad:st.roots k=a.headD 0)(ae:jC st a)(bB:a.length<=1000):Calls Tryz.prog 74 #[.pointer (some ⟨gt,0,none⟩)] w (Ko F w b st a.length):=by
 have bm:w.cell? ⟨gt,0,none⟩=some (.pointer (some ⟨b,0,none⟩)):=H.blk.cell 0;have bp:w.cell? ⟨gt,1,none⟩=some (.int .i64 (k:Int)):=H.blk.cell 1;obtain⟨a9,P⟩:=I (st.roots k);have ba:=J (by rw[P];exact iP w.drew F b st h.drew k a8:Calls Tryz.prog 55 #[.pointer (some ⟨b,0,none⟩),.int .i64 (k:Int)] w.drew λe w'=>e=.returned (.int .i64 (a9:Int))/\w.drew=w');have bb:Hid (CD w F b st a 0 a9 w.drew):=J ⟨[],a,F,rfl,rfl,by rw[P];exact ad,ae,h.drew,(Ev.refl F w).drew⟩;refine bX ?_ h H P ad ae;clear h H P ad ae;intro h H P ad ae;go_enter Tryz.func74,Tryz.ntmps74;go_wp2_with fail;go_region_held3 (λw'=>w'.cell? ⟨gt,0,none⟩=some (.pointer (some ⟨b,0,none⟩))/\w'.cell? ⟨gt,1,none⟩=some (.int .i64 (k:Int))) (first|exact⟨bm,bp⟩) (first|(go_at_call 55;refine ba.o.mono ?_;rintro e b7 ⟨rfl,rfl⟩))
 go_wp2_with fail;go_loopw [4,5] (λv4 v5 br=>∃j no:Nat,v4=.int .i64 (j:Int)/\v5=.int .i64 (no:Int)/\Hid (CD w F b st a j no br)) (λv4 _ _=>a.length+1-(intOf v4).toNat)
 case atStart=>exact⟨0,a9,rfl,rfl,bb⟩
 case round=>
  obtain⟨j,no,rfl,rfl,bc⟩:=hrel;obtain⟨pre,rest,ap,c,l,z,A,g,f⟩:=bc.o;cases rest with
  |nil=>
   have a0:no=0:=z
   subst a0
   have Q:j=a.length:=by rw[c,append_nil];exact l
   have a1:Hid (Ko F w b st a.length (.returned (.tuple #[.int .i64 (j:Int),.int .i64 0])) wr):=J ⟨by rw[Q],ap,g,f⟩
   replace g:=J g
   replace f:=J f
   replace c:=J c
   replace l:=J l
   replace Q:=J Q
   clear z A bc
   go_wp2_with fail
   go_ret2
   exact a1.o
  |cons bd bl=>
   have a2:no=bd:=z
   subst a2
   obtain⟨an,n,a3,D⟩:=A.head
   have bs:¬(no:Int)=0:=by omega
   have b0:(j:Int)<=1000:=by have a4:=congrArg List.length c;simp at a4;omega
   have b1:(0:Int)<=(j:Int):=by omega
   have m:j<a.length:=by have a4:=congrArg List.length c;simp at a4;omega
   have S:aL wr ap gt b k:=H.o.ev f
   have be:=J (dz wr ap gt b k st g S no n a3)
   obtain⟨v,r⟩:=I (n.leaf)
   replace a3:=J a3
   replace g:=J g
   replace f:=J f
   replace S:=J S
   replace c:=J c
   replace l:=J l
   replace A:=J A
   replace D:=J D
   replace r:=J r
   replace an:=J an
   replace m:=J m
   clear z
   go_wp2_with fail
   refine be.o.mono ?_
   rintro e x ⟨L,cv,kv,b8,rfl,T,U,V,b2,s⟩
   rw[<-r.o]
   have bi:bI (bF L x) x (.agg #[.bool n.leaf,cv,kv]) n:=(s.Jl (F:=L) (λj l=>V j l)).gS
   obtain⟨M,O,rfl⟩:=aE s.kids
   obtain⟨W,X,rfl⟩:=aE s.rows.choose_spec.2.1
   obtain⟨N,a5⟩:=I (n.cells.length)
   obtain⟨K,af⟩:=I (n.kids.length)
   rw[<-a5,<-af]
   obtain⟨b9,c5,ca,cb,al,b3,b4,Y,y⟩:=bi
   injection al with al
   simp at al
   obtain⟨⟨rfl,rfl⟩,rfl,rfl⟩:=al
   have t:Ev F w L (x.alloc (.cells #[.bool v,.slice W N X,.slice M K O] 129)):=(f.o.trans U).az _
   have u:=T.alloc (.cells #[.bool v,.slice W N X,.slice M K O] 129)
   have d:=y.ev ((Ev.refl L x).az (.cells #[.bool v,.slice W N X,.slice M K O] 129))
   have i:=ah.new x 129 #[.bool v,.slice W N X,.slice M K O]
   obtain⟨Z,E⟩:=I (x.alloc (.cells #[.bool v,.slice W N X,.slice M K O] 129))
   obtain⟨bj,G⟩:=I (x.heap.size)
   rw[<-E]at t u d i
   rw[<-G]at i
   have cc:Z.cell? ⟨bj,0,none⟩=some (.bool v):=i.cell 0
   have ce:Z.cell? ⟨bj,2,none⟩=some (.slice M K O):=i.cell 2
   replace a5:=J a5
   replace af:=J af
   replace y:=J y
   replace Y:=J Y
   replace s:=J s
   replace V:=J V
   replace T:=J T
   replace U:=J U
   replace t:=J t
   replace u:=J u
   replace i:=J i
   replace E:=J E
   replace G:=J G
   go_upto_region 8 with(fail)
   rw[<-E.o,<-G.o]
   cases v with
   |true=>
    have ab:bl=[]:=by
     rcases D.o with⟨_,e⟩|⟨a6,_⟩
     ·exact e
     ·exact absurd (r.o.trans a6) (by simp)
    have hrel:Hid (CD w F b st a (j+1) 0 Z):=J ⟨pre++[no],[],L,by rw[c.o,ab];simp,by rw[l.o];simp,rfl,.nil,u.o,t.o⟩
    replace ab:=J ab
    replace d:=J d
    go_wp2_with fail
    go_roundw
    case rel=>exact⟨j+1,0,by simp,rfl,hrel⟩
    case measure=>have:=m.o;simp[intOf];omega
   |false=>
    obtain⟨dM,am,a7,p,ac⟩:∃dM am,bl=dM::am/\n.kids[0]?=some dM/\jC st (dM::am):=by
     rcases D.o with⟨a6,_⟩|⟨_,bv⟩
     ·exact absurd (r.o.trans a6) (by simp)
     ·exact bv
    have ao:0<n.kids.length:=(ay.1 p).1
    obtain⟨bx,bA,_,q⟩:=d.2 ao
    subst bA
    have cf:Z.cell? bx=some (.int .i64 (dM:Int)):=q 0 _ (by rw[getElem?_map,p];rfl)
    have b5:0<K:=by have:=af.o;omega
    have b6:(0:Int)<(K:Int):=by omega
    have hrel:Hid (CD w F b st a (j+1) dM Z):=J ⟨pre++[no],dM::am,L,by rw[c.o,a7];simp,by rw[l.o];simp,rfl,ac,u.o,t.o⟩
    replace p:=J p
    replace a7:=J a7
    replace ac:=J ac
    replace q:=J q
    replace d:=J d
    clear ao
    go_wp2_with fail
    go_roundw
    case rel=>exact⟨j+1,dM,by simp,rfl,hrel⟩
    case measure=>have:=m.o;simp[intOf];omega
theorem AX{T:aF->Option aF->Nat->List ai->List Nat->Prop}{cs:List ai}{a:List Nat}{e:aF}{f:Option aF}{L:List ai}{P:List Nat}(h:Kids T cs a e f L P):∃k b d l p,a[0]?=some k/\T b d k l p:=by
 cases h with
 |one k _ _ _ _ h=>exact⟨k,_,_,_,_,rfl,h⟩
 |more c cs k a _ _ l p _ _ g h i=>exact⟨k,_,_,_,_,rfl,h⟩
theorem qO{st:aB}:∀(h m:Nat) (c:aF) (d:Option aF) (no:Nat) (L:List ai) (P:List Nat),bn st h m c d no L P->∃b,jC st (no::b)/\b.length=h
 |0,m,c,d,no,L,P,e=>by
  obtain⟨n,a,_,⟨f,_⟩,_⟩:=e
  exact⟨[],.leaf no n (by have:=a.1.1;omega) a f,rfl⟩
 |h+1,m,c,d,no,L,P,e=>by
  obtain⟨n,Q,a,_,⟨f,s⟩,_⟩:=e
  obtain⟨k,g,i,l,p,j,o⟩:=AX s
  obtain⟨b,q,r⟩:=qO h 127 g i k l p o
  exact⟨k::b,.inner no k n b (by have:=a.1.1;omega) a f j q,by simp[r]⟩
inductive rq (st:aB):Nat->List (aj×Nat)->Prop
 |leaf (no:Nat) (n:aj) (hl:bS st no n) (hf:n.leaf=true):rq st no [(n,0)]
 |inner (no dM:Nat) (n:aj) (l:List (aj×Nat)) (hl:bS st no n) (hf:n.leaf=false) (hk:n.kids[0]?=some dM) (hd:rq st dM l):rq st no ((n,1)::l)
theorem rq.head{st:aB}{no:Nat}{l:List (aj×Nat)}(h:rq st no l):∃n,bS st no n/\((n.leaf=true/\l=[(n,0)])\/(n.leaf=false/\∃dM c,l=(n,1)::c/\n.kids[0]?=some dM/\rq st dM c)):=by
 cases h with
 |leaf _ n a b=>exact⟨n,a,.inl ⟨b,rfl⟩⟩
 |inner _ dM n c a b d e=>exact⟨n,a,.inr ⟨b,dM,c,rfl,d,e⟩⟩
inductive nM (st:aB):Nat->List (aj×Nat)->List (aj×Nat)->Option ai->Prop
 |done (N:Nat):nM st N [] [] none
 |cell (N:Nat) (way:List (aj×Nat)) (n:aj) (i:Nat) (c:ai) (hf:n.leaf=true) (hc:n.cells[i]?=some c) (hi:i<=100000):nM st N (way++[(n,i)]) (way++[(n,i+1)]) (some c)
 |dM (N:Nat) (way:List (aj×Nat)) (n:aj) (i kno:Nat) (l way':List (aj×Nat)) (r:Option ai) (hf:n.leaf=false) (hk:n.kids[i]?=some kno) (hd:rq st kno l) (hlen:way.length+1+l.length<=1000) (hi:i<=100000)
  (hr:nM st N ((way++[(n,i+1)])++l) way' r):nM st (N+1) (way++[(n,i)]) way' r
 |pop (N:Nat) (way:List (aj×Nat)) (n:aj) (i:Nat) (way':List (aj×Nat)) (r:Option ai) (hi:(if n.leaf=true then n.cells.length else n.kids.length)<=i) (hr:nM st N way way' r):nM st (N+1) (way++[(n,i)]) way' r
inductive sG (st:aB) (h:Nat):List Nat->List ai->Prop
 |nil:sG st h [] []
 |cons (k:Nat) (ks:List Nat) (l L:List ai) (lo:aF) (hi:Option aF) (p:List Nat) (ht:bn st h 127 lo hi k l p) (hr:sG st h ks L):sG st h (k::ks) (l++L)
inductive kE (st:aB) (M:Nat):List (aj×Nat)->List ai->Prop
 |nil:kE st M [] []
 |leaf (way:List (aj×Nat)) (L:List ai) (n:aj) (i:Nat) (hf:n.leaf=true) (hb:n.cells.length<=70000) (hr:kE st M way L):kE st M (way++[(n,i)]) (n.cells.drop i++L)
 |inner (way:List (aj×Nat)) (L l:List ai) (n:aj) (i h:Nat) (hf:n.leaf=false) (hk:sG st h (n.kids.drop i) l) (hM:way.length+1+(h+1)<=M) (hb:n.kids.length<=70000) (hr:kE st M way L):kE st M (way++[(n,i)]) (l++L)
theorem yG{st:aB}{h:Nat}{cs:List ai}{d:List Nat}{a:aF}{b:Option aF}{L:List ai}{P:List Nat}(f:Kids (λa b k l p=>bn st h 127 a b k l p) cs d a b L P):sG st h d L:=by
 induction f with
 |one k a b L P h=>
  have e:=sG.cons k [] L [] a b P h .nil
  rw[append_nil]at e
  exact e
 |more c cs k d a b l p L P g h i ih=>exact .cons k d l L a _ p h ih
theorem Gp{st:aB}:∀{h m:Nat} {a:aF} {b:Option aF} {no:Nat} {L:List ai} {P:List Nat},bn st h m a b no L P->7<=m->L≠[]:=by intro h m a b no L P c d e;have:=c.qp d;rw[e]at this;have f:0<2^h:=Nat.pow_pos (by decide);have g:([]:List ai).length=0:=rfl;omega
theorem yH{st:aB}{M:Nat}:∀(h m:Nat) (i:aF) (j:Option aF) (no:Nat) (L:List ai) (P:List Nat),bn st h m i j no L P->7<=m->∃l,rq st no l/\l.length=h+1/\(∃pre n,l=pre++[(n,0)]/\n.leaf=true/\n.cells≠[])/\∀way d,way.length+(h+1)<=M->kE st M way d->kE st M (way++l) (L++d)
 |0,m,i,j,no,L,P,b,q=>by
  have r:=Gp b q
  obtain⟨n,c,_,⟨a,rfl,_⟩,_⟩:=b
  exact⟨_,.leaf no n c a,rfl,⟨[],n,rfl,a,r⟩,λway d y o=>by have:=kE.leaf way d n 0 a (by have:=c.2.1.many;omega) o;rw[drop_zero]at this;exact this⟩
 |h+1,m,i,j,no,L,P,b,q=>by
  obtain⟨n,Q,c,_,⟨a,t⟩,rfl⟩:=b
  have f:=yG t
  have e:=t.len
  generalize g:n.kids=z at f e
  cases f with
  |nil=>simp at e
  |cons k z l L u v p b o=>
   obtain⟨s,A,D,⟨pre,E,G,H,K⟩,N⟩:=yH h 127 u v k l p b (by omega)
   refine⟨(n,1)::s,.inner no k n s c a (by rw[g];rfl) A,by simp[D],⟨(n,1)::pre,E,by rw[G];rfl,H,K⟩,λway d y O=>?_⟩
   have S:=kE.inner way d L n 1 h a (by rw[g];exact o) (by omega) (by have:=c.2.1.eY a;have:=c.2.1.many;omega) O
   have x:=N (way++[(n,1)]) (L++d) (by simp;omega) S
   rw[av,singleton_append]at x
   rw[av]
   exact x
def lC(key:aF)(c:ai):Bool:=!bY c.key key
theorem CE{key:aF}{L:List ai}(h:∀x∈L,bY x.key key=true):L.filter (lC key)=[]:=filter_eq_nil_iff.2 λx a=>by unfold lC;rw[h x a];decide
theorem AY{key:aF}{L:List ai}(h:∀x∈L,bY x.key key=false):L.filter (lC key)=L:=filter_eq_self.2 λx a=>by unfold lC;rw[h x a];rfl
theorem yI(L:List ai)(key:aF)(e:cW L)(j:Nat)(i:bL L key<=j)(x:ai)(a:L[j]?=some x):bY x.key key=false:=by
 have g:=(ay.1 a).1;obtain⟨c,b⟩:∃c,L[bL L key]?=some c:=⟨_,ak (by omega)⟩;have d:=o9 L key c b;rcases aA (bL L key) j with h|h
 ·cases hq:bY x.key key with
  |false=>rfl
  |true=>
   have f:=dq _ _ _ (e.at_ h b a) hq
   rw[f]at d;cases d
 ·have:bL L key=j:=by omega
  rw[this]at b;rw[b]at a;injection a with a;rw[<-a];exact d
theorem Jw{st:aB}{h:Nat}{cs:List ai}{f:List Nat}{b:aF}{e:Option aF}{L:List ai}{P:List Nat}(key:aF)(z:Kids (λb e k l p=>bn st h 127 b e k l p) cs f b e L P):
 ∀i,i<f.length->(∀c,0<i->cs[i-1]?=some c->bY key c.key=false)->(∀c,cs[i]?=some c->bY key c.key=true)->
 ∃k g j l p m,f[i]?=some k/\bn st h 127 g j k l p/\sG st h (f.drop (i+1)) m/\L.filter (lC key)=l.filter (lC key)++m:=by
 induction z with
 |one k b e L P h=>
  intro i a _ _
  simp at a
  subst a
  exact⟨k,b,e,L,P,[],rfl,h,.nil,by simp⟩
 |more c cs k f b e l p L P S h o ih=>
  intro i a r u
  cases i with
  |zero=>
   refine⟨k,b,_,l,p,L,rfl,h,yG o,?_⟩
   rw[filter_append,AY (L:=L)]
   intro x s
   have v:=(o.keys (λ_ _ _ _ _ A=>bn.keys A) x s).1
   have D:=u c rfl
   cases hq:bY x.key key with
   |false=>rfl
   |true=>have:=dq _ _ _ hq D;rw[this]at v;cases v
  |succ i=>
   have y:bY key c.key=false:=by
    cases i with
    |zero=>exact r c (by omega) rfl
    |succ i=>
     have q:i<cs.length:=by have:=o.len;simp at a;omega
     have E:=r cs[i] (by omega) (by simp[getElem?_eq_getElem q])
     exact qt _ _ _ (cq _ _ (o.Gq cs[i] (getElem_mem q)).1) E
   obtain⟨G,g,j,H,K,m,M,N,O,Q⟩:=ih i (by simpa using a) (λd T t=>r d (by omega) (by
    cases i with
    |zero=>omega
    |succ i=>simpa using t)) (λd t=>u d (by simpa using t))
   refine⟨G,g,j,H,K,m,by simpa using M,N,by simpa using O,?_⟩
   rw[filter_append,CE (L:=l),nil_append,Q]
   intro x s
   exact fF _ _ _ ((bn.keys h x s).2 _ rfl) y
theorem yJ{st:aB}{M:Nat}(key:aF):∀(h m:Nat) (g:aF) (i:Option aF) (no:Nat) (L:List ai) (P:List Nat),bn st h m g i no L P->∃l,sF st key no l/\l.length=h+1/\∀way e,way.length+(h+1)<=M->kE st M way e->kE st M (way++l) (L.filter (lC key)++e)
 |0,m,g,i,no,L,P,o=>by
  obtain⟨n,a,_,⟨b,rfl,_⟩,_⟩:=o
  refine⟨_,.leaf no n a b,rfl,λway e D E=>?_⟩
  have r:=kE.leaf way e n (bk n key).1 b (by have:=a.2.1.many;omega) E
  have G:n.cells.drop (bk n key).1=n.cells.filter (lC key):=by
   have d:=a.2.1.rise;have H:(bk n key).1=bL n.cells key:=by rw[j8 n key b]
   rw[H];obtain⟨q,_⟩:=ji d key;have K:n.cells=n.cells.take (bL n.cells key)++n.cells.drop (bL n.cells key):=(bE ..).symm;have N:∀x∈n.cells.drop (bL n.cells key),bY x.key key=false:=λx f=>by obtain⟨j,t⟩:=mem_iff_getElem?.1 f;rw[getElem?_drop]at t;exact yI n.cells key d _ (by omega) x t
   have O:∀x∈n.cells.take (bL n.cells key),bY x.key key=true:=λx f=>by rw[<-q]at f;exact AZ f
   conv=>rhs;rw[K,filter_append,CE O,AY N,nil_append]
  rw[G]at r
  exact r
 |h+1,m,g,i,no,L,P,o=>by
  obtain⟨n,Q,a,_,⟨b,u⟩,rfl⟩:=o
  obtain⟨Z,S,T⟩:=mF n key a.2.1.rise b
  obtain⟨k,v,y,l,p,z,q,U,V,W⟩:=Jw key u (bk n key).1 (by rw[u.len];omega) (λc=>S c) T
  obtain⟨s,s1,s2,s3⟩:=yJ key h 127 v y k l p U
  refine⟨(n,(bk n key).1+1)::s,.inner no k n s a b q s1,by simp[s2],λway e D X=>?_⟩
  have Y:=kE.inner way e z n ((bk n key).1+1) h b V (by omega) (by have:=a.2.1.eY b;have:=a.2.1.many;omega) X
  have A:=s3 (way++[(n,(bk n key).1+1)]) (z++e) (by simp;omega) Y
  rw[av,singleton_append,<-av,<-W]at A
  exact A
theorem kE.last{st:aB}{M:Nat}{way:List (aj×Nat)}{L:List ai}{n:aj}{i:Nat}(h:kE st M (way++[(n,i)]) L)(k:n.leaf=true):∃d,L=n.cells.drop i++d/\kE st M way d/\n.cells.length<=70000:=by
 generalize e:way++[(n,i)]=W at h;cases h with
 |nil=>simp at e
 |leaf c f l m a g j=>
  obtain⟨rfl,b⟩:=append_inj' e rfl
  simp at b
  obtain⟨rfl,rfl⟩:=b
  exact⟨f,rfl,j,g⟩
 |inner c f o l m p a q r g j=>
  obtain⟨rfl,b⟩:=append_inj' e rfl
  simp at b
  obtain⟨rfl,rfl⟩:=b
  rw[k]at a;cases a
theorem CF{st:aB}{M:Nat}{way:List (aj×Nat)}{L:List ai}(V:M<=1000)(G:kE st M way L):∃N a f,nM st N way a f/\f=L.head?/\kE st M a L.tail:=by
 induction G with
 |nil=>exact⟨0,[],none,.done 0,rfl,.nil⟩
 |leaf way L n i d o q ih=>
  rcases aA i n.cells.length with e|e
  ·refine⟨0,way++[(n,i+1)],some n.cells[i],.cell 0 way n i _ d (ak e) (by omega),?_⟩;rw[drop_eq_getElem_cons e,cons_append];exact⟨rfl,.leaf way L n (i+1) d o q⟩
  ·obtain⟨N,a,f,r,t⟩:=ih;refine⟨N+1,a,f,.pop N way n i a f (by rw[if_pos d];exact e) r,?_⟩;rw[drop_of_length_le e,nil_append];exact t
 |inner way L l n i h d x u o q ih=>
  generalize b:n.kids.drop i=H at x
  cases x with
  |nil=>
   obtain⟨N,a,f,r,t⟩:=ih
   refine⟨N+1,a,f,.pop N way n i a f (by rw[if_neg (by rw[d];decide)];exact drop_eq_nil_iff.1 b) r,?_⟩
   rw[nil_append]
   exact t
  |cons k H l y K e p O z=>
   have m:i<n.kids.length:=by
    rcases aA i n.kids.length with g|g
    ·exact g
    ·rw[drop_of_length_le g]at b;cases b
   rw[drop_eq_getElem_cons m]at b
   injection b with A b
   obtain⟨s,s1,s2,⟨pre,j,s3,s4,s5⟩,s6⟩:=yH (M:=M) h 127 K e k l p O (by decide)
   have P:=kE.inner way L y n (i+1) h d (by rw[b];exact z) u o q
   have D:=s6 (way++[(n,i+1)]) (y++L) (by simp;omega) P
   obtain⟨c,f,v⟩:=exists_cons_of_ne_nil s5
   rw[s3,<-av]at D
   have g:nM st 0 ((way++[(n,i+1)]++pre)++[(j,0)]) ((way++[(n,i+1)]++pre)++[(j,1)]) (some c):=.cell 0 _ j 0 c s4 (by rw[v];rfl) (by omega)
   have E:nM st 1 (way++[(n,i)]) ((way++[(n,i+1)]++pre)++[(j,1)]) (some c):=.dM 0 way n i k s _ _ d (by rw[ak m,A]) s1 (by omega) (by omega) (by rw[s3,<-av (way++[(n,i+1)])];exact g)
   refine⟨1,_,_,E,?_⟩
   obtain⟨U,Q,S,T⟩:=kE.last D s4
   rw[av,Q,v,drop_zero,cons_append]
   refine⟨rfl,?_⟩
   have:=kE.leaf _ U j 1 s4 T S
   rw[v]at this
   exact this
def sH(st:aB)(key:aF)(way:List (aj×Nat))(tgt:Int)(L:List ai):Prop:=(tgt=-1/\kE st 1000 way L)\/(tgt=0/\way=[]/\L=[])\/∃(no h:Nat) (a:List ai) (P:List Nat),tgt=(no:Int)/\way=[]/\h+1<=1000/\bn st h 7 [] none no a P/\L=a.filter (lC key)
def CG(st:aB)(key:aF)(way:List (aj×Nat))(tgt:Int)(a:List (aj×Nat))(b:Option ai):Prop:=(tgt=-1/\∃N,nM st N way a b)\/(tgt=0/\way=[]/\a=[]/\b=none)\/∃(no:Nat) (l:List (aj×Nat)),tgt=(no:Int)/\0<no/\way=[]/\sF st key no l/\l.length<=1000/\∃N,nM st N l a b
theorem Gr{st:aB}{key:aF}{way:List (aj×Nat)}{tgt:Int}{L:List ai}(h:sH st key way tgt L):∃a b,CG st key way tgt a b/\b=L.head?/\sH st key a (-1) L.tail:=by
 rcases h with⟨rfl,h⟩|⟨rfl,rfl,rfl⟩|⟨no,h,e,P,rfl,rfl,f,c,rfl⟩
 ·obtain⟨N,a,b,g,i,j⟩:=CF (aa _) h;exact⟨a,b,.inl ⟨rfl,N,g⟩,i,.inl ⟨rfl,j⟩⟩
 ·exact⟨[],none,.inr (.inl ⟨rfl,rfl,rfl,rfl⟩),rfl,.inl ⟨rfl,.nil⟩⟩
 ·obtain⟨l,k,r,m⟩:=yJ (M:=1000) key h 7 [] none no e P c;have d:=m [] [] (by simpa using f) .nil;rw[append_nil,nil_append]at d;obtain⟨N,a,b,o,p,q⟩:=CF (aa _) d;exact⟨a,b,.inr (.inr ⟨no,l,rfl,by have:=c.has.1;omega,rfl,k,by omega,N,o⟩),p,.inl ⟨rfl,q⟩⟩
def Ba(F C:Nat->Prop)(w:World)(d:Nat)(st:aB)(gc gt:Nat)(way l:List (aj×Nat))(from_:List UInt8)(tgt er:Int)(no:Nat)(a:World):Prop:=
 ∃(done rest:List (aj×Nat)) (b c:Nat->Prop),l=done++rest/\rq st no rest/\ar a b d st/\dA b c a gc gt (way++done) from_ tgt er/\Ev (FC F C) w (FC b c) a/\(∀k,C k->c k)/\
  ∀(g:Nat) (t:TypeId) (cs:Array Value),ah w g t cs->¬F g->t≠194->t≠259->ah a g t cs
theorem Bb(w:World)(F C:Nat->Prop)(gc gt an k:Nat)(st:aB)(h:ar w F an st)(cD:aL w (FC F C) gt an k)(way l:List (aj×Nat))(from_:List UInt8)(tgt er:Int)(x:dA F C w gc gt way from_ tgt er)(ce:Nat)(cE:rq st ce l)(c9:way.length+l.length<=1000):Calls Tryz.prog 172 #[.pointer (some ⟨gc,0,none⟩),.int .i64 (ce:Int),.bool true] w (rL F C w an st gc gt (way++l) from_ tgt er):=by
 have cX:Hid (Ba F C w an st gc gt way l from_ tgt er ce w):=J ⟨[],l,F,C,rfl,cE,h,by rw[append_nil];exact x,Ev.refl _ w,λk ab=>ab,λg t cs ca _ _ _=>ca⟩;refine bz ?_ h cD x cE;clear h cD x cE;intro h cD x cE;go_enter Tryz.func172,Tryz.ntmps172;go_wp2_with fail;go_loopw [1] (λv1 cP=>∃no:Nat,v1=.int .i64 (no:Int)/\Hid (Ba F C w an st gc gt way l from_ tgt er no cP)) (λ_ cP=>way.length+l.length-iQ cP gc)
 case atStart=>exact⟨ce,rfl,cX⟩
 case round=>
  obtain⟨no,rfl,da⟩:=hrel;obtain⟨done,rest,bB,ao,bd,cf,cH,S,af,G,cg⟩:=da.o;obtain⟨n,cm,be⟩:=cf.head;obtain⟨cn,ap⟩:=I (way++done);rw[<-ap]at S;have bm:cn.length+rest.length=way.length+l.length:=by rw[ap,bd];simp;omega
  have am:1<=rest.length:=by rcases be with⟨_,e⟩|⟨_,_,_,e,_⟩<;>rw[e]<;>simp
  have b0:=cD.o.ev af;have ch:aL wr bB gt an k:=⟨b0.blk,λac=>b0.o (.inl ac)⟩;have cY:=J (dz wr bB gt an k st cH ch no n cm);have co:=S;obtain⟨d0,cK,cL,A,bi,T,rows,bj,a0,b1⟩:=S.mem;have d1:wr.cell? ⟨gc,0,none⟩=some (.pointer (some ⟨gt,0,none⟩)):=A.cell 0;have dk:=ah.lt A;have ad:¬bB gc:=S.apart _ S.own;have bp:=cm.2.1.rise;have br:=cm.2.1.many;obtain⟨L,b2⟩:=I (from_.length);obtain⟨P,U⟩:=I (cn.length);rw[<-b2]at A bi;rw[<-U]at bj a0;obtain⟨b3,wc,rfl⟩:=aE a0;have x:=J S;have dl:P+1<=1000:=by omega
  obtain⟨bs,D⟩:=I (n.leaf);refine aR ?_ cH S co b0 ch cm A bi T bj a0 b1 b2;clear cH S co b0 ch cm A bi T bj a0 b1 b2;intro cH S co b0 ch cm A bi T bj a0 b1 b2;refine dr ?_ U bp br ad D be bd cf af G;clear U bp br ad D be bd cf af G;intro U bp br ad D be bd cf af G;replace cg:Hid _:=J cg;refine bf ?_ ap bm am;clear ap bm am;intro ap bm am;go_wp2_with fail;go_at_call 78;refine cY.o.mono ?_;rintro e V ⟨H,cv,kv,d2,rfl,b4,ci,cj,dp,bl⟩;rw[<-D.o];have a1:bI (bF (FC H ao) V) V (.agg #[.bool n.leaf,cv,kv]) n:=(bl.Jl (F:=FC H ao) (λj cp=>by
   rcases cp with cp|cp
   ·exact cj j cp
   ·have:=x.o.lt j cp;omega)).gS
  obtain⟨a,b,rfl⟩:=aE bl.kids;obtain⟨c,d,rfl⟩:=aE bl.rows.choose_spec.2.1;obtain⟨N,bv⟩:=I (n.cells.length);obtain⟨K,bc⟩:=I (n.kids.length);rw[<-bv,<-bc,<-D.o]at a1;rw[<-bv,<-bc];have cb:¬H V.heap.size:=λac=>by have:=b4.lt _ ac;omega
  have a2:=ah.new V 129 #[.bool bs,.slice c N d,.slice a K b];have a3:Ev bB wr H (V.alloc (.cells #[.bool bs,.slice c N d,.slice a K b] 129)):=ci.az _;have cr:=x.o.ev a3;have ae:ah (V.alloc (.cells #[.bool bs,.slice c N d,.slice a K b] 129)) gc 194 #[.pointer (some ⟨gt,0,none⟩),.slice b3 P wc,.slice cK L cL,.int .i64 tgt,.int .i64 er]:=a3.blk A.o ad.o;have b5:=b4.alloc (.cells #[.bool bs,.slice c N d,.slice a K b] 129);have d3:=a2.cell 0;have m1:=a2.cell 1;have d4:=a2.cell 2;have d5:=ae.cell 1;have d6:=ae.cell 2;refine aR ?_ bv bc a1 bl cj b4 ci b5 a3 a2 ae cr cb;clear bv bc a1 bl cj b4 ci b5 a3 a2 ae cr cb;intro bv bc a1 bl cj b4 ci b5 a3 a2 ae cr cb;obtain⟨m,a4⟩:=I (V.alloc (.cells #[.bool bs,.slice c N d,.slice a K b] 129));have a5:=J (by rw[a4];exact Below.refl _ _:Below (V.alloc (.cells #[.bool bs,.slice c N d,.slice a K b] 129)).heap.size (V.alloc (.cells #[.bool bs,.slice c N d,.slice a K b] 129)) m);have E:=J (by rw[a4];exact a2.o:ah m V.heap.size 129 #[.bool bs,.slice c N d,.slice a K b]);have W:=J (by rw[a4];exact ae.o:ah m gc 194 #[.pointer (some ⟨gt,0,none⟩),.slice b3 P wc,.slice cK L cL,.int .i64 tgt,.int .i64 er]);have d7:=E.o.cell 0;have d8:=E.o.cell 1;have d9:=E.o.cell 2;have ea:=W.o.cell 1;have eb:=W.o.frozen 1;replace a4:=J a4;cases bs with
  |true=>
   have X:Ev bB wr H m:=a3.o.below a5.o
   have a6:ar m H an st:=b5.o.below a5.o
   have q:=X.only.row a0.o (λk ab=>x.o.apart k (T.o k ab))
   have a7:=ah.new m 259 #[.bool true,.slice c N d,.slice a K b,.int .i64 0]
   have i:((m.alloc (.cells #[.bool true,.slice c N d,.slice a K b,.int .i64 0] 259)).drew).ownsRow 0 259 4 (.slice b3 P wc) P rows.flatten:=(((R.refl (λ_=>False) m).alloc _).drew).row q (λ_ _ h=>h)
   obtain⟨v5,al,cc,r,y,a8⟩:=jH _ 0 _ P rows.flatten i m.heap.size (.bool true) (.slice c N d) (.slice a K b) (.int .i64 0) (by intro u ct;simp at ct;rcases ct with rfl|rfl|rfl|rfl<;>rfl) (show ah (m.alloc _).drew m.heap.size 259 _ from a7) 192 (by have:=U.o;omega) (zero_le _)
   have f:=(X.az (.cells #[.bool true,.slice c N d,.slice a K b,.int .i64 0] 259)).drew
   have Y:=(a6.alloc (.cells #[.bool true,.slice c N d,.slice a K b,.int .i64 0] 259)).drew
   have v:=o8 (s:=(n,0)) (vs:=[.bool true,.slice c N d,.slice a K b,.int .i64 0]) (way:=cn) (from_:=from_) (by rw[<-b2.o];exact f.blk A.o ad.o) (by rw[<-b2.o];exact bi.o.ev (f.add ao)) T.o (by rw[<-U.o];exact bj.o) (by rw[<-U.o];exact i) (λk vs s cw cx=>(b1.o k vs s cw cx).ev (f.add ao)) x.o.own (x.o.ev f).apart (x.o.ev f).lt Y.lt ⟨c,d,a,b,by show[Value.bool true,.slice c N d,.slice a K b,.int .i64 0]=[.bool n.leaf,.slice c n.cells.length d,.slice a n.kids.length b,.int .i64 0];rw[<-bv.o,<-bc.o,<-D.o],by have z:=a1.o.ev ((((Ev.refl (FC H ao) V).az (.cells #[.bool true,.slice c N d,.slice a K b] 129)).below a5.o).az (.cells #[.bool true,.slice c N d,.slice a K b,.int .i64 0] 259)).drew;show bI _ _ (.agg #[.bool n.leaf,.slice c n.cells.length d,.slice a n.kids.length b]) n;rw[<-D.o,<-bv.o,<-bc.o];exact z⟩ y (by rw[<-U.o];exact r) a8
   have M:=(Y.grown y (λk ab=>(x.o.ev f).apart k (T.o k ab))).aK (p:=⟨gc,1,none⟩) ((x.o.ev f).apart gc x.o.own) v5
   have O:Ev (FC F C) w (FC H _) (al.setCell ⟨gc,1,none⟩ v5):=af.o.trans ((f.add ao).trans v.2)
   have Q:∀(g:Nat) (t:TypeId) (cs:Array Value),ah w g t cs->¬F g->t≠194->t≠259->ah (al.setCell ⟨gc,1,none⟩ v5) g t cs:=λg t cs ca b6 b7 b8=>by
    have a9:=cg.o g t cs ca b6 b7 b8;have ba:¬bB g:=λac=>by
     by_cases b9:C g
     ·exact x.o.apart g (G.o g b9) ac
     ·rcases af.o.grow g (.inl ac)with z|z
      ·rcases z with z|z
       ·exact b6 z
       ·exact b9 z
      ·have:=ca.lt;omega
    exact((f.blk a9 ba).grown y (λe=>au i (f.blk a9 ba) b8.symm e.symm)).far (p:=⟨gc,1,none⟩) (ah.iH a9 A.o b7) v5
   have bb:rest=[(n,0)]:=by
    rcases be.o with⟨_,e⟩|⟨ac,_⟩
    ·exact e
    ·exact absurd (D.o.trans ac) (by simp)
   have ck:Hid (rL F C w an st gc gt (way++l) from_ tgt er (.returned (.int .i64 0)) (al.setCell ⟨gc,1,none⟩ v5)):=J (by
    have cS:cn++[(n,0)]=way++l:=by rw[ap.o,bd.o,bb,av]
    refine⟨rfl,H,_,M,?_,O,λk ab=>.inl (G.o k ab),Q⟩;rw[<-cS];exact v.1)
   replace M:=J M
   replace O:=J O
   replace Q:Hid _:=J Q
   replace bb:=J bb
   clear v
   replace f:=J f
   replace Y:=J Y
   have c0:(m.alloc (.cells #[.bool true,.slice c N d,.slice a K b,.int .i64 0] 259)).cell? ⟨gc,1,none⟩=some (.slice b3 P wc):=(W.o.alloc _).cell 1
   have p0:=(E.o.alloc (.cells #[.bool true,.slice c N d,.slice a K b,.int .i64 0] 259)).cell 0
   have p1:=(E.o.alloc (.cells #[.bool true,.slice c N d,.slice a K b,.int .i64 0] 259)).cell 1
   have p2:=(E.o.alloc (.cells #[.bool true,.slice c N d,.slice a K b,.int .i64 0] 259)).cell 2
   have Z:ah al gc 194 #[.pointer (some ⟨gt,0,none⟩),.slice b3 P wc,.slice cK L cL,.int .i64 tgt,.int .i64 er]:=(show ah (m.alloc (.cells #[.bool true,.slice c N d,.slice a K b,.int .i64 0] 259)).drew gc 194 _ from W.o.alloc _).grown y (λe=>au q W.o (by decide) e.symm)
   obtain⟨db,c5,rfl⟩:=aE r
   have dc:=Z.cell 1
   have dd:=Z.frozen 1
   replace X:=J X
   replace a6:=J a6
   replace q:=J q
   replace i:=J i
   replace a7:=J a7
   replace Z:=J Z
   replace r:=J r
   replace y:=J y
   replace a8:=J a8
   go_upto_region 8 with(fail)
   rw[<-a4.o]
   go_region_law(refine Lib.wp_append_run _ (.tmp 39) (.tmp 43) 192 192 rfl _ _ rfl rfl _ _ cc ?_)
   all_goals
    go_wp2_with fail;first|exact ck.o|(go_ret;exact ck.o)
  |false=>
   have X:Ev bB wr H m:=a3.o.below a5.o
   have a6:ar m H an st:=b5.o.below a5.o
   have q:=X.only.row a0.o (λk ab=>x.o.apart k (T.o k ab))
   have a7:=ah.new m 259 #[.bool false,.slice c N d,.slice a K b,.int .i64 1]
   have i:((m.alloc (.cells #[.bool false,.slice c N d,.slice a K b,.int .i64 1] 259)).drew).ownsRow 0 259 4 (.slice b3 P wc) P rows.flatten:=(((R.refl (λ_=>False) m).alloc _).drew).row q (λ_ _ h=>h)
   obtain⟨v5,al,cc,r,y,a8⟩:=jH _ 0 _ P rows.flatten i m.heap.size (.bool false) (.slice c N d) (.slice a K b) (.int .i64 1) (by intro u ct;simp at ct;rcases ct with rfl|rfl|rfl|rfl<;>rfl) (show ah (m.alloc _).drew m.heap.size 259 _ from a7) 192 (by have:=U.o;omega) (zero_le _)
   have f:=(X.az (.cells #[.bool false,.slice c N d,.slice a K b,.int .i64 1] 259)).drew
   have Y:=(a6.alloc (.cells #[.bool false,.slice c N d,.slice a K b,.int .i64 1] 259)).drew
   have v:=o8 (s:=(n,1)) (vs:=[.bool false,.slice c N d,.slice a K b,.int .i64 1]) (way:=cn) (from_:=from_) (by rw[<-b2.o];exact f.blk A.o ad.o) (by rw[<-b2.o];exact bi.o.ev (f.add ao)) T.o (by rw[<-U.o];exact bj.o) (by rw[<-U.o];exact i) (λk vs s cw cx=>(b1.o k vs s cw cx).ev (f.add ao)) x.o.own (x.o.ev f).apart (x.o.ev f).lt Y.lt ⟨c,d,a,b,by show[Value.bool false,.slice c N d,.slice a K b,.int .i64 1]=[.bool n.leaf,.slice c n.cells.length d,.slice a n.kids.length b,.int .i64 1];rw[<-bv.o,<-bc.o,<-D.o],by have z:=a1.o.ev ((((Ev.refl (FC H ao) V).az (.cells #[.bool false,.slice c N d,.slice a K b] 129)).below a5.o).az (.cells #[.bool false,.slice c N d,.slice a K b,.int .i64 1] 259)).drew;show bI _ _ (.agg #[.bool n.leaf,.slice c n.cells.length d,.slice a n.kids.length b]) n;rw[<-D.o,<-bv.o,<-bc.o];exact z⟩ y (by rw[<-U.o];exact r) a8
   have M:=(Y.grown y (λk ab=>(x.o.ev f).apart k (T.o k ab))).aK (p:=⟨gc,1,none⟩) ((x.o.ev f).apart gc x.o.own) v5
   have O:Ev (FC F C) w (FC H _) (al.setCell ⟨gc,1,none⟩ v5):=af.o.trans ((f.add ao).trans v.2)
   have Q:∀(g:Nat) (t:TypeId) (cs:Array Value),ah w g t cs->¬F g->t≠194->t≠259->ah (al.setCell ⟨gc,1,none⟩ v5) g t cs:=λg t cs ca b6 b7 b8=>by
    have a9:=cg.o g t cs ca b6 b7 b8;have ba:¬bB g:=λac=>by
     by_cases b9:C g
     ·exact x.o.apart g (G.o g b9) ac
     ·rcases af.o.grow g (.inl ac)with z|z
      ·rcases z with z|z
       ·exact b6 z
       ·exact b9 z
      ·have:=ca.lt;omega
    exact((f.blk a9 ba).grown y (λe=>au i (f.blk a9 ba) b8.symm e.symm)).far (p:=⟨gc,1,none⟩) (ah.iH a9 A.o b7) v5
   obtain⟨dM,cV,bb,bx,cy⟩:∃dM cV,rest=(n,1)::cV/\n.kids[0]?=some dM/\rq st dM cV:=by
    rcases be.o with⟨ac,_⟩|⟨_,z⟩
    ·exact absurd (D.o.trans ac) (by simp)
    ·exact z
   have c1:=(a1.o.ev ((((Ev.refl (FC H ao) V).az (.cells #[.bool false,.slice c N d,.slice a K b] 129)).below a5.o).az (.cells #[.bool false,.slice c N d,.slice a K b,.int .i64 1] 259)).drew).ev v.2
   obtain⟨ec,ee,ef,eg,cz,_,_,_,cA⟩:=c1
   injection cz with cz
   simp at cz
   have c2:0<n.kids.length:=(ay.1 bx).1
   obtain⟨c3,c4,_,cl⟩:=cA.2 (by omega)
   have hA1:a=some c3:=by have z:=cz.2.2.1;exact z.trans c4
   have de:=cl 0 _ (show(n.kids.map encI)[0]?=some (.int .i64 (dM:Int))by rw[getElem?_map,bx];rfl)
   have ds:(al.setCell ⟨gc,1,none⟩ v5).cell? c3=some (.int .i64 (dM:Int)):=de
   clear cz cl cA c4
   have bA:ah (m.alloc (.cells #[.bool false,.slice c N d,.slice a K b,.int .i64 1] 259)).drew V.heap.size 129 #[.bool false,.slice c N d,.slice a K b]:=E.o.alloc _
   have cB:=(bA.grown y (λe=>au i bA (by decide) e.symm)).far (p:=⟨gc,1,none⟩) (ah.iH E.o W.o (by decide)) v5
   have eh:=cB.cell 2
   have dj:(0:Int)<(K:Int):=by have:=bc.o;omega
   replace hA1:=J hA1
   have dt:IntKind.i64.wrap 1=1:=wrap_small 1 (by omega) (by omega)
   have hrel:Hid (Ba F C w an st gc gt way l from_ tgt er dM (al.setCell ⟨gc,1,none⟩ v5)):=J (by refine⟨done++[(n,1)],cV,H,_,by rw[bd.o,bb];simp,cy,M,?_,O,λk ab=>.inl (G.o k ab),Q⟩;rw[<-av,<-ap.o];exact v.1)
   have cM:Hid (way.length+l.length-iQ (al.setCell ⟨gc,1,none⟩ v5) gc<way.length+l.length-iQ wr gc):=J (by
    have cw:iQ wr gc=P:=by unfold iQ;rw[A.o.cell 1];rfl
    obtain⟨du,dv,dy,c6,_,_,c8,dT,c7,_⟩:=v.1.mem;obtain⟨ei,ej,rfl⟩:=aE c7;have cx:iQ (al.setCell ⟨gc,1,none⟩ v5) gc=P+1:=by unfold iQ;rw[c6.cell 1];show(cn++[(n,1)]).length=_;rw[U.o];simp
    have:=bm.o;have:=am.o;have:=U.o;rw[cw,cx];omega)
   replace M:=J M
   replace O:=J O
   replace Q:Hid _:=J Q
   replace bb:=J bb
   replace bx:=J bx
   replace cy:=J cy
   replace cB:=J cB
   replace bA:=J bA
   clear c2
   clear v
   replace f:=J f
   replace Y:=J Y
   have c0:(m.alloc (.cells #[.bool false,.slice c N d,.slice a K b,.int .i64 1] 259)).cell? ⟨gc,1,none⟩=some (.slice b3 P wc):=(W.o.alloc _).cell 1
   have p0:=(E.o.alloc (.cells #[.bool false,.slice c N d,.slice a K b,.int .i64 1] 259)).cell 0
   have p1:=(E.o.alloc (.cells #[.bool false,.slice c N d,.slice a K b,.int .i64 1] 259)).cell 1
   have p2:=(E.o.alloc (.cells #[.bool false,.slice c N d,.slice a K b,.int .i64 1] 259)).cell 2
   have Z:ah al gc 194 #[.pointer (some ⟨gt,0,none⟩),.slice b3 P wc,.slice cK L cL,.int .i64 tgt,.int .i64 er]:=(show ah (m.alloc (.cells #[.bool false,.slice c N d,.slice a K b,.int .i64 1] 259)).drew gc 194 _ from W.o.alloc _).grown y (λe=>au q W.o (by decide) e.symm)
   obtain⟨db,c5,rfl⟩:=aE r
   have dc:=Z.cell 1
   have dd:=Z.frozen 1
   replace X:=J X
   replace a6:=J a6
   replace q:=J q
   replace i:=J i
   replace a7:=J a7
   replace Z:=J Z
   replace r:=J r
   replace y:=J y
   replace a8:=J a8
   go_upto_region 10 with(fail)
   rw[<-a4.o]
   go_region_law(refine Lib.wp_append_run _ (.tmp 51) (.tmp 56) 192 192 rfl _ _ rfl rfl _ _ cc ?_)
   all_goals
    have hA1:=hA1.o;subst hA1;go_wp2_with fail;go_roundw
    case rel=>exact⟨dM,rfl,hrel⟩
    case measure=>exact cM.o
def CH(st:aB)(_:Nat):aB:=st
def DV(a g:Nat)(d:List (Nat×List UInt8))(D F:Nat->Prop)(w:World):Prop:=∃v,ah w g 23 #[v]/\OB w a v (d.flatMap (·.2)).length (d.flatMap (·.2))/\(∀k,D k->k=g\/v.ownBlock=some k)/\(D g/\∀k,v.ownBlock=some k->D k)/\(∀k,D k->¬F k/\k<w.heap.size)/\(d.flatMap (·.2)).length<=505*d.length/\a<=w.heap.size
theorem Bc(E g:Nat)(w:World)(F D:Nat->Prop)(d:List (Nat×List UInt8))(af:DV E g d D F w)(Y:Nat)(st:aB)(h:ar w F Y st)(no:Nat)(b:List UInt8)(A:Option Addr)(c:Nat)(H:RB w w.heap.size A b.length b)(al:b.length<=505)(a0:d.length<=100000):Calls Tryz.prog 127 #[.int .i64 (no:Int),.slice A b.length c,.pointer (some ⟨g,0,none⟩)] w λe w'=>e=.returned (.int .i64 0)/\∃y K,ar w' y Y st/\DV E g (d++[(no,b)]) K y w'/\Ev (FC F D) w (FC y K) w':=by
 obtain⟨v,f,r,S,⟨x,q⟩,l,Z,V⟩:=af;obtain⟨ab,ac,rfl,_,_,_,_⟩:=r.form;have am:=f.cell 0;have a1:=f.frozen 0;obtain⟨M,z⟩:=I ((d.flatMap (·.2)).length);obtain⟨xs,t⟩:=I (d.flatMap (·.2));obtain⟨N,G⟩:=I (b.length);rw[<-z]at r Z am f S q;rw[<-t]at r z;rw[<-G]at H al⊢;have ad:Hid (∀i s,OB s E i (M+N) (xs++b)->w.grownBy s (Value.slice ab M ac).ownBlock->(i.ownBlock=(Value.slice ab M ac).ownBlock\/i.ownBlock=some w.heap.size)->∃y K,ar (s.setCell ⟨g,0,none⟩ i) y Y st/\DV E g (d++[(no,b)]) K y (s.setCell ⟨g,0,none⟩ i)/\Ev (FC F D) w (FC y K) (s.setCell ⟨g,0,none⟩ i)):=J (by
  intro i s m j L;have W:(Value.slice ab M ac).ownBlock≠some g:=λe=>au r f (by decide) e;have u:=(f.grown j (λe=>W e.symm)).aK 0 i;have O:R (FC F D) w (s.setCell ⟨g,0,none⟩ i):=((R.refl (FC F D) w).grown j (λk a _=>.inr (q k a))).setCell (p:=⟨g,0,none⟩) (λ_=>.inr x) i;have P:∀k,i.ownBlock=some k->D k\/k=w.heap.size:=λk a=>by
   rcases L with e|e
   ·exact .inl (q k (by rw[<-e];exact a))
   ·rw[e]at a;injection a with a;exact .inr a.symm
  refine⟨F,λk=>k=g\/i.ownBlock=some k,?_,⟨i,u,?_,λk a=>a,⟨.inl rfl,λk a=>.inr a⟩,λk a=>?_,?_,aO V O.size⟩,O,λk a=>?_⟩
  ·exact(h.grown j (λk a T=>(l k (q k a)).1 T)).aK (p:=⟨g,0,none⟩) (l g x).1 i
  ·have ae:(d++[(no,b)]).flatMap (·.2)=xs++b:=by rw[flatMap_append,<-t];simp
   rw[ae,aq,<-z,<-G];exact((R.refl (λk=>k=g) s).setCell (p:=⟨g,0,none⟩) (λ_=>rfl) i).row m (aI m (f.grown j (λe=>W e.symm)) (by decide))
  ·rcases a with rfl|a
   ·exact⟨(l k x).1,aN (l k x).2 O.size⟩
   ·refine⟨λT=>?_,?_⟩
    ·rcases P k a with Q|Q
     ·exact(l k Q).1 T
     ·have:=h.lt k T;omega
    ·have:=(dw m a).2;simpa[World.setCell]using this
  ·have ae:(d++[(no,b)]).flatMap (·.2)=xs++b:=by rw[flatMap_append,<-t];simp
   rw[ae,aq,aq,<-z,<-G];simp only[length_cons,length_nil];omega
  ·rcases a with a|a|a
   ·exact .inl (.inl a)
   ·exact .inl (.inr (by rw[a];exact x))
   ·rcases P k a with Q|Q
    ·exact .inl (.inr Q)
    ·exact .inr (by omega))
 have a2:=J (r.more (zero_le E));refine dr ?_ r f h z G t H S q l;clear r f h z G t H S q l;intro r f h z G t H S q l;go_enter Tryz.func127,Tryz.ntmps127;go_wp2_with(at_builtin;refine eF rfl (.tmp 6) (.tmp 7) rfl E _ M xs r.o rfl w.heap.size A N c b rfl H.o (by omega) V ?_;intro i s m X j L;obtain⟨a3,a4,rfl,_,_,_,_⟩:=m.form;have U:=J (ad.o _ s m j L);have u:=f.o.grown j (λe=>au r.o f.o (by decide) e.symm);have z0:=u.cell 0;have a5:=u.frozen 0;replace u:=J u;replace m:=J m;replace X:=J X;replace j:=J j);go_ret;obtain⟨an,ao,p1,p2,ap⟩:=U.o;exact⟨rfl,an,p1,ao,p2,ap⟩
theorem DW:∀args a,(callFunc 127 args).run Tryz.prog a=.ok (.enter 127 args) a:=λargs a=>by have h:=Tryz.func127;simp[callFunc,Sem.run_bind,go_sem,h,Tryz.f127]
theorem wN(j g l:Nat):AL CH 127 #[.pointer (some ⟨g,0,none⟩)] l (DV j g) where
 fn:=DW
 keep d D F F' w w' hJ he:=by obtain⟨v,i,m,o,f,e,p,q⟩:=hJ;have a:∀k,D k->w'.heap[k]?=w.heap[k]?:=λk a=>he.block ⟨(e k a).2,(e k a).1⟩;exact⟨v,(a g f.1).trans i,he.only.row m (λk a=>(e k (f.2 k a)).1),o,f,λk a=>⟨he.new (e k a).1 (e k a).2,aN (e k a).2 he.size⟩,p,aO q he.size⟩
 step d D F w st no b A c hJ h hn hf hr hc i hd:=Bc j g w F D d hJ l st h no b A c hr i hd
def pd(F X:Nat->Prop)(w:World)(f:Nat)(st:aB)(b:List UInt8)(e:Ending)(w':World):Prop:=∃a c d,e=.returned (.tuple #[.slice c b.length d,.int .i64 0])/\ar w' a f st/\Ev F w a w'/\MB (FC a X) w' c b.length b/\b.length<=d
def j9(st:aB)(c:ai)(b:List UInt8):Prop:=(c.over=0/\b=c.val)\/(c.over≠0/\c.long<=20000/\∃l,xN CH st c.over c.long l st/\b=l.flatMap (·.2))
theorem uC(w:World)(F X:Nat->Prop)(bs:∀k,X k->k<w.heap.size)(gt t k:Nat)(st:aB)(h:ar w F t st)(ac:aL w F gt t k)(c:ai)(b:List UInt8)(bv:j9 st c b)(E u:Option Addr)(G H x:Nat)(bc:c.over=0->MB (FC F X) w u c.val.length c.val)(a5:c.val.length<=x):Calls Tryz.prog 80 #[.pointer (some ⟨gt,0,none⟩),.agg #[.slice E G H,.slice u c.val.length x,.int .i64 (c.over:Int),.int .i64 (c.long:Int)]] w (pd F X w t st b):=by
 rcases bv with⟨ao,rfl⟩|⟨ao,b9,l,bx,rfl⟩
 ·rw[ao];refine(yE w gt E u G c.val.length H x c.long).mono ?_;rintro e w' ⟨rfl,a7⟩;exact⟨F,u,x,rfl,h.below a7,Ev.ag a7,(bc ao).ev ((Ev.ag a7).add X),a5⟩
 ·obtain⟨V,ap⟩:=I (c.val.length );obtain⟨a8,ad⟩:=I (Obj.cells #[.slice E G H,.slice u V x,.int .i64 (c.over:Int),.int .i64 (c.long:Int)] 122);obtain⟨g,m⟩:=I (w.heap.size+1);obtain⟨f,a⟩:=I ((w.alloc a8).alloc (.cells #[.slice none 0 0] 23));have r:Ev F w F f:=by rw[a];exact((Ev.refl F w).az a8).az _
  have s:ah f w.heap.size 122 #[.slice E G H,.slice u V x,.int .i64 (c.over:Int),.int .i64 (c.long:Int)]:=by rw[a,ad];exact(ah.new w 122 _).alloc _
  have N:ah f g 23 #[.slice none 0 0]:=by have q:=ah.new (w.alloc a8) 23 #[.slice none 0 0];rw[World.size_alloc]at q;rw[a,m];exact q
  have A:f.heap.size=w.heap.size+2:=by rw[a];simp
  have K:=h.lt;have a0:DV f.heap.size g [] (λk=>k=g) F f:=⟨_,N,OB.nil _ _,λk ae=>.inl ae,⟨rfl,λk ae=>by simp[Value.ownBlock]at ae⟩,λk ae=>by subst ae;exact⟨λaf=>by have:=K _ af;omega,by omega⟩,by simp,aa _⟩;have b4:=ah.lt ac.blk;have a9:gt≠g:=by omega
  have O:aL f (FC F (λk=>k=g)) gt t k:=⟨(ac.ev r).blk,λaf=>af.elim (ac.ev r).o (λe=>a9 e)⟩;have P:ar f F t st:=by rw[a];exact(h.alloc _).alloc _
  have a6:=J (uA CH 127 #[.pointer (some ⟨g,0,none⟩)] t (DV f.heap.size g) (wN f.heap.size g t) f F (λk=>k=g) gt k st st P O c.over c.long l bx a0 (by omega));have bd:((c.over:Int)==0)=false:=by rw[aZ];omega
  obtain⟨a1,d⟩:=I (c.over);obtain⟨a2,S⟩:=I (c.long);rw[<-d,<-S]at a6 s ad;rw[<-d]at bd;rw[<-d,<-S,<-ap];have bA:=s.cell 2;have bB:=s.cell 3;subst ad;have M:f=(w.alloc (.cells #[.slice E G H,.slice u V x,.int .i64 (a1:Int),.int .i64 (a2:Int)] 122)).alloc (.cells #[.slice none 0 0] 23):=a;have ca:((w.alloc (.cells #[.slice E G H,.slice u V x,.int .i64 (a1:Int),.int .i64 (a2:Int)] 122)).alloc (.cells #[.slice none 0 0] 23)).cell? ⟨w.heap.size,2,none⟩=some (.int .i64 (a1:Int)):=by rw[<-M];exact bA
  have cb:((w.alloc (.cells #[.slice E G H,.slice u V x,.int .i64 (a1:Int),.int .i64 (a2:Int)] 122)).alloc (.cells #[.slice none 0 0] 23)).cell? ⟨w.heap.size,3,none⟩=some (.int .i64 (a2:Int)):=by rw[<-M];exact bB
  clear M;refine aR ?_ h ac a m r s N A a0 O P ap d;clear h ac a m r s N A a0 O P ap d;intro h ac a m r s N A a0 O P ap d;replace S:=J S;replace K:=J K;clear bc a5 ao;go_enter Tryz.func80,Tryz.ntmps80;go_upto_region 4 with(fail)
  rw[<-m.o,<-a.o];go_wp2_with fail;go_at_call 110;refine a6.o.mono ?_;rintro e ba ⟨rfl,bb,cc,T,be,D⟩;obtain⟨v,U,p,al,⟨b5,W⟩,y,am,b6⟩:=be;obtain⟨a3,bi,rfl,_,_,Y,_⟩:=p.form;have z0:=U.cell 0;have Z:Ev F w bb ba:=⟨r.o.only.trans D.only (λj bj i=>by
   rcases i with i|i
   ·exact i
   ·have b0:j=g:=i;have:=m.o;omega),λj bj=>by
   rcases D.grow j (.inl bj)with i|i
   ·rcases i with i|i
    ·exact .inl i
    ·have b0:j=g:=i;have:=m.o;exact .inr (by omega)
   ·have:=A.o;exact .inr (by omega)⟩
  have ab:MB (FC bb X) ba a3 (l.flatMap (·.2)).length (l.flatMap (·.2)):=by
   refine⟨p.1,λb1=>?_⟩;obtain⟨g4,cap,bl,bm,bp⟩:=World.ownsRow.form p b1;have b2:a3=some ⟨g4,0,none⟩:=by injection bl
   subst b2;have b7:=bm;have b8:=A.o;exact⟨_,rfl,⟨bp,λaf=>af.elim (y g4 (W g4 rfl)).1 (λb3=>by have:=bs g4 b3;omega)⟩,World.ownsRow.cells p (g:=g4) rfl⟩
  have z:Hid (pd F X w t st (l.flatMap (·.2)) (.returned (.tuple #[.slice a3 (l.flatMap (·.2)).length bi,.int .i64 0])) ba):=J ⟨bb,a3,bi,rfl,T,Z,ab,Y⟩;obtain⟨L,a4⟩:=I ((l.flatMap (·.2)).length);rw[<-a4]at z z0;obtain⟨Q,an⟩:=I (pd F X w t st (l.flatMap (·.2)));rw[<-an]at z;refine aR ?_ an a4 Z ab U p al W y am Y T D;clear an a4 Z ab U p al W y am Y T D;intro an a4 Z ab U p al W y am Y T D;go_wp2_with fail
  go_ret2
  have br:=z.o;rw[an.o]at br;exact br
theorem Bd{G:Nat->Prop}{w:World}{c:ai}{a b:Option Addr}{d f:Nat}{x y:Value}(h:cN G w [.slice a c.key.length d,.slice b c.val.length f,x,y] c):c.key.length<=d/\c.val.length<=f/\Rd G w 1 a c.key.length (bv c.key)/\Rd G w 1 b c.val.length (bv c.val):=by obtain⟨r,s,t,u,e,g,i,j,k⟩:=h;injection e with l e;injection e with m _;injection l with o _ a3;injection m with p _ q;subst o;subst a3;subst p;subst q;exact⟨g,i,j,k⟩
end
def gF(kv:List KV):Prop:=kv.Pairwise λa b=>bY a.1 b.1=true
theorem yK:∀{kv:List KV} {L:List ai},kv.map (·.1)=L.map (·.key)->cW L->gF kv
 |[],_,_,_=>Pairwise.nil
 |p::i,[],h,_=>by simp at h
 |p::i,c::L,h,a=>by
  rw[map_cons,map_cons]at h
  injection h with d b
  refine Pairwise.cons (λq e=>?_) (yK b a.2)
  have f:=mG b (p:=λx=>bY c.key x=true) (λx g=>a.1 x g) q e
  rw[d];exact f
def jb(key:aF)(kv:List KV):List KV:=kv.drop (kv.findIdx λp=>!bY p.1 key)
theorem pj:∀{kv:List KV} (key:aF),gF kv->jb key kv=kv.filter λp=>!bY p.1 key
 |[],key,_=>rfl
 |p::a,key,h=>by
  have b:∀q∈a,bY p.1 q.1=true:=(pairwise_cons.1 h).1
  have ih:=pj key (pairwise_cons.1 h).2
  unfold jb at ih⊢
  rw[findIdx_cons,filter_cons]
  cases hl:bY p.1 key with
  |true=>exact ih
  |false=>
   show p::a=p::a.filter _
   rw[filter_eq_self.2 λq c=>?_]
   have d:=pq _ _ _ hl (b q c)
   rw[cq _ _ d];rfl
theorem dg.filter{st:aB}{key:aF}:∀{L:List ai} {kv:List KV} {O:List Nat},dg st L kv O->∃a,dg st (L.filter (lC key)) (kv.filter λp=>!bY p.1 key) a
 |_,_,_,.nil=>⟨[],.nil⟩
 |_,_,_,.cons c L b kv ps O h e=>by
  obtain⟨a,d⟩:=dg.filter (key:=key) e
  rw[filter_cons,filter_cons]
  unfold lC at d⊢
  cases hl:bY c.key key with
  |true=>exact⟨a,d⟩
  |false=>exact⟨ps++a,.cons c _ b _ ps a h d⟩
theorem Be{kv:List KV}(key:aF)(b:List UInt8)(h:gF kv):gF (eP key b kv):=by
 unfold eP;refine pairwise_append.2 ⟨h.filter _,pairwise_cons.2 ⟨λq d=>(mem_filter.1 d).2,h.filter _⟩,λx e y c=>?_⟩;have a:=(mem_filter.1 e).2;rcases mem_cons.1 c with rfl|c
 ·exact a
 ·exact dq _ _ _ a (mem_filter.1 c).2
section
open Go.RowKit
theorem lP.ok{st st':aB}{no long:Nat}(h:lP st no long st'):st.ok->st'.ok:=by
 induction h with
 |nil st no=>exactλa=>a
 |cons st st' no long c b d ih=>exactλa=>ih (a.freed _ b)
theorem qP.ok{st st':aB}{c:ai}(h:qP st c st')(a:st.ok):st'.ok:=by
 rcases h with⟨_,rfl⟩|⟨_,h⟩
 ·exact a
 ·exact h.ok a
theorem lP.go{st st':aB}{no long:Nat}(h:lP st no long st'):st.ok->∃l,xN eO st no long l st':=by
 induction h with
 |nil st no=>exactλa=>⟨[],.nil st no⟩
 |cons st st' no long c b e ih=>
  intro a
  obtain⟨l,d⟩:=ih (a.freed _ b)
  exact⟨_,.cons st st' no long l c b a.free d⟩
def Gs(a gt b k:Nat)(d:List (Nat×List UInt8))(D F:Nat->Prop)(w:World):Prop:=(∀j,¬D j)/\aL w F gt b k/\ah w a 66 #[.pointer (some ⟨gt,0,none⟩)]/\¬F a
theorem DX(j gt k:Nat)(w:World)(F:Nat->Prop)(a:Nat)(st:aB)(h:ar w F a st)(f:aL w F gt a k)(g:ah w j 66 #[.pointer (some ⟨gt,0,none⟩)]) (no:Nat) (m:st.has no) (p:st.free<st.many) (A:Option Addr) (n c:Nat):Calls Tryz.prog 111 #[.int .i64 (no:Int),.slice A n c,.pointer (some ⟨j,0,none⟩)] w (cG F w a (eO st no) (.int .i64 0)):=by have l:=J (o7 w F a st h no m p);have s:=g.cell 0;have t0:w.cell? ⟨gt,0,none⟩=some (.pointer (some ⟨a,0,none⟩)):=f.blk.cell 0;refine bf ?_ h f g;clear h f g;intro h f g;go_enter Tryz.func111,Tryz.ntmps111;go_wp2_with fail;go_at_call 112;refine l.o.mono ?_;rintro e q ⟨rfl,r,b,d⟩;have i:Hid (cG F w a (eO st no) (.int .i64 0) (.returned (.int .i64 0)) q):=J ⟨rfl,r,b,d⟩;replace b:=J b;replace d:=J d;go_wp2_with fail;go_ret;exact i.o
theorem Gt:∀args a,(callFunc 111 args).run Tryz.prog a=.ok (.enter 111 args) a:=λargs a=>by have h:=Tryz.func111;simp[callFunc,Sem.run_bind,go_sem,h,Tryz.f111]
theorem yL(l gt m k:Nat):AL eO 111 #[.pointer (some ⟨l,0,none⟩)] m (Gs l gt m k) where
 fn:=Gt
 keep d D F q w w' hJ he:=by obtain⟨o,g,p,i⟩:=hJ;exact⟨o,g.ev he,he.blk p i,he.new i (ah.lt p)⟩
 step d D F w st no b A c hJ h i hf hr hc p hd:=by obtain⟨o,g,f,j⟩:=hJ;refine(DX l gt k w F m st h g f no i hf A b.length c).mono ?_;rintro e w' ⟨rfl,q,r,a⟩;exact⟨rfl,q,D,r,⟨o,g.ev a,a.blk f j,a.new j (ah.lt f)⟩,a.add D⟩
theorem yM(w:World)(F:Nat->Prop)(gt g k:Nat)(st st':aB)(h:ar w F g st)(Q:aL w F gt g k)(af:st.ok)(c:ai)(W:qP st c st')(ae:c.long<=20000)(r s:Option Addr)(t u v x:Nat):Calls Tryz.prog 61 #[.pointer (some ⟨gt,0,none⟩),.agg #[.slice r t v,.slice s u x,.int .i64 (c.over:Int),.int .i64 (c.long:Int)]] w (cG F w g st' (.int .i64 0)):=by
 rcases W with⟨X,rfl⟩|⟨X,W⟩
 ·refine(DI w gt c r s t u v x X).mono ?_;rintro e w' ⟨rfl,Y⟩;exact⟨rfl,F,h.below Y,Ev.ag Y⟩
 ·obtain⟨l,al⟩:=W.go af;obtain⟨Z,M⟩:=I (Obj.cells #[.slice r t v,.slice s u x,.int .i64 (c.over:Int),.int .i64 (c.long:Int)] 122);obtain⟨y,d⟩:=I ((w.alloc (.cells #[.pointer (some ⟨gt,0,none⟩)] 66)).alloc Z);have i:Ev F w F y:=by rw[d];exact((Ev.refl F w).az _).az Z
  have z:ah y w.heap.size 66 #[.pointer (some ⟨gt,0,none⟩)]:=by rw[d];exact(ah.new w 66 _).alloc _
  have m:ah y (w.heap.size+1) 122 #[.slice r t v,.slice s u x,.int .i64 (c.over:Int),.int .i64 (c.long:Int)]:=by have q:=ah.new (w.alloc (.cells #[.pointer (some ⟨gt,0,none⟩)] 66)) 122 #[.slice r t v,.slice s u x,.int .i64 (c.over:Int),.int .i64 (c.long:Int)];rw[World.size_alloc]at q;rw[d,M];exact q
  have E:=h.lt;have ab:¬F w.heap.size:=λN=>by have:=E _ N;omega
  have G:ar y F g st:=by rw[d];exact(h.alloc _).alloc _
  have p:=Q.ev i;have S:Gs w.heap.size gt g k [] (λ_=>False) F y:=⟨λ_ N=>N,p,z,ab⟩;have H:aL y (FC F (λ_=>False)) gt g k:=⟨p.blk,λN=>N.elim p.o (λe=>e)⟩;have V:=J (uA eO 111 #[.pointer (some ⟨w.heap.size,0,none⟩)] g (Gs w.heap.size gt g k) (yL w.heap.size gt g k) y F (λ_=>False) gt k st st' G H c.over c.long l al S (by omega));have ac:((c.over:Int)==0)=false:=by rw[aZ];omega
  obtain⟨O,b⟩:=I (c.over);obtain⟨P,A⟩:=I (c.long);rw[<-b,<-A]at V m M;rw[<-b]at ac;rw[<-b,<-A];have am:=m.cell 2;have an:=m.cell 3;have ao:=z.cell 0;subst M;have a:y=(w.alloc (.cells #[.pointer (some ⟨gt,0,none⟩)] 66)).alloc (.cells #[.slice r t v,.slice s u x,.int .i64 (O:Int),.int .i64 (P:Int)] 122):=d;have a2:((w.alloc (.cells #[.pointer (some ⟨gt,0,none⟩)] 66)).alloc (.cells #[.slice r t v,.slice s u x,.int .i64 (O:Int),.int .i64 (P:Int)] 122)).cell? ⟨w.heap.size+1,2,none⟩=some (.int .i64 (O:Int)):=by rw[<-a];exact am
  have a3:((w.alloc (.cells #[.pointer (some ⟨gt,0,none⟩)] 66)).alloc (.cells #[.slice r t v,.slice s u x,.int .i64 (O:Int),.int .i64 (P:Int)] 122)).cell? ⟨w.heap.size+1,3,none⟩=some (.int .i64 (P:Int)):=by rw[<-a];exact an
  have a4:((w.alloc (.cells #[.pointer (some ⟨gt,0,none⟩)] 66)).alloc (.cells #[.slice r t v,.slice s u x,.int .i64 (O:Int),.int .i64 (P:Int)] 122)).cell? ⟨w.heap.size,0,none⟩=some (.pointer (some ⟨gt,0,none⟩)):=by rw[<-a];exact ao
  refine aR ?_ h Q d a i m z S p H G b A;clear h Q d a i m z S p H G b A;intro h Q d a i m z S p H G b A;replace E:=J E;clear X;go_enter Tryz.func61,Tryz.ntmps61;go_wp2_with fail;rw[<-a.o];go_at_call 110;refine V.o.mono ?_;rintro e T ⟨rfl,ap,a5,K,L,D⟩;have a0:=L.1;have a1:Ev F T F T:=Ev.refl F T;have U:Hid (cG F w g st' (.int .i64 0) (.returned (.int .i64 0)) T):=J ⟨rfl,ap,K,⟨i.o.only.trans D.only (λj ad f=>by
   rcases f with f|f
   ·exact f
   ·exact f.elim),λj ad=>by
   rcases D.grow j (.inl ad)with f|f
   ·rcases f with f|f
    ·exact .inl f
    ·exact f.elim
   ·have:=i.o.size;exact .inr (by omega)⟩⟩
  refine bf ?_ K D L;clear K D L;intro K D L;go_wp2_with fail;go_ret;exact U.o
theorem wO(rows:List (List Value))(k:∀f∈rows,f.length=4)(i:Nat)(l m o p:Value):(rows.set i [l,m,o,p]).flatten=(((rows.flatten.set (i*4) l).set (i*4+1) m).set (i*4+2) o).set (i*4+3) p:=by
 induction rows generalizing i with
 |nil=>simp
 |cons f t ih=>
  have g:f.length=4:=k f (.head _)
  cases i with
  |zero=>
   match f,g with
   |[a,b,c,d],_=>simp
  |succ i=>
   simp only[set_cons_succ,flatten_cons]
   rw[ih (λf g=>k f (.tail _ g))]
   have e:∀j,(i+1)*4+j=f.length+(i*4+j):=λj=>by omega
   have q:(i+1)*4=f.length+i*4:=by omega
   rw[q]
   rw[show f.length+i*4+1=f.length+(i*4+1)from by omega,show f.length+i*4+2=f.length+(i*4+2)from by omega,show f.length+i*4+3=f.length+(i*4+3)from by omega]
   rw[set_append_right _ _ (by omega),set_append_right _ _ (by omega),set_append_right _ _ (by omega),set_append_right _ _ (by omega)]
   simp only[Nat.add_sub_cancel_left]
section
variable {F:Nat->Prop}{w w':World}{B:Nat}{cv kv:Value}{n:aj}{rows:List (List Value)}{cs:List ai}
theorem cR.set(h:cR F w rows cs){vs:List Value}{c:ai}(f:cN (byteOf F w) w vs c)(i:Nat):cR F w (rows.set i vs) (cs.set i c):=by
 intro k e g b a;rw[getElem?_set]at b a;split at b
 ·rename_i d;subst d;rw[if_pos rfl]at a;split at b
  ·split at a
   ·injection b with b;injection a with a;subst b;subst a;exact f
   ·cases a
  ·cases b
 ·rename_i d;rw[if_neg d]at a;exact h k e g b a
def yN(w:World)(g o:Nat)(a b c d:Value):World:=(((w.setCell ⟨g,o,none⟩ a).setCell ⟨g,o+1,none⟩ b).setCell ⟨g,o+2,none⟩ c).setCell ⟨g,o+3,none⟩ d
theorem ni(w:World)(g o:Nat)(a b c d:Value):R (λk=>k=g) w (yN w g o a b c d):=((((R.refl (λk=>k=g) w).setCell (p:=⟨g,o,none⟩) (λ_=>rfl) a).setCell (p:=⟨g,o+1,none⟩) (λ_=>rfl) b).setCell (p:=⟨g,o+2,none⟩) (λ_=>rfl) c).setCell (p:=⟨g,o+3,none⟩) (λ_=>rfl) d
theorem bC.Gu{g N o:Nat}(h:bC F w B (.slice (some ⟨g,0,none⟩) N o) kv n)(i:Nat){c:ai}{a b d f:Value}(u:cN (byteOf F w) w [a,b,d,f] c):bC F (yN w g (i*4) a b d f) B (.slice (some ⟨g,0,none⟩) N o) kv ⟨n.leaf,n.cells.set i c,n.kids⟩:=by
 obtain⟨rows,q,j,r⟩:=h.rows;have s:=ni w g (i*4) a b d f;have t:(Value.slice (some ⟨g,0,none⟩) N o).ownBlock=some g:=rfl;have l:n.cells.length=N:=by
  rcases j.2 with⟨m,_⟩|⟨y,cap,x,m,_⟩
  ·cases m
  ·injection m with _ m _;exact m.symm
 refine⟨⟨rows.set i [a,b,d,f],by simp[q],?_,(r.set u i).iZ s λk cs p v=>by subst p;exact au j v (by decide) t⟩,s.row h.kids λk p e=>by subst e;exact mC j h.kids (by decide) _ t p,h.rF,h.kF⟩;show World.ownsRow _ B 122 4 _ (n.cells.set i c).length _;rw[length_set,wO _ (r.four q),l];rw[l]at j;exact lu (lu (lu (lu j a) b) d) f
theorem bC.Gv{g N x:Nat}(h:bC F w B (.slice (some ⟨g,0,none⟩) N x) kv n){i:Nat}{c:ai}(p:n.cells[i]?=some c):∃k l m o,w.cell? ⟨g,i*4,none⟩=some (.slice k c.key.length l)/\w.cell? ⟨g,i*4+1,none⟩=some (.slice m c.val.length o)/\w.cell? ⟨g,i*4+2,none⟩=some (.int .i64 (c.over:Int))/\w.cell? ⟨g,i*4+3,none⟩=some (.int .i64 (c.long:Int))/\ w.frozen? ⟨g,i*4,none⟩=false/\w.frozen? ⟨g,i*4+1,none⟩=false/\w.frozen? ⟨g,i*4+2,none⟩=false/\w.frozen? ⟨g,i*4+3,none⟩=false:=by
 obtain⟨rows,q,r,s⟩:=h.rows;have f:i<rows.length:=by rw[q];exact(ay.1 p).1
 obtain⟨k,l,m,o,e,_⟩:=s i rows[i] c (ak f) p;have b:∀j u,rows[i][j]?=some u->w.cell? ⟨g,i*4+j,none⟩=some u:=λj u y=>by have t:=r.cells (g:=g) rfl _ u (kH (s.four q) i j _ u (ak f) y);rw[Addr.add_lit,Nat.zero_add]at t;exact t
 have d:∀j,w.frozen? ⟨g,j,none⟩=false:=λj=>by
  rcases r.2 with⟨a,_⟩|⟨A,cap,v,a,_,z,_⟩
  ·cases a
  ·injection a with a _ _;injection a with a;injection a with a _;subst a;exact(show ah w g 122 v from z).frozen j
 exact⟨k,l,m,o,b 0 _ (by rw[e];rfl),b 1 _ (by rw[e];rfl),b 2 _ (by rw[e];rfl),b 3 _ (by rw[e];rfl),d _,d _,d _,d _⟩
theorem bC.MN(h:bC F w B cv kv n){b:Value}{i:Nat}(d:i<n.cells.length)(p:w.grownBy w' cv.ownBlock)(rows:List (List Value))(e:rows.length=n.cells.length)(f:w.ownsRow B 122 4 cv n.cells.length rows.flatten)(g:cR F w rows n.cells)(c:w'.ownsRow B 122 4 b (n.cells.length-1) (rows.flatten.take (i*4)++rows.flatten.drop ((i+1)*4))) (l:b.ownBlock=cv.ownBlock):bC F w' B b kv ⟨n.leaf,n.cells.eraseIdx i,n.kids⟩:=by
 have m:R (λj=>cv.ownBlock=some j) w w':=(R.refl _ w).grown p (λk a _=>a);have o:(n.cells.eraseIdx i).length=n.cells.length-1:=by rw[length_eraseIdx,if_pos d]
 have q:(rows.eraseIdx i).length=n.cells.length-1:=by rw[length_eraseIdx,e,if_pos d]
 rw[<-mE _ _ (g.four e),<-o]at c;exact⟨⟨rows.eraseIdx i,q.trans o.symm,c,(g.erase i).iZ m λk cs a r=>au f r (by decide) a⟩,m.row h.kids λk a=>mC h.kids f (by decide) k a,λk a=>h.rF k (l.symm.trans a),h.kF⟩
end
theorem Gw(w:World)(F:Nat->Prop)(E gt k:Nat)(st bg:aB)(Z:ar w F E st)(ab:aL w F gt E k)(a4:st.ok)(G gc a5 B a6 i:Nat)(cv kv:Value)(n:aj)(c old:ai)(bj bl bm bp:Value)(ao:iw F w B cv kv n)(s:ah w G 129 #[.bool n.leaf,cv,kv])(H:ah w gc 122 #[bj,bl,bm,bp]) (ac:ah w a5 66 #[.pointer (some ⟨gt,0,none⟩)]) (cf:¬F a5) (ap:cN (byteOf F w) w [bj,bl,bm,bp] c) (ad:n.cells[i]?=some old) (a7:qP st old bg) (a8:old.long<=20000) (br:n.cells.length<=100000) (cn:a6<=G) (co:a6<=B) (b2:¬F G) (cp:cv.ownBlock≠some gc):Calls Tryz.prog 59 #[.pointer (some ⟨G,0,none⟩),.int .i64 (i:Int),.bool true,.pointer (some ⟨gc,0,none⟩),.pointer (some ⟨a5,0,none⟩)] w (qo F w E G a6 bg ⟨n.leaf,n.cells.set i c,n.kids⟩):=by
 obtain⟨d,f,l,m,p,q,u2,u3,rfl,rfl,rfl,rfl⟩:∃d f l m p q u2 u3,bj=.slice d p f/\bl=.slice l q m/\bm=.int .i64 u2/\bp=.int .i64 u3:=by obtain⟨ae,af,al,am,e,_⟩:=ap;injection e with bs e;injection e with bv e;injection e with bx e;injection e with bA e;exact⟨ae,af,al,am,_,_,_,_,bs,bv,bx,bA⟩
 have b3:=(ay.1 ad).1;obtain⟨g,K,rfl,b4,cr⟩:∃g K,cv=.slice (some ⟨g,0,none⟩) n.cells.length K/\n.cells.length<=K/\B<=g:=by
  obtain⟨rows,cV,v,cX⟩:=ao.rows;rcases v.2 with⟨_,e⟩|⟨g,cap,ct,e,s,_,cg,_⟩
  ·have a0:=v.1;rw[e]at a0;simp at a0;omega
  ·exact⟨g,cap,e,cg,s⟩
 have r:=ao.sB;obtain⟨ae,af,al,am,bs,bv,bx,bA,cY,c0,c1,c2⟩:=r.Gv ad;obtain⟨N,a9⟩:=I (n.cells.length);obtain⟨ch,L⟩:=I (n.leaf);obtain⟨ba,T⟩:=I (old.key.length);obtain⟨bb,U⟩:=I (old.val.length);obtain⟨bB,M⟩:=I (old.over);obtain⟨b0,O⟩:=I (old.long);rw[<-T]at bs;rw[<-U]at bv;rw[<-M]at bx;rw[<-O]at bA;rw[<-L]at s;rw[<-a9]at s r b3 b4 br;obtain⟨o,cw⟩:=I (Obj.cells #[.slice ae ba af,.slice al bb am,.int .i64 (bB:Int),.int .i64 (b0:Int)] 122 (0,0));have b1:Hid (∀W,R (λ_=>False) w W->∀w',cG F (yN W g (i*4) (.slice d p f) (.slice l q m) (.int .i64 u2) (.int .i64 u3)).drew E bg (.int .i64 0) (.returned (.int .i64 0)) w'->qo F w E G a6 bg ⟨n.leaf,n.cells.set i c,n.kids⟩ (.returned (.int .i64 0)) w'):=J (by
  intro W x w' ⟨_,ci,b5,V⟩;have y:bC F W B (.slice (some ⟨g,0,none⟩) N K) kv n:=r.only x (λ_ h=>h.elim);have b6:cN (byteOf F W) W [.slice d p f,.slice l q m,.int .i64 u2,.int .i64 u3] c:=ap.iZ x (λ_ _ h=>h.elim);have cj:=(y.Gu i b6).ev ((Ev.refl F _).drew);have t:=(ni W g (i*4) (.slice d p f) (.slice l q m) (.int .i64 u2) (.int .i64 u3)).drew;have b7:G≠g:=λe=>by obtain⟨rows,_,v,_⟩:=r.rows;subst e;exact au v s (by decide) rfl
  have be:ah (yN W g (i*4) (.slice d p f) (.slice l q m) (.int .i64 u2) (.int .i64 u3)).drew G 129 #[.bool ch,.slice (some ⟨g,0,none⟩) N K,kv]:=t.blk (x.blk s (λh=>h)) b7;have cx:w.heap.size<=(yN W g (i*4) (.slice d p f) (.slice l q m) (.int .i64 u2) (.int .i64 u3)).drew.heap.size:=aO x.size t.size;refine⟨rfl,ci,B,.slice (some ⟨g,0,none⟩) N K,kv,b5,?_,λj S=>?_,cj.ev V,by rw[L]at be;exact V.blk be b2⟩
  ·exact((x.mono (λ_ _ h=>h.elim)).trans (t.mono λj _ h=>.inr (by subst h;omega)) (λj S h=>h)).trans (V.only.mono λj _ h=>.inl h) (λj S h=>h)
  ·rcases V.grow j S with a0|a0
   ·exact .inl a0
   ·exact .inr (by omega))
 have b8:Hid (∀W,R (λ_=>False) w W->ar (yN W g (i*4) (.slice d p f) (.slice l q m) (.int .i64 u2) (.int .i64 u3)).drew F E st/\aL (yN W g (i*4) (.slice d p f) (.slice l q m) (.int .i64 u2) (.int .i64 u3)).drew F gt E k):=J (by
  intro W x;have t:=(ni W g (i*4) (.slice d p f) (.slice l q m) (.int .i64 u2) (.int .i64 u3)).drew;have b9:¬F g:=r.rF g rfl;have ca:gt≠g:=λe=>by obtain⟨rows,_,v,_⟩:=r.rows;subst e;exact au v ab.blk (by decide) rfl
  exact⟨Z.keep (λj S=>(t.block j (aN (Z.lt j S) x.size) (λe=>b9 (by rw[<-e];exact S))).trans (x.block j (Z.lt j S) (λh=>h))) (aO x.size t.size),t.blk (x.blk ab.blk (λh=>h)) ca,ab.o⟩)
 have c3:=s.cell 1;have c4:=H.cell 0;have c5:=H.cell 1;have c6:=H.cell 2;have c7:=H.cell 3;have cy:=ac.cell 0;have cz:(i:Int)<(N:Int):=by omega
 have cA:(N:Int)<=(K:Int):=by omega
 refine aR ?_ Z ab ao s H ac ap ad a7 r a9 L T;clear Z ab ao s H ac ap ad a7 r a9 L T;intro Z ab ao s H ac ap ad a7 r a9 L T;refine bz ?_ U M O a4;clear U M O a4;intro U M O a4;go_enter Tryz.func59,Tryz.ntmps59;go_upto_region 5 with(fail)
 obtain⟨W,an⟩:=I (w.alloc (.cells #[.slice ae ba af,.slice al bb am,.int .i64 (bB:Int),.int .i64 (b0:Int)] 122));rw[<-an];have b:R (λ_=>False) w W:=by rw[an];exact(R.refl _ w).alloc _
 have X:ah W w.heap.size 122 #[.slice ae ba af,.slice al bb am,.int .i64 (bB:Int),.int .i64 (b0:Int)]:=by rw[an];exact ah.new w 122 _
 have cb:g≠w.heap.size:=λe=>by obtain⟨rows,_,v,_⟩:=r.o.rows;have:=(dw v (show(Value.slice (some ⟨g,0,none⟩) N K).ownBlock=some g from rfl)).2;omega
 have cc:g≠a5:=λe=>by obtain⟨rows,_,v,_⟩:=r.o.rows;subst e;exact au v ac.o (by decide) rfl
 have Y:=b.blk s.o (λh=>h);have u:=b.blk H.o (λh=>h);have P:=b.blk ac.o (λh=>h);have y:=r.o.only b (λ_ h=>h.elim);obtain⟨_,_,_,_,cB,cD,cE,cH,c8,r1,r2,r3⟩:=y.Gv ad.o;have cK:=Y.cell 1;have cL:=u.cell 0;have cM:=u.cell 1;have cP:=u.cell 2;have cS:=u.cell 3;have ck:=P.cell 0;refine eD ?_ b X Y u P y an;clear b X Y u P y an;intro b X Y u P y an
 go_region
 obtain⟨ce,Q⟩:=I ((yN W g (i*4) (.slice d p f) (.slice l q m) (.int .i64 u2) (.int .i64 u3)).drew);have bc:=b1.o W b.o;have z:=b8.o W b.o;have A:=(ni W g (i*4) (.slice d p f) (.slice l q m) (.int .i64 u2) (.int .i64 u3)).drew;rw[<-Q]at bc z A;have a1:((((W.setCell ⟨g,i*4,none⟩ (.slice d p f)).setCell ⟨g,i*4+1,none⟩ (.slice l q m)).setCell ⟨g,i*4+2,none⟩ (.int .i64 u2)).setCell ⟨g,i*4+3,none⟩ (.int .i64 u3)).drew=ce:=Q.symm;rw[a1];have D:=A.blk P.o (λe=>cc e.symm);have a:=A.blk X.o (λe=>cb e.symm);have c9:=D.cell 0;have da:=a.cell 0;have db:=a.cell 1;have dc:=a.cell 2;have dd:=a.cell 3;have bi:=J (yM ce F gt E k st bg z.1 z.2 a4.o old a7.o a8 ae al ba bb af am);rw[<-M.o,<-O.o]at bi;replace bc:Hid _:=J bc;refine bX ?_ z A D a Q;clear z A D a Q;intro z A D a Q;clear a1;go_wp2_with fail;go_at_call 61;refine bi.o.mono ?_;rintro e cl ⟨rfl,cm,a2,a3⟩;have bd:=J (bc.o cl ⟨rfl,cm,a2,a3⟩);replace a2:=J a2;replace a3:=J a3;go_wp2_with fail;go_ret;exact bd.o
theorem Gx(w:World)(F:Nat->Prop)(m gt k:Nat)(st bg:aB)(bi:ar w F m st)(a3:aL w F gt m k)(bj:st.ok)(c bl B E i:Nat)(cj:Bool)(cv kv:Value)(n:aj)(old:ai)(a7:iw F w B cv kv n)(v:ah w c 129 #[.bool n.leaf,cv,kv])(a4:ah w bl 66 #[.pointer (some ⟨gt,0,none⟩)]) (a8:n.cells[i]?=some old) (bm:qP st old bg) (bp:old.long<=20000) (a9:n.cells.length<=100000) (cx:E<=c) (cy:E<=B) (bs:¬F c):Calls Tryz.prog 87 #[.pointer (some ⟨c,0,none⟩),.int .i64 (i:Int),.bool cj,.pointer (some ⟨bl,0,none⟩)] w (qo F w m c E bg ⟨n.leaf,n.cells.eraseIdx i,n.kids⟩):=by
 have ba:=(ay.1 a8).1;obtain⟨g,a5,rfl,b8,cz⟩:∃g a5,cv=.slice (some ⟨g,0,none⟩) n.cells.length a5/\n.cells.length<=a5/\B<=g:=by
  obtain⟨rows,bA,bb,bB⟩:=a7.rows;rcases bb.2 with⟨_,e⟩|⟨g,cap,cA,e,v,_,ck,_⟩
  ·have bc:=bb.1;rw[e]at bc;simp at bc;omega
  ·exact⟨g,cap,e,ck,v⟩
 have Z:=a7.sB;obtain⟨b0,b1,b2,b3,cl,cm,cn,co,cL,cM,cP,cS⟩:=Z.Gv a8;obtain⟨rows,G,f,H⟩:=Z.rows;obtain⟨b4,ab⟩:=I (old.key.length);obtain⟨b5,ac⟩:=I (old.val.length);obtain⟨b9,K⟩:=I (old.over);obtain⟨ca,L⟩:=I (old.long);rw[<-ab]at cl;rw[<-ac]at cm;rw[<-K]at cn;rw[<-L]at co;obtain⟨W,M⟩:=I (w.alloc (.cells #[.slice b0 b4 b1,.slice b2 b5 b3,.int .i64 (b9:Int),.int .i64 (ca:Int)] 122));have a:R (λ_=>False) w W:=by rw[M];exact(R.refl _ w).alloc _
 have ad:ah W w.heap.size 122 #[.slice b0 b4 b1,.slice b2 b5 b3,.int .i64 (b9:Int),.int .i64 (ca:Int)]:=by rw[M];exact ah.new w 122 _
 have cb:g≠w.heap.size:=λe=>by have:=(dw f (show(Value.slice (some ⟨g,0,none⟩) n.cells.length a5).ownBlock=some g from rfl)).2;omega
 have cc:g≠bl:=λe=>by subst e;exact au f a4 (by decide) rfl
 have ce:g≠c:=λe=>by subst e;exact au f v (by decide) rfl
 have cf:¬F g:=Z.rF g rfl;have cg:gt≠g:=λe=>by subst e;exact au f a3.blk (by decide) rfl
 have ae:bC F W B _ kv n:=Z.only a (λ_ h=>h.elim);have q:=a.row f (λ_ _ h=>h);have A:cR F W rows n.cells:=H.iZ a (λ_ _ h=>h.elim);have r:=a.blk v (λh=>h);have af:=a.blk a4 (λh=>h);have O:aL W F gt m k:=⟨a.blk a3.blk (λh=>h),a3.o⟩;have al:ar W F m st:=by rw[M];exact bi.alloc _
 have bv:=J (yt W B _ n.cells.length i rows.flatten q ba (H.one G) a9);obtain⟨N,P⟩:=I (n.cells.length);obtain⟨cp,Q⟩:=I (n.leaf);rw[<-Q]at v r;rw[<-P]at v r ba b8 a9 bv;have cV:=v.cell 1;have cB:=r.cell 1;have cD:=a4.cell 0;have cE:(i:Int)<(N:Int):=by omega
 have cH:(N:Int)<=(a5:Int):=by omega
 have bd:W.heap.size=w.heap.size+1:=by rw[M];simp
 refine aR ?_ bi a3 a7 v a4 a8 bm Z P Q ab ac K;clear bi a3 a7 v a4 a8 bm Z P Q ab ac K;intro bi a3 a7 v a4 a8 bm Z P Q ab ac K;refine aR ?_ L bj a ad r af ae G f H q A O;clear L bj a ad r af ae G f H q A O;intro L bj a ad r af ae G f H q A O;refine bf ?_ al M bd;clear al M bd;intro al M bd;go_enter Tryz.func87,Tryz.ntmps87;go_upto_region 2 with(fail)
 rw[<-M.o];go_wp2_with fail;go_at_call 88;refine bv.o.mono ?_;rintro e S ⟨v5,rfl,s,x,am⟩;obtain⟨be,c5,rfl⟩:=aE s;have y:∀j,(Value.slice (some ⟨g,0,none⟩) N a5).ownBlock=some j->j=g:=λj e=>by injection e with e;exact e.symm
 have b:=r.o.grown x (λe=>ce (y _ e.symm).symm);have T:=af.o.grown x (λe=>cc (y _ e.symm).symm);have U:=ad.o.grown x (λe=>cb (y _ e.symm).symm);have an:=al.o.grown x (λj e cr=>cf (by rw[<-y j e];exact cr));have z:aL S F gt m k:=⟨O.o.blk.grown x (λe=>cg (y _ e.symm)),O.o.o⟩;have ao:bC F S B (.slice be (N-1) c5) kv ⟨n.leaf,n.cells.eraseIdx i,n.kids⟩:=by refine ae.o.MN (i:=i) (by rw[<-P.o];exact ba) (by rw[<-P.o];exact x) rows G.o q.o A.o (by rw[<-P.o];exact s) (by rw[<-P.o];exact am)
 have V:R (λj=>j=g) W S:=(R.refl _ W).grown x (λj e _=>y j e);obtain⟨D,t⟩:=I (S.setCell ⟨c,1,none⟩ (.slice be (N-1) c5));have d:R (λj=>j=c) S D:=by rw[t];exact(R.refl (λj=>j=c) S).setCell (p:=⟨c,1,none⟩) (λ_=>rfl) _
 have X:ah D c 129 #[.bool cp,.slice be (N-1) c5,kv]:=by rw[t];exact b.aK 1 _
 have ch:bl≠c:=ah.iH T b (by decide);have ci:w.heap.size≠c:=ah.iH U b (by decide);have ap:=d.blk T ch;have u:=d.blk U ci;have a0:ar D F m st:=by rw[t];exact an.aK bs _
 have a1:aL D F gt m k:=⟨d.blk z.blk (ah.iH z.blk b (by decide)),z.o⟩;have a2:bC F D B (.slice be (N-1) c5) kv ⟨n.leaf,n.cells.eraseIdx i,n.kids⟩:=ao.only d λj b6=>by subst b6;exact⟨_,_,b,by decide,by decide,by decide⟩
 have bx:=J (yM D F gt m k st bg a0 a1 bj.o old bm.o bp b0 b2 b4 b5 b1 b3);rw[<-K.o,<-L.o]at bx;have ct:Hid (∀a6,cG F D m bg (.int .i64 0) (.returned (.int .i64 0)) a6->qo F w m c E bg ⟨n.leaf,n.cells.eraseIdx i,n.kids⟩ (.returned (.int .i64 0)) a6):=J (by
  rintro a6 ⟨_,b7,Y,l⟩;refine⟨rfl,b7,B,.slice be (N-1) c5,kv,Y,?_,λj b6=>?_,a2.ev l,by rw[Q.o]at X;exact l.blk X bs⟩
  ·have bA:R (λj=>F j\/E<=j) w W:=a.o.mono (λ_ _ h=>h.elim);have bb:R (λj=>F j\/E<=j) W S:=V.mono λj _ e=>.inr (by subst e;omega);have bB:R (λj=>F j\/E<=j) S D:=d.mono λj _ e=>.inr (by subst e;omega);have cw:R (λj=>F j\/E<=j) D a6:=l.only.mono λj _ e=>.inl e;exact((bA.trans bb λ_ _ h=>h).trans bB λ_ _ h=>h).trans cw λ_ _ h=>h
  ·rcases l.grow j b6 with bc|bc
   ·exact .inl bc
   ·have bA:=a.o.size;have bb:=V.size;have bB:=d.size;exact .inr (by omega))
 have cX:=b.cell 1;have cK:=b.frozen 1;have cY:=ap.cell 0;have c0:=u.cell 0;have c1:=u.cell 1;have c2:=u.cell 2;have c3:=u.cell 3;refine aR ?_ x s am b T U an z ao V d X ap;clear x s am b T U an z ao V d X ap;intro x s am b T U an z ao V d X ap;refine bX ?_ u a0 a1 a2 t;clear u a0 a1 a2 t;intro u a0 a1 a2 t;go_upto_region 3 with(fail)
 rw[<-t.o];go_wp2_with fail;go_at_call 61;refine bx.o.mono ?_;rintro e a6 ⟨rfl,b7,Y,l⟩;have br:=J (ct.o a6 ⟨rfl,b7,Y,l⟩);replace Y:=J Y;replace l:=J l;go_wp2_with fail;go_ret;exact br.o
theorem nO.ok{st st':aB}{ps:List (List UInt8)}{o c:Nat}(h:nO st ps o st' c):(∀p∈ps,p.length<=505)->st.ok->st'.ok:=by
 induction h with
 |nil st o=>exactλ_ a=>a
 |cons st st' b i o c e g ih=>
  intro d a
  exact ih (λp f=>d p (.tail _ f)) ((a.alloc e).1.write _ _ (by have:=d b (.head _);rw[aq,bq];omega))
theorem wP(b:List UInt8)(k:Nat):∀p∈(gU b k).reverse,p.length<=505:=by intro p a;rw[mem_reverse]at a;obtain⟨i,_,rfl⟩:=aM.1 a;rw[aH];omega
theorem qM.ok{st bg:aB}{key b:List UInt8}{c:ai}(h:qM st key b bg c)(a:st.ok):bg.ok:=by
 rcases h with⟨_,rfl,_⟩|⟨_,o,h,_⟩
 ·exact a
 ·exact h.ok (wP _ _) a
theorem yO(c:ai):Ju (px c):=by
 intro st n i d bg e a f h;rcases h with⟨_,rfl,_⟩|⟨_,old,_,b,_⟩
 ·exact a
 ·exact b.ok a
theorem yP:Ju yQ:=by intro st n i c bg d a e ⟨old,_,b,_⟩;exact b.ok a
theorem Jy:∀args a,(callFunc 59 args).run Tryz.prog a=.ok (.enter 59 args) a:=λargs a=>by have h:=Tryz.func59;simp[callFunc,Sem.run_bind,go_sem,h,Tryz.f59]
theorem Jz(w:World)(F:Nat->Prop)(g gt k:Nat)(st:aB)(T:st.ok)(U:aL w F gt g k)(gc d:Nat)(c:ai)(j l m o:Value)(t:ah w gc 122 #[j,l,m,o]) (u:¬F gc) (v:ah w d 66 #[.pointer (some ⟨gt,0,none⟩)]) (p:¬F d)(x:cN (byteOf F w) w [j,l,m,o] c):Kn 59 #[.pointer (some ⟨gc,0,none⟩),.pointer (some ⟨d,0,none⟩)] (px c) w F g st:=by
 intro n i Y bg Z y z A D E G B H cv kv K a r L M ab N O V;have S:=A.many;have f:n.cells.length<=100000:=by omega
 have q:=a.blk t u;have P:=a.blk v p;rcases y with⟨rfl,rfl,rfl⟩|⟨rfl,old,Q,W,rfl⟩
 ·exact(FQ D E g _ K G gc d B H i cv kv n c j l m o r L q (x.xM a) (z rfl) f N O V M).mono λ_ _ h=>h.sB
 ·have s:old.long<=20000:=by
   have b:=A.vals old (bu Q);split at b
   ·rcases b with b|b
    ·omega
    ·omega
   ·have:=b.2.1;omega
  refine Gw D E g gt k st bg K (U.ev a) T G gc d B H i cv kv n c old j l m o r L q P (a.new p (ah.lt v)) (x.xM a) Q W s f N O M λe=>?_;obtain⟨rows,_,X,_⟩:=r.rows;have b:=(dw X e).1;have:=ah.lt t;omega
theorem Bf(w:World)(F:Nat->Prop)(gt z k:Nat)(st:aB)(h:ar w F z st)(T:aL w F gt z k)(b1:k<8)(key b:List UInt8)(b5 b6:Option Addr)(ca b7:Nat)(a4:MB F w b5 key.length key)(a5:MB F w b6 b.length b)(bj:1<=key.length) (bl:key.length<=120) (a6:b.length<=20000) (cb:64<b.length->b.length<=b7) (bm:st.ok) (bg:aB) (c:ai) (ac:qM st key b bg c) (bp:bg.roots k=0) (br:dU bg) (U:bg.free<bg.many) (bs:dh (aW bg) (aG bg) ⟨true,[c],[]⟩) (bv:aG bg<(aW bg).many):Calls Tryz.prog 22 #[.pointer (some ⟨gt,0,none⟩),.slice b5 key.length ca,.slice b6 b.length b7] w (cG F w z (bo (aY (aW bg) (aG bg) ⟨true,[c],[]⟩) k (aG bg)) (.int .i64 0)):=by
 obtain⟨L,bx⟩:=I (key.length);obtain⟨M,a7⟩:=I (b.length);rw[<-bx]at a4 bj bl⊢;rw[<-a7]at a5 a6⊢;have cK:decide ((L:Int)<1)=false:=aD (by omega);have cL:decide (120<(L:Int))=false:=aD (by omega);have cA:decide (120<L)=false:=aD (by omega);have cM:decide (20000<(M:Int))=false:=aD (by omega);have cB:decide (20000<M)=false:=aD (by omega);have cD:¬L=0:=by omega
 have A:Ev F w F (w.alloc (.cells #[.pointer (some ⟨gt,0,none⟩)] 66)):=(Ev.refl F w).az _;have D:=ah.new w 66 #[.pointer (some ⟨gt,0,none⟩)];have ad:=h.alloc (.cells #[.pointer (some ⟨gt,0,none⟩)] 66);have b2:=J (yz (w.alloc (.cells #[.pointer (some ⟨gt,0,none⟩)] 66)) F gt z k st bg c ad (T.ev A) bm b5 b6 L M ca b7 key b (a4.ev A) (a5.ev A) (by rw[a7];exact cb) (by omega) a6 ac);have cP:(w.alloc (.cells #[.pointer (some ⟨gt,0,none⟩)] 66)).cell? ⟨w.heap.size,0,none⟩=some (.pointer (some ⟨gt,0,none⟩)):=D.cell 0;have cE:=ah.lt T.blk;have b3:¬F w.heap.size:=λU=>by have:=h.lt _ U;omega
 refine aR ?_ h T a4 a5 bx a7 A D ad bj bm ac bl;clear h T a4 a5 bx a7 A D ad bj bm ac bl;intro h T a4 a5 bx a7 A D ad bj bm ac bl;refine dZ ?_ a6 bp br U bs bv;clear a6 bp br U bs bv;intro a6 bp br U bs bv;go_enter Tryz.func22,Tryz.ntmps22;go_wp2_with fail;go_at_call 54;refine b2.o.mono ?_;rintro e f ⟨ck,cl,O,cm,V,r,E⟩;subst cm;obtain⟨g,i,l,m,cc,ce⟩:∃g i l m,ck=.slice g c.key.length i/\cl=.slice l c.val.length m:=by obtain⟨g,i,l,m,bA,_⟩:=E;injection bA with cn bA;injection bA with a8 bA;exact⟨g,i,l,m,cn,a8⟩
 subst cc;subst ce;obtain⟨s,ae⟩:=I (c.key.length);obtain⟨t,af⟩:=I (c.val.length);obtain⟨v,al⟩:=I (c.over);obtain⟨x,am⟩:=I (c.long);rw[<-ae,<-af,<-al,<-am]at E⊢;have an:=r.blk D.o b3;have W:=A.o.trans r;have cH:=W.size;have co:w.heap.size<f.heap.size:=by have:=r.size;simp at this;omega
 have P:¬O w.heap.size:=r.new b3 (ah.lt D.o);obtain⟨o,b4⟩:=I (Obj.cells #[.slice g s i,.slice l t m,.int .i64 (v:Int),.int .i64 (x:Int)] 122 (0,0));have X:Ev F w O (f.alloc o):=W.az o;have Y:=T.o.ev X;have Z:=V.alloc o;have a9:=an.alloc o;have G:ah (f.alloc o) f.heap.size 122 #[.slice g s i,.slice l t m,.int .i64 (v:Int),.int .i64 (x:Int)]:=by rw[b4];exact ah.new _ _ _
 have ba:=J (λq=>iP ((f.alloc o).drewN q) O z bg (Z.drewN q) k b1);rw[bp.o]at ba;have t0:(f.alloc o).cell? ⟨w.heap.size,0,none⟩=some (.pointer (some ⟨gt,0,none⟩)):=a9.cell 0;have cS:(f.alloc o).cell? ⟨gt,0,none⟩=some (.pointer (some ⟨z,0,none⟩)):=Y.blk.cell 0;have cV:(f.alloc o).cell? ⟨gt,1,none⟩=some (.int .i64 (k:Int)):=Y.blk.cell 1;have t4:=G.cell 0;have t5:=G.cell 1;have cp:=G.cell 2;have cr:=G.cell 3;subst b4;refine aR ?_ E r P ae af al am an W V X Y Z;clear E r P ae af al am an W V X Y Z;intro E r P ae af al am an W V X Y Z;replace a9:=J a9;replace G:=J G;clear b2;go_wp2_with fail;go_quiet (first|(go_at_call 55;exact fE (ba.o _)));obtain⟨d,a⟩:=I ((f.alloc (.cells #[.slice g s i,.slice l t m,.int .i64 (v:Int),.int .i64 (x:Int)] 122)).drewN nq);rw[<-a];have ao:Ev F w O d:=by rw[a];exact X.o.drewN nq
 have ap:ar d O z bg:=by rw[a];exact Z.o.drewN nq
 have a0:d.heap.size=f.heap.size+1:=by rw[a];simp[World.drewN]
 have t0:d.cell? ⟨w.heap.size,0,none⟩=some (.pointer (some ⟨gt,0,none⟩)):=by rw[a];exact t0
 have cX:d.cell? ⟨f.heap.size,0,none⟩=some (.slice g s i):=by rw[a];exact t4
 have r1:d.cell? ⟨f.heap.size,1,none⟩=some (.slice l t m):=by rw[a];exact t5
 have r2:d.cell? ⟨f.heap.size,2,none⟩=some (.int .i64 (v:Int)):=by rw[a];exact cp
 have r3:d.cell? ⟨f.heap.size,3,none⟩=some (.int .i64 (x:Int)):=by rw[a];exact cr
 have H:Ev F w O (d.alloc (.cells #[.slice g s i,.slice l t m,.int .i64 (v:Int),.int .i64 (x:Int)] 122)):=ao.az _;have a1:=ah.new d 122 #[.slice g s i,.slice l t m,.int .i64 (v:Int),.int .i64 (x:Int)];have Q:=V.o.lt;have a2:bI (bF O (d.alloc (.cells #[.slice g s i,.slice l t m,.int .i64 (v:Int),.int .i64 (x:Int)] 122))) (d.alloc (.cells #[.slice g s i,.slice l t m,.int .i64 (v:Int),.int .i64 (x:Int)] 122)) (.agg #[.bool true,.slice (some ⟨d.heap.size,0,none⟩) 1 1,.slice none 0 0]) ⟨true,[c],[]⟩:=by
  refine⟨some ⟨d.heap.size,0,none⟩,1,none,0,rfl,aa _,aa _,⟨[[.slice g s i,.slice l t m,.int .i64 (v:Int),.int .i64 (x:Int)]],rfl,⟨rfl,λ_=>⟨_,rfl,⟨by simp,λU=>by have bb:d.heap.size<f.heap.size:=Q _ U;omega⟩,λj u ct=>?_⟩⟩,λq vs c a8 cf=>?_⟩,Rd.none_⟩
  ·rw[Addr.add_lit,Nat.zero_add,a1.cell];simpa using ct
  ·obtain rfl:q=0:=by have:=(ay.1 a8).1;simp at this;exact this
   simp at a8 cf;subst a8;subst cf;have bb:cN (byteOf O f) f [.slice g s i,.slice l t m,.int .i64 (v:Int),.int .i64 (x:Int)] c:=E.o;refine bb.keep λq cw=>?_;obtain⟨cx,cs,cg⟩:=cw;have ch:ah (d.alloc (.cells #[.slice g s i,.slice l t m,.int .i64 (v:Int),.int .i64 (x:Int)] 122)) q 5 cs:=by rw[a];exact((cg.alloc _).drewN nq).alloc _
   exact⟨⟨ah.lt ch,cx.2⟩,Eq.trans ch cg.symm⟩
 have bc:=J (oN _ O gt z k bg (ap.alloc (.cells #[.slice g s i,.slice l t m,.int .i64 (v:Int),.int .i64 (x:Int)] 122)) (T.o.ev H) ⟨true,[c],[]⟩ _ a2 br.o U.o bs.o);have b8:(d.alloc (.cells #[.slice g s i,.slice l t m,.int .i64 (v:Int),.int .i64 (x:Int)] 122)).cell? ⟨w.heap.size,0,none⟩=some (.pointer (some ⟨gt,0,none⟩)):=by rw[World.cell?_alloc_lt _ _ _ (by show w.heap.size<d.heap.size;omega)];exact t0
 obtain⟨no,K⟩:=I (aG bg);obtain⟨dC,y⟩:=I (aY (aW bg) no ⟨true,[c],[]⟩);rw[<-K,<-y]at bc⊢;have ci:=J (by rw[y,K];exact bv.o:no<dC.many);refine dr ?_ K y a a0 ao ap H a1 Q a2;clear K y a a0 ao ap H a1 Q a2;intro K y a a0 ao ap H a1 Q a2;go_wp2_with fail;go_at_call 56;refine bc.o.mono ?_;rintro e bB ⟨rfl,cy,a3,N⟩;have ab:=T.o.ev (H.o.trans N);have u0:bB.cell? ⟨w.heap.size,0,none⟩=some (.pointer (some ⟨gt,0,none⟩)):=(N.cell (p:=⟨w.heap.size,0,none⟩) ⟨by have:=a0.o;show w.heap.size<(d.alloc _).heap.size;simp;omega,P.o⟩).trans b8;have u1:bB.cell? ⟨gt,0,none⟩=some (.pointer (some ⟨z,0,none⟩)):=ab.blk.cell 0;have u2:bB.cell? ⟨gt,1,none⟩=some (.int .i64 (k:Int)):=ab.blk.cell 1;have cj:=J (jv bB.drew cy z dC a3.drew k no b1 ci.o);have b9:=J ((H.o.trans N).drew);refine bf ?_ ab a3 N;clear ab a3 N;intro ab a3 N;have b0:Hid (∀bd,cG F w z (bo dC k no) (.int .i64 0) (.returned (.int .i64 0)) bd->cG F w z (bo (aY (aW bg) (aG bg) ⟨true,[c],[]⟩) k (aG bg)) (.int .i64 0) (.returned (.int .i64 0)) bd):=J λbd bb=>by rw[y.o,K.o]at bb;exact bb
 clear bc ba;go_wp2_with fail;go_region_law(go_simp;go_at_call 57;refine cj.o.mono ?_;rintro e bd ⟨rfl,cz,be,bi⟩;(have S:=b0.o bd ⟨rfl,cz,be,b9.o.trans bi⟩);replace S:=J S;replace be:=J be;replace bi:=J bi)
 all_goals
  go_wp2_with fail;go_ret;exact S.o
theorem DY(w:World)(F:Nat->Prop)(gt i k:Nat)(st:aB)(h:ar w F i st)(Q:aL w F gt i k)(bx:k<8)(key b:List UInt8)(bl b3:Option Addr)(b4 b5:Nat)(a2:MB F w bl key.length key)(a8:MB F w b3 b.length b)(bm:1<=key.length) (bp:key.length<=120) (a9:b.length<=20000) (b8:64<b.length->b.length<=b5) (Z:st.ok) (bg:aB) (c:ai) (j:qM st key b bg c) (no:Nat) (br:bg.roots k=no) (ba:no≠0) (dC ja:aB) (l:Option (List UInt8×Nat)) (r:gZ (px c) key bg no dC l) (N:ue k dC no l ja):Calls Tryz.prog 22 #[.pointer (some ⟨gt,0,none⟩),.slice bl key.length b4,.slice b3 b.length b5] w (cG F w i ja (.int .i64 0)):=by
 have cg:((no:Int)==0)=false:=by rw[aZ];omega
 obtain⟨L,a3⟩:=I (key.length);obtain⟨M,bb⟩:=I (b.length);rw[<-a3]at a2 bm bp⊢;rw[<-bb]at a8 a9⊢;have cK:decide ((L:Int)<1)=false:=aD (by omega);have cL:decide (120<(L:Int))=false:=aD (by omega);have cz:decide (120<L)=false:=aD (by omega);have cM:decide (20000<(M:Int))=false:=aD (by omega);have cA:decide (20000<M)=false:=aD (by omega);have cB:¬L=0:=by omega
 have s:Ev F w F (w.alloc (.cells #[.pointer (some ⟨gt,0,none⟩)] 66)):=(Ev.refl F w).az _;have E:=ah.new w 66 #[.pointer (some ⟨gt,0,none⟩)];have ab:=h.alloc (.cells #[.pointer (some ⟨gt,0,none⟩)] 66);have bA:=J (yz (w.alloc (.cells #[.pointer (some ⟨gt,0,none⟩)] 66)) F gt i k st bg c ab (Q.ev s) Z bl b3 L M b4 b5 key b (a2.ev s) (a8.ev s) (by rw[bb];exact b8) (by omega) a9 j);have cP:(w.alloc (.cells #[.pointer (some ⟨gt,0,none⟩)] 66)).cell? ⟨w.heap.size,0,none⟩=some (.pointer (some ⟨gt,0,none⟩)):=E.cell 0;have cD:=ah.lt Q.blk;have bB:¬F w.heap.size:=λb6=>by have:=h.lt _ b6;omega
 refine aR ?_ h Q a2 a8 a3 bb s E ab bm Z j bp;clear h Q a2 a8 a3 bb s E ab bm Z j bp;intro h Q a2 a8 a3 bb s E ab bm Z j bp;refine bX ?_ a9 br r N ba;clear a9 br r N ba;intro a9 br r N ba;go_enter Tryz.func22,Tryz.ntmps22;go_wp2_with fail;go_at_call 54;refine bA.o.mono ?_;rintro e d ⟨ch,ci,t,cj,S,g,H⟩;subst cj;obtain⟨y,z,A,D,b9,ca⟩:∃y z A D,ch=.slice y c.key.length z/\ci=.slice A c.val.length D:=by obtain⟨y,z,A,D,bs,_⟩:=H;injection bs with ck bs;injection bs with cl bs;exact⟨y,z,A,D,ck,cl⟩
 subst b9;subst ca;obtain⟨a4,ac⟩:=I (c.key.length);obtain⟨a5,ad⟩:=I (c.val.length);obtain⟨a6,ae⟩:=I (c.over);obtain⟨a7,af⟩:=I (c.long);rw[<-ac,<-ad,<-ae,<-af]at H⊢;have al:=g.blk E.o bB;have T:=s.o.trans g;have cE:=T.size;have cm:w.heap.size<d.heap.size:=by have:=g.size;simp at this;omega
 have u:¬t w.heap.size:=g.new bB (ah.lt E.o);obtain⟨o,b0⟩:=I (Obj.cells #[.slice y a4 z,.slice A a5 D,.int .i64 (a6:Int),.int .i64 (a7:Int)] 122 (0,0));have U:Ev F w t (d.alloc o):=T.az o;have V:=Q.o.ev U;have W:=S.alloc o;have am:=al.alloc o;have v:ah (d.alloc o) d.heap.size 122 #[.slice y a4 z,.slice A a5 D,.int .i64 (a6:Int),.int .i64 (a7:Int)]:=by rw[b0];exact ah.new _ _ _
 have bc:=J (λq=>iP ((d.alloc o).drewN q) t i bg (W.drewN q) k bx);rw[br.o]at bc;have t0:(d.alloc o).cell? ⟨w.heap.size,0,none⟩=some (.pointer (some ⟨gt,0,none⟩)):=am.cell 0;have cS:(d.alloc o).cell? ⟨gt,0,none⟩=some (.pointer (some ⟨i,0,none⟩)):=V.blk.cell 0;have cV:(d.alloc o).cell? ⟨gt,1,none⟩=some (.int .i64 (k:Int)):=V.blk.cell 1;have t4:=v.cell 0;have t5:=v.cell 1;have cn:=v.cell 2;have co:=v.cell 3;subst b0;refine aR ?_ H g u ac ad ae af al T S U V W;clear H g u ac ad ae af al T S U V W;intro H g u ac ad ae af al T S U V W;replace am:=J am;replace v:=J v;clear bA;go_wp2_with fail;go_quiet (first|(go_at_call 55;exact fE (bc.o _)));obtain⟨f,a⟩:=I ((d.alloc (.cells #[.slice y a4 z,.slice A a5 D,.int .i64 (a6:Int),.int .i64 (a7:Int)] 122)).drewN nq);rw[<-a];have K:Ev F w t f:=by rw[a];exact U.o.drewN nq
 have an:ar f t i bg:=by rw[a];exact W.o.drewN nq
 have ao:f.heap.size=d.heap.size+1:=by rw[a];simp[World.drewN]
 have t0:f.cell? ⟨w.heap.size,0,none⟩=some (.pointer (some ⟨gt,0,none⟩)):=by rw[a];exact t0
 have cX:f.cell? ⟨d.heap.size,0,none⟩=some (.slice y a4 z):=by rw[a];exact t4
 have r1:f.cell? ⟨d.heap.size,1,none⟩=some (.slice A a5 D):=by rw[a];exact t5
 have r2:f.cell? ⟨d.heap.size,2,none⟩=some (.int .i64 (a6:Int)):=by rw[a];exact cn
 have r3:f.cell? ⟨d.heap.size,3,none⟩=some (.int .i64 (a7:Int)):=by rw[a];exact co
 have X:=Q.o.ev K;have O:¬t d.heap.size:=λb6=>by have:=S.o.lt _ b6;omega
 have ap:ah f d.heap.size 122 #[.slice y a4 z,.slice A a5 D,.int .i64 (a6:Int),.int .i64 (a7:Int)]:=by rw[a];exact v.o.drewN nq
 have a0:ah f w.heap.size 66 #[.pointer (some ⟨gt,0,none⟩)]:=by rw[a];exact am.o.drewN nq
 have P:cN (byteOf t f) f [.slice y a4 z,.slice A a5 D,.int .i64 (a6:Int),.int .i64 (a7:Int)] c:=cN.keep (w:=d) (G:=byteOf t d) H.o λq cp=>by
  obtain⟨cr,cs,cb⟩:=cp;have b7:ah f q 5 cs:=by rw[a];exact(cb.alloc _).drewN nq
  exact⟨⟨⟨ah.lt b7,cr.2⟩,cs,b7⟩,Eq.trans b7 cb.symm⟩
 have b1:Kn 59 #[.pointer (some ⟨d.heap.size,0,none⟩),.pointer (some ⟨w.heap.size,0,none⟩)] (px c) f t i bg:=Jz f t i gt k bg (j.o.ok Z.o) X d.heap.size w.heap.size c _ _ _ _ ap O a0 u.o P;have bd:=a2.o.ev K;rw[a3.o]at bd;have b2:=J (qN gt i k bl b4 key 59 #[.pointer (some ⟨d.heap.size,0,none⟩),.pointer (some ⟨w.heap.size,0,none⟩)] (px c) Jy (yO c) r.o (j.o.ok Z.o) f t an X bd b1);rw[<-a3.o]at b2;clear b1 bd;refine ik ?_ a ao K an X ap P a0 O;clear a ao K an X ap P a0 O;intro a ao K an X ap P a0 O;clear bc;go_wp2_with fail;go_at_call 58;refine b2.o.mono ?_;rintro e cc ⟨ct,cw,m,rfl,a1,Y,cH,ce,be⟩;have x:=K.o.trans Y;have u0:cc.cell? ⟨w.heap.size,0,none⟩=some (.pointer (some ⟨gt,0,none⟩)):=(Y.cell (p:=⟨w.heap.size,0,none⟩) ⟨by have:=ao.o;show w.heap.size<f.heap.size;omega,u.o⟩).trans t0;have cf:=J (CB cc ct gt i k dC ja a1 (Q.o.ev x) bx (r.o.ok (yO c) (j.o.ok Z.o)) cw no m l be ce N.o);refine bf ?_ x Y a1;clear x Y a1;intro x Y a1;replace be:Hid _:=J be;go_wp2_with fail;go_at_call 62;refine cf.o.mono ?_;rintro e cx ⟨rfl,cy,bi,bj⟩;have bv:Hid (cG F w i ja (.int .i64 0) (.returned (.int .i64 0)) cx):=J ⟨rfl,cy,bi,x.o.trans bj⟩;replace bi:=J bi;replace bj:=J bj;go_wp2_with fail;go_ret;exact bv.o
theorem Gy(w:World)(F:Nat->Prop)(gt a k:Nat)(st st':aB)(h:ar w F a st)(s:aL w F gt a k)(i:k<8)(key b:List UInt8)(d e:Option Addr)(o f:Nat)(t:MB F w d key.length key)(u:MB F w e b.length b)(v:1<=key.length) (x:key.length<=120) (y:b.length<=20000) (j:64<b.length->b.length<=f) (p:st.ok) (A:JA k st key b st'):Calls Tryz.prog 22 #[.pointer (some ⟨gt,0,none⟩),.slice d key.length o,.slice e b.length f] w (cG F w a st' (.int .i64 0)):=by
 cases A with
 |first bg c g q z D E=>
  subst E
  have m:=g.ok p
  exact Bf w F gt a k st h s i key b d e o f t u v x y j p bg c g q z m.free D ((m.alloc z).2).2
 |more bg dC c l g q G r=>exact DY w F gt a k st h s i key b d e o f t u v x y j p bg c g _ rfl q dC st' l G r
theorem JB:∀args a,(callFunc 87 args).run Tryz.prog a=.ok (.enter 87 args) a:=λargs a=>by have h:=Tryz.func87;simp[callFunc,Sem.run_bind,go_sem,h,Tryz.f87]
theorem JC(w:World)(F:Nat->Prop)(c gt k:Nat)(st:aB)(o:st.ok)(p:aL w F gt c k)(b:Nat)(q:ah w b 66 #[.pointer (some ⟨gt,0,none⟩)]) (e:¬F b):Kn 87 #[.pointer (some ⟨b,0,none⟩)] yQ w F c st:=by
 intro n i r bg K f H g s t u B v cv kv x j y z A L D E M;have m:=g.many;obtain⟨old,l,G,rfl⟩:=f;have d:old.long<=20000:=by
  have a:=g.vals old (bu l);split at a
  ·rcases a with a|a
   ·omega
   ·omega
  ·have:=a.2.1;omega
 exact Gx s t c gt k st bg x (p.ev j) o u b B v i r cv kv n old y z (j.blk q e) l G d (by omega) D E A
theorem Gz(w:World)(F:Nat->Prop)(gt b k:Nat)(st st':aB)(h:ar w F b st)(A:aL w F gt b k)(ab:k<8)(K:st.ok)(N:Option Addr)(V:Nat)(key:List UInt8)(O:MB F w N key.length key)(bc:JD k st key st')(d:Calls Tryz.prog 35 #[.pointer (some ⟨gt,0,none⟩),.slice N key.length V] (w.alloc (.cells #[.pointer (some ⟨gt,0,none⟩)] 66)) λe w'=>(∃am an ao,e=.returned (.tuple #[.slice am an ao,.bool true,.int .i64 0]))/\∃ap,ar w' ap b st/\Ev F (w.alloc (.cells #[.pointer (some ⟨gt,0,none⟩)] 66)) ap w'):
 Calls Tryz.prog 43 #[.pointer (some ⟨gt,0,none⟩),.slice N key.length V] w (cG F w b st' (.tuple #[.bool true,.int .i64 0])):=by
 obtain⟨dC,l,f,p⟩:=bc;obtain⟨ac,P⟩:=I (st.roots k);rw[<-P]at f p;obtain⟨L,M⟩:=I (key.length);rw[<-M]at O d⊢;have E:Ev F w F (w.alloc (.cells #[.pointer (some ⟨gt,0,none⟩)] 66)):=(Ev.refl F w).az _;have r:=ah.new w 66 #[.pointer (some ⟨gt,0,none⟩)];have W:(w.alloc (.cells #[.pointer (some ⟨gt,0,none⟩)] 66)).cell? ⟨w.heap.size,0,none⟩=some (.pointer (some ⟨gt,0,none⟩)):=r.cell 0;have bs:=ah.lt A.blk;have t:¬F w.heap.size:=λbd=>by have:=h.lt _ bd;omega
 obtain⟨y,G⟩:=I (w.heap.size);rw[<-G]at r t;refine kT ?_ h A O M P E r K t f p d;clear h A O M P E r K t f p d;intro h A O M P E r K t f p d;go_enter Tryz.func43,Tryz.ntmps43;go_wp2_with fail;go_at_call 35;refine d.o.mono ?_;rintro e x ⟨⟨am,an,ao,rfl⟩,D,z,g⟩;have u:=E.o.trans g;have s:=A.o.ev u;have v:=g.blk r.o t.o;have i:¬D y:=g.new t.o (ah.lt r.o);have Q:=J (λq=>iP (x.drewN q) D b st (z.drewN q) k ab);rw[<-P.o]at Q;have a0:x.cell? ⟨y,0,none⟩=some (.pointer (some ⟨gt,0,none⟩)):=v.cell 0;have a1:x.cell? ⟨gt,0,none⟩=some (.pointer (some ⟨b,0,none⟩)):=s.blk.cell 0;have a2:x.cell? ⟨gt,1,none⟩=some (.int .i64 (k:Int)):=s.blk.cell 1;have H:=O.o.ev u;have ad:Hid (∀q,Calls Tryz.prog 58 #[.pointer (some ⟨gt,0,none⟩),.int .i64 (ac:Int),.slice N L V,.func (.func 87) #[] #[.pointer (some ⟨y,0,none⟩)]] (x.drewN q) λe w'=>(∃a c m,e=.returned (.tuple #[.slice (some ⟨c,0,none⟩) m m,.int .i64 0])/\ar w' a b dC/\Ev F w a w'/\¬a c/\mD a w' c ac m l)/\w'.cell? ⟨y,0,none⟩=some (.pointer (some ⟨gt,0,none⟩))/\w'.cell? ⟨gt,0,none⟩=some (.pointer (some ⟨b,0,none⟩))/\w'.cell? ⟨gt,1,none⟩=some (.int .i64 (k:Int))):=J (λq=>by have j:Ev D x D (x.drewN q):=(Ev.refl D x).drewN q;have a3:=qN gt b k N V key 87 #[.pointer (some ⟨y,0,none⟩)] yQ JB yP f.o K.o (x.drewN q) D (z.drewN q) (s.ev j) (by rw[<-M.o];exact H.ev j) (JC _ D b gt k st K.o (s.ev j) y (j.blk v i) i);rw[<-M.o]at a3;refine a3.mono ?_;rintro e bx ⟨a,c,m,rfl,a4,ae,bv,a5,a6⟩;have a7:=u.trans (j.trans ae);have af:=A.o.ev a7;exact⟨⟨a,c,m,rfl,a4,a7,a5,a6⟩,((j.trans ae).blk v i).cell 0,af.blk.cell 0,af.blk.cell 1⟩)
 refine eD ?_ z g u s v i H;clear z g u s v i H;intro z g u s v i H;clear d W;rw[<-G];replace G:=J G;go_wp2_with fail;go_cut [8,9] (λbe v9 X=>be=.int .i64 0/\∃a c m,v9=.slice (some ⟨c,0,none⟩) m m/\X.cell? ⟨y,0,none⟩=some (.pointer (some ⟨gt,0,none⟩))/\Hid (ar X a b dC/\Ev F w a X/\¬a c/\mD a X c ac m l))
 case first=>
  go_region_held3 (λw'=>w'.cell? ⟨y,0,none⟩=some (.pointer (some ⟨gt,0,none⟩))/\w'.cell? ⟨gt,0,none⟩=some (.pointer (some ⟨b,0,none⟩))/\w'.cell? ⟨gt,1,none⟩=some (.int .i64 (k:Int))) (first|exact⟨a0,a1,a2⟩|exact⟨W,bi,bj⟩) (first|(go_at_call 55;refine(Q.o _).mono ?_;rintro e Y ⟨rfl,rfl⟩)|(go_at_call 58;refine(ad.o _).mono ?_;rintro e Y ⟨⟨a,c,m,rfl,a8,a9,ba,bb⟩,W,bi,bj⟩;have bl:Hid (ar Y a b dC/\Ev F w a Y/\¬a c/\mD a Y c ac m l):=J ⟨a8,a9,ba,bb⟩;clear a8 a9 ba bb))
  all_goals go_wp2_with fail
  all_goals go_meet
  all_goals exact⟨rfl,a,c,m,rfl,W,bl⟩
 case rest=>
  obtain⟨rfl,a,c,m,rfl,bm,S⟩:=hcut;have al:=J (CB _ a gt b k dC st' S.o.1 (A.o.ev S.o.2.1) ab (f.o.ok yP K.o) c ac m l S.o.2.2.2 S.o.2.2.1 p.o);have j:=J S.o.2.1;clear Q ad a0 a1 a2;go_wp2_with fail;go_at_call 62;refine al.o.mono ?_;rintro e bp ⟨rfl,br,T,U⟩;have Z:Hid (cG F w b st' (.tuple #[.bool true,.int .i64 0]) (.returned (.tuple #[.bool true,.int .i64 0])) bp):=J ⟨rfl,br,T,j.o.trans U⟩;replace T:=J T;replace U:=J U;clear al bm;go_wp2_with fail
  go_ret2
  exact Z.o
def wQ(F:Nat->Prop)(w:World)(f:Nat)(st:aB)(m:aj)(key:List UInt8)(e:Ending)(w':World):Prop:=
 ∃F',ar w' F' f st/\Ev F w F' w'/\(((bk m key).2=false/\e=.returned (.tuple #[.slice none 0 0,.bool false,.int .i64 0]))\/
  ((bk m key).2=true/\∃c b a d,m.cells[(bk m key).1]?=some c/\j9 st c b/\e=.returned (.tuple #[.slice a b.length d,.bool true,.int .i64 0])/\MB F' w' a b.length b/\b.length<=d))
theorem qu(w:World)(F:Nat->Prop)(gt d k:Nat)(st:aB)(h:ar w F d st)(Z:aL w F gt d k)(cE:k<8)(key:List UInt8)(cp:Option Addr)(cH:Nat)(ab:MB F w cp key.length key)(a:List Nat)(m:aj)(cK:List Nat)(b4:a=st.roots k::cK)(bp:mg st key m a)(a6:a.Nodup)(a7:∀c,m.cells[(bk m key).1]?=some c->∃b,j9 st c b) (a8:(bk m key).2=true->(bk m key).1<m.cells.length):Calls Tryz.prog 35 #[.pointer (some ⟨gt,0,none⟩),.slice cp key.length cH] w (wQ F w d st m key):=by
 obtain⟨L,br⟩:=I (key.length);rw[<-br]at ab⊢;have dc:w.cell? ⟨gt,0,none⟩=some (.pointer (some ⟨d,0,none⟩)):=Z.blk.cell 0;have dd:w.cell? ⟨gt,1,none⟩=some (.int .i64 (k:Int)):=Z.blk.cell 1;obtain⟨cL,bs⟩:=I (st.roots k);have cM:=J (by rw[bs];exact iP w.drew F d st h.drew k cE:Calls Tryz.prog 55 #[.pointer (some ⟨d,0,none⟩),.int .i64 (k:Int)] w.drew λe w'=>e=.returned (.int .i64 (cL:Int))/\w.drew=w');have cP:Hid (Gn w F gt d st key m a cL w.drew):=J ⟨[],cK,F,by rw[bs];exact b4,by rw[bs,<-b4];exact bp,h.drew,(Ev.refl F w).drew⟩;refine dr ?_ h Z ab br bs b4 bp a6 a7 a8;clear h Z ab br bs b4 bp a6 a7 a8;intro h Z ab br bs b4 bp a6 a7 a8;go_enter Tryz.func35,Tryz.ntmps35;go_wp2_with fail;go_region_held3 (λw'=>w'.cell? ⟨gt,0,none⟩=some (.pointer (some ⟨d,0,none⟩))/\w'.cell? ⟨gt,1,none⟩=some (.int .i64 (k:Int))) (first|exact⟨dc,dd⟩) (first|(go_at_call 55;refine cM.o.mono ?_;rintro e eb ⟨rfl,rfl⟩))
 go_wp2_with fail;go_loopw [7] (λcr de=>∃no:Nat,cr=.int .i64 (no:Int)/\Hid (Gn w F gt d st key m a no de)) (λcr _=>a.length-a.idxOf (intOf cr).toNat)
 case atStart=>exact⟨cL,rfl,cP⟩
 case round=>
  obtain⟨no,rfl,dj⟩:=hrel;obtain⟨pre,db,cS,v,a9,ba,ac⟩:=dj.o;obtain⟨b5,u⟩:=a9.head;have dk:¬(no:Int)=0:=by omega
  have bb:aL wr cS gt d k:=Z.o.ev ac;obtain⟨n,A,ad⟩:∃n,bS st no n/\((n.leaf=true/\n=m)\/(n.leaf=false/\∃dM q,db=dM::q/\n.kids[(bk n key).1]?=some dM/\mg st key m (dM::q))):=by
   rcases u with⟨r,A,_⟩|⟨dM,n,q,ap,A,r,ct,bp⟩
   ·exact⟨m,A,.inl ⟨r,rfl⟩⟩
   ·exact⟨n,A,.inr ⟨r,dM,q,ap,ct,bp⟩⟩
  have cV:=J (dz wr cS gt d k st ba bb no n A);have ci:=J A.2.1.rise;have cj:=J A.2.1.many;obtain⟨a0,x⟩:=I (n.leaf);refine dr ?_ A ba ac bb v a9 u ad x b5;clear A ba ac bb v a9 u ad x b5;intro A ba ac bb v a9 u ad x b5;go_wp2_with fail;refine cV.o.mono ?_;rintro e a1 ⟨s,cv,kv,ec,rfl,ae,bc,bd,d6,E⟩;rw[<-x.o];have af:bI (bF s a1) a1 (.agg #[.bool n.leaf,cv,kv]) n:=(E.Jl (F:=s) (λj bv=>bd j bv)).gS;obtain⟨bx,bA,rfl⟩:=aE E.kids;obtain⟨bB,b0,rfl⟩:=aE E.rows.choose_spec.2.1;obtain⟨N,b1⟩:=I (n.cells.length);obtain⟨K,b2⟩:=I (n.kids.length);rw[<-b1,<-b2,<-x.o]at af;rw[<-b1,<-b2];have b6:¬s a1.heap.size:=λr=>by have:=ae.lt _ r;omega
  have l:=ah.new a1 129 #[.bool a0,.slice bB N b0,.slice bx K bA];obtain⟨b3,t⟩:=I (a1.alloc (.cells #[.bool a0,.slice bB N b0,.slice bx K bA] 129));obtain⟨cw,al⟩:=I (a1.heap.size);have G:Ev F w s b3:=by rw[t];exact(ac.o.trans bc).az _
  have be:ar b3 s d st:=by rw[t];exact ae.alloc _
  have am:bI (bF s b3) b3 (.agg #[.bool a0,.slice bB N b0,.slice bx K bA]) n:=by rw[t];exact af.ev ((Ev.refl s a1).az _)
  rw[<-t,<-al]at l;have Q:=ab.o.ev G;have b7:=J (mB b3 (.agg #[.bool a0,.slice bB N b0,.slice bx K bA]) n (am.old λk ct=>ct.1) ci.o (by have:=cj.o;omega) cp cH key (by have b8:=Q.rb;rw[br.o]at b8;exact b8));rw[<-br.o]at b7;obtain⟨z,an⟩:=I ((bk n key).1);obtain⟨S,a2⟩:=I ((bk n key).2);rw[<-an,<-a2]at b7;have dl:=l.cell 0;have m1:=l.cell 1;have dp:=l.cell 2;have b9:aL b3 s gt d k:=Z.o.ev G;refine aR ?_ b1 b2 an a2 af am E bd ae bc be G l;clear b1 b2 an a2 af am E bd ae bc be G l;intro b1 b2 an a2 af am E bd ae bc be G l;refine bX ?_ t al Q b6 b9;clear t al Q b6 b9;intro t al Q b6 b9;go_upto_region 8 with(fail)
  rw[<-t.o,<-al.o];go_wp2_with fail;refine b7.o.mono ?_;rintro e D ⟨rfl,H⟩;have ao:=l.o.below H (ah.lt l.o);have ee:D.cell? ⟨cw,0,none⟩=some (.bool a0):=ao.cell 0;have ef:D.cell? ⟨cw,1,none⟩=some (.slice bB N b0):=ao.cell 1;have eg:D.cell? ⟨cw,2,none⟩=some (.slice bx K bA):=ao.cell 2;have f:=G.o.below H;have p:=be.o.below H;have cX:bI (bF s D) D (.agg #[.bool a0,.slice bB N b0,.slice bx K bA]) n:=am.o.ev (Ev.ag H);obtain⟨eh,c5,ei,ej,ck,d7,d8,i,y⟩:=cX;injection ck with ck;simp at ck;obtain⟨g1,⟨rfl,ds,rfl⟩,rfl,g3,rfl⟩:=ck;clear g1 ds g3;replace H:=J H;replace ao:=J ao;clear dl m1 dp;cases a0 with
  |false=>
   obtain⟨dM,q,ap,T,ca⟩:∃dM q,db=dM::q/\n.kids[z]?=some dM/\mg st key m (dM::q):=by
    rcases ad.o with⟨r,_⟩|⟨_,dM,q,cx,cy,cz⟩
    ·exact absurd (x.o.trans r) (by simp)
    ·exact⟨dM,q,cx,by rw[an.o];exact cy,cz⟩
   have cY:z<n.kids.length:=(ay.1 T).1
   obtain⟨c4,dt,_,W⟩:=y.2 (by omega)
   subst dt
   have ek:D.cell? (c4.add z)=some (.int .i64 (dM:Int)):=W z _ (by rw[getElem?_map,T];rfl)
   have d9:z<K:=by have:=b2.o;omega
   have du:(z:Int)<(K:Int):=by omega
   have c6:(0:Int)<=(z:Int):=by omega
   have hrel:Hid (Gn w F gt d st key m a dM D):=J ⟨pre++[no],q,s,by rw[v.o,ap];simp,ca,p,f⟩
   have cl:Hid (a.length-a.idxOf dM<a.length-a.idxOf no):=J (by
    have bi:=a6.o;have cA:a.idxOf no=pre.length:=by rw[v.o]at bi⊢;exact CC bi
    have dv:a.idxOf dM=(pre++[no]).length:=by
     have dy:a=(pre++[no])++dM::q:=by rw[v.o,ap];simp
     rw[dy]at bi⊢;exact CC bi
    have dT:a.length=pre.length+(q.length+2):=by rw[v.o,ap];simp
    rw[cA,dv,dT];simp;omega)
   replace T:=J T
   replace y:=J y
   replace i:=J i
   replace f:=J f
   replace p:=J p
   replace ap:=J ap
   replace ca:=J ca
   replace W:=J W
   clear cY
   go_wp2_with fail
   go_roundw
   case rel=>exact⟨dM,rfl,hrel⟩
   case measure=>simpa[intOf]using cl.o
  |true=>
   have g:n=m:=by
    rcases ad.o with⟨_,e⟩|⟨r,_⟩
    ·exact e
    ·exact absurd (x.o.trans r) (by simp)
   replace y:=J y
   cases S with
   |false=>
    have a3:Hid (wQ F w d st m key (.returned (.tuple #[.slice none 0 0,.bool false,.int .i64 0])) D):=J ⟨s,p,f,.inl ⟨by rw[<-g];exact a2.o.symm,rfl⟩⟩
    replace i:=J i
    replace f:=J f
    replace p:=J p
    replace g:=J g
    go_wp2_with fail
    go_ret3
    exact a3.o
   |true=>
    have cb:z<n.cells.length:=by have b8:=a8.o (by rw[<-g];exact a2.o.symm);rw[<-g,<-an.o]at b8;exact b8
    obtain⟨c4,c7,c8,c9,da,cA,X⟩:=i.at_ z cb
    obtain⟨c,cc⟩:∃c,n.cells[z]?=some c:=⟨_,ak cb⟩
    have co:n.cells[z]=c:=(ay.1 cc).2
    rw[co]at X
    obtain⟨b,bj⟩:=a7.o c (by rw[<-g,<-an.o];exact cc)
    subst cA
    have d0:=X.c0
    have d1:=X.c1
    have d2:=X.c2
    have d3:=X.c3
    have ea:z<N:=by have:=b1.o;omega
    have d4:(z:Int)<(N:Int):=by omega
    have c6:(0:Int)<=(z:Int):=by omega
    obtain⟨V,cm⟩:=I (c.val.length)
    obtain⟨U,cB⟩:=I (c.key.length)
    rw[<-cm]at d1
    rw[<-cB]at d0
    have bl:=J (uC D s (λ_=>False) (λ_ r=>r.elim) gt d k st p (Z.o.ev f) c b bj c7 c8 U c9 da (λ_=>X.val.keep λj bv=>⟨⟨bv.1,λr=>r.elim bv.2 id⟩,rfl⟩) X.Mv)
    rw[<-cm]at bl
    obtain⟨el,ce⟩:=I (c.over)
    obtain⟨em,cf⟩:=I (c.long)
    rw[<-ce]at d2 bl
    rw[<-cf]at d3 bl
    obtain⟨cD,M⟩:=I (b.length)
    have a3:Hid (∀a4 a5 O P,ar a4 a5 d st->Ev s D a5 a4->MB (FC a5 (λ_=>False)) a4 O cD b->cD<=P->wQ F w d st m key (.returned (.tuple #[.slice O cD P,.bool true,.int .i64 0])) a4):=J λa4 a5 O P cx cy cz d5=>⟨a5,cx,f.trans cy,.inr ⟨by rw[<-g];exact a2.o.symm,c,b,O,P,by rw[<-g,<-an.o];exact cc,bj,by rw[M],by rw[<-M];exact cz.sub λj bv=>.inl bv,by rw[<-M];exact d5⟩⟩
    replace bj:=J bj
    replace M:=J M
    replace ce:=J ce
    replace cf:=J cf
    replace X:=J X
    replace cc:=J cc
    clear co
    replace cm:=J cm
    replace cB:=J cB
    replace i:=J i
    replace f:=J f
    replace p:=J p
    replace g:=J g
    clear cb
    go_wp2_with fail
    refine bl.o.mono ?_
    rintro e a4 ⟨a5,O,P,rfl,cg,ch,bm,Y⟩
    rw[<-M.o]at bm Y⊢
    have cn:=J (a3.o a4 a5 O P cg ch bm Y)
    replace cg:=J cg
    replace ch:=J ch
    replace bm:=J bm
    replace Y:=J Y
    go_wp2_with fail
    go_ret3
    exact cn.o
theorem yR(gt e k f H:Nat)(st:aB):∀(h m:Nat) (b:aF) (d:Option aF) (no:Nat) (L:List ai) (P:List Nat),bn st h m b d no L P->7<=m->MM gt e k f H st h m b d no
 |0,m,b,d,no,L,P,j,o=>by
  obtain⟨n,q,r,⟨g,_,u⟩,_⟩:=j
  exact uB gt e k f H st 0 m b d no n q r o (by rw[g];rfl) u (λa=>by rw[g]at a;cases a)
 |h+1,m,b,d,no,L,P,j,o=>by
  obtain⟨n,Q,q,r,⟨g,s⟩,_⟩:=j
  refine uB gt e k f H st (h+1) m b d no n q r o (by rw[g];rfl) (λc v=>?_) λ_ i dM t=>?_
  ·have a:=s.Gq c v;exact⟨cq _ _ a.1,a.2⟩
  ·obtain⟨l,p,a⟩:=Gi s i dM t;exact yR gt e k f H st h 127 _ _ dM l p a (by omega)
theorem DZ(w:World)(F:Nat->Prop)(gt c k:Nat)(st:aB)(E:ar w F c st)(t:aL w F gt c k)(Q:k<8)(L:List ai)(P:List Nat)(G:kf st k L P)(a7:L.length<=1000000):Calls Tryz.prog 34 #[.pointer (some ⟨gt,0,none⟩)] w (yD F w c st):=by
 obtain⟨a,K,v,S,p⟩:∃a:List Nat,st.roots k=a.headD 0/\jC st a/\a.length<=1000/\((a.length=0/\st.roots k=0)\/(a.length≠0/\∃h,a.length=1+h/\bn st h 7 [] none (st.roots k) L P)):=by
  rcases G with⟨W,rfl,_⟩|⟨h,X⟩
  ·exact⟨[],W,.nil,by simp,.inl ⟨rfl,W⟩⟩
  ·obtain⟨bb,an,ab⟩:=qO h 7 _ _ _ _ _ X;have a8:=X.qp (aa _);refine⟨_,rfl,an,?_,.inr ⟨by simp,h,by simp[ab,Nat.add_comm],X⟩⟩;rw[length_cons,ab];rcases aA h 20 with ac|ac
   ·omega
   ·have a9:=Nat.pow_le_pow_right (n:=2) (by decide) ac;have ba:(2:Nat)^20=1048576:=by decide
    omega
 have T:=J (AV w F gt c k st E t Q a K v S);obtain⟨H,M⟩:=I (a.length);rw[<-M]at T S p;refine eD ?_ K v M p E t G;clear K v M p E t G;intro K v M p E t G;go_enter Tryz.func34,Tryz.ntmps34;go_wp2_with fail;go_at_call 74;refine T.o.mono ?_;rintro e l ⟨rfl,f,r,x⟩;obtain⟨b,d⟩:=I (l.alloc (.cells #[.int .i64 (H:Int)] 3));have m:Ev f l f b:=by rw[d];exact(Ev.refl f l).az _
 have g:=x.trans m;have i:ar b f c st:=by rw[d];exact r.alloc _
 have s:ah b l.heap.size 3 #[.int .i64 (H:Int)]:=by rw[d];exact ah.new l 3 _
 have y:¬f l.heap.size:=λao=>by have:=r.lt _ ao;omega
 have W:=s.cell 0;have j:=t.o.ev g;have ap:b.cell? ⟨gt,0,none⟩=some (.pointer (some ⟨c,0,none⟩)):=j.blk.cell 0;have a0:b.cell? ⟨gt,1,none⟩=some (.int .i64 (k:Int)):=j.blk.cell 1;have a1:l.alloc (.cells #[.int .i64 (H:Int)] 3)=b:=d.symm;refine ik ?_ d r x m g i s y j;clear d r x m g i s y j;intro d r x m g i s y j;rcases p.o with⟨u,a5⟩|⟨u,h,N,z⟩
 ·have ad:((H:Int)==0)=true:=by rw[u];rfl
  replace u:=J u;have O:Hid (∃ae,ar b ae c st/\Ev F w ae b):=J ⟨f,i.o,g.o⟩;go_wp2_with fail;go_ret;exact⟨rfl,O.o⟩
 ·have ad:((H:Int)==0)=false:=by rw[aZ];omega
  have U:=J (λq=>iP (b.drewN q) f c st (i.o.drewN q) k Q);have V:=J (yR gt c k l.heap.size H st h 7 [] none (st.roots k) L P z (aa _));refine bf ?_ z N u;clear z N u;intro z N u;obtain⟨a6,Y⟩:=I (st.roots k);rw[<-Y]at U V;have Z:Hid (∀q,Calls Tryz.prog 75 #[.pointer (some ⟨gt,0,none⟩),.int .i64 (a6:Int),.int .i64 1,.slice none 0 0,.slice none 0 0,.func (.func 76) #[] #[.pointer (some ⟨l.heap.size,0,none⟩)]] (b.drewN q) λe w'=>yD F w c st e w'/\w'.cell? ⟨gt,0,none⟩=some (.pointer (some ⟨c,0,none⟩))/\w'.cell? ⟨gt,1,none⟩=some (.int .i64 (k:Int))):=J (λq=>by refine(V.o (b.drewN q) f 1 (.slice none 0 0) (.slice none 0 0) (i.o.drewN q) (j.o.ev ((Ev.refl f b).drewN q)) (s.o.drewN q) y.o (by have:=N.o;omega) (aa _) (λA=>absurd A (by decide)) ⟨none,0,0,rfl,rfl,Rd.none_⟩ rfl (by omega)).mono ?_;rintro e af ⟨rfl,a2,al,am⟩;have A:=g.o.trans (((Ev.refl f b).drewN q).trans am);exact⟨⟨rfl,a2,al,A⟩,(t.o.ev A).blk.cell 0,(t.o.ev A).blk.cell 1⟩)
  replace Y:=J Y;go_wp2_with fail;go_region_held3 (λw'=>w'.cell? ⟨gt,0,none⟩=some (.pointer (some ⟨c,0,none⟩))/\w'.cell? ⟨gt,1,none⟩=some (.int .i64 (k:Int))) (first|exact⟨ap,a0⟩|exact⟨a3,a4⟩) (first|(go_at_call 55;refine(U.o _).mono ?_;rintro e af ⟨rfl,rfl⟩)|(go_at_call 75;refine(Z.o _).mono ?_;rintro e af ⟨⟨rfl,D⟩,a3,a4⟩;replace D:=J D))
  all_goals go_wp2_with fail
  all_goals go_ret
  all_goals exact⟨rfl,D.o⟩
end
end Go.Proofs.YtajdeapdgbnahaaGreatDoor
