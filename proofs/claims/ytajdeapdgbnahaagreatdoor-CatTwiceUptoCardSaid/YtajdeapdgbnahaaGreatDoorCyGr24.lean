/-
  UTF-8 by the document (inquestref09): contracts of utf, next, Read.
  UTF-8 by the document (inquestref09): next at any bytes; contract of Read.
  The document's UTF-8 against the model's decoder: the same runes, the same errors. No program in sight.
-/
import Derived.Test.YtajdeapdgbnahaaGreatDoorCyGlobSpec
import Derived.Test.YtajdeapdgbnahaaGreatDoorCyGr9
namespace Go.Proofs.YtajdeapdgbnahaaGreatDoor
set_option linter.unusedVariables false
set_option maxRecDepth 100000
set_option maxHeartbeats 4000000
open List Nat
section
open Go.RowKit
theorem Dz:(Tryz.prog.info? 3).map (λi=>(i.zero,i.size,i.bytes))=some (some (.int .i64 0),1,8):=by kernel_rfl
def jc(a:Int):Nat:=if a<128 then 1 else if a<2048 then 2 else if a<65536 then 3 else 4
def fI(n:Nat):Nat:=if 194<=n/\n<=223 then 2 else if 224<=n/\n<=239 then 3 else if 240<=n/\n<=244 then 4 else 0
def kI(n:Nat):Int:=if 194<=n/\n<=223 then(n:Int)-192 else if 224<=n/\n<=239 then(n:Int)-224 else if 240<=n/\n<=244 then(n:Int)-240 else 0
def fe(l:List UInt8)(a:Int):Nat->Option Int
 |0=>some a
 |k+1=>match fe l a k with
  |none=>none
  |some u=>if(l.getD (k+1) 0).toNat<128\/191<(l.getD (k+1) 0).toNat then none else some (64*u+((l.getD (k+1) 0).toNat:Int)-128)
def jB(size:Nat)(a:Int):Int:=if jc a≠size\/(55296<=a/\a<=57343)\/1114111<a then -1 else a
def dL(l:List UInt8):Int:=
 if(l.getD 0 0).toNat<128 then((l.getD 0 0).toNat:Int)
 else if fI (l.getD 0 0).toNat=0\/l.length<fI (l.getD 0 0).toNat then -1
 else match fe l (kI (l.getD 0 0).toNat) (fI (l.getD 0 0).toNat-1)with
  |none=> -1
  |some a=>jB (fI (l.getD 0 0).toNat) a
theorem jd(l:List UInt8)(a:Int)(n:Nat)(h:fe l a n=none):∀m,n<=m->fe l a m=none:=by
 intro m b;induction m with
 |zero=>obtain rfl:n=0:=by omega
        exact h
 |succ m ih=>
  by_cases e:n=m+1
  ·subst e;exact h
  ·rw[fe,ih (by omega)]
theorem oQ(l:List UInt8)(a:Int)(b:0<=a):∀(k:Nat) (u:Int),fe l a k=some u->0<=u/\u<(a+1)*64^k
 |0,u,h=>by cases h;simp;omega
 |k+1,u,h=>by
  rw[fe]at h
  cases hv:fe l a k with
  |none=>rw[hv]at h;cases h
  |some v=>
   rw[hv]at h
   simp only[]at h
   have:=oQ l a b k v hv
   split at h
   ·cases h
   ·cases h;rw[Int.pow_succ,<-Int.mul_assoc];omega
theorem rH(w:World)(b:Int)(g:0<=b)(i:b<=100000000):Calls Tryz.prog 129 #[.int .i64 b] w λe w'=>e=.returned (.slice (some ⟨w.heap.size,0,none⟩) (jc b) (jc b))/\Below w.heap.size w w':=by
 obtain⟨k,a⟩:=I (jc b);rw[<-a];unfold jc at a;by_cases c:b<128
 ·rw[if_pos c]at a;subst a;go_enter Tryz.func129,Tryz.ntmps129;go_wp2_with fail;go_ret;exact⟨rfl,(Below.refl _ _).alloc (aa _) _⟩
 rw[if_neg c]at a;by_cases d:b<2048
 ·rw[if_pos d]at a;subst a;go_enter Tryz.func129,Tryz.ntmps129;go_wp2_with fail;go_ret;exact⟨rfl,(Below.refl _ _).alloc (aa _) _⟩
 rw[if_neg d]at a;by_cases f:b<65536
 ·rw[if_pos f]at a;subst a;go_enter Tryz.func129,Tryz.ntmps129;go_wp2_with fail;go_ret;exact⟨rfl,(Below.refl _ _).alloc (aa _) _⟩
 ·rw[if_neg f]at a;subst a;go_enter Tryz.func129,Tryz.ntmps129;go_wp2_with fail;go_ret;exact⟨rfl,(Below.refl _ _).alloc (aa _) _⟩
def rI(w:World)(a:Int)(e:Ending)(w':World):Prop:=e=.returned (.int .i64 a)/\Below w.heap.size w w'
theorem sm(p:Addr)(j:Nat)(h:j≠0):p.add j=⟨p.block,p.off+j,none⟩:=by unfold Addr.add;rw[if_neg h]
def mf:Nat->List UInt8->Option (List Int)
 |0,_=>none
 |f+1,l=>if l.isEmpty=true then some []else if dL l<0 then none else(mf f (l.drop (jc (dL l)))).map (dL l::·)
def jt(a:List Int)(l:List UInt8):Option (List Int):=(mf (l.length+1) l).map (a++·)
theorem wm(a:Int):1<=jc a/\jc a<=4:=by
 unfold jc
 repeat' split
 all_goals omega
theorem DA(l:List UInt8)(h:l≠[])(b:0<=dL l):jc (dL l)<=l.length/\dL l<=1114111:=by
 have e:1<=l.length:=by cases l with
  |nil=>exact absurd rfl h
  |cons a t=>simp
 unfold dL at b⊢;by_cases c:(l.getD 0 0).toNat<128
 ·rw[if_pos c]at b⊢;refine⟨?_,by omega⟩;unfold jc;rw[if_pos (by omega)];exact e
 ·rw[if_neg c]at b⊢;by_cases d:fI (l.getD 0 0).toNat=0\/l.length<fI (l.getD 0 0).toNat
  ·rw[if_pos d]at b;omega
  ·rw[if_neg d]at b⊢;cases hc:fe l (kI (l.getD 0 0).toNat) (fI (l.getD 0 0).toNat-1)with
   |none=>rw[hc]at b;simp at b
   |some u=>
    rw[hc]at b
    simp only[]at b⊢
    unfold jB at b⊢
    split at b
    ·omega
    ·rename_i f;rw[if_neg f];omega
theorem sr:∀(f g:Nat) (l:List UInt8),l.length<f->l.length<g->mf f l=mf g l
 |0,_,_,h,_=>absurd h (by omega)
 |_+1,0,_,_,h=>absurd h (by omega)
 |f+1,g+1,l,d,e=>by
  rw[mf,mf]
  split
  ·rfl
  ·rename_i c;split
   ·rfl
   ·rename_i i;have b:l≠[]:=by simpa using c
    have:=wm (dL l);have j:1<=l.length:=by cases l with
     |nil=>exact absurd rfl b
     |cons a t=>simp
    rw[sr f g _ (by rw[aQ];omega) (by rw[aQ];omega)]
theorem DB(a:List Int):jt a []=some a:=by simp[jt,mf]
theorem DC(a:List Int){l:List UInt8}(b:l≠[])(h:dL l<0):jt a l=none:=by rw[jt,mf,if_neg (by simpa using b),if_pos h];rfl
theorem Aw(b:List Int){l:List UInt8}(c:l≠[])(h:¬dL l<0):jt b l=jt (b++[dL l]) (l.drop (jc (dL l))):=by
 have d:=wm (dL l);have e:1<=l.length:=by cases l with
  |nil=>exact absurd rfl c
  |cons a t=>simp
 rw[jt,mf,if_neg (by simpa using c),if_neg h,jt,sr l.length ((l.drop (jc (dL l))).length+1) _ (by rw[aQ];omega) (by omega),Option.map_map];congr 1;funext x;simp
def OI(w:World)(base:Nat)(v:Value)(n:Nat)(l:List Int):Prop:=w.ownsRow base 3 1 v n (iv l)
theorem lq{w w':World}{b n:Nat}{v:Value}{l:List Int}(h:OI w b v n l)(j:∀k,b<=k->k<w.heap.size->w'.heap[k]?=w.heap[k]?):OI w' b v n l:=by
 obtain⟨m,c⟩:=h;refine⟨m,?_⟩;rcases c with c|⟨g,cap,e,o,f,d,p⟩
 ·exact Or.inl c
 ·have a:g<w.heap.size:=by
   rcases aA g w.heap.size with a|i
   ·exact a
   ·rw[Array.getElem?_eq_none i]at d;cases d
  exact Or.inr ⟨g,cap,e,o,f,by rw[j g f a];exact d,p⟩
theorem DD{w:World}{b b' n:Nat}{v:Value}{l:List Int}(h:OI w b v n l)(j:b'<=b):OI w b' v n l:=by
 obtain⟨d,a⟩:=h;refine⟨d,?_⟩;rcases a with a|⟨g,cap,c,e,k,f,i⟩
 ·exact Or.inl a
 ·exact Or.inr ⟨g,cap,c,e,by omega,f,i⟩
def Ji(w:World)(l:List UInt8)(e:Ending)(w':World):Prop:=Below w.heap.size w w'/\
 ((∃a v,jt [] l=some a/\e=.returned (.agg #[v,.bool true])/\OI w' w.heap.size v a.length a)\/(jt [] l=none/\e=.returned (.agg #[.slice none 0 0,.bool false])))
def Kl(w:World)(l:List UInt8)(p:Nat)(wr:World):Prop:=∃(a:List Int) (v:Value),a.length<=p/\ah wr w.heap.size 163 #[.slice none 0 0,.bool false]/\ah wr (w.heap.size+1) 163 #[v,.bool true]/\OI wr (w.heap.size+2) v a.length a/\Below w.heap.size w wr/\jt [] l=jt a (l.drop p)
end
def gT(b:Nat):Bool:=decide (b<128)||decide (191<b)
def Cx(n a b c d:Nat):Int:=
 if a<128 then(a:Int)
 else if a<194 then -1
 else if a<=223 then(if n<2\/gT b=true then -1 else jB 2 (64*((a:Int)-192)+(b:Int)-128))
 else if a<=239 then(if n<3\/gT b=true\/gT c=true then -1 else jB 3 (64*(64*((a:Int)-224)+(b:Int)-128)+(c:Int)-128))
 else if a<=244 then(if n<4\/gT b=true\/gT c=true\/gT d=true then -1 else jB 4 (64*(64*(64*((a:Int)-240)+(b:Int)-128)+(c:Int)-128)+(d:Int)-128))
 else -1
theorem oU(b:Nat):gT b=true↔(b<128\/191<b):=by simp[gT]
theorem Jj(l:List UInt8):dL l=Cx l.length (l.getD 0 0).toNat (l.getD 1 0).toNat (l.getD 2 0).toNat (l.getD 3 0).toNat:=by
 have s:(l.getD 0 0).toNat<256:=(l.getD 0 0).toNat_lt;have n:∀g,fe l g 1=if gT (l.getD 1 0).toNat=true then none else some (64*g+((l.getD 1 0).toNat:Int)-128):=by intro g;simp only[fe,oU]
 have o:∀g,fe l g 2=if gT (l.getD 1 0).toNat=true\/gT (l.getD 2 0).toNat=true then none else some (64*(64*g+((l.getD 1 0).toNat:Int)-128)+((l.getD 2 0).toNat:Int)-128):=by
  intro g;rw[fe,n];by_cases h:gT (l.getD 1 0).toNat=true
  ·rw[if_pos h,if_pos (.inl h)]
  ·rw[if_neg h];simp only[<-oU];by_cases d:gT (l.getD 2 0).toNat=true
   ·rw[if_pos d,if_pos (.inr d)]
   ·rw[if_neg d,if_neg (by rintro(e|e);exact h e;exact d e)]
 have r:∀g,fe l g 3=if gT (l.getD 1 0).toNat=true\/gT (l.getD 2 0).toNat=true\/gT (l.getD 3 0).toNat=true then none else some (64*(64*(64*g+((l.getD 1 0).toNat:Int)-128)+((l.getD 2 0).toNat:Int)-128)+((l.getD 3 0).toNat:Int)-128):=by
  intro g;rw[fe,o];by_cases h:gT (l.getD 1 0).toNat=true\/gT (l.getD 2 0).toNat=true
  ·rw[if_pos h,if_pos (by rcases h with h|h;exact .inl h;exact .inr (.inl h))]
  ·rw[if_neg h];simp only[<-oU];by_cases d:gT (l.getD 3 0).toNat=true
   ·rw[if_pos d,if_pos (.inr (.inr d))]
   ·rw[if_neg d,if_neg (by rintro(e|e|e);exact h (.inl e);exact h (.inr e);exact d e)]
 unfold dL Cx;generalize (l.getD 0 0).toNat=a at *;generalize (l.getD 1 0).toNat=b1 at *;generalize (l.getD 2 0).toNat=b2 at *;generalize (l.getD 3 0).toNat=b3 at *;by_cases j:a<128
 ·rw[if_pos j,if_pos j]
 rw[if_neg j,if_neg j];by_cases p:a<194
 ·rw[if_pos p];have f:fI a=0:=by unfold fI;rw[if_neg (by omega),if_neg (by omega),if_neg (by omega)]
  rw[f,if_pos (.inl rfl)]
 rw[if_neg p];by_cases q:a<=223
 ·rw[if_pos q];have f:fI a=2:=by unfold fI;rw[if_pos (by omega)]
  have i:kI a=(a:Int)-192:=by unfold kI;rw[if_pos (by omega)]
  rw[f,i];by_cases c:l.length<2
  ·rw[if_pos (.inr c),if_pos (.inl c)]
  ·rw[if_neg (by omega),n];by_cases b:gT b1=true
   ·rw[if_pos b,if_pos (.inr b)]
   ·rw[if_neg b,if_neg (by rintro(h|h);exact c h;exact b h)]
 rw[if_neg q];by_cases k:a<=239
 ·rw[if_pos k];have f:fI a=3:=by unfold fI;rw[if_neg (by omega),if_pos (by omega)]
  have i:kI a=(a:Int)-224:=by unfold kI;rw[if_neg (by omega),if_pos (by omega)]
  rw[f,i];by_cases c:l.length<3
  ·rw[if_pos (.inr c),if_pos (.inl c)]
  ·rw[if_neg (by omega),o];by_cases b:gT b1=true\/gT b2=true
   ·rw[if_pos b,if_pos (.inr b)]
   ·rw[if_neg b,if_neg (by rintro(h|h);exact c h;exact b h)]
 rw[if_neg k];by_cases m:a<=244
 ·rw[if_pos m];have f:fI a=4:=by unfold fI;rw[if_neg (by omega),if_neg (by omega),if_pos (by omega)]
  have i:kI a=(a:Int)-240:=by unfold kI;rw[if_neg (by omega),if_neg (by omega),if_pos (by omega)]
  rw[f,i];by_cases c:l.length<4
  ·rw[if_pos (.inr c),if_pos (.inl c)]
  ·rw[if_neg (by omega),r];by_cases b:gT b1=true\/gT b2=true\/gT b3=true
   ·rw[if_pos b,if_pos (.inr b)]
   ·rw[if_neg b,if_neg (by rintro(h|h);exact c h;exact b h)]
 ·rw[if_neg m];have f:fI a=0:=by unfold fI;rw[if_neg (by omega),if_neg (by omega),if_neg (by omega)]
  rw[f,if_pos (.inl rfl)]
def Agree(x:Int)(d:Nat×Nat):Prop:=(d=(65533,1)/\x=-1)\/(d≠(65533,1)/\x=(d.1:Int)/\jc x=d.2)
theorem iq:Agree (-1) (65533,1):=.inl ⟨rfl,rfl⟩
theorem qi{size:Nat}{d:Int}{c:Nat}(j:2<=size)(g:d=(c:Int))(P:Prop)[Decidable P](f:P↔(jc d=size/\¬(55296<=d/\d<=57343)/\d<=1114111)):Agree (jB size d) (if P then(c,size)else(65533,1)):=by
 unfold jB;by_cases h:P
 ·rw[if_pos h];obtain⟨i,k,l⟩:=f.1 h;rw[if_neg (by omega)];refine .inr ⟨λe=>?_,g,i⟩;have:=congrArg Prod.snd e;simp at this;omega
 ·rw[if_neg h,if_pos (by
   rcases Decidable.em (jc d=size)with a|a
   ·rcases Decidable.em (55296<=d/\d<=57343)with b|b
    ·exact .inr (.inl b)
    ·exact .inr (.inr (by have:¬d<=1114111:=λe=>h (f.2 ⟨a,b,e⟩);omega))
   ·exact .inl a)]
  exact iq
theorem K2(a:Int):jc a=2↔(128<=a/\a<2048):=by
 unfold jc
 repeat' split
 all_goals(constructor<;>intro h<;>omega)
theorem K4(a:Int):jc a=3↔(2048<=a/\a<65536):=by
 unfold jc
 repeat' split
 all_goals(constructor<;>intro h<;>omega)
theorem K5(a:Int):jc a=4↔65536<=a:=by
 unfold jc
 repeat' split
 all_goals(constructor<;>intro h<;>omega)
theorem fJ(b:Nat)(h:b<256):gT b=true↔¬b/64=2:=by rw[oU];omega
theorem DE(n d b c f:Nat)(q:1<=n)(r:d<256)(g:b<256)(i:c<256)(m:f<256):Agree (Cx n d b c f) (Lib.decodeN n d b c f):=by
 unfold Cx Lib.decodeN;by_cases j:d<128
 ·rw[if_pos j,if_pos j];refine .inr ⟨λe=>?_,rfl,?_⟩
  ·have:=congrArg Prod.fst e;simp at this;omega
  ·unfold jc;rw[if_pos (by omega)]
 rw[if_neg j,if_neg j];by_cases o:d<194
 ·rw[if_pos o];split
  ·rw[if_neg (by omega)];exact iq
  ·rw[if_neg (by omega),if_neg (by omega)];exact iq
 rw[if_neg o];by_cases p:d<=223
 ·rw[if_pos p];by_cases a:n<2\/gT b=true
  ·rw[if_pos a,if_neg (by rw[fJ b g]at a;omega),if_neg (by omega),if_neg (by omega)];exact iq
  ·rw[if_neg a];rw[fJ b g]at a;rw[if_pos (by omega)];refine qi (by omega) (by omega) _ ?_;rw[K2];constructor<;>intro h<;>omega
 rw[if_neg p];by_cases k:d<=239
 ·rw[if_pos k];by_cases a:n<3\/gT b=true\/gT c=true
  ·rw[if_pos a];rw[fJ b g,fJ c i]at a;rw[if_neg (by omega),if_neg (by omega),if_neg (by omega)];exact iq
  ·rw[if_neg a];rw[fJ b g,fJ c i]at a;rw[if_neg (by omega),if_pos (by omega)];refine qi (by omega) (by omega) _ ?_;rw[K4];constructor<;>intro h<;>omega
 rw[if_neg k];by_cases l:d<=244
 ·rw[if_pos l];by_cases a:n<4\/gT b=true\/gT c=true\/gT f=true
  ·rw[if_pos a];rw[fJ b g,fJ c i,fJ f m]at a;rw[if_neg (by omega),if_neg (by omega),if_neg (by omega)];exact iq
  ·rw[if_neg a];rw[fJ b g,fJ c i,fJ f m]at a;rw[if_neg (by omega),if_neg (by omega),if_pos (by omega)];refine qi (by omega) (by omega) _ ?_;rw[K5];constructor<;>intro h<;>omega
 ·rw[if_neg l,if_neg (by omega),if_neg (by omega)];split
  ·rw[if_neg (by omega)];exact iq
  ·exact iq
theorem FK(l:List UInt8)(b:l≠[]):Agree (dL l) (Lib.decodeL l):=by
 rw[Jj,Lib.decodeL_N];refine DE _ _ _ _ _ ?_ (UInt8.toNat_lt _) (UInt8.toNat_lt _) (UInt8.toNat_lt _) (UInt8.toNat_lt _);cases l with
 |nil=>exact absurd rfl b
 |cons a t=>simp
def jX:Nat->List UInt8->List Int
 |0,_=>[]
 |f+1,l=>if l=[]then[]else((Lib.decodeL l).1:Int)::jX f (l.drop (Lib.decodeL l).2)
theorem qL(s:ByteArray):∀(f i:Nat) (a:List Int),Conv.runesFrom s f i (a.map (Value.int .i32)).toArray=((a++jX f (s.data.toList.drop i)).map (Value.int .i32)).toArray
 |0,i,a=>by simp[Conv.runesFrom,jX]
 |f+1,i,a=>by
  rw[Conv.runesFrom,jX]
  by_cases h:i<s.size
  ·have b:s.data.toList.drop i≠[]:=by intro e;have:=congrArg List.length e;simp at this;have:=iM s;omega
   rw[if_pos h,if_neg b,Lib.decodeL_drop];have e:(a.map (Value.int .i32)).toArray.push (.int .i32 (Int.ofNat (Utf8.decode s i).1))=((a++[((Utf8.decode s i).1:Int)]).map (Value.int .i32)).toArray:=by simp
   simp only[e];rw[qL s f,drop_drop];simp
  ·have c:s.data.toList.drop i=[]:=drop_eq_nil_of_le (by rw[iM];omega);rw[if_neg h,if_pos c];simp
theorem yf(s:ByteArray):Ap s=jX s.size s.data.toList:=by have h:=qL s s.size 0 [];have e:(([]:List Int).map (Value.int .i32)).toArray=#[]:=rfl;rw[e,nil_append,drop_zero]at h;unfold Ap;rw[h];simp only[map_map];exact(map_congr_left (λx _=>rfl)).trans (map_id _)
theorem yg(l:List UInt8):1<=(Lib.decodeL l).2:=Lib.decodeL_width l
theorem uw:∀(f g h:Nat) (l:List UInt8),l.length<f->l.length<=g->l.length<=h->mf f l=if Lib.validGoD g l=true then some (jX h l)else none
 |0,_,_,_,h,_,_=>absurd h (by omega)
 |f+1,g,h,l,n,o,p=>by
  by_cases b:l=[]
  ·subst b;have e:Lib.validGoD g []=true:=by cases g<;>simp[Lib.validGoD]
   have d:jX h []=[]:=by cases h<;>simp[jX]
   rw[mf,if_pos (by rfl),e,d,if_pos rfl]
  ·have q:1<=l.length:=by cases l with
    |nil=>exact absurd rfl b
    |cons a t=>simp
   obtain⟨g,rfl⟩:∃j,g=j+1:=⟨g-1,by omega⟩;obtain⟨h,rfl⟩:∃k,h=k+1:=⟨h-1,by omega⟩;rw[mf,if_neg (by simpa using b),Lib.validGoD,if_neg b,jX,if_neg b];have r:=yg l;rcases FK l b with⟨e,d⟩|⟨e,d,m⟩
   ·have ev:(if(Lib.decodeL l).1=65533/\(Lib.decodeL l).2=1 then false else Lib.validGoD g (l.drop (Lib.decodeL l).2))=false:=if_pos (by rw[e];exact⟨rfl,rfl⟩);rw[if_pos (by rw[d];omega),ev,if_neg Bool.false_ne_true]
   ·have i:¬dL l<0:=by rw[d];omega
    have ev:(if(Lib.decodeL l).1=65533/\(Lib.decodeL l).2=1 then false else Lib.validGoD g (l.drop (Lib.decodeL l).2))=Lib.validGoD g (l.drop (Lib.decodeL l).2):=if_neg (λc=>e (Prod.ext c.1 c.2));rw[if_neg i,ev,m,d,uw f g h _ (by rw[aQ];omega) (by rw[aQ];omega) (by rw[aQ];omega)];split<;>rfl
theorem DF(l:List UInt8):jt [] l=if Lib.validD l=true then some (Ap (str l))else none:=by rw[jt,uw (l.length+1) l.length l.length l (by omega) (by omega) (by omega),yf,fW,dV];unfold Lib.validD;split<;>simp
section
open Go.RowKit
theorem yh(w:World)(B:Nat)(A:Option Addr)(n c:Nat)(l:List UInt8)(h:RB w B A n l)(X:0<n)(a2:n<=2000000)(r:194<=(l.getD 0 0).toNat)(s:(l.getD 0 0).toNat<=223):Calls Tryz.prog 128 #[.slice A n c] w (rI w (dL l)):=by
 have d:=J h.len;obtain⟨Y,rfl,al,F⟩:=h.elem (k:=0) X (by have:=d.o;omega);have z:l[0]'(by have:=d.o;omega)=l.getD 0 0:=by rw[getD_eq_getElem?_getD,ak (by have:=d.o;omega)];rfl
 rw[z]at F;have F:w.cell? Y=some (.int .u8 ((l.getD 0 0).toNat:Int)):=by simpa[Addr.add]using F
 have H:fI (l.getD 0 0).toNat=2:=by unfold fI;rw[if_pos ⟨r,s⟩]
 have K:kI (l.getD 0 0).toNat=((l.getD 0 0).toNat:Int)-192:=by unfold kI;rw[if_pos ⟨r,s⟩]
 obtain⟨t,f⟩:=I (dL l);rw[<-f];rw[dL,if_neg (by omega),H,K]at f;clear H K;generalize (l.getD 0 0).toNat=N at *;obtain⟨b,i⟩:∃b:Int,b=(N:Int)-192:=⟨_,rfl⟩;have am:IntKind.i64.wrap ((N:Int)-192)=b:=by rw[i];exact IntWalk.i64_in _ (by omega)
 rw[<-i]at f;have q:0<=b/\b<=31:=by omega
 obtain⟨q,Z⟩:=q;have m1:(194:Int)<=(N:Int):=by omega
 have a3:(N:Int)<=223:=by omega
 replace i:=J i;by_cases L:n<2
 ·have a:Hid (-1=t):=by rw[Hid,f,if_pos (.inr (by have:=d.o;omega))]
  have G:(n:Int)<2:=by omega
  clear f r s L;go_enter Tryz.func128,Tryz.ntmps128;go_wp2_with fail;go_ret;exact⟨bV a.o,Below.refl _ _⟩
 ·have G:¬(n:Int)<2:=by omega
  rw[if_neg (by have:=d.o;omega)]at f;replace f:=J f;replace h:=J h;clear r s z;go_enter Tryz.func128,Tryz.ntmps128;go_wp2_with fail
  go_loop [5,6] (λv5 v6=>∃(j:Nat) (u:Int),j+1<=2/\v6=.int .i64 ((j:Int)+1)/\v5=.int .i64 u/\fe l b j=some u) (λ_ v6=>2-(intOf v6).toNat)
  case atStart=>exact⟨0,b,by omega,by simp,by first|rfl|(rw[i.o]),rfl⟩
  case round=>
   obtain⟨j,u,a4,rfl,rfl,y⟩:=hrel;have M:=oQ l b q j u y;have O:0<=u/\u<=100000000:=by
    have P:(64:Nat)^j<=64^3:=Nat.pow_le_pow_right (by omega) (by omega);have an:(64:Int)^j<=64^3:=by exact_mod_cast P
    have ao:(64:Int)^3=262144:=by decide
    have ap:(b+1)*64^j<=32*262144:=by have:=Int.mul_le_mul (show b+1<=32 by omega) (show(64:Int)^j<=262144 by omega) (by exact_mod_cast zero_le _) (by omega);exact this
    omega
   obtain⟨Q,S⟩:=O;clear M;by_cases a5:j+1<2
   ·have T:j+1<n:=by omega
    have D:j+1<l.length:=by have:=d.o;omega
    obtain⟨a0,e,-,U⟩:=h.o.elem (k:=j+1) T D;obtain rfl:=Option.some.inj e;have E:l[j+1]=l.getD (j+1) 0:=by rw[getD_eq_getElem?_getD,ak D];rfl
    rw[E]at U;rw[sm _ _ (by omega)]at U;have v:Hid (fe l b (j+1)=if(l.getD (j+1) 0).toNat<128\/191<(l.getD (j+1) 0).toNat then none else some (64*u+((l.getD (j+1) 0).toNat:Int)-128)):=by rw[Hid,fe,y]
    have a1:((l.getD (j+1) 0).toNat:Int)<256:=by have:=(l.getD (j+1) 0).toNat_lt;omega
    generalize (l.getD (j+1) 0).toNat=C at *;have V:(j:Int)+1<2:=by omega
    have ab:(j:Int)+1<(n:Int):=by omega
    clear E y;by_cases a6:(C:Int)<128
    ·have a:Hid (-1=t):=by rw[Hid,f.o,jd l b (j+1) (by rw[v.o,if_pos (.inl (by omega))]) (2-1) (by omega)]
     go_wp2_with fail;go_ret;exact⟨bV a.o,Below.refl _ _⟩
    ·by_cases a7:191<(C:Int)
     ·have a:Hid (-1=t):=by rw[Hid,f.o,jd l b (j+1) (by rw[v.o,if_pos (.inr (by omega))]) (2-1) (by omega)]
      go_wp2_with fail;go_ret;exact⟨bV a.o,Below.refl _ _⟩
     ·have g:Hid (fe l b (j+1)=some (64*u+(C:Int)-128)):=by rw[Hid,v.o,if_neg (by omega)]
      clear v;go_wp2_with fail;go_round
      case rel=>exact⟨j+1,_,by omega,by go_num,rfl,g.o⟩
      case measure=>simp[intOf];omega
   ·obtain rfl:j=2-1:=by omega
    have m:Hid (t=jB 2 u):=by rw[Hid,f.o,y]
    have V:¬(((2-1:Nat):Int)+1<2):=by omega
    have ac:=rH w u Q S;clear y;go_wp2_with fail;refine ac.mono ?_;rintro e a8 ⟨rfl,p⟩;generalize g:jc u=un at *;by_cases x:un=2
    ·have ad:((un:Int)!=2)=false:=by simp[x]
     by_cases ae:55296<=u
     ·by_cases af:u<=57343
      ·have a:Hid (-1=t):=by rw[Hid,m.o,jB,if_pos (.inr (.inl ⟨ae,af⟩))]
       clear x g;go_wp2_with fail;go_ret;exact⟨bV a.o,p⟩
      ·by_cases W:1114111<u
       ·have a:Hid (-1=t):=by rw[Hid,m.o,jB,if_pos (.inr (.inr W))]
        clear x g;go_wp2_with fail;go_ret;exact⟨bV a.o,p⟩
       ·have a:Hid (u=t):=by rw[Hid,m.o,jB,if_neg (by omega)]
        clear x g;go_wp2_with fail;go_ret;exact⟨bV a.o,p⟩
     ·have W:¬1114111<u:=by omega
      have a:Hid (u=t):=by rw[Hid,m.o,jB,if_neg (by omega)]
      clear x g;go_wp2_with fail;go_ret;exact⟨bV a.o,p⟩
    ·have ad:((un:Int)!=2)=true:=by simp;omega
     have a:Hid (-1=t):=by rw[Hid,m.o,jB,if_pos (.inl (by omega))]
     clear x g;go_wp2_with fail;go_ret;exact⟨bV a.o,p⟩
theorem yj(w:World)(B:Nat)(A:Option Addr)(n c:Nat)(l:List UInt8)(h:RB w B A n l)(X:0<n)(a2:n<=2000000)(r:224<=(l.getD 0 0).toNat)(s:(l.getD 0 0).toNat<=239):Calls Tryz.prog 128 #[.slice A n c] w (rI w (dL l)):=by
 have d:=J h.len;obtain⟨Y,rfl,al,F⟩:=h.elem (k:=0) X (by have:=d.o;omega);have z:l[0]'(by have:=d.o;omega)=l.getD 0 0:=by rw[getD_eq_getElem?_getD,ak (by have:=d.o;omega)];rfl
 rw[z]at F;have F:w.cell? Y=some (.int .u8 ((l.getD 0 0).toNat:Int)):=by simpa[Addr.add]using F
 have H:fI (l.getD 0 0).toNat=3:=by unfold fI;rw[if_neg (by omega),if_pos ⟨r,s⟩]
 have K:kI (l.getD 0 0).toNat=((l.getD 0 0).toNat:Int)-224:=by unfold kI;rw[if_neg (by omega),if_pos ⟨r,s⟩]
 obtain⟨t,f⟩:=I (dL l);rw[<-f];rw[dL,if_neg (by omega),H,K]at f;clear H K;generalize (l.getD 0 0).toNat=N at *;obtain⟨b,i⟩:∃b:Int,b=(N:Int)-224:=⟨_,rfl⟩;have am:IntKind.i64.wrap ((N:Int)-224)=b:=by rw[i];exact IntWalk.i64_in _ (by omega)
 rw[<-i]at f;have q:0<=b/\b<=31:=by omega
 obtain⟨q,Z⟩:=q;have m1:(224:Int)<=(N:Int):=by omega
 have a3:(N:Int)<=239:=by omega
 have m3:¬(N:Int)<=223:=by omega
 replace i:=J i;by_cases L:n<3
 ·have a:Hid (-1=t):=by rw[Hid,f,if_pos (.inr (by have:=d.o;omega))]
  have G:(n:Int)<3:=by omega
  clear f r s L;go_enter Tryz.func128,Tryz.ntmps128;go_wp2_with fail;go_ret;exact⟨bV a.o,Below.refl _ _⟩
 ·have G:¬(n:Int)<3:=by omega
  rw[if_neg (by have:=d.o;omega)]at f;replace f:=J f;replace h:=J h;clear r s z;go_enter Tryz.func128,Tryz.ntmps128;go_wp2_with fail
  go_loop [5,6] (λv5 v6=>∃(j:Nat) (u:Int),j+1<=3/\v6=.int .i64 ((j:Int)+1)/\v5=.int .i64 u/\fe l b j=some u) (λ_ v6=>3-(intOf v6).toNat)
  case atStart=>exact⟨0,b,by omega,by simp,by first|rfl|(rw[i.o]),rfl⟩
  case round=>
   obtain⟨j,u,a4,rfl,rfl,y⟩:=hrel;have M:=oQ l b q j u y;have O:0<=u/\u<=100000000:=by
    have P:(64:Nat)^j<=64^3:=Nat.pow_le_pow_right (by omega) (by omega);have an:(64:Int)^j<=64^3:=by exact_mod_cast P
    have ao:(64:Int)^3=262144:=by decide
    have ap:(b+1)*64^j<=32*262144:=by have:=Int.mul_le_mul (show b+1<=32 by omega) (show(64:Int)^j<=262144 by omega) (by exact_mod_cast zero_le _) (by omega);exact this
    omega
   obtain⟨Q,S⟩:=O;clear M;by_cases a5:j+1<3
   ·have T:j+1<n:=by omega
    have D:j+1<l.length:=by have:=d.o;omega
    obtain⟨a0,e,-,U⟩:=h.o.elem (k:=j+1) T D;obtain rfl:=Option.some.inj e;have E:l[j+1]=l.getD (j+1) 0:=by rw[getD_eq_getElem?_getD,ak D];rfl
    rw[E]at U;rw[sm _ _ (by omega)]at U;have v:Hid (fe l b (j+1)=if(l.getD (j+1) 0).toNat<128\/191<(l.getD (j+1) 0).toNat then none else some (64*u+((l.getD (j+1) 0).toNat:Int)-128)):=by rw[Hid,fe,y]
    have a1:((l.getD (j+1) 0).toNat:Int)<256:=by have:=(l.getD (j+1) 0).toNat_lt;omega
    generalize (l.getD (j+1) 0).toNat=C at *;have V:(j:Int)+1<3:=by omega
    have ab:(j:Int)+1<(n:Int):=by omega
    clear E y;by_cases a6:(C:Int)<128
    ·have a:Hid (-1=t):=by rw[Hid,f.o,jd l b (j+1) (by rw[v.o,if_pos (.inl (by omega))]) (3-1) (by omega)]
     go_wp2_with fail;go_ret;exact⟨bV a.o,Below.refl _ _⟩
    ·by_cases a7:191<(C:Int)
     ·have a:Hid (-1=t):=by rw[Hid,f.o,jd l b (j+1) (by rw[v.o,if_pos (.inr (by omega))]) (3-1) (by omega)]
      go_wp2_with fail;go_ret;exact⟨bV a.o,Below.refl _ _⟩
     ·have g:Hid (fe l b (j+1)=some (64*u+(C:Int)-128)):=by rw[Hid,v.o,if_neg (by omega)]
      clear v;go_wp2_with fail;go_round
      case rel=>exact⟨j+1,_,by omega,by go_num,rfl,g.o⟩
      case measure=>simp[intOf];omega
   ·obtain rfl:j=3-1:=by omega
    have m:Hid (t=jB 3 u):=by rw[Hid,f.o,y]
    have V:¬(((3-1:Nat):Int)+1<3):=by omega
    have ac:=rH w u Q S;clear y;go_wp2_with fail;refine ac.mono ?_;rintro e a8 ⟨rfl,p⟩;generalize g:jc u=un at *;by_cases x:un=3
    ·have ad:((un:Int)!=3)=false:=by simp[x]
     by_cases ae:55296<=u
     ·by_cases af:u<=57343
      ·have a:Hid (-1=t):=by rw[Hid,m.o,jB,if_pos (.inr (.inl ⟨ae,af⟩))]
       clear x g;go_wp2_with fail;go_ret;exact⟨bV a.o,p⟩
      ·by_cases W:1114111<u
       ·have a:Hid (-1=t):=by rw[Hid,m.o,jB,if_pos (.inr (.inr W))]
        clear x g;go_wp2_with fail;go_ret;exact⟨bV a.o,p⟩
       ·have a:Hid (u=t):=by rw[Hid,m.o,jB,if_neg (by omega)]
        clear x g;go_wp2_with fail;go_ret;exact⟨bV a.o,p⟩
     ·have W:¬1114111<u:=by omega
      have a:Hid (u=t):=by rw[Hid,m.o,jB,if_neg (by omega)]
      clear x g;go_wp2_with fail;go_ret;exact⟨bV a.o,p⟩
    ·have ad:((un:Int)!=3)=true:=by simp;omega
     have a:Hid (-1=t):=by rw[Hid,m.o,jB,if_pos (.inl (by omega))]
     clear x g;go_wp2_with fail;go_ret;exact⟨bV a.o,p⟩
theorem yl(w:World)(B:Nat)(A:Option Addr)(n c:Nat)(l:List UInt8)(h:RB w B A n l)(X:0<n)(a2:n<=2000000)(r:240<=(l.getD 0 0).toNat)(s:(l.getD 0 0).toNat<=244):Calls Tryz.prog 128 #[.slice A n c] w (rI w (dL l)):=by
 have d:=J h.len;obtain⟨Y,rfl,al,F⟩:=h.elem (k:=0) X (by have:=d.o;omega);have z:l[0]'(by have:=d.o;omega)=l.getD 0 0:=by rw[getD_eq_getElem?_getD,ak (by have:=d.o;omega)];rfl
 rw[z]at F;have F:w.cell? Y=some (.int .u8 ((l.getD 0 0).toNat:Int)):=by simpa[Addr.add]using F
 have H:fI (l.getD 0 0).toNat=4:=by unfold fI;rw[if_neg (by omega),if_neg (by omega),if_pos ⟨r,s⟩]
 have K:kI (l.getD 0 0).toNat=((l.getD 0 0).toNat:Int)-240:=by unfold kI;rw[if_neg (by omega),if_neg (by omega),if_pos ⟨r,s⟩]
 obtain⟨t,f⟩:=I (dL l);rw[<-f];rw[dL,if_neg (by omega),H,K]at f;clear H K;generalize (l.getD 0 0).toNat=N at *;obtain⟨b,i⟩:∃b:Int,b=(N:Int)-240:=⟨_,rfl⟩;have am:IntKind.i64.wrap ((N:Int)-240)=b:=by rw[i];exact IntWalk.i64_in _ (by omega)
 rw[<-i]at f;have q:0<=b/\b<=31:=by omega
 obtain⟨q,Z⟩:=q;have m1:(240:Int)<=(N:Int):=by omega
 have a3:(N:Int)<=244:=by omega
 have m3:¬(N:Int)<=223:=by omega
 have m4:¬(N:Int)<=239:=by omega
 replace i:=J i;by_cases L:n<4
 ·have a:Hid (-1=t):=by rw[Hid,f,if_pos (.inr (by have:=d.o;omega))]
  have G:(n:Int)<4:=by omega
  clear f r s L;go_enter Tryz.func128,Tryz.ntmps128;go_wp2_with fail;go_ret;exact⟨bV a.o,Below.refl _ _⟩
 ·have G:¬(n:Int)<4:=by omega
  rw[if_neg (by have:=d.o;omega)]at f;replace f:=J f;replace h:=J h;clear r s z;go_enter Tryz.func128,Tryz.ntmps128;go_wp2_with fail
  go_loop [5,6] (λv5 v6=>∃(j:Nat) (u:Int),j+1<=4/\v6=.int .i64 ((j:Int)+1)/\v5=.int .i64 u/\fe l b j=some u) (λ_ v6=>4-(intOf v6).toNat)
  case atStart=>exact⟨0,b,by omega,by simp,by first|rfl|(rw[i.o]),rfl⟩
  case round=>
   obtain⟨j,u,a4,rfl,rfl,y⟩:=hrel;have M:=oQ l b q j u y;have O:0<=u/\u<=100000000:=by
    have P:(64:Nat)^j<=64^3:=Nat.pow_le_pow_right (by omega) (by omega);have an:(64:Int)^j<=64^3:=by exact_mod_cast P
    have ao:(64:Int)^3=262144:=by decide
    have ap:(b+1)*64^j<=32*262144:=by have:=Int.mul_le_mul (show b+1<=32 by omega) (show(64:Int)^j<=262144 by omega) (by exact_mod_cast zero_le _) (by omega);exact this
    omega
   obtain⟨Q,S⟩:=O;clear M;by_cases a5:j+1<4
   ·have T:j+1<n:=by omega
    have D:j+1<l.length:=by have:=d.o;omega
    obtain⟨a0,e,-,U⟩:=h.o.elem (k:=j+1) T D;obtain rfl:=Option.some.inj e;have E:l[j+1]=l.getD (j+1) 0:=by rw[getD_eq_getElem?_getD,ak D];rfl
    rw[E]at U;rw[sm _ _ (by omega)]at U;have v:Hid (fe l b (j+1)=if(l.getD (j+1) 0).toNat<128\/191<(l.getD (j+1) 0).toNat then none else some (64*u+((l.getD (j+1) 0).toNat:Int)-128)):=by rw[Hid,fe,y]
    have a1:((l.getD (j+1) 0).toNat:Int)<256:=by have:=(l.getD (j+1) 0).toNat_lt;omega
    generalize (l.getD (j+1) 0).toNat=C at *;have V:(j:Int)+1<4:=by omega
    have ab:(j:Int)+1<(n:Int):=by omega
    clear E y;by_cases a6:(C:Int)<128
    ·have a:Hid (-1=t):=by rw[Hid,f.o,jd l b (j+1) (by rw[v.o,if_pos (.inl (by omega))]) (4-1) (by omega)]
     go_wp2_with fail;go_ret;exact⟨bV a.o,Below.refl _ _⟩
    ·by_cases a7:191<(C:Int)
     ·have a:Hid (-1=t):=by rw[Hid,f.o,jd l b (j+1) (by rw[v.o,if_pos (.inr (by omega))]) (4-1) (by omega)]
      go_wp2_with fail;go_ret;exact⟨bV a.o,Below.refl _ _⟩
     ·have g:Hid (fe l b (j+1)=some (64*u+(C:Int)-128)):=by rw[Hid,v.o,if_neg (by omega)]
      clear v;go_wp2_with fail;go_round
      case rel=>exact⟨j+1,_,by omega,by go_num,rfl,g.o⟩
      case measure=>simp[intOf];omega
   ·obtain rfl:j=4-1:=by omega
    have m:Hid (t=jB 4 u):=by rw[Hid,f.o,y]
    have V:¬(((4-1:Nat):Int)+1<4):=by omega
    have ac:=rH w u Q S;clear y;go_wp2_with fail;refine ac.mono ?_;rintro e a8 ⟨rfl,p⟩;generalize g:jc u=un at *;by_cases x:un=4
    ·have ad:((un:Int)!=4)=false:=by simp[x]
     by_cases ae:55296<=u
     ·by_cases af:u<=57343
      ·have a:Hid (-1=t):=by rw[Hid,m.o,jB,if_pos (.inr (.inl ⟨ae,af⟩))]
       clear x g;go_wp2_with fail;go_ret;exact⟨bV a.o,p⟩
      ·by_cases W:1114111<u
       ·have a:Hid (-1=t):=by rw[Hid,m.o,jB,if_pos (.inr (.inr W))]
        clear x g;go_wp2_with fail;go_ret;exact⟨bV a.o,p⟩
       ·have a:Hid (u=t):=by rw[Hid,m.o,jB,if_neg (by omega)]
        clear x g;go_wp2_with fail;go_ret;exact⟨bV a.o,p⟩
     ·have W:¬1114111<u:=by omega
      have a:Hid (u=t):=by rw[Hid,m.o,jB,if_neg (by omega)]
      clear x g;go_wp2_with fail;go_ret;exact⟨bV a.o,p⟩
    ·have ad:((un:Int)!=4)=true:=by simp;omega
     have a:Hid (-1=t):=by rw[Hid,m.o,jB,if_pos (.inl (by omega))]
     clear x g;go_wp2_with fail;go_ret;exact⟨bV a.o,p⟩
theorem DG(w:World)(B:Nat)(A:Option Addr)(n c:Nat)(l:List UInt8)(h:RB w B A n l)(m:0<n)(q:n<=2000000):Calls Tryz.prog 128 #[.slice A n c] w (rI w (dL l)):=by
 by_cases e:194<=(l.getD 0 0).toNat/\(l.getD 0 0).toNat<=223
 ·exact yh w B A n c l h m q e.1 e.2
 by_cases f:224<=(l.getD 0 0).toNat/\(l.getD 0 0).toNat<=239
 ·exact yj w B A n c l h m q f.1 f.2
 by_cases g:240<=(l.getD 0 0).toNat/\(l.getD 0 0).toNat<=244
 ·exact yl w B A n c l h m q g.1 g.2
 have b:=J h.len;obtain⟨y,rfl,z,r⟩:=h.elem (k:=0) m (by have:=b.o;omega);have d:l[0]'(by have:=b.o;omega)=l.getD 0 0:=by rw[getD_eq_getElem?_getD,ak (by have:=b.o;omega)];rfl
 rw[d]at r;have r:w.cell? y=some (.int .u8 ((l.getD 0 0).toNat:Int)):=by simpa[Addr.add]using r
 have p:fI (l.getD 0 0).toNat=0:=by unfold fI;rw[if_neg e,if_neg f,if_neg g]
 have C:(l.getD 0 0).toNat<256:=(l.getD 0 0).toNat_lt;obtain⟨x,i⟩:=I (dL l);rw[<-i];by_cases j:(l.getD 0 0).toNat<128
 ·have a:Hid ((((l.getD 0 0).toNat:Nat):Int)=x):=by rw[Hid,i,dL,if_pos j]
  have s:(((l.getD 0 0).toNat:Nat):Int)<128:=by omega
  generalize (l.getD 0 0).toNat=N at *;clear h e f g i p d j;go_enter Tryz.func128,Tryz.ntmps128;go_wp2_with fail;go_ret;exact⟨bV a.o,Below.refl _ _⟩
 ·have a:Hid (-1=x):=by rw[Hid,i,dL,if_neg j,if_pos (.inl p)]
  have s:¬(((l.getD 0 0).toNat:Nat):Int)<128:=by omega
  generalize (l.getD 0 0).toNat=N at *;by_cases G:N<194
  ·have t:¬(194:Int)<=(N:Int):=by omega
   have u:¬(224:Int)<=(N:Int):=by omega
   have v:¬(240:Int)<=(N:Int):=by omega
   clear h e f g i p d j;go_enter Tryz.func128,Tryz.ntmps128;go_wp2_with fail;go_ret;exact⟨bV a.o,Below.refl _ _⟩
  ·have t:¬(N:Int)<=223:=by omega
   have u:¬(N:Int)<=239:=by omega
   have v:¬(N:Int)<=244:=by omega
   have D:(194:Int)<=(N:Int):=by omega
   have E:(224:Int)<=(N:Int):=by omega
   have F:(240:Int)<=(N:Int):=by omega
   clear h e f g i p d j;go_enter Tryz.func128,Tryz.ntmps128;go_wp2_with fail;go_ret;exact⟨bV a.o,Below.refl _ _⟩
theorem FM(w:World)(A:Option Addr)(n c:Nat)(l:List UInt8)(h:RB w w.heap.size A n l)(cg:n<=1048576)(bm:n<=c):Calls Tryz.prog 85 #[.slice A n c] w (Ji w l):=by
 have F:=J h.len;replace h:=J h;go_enter Tryz.func85,Tryz.ntmps85;go_wp2_with fail;go_loopw [4] (λv4 wr=>∃p:Nat,p<=n/\v4=.int .i64 p/\Kl w l p wr) (λv4 _=>n-(intOf v4).toNat)
 case atStart=>refine⟨0,by omega,rfl,[],.slice none 0 0,by simp,(ah.new w 163 _).alloc _,?_,⟨by simp[iv],.inl ⟨rfl,rfl⟩⟩,((Below.refl _ _).alloc (aa _) _).alloc (by simp) _,by simp⟩;have:=ah.new (w.alloc (.cells #[.slice none 0 0,.bool false] 163)) 163 #[.slice none 0 0,.bool true];rw[show(w.alloc (.cells #[.slice none 0 0,.bool false] 163)).heap.size=w.heap.size+1 from by simp]at this;exact this
 case round=>
  obtain⟨p,bp,rfl,a,v,ca,b,f,t,L,m⟩:=hrel;by_cases br:p<n
  ·have a8:p<l.length:=by have:=F.o;omega
   have a9:=J (h.o.below L);obtain⟨ch,e,cb,-⟩:=h.o.elem (k:=p) br a8;subst e;have x:l.drop p≠[]:=by intro e;have:=congrArg List.length e;simp at this;omega
   have ba:Hid ((l.drop p).length=n-p):=by rw[Hid,aQ,F.o]
   have ad:¬c=p:=by omega
   have bs:(c==p)=false:=by simp[ad]
   have ae:=L.size;have a0:=f.lt;refine bz ?_ b f t m;clear b f t m;intro b f t m;go_wp2_with fail;refine(DG wr wr.heap.size _ (n-p) _ (l.drop p) ?rb (by omega) (by omega)).mono ?_
   case rb=>
    have a1:=(Reads.cut a9.o (k:=p) (cap:=c) bp bm).more ae;rw[if_neg ad,Nat.mul_one]at a1;have e:(bv l).drop p=bv (l.drop p):=by simp[bv]
    rw[e]at a1;exact a1
   rintro e y ⟨rfl,z⟩;have d:=b.o.below z (by omega);have g:=f.o.below z a0;have M:OI y (w.heap.size+2) v a.length a:=lq t.o (λk _ B=>z.block k B);have G:=L.trans (z.mono ae);have bx:=G.size;have bA:=g.lt;clear b f t z;by_cases a2:dL (l.drop p)<0
   ·have H:Hid (jt [] l=none):=by rw[Hid,m.o,DC a x a2]
    have a3:y.cell? ⟨w.heap.size,0,none⟩=some (.slice none 0 0):=d.cell 0;have a4:y.cell? ⟨w.heap.size,1,none⟩=some (.bool false):=d.cell 1;have a5:=d.frozen 0;have bB:=d.frozen 1;clear x d g M;go_wp2_with fail;refine bodyPost_ret (v:=.agg #[.slice none 0 0,.bool false]) (by simp[results,Tryz.results85,go_sem,a3,a4]) rfl ⟨?_,.inr ⟨H.o,rfl⟩⟩;repeat refine qj ?_ (by omega) _
    exact G
   ·have T:=J (Aw a x a2);obtain⟨af,cc⟩:=DA (l.drop p) x (by omega);have bb:=wm (dL (l.drop p));have bc:Hid (∀k,(l.drop p).drop k=l.drop (p+k)):=λk=>by rw[drop_drop]
    generalize dL (l.drop p)=C at *;have bd:0<=C:=by omega
    rw[ba.o]at af;rw[bc.o]at T;obtain⟨k,B⟩:=I (jc C);rw[<-B]at af bb T;obtain⟨i0,N,O,P,Q⟩:=info_parts Dz;refine bz ?_ N O P Q;clear N O P Q;intro N O P Q;have b0:y.cell? ⟨w.heap.size+1,0,none⟩=some v:=g.cell 0;have a5:=g.frozen 0;have U:=J d;have V:=J g;have al:=J (World.ownsRow.alloc M (.cells #[.int .i64 C] 3));have W:Hid (∀j,v.ownBlock=some j->w.heap.size+2<=j):=λj i=>by
     rcases M.2 with⟨rfl,_⟩|⟨be,cap,am,rfl,ce,_⟩
     ·simp[Value.ownBlock]at i
     ·simp[Value.ownBlock]at i;omega
    have a6:=J (ah.new y 3 #[.int .i64 C]);have cf:a.length+1<=2000000:=by omega
    replace B:=J B;clear x d g M a2;go_wp2_with(refine iI _ rfl _ _ 113 rfl (w.heap.size+2) 3 i0 _ 1 8 Tryz.underlying113 N.o O.o P.o Q.o rfl (by omega) v _ _ rfl al.o (y.heap.size+1) (some ⟨y.heap.size,0,none⟩) 1 1 (iv [C]) rfl ?r1 (KR _) ?r3 ?r4 ?r5 ?_)
    case r1=>
     refine⟨rfl,λ_=>⟨_,rfl,by simp,λj u i=>?_⟩⟩
     match j,i with
     |0,i=>simp[iv]at i;subst i;simp[Addr.add]
    case r3=>simp only[maxLen];omega
    case r4=>omega
    case r5=>simp;omega
    intro v3 D a7 g3 b1;have S:Below (w.heap.size+2) y D:=((Below.refl _ _).alloc (by omega) _).grown g3 (by simp;omega) (λk B=>W.o k B);have X:=U.o.below S (by omega);have r:=V.o.below S (by omega);have b2:D.cell? ⟨w.heap.size+1,0,none⟩=some v:=r.cell 0;have b3:=r.frozen 0;have bi:OI D (w.heap.size+2) v3 (a++[C]).length (a++[C]):=by rw[aq,length_singleton];unfold OI;rw[Di];exact a7
    obtain⟨b4,b5,bj⟩:∃A k,v3=.slice A (a.length+1) k:=by
     rcases a7.2 with⟨rfl,bl⟩|⟨be,cap,am,rfl,_⟩
     ·omega
     ·exact⟨_,_,rfl⟩
    have K:=J (X.far (p:=⟨w.heap.size+1,0,none⟩) (by simp) v3);have s:=J (r.aK 0 v3);have Y:OI (D.setCell ⟨w.heap.size+1,0,none⟩ v3) (w.heap.size+2) v3 (a++[C]).length (a++[C]):=lq bi (λj i _=>Below.heap_setCell D ⟨w.heap.size+1,0,none⟩ v3 j (by simp;omega));have q:Below w.heap.size w (D.setCell ⟨w.heap.size+1,0,none⟩ v3):=qj (G.trans (S.mono (by omega))) (by omega) _;have an:w.heap.size+1<(D.setCell ⟨w.heap.size+1,0,none⟩ v3).heap.size:=s.o.lt;replace Y:=J Y;replace q:=J q;clear U V al W a6 a7 g3 b1 S X r bi b0 a5;subst bj;go_wp2_with fail;obtain⟨b6,ao⟩:=I (D.setCell ⟨w.heap.size+1,0,none⟩ (.slice b4 (a.length+1) b5));rw[<-ao]at K s Y q an⊢;clear ao b2 b3;refine(rH b6 C bd (by omega)).mono ?_;rintro e b7 ⟨rfl,E⟩;rw[<-B.o];have b8:Hid (Kl w l (p+k) b7):=⟨a++[C],_,by simp;omega,K.o.below E (by omega),s.o.below E an,lq Y.o (λj _ i=>E.block j i),q.o.trans (E.mono (by omega)),by rw[m.o,T.o]⟩
    clear K s Y q E;go_wp2_with fail;go_roundw
    case rel=>exact⟨p+k,by omega,by go_num,b8.o⟩
    case measure=>simp[intOf];omega
  ·obtain rfl:p=n:=by omega
   have ap:l.drop p=[]:=drop_eq_nil_of_le (by have:=F.o;omega);have H:Hid (jt [] l=some a):=by rw[Hid,m,ap,DB]
   obtain⟨ab,ac,b9⟩:∃A k,v=.slice A a.length k:=by
    rcases t.2 with⟨rfl,bl⟩|⟨be,cap,am,rfl,_⟩
    ·exact⟨none,0,by rw[bl]⟩
    ·exact⟨_,_,rfl⟩
   subst b9;have a3:wr.cell? ⟨w.heap.size,0,none⟩=some (.slice none 0 0):=b.cell 0;have a4:wr.cell? ⟨w.heap.size,1,none⟩=some (.bool false):=b.cell 1;have a5:=b.frozen 0;have bB:=b.frozen 1;have ci:wr.cell? ⟨w.heap.size+1,0,none⟩=some (.slice ab a.length ac):=f.cell 0;have r1:wr.cell? ⟨w.heap.size+1,1,none⟩=some (.bool true):=f.cell 1;have Z:OI ((wr.setCell ⟨w.heap.size,0,none⟩ (.slice ab a.length ac)).setCell ⟨w.heap.size,1,none⟩ (.bool true)) w.heap.size (.slice ab a.length ac) a.length a:=DD (lq (lq t (λj i _=>Below.heap_setCell wr ⟨w.heap.size,0,none⟩ _ j (by simp;omega))) (λj i _=>Below.heap_setCell _ ⟨w.heap.size,1,none⟩ _ j (by simp;omega))) (by omega)
   replace Z:=J Z;clear b f t m ap;go_wp2_with fail;refine bodyPost_ret (v:=.agg #[.slice ab a.length ac,.bool true]) (by simp[results,Tryz.results85,go_sem,a3,a4]) rfl ⟨?_,.inl ⟨a,_,H.o,rfl,Z.o⟩⟩;repeat refine qj ?_ (by omega) _
   exact L
end
end Go.Proofs.YtajdeapdgbnahaaGreatDoor
