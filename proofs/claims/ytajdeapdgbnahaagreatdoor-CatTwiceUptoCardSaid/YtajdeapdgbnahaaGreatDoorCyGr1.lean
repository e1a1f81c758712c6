/-
  Words for memory that all proofs of this seat share: a slice that reads as a list; a block known whole; append onto a row of the call's own (after the kit's howto pages extra-words and extra-small, whose blocks are made for copying); below them words of this claim's own: lists of bytes and of ints as cells.
-/
import Derived.WalkKit
import Derived.Deep.AppendLies
import Derived.Deep.OwnRows
import Derived.BigQuiet
import Derived.Deep.DeepCutAuto
import Derived.Deep.CutBlock
import Derived.Deep.RegionHeld3
namespace Go.Proofs.YtajdeapdgbnahaaGreatDoor
set_option linter.unusedVariables false
set_option maxRecDepth 100000
open List Nat
section
open Go.RowKit
open Go.RowKit Go.WideShapes Go.ChangeShapes
theorem J{p:Prop}(h:p):Hid p:=h
theorem _root_.Go.RowKit.Hid.o{p:Prop}(h:Hid p):p:=h
theorem I{A:Sort _}(a:A):∃x,x=a:=⟨a,rfl⟩
theorem aa(n:Nat):n<=n:=Nat.le_refl n
theorem ak{A:Type _}{l:List A}{i:Nat}(h:i<l.length):l[i]?=some l[i]:=getElem?_eq_getElem h
theorem ay{A:Type _}{i:Nat}{a:A}{l:List A}:l[i]?=some a<->∃h:i<l.length,l[i]=a:=List.getElem?_eq_some_iff
theorem aq{A:Type _}{a b:List A}:(a++b).length=a.length+b.length:=length_append
theorem av{A:Type _}(a b c:List A):a++b++c=a++(b++c):=append_assoc a b c
theorem aD{p:Prop}[Decidable p](h:¬p):decide p=false:=decide_eq_false h
theorem aV{p:Prop}[Decidable p](h:p):decide p=true:=decide_eq_true h
theorem aA(n m:Nat):n<m\/n>=m:=Nat.lt_or_ge n m
theorem aN{n m k:Nat}(h:n<m)(g:m<=k):n<k:=Nat.lt_of_lt_of_le h g
theorem aO{n m k:Nat}(h:n<=m)(g:m<=k):n<=k:=Nat.le_trans h g
theorem bQ{A:Type _}{i:Nat}{l:List A}(h:l.length<=i):l.take i=l:=take_of_length_le h
theorem aH{A:Type _}{i:Nat}{l:List A}:(l.take i).length=min i l.length:=length_take
theorem aQ{A:Type _}{i:Nat}{l:List A}:(l.drop i).length=l.length-i:=length_drop
theorem bT{A:Type _}{l:List A}(h:l.length=0):l=[]:=eq_nil_of_length_eq_zero h
theorem aZ{A:Type _}[BEq A][LawfulBEq A]{a b:A}:(a==b)=false<->a≠b:=beq_eq_false_iff_ne
theorem bM{A:Type _}{a b:List A}{i:Nat}(h:i<a.length):(a++b)[i]?=a[i]?:=getElem?_append_left h
theorem bE{A:Type _}(i:Nat)(l:List A):l.take i++l.drop i=l:=take_append_drop i l
theorem bu{A:Type _}{l:List A}{i:Nat}{a:A}(h:l[i]?=some a):a∈l:=mem_of_getElem? h
theorem bw{A:Type _}{l:List A}{i j:Nat}:(l.take i)[j]?=if j<i then l[j]? else none:=getElem?_take
theorem aM{A:Type _}{B:Type _}{b:B}{f:A->B}{l:List A}:b∈l.map f<->∃a,a∈l/\f a=b:=mem_map
theorem bf{A B C Z:Prop}(z:Hid A->Hid B->Hid C->Z)(a:A)(b:B)(c:C):Z:=z a b c
theorem bz{A B C D Z:Prop}(z:Hid A->Hid B->Hid C->Hid D->Z)(a:A)(b:B)(c:C)(d:D):Z:=z a b c d
theorem bX{A B C D E Z:Prop}(z:Hid A->Hid B->Hid C->Hid D->Hid E->Z)(a:A)(b:B)(c:C)(d:D)(e:E):Z:=z a b c d e
theorem dZ{A B C D E F Z:Prop}(z:Hid A->Hid B->Hid C->Hid D->Hid E->Hid F->Z)(a:A)(b:B)(c:C)(d:D)(e:E)(f:F):Z:=z a b c d e f
theorem eD{A B C D E F G Z:Prop}(z:Hid A->Hid B->Hid C->Hid D->Hid E->Hid F->Hid G->Z)(a:A)(b:B)(c:C)(d:D)(e:E)(f:F)(g:G):Z:=z a b c d e f g
theorem dS{A B C D E F G H Z:Prop}(z:Hid A->Hid B->Hid C->Hid D->Hid E->Hid F->Hid G->Hid H->Z)(a:A)(b:B)(c:C)(d:D)(e:E)(f:F)(g:G)(h:H):Z:=z a b c d e f g h
theorem ik{A B C D E F G H j Z:Prop}(z:Hid A->Hid B->Hid C->Hid D->Hid E->Hid F->Hid G->Hid H->Hid j->Z)(a:A)(b:B)(c:C)(d:D)(e:E)(f:F)(g:G)(h:H)(i:j):Z:=z a b c d e f g h i
theorem dr{A B C D E F G H k m Z:Prop}(z:Hid A->Hid B->Hid C->Hid D->Hid E->Hid F->Hid G->Hid H->Hid k->Hid m->Z)(a:A)(b:B)(c:C)(d:D)(e:E)(f:F)(g:G)(h:H)(i:k)(j:m):Z:=z a b c d e f g h i j
theorem gI{A B C D E F G H m o K Z:Prop}(z:Hid A->Hid B->Hid C->Hid D->Hid E->Hid F->Hid G->Hid H->Hid m->Hid o->Hid K->Z)(a:A)(b:B)(c:C)(d:D)(e:E)(f:F)(g:G)(h:H)(i:m)(j:o)(k:K):Z:=z a b c d e f g h i j k
theorem kT{A B C D E F G H m o K L Z:Prop}(z:Hid A->Hid B->Hid C->Hid D->Hid E->Hid F->Hid G->Hid H->Hid m->Hid o->Hid K->Hid L->Z)(a:A)(b:B)(c:C)(d:D)(e:E)(f:F)(g:G)(h:H)(i:m)(j:o)(k:K)(l:L):Z:=z a b c d e f g h i j k l
theorem aR{A B C D E F G H o p K L M Z:Prop}(z:Hid A->Hid B->Hid C->Hid D->Hid E->Hid F->Hid G->Hid H->Hid o->Hid p->Hid K->Hid L->Hid M->Z)(a:A)(b:B)(c:C)(d:D)(e:E)(f:F)(g:G)(h:H)(i:o)(j:p)(k:K)(l:L)(m:M):Z:=z a b c d e f g h i j k l m
theorem cF(a:Addr)(n:Nat):(a.add n).block=a.block:=by unfold Addr.add;split<;>rfl
theorem jP(a:Addr)(i j:Nat):(a.add i).add j=a.add (i+j):=by unfold Addr.add;by_cases b:i=0<;>by_cases c:j=0<;>simp[b,c,Nat.add_assoc]
def Reads(w:World)(B size:Nat)(A:Option Addr)(n:Nat)(xs:List Value):Prop:=xs.length=n*size/\(0<n->∃b,A=some b/\b.block<B/\∀j u,xs[j]?=some u->w.cell? (b.add j)=some u)
section
variable {w w':World}{B B' size n:Nat}{A:Option Addr}{xs:List Value}
theorem Reads.none_:Reads w B size A 0 []:=⟨by simp,λh=>absurd h (by omega)⟩
theorem Reads.at_{k:Nat}(h:Reads w B 1 A n xs)(i:k<n):∃b u,A=some b/\b.block<B/\xs[k]?=some u/\w.cell? (b.add k)=some u:=by
 obtain⟨b,e,d,f⟩:=h.2 (by omega);have c:k<xs.length:=by have:=h.1;omega
 exact⟨b,xs[k],e,d,ak c,f k _ (ak c)⟩
theorem Reads.keep(h:Reads w B size A n xs)(c:∀p:Addr,p.block<B->w'.cell? p=w.cell? p):Reads w' B size A n xs:=⟨h.1,λd=>by obtain⟨f,e,b,i⟩:=h.2 d;exact⟨f,e,b,λj u k=>(c _ (by rw[cF];exact b)).trans (i j u k)⟩⟩
theorem Reads.more(h:Reads w B size A n xs)(f:B<=B'):Reads w B' size A n xs:=⟨h.1,λb=>by obtain⟨c,e,i,d⟩:=h.2 b;exact⟨c,e,by omega,d⟩⟩
theorem Reads.below(h:Reads w B size A n xs)(b:Below B w w'):Reads w' B size A n xs:=h.keep λ_ c=>b.cell c
theorem Reads.alloc(h:Reads w B size A n xs)(b:B<=w.heap.size)(o:Obj):Reads (w.alloc o) B size A n xs:=h.keep λp c=>World.cell?_alloc_lt w o p (by omega)
theorem Reads.setCell(h:Reads w B size A n xs){p:Addr}(b:B<=p.block)(u:Value):Reads (w.setCell p u) B size A n xs:=h.keep λq c=>World.cell?_setCell_other w p q u (λe=>by subst e;omega)
theorem Reads.cut(h:Reads w B size A n xs){k cap:Nat}(f:k<=n)(i:n<=cap):Reads w B size (if cap=k then A else A.map (·.add (k*size))) (n-k) (xs.drop (k*size)):=by refine⟨by rw[aQ,h.1,Nat.sub_mul],λm=>?_⟩;obtain⟨c,rfl,d,b⟩:=h.2 (by omega);rw[if_neg (by omega)];refine⟨c.add (k*size),rfl,by rw[cF];exact d,λj u e=>?_⟩;rw[jP];exact b _ u (by rw[<-e,getElem?_drop])
theorem Reads.fP{base:Nat}{e:TypeId}{c:Nat}(h:w.ownsRow base e size (.slice A n c) n xs):Reads w w.heap.size size A n xs:=by
 refine⟨h.1,λd=>?_⟩;obtain⟨g,cap,f,_,b⟩:=h.form d;have i:A=some ⟨g,0,none⟩:=by injection f
 subst i;exact⟨_,rfl,b,h.cells (g:=g) rfl⟩
end
def ah(w:World)(g:Nat)(t:TypeId)(cs:Array Value):Prop:=w.heap[g]?=some (.cells cs t (0,0))
section
variable {w w':World}{g:Nat}{t:TypeId}{cs:Array Value}
theorem ah.lt(h:ah w g t cs):g<w.heap.size:=by
 rcases aA g w.heap.size with b|c
 ·exact b
 ·unfold ah at h;rw[Array.getElem?_eq_none c]at h;cases h
theorem ah.cell(h:ah w g t cs)(i:Nat):w.cell? ⟨g,i,none⟩=cs[i]?:=cell_of_row w g i cs t (0,0) h
theorem ah.frozen(h:ah w g t cs)(i:Nat):w.frozen? ⟨g,i,none⟩=false:=by unfold ah at h;simp[World.frozen?,h]
theorem ah.new(w:World)(t:TypeId)(cs:Array Value):ah (w.alloc (.cells cs t)) w.heap.size t cs:=heap_alloc_new w _
theorem ah.drew(h:ah w g t cs):ah w.drew g t cs:=h
theorem ah.drewN(h:ah w g t cs)(n:Nat):ah (w.drewN n) g t cs:=h
theorem ah.alloc(h:ah w g t cs)(o:Obj):ah (w.alloc o) g t cs:=(Below.heap_alloc w o g h.lt).trans h
theorem ah.aK(h:ah w g t cs)(i:Nat)(u:Value):ah (w.setCell ⟨g,i,none⟩ u) g t (cs.setIfInBounds i u):=by unfold ah at h⊢;simp[World.setCell,Array.getElem?_modify,h]
theorem ah.far(h:ah w g t cs){p:Addr}(b:g≠p.block)(u:Value):ah (w.setCell p u) g t cs:=(Below.heap_setCell w p u g b).trans h
theorem ah.below{B:Nat}(h:ah w g t cs)(b:Below B w w')(c:g<B):ah w' g t cs:=(b.block g c).trans h
theorem ah.grown{row:Option Nat}(h:ah w g t cs)(b:w.grownBy w' row)(c:some g≠row):ah w' g t cs:=(b.block g h.lt c).trans h
theorem ah.iH{c:Nat}{d:TypeId}{e:Array Value}(h:ah w g t cs)(b:ah w c d e)(f:t≠d):g≠c:=by rintro rfl;unfold ah at h b;rw[h]at b;injection b with b;injection b with _ i;exact f i
theorem au{base:Nat}{e:TypeId}{size n:Nat}{v:Value}{xs:List Value}(h:w.ownsRow base e size v n xs)(c:ah w g t cs)(b:e≠t):v.ownBlock≠some g:=by
 rcases h.2 with⟨rfl,_⟩|⟨d,cap,j,rfl,_,f,_⟩
 ·simp[Value.ownBlock]
 ·intro i;have:d=g:=by simpa[Value.ownBlock]using i
  subst this;exact ah.iH (t:=e) f c b rfl
end
section
variable {P:Program}(w:World)
theorem oI(base:Nat)(t ty e:TypeId)(i:TypeInfo)(size:Nat)(d:P.underlying t=some (.slice e))(f:P.info? e=some i)(v:Value) (n:Nat) (xs:List Value) (b:w.ownsRow base e size v n xs) (c:Nat):(Builtin.append_ #[t,t] ty #[v,.slice none 0 c]).run P w=.ok v w:=by
 rcases b.2 with⟨rfl,rfl⟩|⟨g,cap,k,rfl,_,_,j,_⟩
 ·simp[Builtin.append_,run_underlying d,sizeOf,typeInfo,f,Builtin.lenOf,Builtin.firstCells]
 ·simp[Builtin.append_,run_underlying d,sizeOf,typeInfo,f,Builtin.lenOf,Builtin.firstCells,j,storeCells]
theorem bN(base:Nat)(t ty e:TypeId)(i:TypeInfo)(z:Value)(size bytes:Nat)(D:P.underlying t=some (.slice e))(E:P.info? e=some i)(N:i.zero=some z)(r:i.size=size) (F:i.bytes=bytes) (G:z.cells.size=size) (K:0<size)(v:Value) (n:Nat) (xs:List Value) (d:w.ownsRow base e size v n xs)(B:Nat) (A:Option Addr) (m c:Nat) (b:List Value) (o:Reads w B size A m b) (O:∀u∈b,u.oneCell'=true)(L:n+m<=maxLen) (p:(n+m)*bytes<=140737488355328) (s:base<=w.heap.size):
 ∃k w',(Builtin.append_ #[t,t] ty #[v,.slice A m c]).run P w=.ok k w'/\w'.ownsRow base e size k (n+m) (xs++b)/\w.grownBy w' v.ownBlock/\
  (k.ownBlock=v.ownBlock\/k.ownBlock=some w.heap.size):=by
 rcases A with _|x
 ·have U:m=0:=by
   rcases eq_zero_or_pos m with f|f
   ·exact f
   ·obtain⟨x,h,_⟩:=o.2 f;cases h
  subst U;have y:b=[]:=bT (by simpa using o.1);subst y;exact⟨v,w,oI w base t ty e i size D E v n xs d c,by simpa using d,World.grownBy.refl w _,.inl rfl⟩
 ·have q:∀j u,b[j]?=some u->w.cell? (x.add j)=some u:=by
   intro j u M;rcases eq_zero_or_pos m with f|f
   ·subst f;have y:b=[]:=bT (by simpa using o.1);subst y;simp at M
   ·obtain⟨Z,h,_,V⟩:=o.2 f;injection h with h;subst h;exact V j u M
  obtain⟨k,w',C,W,X,_,Y⟩:=run_append_own_at (P:=P) w base t ty e i z size bytes D E N r F G K v n xs d x m c b o.1 q O L p s;exact⟨k,w',C,W,X,Y⟩
theorem nN{o:Oper}{a:Act}{K:Act->World->Prop}{Q:Exit->Act->World->Prop}(s x:Operand)(t:TypeId)(E:o.op=.call { callee:=.builtin .append,args:=#[s,x],argTypes:=#[t,t] })
 (base:Nat) (e:TypeId) (i:TypeInfo) (z:Value) (size bytes:Nat) (F:P.underlying t=some (.slice e)) (G:P.info? e=some i) (L:i.zero=some z)
 (j:i.size=size) (r:i.bytes=bytes) (y:z.cells.size=size) (C:0<size)
 (v:Value) (n:Nat) (xs:List Value) (M:a.eval s=v) (p:w.ownsRow base e size v n xs)
 (B:Nat) (A:Option Addr) (m c:Nat) (b:List Value) (N:a.eval x=.slice A m c) (O:Reads w B size A m b) (U:∀u∈b,u.oneCell'=true)
 (D:n+m<=maxLen) (f:(n+m)*bytes<=140737488355328) (k:base<=w.heap.size)
 (h:∀d w',w'.ownsRow base e size d (n+m) (xs++b)->w.grownBy w' v.ownBlock->(d.ownBlock=v.ownBlock\/d.ownBlock=some w.heap.size)->K (a.put o.dst d) w'):o.wp P a w K Q:=by
 obtain⟨d,w',q,V,W,X⟩:=bN (P:=P) w base t o.type e i z size bytes F G L j r y C v n xs p B A m c b O U D f k;unfold Oper.wp execOp;simp only[E,resolve,invoke,builtin,Sem.run_bind,Sem.run_pure,Result.andThen_ok,map_toArray,map_cons,map_nil,M,N,q];exact h d w' V W X
theorem iI{p:Array Oper}{rest:List Oper}{o:Oper}{a:Act}{Q:Exit->Act->World->Prop}(r:o.guard=none)(s x:Operand)(t:TypeId)(F:o.op=.call { callee:=.builtin .append,args:=#[s,x],argTypes:=#[t,t] })
 (base:Nat) (e:TypeId) (i:TypeInfo) (z:Value) (size bytes:Nat) (G:P.underlying t=some (.slice e)) (K:P.info? e=some i) (L:i.zero=some z)
 (j:i.size=size) (y:i.bytes=bytes) (C:z.cells.size=size) (D:0<size)
 (v:Value) (n:Nat) (xs:List Value) (M:a.eval s=v) (q:w.ownsRow base e size v n xs)
 (B:Nat) (A:Option Addr) (m c:Nat) (b:List Value) (N:a.eval x=.slice A m c) (O:Reads w B size A m b) (U:∀u∈b,u.oneCell'=true)
 (E:n+m<=maxLen) (f:(n+m)*bytes<=140737488355328) (k:base<=w.heap.size)
 (h:∀d w',w'.ownsRow base e size d (n+m) (xs++b)->w.grownBy w' v.ownBlock->(d.ownBlock=v.ownBlock\/d.ownBlock=some w.heap.size)->wpList P p Q rest (a.put o.dst d) w'):wpList P p Q (o::rest) a w:=
 wpList_plain r λ_ V=>nN w s x t F base e i z size bytes G K L j y C D v n xs M q B A m c b N O U E f k λd w' W X Y=>V _ _ (h d w' W X Y)
end
theorem mz{P:Program}{f:FuncId}{args:Array Value}{w:World}{a n:Nat}{v:Value}(h:Calls P f args (w.drewN (a+n)) λe w'=>e=.returned v/\w.drewN (a+n)=w'):
 Calls P f args (w.drewN (a+n)) λe w''=>e=.returned v/\∃m,w''=w.drewN (a+m):=
 h.mono λ_ _ ⟨b,c⟩=>⟨b,n,c.symm⟩
theorem fE{P:Program}{f:FuncId}{args:Array Value}{w:World}{n:Nat}{v:Value}(h:Calls P f args (w.drewN n) λe w'=>e=.returned v/\w.drewN n=w'):Calls P f args (w.drewN n) λe w''=>e=.returned v/\∃m,w''=w.drewN m:=h.mono λ_ _ ⟨b,c⟩=>⟨b,n,c.symm⟩
theorem below_drewN{B:Nat}{a w:World}(h:Below B a w)(n:Nat):Below B a (w.drewN n):=⟨h.os,h.tape,h.output,h.size,h.block⟩
theorem tX{P:Program}(t e:TypeId)(i:TypeInfo)(z:Value)(k:P.underlying t=some (.slice e))(m:P.info? e=some i)(o:i.zero=some z)(b d:IntKind) (n c:Nat) (q:n<=c) (f:i.bytes*c<=281474976710656) (r:c<=9223372036854775807) (w:World):(Instr.makeSlice t (.int b (n:Int)) (.int d (c:Int))).run P w=.ok (.slice (some ⟨w.heap.size,0,none⟩) n c) (w.alloc (.cells (madeCells z.cells (c*i.size)) e)):=by
 have p:(i.bytes:Int)*(c:Int)<=281474976710656:=by
  have h:((i.bytes*c:Nat):Int)<=281474976710656:=by omega
  rwa [Int.natCast_mul]at h
 have j:=run_make (P:=P) w t e i z k m o b d n c (by omega) (by omega) p (by omega);simp only[Int.toNat_natCast]at j;exact j
section
section
variable {H:Type}{enc:TypeId×Value->H}{P:Program}
end
end
theorem bV{k:IntKind}{a b:Int}(h:a=b):Ending.returned (.int k a)=Ending.returned (.int k b):=by rw[h]
def bv(l:List UInt8):List Value:=l.map λb=>Value.int .u8 (b.toNat:Int)
def iv(l:List Int):List Value:=l.map λb=>Value.int .i64 b
theorem dn(l:List UInt8):(bv l).length=l.length:=by simp[bv]
theorem vP{l:List UInt8}{k:Nat}(h:k<l.length):(bv l)[k]?=some (.int .u8 ((l[k]).toNat:Int)):=by simp[bv,h]
theorem KQ{l:List Int}{k:Nat}(h:k<l.length):(iv l)[k]?=some (.int .i64 l[k]):=by simp[iv,h]
theorem fM(a b:List UInt8):bv (a++b)=bv a++bv b:=by simp[bv]
theorem Di(a b:List Int):iv (a++b)=iv a++iv b:=by simp[iv]
theorem kU(l:List UInt8):∀u∈bv l,u.oneCell'=true:=by intro u b;obtain⟨_,_,rfl⟩:=aM.1 b;rfl
theorem KR(l:List Int):∀u∈iv l,u.oneCell'=true:=by intro u b;obtain⟨_,_,rfl⟩:=aM.1 b;rfl
def RB(w:World)(B:Nat)(A:Option Addr)(n:Nat)(l:List UInt8):Prop:=Reads w B 1 A n (bv l)
def RI(w:World)(B:Nat)(A:Option Addr)(n:Nat)(l:List Int):Prop:=Reads w B 1 A n (iv l)
section
variable {w w':World}{B B' n:Nat}{A:Option Addr}{l:List UInt8}{z:List Int}
theorem RB.len(h:RB w B A n l):l.length=n:=by have:=h.1;simpa[bv]using this
theorem RI.len(h:RI w B A n z):z.length=n:=by have:=h.1;simpa[iv]using this
theorem RB.elem(h:RB w B A n l){k:Nat}(d:k<n)(f:k<l.length):∃b,A=some b/\b.block<B/\w.cell? (b.add k)=some (.int .u8 ((l[k]).toNat:Int)):=by obtain⟨b,u,e,i,c,j⟩:=Reads.at_ h d;rw[vP f]at c;injection c with c;subst c;exact⟨b,e,i,j⟩
theorem RI.elem(h:RI w B A n z){k:Nat}(d:k<n)(f:k<z.length):∃b,A=some b/\b.block<B/\w.cell? (b.add k)=some (.int .i64 z[k]):=by obtain⟨b,u,e,i,c,j⟩:=Reads.at_ h d;rw[KQ f]at c;injection c with c;subst c;exact⟨b,e,i,j⟩
theorem RB.below(h:RB w B A n l)(b:Below B w w'):RB w' B A n l:=Reads.below h b
theorem RB.more(h:RB w B A n l)(b:B<=B'):RB w B' A n l:=Reads.more h b
theorem RB.drew(h:RB w B A n l):RB w.drew B A n l:=h
theorem RB.drewN(h:RB w B A n l)(k:Nat):RB (w.drewN k) B A n l:=h
theorem RB.alloc(h:RB w B A n l)(b:B<=w.heap.size)(o:Obj):RB (w.alloc o) B A n l:=Reads.alloc h b o
theorem RB.setCell(h:RB w B A n l){p:Addr}(b:B<=p.block)(u:Value):RB (w.setCell p u) B A n l:=Reads.setCell h b u
theorem RB.nil(w:World)(B:Nat):RB w B none 0 []:=⟨by simp[bv],λh=>absurd h (by omega)⟩
theorem RI.below(h:RI w B A n z)(b:Below B w w'):RI w' B A n z:=Reads.below h b
theorem RB.take(h:RB w B A n l){k:Nat}(m:k<=n):RB w B A k (l.take k):=by have o:=h.len;refine⟨by simp[bv];omega,λp=>?_⟩;obtain⟨c,e,d,f⟩:=h.2 (by omega);refine⟨c,e,d,λj u b=>f j u ?_⟩;have i:=(ay.1 b).1;rw[dn,aH]at i;rw[<-b,bv,bv,map_take,bw,if_pos (by omega)]
end
end
section
variable {P:Program}{a:Act}{w:World}{Q:Exit->Act->World->Prop}
end
section
open Go.RowKit
def ed(t:TypeId)(w w':World):Prop:=∀g cs,ah w g t cs->ah w' g t cs
section
variable {t:TypeId}{w w' w'':World}
theorem ed.refl(t:TypeId)(w:World):ed t w w:=λ_ _ h=>h
theorem ed.alloc(h:ed t w w')(o:Obj):ed t w (w'.alloc o):=λg cs b=>(h g cs b).alloc o
theorem ed.aK{b:TypeId}{p:Addr}{c:Array Value}(h:ed t w w')(e:ah w' p.block b c)(f:t≠b)(u:Value):ed t w (w'.setCell p u):=λg cs d=>(h g cs d).far (ah.iH (h g cs d) e f) u
theorem ed.grown{row:Option Nat}(h:ed t w w')(c:w'.grownBy w'' row)(d:∀k cs,row=some k->¬ah w' k t cs):ed t w w'':=λg cs b=>(h g cs b).grown c λe=>d g cs e.symm (h g cs b)
theorem ed.Dj{base:Nat}{e:TypeId}{size n:Nat}{v:Value}{xs:List Value}(h:ed t w w')(b:w'.grownBy w'' v.ownBlock)(c:w'.ownsRow base e size v n xs)(d:e≠t):ed t w w'':=h.grown b λk cs f i=>au c i d f
end
structure R (S:Nat->Prop) (w w':World):Prop where
 os:w'.os=w.os
 tape:w'.tape=w.tape
 output:w'.output=w.output
 size:w.heap.size<=w'.heap.size
 block:∀k,k<w.heap.size->¬S k->w'.heap[k]?=w.heap[k]?
section
variable {S T:Nat->Prop}{a w w' w'':World}
theorem R.refl(S:Nat->Prop)(w:World):R S w w:=⟨rfl,rfl,rfl,aa _,λ_ _ _=>rfl⟩
theorem R.trans(h:R S a w)(k:R T w w')(d:∀i,i<a.heap.size->T i->S i):R S a w':=⟨k.os.trans h.os,k.tape.trans h.tape,k.output.trans h.output,aO h.size k.size,λi b c=>(k.block i (aN b h.size) λe=>c (d i b e)).trans (h.block i b c)⟩
theorem R.mono(h:R T a w)(b:∀i,i<a.heap.size->T i->S i):R S a w:=(R.refl S a).trans h b
theorem R.drewN(h:R S a w)(n:Nat):R S a (w.drewN n):=⟨h.os,h.tape,h.output,h.size,h.block⟩
theorem R.drew(h:R S a w):R S a w.drew:=⟨h.os,h.tape,h.output,h.size,h.block⟩
theorem R.alloc(h:R S a w)(o:Obj):R S a (w.alloc o):=h.trans (T:=λ_=>False) ⟨rfl,rfl,rfl,by simp,λk b _=>Below.heap_alloc _ _ _ b⟩ λ_ _ h=>h.elim
theorem R.setCell(h:R S a w){p:Addr}(b:p.block<a.heap.size->S p.block)(u:Value):R S a (w.setCell p u):=h.trans (T:=λk=>k=p.block) ⟨rfl,rfl,rfl,by simp[World.setCell],λk f c=>Below.heap_setCell _ _ _ _ c⟩ λi d e=>by subst e;exact b d
theorem R.grown{row:Option Nat}(h:R S a w)(b:w.grownBy w' row)(c:∀k,row=some k->k<a.heap.size->S k):R S a w':=h.trans (T:=λk=>row=some k) ⟨b.os,b.tape,b.output,b.size,λk d f=>b.block k d λe=>f e.symm⟩ λi j e=>c i e j
theorem R.ag(h:Below w.heap.size w w'):R S w w':=⟨h.os,h.tape,h.output,h.size,λk b _=>h.block k b⟩
theorem R.below{B:Nat}(h:R S w w')(b:∀k,S k->B<=k)(d:B<=w.heap.size):Below B w w':=⟨h.os,h.tape,h.output,h.size,λk e=>h.block k (by omega) λc=>by have:=b k c;omega⟩
theorem R.blk{g:Nat}{t:TypeId}{cs:Array Value}(h:R S w w')(b:ah w g t cs)(c:¬S g):ah w' g t cs:=(h.block g b.lt c).trans b
theorem R.row{base:Nat}{e:TypeId}{size n:Nat}{v:Value}{xs:List Value}(h:R S w w')(d:w.ownsRow base e size v n xs)(f:∀k,v.ownBlock=some k->¬S k):w'.ownsRow base e size v n xs:=by
 obtain⟨i,b⟩:=d;refine⟨i,?_⟩;rcases b with b|⟨g,cap,c,rfl,j,m,o⟩
 ·exact Or.inl b
 ·exact Or.inr ⟨g,cap,c,rfl,j,h.blk m (f g rfl),o⟩
theorem R.jQ{t:TypeId}(h:R S w w')(c:∀k cs,S k->¬ah w k t cs):ed t w w':=λg cs b=>h.blk b λd=>c g cs d b
end
end
end Go.Proofs.YtajdeapdgbnahaaGreatDoor
