/-
  Words for memory that all proofs of this seat share: a slice that reads as a list; a block known whole; append onto a row of the call's own (after the kit's howto pages extra-words and extra-small, whose blocks are made for copying); below them words of this claim's own: lists of bytes and of ints as cells.
-/
import Derived.WalkKit
import Derived.Below
import Derived.Laws.OwnMore
import Derived.Deep.AppendLies
import Derived.Deep.Draws
import Derived.Deep.OwnRows
import Derived.Laws.Rows
import Derived.Laws.MakeOwn
import Derived.Maps.AppendAt
import Derived.RegionTactic
import Derived.OwnWalk
import Derived.Deep.QuietTactic
import Derived.BigQuiet
import Derived.ChangeSame
import Derived.Deep.DeepCutAuto
import Derived.Deep.CutBlock
import Derived.Deep.RegionHeld3
import Derived.Outline
namespace Go.Proofs.YtiiljlmeililbaaGreatDoor
set_option linter.unusedVariables false
set_option maxRecDepth 100000
open Go.RowKit
open Go.RowKit Go.WideShapes Go.ChangeShapes
theorem hide {p : Prop} (h : p) : Hid p:=h
theorem block_of_add (a : Addr) (n : Nat) : (a.add n).block=a.block:=by unfold Addr.add; split <;> rfl
theorem add_of_add (a : Addr) (i j : Nat) : (a.add i).add j=a.add (i + j):=by
 unfold Addr.add
 by_cases hi : i=0 <;> by_cases hj : j=0 <;> simp [hi,hj,Nat.add_assoc]
def Reads (w : World) (B size : Nat) (A : Option Addr) (n : Nat) (xs : List Value) : Prop :=
 xs.length=n * size/\(0 < n->∃ ad,A=some ad/\ad.block < B/\∀ j u,xs[j]?=some u->w.cell? (ad.add j)=some u)
section
variable {w w' : World} {B B' size n : Nat} {A : Option Addr} {xs : List Value}
theorem Reads.none_ : Reads w B size A 0 []:=⟨by simp,fun h => absurd h (by omega)⟩
theorem Reads.at_ {k : Nat} (h : Reads w B 1 A n xs) (hk : k < n) : ∃ ad u,A=some ad/\ad.block < B/\xs[k]?=some u/\w.cell? (ad.add k)=some u:=by
 obtain ⟨ad,e,hb,hc⟩:=h.2 (by omega)
 have hl : k < xs.length:=by have:=h.1; omega
 exact ⟨ad,xs[k],e,hb,List.getElem?_eq_getElem hl,hc k _ (List.getElem?_eq_getElem hl)⟩
theorem Reads.keep (h : Reads w B size A n xs) (hk : ∀ p : Addr,p.block < B->w'.cell? p=w.cell? p) : Reads w' B size A n xs :=
 ⟨h.1,fun hn => by
   obtain ⟨ad,e,hb,hc⟩:=h.2 hn
   exact ⟨ad,e,hb,fun j u hu => (hk _ (by rw [block_of_add]; exact hb)).trans (hc j u hu)⟩⟩
theorem Reads.more (h : Reads w B size A n xs) (hB : B<=B') : Reads w B' size A n xs :=
 ⟨h.1,fun hn => by
   obtain ⟨ad,e,hb,hc⟩:=h.2 hn
   exact ⟨ad,e,by omega,hc⟩⟩
theorem Reads.below (h : Reads w B size A n xs) (hb : Below B w w') : Reads w' B size A n xs:=h.keep fun _ hp => hb.cell hp
theorem Reads.alloc (h : Reads w B size A n xs) (hB : B<=w.heap.size) (o : Obj) : Reads (w.alloc o) B size A n xs:=h.keep fun p hp => World.cell?_alloc_lt w o p (by omega)
theorem Reads.setCell (h : Reads w B size A n xs) {p : Addr} (hB : B<=p.block) (u : Value) : Reads (w.setCell p u) B size A n xs :=
 h.keep fun q hq => World.cell?_setCell_other w p q u (fun e => by subst e; omega)
theorem Reads.cut (h : Reads w B size A n xs) {k cap : Nat} (hk : k<=n) (hc : n<=cap) :
   Reads w B size (if cap=k then A else A.map (·.add (k * size))) (n - k) (xs.drop (k * size)):=by
 refine ⟨by rw [List.length_drop,h.1,Nat.sub_mul],fun hn => ?_⟩
 obtain ⟨ad,rfl,hb,hcell⟩:=h.2 (by omega)
 rw [if_neg (by omega)]
 refine ⟨ad.add (k * size),rfl,by rw [block_of_add]; exact hb,fun j u hu => ?_⟩
 rw [add_of_add]
 exact hcell _ u (by rw [<- hu,List.getElem?_drop])
theorem Reads.of_own {base : Nat} {e : TypeId} {c : Nat} (h : w.ownsRow base e size (.slice A n c) n xs) : Reads w w.heap.size size A n xs:=by
 refine ⟨h.1,fun hn => ?_⟩
 obtain ⟨g,cap,hv,_,hlt⟩:=h.form hn
 have hA : A=some ⟨g,0,none⟩:=by injection hv
 subst hA
 exact ⟨_,rfl,hlt,h.cells (g:=g) rfl⟩
end
def Blk (w : World) (g : Nat) (t : TypeId) (cs : Array Value) : Prop:=w.heap[g]?=some (.cells cs t (0,0))
section
variable {w w' : World} {g : Nat} {t : TypeId} {cs : Array Value}
theorem Blk.lt (h : Blk w g t cs) : g < w.heap.size:=by
 rcases Nat.lt_or_ge g w.heap.size with hlt | hge
 · exact hlt
 · unfold Blk at h; rw [Array.getElem?_eq_none hge] at h; cases h
theorem Blk.cell (h : Blk w g t cs) (i : Nat) : w.cell? ⟨g,i,none⟩=cs[i]?:=cell_of_row w g i cs t (0,0) h
theorem Blk.frozen (h : Blk w g t cs) (i : Nat) : w.frozen? ⟨g,i,none⟩=false:=by
 unfold Blk at h
 simp [World.frozen?,h]
theorem Blk.new (w : World) (t : TypeId) (cs : Array Value) : Blk (w.alloc (.cells cs t)) w.heap.size t cs:=heap_alloc_new w _
theorem Blk.drew (h : Blk w g t cs) : Blk w.drew g t cs:=h
theorem Blk.drewN (h : Blk w g t cs) (n : Nat) : Blk (w.drewN n) g t cs:=h
theorem Blk.alloc (h : Blk w g t cs) (o : Obj) : Blk (w.alloc o) g t cs:=(Below.heap_alloc w o g h.lt).trans h
theorem Blk.set_ (h : Blk w g t cs) (i : Nat) (u : Value) : Blk (w.setCell ⟨g,i,none⟩ u) g t (cs.setIfInBounds i u):=by
 unfold Blk at h ⊢
 simp [World.setCell,Array.getElem?_modify,h]
theorem Blk.far (h : Blk w g t cs) {p : Addr} (hp : g ≠ p.block) (u : Value) : Blk (w.setCell p u) g t cs:=(Below.heap_setCell w p u g hp).trans h
theorem Blk.below {B : Nat} (h : Blk w g t cs) (hb : Below B w w') (hg : g < B) : Blk w' g t cs:=(hb.block g hg).trans h
theorem Blk.grown {row : Option Nat} (h : Blk w g t cs) (hb : w.grownBy w' row) (hg : some g ≠ row) : Blk w' g t cs:=(hb.block g h.lt hg).trans h
theorem Blk.ne_ {g' : Nat} {t' : TypeId} {cs' : Array Value} (h : Blk w g t cs) (h' : Blk w g' t' cs') (hne : t ≠ t') : g ≠ g':=by
 rintro rfl
 unfold Blk at h h'
 rw [h] at h'
 injection h' with h'
 injection h' with _ ht
 exact hne ht
theorem own_blk_ne {base : Nat} {e : TypeId} {size n : Nat} {v : Value} {xs : List Value} (h : w.ownsRow base e size v n xs) (hg : Blk w g t cs) (hne : e ≠ t) : v.ownBlock ≠ some g:=by
 rcases h.2 with ⟨rfl,_⟩ | ⟨g',cap,cur,rfl,_,hh,_⟩
 · simp [Value.ownBlock]
 · intro he
   have : g'=g:=by simpa [Value.ownBlock] using he
   subst this
   exact Blk.ne_ (t:=e) hh hg hne rfl
end
section
variable {P : Program} (w : World)
theorem run_append_of_nil (base : Nat) (t ty e : TypeId) (i : TypeInfo) (size : Nat) (ht : P.underlying t=some (.slice e)) (hi : P.info? e=some i)
   (v : Value) (n : Nat) (xs : List Value) (hown : w.ownsRow base e size v n xs) (c : Nat) : (Builtin.append_ #[t,t] ty #[v,.slice none 0 c]).run P w=.ok v w:=by
 rcases hown.2 with ⟨rfl,rfl⟩ | ⟨g,cap,cur,rfl,_,_,hnc,_⟩
 · simp [Builtin.append_,run_underlying ht,sizeOf,typeInfo,hi,Builtin.lenOf,Builtin.firstCells]
 · simp [Builtin.append_,run_underlying ht,sizeOf,typeInfo,hi,Builtin.lenOf,Builtin.firstCells,hnc,storeCells]
theorem run_append_any (base : Nat) (t ty e : TypeId) (i : TypeInfo) (z : Value) (size bytes : Nat) (ht : P.underlying t=some (.slice e)) (hi : P.info? e=some i) (hz : i.zero=some z)
   (hsize : i.size=size) (hby : i.bytes=bytes) (hzs : z.cells.size=size) (hsz : 0 < size)
   (v : Value) (n : Nat) (xs : List Value) (hown : w.ownsRow base e size v n xs)
   (B : Nat) (A : Option Addr) (m c : Nat) (news : List Value) (hr : Reads w B size A m news) (h1 : ∀ u ∈ news,u.oneCell'=true)
   (h63 : n + m<=maxLen) (hbytes : (n + m) * bytes<=140737488355328) (hbase : base<=w.heap.size) :
   ∃ v' w', (Builtin.append_ #[t, t] ty #[v, .slice A m c]).run P w = .ok v' w' /\ w'.ownsRow base e size v' (n + m) (xs ++ news) /\ w.grownBy w' v.ownBlock /\
     (v'.ownBlock=v.ownBlock \/ v'.ownBlock=some w.heap.size):=by
 rcases A with _ | ad
 · have hm : m=0:=by
     rcases Nat.eq_zero_or_pos m with h0 | h0
     · exact h0
     · obtain ⟨ad, h, _⟩ := hr.2 h0
       cases h
   subst hm
   have hn : news=[]:=List.eq_nil_of_length_eq_zero (by simpa using hr.1)
   subst hn
   exact ⟨v,w,run_append_of_nil w base t ty e i size ht hi v n xs hown c,by simpa using hown,World.grownBy.refl w _,.inl rfl⟩
 · have hcells : ∀ j u,news[j]?=some u->w.cell? (ad.add j)=some u:=by
     intro j u hu
     rcases Nat.eq_zero_or_pos m with h0 | h0
     · subst h0
       have hn : news=[]:=List.eq_nil_of_length_eq_zero (by simpa using hr.1)
       subst hn
       simp at hu
     · obtain ⟨ad', h, _, hc⟩ := hr.2 h0
       injection h with h
       subst h
       exact hc j u hu
   obtain ⟨v',w',hrun,h2,h3,_,h5⟩:=run_append_own_at (P:=P) w base t ty e i z size bytes ht hi hz hsize hby hzs hsz v n xs hown ad m c news hr.1 hcells h1 h63 hbytes hbase
   exact ⟨v',w',hrun,h2,h3,h5⟩
theorem wp_append_any {o : Oper} {a : Act} {K : Act->World->Prop} {Q : Exit->Act->World->Prop} (s x : Operand) (t : TypeId)
   (ho : o.op=.call { callee:=.builtin .append,args:=#[s,x],argTypes:=#[t,t] })
   (base : Nat) (e : TypeId) (i : TypeInfo) (z : Value) (size bytes : Nat) (ht : P.underlying t=some (.slice e)) (hi : P.info? e=some i) (hz : i.zero=some z)
   (hsize : i.size=size) (hby : i.bytes=bytes) (hzs : z.cells.size=size) (hsz : 0 < size)
   (v : Value) (n : Nat) (xs : List Value) (hs : a.eval s=v) (hown : w.ownsRow base e size v n xs)
   (B : Nat) (A : Option Addr) (m c : Nat) (news : List Value) (hx : a.eval x=.slice A m c) (hr : Reads w B size A m news) (h1 : ∀ u ∈ news,u.oneCell'=true)
   (h63 : n + m<=maxLen) (hbytes : (n + m) * bytes<=140737488355328) (hbase : base<=w.heap.size)
   (h : ∀ v' w',w'.ownsRow base e size v' (n + m) (xs ++ news)->w.grownBy w' v.ownBlock->(v'.ownBlock=v.ownBlock \/ v'.ownBlock=some w.heap.size)->K (a.put o.dst v') w') : o.wp P a w K Q:=by
 obtain ⟨v',w',hrun,h2,h3,h4⟩:=run_append_any (P:=P) w base t o.type e i z size bytes ht hi hz hsize hby hzs hsz v n xs hown B A m c news hr h1 h63 hbytes hbase
 unfold Oper.wp execOp
 simp only [ho,resolve,invoke,builtin,Sem.run_bind,Sem.run_pure,Result.andThen_ok,List.map_toArray,List.map_cons,List.map_nil,hs,hx,hrun]
 exact h v' w' h2 h3 h4
theorem wpList_append_any {ops : Array Oper} {rest : List Oper} {o : Oper} {a : Act} {Q : Exit->Act->World->Prop} (hgd : o.guard=none) (s x : Operand) (t : TypeId)
   (ho : o.op=.call { callee:=.builtin .append,args:=#[s,x],argTypes:=#[t,t] })
   (base : Nat) (e : TypeId) (i : TypeInfo) (z : Value) (size bytes : Nat) (ht : P.underlying t=some (.slice e)) (hi : P.info? e=some i) (hz : i.zero=some z)
   (hsize : i.size=size) (hby : i.bytes=bytes) (hzs : z.cells.size=size) (hsz : 0 < size)
   (v : Value) (n : Nat) (xs : List Value) (hs : a.eval s=v) (hown : w.ownsRow base e size v n xs)
   (B : Nat) (A : Option Addr) (m c : Nat) (news : List Value) (hx : a.eval x=.slice A m c) (hr : Reads w B size A m news) (h1 : ∀ u ∈ news,u.oneCell'=true)
   (h63 : n + m<=maxLen) (hbytes : (n + m) * bytes<=140737488355328) (hbase : base<=w.heap.size)
   (h : ∀ v' w',w'.ownsRow base e size v' (n + m) (xs ++ news)->w.grownBy w' v.ownBlock->(v'.ownBlock=v.ownBlock \/ v'.ownBlock=some w.heap.size)->wpList P ops Q rest (a.put o.dst v') w') : wpList P ops Q (o :: rest) a w :=
 wpList_plain hgd fun _ hK => wp_append_any w s x t ho base e i z size bytes ht hi hz hsize hby hzs hsz v n xs hs hown B A m c news hx hr h1 h63 hbytes hbase fun v' w' h2 h3 h4 => hK _ _ (h v' w' h2 h3 h4)
end
theorem quiet_add_left {P : Program} {f : FuncId} {args : Array Value} {w : World} {a n : Nat} {v : Value}
   (h : Calls P f args (w.drewN (a + n)) fun e w' => e=.returned v/\w.drewN (a + n)=w') :
   Calls P f args (w.drewN (a + n)) fun e w'' => e=.returned v/\∃ m,w''=w.drewN (a + m) :=
 h.mono fun _ _ ⟨he,hm⟩ => ⟨he,n,hm.symm⟩
theorem quiet_left {P : Program} {f : FuncId} {args : Array Value} {w : World} {n : Nat} {v : Value}
   (h : Calls P f args (w.drewN n) fun e w' => e=.returned v/\w.drewN n=w') : Calls P f args (w.drewN n) fun e w'' => e=.returned v/\∃ m,w''=w.drewN m :=
 h.mono fun _ _ ⟨he,hm⟩ => ⟨he,n,hm.symm⟩
theorem below_drewN {B : Nat} {a w : World} (h : Below B a w) (n : Nat) : Below B a (w.drewN n):=⟨h.os,h.tape,h.output,h.size,h.block⟩
theorem run_make_rowN {P : Program} (t e : TypeId) (i : TypeInfo) (z : Value) (ht : P.underlying t=some (.slice e)) (hi : P.info? e=some i) (hz : i.zero=some z)
   (kl kc : IntKind) (n c : Nat) (hnc : n<=c) (hbytes : i.bytes * c<=281474976710656) (h63 : c<=9223372036854775807) (w : World) :
   (Instr.makeSlice t (.int kl (n : Int)) (.int kc (c : Int))).run P w=.ok (.slice (some ⟨w.heap.size,0,none⟩) n c) (w.alloc (.cells (madeCells z.cells (c * i.size)) e)):=by
 have hb : (i.bytes : Int) * (c : Int)<=281474976710656:=by
   have h : ((i.bytes * c : Nat) : Int)<=281474976710656:=by omega
   rwa [Int.natCast_mul] at h
 have hr:=run_make (P:=P) w t e i z ht hi hz kl kc n c (by omega) (by omega) hb (by omega)
 simp only [Int.toNat_natCast] at hr
 exact hr
section
section
variable {H : Type} {enc : TypeId × Value->H} {P : Program}
end
end
theorem ret_int {k : IntKind} {a b : Int} (h : a=b) : Ending.returned (.int k a)=Ending.returned (.int k b):=by rw [h]
def bv (l : List UInt8) : List Value:=l.map fun b => Value.int .u8 (b.toNat : Int)
theorem bv_length (l : List UInt8) : (bv l).length=l.length:=by simp [bv]
theorem bv_get {l : List UInt8} {k : Nat} (h : k < l.length) : (bv l)[k]?=some (.int .u8 ((l[k]).toNat : Int)):=by simp [bv,h]
theorem bv_append (a b : List UInt8) : bv (a ++ b)=bv a ++ bv b:=by simp [bv]
theorem bv_one (l : List UInt8) : ∀ u ∈ bv l,u.oneCell'=true:=by
 intro u hu
 obtain ⟨_,_,rfl⟩:=List.mem_map.1 hu
 rfl
def RB (w : World) (B : Nat) (A : Option Addr) (n : Nat) (l : List UInt8) : Prop:=Reads w B 1 A n (bv l)
section
variable {w w' : World} {B B' n : Nat} {A : Option Addr} {l : List UInt8} {z : List Int}
theorem RB.len (h : RB w B A n l) : l.length=n:=by have:=h.1; simpa [bv] using this
theorem RB.elem (h : RB w B A n l) {k : Nat} (hk : k < n) (hl : k < l.length) : ∃ ad,A=some ad/\ad.block < B/\w.cell? (ad.add k)=some (.int .u8 ((l[k]).toNat : Int)):=by
 obtain ⟨ad,u,e,hb,hx,hc⟩:=Reads.at_ h hk
 rw [bv_get hl] at hx
 injection hx with hx
 subst hx
 exact ⟨ad,e,hb,hc⟩
theorem RB.below (h : RB w B A n l) (hb : Below B w w') : RB w' B A n l:=Reads.below h hb
theorem RB.more (h : RB w B A n l) (hB : B<=B') : RB w B' A n l:=Reads.more h hB
theorem RB.drew (h : RB w B A n l) : RB w.drew B A n l:=h
theorem RB.drewN (h : RB w B A n l) (k : Nat) : RB (w.drewN k) B A n l:=h
theorem RB.alloc (h : RB w B A n l) (hB : B<=w.heap.size) (o : Obj) : RB (w.alloc o) B A n l:=Reads.alloc h hB o
theorem RB.setCell (h : RB w B A n l) {p : Addr} (hB : B<=p.block) (u : Value) : RB (w.setCell p u) B A n l:=Reads.setCell h hB u
theorem RB.nil (w : World) (B : Nat) : RB w B none 0 []:=⟨by simp [bv],fun h => absurd h (by omega)⟩
theorem RB.take (h : RB w B A n l) {k : Nat} (hk : k<=n) : RB w B A k (l.take k):=by
 have hl:=h.len
 refine ⟨by simp [bv]; omega,fun h0 => ?_⟩
 obtain ⟨ad,e,hb,hc⟩:=h.2 (by omega)
 refine ⟨ad,e,hb,fun j u hu => hc j u ?_⟩
 have hj:=(List.getElem?_eq_some_iff.1 hu).1
 rw [bv_length,List.length_take] at hj
 rw [<- hu,bv,bv,List.map_take,List.getElem?_take,if_pos (by omega)]
end
end Go.Proofs.YtiiljlmeililbaaGreatDoor
namespace Go.Proofs.YtiiljlmeililbaaGreatDoor
set_option linter.unusedVariables false
set_option maxRecDepth 100000
open Go.RowKit
def KeepT (t : TypeId) (w w' : World) : Prop:=∀ g cs,Blk w g t cs->Blk w' g t cs
section
variable {t : TypeId} {w w' w'' : World}
theorem KeepT.refl (t : TypeId) (w : World) : KeepT t w w:=fun _ _ h => h
theorem KeepT.alloc (h : KeepT t w w') (o : Obj) : KeepT t w (w'.alloc o):=fun g cs hb => (h g cs hb).alloc o
theorem KeepT.set_ {t' : TypeId} {p : Addr} {cs' : Array Value} (h : KeepT t w w') (hp : Blk w' p.block t' cs') (ht : t ≠ t') (u : Value) : KeepT t w (w'.setCell p u) :=
 fun g cs hb => (h g cs hb).far (Blk.ne_ (h g cs hb) hp ht) u
theorem KeepT.grown {row : Option Nat} (h : KeepT t w w') (hg : w'.grownBy w'' row) (hr : ∀ k cs,row=some k->¬ Blk w' k t cs) : KeepT t w w'' :=
 fun g cs hb => (h g cs hb).grown hg fun e => hr g cs e.symm (h g cs hb)
theorem KeepT.grown_own {base : Nat} {e : TypeId} {size n : Nat} {v : Value} {xs : List Value} (h : KeepT t w w') (hg : w'.grownBy w'' v.ownBlock) (ho : w'.ownsRow base e size v n xs) (ht : e ≠ t) : KeepT t w w'' :=
 h.grown hg fun k cs hk hb => own_blk_ne ho hb ht hk
end
structure Only (S : Nat->Prop) (w w' : World) : Prop where
 os : w'.os=w.os
 tape : w'.tape=w.tape
 output : w'.output=w.output
 size : w.heap.size<=w'.heap.size
 block : ∀ k,k < w.heap.size->¬ S k->w'.heap[k]?=w.heap[k]?
section
variable {S T : Nat->Prop} {a w w' w'' : World}
theorem Only.refl (S : Nat->Prop) (w : World) : Only S w w:=⟨rfl,rfl,rfl,Nat.le_refl _,fun _ _ _ => rfl⟩
theorem Only.trans (h : Only S a w) (k : Only T w w') (hT : ∀ i,i < a.heap.size->T i->S i) : Only S a w' :=
 ⟨k.os.trans h.os,k.tape.trans h.tape,k.output.trans h.output,Nat.le_trans h.size k.size,fun i hi hs => (k.block i (Nat.lt_of_lt_of_le hi h.size) fun ht => hs (hT i hi ht)).trans (h.block i hi hs)⟩
theorem Only.mono (h : Only T a w) (hT : ∀ i,i < a.heap.size->T i->S i) : Only S a w:=(Only.refl S a).trans h hT
theorem Only.drewN (h : Only S a w) (n : Nat) : Only S a (w.drewN n):=⟨h.os,h.tape,h.output,h.size,h.block⟩
theorem Only.drew (h : Only S a w) : Only S a w.drew:=⟨h.os,h.tape,h.output,h.size,h.block⟩
theorem Only.alloc (h : Only S a w) (o : Obj) : Only S a (w.alloc o) :=
 h.trans (T:=fun _ => False) ⟨rfl,rfl,rfl,by simp,fun k hk _ => Below.heap_alloc _ _ _ hk⟩ fun _ _ h => h.elim
theorem Only.setCell (h : Only S a w) {p : Addr} (hp : p.block < a.heap.size->S p.block) (u : Value) : Only S a (w.setCell p u) :=
 h.trans (T:=fun k => k=p.block) ⟨rfl,rfl,rfl,by simp [World.setCell],fun k hk hn => Below.heap_setCell _ _ _ _ hn⟩ fun i hi e => by subst e; exact hp hi
theorem Only.grown {row : Option Nat} (h : Only S a w) (hg : w.grownBy w' row) (hr : ∀ k,row=some k->k < a.heap.size->S k) : Only S a w' :=
 h.trans (T:=fun k => row=some k) ⟨hg.os,hg.tape,hg.output,hg.size,fun k hk hn => hg.block k hk fun e => hn e.symm⟩ fun i hi e => hr i e hi
theorem Only.of_below (h : Below w.heap.size w w') : Only S w w':=⟨h.os,h.tape,h.output,h.size,fun k hk _ => h.block k hk⟩
theorem Only.below {B : Nat} (h : Only S w w') (hS : ∀ k,S k->B<=k) (hB : B<=w.heap.size) : Below B w w' :=
 ⟨h.os,h.tape,h.output,h.size,fun k hk => h.block k (by omega) fun hs => by have:=hS k hs; omega⟩
theorem Only.blk {g : Nat} {t : TypeId} {cs : Array Value} (h : Only S w w') (hb : Blk w g t cs) (hg : ¬ S g) : Blk w' g t cs:=(h.block g hb.lt hg).trans hb
theorem Only.row {base : Nat} {e : TypeId} {size n : Nat} {v : Value} {xs : List Value} (h : Only S w w') (ho : w.ownsRow base e size v n xs) (hv : ∀ k,v.ownBlock=some k->¬ S k) : w'.ownsRow base e size v n xs:=by
 obtain ⟨h1,h2⟩:=ho
 refine ⟨h1,?_⟩
 rcases h2 with h2 | ⟨g,cap,cur,rfl,hg,hh,r⟩
 · exact Or.inl h2
 · exact Or.inr ⟨g,cap,cur,rfl,hg,h.blk hh (hv g rfl),r⟩
theorem Only.keepT {t : TypeId} (h : Only S w w') (ht : ∀ k cs,S k->¬ Blk w k t cs) : KeepT t w w':=fun g cs hb => h.blk hb fun hs => ht g cs hs hb
end
end Go.Proofs.YtiiljlmeililbaaGreatDoor
