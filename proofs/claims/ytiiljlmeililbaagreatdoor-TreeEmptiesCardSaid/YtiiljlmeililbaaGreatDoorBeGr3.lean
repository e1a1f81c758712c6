/-
  Rows of bytes that a call owns, over this seat's program: append in three shapes.
-/
import Derived.Test.YtiiljlmeililbaaGreatDoorChecked
import Derived.Test.YtiiljlmeililbaaGreatDoorBeGr1
import Derived.WalkSpells
import Derived.Maps.OwnSet
import Derived.Maps.Views
import Derived.Maps.Range
import Derived.Test.YtiiljlmeililbaaGreatDoorBeGr2
import Derived.Deep.DeepCutAuto
import Derived.IntWalk
namespace Go.Proofs.YtiiljlmeililbaaGreatDoor
set_option linter.unusedVariables false
set_option maxRecDepth 100000
open Go.RowKit
theorem byte_info : (Tryz.prog.info? 5).map (fun i => (i.zero,i.size,i.bytes))=some (some (.int .u8 0),1,1):=by kernel_rfl
def OB (w : World) (base : Nat) (v : Value) (n : Nat) (l : List UInt8) : Prop:=w.ownsRow base 5 1 v n (bv l)
section
variable {w w' : World} {base n : Nat} {v : Value} {l : List UInt8}
theorem OB.nil (w : World) (base : Nat) : OB w base (.slice none 0 0) 0 []:=⟨by simp [bv],.inl ⟨rfl,rfl⟩⟩
theorem OB.empty (w : World) {base : Nat} (h : base<=w.heap.size) : OB (w.alloc (.cells #[] 5)) base (.slice (some ⟨w.heap.size,0,none⟩) 0 0) 0 [] :=
 ⟨by simp [bv],.inr ⟨w.heap.size,0,#[],rfl,h,heap_alloc_new w _,Nat.le_refl _,Nat.zero_le _,rfl,rfl⟩⟩
theorem OB.len (h : OB w base v n l) : l.length=n:=by have:=h.1; simpa [bv] using this
theorem OB.form (h : OB w base v n l) : ∃ A c,v=.slice A n c/\RB w w.heap.size A n l/\(A=none->n=0)/\n<=c/\c<=maxLen:=by
 have h2:=h.2
 rcases h2 with ⟨rfl,rfl⟩ | ⟨g,cap,cur,rfl,_,_,h3,h4,_⟩
 · exact ⟨none,0,rfl,Reads.of_own h,fun _ => rfl,Nat.le_refl _,Nat.zero_le _⟩
 · exact ⟨_,_,rfl,Reads.of_own h,(fun e => by cases e),h3,h4⟩
theorem OB.below {B : Nat} (h : OB w base v n l) (hb : Below B w w') (hs : w.heap.size<=B) : OB w' base v n l:=by
 obtain ⟨h1,h2⟩:=h
 refine ⟨h1,?_⟩
 rcases h2 with h2 | ⟨g,cap,cur,hv,hg,hh,r⟩
 · exact Or.inl h2
 · have hlt : g < w.heap.size:=by
     rcases Nat.lt_or_ge g w.heap.size with hlt | hge
     · exact hlt
     · rw [Array.getElem?_eq_none hge] at hh; cases hh
   exact Or.inr ⟨g,cap,cur,hv,hg,by rw [hb.block g (by omega)]; exact hh,r⟩
theorem OB.more {b' : Nat} (h : OB w base v n l) (hb : b'<=base) : OB w b' v n l:=by
 obtain ⟨h1,h2⟩:=h
 refine ⟨h1,?_⟩
 rcases h2 with h2 | ⟨g,cap,cur,hv,hg,hh,r⟩
 · exact Or.inl h2
 · exact Or.inr ⟨g,cap,cur,hv,by omega,hh,r⟩
theorem OB.alloc (h : OB w base v n l) (o : Obj) : OB (w.alloc o) base v n l:=World.ownsRow.alloc h o
theorem OB.drew (h : OB w base v n l) : OB w.drew base v n l:=h
theorem OB.block_lt (h : OB w base v n l) (k : Nat) (hk : v.ownBlock=some k) : base<=k:=by
 rcases h.2 with ⟨rfl,rfl⟩ | ⟨g,cap,cur,rfl,hg,_⟩
 · simp [Value.ownBlock] at hk
 · simp [Value.ownBlock] at hk; omega
theorem OB.cell {g cap k : Nat} (h : OB w base (.slice (some ⟨g,0,none⟩) n cap) n l) (hk : k < n) (hl : k < l.length) : w.cell? ⟨g,k,none⟩=some (.int .u8 ((l[k]).toNat : Int)):=by
 rw [World.ownsRow.cellAt h k (by omega),bv_get hl]
theorem OB.froz {g cap k : Nat} (h : OB w base (.slice (some ⟨g,0,none⟩) n cap) n l) : w.frozen? ⟨g,k,none⟩=false:=World.ownsRow.frozenAt h k
theorem OB.stored {g cap : Nat} (h : OB w base (.slice (some ⟨g,0,none⟩) n cap) n l) (j : Nat) (b : UInt8) :
   OB (w.setCell ⟨g,j,none⟩ (.int .u8 (b.toNat : Int))) base (.slice (some ⟨g,0,none⟩) n cap) n (l.set j b):=by
 have:=(World.ownsRow.stored h j (.int .u8 (b.toNat : Int))).1
 unfold OB
 rw [show bv (l.set j b)=(bv l).set j (.int .u8 (b.toNat : Int)) from by simp [bv,List.map_set]]
 exact this
theorem OB.base_le {g cap : Nat} (h : OB w base (.slice (some ⟨g,0,none⟩) n cap) n l) : base<=g:=h.block_lt g rfl
theorem OB.parts (h : OB w base v n l) : (v=.slice none 0 0/\n=0/\l=[]) \/ ∃ g cap,v=.slice (some ⟨g,0,none⟩) n cap/\n<=cap/\cap<=maxLen:=by
 rcases h.2 with ⟨rfl,rfl⟩ | ⟨g,cap,cur,rfl,_,_,h3,h4,_⟩
 · exact .inl ⟨rfl,rfl,List.eq_nil_of_length_eq_zero h.len⟩
 · exact .inr ⟨g,cap,rfl,h3,h4⟩
end
theorem RB.one_new (w : World) (b : UInt8) (t : TypeId) : RB (w.alloc (.cells #[.int .u8 (b.toNat : Int)] t)) (w.heap.size + 1) (some ⟨w.heap.size,0,none⟩) 1 [b]:=by
 refine ⟨by simp [bv],fun _ => ⟨_,rfl,by simp,fun j u hj => ?_⟩⟩
 match j,hj with
 | 0,hj => simp [bv] at hj; subst hj; simp [Addr.add]
def RetB (W : World) (l : List UInt8) (e : Ending) (w' : World) : Prop:=∃ v,e=.returned v/\OB w' W.heap.size v l.length l/\Below W.heap.size W w'
theorem RetB.mk {W w' : World} {l : List UInt8} {v : Value} {n : Nat} (h : OB w' W.heap.size v n l) (hb : Below W.heap.size W w') : RetB W l (.returned v) w' :=
 ⟨v,rfl,by rw [h.len]; exact h,hb⟩
section
variable {ops : Array Oper} {rest : List Oper} {o : Oper} {a : Act} {Q : Exit->Act->World->Prop}
theorem wpList_app_b {w : World} (hgd : o.guard=none) (s x : Operand) (ho : o.op=.call { callee:=.builtin .append,args:=#[s,x],argTypes:=#[37,37] })
   (base : Nat) (v : Value) (n : Nat) (l : List UInt8) (hown : OB w base v n l) (hs : a.eval s=v)
   (B : Nat) (A : Option Addr) (m c : Nat) (news : List UInt8) (hx : a.eval x=.slice A m c) (hr : RB w B A m news)
   (hlen : n + m<=140737488351232) (hbase : base<=w.heap.size)
   (h : ∀ v' w',OB w' base v' (n + m) (l ++ news)->Below base w w'->w.grownBy w' v.ownBlock->(v'.ownBlock=v.ownBlock \/ v'.ownBlock=some w.heap.size)->wpList Tryz.prog ops Q rest (a.put o.dst v') w') :
   wpList Tryz.prog ops Q (o :: rest) a w:=by
 obtain ⟨i0,hi0,hz0,hz1,hz2⟩:=info_parts byte_info
 refine wpList_append_any w hgd s x _ ho base 5 i0 _ 1 1 Tryz.underlying37 hi0 hz0 hz1 hz2 rfl (by omega) v n (bv l) hs hown B A m c (bv news) hx hr (bv_one _)
   (by simp only [maxLen]; omega) (by omega) hbase fun v' w' h1 h2 h3 => ?_
 rw [<- bv_append] at h1
 exact h v' w' h1 ((Below.refl _ _).grown h2 hbase fun k hk => hown.block_lt k hk) h2 h3
theorem wpList_app_1 {w : World} {x' : Int} {t : TypeId} (b : UInt8) (hbx : x'=(b.toNat : Int)) (hgd : o.guard=none) (s x : Operand) (ho : o.op=.call { callee:=.builtin .append,args:=#[s,x],argTypes:=#[37,37] })
   (base : Nat) (v : Value) (n : Nat) (l : List UInt8) (hown : OB w base v n l) (hs : a.eval s=v) (c : Nat)
   (hx : a.eval x=.slice (some ⟨w.heap.size,0,none⟩) 1 c)
   (hlen : n + 1<=140737488351232) (hbase : base<=w.heap.size)
   (h : ∀ v' w',OB w' base v' (n + 1) (l ++ [b])->Below base w w'->w.grownBy w' v.ownBlock->wpList Tryz.prog ops Q rest (a.put o.dst v') w') :
   wpList Tryz.prog ops Q (o :: rest) a (w.alloc (.cells #[.int .u8 x'] t)):=by
 subst hbx
 refine wpList_app_b hgd s x ho base v n l (hown.alloc _) hs _ _ 1 c [b] hx (RB.one_new w b t) hlen (by simp; omega) fun v' w' h1 h2 h3 h4 => ?_
 refine h v' w' h1 ?_ ⟨h3.os,h3.tape,h3.output,?_,fun k hk hne => ?_⟩
 · exact ((Below.refl _ _).alloc hbase _).trans h2
 · have:=h3.size; simp at this; omega
 · rw [h3.block k (by simp; omega) hne]
   exact Below.heap_alloc _ _ _ hk
end
def Mine (F : Nat->Prop) (w : World) (k : Nat) : Prop:=k < w.heap.size/\¬ F k
structure Ev (F : Nat->Prop) (w : World) (F' : Nat->Prop) (w' : World) : Prop where
 only : Only F w w'
 grow : ∀ k,F' k->F k \/ w.heap.size<=k
def plus (F : Nat->Prop) (g : Nat) : Nat->Prop:=fun k => F k \/ k=g
section
variable {F F' F'' X : Nat->Prop} {w w' w'' : World} {k : Nat}
theorem Ev.size (h : Ev F w F' w') : w.heap.size<=w'.heap.size:=h.only.size
theorem Ev.refl (F : Nat->Prop) (w : World) : Ev F w F w:=⟨Only.refl F w,fun _ h => .inl h⟩
theorem Ev.trans (h : Ev F w F' w') (h2 : Ev F' w' F'' w'') : Ev F w F'' w'' :=
 ⟨h.only.trans h2.only fun i hi hF => (h.grow i hF).elim id fun hge => absurd hge (by omega),
  fun k hk => (h2.grow k hk).elim (fun h3 => h.grow k h3) fun h3 => .inr (Nat.le_trans h.size h3)⟩
theorem Ev.mono (h : Ev F w F' w') (hs : ∀ k,F'' k->F' k) : Ev F w F'' w':=⟨h.only,fun k hk => h.grow k (hs k hk)⟩
theorem Ev.add (h : Ev F w F' w') (X : Nat->Prop) : Ev (fun k => F k \/ X k) w (fun k => F' k \/ X k) w' :=
 ⟨h.only.mono fun _ _ h => .inl h,fun k hk => hk.elim (fun h1 => (h.grow k h1).imp .inl id) fun h1 => .inl (.inr h1)⟩
theorem Ev.of_below (h : Below w.heap.size w w') : Ev F w F w':=⟨(Only.of_below h),fun _ h => .inl h⟩
theorem Ev.drew (h : Ev F w F' w') : Ev F w F' w'.drew:=⟨h.only.drew,h.grow⟩
theorem Ev.drewN (h : Ev F w F' w') (n : Nat) : Ev F w F' (w'.drewN n):=⟨h.only.drewN n,h.grow⟩
theorem Ev.alloc (h : Ev F w F' w') (o : Obj) : Ev F w (Go.Proofs.YtiiljlmeililbaaGreatDoor.plus F' w'.heap.size) (w'.alloc o) :=
 ⟨h.only.alloc o,fun k hk => hk.elim (h.grow k) fun e => .inr (by rw [e]; exact h.size)⟩
theorem Ev.alloc_ (h : Ev F w F' w') (o : Obj) : Ev F w F' (w'.alloc o):=⟨h.only.alloc o,h.grow⟩
theorem Ev.set_ (h : Ev F w F' w') {p : Addr} (hp : F' p.block) (u : Value) : Ev F w F' (w'.setCell p u) :=
 h.trans ⟨(Only.refl F' w').setCell (fun _ => hp) u,fun _ h => .inl h⟩
theorem Ev.below (h : Ev F w F' w') (hb : Below w'.heap.size w' w'') : Ev F w F' w'':=h.trans (Ev.of_below hb)
theorem Ev.grown (h : Ev F w F' w') {row : Option Nat} (hg : w'.grownBy w'' row) (hr : ∀ k,row=some k->F' k) : Ev F w F' w'' :=
 h.trans ⟨(Only.refl F' w').grown hg fun k hk _ => hr k hk,fun _ h => .inl h⟩
theorem Ev.block (h : Ev F w F' w') (hk : Mine F w k) : w'.heap[k]?=w.heap[k]?:=h.only.block k hk.1 hk.2
theorem Ev.mine (h : Ev F w F' w') (hk : Mine F w k) : Mine F' w' k:=⟨Nat.lt_of_lt_of_le hk.1 h.size,fun hF => (h.grow k hF).elim hk.2 fun hge => absurd hge (by have:=hk.1; omega)⟩
theorem Ev.blk (h : Ev F w F' w') {t : TypeId} {cs : Array Value} (hb : Blk w k t cs) (hk : ¬ F k) : Blk w' k t cs:=h.only.blk hb hk
theorem Ev.cell (h : Ev F w F' w') {p : Addr} (hk : Mine F w p.block) : w'.cell? p=w.cell? p:=World.cell?_of_block (h.block hk)
theorem Ev.new (h : Ev F w F' w') (hk : ¬ F k) (hl : k < w.heap.size) : ¬ F' k:=(h.mine ⟨hl,hk⟩).2
end
def Rd (G : Nat->Prop) (w : World) (size : Nat) (A : Option Addr) (n : Nat) (xs : List Value) : Prop :=
 xs.length=n * size/\(0 < n->∃ ad,A=some ad/\G ad.block/\∀ j u,xs[j]?=some u->w.cell? (ad.add j)=some u)
section
variable {G G' F F' : Nat->Prop} {w w' : World} {size n : Nat} {A : Option Addr} {xs : List Value}
theorem Rd.none_ : Rd G w size A 0 []:=⟨by simp,fun h => absurd h (by omega)⟩
theorem Rd.keep (h : Rd G w size A n xs) (hk : ∀ k,G k->G' k/\w'.heap[k]?=w.heap[k]?) : Rd G' w' size A n xs :=
 ⟨h.1,fun hn => by
   obtain ⟨ad,e,hb,hc⟩:=h.2 hn
   exact ⟨ad,e,(hk _ hb).1,fun j u hu => (World.cell?_of_block (by rw [block_of_add]; exact (hk _ hb).2)).trans (hc j u hu)⟩⟩
theorem Rd.ev (h : Rd (Mine F w) w size A n xs) (he : Ev F w F' w') : Rd (Mine F' w') w' size A n xs:=h.keep fun k hk => ⟨he.mine hk,he.block hk⟩
theorem Rd.reads (h : Rd G w size A n xs) {B : Nat} (hB : ∀ k,G k->k < B) : Reads w B size A n xs :=
 ⟨h.1,fun hn => by
   obtain ⟨ad,e,hb,hc⟩:=h.2 hn
   exact ⟨ad,e,hB _ hb,hc⟩⟩
theorem Rd.readsM (h : Rd (Mine F w) w size A n xs) : Reads w w.heap.size size A n xs:=h.reads fun _ hk => hk.1
theorem Rd.of_reads {B : Nat} (h : Reads w B size A n xs) (hB : ∀ k,k < B->G k) : Rd G w size A n xs :=
 ⟨h.1,fun hn => by
   obtain ⟨ad,e,hb,hc⟩:=h.2 hn
   exact ⟨ad,e,hB _ hb,hc⟩⟩
theorem Rd.of_own {base : Nat} {e : TypeId} {c : Nat} (h : w.ownsRow base e size (.slice A n c) n xs) (hG : ∀ k,base<=k->k < w.heap.size->G k) : Rd G w size A n xs:=by
 refine ⟨h.1,fun hn => ?_⟩
 obtain ⟨g,cap,hv,hb,hlt⟩:=h.form hn
 have hA : A=some ⟨g,0,none⟩:=by injection hv
 subst hA
 exact ⟨_,rfl,hG g hb hlt,h.cells (g:=g) rfl⟩
theorem Rd.cut (h : Rd G w size A n xs) {k cap : Nat} (hk : k<=n) (hc : n<=cap) :
   Rd G w size (if cap=k then A else A.map (·.add (k * size))) (n - k) (xs.drop (k * size)):=by
 refine ⟨by rw [List.length_drop,h.1,Nat.sub_mul],fun hn => ?_⟩
 obtain ⟨ad,rfl,hb,hcell⟩:=h.2 (by omega)
 rw [if_neg (by omega)]
 refine ⟨ad.add (k * size),rfl,by rw [block_of_add]; exact hb,fun j u hu => ?_⟩
 rw [add_of_add]
 exact hcell _ u (by rw [<- hu,List.getElem?_drop])
theorem Rd.take (h : Rd G w size A n xs) {k : Nat} (hk : k<=n) : Rd G w size A k (xs.take (k * size)):=by
 refine ⟨by rw [List.length_take,h.1]; exact Nat.min_eq_left (Nat.mul_le_mul_right _ hk),fun h0 => ?_⟩
 obtain ⟨ad,e,hb,hc⟩:=h.2 (by omega)
 refine ⟨ad,e,hb,fun j u hu => hc j u ?_⟩
 have hj:=(List.getElem?_eq_some_iff.1 hu).1
 rw [List.length_take] at hj
 rw [<- hu,List.getElem?_take,if_pos (by omega)]
end
def MB (F : Nat->Prop) (w : World) (A : Option Addr) (n : Nat) (l : List UInt8) : Prop:=Rd (Mine F w) w 1 A n (bv l)
section
variable {F F' : Nat->Prop} {w w' : World} {n : Nat} {A : Option Addr} {l : List UInt8}
theorem MB.len (h : MB F w A n l) : l.length=n:=by have:=h.1; simpa [bv] using this
theorem MB.ev (h : MB F w A n l) (he : Ev F w F' w') : MB F' w' A n l:=Rd.ev h he
theorem MB.rb (h : MB F w A n l) : RB w w.heap.size A n l:=Rd.readsM h
theorem MB.sub (h : MB F w A n l) (hs : ∀ k,F' k->F k) : MB F' w A n l:=h.keep fun k hk => ⟨⟨hk.1,fun hF => hk.2 (hs k hF)⟩,rfl⟩
theorem MB.of_own {base c : Nat} (h : OB w base (.slice A n c) n l) (hG : ∀ k,base<=k->¬ F k) : MB F w A n l:=Rd.of_own h fun k hb hl => ⟨hl,hG k hb⟩
theorem MB.made {base c : Nat} (h : OB w' base (.slice A n c) n l) (hF : ∀ k,F k->k < base) : MB F w' A n l:=MB.of_own h fun k hb hk => by have:=hF k hk; omega
theorem MB.take (h : MB F w A n l) {k : Nat} (hk : k<=n) : MB F w A k (l.take k):=by
 have:=Rd.take h hk
 rw [Nat.mul_one] at this
 unfold MB bv at *
 rw [List.map_take]
 exact this
theorem MB.cut (h : MB F w A n l) {k cap : Nat} (hk : k<=n) (hc : n<=cap) : MB F w (if cap=k then A else A.map (·.add k)) (n - k) (l.drop k):=by
 have:=Rd.cut h hk hc
 rw [Nat.mul_one] at this
 unfold MB bv at *
 rw [List.map_drop]
 exact this
end
end Go.Proofs.YtiiljlmeililbaaGreatDoor
namespace Go.Proofs.YtiiljlmeililbaaGreatDoor
set_option linter.unusedVariables false
set_option maxRecDepth 100000
def leB : Nat->Nat->List UInt8
 | 0,_ => []
 | k + 1,n => UInt8.ofNat (n % 256) :: leB k (n / 256)
def numL : List UInt8->Nat
 | [] => 0
 | b :: r => b.toNat + 256 * numL r
theorem leB_len : ∀ k n,(leB k n).length=k
 | 0,_ => rfl
 | k + 1,n => by rw [leB,List.length_cons,leB_len]
theorem byte_of (n : Nat) : (UInt8.ofNat (n % 256)).toNat=n % 256:=by rw [UInt8.toNat_ofNat']; omega
theorem numL_leB : ∀ k n,numL (leB k n)=n % 256 ^ k
 | 0,n => by rw [leB,numL,Nat.pow_zero,Nat.mod_one]
 | k + 1, n => by
   rw [leB,numL,numL_leB k,byte_of,Nat.pow_succ,Nat.mul_comm (256 ^ k) 256,Nat.mod_mul]
theorem leB_snoc : ∀ k n,leB (k + 1) n=leB k n ++ [UInt8.ofNat (n / 256 ^ k % 256)]
 | 0,n => by rw [leB,leB,leB,Nat.pow_zero,Nat.div_one]; rfl
 | k + 1, n => by
   rw [leB,leB_snoc k (n / 256),leB,List.cons_append,Nat.div_div_eq_div_mul,Nat.pow_succ,Nat.mul_comm (256 ^ k) 256]
theorem numL_lt : ∀ l,numL l < 256 ^ l.length
 | [] => by simp [numL]
 | b :: r => by
   have h:=numL_lt r
   have hb:=b.toNat_lt
   rw [numL,List.length_cons,Nat.pow_succ]
   omega
theorem numL_drop (l : List UInt8) (k : Nat) (hk : k < l.length) : numL (l.drop k)=l[k].toNat + 256 * numL (l.drop (k + 1)):=by
 rw [List.drop_eq_getElem_cons hk,numL]
def leBs (k : Nat) (ns : List Nat) : List UInt8:=ns.flatMap (leB k)
theorem leBs_snoc (k : Nat) (ns : List Nat) (i : Nat) (hi : i < ns.length) : leBs k (ns.take (i + 1))=leBs k (ns.take i) ++ leB k (ns.getD i 0):=by
 rw [List.take_succ_eq_append_getElem hi,leBs,leBs,List.flatMap_append,List.getD_eq_getElem?_getD,List.getElem?_eq_getElem hi]
 simp
theorem leBs_len (k : Nat) : ∀ ns,(leBs k ns).length=k * ns.length
 | [] => by simp [leBs]
 | n :: r => by
   have:=leBs_len k r
   unfold leBs at *
   rw [List.flatMap_cons,List.length_append,leB_len,this,List.length_cons,Nat.mul_succ]; omega
def ltK : List UInt8->List UInt8->Bool
 | _,[] => false
 | [],_ :: _ => true
 | a :: r,b :: s => if a.toNat < b.toNat then true else if b.toNat < a.toNat then false else ltK r s
theorem ltK_nil (a : List UInt8) : ltK a []=false:=by cases a <;> rfl
theorem ltK_irrefl : ∀ a,ltK a a=false
 | [] => rfl
 | a :: r => by rw [ltK,if_neg (by omega),if_neg (by omega),ltK_irrefl r]
theorem ltK_trans : ∀ a b c,ltK a b=true->ltK b c=true->ltK a c=true
 | _,_,[],_,h => by rw [ltK_nil] at h; cases h
 | _,[],_ :: _,h,_ => by rw [ltK_nil] at h; cases h
 | [],_ :: _,_ :: _,_,_ => rfl
 | a :: r, b :: s, c :: t, h, k => by
   rw [ltK] at h k ⊢
   by_cases h1 : a.toNat < b.toNat
   · by_cases h2 : b.toNat < c.toNat
     · rw [if_pos (by omega)]
     · rw [if_neg h2] at k
       by_cases h3 : c.toNat < b.toNat
       · rw [if_pos h3] at k; cases k
       · rw [if_pos (by omega)]
   · rw [if_neg h1] at h
     by_cases h2 : b.toNat < a.toNat
     · rw [if_pos h2] at h; cases h
     · rw [if_neg h2] at h
       by_cases h3 : b.toNat < c.toNat
       · rw [if_pos (by omega)]
       · rw [if_neg h3] at k
         by_cases h4 : c.toNat < b.toNat
         · rw [if_pos h4] at k; cases k
         · rw [if_neg h4] at k
           rw [if_neg (by omega),if_neg (by omega)]
           exact ltK_trans r s t h k
theorem ltK_asymm (a b : List UInt8) (h : ltK a b=true) : ltK b a=false:=by
 cases hb : ltK b a with
 | false => rfl
 | true => have:=ltK_trans a b a h hb; rw [ltK_irrefl] at this; cases this
theorem ltK_total : ∀ a b,ltK a b=false->ltK b a=false->a=b
 | [],[],_,_ => rfl
 | [],_ :: _,h,_ => by cases h
 | _ :: _,[],_,h => by cases h
 | a :: r, b :: s, h, k => by
   rw [ltK] at h k
   by_cases h1 : a.toNat < b.toNat
   · rw [if_pos h1] at h; cases h
   · rw [if_neg h1] at h
     by_cases h2 : b.toNat < a.toNat
     · rw [if_pos h2] at k; cases k
     · rw [if_neg h2] at h k
       rw [if_neg h1] at k
       have e : a=b:=UInt8.toNat_inj.1 (by omega)
       rw [e,ltK_total r s h k]
theorem ltK_le_trans (a b c : List UInt8) (h : ltK a b=true) (k : ltK c b=false) : ltK a c=true:=by
 cases hac : ltK a c with
 | true => rfl
 | false =>
   cases hca : ltK c a with
   | true => have:=ltK_trans c a b hca h; rw [this] at k; cases k
   | false => have:=ltK_total a c hac hca; subst this; rw [h] at k; cases k
theorem le_ltK_trans (a b c : List UInt8) (h : ltK b a=false) (k : ltK b c=true) : ltK a c=true:=by
 cases hac : ltK a c with
 | true => rfl
 | false =>
   cases hab : ltK a b with
   | true => have:=ltK_trans a b c hab k; rw [this] at hac; cases hac
   | false => have:=ltK_total a b hab h; subst this; rw [k] at hac; cases hac
structure CellP where
 key : List UInt8
 val : List UInt8
 over : Nat
 long : Nat
structure NodeP where
 leaf : Bool
 cells : List CellP
 kids : List Nat
def childN (n : Nat) : Prop:=1<=n/\n < 16777216
def CellOk (c : CellP) : Prop:=(c.over=0/\c.long=0/\c.val.length<=64) \/ (childN c.over/\64 < c.long/\c.long<=20000/\c.val=[])
def BareCell (c : CellP) : Prop:=c.over=0/\c.long=0/\c.val=[]
def RiseC : List CellP->Prop
 | [] => True
 | c :: r => (∀ d ∈ r,ltK c.key d.key=true)/\RiseC r
structure RightP (n : NodeP) : Prop where
 kidsLeaf : n.leaf=true->n.kids=[]
 kidsIn : n.leaf=false->n.kids.length=n.cells.length + 1
 many : n.cells.length < 65536
 keys : ∀ c ∈ n.cells,1<=c.key.length/\c.key.length<=120
 rise : RiseC n.cells
 vals : ∀ c ∈ n.cells,if n.leaf=true then CellOk c else BareCell c
 kidsOk : ∀ k ∈ n.kids,childN k
def cellB (leaf : Bool) (c : CellP) (kid : Nat) : List UInt8 :=
 UInt8.ofNat c.key.length :: (c.key ++ (if leaf=true then (if c.over=0 then leB 2 c.val.length ++ c.val else leB 2 c.long ++ leB 3 c.over) else leB 3 kid))
def cellsB (leaf : Bool) : List CellP->List Nat->List UInt8
 | [],_ => []
 | c :: r,ks => cellB leaf c (ks.headD 0) ++ cellsB leaf r ks.tail
def headB (n : NodeP) : List UInt8:=(if n.leaf=true then 1 else 2) :: (leB 2 n.cells.length ++ (if n.leaf=true then [] else leB 3 (n.kids.headD 0)))
def packP (n : NodeP) : List UInt8:=headB n ++ cellsB n.leaf n.cells n.kids.tail
def cellZ (leaf : Bool) (c : CellP) : Nat:=1 + c.key.length + (if leaf=true then (if c.over=0 then 2 + c.val.length else 5) else 3)
def cellsZ (leaf : Bool) : List CellP->Nat
 | [] => 0
 | c :: r => cellZ leaf c + cellsZ leaf r
def sizeP (n : NodeP) : Nat:=(if n.leaf=true then 3 else 6) + cellsZ n.leaf n.cells
theorem cellB_len (leaf : Bool) (c : CellP) (kid : Nat) : (cellB leaf c kid).length=cellZ leaf c:=by
 unfold cellB cellZ
 cases leaf with
 | false => simp [leB_len]; omega
 | true =>
   by_cases h : c.over=0
   · simp [leB_len,h]; omega
   · simp [leB_len,h]; omega
theorem cellsB_len (leaf : Bool) : ∀ cs ks,(cellsB leaf cs ks).length=cellsZ leaf cs
 | [],_ => rfl
 | c :: r,ks => by rw [cellsB,cellsZ,List.length_append,cellB_len,cellsB_len leaf r]
theorem packP_len (n : NodeP) : (packP n).length=sizeP n:=by
 unfold packP sizeP headB
 rw [List.length_append,cellsB_len]
 cases n.leaf <;> simp [leB_len] <;> omega
theorem cellsB_append (leaf : Bool) : ∀ a b ks,cellsB leaf (a ++ b) ks=cellsB leaf a ks ++ cellsB leaf b (ks.drop a.length)
 | [],b,ks => by simp [cellsB]
 | c :: r, b, ks => by
   rw [List.cons_append,cellsB,cellsB,cellsB_append leaf r b,List.append_assoc,List.length_cons]
   congr 2
   cases ks <;> simp
theorem cellsZ_append (leaf : Bool) : ∀ a b,cellsZ leaf (a ++ b)=cellsZ leaf a + cellsZ leaf b
 | [],b => by simp [cellsZ]
 | c :: r,b => by rw [List.cons_append,cellsZ,cellsZ,cellsZ_append leaf r b,Nat.add_assoc]
def preB (n : NodeP) (i : Nat) : List UInt8:=headB n ++ cellsB n.leaf (n.cells.take i) n.kids.tail
theorem preB_zero (n : NodeP) : preB n 0=headB n:=by unfold preB; rw [List.take_zero,cellsB,List.append_nil]
theorem preB_succ (n : NodeP) (i : Nat) (hi : i < n.cells.length) : preB n (i + 1)=preB n i ++ cellB n.leaf n.cells[i] (n.kids.getD (i + 1) 0):=by
 unfold preB
 rw [List.take_succ_eq_append_getElem hi,cellsB_append,List.append_assoc,cellsB,cellsB,List.append_nil,List.length_take,Nat.min_eq_left (Nat.le_of_lt hi)]
 congr 3
 cases h : n.kids with
 | nil => simp
 | cons k r => simp [List.headD_eq_head?_getD,List.head?_drop]
theorem preB_all (n : NodeP) : preB n n.cells.length=packP n:=by unfold preB packP; rw [List.take_length]
theorem packP_at (n : NodeP) (i : Nat) (hi : i < n.cells.length) : ∃ rest,packP n=preB n i ++ (cellB n.leaf n.cells[i] (n.kids.getD (i + 1) 0) ++ rest):=by
 refine ⟨cellsB n.leaf (n.cells.drop (i + 1)) (n.kids.tail.drop (i + 1)),?_⟩
 have h:=preB_succ n i hi
 have e : packP n=preB n (i + 1) ++ cellsB n.leaf (n.cells.drop (i + 1)) (n.kids.tail.drop (i + 1)):=by
   unfold packP preB
   rw [List.append_assoc]
   congr 1
   have:=cellsB_append n.leaf (n.cells.take (i + 1)) (n.cells.drop (i + 1)) n.kids.tail
   rw [List.take_append_drop,List.length_take,Nat.min_eq_left (by omega)] at this
   exact this
 rw [e,h,List.append_assoc]
def zB (n : Nat) : List UInt8:=List.replicate n 0
theorem zB_len (n : Nat) : (zB n).length=n:=by simp [zB]
structure PgS where
 many : Nat
 free : Nat
 roots : Nat->Nat
 page : Nat->List UInt8
def PgS.upd (st : PgS) (no : Nat) (b : List UInt8) : PgS:={ st with page:=fun k => if k=no then b else st.page k }
def PgS.has (st : PgS) (no : Nat) : Prop:=1<=no/\no < st.many
structure PgS.ok (st : PgS) : Prop where
 one : 1<=st.many
 most : st.many<=65536
 free : st.free < st.many
 roots : ∀ k,st.roots k < st.many
 len : ∀ no,st.has no->(st.page no).length=508
def CanAlloc (st : PgS) : Prop:=(st.free=0/\st.many < 65536) \/ (st.free ≠ 0/\numL ((st.page st.free).take 4) < st.many)
def allocN (st : PgS) : Nat:=if st.free=0 then st.many else st.free
def allocS (st : PgS) : PgS :=
 if st.free=0 then { st.upd st.many (zB 508) with many:=st.many + 1 } else { st.upd st.free (zB 508) with free:=numL ((st.page st.free).take 4) }
def freeS (st : PgS) (no : Nat) : PgS:={ st.upd no (leB 4 st.free ++ zB 504) with free:=no }
def writeS (st : PgS) (no : Nat) (b : List UInt8) : PgS:=st.upd no (b ++ zB (508 - b.length))
def setRootS (st : PgS) (k no : Nat) : PgS:={ st with roots:=fun j => if j=k then no else st.roots j }
theorem PgS.ok.upd {st : PgS} (h : st.ok) (no : Nat) (b : List UInt8) (hb : b.length=508) : (st.upd no b).ok:=by
 refine ⟨h.one,h.most,h.free,h.roots,fun k hk => ?_⟩
 show (if k=no then b else st.page k).length=508
 split
 · exact hb
 · exact h.len k hk
theorem PgS.ok.write {st : PgS} (h : st.ok) (no : Nat) (b : List UInt8) (hb : b.length<=508) : (writeS st no b).ok:=h.upd no _ (by rw [List.length_append,zB_len]; omega)
theorem PgS.ok.freed {st : PgS} (h : st.ok) (no : Nat) (hn : st.has no) : (freeS st no).ok:=by
 have h1:=h.upd no (leB 4 st.free ++ zB 504) (by rw [List.length_append,zB_len,leB_len])
 exact ⟨h1.one,h1.most,hn.2,h1.roots,h1.len⟩
theorem PgS.ok.set {st : PgS} (h : st.ok) (k no : Nat) (hn : no < st.many) : (setRootS st k no).ok:=by
 refine ⟨h.one,h.most,h.free,fun j => ?_,h.len⟩
 show (if j=k then no else st.roots j) < st.many
 split
 · exact hn
 · exact h.roots j
theorem PgS.ok.alloc {st : PgS} (h : st.ok) (hc : CanAlloc st) : (allocS st).ok/\(allocS st).has (allocN st):=by
 unfold allocS allocN
 by_cases h0 : st.free=0
 · rw [if_pos h0, if_pos h0]
   rcases hc with hc | hc
   · refine ⟨⟨by show 1 <= st.many + 1; omega, by show st.many + 1 <= 65536; omega, by show st.free < st.many + 1; have := h.free; omega, fun k => by show st.roots k < st.many + 1; have := h.roots k; omega, fun k hk => ?_⟩, by have := h.one; exact this, Nat.lt_succ_self _⟩
     show (if k=st.many then zB 508 else st.page k).length=508
     by_cases e : k=st.many
     · rw [if_pos e,zB_len]
     · rw [if_neg e]
       exact h.len k ⟨hk.1,by have h2 : k < st.many + 1:=hk.2; omega⟩
   · exact absurd h0 hc.1
 · rw [if_neg h0, if_neg h0]
   rcases hc with hc | hc
   · exact absurd hc.1 h0
   · have h1 := h.upd st.free (zB 508) (zB_len _)
     exact ⟨⟨h1.one,h1.most,hc.2,h1.roots,h1.len⟩,by have:=h.free; exact ⟨by omega,this⟩⟩
def IsNode (b : List UInt8) (n : NodeP) : Prop:=RightP n/\∃ z,b=packP n ++ zB z
def LoadR (st : PgS) (no : Nat) (n : NodeP) : Prop:=st.has no/\IsNode (st.page no) n
def CanSave (st : PgS) (no : Nat) (n : NodeP) : Prop:=st.has no/\RightP n/\sizeP n<=508
def saveS (st : PgS) (no : Nat) (n : NodeP) : PgS:=writeS st no (packP n)
theorem PgS.ok.save {st : PgS} {no : Nat} {n : NodeP} (h : st.ok) (hc : CanSave st no n) : (saveS st no n).ok:=h.write no _ (by rw [packP_len]; exact hc.2.2)
theorem load_saved {st : PgS} {no : Nat} {n : NodeP} (hc : CanSave st no n) : LoadR (saveS st no n) no n:=by
 refine ⟨hc.1,hc.2.1,508 - (packP n).length,?_⟩
 show (if no=no then _ else _)=_
 rw [if_pos rfl]
def findI (cs : List CellP) (key : List UInt8) : Nat:=(cs.takeWhile fun c => ltK c.key key).length
def keyAt (cs : List CellP) (i : Nat) (key : List UInt8) : Bool:=match cs[i]? with | some c => c.key == key | none => false
def findP (n : NodeP) (key : List UInt8) : Nat × Bool :=
 if keyAt n.cells (findI n.cells key) key=true then (if n.leaf=true then findI n.cells key else findI n.cells key + 1,true) else (findI n.cells key,false)
inductive ChainR (st : PgS) : Nat->Nat->List (Nat × List UInt8)->Prop
 | nil (no : Nat) : ChainR st no 0 []
 | cons (no long : Nat) (l : List (Nat × List UInt8)) (h0 : 0 < long) (hn : st.has no) (hr : ChainR st (numL ((st.page no).take 3)) (long - 505) l) :
     ChainR st no long ((no,((st.page no).drop 3).take (min long 505)) :: l)
def piecesUp (b : List UInt8) (k : Nat) : List (List UInt8):=(List.range k).map fun i => (b.drop (505 * i)).take 505
inductive OverR : PgS->List (List UInt8)->Nat->PgS->Nat->Prop
 | nil (st : PgS) (o : Nat) : OverR st [] o st o
 | cons (st st' : PgS) (b : List UInt8) (r : List (List UInt8)) (o o' : Nat) (ha : CanAlloc st) (hr : OverR (writeS (allocS st) (allocN st) (leB 3 o ++ b)) r (allocN st) st' o') : OverR st (b :: r) o st' o'
def CellR (st : PgS) (key b : List UInt8) (st' : PgS) (c : CellP) : Prop :=
 (b.length<=64/\st'=st/\c=⟨key,b,0,0⟩) \/ (64 < b.length/\∃ o,OverR st (piecesUp b ((b.length + 504) / 505)).reverse 0 st' o/\c=⟨key,[],o,b.length⟩)
inductive DropsR : PgS->Nat->Nat->PgS->Prop
 | nil (st : PgS) (no : Nat) : DropsR st no 0 st
 | cons (st st' : PgS) (no long : Nat) (h0 : 0 < long) (hn : st.has no) (hr : DropsR (freeS st no) (numL ((st.page no).take 3)) (long - 505) st') : DropsR st no long st'
def DropR (st : PgS) (c : CellP) (st' : PgS) : Prop:=(c.over=0/\st'=st) \/ (c.over ≠ 0/\DropsR st c.over c.long st')
def partP (n : NodeP) (a b : Nat) : NodeP:=⟨n.leaf,(n.cells.drop a).take (b - a),if n.leaf=true then [] else (n.kids.drop a).take (b + 1 - a)⟩
def skipN (n : NodeP) : Nat:=if n.leaf=true then 0 else 1
def bigAt (n : NodeP) (m : Nat) : Nat:=max (sizeP (partP n 0 m)) (sizeP (partP n (m + skipN n) n.cells.length))
def bestTo (n : NodeP) : Nat->Nat × Nat
 | 0 => (0,0)
 | j + 1 => if (1<=j/\j + skipN n < n.cells.length)/\((bestTo n j).1=0 \/ bigAt n j < (bestTo n j).1) then (bigAt n j,j) else bestTo n j
def cutAt (n : NodeP) : Nat:=(bestTo n n.cells.length).2
def keyOfC (cs : List CellP) (i : Nat) : List UInt8:=match cs[i]? with | some c => c.key | none => []
def halfA (n : NodeP) : NodeP:=partP n 0 (cutAt n)
def halfB (n : NodeP) : NodeP:=partP n (cutAt n + skipN n) n.cells.length
def halfK (n : NodeP) : List UInt8:=keyOfC n.cells (cutAt n)
def PartsOk (n : NodeP) : Prop:=1 + skipN n < n.cells.length/\∀ m,1<=m->m + skipN n < n.cells.length->RightP (partP n 0 m)/\RightP (partP n (m + skipN n) n.cells.length)
inductive LayR : PgS->Nat->NodeP->PgS->Option (List UInt8 × Nat)->Prop
 | fits (st : PgS) (no : Nat) (n : NodeP) (hc : CanSave st no n) : LayR st no n (saveS st no n) none
 | split (st : PgS) (no : Nat) (n : NodeP) (hr : RightP n) (hz : 508 < sizeP n) (hm : sizeP n<=760) (hp : PartsOk n) (ha : CanSave st no (halfA n)) (hal : CanAlloc (saveS st no (halfA n)))
     (hb : CanSave (allocS (saveS st no (halfA n))) (allocN (saveS st no (halfA n))) (halfB n)) :
     LayR st no n (saveS (allocS (saveS st no (halfA n))) (allocN (saveS st no (halfA n))) (halfB n)) (some (halfK n,allocN (saveS st no (halfA n))))
def joinP (a : NodeP) (key : List UInt8) (b : NodeP) : NodeP :=
 ⟨a.leaf,a.cells ++ (if a.leaf=true then [] else [⟨key,[],0,0⟩]) ++ b.cells,if a.leaf=true then [] else a.kids ++ b.kids⟩
def kidAt (n : NodeP) (i : Nat) : Nat:=n.kids.getD i 0
def setKey (cs : List CellP) (i : Nat) (key : List UInt8) : List CellP:=cs.modify i fun c => { c with key:=key }
inductive MendR : PgS->NodeP->Nat->PgS->NodeP->Prop
 | stays (st : PgS) (n c : NodeP) (i : Nat) (hi : i < n.kids.length) (hl : LoadR st (kidAt n i) c) (h : 127<=sizeP c \/ n.kids.length=1) : MendR st n i st n
 | joins (st : PgS) (n c a b : NodeP) (i k : Nat) (hi : i < n.kids.length) (hl : LoadR st (kidAt n i) c) (h : sizeP c < 127) (h1 : n.kids.length ≠ 1) (hk : k=min i (n.kids.length - 2))
     (ha : LoadR st (kidAt n k) a) (hb : LoadR st (kidAt n (k + 1)) b) (hkc : k < n.cells.length) (hs : CanSave st (kidAt n k) (joinP a (keyOfC n.cells k) b)) (hg : st.has (kidAt n (k + 1))) :
     MendR st n i (freeS (saveS st (kidAt n k) (joinP a (keyOfC n.cells k) b)) (kidAt n (k + 1))) ⟨n.leaf,n.cells.eraseIdx k,n.kids.eraseIdx (k + 1)⟩
 | parts (st : PgS) (n c a b x : NodeP) (i k : Nat) (hi : i < n.kids.length) (hl : LoadR st (kidAt n i) c) (h : sizeP c < 127) (h1 : n.kids.length ≠ 1) (hk : k=min i (n.kids.length - 2))
     (ha : LoadR st (kidAt n k) a) (hb : LoadR st (kidAt n (k + 1)) b) (hkc : k < n.cells.length) (hx : x=joinP a (keyOfC n.cells k) b) (hxr : RightP x) (hz : 508 < sizeP x) (hm : sizeP x<=760) (hp : PartsOk x)
     (hs1 : CanSave st (kidAt n k) (halfA x)) (hs2 : CanSave (saveS st (kidAt n k) (halfA x)) (kidAt n (k + 1)) (halfB x)) :
     MendR st n i (saveS (saveS st (kidAt n k) (halfA x)) (kidAt n (k + 1)) (halfB x)) ⟨n.leaf,setKey n.cells k (halfK x),n.kids⟩
def OpR:=PgS->NodeP->Nat->Bool->PgS->NodeP->Prop
def insAt {α : Type} (l : List α) (i : Nat) (x : α) : List α:=l.take i ++ x :: l.drop i
inductive ChangeR (op : OpR) (key : List UInt8) : PgS->Nat->PgS->Option (List UInt8 × Nat)->Prop
 | leaf (st st1 st2 : PgS) (no : Nat) (n n1 : NodeP) (l : Option (List UInt8 × Nat)) (hl : LoadR st no n) (hf : n.leaf=true) (ho : op st n (findP n key).1 (findP n key).2 st1 n1) (hy : LayR st1 no n1 st2 l) : ChangeR op key st no st2 l
 | split (st st1 st2 : PgS) (no kno : Nat) (n : NodeP) (kk : List UInt8) (l : Option (List UInt8 × Nat)) (hl : LoadR st no n) (hf : n.leaf=false) (hi : (findP n key).1 < n.kids.length)
     (hc : ChangeR op key st (kidAt n (findP n key).1) st1 (some (kk,kno)))
     (hy : LayR st1 no ⟨false,insAt n.cells (findP n key).1 ⟨kk,[],0,0⟩,insAt n.kids ((findP n key).1 + 1) kno⟩ st2 l) : ChangeR op key st no st2 l
 | one (st st1 st2 st3 : PgS) (no : Nat) (n n2 : NodeP) (l : Option (List UInt8 × Nat)) (hl : LoadR st no n) (hf : n.leaf=false) (hi : (findP n key).1 < n.kids.length)
     (hc : ChangeR op key st (kidAt n (findP n key).1) st1 none) (hm : MendR st1 n (findP n key).1 st2 n2) (hy : LayR st2 no n2 st3 l) : ChangeR op key st no st3 l
inductive TopR (k : Nat) : PgS->Nat->Option (List UInt8 × Nat)->PgS->Prop
 | two (st : PgS) (no kno : Nat) (kk : List UInt8) (ha : CanAlloc st) (hs : CanSave (allocS st) (allocN st) ⟨false,[⟨kk,[],0,0⟩],[no,kno]⟩) :
     TopR k st no (some (kk,kno)) (setRootS (saveS (allocS st) (allocN st) ⟨false,[⟨kk,[],0,0⟩],[no,kno]⟩) k (allocN st))
 | stays (st : PgS) (no : Nat) (n : NodeP) (hl : LoadR st no n) (h : n.cells ≠ []) : TopR k st no none st
 | less (st : PgS) (no : Nat) (n : NodeP) (hl : LoadR st no n) (h : n.cells=[]) (hn : (if n.leaf=true then 0 else kidAt n 0) < st.many) (hh : st.has no) :
     TopR k st no none (freeS (setRootS st k (if n.leaf=true then 0 else kidAt n 0)) no)
def putOp (c : CellP) : OpR:=fun st n i is st' n' =>
 (is=false/\st'=st/\n'=⟨n.leaf,insAt n.cells i c,n.kids⟩) \/ (is=true/\∃ old,n.cells[i]?=some old/\DropR st old st'/\n'=⟨n.leaf,n.cells.set i c,n.kids⟩)
def delOp : OpR:=fun st n i is st' n' => ∃ old,n.cells[i]?=some old/\DropR st old st'/\n'=⟨n.leaf,n.cells.eraseIdx i,n.kids⟩
inductive PutR (k : Nat) (st : PgS) (key b : List UInt8) (st' : PgS) : Prop
 | first (st1 : PgS) (c : CellP) (hc : CellR st key b st1 c) (h0 : st1.roots k=0) (ha : CanAlloc st1) (hs : CanSave (allocS st1) (allocN st1) ⟨true,[c],[]⟩)
     (he : st'=setRootS (saveS (allocS st1) (allocN st1) ⟨true,[c],[]⟩) k (allocN st1))
 | more (st1 st2 : PgS) (c : CellP) (l : Option (List UInt8 × Nat)) (hc : CellR st key b st1 c) (h0 : st1.roots k ≠ 0) (hh : ChangeR (putOp c) key st1 (st1.roots k) st2 l) (ht : TopR k st2 (st1.roots k) l st')
end Go.Proofs.YtiiljlmeililbaaGreatDoor
namespace Go.Proofs.YtiiljlmeililbaaGreatDoor
set_option linter.unusedVariables false
set_option maxRecDepth 100000
open Go.RowKit Go.Maps
def heldE (v : Value) : Option (DataW Value × List MemPlace):=some (.held v,[])
def nilS : Value:=.slice none 0 0
def updO (m : Nat->Option Value) (k : Nat) (v : Option Value) : Nat->Option Value:=fun j => if j=k then v else m j
structure Keys (D : DataW Value) (N : Nat) (m : Nat->Option Value) : Prop where
 tidy : Tidy D
 only : ∀ kl,Maps.has D kl=true->∃ k : Nat,k < N/\kl=.int .i64 (k : Int)
 some_ : ∀ k v,k < N->m k=some v->Maps.has D (.int .i64 (k : Int))=true/\∀ z,D.atKey (.int .i64 (k : Int)) z=.held v
 none_ : ∀ k,k < N->m k=none->Maps.has D (.int .i64 (k : Int))=false
def IMap (w : World) (b N : Nat) (m : Nat->Option Value) : Prop:=∃ nn D,w.ownsMap Tryz.prog 3 heldE b nn D/\Keys D N m
theorem nodup_below : ∀ (N : Nat) (l : List Nat),l.Nodup->(∀ x ∈ l,x < N)->l.length<=N
 | 0,[],_,_ => Nat.le_refl _
 | 0,a :: r,_,h => absurd (h a (.head _)) (by omega)
 | N + 1, l, hd, h => by
   have h1:=nodup_below N (l.filter (fun x => x != N)) (hd.filter _) (fun x hx => by
     have h2:=List.mem_filter.1 hx
     have h3:=h x h2.1
     have h4 : x ≠ N:=by simpa using h2.2
     omega)
   have h5 : l.length<=(l.filter (fun x => x != N)).length + 1:=by
     clear h1 h
     induction l with
     | nil => simp
     | cons a r ih =>
       have hd2:=List.nodup_cons.1 hd
       by_cases e : a=N
       · subst e
         have : r.filter (fun x => x != a)=r:=List.filter_eq_self.2 fun x hx => by
           simp only [bne_iff_ne,ne_eq]; rintro rfl; exact hd2.1 hx
         rw [List.filter_cons_of_neg (by simp),this,List.length_cons]
         omega
       · rw [List.filter_cons_of_pos (by simpa using e), List.length_cons, List.length_cons]
         have:=ih hd2.2
         omega
   omega
def keyN (p : Lit × DataW Value) : Nat:=match p.1 with | .int _ a => a.toNat | _ => 0
theorem keys_size {D : DataW Value} {N : Nat} {m : Nat->Option Value} (h : Keys D N m) (he : ∃ es,D=.map es/\es.Pairwise (fun p q => p.1 ≠ q.1)/\∀ p ∈ es,WideAt.IsKeyLit p.1) : Maps.size D<=N:=by
 obtain ⟨es,rfl,hp,hlit⟩:=he
 rw [Maps.size_eq]
 have hk : ∀ p ∈ es,∃ k : Nat,k < N/\p.1=.int .i64 (k : Int):=fun p hp => h.only p.1 (by
   rw [Maps.has_eq]
   refine List.any_eq_true.2 ⟨p,hp,?_⟩
   cases hs : p.1.sameKey p.1 with
   | true => rfl
   | false => exfalso; have hl:=hlit p hp; cases e : p.1 <;> rw [e] at hs hl <;> simp [Lit.sameKey,WideAt.IsKeyLit] at hs hl)
 have hn : (es.map keyN).Nodup:=by
   rw [List.Nodup,List.pairwise_map]
   refine List.Pairwise.imp_of_mem (fun {a b} ha hb hne => ?_) hp
   obtain ⟨i,_,ei⟩:=hk a ha
   obtain ⟨j,_,ej⟩:=hk b hb
   intro e
   apply hne
   unfold keyN at e
   rw [ei,ej] at e
   simp at e
   rw [ei,ej,e]
 have h:=nodup_below N (es.map keyN) hn (fun x hx => by
   obtain ⟨p,hp,rfl⟩:=List.mem_map.1 hx
   obtain ⟨i,hi,ei⟩:=hk p hp
   unfold keyN
   rw [ei]
   simpa using hi)
 rw [List.length_map] at h
 exact h
theorem own_tight {w : World} {b nn : Nat} {D : DataW Value} (h : w.ownsMap Tryz.prog 3 heldE b nn D) : w.ownsMap Tryz.prog 3 heldE b (Maps.size D) D:=by
 obtain ⟨es,clock,hb,F,hs,rfl⟩:=h
 refine ⟨es,clock,hb,F,?_,rfl⟩
 simp [Maps.size,length_sorted]
section
variable {w w' : World} {b N : Nat} {m : Nat->Option Value}
theorem ikey (k : Nat) (hk : k < 9000000000000000000) : keyOf Tryz.prog 3 (.int .i64 (k : Int))=some (.int .i64 (k : Int)):=keyOf_int_mk Tryz.underlying3 (WalkArith.wf_i64 (by omega))
theorem zero_bs (w : World) : (zeroValue 37).run Tryz.prog w=.ok nilS w:=by kernel_rfl
theorem IMap.new (w : World) (N : Nat) : IMap (w.alloc (.map #[] 0)) w.heap.size N (fun _ => none) :=
 ⟨0,_,World.ownsMap_made w Tryz.prog 3 heldE,tidy_empty,fun kl h => (by cases h),fun k v _ h => (by cases h),fun _ _ _ => rfl⟩
theorem IMap.keep (h : IMap w b N m) (hb : w'.heap[b]?=w.heap[b]?) : IMap w' b N m:=by
 obtain ⟨nn,D,⟨es,clock,h1,r⟩,hk⟩:=h
 exact ⟨nn,D,⟨es,clock,hb.trans h1,r⟩,hk⟩
theorem IMap.lt (h : IMap w b N m) : b < w.heap.size:=by
 obtain ⟨nn,D,ho,_⟩:=h
 exact ho.lt
theorem IMap.ne (h : IMap w b N m) {g : Nat} {t : TypeId} {cs : Array Value} (hb : Blk w g t cs) : b ≠ g:=by
 obtain ⟨nn,D,⟨es,clock,h1,r⟩,hk⟩:=h
 rintro rfl
 unfold Blk at hb
 rw [h1] at hb
 cases hb
theorem IMap.look (h : IMap w b N m) (k : Nat) (hk : k < N) (hN : N<=9000000000000000000) :
   (Instr.lookup 68 (.map (some b)) (.int .i64 (k : Int)) true).run Tryz.prog w=.ok (.tuple #[(m k).getD nilS,.bool (m k).isSome]) w:=by
 obtain ⟨nn,D,ho,hK⟩:=h
 obtain ⟨v,ps,hr,hv⟩:=ho.look_ok (int_keyed Tryz.underlying3) Tryz.underlying68 (zero_bs w) (zd:=.held nilS) (zp:=[]) rfl (ikey k (by omega))
 rw [hr]
 cases hm : m k with
 | none =>
   have h1:=hK.none_ k hk hm
   rw [atKey_of_not_has h1] at hv
   simp only [heldE,Option.some.injEq,Prod.mk.injEq,DataW.held.injEq] at hv
   rw [h1,hv.1]; rfl
 | some x =>
   obtain ⟨h1,h2⟩:=hK.some_ k x hk hm
   rw [h2] at hv
   simp only [heldE,Option.some.injEq,Prod.mk.injEq,DataW.held.injEq] at hv
   rw [h1,hv.1]; rfl
theorem isKey_i (k : Nat) : WideAt.IsKeyLit (.int .i64 (k : Int)):=trivial
theorem lit_ne {j k : Nat} (h : j ≠ k) : (Lit.int .i64 (j : Int)) ≠ .int .i64 (k : Int):=fun e => by injection e with _ e; omega
theorem Keys.put {D : DataW Value} (h : Keys D N m) (k : Nat) (hk : k < N) (v : Value) : Keys (D.put (.int .i64 (k : Int)) (.held v)) N (updO m k (some v)):=by
 refine ⟨h.tidy.put (isKey_i k) _,fun kl hkl => ?_,fun j u hj hu => ?_,fun j hj hu => ?_⟩
 · by_cases e : kl = .int .i64 (k : Int)
   · exact ⟨k,hk,e⟩
   · rw [has_put_other e] at hkl; exact h.only kl hkl
 · unfold updO at hu
   by_cases e : j=k
   · subst e
     rw [if_pos rfl] at hu
     injection hu with hu
     subst hu
     exact ⟨has_put_same h.tidy.isMap (isKey_i j) _,fun z => atKey_put_same h.tidy.isMap (isKey_i j) _ z⟩
   · rw [if_neg e] at hu
     obtain ⟨h1,h2⟩:=h.some_ j u hj hu
     exact ⟨by rw [has_put_other (lit_ne e)]; exact h1,fun z => by rw [atKey_put_other (lit_ne e)]; exact h2 z⟩
 · unfold updO at hu
   by_cases e : j=k
   · rw [if_pos e] at hu; cases hu
   · rw [if_neg e] at hu
     rw [has_put_other (lit_ne e)]; exact h.none_ j hj hu
theorem Keys.del {D : DataW Value} (h : Keys D N m) (k : Nat) : Keys (D.del (.int .i64 (k : Int))) N (updO m k none):=by
 refine ⟨h.tidy.del _,fun kl hkl => ?_,fun j u hj hu => ?_,fun j hj hu => ?_⟩
 · by_cases e : kl = .int .i64 (k : Int)
   · rw [e,has_del_same] at hkl; cases hkl
   · rw [has_del_other e] at hkl; exact h.only kl hkl
 · unfold updO at hu
   by_cases e : j=k
   · rw [if_pos e] at hu; cases hu
   · rw [if_neg e] at hu
     obtain ⟨h1,h2⟩:=h.some_ j u hj hu
     exact ⟨by rw [has_del_other (lit_ne e)]; exact h1,fun z => by rw [atKey_del_other (lit_ne e)]; exact h2 z⟩
 · unfold updO at hu
   by_cases e : j=k
   · subst e; exact has_del_same
   · rw [if_neg e] at hu
     rw [has_del_other (lit_ne e)]; exact h.none_ j hj hu
theorem IMap.update (h : IMap w b N m) (k : Nat) (hk : k < N) (hN : N<=1000000000) (v : Value) :
   ∃ w',(Instr.mapUpdate 68 (.map (some b)) (.int .i64 (k : Int)) v).run Tryz.prog w=.ok () w'/\IMap w' b N (updO m k (some v))/\w.grownBy w' (some b):=by
 obtain ⟨nn,D,ho,hK⟩:=h
 have hs:=keys_size hK (ho.entries (int_keyed Tryz.underlying3))
 obtain ⟨w',hr,ho',hg⟩:=(own_tight ho).update (int_keyed Tryz.underlying3) Tryz.underlying68 (by unfold maxLen; omega) (ikey k (by omega)) (val:=v) (d:=.held v) (ps:=[]) rfl
 exact ⟨w',hr,⟨_,_,ho',hK.put k hk v⟩,hg⟩
theorem IMap.drop (h : IMap w b N m) (k : Nat) (hk : k < 9000000000000000000) (ty : TypeId) :
   ∃ w',(Builtin.delete_ #[68,3] ty #[.map (some b),.int .i64 (k : Int)]).run Tryz.prog w=.ok (.tuple #[]) w'/\IMap w' b N (updO m k none)/\w.grownBy w' (some b):=by
 obtain ⟨nn,D,ho,hK⟩:=h
 obtain ⟨w',hr,ho',hg⟩:=ho.drop (int_keyed Tryz.underlying3) Tryz.underlying68 (ikey k hk) ty
 exact ⟨w',hr,⟨_,_,ho',hK.del k⟩,hg.grown⟩
end
end Go.Proofs.YtiiljlmeililbaaGreatDoor
namespace Go.Proofs.YtiiljlmeililbaaGreatDoor
set_option linter.unusedVariables false
set_option maxRecDepth 100000
open Go.RowKit
end Go.Proofs.YtiiljlmeililbaaGreatDoor
namespace Go.Proofs.YtiiljlmeililbaaGreatDoor
set_option linter.unusedVariables false
set_option maxRecDepth 100000
end Go.Proofs.YtiiljlmeililbaaGreatDoor
namespace Go.Proofs.YtiiljlmeililbaaGreatDoor
set_option linter.unusedVariables false
set_option maxRecDepth 100000
open Go.RowKit
def bytesL (n : Nat) (x : UInt8) : List UInt8:=(List.range n).map fun i => x + UInt8.ofNat (i / 7)
theorem bytesL_len (n : Nat) (x : UInt8) : (bytesL n x).length=n:=by simp [bytesL]
def bytesI (n : Nat) (x : UInt8) (i : Nat) : List UInt8:=(bytesL n x).take i ++ List.replicate (n - i) 0
theorem bytesI_zero (n : Nat) (x : UInt8) : bytesI n x 0=List.replicate n 0:=by simp [bytesI]
theorem bytesI_all (n : Nat) (x : UInt8) : bytesI n x n=bytesL n x:=by
 unfold bytesI
 rw [Nat.sub_self,List.take_of_length_le (by rw [bytesL_len]; exact Nat.le_refl _)]
 simp
theorem bytesI_len (n : Nat) (x : UInt8) (i : Nat) (hi : i<=n) : (bytesI n x i).length=n:=by
 unfold bytesI
 rw [List.length_append,List.length_take,bytesL_len,List.length_replicate]; omega
theorem bytesI_set (n : Nat) (x : UInt8) (i : Nat) (h : i < n) : (bytesI n x i).set i (x + UInt8.ofNat (i / 7))=bytesI n x (i + 1):=by
 have hl : ((bytesL n x).take i).length=i:=by rw [List.length_take,bytesL_len]; omega
 unfold bytesI
 rw [List.set_append_right _ _ (by omega),hl,Nat.sub_self,List.take_succ_eq_append_getElem (by rw [bytesL_len]; exact h),List.append_assoc]
 congr 1
 obtain ⟨d,hd⟩ : ∃ d,n - i=d + 1:=⟨n - i - 1,by omega⟩
 rw [hd,show n - (i + 1)=d by omega]
 have e : (bytesL n x)[i]'(by rw [bytesL_len]; exact h)=x + UInt8.ofNat (i / 7):=by simp [bytesL]
 rw [e]
 rfl
theorem make_lb (n : Nat) (hn : n<=100000) (w : World) : (Instr.makeSlice 37 (.int .i64 (n : Int)) (.int .i64 (n : Int))).run Tryz.prog w=.ok (.slice (some ⟨w.heap.size,0,none⟩) n n) (w.alloc (.cells ((bv (List.replicate n 0)).toArray) 5)):=by
 obtain ⟨i0,hi,hz0,hz1,hz2⟩:=info_parts byte_info
 have e : madeCells (Value.int .u8 0).cells (n * 1)=((bv (List.replicate n 0)).toArray):=by
   unfold madeCells
   apply Array.ext
   · simp [bv,Value.cells]
   · intro i h1 h2
     simp [bv,Value.cells,Nat.mod_one]
 rw [run_make_rowN 37 5 i0 (.int .u8 0) Tryz.underlying37 hi hz0 .i64 .i64 n n (Nat.le_refl _) (by rw [hz2]; omega) (by omega) w,hz1,e]
theorem OB.made_ (w : World) (base n : Nat) (l : List UInt8) (hl : l.length=n) (hb : base<=w.heap.size) (hn : n<=maxLen) : OB (w.alloc (.cells ((bv l).toArray) 5)) base (.slice (some ⟨w.heap.size,0,none⟩) n n) n l:=by
 refine ⟨by simpa [bv] using hl,.inr ⟨w.heap.size,n,_,rfl,hb,heap_alloc_new w _,Nat.le_refl _,hn,by simpa [bv] using hl,?_⟩⟩
 rw [Nat.mul_one]
 exact List.take_of_length_le (by simpa [bv] using Nat.le_of_eq hl)
set_option maxHeartbeats 1000000 in
theorem lbytes_any (w : World) (n : Nat) (x : UInt8) (hn : n<=20001) :
   Calls Tryz.prog 10 #[.int .i64 (n : Int),.int .u8 (x.toNat : Int)] w fun e w' => ∃ g,e=.returned (.slice (some ⟨g,0,none⟩) n n)/\OB w' w.heap.size (.slice (some ⟨g,0,none⟩) n n) n (bytesL n x)/\Below w.heap.size w w':=by
 have hmx : max (n : Int) 0=(n : Int):=by omega
 have hmn : min (n : Int) 20001=(n : Int):=by omega
 have hmk:=make_lb n (by omega) w
 have hO1:=OB.made_ w w.heap.size n (List.replicate n 0) List.length_replicate (Nat.le_refl _) (by simp only [maxLen]; omega)
 rw [<- bytesI_zero n x] at hO1 hmk
 obtain ⟨zz,hzz⟩ : ∃ zz,zz=(bv (bytesI n x 0)).toArray:=⟨_,rfl⟩
 rw [<- hzz] at hO1 hmk
 obtain ⟨w1,hw1⟩ : ∃ w1,w1=w.alloc (.cells zz 5):=⟨_,rfl⟩
 have hB1 : Below w.heap.size w w1:=by rw [hw1]; exact (Below.refl _ _).alloc (Nat.le_refl _) _
 rw [<- hw1] at hO1 hmk
 obtain ⟨ga,hga⟩ : ∃ ga,ga=w.heap.size:=⟨_,rfl⟩
 rw [<- hga] at hO1 hmk
 have hgaw : w.heap.size<=ga:=by omega
 obtain ⟨z,hz⟩ : ∃ z,z=x.toNat:=⟨_,rfl⟩
 rw [<- hz]
 have hz256 : z < 256:=by rw [hz]; exact x.toNat_lt
 replace hO1:=hide hO1
 replace hB1:=hide hB1
 replace hzz:=hide hzz
 replace hw1:=hide hw1
 replace hga:=hide hga
 replace hz:=hide hz
 go_enter Tryz.func10,Tryz.ntmps10
 go_wp2_with fail
 clear hmk
 go_loopw [13] (fun v wx => ∃ i : Nat,v=.int .i64 (i : Int)/\i<=n/\Hid (OB wx w.heap.size (.slice (some ⟨ga,0,none⟩) n n) n (bytesI n x i))/\Hid (Below w.heap.size w wx)) (fun v _ => n - (intOf v).toNat)
 case atStart => exact ⟨0,rfl,Nat.zero_le _,hide (by rw [<- hga.out]; exact hO1.out),hB1⟩
 case round =>
   clear hO1 hB1
   obtain ⟨i,rfl,hi,hO,hB⟩:=hrel
   by_cases hlt : i < n
   · have cc := hO.out.cell (k := i) hlt (by rw [bytesI_len _ _ _ hi]; exact hlt)
     have cf:=OB.froz (k:=i) hO.out
     obtain ⟨y,hy⟩ : ∃ y,y=(bytesI n x i)[i]'(by rw [bytesI_len _ _ _ hi]; exact hlt):=⟨_,rfl⟩
     rw [<- hy] at cc
     obtain ⟨u,hu⟩ : ∃ u : Nat,u=(x + UInt8.ofNat (i / 7)).toNat:=⟨_,rfl⟩
     have hO2 : Hid (OB (wr.setCell ⟨ga,i,none⟩ (.int .u8 (u : Int))) w.heap.size (.slice (some ⟨ga,0,none⟩) n n) n (bytesI n x (i + 1))):=by
       rw [<- bytesI_set n x i hlt,hu]; exact hO.out.stored i _
     have hB2 : Hid (Below w.heap.size w (wr.setCell ⟨ga,i,none⟩ (.int .u8 (u : Int)))):=hB.out.setCell (p:=⟨ga,i,none⟩) hgaw _
     have hik : (i : Int) < (n : Int):=by omega
     have hi0 : (0 : Int)<=(i : Int):=by omega
     have huI : Hid (((z : Int) + (i : Int) / 7) % 256=(u : Int)):=hide (by
       have e : (x + UInt8.ofNat (i / 7)).toNat=(x.toNat + i / 7) % 256:=by
         rw [UInt8.toNat_add,UInt8.toNat_ofNat']; omega
       rw [hu,e,<- hz.out]; omega)
     replace hy:=hide hy
     replace hu:=hide hu
     go_wp2_with fail
     rw [huI.out]
     go_roundw
     case rel => exact ⟨i + 1,by go_num,hlt,hO2,hB2⟩
     case measure => simp [intOf]; omega
   · obtain rfl : i = n := by omega
     rw [bytesI_all] at hO
     go_wp2_with fail
     go_ret
     exact ⟨ga,rfl,hO.out,hB.out⟩
end Go.Proofs.YtiiljlmeililbaaGreatDoor
namespace Go.Proofs.YtiiljlmeililbaaGreatDoor
set_option linter.unusedVariables false
set_option maxRecDepth 100000
open Go.RowKit Go.Maps
theorem IMap.clear {w : World} {b N : Nat} {m : Nat->Option Value} (h : IMap w b N m) (ty : TypeId) :
   ∃ w',(Builtin.clear_ #[68] ty #[.map (some b)]).run Tryz.prog w=.ok (.tuple #[]) w'/\IMap w' b N (fun _ => none)/\w.grownBy w' (some b):=by
 obtain ⟨nn,D,⟨es,clock,hb,hF,hs,rfl⟩,hK⟩:=h
 have hlt : b < w.heap.size:=(Array.getElem?_eq_some_iff.1 hb).1
 refine ⟨{ w with heap:=w.heap.setIfInBounds b (.map #[] clock) },?_,⟨0,.map [],⟨#[],clock,?_,⟨by simp,MapKept.stamped_empty clock,by simp⟩,Nat.le_refl _,rfl⟩,tidy_empty,fun kl h => (by cases h),fun k v _ h => (by cases h),fun _ _ _ => rfl⟩,⟨rfl,rfl,rfl,by simp,fun i hi hne => ?_⟩⟩
 · simp [Builtin.clear_,run_underlying Tryz.underlying68,MapKept.run_getObj_map hb,MapKept.run_setObj_map _ hb]
 · simp [hlt]
 · show (w.heap.setIfInBounds b _)[i]? = _
   rw [Array.getElem?_setIfInBounds,if_neg (fun e => hne (by rw [e]))]
theorem keys_none {D : DataW Value} {N : Nat} (h : Keys D N (fun _ => none)) (kl : Lit) : Maps.has D kl=false:=by
 cases hh : Maps.has D kl with
 | false => rfl
 | true =>
   obtain ⟨k,hk,e⟩:=h.only kl hh
   have:=h.none_ k hk rfl
   rw [<- e,hh] at this; cases this
end Go.Proofs.YtiiljlmeililbaaGreatDoor
