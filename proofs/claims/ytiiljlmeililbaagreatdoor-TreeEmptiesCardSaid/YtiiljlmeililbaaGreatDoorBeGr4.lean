/-
  Trees of pages in plain Lean: what a tree is; its kids; the pages that are free. No program in sight.
-/
import Derived.Test.YtiiljlmeililbaaGreatDoorBeGr3
namespace Go.Proofs.YtiiljlmeililbaaGreatDoor
set_option linter.unusedVariables false
set_option maxRecDepth 100000
abbrev KeyB:=List UInt8
def inB (lo : KeyB) (hi : Option KeyB) (x : KeyB) : Prop:=ltK x lo=false/\∀ t,hi=some t->ltK x t=true
def sepB (lo : KeyB) (hi : Option KeyB) (x : KeyB) : Prop:=ltK lo x=true/\∀ t,hi=some t->ltK x t=true
theorem le_ltK (a b c : KeyB) (h : ltK b a=false) (k : ltK c b=false) : ltK c a=false:=by
 cases hca : ltK c a with
 | false => rfl
 | true => have:=ltK_le_trans c a b hca h; rw [this] at k; cases k
inductive Kids (T : KeyB->Option KeyB->Nat->List CellP->List Nat->Prop) : List CellP->List Nat->KeyB->Option KeyB->List CellP->List Nat->Prop
 | one (k : Nat) (lo : KeyB) (hi : Option KeyB) (L : List CellP) (P : List Nat) (h : T lo hi k L P) : Kids T [] [k] lo hi L P
 | more (c : CellP) (cs : List CellP) (k : Nat) (ks : List Nat) (lo : KeyB) (hi : Option KeyB) (l : List CellP) (p : List Nat) (L : List CellP) (P : List Nat) (hb : sepB lo hi c.key) (h : T lo (some c.key) k l p) (hr : Kids T cs ks c.key hi L P) :
     Kids T (c :: cs) (k :: ks) lo hi (l ++ L) (p ++ P)
section
variable {T T' : KeyB->Option KeyB->Nat->List CellP->List Nat->Prop} {cs : List CellP} {ks : List Nat} {lo : KeyB} {hi : Option KeyB} {L : List CellP} {P : List Nat}
theorem Kids.len (h : Kids T cs ks lo hi L P) : ks.length=cs.length + 1:=by
 induction h with
 | one => rfl
 | more _ _ _ _ _ _ _ _ _ _ _ _ _ ih => rw [List.length_cons,List.length_cons,ih]
theorem Kids.imp (h : Kids T cs ks lo hi L P) (f : ∀ lo hi k l p,(∀ x ∈ p,x ∈ P)->k ∈ ks->T lo hi k l p->T' lo hi k l p) : Kids T' cs ks lo hi L P:=by
 induction h with
 | one k lo hi L P h => exact .one _ _ _ _ _ (f _ _ _ _ _ (fun _ h => h) (.head _) h)
 | more c cs k ks lo hi l p L P hb h hr ih =>
   exact .more _ _ _ _ _ _ _ _ _ _ hb (f _ _ _ _ _ (fun x hx => List.mem_append_left _ hx) (.head _) h) (ih fun lo hi k l q hq hk => f lo hi k l q (fun x hx => List.mem_append_right _ (hq x hx)) (.tail _ hk))
theorem Kids.keys (h : Kids T cs ks lo hi L P) (hT : ∀ lo hi k l p,T lo hi k l p->∀ x ∈ l,inB lo hi x.key) : ∀ x ∈ L,inB lo hi x.key:=by
 induction h with
 | one k lo hi L P h => exact hT _ _ _ _ _ h
 | more c cs k ks lo hi l p L P hb h hr ih =>
   intro x hx
   rcases List.mem_append.1 hx with hx | hx
   · have h1 := hT _ _ _ _ _ h x hx
     exact ⟨h1.1,fun t ht => ltK_trans _ _ _ (h1.2 _ rfl) (hb.2 t ht)⟩
   · have h1 := ih x hx
     exact ⟨le_ltK _ _ _ (ltK_asymm _ _ hb.1) h1.1,h1.2⟩
theorem Kids.seps (h : Kids T cs ks lo hi L P) : ∀ c ∈ cs,sepB lo hi c.key:=by
 induction h with
 | one => intro c hc; cases hc
 | more c cs k ks lo hi l p L P hb h hr ih =>
   intro d hd
   rcases List.mem_cons.1 hd with rfl | hd
   · exact hb
   · have h1 := ih d hd
     exact ⟨ltK_trans _ _ _ hb.1 h1.1,h1.2⟩
theorem Kids.rise (h : Kids T cs ks lo hi L P) : RiseC cs:=by
 induction h with
 | one => trivial
 | more c cs k ks lo hi l p L P hb h hr ih => exact ⟨fun d hd => (hr.seps d hd).1,ih⟩
theorem Kids.cut (h : Kids T cs ks lo hi L P) : ∀ (i : Nat) (c : CellP),cs[i]?=some c->∃ L1 L2 P1 P2,L=L1 ++ L2/\P=P1 ++ P2/\Kids T (cs.take i) (ks.take (i + 1)) lo (some c.key) L1 P1/\Kids T (cs.drop (i + 1)) (ks.drop (i + 1)) c.key hi L2 P2/\sepB lo hi c.key:=by
 induction h with
 | one => intro i c hc; simp at hc
 | more c cs k ks lo hi l p L P hb h hr ih =>
   intro i d hd
   cases i with
   | zero =>
     simp at hd
     subst hd
     exact ⟨l,L,p,P,rfl,rfl,.one _ _ _ _ _ h,hr,hb⟩
   | succ i =>
     rw [List.getElem?_cons_succ] at hd
     obtain ⟨L1,L2,P1,P2,rfl,rfl,h1,h2,h3⟩:=ih i d hd
     have hd2:=hr.seps d (List.mem_of_getElem? hd)
     exact ⟨l ++ L1,L2,p ++ P1,P2,(List.append_assoc ..).symm,(List.append_assoc ..).symm,.more _ _ _ _ _ _ _ _ _ _ ⟨hb.1,fun t ht => by injection ht with ht; rw [<- ht]; exact hd2.1⟩ h h1,h2,⟨ltK_trans _ _ _ hb.1 h3.1,h3.2⟩⟩
theorem Kids.glue {ca cb : List CellP} {ka kb : List Nat} {L1 L2 : List CellP} {P1 P2 : List Nat} {c : CellP} (h1 : Kids T ca ka lo (some c.key) L1 P1) (h2 : Kids T cb kb c.key hi L2 P2) (hs : sepB lo hi c.key) :
   Kids T (ca ++ c :: cb) (ka ++ kb) lo hi (L1 ++ L2) (P1 ++ P2):=by
 generalize e : some c.key=hi1 at h1
 induction h1 with
 | one k lo hi' L P h => subst e; exact .more _ _ _ _ _ _ _ _ _ _ hs h h2
 | more d ds k ks lo hi' l p L P hb h hr ih =>
   subst e
   have h3:=ih ⟨hb.2 _ rfl,hs.2⟩ rfl
   rw [List.cons_append,List.cons_append,List.append_assoc,List.append_assoc]
   exact .more _ _ _ _ _ _ _ _ _ _ ⟨hb.1,fun t ht => ltK_trans _ _ _ (hb.2 _ rfl) (hs.2 t ht)⟩ h h3
end
structure Around (T : KeyB->Option KeyB->Nat->List CellP->List Nat->Prop) (cs : List CellP) (ks : List Nat) (lo : KeyB) (hi : Option KeyB) (i j : Nat) (lo' : KeyB) (hi' : Option KeyB) (LA LB : List CellP) (PA PB : List Nat) : Prop where
 plug : ∀ T',(∀ lo hi k l p,(∀ x ∈ p,x ∈ PA ++ PB)->T lo hi k l p->T' lo hi k l p)->∀ cc kk l p,Kids T' cc kk lo' hi' l p ->
   Kids T' (cs.take i ++ (cc ++ cs.drop (i + j))) (ks.take i ++ (kk ++ ks.drop (i + j + 1))) lo hi (LA ++ (l ++ LB)) (PA ++ (p ++ PB))
 lo0 : i=0->lo'=lo
 lo1 : ∀ c,0 < i->cs[i - 1]?=some c->lo'=c.key
 hi0 : i + j=cs.length->hi'=hi
 hi1 : ∀ c,cs[i + j]?=some c->hi'=some c.key
 le : ltK lo' lo=false
 below : ∀ x ∈ LA,ltK x.key lo'=true
 above : ∀ x ∈ LB,∃ s,hi'=some s/\ltK x.key s=false
theorem Kids.around0 {T : KeyB->Option KeyB->Nat->List CellP->List Nat->Prop} (hT : ∀ lo hi k l p,T lo hi k l p->∀ x ∈ l,inB lo hi x.key) {cs : List CellP} {ks : List Nat} {lo : KeyB} {hi : Option KeyB} {L : List CellP} {P : List Nat}
   (h : Kids T cs ks lo hi L P) (j : Nat) (hj : j < ks.length) :
   ∃ hi' l LB p PB,L=l ++ LB/\P=p ++ PB/\Kids T (cs.take j) (ks.take (j + 1)) lo hi' l p/\Around T cs ks lo hi 0 j lo hi' [] LB [] PB:=by
 have hlen:=h.len
 by_cases e : j=cs.length
 · subst e
   refine ⟨hi,L,[],P,[],by simp,by simp,?_,⟨fun T' f cc kk l p hk => ?_,fun _ => rfl,fun c h0 => absurd h0 (by omega),fun _ => rfl,fun c hc => ?_,ltK_irrefl _,fun x hx => (by cases hx),fun x hx => (by cases hx)⟩⟩
   · rw [List.take_length,<- hlen,List.take_length]; exact h
   · simpa [<- hlen] using hk
   · rw [Nat.zero_add,List.getElem?_eq_none (Nat.le_refl _)] at hc; cases hc
 · have hjl : j < cs.length := by omega
   obtain ⟨L1,L2,P1,P2,rfl,rfl,h1,h2,h3⟩:=h.cut j _ (List.getElem?_eq_getElem hjl)
   refine ⟨_,L1,L2,P1,P2,rfl,rfl,h1,⟨fun T' f cc kk l p hk => ?_,fun _ => rfl,fun c h0 => absurd h0 (by omega),fun h0 => absurd h0 (by omega),fun c hc => ?_,ltK_irrefl _,fun x hx => (by cases hx),fun x hx => ⟨_,rfl,(h2.keys hT x hx).1⟩⟩⟩
   · have h4 : Kids T' (cs.drop (j + 1)) (ks.drop (j + 1)) (cs[j]).key hi L2 P2 := h2.imp fun lo hi k l q hq _ => f lo hi k l q (fun x hx => by simpa using hq x hx)
     have h5:=hk.glue h4 h3
     have e2 : cs.drop j=cs[j] :: cs.drop (j + 1):=List.drop_eq_getElem_cons hjl
     rw [List.take_zero,List.take_zero,List.nil_append,List.nil_append,List.nil_append,List.nil_append,Nat.zero_add,e2]
     exact h5
   · rw [Nat.zero_add, List.getElem?_eq_getElem hjl] at hc
     injection hc with hc
     rw [hc]
theorem Kids.around {T : KeyB->Option KeyB->Nat->List CellP->List Nat->Prop} (hT : ∀ lo hi k l p,T lo hi k l p->∀ x ∈ l,inB lo hi x.key) {cs : List CellP} {ks : List Nat} {lo : KeyB} {hi : Option KeyB} {L : List CellP} {P : List Nat}
   (h : Kids T cs ks lo hi L P) : ∀ (i j : Nat),i + j < ks.length ->
   ∃ lo' hi' LA l LB PA p PB,L=LA ++ (l ++ LB)/\P=PA ++ (p ++ PB)/\Kids T ((cs.drop i).take j) ((ks.drop i).take (j + 1)) lo' hi' l p/\Around T cs ks lo hi i j lo' hi' LA LB PA PB:=by
 induction h with
 | one k lo hi L P h =>
   intro i j hij
   simp at hij
   obtain ⟨rfl,rfl⟩ : i=0/\j=0:=by omega
   obtain ⟨hi',l,LB,p,PB,h1,h2,h3,h4⟩:=Kids.around0 hT (.one k lo hi L P h) 0 (by simp)
   exact ⟨lo,hi',[],l,LB,[],p,PB,h1,h2,h3,h4⟩
 | more c cs k ks lo hi l p L P hb h hr ih =>
   intro i j hij
   cases i with
   | zero =>
     obtain ⟨hi',l',LB,p',PB,h1,h2,h3,h4⟩:=Kids.around0 hT (.more c cs k ks lo hi l p L P hb h hr) j (by omega)
     exact ⟨lo,hi',[],l',LB,[],p',PB,h1,h2,h3,h4⟩
   | succ i =>
     obtain ⟨lo',hi',LA,l',LB,PA,p',PB,rfl,rfl,h3,h4⟩:=ih i j (by rw [List.length_cons] at hij; omega)
     refine ⟨lo',hi',l ++ LA,l',LB,p ++ PA,p',PB,by simp,by simp,h3,⟨fun T' f cc kk l2 p2 hk => ?_,fun h0 => absurd h0 (by omega),fun d h0 hd => ?_,fun e => h4.hi0 (by rw [List.length_cons] at e; omega),fun d hd => h4.hi1 d ?_,?_,fun x hx => ?_,h4.above⟩⟩
     · have h5:=h4.plug T' (fun lo hi k l q hq => f lo hi k l q fun x hx => by
         have:=hq x hx
         simp only [List.mem_append] at this ⊢
         rcases this with h | h
         · exact .inl (.inr h)
         · exact .inr h) cc kk l2 p2 hk
       have h6:=f _ _ _ _ _ (fun x hx => by simp [hx]) h
       have h7:=Kids.more (T:=T') c _ k _ lo hi l p _ _ hb h6 h5
       have e1 : i + 1 + j=(i + j) + 1:=by omega
       rw [e1,List.take_succ_cons,List.take_succ_cons,List.drop_succ_cons,List.drop_succ_cons,List.append_assoc,List.append_assoc]
       exact h7
     · cases i with
       | zero =>
         simp at hd
         subst hd
         exact h4.lo0 rfl
       | succ i => exact h4.lo1 d (by omega) (by simpa using hd)
     · have e1 : i + 1 + j = (i + j) + 1 := by omega
       rw [e1,List.getElem?_cons_succ] at hd
       exact hd
     · exact le_ltK _ _ _ (ltK_asymm _ _ hb.1) h4.le
     · rcases List.mem_append.1 hx with hx | hx
       · exact ltK_le_trans _ _ _ ((hT _ _ _ _ _ h x hx).2 _ rfl) h4.le
       · exact h4.below x hx
def TreeR (st : PgS) : Nat->Nat->KeyB->Option KeyB->Nat->List CellP->List Nat->Prop
 | 0,m,lo,hi,no,L,P => ∃ n,LoadR st no n/\m<=sizeP n/\(n.leaf=true/\L=n.cells/\∀ c ∈ n.cells,inB lo hi c.key)/\P=[no]
 | h + 1,m,lo,hi,no,L,P => ∃ n Q,LoadR st no n/\m<=sizeP n/\(n.leaf=false/\Kids (fun lo hi k l p => TreeR st h 127 lo hi k l p) n.cells n.kids lo hi L Q)/\P=no :: Q
def NodeT (st : PgS) : Nat->NodeP->KeyB->Option KeyB->List CellP->List Nat->Prop
 | 0,n,lo,hi,L,Q => n.leaf=true/\L=n.cells/\(∀ c ∈ n.cells,inB lo hi c.key)/\Q=[]
 | h + 1,n,lo,hi,L,Q => n.leaf=false/\Kids (fun lo hi k l p => TreeR st h 127 lo hi k l p) n.cells n.kids lo hi L Q
section
variable {st st' : PgS} {h m no : Nat} {lo : KeyB} {hi : Option KeyB} {L : List CellP} {P : List Nat}
theorem TreeR.node (ht : TreeR st h m lo hi no L P) : ∃ n Q,LoadR st no n/\m<=sizeP n/\NodeT st h n lo hi L Q/\P=no :: Q:=by
 cases h with
 | zero => obtain ⟨n,h1,h2,⟨h3,h4,h5⟩,h6⟩:=ht; exact ⟨n,[],h1,h2,⟨h3,h4,h5,rfl⟩,h6⟩
 | succ h => obtain ⟨n,Q,h1,h2,h3,h4⟩:=ht; exact ⟨n,Q,h1,h2,h3,h4⟩
theorem NodeT.tree {n : NodeP} {Q : List Nat} (ht : NodeT st h n lo hi L Q) (hl : LoadR st no n) (hm : m<=sizeP n) : TreeR st h m lo hi no L (no :: Q):=by
 cases h with
 | zero => obtain ⟨h1,h2,h3,rfl⟩:=ht; exact ⟨n,hl,hm,⟨h1,h2,h3⟩,rfl⟩
 | succ h => exact ⟨n,Q,hl,hm,ht,rfl⟩
theorem TreeR.mem (ht : TreeR st h m lo hi no L P) : no ∈ P:=by
 obtain ⟨n,Q,_,_,_,rfl⟩:=ht.node
 exact .head _
theorem TreeR.has (ht : TreeR st h m lo hi no L P) : st.has no:=by
 obtain ⟨n,Q,h1,_⟩:=ht.node
 exact h1.1
theorem TreeR.mono {m' : Nat} (ht : TreeR st h m lo hi no L P) (hm : m'<=m) : TreeR st h m' lo hi no L P:=by
 obtain ⟨n,Q,h1,h2,h3,rfl⟩:=ht.node
 exact h3.tree h1 (Nat.le_trans hm h2)
end
theorem TreeR.keys {st : PgS} : ∀ {h m : Nat} {lo : KeyB} {hi : Option KeyB} {no : Nat} {L : List CellP} {P : List Nat},TreeR st h m lo hi no L P->∀ x ∈ L,inB lo hi x.key
 | 0,_,_,_,_,_,_,⟨n,_,_,⟨_,rfl,h5⟩,_⟩ => h5
 | h + 1,_,_,_,_,_,_,⟨n,Q,_,_,⟨_,h4⟩,_⟩ => h4.keys fun _ _ _ _ _ ht => TreeR.keys ht
theorem TreeR.frame {st st' : PgS} (hm : st.many<=st'.many) : ∀ {h m : Nat} {lo : KeyB} {hi : Option KeyB} {no : Nat} {L : List CellP} {P : List Nat},TreeR st h m lo hi no L P->(∀ x ∈ P,st'.page x=st.page x)->TreeR st' h m lo hi no L P
 | 0,_,_,_,no,_,_,⟨n,h1,h2,h3,rfl⟩,hp => ⟨n,⟨⟨h1.1.1,Nat.lt_of_lt_of_le h1.1.2 hm⟩,by rw [hp no (.head _)]; exact h1.2⟩,h2,h3,rfl⟩
 | h + 1, _, _, _, no, _, _, ⟨n, Q, h1, h2, ⟨h3, h4⟩, rfl⟩, hp =>
   ⟨n,Q,⟨⟨h1.1.1,Nat.lt_of_lt_of_le h1.1.2 hm⟩,by rw [hp no (.head _)]; exact h1.2⟩,h2,⟨h3,h4.imp fun _ _ _ _ p hq _ ht => TreeR.frame hm ht fun x hx => hp x (.tail _ (hq x hx))⟩,rfl⟩
theorem NodeT.frame {st st' : PgS} (hm : st.many<=st'.many) {h : Nat} {n : NodeP} {lo : KeyB} {hi : Option KeyB} {L : List CellP} {Q : List Nat} (ht : NodeT st h n lo hi L Q) (hp : ∀ x ∈ Q,st'.page x=st.page x) : NodeT st' h n lo hi L Q:=by
 cases h with
 | zero => exact ht
 | succ h => exact ⟨ht.1,ht.2.imp fun _ _ _ _ p hq _ h2 => TreeR.frame hm h2 fun x hx => hp x (hq x hx)⟩
theorem RiseC.append {a b : List CellP} (ha : RiseC a) (hb : RiseC b) (h : ∀ x ∈ a,∀ y ∈ b,ltK x.key y.key=true) : RiseC (a ++ b):=by
 induction a with
 | nil => exact hb
 | cons c r ih =>
   refine ⟨fun d hd => ?_,ih ha.2 fun x hx => h x (.tail _ hx)⟩
   rcases List.mem_append.1 hd with hd | hd
   · exact ha.1 d hd
   · exact h c (.head _) d hd
theorem RiseC.left {a b : List CellP} (h : RiseC (a ++ b)) : RiseC a:=by
 induction a with
 | nil => trivial
 | cons c r ih => exact ⟨fun d hd => h.1 d (List.mem_append_left _ hd),ih h.2⟩
theorem RiseC.right {a b : List CellP} (h : RiseC (a ++ b)) : RiseC b:=by
 induction a with
 | nil => exact h
 | cons c r ih => exact ih h.2
theorem RiseC.between {a b : List CellP} (h : RiseC (a ++ b)) : ∀ x ∈ a,∀ y ∈ b,ltK x.key y.key=true:=by
 induction a with
 | nil => intro x hx; cases hx
 | cons c r ih =>
   intro x hx y hy
   rcases List.mem_cons.1 hx with rfl | hx
   · exact h.1 y (List.mem_append_right _ hy)
   · exact ih h.2 x hx y hy
theorem Kids.riseL {T : KeyB->Option KeyB->Nat->List CellP->List Nat->Prop} {cs : List CellP} {ks : List Nat} {lo : KeyB} {hi : Option KeyB} {L : List CellP} {P : List Nat} (h : Kids T cs ks lo hi L P)
   (hT : ∀ lo hi k l p,T lo hi k l p->∀ x ∈ l,inB lo hi x.key) (hR : ∀ lo hi k l p,T lo hi k l p->RiseC l) : RiseC L:=by
 induction h with
 | one k lo hi L P h => exact hR _ _ _ _ _ h
 | more c cs k ks lo hi l p L P hb h hr ih =>
   refine (hR _ _ _ _ _ h).append ih fun x hx y hy => ?_
   have h1:=(hT _ _ _ _ _ h x hx).2 _ rfl
   exact ltK_le_trans _ _ _ h1 (hr.keys hT y hy).1
theorem TreeR.rise {st : PgS} : ∀ {h m : Nat} {lo : KeyB} {hi : Option KeyB} {no : Nat} {L : List CellP} {P : List Nat},TreeR st h m lo hi no L P->RiseC L
 | 0,_,_,_,_,_,_,⟨n,h1,_,⟨_,rfl,_⟩,_⟩ => h1.2.1.rise
 | h + 1,_,_,_,_,_,_,⟨n,Q,_,_,⟨_,h4⟩,_⟩ => h4.riseL (fun _ _ _ _ _ ht => TreeR.keys ht) fun _ _ _ _ _ ht => TreeR.rise ht
inductive FreeR (st : PgS) : Nat->List Nat->Prop
 | nil : FreeR st 0 []
 | cons (no : Nat) (l : List Nat) (h0 : st.has no) (hr : FreeR st (numL ((st.page no).take 4)) l) : FreeR st no (no :: l)
structure Inv (st : PgS) (fl U : List Nat) : Prop where
 ok : st.ok
 fr : FreeR st st.free fl
 nd : (fl ++ U).Nodup
 all : ∀ no,st.has no ↔ no ∈ fl ++ U
structure Same (U : List Nat) (st st' : PgS) : Prop where
 page : ∀ x ∈ U,st'.page x=st.page x
 many : st.many<=st'.many
 roots : st'.roots=st.roots
theorem Same.refl (U : List Nat) (st : PgS) : Same U st st:=⟨fun _ _ => rfl,Nat.le_refl _,rfl⟩
theorem Same.trans {U U' : List Nat} {a b c : PgS} (h : Same U a b) (k : Same U' b c) (hs : ∀ x ∈ U,x ∈ U') : Same U a c :=
 ⟨fun x hx => (k.page x (hs x hx)).trans (h.page x hx),Nat.le_trans h.many k.many,k.roots.trans h.roots⟩
theorem Same.mono {U U' : List Nat} {a b : PgS} (h : Same U a b) (hs : ∀ x ∈ U',x ∈ U) : Same U' a b:=⟨fun x hx => h.page x (hs x hx),h.many,h.roots⟩
section
variable {st : PgS} {fl U U' : List Nat} {no : Nat}
theorem Inv.perm (h : Inv st fl U) (hp : U.Perm U') : Inv st fl U' :=
 ⟨h.ok,h.fr,(List.Perm.nodup_iff (List.Perm.append_left fl hp)).1 h.nd,fun no => (h.all no).trans (List.Perm.mem_iff (List.Perm.append_left fl hp))⟩
theorem Inv.has_ (h : Inv st fl U) (hn : no ∈ U) : st.has no:=(h.all no).2 (List.mem_append_right _ hn)
theorem Inv.ndU (h : Inv st fl U) : U.Nodup:=(List.nodup_append.1 h.nd).2.1
theorem Inv.apart (h : Inv st fl U) {x : Nat} (hx : x ∈ fl) : x ∉ U:=fun hu => (List.nodup_append.1 h.nd).2.2 x hx x hu rfl
theorem FreeR.frame {st' : PgS} {l : List Nat} (h : FreeR st no l) (hm : st.many<=st'.many) (hp : ∀ x ∈ l,st'.page x=st.page x) : FreeR st' no l:=by
 induction h with
 | nil => exact .nil
 | cons no l h0 hr ih =>
   refine .cons no l ⟨h0.1,Nat.lt_of_lt_of_le h0.2 hm⟩ ?_
   rw [hp no (.head _)]
   exact ih fun x hx => hp x (.tail _ hx)
theorem FreeR.lt {l : List Nat} (h : FreeR st no l) (h1 : 1<=st.many) : no < st.many:=by
 cases h with
 | nil => omega
 | cons _ _ h0 _ => exact h0.2
theorem upd_page (no x : Nat) (b : List UInt8) (h : x ≠ no) : (st.upd no b).page x=st.page x:=by
 show (if x=no then b else st.page x)=_
 rw [if_neg h]
theorem Inv.write (h : Inv st fl (no :: U)) (b : List UInt8) (hb : b.length<=508) : Inv (writeS st no b) fl (no :: U)/\Same U st (writeS st no b)/\(writeS st no b).many=st.many:=by
 have hno : ∀ x ∈ fl,x ≠ no:=fun x hx e => h.apart hx (by rw [e]; exact .head _)
 have hno2 : ∀ x ∈ U,x ≠ no:=fun x hx e => (List.nodup_cons.1 h.ndU).1 (by rw [<- e]; exact hx)
 exact ⟨⟨h.ok.write no b hb,h.fr.frame (Nat.le_refl _) fun x hx => upd_page no x _ (hno x hx),h.nd,h.all⟩,⟨fun x hx => upd_page no x _ (hno2 x hx),Nat.le_refl _,rfl⟩,rfl⟩
theorem Inv.free (h : Inv st fl (no :: U)) : Inv (freeS st no) (no :: fl) U/\Same U st (freeS st no)/\(freeS st no).many=st.many:=by
 have hno : ∀ x ∈ fl,x ≠ no:=fun x hx e => h.apart hx (by rw [e]; exact .head _)
 have hno2 : ∀ x ∈ U,x ≠ no:=fun x hx e => (List.nodup_cons.1 h.ndU).1 (by rw [<- e]; exact hx)
 have hh:=h.has_ (.head _)
 have hp : (freeS st no).page no=leB 4 st.free ++ zB 504:=by show (if no=no then _ else _)=_; rw [if_pos rfl]
 refine ⟨⟨h.ok.freed no hh,?_,?_,fun x => (h.all x).trans ?_⟩,⟨fun x hx => upd_page no x _ (hno2 x hx),Nat.le_refl _,rfl⟩,rfl⟩
 · refine .cons no fl hh ?_
   rw [hp,List.take_left' (leB_len _ _),numL_leB,Nat.mod_eq_of_lt (by have:=h.ok.free; have:=h.ok.most; omega)]
   exact h.fr.frame (Nat.le_refl _) fun x hx => upd_page no x _ (hno x hx)
 · exact (List.Perm.nodup_iff (List.perm_middle (a:=no) (l₁:=fl) (l₂:=U)).symm).2 h.nd |> fun h => by simpa using h
 · exact (List.Perm.mem_iff (List.perm_middle (a:=no) (l₁:=fl) (l₂:=U)))
theorem Inv.alloc (h : Inv st fl U) (hm : st.many < 65536) : CanAlloc st/\∃ fl',Inv (allocS st) fl' (allocN st :: U)/\Same U st (allocS st)/\(allocS st).many<=st.many + 1/\allocN st ∉ U:=by
 by_cases h0 : st.free=0
 · have hc : CanAlloc st := .inl ⟨h0, hm⟩
   have hfl : fl=[]:=by
     have:=h.fr
     rw [h0] at this
     cases this with
     | nil => rfl
     | cons _ _ h1 _ => exact absurd h1.1 (by omega)
   subst hfl
   have hok:=(h.ok.alloc hc).1
   have hn : allocN st=st.many:=by unfold allocN; rw [if_pos h0]
   have hs : allocS st={ st.upd st.many (zB 508) with many:=st.many + 1 }:=by unfold allocS; rw [if_pos h0]
   have hnu : st.many ∉ U:=fun hu => by have:=(h.has_ hu).2; omega
   refine ⟨hc,[],?_,⟨fun x hx => ?_,?_,?_⟩,?_,?_⟩
   · refine ⟨hok, ?_, ?_, fun x => ?_⟩
     · rw [hs]
       show FreeR _ st.free []
       rw [h0]; exact .nil
     · rw [hn, List.nil_append]
       exact List.nodup_cons.2 ⟨hnu,h.ndU⟩
     · rw [hs, hn]
       have h1:=h.all x
       have h2:=h.ok.one
       simp only [List.nil_append,List.mem_cons] at h1 ⊢
       rw [<- h1]
       show (1<=x/\x < st.many + 1) ↔ x=st.many \/ (1<=x/\x < st.many)
       omega
   · rw [hs]; exact upd_page st.many x _ (fun e => hnu (by rw [<- e]; exact hx))
   · rw [hs]; exact Nat.le_succ _
   · rw [hs]; rfl
   · rw [hs]; exact Nat.le_refl _
   · rw [hn]; exact hnu
 · cases hfr : fl with
   | nil =>
     have:=h.fr
     rw [hfr] at this
     generalize e : st.free=f at this
     cases this
     exact absurd e h0
   | cons f l =>
     have h1:=h.fr
     rw [hfr] at h1
     generalize e : st.free=f' at h1
     cases h1 with
     | cons _ _ hf hr =>
       have hc : CanAlloc st:=.inr ⟨by rw [e]; have:=hf.1; omega,by rw [e]; exact hr.lt h.ok.one⟩
       have hok:=(h.ok.alloc hc).1
       have hf0 : ¬ f=0:=by have:=hf.1; omega
       have hn : allocN st=f:=by unfold allocN; rw [e,if_neg hf0]
       have hs : allocS st={ st.upd f (zB 508) with free:=numL ((st.page f).take 4) }:=by unfold allocS; rw [e,if_neg hf0]
       have hnd:=h.nd
       rw [hfr,List.cons_append] at hnd
       have hn1:=(List.nodup_cons.1 hnd).1
       have hnu : f ∉ U:=fun hu => hn1 (List.mem_append_right _ hu)
       have hnl : f ∉ l:=fun hu => hn1 (List.mem_append_left _ hu)
       refine ⟨hc,l,⟨hok,?_,?_,fun x => ?_⟩,⟨fun x hx => ?_,?_,?_⟩,?_,?_⟩
       · rw [hs]
         exact hr.frame (st':={ st.upd f (zB 508) with free:=numL ((st.page f).take 4) }) (Nat.le_refl _) fun x hx => upd_page f x _ (fun e => hnl (by rw [<- e]; exact hx))
       · rw [hn]
         exact (List.Perm.nodup_iff List.perm_middle).2 hnd
       · rw [hs, hn]
         have h2:=h.all x
         rw [hfr,List.cons_append] at h2
         exact h2.trans (List.Perm.mem_iff List.perm_middle).symm
       · rw [hs]; exact upd_page f x _ (fun e => hnu (by rw [<- e]; exact hx))
       · rw [hs]; exact Nat.le_refl _
       · rw [hs]; rfl
       · rw [hs]; exact Nat.le_succ _
       · rw [hn]; exact hnu
theorem Inv.setRoot (h : Inv st fl U) (k : Nat) (hn : no < st.many) : Inv (setRootS st k no) fl U:=⟨h.ok.set k no hn,h.fr.frame (st':=setRootS st k no) (Nat.le_refl _) fun _ _ => rfl,h.nd,h.all⟩
theorem Inv.save (h : Inv st fl (no :: U)) (n : NodeP) (hr : RightP n) (hz : sizeP n<=508) : CanSave st no n/\Inv (saveS st no n) fl (no :: U)/\Same U st (saveS st no n)/\(saveS st no n).many=st.many/\LoadR (saveS st no n) no n:=by
 have hc : CanSave st no n:=⟨h.has_ (.head _),hr,hz⟩
 obtain ⟨h1,h2,h3⟩:=h.write (packP n) (by rw [packP_len]; exact hz)
 exact ⟨hc,h1,h2,h3,load_saved hc⟩
end
theorem LoadR.size {st : PgS} {no : Nat} {n : NodeP} (h : LoadR st no n) (ho : st.ok) : sizeP n<=508:=by
 obtain ⟨h0,h1,z,hz⟩:=h
 have h2:=ho.len no h0
 rw [hz,List.length_append,packP_len] at h2
 omega
theorem cellZ_leaf {c : CellP} (hk : c.key.length<=120) (h : CellOk c) : cellZ true c<=187:=by
 unfold cellZ
 rcases h with ⟨h1,h2,h3⟩ | ⟨h1,h2,h3,h4⟩
 · rw [if_pos rfl,if_pos h1]; omega
 · rw [if_pos rfl,if_neg (by have:=h1.1; omega)]; omega
theorem cellZ_bare {c : CellP} (hk : c.key.length<=120) : cellZ false c<=124:=by
 unfold cellZ
 rw [if_neg (by decide)]; omega
theorem cellZ_pos (leaf : Bool) (c : CellP) : 3<=cellZ leaf c:=by
 unfold cellZ
 cases leaf
 · rw [if_neg (by decide)]; omega
 · rw [if_pos rfl]; split <;> omega
theorem cellsZ_len (leaf : Bool) : ∀ cs,3 * cs.length<=cellsZ leaf cs
 | [] => Nat.zero_le _
 | c :: r => by
   have h1:=cellZ_pos leaf c
   have h2:=cellsZ_len leaf r
   rw [cellsZ,List.length_cons]; omega
def bigC (leaf : Bool) : Nat:=if leaf=true then 187 else 124
theorem RightP.cell_le {n : NodeP} (h : RightP n) {c : CellP} (hc : c ∈ n.cells) : cellZ n.leaf c<=bigC n.leaf:=by
 have h1:=h.keys c hc
 have h2:=h.vals c hc
 unfold bigC
 cases e : n.leaf with
 | true => rw [e,if_pos rfl] at h2; rw [if_pos rfl]; exact cellZ_leaf h1.2 h2
 | false => rw [if_neg (by decide)]; exact cellZ_bare h1.2
def sumTo (n : NodeP) (i : Nat) : Nat:=cellsZ n.leaf (n.cells.take i)
theorem sumTo_succ (n : NodeP) (i : Nat) (hi : i < n.cells.length) : sumTo n (i + 1)=sumTo n i + cellZ n.leaf n.cells[i]:=by
 unfold sumTo
 rw [List.take_succ_eq_append_getElem hi,cellsZ_append,cellsZ,cellsZ,Nat.add_zero]
theorem sumTo_drop (n : NodeP) (i : Nat) : sumTo n i + cellsZ n.leaf (n.cells.drop i)=cellsZ n.leaf n.cells:=by
 unfold sumTo
 rw [<- cellsZ_append,List.take_append_drop]
theorem RightP.part {n : NodeP} (h : RightP n) {a b : Nat} (hab : a<=b) (hb : b<=n.cells.length) : RightP (partP n a b):=by
 have hsub : ∀ c ∈ (partP n a b).cells,c ∈ n.cells:=fun c hc => List.mem_of_mem_drop (List.mem_of_mem_take hc)
 have hl : (partP n a b).cells.length=b - a:=by simp [partP]; omega
 refine ⟨fun e => ?_,fun e => ?_,by rw [hl]; have:=h.many; omega,fun c hc => h.keys c (hsub c hc),?_,fun c hc => h.vals c (hsub c hc),fun k hk => ?_⟩
 · have e2 : n.leaf = true := e
   show (if n.leaf=true then [] else _)=_
   rw [if_pos e2]
 · have e2 : n.leaf = false := e
   have h2:=h.kidsIn e2
   rw [hl]
   show (if n.leaf=true then [] else _).length=_
   rw [if_neg (by rw [e2]; decide),List.length_take,List.length_drop,h2]
   omega
 · have h1 := h.rise
   rw [<- List.take_append_drop a n.cells] at h1
   have h2:=h1.right
   rw [<- List.take_append_drop (b - a) (n.cells.drop a)] at h2
   exact h2.left
 · have hk2 : k ∈ (if n.leaf = true then [] else (n.kids.drop a).take (b + 1 - a)) := hk
   split at hk2
   · cases hk2
   · exact h.kidsOk k (List.mem_of_mem_drop (List.mem_of_mem_take hk2))
theorem size_partA (n : NodeP) (m : Nat) : sizeP (partP n 0 m)=(if n.leaf=true then 3 else 6) + sumTo n m:=by
 unfold sizeP sumTo partP
 simp
theorem size_partB (n : NodeP) (m : Nat) : sizeP (partP n m n.cells.length)=(if n.leaf=true then 3 else 6) + cellsZ n.leaf (n.cells.drop m):=by
 unfold sizeP partP
 simp only
 rw [List.take_of_length_le (by simp)]
def mayCut (n : NodeP) (m : Nat) : Prop:=1<=m/\m + skipN n < n.cells.length
theorem bigAt_pos (n : NodeP) (m : Nat) : 0 < bigAt n m:=by
 unfold bigAt
 rw [size_partA]
 have : 3<=(if n.leaf=true then 3 else 6):=by split <;> omega
 omega
theorem best_spec (n : NodeP) : ∀ j,((bestTo n j).1=0/\∀ m,m < j->¬ mayCut n m) \/ (mayCut n (bestTo n j).2/\(bestTo n j).2 < j/\(bestTo n j).1=bigAt n (bestTo n j).2/\∀ m,m < j->mayCut n m->(bestTo n j).1<=bigAt n m)
 | 0 => .inl ⟨rfl,fun m hm => absurd hm (by omega)⟩
 | j + 1 => by
   have ih:=best_spec n j
   rw [bestTo]
   by_cases hc : (1<=j/\j + skipN n < n.cells.length)/\((bestTo n j).1=0 \/ bigAt n j < (bestTo n j).1)
   · rw [if_pos hc]
     refine .inr ⟨hc.1,Nat.lt_succ_self _,rfl,fun m hm hmc => ?_⟩
     show bigAt n j<=bigAt n m
     rcases Nat.lt_or_ge m j with h1 | h1
     · rcases ih with ⟨h2, h3⟩ | ⟨_, _, _, h5⟩
       · exact absurd hmc (h3 m h1)
       · rcases hc.2 with h6 | h6
         · have := h5 m h1 hmc
           rcases best_spec n j with ⟨_,h3⟩ | ⟨_,_,h7,_⟩
           · exact absurd hmc (h3 m h1)
           · have:=bigAt_pos n (bestTo n j).2; omega
         · have:=h5 m h1 hmc; omega
     · have : m = j := by omega
       rw [this]; exact Nat.le_refl _
   · rw [if_neg hc]
     rcases ih with ⟨h2,h3⟩ | ⟨h2,h3,h4,h5⟩
     · refine .inl ⟨h2, fun m hm hmc => ?_⟩
       rcases Nat.lt_or_ge m j with h1 | h1
       · exact h3 m h1 hmc
       · have : m = j := by omega
         subst this
         exact hc ⟨hmc,.inl h2⟩
     · refine .inr ⟨h2, by omega, h4, fun m hm hmc => ?_⟩
       rcases Nat.lt_or_ge m j with h1 | h1
       · exact h5 m h1 hmc
       · have : m = j := by omega
         subst this
         have h6 : ¬ bigAt n m < (bestTo n m).1:=fun h => hc ⟨hmc,.inr h⟩
         omega
theorem mid_cell (n : NodeP) (h0 : 0 < cellsZ n.leaf n.cells) : ∃ m,m < n.cells.length/\2 * sumTo n m<=cellsZ n.leaf n.cells/\cellsZ n.leaf n.cells < 2 * sumTo n (m + 1):=by
 have key : ∀ j,j<=n.cells.length->cellsZ n.leaf n.cells < 2 * sumTo n j->∃ m,m < n.cells.length/\2 * sumTo n m<=cellsZ n.leaf n.cells/\cellsZ n.leaf n.cells < 2 * sumTo n (m + 1):=by
   intro j
   induction j with
   | zero => intro _ h; unfold sumTo at h; rw [List.take_zero,cellsZ] at h; omega
   | succ j ih =>
     intro hj h
     by_cases h2 : cellsZ n.leaf n.cells < 2 * sumTo n j
     · exact ih (by omega) h2
     · exact ⟨j,by omega,by omega,h⟩
 refine key n.cells.length (Nat.le_refl _) ?_
 unfold sumTo
 rw [List.take_length]; omega
structure HalfOk (n : NodeP) : Prop where
 may : mayCut n (cutAt n)
 parts : PartsOk n
 ra : RightP (halfA n)
 rb : RightP (halfB n)
 a1 : 127<=sizeP (halfA n)
 a2 : sizeP (halfA n)<=508
 b1 : 127<=sizeP (halfB n)
 b2 : sizeP (halfB n)<=508
theorem half_ok (n : NodeP) (hr : RightP n) (hz : 508 < sizeP n) (hm : sizeP n<=760) : HalfOk n:=by
 obtain ⟨T,hT⟩ : ∃ T,T=cellsZ n.leaf n.cells:=⟨_,rfl⟩
 have hsz : sizeP n=(if n.leaf=true then 3 else 6) + T:=by rw [hT]; rfl
 have hT0 : 0 < cellsZ n.leaf n.cells:=by rw [<- hT]; split at hsz <;> omega
 obtain ⟨m,hml,hm1,hm2⟩:=mid_cell n hT0
 rw [<- hT] at hm1 hm2
 have hc:=hr.cell_le (List.getElem_mem hml)
 have hs:=sumTo_succ n m hml
 have hs0 : sumTo n 0=0:=by unfold sumTo; rw [List.take_zero,cellsZ]
 have hdr : ∀ i,cellsZ n.leaf (n.cells.drop i)=T - sumTo n i:=fun i => by have:=sumTo_drop n i; omega
 have hle : ∀ i,sumTo n i<=T:=fun i => by have:=sumTo_drop n i; omega
 have hlast : sumTo n n.cells.length=T:=by unfold sumTo; rw [List.take_length,hT]
 have hstep : ∀ i,i < n.cells.length->sumTo n (i + 1)<=sumTo n i + bigC n.leaf:=fun i hi => by
   have:=hr.cell_le (List.getElem_mem hi); have:=sumTo_succ n i hi; omega
 have hall : ∀ k,mayCut n k->RightP (partP n 0 k)/\RightP (partP n (k + skipN n) n.cells.length):=fun k hk =>
   ⟨hr.part (Nat.zero_le _) (by have:=hk.2; omega),hr.part (by have:=hk.2; omega) (Nat.le_refl _)⟩
 have hbest:=best_spec n n.cells.length
 cases e : n.leaf with
 | true =>
   have hskip : skipN n=0:=by unfold skipN; rw [if_pos e]
   rw [e,if_pos rfl] at hsz
   rw [show bigC n.leaf=187 by rw [e]; rfl] at hc hstep
   have hm0 : m ≠ 0:=fun h => by
     rw [h] at hm2
     have h3:=hstep 0 (by omega)
     rw [Nat.zero_add] at h3 hm2
     omega
   have hml2 : m + 1 ≠ n.cells.length:=fun h => by
     have h3 : sumTo n (m + 1)=T:=by rw [h]; exact hlast
     omega
   have hc1 : mayCut n m:=⟨by omega,by rw [hskip]; omega⟩
   have hc2 : mayCut n (m + 1):=⟨by omega,by rw [hskip]; omega⟩
   have hbig : ∀ k,bigAt n k=3 + max (sumTo n k) (T - sumTo n k):=fun k => by
     unfold bigAt
     rw [hskip,Nat.add_zero,size_partA,size_partB,e,if_pos rfl,<- e,hdr]
     omega
   rcases hbest with ⟨_,h3⟩ | ⟨h2,h3,h4,h5⟩
   · exact absurd hc1 (h3 m hml)
   · have h6 := h5 m hml hc1
     have h7:=h5 (m + 1) (by omega) hc2
     rw [h4,hbig,hbig] at h6 h7
     have e1 : sizeP (halfA n)=3 + sumTo n (bestTo n n.cells.length).2:=by
       show sizeP (partP n 0 (cutAt n))=_
       rw [size_partA,if_pos e]; rfl
     have e2 : sizeP (halfB n)=3 + (T - sumTo n (bestTo n n.cells.length).2):=by
       show sizeP (partP n (cutAt n + skipN n) n.cells.length)=_
       rw [hskip,Nat.add_zero,size_partB,if_pos e,hdr]; rfl
     have h8:=hle (bestTo n n.cells.length).2
     refine ⟨h2,⟨by rw [hskip]; have:=hc1.2; have:=hc2.2; rw [hskip] at *; omega,fun k h1 h9 => hall k ⟨h1,h9⟩⟩,(hall _ h2).1,(hall _ h2).2,?_,?_,?_,?_⟩ <;> (first | rw [e1] | rw [e2]) <;> omega
 | false =>
   have hskip : skipN n=1:=by unfold skipN; rw [if_neg (by rw [e]; decide)]
   rw [e,if_neg (by decide)] at hsz
   rw [show bigC n.leaf=124 by rw [e]; rfl] at hc hstep
   have hm0 : m ≠ 0:=fun h => by
     rw [h] at hm2
     have h3:=hstep 0 (by omega)
     rw [Nat.zero_add] at h3 hm2
     omega
   have hml2 : m + 1 ≠ n.cells.length:=fun h => by
     have h3 : sumTo n (m + 1)=T:=by rw [h]; exact hlast
     omega
   have hc1 : mayCut n m:=⟨by omega,by rw [hskip]; omega⟩
   have hbig : ∀ k,bigAt n k=6 + max (sumTo n k) (T - sumTo n (k + 1)):=fun k => by
     unfold bigAt
     rw [hskip,size_partA,size_partB,e,if_neg (by decide),<- e,hdr]
     omega
   rcases hbest with ⟨_,h3⟩ | ⟨h2,h3,h4,h5⟩
   · exact absurd hc1 (h3 m hml)
   · have h6 := h5 m hml hc1
     rw [h4,hbig,hbig] at h6
     have e1 : sizeP (halfA n)=6 + sumTo n (bestTo n n.cells.length).2:=by
       show sizeP (partP n 0 (cutAt n))=_
       rw [size_partA,if_neg (by rw [e]; decide)]; rfl
     have e2 : sizeP (halfB n)=6 + (T - sumTo n ((bestTo n n.cells.length).2 + 1)):=by
       show sizeP (partP n (cutAt n + skipN n) n.cells.length)=_
       rw [hskip,size_partB,if_neg (by rw [e]; decide),hdr]; rfl
     have h8:=hle (bestTo n n.cells.length).2
     have h9:=hle ((bestTo n n.cells.length).2 + 1)
     have h10:=hstep _ h3
     refine ⟨h2,⟨by rw [hskip]; have:=hc1.2; rw [hskip] at this; omega,fun k h1 h9 => hall k ⟨h1,h9⟩⟩,(hall _ h2).1,(hall _ h2).2,?_,?_,?_,?_⟩ <;> (first | rw [e1] | rw [e2]) <;> omega
theorem LoadR.frame {st st' : PgS} {no : Nat} {n : NodeP} (h : LoadR st no n) (hm : st.many<=st'.many) (hp : st'.page no=st.page no) : LoadR st' no n :=
 ⟨⟨h.1.1,Nat.lt_of_lt_of_le h.1.2 hm⟩,by rw [hp]; exact h.2⟩
theorem keyOfC_of {cs : List CellP} {i : Nat} {c : CellP} (h : cs[i]?=some c) : keyOfC cs i=c.key:=by unfold keyOfC; rw [h]
theorem inB.left {lo : KeyB} {hi : Option KeyB} {s x : KeyB} (h : inB lo (some s) x) (hs : sepB lo hi s) : inB lo hi x:=⟨h.1,fun t ht => ltK_trans _ _ _ (h.2 _ rfl) (hs.2 t ht)⟩
theorem inB.right {lo : KeyB} {hi : Option KeyB} {s x : KeyB} (h : inB s hi x) (hs : sepB lo hi s) : inB lo hi x:=⟨le_ltK _ _ _ (ltK_asymm _ _ hs.1) h.1,h.2⟩
theorem NodeT.split {st : PgS} {h : Nat} {n : NodeP} {lo : KeyB} {hi : Option KeyB} {L : List CellP} {Q : List Nat} (ht : NodeT st h n lo hi L Q) (hr : RightP n) (m : Nat) (hm : mayCut n m) :
   ∃ L1 L2 Q1 Q2,L=L1 ++ L2/\Q=Q1 ++ Q2/\sepB lo hi (keyOfC n.cells m)/\NodeT st h (partP n 0 m) lo (some (keyOfC n.cells m)) L1 Q1/\NodeT st h (partP n (m + skipN n) n.cells.length) (keyOfC n.cells m) hi L2 Q2:=by
 have hml : m < n.cells.length:=by have:=hm.2; omega
 have hc : n.cells[m]?=some n.cells[m]:=List.getElem?_eq_getElem hml
 have hk:=keyOfC_of hc
 cases h with
 | zero =>
   obtain ⟨h1,rfl,h3,rfl⟩:=ht
   have hskip : skipN n=0:=by unfold skipN; rw [if_pos h1]
   have hrise:=hr.rise
   rw [<- List.take_append_drop m n.cells] at hrise
   have hmem : n.cells[m] ∈ n.cells.drop m:=by rw [List.drop_eq_getElem_cons hml]; exact .head _
   have hlt : ∀ x ∈ n.cells.take m,ltK x.key (keyOfC n.cells m)=true:=fun x hx => by rw [hk]; exact hrise.between x hx _ hmem
   have hge : ∀ x ∈ n.cells.drop m,ltK x.key (keyOfC n.cells m)=false:=fun x hx => by
     rw [hk]
     have h4:=hrise.right
     rw [List.drop_eq_getElem_cons hml] at hx h4
     rcases List.mem_cons.1 hx with rfl | hx
     · exact ltK_irrefl _
     · exact ltK_asymm _ _ (h4.1 x hx)
   have h0 : n.cells[0] ∈ n.cells.take m:=by
     refine List.mem_of_getElem? (i:=0) ?_
     rw [List.getElem?_take,if_pos (by have:=hm.1; omega),List.getElem?_eq_getElem (by omega)]
   refine ⟨n.cells.take m,n.cells.drop m,[],[],(List.take_append_drop ..).symm,rfl,⟨le_ltK_trans _ _ _ (h3 _ (List.getElem_mem (by omega))).1 (hlt _ h0),fun t ht => ?_⟩,⟨h1,by simp [partP],fun c hc' => ?_,rfl⟩,⟨h1,?_,fun c hc' => ?_,rfl⟩⟩
   · rw [hk]; exact (h3 _ (List.getElem_mem hml)).2 t ht
   · have hc2 : c ∈ n.cells.take m := by simpa [partP] using hc'
     exact ⟨(h3 c (List.mem_of_mem_take hc2)).1,fun t ht => by injection ht with ht; rw [<- ht]; exact hlt c hc2⟩
   · rw [hskip, Nat.add_zero]
     show _=(n.cells.drop m).take (n.cells.length - m)
     rw [List.take_of_length_le (by simp)]
   · rw [hskip, Nat.add_zero] at hc'
     have hc2 : c ∈ n.cells.drop m:=List.mem_of_mem_take hc'
     exact ⟨hge c hc2,(h3 c (List.mem_of_mem_drop hc2)).2⟩
 | succ h =>
   obtain ⟨h1,h2⟩:=ht
   have hskip : skipN n=1:=by unfold skipN; rw [if_neg (by rw [h1]; decide)]
   have hkl:=h2.len
   obtain ⟨L1,L2,P1,P2,rfl,rfl,h3,h4,h5⟩:=h2.cut m _ hc
   refine ⟨L1,L2,P1,P2,rfl,rfl,by rw [hk]; exact h5,⟨h1,?_⟩,⟨h1,?_⟩⟩
   · rw [hk]
     have e1 : (partP n 0 m).cells=n.cells.take m:=by simp [partP]
     have e2 : (partP n 0 m).kids=n.kids.take (m + 1):=by simp [partP,h1]
     rw [e1,e2]; exact h3
   · rw [hk, hskip]
     have e1 : (partP n (m + 1) n.cells.length).cells=n.cells.drop (m + 1):=by
       show (n.cells.drop (m + 1)).take (n.cells.length - (m + 1))=_
       rw [List.take_of_length_le (by simp)]
     have e2 : (partP n (m + 1) n.cells.length).kids=n.kids.drop (m + 1):=by
       show (if n.leaf=true then [] else _)=_
       rw [if_neg (by rw [h1]; decide),List.take_of_length_le (by simp; omega)]
     rw [e1,e2]; exact h4
theorem NodeT.leaf_eq {st : PgS} {h : Nat} {a b : NodeP} {lo lo' : KeyB} {hi hi' : Option KeyB} {L L' : List CellP} {Q Q' : List Nat} (ha : NodeT st h a lo hi L Q) (hb : NodeT st h b lo' hi' L' Q') : b.leaf=a.leaf:=by
 cases h with
 | zero => rw [ha.1,hb.1]
 | succ h => rw [ha.1,hb.1]
theorem NodeT.join {st : PgS} {h : Nat} {a b : NodeP} {s lo : KeyB} {hi : Option KeyB} {L1 L2 : List CellP} {Q1 Q2 : List Nat} (ha : NodeT st h a lo (some s) L1 Q1) (hb : NodeT st h b s hi L2 Q2) (hs : sepB lo hi s) :
   NodeT st h (joinP a s b) lo hi (L1 ++ L2) (Q1 ++ Q2):=by
 cases h with
 | zero =>
   obtain ⟨h1,rfl,h3,rfl⟩:=ha
   obtain ⟨k1,rfl,k3,rfl⟩:=hb
   refine ⟨h1,by simp [joinP,h1],fun c hc => ?_,rfl⟩
   have hc2 : c ∈ a.cells \/ c ∈ b.cells:=by simpa [joinP,h1] using hc
   rcases hc2 with hc2 | hc2
   · exact (h3 c hc2).left hs
   · exact (k3 c hc2).right hs
 | succ h =>
   obtain ⟨h1,h2⟩:=ha
   obtain ⟨k1,k2⟩:=hb
   refine ⟨h1,?_⟩
   have e1 : (joinP a s b).cells=a.cells ++ (⟨s,[],0,0⟩ : CellP) :: b.cells:=by simp [joinP,h1]
   have e2 : (joinP a s b).kids=a.kids ++ b.kids:=by simp [joinP,h1]
   rw [e1,e2]
   exact Kids.glue (c:=⟨s,[],0,0⟩) h2 k2 hs
theorem inner_right {st : PgS} {T : KeyB->Option KeyB->Nat->List CellP->List Nat->Prop} {cs : List CellP} {ks : List Nat} {lo : KeyB} {hi : Option KeyB} {L : List CellP} {P : List Nat} (h : Kids T cs ks lo hi L P) (hc : ∀ c ∈ cs,BareCell c/\1<=c.key.length/\c.key.length<=120)
   (hn : cs.length < 65536) (hk : ∀ k ∈ ks,childN k) : RightP ⟨false,cs,ks⟩ :=
 ⟨fun e => (by cases e),fun _ => h.len,hn,fun c hc' => (hc c hc').2,h.rise,fun c hc' => by rw [if_neg (fun e => by cases e)]; exact (hc c hc').1,hk⟩
theorem has_child {st : PgS} (ho : st.ok) {no : Nat} (h : st.has no) : childN no:=⟨h.1,by have:=h.2; have:=ho.most; omega⟩
theorem join_right {st : PgS} {h : Nat} {a b : NodeP} {s lo : KeyB} {hi : Option KeyB} {L1 L2 : List CellP} {Q1 Q2 : List Nat} (ha : NodeT st h a lo (some s) L1 Q1) (hb : NodeT st h b s hi L2 Q2) (hs : sepB lo hi s)
   (hra : RightP a) (hrb : RightP b) (hn : a.cells.length + b.cells.length + 1 < 65536) (h1 : 1<=s.length) (h2 : s.length<=120) : RightP (joinP a s b):=by
 have hj:=ha.join hb hs
 have he:=ha.leaf_eq hb
 cases h with
 | zero =>
   obtain ⟨hl,rfl,h3,rfl⟩:=ha
   obtain ⟨kl,rfl,k3,rfl⟩:=hb
   have e1 : (joinP a s b).cells=a.cells ++ b.cells:=by simp [joinP,hl]
   refine ⟨fun _ => by simp [joinP,hl],fun e => (by have : a.leaf=false:=e; rw [hl] at this; cases this),by rw [e1,List.length_append]; omega,fun c hc => ?_,?_,fun c hc => ?_,fun k hk => ?_⟩
   · rw [e1] at hc
     rcases List.mem_append.1 hc with hc | hc
     · exact hra.keys c hc
     · exact hrb.keys c hc
   · rw [e1]
     exact hra.rise.append hrb.rise fun x hx y hy => ltK_le_trans _ _ _ ((h3 x hx).2 _ rfl) (k3 y hy).1
   · show if a.leaf = true then _ else _
     rw [e1] at hc
     rw [if_pos hl]
     rcases List.mem_append.1 hc with hc | hc
     · have:=hra.vals c hc; rw [if_pos hl] at this; exact this
     · have:=hrb.vals c hc; rw [if_pos kl] at this; exact this
   · simp [joinP,hl] at hk
 | succ h =>
   obtain ⟨hl,_⟩:=ha
   obtain ⟨kl,_⟩:=hb
   have e1 : (joinP a s b).cells=a.cells ++ (⟨s,[],0,0⟩ : CellP) :: b.cells:=by simp [joinP,hl]
   have e2 : (joinP a s b).kids=a.kids ++ b.kids:=by simp [joinP,hl]
   have e3 : joinP a s b=⟨false,(joinP a s b).cells,(joinP a s b).kids⟩:=by simp [joinP,hl]
   rw [e3]
   refine inner_right (st:=st) hj.2 (fun c hc => ?_) (by rw [e1,List.length_append,List.length_cons]; omega) (fun k hk => ?_)
   · rw [e1] at hc
     rcases List.mem_append.1 hc with hc | hc
     · have := hra.vals c hc
       rw [if_neg (by rw [hl]; decide)] at this
       exact ⟨this,hra.keys c hc⟩
     · rcases List.mem_cons.1 hc with rfl | hc
       · exact ⟨⟨rfl,rfl,rfl⟩,h1,h2⟩
       · have := hrb.vals c hc
         rw [if_neg (by rw [kl]; decide)] at this
         exact ⟨this,hrb.keys c hc⟩
   · rw [e2] at hk
     rcases List.mem_append.1 hk with hk | hk
     · exact hra.kidsOk k hk
     · exact hrb.kidsOk k hk
theorem join_size {a b : NodeP} (s : KeyB) (he : b.leaf=a.leaf) : sizeP (joinP a s b)=if a.leaf=true then sizeP a + sizeP b - 3 else sizeP a + sizeP b - 6 + (4 + s.length):=by
 unfold sizeP
 have e0 : (joinP a s b).leaf=a.leaf:=rfl
 rw [e0,he]
 cases e : a.leaf with
 | true =>
   have e1 : (joinP a s b).cells=a.cells ++ b.cells:=by simp [joinP,e]
   rw [e1,cellsZ_append]
   simp only [if_true]; omega
 | false =>
   have e1 : (joinP a s b).cells=a.cells ++ (⟨s,[],0,0⟩ : CellP) :: b.cells:=by simp [joinP,e]
   rw [e1,cellsZ_append,cellsZ]
   have : cellZ false ⟨s,[],0,0⟩=4 + s.length:=by simp [cellZ]; omega
   rw [this]
   simp only [Bool.false_eq_true,if_false]; omega
theorem size_cells (n : NodeP) : 3 * n.cells.length + 3<=sizeP n:=by
 have:=cellsZ_len n.leaf n.cells
 unfold sizeP
 split <;> omega
def LaidR (st : PgS) (h no : Nat) (lo : KeyB) (hi : Option KeyB) (L : List CellP) (fl U : List Nat) : Option (KeyB × Nat)->Prop
 | none => ∃ P,Inv st fl (P ++ U)/\TreeR st h 0 lo hi no L P
 | some (kk,kno) => ∃ L1 L2 P1 P2,L=L1 ++ L2/\sepB lo hi kk/\1<=kk.length/\kk.length<=120/\Inv st fl (P1 ++ (P2 ++ U))/\TreeR st h 127 lo (some kk) no L1 P1/\TreeR st h 127 kk hi kno L2 P2
theorem lay_law {st : PgS} {fl U Q : List Nat} {h no : Nat} {n : NodeP} {lo : KeyB} {hi : Option KeyB} {L : List CellP} (hI : Inv st fl (no :: (Q ++ U))) (ht : NodeT st h n lo hi L Q) (hr : RightP n) (hz : sizeP n<=760) (hm : st.many < 65536) :
   ∃ st' o fl',LayR st no n st' o/\LaidR st' h no lo hi L fl' U o/\Same U st st'/\st'.many<=st.many + 1:=by
 rcases Nat.lt_or_ge 508 (sizeP n) with hbig | hfit
 · have hh := half_ok n hr hbig hz
   obtain ⟨c1,i1,s1,m1,l1⟩:=hI.save (halfA n) hh.ra hh.a2
   obtain ⟨c2,fl2,i2,s2,m2,n2⟩:=i1.alloc (by rw [m1]; exact hm)
   obtain ⟨c3,i3,s3,m3,l3⟩:=i2.save (halfB n) hh.rb hh.b2
   have hS : Same (Q ++ U) st (saveS (allocS (saveS st no (halfA n))) (allocN (saveS st no (halfA n))) (halfB n)):=(s1.trans s2 fun x hx => .tail _ hx).trans s3 fun x hx => .tail _ hx
   have hF:=ht.frame hS.many (fun x hx => hS.page x (List.mem_append_left _ hx))
   obtain ⟨L1,L2,Q1,Q2,rfl,rfl,hs,hA,hB⟩:=hF.split hr _ hh.may
   have l1':=l1.frame (Nat.le_trans s2.many s3.many) ((s3.page no (.head _)).trans (s2.page no (.head _)))
   have hml : cutAt n < n.cells.length:=by have:=hh.may.2; omega
   have hk:=hr.keys _ (List.getElem_mem hml)
   have hkk : halfK n=n.cells[cutAt n].key:=keyOfC_of (List.getElem?_eq_getElem hml)
   refine ⟨_,_,fl2,.split st no n hr hbig hz hh.parts c1 c2 c3,⟨L1,L2,no :: Q1,allocN (saveS st no (halfA n)) :: Q2,rfl,hs,by rw [hkk]; exact hk.1,by rw [hkk]; exact hk.2,i3.perm ?_,hA.tree l1' hh.a1,hB.tree l3 hh.b1⟩,hS.mono fun x hx => List.mem_append_right _ hx,?_⟩
   · refine List.perm_iff_count.2 fun x => ?_
     simp only [List.count_cons,List.count_append]
     omega
   · rw [m3]; exact Nat.le_trans m2 (by rw [m1]; exact Nat.le_refl _)
 · obtain ⟨c1, i1, s1, m1, l1⟩ := hI.save n hr hfit
   have hF:=ht.frame s1.many (fun x hx => s1.page x (List.mem_append_left _ hx))
   exact ⟨_,_,fl,.fits st no n c1,⟨no :: Q,i1,hF.tree l1 (Nat.zero_le _)⟩,s1.mono fun x hx => List.mem_append_right _ hx,by rw [m1]; exact Nat.le_succ _⟩
theorem size_least (n : NodeP) : (if n.leaf=true then 3 else 6)<=sizeP n:=Nat.le_add_right _ _
theorem setKey_eq (cs : List CellP) (k : Nat) (key : KeyB) (c : CellP) (h : cs[k]?=some c) : setKey cs k key=cs.take k ++ ({ c with key:=key } :: cs.drop (k + 1)):=by
 unfold setKey
 have hk : k < cs.length:=(List.getElem?_eq_some_iff.1 h).1
 induction cs generalizing k with
 | nil => simp at hk
 | cons a r ih =>
   cases k with
   | zero => simp at h; subst h; rfl
   | succ k =>
     rw [List.modify_succ_cons,ih k (by simpa using h) (by simpa using hk)]
     rfl
theorem take_snoc_at {α : Type} (l : List α) (k : Nat) (x : α) (h : l[k]?=some x) : l.take (k + 1)=l.take k ++ [x]:=by
 obtain ⟨hk,rfl⟩:=List.getElem?_eq_some_iff.1 h
 exact List.take_succ_eq_append_getElem hk
theorem drop_at {α : Type} (l : List α) (k : Nat) (x : α) (h : l[k]?=some x) : l.drop k=x :: l.drop (k + 1):=by
 obtain ⟨hk,rfl⟩:=List.getElem?_eq_some_iff.1 h
 exact List.drop_eq_getElem_cons hk
theorem kidAt_some (n : NodeP) (i : Nat) (hi : i < n.kids.length) : n.kids[i]?=some (kidAt n i):=by
 unfold kidAt
 rw [List.getD_eq_getElem?_getD,List.getElem?_eq_getElem hi]; rfl
theorem cellsZ_sub (leaf : Bool) (a b : List CellP) (c d : CellP) : cellsZ leaf (a ++ c :: b) + cellZ leaf d=cellsZ leaf (a ++ d :: b) + cellZ leaf c:=by
 rw [cellsZ_append,cellsZ_append,cellsZ,cellsZ]; omega
def ThinT (st : PgS) (h x : Nat) : KeyB->Option KeyB->Nat->List CellP->List Nat->Prop:=fun lo hi k l p => TreeR st h (if k=x then 0 else 127) lo hi k l p
theorem mend_law {st : PgS} {fl U Q : List Nat} {h i : Nat} {n : NodeP} {lo : KeyB} {hi : Option KeyB} {L : List CellP} (hI : Inv st fl (Q ++ U)) (hK : Kids (ThinT st h (kidAt n i)) n.cells n.kids lo hi L Q) (hf : n.leaf=false) (hr : RightP n)
   (hsz : sizeP n<=508) (hil : i < n.kids.length) (hne : n.cells ≠ []) :
   ∃ st' n2 fl' Q',MendR st n i st' n2/\Inv st' fl' (Q' ++ U)/\Same U st st'/\st'.many=st.many/\NodeT st' (h + 1) n2 lo hi L Q'/\RightP n2/\sizeP n2<=760:=by
 have hlen:=hK.len
 have hcl : 0 < n.cells.length:=List.length_pos_iff.2 hne
 have hT : ∀ lo hi k l p,ThinT st h (kidAt n i) lo hi k l p->∀ x ∈ l,inB lo hi x.key:=fun _ _ _ _ _ ht => TreeR.keys ht
 obtain ⟨k,hk⟩ : ∃ k,k=min i (n.kids.length - 2):=⟨_,rfl⟩
 have hik : i=k \/ i=k + 1:=by omega
 have hkc : k < n.cells.length:=by omega
 obtain ⟨lo',hi',LA,l,LB,PA,p,PB,rfl,rfl,hp,hA⟩:=hK.around hT k 1 (by omega)
 have e1 : (n.cells.drop k).take 1=[n.cells[k]]:=by rw [List.drop_eq_getElem_cons hkc]; rfl
 have ka:=kidAt_some n k (by omega)
 have kb:=kidAt_some n (k + 1) (by omega)
 have e2 : (n.kids.drop k).take 2=[kidAt n k,kidAt n (k + 1)]:=by rw [drop_at _ _ _ ka,drop_at _ _ _ kb]; rfl
 rw [e1,e2] at hp
 cases hp with
 | more _ _ _ _ _ _ la pa L2 P2 hsep hta hrest =>
 cases hrest with
 | one _ _ _ _ _ htb =>
 have hcell : n.cells[k]?=some n.cells[k]:=List.getElem?_eq_getElem hkc
 have hkey:=keyOfC_of hcell
 have hkl:=hr.keys _ (List.getElem_mem hkc)
 have hbare:=hr.vals _ (List.getElem_mem hkc)
 rw [if_neg (by rw [hf]; decide)] at hbare
 obtain ⟨na,Qa,lda,sza,nta,rfl⟩:=TreeR.node hta
 obtain ⟨nb,Qb,ldb,szb,ntb,rfl⟩:=TreeR.node htb
 have hnd:=hI.ndU
 have hnd2 : (kidAt n k :: kidAt n (k + 1) :: (Qa ++ Qb ++ (PA ++ PB) ++ U)).Nodup:=by
   refine (List.Perm.nodup_iff (List.perm_iff_count.2 fun x => ?_)).1 hnd
   simp only [List.count_cons,List.count_append]
   omega
 have hab : kidAt n k ≠ kidAt n (k + 1):=fun e => (List.nodup_cons.1 hnd2).1 (by rw [e]; exact .head _)
 have hax : ∀ x ∈ PA ++ PB,x ≠ kidAt n k:=fun x hx e => (List.nodup_cons.1 hnd2).1 (by rw [<- e]; exact List.mem_cons_of_mem _ (by rcases List.mem_append.1 hx with h | h <;> simp [h]))
 have hbx : ∀ x ∈ PA ++ PB,x ≠ kidAt n (k + 1):=fun x hx e => (List.nodup_cons.1 (List.nodup_cons.1 hnd2).2).1 (by rw [<- e]; rcases List.mem_append.1 hx with h | h <;> simp [h])
 clear hnd2
 have hctx : ∀ st',st.many<=st'.many->(∀ x ∈ PA ++ PB,st'.page x=st.page x)->∀ lo hi k' l p,(∀ x ∈ p,x ∈ PA ++ PB)->ThinT st h (kidAt n i) lo hi k' l p->(fun lo hi k l p => TreeR st' h 127 lo hi k l p) lo hi k' l p:=by
   intro st' hm hpg lo hi k' l p hpin ht
   have hk':=hpin _ (TreeR.mem ht)
   have hne' : k' ≠ kidAt n i:=by
     rcases hik with e | e
     · rw [e]; exact hax _ hk'
     · rw [e]; exact hbx _ hk'
   have ht2 : TreeR st h (if k'=kidAt n i then 0 else 127) lo hi k' l p:=ht
   rw [if_neg hne'] at ht2
   exact ht2.frame hm fun x hx => hpg x (hpin x hx)
 have hright : ∀ {st' : PgS} {cs : List CellP} {ks : List Nat} {Q' : List Nat} {L' : List CellP},Kids (fun lo hi k l p => TreeR st' h 127 lo hi k l p) cs ks lo hi L' Q'->(∀ c ∈ cs,BareCell c/\1<=c.key.length/\c.key.length<=120)->cs.length<=n.cells.length->(∀ x ∈ ks,x ∈ n.kids)->RightP ⟨false,cs,ks⟩:=by
   intro st' cs ks Q' L' hk hc hn hks
   exact inner_right (st:=st') hk hc (by have:=hr.many; omega) fun x hx => hr.kidsOk x (hks x hx)
 have hcells : ∀ c ∈ n.cells,BareCell c/\1<=c.key.length/\c.key.length<=120:=fun c hc => by
   have:=hr.vals c hc
   rw [if_neg (by rw [hf]; decide)] at this
   exact ⟨this,hr.keys c hc⟩
 have hsa:=lda.size hI.ok
 have hsb:=ldb.size hI.ok
 obtain ⟨c,hlc,hcc⟩ : ∃ c,LoadR st (kidAt n i) c/\((c=na/\i=k) \/ (c=nb/\i=k + 1)):=by
   rcases hik with e | e
   · exact ⟨na,by rw [e]; exact lda,.inl ⟨rfl,e⟩⟩
   · exact ⟨nb,by rw [e]; exact ldb,.inr ⟨rfl,e⟩⟩
 have hza : 127<=sizeP c->127<=sizeP na:=fun h => by
   rcases hcc with ⟨rfl,e⟩ | ⟨rfl,e⟩
   · exact h
   · rw [if_neg (by rw [e]; exact hab)] at sza; exact sza
 have hzb : 127<=sizeP c->127<=sizeP nb:=fun h => by
   rcases hcc with ⟨rfl,e⟩ | ⟨rfl,e⟩
   · rw [if_neg (by rw [e]; exact fun e2 => hab e2.symm)] at szb; exact szb
   · exact h
 have hsum : sizeP c < 127->sizeP na + sizeP nb<=634/\(127<=sizeP na \/ 127<=sizeP nb):=fun h => by
   rcases hcc with ⟨rfl,e⟩ | ⟨rfl,e⟩
   · rw [if_neg (by rw [e]; exact fun e2 => hab e2.symm)] at szb
     exact ⟨by omega,.inr szb⟩
   · rw [if_neg (by rw [e]; exact hab)] at sza
     exact ⟨by omega,.inl sza⟩
 rcases Nat.lt_or_ge (sizeP c) 127 with hthin | hfat
 · obtain ⟨hs1, hs2⟩ := hsum hthin
   have hla:=size_least na
   have hlb:=size_least nb
   have hle:=nta.leaf_eq ntb
   have hjs:=join_size (a:=na) (b:=nb) n.cells[k].key hle
   have hjn:=nta.join ntb hsep
   have hcn1:=size_cells na
   have hcn2:=size_cells nb
   have hjr:=join_right nta ntb hsep lda.2.1 ldb.2.1 (by omega) hkl.1 hkl.2
   have hj760 : sizeP (joinP na n.cells[k].key nb)<=760:=by rw [hjs]; split <;> omega
   have hj127 : 127<=sizeP (joinP na n.cells[k].key nb):=by
     rw [hjs]
     rw [hle] at hlb
     split at hla <;> split <;> simp_all <;> omega
   rcases Nat.lt_or_ge 508 (sizeP (joinP na n.cells[k].key nb)) with hbig | hfit
   · have hh := half_ok _ hjr hbig hj760
     have hI2 : Inv st fl (kidAt n k :: (kidAt n (k + 1) :: (Qa ++ Qb ++ (PA ++ PB) ++ U))):=hI.perm (List.perm_iff_count.2 fun x => by
       simp only [List.count_cons,List.count_append]; omega)
     obtain ⟨c1,i1,s1,m1,l1⟩:=hI2.save _ hh.ra hh.a2
     have i1' : Inv (saveS st (kidAt n k) (halfA (joinP na n.cells[k].key nb))) fl (kidAt n (k + 1) :: (kidAt n k :: (Qa ++ Qb ++ (PA ++ PB) ++ U))):=i1.perm (List.Perm.swap ..)
     obtain ⟨c2,i2,s2,m2,l2⟩:=i1'.save _ hh.rb hh.b2
     have hS : Same (Qa ++ Qb ++ (PA ++ PB) ++ U) st (saveS (saveS st (kidAt n k) (halfA (joinP na n.cells[k].key nb))) (kidAt n (k + 1)) (halfB (joinP na n.cells[k].key nb))) :=
       (s1.mono fun x hx => .tail _ hx).trans s2 fun x hx => .tail _ hx
     have hjn2:=hjn.frame hS.many (fun x hx => hS.page x (by rcases List.mem_append.1 hx with h | h <;> simp [h]))
     obtain ⟨L1,L2',Q1,Q2,eL,eQ,hs,hA2,hB2⟩:=hjn2.split hjr _ hh.may
     have l1':=l1.frame s2.many (s2.page _ (.head _))
     have tA:=hA2.tree l1' hh.a1
     have tB:=hB2.tree l2 hh.b1
     have hkp:=Kids.more (T:=fun q1 q2 q3 q4 q5 => TreeR (saveS (saveS st (kidAt n k) (halfA (joinP na n.cells[k].key nb))) (kidAt n (k + 1)) (halfB (joinP na n.cells[k].key nb))) h 127 q1 q2 q3 q4 q5)
       { n.cells[k] with key:=halfK (joinP na n.cells[k].key nb) } [] _ _ lo' hi' _ _ _ _ hs tA (.one _ _ _ _ _ tB)
     have hpl:=hA.plug _ (hctx _ hS.many fun x hx => hS.page x (by rcases List.mem_append.1 hx with h | h <;> simp [h])) _ _ _ _ hkp
     have ec : n.cells.take k ++ ([{ n.cells[k] with key:=halfK (joinP na n.cells[k].key nb) }] ++ n.cells.drop (k + 1))=setKey n.cells k (halfK (joinP na n.cells[k].key nb)):=(setKey_eq _ _ _ _ hcell).symm
     have ek : n.kids.take k ++ ([kidAt n k,kidAt n (k + 1)] ++ n.kids.drop (k + 1 + 1))=n.kids:=by
       conv => rhs; rw [<- List.take_append_drop k n.kids,drop_at _ _ _ ka,drop_at _ _ _ kb]
       rfl
     rw [ec,ek,<- eL] at hpl
     have hml : cutAt (joinP na n.cells[k].key nb) < (joinP na n.cells[k].key nb).cells.length:=by have:=hh.may.2; omega
     have hkk2:=hjr.keys _ (List.getElem_mem hml)
     have hhk : halfK (joinP na n.cells[k].key nb)=(joinP na n.cells[k].key nb).cells[cutAt (joinP na n.cells[k].key nb)].key:=keyOfC_of (List.getElem?_eq_getElem hml)
     have hmem : ∀ c ∈ setKey n.cells k (halfK (joinP na n.cells[k].key nb)),BareCell c/\1<=c.key.length/\c.key.length<=120:=fun c hc => by
       rw [setKey_eq _ _ _ _ hcell] at hc
       rcases List.mem_append.1 hc with hc | hc
       · exact hcells c (List.mem_of_mem_take hc)
       · rcases List.mem_cons.1 hc with rfl | hc
         · exact ⟨hbare,by show 1<=(halfK _).length; rw [hhk]; exact hkk2.1,by show (halfK _).length<=120; rw [hhk]; exact hkk2.2⟩
         · exact hcells c (List.mem_of_mem_drop hc)
     have hn2 : (⟨n.leaf,setKey n.cells k (halfK (joinP na n.cells[k].key nb)),n.kids⟩ : NodeP)=⟨false,setKey n.cells k (halfK (joinP na n.cells[k].key nb)),n.kids⟩:=by rw [hf]
     refine ⟨_,_,fl,_,.parts st n c na nb _ i k hil hlc hthin (by omega) hk lda ldb hkc (by rw [hkey]) hjr hbig hj760 hh.parts c1 c2,i2.perm ?_,hS.mono fun x hx => List.mem_append_right _ hx,m2.trans m1,⟨hf,hpl⟩,?_,?_⟩
     · refine List.perm_iff_count.2 fun x => ?_
       have h9:=congrArg (List.count x) eQ
       simp only [List.count_cons,List.count_append] at h9 ⊢
       omega
     · rw [hn2]
       exact hright hpl hmem (by simp [setKey]) fun x hx => hx
     · have h9 := cellsZ_sub false (n.cells.take k) (n.cells.drop (k + 1)) { n.cells[k] with key := halfK (joinP na n.cells[k].key nb) } n.cells[k]
       have e9 : n.cells.take k ++ n.cells[k] :: n.cells.drop (k + 1)=n.cells:=by rw [<- List.drop_eq_getElem_cons hkc,List.take_append_drop]
       rw [e9,<- setKey_eq _ _ _ _ hcell] at h9
       have h10 : cellZ false { n.cells[k] with key:=halfK (joinP na n.cells[k].key nb) }<=124:=cellZ_bare (by show (halfK _).length<=120; rw [hhk]; exact hkk2.2)
       have h11 : sizeP n=6 + cellsZ false n.cells:=by unfold sizeP; rw [hf]; rfl
       have h12 : sizeP ⟨false,setKey n.cells k (halfK (joinP na n.cells[k].key nb)),n.kids⟩=6 + cellsZ false (setKey n.cells k (halfK (joinP na n.cells[k].key nb))):=rfl
       rw [hn2,h12]
       omega
   · have hI2 : Inv st fl (kidAt n k :: (kidAt n (k + 1) :: (Qa ++ Qb ++ (PA ++ PB) ++ U))):=hI.perm (List.perm_iff_count.2 fun x => by
       simp only [List.count_cons,List.count_append]; omega)
     obtain ⟨c1,i1,s1,m1,l1⟩:=hI2.save _ hjr hfit
     have i1' : Inv (saveS st (kidAt n k) (joinP na n.cells[k].key nb)) fl (kidAt n (k + 1) :: (kidAt n k :: (Qa ++ Qb ++ (PA ++ PB) ++ U))):=i1.perm (List.Perm.swap ..)
     obtain ⟨i2,s2,m2⟩:=i1'.free
     have hS : Same (Qa ++ Qb ++ (PA ++ PB) ++ U) st (freeS (saveS st (kidAt n k) (joinP na n.cells[k].key nb)) (kidAt n (k + 1))) :=
       (s1.mono fun x hx => .tail _ hx).trans s2 fun x hx => .tail _ hx
     have hjn2:=hjn.frame hS.many (fun x hx => hS.page x (by rcases List.mem_append.1 hx with h | h <;> simp [h]))
     have tA:=hjn2.tree (l1.frame s2.many (s2.page _ (.head _))) hj127
     have hkp:=Kids.one (T:=fun q1 q2 q3 q4 q5 => TreeR (freeS (saveS st (kidAt n k) (joinP na n.cells[k].key nb)) (kidAt n (k + 1))) h 127 q1 q2 q3 q4 q5) _ _ _ _ _ tA
     have hpl:=hA.plug _ (hctx _ hS.many fun x hx => hS.page x (by rcases List.mem_append.1 hx with h | h <;> simp [h])) _ _ _ _ hkp
     have ec : n.cells.take k ++ ([] ++ n.cells.drop (k + 1))=n.cells.eraseIdx k:=by rw [List.nil_append,List.eraseIdx_eq_take_drop_succ]
     have ek : n.kids.take k ++ ([kidAt n k] ++ n.kids.drop (k + 1 + 1))=n.kids.eraseIdx (k + 1):=by
       rw [List.eraseIdx_eq_take_drop_succ,take_snoc_at _ _ _ ka,List.append_assoc]
     rw [ec,ek] at hpl
     have hn2 : (⟨n.leaf,n.cells.eraseIdx k,n.kids.eraseIdx (k + 1)⟩ : NodeP)=⟨false,n.cells.eraseIdx k,n.kids.eraseIdx (k + 1)⟩:=by rw [hf]
     have hmr:=MendR.joins st n c na nb i k hil hlc hthin (by omega) hk lda ldb hkc (by rw [hkey]; exact c1) (hI2.has_ (.tail _ (.head _)))
     rw [hkey] at hmr
     refine ⟨_,_,_,PA ++ ((kidAt n k :: (Qa ++ Qb)) ++ PB),hmr,i2.perm (List.perm_iff_count.2 fun x => ?_),hS.mono fun x hx => List.mem_append_right _ hx,m2.trans m1,⟨hf,hpl⟩,?_,?_⟩
     · simp only [List.count_cons, List.count_append]
       omega
     · rw [hn2]
       exact hright hpl (fun c hc => hcells c (List.mem_of_mem_eraseIdx hc)) (by rw [List.length_eraseIdx]; split <;> omega) fun x hx => List.mem_of_mem_eraseIdx hx
     · have h9 : cellsZ false (n.cells.eraseIdx k)<=cellsZ false n.cells:=by
         rw [List.eraseIdx_eq_take_drop_succ]
         conv => rhs; rw [<- List.take_append_drop k n.cells,List.drop_eq_getElem_cons hkc]
         rw [cellsZ_append,cellsZ_append,cellsZ]
         omega
       have h11 : sizeP n=6 + cellsZ false n.cells:=by unfold sizeP; rw [hf]; rfl
       have h12 : sizeP ⟨false,n.cells.eraseIdx k,n.kids.eraseIdx (k + 1)⟩=6 + cellsZ false (n.cells.eraseIdx k):=rfl
       rw [hn2,h12]
       omega
 · have hkp := Kids.more (T := fun q1 q2 q3 q4 q5 => TreeR st h 127 q1 q2 q3 q4 q5) n.cells[k] [] _ _ lo' hi' _ _ _ _ hsep (nta.tree lda (hza hfat)) (.one _ _ _ _ _ (ntb.tree ldb (hzb hfat)))
   have hpl:=hA.plug _ (hctx st (Nat.le_refl _) fun _ _ => rfl) _ _ _ _ hkp
   have ec : n.cells.take k ++ ([n.cells[k]] ++ n.cells.drop (k + 1))=n.cells:=by
     show n.cells.take k ++ (n.cells[k] :: n.cells.drop (k + 1))=n.cells
     rw [<- List.drop_eq_getElem_cons hkc,List.take_append_drop]
   have ek : n.kids.take k ++ ([kidAt n k,kidAt n (k + 1)] ++ n.kids.drop (k + 1 + 1))=n.kids:=by
     conv => rhs; rw [<- List.take_append_drop k n.kids,drop_at _ _ _ ka,drop_at _ _ _ kb]
     rfl
   rw [ec,ek] at hpl
   exact ⟨st,n,fl,_,.stays st n c i hil hlc (.inl hfat),hI,Same.refl _ _,rfl,⟨hf,hpl⟩,hr,by omega⟩
end Go.Proofs.YtiiljlmeililbaaGreatDoor
