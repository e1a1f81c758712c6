/-
  What a cursor goes through, in plain Lean: the cells that are still ahead.
-/
import Derived.Test.YtiiljlmeililbaaGreatDoorBoGr29
import Derived.Test.YtiiljlmeililbaaGreatDoorBoGr5
import Derived.Test.YtiiljlmeililbaaGreatDoorBoGr3
import Derived.Test.YtiiljlmeililbaaGreatDoorBoGr23
namespace Go.Proofs.YtiiljlmeililbaaGreatDoor
set_option linter.unusedVariables false
set_option maxRecDepth 100000
open Go.RowKit
inductive WayF (st : PgS) : Nat->List (NodeP × Nat)->Prop
 | leaf (no : Nat) (n : NodeP) (hl : LoadR st no n) (hf : n.leaf=true) : WayF st no [(n,0)]
 | inner (no kid : Nat) (n : NodeP) (l : List (NodeP × Nat)) (hl : LoadR st no n) (hf : n.leaf=false) (hk : n.kids[0]?=some kid) (hd : WayF st kid l) : WayF st no ((n,1) :: l)
theorem WayF.head {st : PgS} {no : Nat} {l : List (NodeP × Nat)} (h : WayF st no l) : ∃ n,LoadR st no n/\((n.leaf=true/\l=[(n,0)]) \/ (n.leaf=false/\∃ kid r,l=(n,1) :: r/\n.kids[0]?=some kid/\WayF st kid r)):=by
 cases h with
 | leaf _ n hl hf => exact ⟨n,hl,.inl ⟨hf,rfl⟩⟩
 | inner _ kid n r hl hf hk hd => exact ⟨n,hl,.inr ⟨hf,kid,r,rfl,hk,hd⟩⟩
inductive PopR (st : PgS) : Nat->List (NodeP × Nat)->List (NodeP × Nat)->Option CellP->Prop
 | done (N : Nat) : PopR st N [] [] none
 | cell (N : Nat) (way : List (NodeP × Nat)) (n : NodeP) (i : Nat) (c : CellP) (hf : n.leaf=true) (hc : n.cells[i]?=some c) (hi : i<=100000) : PopR st N (way ++ [(n,i)]) (way ++ [(n,i + 1)]) (some c)
 | kid (N : Nat) (way : List (NodeP × Nat)) (n : NodeP) (i kno : Nat) (l way' : List (NodeP × Nat)) (r : Option CellP) (hf : n.leaf=false) (hk : n.kids[i]?=some kno) (hd : WayF st kno l) (hlen : way.length + 1 + l.length<=1000) (hi : i<=100000)
     (hr : PopR st N ((way ++ [(n,i + 1)]) ++ l) way' r) : PopR st (N + 1) (way ++ [(n,i)]) way' r
 | pop (N : Nat) (way : List (NodeP × Nat)) (n : NodeP) (i : Nat) (way' : List (NodeP × Nat)) (r : Option CellP) (hi : (if n.leaf=true then n.cells.length else n.kids.length)<=i) (hr : PopR st N way way' r) : PopR st (N + 1) (way ++ [(n,i)]) way' r
inductive KidsL (st : PgS) (h : Nat) : List Nat->List CellP->Prop
 | nil : KidsL st h [] []
 | cons (k : Nat) (ks : List Nat) (l L : List CellP) (lo : KeyB) (hi : Option KeyB) (p : List Nat) (ht : TreeR st h 127 lo hi k l p) (hr : KidsL st h ks L) : KidsL st h (k :: ks) (l ++ L)
inductive WayR (st : PgS) (M : Nat) : List (NodeP × Nat)->List CellP->Prop
 | nil : WayR st M [] []
 | leaf (way : List (NodeP × Nat)) (L : List CellP) (n : NodeP) (i : Nat) (hf : n.leaf=true) (hb : n.cells.length<=70000) (hr : WayR st M way L) : WayR st M (way ++ [(n,i)]) (n.cells.drop i ++ L)
 | inner (way : List (NodeP × Nat)) (L l : List CellP) (n : NodeP) (i h : Nat) (hf : n.leaf=false) (hk : KidsL st h (n.kids.drop i) l) (hM : way.length + 1 + (h + 1)<=M) (hb : n.kids.length<=70000) (hr : WayR st M way L) : WayR st M (way ++ [(n,i)]) (l ++ L)
theorem kidsL_of {st : PgS} {h : Nat} {cs : List CellP} {ks : List Nat} {lo : KeyB} {hi : Option KeyB} {L : List CellP} {P : List Nat} (hk : Kids (fun lo hi k l p => TreeR st h 127 lo hi k l p) cs ks lo hi L P) : KidsL st h ks L:=by
 induction hk with
 | one k lo hi L P h =>
   have h9:=KidsL.cons k [] L [] lo hi P h .nil
   rw [List.append_nil] at h9
   exact h9
 | more c cs k ks lo hi l p L P hb h hr ih => exact .cons k ks l L lo _ p h ih
theorem treeR_ne {st : PgS} : ∀ {h m : Nat} {lo : KeyB} {hi : Option KeyB} {no : Nat} {L : List CellP} {P : List Nat},TreeR st h m lo hi no L P->7<=m->L ≠ []:=by
 intro h m lo hi no L P ht hm e
 have:=ht.height hm
 rw [e] at this
 have h2 : 0 < 2 ^ h:=Nat.pow_pos (by decide)
 have h3 : ([] : List CellP).length=0:=rfl
 omega
theorem wayF_law {st : PgS} {M : Nat} : ∀ (h m : Nat) (lo : KeyB) (hi : Option KeyB) (no : Nat) (L : List CellP) (P : List Nat),TreeR st h m lo hi no L P->7<=m ->
   ∃ l,WayF st no l/\l.length=h + 1/\(∃ pre n,l=pre ++ [(n,0)]/\n.leaf=true/\n.cells ≠ [])/\∀ way R,way.length + (h + 1)<=M->WayR st M way R->WayR st M (way ++ l) (L ++ R)
 | 0, m, lo, hi, no, L, P, ht, hm => by
   have hne:=treeR_ne ht hm
   obtain ⟨n,hl,_,⟨hf,rfl,_⟩,_⟩:=ht
   exact ⟨_,.leaf no n hl hf,rfl,⟨[],n,rfl,hf,hne⟩,fun way R hM hr => by have:=WayR.leaf way R n 0 hf (by have:=hl.2.1.many; omega) hr; rw [List.drop_zero] at this; exact this⟩
 | h + 1, m, lo, hi, no, L, P, ht, hm => by
   obtain ⟨n,Q,hl,_,⟨hf,hk⟩,rfl⟩:=ht
   have hkl:=kidsL_of hk
   have hlen:=hk.len
   generalize hks : n.kids=ks at hkl hlen
   cases hkl with
   | nil => simp at hlen
   | cons k ks l L lo' hi' p ht hr =>
     obtain ⟨s,h1,h2,⟨pre,n',h3,h4,h5⟩,h6⟩:=wayF_law h 127 lo' hi' k l p ht (by omega)
     refine ⟨(n,1) :: s,.inner no k n s hl hf (by rw [hks]; rfl) h1,by simp [h2],⟨(n,1) :: pre,n',by rw [h3]; rfl,h4,h5⟩,fun way R hM hw => ?_⟩
     have h7:=WayR.inner way R L n 1 h hf (by rw [hks]; exact hr) (by omega) (by have:=hl.2.1.kidsIn hf; have:=hl.2.1.many; omega) hw
     have h8:=h6 (way ++ [(n,1)]) (L ++ R) (by simp; omega) h7
     rw [List.append_assoc,List.singleton_append] at h8
     rw [List.append_assoc]
     exact h8
def geKey (key : KeyB) (c : CellP) : Bool:=!ltK c.key key
theorem ge_none {key : KeyB} {L : List CellP} (h : ∀ x ∈ L,ltK x.key key=true) : L.filter (geKey key)=[]:=List.filter_eq_nil_iff.2 fun x hx => by unfold geKey; rw [h x hx]; decide
theorem ge_all {key : KeyB} {L : List CellP} (h : ∀ x ∈ L,ltK x.key key=false) : L.filter (geKey key)=L:=List.filter_eq_self.2 fun x hx => by unfold geKey; rw [h x hx]; rfl
theorem findI_above (L : List CellP) (key : KeyB) (hr : RiseC L) (j : Nat) (hj : findI L key<=j) (x : CellP) (hx : L[j]?=some x) : ltK x.key key=false:=by
 have hjl:=(List.getElem?_eq_some_iff.1 hx).1
 obtain ⟨c,hc⟩ : ∃ c,L[findI L key]?=some c:=⟨_,List.getElem?_eq_getElem (by omega)⟩
 have h1:=findI_at L key c hc
 rcases Nat.lt_or_ge (findI L key) j with h | h
 · cases hq : ltK x.key key with
   | false => rfl
   | true =>
     have h2:=ltK_trans _ _ _ (hr.at_ h hc hx) hq
     rw [h2] at h1; cases h1
 · have : findI L key = j := by omega
   rw [this] at hc
   rw [hc] at hx
   injection hx with hx
   rw [<- hx]; exact h1
theorem kids_ge {st : PgS} {h : Nat} {cs : List CellP} {ks : List Nat} {lo : KeyB} {hi : Option KeyB} {L : List CellP} {P : List Nat} (key : KeyB) (hk : Kids (fun lo hi k l p => TreeR st h 127 lo hi k l p) cs ks lo hi L P) :
   ∀ i,i < ks.length->(∀ c,0 < i->cs[i - 1]?=some c->ltK key c.key=false)->(∀ c,cs[i]?=some c->ltK key c.key=true) ->
   ∃ k lo' hi' l p L2,ks[i]?=some k/\TreeR st h 127 lo' hi' k l p/\KidsL st h (ks.drop (i + 1)) L2/\L.filter (geKey key)=l.filter (geKey key) ++ L2:=by
 induction hk with
 | one k lo hi L P h =>
   intro i hi1 _ _
   simp at hi1
   subst hi1
   exact ⟨k,lo,hi,L,P,[],rfl,h,.nil,by simp⟩
 | more c cs k ks lo hi l p L P hb h hr ih =>
   intro i hi1 h1 h2
   cases i with
   | zero =>
     refine ⟨k,lo,_,l,p,L,rfl,h,kidsL_of hr,?_⟩
     rw [List.filter_append,ge_all (L:=L)]
     intro x hx
     have h3:=(hr.keys (fun _ _ _ _ _ ht => TreeR.keys ht) x hx).1
     have h4:=h2 c rfl
     cases hq : ltK x.key key with
     | false => rfl
     | true => have:=ltK_trans _ _ _ hq h4; rw [this] at h3; cases h3
   | succ i =>
     have hck : ltK key c.key=false:=by
       cases i with
       | zero => exact h1 c (by omega) rfl
       | succ i =>
         have hil : i < cs.length:=by have:=hr.len; simp at hi1; omega
         have h5:=h1 cs[i] (by omega) (by simp [List.getElem?_eq_getElem hil])
         exact le_ltK _ _ _ (ltK_asymm _ _ (hr.seps cs[i] (List.getElem_mem hil)).1) h5
     obtain ⟨k',lo',hi',l',p',L2,e1,e2,e3,e4⟩:=ih i (by simpa using hi1) (fun d h0 hd => h1 d (by omega) (by
       cases i with
       | zero => omega
       | succ i => simpa using hd)) (fun d hd => h2 d (by simpa using hd))
     refine ⟨k',lo',hi',l',p',L2,by simpa using e1,e2,by simpa using e3,?_⟩
     rw [List.filter_append,ge_none (L:=l),List.nil_append,e4]
     intro x hx
     exact ltK_le_trans _ _ _ ((TreeR.keys h x hx).2 _ rfl) hck
theorem wayL_law {st : PgS} {M : Nat} (key : KeyB) : ∀ (h m : Nat) (lo : KeyB) (hi : Option KeyB) (no : Nat) (L : List CellP) (P : List Nat),TreeR st h m lo hi no L P ->
   ∃ l,WayL st key no l/\l.length=h + 1/\∀ way R,way.length + (h + 1)<=M->WayR st M way R->WayR st M (way ++ l) (L.filter (geKey key) ++ R)
 | 0, m, lo, hi, no, L, P, ht => by
   obtain ⟨n,hl,_,⟨hf,rfl,_⟩,_⟩:=ht
   refine ⟨_,.leaf no n hl hf,rfl,fun way R hM hr => ?_⟩
   have h1:=WayR.leaf way R n (findP n key).1 hf (by have:=hl.2.1.many; omega) hr
   have h2 : n.cells.drop (findP n key).1=n.cells.filter (geKey key):=by
     have hrise:=hl.2.1.rise
     have e0 : (findP n key).1=findI n.cells key:=by rw [findP_leaf n key hf]
     rw [e0]
     obtain ⟨e1,_⟩:=rise_parts hrise key
     have h3 : n.cells=n.cells.take (findI n.cells key) ++ n.cells.drop (findI n.cells key):=(List.take_append_drop ..).symm
     have h4 : ∀ x ∈ n.cells.drop (findI n.cells key),ltK x.key key=false:=fun x hx => by
       obtain ⟨j,hj⟩:=List.mem_iff_getElem?.1 hx
       rw [List.getElem?_drop] at hj
       exact findI_above n.cells key hrise _ (by omega) x hj
     have h5 : ∀ x ∈ n.cells.take (findI n.cells key),ltK x.key key=true:=fun x hx => by
       rw [<- e1] at hx
       exact mem_lo hx
     conv => rhs; rw [h3,List.filter_append,ge_none h5,ge_all h4,List.nil_append]
   rw [h2] at h1
   exact h1
 | h + 1, m, lo, hi, no, L, P, ht => by
   obtain ⟨n,Q,hl,_,⟨hf,hk⟩,rfl⟩:=ht
   obtain ⟨f1,f2,f3⟩:=findP_inner n key hl.2.1.rise hf
   obtain ⟨k,lo',hi',l,p,L2,e1,e2,e3,e4⟩:=kids_ge key hk (findP n key).1 (by rw [hk.len]; omega) (fun c => f2 c) f3
   obtain ⟨s,s1,s2,s3⟩:=wayL_law key h 127 lo' hi' k l p e2
   refine ⟨(n,(findP n key).1 + 1) :: s,.inner no k n s hl hf e1 s1,by simp [s2],fun way R hM hw => ?_⟩
   have h7:=WayR.inner way R L2 n ((findP n key).1 + 1) h hf e3 (by omega) (by have:=hl.2.1.kidsIn hf; have:=hl.2.1.many; omega) hw
   have h8:=s3 (way ++ [(n,(findP n key).1 + 1)]) (L2 ++ R) (by simp; omega) h7
   rw [List.append_assoc,List.singleton_append,<- List.append_assoc,<- e4] at h8
   exact h8
theorem WayR.last {st : PgS} {M : Nat} {way : List (NodeP × Nat)} {L : List CellP} {n : NodeP} {i : Nat} (h : WayR st M (way ++ [(n,i)]) L) (hf : n.leaf=true) : ∃ L2,L=n.cells.drop i ++ L2/\WayR st M way L2/\n.cells.length<=70000:=by
 generalize e : way ++ [(n,i)]=W at h
 cases h with
 | nil => simp at e
 | leaf way' L' n' i' hf' hb hr =>
   obtain ⟨rfl,e2⟩:=List.append_inj' e rfl
   simp at e2
   obtain ⟨rfl,rfl⟩:=e2
   exact ⟨L',rfl,hr,hb⟩
 | inner way' L' l' n' i' h' hf' hk hM hb hr =>
   obtain ⟨rfl,e2⟩:=List.append_inj' e rfl
   simp at e2
   obtain ⟨rfl,rfl⟩:=e2
   rw [hf] at hf'; cases hf'
theorem pop_law {st : PgS} {M : Nat} {way : List (NodeP × Nat)} {L : List CellP} (hM : M<=1000) (hw : WayR st M way L) : ∃ N way' r,PopR st N way way' r/\r=L.head?/\WayR st M way' L.tail:=by
 induction hw with
 | nil => exact ⟨0,[],none,.done 0,rfl,.nil⟩
 | leaf way L n i hf hb hr ih =>
   rcases Nat.lt_or_ge i n.cells.length with hi | hi
   · refine ⟨0, way ++ [(n, i + 1)], some n.cells[i], .cell 0 way n i _ hf (List.getElem?_eq_getElem hi) (by omega), ?_⟩
     rw [List.drop_eq_getElem_cons hi,List.cons_append]
     exact ⟨rfl,.leaf way L n (i + 1) hf hb hr⟩
   · obtain ⟨N, way', r, h1, h2⟩ := ih
     refine ⟨N + 1,way',r,.pop N way n i way' r (by rw [if_pos hf]; exact hi) h1,?_⟩
     rw [List.drop_of_length_le hi,List.nil_append]
     exact h2
 | inner way L l n i h hf hk hlen hb hr ih =>
   generalize hks : n.kids.drop i=ks at hk
   cases hk with
   | nil =>
     obtain ⟨N,way',r,h1,h2⟩:=ih
     refine ⟨N + 1,way',r,.pop N way n i way' r (by rw [if_neg (by rw [hf]; decide)]; exact List.drop_eq_nil_iff.1 hks) h1,?_⟩
     rw [List.nil_append]
     exact h2
   | cons k ks l L2 lo hi p ht hk2 =>
     have hil : i < n.kids.length:=by
       rcases Nat.lt_or_ge i n.kids.length with h9 | h9
       · exact h9
       · rw [List.drop_of_length_le h9] at hks; cases hks
     rw [List.drop_eq_getElem_cons hil] at hks
     injection hks with hk0 hks
     obtain ⟨s,s1,s2,⟨pre,n',s3,s4,s5⟩,s6⟩:=wayF_law (M:=M) h 127 lo hi k l p ht (by decide)
     have h7:=WayR.inner way L L2 n (i + 1) h hf (by rw [hks]; exact hk2) hlen hb hr
     have h8:=s6 (way ++ [(n,i + 1)]) (L2 ++ L) (by simp; omega) h7
     obtain ⟨c,r,hc⟩:=List.exists_cons_of_ne_nil s5
     rw [s3,<- List.append_assoc] at h8
     have h9 : PopR st 0 ((way ++ [(n,i + 1)] ++ pre) ++ [(n',0)]) ((way ++ [(n,i + 1)] ++ pre) ++ [(n',1)]) (some c):=.cell 0 _ n' 0 c s4 (by rw [hc]; rfl) (by omega)
     have h10 : PopR st 1 (way ++ [(n,i)]) ((way ++ [(n,i + 1)] ++ pre) ++ [(n',1)]) (some c):=.kid 0 way n i k s _ _ hf (by rw [List.getElem?_eq_getElem hil,hk0]) s1 (by omega) (by omega) (by
       rw [s3,<- List.append_assoc (way ++ [(n,i + 1)])]; exact h9)
     refine ⟨1,_,_,h10,?_⟩
     obtain ⟨R,e1,e2,e3⟩:=WayR.last h8 s4
     rw [List.append_assoc,e1,hc,List.drop_zero,List.cons_append]
     refine ⟨rfl,?_⟩
     have:=WayR.leaf _ R n' 1 s4 e3 e2
     rw [hc] at this
     exact this
def CurL (st : PgS) (key : KeyB) (way : List (NodeP × Nat)) (tgt : Int) (L : List CellP) : Prop :=
 (tgt=-1/\WayR st 1000 way L) \/ (tgt=0/\way=[]/\L=[]) \/ ∃ (no h : Nat) (L0 : List CellP) (P : List Nat),tgt=(no : Int)/\way=[]/\h + 1<=1000/\TreeR st h 7 [] none no L0 P/\L=L0.filter (geKey key)
def NextR (st : PgS) (key : KeyB) (way : List (NodeP × Nat)) (tgt : Int) (way' : List (NodeP × Nat)) (r : Option CellP) : Prop :=
 (tgt=-1/\∃ N,PopR st N way way' r) \/ (tgt=0/\way=[]/\way'=[]/\r=none) \/ ∃ (no : Nat) (l : List (NodeP × Nat)),tgt=(no : Int)/\0 < no/\way=[]/\WayL st key no l/\l.length<=1000/\∃ N,PopR st N l way' r
theorem next_law {st : PgS} {key : KeyB} {way : List (NodeP × Nat)} {tgt : Int} {L : List CellP} (h : CurL st key way tgt L) :
   ∃ way' r,NextR st key way tgt way' r/\r=L.head?/\CurL st key way' (-1) L.tail:=by
 rcases h with ⟨rfl,h⟩ | ⟨rfl,rfl,rfl⟩ | ⟨no,h,L0,P,rfl,rfl,hh,ht,rfl⟩
 · obtain ⟨N, way', r, h1, h2, h3⟩ := pop_law (Nat.le_refl _) h
   exact ⟨way',r,.inl ⟨rfl,N,h1⟩,h2,.inl ⟨rfl,h3⟩⟩
 · exact ⟨[],none,.inr (.inl ⟨rfl,rfl,rfl,rfl⟩),rfl,.inl ⟨rfl,.nil⟩⟩
 · obtain ⟨l, l1, l2, l3⟩ := wayL_law (M := 1000) key h 7 [] none no L0 P ht
   have h4:=l3 [] [] (by simpa using hh) .nil
   rw [List.append_nil,List.nil_append] at h4
   obtain ⟨N,way',r,h5,h6,h7⟩:=pop_law (Nat.le_refl _) h4
   exact ⟨way',r,.inr (.inr ⟨no,l,rfl,by have:=ht.has.1; omega,rfl,l1,by omega,N,h5⟩),h6,.inl ⟨rfl,h7⟩⟩
end Go.Proofs.YtiiljlmeililbaaGreatDoor
namespace Go.Proofs.YtiiljlmeililbaaGreatDoor
set_option linter.unusedVariables false
set_option maxRecDepth 100000
def RiseK (kv : List KV) : Prop:=kv.Pairwise fun a b => ltK a.1 b.1=true
theorem riseK_of : ∀ {kv : List KV} {L : List CellP},kv.map (·.1)=L.map (·.key)->RiseC L->RiseK kv
 | [],_,_,_ => List.Pairwise.nil
 | p :: r,[],h,_ => by simp at h
 | p :: r, c :: L, h, hr => by
   rw [List.map_cons,List.map_cons] at h
   injection h with h1 h2
   refine List.Pairwise.cons (fun q hq => ?_) (riseK_of h2 hr.2)
   have h3:=keys_all h2 (p:=fun x => ltK c.key x=true) (fun x hx => hr.1 x hx) q hq
   rw [h1]; exact h3
def fromK (key : KeyB) (kv : List KV) : List KV:=kv.drop (kv.findIdx fun p => !ltK p.1 key)
theorem fromK_eq : ∀ {kv : List KV} (key : KeyB),RiseK kv->fromK key kv=kv.filter fun p => !ltK p.1 key
 | [],key,_ => rfl
 | p :: r, key, h => by
   have h1 : ∀ q ∈ r,ltK p.1 q.1=true:=(List.pairwise_cons.1 h).1
   have ih:=fromK_eq key (List.pairwise_cons.1 h).2
   unfold fromK at ih ⊢
   rw [List.findIdx_cons,List.filter_cons]
   cases hl : ltK p.1 key with
   | true => exact ih
   | false =>
     show p :: r=p :: r.filter _
     rw [List.filter_eq_self.2 fun q hq => ?_]
     have h2:=le_ltK_trans _ _ _ hl (h1 q hq)
     rw [ltK_asymm _ _ h2]; rfl
theorem ValsR.filter {st : PgS} {key : KeyB} : ∀ {L : List CellP} {kv : List KV} {O : List Nat},ValsR st L kv O->∃ O',ValsR st (L.filter (geKey key)) (kv.filter fun p => !ltK p.1 key) O'
 | _,_,_,.nil => ⟨[],.nil⟩
 | _, _, _, .cons c L b kv ps O h hr => by
   obtain ⟨O',h2⟩:=ValsR.filter (key:=key) hr
   rw [List.filter_cons,List.filter_cons]
   unfold geKey at h2 ⊢
   cases hl : ltK c.key key with
   | true => exact ⟨O',h2⟩
   | false => exact ⟨ps ++ O',.cons c _ b _ ps O' h h2⟩
theorem insKV_rise {kv : List KV} (key : KeyB) (b : List UInt8) (h : RiseK kv) : RiseK (insKV key b kv):=by
 unfold insKV
 refine List.pairwise_append.2 ⟨h.filter _,List.pairwise_cons.2 ⟨fun q hq => (List.mem_filter.1 hq).2,h.filter _⟩,fun x hx y hy => ?_⟩
 have hx2:=(List.mem_filter.1 hx).2
 rcases List.mem_cons.1 hy with rfl | hy
 · exact hx2
 · exact ltK_trans _ _ _ hx2 (List.mem_filter.1 hy).2
end Go.Proofs.YtiiljlmeililbaaGreatDoor
namespace Go.Proofs.YtiiljlmeililbaaGreatDoor
set_option linter.unusedVariables false
set_option maxRecDepth 100000
open Go.RowKit
def PairV (G : Nat->Prop) (w : World) (vs : List Value) (p : KV) : Prop :=
 ∃ kA kc vA vc,vs=[.slice kA p.1.length kc,.slice vA p.2.length vc]/\p.1.length<=kc/\p.2.length<=vc/\Rd G w 1 kA p.1.length (bv p.1)/\Rd G w 1 vA p.2.length (bv p.2)
def PairsW (F : Nat->Prop) (w : World) (rows : List (List Value)) (kv : List KV) : Prop:=∀ (k : Nat) (vs : List Value) (p : KV),rows[k]?=some vs->kv[k]?=some p->PairV (byteOf F w) w vs p
section
variable {F F' S G G' : Nat->Prop} {w w' : World} {B : Nat} {v : Value} {kv : List KV} {rows : List (List Value)} {vs : List Value} {p : KV}
theorem PairV.keep (h : PairV G w vs p) (hk : ∀ k,G k->G' k/\w'.heap[k]?=w.heap[k]?) : PairV G' w' vs p:=by
 obtain ⟨kA,kc,vA,vc,e,h1,h2,h3,h4⟩:=h
 exact ⟨kA,kc,vA,vc,e,h1,h2,h3.keep hk,h4.keep hk⟩
theorem PairV.keepW (h : PairV (byteOf F w) w vs p) (hO : Only S w w') (hS : ∀ k cs,S k->¬ Blk w k 5 cs) : PairV (byteOf F w') w' vs p :=
 h.keep fun j hj => by
   obtain ⟨⟨h1,h2⟩,bs,hb⟩:=hj
   have hb' : Blk w' j 5 bs:=hO.blk hb fun hs => hS _ _ hs hb
   exact ⟨⟨⟨Blk.lt hb',h2⟩,bs,hb'⟩,Eq.trans hb' hb.symm⟩
theorem PairV.ev (h : PairV (byteOf F w) w vs p) (he : Ev F w F' w') : PairV (byteOf F' w') w' vs p :=
 h.keep fun j hj => by
   obtain ⟨h1,bs,h2⟩:=hj
   have:=he.block h1
   exact ⟨⟨he.mine h1,bs,Eq.trans this h2⟩,this⟩
theorem PairsW.keepW (h : PairsW F w rows kv) (hO : Only S w w') (hS : ∀ k cs,S k->¬ Blk w k 5 cs) : PairsW F w' rows kv:=fun k vs c e1 e2 => (h k vs c e1 e2).keepW hO hS
theorem PairsW.ev (h : PairsW F w rows kv) (he : Ev F w F' w') : PairsW F' w' rows kv:=fun k vs c e1 e2 => (h k vs c e1 e2).ev he
theorem PairsW.two (h : PairsW F w rows kv) (hl : rows.length=kv.length) : ∀ r ∈ rows,r.length=2:=by
 intro r hr
 obtain ⟨k,hk,e⟩:=List.getElem_of_mem hr
 obtain ⟨kA,kc,vA,vc,e2,_⟩:=h k r kv[k] (by rw [List.getElem?_eq_getElem hk,e]) (List.getElem?_eq_getElem (by omega))
 rw [e2]; rfl
theorem flatten_at2 : ∀ {rows : List (List Value)},(∀ r ∈ rows,r.length=2)->∀ (k j : Nat) (vs : List Value) (u : Value),rows[k]?=some vs->vs[j]?=some u->rows.flatten[k * 2 + j]?=some u
 | [],_,k,j,vs,u,h,_ => by simp at h
 | r :: t, h2, k, j, vs, u, h, hu => by
   have hr : r.length=2:=h2 r (.head _)
   cases k with
   | zero =>
     simp at h
     subst h
     have hj:=(List.getElem?_eq_some_iff.1 hu).1
     rw [List.flatten_cons,List.getElem?_append_left (by omega),Nat.zero_mul,Nat.zero_add]
     exact hu
   | succ k =>
     rw [List.getElem?_cons_succ] at h
     rw [List.flatten_cons,List.getElem?_append_right (by omega),hr,show (k + 1) * 2 + j - 2=k * 2 + j from by omega]
     exact flatten_at2 (fun r hr => h2 r (.tail _ hr)) k j vs u h hu
end
theorem Rd.rbB {F : Nat->Prop} {w : World} {A : Option Addr} {n : Nat} {l : List UInt8} (h : Rd (byteOf F w) w 1 A n (bv l)) : RB w w.heap.size A n l:=Rd.reads h fun k hk => hk.1.1
def PairsAt (F : Nat->Prop) (w : World) (A : Option Addr) (kv : List KV) : Prop:=∃ rows : List (List Value),rows.length=kv.length/\Rd (Mine F w) w 2 A kv.length rows.flatten/\PairsW F w rows kv
theorem PairsAt.ev {F F' : Nat->Prop} {w w' : World} {A : Option Addr} {kv : List KV} (h : PairsAt F w A kv) (he : Ev F w F' w') : PairsAt F' w' A kv:=by
 obtain ⟨rows,h1,h2,h3⟩:=h
 exact ⟨rows,h1,h2.ev he,h3.ev he⟩
def DnRelF (F C : Nat->Prop) (w : World) (gp : Nat) (st : PgS) (gc gt : Nat) (way l : List (NodeP × Nat)) (from_ : List UInt8) (tgt er : Int) (no : Nat) (wx : World) : Prop :=
 ∃ (done rest : List (NodeP × Nat)) (F' C' : Nat -> Prop), l = done ++ rest /\ WayF st no rest /\ PgAt wx F' gp st /\ CurAt F' C' wx gc gt (way ++ done) from_ tgt er /\ Ev (FC F C) w (FC F' C') wx /\ (∀ k, C k -> C' k) /\
   ∀ (g : Nat) (t : TypeId) (cs : Array Value),Blk w g t cs->¬ F g->t ≠ 115->t ≠ 151->Blk wx g t cs
set_option maxHeartbeats 4000000 in
theorem down_first (w : World) (F C : Nat->Prop) (gc gt gp k : Nat) (st : PgS) (h : PgAt w F gp st) (ht : TreeAt w (FC F C) gt gp k) (way l : List (NodeP × Nat)) (from_ : List UInt8) (tgt er : Int) (hc : CurAt F C w gc gt way from_ tgt er) (no0 : Nat) (hw : WayF st no0 l) (hway : way.length + l.length<=1000) :
   Calls Tryz.prog 94 #[.pointer (some ⟨gc,0,none⟩),.int .i64 (no0 : Int),.bool true] w (DownEnd F C w gp st gc gt (way ++ l) from_ tgt er):=by
 have hst : Hid (DnRelF F C w gp st gc gt way l from_ tgt er no0 w):=hide ⟨[],l,F,C,rfl,hw,h,by rw [List.append_nil]; exact hc,Ev.refl _ w,fun k hk => hk,fun g t cs hb _ _ _ => hb⟩
 replace h:=hide h
 replace ht:=hide ht
 replace hc:=hide hc
 replace hw:=hide hw
 go_enter Tryz.func94,Tryz.ntmps94
 go_wp2_with fail
 go_loopw [1] (fun v1 wx => ∃ no : Nat,v1=.int .i64 (no : Int)/\Hid (DnRelF F C w gp st gc gt way l from_ tgt er no wx)) (fun _ wx => way.length + l.length - lenCur wx gc)
 case atStart => exact ⟨no0,rfl,hst⟩
 case round =>
   obtain ⟨no,rfl,hG⟩:=hrel
   obtain ⟨done,rest,Fa,Ca,hdl,hwl,h0,hc0,hE0,hsub,hty⟩:=hG.out
   obtain ⟨n,hl,hcs⟩:=hwl.head
   obtain ⟨wy,hwy⟩ : ∃ wy,wy=way ++ done:=⟨_,rfl⟩
   rw [<- hwy] at hc0
   have hlen : wy.length + rest.length=way.length + l.length:=by rw [hwy,hdl]; simp; omega
   have hrest : 1<=rest.length:=by
     rcases hcs with ⟨_,e⟩ | ⟨_,_,_,e,_⟩ <;> rw [e] <;> simp
   have ht0:=ht.out.ev hE0
   have htF : TreeAt wr Fa gt gp k:=⟨ht0.blk,fun hf => ht0.out (.inl hf)⟩
   have hld:=hide (load_gen wr Fa gt gp k st h0 htF no n hl)
   have hcc:=hc0
   obtain ⟨wv,fA,fc,hbc,hmc,hoc,rows,hr1,hr2,hr3⟩:=hc0.mem
   have q0 : wr.cell? ⟨gc,0,none⟩=some (.pointer (some ⟨gt,0,none⟩)):=hbc.cell 0
   have hgc:=Blk.lt hbc
   have hgcF : ¬ Fa gc:=hc0.apart _ hc0.own
   have hrise:=hl.2.1.rise
   have hmany:=hl.2.1.many
   obtain ⟨L,hL⟩ : ∃ L,L=from_.length:=⟨_,rfl⟩
   obtain ⟨P,hP⟩ : ∃ P,P=wy.length:=⟨_,rfl⟩
   rw [<- hL] at hbc hmc
   rw [<- hP] at hr1 hr2
   obtain ⟨wA,wc,rfl⟩:=own_form hr2
   have hc:=hide hc0
   have hPb : P + 1<=1000:=by omega
   obtain ⟨lf,hlf⟩ : ∃ lf,lf=n.leaf:=⟨_,rfl⟩
   replace h0:=hide h0
   replace hc0:=hide hc0
   replace hcc:=hide hcc
   replace ht0:=hide ht0
   replace htF:=hide htF
   replace hl:=hide hl
   replace hbc:=hide hbc
   replace hmc:=hide hmc
   replace hoc:=hide hoc
   replace hr1:=hide hr1
   replace hr2:=hide hr2
   replace hr3:=hide hr3
   replace hL:=hide hL
   replace hP:=hide hP
   replace hrise:=hide hrise
   replace hmany:=hide hmany
   replace hgcF:=hide hgcF
   replace hlf:=hide hlf
   replace hcs:=hide hcs
   replace hdl:=hide hdl
   replace hwl:=hide hwl
   replace hE0:=hide hE0
   replace hsub:=hide hsub
   replace hty : Hid _:=hide hty
   replace hwy:=hide hwy
   replace hlen:=hide hlen
   replace hrest:=hide hrest
   go_wp2_with fail
   go_at_call 45
   refine hld.out.mono ?_
   rintro e w1 ⟨F1,cv,kv,B0,rfl,hP1,hE1,hF1,hwB,hO1⟩
   rw [<- hlf.out]
   have hn1 : NodeM (Mine (FC F1 Ca) w1) w1 (.agg #[.bool n.leaf,cv,kv]) n:=(hO1.toW (F:=FC F1 Ca) (fun j hj => by
     rcases hj with hj | hj
     · exact hF1 j hj
     · have:=hc.out.lt j hj; omega)).nodeM
   obtain ⟨A1,c1,rfl⟩:=own_form hO1.kids
   obtain ⟨A2,c2,rfl⟩:=own_form hO1.rows.choose_spec.2.1
   obtain ⟨N,hN⟩ : ∃ N,N=n.cells.length:=⟨_,rfl⟩
   obtain ⟨K,hK⟩ : ∃ K,K=n.kids.length:=⟨_,rfl⟩
   rw [<- hN,<- hK,<- hlf.out] at hn1
   rw [<- hN,<- hK]
   have hnF1 : ¬ F1 w1.heap.size:=fun hf => by have:=hP1.lt _ hf; omega
   have hbn:=Blk.new w1 89 #[.bool lf,.slice A2 N c2,.slice A1 K c1]
   have hE2 : Ev Fa wr F1 (w1.alloc (.cells #[.bool lf,.slice A2 N c2,.slice A1 K c1] 89)):=hE1.alloc_ _
   have hcu:=hc.out.ev hE2
   have hbc2 : Blk (w1.alloc (.cells #[.bool lf,.slice A2 N c2,.slice A1 K c1] 89)) gc 115 #[.pointer (some ⟨gt,0,none⟩),.slice wA P wc,.slice fA L fc,.int .i64 tgt,.int .i64 er]:=hE2.blk hbc.out hgcF.out
   have hP2:=hP1.alloc (.cells #[.bool lf,.slice A2 N c2,.slice A1 K c1] 89)
   have m0:=hbn.cell 0
   have m1:=hbn.cell 1
   have m2:=hbn.cell 2
   have b1:=hbc2.cell 1
   have b2:=hbc2.cell 2
   replace hN:=hide hN
   replace hK:=hide hK
   replace hn1:=hide hn1
   replace hO1:=hide hO1
   replace hF1:=hide hF1
   replace hP1:=hide hP1
   replace hE1:=hide hE1
   replace hP2:=hide hP2
   replace hE2:=hide hE2
   replace hbn:=hide hbn
   replace hbc2:=hide hbc2
   replace hcu:=hide hcu
   replace hnF1:=hide hnF1
   obtain ⟨w3,hw3⟩ : ∃ w3,w3=w1.alloc (.cells #[.bool lf,.slice A2 N c2,.slice A1 K c1] 89):=⟨_,rfl⟩
   have hB3 : Hid (Below (w1.alloc (.cells #[.bool lf,.slice A2 N c2,.slice A1 K c1] 89)).heap.size (w1.alloc (.cells #[.bool lf,.slice A2 N c2,.slice A1 K c1] 89)) w3):=hide (by rw [hw3]; exact Below.refl _ _)
   have hb3 : Hid (Blk w3 w1.heap.size 89 #[.bool lf,.slice A2 N c2,.slice A1 K c1]):=hide (by rw [hw3]; exact hbn.out)
   have hg3 : Hid (Blk w3 gc 115 #[.pointer (some ⟨gt,0,none⟩),.slice wA P wc,.slice fA L fc,.int .i64 tgt,.int .i64 er]):=hide (by rw [hw3]; exact hbc2.out)
   have o0:=hb3.out.cell 0
   have o1:=hb3.out.cell 1
   have o2:=hb3.out.cell 2
   have j1:=hg3.out.cell 1
   have fz:=hg3.out.frozen 1
   replace hw3:=hide hw3
   cases lf with
   | true =>
     have hE3 : Ev Fa wr F1 w3:=hE2.out.below hB3.out
     have hP3 : PgAt w3 F1 gp st:=hP2.out.below hB3.out
     have hrow3:=hE3.only.row hr2.out (fun k hk => hc.out.apart k (hoc.out k hk))
     have hb4:=Blk.new w3 151 #[.bool true,.slice A2 N c2,.slice A1 K c1,.int .i64 0]
     have hrow4 : ((w3.alloc (.cells #[.bool true,.slice A2 N c2,.slice A1 K c1,.int .i64 0] 151)).drew).ownsRow 0 151 4 (.slice wA P wc) P rows.flatten:=(((Only.refl (fun _ => False) w3).alloc _).drew).row hrow3 (fun _ _ h => h)
     obtain ⟨v5,w5,hrun,hown5,hg5,hv5⟩:=run_app_step _ 0 _ P rows.flatten hrow4 w3.heap.size (.bool true) (.slice A2 N c2) (.slice A1 K c1) (.int .i64 0) (by intro u hu; simp at hu; rcases hu with rfl | rfl | rfl | rfl <;> rfl) (show Blk (w3.alloc _).drew w3.heap.size 151 _ from hb4) 113 (by have:=hP.out; omega) (Nat.zero_le _)
     have hE4:=(hE3.alloc_ (.cells #[.bool true,.slice A2 N c2,.slice A1 K c1,.int .i64 0] 151)).drew
     have hP4:=(hP3.alloc (.cells #[.bool true,.slice A2 N c2,.slice A1 K c1,.int .i64 0] 151)).drew
     have hpush:=cur_push (s:=(n,0)) (vs:=[.bool true,.slice A2 N c2,.slice A1 K c1,.int .i64 0]) (way:=wy) (from_:=from_) (by rw [<- hL.out]; exact hE4.blk hbc.out hgcF.out) (by rw [<- hL.out]; exact hmc.out.ev (hE4.add Ca)) hoc.out (by rw [<- hP.out]; exact hr1.out) (by rw [<- hP.out]; exact hrow4) (fun k vs s e1 e2 => (hr3.out k vs s e1 e2).ev (hE4.add Ca)) hc.out.own (hc.out.ev hE4).apart (hc.out.ev hE4).lt hP4.lt ⟨A2,c2,A1,c1,by show [Value.bool true,.slice A2 N c2,.slice A1 K c1,.int .i64 0]=[.bool n.leaf,.slice A2 n.cells.length c2,.slice A1 n.kids.length c1,.int .i64 0]; rw [<- hN.out,<- hK.out,<- hlf.out],by
       have h9:=hn1.out.ev ((((Ev.refl (FC F1 Ca) w1).alloc_ (.cells #[.bool true,.slice A2 N c2,.slice A1 K c1] 89)).below hB3.out).alloc_ (.cells #[.bool true,.slice A2 N c2,.slice A1 K c1,.int .i64 0] 151)).drew
       show NodeM _ _ (.agg #[.bool n.leaf,.slice A2 n.cells.length c2,.slice A1 n.kids.length c1]) n
       rw [<- hlf.out,<- hN.out,<- hK.out]
       exact h9⟩ hg5 (by rw [<- hP.out]; exact hown5) hv5
     have hpg5:=(hP4.grown hg5 (fun k hk => (hc.out.ev hE4).apart k (hoc.out k hk))).set_ (p:=⟨gc,1,none⟩) ((hc.out.ev hE4).apart gc hc.out.own) v5
     have hev5 : Ev (FC F C) w (FC F1 _) (w5.setCell ⟨gc,1,none⟩ v5):=hE0.out.trans ((hE4.add Ca).trans hpush.2)
     have hty5 : ∀ (g : Nat) (t : TypeId) (cs : Array Value),Blk w g t cs->¬ F g->t ≠ 115->t ≠ 151->Blk (w5.setCell ⟨gc,1,none⟩ v5) g t cs:=fun g t cs hb hnf ht1 ht2 => by
       have hbw:=hty.out g t cs hb hnf ht1 ht2
       have hnFa : ¬ Fa g:=fun hf => by
         by_cases hCg : C g
         · exact hc.out.apart g (hsub.out g hCg) hf
         · rcases hE0.out.grow g (.inl hf) with h9 | h9
           · rcases h9 with h9 | h9
             · exact hnf h9
             · exact hCg h9
           · have:=hb.lt; omega
       exact ((hE4.blk hbw hnFa).grown hg5 (fun e => own_blk_ne hrow4 (hE4.blk hbw hnFa) ht2.symm e.symm)).far (p:=⟨gc,1,none⟩) (Blk.ne_ hbw hbc.out ht1) v5
     have hrs : rest=[(n,0)]:=by
       rcases hcs.out with ⟨_,e⟩ | ⟨hf,_⟩
       · exact e
       · exact absurd (hlf.out.trans hf) (by simp)
     have hdone : Hid (DownEnd F C w gp st gc gt (way ++ l) from_ tgt er (.returned (.int .i64 0)) (w5.setCell ⟨gc,1,none⟩ v5)):=hide (by
       have hwl2 : wy ++ [(n,0)]=way ++ l:=by rw [hwy.out,hdl.out,hrs,List.append_assoc]
       refine ⟨rfl,F1,_,hpg5,?_,hev5,fun k hk => .inl (hsub.out k hk),hty5⟩
       rw [<- hwl2]; exact hpush.1)
     replace hpg5:=hide hpg5
     replace hev5:=hide hev5
     replace hty5 : Hid _:=hide hty5
     replace hrs:=hide hrs
     clear hpush
     replace hE4:=hide hE4
     replace hP4:=hide hP4
     have j1' : (w3.alloc (.cells #[.bool true,.slice A2 N c2,.slice A1 K c1,.int .i64 0] 151)).cell? ⟨gc,1,none⟩=some (.slice wA P wc):=(hg3.out.alloc _).cell 1
     have p0:=(hb3.out.alloc (.cells #[.bool true,.slice A2 N c2,.slice A1 K c1,.int .i64 0] 151)).cell 0
     have p1:=(hb3.out.alloc (.cells #[.bool true,.slice A2 N c2,.slice A1 K c1,.int .i64 0] 151)).cell 1
     have p2:=(hb3.out.alloc (.cells #[.bool true,.slice A2 N c2,.slice A1 K c1,.int .i64 0] 151)).cell 2
     have hg6 : Blk w5 gc 115 #[.pointer (some ⟨gt,0,none⟩),.slice wA P wc,.slice fA L fc,.int .i64 tgt,.int .i64 er]:=(show Blk (w3.alloc (.cells #[.bool true,.slice A2 N c2,.slice A1 K c1,.int .i64 0] 151)).drew gc 115 _ from hg3.out.alloc _).grown hg5 (fun e => own_blk_ne hrow3 hg3.out (by decide) e.symm)
     obtain ⟨A5,c5,rfl⟩:=own_form hown5
     have z1:=hg6.cell 1
     have z2:=hg6.frozen 1
     replace hE3:=hide hE3
     replace hP3:=hide hP3
     replace hrow3:=hide hrow3
     replace hrow4:=hide hrow4
     replace hb4:=hide hb4
     replace hg6:=hide hg6
     replace hown5:=hide hown5
     replace hg5:=hide hg5
     replace hv5:=hide hv5
     go_upto_region 8 with (fail)
     rw [<- hw3.out]
     go_region_law (refine Lib.wp_append_run _ (.tmp 39) (.tmp 43) 113 113 rfl _ _ rfl rfl _ _ hrun ?_)
     all_goals
       go_wp2_with fail
       first | exact hdone.out | (go_ret; exact hdone.out)
   | false =>
     have hE3 : Ev Fa wr F1 w3:=hE2.out.below hB3.out
     have hP3 : PgAt w3 F1 gp st:=hP2.out.below hB3.out
     have hrow3:=hE3.only.row hr2.out (fun k hk => hc.out.apart k (hoc.out k hk))
     have hb4:=Blk.new w3 151 #[.bool false,.slice A2 N c2,.slice A1 K c1,.int .i64 1]
     have hrow4 : ((w3.alloc (.cells #[.bool false,.slice A2 N c2,.slice A1 K c1,.int .i64 1] 151)).drew).ownsRow 0 151 4 (.slice wA P wc) P rows.flatten:=(((Only.refl (fun _ => False) w3).alloc _).drew).row hrow3 (fun _ _ h => h)
     obtain ⟨v5,w5,hrun,hown5,hg5,hv5⟩:=run_app_step _ 0 _ P rows.flatten hrow4 w3.heap.size (.bool false) (.slice A2 N c2) (.slice A1 K c1) (.int .i64 1) (by intro u hu; simp at hu; rcases hu with rfl | rfl | rfl | rfl <;> rfl) (show Blk (w3.alloc _).drew w3.heap.size 151 _ from hb4) 113 (by have:=hP.out; omega) (Nat.zero_le _)
     have hE4:=(hE3.alloc_ (.cells #[.bool false,.slice A2 N c2,.slice A1 K c1,.int .i64 1] 151)).drew
     have hP4:=(hP3.alloc (.cells #[.bool false,.slice A2 N c2,.slice A1 K c1,.int .i64 1] 151)).drew
     have hpush:=cur_push (s:=(n,1)) (vs:=[.bool false,.slice A2 N c2,.slice A1 K c1,.int .i64 1]) (way:=wy) (from_:=from_) (by rw [<- hL.out]; exact hE4.blk hbc.out hgcF.out) (by rw [<- hL.out]; exact hmc.out.ev (hE4.add Ca)) hoc.out (by rw [<- hP.out]; exact hr1.out) (by rw [<- hP.out]; exact hrow4) (fun k vs s e1 e2 => (hr3.out k vs s e1 e2).ev (hE4.add Ca)) hc.out.own (hc.out.ev hE4).apart (hc.out.ev hE4).lt hP4.lt ⟨A2,c2,A1,c1,by show [Value.bool false,.slice A2 N c2,.slice A1 K c1,.int .i64 1]=[.bool n.leaf,.slice A2 n.cells.length c2,.slice A1 n.kids.length c1,.int .i64 1]; rw [<- hN.out,<- hK.out,<- hlf.out],by
       have h9:=hn1.out.ev ((((Ev.refl (FC F1 Ca) w1).alloc_ (.cells #[.bool false,.slice A2 N c2,.slice A1 K c1] 89)).below hB3.out).alloc_ (.cells #[.bool false,.slice A2 N c2,.slice A1 K c1,.int .i64 1] 151)).drew
       show NodeM _ _ (.agg #[.bool n.leaf,.slice A2 n.cells.length c2,.slice A1 n.kids.length c1]) n
       rw [<- hlf.out,<- hN.out,<- hK.out]
       exact h9⟩ hg5 (by rw [<- hP.out]; exact hown5) hv5
     have hpg5:=(hP4.grown hg5 (fun k hk => (hc.out.ev hE4).apart k (hoc.out k hk))).set_ (p:=⟨gc,1,none⟩) ((hc.out.ev hE4).apart gc hc.out.own) v5
     have hev5 : Ev (FC F C) w (FC F1 _) (w5.setCell ⟨gc,1,none⟩ v5):=hE0.out.trans ((hE4.add Ca).trans hpush.2)
     have hty5 : ∀ (g : Nat) (t : TypeId) (cs : Array Value),Blk w g t cs->¬ F g->t ≠ 115->t ≠ 151->Blk (w5.setCell ⟨gc,1,none⟩ v5) g t cs:=fun g t cs hb hnf ht1 ht2 => by
       have hbw:=hty.out g t cs hb hnf ht1 ht2
       have hnFa : ¬ Fa g:=fun hf => by
         by_cases hCg : C g
         · exact hc.out.apart g (hsub.out g hCg) hf
         · rcases hE0.out.grow g (.inl hf) with h9 | h9
           · rcases h9 with h9 | h9
             · exact hnf h9
             · exact hCg h9
           · have:=hb.lt; omega
       exact ((hE4.blk hbw hnFa).grown hg5 (fun e => own_blk_ne hrow4 (hE4.blk hbw hnFa) ht2.symm e.symm)).far (p:=⟨gc,1,none⟩) (Blk.ne_ hbw hbc.out ht1) v5
     obtain ⟨kid,r,hrs,hkid,hdk⟩ : ∃ kid r,rest=(n,1) :: r/\n.kids[0]?=some kid/\WayF st kid r:=by
       rcases hcs.out with ⟨hf,_⟩ | ⟨_,h9⟩
       · exact absurd (hlf.out.trans hf) (by simp)
       · exact h9
     have hnF:=(hn1.out.ev ((((Ev.refl (FC F1 Ca) w1).alloc_ (.cells #[.bool false,.slice A2 N c2,.slice A1 K c1] 89)).below hB3.out).alloc_ (.cells #[.bool false,.slice A2 N c2,.slice A1 K c1,.int .i64 1] 151)).drew).ev hpush.2
     obtain ⟨A8,c8,B8,d8,e8,_,_,_,hks8⟩:=hnF
     injection e8 with e8
     simp at e8
     have hKl : 0 < n.kids.length:=(List.getElem?_eq_some_iff.1 hkid).1
     obtain ⟨ad,hA,_,hcell⟩:=hks8.2 (by omega)
     have hA1 : A1=some ad:=by
       have h9:=e8.2.2.1
       exact h9.trans hA
     have kx:=hcell 0 _ (show (n.kids.map encI)[0]?=some (.int .i64 (kid : Int)) by rw [List.getElem?_map,hkid]; rfl)
     have kx0 : (w5.setCell ⟨gc,1,none⟩ v5).cell? ad=some (.int .i64 (kid : Int)):=kx
     clear e8 hcell hks8 hA
     have hb4d : Blk (w3.alloc (.cells #[.bool false,.slice A2 N c2,.slice A1 K c1,.int .i64 1] 151)).drew w1.heap.size 89 #[.bool false,.slice A2 N c2,.slice A1 K c1]:=hb3.out.alloc _
     have hbF:=(hb4d.grown hg5 (fun e => own_blk_ne hrow4 hb4d (by decide) e.symm)).far (p:=⟨gc,1,none⟩) (Blk.ne_ hb3.out hg3.out (by decide)) v5
     have kb:=hbF.cell 2
     have hIKI : (0 : Int) < (K : Int):=by have:=hK.out; omega
     replace hA1:=hide hA1
     have hwI : IntKind.i64.wrap 1=1:=wrap_small 1 (by omega) (by omega)
     have hrel : Hid (DnRelF F C w gp st gc gt way l from_ tgt er kid (w5.setCell ⟨gc,1,none⟩ v5)):=hide (by
       refine ⟨done ++ [(n,1)],r,F1,_,by rw [hdl.out,hrs]; simp,hdk,hpg5,?_,hev5,fun k hk => .inl (hsub.out k hk),hty5⟩
       rw [<- List.append_assoc,<- hwy.out]; exact hpush.1)
     have hmeas : Hid (way.length + l.length - lenCur (w5.setCell ⟨gc,1,none⟩ v5) gc < way.length + l.length - lenCur wr gc):=hide (by
       have e1 : lenCur wr gc=P:=by unfold lenCur; rw [hbc.out.cell 1]; rfl
       obtain ⟨wv6,fA6,fc6,hb6,_,_,rows6,hr6,ho6,_⟩:=hpush.1.mem
       obtain ⟨A6,c6,rfl⟩:=own_form ho6
       have e2 : lenCur (w5.setCell ⟨gc,1,none⟩ v5) gc=P + 1:=by unfold lenCur; rw [hb6.cell 1]; show (wy ++ [(n,1)]).length=_; rw [hP.out]; simp
       have:=hlen.out
       have:=hrest.out
       have:=hP.out
       rw [e1,e2]; omega)
     replace hpg5:=hide hpg5
     replace hev5:=hide hev5
     replace hty5 : Hid _:=hide hty5
     replace hrs:=hide hrs
     replace hkid:=hide hkid
     replace hdk:=hide hdk
     replace hbF:=hide hbF
     replace hb4d:=hide hb4d
     clear hKl
     clear hpush
     replace hE4:=hide hE4
     replace hP4:=hide hP4
     have j1' : (w3.alloc (.cells #[.bool false,.slice A2 N c2,.slice A1 K c1,.int .i64 1] 151)).cell? ⟨gc,1,none⟩=some (.slice wA P wc):=(hg3.out.alloc _).cell 1
     have p0:=(hb3.out.alloc (.cells #[.bool false,.slice A2 N c2,.slice A1 K c1,.int .i64 1] 151)).cell 0
     have p1:=(hb3.out.alloc (.cells #[.bool false,.slice A2 N c2,.slice A1 K c1,.int .i64 1] 151)).cell 1
     have p2:=(hb3.out.alloc (.cells #[.bool false,.slice A2 N c2,.slice A1 K c1,.int .i64 1] 151)).cell 2
     have hg6 : Blk w5 gc 115 #[.pointer (some ⟨gt,0,none⟩),.slice wA P wc,.slice fA L fc,.int .i64 tgt,.int .i64 er]:=(show Blk (w3.alloc (.cells #[.bool false,.slice A2 N c2,.slice A1 K c1,.int .i64 1] 151)).drew gc 115 _ from hg3.out.alloc _).grown hg5 (fun e => own_blk_ne hrow3 hg3.out (by decide) e.symm)
     obtain ⟨A5,c5,rfl⟩:=own_form hown5
     have z1:=hg6.cell 1
     have z2:=hg6.frozen 1
     replace hE3:=hide hE3
     replace hP3:=hide hP3
     replace hrow3:=hide hrow3
     replace hrow4:=hide hrow4
     replace hb4:=hide hb4
     replace hg6:=hide hg6
     replace hown5:=hide hown5
     replace hg5:=hide hg5
     replace hv5:=hide hv5
     go_upto_region 10 with (fail)
     rw [<- hw3.out]
     go_region_law (refine Lib.wp_append_run _ (.tmp 51) (.tmp 56) 113 113 rfl _ _ rfl rfl _ _ hrun ?_)
     all_goals
       have hA1:=hA1.out
       subst hA1
       go_wp2_with fail
       go_roundw
       case rel => exact ⟨kid,rfl,hrel⟩
       case measure => exact hmeas.out
theorem quiet_qt_add {P : Program} {f : FuncId} {args : Array Value} {w : World} {a n : Nat} {v : Value}
   (h : Calls P f args (w.drewN (a + n)) fun e w' => e=.returned v/\Qt (w.drewN (a + n)) w') : Calls P f args (w.drewN (a + n)) fun e w'' => e=.returned v/\∃ m,w''=w.drewN (a + m) :=
 h.mono fun _ _ ⟨he,q,hq⟩ => ⟨he,n + q,by rw [hq,World.drewN_drewN,Nat.add_assoc]⟩
theorem PairsAt.at_ {F : Nat->Prop} {w : World} {A : Option Addr} {kv : List KV} (h : PairsAt F w A kv) (k : Nat) (hk : k < kv.length) :
   ∃ ad kA kc vA vc,A=some ad/\w.cell? (ad.add (k * 2))=some (.slice kA kv[k].1.length kc)/\w.cell? ⟨(ad.add (k * 2)).block,(ad.add (k * 2)).off + 1,none⟩=some (.slice vA kv[k].2.length vc)/\kv[k].1.length<=kc/\kv[k].2.length<=vc/\Rd (byteOf F w) w 1 kA kv[k].1.length (bv kv[k].1)/\Rd (byteOf F w) w 1 vA kv[k].2.length (bv kv[k].2):=by
 obtain ⟨rows,h1,h2,h3⟩:=h
 have hkr : k < rows.length:=by omega
 obtain ⟨kA,kc,vA,vc,e,g1,g2,g3,g4⟩:=h3 k rows[k] kv[k] (List.getElem?_eq_getElem hkr) (List.getElem?_eq_getElem hk)
 obtain ⟨ad,rfl,_,hc⟩:=h2.2 (by omega)
 have hat : ∀ j u,rows[k][j]?=some u->w.cell? ((ad.add (k * 2)).add j)=some u:=fun j u hu => by
   rw [add_of_add]
   exact hc _ u (flatten_at2 (h3.two h1) k j _ u (List.getElem?_eq_getElem hkr) hu)
 refine ⟨ad,kA,kc,vA,vc,rfl,?_,?_,g1,g2,g3,g4⟩
 · have := hat 0 _ (by rw [e]; rfl)
   simpa [Addr.add] using this
 · have := hat 1 (.slice vA kv[k].2.length vc) (by rw [e]; rfl)
   rwa [addr_pos _ 1 (by decide)] at this
set_option maxHeartbeats 2000000 in
theorem lsame_any (F : Nat->Prop) (w : World) (A B : Option Addr) (n c d : Nat) (kv : List KV) (hA : PairsAt F w A kv) (hB : PairsAt F w B kv) (hn : n=kv.length) (hnc : n<=c) (hnd : n<=d) (hkv : ∀ p ∈ kv,p.1.length<=100000/\p.2.length<=100000) (hlen : n<=100000) :
   Calls Tryz.prog 16 #[.slice A n c,.slice B n d] w fun e w' => e=.returned (.bool true)/\Qt w w':=by
 have hnI : (n : Int)<=100000:=by omega
 have hncI : (n : Int)<=(c : Int):=by omega
 have hndI : (n : Int)<=(d : Int):=by omega
 replace hA:=hide hA
 replace hB:=hide hB
 replace hn:=hide hn
 replace hkv:=hide hkv
 go_enter Tryz.func16,Tryz.ntmps16
 go_wp2_with fail
 go_loopw [13] (fun v13 wx => ∃ i q : Nat,v13=.int .i64 (i : Int)/\i<=n/\wx=w.drewN q) (fun v13 _ => n - (intOf v13).toNat)
 case atStart => exact ⟨0,0,rfl,by omega,rfl⟩
 case round =>
   obtain ⟨i,q,rfl,hi,rfl⟩:=hrel
   by_cases hlt : i < n
   · have hlk : i < kv.length := by rw [<- hn.out]; exact hlt
     obtain ⟨ad,kA,kc,vA,vc,rfl,a0,a1,hkc,hvc,hrk,hrv⟩:=hA.out.at_ i hlk
     obtain ⟨bd,kB,kd,vB,vd,rfl,b0,b1,hkd,hvd,hsk,hsv⟩:=hB.out.at_ i hlk
     obtain ⟨p,hp⟩ : ∃ p,p=kv[i]:=⟨_,rfl⟩
     have hpl:=hkv.out _ (List.getElem_mem hlk)
     rw [<- hp] at a0 a1 b0 b1 hkc hvc hkd hvd hrk hrv hsk hsv hpl
     obtain ⟨KL,hKL⟩ : ∃ KL,KL=p.1.length:=⟨_,rfl⟩
     obtain ⟨VL,hVL⟩ : ∃ VL,VL=p.2.length:=⟨_,rfl⟩
     rw [<- hKL] at a0 b0 hrk hsk hpl
     rw [<- hVL] at a1 b1 hrv hsv hpl
     have hs1:=hide (fun m => same_any kA kB KL KL kc kd p.1 p.1 (w.drewN m) hrk.rbB hsk.rbB (by omega) (by omega))
     have hs2:=hide (fun m => same_any vA vB VL VL vc vd p.2 p.2 (w.drewN m) hrv.rbB hsv.rbB (by omega) (by omega))
     rw [decide_eq_true rfl] at hs1
     rw [decide_eq_true rfl] at hs2
     have hiI : (i : Int) < (n : Int):=by omega
     replace hrk:=hide hrk
     replace hrv:=hide hrv
     replace hsk:=hide hsk
     replace hsv:=hide hsv
     replace hp:=hide hp
     replace hKL:=hide hKL
     replace hVL:=hide hVL
     replace hlk:=hide hlk
     clear hkc hvc hkd hvd hpl
     go_wp2_with fail
     go_quiet (first | (go_at_call 18; with_reducible exact quiet_qt_add (hs1.out _)) | (go_at_call 18; with_reducible exact quiet_qt_add (hs2.out _)))
     go_wp2_with fail
     go_roundw
     case rel => exact ⟨i + 1,_,by go_num,by omega,rfl⟩
     case measure => simp only [intOf]; omega
   · obtain rfl : i = n := by omega
     go_wp2_with fail
     go_ret
     exact ⟨rfl,_,rfl⟩
end Go.Proofs.YtiiljlmeililbaaGreatDoor
