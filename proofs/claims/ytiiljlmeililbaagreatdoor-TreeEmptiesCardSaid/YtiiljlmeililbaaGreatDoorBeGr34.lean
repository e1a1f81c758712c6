/-
  A cursor beside other blocks; contract of cat.each for any closure.
-/
import Derived.Test.YtiiljlmeililbaaGreatDoorBeGr33
import Derived.Test.YtiiljlmeililbaaGreatDoorBeCmp
import Derived.Test.YtiiljlmeililbaaGreatDoorBeGr31
import Derived.Test.YtiiljlmeililbaaGreatDoorBeGr29
import Derived.Test.YtiiljlmeililbaaGreatDoorBeGr30
namespace Go.Proofs.YtiiljlmeililbaaGreatDoor
set_option linter.unusedVariables false
set_option maxRecDepth 100000
open Go.RowKit
theorem kids_get {st : PgS} {h : Nat} {cs : List CellP} {ks : List Nat} {lo : KeyB} {hi : Option KeyB} {L : List CellP} {P : List Nat} (key : KeyB) (hk : Kids (fun lo hi k l p => TreeR st h 127 lo hi k l p) cs ks lo hi L P) :
   ∀ i,i < ks.length->(∀ c,0 < i->cs[i - 1]?=some c->ltK key c.key=false)->(∀ c,cs[i]?=some c->ltK key c.key=true) ->
   ∃ k lo' hi' l p,ks[i]?=some k/\TreeR st h 127 lo' hi' k l p/\(∀ c,c.key=key->c ∈ L->c ∈ l)/\(∀ c ∈ l,c ∈ L)/\p.Sublist P:=by
 induction hk with
 | one k lo hi L P h =>
   intro i hi1 _ _
   simp at hi1
   subst hi1
   exact ⟨k,lo,hi,L,P,rfl,h,fun c _ hc => hc,fun c hc => hc,List.Sublist.refl _⟩
 | more c cs k ks lo hi l p L P hb h hr ih =>
   intro i hi1 h1 h2
   cases i with
   | zero =>
     refine ⟨k,lo,_,l,p,rfl,h,fun d hd hm => ?_,fun d hd => List.mem_append_left _ hd,List.sublist_append_left _ _⟩
     rcases List.mem_append.1 hm with hm | hm
     · exact hm
     · have h3 := (hr.keys (fun _ _ _ _ _ ht => TreeR.keys ht) d hm).1
       have h4:=h2 c rfl
       rw [hd,h4] at h3; cases h3
   | succ i =>
     have hck : ltK key c.key=false:=by
       cases i with
       | zero => exact h1 c (by omega) rfl
       | succ i =>
         have hil : i < cs.length:=by have:=hr.len; simp at hi1; omega
         have h5:=h1 cs[i] (by omega) (by simp [List.getElem?_eq_getElem hil])
         exact le_ltK _ _ _ (ltK_asymm _ _ (hr.seps cs[i] (List.getElem_mem hil)).1) h5
     obtain ⟨k',lo',hi',l',p',e1,e2,e3,e4,e5⟩:=ih i (by simpa using hi1) (fun d h0 hd => h1 d (by omega) (by
       cases i with
       | zero => omega
       | succ i => simpa using hd)) (fun d hd => h2 d (by simpa using hd))
     refine ⟨k',lo',hi',l',p',by simpa using e1,e2,fun d hd hm => ?_,fun d hd => List.mem_append_right _ (e4 d hd),e5.trans (List.sublist_append_right _ _)⟩
     rcases List.mem_append.1 hm with hm | hm
     · have h3 := (TreeR.keys h d hm).2 _ rfl
       rw [hd,hck] at h3; cases h3
     · exact e3 d hd hm
theorem treeR_get {st : PgS} (key : KeyB) : ∀ (h m : Nat) (lo : KeyB) (hi : Option KeyB) (no : Nat) (L : List CellP) (P : List Nat),TreeR st h m lo hi no L P ->
   ∃ mm r,DownL st key mm (no :: r)/\(no :: r).Sublist P/\mm.leaf=true/\RightP mm/\(∀ c,c.key=key->c ∈ L->c ∈ mm.cells)/\∀ c ∈ mm.cells,c ∈ L
 | 0, m, lo, hi, no, L, P, ht => by
   obtain ⟨n,hl,_,⟨hf,rfl,_⟩,rfl⟩:=ht
   exact ⟨n,[],.leaf no (by have:=hl.1.1; omega) hl hf,List.Sublist.refl _,hf,hl.2.1,fun c _ hc => hc,fun c hc => hc⟩
 | h + 1, m, lo, hi, no, L, P, ht => by
   obtain ⟨n,Q,hl,_,⟨hf,hk⟩,rfl⟩:=ht
   have h1:=findP_inner n key hl.2.1.rise hf
   have h2:=hk.len
   obtain ⟨k,lo',hi',l,p,e1,e2,e3,e4,e5⟩:=kids_get key hk (findP n key).1 (by have:=h1.1; omega) h1.2.1 h1.2.2
   obtain ⟨mm,r,d1,d2,d3,d4,d5,d6⟩:=treeR_get key h 127 lo' hi' k l p e2
   exact ⟨mm,k :: r,.inner no k n r (by have:=hl.1.1; omega) hl hf (by have:=h1.1; omega) e1 d1,(d2.trans e5).cons_cons no,d3,d4,fun c hc hm => d5 c hc (e3 c hc hm),fun c hc => e4 c (d6 c hc)⟩
theorem kids_cells {T : KeyB->Option KeyB->Nat->List CellP->List Nat->Prop} {cs : List CellP} {ks : List Nat} {lo : KeyB} {hi : Option KeyB} {L : List CellP} {P : List Nat} {Q : CellP->Prop} (h : Kids T cs ks lo hi L P) (hT : ∀ lo hi k l p,T lo hi k l p->∀ c ∈ l,Q c) : ∀ c ∈ L,Q c:=by
 induction h with
 | one k lo hi L P h => exact hT _ _ _ _ _ h
 | more c cs k ks lo hi l p L P hb h hr ih =>
   intro d hd
   rcases List.mem_append.1 hd with hd | hd
   · exact hT _ _ _ _ _ h d hd
   · exact ih d hd
theorem TreeR.cells {st : PgS} : ∀ {h m : Nat} {lo : KeyB} {hi : Option KeyB} {no : Nat} {L : List CellP} {P : List Nat},TreeR st h m lo hi no L P->∀ c ∈ L,CellOk c/\c.key.length<=120
 | 0,_,_,_,_,_,_,⟨n,hl,_,⟨hf,rfl,_⟩,_⟩ => fun c hc => ⟨by have:=hl.2.1.vals c hc; rw [if_pos hf] at this; exact this,(hl.2.1.keys c hc).2⟩
 | h + 1,_,_,_,_,_,_,⟨n,Q,_,_,⟨_,hk⟩,_⟩ => kids_cells hk fun _ _ _ _ _ ht => TreeR.cells ht
theorem TreeOf.cells {st : PgS} {k : Nat} {L : List CellP} {P : List Nat} (h : TreeOf st k L P) : ∀ c ∈ L,CellOk c/\c.key.length<=120:=by
 rcases h with ⟨_,rfl,_⟩ | ⟨h,ht⟩
 · intro c hc; cases hc
 · exact ht.cells
theorem ChainR.goS {st : PgS} (hf : st.free < st.many) {no long : Nat} {l : List (Nat × List UInt8)} (h : ChainR st no long l) : GoR sameS st no long l st:=by
 induction h with
 | nil no => exact .nil st no
 | cons no long l h0 hn hr ih => exact .cons st st no long l h0 hn hf ih
theorem OvR.valueG {st : PgS} (hf : st.free < st.many) {c : CellP} {b : List UInt8} {ps : List Nat} (h : OvR st c b ps) (hc : CellOk c) : ValueG st c b:=by
 rcases h with ⟨h0,h1,_⟩ | ⟨h0,l,h1,h2,_⟩
 · exact .inl ⟨h0,h1⟩
 · refine .inr ⟨h0, ?_, l, h1.goS hf, h2⟩
   rcases hc with hc | hc
   · exact absurd hc.1 h0
   · exact hc.2.2.1
theorem GoR.det {S : PgS->Nat->PgS} {st st1 st2 : PgS} {no long : Nat} {l : List (Nat × List UInt8)} (h : GoR S st no long l st1) : ∀ {l2 : List (Nat × List UInt8)},GoR S st no long l2 st2->l=l2:=by
 induction h with
 | nil st no =>
   intro l2 h2
   exact (h2.done).1.symm
 | cons st st' no long l h0 hn hf hr ih =>
   intro l2 h2
   obtain ⟨r,rfl,_,_,h3⟩:=h2.head h0
   rw [ih h3]
theorem ValueG.det {st : PgS} {c : CellP} {b b' : List UInt8} (h : ValueG st c b) (h' : ValueG st c b') : b=b':=by
 rcases h with ⟨h0,rfl⟩ | ⟨h0,_,l,hl,rfl⟩
 · rcases h' with ⟨_, rfl⟩ | ⟨h1, _⟩
   · rfl
   · exact absurd h0 h1
 · rcases h' with ⟨h1, _⟩ | ⟨_, _, l', hl', rfl⟩
   · exact absurd h1 h0
   · rw [hl.det hl']
theorem ValsR.mem {st : PgS} : ∀ {L : List CellP} {kv : List KV} {O : List Nat},ValsR st L kv O->∀ c ∈ L,∃ b ps,OvR st c b ps/\(c.key,b) ∈ kv
 | _, _, _, .cons c L b kv ps O h hr, d, hd => by
   rcases List.mem_cons.1 hd with rfl | hd
   · exact ⟨b,ps,h,.head _⟩
   · obtain ⟨b', ps', h1, h2⟩ := ValsR.mem hr d hd
     exact ⟨b',ps',h1,.tail _ h2⟩
theorem get_law {st : PgS} {fl pages U : List Nat} {k : Nat} {kv : List KV} (hI : Inv st fl (pages ++ U)) (hT : TreeKV st k kv pages) (h0 : st.roots k ≠ 0) (key : KeyB) :
   ∃ m r, DownL st key m (st.roots k :: r) /\ (st.roots k :: r).Nodup /\ ((findP m key).2 = true -> (findP m key).1 < m.cells.length) /\ (∀ c, m.cells[(findP m key).1]? = some c -> ∃ b, ValueG st c b) /\
     ((findP m key).2=true ↔ key ∈ kv.map (·.1))/\∀ c b,(findP m key).2=true->m.cells[(findP m key).1]?=some c->ValueG st c b->(key,b) ∈ kv:=by
 obtain ⟨L,P,O,hTo,hV,rfl⟩:=hT
 have hcells:=hTo.cells
 have hrise:=hTo.rise
 rcases hTo with ⟨h1,_⟩ | ⟨h,ht⟩
 · exact absurd h1 h0
 · obtain ⟨m, r, d1, d2, d3, d4, d5, d6⟩ := treeR_get key h 7 [] none _ L P ht
   have hfp:=findP_leaf m key d3
   have hnd : (st.roots k :: r).Nodup:=by
     exact ((List.nodup_append.1 hI.nd).2.1).sublist ((d2.trans (List.sublist_append_left P O)).trans (List.sublist_append_left _ U))
   have hfound : ∀ c,m.cells[(findP m key).1]?=some c->(findP m key).2=true->c.key=key:=by
     intro c hc h2
     rw [hfp] at hc h2
     simp only at hc h2
     unfold keyAt at h2
     rw [hc] at h2
     simpa using h2
   refine ⟨m,r,d1,hnd,fun h2 => ?_,fun c hc => ?_,⟨fun h2 => ?_,fun h2 => ?_⟩,fun c b h2 hc hv => ?_⟩
   · rw [hfp] at h2 ⊢
     simp only at h2 ⊢
     unfold keyAt at h2
     rcases Nat.lt_or_ge (findI m.cells key) m.cells.length with h9 | h9
     · exact h9
     · rw [List.getElem?_eq_none h9] at h2; cases h2
   · have hm := d6 c (List.mem_of_getElem? hc)
     obtain ⟨b,ps,hov,_⟩:=hV.mem c hm
     exact ⟨b,hov.valueG hI.ok.free (hcells c hm).1⟩
   · have h3 : (findP m key).1 < m.cells.length:=by
       rw [hfp] at h2 ⊢
       simp only at h2 ⊢
       unfold keyAt at h2
       rcases Nat.lt_or_ge (findI m.cells key) m.cells.length with h9 | h9
       · exact h9
       · rw [List.getElem?_eq_none h9] at h2; cases h2
     have hc:=List.getElem?_eq_getElem h3
     have hk:=hfound _ hc h2
     have hm:=d6 _ (List.getElem_mem h3)
     rw [hV.keys,<- hk]
     exact List.mem_map.2 ⟨_,hm,rfl⟩
   · rw [hV.keys] at h2
     obtain ⟨c,hc,hk⟩:=List.mem_map.1 h2
     have h3:=key_stands d4.rise (d5 c hk hc)
     rw [hk] at h3
     rw [hfp]
     exact h3.2
   · have hk := hfound c hc h2
     have hm:=d6 c (List.mem_of_getElem? hc)
     obtain ⟨b',ps,hov,hin⟩:=hV.mem c hm
     have:=(hov.valueG hI.ok.free (hcells c hm).1).det hv
     rw [<- this,<- hk]; exact hin
end Go.Proofs.YtiiljlmeililbaaGreatDoor
