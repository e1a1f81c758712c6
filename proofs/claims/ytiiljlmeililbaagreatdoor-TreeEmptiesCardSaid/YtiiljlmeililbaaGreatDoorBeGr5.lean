/-
  The pager in memory; contracts of up, has, Root, SetRoot.
-/
import Derived.Test.YtiiljlmeililbaaGreatDoorBeGr3
import Derived.Test.YtiiljlmeililbaaGreatDoorBeGr4
namespace Go.Proofs.YtiiljlmeililbaaGreatDoor
set_option linter.unusedVariables false
set_option maxRecDepth 100000
open Go.RowKit Go.Maps
def pgC (gm : Nat) (st : PgS) (U : Nat->Value) : Array Value :=
 #[U 0,U 1,.int .i64 (st.many : Int),.int .i64 (st.free : Int),.int .i64 (st.roots 0 : Int),.int .i64 (st.roots 1 : Int),.int .i64 (st.roots 2 : Int),.int .i64 (st.roots 3 : Int),.int .i64 (st.roots 4 : Int),.int .i64 (st.roots 5 : Int),.int .i64 (st.roots 6 : Int),.int .i64 (st.roots 7 : Int),
   U 12,U 13,U 14,U 15,U 16,U 17,U 18,U 19,U 20,U 21,.map (some gm),U 23,U 24,U 25,.bool false]
theorem OB.same {w w' : World} {base n g c : Nat} {l : List UInt8} (h : OB w base (.slice (some ⟨g,0,none⟩) n c) n l) (hk : w'.heap[g]?=w.heap[g]?) : OB w' base (.slice (some ⟨g,0,none⟩) n c) n l:=by
 obtain ⟨h1,h2⟩:=h
 refine ⟨h1,?_⟩
 rcases h2 with ⟨h0,_⟩ | ⟨g',cap,cur,hv,hg,hh,r⟩
 · cases h0
 · cases hv
   exact Or.inr ⟨g,_,cur,rfl,hg,hk.trans hh,r⟩
structure PgX (x : Nat) (w : World) (F : Nat->Prop) (gp : Nat) (st : PgS) : Prop where
 one : 1<=st.many
 most : st.many<=65536
 lt : ∀ k,F k->k < w.heap.size
 own : F gp
 mem : ∃ gm U m,Blk w gp 73 (pgC gm st U)/\F gm/\IMap w gm 65536 m/\∀ no,st.has no->no ≠ x->∃ g c,m no=some (.slice (some ⟨g,0,none⟩) 508 c)/\F g/\OB w 0 (.slice (some ⟨g,0,none⟩) 508 c) 508 (st.page no)
def PgAt (w : World) (F : Nat->Prop) (gp : Nat) (st : PgS) : Prop:=PgX 0 w F gp st
section
variable {w w' : World} {F : Nat->Prop} {gp x : Nat} {st : PgS}
theorem PgX.keep (h : PgX x w F gp st) (hk : ∀ k,F k->w'.heap[k]?=w.heap[k]?) (hs : w.heap.size<=w'.heap.size) : PgX x w' F gp st:=by
 obtain ⟨gm,U,m,hb,hg,hm,hp⟩:=h.mem
 refine ⟨h.one,h.most,fun k hk' => Nat.lt_of_lt_of_le (h.lt k hk') hs,h.own,gm,U,m,(hk gp h.own).trans hb,hg,hm.keep (hk gm hg),fun no hn hx => ?_⟩
 obtain ⟨g,c,h1,h2,h3⟩:=hp no hn hx
 exact ⟨g,c,h1,h2,h3.same (hk g h2)⟩
theorem PgAt.keep (h : PgAt w F gp st) (hk : ∀ k,F k->w'.heap[k]?=w.heap[k]?) (hs : w.heap.size<=w'.heap.size) : PgAt w' F gp st:=PgX.keep h hk hs
theorem PgAt.below (h : PgAt w F gp st) (hb : Below w.heap.size w w') : PgAt w' F gp st:=h.keep (fun k hk => hb.block k (h.lt k hk)) hb.size
theorem PgAt.drewN (h : PgAt w F gp st) (n : Nat) : PgAt (w.drewN n) F gp st:=h.keep (fun _ _ => rfl) (Nat.le_refl _)
theorem PgAt.drew (h : PgAt w F gp st) : PgAt w.drew F gp st:=h.keep (fun _ _ => rfl) (Nat.le_refl _)
theorem PgAt.alloc (h : PgAt w F gp st) (o : Obj) : PgAt (w.alloc o) F gp st:=h.keep (fun k hk => Below.heap_alloc w o k (h.lt k hk)) (by simp)
theorem PgAt.set_ (h : PgAt w F gp st) {p : Addr} (hp : ¬ F p.block) (u : Value) : PgAt (w.setCell p u) F gp st:=h.keep (fun k hk => Below.heap_setCell w p u k (fun e => hp (by rw [<- e]; exact hk))) (by simp [World.setCell])
theorem PgAt.grown (h : PgAt w F gp st) {row : Option Nat} (hg : w.grownBy w' row) (hr : ∀ k,row=some k->¬ F k) : PgAt w' F gp st:=h.keep (fun k hk => hg.block k (h.lt k hk) (fun e => hr k e.symm hk)) hg.size
theorem PgAt.len (h : PgAt w F gp st) {no : Nat} (hn : st.has no) : (st.page no).length=508:=by
 obtain ⟨gm,U,m,hb,hg,hm,hp⟩:=h.mem
 obtain ⟨g,c,h1,h2,h3⟩:=hp no hn (fun e => by have:=hn.1; omega)
 exact h3.len
end
theorem up_any (x : Nat) (w : World) (F : Nat->Prop) (gp : Nat) (st : PgS) (h : PgX x w F gp st) : Calls Tryz.prog 54 #[.pointer (some ⟨gp,0,none⟩)] w fun e w' => e=.returned (.int .i64 0)/\w=w':=by
 obtain ⟨gm,U,m,hb,_⟩:=h.mem
 have c26 : w.cell? ⟨gp,26,none⟩=some (.bool false):=hb.cell 26
 clear hb
 replace h:=hide h
 go_enter Tryz.func54,Tryz.ntmps54
 go_wp2_with fail
 go_ret
 exact ⟨rfl,rfl⟩
theorem has_any (x : Nat) (w : World) (F : Nat->Prop) (gp : Nat) (st : PgS) (h : PgX x w F gp st) (no least : Int) (h0 : least<=no) (h1 : no < (st.many : Int)) :
   Calls Tryz.prog 72 #[.pointer (some ⟨gp,0,none⟩),.int .i64 no,.int .i64 least] w fun e w' => e=.returned (.int .i64 0)/\w=w':=by
 obtain ⟨gm,U,m,hb,_⟩:=h.mem
 have c2 : w.cell? ⟨gp,2,none⟩=some (.int .i64 (st.many : Int)):=hb.cell 2
 have hu:=hide (up_any x w F gp st h)
 clear hb
 replace h:=hide h
 go_enter Tryz.func72,Tryz.ntmps72
 go_wp2_with fail
 refine hu.out.mono ?_
 rintro e w1 ⟨rfl,rfl⟩
 go_wp2_with fail
 go_ret
 exact ⟨rfl,rfl⟩
theorem pgC_root (gm : Nat) (st : PgS) (U : Nat->Value) (k : Nat) (hk : k < 8) : (pgC gm st U)[4 + k]?=some (.int .i64 (st.roots k : Int)):=by
 match k,hk with
 | 0,_ | 1,_ | 2,_ | 3,_ | 4,_ | 5,_ | 6,_ | 7,_ => rfl
theorem root_any (w : World) (F : Nat->Prop) (gp : Nat) (st : PgS) (h : PgAt w F gp st) (k : Nat) (hk : k < 8) :
   Calls Tryz.prog 23 #[.pointer (some ⟨gp,0,none⟩),.int .i64 (k : Int)] w fun e w' => e=.returned (.int .i64 (st.roots k : Int))/\w=w':=by
 obtain ⟨gm,U,m,hb,_⟩:=h.mem
 have ck : w.cell? ⟨gp,4 + k,none⟩=some (.int .i64 (st.roots k : Int)):=(hb.cell (4 + k)).trans (pgC_root gm st U k hk)
 have hu:=hide (up_any 0 w F gp st h)
 have hkI : (k : Int) < 8:=by omega
 clear hb
 replace h:=hide h
 go_enter Tryz.func23,Tryz.ntmps23
 go_wp2_with fail
 refine hu.out.mono ?_
 rintro e w1 ⟨rfl,rfl⟩
 go_wp2_with fail
 go_ret
 exact ⟨rfl,rfl⟩
theorem pgC_set (gm : Nat) (st : PgS) (U : Nat->Value) (k no : Nat) (hk : k < 8) : (pgC gm st U).setIfInBounds (4 + k) (.int .i64 (no : Int))=pgC gm (setRootS st k no) U:=by
 match k,hk with
 | 0,_ | 1,_ | 2,_ | 3,_ | 4,_ | 5,_ | 6,_ | 7,_ => rfl
def PgEnd (F : Nat->Prop) (w : World) (gp : Nat) (st' : PgS) (r : Value) (e : Ending) (w' : World) : Prop:=e=.returned r/\∃ F',PgAt w' F' gp st'/\Ev F w F' w'
theorem PgAt.setroot {w : World} {F : Nat->Prop} {gp : Nat} {st : PgS} (h : PgAt w F gp st) (k no : Nat) (hk : k < 8) : PgAt (w.setCell ⟨gp,4 + k,none⟩ (.int .i64 (no : Int))) F gp (setRootS st k no):=by
 obtain ⟨gm,U,m,hb,hg,hm,hp⟩:=h.mem
 have hne:=hm.ne hb
 refine ⟨h.one,h.most,fun j hj => by have:=h.lt j hj; simpa [World.setCell] using this,h.own,gm,U,m,?_,hg,hm.keep (Below.heap_setCell w _ _ _ hne),fun j hj hx => ?_⟩
 · have := hb.set_ (4 + k) (.int .i64 (no : Int))
   rw [pgC_set gm st U k no hk] at this
   exact this
 · obtain ⟨g, c, h1, h2, h3⟩ := hp j hj hx
   exact ⟨g,c,h1,h2,h3.same (Below.heap_setCell w _ _ _ (fun e => own_blk_ne h3 hb (by decide) (by rw [e]; rfl)))⟩
theorem setRoot_any (w : World) (F : Nat->Prop) (gp : Nat) (st : PgS) (h : PgAt w F gp st) (k no : Nat) (hk : k < 8) (hn : no < st.many) :
   Calls Tryz.prog 37 #[.pointer (some ⟨gp,0,none⟩),.int .i64 (k : Int),.int .i64 (no : Int)] w (PgEnd F w gp (setRootS st k no) (.int .i64 0)):=by
 have hh:=hide (has_any 0 w F gp st h no 0 (by omega) (by omega))
 have hfin : Hid (PgAt (w.setCell ⟨gp,4 + k,none⟩ (.int .i64 (no : Int))) F gp (setRootS st k no)/\Ev F w F (w.setCell ⟨gp,4 + k,none⟩ (.int .i64 (no : Int)))) :=
   ⟨h.setroot k no hk,(Ev.refl F w).set_ (p:=⟨gp,4 + k,none⟩) h.own _⟩
 obtain ⟨gm,U,m,hb,_⟩:=h.mem
 have ck : w.cell? ⟨gp,4 + k,none⟩=some (.int .i64 (st.roots k : Int)):=(hb.cell (4 + k)).trans (pgC_root gm st U k hk)
 have fk:=hb.frozen (4 + k)
 have hkI : (k : Int) < 8:=by omega
 clear hb
 replace h:=hide h
 go_enter Tryz.func37,Tryz.ntmps37
 go_wp2_with fail
 refine hh.out.mono ?_
 rintro e w1 ⟨rfl,rfl⟩
 go_wp2_with fail
 go_ret
 exact ⟨rfl,F,hfin.out⟩
theorem many_any (w : World) (F : Nat->Prop) (gp : Nat) (st : PgS) (h : PgAt w F gp st) : Calls Tryz.prog 24 #[.pointer (some ⟨gp,0,none⟩)] w fun e w' => e=.returned (.int .i64 (st.many : Int))/\w=w':=by
 obtain ⟨gm,U,m,hb,_⟩:=h.mem
 have c2 : w.cell? ⟨gp,2,none⟩=some (.int .i64 (st.many : Int)):=hb.cell 2
 have hu:=hide (up_any 0 w F gp st h)
 clear hb
 replace h:=hide h
 go_enter Tryz.func24,Tryz.ntmps24
 go_wp2_with fail
 refine hu.out.mono ?_
 rintro e w1 ⟨rfl,rfl⟩
 go_wp2_with fail
 go_ret
 exact ⟨rfl,rfl⟩
end Go.Proofs.YtiiljlmeililbaaGreatDoor
namespace Go.Proofs.YtiiljlmeililbaaGreatDoor
set_option linter.unusedVariables false
set_option maxRecDepth 100000
theorem findI_le (cs : List CellP) (key : KeyB) : findI cs key<=cs.length:=(List.takeWhile_prefix _).length_le
theorem findI_below (cs : List CellP) (key : KeyB) : ∀ j,j < findI cs key->∀ c,cs[j]?=some c->ltK c.key key=true:=by
 unfold findI
 induction cs with
 | nil => intro j hj; simp at hj
 | cons a r ih =>
   intro j hj c hc
   rw [List.takeWhile_cons] at hj
   by_cases h : ltK a.key key=true
   · rw [if_pos h] at hj
     cases j with
     | zero => simp at hc; subst hc; exact h
     | succ j => exact ih j (by simpa using hj) c (by simpa using hc)
   · rw [if_neg h] at hj; simp at hj
theorem findI_at (cs : List CellP) (key : KeyB) : ∀ c,cs[findI cs key]?=some c->ltK c.key key=false:=by
 unfold findI
 induction cs with
 | nil => intro c hc; simp at hc
 | cons a r ih =>
   intro c hc
   rw [List.takeWhile_cons] at hc
   by_cases h : ltK a.key key=true
   · rw [if_pos h] at hc
     exact ih c (by simpa using hc)
   · rw [if_neg h] at hc
     simp at hc
     subst hc
     simpa using h
theorem RiseC.at_ {cs : List CellP} (h : RiseC cs) {i j : Nat} (hij : i < j) {a b : CellP} (ha : cs[i]?=some a) (hb : cs[j]?=some b) : ltK a.key b.key=true:=by
 rw [<- List.take_append_drop j cs] at h
 refine h.between a ?_ b ?_
 · exact List.mem_of_getElem? (i:=i) (by rw [List.getElem?_take,if_pos hij,ha])
 · exact List.mem_of_getElem? (i:=0) (by rw [List.getElem?_drop,Nat.add_zero,hb])
theorem findP_inner (n : NodeP) (key : KeyB) (hr : RiseC n.cells) (hf : n.leaf=false) :
   (findP n key).1<=n.cells.length/\(∀ c,0 < (findP n key).1->n.cells[(findP n key).1 - 1]?=some c->ltK key c.key=false)/\(∀ c,n.cells[(findP n key).1]?=some c->ltK key c.key=true):=by
 have h1:=findI_le n.cells key
 have h2:=findI_below n.cells key
 have h3:=findI_at n.cells key
 unfold findP
 cases hk : keyAt n.cells (findI n.cells key) key with
 | true =>
   rw [if_pos rfl,if_neg (by rw [hf]; decide)]
   unfold keyAt at hk
   split at hk
   · rename_i d hd
     have hdk : d.key=key:=by simpa using hk
     have hlt:=(List.getElem?_eq_some_iff.1 hd).1
     refine ⟨hlt,fun c _ hc => ?_,fun c hc => ?_⟩
     · have : some d = some c := by rw [<- hd, <- hc]; rfl
       injection this with this
       rw [<- this,hdk]; exact ltK_irrefl _
     · have := hr.at_ (Nat.lt_succ_self _) hd hc
       rw [hdk] at this; exact this
   · cases hk
 | false =>
   rw [if_neg (by decide)]
   refine ⟨h1,fun c h0 hc => ltK_asymm _ _ (h2 _ (by show findI n.cells key - 1 < _; have : 0 < findI n.cells key:=h0; omega) c hc),fun c hc => ?_⟩
   have h4:=h3 c hc
   cases h5 : ltK key c.key with
   | true => rfl
   | false =>
     have h6:=ltK_total _ _ h5 h4
     have hc' : n.cells[findI n.cells key]?=some c:=hc
     unfold keyAt at hk
     rw [hc'] at hk
     simp [<- h6] at hk
structure OpLaw (op : OpR) (key : KeyB) (f : List CellP->List CellP) (pre : List CellP->Prop) (st : PgS) (O : List Nat) : Prop where
 dist : ∀ A l B,(∀ x ∈ A,ltK x.key key=true)->(∀ x ∈ B,ltK key x.key=true)->f (A ++ (l ++ B))=A ++ (f l ++ B)
 pass : ∀ A l B,(∀ x ∈ A,ltK x.key key=true)->(∀ x ∈ B,ltK key x.key=true)->pre (A ++ (l ++ B))->pre l
 leaf : ∀ n fl U,n.leaf=true->RightP n->sizeP n<=508->pre n.cells->Inv st fl (O ++ U)->∃ st1 n1 fl1,op st n (findP n key).1 (findP n key).2 st1 n1/\Inv st1 fl1 U/\Same U st st1/\st1.many=st.many/\n1.leaf=true/\n1.cells=f n.cells/\RightP n1/\sizeP n1<=760
 keep : ∀ lo hi l,inB lo hi key->(∀ x ∈ l,inB lo hi x.key)->∀ x ∈ f l,inB lo hi x.key
theorem cellsZ_ins (leaf : Bool) (cs : List CellP) (i : Nat) (c : CellP) : cellsZ leaf (insAt cs i c)=cellsZ leaf cs + cellZ leaf c:=by
 unfold insAt
 rw [cellsZ_append,cellsZ]
 conv => rhs; rw [<- List.take_append_drop i cs,cellsZ_append]
 omega
theorem change_law {op : OpR} {key : KeyB} {f : List CellP->List CellP} {pre : List CellP->Prop} {st : PgS} {O : List Nat} (hop : OpLaw op key f pre st O) : ∀ (h m : Nat) (lo : KeyB) (hi : Option KeyB) (no : Nat) (L : List CellP) (P fl U : List Nat),
   TreeR st h m lo hi no L P->7<=m->inB lo hi key->pre L->Inv st fl (P ++ (O ++ U))->st.many + h < 65536 ->
   ∃ st' o fl',ChangeR op key st no st' o/\LaidR st' h no lo hi (f L) fl' U o/\Same U st st'/\st'.many<=st.many + (h + 1):=by
 intro h
 induction h with
 | zero =>
   intro m lo hi no L P fl U ht hm hkey hpre hI hmany
   obtain ⟨n,hl,hz,⟨hf,rfl,hb⟩,rfl⟩:=ht
   have hI0 : Inv st fl (O ++ (no :: U)):=hI.perm (List.perm_iff_count.2 fun x => by simp only [List.count_cons,List.count_append,List.count_nil]; omega)
   obtain ⟨st1,n1,fl1,ho,hI1,hS1,hm1,hf1,hc1,hr1,hz1⟩:=hop.leaf n fl _ hf hl.2.1 (hl.size hI.ok) hpre hI0
   have hN : NodeT st1 0 n1 lo hi (f n.cells) []:=⟨hf1,hc1.symm,by rw [hc1]; exact hop.keep lo hi _ hkey hb,rfl⟩
   obtain ⟨st2,o,fl2,hy,hla,hS2,hm2⟩:=lay_law (U:=U) hI1 hN hr1 hz1 (by omega)
   exact ⟨st2,o,fl2,.leaf st st1 st2 no n n1 o hl hf ho hy,hla,(hS1.mono fun x hx => .tail _ hx).trans hS2 fun x hx => hx,by omega⟩
 | succ h ih =>
   intro m lo hi no L P fl U ht hm hkey hpre hI hmany
   obtain ⟨n,Q,hl,hz,⟨hf,hK⟩,rfl⟩:=ht
   have hlen:=hK.len
   obtain ⟨hf1,hf2,hf3⟩:=findP_inner n key hl.2.1.rise hf
   obtain ⟨i,hi'⟩ : ∃ i,i=(findP n key).1:=⟨_,rfl⟩
   rw [<- hi'] at hf1 hf2 hf3
   have hik : i < n.kids.length:=by omega
   obtain ⟨lo',hh',LA,l,LB,PA,p,PB,rfl,rfl,hp,hA⟩:=hK.around (fun _ _ _ _ _ h => TreeR.keys h) i 0 (by omega)
   have hki:=kidAt_some n i hik
   have e1 : (n.cells.drop i).take 0=[]:=rfl
   have e2 : (n.kids.drop i).take 1=[kidAt n i]:=by rw [drop_at _ _ _ hki]; rfl
   rw [e1,e2] at hp
   cases hp with
   | one _ _ _ _ _ htc =>
   have hne : n.cells ≠ []:=fun e => by
     have h1 : sizeP n=6:=by unfold sizeP; rw [hf,e]; rfl
     omega
   have hkey' : inB lo' hh' key:=by
     refine ⟨?_,fun t ht => ?_⟩
     · rcases Nat.eq_zero_or_pos i with h0 | h0
       · rw [hA.lo0 h0]; exact hkey.1
       · rw [hA.lo1 _ h0 (List.getElem?_eq_getElem (by omega))]
         exact hf2 _ h0 (List.getElem?_eq_getElem (by omega))
     · by_cases h0 : i = n.cells.length
       · rw [hA.hi0 (by omega)] at ht; exact hkey.2 t ht
       · have h4 := hA.hi1 n.cells[i] (List.getElem?_eq_getElem (by omega))
         rw [h4] at ht
         injection ht with ht
         rw [<- ht]
         exact hf3 _ (List.getElem?_eq_getElem (by omega))
   have hLA : ∀ x ∈ LA,ltK x.key key=true:=fun x hx => ltK_le_trans _ _ _ (hA.below x hx) hkey'.1
   have hLB : ∀ x ∈ LB,ltK key x.key=true:=fun x hx => by
     obtain ⟨s,hs,h4⟩:=hA.above x hx
     exact ltK_le_trans _ _ _ (hkey'.2 s hs) h4
   have hI0 : Inv st fl (p ++ (O ++ (no :: (PA ++ PB ++ U)))):=hI.perm (List.perm_iff_count.2 fun x => by simp only [List.count_cons,List.count_append]; omega)
   obtain ⟨st1,o,fl1,hch,hla,hS1,hm1⟩:=ih 127 lo' hh' (kidAt n i) l p fl _ htc (by omega) hkey' (hop.pass _ _ _ hLA hLB hpre) hI0 (by omega)
   have hdist:=hop.dist LA l LB hLA hLB
   have hcells : ∀ c ∈ n.cells,BareCell c/\1<=c.key.length/\c.key.length<=120:=fun c hc => by
     have:=hl.2.1.vals c hc
     rw [if_neg (by rw [hf]; decide)] at this
     exact ⟨this,hl.2.1.keys c hc⟩
   have hszn:=hl.size hI.ok
   have hszn2 : sizeP n=6 + cellsZ false n.cells:=by unfold sizeP; rw [hf]; rfl
   have hl1 : LoadR st1 no n:=hl.frame hS1.many (hS1.page _ (.head _))
   cases o with
   | some kk =>
     obtain ⟨kk,kno⟩:=kk
     obtain ⟨L1,L2,P1,P2,hfl,hsep,hk1,hk2,hI1,tA,tB⟩:=hla
     have hkp:=Kids.more (T:=fun q1 q2 q3 q4 q5 => TreeR st1 h 127 q1 q2 q3 q4 q5) ⟨kk,[],0,0⟩ [] _ _ lo' hh' _ _ _ _ hsep tA (.one _ _ _ _ _ tB)
     have hpl:=hA.plug (fun q1 q2 q3 q4 q5 => TreeR st1 h 127 q1 q2 q3 q4 q5) (fun _ _ _ _ q hq ht => TreeR.frame hS1.many ht fun x hx => hS1.page x (by
       rcases List.mem_append.1 (hq x hx) with h | h <;> simp [h])) _ _ _ _ hkp
     have ec : n.cells.take i ++ ([(⟨kk,[],0,0⟩ : CellP)] ++ n.cells.drop (i + 0))=insAt n.cells i ⟨kk,[],0,0⟩:=rfl
     have ek : n.kids.take i ++ ([kidAt n i,kno] ++ n.kids.drop (i + 0 + 1))=insAt n.kids (i + 1) kno:=by
       unfold insAt
       rw [take_snoc_at _ _ _ hki,List.append_assoc]; rfl
     rw [ec,ek,<- hfl,<- hdist] at hpl
     have hRn : RightP ⟨false,insAt n.cells i ⟨kk,[],0,0⟩,insAt n.kids (i + 1) kno⟩:=by
       refine inner_right (st:=st1) hpl (fun c hc => ?_) ?_ fun k hk => ?_
       · have hc2 : c ∈ n.cells.take i \/ c = ⟨kk, [], 0, 0⟩ \/ c ∈ n.cells.drop i := by simpa [insAt] using hc
         rcases hc2 with hc | rfl | hc
         · exact hcells c (List.mem_of_mem_take hc)
         · exact ⟨⟨rfl,rfl,rfl⟩,hk1,hk2⟩
         · exact hcells c (List.mem_of_mem_drop hc)
       · have h9 := size_cells n
         simp [insAt]; omega
       · have hk2 : k ∈ n.kids.take (i + 1) \/ k = kno \/ k ∈ n.kids.drop (i + 1) := by simpa [insAt] using hk
         rcases hk2 with hk | rfl | hk
         · exact hl.2.1.kidsOk k (List.mem_of_mem_take hk)
         · exact has_child hI1.ok tB.has
         · exact hl.2.1.kidsOk k (List.mem_of_mem_drop hk)
     have hz1 : sizeP ⟨false,insAt n.cells i ⟨kk,[],0,0⟩,insAt n.kids (i + 1) kno⟩<=760:=by
       have h9 : sizeP ⟨false,insAt n.cells i ⟨kk,[],0,0⟩,insAt n.kids (i + 1) kno⟩=6 + cellsZ false (insAt n.cells i ⟨kk,[],0,0⟩):=rfl
       have h10 : cellZ false ⟨kk,[],0,0⟩<=124:=cellZ_bare hk2
       rw [h9,cellsZ_ins]; omega
     obtain ⟨st2,o2,fl2,hy,hla2,hS2,hm2⟩:=lay_law (h:=h + 1) (no:=no) (U:=U) (hI1.perm (List.perm_iff_count.2 fun x => by simp only [List.count_cons,List.count_append]; omega)) ⟨rfl,hpl⟩ hRn hz1 (by omega)
     refine ⟨st2,o2,fl2,.split st st1 st2 no kno n kk o2 hl hf (by rw [<- hi']; exact hik) (by rw [<- hi']; exact hch) (by rw [<- hi']; exact hy),hla2,(hS1.mono fun x hx => by simp [hx]).trans hS2 fun x hx => hx,by omega⟩
   | none =>
     obtain ⟨P1,hI1,tA⟩:=hla
     have hIm : Inv st1 fl1 ((PA ++ (P1 ++ PB)) ++ (no :: U)):=hI1.perm (List.perm_iff_count.2 fun x => by simp only [List.count_cons,List.count_append]; omega)
     have hthin : ∀ q1 q2 q3 q4 q5,TreeR st1 h 127 q1 q2 q3 q4 q5->ThinT st1 h (kidAt n i) q1 q2 q3 q4 q5:=fun q1 q2 q3 q4 q5 ht => TreeR.mono ht (by split <;> omega)
     have hkp:=Kids.one (T:=ThinT st1 h (kidAt n i)) (kidAt n i) lo' hh' (f l) P1 (by show TreeR st1 h (if kidAt n i=kidAt n i then 0 else 127) _ _ _ _ _; rw [if_pos rfl]; exact tA)
     have hpl:=hA.plug (ThinT st1 h (kidAt n i)) (fun _ _ _ _ q hq ht => hthin _ _ _ _ _ (TreeR.frame hS1.many ht fun x hx => hS1.page x (by
       rcases List.mem_append.1 (hq x hx) with h | h <;> simp [h]))) _ _ _ _ hkp
     have ec : n.cells.take i ++ ([] ++ n.cells.drop (i + 0))=n.cells:=by simp
     have ek : n.kids.take i ++ ([kidAt n i] ++ n.kids.drop (i + 0 + 1))=n.kids:=by
       conv => rhs; rw [<- List.take_append_drop i n.kids,drop_at _ _ _ hki]
       rfl
     rw [ec,ek,<- hdist] at hpl
     obtain ⟨st2,n2,fl2,Q2,hme,hI2,hS2,hm2,hN2,hR2,hz2⟩:=mend_law hIm hpl hf hl.2.1 hszn hik hne
     obtain ⟨st3,o3,fl3,hy,hla3,hS3,hm3⟩:=lay_law (h:=h + 1) (no:=no) (U:=U) (hI2.perm (List.perm_iff_count.2 fun x => by simp only [List.count_cons,List.count_append]; omega)) hN2 hR2 hz2 (by omega)
     refine ⟨st3,o3,fl3,.one st st1 st2 st3 no n n2 o3 hl hf (by rw [<- hi']; exact hik) (by rw [<- hi']; exact hch) (by rw [<- hi']; exact hme) hy,hla3,((hS1.mono fun x hx => by simp [hx]).trans (hS2.mono fun x hx => .tail _ hx) fun x hx => hx).trans hS3 fun x hx => hx,by omega⟩
def TreeOf (st : PgS) (k : Nat) (L : List CellP) (P : List Nat) : Prop:=(st.roots k=0/\L=[]/\P=[]) \/ ∃ h,TreeR st h 7 [] none (st.roots k) L P
structure SameK (k : Nat) (U : List Nat) (st st' : PgS) : Prop where
 page : ∀ x ∈ U,st'.page x=st.page x
 many : st.many<=st'.many
 roots : ∀ j,j ≠ k->st'.roots j=st.roots j
theorem Same.toK {U : List Nat} {a b : PgS} (h : Same U a b) (k : Nat) : SameK k U a b:=⟨h.page,h.many,fun j _ => by rw [h.roots]⟩
theorem SameK.refl (k : Nat) (U : List Nat) (st : PgS) : SameK k U st st:=⟨fun _ _ => rfl,Nat.le_refl _,fun _ _ => rfl⟩
theorem SameK.trans {k : Nat} {U U' : List Nat} {a b c : PgS} (h : SameK k U a b) (g : SameK k U' b c) (hs : ∀ x ∈ U,x ∈ U') : SameK k U a c :=
 ⟨fun x hx => (g.page x (hs x hx)).trans (h.page x hx),Nat.le_trans h.many g.many,fun j hj => (g.roots j hj).trans (h.roots j hj)⟩
theorem SameK.mono {k : Nat} {U U' : List Nat} {a b : PgS} (h : SameK k U a b) (hs : ∀ x ∈ U',x ∈ U) : SameK k U' a b:=⟨fun x hx => h.page x (hs x hx),h.many,h.roots⟩
theorem setRoot_same (st : PgS) (k no : Nat) (U : List Nat) : SameK k U st (setRootS st k no):=⟨fun _ _ => rfl,Nat.le_refl _,fun j hj => by show (if j=k then no else st.roots j)=_; rw [if_neg hj]⟩
theorem TreeR.size7 {st : PgS} {h m no : Nat} {lo : KeyB} {hi : Option KeyB} {L : List CellP} {P : List Nat} (ht : TreeR st h m lo hi no L P) {n : NodeP} {Q : List Nat} (hl : LoadR st no n) (hN : NodeT st h n lo hi L Q) (hne : n.cells ≠ []) : 7<=sizeP n:=by
 obtain ⟨c,r,e⟩:=List.exists_cons_of_ne_nil hne
 have hk:=hl.2.1.keys c (by rw [e]; exact .head _)
 unfold sizeP
 rw [e,cellsZ]
 have : 4<=cellZ n.leaf c/\(n.leaf=false->4<=cellZ n.leaf c):=by
   unfold cellZ
   cases n.leaf
   · rw [if_neg (by decide)]; exact ⟨by omega,fun _ => by omega⟩
   · rw [if_pos rfl]
     split <;> exact ⟨by omega,fun e => by cases e⟩
 split <;> omega
theorem top_law {st : PgS} {k h no : Nat} {L : List CellP} {fl U : List Nat} {o : Option (KeyB × Nat)} (hroot : st.roots k=no) (hla : LaidR st h no [] none L fl U o) (hm : st.many < 65536) :
   ∃ st' fl' P',TopR k st no o st'/\TreeOf st' k L P'/\Inv st' fl' (P' ++ U)/\SameK k U st st'/\st'.many<=st.many + 1:=by
 cases o with
 | some kk =>
   obtain ⟨kk,kno⟩:=kk
   obtain ⟨L1,L2,P1,P2,rfl,hsep,hk1,hk2,hI,tA,tB⟩:=hla
   obtain ⟨c1,fl1,i1,s1,m1,n1⟩:=hI.alloc hm
   have tA1:=TreeR.frame s1.many tA fun x hx => s1.page x (by simp [hx])
   have tB1:=TreeR.frame s1.many tB fun x hx => s1.page x (by simp [hx])
   have hkids1:=Kids.more (T:=fun q1 q2 q3 q4 q5 => TreeR (allocS st) h 127 q1 q2 q3 q4 q5) ⟨kk,[],0,0⟩ [] _ _ [] none _ _ _ _ hsep tA1 (.one _ _ _ _ _ tB1)
   have hR : RightP ⟨false,[⟨kk,[],0,0⟩],[no,kno]⟩:=by
     refine inner_right (st:=allocS st) hkids1 (fun c hc => ?_) (by simp) fun x hx => ?_
     · rw [List.mem_singleton.1 hc]; exact ⟨⟨rfl,rfl,rfl⟩,hk1,hk2⟩
     · have hx2 : x = no \/ x = kno := by simpa using hx
       rcases hx2 with rfl | rfl
       · exact has_child i1.ok tA1.has
       · exact has_child i1.ok tB1.has
   have hz : sizeP ⟨false,[⟨kk,[],0,0⟩],[no,kno]⟩=10 + kk.length:=by simp [sizeP,cellsZ,cellZ]; omega
   obtain ⟨c2,i2,s2,m2,l2⟩:=i1.save _ hR (by omega)
   have hK2 : Kids (fun q1 q2 q3 q4 q5 => TreeR (saveS (allocS st) (allocN st) ⟨false,[⟨kk,[],0,0⟩],[no,kno]⟩) h 127 q1 q2 q3 q4 q5) [⟨kk,[],0,0⟩] [no,kno] [] none (L1 ++ L2) (P1 ++ P2) :=
     hkids1.imp fun _ _ _ _ q hq _ ht => TreeR.frame s2.many ht fun x hx => s2.page x (by
       rcases List.mem_append.1 (hq x hx) with h | h <;> simp [h])
   have hT : TreeR (saveS (allocS st) (allocN st) ⟨false,[⟨kk,[],0,0⟩],[no,kno]⟩) (h + 1) 7 [] none (allocN st) (L1 ++ L2) (allocN st :: (P1 ++ P2)):=⟨_,_,l2,by rw [hz]; omega,⟨rfl,hK2⟩,rfl⟩
   have hlt:=(i2.has_ (.head _)).2
   refine ⟨_,fl1,allocN st :: (P1 ++ P2),.two st no kno kk c1 c2,.inr ⟨h + 1,?_⟩,(i2.perm ?_).setRoot k hlt,(((s1.toK k).mono fun x hx => by simp [hx]).trans (s2.toK k) fun x hx => by simp [hx]).trans (setRoot_same _ _ _ U) fun x hx => hx,?_⟩
   · have e : (setRootS (saveS (allocS st) (allocN st) ⟨false, [⟨kk, [], 0, 0⟩], [no, kno]⟩) k (allocN st)).roots k = allocN st := by show (if k = k then _ else _) = _; rw [if_pos rfl]
     rw [e]
     exact TreeR.frame (st:=saveS (allocS st) (allocN st) ⟨false,[⟨kk,[],0,0⟩],[no,kno]⟩) (st':=setRootS (saveS (allocS st) (allocN st) ⟨false,[⟨kk,[],0,0⟩],[no,kno]⟩) k (allocN st)) (Nat.le_refl _) hT fun _ _ => rfl
   · exact List.perm_iff_count.2 fun x => by simp only [List.count_cons,List.count_append]; omega
   · exact Nat.le_trans (Nat.le_of_eq m2) m1
 | none =>
   obtain ⟨P,hI,ht⟩:=hla
   obtain ⟨n,Q,hl,_,hN,rfl⟩:=ht.node
   by_cases hc : n.cells=[]
   · have hh := hI.has_ (.head _)
     cases h with
     | zero =>
       obtain ⟨hf,rfl,hb,rfl⟩:=hN
       have hr0 : (if n.leaf=true then 0 else kidAt n 0)=0:=by rw [if_pos hf]
       have hI1:=hI.setRoot (no:=0) k (by have:=hI.ok.one; omega)
       obtain ⟨i2,s2,m2⟩:=hI1.free
       have htop:=TopR.less (k:=k) st no n hl hc (by rw [hr0]; have:=hI.ok.one; omega) hh
       rw [hr0] at htop
       refine ⟨_,_,[],htop,.inl ⟨?_,hc,rfl⟩,i2,(setRoot_same st k 0 U).trans ((s2.toK k)) fun x hx => hx,by rw [m2]; exact Nat.le_succ _⟩
       rw [s2.roots]
       show (if k=k then _ else _)=_
       rw [if_pos rfl]
     | succ h =>
       obtain ⟨hf,hK⟩:=hN
       rw [hc] at hK
       have hks : ∃ x,n.kids=[x]:=by
         have:=hK.len
         simp at this
         exact List.length_eq_one_iff.1 this
       obtain ⟨x,hx⟩:=hks
       rw [hx] at hK
       cases hK with
       | one _ _ _ _ _ htc =>
       have hr0 : (if n.leaf=true then 0 else kidAt n 0)=x:=by rw [if_neg (by rw [hf]; decide)]; unfold kidAt; rw [hx]; rfl
       have hxh:=htc.has
       have hI1:=hI.setRoot (no:=x) k hxh.2
       obtain ⟨i2,s2,m2⟩:=hI1.free
       have htop:=TopR.less (k:=k) st no n hl hc (by rw [hr0]; exact hxh.2) hh
       rw [hr0] at htop
       have hroot2 : (freeS (setRootS st k x) no).roots k=x:=by
         rw [s2.roots]
         show (if k=k then _ else _)=_
         rw [if_pos rfl]
       refine ⟨_,_,Q,htop,.inr ⟨h,?_⟩,i2,((setRoot_same st k x (Q ++ U)).trans (s2.toK k) fun x hx => hx).mono fun x hx => by simp [hx],by rw [m2]; exact Nat.le_succ _⟩
       rw [hroot2]
       exact (TreeR.frame (st:=st) s2.many htc fun y hy => s2.page y (by simp [hy])).mono (by omega)
   · have h7 := ht.size7 hl hN hc
     exact ⟨st,fl,no :: Q,.stays st no n hl hc,.inr ⟨h,by rw [hroot]; exact hN.tree hl h7⟩,hI,SameK.refl _ _ _,Nat.le_succ _⟩
theorem ChainR.frame {st st' : PgS} {no long : Nat} {l : List (Nat × List UInt8)} (h : ChainR st no long l) (hm : st.many<=st'.many) (hp : ∀ x ∈ l.map (·.1),st'.page x=st.page x) : ChainR st' no long l:=by
 induction h with
 | nil no => exact .nil no
 | cons no long l h0 hn hr ih =>
   have e:=hp no (by simp)
   have h1:=ih fun x hx => hp x (by simp at hx ⊢; exact .inr hx)
   rw [<- e] at h1 ⊢
   exact .cons no long l h0 ⟨hn.1,Nat.lt_of_lt_of_le hn.2 hm⟩ h1
theorem ChainR.lt {st : PgS} {no long : Nat} {l : List (Nat × List UInt8)} (h : ChainR st no long l) (h0 : 0 < long) : st.has no:=by
 cases h with
 | nil => omega
 | cons _ _ _ _ hn _ => exact hn
theorem drops_law {st : PgS} {no long : Nat} {l : List (Nat × List UInt8)} (h : ChainR st no long l) : ∀ {fl U : List Nat},Inv st fl (l.map (·.1) ++ U)->∃ st' fl',DropsR st no long st'/\Inv st' fl' U/\Same U st st'/\st'.many=st.many:=by
 generalize hn : l.length=n
 induction n generalizing st no long l with
 | zero =>
   intro fl U hI
   have : l=[]:=List.eq_nil_of_length_eq_zero hn
   subst this
   cases h with
   | nil => exact ⟨st,fl,.nil st no,hI,Same.refl _ _,rfl⟩
 | succ n ih =>
   intro fl U hI
   cases h with
   | nil => simp at hn
   | cons _ _ r h0 hh hr =>
     have hI1 : Inv st fl (no :: (r.map (·.1) ++ U)):=hI
     obtain ⟨i2,s2,m2⟩:=hI1.free
     have hr2:=hr.frame (st':=freeS st no) (Nat.le_refl _) fun x hx => s2.page x (List.mem_append_left _ hx)
     obtain ⟨st3,fl3,d3,i3,s3,m3⟩:=ih hr2 (by simpa using hn) i2
     exact ⟨st3,fl3,.cons st st3 no long h0 hh d3,i3,(s2.mono fun x hx => List.mem_append_right _ hx).trans s3 fun x hx => hx,by rw [m3,m2]⟩
theorem piecesUp_succ (b : List UInt8) (i : Nat) : (piecesUp b (i + 1)).reverse=(b.drop (505 * i)).take 505 :: (piecesUp b i).reverse:=by
 unfold piecesUp
 rw [List.range_succ,List.map_append,List.reverse_append]
 rfl
theorem over_law (b : List UInt8) : ∀ (i : Nat) {st : PgS} {o : Nat} {l : List (Nat × List UInt8)} {fl U : List Nat},(i=0 \/ 505 * (i - 1) < b.length)->ChainR st o (b.length - 505 * i) l->l.flatMap (·.2)=b.drop (505 * i)->(o=0 \/ st.has o)->Inv st fl (l.map (·.1) ++ U)->st.many + i<=65536 ->
   ∃ st' o' l' fl',OverR st (piecesUp b i).reverse o st' o'/\ChainR st' o' b.length l'/\l'.flatMap (·.2)=b/\Inv st' fl' (l'.map (·.1) ++ U)/\Same U st st'/\st'.many<=st.many + i/\(o'=0 \/ st'.has o')
 | 0,st,o,l,fl,U,_,hc,hb,ho,hI,_ => ⟨st,o,l,fl,.nil st o,by simpa using hc,by simpa using hb,hI,Same.refl _ _,Nat.le_refl _,ho⟩
 | i + 1, st, o, l, fl, U, hi, hc, hb, ho, hI, hm => by
   have hi2 : 505 * i < b.length:=by rcases hi with h | h; omega; exact h
   obtain ⟨c1,fl1,i1,s1,m1,n1⟩:=hI.alloc (by omega)
   have ho2 : o < 65536:=by rcases ho with h | h; omega; have:=h.2; have:=hI.ok.most; omega
   have hlen : ((b.drop (505 * i)).take 505).length=min 505 (b.length - 505 * i):=by rw [List.length_take,List.length_drop]
   obtain ⟨i2,s2,m2⟩:=i1.write (leB 3 o ++ (b.drop (505 * i)).take 505) (by rw [List.length_append,leB_len,hlen]; omega)
   obtain ⟨st2,hst2⟩ : ∃ st2,st2=writeS (allocS st) (allocN st) (leB 3 o ++ (b.drop (505 * i)).take 505):=⟨_,rfl⟩
   rw [<- hst2] at i2 s2 m2
   have hpage : st2.page (allocN st)=(leB 3 o ++ (b.drop (505 * i)).take 505) ++ zB (508 - (leB 3 o ++ (b.drop (505 * i)).take 505).length):=by
     rw [hst2]; show (if allocN st=allocN st then _ else _)=_; rw [if_pos rfl]
   have hc2 : ChainR st2 o (b.length - 505 * (i + 1)) l:=(hc.frame s1.many fun x hx => s1.page x (List.mem_append_left _ hx)).frame s2.many fun x hx => s2.page x (List.mem_append_left _ hx)
   have hnum : numL ((st2.page (allocN st)).take 3)=o:=by
     rw [hpage,List.append_assoc,List.take_left' (leB_len _ _),numL_leB,Nat.mod_eq_of_lt (by omega)]
   have hbytes : ((st2.page (allocN st)).drop 3).take (min (b.length - 505 * i) 505)=(b.drop (505 * i)).take 505:=by
     rw [hpage,List.append_assoc,List.drop_left' (leB_len _ _),List.take_append_of_le_length (by rw [hlen]; omega),List.take_of_length_le (by rw [hlen]; omega)]
   have hnew : ChainR st2 (allocN st) (b.length - 505 * i) ((allocN st,(b.drop (505 * i)).take 505) :: l):=by
     rw [<- hbytes]
     refine .cons _ _ _ (by omega) (i2.has_ (.head _)) ?_
     rw [hnum,Nat.sub_sub]
     exact hc2
   obtain ⟨st3,o3,l3,fl3,h1,h2,h3,h4,h5,h6,h7⟩:=over_law b i (st:=st2) (o:=allocN st) (l:=(allocN st,(b.drop (505 * i)).take 505) :: l) (fl:=fl1) (U:=U)
     (by by_cases e : i=0; exact .inl e; exact .inr (by omega)) hnew (by
       rw [List.flatMap_cons,hb]
       show (b.drop (505 * i)).take 505 ++ _=_
       rw [Nat.mul_succ,<- List.drop_drop,List.take_append_drop]) (.inr (i2.has_ (.head _))) i2 (by omega)
   refine ⟨st3,o3,l3,fl3,?_,h2,h3,h4,((s1.mono fun x hx => List.mem_append_right _ hx).trans (s2.mono fun x hx => List.mem_append_right _ hx) fun x hx => hx).trans h5 fun x hx => hx,by omega,h7⟩
   rw [piecesUp_succ]
   refine .cons st st3 _ _ o o3 c1 ?_
   rw [<- hst2]; exact h1
def OvR (st : PgS) (c : CellP) (b : List UInt8) (ps : List Nat) : Prop:=(c.over=0/\b=c.val/\ps=[]) \/ (c.over ≠ 0/\∃ l,ChainR st c.over c.long l/\b=l.flatMap (·.2)/\ps=l.map (·.1))
theorem OvR.frame {st st' : PgS} {c : CellP} {b : List UInt8} {ps : List Nat} (h : OvR st c b ps) (hm : st.many<=st'.many) (hp : ∀ x ∈ ps,st'.page x=st.page x) : OvR st' c b ps:=by
 rcases h with h | ⟨h0,l,h1,h2,rfl⟩
 · exact .inl h
 · exact .inr ⟨h0,l,h1.frame hm hp,h2,rfl⟩
theorem drop_law {st : PgS} {c : CellP} {b : List UInt8} {ps fl U : List Nat} (h : OvR st c b ps) (hI : Inv st fl (ps ++ U)) : ∃ st' fl',DropR st c st'/\Inv st' fl' U/\Same U st st'/\st'.many=st.many:=by
 rcases h with ⟨h0,_,rfl⟩ | ⟨h0,l,h1,_,rfl⟩
 · exact ⟨st,fl,.inl ⟨h0,rfl⟩,hI,Same.refl _ _,rfl⟩
 · obtain ⟨st', fl', d, i, s, m⟩ := drops_law h1 hI
   exact ⟨st',fl',.inr ⟨h0,d⟩,i,s,m⟩
theorem cell_law {st : PgS} {fl U : List Nat} (hI : Inv st fl U) (key b : List UInt8) (hb : b.length<=20000) (hm : st.many + 40<=65536) :
   ∃ st' c ps fl',CellR st key b st' c/\c.key=key/\CellOk c/\OvR st' c b ps/\Inv st' fl' (ps ++ U)/\Same U st st'/\st'.many<=st.many + 40:=by
 rcases Nat.lt_or_ge 64 b.length with hl | hl
 · obtain ⟨k, hk⟩ : ∃ k, k = (b.length + 504) / 505 := ⟨_, rfl⟩
   obtain ⟨st',o,l,fl',h1,h2,h3,h4,h5,h6,h7⟩:=over_law b k (st:=st) (o:=0) (l:=[]) (fl:=fl) (U:=U) (.inr (by omega)) (by
     rw [show b.length - 505 * k=0 from by omega]; exact .nil 0) (by
     rw [List.drop_of_length_le (by omega)]; rfl) (.inl rfl) hI (by omega)
   have hh:=h2.lt (by omega)
   refine ⟨st',⟨key,[],o,b.length⟩,l.map (·.1),fl',.inr ⟨hl,o,by rw [<- hk]; exact h1,rfl⟩,rfl,.inr ⟨has_child h4.ok hh,hl,hb,rfl⟩,.inr ⟨by have:=hh.1; show o ≠ 0; omega,l,h2,h3.symm,rfl⟩,h4,h5,by omega⟩
 · exact ⟨st,⟨key,b,0,0⟩,[],fl,.inl ⟨hl,rfl,rfl⟩,rfl,.inl ⟨rfl,rfl,hl⟩,.inl ⟨rfl,rfl,rfl⟩,hI,Same.refl _ _,by omega⟩
def lo_ (L : List CellP) (key : KeyB) : List CellP:=L.filter fun c => ltK c.key key
def up_ (L : List CellP) (key : KeyB) : List CellP:=L.filter fun c => ltK key c.key
def insF (c : CellP) (L : List CellP) : List CellP:=lo_ L c.key ++ c :: up_ L c.key
def delF (key : KeyB) (L : List CellP) : List CellP:=lo_ L key ++ up_ L key
section
variable {key : KeyB} {A B l L : List CellP}
theorem lo_all (h : ∀ x ∈ A,ltK x.key key=true) : lo_ A key=A:=List.filter_eq_self.2 h
theorem lo_none (h : ∀ x ∈ A,ltK x.key key=false) : lo_ A key=[]:=List.filter_eq_nil_iff.2 fun x hx => by rw [h x hx]; decide
theorem up_all (h : ∀ x ∈ A,ltK key x.key=true) : up_ A key=A:=List.filter_eq_self.2 h
theorem up_none (h : ∀ x ∈ A,ltK key x.key=false) : up_ A key=[]:=List.filter_eq_nil_iff.2 fun x hx => by rw [h x hx]; decide
theorem lo_app (A B : List CellP) (key : KeyB) : lo_ (A ++ B) key=lo_ A key ++ lo_ B key:=List.filter_append ..
theorem up_app (A B : List CellP) (key : KeyB) : up_ (A ++ B) key=up_ A key ++ up_ B key:=List.filter_append ..
theorem lo_mid (hA : ∀ x ∈ A,ltK x.key key=true) (hB : ∀ x ∈ B,ltK key x.key=true) : lo_ (A ++ (l ++ B)) key=A ++ lo_ l key:=by
 rw [lo_app,lo_app,lo_all hA,lo_none (A:=B) fun x hx => ltK_asymm _ _ (hB x hx),List.append_nil]
theorem up_mid (hA : ∀ x ∈ A,ltK x.key key=true) (hB : ∀ x ∈ B,ltK key x.key=true) : up_ (A ++ (l ++ B)) key=up_ l key ++ B:=by
 rw [up_app,up_app,up_none (A:=A) fun x hx => ltK_asymm _ _ (hA x hx),up_all hB,List.nil_append]
theorem rise_parts (hr : RiseC L) (key : KeyB) : lo_ L key=L.take (findI L key)/\(keyAt L (findI L key) key=false->up_ L key=L.drop (findI L key))/\(∀ c0,L[findI L key]?=some c0->c0.key=key->up_ L key=L.drop (findI L key + 1)):=by
 have h1 : ∀ x ∈ L.take (findI L key),ltK x.key key=true:=fun x hx => by
   obtain ⟨j,hj⟩:=List.mem_iff_getElem?.1 hx
   rw [List.getElem?_take] at hj
   split at hj
   · exact findI_below L key j (by assumption) x hj
   · cases hj
 have h2:=findI_at L key
 have hr2:=hr
 rw [<- List.take_append_drop (findI L key) L] at hr2
 have hd:=hr2.right
 have hle:=findI_le L key
 have hge : ∀ x ∈ L.drop (findI L key),ltK x.key key=false:=fun x hx => by
   rcases Nat.lt_or_ge (findI L key) L.length with hlt | hge
   · have e := List.drop_eq_getElem_cons hlt
     have h3:=h2 _ (List.getElem?_eq_getElem hlt)
     rw [e] at hx hd
     rcases List.mem_cons.1 hx with rfl | hx
     · exact h3
     · exact le_ltK _ _ _ h3 (ltK_asymm _ _ (hd.1 x hx))
   · rw [List.drop_of_length_le hge] at hx; cases hx
 have hlo : lo_ L key=L.take (findI L key):=by
   conv => lhs; rw [<- List.take_append_drop (findI L key) L]
   rw [lo_app,lo_all h1,lo_none hge,List.append_nil]
 have hup : up_ L key=up_ (L.drop (findI L key)) key:=by
   conv => lhs; rw [<- List.take_append_drop (findI L key) L]
   rw [up_app,up_none (fun x hx => ltK_asymm _ _ (h1 x hx)),List.nil_append]
 refine ⟨hlo,fun hk => ?_,fun c0 hc hk => ?_⟩
 · rw [hup]
   refine up_all fun x hx => ?_
   cases hlt : ltK key x.key with
   | true => rfl
   | false =>
     exfalso
     have he:=ltK_total _ _ hlt (hge x hx)
     rcases Nat.lt_or_ge (findI L key) L.length with hlt2 | hge2
     · have e := List.drop_eq_getElem_cons hlt2
       unfold keyAt at hk
       rw [List.getElem?_eq_getElem hlt2] at hk
       rw [e] at hx hd
       have hne : L[findI L key].key ≠ key:=by simpa using hk
       rcases List.mem_cons.1 hx with rfl | hx
       · exact hne he.symm
       · have h4 := hd.1 x hx
         rw [<- he] at h4
         rw [h2 _ (List.getElem?_eq_getElem hlt2)] at h4
         cases h4
     · rw [List.drop_of_length_le hge2] at hx; cases hx
 · rw [hup]
   obtain ⟨hlt2,e0⟩:=List.getElem?_eq_some_iff.1 hc
   rw [List.drop_eq_getElem_cons hlt2,e0] at hd ⊢
   have : up_ (c0 :: L.drop (findI L key + 1)) key=up_ (L.drop (findI L key + 1)) key:=by
     unfold up_
     rw [List.filter_cons_of_neg (by rw [hk,ltK_irrefl]; decide)]
   rw [this]
   refine up_all fun x hx => ?_
   rw [<- hk]; exact hd.1 x hx
theorem RiseC.filter {L : List CellP} (h : RiseC L) (p : CellP->Bool) : RiseC (L.filter p):=by
 induction L with
 | nil => trivial
 | cons a r ih =>
   rw [List.filter_cons]
   split
   · exact ⟨fun d hd => h.1 d (List.mem_filter.1 hd).1,ih h.2⟩
   · exact ih h.2
theorem RiseC.ins {c : CellP} (h : RiseC L) : RiseC (insF c L):=by
 refine (h.filter _).append (b:=c :: up_ L c.key) ⟨fun d hd => (List.mem_filter.1 hd).2,h.filter _⟩ fun x hx y hy => ?_
 have h1:=(List.mem_filter.1 hx).2
 rcases List.mem_cons.1 hy with rfl | hy
 · exact h1
 · exact ltK_trans _ _ _ h1 (List.mem_filter.1 hy).2
theorem RiseC.del {key : KeyB} (h : RiseC L) : RiseC (delF key L) :=
 (h.filter _).append (h.filter _) fun x hx y hy => ltK_trans _ _ _ (List.mem_filter.1 hx).2 (List.mem_filter.1 hy).2
theorem mem_insF {c x : CellP} (h : x ∈ insF c L) : x=c \/ x ∈ L:=by
 rcases List.mem_append.1 h with h | h
 · exact .inr (List.mem_filter.1 h).1
 · rcases List.mem_cons.1 h with h | h
   · exact .inl h
   · exact .inr (List.mem_filter.1 h).1
theorem mem_delF {x : CellP} (h : x ∈ delF key L) : x ∈ L:=by
 rcases List.mem_append.1 h with h | h
 · exact (List.mem_filter.1 h).1
 · exact (List.mem_filter.1 h).1
end
theorem size_loup (leaf : Bool) (L : List CellP) (key : KeyB) : cellsZ leaf (lo_ L key) + cellsZ leaf (up_ L key)<=cellsZ leaf L:=by
 induction L with
 | nil => exact Nat.le_refl _
 | cons a r ih =>
   unfold lo_ up_ at *
   rw [List.filter_cons,List.filter_cons,cellsZ]
   by_cases h : ltK a.key key=true
   · rw [if_pos h,if_neg (by rw [ltK_asymm _ _ h]; decide),cellsZ]; omega
   · rw [if_neg h]
     split
     · rw [cellsZ]; omega
     · omega
theorem leaf_right {n n1 : NodeP} (hf : n.leaf=true) (hr : RightP n) (hf1 : n1.leaf=true) (hk1 : n1.kids=[]) (hm : ∀ c ∈ n1.cells,(c ∈ n.cells \/ (CellOk c/\1<=c.key.length/\c.key.length<=120))) (hri : RiseC n1.cells) (hlen : n1.cells.length < 65536) : RightP n1:=by
 refine ⟨fun _ => hk1,fun e => (by rw [hf1] at e; cases e),hlen,fun c hc => ?_,hri,fun c hc => ?_,fun k hk => (by rw [hk1] at hk; cases hk)⟩
 · rcases hm c hc with h | h
   · exact hr.keys c h
   · exact h.2
 · rw [if_pos hf1]
   rcases hm c hc with h | h
   · have:=hr.vals c h; rw [if_pos hf] at this; exact this
   · exact h.1
theorem findP_leaf (n : NodeP) (key : KeyB) (hf : n.leaf=true) : findP n key=(findI n.cells key,keyAt n.cells (findI n.cells key) key):=by
 unfold findP
 cases h : keyAt n.cells (findI n.cells key) key with
 | true => rw [if_pos rfl,if_pos hf]
 | false => rw [if_neg (by decide)]
theorem ins_size {c : CellP} {n : NodeP} (hf : n.leaf=true) (hz : sizeP n<=508) (hk : c.key.length<=120) (hc : CellOk c) : sizeP ⟨true,insF c n.cells,[]⟩<=760/\(insF c n.cells).length < 65536:=by
 have h1:=size_loup true n.cells c.key
 have h2:=cellZ_leaf hk hc
 have h3 : sizeP n=3 + cellsZ true n.cells:=by unfold sizeP; rw [hf]; rfl
 have h4 : sizeP ⟨true,insF c n.cells,[]⟩=3 + cellsZ true (insF c n.cells):=rfl
 have h5 : cellsZ true (insF c n.cells)=cellsZ true (lo_ n.cells c.key) + (cellZ true c + cellsZ true (up_ n.cells c.key)):=by unfold insF; rw [cellsZ_append,cellsZ]
 have h6:=size_cells ⟨true,insF c n.cells,[]⟩
 have h7 : 3 * (insF c n.cells).length + 3<=sizeP ⟨true,insF c n.cells,[]⟩:=h6
 exact ⟨by omega,by omega⟩
theorem put_new_law {st : PgS} {c : CellP} (hc : CellOk c) (h1 : 1<=c.key.length) (h2 : c.key.length<=120) : OpLaw (putOp c) c.key (insF c) (fun L => ∀ x ∈ L,x.key ≠ c.key) st []:=by
 refine ⟨fun A l B hA hB => ?_,fun A l B hA hB hp x hx => hp x (by simp [hx]),fun n fl U hf hr hz hp hI => ?_,fun lo hi l hk hl x hx => ?_⟩
 · unfold insF
   rw [lo_mid hA hB,up_mid hA hB,List.append_assoc,List.append_assoc]; rfl
 · have hfp := findP_leaf n c.key hf
   have hka : keyAt n.cells (findI n.cells c.key) c.key=false:=by
     unfold keyAt
     split
     · rename_i d hd
       have:=hp d (List.mem_of_getElem? hd)
       simpa using this
     · rfl
   obtain ⟨e1,e2,_⟩:=rise_parts hr.rise c.key
   have e3 : insAt n.cells (findI n.cells c.key) c=insF c n.cells:=by unfold insAt insF; rw [e1,e2 hka]
   have hz2:=ins_size hf hz h2 hc
   have hn1 : (⟨n.leaf,insAt n.cells (findI n.cells c.key) c,n.kids⟩ : NodeP)=⟨true,insF c n.cells,[]⟩:=by rw [e3,hf,hr.kidsLeaf hf]
   refine ⟨st,⟨true,insF c n.cells,[]⟩,fl,?_,by simpa using hI,Same.refl _ _,rfl,rfl,rfl,leaf_right hf hr rfl rfl (fun d hd => ?_) hr.rise.ins hz2.2,hz2.1⟩
   · rw [hfp,hka]; exact .inl ⟨rfl,rfl,hn1.symm⟩
   · rcases mem_insF hd with rfl | h
     · exact .inr ⟨hc,h1,h2⟩
     · exact .inl h
 · rcases mem_insF hx with rfl | h
   · exact hk
   · exact hl x h
theorem key_stands {L : List CellP} {old : CellP} (hr : RiseC L) (hm : old ∈ L) : L[findI L old.key]?=some old/\keyAt L (findI L old.key) old.key=true:=by
 obtain ⟨j,hj⟩:=List.mem_iff_getElem?.1 hm
 have h1 : ¬ j < findI L old.key:=fun h => by
   have:=findI_below L old.key j h old hj
   rw [ltK_irrefl] at this; cases this
 have hjl:=(List.getElem?_eq_some_iff.1 hj).1
 have hle : findI L old.key=j:=by
   rcases Nat.lt_or_ge (findI L old.key) j with h | h
   · have hlt : findI L old.key < L.length := by omega
     have h2:=findI_at L old.key _ (List.getElem?_eq_getElem hlt)
     have h3:=hr.at_ h (List.getElem?_eq_getElem hlt) hj
     rw [h3] at h2; cases h2
   · omega
 rw [hle]
 refine ⟨hj,?_⟩
 unfold keyAt
 rw [hj]
 simp
theorem put_old_law {st : PgS} {c old : CellP} {b : List UInt8} {O : List Nat} (hc : CellOk c) (h1 : 1<=c.key.length) (h2 : c.key.length<=120) (ho : OvR st old b O) (hk : old.key=c.key) : OpLaw (putOp c) c.key (insF c) (fun L => old ∈ L) st O:=by
 refine ⟨fun A l B hA hB => ?_,fun A l B hA hB hp => ?_,fun n fl U hf hr hz hp hI => ?_,fun lo hi l hk hl x hx => ?_⟩
 · unfold insF
   rw [lo_mid hA hB,up_mid hA hB,List.append_assoc,List.append_assoc]; rfl
 · have hp2 : old ∈ A \/ old ∈ l \/ old ∈ B := by simpa using hp
   rcases hp2 with h | h | h
   · have:=hA old h; rw [hk,ltK_irrefl] at this; cases this
   · exact h
   · have:=hB old h; rw [hk,ltK_irrefl] at this; cases this
 · have hfp := findP_leaf n c.key hf
   obtain ⟨hs1,hs2⟩:=key_stands hr.rise hp
   rw [hk] at hs1 hs2
   obtain ⟨e1,_,e2⟩:=rise_parts hr.rise c.key
   have hlt:=(List.getElem?_eq_some_iff.1 hs1).1
   have e3 : n.cells.set (findI n.cells c.key) c=insF c n.cells:=by unfold insF; rw [e1,e2 old hs1 hk,List.set_eq_take_append_cons_drop,if_pos hlt]
   have hz2:=ins_size hf hz h2 hc
   have hn1 : (⟨n.leaf,n.cells.set (findI n.cells c.key) c,n.kids⟩ : NodeP)=⟨true,insF c n.cells,[]⟩:=by rw [e3,hf,hr.kidsLeaf hf]
   obtain ⟨st1,fl1,hd,i1,s1,m1⟩:=drop_law ho hI
   refine ⟨st1,⟨true,insF c n.cells,[]⟩,fl1,?_,i1,s1,m1,rfl,rfl,leaf_right hf hr rfl rfl (fun d hd => ?_) hr.rise.ins hz2.2,hz2.1⟩
   · rw [hfp,hs2]; exact .inr ⟨rfl,old,hs1,hd,hn1.symm⟩
   · rcases mem_insF hd with rfl | h
     · exact .inr ⟨hc,h1,h2⟩
     · exact .inl h
 · rcases mem_insF hx with rfl | h
   · exact hk
   · exact hl x h
theorem del_law {st : PgS} {old : CellP} {b : List UInt8} {O : List Nat} (ho : OvR st old b O) : OpLaw delOp old.key (delF old.key) (fun L => old ∈ L) st O:=by
 refine ⟨fun A l B hA hB => ?_,fun A l B hA hB hp => ?_,fun n fl U hf hr hz hp hI => ?_,fun lo hi l hk hl x hx => hl x (mem_delF hx)⟩
 · unfold delF
   rw [lo_mid hA hB,up_mid hA hB,List.append_assoc,List.append_assoc]
 · have hp2 : old ∈ A \/ old ∈ l \/ old ∈ B := by simpa using hp
   rcases hp2 with h | h | h
   · have:=hA old h; rw [ltK_irrefl] at this; cases this
   · exact h
   · have:=hB old h; rw [ltK_irrefl] at this; cases this
 · have hfp := findP_leaf n old.key hf
   obtain ⟨hs1,hs2⟩:=key_stands hr.rise hp
   obtain ⟨e1,_,e2⟩:=rise_parts hr.rise old.key
   have e3 : n.cells.eraseIdx (findI n.cells old.key)=delF old.key n.cells:=by unfold delF; rw [e1,e2 old hs1 rfl,List.eraseIdx_eq_take_drop_succ]
   have hn1 : (⟨n.leaf,n.cells.eraseIdx (findI n.cells old.key),n.kids⟩ : NodeP)=⟨true,delF old.key n.cells,[]⟩:=by rw [e3,hf,hr.kidsLeaf hf]
   obtain ⟨st1,fl1,hd,i1,s1,m1⟩:=drop_law ho hI
   have hz1 : sizeP ⟨true,delF old.key n.cells,[]⟩<=760/\(delF old.key n.cells).length < 65536:=by
     have h1:=size_loup true n.cells old.key
     have h3 : sizeP n=3 + cellsZ true n.cells:=by unfold sizeP; rw [hf]; rfl
     have h4 : sizeP ⟨true,delF old.key n.cells,[]⟩=3 + cellsZ true (delF old.key n.cells):=rfl
     have h5 : cellsZ true (delF old.key n.cells)=cellsZ true (lo_ n.cells old.key) + cellsZ true (up_ n.cells old.key):=by unfold delF; rw [cellsZ_append]
     have h7 : 3 * (delF old.key n.cells).length + 3<=sizeP ⟨true,delF old.key n.cells,[]⟩:=size_cells ⟨true,delF old.key n.cells,[]⟩
     exact ⟨by omega,by omega⟩
   refine ⟨st1,⟨true,delF old.key n.cells,[]⟩,fl1,?_,i1,s1,m1,rfl,rfl,leaf_right hf hr rfl rfl (fun d hd => .inl (mem_delF hd)) hr.rise.del hz1.2,hz1.1⟩
   rw [hfp]; exact ⟨old,hs1,hd,hn1.symm⟩
abbrev KV:=KeyB × List UInt8
inductive ValsR (st : PgS) : List CellP->List KV->List Nat->Prop
 | nil : ValsR st [] [] []
 | cons (c : CellP) (L : List CellP) (b : List UInt8) (kv : List KV) (ps O : List Nat) (h : OvR st c b ps) (hr : ValsR st L kv O) : ValsR st (c :: L) ((c.key,b) :: kv) (ps ++ O)
section
variable {st st' : PgS} {L A B : List CellP} {kv : List KV} {O : List Nat}
theorem ValsR.frame (h : ValsR st L kv O) (hm : st.many<=st'.many) (hp : ∀ x ∈ O,st'.page x=st.page x) : ValsR st' L kv O:=by
 induction h with
 | nil => exact .nil
 | cons c L b kv ps O h hr ih => exact .cons c L b kv ps O (h.frame hm fun x hx => hp x (List.mem_append_left _ hx)) (ih fun x hx => hp x (List.mem_append_right _ hx))
theorem ValsR.keys (h : ValsR st L kv O) : kv.map (·.1)=L.map (·.key):=by
 induction h with
 | nil => rfl
 | cons c L b kv ps O h hr ih => rw [List.map_cons,List.map_cons,ih]
theorem ValsR.len (h : ValsR st L kv O) : kv.length=L.length:=by have:=congrArg List.length h.keys; simpa using this
theorem ValsR.app {kv2 : List KV} {O2 : List Nat} (h : ValsR st A kv O) (h2 : ValsR st B kv2 O2) : ValsR st (A ++ B) (kv ++ kv2) (O ++ O2):=by
 induction h with
 | nil => exact h2
 | cons c L b kv ps O h hr ih => rw [List.cons_append,List.cons_append,List.append_assoc]; exact .cons c _ b _ ps _ h ih
theorem ValsR.split : ∀ {A B : List CellP} {kv : List KV} {O : List Nat},ValsR st (A ++ B) kv O->∃ kvA kvB OA OB,kv=kvA ++ kvB/\O=OA ++ OB/\ValsR st A kvA OA/\ValsR st B kvB OB
 | [],B,kv,O,h => ⟨[],kv,[],O,rfl,rfl,.nil,h⟩
 | a :: A, B, _, _, h => by
   rw [List.cons_append] at h
   cases h with
   | cons _ _ b kv ps O h hr =>
     obtain ⟨kvA,kvB,OA,OB,rfl,rfl,h1,h2⟩:=ValsR.split hr
     exact ⟨(a.key,b) :: kvA,kvB,ps ++ OA,OB,rfl,(List.append_assoc ..).symm,.cons a A b kvA ps OA h h1,h2⟩
end
def loKV (kv : List KV) (key : KeyB) : List KV:=kv.filter fun p => ltK p.1 key
def upKV (kv : List KV) (key : KeyB) : List KV:=kv.filter fun p => ltK key p.1
def insKV (key : KeyB) (b : List UInt8) (kv : List KV) : List KV:=loKV kv key ++ (key,b) :: upKV kv key
def delKV (key : KeyB) (kv : List KV) : List KV:=loKV kv key ++ upKV kv key
theorem keys_all {L : List CellP} {kv : List KV} (hk : kv.map (·.1)=L.map (·.key)) {p : KeyB->Prop} (h : ∀ x ∈ L,p x.key) : ∀ q ∈ kv,p q.1:=by
 intro q hq
 have : q.1 ∈ L.map (·.key):=by rw [<- hk]; exact List.mem_map.2 ⟨q,hq,rfl⟩
 obtain ⟨x,hx,e⟩:=List.mem_map.1 this
 rw [<- e]; exact h x hx
theorem loKV_app {A B : List KV} {key : KeyB} (hA : ∀ q ∈ A,ltK q.1 key=true) (hB : ∀ q ∈ B,ltK q.1 key=false) : loKV (A ++ B) key=A:=by
 unfold loKV
 rw [List.filter_append,List.filter_eq_self.2 hA,List.filter_eq_nil_iff.2 fun q hq => by rw [hB q hq]; decide,List.append_nil]
theorem upKV_app {A B : List KV} {key : KeyB} (hA : ∀ q ∈ A,ltK key q.1=false) (hB : ∀ q ∈ B,ltK key q.1=true) : upKV (A ++ B) key=B:=by
 unfold upKV
 rw [List.filter_append,List.filter_eq_self.2 hB,List.filter_eq_nil_iff.2 fun q hq => by rw [hA q hq]; decide,List.nil_append]
theorem mem_lo {L : List CellP} {key : KeyB} {x : CellP} (h : x ∈ lo_ L key) : ltK x.key key=true:=(List.mem_filter.1 h).2
theorem mem_up {L : List CellP} {key : KeyB} {x : CellP} (h : x ∈ up_ L key) : ltK key x.key=true:=(List.mem_filter.1 h).2
theorem ValsR.part_new {st : PgS} {L : List CellP} {kv : List KV} {O : List Nat} (h : ValsR st L kv O) (hr : RiseC L) (key : KeyB) (hn : ∀ x ∈ L,x.key ≠ key) :
   ∃ OA OB,O=OA ++ OB/\ValsR st (lo_ L key) (loKV kv key) OA/\ValsR st (up_ L key) (upKV kv key) OB:=by
 have hka : keyAt L (findI L key) key=false:=by
   unfold keyAt
   split
   · rename_i d hd
     have:=hn d (List.mem_of_getElem? hd)
     simpa using this
   · rfl
 obtain ⟨e1,e2,_⟩:=rise_parts hr key
 have e2:=e2 hka
 have hL : L=lo_ L key ++ up_ L key:=by rw [e1,e2,List.take_append_drop]
 have h0:=h
 rw [hL] at h0
 obtain ⟨kvA,kvB,OA,OB,rfl,rfl,h1,h2⟩:=h0.split
 have k1 : ∀ q ∈ kvA,ltK q.1 key=true:=keys_all (p:=fun x => ltK x key=true) h1.keys fun x hx => mem_lo hx
 have k2 : ∀ q ∈ kvB,ltK key q.1=true:=keys_all (p:=fun x => ltK key x=true) h2.keys fun x hx => mem_up hx
 rw [loKV_app k1 fun q hq => ltK_asymm _ _ (k2 q hq),upKV_app (fun q hq => ltK_asymm _ _ (k1 q hq)) k2]
 exact ⟨OA,OB,rfl,h1,h2⟩
theorem ValsR.part_old {st : PgS} {L : List CellP} {kv : List KV} {O : List Nat} (h : ValsR st L kv O) (hr : RiseC L) (old : CellP) (ho : old ∈ L) :
   ∃ OA po OB b,O=OA ++ (po ++ OB)/\OvR st old b po/\kv=loKV kv old.key ++ (old.key,b) :: upKV kv old.key/\ValsR st (lo_ L old.key) (loKV kv old.key) OA/\ValsR st (up_ L old.key) (upKV kv old.key) OB:=by
 obtain ⟨hs1,hs2⟩:=key_stands hr ho
 obtain ⟨e1,_,e2⟩:=rise_parts hr old.key
 have e2:=e2 old hs1 rfl
 have hL : L=lo_ L old.key ++ old :: up_ L old.key:=by rw [e1,e2,<- drop_at _ _ _ hs1,List.take_append_drop]
 have h0:=h
 rw [hL] at h0
 obtain ⟨kvA,kvB,OA,OB,rfl,rfl,h1,h2⟩:=h0.split
 cases h2 with
 | cons _ _ b kvB ps OB hv h2 =>
 have k1 : ∀ q ∈ kvA,ltK q.1 old.key=true:=keys_all (p:=fun x => ltK x old.key=true) h1.keys fun x hx => mem_lo hx
 have k2 : ∀ q ∈ kvB,ltK old.key q.1=true:=keys_all (p:=fun x => ltK old.key x=true) h2.keys fun x hx => mem_up hx
 have e3 : loKV (kvA ++ (old.key,b) :: kvB) old.key=kvA:=loKV_app k1 fun q hq => by
   rcases List.mem_cons.1 hq with rfl | hq
   · exact ltK_irrefl _
   · exact ltK_asymm _ _ (k2 q hq)
 have e4 : upKV (kvA ++ (old.key,b) :: kvB) old.key=kvB:=by
   have h9:=upKV_app (A:=kvA ++ [(old.key,b)]) (B:=kvB) (key:=old.key) (fun q hq => by
     rcases List.mem_append.1 hq with hq | hq
     · exact ltK_asymm _ _ (k1 q hq)
     · rw [List.mem_singleton.1 hq]; exact ltK_irrefl _) k2
   rw [List.append_assoc] at h9; exact h9
 rw [e3,e4]
 exact ⟨OA,ps,OB,b,rfl,hv,rfl,h1,h2⟩
def TreeKV (st : PgS) (k : Nat) (kv : List KV) (pages : List Nat) : Prop:=∃ L P O,TreeOf st k L P/\ValsR st L kv O/\pages=P ++ O
theorem TreeOf.frame {st st' : PgS} {k : Nat} {L : List CellP} {P : List Nat} (h : TreeOf st k L P) (hm : st.many<=st'.many) (hr : st'.roots k=st.roots k) (hp : ∀ x ∈ P,st'.page x=st.page x) : TreeOf st' k L P:=by
 rcases h with ⟨h1,h2,h3⟩ | ⟨h,ht⟩
 · exact .inl ⟨hr.trans h1,h2,h3⟩
 · exact .inr ⟨h,by rw [hr]; exact ht.frame hm hp⟩
theorem TreeKV.frame {st st' : PgS} {k : Nat} {kv : List KV} {pages : List Nat} (h : TreeKV st k kv pages) (hm : st.many<=st'.many) (hr : st'.roots k=st.roots k) (hp : ∀ x ∈ pages,st'.page x=st.page x) : TreeKV st' k kv pages:=by
 obtain ⟨L,P,O,h1,h2,rfl⟩:=h
 exact ⟨L,P,O,h1.frame hm hr fun x hx => hp x (List.mem_append_left _ hx),h2.frame hm fun x hx => hp x (List.mem_append_right _ hx),rfl⟩
theorem TreeOf.rise {st : PgS} {k : Nat} {L : List CellP} {P : List Nat} (h : TreeOf st k L P) : RiseC L:=by
 rcases h with ⟨_,rfl,_⟩ | ⟨h,ht⟩
 · trivial
 · exact ht.rise
theorem kids_many {T : KeyB->Option KeyB->Nat->List CellP->List Nat->Prop} {cs : List CellP} {ks : List Nat} {lo : KeyB} {hi : Option KeyB} {L : List CellP} {P : List Nat} (h : Kids T cs ks lo hi L P) (z : Nat) (hT : ∀ lo hi k l p,T lo hi k l p->z<=l.length) : z * (cs.length + 1)<=L.length:=by
 induction h with
 | one k lo hi L P h => simpa using hT _ _ _ _ _ h
 | more c cs k ks lo hi l p L P hb h hr ih =>
   have:=hT _ _ _ _ _ h
   rw [List.length_append,List.length_cons,Nat.mul_succ]
   omega
theorem TreeR.height {st : PgS} : ∀ {h m : Nat} {lo : KeyB} {hi : Option KeyB} {no : Nat} {L : List CellP} {P : List Nat},TreeR st h m lo hi no L P->7<=m->2 ^ h<=L.length
 | 0, m, _, _, _, _, _, ⟨n, hl, hz, ⟨hf, rfl, _⟩, _⟩, hm => by
   rcases Nat.eq_zero_or_pos n.cells.length with h0 | h0
   · have e := List.eq_nil_of_length_eq_zero h0
     have : sizeP n=3:=by unfold sizeP; rw [hf,e]; rfl
     omega
   · exact h0
 | h + 1, m, _, _, _, _, _, ⟨n, Q, hl, hz, ⟨hf, hK⟩, _⟩, hm => by
   have h1:=kids_many hK (2 ^ h) fun _ _ _ _ _ ht => TreeR.height ht (by omega)
   have h2 : 1<=n.cells.length:=by
     rcases Nat.eq_zero_or_pos n.cells.length with h0 | h0
     · have e := List.eq_nil_of_length_eq_zero h0
       have : sizeP n=6:=by unfold sizeP; rw [hf,e]; rfl
       omega
     · exact h0
   have h3 : 2 ^ h * 2<=2 ^ h * (n.cells.length + 1):=Nat.mul_le_mul_left _ (by omega)
   rw [Nat.pow_succ]
   omega
theorem pow_le_self (h : Nat) : h + 1<=2 ^ h:=Nat.lt_two_pow_self
theorem putOp_law {st : PgS} {L : List CellP} {kv : List KV} {O : List Nat} {c : CellP} {b : List UInt8} {ps : List Nat} (hV : ValsR st L kv O) (hr : RiseC L) (hc : CellOk c) (h1 : 1<=c.key.length) (h2 : c.key.length<=120) (hv : OvR st c b ps) :
   ∃ pre O1 O2,OpLaw (putOp c) c.key (insF c) pre st O1/\pre L/\O.Perm (O1 ++ O2)/\∃ OA OB,O2=OA ++ OB/\ValsR st (insF c L) (insKV c.key b kv) (OA ++ (ps ++ OB)):=by
 by_cases h : ∃ x ∈ L,x.key=c.key
 · obtain ⟨old, ho, hk⟩ := h
   obtain ⟨OA,po,OB,b0,rfl,h3,h4,h5,h6⟩:=hV.part_old hr old ho
   rw [hk] at h5 h6
   exact ⟨_,po,OA ++ OB,put_old_law hc h1 h2 h3 hk,ho,List.perm_iff_count.2 fun x => by simp only [List.count_append]; omega,OA,OB,rfl,h5.app (.cons c _ b _ ps _ hv h6)⟩
 · have hn : ∀ x ∈ L, x.key ≠ c.key := fun x hx e => h ⟨x, hx, e⟩
   obtain ⟨OA,OB,rfl,h5,h6⟩:=hV.part_new hr c.key hn
   exact ⟨_,[],OA ++ OB,put_new_law hc h1 h2,hn,by simp,OA,OB,rfl,h5.app (.cons c _ b _ ps _ hv h6)⟩
theorem put_tree {st : PgS} {fl pages U : List Nat} {k : Nat} {kv : List KV} (hI : Inv st fl (pages ++ U)) (hT : TreeKV st k kv pages) (key b : List UInt8) (h1 : 1<=key.length) (h2 : key.length<=120) (hb : b.length<=20000) (hm : st.many + 43 + kv.length<=65536) :
   ∃ st' fl' pages',PutR k st key b st'/\TreeKV st' k (insKV key b kv) pages'/\Inv st' fl' (pages' ++ U)/\SameK k U st st'/\st'.many<=st.many + 43 + kv.length:=by
 obtain ⟨st1,c,ps,fl1,hc,hck,hcok,hov,i1,s1,m1⟩:=cell_law hI key b hb (by omega)
 subst hck
 obtain ⟨L,P,O,hTo,hV,rfl⟩:=hT.frame s1.many (by rw [s1.roots]) fun x hx => s1.page x (by simp [hx])
 have hrise:=hTo.rise
 have hlen:=hV.len
 rcases hTo with ⟨h0,rfl,rfl⟩ | ⟨h,ht⟩
 · cases hV
   have i1' : Inv st1 fl1 (ps ++ U):=by simpa using i1
   obtain ⟨ca,fl2,i2,s2,m2,n2⟩:=i1'.alloc (by omega)
   have hR : RightP ⟨true,[c],[]⟩:=⟨fun _ => rfl,fun e => (by cases e),by simp,fun x hx => by rw [List.mem_singleton.1 hx]; exact ⟨h1,h2⟩,⟨fun d hd => (by cases hd),trivial⟩,fun x hx => by rw [List.mem_singleton.1 hx]; exact hcok,fun x hx => by cases hx⟩
   have hz : sizeP ⟨true,[c],[]⟩=3 + (cellZ true c + 0):=rfl
   have hz2:=cellZ_leaf h2 hcok
   have hz3 : 4<=cellZ true c:=by unfold cellZ; rw [if_pos rfl]; split <;> omega
   obtain ⟨c3,i3,s3,m3,l3⟩:=i2.save _ hR (by omega)
   have hlt:=(i3.has_ (.head _)).2
   refine ⟨_,fl2,allocN st1 :: ps,.first st1 c hc h0 ca c3 rfl,⟨[c],[allocN st1],ps,.inr ⟨0,?_⟩,?_,rfl⟩,i3.setRoot k hlt,?_,?_⟩
   · have e : (setRootS (saveS (allocS st1) (allocN st1) ⟨true, [c], []⟩) k (allocN st1)).roots k = allocN st1 := by show (if k = k then _ else _) = _; rw [if_pos rfl]
     rw [e]
     exact ⟨⟨true,[c],[]⟩,l3.frame (st:=saveS (allocS st1) (allocN st1) ⟨true,[c],[]⟩) (Nat.le_refl _) rfl,by omega,⟨rfl,rfl,fun x hx => ⟨ltK_nil _,fun t ht => by cases ht⟩⟩,rfl⟩
   · have h9 : ValsR st1 [c] (insKV c.key b []) (ps ++ []) := .cons c [] b [] ps [] hov .nil
     rw [List.append_nil] at h9
     refine ((h9.frame s2.many fun x hx => s2.page x (by simp [hx])).frame s3.many fun x hx => s3.page x (by simp [hx])).frame (st:=saveS (allocS st1) (allocN st1) ⟨true,[c],[]⟩) (Nat.le_refl _) fun x hx => rfl
   · exact ((((s1.mono fun x hx => by simp [hx]).trans (s2.mono fun x hx => List.mem_append_right _ hx) fun x hx => hx).trans (s3.mono fun x hx => List.mem_append_right _ hx) fun x hx => hx).toK k).trans (setRoot_same _ _ _ U) fun x hx => hx
   · show (saveS (allocS st1) (allocN st1) ⟨true, [c], []⟩).many <= _
     rw [m3]; omega
 · obtain ⟨pre, O1, O2, hop, hpre, hperm, OA, OB, rfl, hV2⟩ := putOp_law hV hrise hcok h1 h2 hov
   have hroot : st1.roots k ≠ 0:=by have:=ht.has.1; omega
   have hh : h + 1<=kv.length:=by rw [hlen]; exact Nat.le_trans (pow_le_self h) (ht.height (Nat.le_refl _))
   have iX : Inv st1 fl1 (P ++ (O1 ++ (OA ++ (ps ++ OB) ++ U))):=i1.perm (List.perm_iff_count.2 fun x => by
     have h9:=List.perm_iff_count.1 hperm x
     simp only [List.count_append] at h9 ⊢
     omega)
   obtain ⟨st2,o,fl2,hch,hla,s2,m2⟩:=change_law hop h 7 [] none (st1.roots k) L P fl1 _ ht (Nat.le_refl _) ⟨ltK_nil _,fun t ht => by cases ht⟩ hpre iX (by omega)
   obtain ⟨st3,fl3,P3,htop,hT3,i3,s3,m3⟩:=top_law (by rw [s2.roots]) hla (by omega)
   refine ⟨st3,fl3,P3 ++ (OA ++ (ps ++ OB)),.more st1 st2 c o hc hroot hch htop,⟨insF c L,P3,_,hT3,?_,rfl⟩,by rw [List.append_assoc]; exact i3,?_,by omega⟩
   · exact (hV2.frame s2.many fun x hx => s2.page x (List.mem_append_left _ hx)).frame s3.many fun x hx => s3.page x (List.mem_append_left _ hx)
   · exact ((((s1.mono fun x hx => by simp [hx]).trans (s2.mono fun x hx => List.mem_append_right _ hx) fun x hx => hx).toK k).trans (s3.mono fun x hx => List.mem_append_right _ hx) fun x hx => hx)
def DelR (k : Nat) (st : PgS) (key : KeyB) (st' : PgS) : Prop:=∃ st2 o,ChangeR delOp key st (st.roots k) st2 o/\TopR k st2 (st.roots k) o st'
theorem del_tree {st : PgS} {fl pages U : List Nat} {k : Nat} {kv : List KV} (hI : Inv st fl (pages ++ U)) (hT : TreeKV st k kv pages) (key : List UInt8) (hin : key ∈ kv.map (·.1)) (hm : st.many + 2 + kv.length<=65536) :
   ∃ st' fl' pages',DelR k st key st'/\TreeKV st' k (delKV key kv) pages'/\Inv st' fl' (pages' ++ U)/\SameK k U st st'/\st'.many<=st.many + 2 + kv.length:=by
 obtain ⟨L,P,O,hTo,hV,rfl⟩:=hT
 have hrise:=hTo.rise
 have hlen:=hV.len
 rcases hTo with ⟨h0,rfl,rfl⟩ | ⟨h,ht⟩
 · cases hV; simp at hin
 · rw [hV.keys] at hin
   obtain ⟨old,ho,rfl⟩:=List.mem_map.1 hin
   obtain ⟨OA,po,OB,b0,rfl,h3,h4,h5,h6⟩:=hV.part_old hrise old ho
   have hV2 : ValsR st (delF old.key L) (delKV old.key kv) (OA ++ OB):=h5.app h6
   have hh : h + 1<=kv.length:=by rw [hlen]; exact Nat.le_trans (pow_le_self h) (ht.height (Nat.le_refl _))
   have iX : Inv st fl (P ++ (po ++ ((OA ++ OB) ++ U))):=hI.perm (List.perm_iff_count.2 fun x => by simp only [List.count_append]; omega)
   obtain ⟨st2,o,fl2,hch,hla,s2,m2⟩:=change_law (del_law h3) h 7 [] none (st.roots k) L P fl _ ht (Nat.le_refl _) ⟨ltK_nil _,fun t ht => by cases ht⟩ ho iX (by omega)
   obtain ⟨st3,fl3,P3,htop,hT3,i3,s3,m3⟩:=top_law (by rw [s2.roots]) hla (by omega)
   refine ⟨st3,fl3,P3 ++ (OA ++ OB),⟨st2,o,hch,htop⟩,⟨delF old.key L,P3,_,hT3,?_,rfl⟩,by rw [List.append_assoc]; exact i3,?_,by omega⟩
   · exact (hV2.frame s2.many fun x hx => s2.page x (List.mem_append_left _ hx)).frame s3.many fun x hx => s3.page x (List.mem_append_left _ hx)
   · exact ((s2.mono fun x hx => List.mem_append_right _ hx).toK k).trans (s3.mono fun x hx => List.mem_append_right _ hx) fun x hx => hx
end Go.Proofs.YtiiljlmeililbaaGreatDoor
