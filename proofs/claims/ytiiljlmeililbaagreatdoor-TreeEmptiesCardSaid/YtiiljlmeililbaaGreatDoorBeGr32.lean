/-
  Contracts of Put's closure at a key that is there, and of Delete's closure.
-/
import Derived.Test.YtiiljlmeililbaaGreatDoorBeGr31
import Derived.Test.YtiiljlmeililbaaGreatDoorBeGr24
import Derived.Test.YtiiljlmeililbaaGreatDoorBeGr26
import Derived.Test.YtiiljlmeililbaaGreatDoorBeGr27
import Derived.Test.YtiiljlmeililbaaGreatDoorBeGr25
import Derived.Test.YtiiljlmeililbaaGreatDoorBeGr5
namespace Go.Proofs.YtiiljlmeililbaaGreatDoor
set_option linter.unusedVariables false
set_option maxRecDepth 100000
open Go.RowKit
theorem flatten_row4 (rows : List (List Value)) (h4 : ∀ r ∈ rows,r.length=4) (i : Nat) (x0 x1 x2 x3 : Value) : (rows.set i [x0,x1,x2,x3]).flatten=(((rows.flatten.set (i * 4) x0).set (i * 4 + 1) x1).set (i * 4 + 2) x2).set (i * 4 + 3) x3:=by
 induction rows generalizing i with
 | nil => simp
 | cons r t ih =>
   have hr : r.length=4:=h4 r (.head _)
   cases i with
   | zero =>
     match r,hr with
     | [a,b,c,d],_ => simp
   | succ i =>
     simp only [List.set_cons_succ,List.flatten_cons]
     rw [ih (fun r hr => h4 r (.tail _ hr))]
     have e : ∀ j,(i + 1) * 4 + j=r.length + (i * 4 + j):=fun j => by omega
     have e0 : (i + 1) * 4=r.length + i * 4:=by omega
     rw [e0]
     rw [show r.length + i * 4 + 1=r.length + (i * 4 + 1) from by omega,show r.length + i * 4 + 2=r.length + (i * 4 + 2) from by omega,show r.length + i * 4 + 3=r.length + (i * 4 + 3) from by omega]
     rw [List.set_append_right _ _ (by omega),List.set_append_right _ _ (by omega),List.set_append_right _ _ (by omega),List.set_append_right _ _ (by omega)]
     simp only [Nat.add_sub_cancel_left]
section
variable {F : Nat->Prop} {w w' : World} {B : Nat} {cv kv : Value} {n : NodeP} {rows : List (List Value)} {cs : List CellP}
theorem CellsW.set (h : CellsW F w rows cs) {vs : List Value} {c : CellP} (hv : CellV (byteOf F w) w vs c) (i : Nat) : CellsW F w (rows.set i vs) (cs.set i c):=by
 intro k vs' c' e1 e2
 rw [List.getElem?_set] at e1 e2
 split at e1
 · rename_i hk
   subst hk
   rw [if_pos rfl] at e2
   split at e1
   · split at e2
     · injection e1 with e1; injection e2 with e2
       subst e1; subst e2; exact hv
     · cases e2
   · cases e1
 · rename_i hk
   rw [if_neg hk] at e2
   exact h k vs' c' e1 e2
def set4 (w : World) (g o : Nat) (x0 x1 x2 x3 : Value) : World:=(((w.setCell ⟨g,o,none⟩ x0).setCell ⟨g,o + 1,none⟩ x1).setCell ⟨g,o + 2,none⟩ x2).setCell ⟨g,o + 3,none⟩ x3
theorem set4_only (w : World) (g o : Nat) (x0 x1 x2 x3 : Value) : Only (fun k => k=g) w (set4 w g o x0 x1 x2 x3) :=
 ((((Only.refl (fun k => k=g) w).setCell (p:=⟨g,o,none⟩) (fun _ => rfl) x0).setCell (p:=⟨g,o + 1,none⟩) (fun _ => rfl) x1).setCell (p:=⟨g,o + 2,none⟩) (fun _ => rfl) x2).setCell (p:=⟨g,o + 3,none⟩) (fun _ => rfl) x3
theorem NodeU.setC {g N cc : Nat} (h : NodeU F w B (.slice (some ⟨g,0,none⟩) N cc) kv n) (i : Nat) {c : CellP} {x0 x1 x2 x3 : Value} (hv : CellV (byteOf F w) w [x0,x1,x2,x3] c) :
   NodeU F (set4 w g (i * 4) x0 x1 x2 x3) B (.slice (some ⟨g,0,none⟩) N cc) kv ⟨n.leaf,n.cells.set i c,n.kids⟩:=by
 obtain ⟨rows,h1,h2,h3⟩:=h.rows
 have hO:=set4_only w g (i * 4) x0 x1 x2 x3
 have hg : (Value.slice (some ⟨g,0,none⟩) N cc).ownBlock=some g:=rfl
 have hlen : n.cells.length=N:=by
   rcases h2.2 with ⟨e9,_⟩ | ⟨g',cap,cur,e9,_⟩
   · cases e9
   · injection e9 with _ e9 _; exact e9.symm
 refine ⟨⟨rows.set i [x0,x1,x2,x3],by simp [h1],?_,(h3.set hv i).keepW hO fun k cs hk hb => by subst hk; exact own_blk_ne h2 hb (by decide) hg⟩,hO.row h.kids fun k hk e => by subst e; exact own_ne h2 h.kids (by decide) _ hg hk,h.rF,h.kF⟩
 show World.ownsRow _ B 83 4 _ (n.cells.set i c).length _
 rw [List.length_set,flatten_row4 _ (h3.four h1),hlen]
 rw [hlen] at h2
 exact own_store (own_store (own_store (own_store h2 x0) x1) x2) x3
theorem NodeU.cell4 {g N cc : Nat} (h : NodeU F w B (.slice (some ⟨g,0,none⟩) N cc) kv n) {i : Nat} {c : CellP} (hi : n.cells[i]?=some c) :
   ∃ kA kc vA vc, w.cell? ⟨g, i * 4, none⟩ = some (.slice kA c.key.length kc) /\ w.cell? ⟨g, i * 4 + 1, none⟩ = some (.slice vA c.val.length vc) /\ w.cell? ⟨g, i * 4 + 2, none⟩ = some (.int .i64 (c.over : Int)) /\ w.cell? ⟨g, i * 4 + 3, none⟩ = some (.int .i64 (c.long : Int)) /\
     w.frozen? ⟨g,i * 4,none⟩=false/\w.frozen? ⟨g,i * 4 + 1,none⟩=false/\w.frozen? ⟨g,i * 4 + 2,none⟩=false/\w.frozen? ⟨g,i * 4 + 3,none⟩=false:=by
 obtain ⟨rows,h1,h2,h3⟩:=h.rows
 have hil : i < rows.length:=by rw [h1]; exact (List.getElem?_eq_some_iff.1 hi).1
 obtain ⟨kA,kc,vA,vc,e,_⟩:=h3 i rows[i] c (List.getElem?_eq_getElem hil) hi
 have hat : ∀ j u,rows[i][j]?=some u->w.cell? ⟨g,i * 4 + j,none⟩=some u:=fun j u hu => by
   have h9:=h2.cells (g:=g) rfl _ u (flatten_at4 (h3.four h1) i j _ u (List.getElem?_eq_getElem hil) hu)
   rw [Addr.add_lit,Nat.zero_add] at h9
   exact h9
 have hfz : ∀ j,w.frozen? ⟨g,j,none⟩=false:=fun j => by
   rcases h2.2 with ⟨e9,_⟩ | ⟨g',cap,cur,e9,_,hh,_⟩
   · cases e9
   · injection e9 with e9 _ _
     injection e9 with e9
     injection e9 with e9 _
     subst e9
     exact (show Blk w g 83 cur from hh).frozen j
 exact ⟨kA,kc,vA,vc,hat 0 _ (by rw [e]; rfl),hat 1 _ (by rw [e]; rfl),hat 2 _ (by rw [e]; rfl),hat 3 _ (by rw [e]; rfl),hfz _,hfz _,hfz _,hfz _⟩
theorem NodeU.delC (h : NodeU F w B cv kv n) {cv' : Value} {i : Nat} (hi : i < n.cells.length) (hg : w.grownBy w' cv.ownBlock) (rows : List (List Value)) (h1 : rows.length=n.cells.length) (h2 : w.ownsRow B 83 4 cv n.cells.length rows.flatten) (h3 : CellsW F w rows n.cells)
   (hown : w'.ownsRow B 83 4 cv' (n.cells.length - 1) (rows.flatten.take (i * 4) ++ rows.flatten.drop ((i + 1) * 4))) (hob : cv'.ownBlock=cv.ownBlock) : NodeU F w' B cv' kv ⟨n.leaf,n.cells.eraseIdx i,n.kids⟩:=by
 have hO : Only (fun j => cv.ownBlock=some j) w w':=(Only.refl _ w).grown hg (fun k hk _ => hk)
 have e1 : (n.cells.eraseIdx i).length=n.cells.length - 1:=by rw [List.length_eraseIdx,if_pos hi]
 have e3 : (rows.eraseIdx i).length=n.cells.length - 1:=by rw [List.length_eraseIdx,h1,if_pos hi]
 rw [<- flatten_erase4 _ _ (h3.four h1),<- e1] at hown
 exact ⟨⟨rows.eraseIdx i,e3.trans e1.symm,hown,(h3.erase i).keepW hO fun k cs hk hb => own_blk_ne h2 hb (by decide) hk⟩,hO.row h.kids fun k hk => own_ne h.kids h2 (by decide) k hk,fun k hk => h.rF k (hob.symm.trans hk),h.kF⟩
end
set_option maxHeartbeats 2000000 in
theorem put1_old (w : World) (F : Nat->Prop) (gp gt k : Nat) (st st1 : PgS) (hP : PgAt w F gp st) (ht : TreeAt w F gt gp k) (ho : st.ok) (gn gc gx B B0 i : Nat) (cv kv : Value) (n : NodeP) (c old : CellP) (x0 x1 x2 x3 : Value) (hn : NodeW F w B cv kv n) (hb : Blk w gn 89 #[.bool n.leaf,cv,kv])
   (hc : Blk w gc 83 #[x0,x1,x2,x3]) (hx : Blk w gx 30 #[.pointer (some ⟨gt,0,none⟩)]) (hgxF : ¬ F gx) (hv : CellV (byteOf F w) w [x0,x1,x2,x3] c) (hi : n.cells[i]?=some old) (hd : DropR st old st1) (hlong : old.long<=20000) (hlen : n.cells.length<=100000) (hBn : B0<=gn) (hB0 : B0<=B) (hFn : ¬ F gn) (hcv : cv.ownBlock ≠ some gc) :
   Calls Tryz.prog 39 #[.pointer (some ⟨gn,0,none⟩),.int .i64 (i : Int),.bool true,.pointer (some ⟨gc,0,none⟩),.pointer (some ⟨gx,0,none⟩)] w (OpEndU F w gp gn B0 st1 ⟨n.leaf,n.cells.set i c,n.kids⟩):=by
 obtain ⟨A0,d0,A1,d1,l0,l1,u2,u3,rfl,rfl,rfl,rfl⟩ : ∃ A0 d0 A1 d1 l0 l1 u2 u3,x0=.slice A0 l0 d0/\x1=.slice A1 l1 d1/\x2=.int .i64 u2/\x3=.int .i64 u3:=by
   obtain ⟨kA,kc,vA,vc,e,_⟩:=hv
   injection e with e0 e; injection e with e1 e; injection e with e2 e; injection e with e3 e
   exact ⟨kA,kc,vA,vc,_,_,_,_,e0,e1,e2,e3⟩
 have hil:=(List.getElem?_eq_some_iff.1 hi).1
 obtain ⟨g,cc,rfl,hcc,hgB⟩ : ∃ g cc,cv=.slice (some ⟨g,0,none⟩) n.cells.length cc/\n.cells.length<=cc/\B<=g:=by
   obtain ⟨rows,h1,h2,h3⟩:=hn.rows
   rcases h2.2 with ⟨_,e⟩ | ⟨g,cap,cur,e,hb,_,hl,_⟩
   · have h9:=h2.1; rw [e] at h9; simp at h9; omega
   · exact ⟨g,cap,e,hl,hb⟩
 have hU:=hn.toU
 obtain ⟨kA,kc,vA,vc,e0,e1,e2,e3,q0,q1,q2,q3⟩:=hU.cell4 hi
 obtain ⟨N,hN⟩ : ∃ N,N=n.cells.length:=⟨_,rfl⟩
 obtain ⟨lf,hlf⟩ : ∃ lf,lf=n.leaf:=⟨_,rfl⟩
 obtain ⟨kl,hkl⟩ : ∃ kl,kl=old.key.length:=⟨_,rfl⟩
 obtain ⟨vl,hvl⟩ : ∃ vl,vl=old.val.length:=⟨_,rfl⟩
 obtain ⟨ov,hov⟩ : ∃ ov,ov=old.over:=⟨_,rfl⟩
 obtain ⟨lg,hlg⟩ : ∃ lg,lg=old.long:=⟨_,rfl⟩
 rw [<- hkl] at e0
 rw [<- hvl] at e1
 rw [<- hov] at e2
 rw [<- hlg] at e3
 rw [<- hlf] at hb
 rw [<- hN] at hb hU hil hcc hlen
 obtain ⟨o,hoo⟩ : ∃ o,o=Obj.cells #[.slice kA kl kc,.slice vA vl vc,.int .i64 (ov : Int),.int .i64 (lg : Int)] 83 (0,0):=⟨_,rfl⟩
 have hfin : Hid (∀ W,Only (fun _ => False) w W->∀ w',PgEnd F (set4 W g (i * 4) (.slice A0 l0 d0) (.slice A1 l1 d1) (.int .i64 u2) (.int .i64 u3)).drew gp st1 (.int .i64 0) (.returned (.int .i64 0)) w'->OpEndU F w gp gn B0 st1 ⟨n.leaf,n.cells.set i c,n.kids⟩ (.returned (.int .i64 0)) w'):=hide (by
   intro W hO w' ⟨_,F',hP',hE'⟩
   have hUW : NodeU F W B (.slice (some ⟨g,0,none⟩) N cc) kv n:=hU.only hO (fun _ h => h.elim)
   have hvW : CellV (byteOf F W) W [.slice A0 l0 d0,.slice A1 l1 d1,.int .i64 u2,.int .i64 u3] c:=hv.keepW hO (fun _ _ h => h.elim)
   have hS:=(hUW.setC i hvW).ev ((Ev.refl F _).drew)
   have hO4:=(set4_only W g (i * 4) (.slice A0 l0 d0) (.slice A1 l1 d1) (.int .i64 u2) (.int .i64 u3)).drew
   have hgn : gn ≠ g:=fun e => by
     obtain ⟨rows,_,h2,_⟩:=hU.rows
     subst e
     exact own_blk_ne h2 hb (by decide) rfl
   have hb4 : Blk (set4 W g (i * 4) (.slice A0 l0 d0) (.slice A1 l1 d1) (.int .i64 u2) (.int .i64 u3)).drew gn 89 #[.bool lf,.slice (some ⟨g,0,none⟩) N cc,kv]:=hO4.blk (hO.blk hb (fun h => h)) hgn
   have hsz : w.heap.size<=(set4 W g (i * 4) (.slice A0 l0 d0) (.slice A1 l1 d1) (.int .i64 u2) (.int .i64 u3)).drew.heap.size:=Nat.le_trans hO.size hO4.size
   refine ⟨rfl,F',B,.slice (some ⟨g,0,none⟩) N cc,kv,hP',?_,fun j hj => ?_,hS.ev hE',by rw [hlf] at hb4; exact hE'.blk hb4 hFn⟩
   · exact ((hO.mono (fun _ _ h => h.elim)).trans (hO4.mono fun j _ h => .inr (by subst h; omega)) (fun j hj h => h)).trans (hE'.only.mono fun j _ h => .inl h) (fun j hj h => h)
   · rcases hE'.grow j hj with h9 | h9
     · exact .inl h9
     · exact .inr (by omega))
 have hPW : Hid (∀ W,Only (fun _ => False) w W->PgAt (set4 W g (i * 4) (.slice A0 l0 d0) (.slice A1 l1 d1) (.int .i64 u2) (.int .i64 u3)).drew F gp st/\TreeAt (set4 W g (i * 4) (.slice A0 l0 d0) (.slice A1 l1 d1) (.int .i64 u2) (.int .i64 u3)).drew F gt gp k):=hide (by
   intro W hO
   have hO4:=(set4_only W g (i * 4) (.slice A0 l0 d0) (.slice A1 l1 d1) (.int .i64 u2) (.int .i64 u3)).drew
   have hgF : ¬ F g:=hU.rF g rfl
   have hgt : gt ≠ g:=fun e => by
     obtain ⟨rows,_,h2,_⟩:=hU.rows
     subst e
     exact own_blk_ne h2 ht.blk (by decide) rfl
   exact ⟨hP.keep (fun j hj => (hO4.block j (Nat.lt_of_lt_of_le (hP.lt j hj) hO.size) (fun e => hgF (by rw [<- e]; exact hj))).trans (hO.block j (hP.lt j hj) (fun h => h))) (Nat.le_trans hO.size hO4.size),hO4.blk (hO.blk ht.blk (fun h => h)) hgt,ht.out⟩)
 have n1:=hb.cell 1
 have c0:=hc.cell 0
 have c1:=hc.cell 1
 have c2:=hc.cell 2
 have c3:=hc.cell 3
 have x0':=hx.cell 0
 have hiN : (i : Int) < (N : Int):=by omega
 have hcI : (N : Int)<=(cc : Int):=by omega
 replace hP:=hide hP
 replace ht:=hide ht
 replace hn:=hide hn
 replace hb:=hide hb
 replace hc:=hide hc
 replace hx:=hide hx
 replace hv:=hide hv
 replace hi:=hide hi
 replace hd:=hide hd
 replace hU:=hide hU
 replace hN:=hide hN
 replace hlf:=hide hlf
 replace hkl:=hide hkl
 replace hvl:=hide hvl
 replace hov:=hide hov
 replace hlg:=hide hlg
 replace ho:=hide ho
 go_enter Tryz.func39,Tryz.ntmps39
 go_upto_region 5 with (fail)
 obtain ⟨W,hW⟩ : ∃ W,W=w.alloc (.cells #[.slice kA kl kc,.slice vA vl vc,.int .i64 (ov : Int),.int .i64 (lg : Int)] 83):=⟨_,rfl⟩
 rw [<- hW]
 have hOW : Only (fun _ => False) w W:=by rw [hW]; exact (Only.refl _ w).alloc _
 have hbo : Blk W w.heap.size 83 #[.slice kA kl kc,.slice vA vl vc,.int .i64 (ov : Int),.int .i64 (lg : Int)]:=by rw [hW]; exact Blk.new w 83 _
 have hgo : g ≠ w.heap.size:=fun e => by
   obtain ⟨rows,_,h2,_⟩:=hU.out.rows
   have:=(own_lt h2 (show (Value.slice (some ⟨g,0,none⟩) N cc).ownBlock=some g from rfl)).2
   omega
 have hgx : g ≠ gx:=fun e => by
   obtain ⟨rows,_,h2,_⟩:=hU.out.rows
   subst e
   exact own_blk_ne h2 hx.out (by decide) rfl
 have hbW:=hOW.blk hb.out (fun h => h)
 have hcW:=hOW.blk hc.out (fun h => h)
 have hxW:=hOW.blk hx.out (fun h => h)
 have hUW:=hU.out.only hOW (fun _ h => h.elim)
 obtain ⟨_,_,_,_,e0',e1',e2',e3',r0,r1,r2,r3⟩:=hUW.cell4 hi.out
 have n1':=hbW.cell 1
 have c0':=hcW.cell 0
 have c1':=hcW.cell 1
 have c2':=hcW.cell 2
 have c3':=hcW.cell 3
 have x0'':=hxW.cell 0
 replace hOW:=hide hOW
 replace hbo:=hide hbo
 replace hbW:=hide hbW
 replace hcW:=hide hcW
 replace hxW:=hide hxW
 replace hUW:=hide hUW
 replace hW:=hide hW
 go_region
 obtain ⟨W5,hW5⟩ : ∃ W5,W5=(set4 W g (i * 4) (.slice A0 l0 d0) (.slice A1 l1 d1) (.int .i64 u2) (.int .i64 u3)).drew:=⟨_,rfl⟩
 have hq:=hfin.out W hOW.out
 have hpw:=hPW.out W hOW.out
 have hO5:=(set4_only W g (i * 4) (.slice A0 l0 d0) (.slice A1 l1 d1) (.int .i64 u2) (.int .i64 u3)).drew
 rw [<- hW5] at hq hpw hO5
 have hlit : ((((W.setCell ⟨g,i * 4,none⟩ (.slice A0 l0 d0)).setCell ⟨g,i * 4 + 1,none⟩ (.slice A1 l1 d1)).setCell ⟨g,i * 4 + 2,none⟩ (.int .i64 u2)).setCell ⟨g,i * 4 + 3,none⟩ (.int .i64 u3)).drew=W5:=hW5.symm
 rw [hlit]
 have hbx5:=hO5.blk hxW.out (fun e => hgx e.symm)
 have hbo5:=hO5.blk hbo.out (fun e => hgo e.symm)
 have y0:=hbx5.cell 0
 have o0:=hbo5.cell 0
 have o1:=hbo5.cell 1
 have o2:=hbo5.cell 2
 have o3:=hbo5.cell 3
 have hdr:=hide (drop_any W5 F gt gp k st st1 hpw.1 hpw.2 ho.out old hd.out hlong kA vA kl vl kc vc)
 rw [<- hov.out,<- hlg.out] at hdr
 replace hq : Hid _:=hide hq
 replace hpw:=hide hpw
 replace hO5:=hide hO5
 replace hbx5:=hide hbx5
 replace hbo5:=hide hbo5
 replace hW5:=hide hW5
 clear hlit
 go_wp2_with fail
 go_at_call 41
 refine hdr.out.mono ?_
 rintro e w9 ⟨rfl,F9,hP9,hE9⟩
 have hdone:=hide (hq.out w9 ⟨rfl,F9,hP9,hE9⟩)
 replace hP9:=hide hP9
 replace hE9:=hide hE9
 go_wp2_with fail
 go_ret
 exact hdone.out
set_option maxHeartbeats 2000000 in
theorem del1_any (w : World) (F : Nat->Prop) (gp gt k : Nat) (st st1 : PgS) (hP : PgAt w F gp st) (ht : TreeAt w F gt gp k) (ho : st.ok) (gn gx B B0 i : Nat) (is : Bool) (cv kv : Value) (n : NodeP) (old : CellP) (hn : NodeW F w B cv kv n) (hb : Blk w gn 89 #[.bool n.leaf,cv,kv])
   (hx : Blk w gx 30 #[.pointer (some ⟨gt,0,none⟩)]) (hi : n.cells[i]?=some old) (hd : DropR st old st1) (hlong : old.long<=20000) (hlen : n.cells.length<=100000) (hBn : B0<=gn) (hB0 : B0<=B) (hFn : ¬ F gn) :
   Calls Tryz.prog 52 #[.pointer (some ⟨gn,0,none⟩),.int .i64 (i : Int),.bool is,.pointer (some ⟨gx,0,none⟩)] w (OpEndU F w gp gn B0 st1 ⟨n.leaf,n.cells.eraseIdx i,n.kids⟩):=by
 have hil:=(List.getElem?_eq_some_iff.1 hi).1
 obtain ⟨g,cc,rfl,hcc,hgB⟩ : ∃ g cc,cv=.slice (some ⟨g,0,none⟩) n.cells.length cc/\n.cells.length<=cc/\B<=g:=by
   obtain ⟨rows,h1,h2,h3⟩:=hn.rows
   rcases h2.2 with ⟨_,e⟩ | ⟨g,cap,cur,e,hb,_,hl,_⟩
   · have h9:=h2.1; rw [e] at h9; simp at h9; omega
   · exact ⟨g,cap,e,hl,hb⟩
 have hU:=hn.toU
 obtain ⟨kA,kc,vA,vc,e0,e1,e2,e3,q0,q1,q2,q3⟩:=hU.cell4 hi
 obtain ⟨rows,hr1,hr2,hr3⟩:=hU.rows
 obtain ⟨kl,hkl⟩ : ∃ kl,kl=old.key.length:=⟨_,rfl⟩
 obtain ⟨vl,hvl⟩ : ∃ vl,vl=old.val.length:=⟨_,rfl⟩
 obtain ⟨ov,hov⟩ : ∃ ov,ov=old.over:=⟨_,rfl⟩
 obtain ⟨lg,hlg⟩ : ∃ lg,lg=old.long:=⟨_,rfl⟩
 rw [<- hkl] at e0
 rw [<- hvl] at e1
 rw [<- hov] at e2
 rw [<- hlg] at e3
 obtain ⟨W,hW⟩ : ∃ W,W=w.alloc (.cells #[.slice kA kl kc,.slice vA vl vc,.int .i64 (ov : Int),.int .i64 (lg : Int)] 83):=⟨_,rfl⟩
 have hOW : Only (fun _ => False) w W:=by rw [hW]; exact (Only.refl _ w).alloc _
 have hbo : Blk W w.heap.size 83 #[.slice kA kl kc,.slice vA vl vc,.int .i64 (ov : Int),.int .i64 (lg : Int)]:=by rw [hW]; exact Blk.new w 83 _
 have hgo : g ≠ w.heap.size:=fun e => by
   have:=(own_lt hr2 (show (Value.slice (some ⟨g,0,none⟩) n.cells.length cc).ownBlock=some g from rfl)).2
   omega
 have hgx : g ≠ gx:=fun e => by
   subst e
   exact own_blk_ne hr2 hx (by decide) rfl
 have hgn : g ≠ gn:=fun e => by
   subst e
   exact own_blk_ne hr2 hb (by decide) rfl
 have hgF : ¬ F g:=hU.rF g rfl
 have hgt : gt ≠ g:=fun e => by
   subst e
   exact own_blk_ne hr2 ht.blk (by decide) rfl
 have hUW : NodeU F W B _ kv n:=hU.only hOW (fun _ h => h.elim)
 have hr2W:=hOW.row hr2 (fun _ _ h => h)
 have hr3W : CellsW F W rows n.cells:=hr3.keepW hOW (fun _ _ h => h.elim)
 have hbW:=hOW.blk hb (fun h => h)
 have hxW:=hOW.blk hx (fun h => h)
 have htW : TreeAt W F gt gp k:=⟨hOW.blk ht.blk (fun h => h),ht.out⟩
 have hPW : PgAt W F gp st:=by rw [hW]; exact hP.alloc _
 have hdl:=hide (delC_any W B _ n.cells.length i rows.flatten hr2W hil (hr3.one hr1) hlen)
 obtain ⟨N,hN⟩ : ∃ N,N=n.cells.length:=⟨_,rfl⟩
 obtain ⟨lf,hlf⟩ : ∃ lf,lf=n.leaf:=⟨_,rfl⟩
 rw [<- hlf] at hb hbW
 rw [<- hN] at hb hbW hil hcc hlen hdl
 have n1:=hb.cell 1
 have n1':=hbW.cell 1
 have x0':=hx.cell 0
 have hiN : (i : Int) < (N : Int):=by omega
 have hcI : (N : Int)<=(cc : Int):=by omega
 have hsW : W.heap.size=w.heap.size + 1:=by rw [hW]; simp
 replace hP:=hide hP
 replace ht:=hide ht
 replace hn:=hide hn
 replace hb:=hide hb
 replace hx:=hide hx
 replace hi:=hide hi
 replace hd:=hide hd
 replace hU:=hide hU
 replace hN:=hide hN
 replace hlf:=hide hlf
 replace hkl:=hide hkl
 replace hvl:=hide hvl
 replace hov:=hide hov
 replace hlg:=hide hlg
 replace ho:=hide ho
 replace hOW:=hide hOW
 replace hbo:=hide hbo
 replace hbW:=hide hbW
 replace hxW:=hide hxW
 replace hUW:=hide hUW
 replace hr1:=hide hr1
 replace hr2:=hide hr2
 replace hr3:=hide hr3
 replace hr2W:=hide hr2W
 replace hr3W:=hide hr3W
 replace htW:=hide htW
 replace hPW:=hide hPW
 replace hW:=hide hW
 replace hsW:=hide hsW
 go_enter Tryz.func52,Tryz.ntmps52
 go_upto_region 2 with (fail)
 rw [<- hW.out]
 go_wp2_with fail
 go_at_call 53
 refine hdl.out.mono ?_
 rintro e w5 ⟨v5,rfl,hown,hg,hob⟩
 obtain ⟨A5,c5,rfl⟩:=own_form hown
 have hgb : ∀ j,(Value.slice (some ⟨g,0,none⟩) N cc).ownBlock=some j->j=g:=fun j e => by injection e with e; exact e.symm
 have hb5:=hbW.out.grown hg (fun e => hgn (hgb _ e.symm).symm)
 have hx5:=hxW.out.grown hg (fun e => hgx (hgb _ e.symm).symm)
 have ho5:=hbo.out.grown hg (fun e => hgo (hgb _ e.symm).symm)
 have hP5:=hPW.out.grown hg (fun j e hf => hgF (by rw [<- hgb j e]; exact hf))
 have ht5 : TreeAt w5 F gt gp k:=⟨htW.out.blk.grown hg (fun e => hgt (hgb _ e.symm)),htW.out.out⟩
 have hU5 : NodeU F w5 B (.slice A5 (N - 1) c5) kv ⟨n.leaf,n.cells.eraseIdx i,n.kids⟩:=by
   refine hUW.out.delC (i:=i) (by rw [<- hN.out]; exact hil) (by rw [<- hN.out]; exact hg) rows hr1.out hr2W.out hr3W.out (by rw [<- hN.out]; exact hown) (by rw [<- hN.out]; exact hob)
 have hO5 : Only (fun j => j=g) W w5:=(Only.refl _ W).grown hg (fun j e _ => hgb j e)
 obtain ⟨w6,hw6⟩ : ∃ w6,w6=w5.setCell ⟨gn,1,none⟩ (.slice A5 (N - 1) c5):=⟨_,rfl⟩
 have hO6 : Only (fun j => j=gn) w5 w6:=by rw [hw6]; exact (Only.refl (fun j => j=gn) w5).setCell (p:=⟨gn,1,none⟩) (fun _ => rfl) _
 have hb6 : Blk w6 gn 89 #[.bool lf,.slice A5 (N - 1) c5,kv]:=by rw [hw6]; exact hb5.set_ 1 _
 have hxg : gx ≠ gn:=Blk.ne_ hx5 hb5 (by decide)
 have hog : w.heap.size ≠ gn:=Blk.ne_ ho5 hb5 (by decide)
 have hx6:=hO6.blk hx5 hxg
 have ho6:=hO6.blk ho5 hog
 have hP6 : PgAt w6 F gp st:=by rw [hw6]; exact hP5.set_ hFn _
 have ht6 : TreeAt w6 F gt gp k:=⟨hO6.blk ht5.blk (Blk.ne_ ht5.blk hb5 (by decide)),ht5.out⟩
 have hU6 : NodeU F w6 B (.slice A5 (N - 1) c5) kv ⟨n.leaf,n.cells.eraseIdx i,n.kids⟩:=hU5.only hO6 fun j hj => by subst hj; exact ⟨_,_,hb5,by decide,by decide,by decide⟩
 have hdr:=hide (drop_any w6 F gt gp k st st1 hP6 ht6 ho.out old hd.out hlong kA vA kl vl kc vc)
 rw [<- hov.out,<- hlg.out] at hdr
 have hq : Hid (∀ w9,PgEnd F w6 gp st1 (.int .i64 0) (.returned (.int .i64 0)) w9->OpEndU F w gp gn B0 st1 ⟨n.leaf,n.cells.eraseIdx i,n.kids⟩ (.returned (.int .i64 0)) w9):=hide (by
   rintro w9 ⟨_,F9,hP9,hE9⟩
   refine ⟨rfl,F9,B,.slice A5 (N - 1) c5,kv,hP9,?_,fun j hj => ?_,hU6.ev hE9,by rw [hlf.out] at hb6; exact hE9.blk hb6 hFn⟩
   · have h1 : Only (fun j => F j \/ B0 <= j) w W := hOW.out.mono (fun _ _ h => h.elim)
     have h2 : Only (fun j => F j \/ B0<=j) W w5:=hO5.mono fun j _ e => .inr (by subst e; omega)
     have h3 : Only (fun j => F j \/ B0<=j) w5 w6:=hO6.mono fun j _ e => .inr (by subst e; omega)
     have h4 : Only (fun j => F j \/ B0<=j) w6 w9:=hE9.only.mono fun j _ e => .inl e
     exact ((h1.trans h2 fun _ _ h => h).trans h3 fun _ _ h => h).trans h4 fun _ _ h => h
   · rcases hE9.grow j hj with h9 | h9
     · exact .inl h9
     · have h1 := hOW.out.size
       have h2:=hO5.size
       have h3:=hO6.size
       exact .inr (by omega))
 have z1:=hb5.cell 1
 have z1f:=hb5.frozen 1
 have y0:=hx6.cell 0
 have o0:=ho6.cell 0
 have o1:=ho6.cell 1
 have o2:=ho6.cell 2
 have o3:=ho6.cell 3
 replace hg:=hide hg
 replace hown:=hide hown
 replace hob:=hide hob
 replace hb5:=hide hb5
 replace hx5:=hide hx5
 replace ho5:=hide ho5
 replace hP5:=hide hP5
 replace ht5:=hide ht5
 replace hU5:=hide hU5
 replace hO5:=hide hO5
 replace hO6:=hide hO6
 replace hb6:=hide hb6
 replace hx6:=hide hx6
 replace ho6:=hide ho6
 replace hP6:=hide hP6
 replace ht6:=hide ht6
 replace hU6:=hide hU6
 replace hw6:=hide hw6
 go_upto_region 3 with (fail)
 rw [<- hw6.out]
 go_wp2_with fail
 go_at_call 41
 refine hdr.out.mono ?_
 rintro e w9 ⟨rfl,F9,hP9,hE9⟩
 have hdone:=hide (hq.out w9 ⟨rfl,F9,hP9,hE9⟩)
 replace hP9:=hide hP9
 replace hE9:=hide hE9
 go_wp2_with fail
 go_ret
 exact hdone.out
theorem OverR.ok {st st' : PgS} {ps : List (List UInt8)} {o o' : Nat} (h : OverR st ps o st' o') : (∀ p ∈ ps,p.length<=505)->st.ok->st'.ok:=by
 induction h with
 | nil st o => exact fun _ ho => ho
 | cons st st' b r o o' ha hr ih =>
   intro hp ho
   exact ih (fun p hm => hp p (.tail _ hm)) ((ho.alloc ha).1.write _ _ (by have:=hp b (.head _); rw [List.length_append,leB_len]; omega))
theorem piecesUp_len (b : List UInt8) (k : Nat) : ∀ p ∈ (piecesUp b k).reverse,p.length<=505:=by
 intro p hp
 rw [List.mem_reverse] at hp
 obtain ⟨i,_,rfl⟩:=List.mem_map.1 hp
 rw [List.length_take]; omega
theorem CellR.ok {st st1 : PgS} {key b : List UInt8} {c : CellP} (h : CellR st key b st1 c) (ho : st.ok) : st1.ok:=by
 rcases h with ⟨_,rfl,_⟩ | ⟨_,o,h,_⟩
 · exact ho
 · exact h.ok (piecesUp_len _ _) ho
theorem putOp_ok (c : CellP) : OpOk (putOp c):=by
 intro st n i is st1 n1 ho hr h
 rcases h with ⟨_,rfl,_⟩ | ⟨_,old,_,hd,_⟩
 · exact ho
 · exact hd.ok ho
theorem delOp_ok : OpOk delOp:=by
 intro st n i is st1 n1 ho hr ⟨old,_,hd,_⟩
 exact hd.ok ho
theorem put1_fn : ∀ args wx,(callFunc 39 args).run Tryz.prog wx=.ok (.enter 39 args) wx:=fun args wx => by
 have h:=Tryz.func39
 simp [callFunc,Sem.run_bind,go_sem,h,Tryz.f39]
theorem put1_op (w : World) (F : Nat->Prop) (gp gt k : Nat) (st : PgS) (ho : st.ok) (ht : TreeAt w F gt gp k) (gc gx : Nat) (c : CellP) (x0 x1 x2 x3 : Value) (hc : Blk w gc 83 #[x0,x1,x2,x3]) (hcF : ¬ F gc) (hx : Blk w gx 30 #[.pointer (some ⟨gt,0,none⟩)]) (hxF : ¬ F gx)
   (hv : CellV (byteOf F w) w [x0,x1,x2,x3] c) : OpG 39 #[.pointer (some ⟨gc,0,none⟩),.pointer (some ⟨gx,0,none⟩)] (putOp c) w F gp st:=by
 intro n i is st1 n1 hor hil hr w1 F1 gn B B0 cv kv hP hE hW hb hn h0 h1 h2 h3
 have hmany:=hr.many
 have hlen : n.cells.length<=100000:=by omega
 have hc1:=hE.blk hc hcF
 have hx1:=hE.blk hx hxF
 rcases hor with ⟨rfl,rfl,rfl⟩ | ⟨rfl,old,hi,hd,rfl⟩
 · exact (put1_new w1 F1 gp _ hP gn gc gx B B0 i cv kv n c x0 x1 x2 x3 hW hb hc1 (hv.evB hE) (hil rfl) hlen h1 h2 h3 hn).mono fun _ _ h => h.toU
 · have hold : old.long<=20000:=by
     have h9:=hr.vals old (List.mem_of_getElem? hi)
     split at h9
     · rcases h9 with h9 | h9
       · omega
       · omega
     · have:=h9.2.1; omega
   refine put1_old w1 F1 gp gt k st st1 hP (ht.ev hE) ho gn gc gx B B0 i cv kv n c old x0 x1 x2 x3 hW hb hc1 hx1 (hE.new hxF (Blk.lt hx)) (hv.evB hE) hi hd hold hlen h1 h2 hn fun e => ?_
   obtain ⟨rows,_,h8,_⟩:=hW.rows
   have h9:=(own_lt h8 e).1
   have:=Blk.lt hc
   omega
set_option maxHeartbeats 2000000 in
theorem put_firstG (w : World) (F : Nat->Prop) (gt gp k : Nat) (st : PgS) (h : PgAt w F gp st) (ht : TreeAt w F gt gp k) (hk8 : k < 8) (key b : List UInt8) (kA vA : Option Addr) (kc vc : Nat) (hk : MB F w kA key.length key) (hv : MB F w vA b.length b)
   (h1 : 1<=key.length) (h2 : key.length<=120) (h3 : b.length<=20000) (hvc : b.length<=vc) (ho : st.ok) (st1 : PgS) (c : CellP) (hcr : CellR st key b st1 c) (h0 : st1.roots k=0) (ha : CanAlloc st1) (hf : st1.free < st1.many) (hs : CanSave (allocS st1) (allocN st1) ⟨true,[c],[]⟩) (hn : allocN st1 < (allocS st1).many) :
   Calls Tryz.prog 11 #[.pointer (some ⟨gt,0,none⟩),.slice kA key.length kc,.slice vA b.length vc] w (PgEnd F w gp (setRootS (saveS (allocS st1) (allocN st1) ⟨true,[c],[]⟩) k (allocN st1)) (.int .i64 0)):=by
 obtain ⟨L,hL⟩ : ∃ L,L=key.length:=⟨_,rfl⟩
 obtain ⟨M,hM⟩ : ∃ M,M=b.length:=⟨_,rfl⟩
 rw [<- hL] at hk h1 h2 ⊢
 rw [<- hM] at hv h3 ⊢
 have l1 : decide ((L : Int) < 1)=false:=decide_eq_false (by omega)
 have l2 : decide (120 < (L : Int))=false:=decide_eq_false (by omega)
 have l2n : decide (120 < L)=false:=decide_eq_false (by omega)
 have l3 : decide (20000 < (M : Int))=false:=decide_eq_false (by omega)
 have l3n : decide (20000 < M)=false:=decide_eq_false (by omega)
 have hL0 : ¬ L=0:=by omega
 have hE0 : Ev F w F (w.alloc (.cells #[.pointer (some ⟨gt,0,none⟩)] 30)):=(Ev.refl F w).alloc_ _
 have hb0:=Blk.new w 30 #[.pointer (some ⟨gt,0,none⟩)]
 have hP0:=h.alloc (.cells #[.pointer (some ⟨gt,0,none⟩)] 30)
 have hcl:=hide (cell_any (w.alloc (.cells #[.pointer (some ⟨gt,0,none⟩)] 30)) F gt gp k st st1 c hP0 (ht.ev hE0) ho kA vA L M kc vc key b (hk.ev hE0) (hv.ev hE0) (by rw [hM]; exact hvc) (by omega) h3 hcr)
 have c0 : (w.alloc (.cells #[.pointer (some ⟨gt,0,none⟩)] 30)).cell? ⟨w.heap.size,0,none⟩=some (.pointer (some ⟨gt,0,none⟩)):=hb0.cell 0
 have hgt:=Blk.lt ht.blk
 have hnF : ¬ F w.heap.size:=fun hf => by have:=h.lt _ hf; omega
 replace h:=hide h
 replace ht:=hide ht
 replace hk:=hide hk
 replace hv:=hide hv
 replace hL:=hide hL
 replace hM:=hide hM
 replace hE0:=hide hE0
 replace hb0:=hide hb0
 replace hP0:=hide hP0
 replace h1:=hide h1
 replace ho:=hide ho
 replace hcr:=hide hcr
 replace h2:=hide h2
 replace h3:=hide h3
 replace h0:=hide h0
 replace ha:=hide ha
 replace hf:=hide hf
 replace hs:=hide hs
 replace hn:=hide hn
 go_enter Tryz.func11,Tryz.ntmps11
 go_wp2_with fail
 go_at_call 35
 refine hcl.out.mono ?_
 rintro e w2 ⟨x0,x1,F2,he,hP2,hE02,hcv⟩
 subst he
 obtain ⟨A0,y0,A1,y1,hx0,hx1⟩ : ∃ A0 y0 A1 y1,x0=.slice A0 c.key.length y0/\x1=.slice A1 c.val.length y1:=by
   obtain ⟨A0,y0,A1,y1,e9,_⟩:=hcv
   injection e9 with e0 e9; injection e9 with e1 e9
   exact ⟨A0,y0,A1,y1,e0,e1⟩
 subst hx0; subst hx1
 obtain ⟨KL,hKL⟩ : ∃ z,z=c.key.length:=⟨_,rfl⟩
 obtain ⟨VL,hVL⟩ : ∃ z,z=c.val.length:=⟨_,rfl⟩
 obtain ⟨OV,hOV⟩ : ∃ z,z=c.over:=⟨_,rfl⟩
 obtain ⟨LG,hLG⟩ : ∃ z,z=c.long:=⟨_,rfl⟩
 rw [<- hKL,<- hVL,<- hOV,<- hLG] at hcv ⊢
 have hb2:=hE02.blk hb0.out hnF
 have hE2:=hE0.out.trans hE02
 have hs2:=hE2.size
 have hs2' : w.heap.size < w2.heap.size:=by have:=hE02.size; simp at this; omega
 have hnF2 : ¬ F2 w.heap.size:=hE02.new hnF (Blk.lt hb0.out)
 obtain ⟨o,hoo⟩ : ∃ o,o=Obj.cells #[.slice A0 KL y0,.slice A1 VL y1,.int .i64 (OV : Int),.int .i64 (LG : Int)] 83 (0,0):=⟨_,rfl⟩
 have hE3 : Ev F w F2 (w2.alloc o):=hE2.alloc_ o
 have ht3:=ht.out.ev hE3
 have hP3:=hP2.alloc o
 have hb3:=hb2.alloc o
 have hc3 : Blk (w2.alloc o) w2.heap.size 83 #[.slice A0 KL y0,.slice A1 VL y1,.int .i64 (OV : Int),.int .i64 (LG : Int)]:=by rw [hoo]; exact Blk.new _ _ _
 have hrt:=hide (fun q => root_any ((w2.alloc o).drewN q) F2 gp st1 (hP3.drewN q) k hk8)
 rw [h0.out] at hrt
 have t0 : (w2.alloc o).cell? ⟨w.heap.size,0,none⟩=some (.pointer (some ⟨gt,0,none⟩)):=hb3.cell 0
 have t1 : (w2.alloc o).cell? ⟨gt,0,none⟩=some (.pointer (some ⟨gp,0,none⟩)):=ht3.blk.cell 0
 have t2 : (w2.alloc o).cell? ⟨gt,1,none⟩=some (.int .i64 (k : Int)):=ht3.blk.cell 1
 have t4:=hc3.cell 0
 have t5:=hc3.cell 1
 have t6:=hc3.cell 2
 have t7:=hc3.cell 3
 subst hoo
 replace hcv:=hide hcv
 replace hE02:=hide hE02
 replace hnF2:=hide hnF2
 replace hKL:=hide hKL
 replace hVL:=hide hVL
 replace hOV:=hide hOV
 replace hLG:=hide hLG
 replace hb2:=hide hb2
 replace hE2:=hide hE2
 replace hP2:=hide hP2
 replace hE3:=hide hE3
 replace ht3:=hide ht3
 replace hP3:=hide hP3
 replace hb3:=hide hb3
 replace hc3:=hide hc3
 clear hcl
 go_wp2_with fail
 go_quiet (first | (go_at_call 23; exact quiet_left (hrt.out _)))
 obtain ⟨w5,hw5⟩ : ∃ w5,w5=(w2.alloc (.cells #[.slice A0 KL y0,.slice A1 VL y1,.int .i64 (OV : Int),.int .i64 (LG : Int)] 83)).drewN nq:=⟨_,rfl⟩
 rw [<- hw5]
 have hE5 : Ev F w F2 w5:=by rw [hw5]; exact hE3.out.drewN nq
 have hP5 : PgAt w5 F2 gp st1:=by rw [hw5]; exact hP3.out.drewN nq
 have hs5 : w5.heap.size=w2.heap.size + 1:=by rw [hw5]; simp [World.drewN]
 have t0 : w5.cell? ⟨w.heap.size,0,none⟩=some (.pointer (some ⟨gt,0,none⟩)):=by rw [hw5]; exact t0
 have r0 : w5.cell? ⟨w2.heap.size,0,none⟩=some (.slice A0 KL y0):=by rw [hw5]; exact t4
 have r1 : w5.cell? ⟨w2.heap.size,1,none⟩=some (.slice A1 VL y1):=by rw [hw5]; exact t5
 have r2 : w5.cell? ⟨w2.heap.size,2,none⟩=some (.int .i64 (OV : Int)):=by rw [hw5]; exact t6
 have r3 : w5.cell? ⟨w2.heap.size,3,none⟩=some (.int .i64 (LG : Int)):=by rw [hw5]; exact t7
 have hE6 : Ev F w F2 (w5.alloc (.cells #[.slice A0 KL y0,.slice A1 VL y1,.int .i64 (OV : Int),.int .i64 (LG : Int)] 83)):=hE5.alloc_ _
 have hb6:=Blk.new w5 83 #[.slice A0 KL y0,.slice A1 VL y1,.int .i64 (OV : Int),.int .i64 (LG : Int)]
 have hFlt:=hP2.out.lt
 have hn6 : NodeM (Mine F2 (w5.alloc (.cells #[.slice A0 KL y0,.slice A1 VL y1,.int .i64 (OV : Int),.int .i64 (LG : Int)] 83))) (w5.alloc (.cells #[.slice A0 KL y0,.slice A1 VL y1,.int .i64 (OV : Int),.int .i64 (LG : Int)] 83)) (.agg #[.bool true,.slice (some ⟨w5.heap.size,0,none⟩) 1 1,.slice none 0 0]) ⟨true,[c],[]⟩:=by
   refine ⟨some ⟨w5.heap.size,0,none⟩,1,none,0,rfl,Nat.le_refl _,Nat.le_refl _,⟨[[.slice A0 KL y0,.slice A1 VL y1,.int .i64 (OV : Int),.int .i64 (LG : Int)]],rfl,⟨rfl,fun _ => ⟨_,rfl,⟨by simp,fun hf => by have h9 : w5.heap.size < w2.heap.size:=hFlt _ hf; omega⟩,fun j u hu => ?_⟩⟩,fun q vs c e1 e2 => ?_⟩,Rd.none_⟩
   · rw [Addr.add_lit, Nat.zero_add, hb6.cell]
     simpa using hu
   · obtain rfl : q=0:=by
       have:=(List.getElem?_eq_some_iff.1 e1).1
       simp at this; exact this
     simp at e1 e2
     subst e1; subst e2
     have h9 : CellV (byteOf F2 w2) w2 [.slice A0 KL y0,.slice A1 VL y1,.int .i64 (OV : Int),.int .i64 (LG : Int)] c:=hcv.out
     refine h9.keep fun q hq => ?_
     obtain ⟨q1,cs,q2⟩:=hq
     have q3 : Blk (w5.alloc (.cells #[.slice A0 KL y0,.slice A1 VL y1,.int .i64 (OV : Int),.int .i64 (LG : Int)] 83)) q 5 cs:=by
       rw [hw5]; exact ((q2.alloc _).drewN nq).alloc _
     exact ⟨⟨Blk.lt q3,q1.2⟩,Eq.trans q3 q2.symm⟩
 have hmk:=hide (make_any _ F2 gt gp k st1 (hP5.alloc (.cells #[.slice A0 KL y0,.slice A1 VL y1,.int .i64 (OV : Int),.int .i64 (LG : Int)] 83)) (ht.out.ev hE6) ⟨true,[c],[]⟩ _ hn6 ha.out hf.out hs.out)
 have hb6t : (w5.alloc (.cells #[.slice A0 KL y0,.slice A1 VL y1,.int .i64 (OV : Int),.int .i64 (LG : Int)] 83)).cell? ⟨w.heap.size,0,none⟩=some (.pointer (some ⟨gt,0,none⟩)):=by
   rw [World.cell?_alloc_lt _ _ _ (by show w.heap.size < w5.heap.size; omega)]; exact t0
 obtain ⟨no,hno⟩ : ∃ no,no=allocN st1:=⟨_,rfl⟩
 obtain ⟨st2,hst1⟩ : ∃ st2,st2=saveS (allocS st1) no ⟨true,[c],[]⟩:=⟨_,rfl⟩
 rw [<- hno,<- hst1] at hmk ⊢
 have hnm : Hid (no < st2.many):=hide (by rw [hst1,hno]; exact hn.out)
 replace hno:=hide hno
 replace hst1:=hide hst1
 replace hw5:=hide hw5
 replace hs5:=hide hs5
 replace hE5:=hide hE5
 replace hP5:=hide hP5
 replace hE6:=hide hE6
 replace hb6:=hide hb6
 replace hFlt:=hide hFlt
 replace hn6:=hide hn6
 go_wp2_with fail
 go_at_call 36
 refine hmk.out.mono ?_
 rintro e w7 ⟨rfl,F7,hP7,hE7⟩
 have ht7:=ht.out.ev (hE6.out.trans hE7)
 have u0 : w7.cell? ⟨w.heap.size,0,none⟩=some (.pointer (some ⟨gt,0,none⟩)):=(hE7.cell (p:=⟨w.heap.size,0,none⟩) ⟨by have:=hs5.out; show w.heap.size < (w5.alloc _).heap.size; simp; omega,hnF2.out⟩).trans hb6t
 have u1 : w7.cell? ⟨gt,0,none⟩=some (.pointer (some ⟨gp,0,none⟩)):=ht7.blk.cell 0
 have u2 : w7.cell? ⟨gt,1,none⟩=some (.int .i64 (k : Int)):=ht7.blk.cell 1
 have hsr:=hide (setRoot_any w7.drew F7 gp st2 hP7.drew k no hk8 hnm.out)
 have hE7w:=hide ((hE6.out.trans hE7).drew)
 replace ht7:=hide ht7
 replace hP7:=hide hP7
 replace hE7:=hide hE7
 have hfold : Hid (∀ w8,PgEnd F w gp (setRootS st2 k no) (.int .i64 0) (.returned (.int .i64 0)) w8->PgEnd F w gp (setRootS (saveS (allocS st1) (allocN st1) ⟨true,[c],[]⟩) k (allocN st1)) (.int .i64 0) (.returned (.int .i64 0)) w8):=hide fun w8 h9 => by
   rw [hst1.out,hno.out] at h9; exact h9
 clear hmk hrt
 go_wp2_with fail
 go_region_law (go_simp; go_at_call 37; refine hsr.out.mono ?_; rintro e w8 ⟨rfl,F8,hP8,hE8⟩; (have hdone:=hfold.out w8 ⟨rfl,F8,hP8,hE7w.out.trans hE8⟩); replace hdone:=hide hdone; replace hP8:=hide hP8; replace hE8:=hide hE8)
 all_goals
   go_wp2_with fail
   go_ret
   exact hdone.out
set_option maxHeartbeats 2000000 in
theorem put_moreG (w : World) (F : Nat->Prop) (gt gp k : Nat) (st : PgS) (h : PgAt w F gp st) (ht : TreeAt w F gt gp k) (hk8 : k < 8) (key b : List UInt8) (kA vA : Option Addr) (kc vc : Nat) (hk : MB F w kA key.length key) (hv : MB F w vA b.length b)
   (h1 : 1<=key.length) (h2 : key.length<=120) (h3 : b.length<=20000) (hvc : b.length<=vc) (ho : st.ok) (st1 : PgS) (c : CellP) (hcr : CellR st key b st1 c) (no : Nat) (h0 : st1.roots k=no) (hno : no ≠ 0) (st2 st3 : PgS) (l : Option (List UInt8 × Nat)) (hch0 : ChangeR (putOp c) key st1 no st2 l) (htop : TopR k st2 no l st3) :
   Calls Tryz.prog 11 #[.pointer (some ⟨gt,0,none⟩),.slice kA key.length kc,.slice vA b.length vc] w (PgEnd F w gp st3 (.int .i64 0)):=by
 have hnoI : ((no : Int) == 0)=false:=by rw [beq_eq_false_iff_ne]; omega
 obtain ⟨L,hL⟩ : ∃ L,L=key.length:=⟨_,rfl⟩
 obtain ⟨M,hM⟩ : ∃ M,M=b.length:=⟨_,rfl⟩
 rw [<- hL] at hk h1 h2 ⊢
 rw [<- hM] at hv h3 ⊢
 have l1 : decide ((L : Int) < 1)=false:=decide_eq_false (by omega)
 have l2 : decide (120 < (L : Int))=false:=decide_eq_false (by omega)
 have l2n : decide (120 < L)=false:=decide_eq_false (by omega)
 have l3 : decide (20000 < (M : Int))=false:=decide_eq_false (by omega)
 have l3n : decide (20000 < M)=false:=decide_eq_false (by omega)
 have hL0 : ¬ L=0:=by omega
 have hE0 : Ev F w F (w.alloc (.cells #[.pointer (some ⟨gt,0,none⟩)] 30)):=(Ev.refl F w).alloc_ _
 have hb0:=Blk.new w 30 #[.pointer (some ⟨gt,0,none⟩)]
 have hP0:=h.alloc (.cells #[.pointer (some ⟨gt,0,none⟩)] 30)
 have hcl:=hide (cell_any (w.alloc (.cells #[.pointer (some ⟨gt,0,none⟩)] 30)) F gt gp k st st1 c hP0 (ht.ev hE0) ho kA vA L M kc vc key b (hk.ev hE0) (hv.ev hE0) (by rw [hM]; exact hvc) (by omega) h3 hcr)
 have c0 : (w.alloc (.cells #[.pointer (some ⟨gt,0,none⟩)] 30)).cell? ⟨w.heap.size,0,none⟩=some (.pointer (some ⟨gt,0,none⟩)):=hb0.cell 0
 have hgt:=Blk.lt ht.blk
 have hnF : ¬ F w.heap.size:=fun hf => by have:=h.lt _ hf; omega
 replace h:=hide h
 replace ht:=hide ht
 replace hk:=hide hk
 replace hv:=hide hv
 replace hL:=hide hL
 replace hM:=hide hM
 replace hE0:=hide hE0
 replace hb0:=hide hb0
 replace hP0:=hide hP0
 replace h1:=hide h1
 replace ho:=hide ho
 replace hcr:=hide hcr
 replace h2:=hide h2
 replace h3:=hide h3
 replace h0:=hide h0
 replace hch0:=hide hch0
 replace htop:=hide htop
 replace hno:=hide hno
 go_enter Tryz.func11,Tryz.ntmps11
 go_wp2_with fail
 go_at_call 35
 refine hcl.out.mono ?_
 rintro e w2 ⟨x0,x1,F2,he,hP2,hE02,hcv⟩
 subst he
 obtain ⟨A0,y0,A1,y1,hx0,hx1⟩ : ∃ A0 y0 A1 y1,x0=.slice A0 c.key.length y0/\x1=.slice A1 c.val.length y1:=by
   obtain ⟨A0,y0,A1,y1,e9,_⟩:=hcv
   injection e9 with e0 e9; injection e9 with e1 e9
   exact ⟨A0,y0,A1,y1,e0,e1⟩
 subst hx0; subst hx1
 obtain ⟨KL,hKL⟩ : ∃ z,z=c.key.length:=⟨_,rfl⟩
 obtain ⟨VL,hVL⟩ : ∃ z,z=c.val.length:=⟨_,rfl⟩
 obtain ⟨OV,hOV⟩ : ∃ z,z=c.over:=⟨_,rfl⟩
 obtain ⟨LG,hLG⟩ : ∃ z,z=c.long:=⟨_,rfl⟩
 rw [<- hKL,<- hVL,<- hOV,<- hLG] at hcv ⊢
 have hb2:=hE02.blk hb0.out hnF
 have hE2:=hE0.out.trans hE02
 have hs2:=hE2.size
 have hs2' : w.heap.size < w2.heap.size:=by have:=hE02.size; simp at this; omega
 have hnF2 : ¬ F2 w.heap.size:=hE02.new hnF (Blk.lt hb0.out)
 obtain ⟨o,hoo⟩ : ∃ o,o=Obj.cells #[.slice A0 KL y0,.slice A1 VL y1,.int .i64 (OV : Int),.int .i64 (LG : Int)] 83 (0,0):=⟨_,rfl⟩
 have hE3 : Ev F w F2 (w2.alloc o):=hE2.alloc_ o
 have ht3:=ht.out.ev hE3
 have hP3:=hP2.alloc o
 have hb3:=hb2.alloc o
 have hc3 : Blk (w2.alloc o) w2.heap.size 83 #[.slice A0 KL y0,.slice A1 VL y1,.int .i64 (OV : Int),.int .i64 (LG : Int)]:=by rw [hoo]; exact Blk.new _ _ _
 have hrt:=hide (fun q => root_any ((w2.alloc o).drewN q) F2 gp st1 (hP3.drewN q) k hk8)
 rw [h0.out] at hrt
 have t0 : (w2.alloc o).cell? ⟨w.heap.size,0,none⟩=some (.pointer (some ⟨gt,0,none⟩)):=hb3.cell 0
 have t1 : (w2.alloc o).cell? ⟨gt,0,none⟩=some (.pointer (some ⟨gp,0,none⟩)):=ht3.blk.cell 0
 have t2 : (w2.alloc o).cell? ⟨gt,1,none⟩=some (.int .i64 (k : Int)):=ht3.blk.cell 1
 have t4:=hc3.cell 0
 have t5:=hc3.cell 1
 have t6:=hc3.cell 2
 have t7:=hc3.cell 3
 subst hoo
 replace hcv:=hide hcv
 replace hE02:=hide hE02
 replace hnF2:=hide hnF2
 replace hKL:=hide hKL
 replace hVL:=hide hVL
 replace hOV:=hide hOV
 replace hLG:=hide hLG
 replace hb2:=hide hb2
 replace hE2:=hide hE2
 replace hP2:=hide hP2
 replace hE3:=hide hE3
 replace ht3:=hide ht3
 replace hP3:=hide hP3
 replace hb3:=hide hb3
 replace hc3:=hide hc3
 clear hcl
 go_wp2_with fail
 go_quiet (first | (go_at_call 23; exact quiet_left (hrt.out _)))
 obtain ⟨w5,hw5⟩ : ∃ w5,w5=(w2.alloc (.cells #[.slice A0 KL y0,.slice A1 VL y1,.int .i64 (OV : Int),.int .i64 (LG : Int)] 83)).drewN nq:=⟨_,rfl⟩
 rw [<- hw5]
 have hE5 : Ev F w F2 w5:=by rw [hw5]; exact hE3.out.drewN nq
 have hP5 : PgAt w5 F2 gp st1:=by rw [hw5]; exact hP3.out.drewN nq
 have hs5 : w5.heap.size=w2.heap.size + 1:=by rw [hw5]; simp [World.drewN]
 have t0 : w5.cell? ⟨w.heap.size,0,none⟩=some (.pointer (some ⟨gt,0,none⟩)):=by rw [hw5]; exact t0
 have r0 : w5.cell? ⟨w2.heap.size,0,none⟩=some (.slice A0 KL y0):=by rw [hw5]; exact t4
 have r1 : w5.cell? ⟨w2.heap.size,1,none⟩=some (.slice A1 VL y1):=by rw [hw5]; exact t5
 have r2 : w5.cell? ⟨w2.heap.size,2,none⟩=some (.int .i64 (OV : Int)):=by rw [hw5]; exact t6
 have r3 : w5.cell? ⟨w2.heap.size,3,none⟩=some (.int .i64 (LG : Int)):=by rw [hw5]; exact t7
 have ht5:=ht.out.ev hE5
 have hgcF : ¬ F2 w2.heap.size:=fun hf => by have:=hP2.out.lt _ hf; omega
 have hc5 : Blk w5 w2.heap.size 83 #[.slice A0 KL y0,.slice A1 VL y1,.int .i64 (OV : Int),.int .i64 (LG : Int)]:=by rw [hw5]; exact hc3.out.drewN nq
 have hb5 : Blk w5 w.heap.size 30 #[.pointer (some ⟨gt,0,none⟩)]:=by rw [hw5]; exact hb3.out.drewN nq
 have hcv5 : CellV (byteOf F2 w5) w5 [.slice A0 KL y0,.slice A1 VL y1,.int .i64 (OV : Int),.int .i64 (LG : Int)] c:=CellV.keep (w:=w2) (G:=byteOf F2 w2) hcv.out fun q hq => by
   obtain ⟨q1,cs,q2⟩:=hq
   have q3 : Blk w5 q 5 cs:=by rw [hw5]; exact (q2.alloc _).drewN nq
   exact ⟨⟨⟨Blk.lt q3,q1.2⟩,cs,q3⟩,Eq.trans q3 q2.symm⟩
 have hop : OpG 39 #[.pointer (some ⟨w2.heap.size,0,none⟩),.pointer (some ⟨w.heap.size,0,none⟩)] (putOp c) w5 F2 gp st1:=put1_op w5 F2 gp gt k st1 (hcr.out.ok ho.out) ht5 w2.heap.size w.heap.size c _ _ _ _ hc5 hgcF hb5 hnF2.out hcv5
 have hk5:=hk.out.ev hE5
 rw [hL.out] at hk5
 have hch:=hide (tchange_any gt gp k kA kc key 39 #[.pointer (some ⟨w2.heap.size,0,none⟩),.pointer (some ⟨w.heap.size,0,none⟩)] (putOp c) put1_fn (putOp_ok c) hch0.out (hcr.out.ok ho.out) w5 F2 hP5 ht5 hk5 hop)
 rw [<- hL.out] at hch
 clear hop hk5
 replace hw5:=hide hw5
 replace hs5:=hide hs5
 replace hE5:=hide hE5
 replace hP5:=hide hP5
 replace ht5:=hide ht5
 replace hc5:=hide hc5
 replace hcv5:=hide hcv5
 replace hb5:=hide hb5
 replace hgcF:=hide hgcF
 clear hrt
 go_wp2_with fail
 go_at_call 38
 refine hch.out.mono ?_
 rintro e w8 ⟨F8,gl,m,rfl,hP8,hE8,hgl,hnl,hb8⟩
 have hE8w:=hE5.out.trans hE8
 have u0 : w8.cell? ⟨w.heap.size,0,none⟩=some (.pointer (some ⟨gt,0,none⟩)):=(hE8.cell (p:=⟨w.heap.size,0,none⟩) ⟨by have:=hs5.out; show w.heap.size < w5.heap.size; omega,hnF2.out⟩).trans t0
 have htp:=hide (top_any w8 F8 gt gp k st2 st3 hP8 (ht.out.ev hE8w) hk8 (hch0.out.ok (putOp_ok c) (hcr.out.ok ho.out)) gl no m l hb8 hnl htop.out)
 replace hE8w:=hide hE8w
 replace hE8:=hide hE8
 replace hP8:=hide hP8
 replace hb8 : Hid _:=hide hb8
 go_wp2_with fail
 go_at_call 42
 refine htp.out.mono ?_
 rintro e w9 ⟨rfl,F9,hP9,hE9⟩
 have hdone : Hid (PgEnd F w gp st3 (.int .i64 0) (.returned (.int .i64 0)) w9):=hide ⟨rfl,F9,hP9,hE8w.out.trans hE9⟩
 replace hP9:=hide hP9
 replace hE9:=hide hE9
 go_wp2_with fail
 go_ret
 exact hdone.out
theorem tput_any (w : World) (F : Nat->Prop) (gt gp k : Nat) (st st' : PgS) (h : PgAt w F gp st) (ht : TreeAt w F gt gp k) (hk8 : k < 8) (key b : List UInt8) (kA vA : Option Addr) (kc vc : Nat) (hk : MB F w kA key.length key) (hv : MB F w vA b.length b)
   (h1 : 1<=key.length) (h2 : key.length<=120) (h3 : b.length<=20000) (hvc : b.length<=vc) (ho : st.ok) (hr : PutR k st key b st') :
   Calls Tryz.prog 11 #[.pointer (some ⟨gt,0,none⟩),.slice kA key.length kc,.slice vA b.length vc] w (PgEnd F w gp st' (.int .i64 0)):=by
 cases hr with
 | first st1 c hc h0 ha hs he =>
   subst he
   have hok:=hc.ok ho
   exact put_firstG w F gt gp k st h ht hk8 key b kA vA kc vc hk hv h1 h2 h3 hvc ho st1 c hc h0 ha hok.free hs ((hok.alloc ha).2).2
 | more st1 st2 c l hc h0 hh htop =>
   exact put_moreG w F gt gp k st h ht hk8 key b kA vA kc vc hk hv h1 h2 h3 hvc ho st1 c hc _ rfl h0 st2 st' l hh htop
theorem del1_fn : ∀ args wx,(callFunc 52 args).run Tryz.prog wx=.ok (.enter 52 args) wx:=fun args wx => by
 have h:=Tryz.func52
 simp [callFunc,Sem.run_bind,go_sem,h,Tryz.f52]
theorem del1_op (w : World) (F : Nat->Prop) (gp gt k : Nat) (st : PgS) (ho : st.ok) (ht : TreeAt w F gt gp k) (gx : Nat) (hx : Blk w gx 30 #[.pointer (some ⟨gt,0,none⟩)]) (hxF : ¬ F gx) : OpG 52 #[.pointer (some ⟨gx,0,none⟩)] delOp w F gp st:=by
 intro n i is st1 n1 hor hil hr w1 F1 gn B B0 cv kv hP hE hW hb hn h0 h1 h2 h3
 have hmany:=hr.many
 obtain ⟨old,hi,hd,rfl⟩:=hor
 have hold : old.long<=20000:=by
   have h9:=hr.vals old (List.mem_of_getElem? hi)
   split at h9
   · rcases h9 with h9 | h9
     · omega
     · omega
   · have:=h9.2.1; omega
 exact del1_any w1 F1 gp gt k st st1 hP (ht.ev hE) ho gn gx B B0 i is cv kv n old hW hb (hE.blk hx hxF) hi hd hold (by omega) h1 h2 hn
set_option maxHeartbeats 2000000 in
theorem tdel_no (w : World) (gt : Nat) (kA : Option Addr) (L kc : Nat) (Q : World->Prop)
   (hget : Calls Tryz.prog 14 #[.pointer (some ⟨gt,0,none⟩),.slice kA L kc] (w.alloc (.cells #[.pointer (some ⟨gt,0,none⟩)] 30)) fun e w' => e=.returned (.tuple #[.slice none 0 0,.bool false,.int .i64 0])/\Q w') :
   Calls Tryz.prog 20 #[.pointer (some ⟨gt,0,none⟩),.slice kA L kc] w fun e w' => e=.returned (.tuple #[.bool false,.int .i64 0])/\Q w':=by
 have c0 : (w.alloc (.cells #[.pointer (some ⟨gt,0,none⟩)] 30)).cell? ⟨w.heap.size,0,none⟩=some (.pointer (some ⟨gt,0,none⟩)):=(Blk.new w 30 #[.pointer (some ⟨gt,0,none⟩)]).cell 0
 replace hget:=hide hget
 go_enter Tryz.func20,Tryz.ntmps20
 go_wp2_with fail
 go_at_call 14
 refine hget.out.mono ?_
 rintro e w2 ⟨rfl,hQ⟩
 replace hQ:=hide hQ
 clear hget c0
 go_wp2_with fail
 go_ret2
 exact ⟨rfl,hQ.out⟩
set_option maxHeartbeats 2000000 in
theorem tdel_yes (w : World) (F : Nat->Prop) (gt gp k : Nat) (st st' : PgS) (h : PgAt w F gp st) (ht : TreeAt w F gt gp k) (hk8 : k < 8) (ho : st.ok) (kA : Option Addr) (kc : Nat) (key : List UInt8) (hk : MB F w kA key.length key) (hr : DelR k st key st')
   (hget : Calls Tryz.prog 14 #[.pointer (some ⟨gt,0,none⟩),.slice kA key.length kc] (w.alloc (.cells #[.pointer (some ⟨gt,0,none⟩)] 30)) fun e w' => (∃ vA vl vc,e=.returned (.tuple #[.slice vA vl vc,.bool true,.int .i64 0]))/\∃ F',PgAt w' F' gp st/\Ev F (w.alloc (.cells #[.pointer (some ⟨gt,0,none⟩)] 30)) F' w') :
   Calls Tryz.prog 20 #[.pointer (some ⟨gt,0,none⟩),.slice kA key.length kc] w (PgEnd F w gp st' (.tuple #[.bool true,.int .i64 0])):=by
 obtain ⟨st2,l,hch0,htop⟩:=hr
 obtain ⟨R,hR⟩ : ∃ R,R=st.roots k:=⟨_,rfl⟩
 rw [<- hR] at hch0 htop
 obtain ⟨L,hL⟩ : ∃ L,L=key.length:=⟨_,rfl⟩
 rw [<- hL] at hk hget ⊢
 have hE0 : Ev F w F (w.alloc (.cells #[.pointer (some ⟨gt,0,none⟩)] 30)):=(Ev.refl F w).alloc_ _
 have hb0:=Blk.new w 30 #[.pointer (some ⟨gt,0,none⟩)]
 have c0 : (w.alloc (.cells #[.pointer (some ⟨gt,0,none⟩)] 30)).cell? ⟨w.heap.size,0,none⟩=some (.pointer (some ⟨gt,0,none⟩)):=hb0.cell 0
 have hgt:=Blk.lt ht.blk
 have hnF : ¬ F w.heap.size:=fun hf => by have:=h.lt _ hf; omega
 obtain ⟨gb,hgb⟩ : ∃ gb,gb=w.heap.size:=⟨_,rfl⟩
 rw [<- hgb] at hb0 hnF
 replace h:=hide h
 replace ht:=hide ht
 replace hk:=hide hk
 replace hL:=hide hL
 replace hR:=hide hR
 replace hE0:=hide hE0
 replace hb0:=hide hb0
 replace ho:=hide ho
 replace hnF:=hide hnF
 replace hch0:=hide hch0
 replace htop:=hide htop
 replace hget:=hide hget
 go_enter Tryz.func20,Tryz.ntmps20
 go_wp2_with fail
 go_at_call 14
 refine hget.out.mono ?_
 rintro e w2 ⟨⟨vA,vl,vc,rfl⟩,F2,hP2,hE02⟩
 have hE2:=hE0.out.trans hE02
 have ht2:=ht.out.ev hE2
 have hb2:=hE02.blk hb0.out hnF.out
 have hnF2 : ¬ F2 gb:=hE02.new hnF.out (Blk.lt hb0.out)
 have hrt:=hide (fun q => root_any (w2.drewN q) F2 gp st (hP2.drewN q) k hk8)
 rw [<- hR.out] at hrt
 have b0 : w2.cell? ⟨gb,0,none⟩=some (.pointer (some ⟨gt,0,none⟩)):=hb2.cell 0
 have t1 : w2.cell? ⟨gt,0,none⟩=some (.pointer (some ⟨gp,0,none⟩)):=ht2.blk.cell 0
 have t2 : w2.cell? ⟨gt,1,none⟩=some (.int .i64 (k : Int)):=ht2.blk.cell 1
 have hk2:=hk.out.ev hE2
 have hch : Hid (∀ q,Calls Tryz.prog 38 #[.pointer (some ⟨gt,0,none⟩),.int .i64 (R : Int),.slice kA L kc,.func (.func 52) #[] #[.pointer (some ⟨gb,0,none⟩)]] (w2.drewN q) fun e w' => (∃ F8 gl m,e=.returned (.tuple #[.slice (some ⟨gl,0,none⟩) m m,.int .i64 0])/\PgAt w' F8 gp st2/\Ev F w F8 w'/\¬ F8 gl/\PiecesAt F8 w' gl R m l)/\w'.cell? ⟨gb,0,none⟩=some (.pointer (some ⟨gt,0,none⟩))/\w'.cell? ⟨gt,0,none⟩=some (.pointer (some ⟨gp,0,none⟩))/\w'.cell? ⟨gt,1,none⟩=some (.int .i64 (k : Int))):=hide (fun q => by
   have hEq : Ev F2 w2 F2 (w2.drewN q):=(Ev.refl F2 w2).drewN q
   have h9:=tchange_any gt gp k kA kc key 52 #[.pointer (some ⟨gb,0,none⟩)] delOp del1_fn delOp_ok hch0.out ho.out (w2.drewN q) F2 (hP2.drewN q) (ht2.ev hEq) (by rw [<- hL.out]; exact hk2.ev hEq) (del1_op _ F2 gp gt k st ho.out (ht2.ev hEq) gb (hEq.blk hb2 hnF2) hnF2)
   rw [<- hL.out] at h9
   refine h9.mono ?_
   rintro e w8 ⟨F8,gl,m,rfl,hP8,hE8,hgl,hnl,hb8⟩
   have hE:=hE2.trans (hEq.trans hE8)
   have ht8:=ht.out.ev hE
   exact ⟨⟨F8,gl,m,rfl,hP8,hE,hnl,hb8⟩,((hEq.trans hE8).blk hb2 hnF2).cell 0,ht8.blk.cell 0,ht8.blk.cell 1⟩)
 replace hP2:=hide hP2
 replace hE02:=hide hE02
 replace hE2:=hide hE2
 replace ht2:=hide ht2
 replace hb2:=hide hb2
 replace hnF2:=hide hnF2
 replace hk2:=hide hk2
 clear hget c0
 rw [<- hgb]
 replace hgb:=hide hgb
 go_wp2_with fail
 go_cut [8,9] (fun v8 v9 wx => v8=.int .i64 0/\∃ F8 gl m,v9=.slice (some ⟨gl,0,none⟩) m m/\wx.cell? ⟨gb,0,none⟩=some (.pointer (some ⟨gt,0,none⟩))/\Hid (PgAt wx F8 gp st2/\Ev F w F8 wx/\¬ F8 gl/\PiecesAt F8 wx gl R m l))
 case first =>
   go_region_held3 (fun w' => w'.cell? ⟨gb,0,none⟩=some (.pointer (some ⟨gt,0,none⟩))/\w'.cell? ⟨gt,0,none⟩=some (.pointer (some ⟨gp,0,none⟩))/\w'.cell? ⟨gt,1,none⟩=some (.int .i64 (k : Int))) (first | exact ⟨b0,t1,t2⟩ | exact ⟨c0,c1,c2⟩) (first | (go_at_call 23; refine (hrt.out _).mono ?_; rintro e w3 ⟨rfl,rfl⟩) | (go_at_call 38; refine (hch.out _).mono ?_; rintro e w3 ⟨⟨F8,gl,m,rfl,q1,q2,q3,q4⟩,c0,c1,c2⟩; have q5 : Hid (PgAt w3 F8 gp st2/\Ev F w F8 w3/\¬ F8 gl/\PiecesAt F8 w3 gl R m l):=hide ⟨q1,q2,q3,q4⟩; clear q1 q2 q3 q4))
   all_goals go_wp2_with fail
   all_goals go_meet
   all_goals exact ⟨rfl,F8,gl,m,rfl,c0,q5⟩
 case rest =>
   obtain ⟨rfl,F8,gl,m,rfl,b8,hQ⟩:=hcut
   have htp:=hide (top_any _ F8 gt gp k st2 st' hQ.out.1 (ht.out.ev hQ.out.2.1) hk8 (hch0.out.ok delOp_ok ho.out) gl R m l hQ.out.2.2.2 hQ.out.2.2.1 htop.out)
   have hEq:=hide hQ.out.2.1
   clear hrt hch b0 t1 t2
   go_wp2_with fail
   go_at_call 42
   refine htp.out.mono ?_
   rintro e w9 ⟨rfl,F9,hP9,hE9⟩
   have hdone : Hid (PgEnd F w gp st' (.tuple #[.bool true,.int .i64 0]) (.returned (.tuple #[.bool true,.int .i64 0])) w9):=hide ⟨rfl,F9,hP9,hEq.out.trans hE9⟩
   replace hP9:=hide hP9
   replace hE9:=hide hE9
   clear htp b8
   go_wp2_with fail
   go_ret2
   exact hdone.out
end Go.Proofs.YtiiljlmeililbaaGreatDoor
