/-
  Nodes in memory; contracts of node.child, node.cell, node.Right.
-/
import Derived.Test.YtiiljlmeililbaaGreatDoorBeGr3
import Derived.Test.YtiiljlmeililbaaGreatDoorBeCmp
import Derived.Test.YtiiljlmeililbaaGreatDoorBeGr10
import Derived.IntWalk
namespace Go.Proofs.YtiiljlmeililbaaGreatDoor
set_option linter.unusedVariables false
set_option maxRecDepth 100000
open Go.RowKit
def CellV (G : Nat->Prop) (w : World) (vs : List Value) (c : CellP) : Prop :=
 ∃ kA kc vA vc, vs = [.slice kA c.key.length kc, .slice vA c.val.length vc, .int .i64 (c.over : Int), .int .i64 (c.long : Int)] /\ c.key.length <= kc /\ c.val.length <= vc /\
   Rd G w 1 kA c.key.length (bv c.key)/\Rd G w 1 vA c.val.length (bv c.val)
def CellsM (G : Nat->Prop) (w : World) (A : Option Addr) (cs : List CellP) : Prop :=
 ∃ rows : List (List Value),rows.length=cs.length/\Rd G w 4 A cs.length rows.flatten/\∀ (k : Nat) (vs : List Value) (c : CellP),rows[k]?=some vs->cs[k]?=some c->CellV G w vs c
def NodeM (G : Nat->Prop) (w : World) (v : Value) (n : NodeP) : Prop :=
 ∃ A c B d,v=.agg #[.bool n.leaf,.slice A n.cells.length c,.slice B n.kids.length d]/\n.cells.length<=c/\n.kids.length<=d/\CellsM G w A n.cells/\Rd G w 1 B n.kids.length (n.kids.map encI)
section
variable {G G' F F' : Nat->Prop} {w w' : World} {A : Option Addr} {cs : List CellP} {vs : List Value} {c : CellP} {n : NodeP} {v : Value}
theorem CellV.keep (h : CellV G w vs c) (hk : ∀ k,G k->G' k/\w'.heap[k]?=w.heap[k]?) : CellV G' w' vs c:=by
 obtain ⟨kA,kc,vA,vc,e,h1,h2,h3,h4⟩:=h
 exact ⟨kA,kc,vA,vc,e,h1,h2,h3.keep hk,h4.keep hk⟩
theorem CellsM.keep (h : CellsM G w A cs) (hk : ∀ k,G k->G' k/\w'.heap[k]?=w.heap[k]?) : CellsM G' w' A cs:=by
 obtain ⟨rows,h1,h2,h3⟩:=h
 exact ⟨rows,h1,h2.keep hk,fun k vs c e1 e2 => (h3 k vs c e1 e2).keep hk⟩
theorem NodeM.keep (h : NodeM G w v n) (hk : ∀ k,G k->G' k/\w'.heap[k]?=w.heap[k]?) : NodeM G' w' v n:=by
 obtain ⟨A,c,B,d,e,h1,h2,h3,h4⟩:=h
 exact ⟨A,c,B,d,e,h1,h2,h3.keep hk,h4.keep hk⟩
theorem NodeM.ev (h : NodeM (Mine F w) w v n) (he : Ev F w F' w') : NodeM (Mine F' w') w' v n:=h.keep fun k hk => ⟨he.mine hk,he.block hk⟩
theorem NodeM.mono (h : NodeM G w v n) (hk : ∀ k,G k->G' k) : NodeM G' w v n:=h.keep fun k hG => ⟨hk k hG,rfl⟩
theorem CellV.mono (h : CellV G w vs c) (hk : ∀ k,G k->G' k) : CellV G' w vs c:=h.keep fun k hG => ⟨hk k hG,rfl⟩
theorem flatten_at4 {rows : List (List Value)} (h4 : ∀ r ∈ rows,r.length=4) : ∀ (k j : Nat) (vs : List Value) (u : Value),rows[k]?=some vs->vs[j]?=some u->rows.flatten[k * 4 + j]?=some u:=by
 induction rows with
 | nil => intro k j vs u h; simp at h
 | cons r t ih =>
   intro k j vs u h hu
   have hr : r.length=4:=h4 r (.head _)
   cases k with
   | zero =>
     simp at h
     subst h
     have hj:=(List.getElem?_eq_some_iff.1 hu).1
     rw [List.flatten_cons,List.getElem?_append_left (by omega),Nat.zero_mul,Nat.zero_add]
     exact hu
   | succ k =>
     rw [List.getElem?_cons_succ] at h
     rw [List.flatten_cons,List.getElem?_append_right (by omega),hr,show (k + 1) * 4 + j - 4=k * 4 + j from by omega]
     exact ih (fun r hr => h4 r (.tail _ hr)) k j vs u h hu
structure CellHere (G : Nat->Prop) (w : World) (p : Addr) (c : CellP) (kA vA : Option Addr) (kc vc : Nat) : Prop where
 c0 : w.cell? p=some (.slice kA c.key.length kc)
 c1 : w.cell? ⟨p.block,p.off + 1,none⟩=some (.slice vA c.val.length vc)
 c2 : w.cell? ⟨p.block,p.off + 2,none⟩=some (.int .i64 (c.over : Int))
 c3 : w.cell? ⟨p.block,p.off + 3,none⟩=some (.int .i64 (c.long : Int))
 kle : c.key.length<=kc
 vle : c.val.length<=vc
 key : Rd G w 1 kA c.key.length (bv c.key)
 val : Rd G w 1 vA c.val.length (bv c.val)
 blk : G p.block
theorem addr_pos (p : Addr) (j : Nat) (h : j ≠ 0) : p.add j=⟨p.block,p.off + j,none⟩:=by
 unfold Addr.add; rw [if_neg h]
theorem CellsM.rows4 {rows : List (List Value)} (h1 : rows.length=cs.length) (h3 : ∀ (k : Nat) (vs : List Value) (c : CellP),rows[k]?=some vs->cs[k]?=some c->CellV G w vs c) : ∀ r ∈ rows,r.length=4:=by
 intro r hr
 obtain ⟨k,hk,e⟩:=List.getElem_of_mem hr
 obtain ⟨kA,kc,vA,vc,e2,_⟩:=h3 k r cs[k] (by rw [List.getElem?_eq_getElem hk,e]) (List.getElem?_eq_getElem (by omega))
 rw [e2]; rfl
theorem CellsM.at_ (h : CellsM G w A cs) (k : Nat) (hk : k < cs.length) : ∃ ad kA vA kc vc,A=some ad/\CellHere G w (ad.add (k * 4)) cs[k] kA vA kc vc:=by
 obtain ⟨rows,h1,h2,h3⟩:=h
 have h4:=CellsM.rows4 h1 h3
 have hkr : k < rows.length:=by omega
 obtain ⟨kA,kc,vA,vc,e,g1,g2,g3,g4⟩:=h3 k rows[k] cs[k] (List.getElem?_eq_getElem hkr) (List.getElem?_eq_getElem hk)
 obtain ⟨ad,eA,hb,hc⟩:=h2.2 (by omega)
 have hrow : ∀ j u,rows[k][j]?=some u->w.cell? ((ad.add (k * 4)).add j)=some u:=by
   intro j u hu
   rw [add_of_add]
   exact hc _ u (flatten_at4 h4 k j _ u (List.getElem?_eq_getElem hkr) hu)
 refine ⟨ad,kA,vA,kc,vc,eA,?_,?_,?_,?_,g1,g2,g3,g4,by rw [block_of_add]; exact hb⟩
 · have := hrow 0 (.slice kA cs[k].key.length kc) (by rw [e]; rfl)
   simpa [Addr.add] using this
 · have := hrow 1 (.slice vA cs[k].val.length vc) (by rw [e]; rfl)
   rwa [addr_pos _ 1 (by decide)] at this
 · have := hrow 2 (.int .i64 (cs[k].over : Int)) (by rw [e]; rfl)
   rwa [addr_pos _ 2 (by decide)] at this
 · have := hrow 3 (.int .i64 (cs[k].long : Int)) (by rw [e]; rfl)
   rwa [addr_pos _ 3 (by decide)] at this
end
theorem child_any (w : World) (k : Nat) (hk : childN k) : Calls Tryz.prog 136 #[.int .i64 (k : Int)] w fun e w' => e=.returned (.bool true)/\w=w':=by
 have h1 : (1 : Int)<=(k : Int):=by have:=hk.1; omega
 have h2 : (k : Int) < 16777216:=by have:=hk.2; omega
 go_enter Tryz.func136,Tryz.ntmps136
 go_wp2_with fail
 go_ret
 exact ⟨rfl,rfl⟩
theorem ncell_any (w : World) (c : CellP) (hc : CellOk c) (kA vA : Option Addr) (kl kc vc : Nat) :
   Calls Tryz.prog 133 #[.agg #[.slice kA kl kc,.slice vA c.val.length vc,.int .i64 (c.over : Int),.int .i64 (c.long : Int)]] w fun e w' => e=.returned (.bool true)/\Below w.heap.size w w':=by
 have hB:=(Below.refl w.heap.size w).alloc (Nat.le_refl _) (.cells #[.slice kA kl kc,.slice vA c.val.length vc,.int .i64 (c.over : Int),.int .i64 (c.long : Int)] 83)
 have hb:=Blk.new w 83 #[.slice kA kl kc,.slice vA c.val.length vc,.int .i64 (c.over : Int),.int .i64 (c.long : Int)]
 rcases hc with ⟨h1,h2,h3⟩ | ⟨h1,h2,h3,h4⟩
 · have hI : (c.val.length : Int) <= 64 := by omega
   rw [h1,h2] at hb hB ⊢
   replace h1:=hide h1
   replace h2:=hide h2
   replace hb:=hide hb
   replace hB:=hide hB
   go_enter Tryz.func133,Tryz.ntmps133
   go_wp2_with fail
   go_ret
   exact ⟨rfl,hB.out⟩
 · have hch := hide (fun wz => child_any wz c.over h1)
   have hne : ((c.over : Int) == 0)=false:=by rw [beq_eq_false_iff_ne]; have:=h1.1; omega
   have hl1 : (64 : Int) < (c.long : Int):=by omega
   have hl2 : (c.long : Int)<=20000:=by omega
   have hv0 : c.val.length=0:=by rw [h4]; rfl
   rw [hv0] at hb hB ⊢
   replace h4:=hide h4
   replace hv0:=hide hv0
   replace hb:=hide hb
   replace hB:=hide hB
   go_enter Tryz.func133,Tryz.ntmps133
   go_wp2_with (first | (go_at_call 136; refine (hch.out _).mono ?_; rintro e w2 ⟨rfl,rfl⟩))
   go_ret
   exact ⟨rfl,hB.out⟩
theorem Rd.shape {G : Nat->Prop} {w : World} {size n : Nat} {A : Option Addr} {xs : List Value} (h : Rd G w size A n xs) (h0 : 0 < n) (hs : 0 < size) : ∃ b o,A=some ⟨b,o,none⟩/\G b:=by
 obtain ⟨ad,rfl,hb,hc⟩:=h.2 h0
 have hl : 0 < xs.length:=by rw [h.1]; exact Nat.mul_pos h0 hs
 have hx:=hc 0 _ (List.getElem?_eq_getElem hl)
 obtain ⟨b,o,s⟩:=ad
 cases s with
 | none => exact ⟨b,o,rfl,hb⟩
 | some s =>
   exfalso
   have e : (Addr.mk b o (some s)).add 0=⟨b,o,some s⟩:=rfl
   rw [e] at hx
   unfold World.cell? at hx
   cases hw : w.heap[b]? with
   | none => simp [hw] at hx
   | some ob => cases ob <;> simp [hw] at hx
theorem lamR_any (w : World) (k : Nat) (hk : childN k) : Calls Tryz.prog 135 #[.int .i64 (k : Int)] w fun e w' => e=.returned (.bool false)/\w=w':=by
 have hc:=hide (child_any w k hk)
 go_enter Tryz.func135,Tryz.ntmps135
 go_wp2_with fail
 refine hc.out.mono ?_
 rintro e w2 ⟨rfl,rfl⟩
 go_wp2_with fail
 go_ret
 exact ⟨rfl,rfl⟩
theorem indexF_any (w : World) (B : Nat) (A : Option Addr) (n c : Nat) (ks : List Nat) (hr : RN w B A n ks) (hk : ∀ k ∈ ks,childN k) (hn : n<=70000) :
   Calls Tryz.prog 148 #[.slice A n c,.func (.func 135) #[] #[]] w fun e w' => e=.returned (.int .i64 (-1))/\w=w':=by
 have hl:=hide hr.len
 have hk2 : Hid (∀ i,i < n->childN (ks.getD i 0)):=hide fun i hi => by
   have h1 : i < ks.length:=by have:=hl.out; omega
   rw [List.getD_eq_getElem?_getD,List.getElem?_eq_getElem h1]
   exact hk _ (List.getElem_mem h1)
 have hr2:=hide hr
 clear hr hk
 go_enter Tryz.func148,Tryz.ntmps148
 go_wp2_with fail
 go_loopw [8] (fun v8 wx => ∃ i : Nat,v8=.int .i64 (i : Int)/\i<=n/\wx=w) (fun v8 _ => n - (intOf v8).toNat)
 case atStart => exact ⟨0,rfl,Nat.zero_le _,rfl⟩
 case round =>
   obtain ⟨i,rfl,hi,hwx⟩:=hrel
   subst hwx
   rcases Nat.lt_or_ge i n with hlt | hge
   · have hI : (i : Int) < (n : Int) := by omega
     obtain ⟨ad,rfl,hb,hc⟩:=hr2.out.elem hlt
     have hcl:=hide (lamR_any wr (ks.getD i 0) (hk2.out i hlt))
     have hiI : (i : Int)<=70000:=by omega
     go_wp2_with fail
     refine hcl.out.mono ?_
     rintro e w2 ⟨rfl,rfl⟩
     go_wp2_with fail
     go_roundw
     case rel => exact ⟨i + 1,by simp,by omega,by first | rfl | trivial⟩
     case measure => simp [intOf]; omega
   · have hI : ¬ (i : Int) < (n : Int) := by omega
     have hI2 : (n : Int)<=(i : Int):=by omega
     go_wp2_with fail
     go_ret
     exact ⟨rfl,rfl⟩
theorem contains_any (w : World) (B : Nat) (A : Option Addr) (n c : Nat) (ks : List Nat) (hr : RN w B A n ks) (hk : ∀ k ∈ ks,childN k) (hn : n<=70000) :
   Calls Tryz.prog 134 #[.slice A n c,.func (.func 135) #[] #[]] w fun e w' => e=.returned (.bool false)/\w=w':=by
 have hc:=hide (indexF_any w B A n c ks hr hk hn)
 clear hr hk
 go_enter Tryz.func134,Tryz.ntmps134
 go_wp2_with fail
 refine hc.out.mono ?_
 rintro e w2 ⟨rfl,rfl⟩
 go_wp2_with fail
 go_ret
 exact ⟨rfl,rfl⟩
theorem rise_at : ∀ (cs : List CellP),RiseC cs->∀ (i : Nat) (h : i + 1 < cs.length),ltK cs[i].key cs[i + 1].key=true
 | [],_,i,h => by simp at h
 | c :: r,hr,0,h => hr.1 _ (List.getElem_mem (by simp at h; omega))
 | c :: r,hr,i + 1,h => rise_at r hr.2 i (by simp at h; omega)
def Old (w : World) (k : Nat) : Prop:=k < w.heap.size
theorem CellHere.below {w w' : World} {p : Addr} {c : CellP} {kA vA : Option Addr} {kc vc : Nat} {B : Nat} (h : CellHere (fun k => k < B) w p c kA vA kc vc) (hb : Below B w w') : CellHere (fun k => k < B) w' p c kA vA kc vc :=
 ⟨(hb.cell (p:=p) h.blk).trans h.c0,(hb.cell (p:=⟨p.block,p.off + 1,none⟩) h.blk).trans h.c1,(hb.cell (p:=⟨p.block,p.off + 2,none⟩) h.blk).trans h.c2,(hb.cell (p:=⟨p.block,p.off + 3,none⟩) h.blk).trans h.c3,h.kle,h.vle,
   h.key.keep fun k hk => ⟨hk,hb.block k hk⟩,h.val.keep fun k hk => ⟨hk,hb.block k hk⟩,h.blk⟩
set_option maxHeartbeats 2000000 in
theorem right_any (w : World) (v : Value) (n : NodeP) (hn : NodeM (Old w) w v n) (hr : RightP n) : Calls Tryz.prog 87 #[v] w fun e w' => e=.returned (.bool true)/\Below w.heap.size w w':=by
 obtain ⟨A,c,B,d,rfl,hc,hd,hcs,hks⟩:=hn
 obtain ⟨M,hM⟩ : ∃ M,M=n.cells.length:=⟨_,rfl⟩
 obtain ⟨K,hK⟩ : ∃ K,K=n.kids.length:=⟨_,rfl⟩
 obtain ⟨lf,hlf⟩ : ∃ lf,lf=n.leaf:=⟨_,rfl⟩
 have hmany:=hr.many
 rw [<- hM,<- hK,<- hlf]
 rw [<- hM] at hc hmany
 have hkl:=hr.kidsLeaf
 have hki:=hr.kidsIn
 rw [<- hlf] at hkl hki
 have hK1 : lf=true->(K : Int)=0:=fun h => by rw [hK,hkl h]; rfl
 have hK2 : lf=false->(K : Int)=(M : Int) + 1:=fun h => by rw [hK,hki h,hM]; omega
 have hMI : decide ((65536 : Int)<=(M : Int))=false:=by rw [decide_eq_false_iff_not]; omega
 have hMI2 : decide (65536<=M)=false:=by rw [decide_eq_false_iff_not]; omega
 have hKB : K<=70000:=by
   cases lf with
   | true => have:=hK1 rfl; omega
   | false => have:=hK2 rfl; omega
 have hco : Hid (∀ wz,Below w.heap.size w wz->Calls Tryz.prog 134 #[.slice B K d,.func (.func 135) #[] #[]] wz fun e w' => e=.returned (.bool false)/\wz=w'):=hide fun wz hb => by
   have h1 : RN w w.heap.size B K n.kids:=by rw [hK]; exact hks.reads fun k hk => hk
   exact contains_any wz _ B K d n.kids (h1.below hb) hr.kidsOk hKB
 have hat : Hid (∀ i,i < M->∃ x ad kA vA kc vc,n.cells[i]?=some x/\x ∈ n.cells/\A=some ad/\CellHere (Old w) w (ad.add (i * 4)) x kA vA kc vc):=hide fun i hi => by
   have hil : i < n.cells.length:=by omega
   obtain ⟨ad,kA,vA,kc,vc,h1,h2⟩:=hcs.at_ i hil
   exact ⟨n.cells[i],ad,kA,vA,kc,vc,List.getElem?_eq_getElem hil,List.getElem_mem hil,h1,h2⟩
 replace hr:=hide hr
 replace hM:=hide hM
 replace hK:=hide hK
 replace hlf:=hide hlf
 replace hcs:=hide hcs
 replace hks:=hide hks
 replace hmany:=hide hmany
 replace hKB:=hide hKB
 clear hkl hki hd hc
 cases lf with
 | true =>
   have hK0:=hK1 rfl
   clear hK1 hK2
   have hB0 : Hid (Below w.heap.size w (w.alloc (.cells #[.bool true,.slice A M c,.slice B K d] 89))):=hide ((Below.refl _ _).alloc (Nat.le_refl _) _)
   have hN0 : Hid (Blk (w.alloc (.cells #[.bool true,.slice A M c,.slice B K d] 89)) w.heap.size 89 #[.bool true,.slice A M c,.slice B K d]):=hide (Blk.new _ _ _)
   go_enter Tryz.func87,Tryz.ntmps87
   go_wp2_with fail
   go_loopw [37] (fun v37 wx => ∃ i : Nat,v37=.int .i64 (i : Int)/\i<=M/\Hid (Below w.heap.size w wx)/\Hid (Blk wx w.heap.size 89 #[.bool true,.slice A M c,.slice B K d])) (fun v37 _ => M - (intOf v37).toNat)
   case atStart => exact ⟨0,rfl,Nat.zero_le _,hB0,hN0⟩
   case round =>
     clear hB0 hN0
     obtain ⟨i,rfl,hi,hbr,hnb⟩:=hrel
     have n0:=hnb.out.cell 0
     have n1:=hnb.out.cell 1
     have n2:=hnb.out.cell 2
     rcases Nat.lt_or_ge i M with hlt | hge
     · have hI : (i : Int) < (M : Int) := by omega
       have hiB : (i : Int)<=70000:=by have:=hmany.out; omega
       obtain ⟨x,ad,kA,vA,kc,vc,hx,hxm,eA,hh⟩:=hat.out i hlt
       have hw:=CellHere.below (B:=w.heap.size) hh hbr.out
       have hkey:=hr.out.keys x hxm
       have hval:=hr.out.vals x hxm
       rw [<- hlf.out] at hval
       replace hx:=hide hx
       replace hxm:=hide hxm
       have c0:=hw.c0
       have c1:=hw.c1
       have c2:=hw.c2
       have c3:=hw.c3
       have hk1 : (1 : Int)<=(x.key.length : Int):=by omega
       have hk2 : (x.key.length : Int)<=120:=by omega
       obtain ⟨KL,hKL⟩ : ∃ KL,KL=x.key.length:=⟨_,rfl⟩
       have hkey2:=hh.key
       rw [<- hKL] at c0 hk1 hk2 hkey2
       obtain ⟨VL,hVL⟩ : ∃ VL,VL=x.val.length:=⟨_,rfl⟩
       rw [<- hVL] at c1
       have hce:=hide (fun wz => ncell_any wz x (by simpa using hval) kA vA KL kc vc)
       rw [<- hVL] at hce
       replace hVL:=hide hVL
       have hB1 : Hid (Below w.heap.size w (wr.alloc (.cells #[.slice kA KL kc,.slice vA VL vc,.int .i64 (x.over : Int),.int .i64 (x.long : Int)] 83))):=hide (hbr.out.alloc (hbr.out.size) _)
       have hN1 : Hid (Blk (wr.alloc (.cells #[.slice kA KL kc,.slice vA VL vc,.int .i64 (x.over : Int),.int .i64 (x.long : Int)] 83)) w.heap.size 89 #[.bool true,.slice A M c,.slice B K d]):=hide (hnb.out.alloc _)
       have hkb : Hid (RB (wr.alloc (.cells #[.slice kA KL kc,.slice vA VL vc,.int .i64 (x.over : Int),.int .i64 (x.long : Int)] 83)) w.heap.size kA KL x.key):=hide (RB.below (Rd.reads hkey2 fun k hk => hk) hB1.out)
       have e0 : (wr.alloc (.cells #[.slice kA KL kc,.slice vA VL vc,.int .i64 (x.over : Int),.int .i64 (x.long : Int)] 83)).cell? ⟨w.heap.size,0,none⟩=some (.bool true):=hN1.out.cell 0
       have e1 : (wr.alloc (.cells #[.slice kA KL kc,.slice vA VL vc,.int .i64 (x.over : Int),.int .i64 (x.long : Int)] 83)).cell? ⟨w.heap.size,1,none⟩=some (.slice A M c):=hN1.out.cell 1
       replace hkey2:=hide hkey2
       replace hkey:=hide hkey
       replace hw:=hide hw
       replace hh:=hide hh
       replace hKL:=hide hKL
       clear hval
       subst eA
       rcases Nat.eq_zero_or_pos i with h0 | h0
       · have h0I : (i : Int) <= 0 := by omega
         have h0D : decide ((0 : Int) < (i : Int))=false:=by rw [decide_eq_false_iff_not]; omega
         have h0E : decide (0 < i)=false:=by rw [decide_eq_false_iff_not]; omega
         replace h0:=hide h0
         go_wp2_with fail
         go_quiet (fail)
         go_wp2_with (first | (go_at_call 133; refine (hce.out _).mono ?_; rintro e w3 ⟨rfl,hb3⟩; have hB3 : Hid (Below w.heap.size w w3):=hide ((below_drewN hB1.out _).trans (hb3.mono hB1.out.size)); have hN3:=hide ((hN1.out.drewN nq).below hb3 (Blk.lt hN1.out)); have g0 : w3.cell? ⟨w.heap.size,0,none⟩=some (.bool true):=hN3.out.cell 0; replace hb3:=hide hb3))
         go_roundw
         case rel => exact ⟨i + 1,by simp,by omega,hB3,hN3⟩
         case measure => simp [intOf]; omega
       · obtain ⟨j, hj⟩ : ∃ j, j = i - 1 := ⟨_, rfl⟩
         obtain ⟨y,ad2,pA,qA,pc,qc,hy,hym,eA2,hp⟩:=hat.out j (by omega)
         obtain rfl : ad=ad2:=by simpa using eA2
         have hpw:=CellHere.below (B:=w.heap.size) hp hB1.out
         have hris : ltK y.key x.key=true:=by
           have hj1 : j + 1=i:=by omega
           have hx2:=hx.out
           rw [<- hj1] at hx2
           have hy2:=List.getElem?_eq_some_iff.1 hy
           have hx3:=List.getElem?_eq_some_iff.1 hx2
           have:=rise_at n.cells hr.out.rise j hx3.1
           rw [hy2.2,hx3.2] at this
           exact this
         have p0:=hpw.c0
         have hjI : (i : Int) - 1=(j : Int):=by omega
         have hjW : IntKind.i64.wrap (j : Int)=(j : Int):=IntWalk.i64_in _ (by omega)
         have hjM : (j : Int) < (M : Int):=by omega
         have hcm : Hid (∀ q,Calls Tryz.prog 51 #[.slice pA y.key.length pc,.slice kA KL kc] ((wr.alloc (.cells #[.slice kA KL kc,.slice vA VL vc,.int .i64 (x.over : Int),.int .i64 (x.long : Int)] 83)).drewN q) fun e w' => e=.returned (.int .i64 (Lib.compareBytes y.key x.key))/\(wr.alloc (.cells #[.slice kA KL kc,.slice vA VL vc,.int .i64 (x.over : Int),.int .i64 (x.long : Int)] 83)).drewN q=w'):=hide fun q => cmp_any _ w.heap.size w.heap.size pA kA y.key.length pc KL kc y.key x.key (RB.drewN (Rd.reads hpw.key fun k hk => hk) q) (hkb.out.drewN q)
         have hlt0 : Lib.compareBytes y.key x.key < 0:=by have:=cmp_lt y.key x.key; rw [hris] at this; simpa using this
         obtain ⟨cv,hcv⟩ : ∃ cv,cv=Lib.compareBytes y.key x.key:=⟨_,rfl⟩
         rw [<- hcv] at hcm hlt0
         have hltD : decide ((0 : Int)<=cv)=false:=by rw [decide_eq_false_iff_not]; omega
         obtain ⟨YL,hYL⟩ : ∃ YL,YL=y.key.length:=⟨_,rfl⟩
         rw [<- hYL] at hcm p0
         replace hYL:=hide hYL
         replace hpw:=hide hpw
         replace hp:=hide hp
         replace hy:=hide hy
         replace hj:=hide hj
         replace hcv:=hide hcv
         replace hris:=hide hris
         replace hym:=hide hym
         clear eA2
         have h0I : (0 : Int) < (i : Int):=by omega
         have h0D : decide ((0 : Int) < (i : Int))=true:=by rw [decide_eq_true_eq]; omega
         go_wp2_with fail
         go_quiet (first | (go_at_call 51; exact quiet_left (hcm.out _)))
         go_wp2_with (first | (go_at_call 133; refine (hce.out _).mono ?_; rintro e w3 ⟨rfl,hb3⟩; have hB3 : Hid (Below w.heap.size w w3):=hide ((below_drewN hB1.out _).trans (hb3.mono hB1.out.size)); have hN3:=hide ((hN1.out.drewN nq).below hb3 (Blk.lt hN1.out)); have g0 : w3.cell? ⟨w.heap.size,0,none⟩=some (.bool true):=hN3.out.cell 0; replace hb3:=hide hb3))
         go_roundw
         case rel => exact ⟨i + 1,by simp,by omega,hB3,hN3⟩
         case measure => simp [intOf]; omega
     · have hI : ¬ (i : Int) < (M : Int) := by omega
       have hI2 : (M : Int)<=(i : Int):=by omega
       have hcc:=hide (hco.out wr hbr.out)
       go_wp2_with fail
       refine hcc.out.mono ?_
       rintro e w2 ⟨rfl,rfl⟩
       go_wp2_with fail
       go_ret
       exact ⟨rfl,hbr.out⟩
 | false =>
   have hK0:=hK2 rfl
   clear hK1 hK2
   obtain ⟨M1,hM1⟩ : ∃ M1,M1=M + 1:=⟨_,rfl⟩
   have hMJ : (M : Int) + 1=(M1 : Int):=by omega
   have hMW : IntKind.i64.wrap (M1 : Int)=(M1 : Int):=IntWalk.i64_in _ (by have:=hmany.out; omega)
   have hKM : ((K : Int) != (M1 : Int))=false:=by rw [bne_eq_false_iff_eq]; omega
   have hKM2 : (K == M1)=true:=by rw [beq_iff_eq]; omega
   replace hK0:=hide hK0
   replace hM1:=hide hM1
   have hB0 : Hid (Below w.heap.size w (w.alloc (.cells #[.bool false,.slice A M c,.slice B K d] 89))):=hide ((Below.refl _ _).alloc (Nat.le_refl _) _)
   have hN0 : Hid (Blk (w.alloc (.cells #[.bool false,.slice A M c,.slice B K d] 89)) w.heap.size 89 #[.bool false,.slice A M c,.slice B K d]):=hide (Blk.new _ _ _)
   go_enter Tryz.func87,Tryz.ntmps87
   go_wp2_with fail
   go_loopw [37] (fun v37 wx => ∃ i : Nat,v37=.int .i64 (i : Int)/\i<=M/\Hid (Below w.heap.size w wx)/\Hid (Blk wx w.heap.size 89 #[.bool false,.slice A M c,.slice B K d])) (fun v37 _ => M - (intOf v37).toNat)
   case atStart => exact ⟨0,rfl,Nat.zero_le _,hB0,hN0⟩
   case round =>
     clear hB0 hN0
     obtain ⟨i,rfl,hi,hbr,hnb⟩:=hrel
     have n0:=hnb.out.cell 0
     have n1:=hnb.out.cell 1
     have n2:=hnb.out.cell 2
     rcases Nat.lt_or_ge i M with hlt | hge
     · have hI : (i : Int) < (M : Int) := by omega
       have hiB : (i : Int)<=70000:=by have:=hmany.out; omega
       obtain ⟨x,ad,kA,vA,kc,vc,hx,hxm,eA,hh⟩:=hat.out i hlt
       have hw:=CellHere.below (B:=w.heap.size) hh hbr.out
       have hkey:=hr.out.keys x hxm
       have hval:=hr.out.vals x hxm
       rw [<- hlf.out] at hval
       replace hx:=hide hx
       replace hxm:=hide hxm
       have c0:=hw.c0
       have c1:=hw.c1
       have c2:=hw.c2
       have c3:=hw.c3
       have hk1 : (1 : Int)<=(x.key.length : Int):=by omega
       have hk2 : (x.key.length : Int)<=120:=by omega
       obtain ⟨KL,hKL⟩ : ∃ KL,KL=x.key.length:=⟨_,rfl⟩
       have hkey2:=hh.key
       rw [<- hKL] at c0 hk1 hk2 hkey2
       have hbare : BareCell x:=by simpa using hval
       have hV0 : x.val.length=0:=by rw [hbare.2.2]; rfl
       rw [hV0] at c1
       rw [hbare.1] at c2
       rw [hbare.2.1] at c3
       replace hV0:=hide hV0
       replace hbare:=hide hbare
       have hB1 : Hid (Below w.heap.size w (wr.alloc (.cells #[.slice kA KL kc,.slice vA 0 vc,.int .i64 0,.int .i64 0] 83))):=hide (hbr.out.alloc (hbr.out.size) _)
       have hN1 : Hid (Blk (wr.alloc (.cells #[.slice kA KL kc,.slice vA 0 vc,.int .i64 0,.int .i64 0] 83)) w.heap.size 89 #[.bool false,.slice A M c,.slice B K d]):=hide (hnb.out.alloc _)
       have hkb : Hid (RB (wr.alloc (.cells #[.slice kA KL kc,.slice vA 0 vc,.int .i64 0,.int .i64 0] 83)) w.heap.size kA KL x.key):=hide (RB.below (Rd.reads hkey2 fun k hk => hk) hB1.out)
       have e0 : (wr.alloc (.cells #[.slice kA KL kc,.slice vA 0 vc,.int .i64 0,.int .i64 0] 83)).cell? ⟨w.heap.size,0,none⟩=some (.bool false):=hN1.out.cell 0
       have e1 : (wr.alloc (.cells #[.slice kA KL kc,.slice vA 0 vc,.int .i64 0,.int .i64 0] 83)).cell? ⟨w.heap.size,1,none⟩=some (.slice A M c):=hN1.out.cell 1
       replace hkey2:=hide hkey2
       replace hkey:=hide hkey
       replace hw:=hide hw
       replace hh:=hide hh
       replace hKL:=hide hKL
       clear hval
       subst eA
       rcases Nat.eq_zero_or_pos i with h0 | h0
       · have h0I : (i : Int) <= 0 := by omega
         have h0D : decide ((0 : Int) < (i : Int))=false:=by rw [decide_eq_false_iff_not]; omega
         have h0E : decide (0 < i)=false:=by rw [decide_eq_false_iff_not]; omega
         replace h0:=hide h0
         go_wp2_with fail
         go_quiet (fail)
         go_wp2_with fail
         go_roundw
         case rel => exact ⟨i + 1,by simp,by omega,hide (below_drewN hB1.out _),hide (hN1.out.drewN nq)⟩
         case measure => simp [intOf]; omega
       · obtain ⟨j, hj⟩ : ∃ j, j = i - 1 := ⟨_, rfl⟩
         obtain ⟨y,ad2,pA,qA,pc,qc,hy,hym,eA2,hp⟩:=hat.out j (by omega)
         obtain rfl : ad=ad2:=by simpa using eA2
         have hpw:=CellHere.below (B:=w.heap.size) hp hB1.out
         have hris : ltK y.key x.key=true:=by
           have hj1 : j + 1=i:=by omega
           have hx2:=hx.out
           rw [<- hj1] at hx2
           have hy2:=List.getElem?_eq_some_iff.1 hy
           have hx3:=List.getElem?_eq_some_iff.1 hx2
           have:=rise_at n.cells hr.out.rise j hx3.1
           rw [hy2.2,hx3.2] at this
           exact this
         have p0:=hpw.c0
         have hjI : (i : Int) - 1=(j : Int):=by omega
         have hjW : IntKind.i64.wrap (j : Int)=(j : Int):=IntWalk.i64_in _ (by omega)
         have hjM : (j : Int) < (M : Int):=by omega
         have hcm : Hid (∀ q,Calls Tryz.prog 51 #[.slice pA y.key.length pc,.slice kA KL kc] ((wr.alloc (.cells #[.slice kA KL kc,.slice vA 0 vc,.int .i64 0,.int .i64 0] 83)).drewN q) fun e w' => e=.returned (.int .i64 (Lib.compareBytes y.key x.key))/\(wr.alloc (.cells #[.slice kA KL kc,.slice vA 0 vc,.int .i64 0,.int .i64 0] 83)).drewN q=w'):=hide fun q => cmp_any _ w.heap.size w.heap.size pA kA y.key.length pc KL kc y.key x.key (RB.drewN (Rd.reads hpw.key fun k hk => hk) q) (hkb.out.drewN q)
         have hlt0 : Lib.compareBytes y.key x.key < 0:=by have:=cmp_lt y.key x.key; rw [hris] at this; simpa using this
         obtain ⟨cv,hcv⟩ : ∃ cv,cv=Lib.compareBytes y.key x.key:=⟨_,rfl⟩
         rw [<- hcv] at hcm hlt0
         have hltD : decide ((0 : Int)<=cv)=false:=by rw [decide_eq_false_iff_not]; omega
         obtain ⟨YL,hYL⟩ : ∃ YL,YL=y.key.length:=⟨_,rfl⟩
         rw [<- hYL] at hcm p0
         replace hYL:=hide hYL
         replace hpw:=hide hpw
         replace hp:=hide hp
         replace hy:=hide hy
         replace hj:=hide hj
         replace hcv:=hide hcv
         replace hris:=hide hris
         replace hym:=hide hym
         clear eA2
         have h0I : (0 : Int) < (i : Int):=by omega
         have h0D : decide ((0 : Int) < (i : Int))=true:=by rw [decide_eq_true_eq]; omega
         go_wp2_with fail
         go_quiet (first | (go_at_call 51; exact quiet_left (hcm.out _)))
         go_wp2_with fail
         go_roundw
         case rel => exact ⟨i + 1,by simp,by omega,hide (below_drewN hB1.out _),hide (hN1.out.drewN nq)⟩
         case measure => simp [intOf]; omega
     · have hI : ¬ (i : Int) < (M : Int) := by omega
       have hI2 : (M : Int)<=(i : Int):=by omega
       have hcc:=hide (hco.out wr hbr.out)
       go_wp2_with fail
       refine hcc.out.mono ?_
       rintro e w2 ⟨rfl,rfl⟩
       go_wp2_with fail
       go_ret
       exact ⟨rfl,hbr.out⟩
end Go.Proofs.YtiiljlmeililbaaGreatDoor
