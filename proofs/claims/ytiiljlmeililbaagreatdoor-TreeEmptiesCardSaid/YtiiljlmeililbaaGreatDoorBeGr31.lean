/-
  Contract of tree.value: the value of a cell, here or on pages.
-/
import Derived.Test.YtiiljlmeililbaaGreatDoorBeGr28
import Derived.Test.YtiiljlmeililbaaGreatDoorBeGr23
import Derived.Test.YtiiljlmeililbaaGreatDoorBeGr30
import Derived.Test.YtiiljlmeililbaaGreatDoorBeGr29
namespace Go.Proofs.YtiiljlmeililbaaGreatDoor
set_option linter.unusedVariables false
set_option maxRecDepth 100000
open Go.RowKit
def sameS (st : PgS) (_ : Nat) : PgS:=st
def ValJ (B0 g : Nat) (d : List (Nat × List UInt8)) (D F : Nat->Prop) (w : World) : Prop :=
 ∃ v,Blk w g 37 #[v]/\OB w B0 v (d.flatMap (·.2)).length (d.flatMap (·.2))/\(∀ k,D k->k=g \/ v.ownBlock=some k)/\(D g/\∀ k,v.ownBlock=some k->D k)/\(∀ k,D k->¬ F k/\k < w.heap.size)/\(d.flatMap (·.2)).length<=505 * d.length/\B0<=w.heap.size
theorem value1_any (B0 g : Nat) (w : World) (F D : Nat->Prop) (d : List (Nat × List UInt8)) (hJ : ValJ B0 g d D F w) (gp : Nat) (st : PgS) (h : PgAt w F gp st) (no : Nat) (b : List UInt8) (A : Option Addr) (c : Nat) (hr : RB w w.heap.size A b.length b) (hb : b.length<=505) (hd : d.length<=100000) :
   Calls Tryz.prog 86 #[.int .i64 (no : Int),.slice A b.length c,.pointer (some ⟨g,0,none⟩)] w fun e w' => e=.returned (.int .i64 0)/\∃ F' D',PgAt w' F' gp st/\ValJ B0 g (d ++ [(no,b)]) D' F' w'/\Ev (FC F D) w (FC F' D') w':=by
 obtain ⟨v,hbg,hO,hD,⟨hDg,hDv⟩,hDF,hlen,hB0⟩:=hJ
 obtain ⟨vA,vc,rfl,_,_,_,_⟩:=hO.form
 have c0:=hbg.cell 0
 have f0:=hbg.frozen 0
 obtain ⟨M,hM⟩ : ∃ M,M=(d.flatMap (·.2)).length:=⟨_,rfl⟩
 obtain ⟨xs,hxs⟩ : ∃ xs,xs=d.flatMap (·.2):=⟨_,rfl⟩
 obtain ⟨N,hN⟩ : ∃ N,N=b.length:=⟨_,rfl⟩
 rw [<- hM] at hO hlen c0 hbg hD hDv
 rw [<- hxs] at hO hM
 rw [<- hN] at hr hb ⊢
 have hfin : Hid (∀ v2 w2,OB w2 B0 v2 (M + N) (xs ++ b)->w.grownBy w2 (Value.slice vA M vc).ownBlock->(v2.ownBlock=(Value.slice vA M vc).ownBlock \/ v2.ownBlock=some w.heap.size)->∃ F' D',PgAt (w2.setCell ⟨g,0,none⟩ v2) F' gp st/\ValJ B0 g (d ++ [(no,b)]) D' F' (w2.setCell ⟨g,0,none⟩ v2)/\Ev (FC F D) w (FC F' D') (w2.setCell ⟨g,0,none⟩ v2)):=hide (by
   intro v2 w2 hO2 hg2 hv2
   have hne : (Value.slice vA M vc).ownBlock ≠ some g:=fun e => own_blk_ne hO hbg (by decide) e
   have hb2:=(hbg.grown hg2 (fun e => hne e.symm)).set_ 0 v2
   have hOn : Only (FC F D) w (w2.setCell ⟨g,0,none⟩ v2):=((Only.refl (FC F D) w).grown hg2 (fun k hk _ => .inr (hDv k hk))).setCell (p:=⟨g,0,none⟩) (fun _ => .inr hDg) v2
   have hnew : ∀ k,v2.ownBlock=some k->D k \/ k=w.heap.size:=fun k hk => by
     rcases hv2 with e | e
     · exact .inl (hDv k (by rw [<- e]; exact hk))
     · rw [e] at hk; injection hk with hk; exact .inr hk.symm
   refine ⟨F,fun k => k=g \/ v2.ownBlock=some k,?_,⟨v2,hb2,?_,fun k hk => hk,⟨.inl rfl,fun k hk => .inr hk⟩,fun k hk => ?_,?_,Nat.le_trans hB0 hOn.size⟩,hOn,fun k hk => ?_⟩
   · exact (h.grown hg2 (fun k hk hf => (hDF k (hDv k hk)).1 hf)).set_ (p:=⟨g,0,none⟩) (hDF g hDg).1 v2
   · have e1 : (d ++ [(no, b)]).flatMap (·.2) = xs ++ b := by rw [List.flatMap_append, <- hxs]; simp
     rw [e1,List.length_append,<- hM,<- hN]
     exact ((Only.refl (fun k => k=g) w2).setCell (p:=⟨g,0,none⟩) (fun _ => rfl) v2).row hO2 (own_not_blk hO2 (hbg.grown hg2 (fun e => hne e.symm)) (by decide))
   · rcases hk with rfl | hk
     · exact ⟨(hDF k hDg).1,Nat.lt_of_lt_of_le (hDF k hDg).2 hOn.size⟩
     · refine ⟨fun hf => ?_, ?_⟩
       · rcases hnew k hk with h9 | h9
         · exact (hDF k h9).1 hf
         · have:=h.lt k hf; omega
       · have := (own_lt hO2 hk).2
         simpa [World.setCell] using this
   · have e1 : (d ++ [(no, b)]).flatMap (·.2) = xs ++ b := by rw [List.flatMap_append, <- hxs]; simp
     rw [e1,List.length_append,List.length_append,<- hM,<- hN]
     simp only [List.length_cons,List.length_nil]
     omega
   · rcases hk with hk | hk | hk
     · exact .inl (.inl hk)
     · exact .inl (.inr (by rw [hk]; exact hDg))
     · rcases hnew k hk with h9 | h9
       · exact .inl (.inr h9)
       · exact .inr (by omega))
 have hx:=hide (hO.more (Nat.zero_le B0))
 replace hO:=hide hO
 replace hbg:=hide hbg
 replace h:=hide h
 replace hM:=hide hM
 replace hN:=hide hN
 replace hxs:=hide hxs
 replace hr:=hide hr
 replace hD:=hide hD
 replace hDv:=hide hDv
 replace hDF:=hide hDF
 go_enter Tryz.func86,Tryz.ntmps86
 go_wp2_with (at_builtin; refine wpList_app_b rfl (.tmp 6) (.tmp 7) rfl B0 _ M xs hO.out rfl w.heap.size A N c b rfl hr.out (by omega) hB0 ?_; intro v2 w2 hO2 hB2 hg2 hv2; obtain ⟨A2,c2,rfl,_,_,_,_⟩:=hO2.form; have hdone:=hide (hfin.out _ w2 hO2 hg2 hv2); have hb2:=hbg.out.grown hg2 (fun e => own_blk_ne hO.out hbg.out (by decide) e.symm); have z0:=hb2.cell 0; have z1:=hb2.frozen 0; replace hb2:=hide hb2; replace hO2:=hide hO2; replace hB2:=hide hB2; replace hg2:=hide hg2)
 go_ret
 obtain ⟨F9,D9,p1,p2,p3⟩:=hdone.out
 exact ⟨rfl,F9,p1,D9,p2,p3⟩
theorem value1_fn : ∀ args wx,(callFunc 86 args).run Tryz.prog wx=.ok (.enter 86 args) wx:=fun args wx => by
 have h:=Tryz.func86
 simp [callFunc,Sem.run_bind,go_sem,h,Tryz.f86]
theorem value1_chain (B0 g gp : Nat) : ChainC sameS 86 #[.pointer (some ⟨g,0,none⟩)] gp (ValJ B0 g) where
 fn:=value1_fn
 keep d D F F' w w' hJ he:=by
   obtain ⟨v,hb,hO,hD,hD2,hDF,hl,hB⟩:=hJ
   have hk : ∀ k,D k->w'.heap[k]?=w.heap[k]?:=fun k hk => he.block ⟨(hDF k hk).2,(hDF k hk).1⟩
   exact ⟨v,(hk g hD2.1).trans hb,he.only.row hO (fun k hk => (hDF k (hD2.2 k hk)).1),hD,hD2,fun k hk => ⟨he.new (hDF k hk).1 (hDF k hk).2,Nat.lt_of_lt_of_le (hDF k hk).2 he.size⟩,hl,Nat.le_trans hB he.size⟩
 step d D F w st no b A c hJ h hn hf hr hc hb hd:=value1_any B0 g w F D d hJ gp st h no b A c hr hb hd
def ValueEnd (F X : Nat->Prop) (w : World) (gp : Nat) (st : PgS) (b : List UInt8) (e : Ending) (w' : World) : Prop :=
 ∃ F' vA vc,e=.returned (.tuple #[.slice vA b.length vc,.int .i64 0])/\PgAt w' F' gp st/\Ev F w F' w'/\MB (FC F' X) w' vA b.length b/\b.length<=vc
def ValueG (st : PgS) (c : CellP) (b : List UInt8) : Prop:=(c.over=0/\b=c.val) \/ (c.over ≠ 0/\c.long<=20000/\∃ l,GoR sameS st c.over c.long l st/\b=l.flatMap (·.2))
theorem value_any (w : World) (F X : Nat->Prop) (hX : ∀ k,X k->k < w.heap.size) (gt gp k : Nat) (st : PgS) (h : PgAt w F gp st) (ht : TreeAt w F gt gp k) (c : CellP) (b : List UInt8) (hv : ValueG st c b) (kA vA : Option Addr) (kl kc vc : Nat) (hr : c.over=0->MB (FC F X) w vA c.val.length c.val) (hvc : c.val.length<=vc) :
   Calls Tryz.prog 47 #[.pointer (some ⟨gt,0,none⟩),.agg #[.slice kA kl kc,.slice vA c.val.length vc,.int .i64 (c.over : Int),.int .i64 (c.long : Int)]] w (ValueEnd F X w gp st b):=by
 rcases hv with ⟨h0,rfl⟩ | ⟨h0,hl,l,hg,rfl⟩
 · rw [h0]
   refine (value_short w gt kA vA kl c.val.length kc vc c.long).mono ?_
   rintro e w' ⟨rfl,hB⟩
   exact ⟨F,vA,vc,rfl,h.below hB,Ev.of_below hB,(hr h0).ev ((Ev.of_below hB).add X),hvc⟩
 · obtain ⟨V, hV⟩ : ∃ V, V = c.val.length := ⟨_, rfl⟩
   obtain ⟨o1,ho1⟩ : ∃ o1,o1=Obj.cells #[.slice kA kl kc,.slice vA V vc,.int .i64 (c.over : Int),.int .i64 (c.long : Int)] 83:=⟨_,rfl⟩
   obtain ⟨g,hg0⟩ : ∃ g,g=w.heap.size + 1:=⟨_,rfl⟩
   obtain ⟨w2,hw2⟩ : ∃ w2,w2=(w.alloc o1).alloc (.cells #[.slice none 0 0] 37):=⟨_,rfl⟩
   have hE2 : Ev F w F w2:=by rw [hw2]; exact ((Ev.refl F w).alloc_ o1).alloc_ _
   have hb1 : Blk w2 w.heap.size 83 #[.slice kA kl kc,.slice vA V vc,.int .i64 (c.over : Int),.int .i64 (c.long : Int)]:=by rw [hw2,ho1]; exact (Blk.new w 83 _).alloc _
   have hbg : Blk w2 g 37 #[.slice none 0 0]:=by
     have q:=Blk.new (w.alloc o1) 37 #[.slice none 0 0]
     rw [World.size_alloc] at q
     rw [hw2,hg0]; exact q
   have hz2 : w2.heap.size=w.heap.size + 2:=by rw [hw2]; simp
   have hFlt:=h.lt
   have hJ : ValJ w2.heap.size g [] (fun k => k=g) F w2:=⟨_,hbg,OB.nil _ _,fun k hk => .inl hk,⟨rfl,fun k hk => by simp [Value.ownBlock] at hk⟩,fun k hk => by subst hk; exact ⟨fun hf => by have:=hFlt _ hf; omega,by omega⟩,by simp,Nat.le_refl _⟩
   have hgt:=Blk.lt ht.blk
   have hgtg : gt ≠ g:=by omega
   have ht2 : TreeAt w2 (FC F (fun k => k=g)) gt gp k:=⟨(ht.ev hE2).blk,fun hf => hf.elim (ht.ev hE2).out (fun e => hgtg e)⟩
   have hP2 : PgAt w2 F gp st:=by rw [hw2]; exact (h.alloc _).alloc _
   have hch:=hide (chain_any sameS 86 #[.pointer (some ⟨g,0,none⟩)] gp (ValJ w2.heap.size g) (value1_chain w2.heap.size g gp) w2 F (fun k => k=g) gt k st st hP2 ht2 c.over c.long l hg hJ (by omega))
   have hov : ((c.over : Int) == 0)=false:=by rw [beq_eq_false_iff_ne]; omega
   obtain ⟨ov,hovn⟩ : ∃ ov,ov=c.over:=⟨_,rfl⟩
   obtain ⟨lg,hlg⟩ : ∃ lg,lg=c.long:=⟨_,rfl⟩
   rw [<- hovn,<- hlg] at hch hb1 ho1
   rw [<- hovn] at hov
   rw [<- hovn,<- hlg,<- hV]
   have d2:=hb1.cell 2
   have d3:=hb1.cell 3
   subst ho1
   have hw2a : w2=(w.alloc (.cells #[.slice kA kl kc,.slice vA V vc,.int .i64 (ov : Int),.int .i64 (lg : Int)] 83)).alloc (.cells #[.slice none 0 0] 37):=hw2
   have e2 : ((w.alloc (.cells #[.slice kA kl kc,.slice vA V vc,.int .i64 (ov : Int),.int .i64 (lg : Int)] 83)).alloc (.cells #[.slice none 0 0] 37)).cell? ⟨w.heap.size,2,none⟩=some (.int .i64 (ov : Int)):=by rw [<- hw2a]; exact d2
   have e3 : ((w.alloc (.cells #[.slice kA kl kc,.slice vA V vc,.int .i64 (ov : Int),.int .i64 (lg : Int)] 83)).alloc (.cells #[.slice none 0 0] 37)).cell? ⟨w.heap.size,3,none⟩=some (.int .i64 (lg : Int)):=by rw [<- hw2a]; exact d3
   clear hw2a
   replace h:=hide h
   replace ht:=hide ht
   replace hw2:=hide hw2
   replace hg0:=hide hg0
   replace hE2:=hide hE2
   replace hb1:=hide hb1
   replace hbg:=hide hbg
   replace hz2:=hide hz2
   replace hJ:=hide hJ
   replace ht2:=hide ht2
   replace hP2:=hide hP2
   replace hV:=hide hV
   replace hovn:=hide hovn
   replace hlg:=hide hlg
   replace hFlt:=hide hFlt
   clear hr hvc h0
   go_enter Tryz.func47,Tryz.ntmps47
   go_upto_region 4 with (fail)
   rw [<- hg0.out,<- hw2.out]
   go_wp2_with fail
   go_at_call 78
   refine hch.out.mono ?_
   rintro e w3 ⟨rfl,F3,D3,hP3,hJ3,hE3⟩
   obtain ⟨v,hb3,hO3,hD3,⟨hDg,hDv⟩,hDF3,hl3,hB3⟩:=hJ3
   obtain ⟨A3,c3,rfl,_,_,hc3,_⟩:=hO3.form
   have z0:=hb3.cell 0
   have hEw : Ev F w F3 w3:=⟨hE2.out.only.trans hE3.only (fun j hj hT => by
       rcases hT with hT | hT
       · exact hT
       · have h8 : j = g := hT
         have:=hg0.out
         omega),fun j hj => by
       rcases hE3.grow j (.inl hj) with hT | hT
       · rcases hT with hT | hT
         · exact .inl hT
         · have h8 : j = g := hT
           have:=hg0.out
           exact .inr (by omega)
       · have := hz2.out
         exact .inr (by omega)⟩
   have hmb : MB (FC F3 X) w3 A3 (l.flatMap (·.2)).length (l.flatMap (·.2)):=by
     refine ⟨hO3.1,fun hn => ?_⟩
     obtain ⟨g4,cap,hv4,hb4,hlt⟩:=World.ownsRow.form hO3 hn
     have hA : A3=some ⟨g4,0,none⟩:=by injection hv4
     subst hA
     have hb9:=hb4
     have hz9:=hz2.out
     exact ⟨_,rfl,⟨hlt,fun hf => hf.elim (hDF3 g4 (hDv g4 rfl)).1 (fun hx => by have:=hX g4 hx; omega)⟩,World.ownsRow.cells hO3 (g:=g4) rfl⟩
   have hdone : Hid (ValueEnd F X w gp st (l.flatMap (·.2)) (.returned (.tuple #[.slice A3 (l.flatMap (·.2)).length c3,.int .i64 0])) w3):=hide ⟨F3,A3,c3,rfl,hP3,hEw,hmb,hc3⟩
   obtain ⟨L,hL⟩ : ∃ L,L=(l.flatMap (·.2)).length:=⟨_,rfl⟩
   rw [<- hL] at hdone z0
   obtain ⟨Q,hQ⟩ : ∃ Q,Q=ValueEnd F X w gp st (l.flatMap (·.2)):=⟨_,rfl⟩
   rw [<- hQ] at hdone
   replace hQ:=hide hQ
   replace hL:=hide hL
   replace hEw:=hide hEw
   replace hmb:=hide hmb
   replace hb3:=hide hb3
   replace hO3:=hide hO3
   replace hD3:=hide hD3
   replace hDv:=hide hDv
   replace hDF3:=hide hDF3
   replace hl3:=hide hl3
   replace hc3:=hide hc3
   replace hP3:=hide hP3
   replace hE3:=hide hE3
   go_wp2_with fail
   go_ret2
   have h9:=hdone.out
   rw [hQ.out] at h9
   exact h9
theorem DropsR.ok {st st' : PgS} {no long : Nat} (h : DropsR st no long st') : st.ok->st'.ok:=by
 induction h with
 | nil st no => exact fun ho => ho
 | cons st st' no long h0 hn hr ih => exact fun ho => ih (ho.freed _ hn)
theorem DropR.ok {st st' : PgS} {c : CellP} (h : DropR st c st') (ho : st.ok) : st'.ok:=by
 rcases h with ⟨_,rfl⟩ | ⟨_,h⟩
 · exact ho
 · exact h.ok ho
theorem DropsR.go {st st' : PgS} {no long : Nat} (h : DropsR st no long st') : st.ok->∃ l,GoR freeS st no long l st':=by
 induction h with
 | nil st no => exact fun ho => ⟨[],.nil st no⟩
 | cons st st' no long h0 hn hr ih =>
   intro ho
   obtain ⟨l,hl⟩:=ih (ho.freed _ hn)
   exact ⟨_,.cons st st' no long l h0 hn ho.free hl⟩
def DropJ (gx gt gp k : Nat) (d : List (Nat × List UInt8)) (D F : Nat->Prop) (w : World) : Prop:=(∀ j,¬ D j)/\TreeAt w F gt gp k/\Blk w gx 30 #[.pointer (some ⟨gt,0,none⟩)]/\¬ F gx
theorem drop1_any (gx gt k : Nat) (w : World) (F : Nat->Prop) (gp : Nat) (st : PgS) (h : PgAt w F gp st) (ht : TreeAt w F gt gp k) (hb : Blk w gx 30 #[.pointer (some ⟨gt,0,none⟩)]) (no : Nat) (hn : st.has no) (hf : st.free < st.many) (A : Option Addr) (n c : Nat) :
   Calls Tryz.prog 79 #[.int .i64 (no : Int),.slice A n c,.pointer (some ⟨gx,0,none⟩)] w (PgEnd F w gp (freeS st no) (.int .i64 0)):=by
 have hfr:=hide (free_any w F gp st h no hn hf)
 have c0:=hb.cell 0
 have t0 : w.cell? ⟨gt,0,none⟩=some (.pointer (some ⟨gp,0,none⟩)):=ht.blk.cell 0
 replace h:=hide h
 replace ht:=hide ht
 replace hb:=hide hb
 go_enter Tryz.func79,Tryz.ntmps79
 go_wp2_with fail
 go_at_call 80
 refine hfr.out.mono ?_
 rintro e w1 ⟨rfl,F1,hP1,hE1⟩
 have hdone : Hid (PgEnd F w gp (freeS st no) (.int .i64 0) (.returned (.int .i64 0)) w1):=hide ⟨rfl,F1,hP1,hE1⟩
 replace hP1:=hide hP1
 replace hE1:=hide hE1
 go_wp2_with fail
 go_ret
 exact hdone.out
theorem drop1_fn : ∀ args wx,(callFunc 79 args).run Tryz.prog wx=.ok (.enter 79 args) wx:=fun args wx => by
 have h:=Tryz.func79
 simp [callFunc,Sem.run_bind,go_sem,h,Tryz.f79]
theorem drop1_chain (gx gt gp k : Nat) : ChainC freeS 79 #[.pointer (some ⟨gx,0,none⟩)] gp (DropJ gx gt gp k) where
 fn:=drop1_fn
 keep d D F F' w w' hJ he:=by
   obtain ⟨hD,ht,hb,hn⟩:=hJ
   exact ⟨hD,ht.ev he,he.blk hb hn,he.new hn (Blk.lt hb)⟩
 step d D F w st no b A c hJ h hn hf hr hc hb hd:=by
   obtain ⟨hD,ht,hbx,hnx⟩:=hJ
   refine (drop1_any gx gt k w F gp st h ht hbx no hn hf A b.length c).mono ?_
   rintro e w' ⟨rfl,F',hP',hE'⟩
   exact ⟨rfl,F',D,hP',⟨hD,ht.ev hE',hE'.blk hbx hnx,hE'.new hnx (Blk.lt hbx)⟩,hE'.add D⟩
set_option maxHeartbeats 1000000 in
theorem drop_any (w : World) (F : Nat->Prop) (gt gp k : Nat) (st st' : PgS) (h : PgAt w F gp st) (ht : TreeAt w F gt gp k) (ho : st.ok) (c : CellP) (hd : DropR st c st') (hlong : c.long<=20000) (kA vA : Option Addr) (kl vl kc vc : Nat) :
   Calls Tryz.prog 41 #[.pointer (some ⟨gt,0,none⟩),.agg #[.slice kA kl kc,.slice vA vl vc,.int .i64 (c.over : Int),.int .i64 (c.long : Int)]] w (PgEnd F w gp st' (.int .i64 0)):=by
 rcases hd with ⟨h0,rfl⟩ | ⟨h0,hd⟩
 · refine (drop_none w gt c kA vA kl vl kc vc h0).mono ?_
   rintro e w' ⟨rfl,hB⟩
   exact ⟨rfl,F,h.below hB,Ev.of_below hB⟩
 · obtain ⟨l, hg⟩ := hd.go ho
   obtain ⟨o1,ho1⟩ : ∃ o1,o1=Obj.cells #[.slice kA kl kc,.slice vA vl vc,.int .i64 (c.over : Int),.int .i64 (c.long : Int)] 83:=⟨_,rfl⟩
   obtain ⟨w2,hw2⟩ : ∃ w2,w2=(w.alloc (.cells #[.pointer (some ⟨gt,0,none⟩)] 30)).alloc o1:=⟨_,rfl⟩
   have hE2 : Ev F w F w2:=by rw [hw2]; exact ((Ev.refl F w).alloc_ _).alloc_ o1
   have hbg : Blk w2 w.heap.size 30 #[.pointer (some ⟨gt,0,none⟩)]:=by rw [hw2]; exact (Blk.new w 30 _).alloc _
   have hb1 : Blk w2 (w.heap.size + 1) 83 #[.slice kA kl kc,.slice vA vl vc,.int .i64 (c.over : Int),.int .i64 (c.long : Int)]:=by
     have q:=Blk.new (w.alloc (.cells #[.pointer (some ⟨gt,0,none⟩)] 30)) 83 #[.slice kA kl kc,.slice vA vl vc,.int .i64 (c.over : Int),.int .i64 (c.long : Int)]
     rw [World.size_alloc] at q
     rw [hw2,ho1]; exact q
   have hFlt:=h.lt
   have hnx : ¬ F w.heap.size:=fun hf => by have:=hFlt _ hf; omega
   have hP2 : PgAt w2 F gp st:=by rw [hw2]; exact (h.alloc _).alloc _
   have ht2:=ht.ev hE2
   have hJ : DropJ w.heap.size gt gp k [] (fun _ => False) F w2:=⟨fun _ hf => hf,ht2,hbg,hnx⟩
   have ht3 : TreeAt w2 (FC F (fun _ => False)) gt gp k:=⟨ht2.blk,fun hf => hf.elim ht2.out (fun e => e)⟩
   have hch:=hide (chain_any freeS 79 #[.pointer (some ⟨w.heap.size,0,none⟩)] gp (DropJ w.heap.size gt gp k) (drop1_chain w.heap.size gt gp k) w2 F (fun _ => False) gt k st st' hP2 ht3 c.over c.long l hg hJ (by omega))
   have hov : ((c.over : Int) == 0)=false:=by rw [beq_eq_false_iff_ne]; omega
   obtain ⟨ov,hovn⟩ : ∃ ov,ov=c.over:=⟨_,rfl⟩
   obtain ⟨lg,hlg⟩ : ∃ lg,lg=c.long:=⟨_,rfl⟩
   rw [<- hovn,<- hlg] at hch hb1 ho1
   rw [<- hovn] at hov
   rw [<- hovn,<- hlg]
   have d2:=hb1.cell 2
   have d3:=hb1.cell 3
   have b0:=hbg.cell 0
   subst ho1
   have hw2a : w2=(w.alloc (.cells #[.pointer (some ⟨gt,0,none⟩)] 30)).alloc (.cells #[.slice kA kl kc,.slice vA vl vc,.int .i64 (ov : Int),.int .i64 (lg : Int)] 83):=hw2
   have e2 : ((w.alloc (.cells #[.pointer (some ⟨gt,0,none⟩)] 30)).alloc (.cells #[.slice kA kl kc,.slice vA vl vc,.int .i64 (ov : Int),.int .i64 (lg : Int)] 83)).cell? ⟨w.heap.size + 1,2,none⟩=some (.int .i64 (ov : Int)):=by rw [<- hw2a]; exact d2
   have e3 : ((w.alloc (.cells #[.pointer (some ⟨gt,0,none⟩)] 30)).alloc (.cells #[.slice kA kl kc,.slice vA vl vc,.int .i64 (ov : Int),.int .i64 (lg : Int)] 83)).cell? ⟨w.heap.size + 1,3,none⟩=some (.int .i64 (lg : Int)):=by rw [<- hw2a]; exact d3
   have e0 : ((w.alloc (.cells #[.pointer (some ⟨gt,0,none⟩)] 30)).alloc (.cells #[.slice kA kl kc,.slice vA vl vc,.int .i64 (ov : Int),.int .i64 (lg : Int)] 83)).cell? ⟨w.heap.size,0,none⟩=some (.pointer (some ⟨gt,0,none⟩)):=by rw [<- hw2a]; exact b0
   replace h:=hide h
   replace ht:=hide ht
   replace hw2:=hide hw2
   replace hw2a:=hide hw2a
   replace hE2:=hide hE2
   replace hb1:=hide hb1
   replace hbg:=hide hbg
   replace hJ:=hide hJ
   replace ht2:=hide ht2
   replace ht3:=hide ht3
   replace hP2:=hide hP2
   replace hovn:=hide hovn
   replace hlg:=hide hlg
   replace hFlt:=hide hFlt
   clear h0
   go_enter Tryz.func41,Tryz.ntmps41
   go_wp2_with fail
   rw [<- hw2a.out]
   go_at_call 78
   refine hch.out.mono ?_
   rintro e w3 ⟨rfl,F3,D3,hP3,hJ3,hE3⟩
   have hD3:=hJ3.1
   have hEw : Ev F w3 F w3:=Ev.refl F w3
   have hdone : Hid (PgEnd F w gp st' (.int .i64 0) (.returned (.int .i64 0)) w3):=hide ⟨rfl,F3,hP3,⟨hE2.out.only.trans hE3.only (fun j hj hT => by
       rcases hT with hT | hT
       · exact hT
       · exact hT.elim),fun j hj => by
       rcases hE3.grow j (.inl hj) with hT | hT
       · rcases hT with hT | hT
         · exact .inl hT
         · exact hT.elim
       · have := hE2.out.size
         exact .inr (by omega)⟩⟩
   replace hP3:=hide hP3
   replace hE3:=hide hE3
   replace hJ3:=hide hJ3
   go_wp2_with fail
   go_ret
   exact hdone.out
def GetEndV (F : Nat->Prop) (w : World) (gp : Nat) (st : PgS) (m : NodeP) (key : List UInt8) (e : Ending) (w' : World) : Prop :=
 ∃ F', PgAt w' F' gp st /\ Ev F w F' w' /\ (((findP m key).2 = false /\ e = .returned (.tuple #[.slice none 0 0, .bool false, .int .i64 0])) \/
   ((findP m key).2=true/\∃ c b vA vc,m.cells[(findP m key).1]?=some c/\ValueG st c b/\e=.returned (.tuple #[.slice vA b.length vc,.bool true,.int .i64 0])/\MB F' w' vA b.length b/\b.length<=vc))
set_option maxHeartbeats 2000000 in
theorem tgetv_any (w : World) (F : Nat->Prop) (gt gp k : Nat) (st : PgS) (h : PgAt w F gp st) (ht : TreeAt w F gt gp k) (hk8 : k < 8) (key : List UInt8) (kA : Option Addr) (kc : Nat) (hkm : MB F w kA key.length key) (path : List Nat) (m : NodeP) (r0 : List Nat) (hp : path=st.roots k :: r0) (hd : DownL st key m path) (hnd : path.Nodup)
   (hov : ∀ c,m.cells[(findP m key).1]?=some c->∃ b,ValueG st c b) (hfl : (findP m key).2=true->(findP m key).1 < m.cells.length) :
   Calls Tryz.prog 14 #[.pointer (some ⟨gt,0,none⟩),.slice kA key.length kc] w (GetEndV F w gp st m key):=by
 obtain ⟨L,hL⟩ : ∃ L,L=key.length:=⟨_,rfl⟩
 rw [<- hL] at hkm ⊢
 have t1 : w.cell? ⟨gt,0,none⟩=some (.pointer (some ⟨gp,0,none⟩)):=ht.blk.cell 0
 have t2 : w.cell? ⟨gt,1,none⟩=some (.int .i64 (k : Int)):=ht.blk.cell 1
 obtain ⟨R,hR⟩ : ∃ R,R=st.roots k:=⟨_,rfl⟩
 have hrt : Hid (Calls Tryz.prog 23 #[.pointer (some ⟨gp,0,none⟩),.int .i64 (k : Int)] w.drew fun e w' => e=.returned (.int .i64 (R : Int))/\w.drew=w'):=hide (by rw [hR]; exact root_any w.drew F gp st h.drew k hk8)
 have hst : Hid (GtRel w F gt gp st key m path R w.drew):=hide ⟨[],r0,F,by rw [hR]; exact hp,by rw [hR,<- hp]; exact hd,h.drew,(Ev.refl F w).drew⟩
 replace h:=hide h
 replace ht:=hide ht
 replace hkm:=hide hkm
 replace hL:=hide hL
 replace hR:=hide hR
 replace hp:=hide hp
 replace hd:=hide hd
 replace hnd:=hide hnd
 replace hov:=hide hov
 replace hfl:=hide hfl
 go_enter Tryz.func14,Tryz.ntmps14
 go_wp2_with fail
 go_region_held3 (fun w' => w'.cell? ⟨gt,0,none⟩=some (.pointer (some ⟨gp,0,none⟩))/\w'.cell? ⟨gt,1,none⟩=some (.int .i64 (k : Int))) (first | exact ⟨t1,t2⟩) (first | (go_at_call 23; refine hrt.out.mono ?_; rintro e w3 ⟨rfl,rfl⟩))
 go_wp2_with fail
 go_loopw [7] (fun v7 wx => ∃ no : Nat,v7=.int .i64 (no : Int)/\Hid (GtRel w F gt gp st key m path no wx)) (fun v7 _ => path.length - path.idxOf (intOf v7).toNat)
 case atStart => exact ⟨R,rfl,hst⟩
 case round =>
   obtain ⟨no,rfl,hG⟩:=hrel
   obtain ⟨pre,r,F1,hpa,hdl,hP1,hE1⟩:=hG.out
   obtain ⟨hno,hcase⟩:=hdl.head
   have hnoI : ¬ (no : Int)=0:=by omega
   have ht1 : TreeAt wr F1 gt gp k:=ht.out.ev hE1
   obtain ⟨n,hl,hcs⟩ : ∃ n,LoadR st no n/\((n.leaf=true/\n=m) \/ (n.leaf=false/\∃ kid r',r=kid :: r'/\n.kids[(findP n key).1]?=some kid/\DownL st key m (kid :: r'))):=by
     rcases hcase with ⟨hf,hl,_⟩ | ⟨kid,n,r',hr,hl,hf,hk,hd⟩
     · exact ⟨m,hl,.inl ⟨hf,rfl⟩⟩
     · exact ⟨n,hl,.inr ⟨hf,kid,r',hr,hk,hd⟩⟩
   have hld:=hide (load_gen wr F1 gt gp k st hP1 ht1 no n hl)
   have hrise:=hide hl.2.1.rise
   have hmany:=hide hl.2.1.many
   obtain ⟨lf,hlf⟩ : ∃ lf,lf=n.leaf:=⟨_,rfl⟩
   replace hl:=hide hl
   replace hP1:=hide hP1
   replace hE1:=hide hE1
   replace ht1:=hide ht1
   replace hpa:=hide hpa
   replace hdl:=hide hdl
   replace hcase:=hide hcase
   replace hcs:=hide hcs
   replace hlf:=hide hlf
   replace hno:=hide hno
   go_wp2_with fail
   refine hld.out.mono ?_
   rintro e w1 ⟨F2,cv,kv,B0,rfl,hP2,hE2,hF2,hwB,hO1⟩
   rw [<- hlf.out]
   have hn1 : NodeM (Mine F2 w1) w1 (.agg #[.bool n.leaf,cv,kv]) n:=(hO1.toW (F:=F2) (fun j hj => hF2 j hj)).nodeM
   obtain ⟨A1,c1,rfl⟩:=own_form hO1.kids
   obtain ⟨A2,c2,rfl⟩:=own_form hO1.rows.choose_spec.2.1
   obtain ⟨N,hN⟩ : ∃ N,N=n.cells.length:=⟨_,rfl⟩
   obtain ⟨K,hK⟩ : ∃ K,K=n.kids.length:=⟨_,rfl⟩
   rw [<- hN,<- hK,<- hlf.out] at hn1
   rw [<- hN,<- hK]
   have hnb : ¬ F2 w1.heap.size:=fun hf => by have:=hP2.lt _ hf; omega
   have hbn:=Blk.new w1 89 #[.bool lf,.slice A2 N c2,.slice A1 K c1]
   obtain ⟨W2,hW2⟩ : ∃ W2,W2=w1.alloc (.cells #[.bool lf,.slice A2 N c2,.slice A1 K c1] 89):=⟨_,rfl⟩
   obtain ⟨gn,hgn⟩ : ∃ gn,gn=w1.heap.size:=⟨_,rfl⟩
   have hE3 : Ev F w F2 W2:=by rw [hW2]; exact (hE1.out.trans hE2).alloc_ _
   have hP3 : PgAt W2 F2 gp st:=by rw [hW2]; exact hP2.alloc _
   have hn2 : NodeM (Mine F2 W2) W2 (.agg #[.bool lf,.slice A2 N c2,.slice A1 K c1]) n:=by rw [hW2]; exact hn1.ev ((Ev.refl F2 w1).alloc_ _)
   rw [<- hW2,<- hgn] at hbn
   have hkm3:=hkm.out.ev hE3
   have hfd:=hide (find_any W2 (.agg #[.bool lf,.slice A2 N c2,.slice A1 K c1]) n (hn2.old fun k hk => hk.1) hrise.out (by have:=hmany.out; omega) kA kc key (by have h9:=hkm3.rb; rw [hL.out] at h9; exact h9))
   rw [<- hL.out] at hfd
   obtain ⟨I,hI⟩ : ∃ I,I=(findP n key).1:=⟨_,rfl⟩
   obtain ⟨S,hS⟩ : ∃ S,S=(findP n key).2:=⟨_,rfl⟩
   rw [<- hI,<- hS] at hfd
   have m0:=hbn.cell 0
   have m1:=hbn.cell 1
   have m2:=hbn.cell 2
   have ht2 : TreeAt W2 F2 gt gp k:=ht.out.ev hE3
   replace hN:=hide hN
   replace hK:=hide hK
   replace hI:=hide hI
   replace hS:=hide hS
   replace hn1:=hide hn1
   replace hn2:=hide hn2
   replace hO1:=hide hO1
   replace hF2:=hide hF2
   replace hP2:=hide hP2
   replace hE2:=hide hE2
   replace hP3:=hide hP3
   replace hE3:=hide hE3
   replace hbn:=hide hbn
   replace hW2:=hide hW2
   replace hgn:=hide hgn
   replace hkm3:=hide hkm3
   replace hnb:=hide hnb
   replace ht2:=hide ht2
   go_upto_region 8 with (fail)
   rw [<- hW2.out,<- hgn.out]
   go_wp2_with fail
   refine hfd.out.mono ?_
   rintro e w4 ⟨rfl,hB4⟩
   have hb4:=hbn.out.below hB4 (Blk.lt hbn.out)
   have y0 : w4.cell? ⟨gn,0,none⟩=some (.bool lf):=hb4.cell 0
   have y1 : w4.cell? ⟨gn,1,none⟩=some (.slice A2 N c2):=hb4.cell 1
   have y2 : w4.cell? ⟨gn,2,none⟩=some (.slice A1 K c1):=hb4.cell 2
   have hE4:=hE3.out.below hB4
   have hP4:=hP3.out.below hB4
   have hn4 : NodeM (Mine F2 w4) w4 (.agg #[.bool lf,.slice A2 N c2,.slice A1 K c1]) n:=hn2.out.ev (Ev.of_below hB4)
   obtain ⟨A5,c5,B5,d5,e5,hc5,hd5,hcs5,hks5⟩:=hn4
   injection e5 with e5
   simp at e5
   obtain ⟨g1,⟨rfl,g2,rfl⟩,rfl,g3,rfl⟩:=e5
   clear g1 g2 g3
   replace hB4:=hide hB4
   replace hb4:=hide hb4
   clear m0 m1 m2
   cases lf with
   | false =>
     obtain ⟨kid,r',hr,hkid,hdk⟩ : ∃ kid r',r=kid :: r'/\n.kids[I]?=some kid/\DownL st key m (kid :: r'):=by
       rcases hcs.out with ⟨hf,_⟩ | ⟨_,kid,r',h1,h2,h3⟩
       · exact absurd (hlf.out.trans hf) (by simp)
       · exact ⟨kid,r',h1,by rw [hI.out]; exact h2,h3⟩
     have hIl : I < n.kids.length:=(List.getElem?_eq_some_iff.1 hkid).1
     obtain ⟨ad,hA,_,hcell⟩:=hks5.2 (by omega)
     subst hA
     have kx : w4.cell? (ad.add I)=some (.int .i64 (kid : Int)):=hcell I _ (by rw [List.getElem?_map,hkid]; rfl)
     have hIK : I < K:=by have:=hK.out; omega
     have hIKI : (I : Int) < (K : Int):=by omega
     have hI0 : (0 : Int)<=(I : Int):=by omega
     have hrel : Hid (GtRel w F gt gp st key m path kid w4):=hide ⟨pre ++ [no],r',F2,by rw [hpa.out,hr]; simp,hdk,hP4,hE4⟩
     have hmeas : Hid (path.length - path.idxOf kid < path.length - path.idxOf no):=hide (by
       have hn0:=hnd.out
       have e1 : path.idxOf no=pre.length:=by rw [hpa.out] at hn0 ⊢; exact idx_pre hn0
       have e2 : path.idxOf kid=(pre ++ [no]).length:=by
         have e3 : path=(pre ++ [no]) ++ kid :: r':=by rw [hpa.out,hr]; simp
         rw [e3] at hn0 ⊢
         exact idx_pre hn0
       have e4 : path.length=pre.length + (r'.length + 2):=by rw [hpa.out,hr]; simp
       rw [e1,e2,e4]
       simp; omega)
     replace hkid:=hide hkid
     replace hks5:=hide hks5
     replace hcs5:=hide hcs5
     replace hE4:=hide hE4
     replace hP4:=hide hP4
     replace hr:=hide hr
     replace hdk:=hide hdk
     replace hcell:=hide hcell
     clear hIl
     go_wp2_with fail
     go_roundw
     case rel => exact ⟨kid,rfl,hrel⟩
     case measure => simpa [intOf] using hmeas.out
   | true =>
     have hnm : n=m:=by
       rcases hcs.out with ⟨_,e⟩ | ⟨hf,_⟩
       · exact e
       · exact absurd (hlf.out.trans hf) (by simp)
     replace hks5:=hide hks5
     cases S with
     | false =>
       have hend : Hid (GetEndV F w gp st m key (.returned (.tuple #[.slice none 0 0,.bool false,.int .i64 0])) w4):=hide ⟨F2,hP4,hE4,.inl ⟨by rw [<- hnm]; exact hS.out.symm,rfl⟩⟩
       replace hcs5:=hide hcs5
       replace hE4:=hide hE4
       replace hP4:=hide hP4
       replace hnm:=hide hnm
       go_wp2_with fail
       go_ret3
       exact hend.out
     | true =>
       have hil : I < n.cells.length:=by
         have h9:=hfl.out (by rw [<- hnm]; exact hS.out.symm)
         rw [<- hnm,<- hI.out] at h9
         exact h9
       obtain ⟨ad,kA2,vA2,kc2,vc2,e1,hh⟩:=hcs5.at_ I hil
       obtain ⟨c,hc⟩ : ∃ c,n.cells[I]?=some c:=⟨_,List.getElem?_eq_getElem hil⟩
       have hce : n.cells[I]=c:=(List.getElem?_eq_some_iff.1 hc).2
       rw [hce] at hh
       obtain ⟨b,hvb⟩:=hov.out c (by rw [<- hnm,<- hI.out]; exact hc)
       subst e1
       have x0:=hh.c0
       have x1:=hh.c1
       have x2:=hh.c2
       have x3:=hh.c3
       have hIN : I < N:=by have:=hN.out; omega
       have hINI : (I : Int) < (N : Int):=by omega
       have hI0 : (0 : Int)<=(I : Int):=by omega
       obtain ⟨V,hV⟩ : ∃ V,V=c.val.length:=⟨_,rfl⟩
       obtain ⟨U,hU⟩ : ∃ U,U=c.key.length:=⟨_,rfl⟩
       rw [<- hV] at x1
       rw [<- hU] at x0
       have hvs:=hide (value_any w4 F2 (fun _ => False) (fun _ hf => hf.elim) gt gp k st hP4 (ht.out.ev hE4) c b hvb kA2 vA2 U kc2 vc2 (fun _ => hh.val.keep fun j hj => ⟨⟨hj.1,fun hf => hf.elim hj.2 id⟩,rfl⟩) hh.vle)
       rw [<- hV] at hvs
       obtain ⟨OV,hOV⟩ : ∃ OV,OV=c.over:=⟨_,rfl⟩
       obtain ⟨LG,hLG⟩ : ∃ LG,LG=c.long:=⟨_,rfl⟩
       rw [<- hOV] at x2 hvs
       rw [<- hLG] at x3 hvs
       obtain ⟨BL,hBL⟩ : ∃ BL,BL=b.length:=⟨_,rfl⟩
       have hend : Hid (∀ w5 F5 vA5 vc5,PgAt w5 F5 gp st->Ev F2 w4 F5 w5->MB (FC F5 (fun _ => False)) w5 vA5 BL b->BL<=vc5->GetEndV F w gp st m key (.returned (.tuple #[.slice vA5 BL vc5,.bool true,.int .i64 0])) w5):=hide fun w5 F5 vA5 vc5 h1 h2 h3 h4 => ⟨F5,h1,hE4.trans h2,.inr ⟨by rw [<- hnm]; exact hS.out.symm,c,b,vA5,vc5,by rw [<- hnm,<- hI.out]; exact hc,hvb,by rw [hBL],by rw [<- hBL]; exact h3.sub fun j hj => .inl hj,by rw [<- hBL]; exact h4⟩⟩
       replace hvb:=hide hvb
       replace hBL:=hide hBL
       replace hOV:=hide hOV
       replace hLG:=hide hLG
       replace hh:=hide hh
       replace hc:=hide hc
       clear hce
       replace hV:=hide hV
       replace hU:=hide hU
       replace hcs5:=hide hcs5
       replace hE4:=hide hE4
       replace hP4:=hide hP4
       replace hnm:=hide hnm
       clear hil
       go_wp2_with fail
       refine hvs.out.mono ?_
       rintro e w5 ⟨F5,vA5,vc5,rfl,hP5,hE5,hm5,hvc5⟩
       rw [<- hBL.out] at hm5 hvc5 ⊢
       have hend2:=hide (hend.out w5 F5 vA5 vc5 hP5 hE5 hm5 hvc5)
       replace hP5:=hide hP5
       replace hE5:=hide hE5
       replace hm5:=hide hm5
       replace hvc5:=hide hvc5
       go_wp2_with fail
       go_ret3
       exact hend2.out
end Go.Proofs.YtiiljlmeililbaaGreatDoor
