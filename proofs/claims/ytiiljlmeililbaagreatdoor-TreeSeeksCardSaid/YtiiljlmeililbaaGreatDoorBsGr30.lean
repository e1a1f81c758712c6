/-
  Contract of tree.value: the value of a cell, here or on pages.
-/
import Derived.Test.YtiiljlmeililbaaGreatDoorBsGr27
import Derived.Test.YtiiljlmeililbaaGreatDoorBsGr29
import Derived.Test.YtiiljlmeililbaaGreatDoorBsGr28
namespace Go.Proofs.YtiiljlmeililbaaGreatDoor
set_option linter.unusedVariables false
set_option maxRecDepth 100000
open Go.RowKit
def sameS (st : PgS) (_ : Nat) : PgS:=st
def ValJ (B0 g : Nat) (d : List (Nat × List UInt8)) (D F : Nat->Prop) (w : World) : Prop :=
 ∃ v,Blk w g 37 #[v]/\OB w B0 v (d.flatMap (·.2)).length (d.flatMap (·.2))/\(∀ k,D k->k=g \/ v.ownBlock=some k)/\(D g/\∀ k,v.ownBlock=some k->D k)/\(∀ k,D k->¬ F k/\k < w.heap.size)/\(d.flatMap (·.2)).length<=505 * d.length/\B0<=w.heap.size
theorem value1_any (B0 g : Nat) (w : World) (F D : Nat->Prop) (d : List (Nat × List UInt8)) (hJ : ValJ B0 g d D F w) (gp : Nat) (st : PgS) (h : PgAt w F gp st) (no : Nat) (b : List UInt8) (A : Option Addr) (c : Nat) (hr : RB w w.heap.size A b.length b) (hb : b.length<=505) (hd : d.length<=100000) :
   Calls Tryz.prog 86 #[.int .i64 (no : Int),.slice A b.length c,.pointer (some ⟨g,0,none⟩)] w fun e w' => e=.returned (.int .i64 0)/\∃ F' D',PgAt w' F' gp st/\ValJ B0 g (d ++ [(no,b)]) D' F' w'/\Ev (FC F D) w (FC F' D') w':=by
 obtain ⟨v,hbg,hO,hD,⟨hDg,hDv⟩,hDF,hlen,hB0⟩:=hJ
 obtain ⟨vA,vc,rfl,_,_,_,_⟩:=hO.form
 have c0:=hbg.cell 0
 have f0:=hbg.frozen 0
 obtain ⟨M,hM⟩ : ∃ M,M=(d.flatMap (·.2)).length:=⟨_,rfl⟩
 obtain ⟨xs,hxs⟩ : ∃ xs,xs=d.flatMap (·.2):=⟨_,rfl⟩
 obtain ⟨N,hN⟩ : ∃ N,N=b.length:=⟨_,rfl⟩
 rw [<- hM] at hO hlen c0 hbg hD hDv
 rw [<- hxs] at hO hM
 rw [<- hN] at hr hb ⊢
 have hfin : Hid (∀ v2 w2,OB w2 B0 v2 (M + N) (xs ++ b)->w.grownBy w2 (Value.slice vA M vc).ownBlock->(v2.ownBlock=(Value.slice vA M vc).ownBlock \/ v2.ownBlock=some w.heap.size)->∃ F' D',PgAt (w2.setCell ⟨g,0,none⟩ v2) F' gp st/\ValJ B0 g (d ++ [(no,b)]) D' F' (w2.setCell ⟨g,0,none⟩ v2)/\Ev (FC F D) w (FC F' D') (w2.setCell ⟨g,0,none⟩ v2)):=hide (by
   intro v2 w2 hO2 hg2 hv2
   have hne : (Value.slice vA M vc).ownBlock ≠ some g:=fun e => own_blk_ne hO hbg (by decide) e
   have hb2:=(hbg.grown hg2 (fun e => hne e.symm)).set_ 0 v2
   have hOn : Only (FC F D) w (w2.setCell ⟨g,0,none⟩ v2):=((Only.refl (FC F D) w).grown hg2 (fun k hk _ => .inr (hDv k hk))).setCell (p:=⟨g,0,none⟩) (fun _ => .inr hDg) v2
   have hnew : ∀ k,v2.ownBlock=some k->D k \/ k=w.heap.size:=fun k hk => by
     rcases hv2 with e | e
     · exact .inl (hDv k (by rw [<- e]; exact hk))
     · rw [e] at hk; injection hk with hk; exact .inr hk.symm
   refine ⟨F,fun k => k=g \/ v2.ownBlock=some k,?_,⟨v2,hb2,?_,fun k hk => hk,⟨.inl rfl,fun k hk => .inr hk⟩,fun k hk => ?_,?_,Nat.le_trans hB0 hOn.size⟩,hOn,fun k hk => ?_⟩
   · exact (h.grown hg2 (fun k hk hf => (hDF k (hDv k hk)).1 hf)).set_ (p:=⟨g,0,none⟩) (hDF g hDg).1 v2
   · have e1 : (d ++ [(no, b)]).flatMap (·.2) = xs ++ b := by rw [List.flatMap_append, <- hxs]; simp
     rw [e1,List.length_append,<- hM,<- hN]
     exact ((Only.refl (fun k => k=g) w2).setCell (p:=⟨g,0,none⟩) (fun _ => rfl) v2).row hO2 (own_not_blk hO2 (hbg.grown hg2 (fun e => hne e.symm)) (by decide))
   · rcases hk with rfl | hk
     · exact ⟨(hDF k hDg).1,Nat.lt_of_lt_of_le (hDF k hDg).2 hOn.size⟩
     · refine ⟨fun hf => ?_, ?_⟩
       · rcases hnew k hk with h9 | h9
         · exact (hDF k h9).1 hf
         · have:=h.lt k hf; omega
       · have := (own_lt hO2 hk).2
         simpa [World.setCell] using this
   · have e1 : (d ++ [(no, b)]).flatMap (·.2) = xs ++ b := by rw [List.flatMap_append, <- hxs]; simp
     rw [e1,List.length_append,List.length_append,<- hM,<- hN]
     simp only [List.length_cons,List.length_nil]
     omega
   · rcases hk with hk | hk | hk
     · exact .inl (.inl hk)
     · exact .inl (.inr (by rw [hk]; exact hDg))
     · rcases hnew k hk with h9 | h9
       · exact .inl (.inr h9)
       · exact .inr (by omega))
 have hx:=hide (hO.more (Nat.zero_le B0))
 replace hO:=hide hO
 replace hbg:=hide hbg
 replace h:=hide h
 replace hM:=hide hM
 replace hN:=hide hN
 replace hxs:=hide hxs
 replace hr:=hide hr
 replace hD:=hide hD
 replace hDv:=hide hDv
 replace hDF:=hide hDF
 go_enter Tryz.func86,Tryz.ntmps86
 go_wp2_with (at_builtin; refine wpList_app_b rfl (.tmp 6) (.tmp 7) rfl B0 _ M xs hO.out rfl w.heap.size A N c b rfl hr.out (by omega) hB0 ?_; intro v2 w2 hO2 hB2 hg2 hv2; obtain ⟨A2,c2,rfl,_,_,_,_⟩:=hO2.form; have hdone:=hide (hfin.out _ w2 hO2 hg2 hv2); have hb2:=hbg.out.grown hg2 (fun e => own_blk_ne hO.out hbg.out (by decide) e.symm); have z0:=hb2.cell 0; have z1:=hb2.frozen 0; replace hb2:=hide hb2; replace hO2:=hide hO2; replace hB2:=hide hB2; replace hg2:=hide hg2)
 go_ret
 obtain ⟨F9,D9,p1,p2,p3⟩:=hdone.out
 exact ⟨rfl,F9,p1,D9,p2,p3⟩
theorem value1_fn : ∀ args wx,(callFunc 86 args).run Tryz.prog wx=.ok (.enter 86 args) wx:=fun args wx => by
 have h:=Tryz.func86
 simp [callFunc,Sem.run_bind,go_sem,h,Tryz.f86]
theorem value1_chain (B0 g gp : Nat) : ChainC sameS 86 #[.pointer (some ⟨g,0,none⟩)] gp (ValJ B0 g) where
 fn:=value1_fn
 keep d D F F' w w' hJ he:=by
   obtain ⟨v,hb,hO,hD,hD2,hDF,hl,hB⟩:=hJ
   have hk : ∀ k,D k->w'.heap[k]?=w.heap[k]?:=fun k hk => he.block ⟨(hDF k hk).2,(hDF k hk).1⟩
   exact ⟨v,(hk g hD2.1).trans hb,he.only.row hO (fun k hk => (hDF k (hD2.2 k hk)).1),hD,hD2,fun k hk => ⟨he.new (hDF k hk).1 (hDF k hk).2,Nat.lt_of_lt_of_le (hDF k hk).2 he.size⟩,hl,Nat.le_trans hB he.size⟩
 step d D F w st no b A c hJ h hn hf hr hc hb hd:=value1_any B0 g w F D d hJ gp st h no b A c hr hb hd
def ValueEnd (F X : Nat->Prop) (w : World) (gp : Nat) (st : PgS) (b : List UInt8) (e : Ending) (w' : World) : Prop :=
 ∃ F' vA vc,e=.returned (.tuple #[.slice vA b.length vc,.int .i64 0])/\PgAt w' F' gp st/\Ev F w F' w'/\MB (FC F' X) w' vA b.length b/\b.length<=vc
def ValueG (st : PgS) (c : CellP) (b : List UInt8) : Prop:=(c.over=0/\b=c.val) \/ (c.over ≠ 0/\c.long<=20000/\∃ l,GoR sameS st c.over c.long l st/\b=l.flatMap (·.2))
theorem value_any (w : World) (F X : Nat->Prop) (hX : ∀ k,X k->k < w.heap.size) (gt gp k : Nat) (st : PgS) (h : PgAt w F gp st) (ht : TreeAt w F gt gp k) (c : CellP) (b : List UInt8) (hv : ValueG st c b) (kA vA : Option Addr) (kl kc vc : Nat) (hr : c.over=0->MB (FC F X) w vA c.val.length c.val) (hvc : c.val.length<=vc) :
   Calls Tryz.prog 47 #[.pointer (some ⟨gt,0,none⟩),.agg #[.slice kA kl kc,.slice vA c.val.length vc,.int .i64 (c.over : Int),.int .i64 (c.long : Int)]] w (ValueEnd F X w gp st b):=by
 rcases hv with ⟨h0,rfl⟩ | ⟨h0,hl,l,hg,rfl⟩
 · rw [h0]
   refine (value_short w gt kA vA kl c.val.length kc vc c.long).mono ?_
   rintro e w' ⟨rfl,hB⟩
   exact ⟨F,vA,vc,rfl,h.below hB,Ev.of_below hB,(hr h0).ev ((Ev.of_below hB).add X),hvc⟩
 · obtain ⟨V, hV⟩ : ∃ V, V = c.val.length := ⟨_, rfl⟩
   obtain ⟨o1,ho1⟩ : ∃ o1,o1=Obj.cells #[.slice kA kl kc,.slice vA V vc,.int .i64 (c.over : Int),.int .i64 (c.long : Int)] 83:=⟨_,rfl⟩
   obtain ⟨g,hg0⟩ : ∃ g,g=w.heap.size + 1:=⟨_,rfl⟩
   obtain ⟨w2,hw2⟩ : ∃ w2,w2=(w.alloc o1).alloc (.cells #[.slice none 0 0] 37):=⟨_,rfl⟩
   have hE2 : Ev F w F w2:=by rw [hw2]; exact ((Ev.refl F w).alloc_ o1).alloc_ _
   have hb1 : Blk w2 w.heap.size 83 #[.slice kA kl kc,.slice vA V vc,.int .i64 (c.over : Int),.int .i64 (c.long : Int)]:=by rw [hw2,ho1]; exact (Blk.new w 83 _).alloc _
   have hbg : Blk w2 g 37 #[.slice none 0 0]:=by
     have q:=Blk.new (w.alloc o1) 37 #[.slice none 0 0]
     rw [World.size_alloc] at q
     rw [hw2,hg0]; exact q
   have hz2 : w2.heap.size=w.heap.size + 2:=by rw [hw2]; simp
   have hFlt:=h.lt
   have hJ : ValJ w2.heap.size g [] (fun k => k=g) F w2:=⟨_,hbg,OB.nil _ _,fun k hk => .inl hk,⟨rfl,fun k hk => by simp [Value.ownBlock] at hk⟩,fun k hk => by subst hk; exact ⟨fun hf => by have:=hFlt _ hf; omega,by omega⟩,by simp,Nat.le_refl _⟩
   have hgt:=Blk.lt ht.blk
   have hgtg : gt ≠ g:=by omega
   have ht2 : TreeAt w2 (FC F (fun k => k=g)) gt gp k:=⟨(ht.ev hE2).blk,fun hf => hf.elim (ht.ev hE2).out (fun e => hgtg e)⟩
   have hP2 : PgAt w2 F gp st:=by rw [hw2]; exact (h.alloc _).alloc _
   have hch:=hide (chain_any sameS 86 #[.pointer (some ⟨g,0,none⟩)] gp (ValJ w2.heap.size g) (value1_chain w2.heap.size g gp) w2 F (fun k => k=g) gt k st st hP2 ht2 c.over c.long l hg hJ (by omega))
   have hov : ((c.over : Int) == 0)=false:=by rw [beq_eq_false_iff_ne]; omega
   obtain ⟨ov,hovn⟩ : ∃ ov,ov=c.over:=⟨_,rfl⟩
   obtain ⟨lg,hlg⟩ : ∃ lg,lg=c.long:=⟨_,rfl⟩
   rw [<- hovn,<- hlg] at hch hb1 ho1
   rw [<- hovn] at hov
   rw [<- hovn,<- hlg,<- hV]
   have d2:=hb1.cell 2
   have d3:=hb1.cell 3
   subst ho1
   have hw2a : w2=(w.alloc (.cells #[.slice kA kl kc,.slice vA V vc,.int .i64 (ov : Int),.int .i64 (lg : Int)] 83)).alloc (.cells #[.slice none 0 0] 37):=hw2
   have e2 : ((w.alloc (.cells #[.slice kA kl kc,.slice vA V vc,.int .i64 (ov : Int),.int .i64 (lg : Int)] 83)).alloc (.cells #[.slice none 0 0] 37)).cell? ⟨w.heap.size,2,none⟩=some (.int .i64 (ov : Int)):=by rw [<- hw2a]; exact d2
   have e3 : ((w.alloc (.cells #[.slice kA kl kc,.slice vA V vc,.int .i64 (ov : Int),.int .i64 (lg : Int)] 83)).alloc (.cells #[.slice none 0 0] 37)).cell? ⟨w.heap.size,3,none⟩=some (.int .i64 (lg : Int)):=by rw [<- hw2a]; exact d3
   clear hw2a
   replace h:=hide h
   replace ht:=hide ht
   replace hw2:=hide hw2
   replace hg0:=hide hg0
   replace hE2:=hide hE2
   replace hb1:=hide hb1
   replace hbg:=hide hbg
   replace hz2:=hide hz2
   replace hJ:=hide hJ
   replace ht2:=hide ht2
   replace hP2:=hide hP2
   replace hV:=hide hV
   replace hovn:=hide hovn
   replace hlg:=hide hlg
   replace hFlt:=hide hFlt
   clear hr hvc h0
   go_enter Tryz.func47,Tryz.ntmps47
   go_upto_region 4 with (fail)
   rw [<- hg0.out,<- hw2.out]
   go_wp2_with fail
   go_at_call 78
   refine hch.out.mono ?_
   rintro e w3 ⟨rfl,F3,D3,hP3,hJ3,hE3⟩
   obtain ⟨v,hb3,hO3,hD3,⟨hDg,hDv⟩,hDF3,hl3,hB3⟩:=hJ3
   obtain ⟨A3,c3,rfl,_,_,hc3,_⟩:=hO3.form
   have z0:=hb3.cell 0
   have hEw : Ev F w F3 w3:=⟨hE2.out.only.trans hE3.only (fun j hj hT => by
       rcases hT with hT | hT
       · exact hT
       · have h8 : j = g := hT
         have:=hg0.out
         omega),fun j hj => by
       rcases hE3.grow j (.inl hj) with hT | hT
       · rcases hT with hT | hT
         · exact .inl hT
         · have h8 : j = g := hT
           have:=hg0.out
           exact .inr (by omega)
       · have := hz2.out
         exact .inr (by omega)⟩
   have hmb : MB (FC F3 X) w3 A3 (l.flatMap (·.2)).length (l.flatMap (·.2)):=by
     refine ⟨hO3.1,fun hn => ?_⟩
     obtain ⟨g4,cap,hv4,hb4,hlt⟩:=World.ownsRow.form hO3 hn
     have hA : A3=some ⟨g4,0,none⟩:=by injection hv4
     subst hA
     have hb9:=hb4
     have hz9:=hz2.out
     exact ⟨_,rfl,⟨hlt,fun hf => hf.elim (hDF3 g4 (hDv g4 rfl)).1 (fun hx => by have:=hX g4 hx; omega)⟩,World.ownsRow.cells hO3 (g:=g4) rfl⟩
   have hdone : Hid (ValueEnd F X w gp st (l.flatMap (·.2)) (.returned (.tuple #[.slice A3 (l.flatMap (·.2)).length c3,.int .i64 0])) w3):=hide ⟨F3,A3,c3,rfl,hP3,hEw,hmb,hc3⟩
   obtain ⟨L,hL⟩ : ∃ L,L=(l.flatMap (·.2)).length:=⟨_,rfl⟩
   rw [<- hL] at hdone z0
   obtain ⟨Q,hQ⟩ : ∃ Q,Q=ValueEnd F X w gp st (l.flatMap (·.2)):=⟨_,rfl⟩
   rw [<- hQ] at hdone
   replace hQ:=hide hQ
   replace hL:=hide hL
   replace hEw:=hide hEw
   replace hmb:=hide hmb
   replace hb3:=hide hb3
   replace hO3:=hide hO3
   replace hD3:=hide hD3
   replace hDv:=hide hDv
   replace hDF3:=hide hDF3
   replace hl3:=hide hl3
   replace hc3:=hide hc3
   replace hP3:=hide hP3
   replace hE3:=hide hE3
   go_wp2_with fail
   go_ret2
   have h9:=hdone.out
   rw [hQ.out] at h9
   exact h9
theorem pair_info : (Tryz.prog.info? 50).map (fun i => (i.zero,i.size,i.bytes))=some (some (.agg #[.slice none 0 0,.slice none 0 0]),2,48):=by kernel_rfl
theorem PairsW.snoc {F : Nat->Prop} {w : World} {rows : List (List Value)} {kv : List KV} (h : PairsW F w rows kv) (hl : rows.length=kv.length) {vs : List Value} {p : KV} (hv : PairV (byteOf F w) w vs p) : PairsW F w (rows ++ [vs]) (kv ++ [p]):=by
 intro k vs' p' e1 e2
 rcases Nat.lt_trichotomy k rows.length with hk | hk | hk
 · rw [List.getElem?_append_left hk] at e1
   rw [List.getElem?_append_left (by omega)] at e2
   exact h k vs' p' e1 e2
 · subst hk
   rw [List.getElem?_append_right (Nat.le_refl _),Nat.sub_self] at e1
   rw [List.getElem?_append_right (by omega),show rows.length - kv.length=0 from by omega] at e2
   simp at e1 e2
   subst e1; subst e2; exact hv
 · have := (List.getElem?_eq_some_iff.1 e1).1
   simp at this; omega
theorem run_app_pair (w : World) (F : Nat->Prop) (hF : ∀ k,F k->k < w.heap.size) (B : Nat) (v : Value) (kv : List KV) (h : RefV F w B v kv) (hB : B<=w.heap.size) (g : Nat) (x0 x1 : Value) (hb : Blk w g 50 #[x0,x1]) (p : KV) (hv : PairV (byteOf F w) w [x0,x1] p) (hn : kv.length<=100000) :
   ∃ v' w',(Builtin.append_ #[34,34] 34 #[v,.slice (some ⟨g,0,none⟩) 1 1]).run Tryz.prog w=.ok v' w'/\RefV F w' B v' (kv ++ [p])/\Below B w w'/\w.grownBy w' v.ownBlock/\(v'.ownBlock=v.ownBlock \/ v'.ownBlock=some w.heap.size):=by
 obtain ⟨i0,hi0,hz0,hz1,hz2⟩:=info_parts pair_info
 obtain ⟨rows,h1,h2,h3⟩:=h.rows
 have hone : ∀ u ∈ [x0,x1],u.oneCell'=true:=by
   obtain ⟨kA,kc,vA,vc,e,_⟩:=hv
   rw [e]; intro u hu; simp at hu; rcases hu with rfl | rfl <;> rfl
 obtain ⟨v',w',hrun,ho,hg,hv'⟩:=run_append_any (P:=Tryz.prog) w B 34 34 50 i0 _ 2 48 Tryz.underlying34 hi0 hz0 hz1 hz2 rfl (by omega) v kv.length rows.flatten h2 w.heap.size (some ⟨g,0,none⟩) 1 1 [x0,x1] ⟨rfl,fun _ => ⟨_,rfl,hb.lt,fun j u hu => by
     rw [Addr.add_lit,Nat.zero_add,hb.cell]
     simpa using hu⟩⟩ hone (by simp only [maxLen]; omega) (by omega) hB
 have hO : Only (fun j => v.ownBlock=some j) w w':=(Only.refl _ w).grown hg (fun k hk _ => hk)
 have hs : ∀ k cs,v.ownBlock=some k->¬ Blk w k 5 cs:=fun k cs hk hb => own_blk_ne h2 hb (by decide) hk
 refine ⟨v',w',hrun,⟨⟨rows ++ [[x0,x1]],by simp [h1],?_,(h3.snoc h1 hv).keepW hO hs⟩,fun k hk hf => ?_⟩,(Below.refl B w).grown hg hB (fun k hk => (own_lt h2 hk).1),hg,hv'⟩
 · rw [List.flatten_append, List.length_append]
   simpa using ho
 · rcases hv' with e | e
   · exact h.out k (e.symm.trans hk) hf
   · rw [e] at hk; injection hk with hk; have:=hF k hf; omega
theorem drop_step {kv : List KV} {a i : Nat} (hi : i < kv.length) (hne : i ≠ a) : (kv.take (i + 1)).eraseIdx a=(kv.take i).eraseIdx a ++ [kv[i]]:=by
 rw [List.take_succ_eq_append_getElem hi]
 rcases Nat.lt_or_ge a i with h | h
 · rw [List.eraseIdx_append_of_lt_length (by rw [List.length_take]; omega)]
 · rw [List.eraseIdx_of_length_le (l:=kv.take i) (by rw [List.length_take]; omega),List.eraseIdx_of_length_le (by simp; omega)]
theorem drop_at_ {kv : List KV} {i : Nat} (hi : i < kv.length) : (kv.take (i + 1)).eraseIdx i=(kv.take i).eraseIdx i:=by
 rw [List.take_succ_eq_append_getElem hi,List.eraseIdx_append_of_length_le (by rw [List.length_take]; omega),List.eraseIdx_of_length_le (l:=kv.take i) (by rw [List.length_take]; omega)]
 rw [show i - (kv.take i).length=0 from by rw [List.length_take]; omega]
 simp
def DropRet (F : Nat->Prop) (w : World) (gx : Nat) (kv : List KV) (b : Bool) (e : Ending) (w' : World) : Prop:=e=.returned (.bool b)/\RefT F w' gx kv/\Only (fun k => k=gx) w w'
def DropI (F : Nat->Prop) (w : World) (kv : List KV) (vo : Value) (wx : World) : Prop:=RefV F wx w.heap.size vo kv/\Below w.heap.size w wx
set_option maxHeartbeats 1000000 in
theorem rdrop_any (F : Nat->Prop) (w : World) (hF : ∀ k,F k->k < w.heap.size) (gx : Nat) (kv : List KV) (h : RefT F w gx kv) (hkv : ∀ p ∈ kv,p.1.length<=1000) (hn : kv.length<=100000) (A : Option Addr) (n c : Nat) (key : KeyB) (hk : RB w w.heap.size A n key) (hkl : n<=1000) :
   Calls Tryz.prog 43 #[.pointer (some ⟨gx,0,none⟩),.slice A n c] w (DropRet F w gx (dropK key kv) (decide (findK kv key < kv.length))):=by
 have hfi:=hide (rfind_any F w gx kv h hkv hn A n c key hk hkl)
 obtain ⟨N,hN⟩ : ∃ N,N=kv.length:=⟨_,rfl⟩
 obtain ⟨a,ha⟩ : ∃ a,a=findK kv key:=⟨_,rfl⟩
 obtain ⟨AT,hAT⟩ : ∃ AT,AT=findI_ kv key:=⟨_,rfl⟩
 have hNI : (N : Int)<=100000:=by omega
 have hATa : AT=if a < N then (a : Int) else -1:=by rw [hAT,ha,hN]; rfl
 have hATd : Hid (decide (0<=AT)=decide (findK kv key < kv.length)):=hide (by
   rw [<- ha,<- hN,hATa]
   by_cases h9 : a < N
   · rw [if_pos h9,decide_eq_true h9]; simp
   · rw [if_neg h9,decide_eq_false h9]; rfl)
 rw [<- hAT] at hfi
 have hgx : gx < w.heap.size:=Blk.lt h.mem.choose_spec.choose_spec.1
 replace h:=hide h
 replace hk:=hide hk
 replace hkv:=hide hkv
 replace hN:=hide hN
 replace ha:=hide ha
 replace hAT:=hide hAT
 replace hATa:=hide hATa
 replace hF:=hide hF
 go_enter Tryz.func43,Tryz.ntmps43
 go_wp2_with fail
 go_at_call 15
 refine hfi.out.mono ?_
 rintro e w1 ⟨rfl,hB1⟩
 clear hfi
 have hst : Hid (DropI F w ((kv.take 0).eraseIdx a) (.slice none 0 0) w1):=hide ⟨by simpa using RefV.nil F w1 w.heap.size,hB1⟩
 replace hB1:=hide hB1
 go_wp2_with fail
 go_loopw [7,6] (fun v7 v6 wx => ∃ i : Nat,v7=.int .i64 (i : Int)/\i<=N/\Hid (DropI F w ((kv.take i).eraseIdx a) v6 wx)) (fun v7 _ _ => N - (intOf v7).toNat)
 case atStart => exact ⟨0,rfl,by omega,hst⟩
 case round =>
   obtain ⟨i,rfl,hi,hD⟩:=hrel
   obtain ⟨hV,hB⟩:=hD.out
   obtain ⟨B,v,hbx,hv⟩:=(h.out.ev (Ev.of_below (F:=F) hB)).mem
   obtain ⟨vA,vc,rfl,hvc⟩:=hv.form
   rw [<- hN.out] at hbx hv hvc
   have x0:=hbx.cell 0
   have x0f:=hbx.frozen 0
   clear hst hD
   by_cases hlt : i < N
   · obtain ⟨g, kA, kc, vA2, vc2, rfl, p0, p1, hkc, hvc2, hrk, hrv⟩ := hv.at_ i (by rw [<- hN.out]; exact hlt)
     have hiI : (i : Int) < (N : Int):=by omega
     have hvcI : (N : Int)<=(vc : Int):=by omega
     by_cases hia : i=a
     · have heq : ((i : Int) == AT) = true := by rw [beq_iff_eq, hATa.out, if_pos (by omega), hia]
       have hne : ((i : Int) != AT)=false:=by simp [bne,heq]
       have hnx : Hid (DropI F w ((kv.take (i + 1)).eraseIdx a) _ wr):=hide ⟨by have h9:=hV; rw [<- hia] at h9 ⊢; rw [drop_at_ (by rw [<- hN.out]; exact hlt)]; exact h9,hB⟩
       replace hV:=hide hV
       replace hB:=hide hB
       replace hbx:=hide hbx
       replace hv:=hide hv
       clear hia p0 p1 hrk hrv
       go_wp2_with fail
       go_roundw
       case rel => exact ⟨i + 1,by go_num,by omega,hnx⟩
       case measure => simp only [intOf]; omega
     · have heq : ((i : Int) == AT)=false:=by
         rw [beq_eq_false_iff_ne,hATa.out]
         split <;> omega
       have hne : ((i : Int) != AT)=true:=by simp [bne,heq]
       obtain ⟨p,hp⟩ : ∃ p,p=kv[i]'(by rw [<- hN.out]; exact hlt):=⟨_,rfl⟩
       rw [<- hp] at p0 p1 hkc hvc2 hrk hrv
       obtain ⟨KL,hKL⟩ : ∃ KL,KL=p.1.length:=⟨_,rfl⟩
       obtain ⟨VL,hVL⟩ : ∃ VL,VL=p.2.length:=⟨_,rfl⟩
       have hpv : PairV (byteOf F wr) wr [.slice kA p.1.length kc,.slice vA2 p.2.length vc2] p:=⟨kA,kc,vA2,vc2,rfl,hkc,hvc2,hrk,hrv⟩
       rw [<- hKL,<- hVL] at hpv
       rw [<- hKL] at p0
       rw [<- hVL] at p1
       have hEb : Ev F wr F (wr.alloc (.cells #[.slice kA KL kc,.slice vA2 VL vc2] 50)):=(Ev.refl F wr).alloc_ _
       obtain ⟨v9,w9,hrun,hV9,hB9,_⟩:=run_app_pair (wr.alloc (.cells #[.slice kA KL kc,.slice vA2 VL vc2] 50)) F (fun k hk => by have:=hF.out k hk; have:=hB.size; simp; omega) w.heap.size _ _ (hV.ev hEb) (by have:=hB.size; simp; omega) wr.heap.size _ _ (Blk.new wr 50 _) p (hpv.ev hEb) (by rw [List.length_eraseIdx]; split <;> (rw [List.length_take]; omega))
       have hnx : Hid (DropI F w ((kv.take (i + 1)).eraseIdx a) v9 w9):=hide ⟨by rw [drop_step (by rw [<- hN.out]; exact hlt) hia,<- hp]; exact hV9,(hB.alloc hB.size _).trans hB9⟩
       replace hV:=hide hV
       replace hB:=hide hB
       replace hbx:=hide hbx
       replace hv:=hide hv
       replace hp:=hide hp
       replace hKL:=hide hKL
       replace hVL:=hide hVL
       replace hpv:=hide hpv
       replace hEb:=hide hEb
       replace hV9:=hide hV9
       replace hB9:=hide hB9
       clear hia hrk hrv hkc hvc2
       go_wp2_with (at_builtin; refine Lib.wpList_append_run _ rfl (.tmp 23) (.tmp 31) 34 34 rfl _ _ rfl rfl _ _ hrun ?_)
       go_roundw
       case rel => exact ⟨i + 1,by go_num,by omega,hnx⟩
       case measure => simp only [intOf]; omega
   · obtain rfl : i = N := by omega
     obtain ⟨A9,c9,e9,_⟩:=hV.form
     obtain ⟨M,hM⟩ : ∃ M,M=((kv.take i).eraseIdx a).length:=⟨_,rfl⟩
     rw [<- hM] at e9
     subst e9
     have hdone : Hid (DropRet F w gx (dropK key kv) (decide (findK kv key < kv.length)) (.returned (.bool (decide (findK kv key < kv.length)))) (wr.setCell ⟨gx,0,none⟩ (.slice A9 M c9))):=hide (by
       have hOg : Only (fun j => j=gx) wr (wr.setCell ⟨gx,0,none⟩ (.slice A9 M c9)):=(Only.refl (fun j => j=gx) wr).setCell (p:=⟨gx,0,none⟩) (fun _ => rfl) _
       have e1 : (kv.take i).eraseIdx a=dropK key kv:=by
         unfold dropK
         rw [<- ha.out,List.take_of_length_le (by rw [hN.out]; exact Nat.le_refl _)]
       rw [e1] at hV
       refine ⟨rfl,⟨⟨w.heap.size,.slice A9 M c9,hbx.set_ 0 _,hV.only hOg fun j hj => by subst hj; exact ⟨_,_,hbx,by decide,by decide⟩⟩,h.out.out⟩,?_⟩
       exact (Only.of_below hB).trans hOg fun _ _ h => h)
     rw [<- hATd.out] at hdone
     replace hV:=hide hV
     replace hB:=hide hB
     replace hbx:=hide hbx
     replace hv:=hide hv
     replace hM:=hide hM
     go_wp2_with fail
     go_ret
     rw [<- hATd.out]
     exact hdone.out
theorem posK_spec (key : KeyB) : ∀ (kv : List KV),(∀ i (hl : i < kv.length),i < posK kv key->ltK key kv[i].1=false)/\(∀ h : posK kv key < kv.length,ltK key kv[posK kv key].1=true)/\posK kv key<=kv.length
 | [] => ⟨fun i hl => absurd hl (by simp),fun h => absurd h (by simp),by simp [posK]⟩
 | p :: r => by
   obtain ⟨h1,h2,h3⟩:=posK_spec key r
   cases hp : ltK key p.1 with
   | true =>
     have e : posK (p :: r) key=0:=by unfold posK; rw [List.takeWhile_cons,hp]; rfl
     refine ⟨fun i _ hi => by omega,fun h => ?_,by omega⟩
     simp only [e]
     exact hp
   | false =>
     have e : posK (p :: r) key=posK r key + 1:=by unfold posK; rw [List.takeWhile_cons,hp]; rfl
     refine ⟨fun i hl hi => ?_,fun h => ?_,by rw [e,List.length_cons]; omega⟩
     · cases i with
       | zero => exact hp
       | succ i => exact h1 i (by simpa using hl) (by omega)
     · simp only [e, List.getElem_cons_succ]
       exact h2 (by rw [e,List.length_cons] at h; omega)
def outP (key : KeyB) (b : List UInt8) (kv : List KV) (i : Nat) : List KV:=if posK kv key < i then kv.take (posK kv key) ++ (key,b) :: (kv.take i).drop (posK kv key) else kv.take i
theorem outP_next {key : KeyB} {b : List UInt8} {kv : List KV} {i : Nat} (hi : i < kv.length) (hne : i ≠ posK kv key) : outP key b kv (i + 1)=outP key b kv i ++ [kv[i]]:=by
 unfold outP
 rcases Nat.lt_or_gt_of_ne hne with h | h
 · rw [if_neg (by omega),if_neg (by omega),List.take_succ_eq_append_getElem hi]
 · rw [if_pos (by omega), if_pos h, List.take_succ_eq_append_getElem hi, List.drop_append_of_le_length (by rw [List.length_take]; omega)]
   simp
theorem outP_at {key : KeyB} {b : List UInt8} {kv : List KV} {i : Nat} (hi : i < kv.length) (he : i=posK kv key) : outP key b kv (i + 1)=(outP key b kv i ++ [(key,b)]) ++ [kv[i]]:=by
 unfold outP
 rw [if_pos (by omega),if_neg (by omega),<- he,List.take_succ_eq_append_getElem hi,List.drop_append_of_le_length (by rw [List.length_take]; omega),List.drop_of_length_le (by rw [List.length_take]; omega)]
 simp
theorem outP_done {key : KeyB} {b : List UInt8} {kv : List KV} (h : posK kv key < kv.length) : outP key b kv kv.length=putK key b kv:=by
 unfold outP putK
 rw [if_pos h,List.take_length]
theorem outP_end {key : KeyB} {b : List UInt8} {kv : List KV} (h : ¬ posK kv key < kv.length) : outP key b kv kv.length ++ [(key,b)]=putK key b kv:=by
 have h2:=(posK_spec key kv).2.2
 have e : posK kv key=kv.length:=by omega
 unfold outP putK
 rw [if_neg h,e,List.take_length,List.drop_length]
def RPutRet (F : Nat->Prop) (w : World) (gx : Nat) (kv : List KV) (e : Ending) (w' : World) : Prop:=e=.returned (.int .i64 0)/\RefT F w' gx kv/\Only (fun k => k=gx) w w'
def RPutI (F : Nat->Prop) (w3 : World) (B : Nat) (L : List KV) (vo : Value) (wx : World) : Prop:=RefV F wx B vo L/\Below w3.heap.size w3 wx
theorem app_el {F : Nat->Prop} {w3 W : World} (hF : ∀ k,F k->k < w3.heap.size) {L : List KV} {vo : Value} (hD : RPutI F w3 w3.heap.size L vo W) {x0 x1 : Value} {p : KV} (hpv : PairV (byteOf F W) W [x0,x1] p) (hn : L.length<=100000) :
   ∃ v9 w9,(Builtin.append_ #[34,34] 34 #[vo,.slice (some ⟨W.heap.size,0,none⟩) 1 1]).run Tryz.prog (W.alloc (.cells #[x0,x1] 50))=.ok v9 w9/\RPutI F w3 w3.heap.size (L ++ [p]) v9 w9:=by
 obtain ⟨hV,hB⟩:=hD
 have hEb : Ev F W F (W.alloc (.cells #[x0,x1] 50)):=(Ev.refl F W).alloc_ _
 obtain ⟨v9,w9,hrun,hV9,hB9,_⟩:=run_app_pair (W.alloc (.cells #[x0,x1] 50)) F (fun k hk => by have:=hF k hk; have:=hB.size; simp; omega) w3.heap.size _ _ (hV.ev hEb) (by have:=hB.size; simp; omega) W.heap.size _ _ (Blk.new W 50 _) p (hpv.ev hEb) hn
 exact ⟨v9,w9,hrun,hV9,(hB.alloc hB.size _).trans hB9⟩
theorem outP_len {key : KeyB} {b : List UInt8} {kv : List KV} {i : Nat} : (outP key b kv i).length<=kv.length + 1:=by
 unfold outP
 split
 · simp; omega
 · simp; omega
set_option maxHeartbeats 2000000 in
theorem rput_any (F : Nat->Prop) (w : World) (hF : ∀ k,F k->k < w.heap.size) (gx : Nat) (kv : List KV) (h : RefT F w gx kv) (hkv : ∀ p ∈ kv,p.1.length<=1000) (hn : kv.length<=50000) (A C : Option Addr) (n c m d : Nat) (key b : List UInt8)
   (hk : Rd (fun k => k < w.heap.size/\k ≠ gx) w 1 A n (bv key)) (hb : Rd (fun k => k < w.heap.size/\k ≠ gx) w 1 C m (bv b)) (h1 : 1<=n) (h2 : n<=120) (h3 : m<=20000) :
   Calls Tryz.prog 12 #[.pointer (some ⟨gx,0,none⟩),.slice A n c,.slice C m d] w (RPutRet F w gx (putK key b (dropK key kv))):=by
 have hkl : key.length=n:=by have:=hk.1; simpa [bv] using this
 have hbl : b.length=m:=by have:=hb.1; simpa [bv] using this
 have hdr:=hide (rdrop_any F w hF gx kv h hkv (by omega) A n c key (Rd.reads hk fun k hk => hk.1) (by omega))
 have l1 : decide ((n : Int) < 1)=false:=decide_eq_false (by omega)
 have l2 : decide (120 < (n : Int))=false:=decide_eq_false (by omega)
 have l2n : decide (120 < n)=false:=decide_eq_false (by omega)
 have l3 : decide (20000 < (m : Int))=false:=decide_eq_false (by omega)
 have l3n : decide (20000 < m)=false:=decide_eq_false (by omega)
 have hn0 : ¬ n=0:=by omega
 obtain ⟨kv1,hkv1⟩ : ∃ kv1,kv1=dropK key kv:=⟨_,rfl⟩
 have hsub : ∀ p ∈ kv1,p ∈ kv:=fun p hp => by rw [hkv1] at hp; unfold dropK at hp; exact List.mem_of_mem_eraseIdx hp
 have hlen1 : kv1.length<=kv.length:=by rw [hkv1]; unfold dropK; exact List.length_eraseIdx_le _ _
 rw [<- hkv1] at hdr ⊢
 obtain ⟨N,hN⟩ : ∃ N,N=kv1.length:=⟨_,rfl⟩
 obtain ⟨J,hJ⟩ : ∃ J,J=posK kv1 key:=⟨_,rfl⟩
 obtain ⟨hp1,hp2,hp3⟩:=posK_spec key kv1
 rw [<- hJ,<- hN] at hp3
 have hNI : (N : Int)<=50000:=by omega
 replace h:=hide h
 replace hk:=hide hk
 replace hb:=hide hb
 replace hkv:=hide hkv
 replace hN:=hide hN
 replace hJ:=hide hJ
 replace hF:=hide hF
 replace hkl:=hide hkl
 replace hbl:=hide hbl
 replace hkv1:=hide hkv1
 replace hp1:=hide hp1
 replace hp2:=hide hp2
 replace hsub:=hide hsub
 replace hlen1:=hide hlen1
 go_enter Tryz.func12,Tryz.ntmps12
 go_wp2_with fail
 go_at_call 43
 refine hdr.out.mono ?_
 rintro e w1 ⟨rfl,hR1,hO1⟩
 obtain ⟨fb,hfb⟩ : ∃ fb,fb=decide (findK kv key < kv.length):=⟨_,rfl⟩
 rw [<- hfb]
 replace hfb:=hide hfb
 have hkeep : ∀ {A : Option Addr} {n : Nat} {l : List UInt8},Rd (fun k => k < w.heap.size/\k ≠ gx) w 1 A n (bv l)->RB w1 w1.heap.size A n l:=fun hr => Rd.reads (hr.keep (G':=fun k => k < w1.heap.size) (w':=w1) fun k hk => ⟨Nat.lt_of_lt_of_le hk.1 hO1.size,hO1.block k hk.1 hk.2⟩) fun k hk => hk
 have hk1:=hkeep hk.out
 have hb1:=hkeep hb.out
 have hF1 : ∀ k,F k->k < w1.heap.size:=fun k hk => Nat.lt_of_lt_of_le (hF.out k hk) hO1.size
 clear hkeep hdr
 replace hk1:=hide hk1
 replace hb1:=hide hb1
 replace hR1:=hide hR1
 replace hO1:=hide hO1
 replace hF1:=hide hF1
 go_upto_region 8 with (at_builtin; refine wpList_app_b rfl (.tmp 26) (.tmp 27) rfl w1.heap.size _ 0 [] (OB.nil _ _) rfl w1.heap.size A n c key rfl hk1.out (by omega) (Nat.le_refl _) ?_; intro v2 w2 hO2 hB2 hg2 hat2)
 rw [List.nil_append,Nat.zero_add] at hO2
 obtain ⟨kA,kc,rfl,hr2,_,hkc2,hkcm⟩:=hO2.form
 have hb2:=hide (hb1.out.below hB2)
 replace hO2:=hide hO2
 replace hB2:=hide hB2
 replace hr2:=hide hr2
 clear hg2 hat2
 go_upto_region 10 with (at_builtin; refine wpList_app_b rfl (.tmp 29) (.tmp 30) rfl w2.heap.size _ 0 [] (OB.nil _ _) rfl w1.heap.size C m d b rfl hb2.out (by omega) (Nat.le_refl _) ?_; intro v3 w3 hO3 hB3 hg3 hat3)
 rw [List.nil_append,Nat.zero_add] at hO3
 obtain ⟨vA,vc,rfl,hr3,_,hvc3,hvcm⟩:=hO3.form
 clear hg3 hat3 hr3
 have hB13 : Below w1.heap.size w1 w3:=hB2.out.trans (hB3.mono hB2.out.size)
 have hkr3 : RB w3 w3.heap.size kA n key:=(hr2.out.below hB3).more hB3.size
 have hF3 : ∀ k,F k->k < w3.heap.size:=fun k hk => Nat.lt_of_lt_of_le (hF1.out k hk) hB13.size
 have hR3:=hR1.out.ev (Ev.of_below (F:=F) hB13)
 have hpv3 : PairV (byteOf F w3) w3 [.slice kA n kc,.slice vA m vc] (key,b):=by
   refine ⟨kA,kc,vA,vc,by rw [show (key,b).1.length=n from hkl.out,show (key,b).2.length=m from hbl.out],by rw [show (key,b).1.length=n from hkl.out]; exact hkc2,by rw [show (key,b).2.length=m from hbl.out]; exact hvc3,?_,?_⟩
   · rw [show (key, b).1.length = n from hkl.out]
     exact Rd.keep hO2.out.rd5 fun j hj => by
       obtain ⟨q1,cs,q2⟩:=hj
       have q3:=q2.below hB3 (Blk.lt q2)
       exact ⟨⟨⟨q3.lt,fun hf => by have:=hF1.out j hf; omega⟩,cs,q3⟩,Eq.trans q3 q2.symm⟩
   · rw [show (key, b).2.length = m from hbl.out]
     exact Rd.keep hO3.rd5 fun j hj => by
       obtain ⟨q1,cs,q2⟩:=hj
       exact ⟨⟨⟨q2.lt,fun hf => by have h8:=hF1.out j hf; have h9:=hB2.out.size; omega⟩,cs,q2⟩,rfl⟩
 have hst : Hid (RPutI F w3 w3.heap.size (outP key b kv1 0) (.slice none 0 0) w3):=hide ⟨by
   have e : outP key b kv1 0=[]:=by unfold outP; rw [if_neg (by omega)]; simp
   rw [e]; exact RefV.nil F w3 _,Below.refl _ _⟩
 replace hO2:=hide hO2
 replace hO3:=hide hO3
 replace hB3:=hide hB3
 replace hB13:=hide hB13
 replace hkr3:=hide hkr3
 clear hr2
 replace hF3:=hide hF3
 replace hR3:=hide hR3
 replace hpv3:=hide hpv3
 clear hb2 hk1 hb1
 go_upto_region 13 with (fail)
 obtain ⟨Bx,vx,hbx3,hvx3⟩:=hR3.out.mem
 obtain ⟨xA,xc,rfl,hxc⟩:=hvx3.form
 rw [<- hN.out] at hbx3 hvx3 hxc
 have hxcI : (N : Int)<=(xc : Int):=by omega
 replace hbx3:=hide hbx3
 replace hvx3:=hide hvx3
 have hlen2 : Hid (N<=50000):=hide (by omega)
 go_loopw [11,10,9] (fun v11 v10 v9 wx => ∃ i : Nat,v11=.int .i64 (i : Int)/\v10=.bool (decide (J < i))/\i<=N/\Hid (RPutI F w3 w3.heap.size (outP key b kv1 i) v9 wx)) (fun v11 _ _ _ => N - (intOf v11).toNat)
 case atStart => exact ⟨0,rfl,by simp,by omega,hst⟩
 case round =>
   obtain ⟨i,rfl,rfl,hi,hD⟩:=hrel
   have hB:=hD.out.2
   have hxat : Hid (∀ W,Below w3.heap.size w3 W->W.cell? ⟨gx,0,none⟩=some (.slice xA N xc)/\W.frozen? ⟨gx,0,none⟩=false):=hide fun W hW => ⟨(hbx3.out.below hW (Blk.lt hbx3.out)).cell 0,(hbx3.out.below hW (Blk.lt hbx3.out)).frozen 0⟩
   obtain ⟨x0,x0f⟩:=hxat.out wr hB
   clear hst
   by_cases hlt : i < N
   · have hltk : i < kv1.length := by rw [<- hN.out]; exact hlt
     obtain ⟨g,eA,ec,uA,uc,rfl,p0,p1,hec,huc,hre,hru⟩:=hvx3.out.at_ i hltk
     obtain ⟨p,hp⟩ : ∃ p,p=kv1[i]:=⟨_,rfl⟩
     rw [<- hp] at p0 p1 hec huc hre hru
     have hpe : PairV (byteOf F w3) w3 [.slice eA p.1.length ec,.slice uA p.2.length uc] p:=⟨eA,ec,uA,uc,rfl,hec,huc,hre,hru⟩
     obtain ⟨EL,hEL⟩ : ∃ EL,EL=p.1.length:=⟨_,rfl⟩
     obtain ⟨UL,hUL⟩ : ∃ UL,UL=p.2.length:=⟨_,rfl⟩
     have hE1000 : EL<=1000:=by rw [hEL,hp]; exact hkv.out _ (hsub.out _ (List.getElem_mem hltk))
     rw [<- hEL,<- hUL] at hpe
     rw [<- hEL] at p0 hre
     rw [<- hUL] at p1
     have hat : Hid (∀ W,Below w3.heap.size w3 W->W.cell? ⟨g,i * 2,none⟩=some (.slice eA EL ec)/\W.cell? ⟨g,i * 2 + 1,none⟩=some (.slice uA UL uc)/\PairV (byteOf F W) W [.slice eA EL ec,.slice uA UL uc] p):=hide fun W hW =>
       ⟨(hW.cell (World.block_lt_of_cell? w3 _ p0)).trans p0,(hW.cell (World.block_lt_of_cell? w3 _ p1)).trans p1,hpe.ev (Ev.of_below hW)⟩
     have hiI : (i : Int) < (N : Int):=by omega
     have hls:=hide (less_any kA eA n EL kc ec key p.1 wr ((hkr3.out.below hB).more hB.size) ((hre.rbB.below hB).more hB.size) (by omega) (by omega))
     rw [lessB_ltK] at hls
     have hL : ∀ i,(outP key b kv1 i).length<=60000:=fun i => by have h9:=@outP_len key b kv1 i; have:=hlen2.out; rw [<- hN.out] at h9; omega
     obtain ⟨p0',p1',hpe'⟩:=hat.out wr hB
     clear p0 p1
     replace hre:=hide hre
     replace hru:=hide hru
     replace hpe:=hide hpe
     replace hp:=hide hp
     replace hEL:=hide hEL
     replace hUL:=hide hUL
     replace hL:=hide hL
     replace hltk:=hide hltk
     rcases Nat.lt_trichotomy J i with hJi | hJi | hJi
     · have hd : decide (J < i) = true := decide_eq_true hJi
       rw [hd]
       obtain ⟨v9,w9,hrun,hD9⟩:=app_el hF3.out hD.out hpe' (by have:=hL.out i; omega)
       have hnx : Hid (RPutI F w3 w3.heap.size (outP key b kv1 (i + 1)) v9 w9):=hide (by rw [outP_next hltk.out (by rw [<- hJ.out]; omega),<- hp.out]; exact hD9)
       have hd2 : Hid (true=decide (J < i + 1)):=hide (decide_eq_true (by omega)).symm
       replace hD9:=hide hD9
       replace hpe':=hide hpe'
       replace hB:=hide hB
       clear hd hJi
       go_wp2_with (at_builtin; refine Lib.wpList_append_run _ rfl (.tmp 61) (.tmp 69) 34 34 rfl _ _ rfl rfl _ _ hrun ?_)
       go_roundw
       case rel => exact ⟨i + 1,by go_num,by rw [<- hd2.out],by omega,hnx⟩
       case measure => simp only [intOf]; omega
     · subst hJi
       have hd : decide (J < J)=false:=decide_eq_false (by omega)
       rw [hd]
       have hlk : ltK key p.1=true:=by
         have h9:=hp2.out (by rw [<- hJ.out]; exact hltk.out)
         rw [hp.out]
         simp only [<- hJ.out] at h9
         exact h9
       rw [hlk] at hls
       replace hpe':=hide hpe'
       replace hB:=hide hB
       clear hd hlk
       go_wp2_with fail
       go_at_call 44
       refine hls.out.mono ?_
       rintro e w4 ⟨rfl,hQ4⟩
       have hB4:=hB.out.trans ((hQ4.below wr.heap.size).mono hB.out.size)
       have hD4 : RPutI F w3 w3.heap.size (outP key b kv1 J) _ w4:=⟨hD.out.1.ev (Ev.of_below (F:=F) (hQ4.below wr.heap.size)),hB4⟩
       obtain ⟨y0,y0f⟩:=hxat.out w4 hB4
       obtain ⟨q0,q1,hpe4⟩:=hat.out w4 hB4
       clear hls hQ4
       have hpv4 : PairV (byteOf F w4) w4 [.slice kA n kc,.slice vA m vc] (key,b):=hpv3.out.ev (Ev.of_below hB4)
       obtain ⟨v5,w5,hrun5,hD5⟩:=app_el hF3.out hD4 hpv4 (by have:=hL.out J; omega)
       obtain ⟨z0,z0f⟩:=hxat.out w5 hD5.2
       obtain ⟨r0,r1,hpe5⟩:=hat.out w5 hD5.2
       obtain ⟨v9,w9,hrun9,hD9⟩:=app_el hF3.out hD5 hpe5 (by have:=hL.out J; rw [List.length_append]; simp; omega)
       have hnx : Hid (RPutI F w3 w3.heap.size (outP key b kv1 (J + 1)) v9 w9):=hide (by rw [outP_at hltk.out hJ.out,<- hp.out]; exact hD9)
       have hd2 : Hid (true=decide (J < J + 1)):=hide (decide_eq_true (by omega)).symm
       replace hB4:=hide hB4
       replace hD4:=hide hD4
       replace hpe4:=hide hpe4
       replace hpv4:=hide hpv4
       replace hD5:=hide hD5
       replace hpe5:=hide hpe5
       replace hD9:=hide hD9
       go_wp2_with (first | (at_builtin; refine Lib.wpList_append_run _ rfl (.tmp 55) (.tmp 59) 34 34 rfl _ _ rfl rfl _ _ hrun5 ?_) | (at_builtin; refine Lib.wpList_append_run _ rfl (.tmp 61) (.tmp 69) 34 34 rfl _ _ rfl rfl _ _ hrun9 ?_))
       go_roundw
       case rel => exact ⟨J + 1,by go_num,by rw [<- hd2.out],by omega,hnx⟩
       case measure => simp only [intOf]; omega
     · have hd : decide (J < i) = false := decide_eq_false (by omega)
       rw [hd]
       have hlk : ltK key p.1=false:=by rw [hp.out]; exact hp1.out i hltk.out (by rw [<- hJ.out]; exact hJi)
       rw [hlk] at hls
       replace hpe':=hide hpe'
       replace hB:=hide hB
       clear hd hlk
       go_wp2_with fail
       go_at_call 44
       refine hls.out.mono ?_
       rintro e w4 ⟨rfl,hQ4⟩
       have hB4:=hB.out.trans ((hQ4.below wr.heap.size).mono hB.out.size)
       have hD4 : RPutI F w3 w3.heap.size (outP key b kv1 i) _ w4:=⟨hD.out.1.ev (Ev.of_below (F:=F) (hQ4.below wr.heap.size)),hB4⟩
       obtain ⟨y0,y0f⟩:=hxat.out w4 hB4
       obtain ⟨q0,q1,hpe4⟩:=hat.out w4 hB4
       clear hls hQ4
       obtain ⟨v9,w9,hrun9,hD9⟩:=app_el hF3.out hD4 hpe4 (by have:=hL.out i; omega)
       have hnx : Hid (RPutI F w3 w3.heap.size (outP key b kv1 (i + 1)) v9 w9):=hide (by rw [outP_next hltk.out (by rw [<- hJ.out]; omega),<- hp.out]; exact hD9)
       have hd2 : Hid (false=decide (J < i + 1)):=hide (decide_eq_false (by omega)).symm
       replace hB4:=hide hB4
       replace hD4:=hide hD4
       replace hpe4:=hide hpe4
       replace hD9:=hide hD9
       clear hJi
       go_wp2_with (at_builtin; refine Lib.wpList_append_run _ rfl (.tmp 61) (.tmp 69) 34 34 rfl _ _ rfl rfl _ _ hrun9 ?_)
       go_roundw
       case rel => exact ⟨i + 1,by go_num,by rw [<- hd2.out],by omega,hnx⟩
       case measure => simp only [intOf]; omega
   · obtain rfl : i = N := by omega
     have hstore : Hid (∀ vo W,RPutI F w3 w3.heap.size (putK key b kv1) vo W->RPutRet F w gx (putK key b kv1) (.returned (.int .i64 0)) (W.setCell ⟨gx,0,none⟩ vo)):=hide (by
       rintro vo W ⟨hV,hW⟩
       have hbW:=hbx3.out.below hW (Blk.lt hbx3.out)
       have hOg : Only (fun j => j=gx) W (W.setCell ⟨gx,0,none⟩ vo):=(Only.refl (fun j => j=gx) W).setCell (p:=⟨gx,0,none⟩) (fun _ => rfl) _
       refine ⟨rfl,⟨⟨w3.heap.size,vo,hbW.set_ 0 _,hV.only hOg fun j hj => by subst hj; exact ⟨_,_,hbW,by decide,by decide⟩⟩,hR1.out.out⟩,?_⟩
       have e1 : Only (fun k => k=gx) w1 w3:=Only.of_below hB13.out
       have e2 : Only (fun k => k=gx) w3 W:=Only.of_below hW
       exact ((hO1.out.trans e1 fun _ _ h => h).trans e2 fun _ _ h => h).trans hOg fun _ _ h => h)
     have hL : (outP key b kv1 i).length<=60000:=by have h9:=@outP_len key b kv1 i; have:=hlen2.out; rw [<- hN.out] at h9; omega
     by_cases hJi : J < i
     · have hd : decide (J < i) = true := decide_eq_true hJi
       rw [hd]
       have hDp:=hD.out
       rw [hN.out,outP_done (by rw [<- hJ.out,<- hN.out]; exact hJi)] at hDp
       obtain ⟨A9,c9,e9,_⟩:=hDp.1.form
       obtain ⟨M9,hM9⟩ : ∃ M9,M9=(putK key b kv1).length:=⟨_,rfl⟩
       rw [<- hM9] at e9
       subst e9
       have hdone:=hide (hstore.out _ _ hDp)
       replace hB:=hide hB
       replace hDp:=hide hDp
       replace hM9:=hide hM9
       replace hL:=hide hL
       clear hd hJi
       go_wp2_with fail
       go_ret
       exact hdone.out
     · have hd : decide (J < i) = false := decide_eq_false hJi
       rw [hd]
       have hpv4 : PairV (byteOf F wr) wr [.slice kA n kc,.slice vA m vc] (key,b):=hpv3.out.ev (Ev.of_below hB)
       obtain ⟨v9,w9,hrun9,hD9⟩:=app_el hF3.out hD.out hpv4 (by omega)
       have e9 : outP key b kv1 i ++ [(key,b)]=putK key b kv1:=by rw [hN.out]; exact outP_end (by rw [<- hJ.out,<- hN.out]; exact hJi)
       rw [e9] at hD9
       obtain ⟨A9,c9,e9,_⟩:=hD9.1.form
       obtain ⟨M9,hM9⟩ : ∃ M9,M9=(putK key b kv1).length:=⟨_,rfl⟩
       rw [<- hM9] at e9
       subst e9
       have hdone:=hide (hstore.out _ _ hD9)
       obtain ⟨z0,z0f⟩:=hxat.out w9 hD9.2
       replace hB:=hide hB
       replace hpv4:=hide hpv4
       replace hD9:=hide hD9
       replace hM9:=hide hM9
       replace hL:=hide hL
       clear hd hJi
       go_wp2_with (at_builtin; refine Lib.wpList_append_run _ rfl (.tmp 73) (.tmp 77) 34 34 rfl _ _ rfl rfl _ _ hrun9 ?_)
       go_ret
       exact hdone.out
theorem quiet_qt_add {P : Program} {f : FuncId} {args : Array Value} {w : World} {a n : Nat} {v : Value}
   (h : Calls P f args (w.drewN (a + n)) fun e w' => e=.returned v/\Qt (w.drewN (a + n)) w') : Calls P f args (w.drewN (a + n)) fun e w'' => e=.returned v/\∃ m,w''=w.drewN (a + m) :=
 h.mono fun _ _ ⟨he,q,hq⟩ => ⟨he,n + q,by rw [hq,World.drewN_drewN,Nat.add_assoc]⟩
theorem PairsAt.at_ {F : Nat->Prop} {w : World} {A : Option Addr} {kv : List KV} (h : PairsAt F w A kv) (k : Nat) (hk : k < kv.length) :
   ∃ ad kA kc vA vc,A=some ad/\w.cell? (ad.add (k * 2))=some (.slice kA kv[k].1.length kc)/\w.cell? ⟨(ad.add (k * 2)).block,(ad.add (k * 2)).off + 1,none⟩=some (.slice vA kv[k].2.length vc)/\kv[k].1.length<=kc/\kv[k].2.length<=vc/\Rd (byteOf F w) w 1 kA kv[k].1.length (bv kv[k].1)/\Rd (byteOf F w) w 1 vA kv[k].2.length (bv kv[k].2):=by
 obtain ⟨rows,h1,h2,h3⟩:=h
 have hkr : k < rows.length:=by omega
 obtain ⟨kA,kc,vA,vc,e,g1,g2,g3,g4⟩:=h3 k rows[k] kv[k] (List.getElem?_eq_getElem hkr) (List.getElem?_eq_getElem hk)
 obtain ⟨ad,rfl,_,hc⟩:=h2.2 (by omega)
 have hat : ∀ j u,rows[k][j]?=some u->w.cell? ((ad.add (k * 2)).add j)=some u:=fun j u hu => by
   rw [add_of_add]
   exact hc _ u (flatten_at2 (h3.two h1) k j _ u (List.getElem?_eq_getElem hkr) hu)
 refine ⟨ad,kA,kc,vA,vc,rfl,?_,?_,g1,g2,g3,g4⟩
 · have := hat 0 _ (by rw [e]; rfl)
   simpa [Addr.add] using this
 · have := hat 1 (.slice vA kv[k].2.length vc) (by rw [e]; rfl)
   rwa [addr_pos _ 1 (by decide)] at this
set_option maxHeartbeats 2000000 in
theorem lsame_any (F : Nat->Prop) (w : World) (A B : Option Addr) (n c d : Nat) (kv : List KV) (hA : PairsAt F w A kv) (hB : PairsAt F w B kv) (hn : n=kv.length) (hnc : n<=c) (hnd : n<=d) (hkv : ∀ p ∈ kv,p.1.length<=100000/\p.2.length<=100000) (hlen : n<=100000) :
   Calls Tryz.prog 16 #[.slice A n c,.slice B n d] w fun e w' => e=.returned (.bool true)/\Qt w w':=by
 have hnI : (n : Int)<=100000:=by omega
 have hncI : (n : Int)<=(c : Int):=by omega
 have hndI : (n : Int)<=(d : Int):=by omega
 replace hA:=hide hA
 replace hB:=hide hB
 replace hn:=hide hn
 replace hkv:=hide hkv
 go_enter Tryz.func16,Tryz.ntmps16
 go_wp2_with fail
 go_loopw [13] (fun v13 wx => ∃ i q : Nat,v13=.int .i64 (i : Int)/\i<=n/\wx=w.drewN q) (fun v13 _ => n - (intOf v13).toNat)
 case atStart => exact ⟨0,0,rfl,by omega,rfl⟩
 case round =>
   obtain ⟨i,q,rfl,hi,rfl⟩:=hrel
   by_cases hlt : i < n
   · have hlk : i < kv.length := by rw [<- hn.out]; exact hlt
     obtain ⟨ad,kA,kc,vA,vc,rfl,a0,a1,hkc,hvc,hrk,hrv⟩:=hA.out.at_ i hlk
     obtain ⟨bd,kB,kd,vB,vd,rfl,b0,b1,hkd,hvd,hsk,hsv⟩:=hB.out.at_ i hlk
     obtain ⟨p,hp⟩ : ∃ p,p=kv[i]:=⟨_,rfl⟩
     have hpl:=hkv.out _ (List.getElem_mem hlk)
     rw [<- hp] at a0 a1 b0 b1 hkc hvc hkd hvd hrk hrv hsk hsv hpl
     obtain ⟨KL,hKL⟩ : ∃ KL,KL=p.1.length:=⟨_,rfl⟩
     obtain ⟨VL,hVL⟩ : ∃ VL,VL=p.2.length:=⟨_,rfl⟩
     rw [<- hKL] at a0 b0 hrk hsk hpl
     rw [<- hVL] at a1 b1 hrv hsv hpl
     have hs1:=hide (fun m => same_any kA kB KL KL kc kd p.1 p.1 (w.drewN m) hrk.rbB hsk.rbB (by omega) (by omega))
     have hs2:=hide (fun m => same_any vA vB VL VL vc vd p.2 p.2 (w.drewN m) hrv.rbB hsv.rbB (by omega) (by omega))
     rw [decide_eq_true rfl] at hs1
     rw [decide_eq_true rfl] at hs2
     have hiI : (i : Int) < (n : Int):=by omega
     replace hrk:=hide hrk
     replace hrv:=hide hrv
     replace hsk:=hide hsk
     replace hsv:=hide hsv
     replace hp:=hide hp
     replace hKL:=hide hKL
     replace hVL:=hide hVL
     replace hlk:=hide hlk
     clear hkc hvc hkd hvd hpl
     go_wp2_with fail
     go_quiet (first | (go_at_call 18; with_reducible exact quiet_qt_add (hs1.out _)) | (go_at_call 18; with_reducible exact quiet_qt_add (hs2.out _)))
     go_wp2_with fail
     go_roundw
     case rel => exact ⟨i + 1,_,by go_num,by omega,rfl⟩
     case measure => simp only [intOf]; omega
   · obtain rfl : i = n := by omega
     go_wp2_with fail
     go_ret
     exact ⟨rfl,_,rfl⟩
def GetEndV (F : Nat->Prop) (w : World) (gp : Nat) (st : PgS) (m : NodeP) (key : List UInt8) (e : Ending) (w' : World) : Prop :=
 ∃ F', PgAt w' F' gp st /\ Ev F w F' w' /\ (((findP m key).2 = false /\ e = .returned (.tuple #[.slice none 0 0, .bool false, .int .i64 0])) \/
   ((findP m key).2=true/\∃ c b vA vc,m.cells[(findP m key).1]?=some c/\ValueG st c b/\e=.returned (.tuple #[.slice vA b.length vc,.bool true,.int .i64 0])/\MB F' w' vA b.length b/\b.length<=vc))
set_option maxHeartbeats 2000000 in
theorem tgetv_any (w : World) (F : Nat->Prop) (gt gp k : Nat) (st : PgS) (h : PgAt w F gp st) (ht : TreeAt w F gt gp k) (hk8 : k < 8) (key : List UInt8) (kA : Option Addr) (kc : Nat) (hkm : MB F w kA key.length key) (path : List Nat) (m : NodeP) (r0 : List Nat) (hp : path=st.roots k :: r0) (hd : DownL st key m path) (hnd : path.Nodup)
   (hov : ∀ c,m.cells[(findP m key).1]?=some c->∃ b,ValueG st c b) (hfl : (findP m key).2=true->(findP m key).1 < m.cells.length) :
   Calls Tryz.prog 14 #[.pointer (some ⟨gt,0,none⟩),.slice kA key.length kc] w (GetEndV F w gp st m key):=by
 obtain ⟨L,hL⟩ : ∃ L,L=key.length:=⟨_,rfl⟩
 rw [<- hL] at hkm ⊢
 have t1 : w.cell? ⟨gt,0,none⟩=some (.pointer (some ⟨gp,0,none⟩)):=ht.blk.cell 0
 have t2 : w.cell? ⟨gt,1,none⟩=some (.int .i64 (k : Int)):=ht.blk.cell 1
 obtain ⟨R,hR⟩ : ∃ R,R=st.roots k:=⟨_,rfl⟩
 have hrt : Hid (Calls Tryz.prog 23 #[.pointer (some ⟨gp,0,none⟩),.int .i64 (k : Int)] w.drew fun e w' => e=.returned (.int .i64 (R : Int))/\w.drew=w'):=hide (by rw [hR]; exact root_any w.drew F gp st h.drew k hk8)
 have hst : Hid (GtRel w F gt gp st key m path R w.drew):=hide ⟨[],r0,F,by rw [hR]; exact hp,by rw [hR,<- hp]; exact hd,h.drew,(Ev.refl F w).drew⟩
 replace h:=hide h
 replace ht:=hide ht
 replace hkm:=hide hkm
 replace hL:=hide hL
 replace hR:=hide hR
 replace hp:=hide hp
 replace hd:=hide hd
 replace hnd:=hide hnd
 replace hov:=hide hov
 replace hfl:=hide hfl
 go_enter Tryz.func14,Tryz.ntmps14
 go_wp2_with fail
 go_region_held3 (fun w' => w'.cell? ⟨gt,0,none⟩=some (.pointer (some ⟨gp,0,none⟩))/\w'.cell? ⟨gt,1,none⟩=some (.int .i64 (k : Int))) (first | exact ⟨t1,t2⟩) (first | (go_at_call 23; refine hrt.out.mono ?_; rintro e w3 ⟨rfl,rfl⟩))
 go_wp2_with fail
 go_loopw [7] (fun v7 wx => ∃ no : Nat,v7=.int .i64 (no : Int)/\Hid (GtRel w F gt gp st key m path no wx)) (fun v7 _ => path.length - path.idxOf (intOf v7).toNat)
 case atStart => exact ⟨R,rfl,hst⟩
 case round =>
   obtain ⟨no,rfl,hG⟩:=hrel
   obtain ⟨pre,r,F1,hpa,hdl,hP1,hE1⟩:=hG.out
   obtain ⟨hno,hcase⟩:=hdl.head
   have hnoI : ¬ (no : Int)=0:=by omega
   have ht1 : TreeAt wr F1 gt gp k:=ht.out.ev hE1
   obtain ⟨n,hl,hcs⟩ : ∃ n,LoadR st no n/\((n.leaf=true/\n=m) \/ (n.leaf=false/\∃ kid r',r=kid :: r'/\n.kids[(findP n key).1]?=some kid/\DownL st key m (kid :: r'))):=by
     rcases hcase with ⟨hf,hl,_⟩ | ⟨kid,n,r',hr,hl,hf,hk,hd⟩
     · exact ⟨m,hl,.inl ⟨hf,rfl⟩⟩
     · exact ⟨n,hl,.inr ⟨hf,kid,r',hr,hk,hd⟩⟩
   have hld:=hide (load_gen wr F1 gt gp k st hP1 ht1 no n hl)
   have hrise:=hide hl.2.1.rise
   have hmany:=hide hl.2.1.many
   obtain ⟨lf,hlf⟩ : ∃ lf,lf=n.leaf:=⟨_,rfl⟩
   replace hl:=hide hl
   replace hP1:=hide hP1
   replace hE1:=hide hE1
   replace ht1:=hide ht1
   replace hpa:=hide hpa
   replace hdl:=hide hdl
   replace hcase:=hide hcase
   replace hcs:=hide hcs
   replace hlf:=hide hlf
   replace hno:=hide hno
   go_wp2_with fail
   refine hld.out.mono ?_
   rintro e w1 ⟨F2,cv,kv,B0,rfl,hP2,hE2,hF2,hwB,hO1⟩
   rw [<- hlf.out]
   have hn1 : NodeM (Mine F2 w1) w1 (.agg #[.bool n.leaf,cv,kv]) n:=(hO1.toW (F:=F2) (fun j hj => hF2 j hj)).nodeM
   obtain ⟨A1,c1,rfl⟩:=own_form hO1.kids
   obtain ⟨A2,c2,rfl⟩:=own_form hO1.rows.choose_spec.2.1
   obtain ⟨N,hN⟩ : ∃ N,N=n.cells.length:=⟨_,rfl⟩
   obtain ⟨K,hK⟩ : ∃ K,K=n.kids.length:=⟨_,rfl⟩
   rw [<- hN,<- hK,<- hlf.out] at hn1
   rw [<- hN,<- hK]
   have hnb : ¬ F2 w1.heap.size:=fun hf => by have:=hP2.lt _ hf; omega
   have hbn:=Blk.new w1 89 #[.bool lf,.slice A2 N c2,.slice A1 K c1]
   obtain ⟨W2,hW2⟩ : ∃ W2,W2=w1.alloc (.cells #[.bool lf,.slice A2 N c2,.slice A1 K c1] 89):=⟨_,rfl⟩
   obtain ⟨gn,hgn⟩ : ∃ gn,gn=w1.heap.size:=⟨_,rfl⟩
   have hE3 : Ev F w F2 W2:=by rw [hW2]; exact (hE1.out.trans hE2).alloc_ _
   have hP3 : PgAt W2 F2 gp st:=by rw [hW2]; exact hP2.alloc _
   have hn2 : NodeM (Mine F2 W2) W2 (.agg #[.bool lf,.slice A2 N c2,.slice A1 K c1]) n:=by rw [hW2]; exact hn1.ev ((Ev.refl F2 w1).alloc_ _)
   rw [<- hW2,<- hgn] at hbn
   have hkm3:=hkm.out.ev hE3
   have hfd:=hide (find_any W2 (.agg #[.bool lf,.slice A2 N c2,.slice A1 K c1]) n (hn2.old fun k hk => hk.1) hrise.out (by have:=hmany.out; omega) kA kc key (by have h9:=hkm3.rb; rw [hL.out] at h9; exact h9))
   rw [<- hL.out] at hfd
   obtain ⟨I,hI⟩ : ∃ I,I=(findP n key).1:=⟨_,rfl⟩
   obtain ⟨S,hS⟩ : ∃ S,S=(findP n key).2:=⟨_,rfl⟩
   rw [<- hI,<- hS] at hfd
   have m0:=hbn.cell 0
   have m1:=hbn.cell 1
   have m2:=hbn.cell 2
   have ht2 : TreeAt W2 F2 gt gp k:=ht.out.ev hE3
   replace hN:=hide hN
   replace hK:=hide hK
   replace hI:=hide hI
   replace hS:=hide hS
   replace hn1:=hide hn1
   replace hn2:=hide hn2
   replace hO1:=hide hO1
   replace hF2:=hide hF2
   replace hP2:=hide hP2
   replace hE2:=hide hE2
   replace hP3:=hide hP3
   replace hE3:=hide hE3
   replace hbn:=hide hbn
   replace hW2:=hide hW2
   replace hgn:=hide hgn
   replace hkm3:=hide hkm3
   replace hnb:=hide hnb
   replace ht2:=hide ht2
   go_upto_region 8 with (fail)
   rw [<- hW2.out,<- hgn.out]
   go_wp2_with fail
   refine hfd.out.mono ?_
   rintro e w4 ⟨rfl,hB4⟩
   have hb4:=hbn.out.below hB4 (Blk.lt hbn.out)
   have y0 : w4.cell? ⟨gn,0,none⟩=some (.bool lf):=hb4.cell 0
   have y1 : w4.cell? ⟨gn,1,none⟩=some (.slice A2 N c2):=hb4.cell 1
   have y2 : w4.cell? ⟨gn,2,none⟩=some (.slice A1 K c1):=hb4.cell 2
   have hE4:=hE3.out.below hB4
   have hP4:=hP3.out.below hB4
   have hn4 : NodeM (Mine F2 w4) w4 (.agg #[.bool lf,.slice A2 N c2,.slice A1 K c1]) n:=hn2.out.ev (Ev.of_below hB4)
   obtain ⟨A5,c5,B5,d5,e5,hc5,hd5,hcs5,hks5⟩:=hn4
   injection e5 with e5
   simp at e5
   obtain ⟨g1,⟨rfl,g2,rfl⟩,rfl,g3,rfl⟩:=e5
   clear g1 g2 g3
   replace hB4:=hide hB4
   replace hb4:=hide hb4
   clear m0 m1 m2
   cases lf with
   | false =>
     obtain ⟨kid,r',hr,hkid,hdk⟩ : ∃ kid r',r=kid :: r'/\n.kids[I]?=some kid/\DownL st key m (kid :: r'):=by
       rcases hcs.out with ⟨hf,_⟩ | ⟨_,kid,r',h1,h2,h3⟩
       · exact absurd (hlf.out.trans hf) (by simp)
       · exact ⟨kid,r',h1,by rw [hI.out]; exact h2,h3⟩
     have hIl : I < n.kids.length:=(List.getElem?_eq_some_iff.1 hkid).1
     obtain ⟨ad,hA,_,hcell⟩:=hks5.2 (by omega)
     subst hA
     have kx : w4.cell? (ad.add I)=some (.int .i64 (kid : Int)):=hcell I _ (by rw [List.getElem?_map,hkid]; rfl)
     have hIK : I < K:=by have:=hK.out; omega
     have hIKI : (I : Int) < (K : Int):=by omega
     have hI0 : (0 : Int)<=(I : Int):=by omega
     have hrel : Hid (GtRel w F gt gp st key m path kid w4):=hide ⟨pre ++ [no],r',F2,by rw [hpa.out,hr]; simp,hdk,hP4,hE4⟩
     have hmeas : Hid (path.length - path.idxOf kid < path.length - path.idxOf no):=hide (by
       have hn0:=hnd.out
       have e1 : path.idxOf no=pre.length:=by rw [hpa.out] at hn0 ⊢; exact idx_pre hn0
       have e2 : path.idxOf kid=(pre ++ [no]).length:=by
         have e3 : path=(pre ++ [no]) ++ kid :: r':=by rw [hpa.out,hr]; simp
         rw [e3] at hn0 ⊢
         exact idx_pre hn0
       have e4 : path.length=pre.length + (r'.length + 2):=by rw [hpa.out,hr]; simp
       rw [e1,e2,e4]
       simp; omega)
     replace hkid:=hide hkid
     replace hks5:=hide hks5
     replace hcs5:=hide hcs5
     replace hE4:=hide hE4
     replace hP4:=hide hP4
     replace hr:=hide hr
     replace hdk:=hide hdk
     replace hcell:=hide hcell
     clear hIl
     go_wp2_with fail
     go_roundw
     case rel => exact ⟨kid,rfl,hrel⟩
     case measure => simpa [intOf] using hmeas.out
   | true =>
     have hnm : n=m:=by
       rcases hcs.out with ⟨_,e⟩ | ⟨hf,_⟩
       · exact e
       · exact absurd (hlf.out.trans hf) (by simp)
     replace hks5:=hide hks5
     cases S with
     | false =>
       have hend : Hid (GetEndV F w gp st m key (.returned (.tuple #[.slice none 0 0,.bool false,.int .i64 0])) w4):=hide ⟨F2,hP4,hE4,.inl ⟨by rw [<- hnm]; exact hS.out.symm,rfl⟩⟩
       replace hcs5:=hide hcs5
       replace hE4:=hide hE4
       replace hP4:=hide hP4
       replace hnm:=hide hnm
       go_wp2_with fail
       go_ret3
       exact hend.out
     | true =>
       have hil : I < n.cells.length:=by
         have h9:=hfl.out (by rw [<- hnm]; exact hS.out.symm)
         rw [<- hnm,<- hI.out] at h9
         exact h9
       obtain ⟨ad,kA2,vA2,kc2,vc2,e1,hh⟩:=hcs5.at_ I hil
       obtain ⟨c,hc⟩ : ∃ c,n.cells[I]?=some c:=⟨_,List.getElem?_eq_getElem hil⟩
       have hce : n.cells[I]=c:=(List.getElem?_eq_some_iff.1 hc).2
       rw [hce] at hh
       obtain ⟨b,hvb⟩:=hov.out c (by rw [<- hnm,<- hI.out]; exact hc)
       subst e1
       have x0:=hh.c0
       have x1:=hh.c1
       have x2:=hh.c2
       have x3:=hh.c3
       have hIN : I < N:=by have:=hN.out; omega
       have hINI : (I : Int) < (N : Int):=by omega
       have hI0 : (0 : Int)<=(I : Int):=by omega
       obtain ⟨V,hV⟩ : ∃ V,V=c.val.length:=⟨_,rfl⟩
       obtain ⟨U,hU⟩ : ∃ U,U=c.key.length:=⟨_,rfl⟩
       rw [<- hV] at x1
       rw [<- hU] at x0
       have hvs:=hide (value_any w4 F2 (fun _ => False) (fun _ hf => hf.elim) gt gp k st hP4 (ht.out.ev hE4) c b hvb kA2 vA2 U kc2 vc2 (fun _ => hh.val.keep fun j hj => ⟨⟨hj.1,fun hf => hf.elim hj.2 id⟩,rfl⟩) hh.vle)
       rw [<- hV] at hvs
       obtain ⟨OV,hOV⟩ : ∃ OV,OV=c.over:=⟨_,rfl⟩
       obtain ⟨LG,hLG⟩ : ∃ LG,LG=c.long:=⟨_,rfl⟩
       rw [<- hOV] at x2 hvs
       rw [<- hLG] at x3 hvs
       obtain ⟨BL,hBL⟩ : ∃ BL,BL=b.length:=⟨_,rfl⟩
       have hend : Hid (∀ w5 F5 vA5 vc5,PgAt w5 F5 gp st->Ev F2 w4 F5 w5->MB (FC F5 (fun _ => False)) w5 vA5 BL b->BL<=vc5->GetEndV F w gp st m key (.returned (.tuple #[.slice vA5 BL vc5,.bool true,.int .i64 0])) w5):=hide fun w5 F5 vA5 vc5 h1 h2 h3 h4 => ⟨F5,h1,hE4.trans h2,.inr ⟨by rw [<- hnm]; exact hS.out.symm,c,b,vA5,vc5,by rw [<- hnm,<- hI.out]; exact hc,hvb,by rw [hBL],by rw [<- hBL]; exact h3.sub fun j hj => .inl hj,by rw [<- hBL]; exact h4⟩⟩
       replace hvb:=hide hvb
       replace hBL:=hide hBL
       replace hOV:=hide hOV
       replace hLG:=hide hLG
       replace hh:=hide hh
       replace hc:=hide hc
       clear hce
       replace hV:=hide hV
       replace hU:=hide hU
       replace hcs5:=hide hcs5
       replace hE4:=hide hE4
       replace hP4:=hide hP4
       replace hnm:=hide hnm
       clear hil
       go_wp2_with fail
       refine hvs.out.mono ?_
       rintro e w5 ⟨F5,vA5,vc5,rfl,hP5,hE5,hm5,hvc5⟩
       rw [<- hBL.out] at hm5 hvc5 ⊢
       have hend2:=hide (hend.out w5 F5 vA5 vc5 hP5 hE5 hm5 hvc5)
       replace hP5:=hide hP5
       replace hE5:=hide hE5
       replace hm5:=hide hm5
       replace hvc5:=hide hvc5
       go_wp2_with fail
       go_ret3
       exact hend2.out
end Go.Proofs.YtiiljlmeililbaaGreatDoor
