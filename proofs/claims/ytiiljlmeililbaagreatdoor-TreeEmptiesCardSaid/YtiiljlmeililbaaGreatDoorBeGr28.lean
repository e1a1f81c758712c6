/-
  Contract of tree.chain: the pages of a value, gone through by a closure.
-/
import Derived.Test.YtiiljlmeililbaaGreatDoorBeGr27
namespace Go.Proofs.YtiiljlmeililbaaGreatDoor
set_option linter.unusedVariables false
set_option maxRecDepth 100000
open Go.RowKit
inductive GoR (S : PgS->Nat->PgS) : PgS->Nat->Nat->List (Nat × List UInt8)->PgS->Prop
 | nil (st : PgS) (no : Nat) : GoR S st no 0 [] st
 | cons (st st' : PgS) (no long : Nat) (l : List (Nat × List UInt8)) (h0 : 0 < long) (hn : st.has no) (hf : st.free < st.many) (hr : GoR S (S st no) (numL ((st.page no).take 3)) (long - 505) l st') :
     GoR S st no long ((no,((st.page no).drop 3).take (min long 505)) :: l) st'
theorem GoR.head {S : PgS->Nat->PgS} {st st' : PgS} {no long : Nat} {l : List (Nat × List UInt8)} (h : GoR S st no long l st') (h0 : 0 < long) :
   ∃ r,l=(no,((st.page no).drop 3).take (min long 505)) :: r/\st.has no/\st.free < st.many/\GoR S (S st no) (numL ((st.page no).take 3)) (long - 505) r st':=by
 cases h with
 | nil => omega
 | cons _ _ _ _ r h0 hn hf hr => exact ⟨r,rfl,hn,hf,hr⟩
theorem GoR.done {S : PgS->Nat->PgS} {st st' : PgS} {no : Nat} {l : List (Nat × List UInt8)} (h : GoR S st no 0 l st') : l=[]/\st=st':=by
 cases h with
 | nil => exact ⟨rfl,rfl⟩
 | cons _ _ _ _ r h0 hn hf hr => omega
theorem GoR.len {S : PgS->Nat->PgS} {st st' : PgS} {no long : Nat} {l : List (Nat × List UInt8)} (h : GoR S st no long l st') : l.length<=long:=by
 induction h with
 | nil => exact Nat.le_refl _
 | cons _ _ _ _ r h0 hn hf hr ih => rw [List.length_cons]; omega
structure ChainC (S : PgS->Nat->PgS) (f : FuncId) (caps : Array Value) (gp : Nat) (J : List (Nat × List UInt8)->(Nat->Prop)->(Nat->Prop)->World->Prop) : Prop where
 fn : ∀ args wx,(callFunc f args).run Tryz.prog wx=.ok (.enter f args) wx
 keep : ∀ d D F F' w w',J d D F w->Ev F w F' w'->J d D F' w'
 step : ∀ d D F w st no b A c,J d D F w->PgAt w F gp st->st.has no->st.free < st.many->RB w w.heap.size A b.length b->b.length<=c->b.length<=505->d.length<=100000 ->
   Calls Tryz.prog f (#[.int .i64 (no : Int),.slice A b.length c] ++ caps) w fun e w' => e=.returned (.int .i64 0)/\∃ F' D',PgAt w' F' gp (S st no)/\J (d ++ [(no,b)]) D' F' w'/\Ev (FC F D) w (FC F' D') w'
def ChainEnd (F D : Nat->Prop) (w : World) (gp : Nat) (J : List (Nat × List UInt8)->(Nat->Prop)->(Nat->Prop)->World->Prop) (l : List (Nat × List UInt8)) (st' : PgS) (e : Ending) (w' : World) : Prop :=
 e=.returned (.int .i64 0)/\∃ F' D',PgAt w' F' gp st'/\J l D' F' w'/\Ev (FC F D) w (FC F' D') w'
def ChSt (S : PgS->Nat->PgS) (F D : Nat->Prop) (w : World) (gt gp k : Nat) (J : List (Nat × List UInt8)->(Nat->Prop)->(Nat->Prop)->World->Prop) (l : List (Nat × List UInt8)) (st' : PgS) (no : Nat) (x : Int) (wx : World) : Prop :=
 ∃ F' D' st1 d r,l=d ++ r/\GoR S st1 no x.toNat r st'/\PgAt wx F' gp st1/\J d D' F' wx/\Ev (FC F D) w (FC F' D') wx/\TreeAt wx (FC F' D') gt gp k
set_option maxHeartbeats 2000000 in
theorem chain_any (S : PgS->Nat->PgS) (f : FuncId) (caps : Array Value) (gp : Nat) (J : List (Nat × List UInt8)->(Nat->Prop)->(Nat->Prop)->World->Prop) (hC : ChainC S f caps gp J) (w : World) (F D : Nat->Prop) (gt k : Nat) (st st' : PgS) (h : PgAt w F gp st) (ht : TreeAt w (FC F D) gt gp k)
   (no0 long : Nat) (l : List (Nat × List UInt8)) (hg : GoR S st no0 long l st') (hJ : J [] D F w) (hlong : long<=100000) :
   Calls Tryz.prog 78 #[.pointer (some ⟨gt,0,none⟩),.int .i64 (no0 : Int),.int .i64 (long : Int),.func (.func f) #[] caps] w (ChainEnd F D w gp J l st'):=by
 have hst : Hid (ChSt S F D w gt gp k J l st' no0 (long : Int) w):=hide ⟨F,D,st,[],l,rfl,by simpa using hg,h,hJ,Ev.refl _ w,ht⟩
 have hll:=hide (Nat.le_trans hg.len hlong)
 replace h:=hide h
 replace ht:=hide ht
 replace hg:=hide hg
 replace hJ : Hid _:=hide hJ
 replace hC:=hide hC
 go_enter Tryz.func78,Tryz.ntmps78
 go_wp2_with fail
 go_loopw [1,2] (fun v1 v2 wx => ∃ (no : Nat) (x : Int),v1=.int .i64 (no : Int)/\v2=.int .i64 x/\-505<=x/\x<=100000/\Hid (ChSt S F D w gt gp k J l st' no x wx)) (fun _ v2 _ => (intOf v2).toNat)
 case atStart => exact ⟨no0,long,rfl,rfl,by omega,by omega,hst⟩
 case round =>
   obtain ⟨no,x,rfl,rfl,hx0,hx1,hG⟩:=hrel
   obtain ⟨Fa,Da,st1,d,r,hdr,hgo,hP,hJa,hE,htr⟩:=hG.out
   by_cases hpos : 0 < x
   · obtain ⟨r', hr', hhas, hfree, hgo'⟩ := hgo.head (by omega)
     have hrd:=hide (read_any wr Fa gp st1 hP no hhas)
     have t0 : wr.cell? ⟨gt,0,none⟩=some (.pointer (some ⟨gp,0,none⟩)):=htr.blk.cell 0
     have htF : TreeAt wr Fa gt gp k:=⟨htr.blk,fun hf => htr.out (.inl hf)⟩
     have hlenp:=hP.len hhas
     replace hP:=hide hP
     replace hJa : Hid _:=hide hJa
     replace hE:=hide hE
     replace htr:=hide htr
     replace htF:=hide htF
     replace hgo:=hide hgo
     replace hgo':=hide hgo'
     replace hr':=hide hr'
     replace hdr:=hide hdr
     replace hlenp:=hide hlenp
     clear hG hst
     go_wp2_with fail
     go_at_call 81
     refine hrd.out.mono ?_
     rintro e w1 ⟨F1,A,c,rfl,hc,hP1,hE1,hm1⟩
     obtain ⟨ad,rfl,_,_⟩:=hm1.2 (by omega)
     have hwg:=hide (wget_any w1 (some ad) 508 c 0 3 (st1.page no) hm1.rb hc (by omega) (by omega) (by omega) (by omega))
     rw [List.drop_zero] at hwg
     obtain ⟨nx,hnx⟩ : ∃ nx,nx=numL ((st1.page no).take 3):=⟨_,rfl⟩
     rw [<- hnx] at hwg
     replace hP1:=hide hP1
     replace hE1:=hide hE1
     replace hm1:=hide hm1
     replace hnx:=hide hnx
     replace hc:=hide hc
     go_wp2_with fail
     go_at_call 56
     refine hwg.out.mono ?_
     rintro e w2 ⟨rfl,hB2⟩
     obtain ⟨m,hm⟩ : ∃ m : Nat,m=min x.toNat 505:=⟨_,rfl⟩
     have hmI : min x 505=(m : Int):=by omega
     have hm5 : m<=505:=by omega
     have hE2 : Ev Fa wr F1 w2:=hE1.out.below hB2
     have hP2 : PgAt w2 F1 gp st1:=hP1.out.below hB2
     have hJ2 : J d Da F1 w2:=hC.out.keep d Da Fa F1 wr w2 hJa.out hE2
     have hm2 : MB F1 w2 (some ad) 508 (st1.page no):=hm1.out.ev (Ev.of_below hB2)
     have hrb : RB w2 w2.heap.size (some (ad.add 3)) m (((st1.page no).drop 3).take m):=by
       have h1:=(hm2.cut (k:=3) (cap:=c) (by omega) (by have:=hc.out; omega)).take (k:=m) (by omega)
       rw [if_neg (by have:=hc.out; omega)] at h1
       exact h1.rb
     have hbl : (((st1.page no).drop 3).take m).length=m:=by
       rw [List.length_take,List.length_drop,hlenp.out]; omega
     have hcl : Hid (Calls Tryz.prog f (#[.int .i64 (no : Int),.slice (some (ad.add 3)) m (c - 3)] ++ caps) w2 fun e w' => e=.returned (.int .i64 0)/\∃ F' D',PgAt w' F' gp (S st1 no)/\J (d ++ [(no,((st1.page no).drop 3).take m)]) D' F' w'/\Ev (FC F1 Da) w2 (FC F' D') w'):=hide (by
       have h9:=hC.out.step d Da F1 w2 st1 no (((st1.page no).drop 3).take m) (some (ad.add 3)) (c - 3) hJ2 hP2 hhas hfree (by rw [hbl]; exact hrb) (by rw [hbl]; have:=hc.out; omega) (by rw [hbl]; exact hm5) (by have h8:=hll.out; rw [hdr.out,List.length_append] at h8; omega)
       rw [hbl] at h9
       exact h9)
     replace hB2:=hide hB2
     replace hE2:=hide hE2
     replace hP2:=hide hP2
     replace hJ2 : Hid _:=hide hJ2
     replace hm2:=hide hm2
     replace hrb:=hide hrb
     replace hbl:=hide hbl
     replace hm:=hide hm
     replace hhas:=hide hhas
     replace hfree:=hide hfree
     have hcI : (508 : Int)<=(c : Int):=by have:=hc.out; omega
     have hcN : 508<=c:=hc.out
     have hm3 : 3 + m - 3=m:=by omega
     have hfn:=fun args => hC.out.fn args w2
     clear hrd hwg
     go_wp2_with fail
     refine hcl.out.mono ?_
     rintro e w3 ⟨rfl,F3,D3,hP3,hJ3,hE3⟩
     have hrel : Hid (ChSt S F D w gt gp k J l st' nx (x - 505) w3):=hide (by
       have e1 : (x - 505).toNat=x.toNat - 505:=by omega
       refine ⟨F3,D3,S st1 no,d ++ [(no,((st1.page no).drop 3).take m)],r',?_,?_,hP3,hJ3,?_,htr.out.ev ((hE2.out.add Da).trans hE3)⟩
       · rw [hdr.out,hr'.out,<- hm.out]; simp
       · rw [e1,hnx.out]; exact hgo'.out
       · exact hE.out.trans ((hE2.out.add Da).trans hE3))
     have hw5 : wrap64 (x - 505)=x - 505:=by unfold wrap64; omega
     have hw5' : IntKind.i64.wrap (x - 505)=x - 505:=IntWalk.i64_in _ (by omega)
     replace hP3:=hide hP3
     replace hJ3 : Hid _:=hide hJ3
     replace hE3:=hide hE3
     clear hcl hfn
     go_wp2_with fail
     go_roundw
     case rel => exact ⟨nx,x - 505,rfl,rfl,by omega,by omega,hrel⟩
     case measure => simp [intOf]; omega
   · have hx : x.toNat = 0 := by omega
     rw [hx] at hgo
     obtain ⟨rfl,rfl⟩:=hgo.done
     have hdone : Hid (ChainEnd F D w gp J l st1 (.returned (.int .i64 0)) wr):=hide (by
       rw [List.append_nil] at hdr
       subst hdr
       exact ⟨rfl,Fa,Da,hP,hJa,hE⟩)
     replace hP:=hide hP
     replace hJa : Hid _:=hide hJa
     replace hE:=hide hE
     replace htr:=hide htr
     replace hgo:=hide hgo
     replace hdr:=hide hdr
     clear hG hst
     go_wp2_with fail
     go_ret
     exact hdone.out
theorem step_info : (Tryz.prog.info? 151).map (fun i => (i.zero,i.size,i.bytes))=some (some (.agg #[.bool false,.slice none 0 0,.slice none 0 0,.int .i64 0]),4,64):=by kernel_rfl
theorem run_app_step (w : World) (base : Nat) (v : Value) (m : Nat) (xs : List Value) (hown : w.ownsRow base 151 4 v m xs) (g : Nat) (x0 x1 x2 x3 : Value) (h1 : ∀ u ∈ [x0,x1,x2,x3],u.oneCell'=true) (hb : Blk w g 151 #[x0,x1,x2,x3]) (ty : TypeId) (hlen : m + 1<=1000000) (hbase : base<=w.heap.size) :
   ∃ v' w',(Builtin.append_ #[113,113] ty #[v,.slice (some ⟨g,0,none⟩) 1 1]).run Tryz.prog w=.ok v' w'/\w'.ownsRow base 151 4 v' (m + 1) (xs ++ [x0,x1,x2,x3])/\w.grownBy w' v.ownBlock/\(v'.ownBlock=v.ownBlock \/ v'.ownBlock=some w.heap.size):=by
 obtain ⟨i0,hi0,hz0,hz1,hz2⟩:=info_parts step_info
 exact run_append_any (P:=Tryz.prog) w base 113 ty 151 i0 _ 4 64 Tryz.underlying113 hi0 hz0 hz1 hz2 rfl (by omega) v m xs hown w.heap.size (some ⟨g,0,none⟩) 1 1 [x0,x1,x2,x3] ⟨rfl,fun _ => ⟨_,rfl,hb.lt,fun j u hu => by
     have e : (Addr.mk g 0 none).add j=⟨g,j,none⟩:=by
       unfold Addr.add
       by_cases h0 : j=0
       · subst h0; rfl
       · rw [if_neg h0]; simp
     rw [e,hb.cell]
     simpa using hu⟩⟩ h1 (by simp only [maxLen]; omega) (by omega) hbase
theorem cur_push {F C : Nat->Prop} {w w5 : World} {gc gt : Nat} {way : List (NodeP × Nat)} {from_ : List UInt8} {tgt er : Int} {wv v5 : Value} {fA : Option Addr} {fc : Nat} {rows : List (List Value)} {vs : List Value} {s : NodeP × Nat}
   (hbc : Blk w gc 115 #[.pointer (some ⟨gt,0,none⟩),wv,.slice fA from_.length fc,.int .i64 tgt,.int .i64 er]) (hm : MB (FC F C) w fA from_.length from_) (ho : ∀ k,wv.ownBlock=some k->C k) (h1 : rows.length=way.length) (h2 : w.ownsRow 0 151 4 wv way.length rows.flatten)
   (h3 : ∀ (k : Nat) (vs : List Value) (s : NodeP × Nat),rows[k]?=some vs->way[k]?=some s->StepV (Mine (FC F C) w) w vs s) (own : C gc) (apart : ∀ k,C k->¬ F k) (lt : ∀ k,C k->k < w.heap.size) (hF : ∀ k,F k->k < w.heap.size) (hs : StepV (Mine (FC F C) w) w vs s)
   (hg : w.grownBy w5 wv.ownBlock) (hown : w5.ownsRow 0 151 4 v5 (way.length + 1) (rows.flatten ++ vs)) (hv : v5.ownBlock=wv.ownBlock \/ v5.ownBlock=some w.heap.size) :
   CurAt F (fun k => C k \/ v5.ownBlock=some k) (w5.setCell ⟨gc,1,none⟩ v5) gc gt (way ++ [s]) from_ tgt er/\Ev (FC F C) w (FC F (fun k => C k \/ v5.ownBlock=some k)) (w5.setCell ⟨gc,1,none⟩ v5):=by
 have hnew : ∀ k,v5.ownBlock=some k->C k \/ k=w.heap.size:=fun k hk => by
   rcases hv with e | e
   · exact .inl (ho k (by rw [<- e]; exact hk))
   · rw [e] at hk; injection hk with hk; exact .inr hk.symm
 have hO : Only (FC F C) w (w5.setCell ⟨gc,1,none⟩ v5):=((Only.refl (FC F C) w).grown hg (fun k hk _ => .inr (ho k hk))).setCell (p:=⟨gc,1,none⟩) (fun _ => .inr own) v5
 have hE : Ev (FC F C) w (FC F (fun k => C k \/ v5.ownBlock=some k)) (w5.setCell ⟨gc,1,none⟩ v5):=⟨hO,fun k hk => by
   rcases hk with hk | hk | hk
   · exact .inl (.inl hk)
   · exact .inl (.inr hk)
   · rcases hnew k hk with h9 | h9
     · exact .inl (.inr h9)
     · exact .inr (by omega)⟩
 have hgc : some gc ≠ wv.ownBlock:=fun e => own_blk_ne h2 hbc (by decide) e.symm
 have hb5:=(hbc.grown hg hgc).set_ 1 v5
 have hO2 : Only (fun k => k=gc) w5 (w5.setCell ⟨gc,1,none⟩ v5):=(Only.refl (fun k => k=gc) w5).setCell (p:=⟨gc,1,none⟩) (fun _ => rfl) v5
 have hs5 : w5.heap.size<=(w5.setCell ⟨gc,1,none⟩ v5).heap.size:=hO2.size
 refine ⟨⟨⟨v5,fA,fc,hb5,hm.ev hE,fun k hk => .inr hk,rows ++ [vs],by simp [h1],?_,fun k vs' s' e1 e2 => ?_⟩,.inl own,fun k hk hf => ?_,fun k hk => ?_⟩,hE⟩
 · rw [List.length_append, List.flatten_append]
   simp only [List.flatten_cons,List.flatten_nil,List.append_nil,List.length_cons,List.length_nil,Nat.zero_add]
   exact hO2.row hown (own_not_blk hown (hbc.grown hg hgc) (by decide))
 · by_cases hk : k < rows.length
   · rw [List.getElem?_append_left hk] at e1
     rw [List.getElem?_append_left (by omega)] at e2
     exact (h3 k vs' s' e1 e2).ev hE
   · have hk2 : k=rows.length:=by
       have:=(List.getElem?_eq_some_iff.1 e1).1
       simp at this; omega
     subst hk2
     rw [List.getElem?_append_right (Nat.le_refl _),Nat.sub_self] at e1
     rw [h1,List.getElem?_append_right (Nat.le_refl _),Nat.sub_self] at e2
     simp at e1 e2
     subst e1; subst e2
     exact hs.ev hE
 · rcases hk with hk | hk
   · exact apart k hk hf
   · rcases hnew k hk with h9 | h9
     · exact apart k h9 hf
     · have:=hF k hf; omega
 · rcases hk with hk | hk
   · have h8:=lt k hk; have h9:=hg.size; omega
   · have:=(own_lt hown hk).2; omega
def DownEnd (F C : Nat->Prop) (w : World) (gp : Nat) (st : PgS) (gc gt : Nat) (way : List (NodeP × Nat)) (from_ : List UInt8) (tgt er : Int) (e : Ending) (w' : World) : Prop :=
 e=.returned (.int .i64 0)/\∃ F' C',PgAt w' F' gp st/\CurAt F' C' w' gc gt way from_ tgt er/\Ev (FC F C) w (FC F' C') w'/\(∀ k,C k->C' k)/\∀ (g : Nat) (t : TypeId) (cs : Array Value),Blk w g t cs->¬ F g->t ≠ 115->t ≠ 151->Blk w' g t cs
set_option maxHeartbeats 2000000 in
theorem down_leaf (w : World) (F C : Nat->Prop) (gc gt gp k : Nat) (st : PgS) (h : PgAt w F gp st) (ht : TreeAt w (FC F C) gt gp k) (way : List (NodeP × Nat)) (from_ : List UInt8) (tgt er : Int) (hc : CurAt F C w gc gt way from_ tgt er) (no : Nat) (n : NodeP) (hl : LoadR st no n) (hleaf : n.leaf=true) (hway : way.length<=1000) :
   Calls Tryz.prog 94 #[.pointer (some ⟨gc,0,none⟩),.int .i64 (no : Int),.bool false] w (DownEnd F C w gp st gc gt (way ++ [(n,(findP n from_).1)]) from_ tgt er):=by
 have htF : TreeAt w F gt gp k:=⟨ht.blk,fun hf => ht.out (.inl hf)⟩
 have hld:=hide (load_any w F gt gp k st h htF no n hl hleaf)
 obtain ⟨wv,fA,fc,hbc,hmc,hoc,rows,hr1,hr2,hr3⟩:=hc.mem
 have q0 : w.cell? ⟨gc,0,none⟩=some (.pointer (some ⟨gt,0,none⟩)):=hbc.cell 0
 have hgc:=Blk.lt hbc
 have hgcF : ¬ F gc:=hc.apart _ hc.own
 have hrise:=hl.2.1.rise
 have hmany:=hl.2.1.many
 obtain ⟨L,hL⟩ : ∃ L,L=from_.length:=⟨_,rfl⟩
 obtain ⟨P,hP⟩ : ∃ P,P=way.length:=⟨_,rfl⟩
 rw [<- hL] at hbc hmc
 rw [<- hP] at hr1 hr2
 obtain ⟨wA,wc,rfl⟩:=own_form hr2
 replace h:=hide h
 replace ht:=hide ht
 replace htF:=hide htF
 replace hc:=hide hc
 replace hl:=hide hl
 replace hbc:=hide hbc
 replace hmc:=hide hmc
 replace hoc:=hide hoc
 replace hr1:=hide hr1
 replace hr2:=hide hr2
 replace hr3:=hide hr3
 replace hL:=hide hL
 replace hP:=hide hP
 replace hrise:=hide hrise
 replace hmany:=hide hmany
 replace hgcF:=hide hgcF
 obtain ⟨lf,hlf⟩ : ∃ lf,lf=n.leaf:=⟨_,rfl⟩
 have hlt : lf=true:=hlf.trans hleaf
 subst hlt
 replace hlf:=hide hlf
 replace hleaf:=hide hleaf
 go_enter Tryz.func94,Tryz.ntmps94
 go_wp2_with fail
 go_loopw [1] (fun v1 wx => v1=.int .i64 (no : Int)/\wx=w) (fun _ _ => 0)
 case atStart => exact ⟨rfl,rfl⟩
 case round =>
   obtain ⟨rfl,hwx⟩:=hrel
   subst hwx
   go_wp2_with fail
   go_at_call 45
   refine hld.out.mono ?_
   rintro e w1 ⟨F1,cv,kv,B0,rfl,hP1,hE1,hF1,hwB,hO1⟩
   rw [<- hlf.out]
   have hn1 : NodeM (Mine (FC F1 C) w1) w1 (.agg #[.bool n.leaf,cv,kv]) n:=(hO1.toW (F:=FC F1 C) (fun j hj => by
     rcases hj with hj | hj
     · exact hF1 j hj
     · have:=hc.out.lt j hj; omega)).nodeM
   obtain ⟨A1,c1,rfl⟩:=own_form hO1.kids
   obtain ⟨A2,c2,rfl⟩:=own_form hO1.rows.choose_spec.2.1
   obtain ⟨N,hN⟩ : ∃ N,N=n.cells.length:=⟨_,rfl⟩
   obtain ⟨K,hK⟩ : ∃ K,K=n.kids.length:=⟨_,rfl⟩
   rw [<- hN,<- hK,<- hlf.out] at hn1
   rw [<- hN,<- hK]
   have hnF1 : ¬ F1 w1.heap.size:=fun hf => by have:=hP1.lt _ hf; omega
   have hbn:=Blk.new w1 89 #[.bool true,.slice A2 N c2,.slice A1 K c1]
   have hE2 : Ev F wr F1 (w1.alloc (.cells #[.bool true,.slice A2 N c2,.slice A1 K c1] 89)):=hE1.alloc_ _
   have hcu:=hc.out.ev hE2
   have hbc2 : Blk (w1.alloc (.cells #[.bool true,.slice A2 N c2,.slice A1 K c1] 89)) gc 115 #[.pointer (some ⟨gt,0,none⟩),.slice wA P wc,.slice fA L fc,.int .i64 tgt,.int .i64 er]:=hE2.blk hbc.out hgcF.out
   have hP2:=hP1.alloc (.cells #[.bool true,.slice A2 N c2,.slice A1 K c1] 89)
   have hfd:=hide (find_any (w1.alloc (.cells #[.bool true,.slice A2 N c2,.slice A1 K c1] 89)).drew (.agg #[.bool true,.slice A2 N c2,.slice A1 K c1]) n ((hn1.ev ((Ev.refl (FC F1 C) w1).alloc_ (.cells #[.bool true,.slice A2 N c2,.slice A1 K c1] 89)).drew).old fun k hk => hk.1) hrise.out (by have:=hmany.out; omega) fA fc from_ (by have h9:=(hmc.out.ev (hE2.drew.add C)).rb; rw [hL.out] at h9; exact h9))
   rw [<- hL.out] at hfd
   obtain ⟨I,hI⟩ : ∃ I,I=(findP n from_).1:=⟨_,rfl⟩
   obtain ⟨S,hS⟩ : ∃ S,S=(findP n from_).2:=⟨_,rfl⟩
   rw [<- hI,<- hS] at hfd
   have m0:=hbn.cell 0
   have m1:=hbn.cell 1
   have m2:=hbn.cell 2
   have b1:=hbc2.cell 1
   have b2:=hbc2.cell 2
   replace hN:=hide hN
   replace hK:=hide hK
   replace hI:=hide hI
   replace hS:=hide hS
   replace hn1:=hide hn1
   replace hO1:=hide hO1
   replace hF1:=hide hF1
   replace hP1:=hide hP1
   replace hE1:=hide hE1
   replace hP2:=hide hP2
   replace hE2:=hide hE2
   replace hbn:=hide hbn
   replace hbc2:=hide hbc2
   replace hcu:=hide hcu
   replace hnF1:=hide hnF1
   go_wp2_with fail
   go_region_law (go_simp; go_at_call 46; refine hfd.out.mono ?_; rintro e w3 ⟨rfl,hB3⟩; have hb3:=hbn.out.drew.below hB3 (Blk.lt hbn.out); have o0:=hb3.cell 0; have o1:=hb3.cell 1; have o2:=hb3.cell 2; have hg3:=hbc2.out.drew.below hB3 (Blk.lt hbc2.out); have j1:=hg3.cell 1; have fz:=hg3.frozen 1; replace hb3:=hide hb3; replace hg3:=hide hg3; replace hB3:=hide hB3)
   all_goals
     have hE3 : Ev F wr F1 w3:=hE2.out.drew.below hB3.out
     have hP3 : PgAt w3 F1 gp st:=hP2.out.drew.below hB3.out
     have hrow3:=hE3.only.row hr2.out (fun k hk => hc.out.apart k (hoc.out k hk))
     have hb4:=Blk.new w3 151 #[.bool true,.slice A2 N c2,.slice A1 K c1,.int .i64 (I : Int)]
     have hrow4 : ((w3.alloc (.cells #[.bool true,.slice A2 N c2,.slice A1 K c1,.int .i64 (I : Int)] 151)).drew).ownsRow 0 151 4 (.slice wA P wc) P rows.flatten:=(((Only.refl (fun _ => False) w3).alloc _).drew).row hrow3 (fun _ _ h => h)
     obtain ⟨v5,w5,hrun,hown5,hg5,hv5⟩:=run_app_step _ 0 _ P rows.flatten hrow4 w3.heap.size (.bool true) (.slice A2 N c2) (.slice A1 K c1) (.int .i64 (I : Int)) (by intro u hu; simp at hu; rcases hu with rfl | rfl | rfl | rfl <;> rfl) (show Blk (w3.alloc _).drew w3.heap.size 151 _ from hb4) 113 (by have:=hP.out; omega) (Nat.zero_le _)
     have hE4:=(hE3.alloc_ (.cells #[.bool true,.slice A2 N c2,.slice A1 K c1,.int .i64 (I : Int)] 151)).drew
     have hP4:=(hP3.alloc (.cells #[.bool true,.slice A2 N c2,.slice A1 K c1,.int .i64 (I : Int)] 151)).drew
     have hpush:=cur_push (s:=(n,I)) (vs:=[.bool true,.slice A2 N c2,.slice A1 K c1,.int .i64 (I : Int)]) (way:=way) (from_:=from_) (by rw [<- hL.out]; exact hE4.blk hbc.out hgcF.out) (by rw [<- hL.out]; exact hmc.out.ev (hE4.add C)) hoc.out (by rw [<- hP.out]; exact hr1.out) (by rw [<- hP.out]; exact hrow4) (fun k vs s e1 e2 => (hr3.out k vs s e1 e2).ev (hE4.add C)) hc.out.own (hc.out.ev hE4).apart (hc.out.ev hE4).lt hP4.lt ⟨A2,c2,A1,c1,by show [Value.bool true,.slice A2 N c2,.slice A1 K c1,.int .i64 (I : Int)]=[.bool n.leaf,.slice A2 n.cells.length c2,.slice A1 n.kids.length c1,.int .i64 (I : Int)]; rw [<- hN.out,<- hK.out,<- hlf.out],by
       have h9:=hn1.out.ev ((((Ev.refl (FC F1 C) w1).alloc_ (.cells #[.bool true,.slice A2 N c2,.slice A1 K c1] 89)).drew.below hB3.out).alloc_ (.cells #[.bool true,.slice A2 N c2,.slice A1 K c1,.int .i64 (I : Int)] 151)).drew
       show NodeM _ _ (.agg #[.bool n.leaf,.slice A2 n.cells.length c2,.slice A1 n.kids.length c1]) n
       rw [<- hlf.out,<- hN.out,<- hK.out]
       exact h9⟩ hg5 (by rw [<- hP.out]; exact hown5) hv5
     have hdone : Hid (DownEnd F C wr gp st gc gt (way ++ [(n,(findP n from_).1)]) from_ tgt er (.returned (.int .i64 0)) (w5.setCell ⟨gc,1,none⟩ v5)):=hide (by
       rw [<- hI.out]
       refine ⟨rfl,F1,_,?_,hpush.1,(hE4.add C).trans hpush.2,fun k hk => .inl hk,fun g t cs hb hnf ht1 ht2 => ((hE4.blk hb hnf).grown hg5 (fun e => own_blk_ne hrow4 (hE4.blk hb hnf) ht2.symm e.symm)).far (p:=⟨gc,1,none⟩) (Blk.ne_ hb hbc.out ht1) v5⟩
       exact (hP4.grown hg5 (fun k hk => (hc.out.ev hE4).apart k (hoc.out k hk))).set_ (p:=⟨gc,1,none⟩) ((hc.out.ev hE4).apart gc hc.out.own) v5)
     clear hpush
     replace hE4:=hide hE4
     replace hP4:=hide hP4
     have j1' : (w3.alloc (.cells #[.bool true,.slice A2 N c2,.slice A1 K c1,.int .i64 (I : Int)] 151)).cell? ⟨gc,1,none⟩=some (.slice wA P wc):=(hg3.out.alloc _).cell 1
     have p0:=(hb3.out.alloc (.cells #[.bool true,.slice A2 N c2,.slice A1 K c1,.int .i64 (I : Int)] 151)).cell 0
     have p1:=(hb3.out.alloc (.cells #[.bool true,.slice A2 N c2,.slice A1 K c1,.int .i64 (I : Int)] 151)).cell 1
     have p2:=(hb3.out.alloc (.cells #[.bool true,.slice A2 N c2,.slice A1 K c1,.int .i64 (I : Int)] 151)).cell 2
     have hg6 : Blk w5 gc 115 #[.pointer (some ⟨gt,0,none⟩),.slice wA P wc,.slice fA L fc,.int .i64 tgt,.int .i64 er]:=(show Blk (w3.alloc (.cells #[.bool true,.slice A2 N c2,.slice A1 K c1,.int .i64 (I : Int)] 151)).drew gc 115 _ from hg3.out.alloc _).grown hg5 (fun e => own_blk_ne hrow3 hg3.out (by decide) e.symm)
     obtain ⟨A5,c5,rfl⟩:=own_form hown5
     have z1:=hg6.cell 1
     have z2:=hg6.frozen 1
     replace hE3:=hide hE3
     replace hP3:=hide hP3
     replace hrow3:=hide hrow3
     replace hrow4:=hide hrow4
     replace hb4:=hide hb4
     replace hg6:=hide hg6
     replace hown5:=hide hown5
     replace hg5:=hide hg5
     replace hv5:=hide hv5
     go_wp2_with fail
     go_region_law (refine Lib.wp_append_run _ (.tmp 39) (.tmp 43) 113 113 rfl _ _ rfl rfl _ _ hrun ?_)
   all_goals
     go_wp2_with fail
     first | exact hdone.out | (go_ret; exact hdone.out)
theorem value_short (w : World) (gt : Nat) (kA vA : Option Addr) (kl vl kc vc lg : Nat) :
   Calls Tryz.prog 47 #[.pointer (some ⟨gt,0,none⟩),.agg #[.slice kA kl kc,.slice vA vl vc,.int .i64 0,.int .i64 (lg : Int)]] w fun e w' => e=.returned (.tuple #[.slice vA vl vc,.int .i64 0])/\Below w.heap.size w w':=by
 have hB1:=(Below.refl w.heap.size w).alloc (Nat.le_refl _) (.cells #[.slice kA kl kc,.slice vA vl vc,.int .i64 0,.int .i64 (lg : Int)] 83)
 replace hB1:=hide hB1
 go_enter Tryz.func47,Tryz.ntmps47
 go_wp2_with fail
 go_ret2
 exact ⟨rfl,hB1.out⟩
section
variable {F C : Nat->Prop} {w : World} {gc gt : Nat} {way : List (NodeP × Nat)} {from_ : List UInt8} {tgt er : Int}
theorem cur_tgt (h : CurAt F C w gc gt way from_ tgt er) (t' : Int) : CurAt F C (w.setCell ⟨gc,3,none⟩ (.int .i64 t')) gc gt way from_ t' er/\Ev (FC F C) w (FC F C) (w.setCell ⟨gc,3,none⟩ (.int .i64 t')):=by
 obtain ⟨wv,fA,fc,hb,hm,ho,rows,h1,h2,h3⟩:=h.mem
 have hE : Ev (FC F C) w (FC F C) (w.setCell ⟨gc,3,none⟩ (.int .i64 t')):=(Ev.refl _ w).set_ (p:=⟨gc,3,none⟩) (.inr h.own) _
 have hO : Only (fun k => k=gc) w (w.setCell ⟨gc,3,none⟩ (.int .i64 t')):=(Only.refl (fun k => k=gc) w).setCell (p:=⟨gc,3,none⟩) (fun _ => rfl) _
 exact ⟨⟨⟨wv,fA,fc,hb.set_ 3 _,hm.ev hE,ho,rows,h1,hO.row h2 (own_not_blk h2 hb (by decide)),fun k vs s e1 e2 => (h3 k vs s e1 e2).ev hE⟩,h.own,h.apart,fun k hk => Nat.lt_of_lt_of_le (h.lt k hk) hE.size⟩,hE⟩
theorem cur_err (h : CurAt F C w gc gt way from_ tgt er) (t' : Int) : CurAt F C (w.setCell ⟨gc,4,none⟩ (.int .i64 t')) gc gt way from_ tgt t'/\Ev (FC F C) w (FC F C) (w.setCell ⟨gc,4,none⟩ (.int .i64 t')):=by
 obtain ⟨wv,fA,fc,hb,hm,ho,rows,h1,h2,h3⟩:=h.mem
 have hE : Ev (FC F C) w (FC F C) (w.setCell ⟨gc,4,none⟩ (.int .i64 t')):=(Ev.refl _ w).set_ (p:=⟨gc,4,none⟩) (.inr h.own) _
 have hO : Only (fun k => k=gc) w (w.setCell ⟨gc,4,none⟩ (.int .i64 t')):=(Only.refl (fun k => k=gc) w).setCell (p:=⟨gc,4,none⟩) (fun _ => rfl) _
 exact ⟨⟨⟨wv,fA,fc,hb.set_ 4 _,hm.ev hE,ho,rows,h1,hO.row h2 (own_not_blk h2 hb (by decide)),fun k vs s e1 e2 => (h3 k vs s e1 e2).ev hE⟩,h.own,h.apart,fun k hk => Nat.lt_of_lt_of_le (h.lt k hk) hE.size⟩,hE⟩
end
theorem own_cells4 {w : World} {B m : Nat} {e : TypeId} {v : Value} {xs : List Value} (h : w.ownsRow B e 4 v m xs) (hm : 0 < m) : ∃ g cap cur,v=.slice (some ⟨g,0,none⟩) m cap/\Blk w g e cur/\m<=cap/\cap<=maxLen/\cur.size=cap * 4/\cur.toList.take (m * 4)=xs/\B<=g:=by
 rcases h.2 with ⟨e1,h0⟩ | ⟨g,cap,cur,e1,hg,hh,h3,h4,h5,h6⟩
 · omega
 · exact ⟨g,cap,cur,e1,hh,h3,h4,h5,h6,hg⟩
theorem cur_last {F C : Nat->Prop} {w : World} {gc gt : Nat} {way : List (NodeP × Nat)} {from_ : List UInt8} {tgt er : Int} {n : NodeP} {i : Nat} (h : CurAt F C w gc gt (way ++ [(n,i)]) from_ tgt er) :
   ∃ g cap cur A c B d, Blk w g 151 cur /\ C g /\ way.length + 1 <= cap /\ cap <= maxLen /\ w.cell? ⟨gc, 1, none⟩ = some (.slice (some ⟨g, 0, none⟩) (way.length + 1) cap) /\
     w.cell? ⟨g,way.length * 4,none⟩=some (.bool n.leaf)/\w.cell? ⟨g,way.length * 4 + 1,none⟩=some (.slice A n.cells.length c)/\w.cell? ⟨g,way.length * 4 + 2,none⟩=some (.slice B n.kids.length d)/\w.cell? ⟨g,way.length * 4 + 3,none⟩=some (.int .i64 (i : Int)) /\
     NodeM (Mine (FC F C) w) w (.agg #[.bool n.leaf,.slice A n.cells.length c,.slice B n.kids.length d]) n /\
     ∀ j : Nat,CurAt F C (w.setCell ⟨g,way.length * 4 + 3,none⟩ (.int .i64 (j : Int))) gc gt (way ++ [(n,j)]) from_ tgt er/\Ev (FC F C) w (FC F C) (w.setCell ⟨g,way.length * 4 + 3,none⟩ (.int .i64 (j : Int))):=by
 obtain ⟨wv,fA,fc,hb,hm,ho,rows,h1,h2,h3⟩:=h.mem
 obtain ⟨g,cap,cur,rfl,hbg,hcap,hcm,hcs,htk,_⟩:=own_cells4 h2 (by simp)
 have hlen : (way ++ [(n,i)]).length=way.length + 1:=by simp
 rw [hlen] at h1 h2 hcap htk
 have hCg : C g:=ho g rfl
 obtain ⟨pre,vs,hpv⟩ : ∃ pre vs,rows=pre ++ [vs]:=by
   have : rows ≠ []:=fun e => by rw [e] at h1; simp at h1
   exact ⟨rows.dropLast,rows.getLast this,(List.dropLast_concat_getLast this).symm⟩
 subst hpv
 have hpl : pre.length=way.length:=by simp at h1; exact h1
 obtain ⟨A,c,B,d,hvs,hnm⟩:=h3 way.length vs (n,i) (by rw [<- hpl]; simp) (by simp)
 subst hvs
 have h4 : ∀ r ∈ pre,r.length=4:=by
   intro r hr
   obtain ⟨q,hq,e⟩:=List.getElem_of_mem hr
   have hq2 : q < way.length:=by omega
   obtain ⟨A',c',B',d',e2,_⟩:=h3 q r way[q] (by rw [List.getElem?_append_left hq,List.getElem?_eq_getElem hq,e]) (by rw [List.getElem?_append_left hq2,List.getElem?_eq_getElem hq2])
   rw [e2]; rfl
 have hpf : pre.flatten.length=way.length * 4:=by
   have:=(flatten_take4 pre pre.length h4).2
   rw [List.drop_length] at this
   have h9 : ∀ (l : List (List Value)),(∀ r ∈ l,r.length=4)->l.flatten.length=l.length * 4:=by
     intro l
     induction l with
     | nil => intro _; rfl
     | cons a t ih => intro hl; rw [List.flatten_cons,List.length_append,ih fun r hr => hl r (.tail _ hr),hl a (.head _),List.length_cons]; omega
   rw [h9 pre h4,hpl]
 have hcell : ∀ j u,[Value.bool n.leaf,.slice A n.cells.length c,.slice B n.kids.length d,.int .i64 (i : Int)][j]?=some u->w.cell? ⟨g,way.length * 4 + j,none⟩=some u:=by
   intro j u hu
   have hj:=(List.getElem?_eq_some_iff.1 hu).1
   simp at hj
   rw [hbg.cell]
   have h9 : cur.toList[way.length * 4 + j]?=some u:=by
     have e1 : (cur.toList.take ((way.length + 1) * 4))[way.length * 4 + j]?=some u:=by
       rw [htk,List.flatten_append,List.getElem?_append_right (by omega),hpf,Nat.add_sub_cancel_left]
       simpa using hu
     rw [List.getElem?_take,if_pos (by omega)] at e1
     exact e1
   simpa using h9
 refine ⟨g,cap,cur,A,c,B,d,hbg,hCg,hcap,hcm,by have:=hb.cell 1; rw [hlen] at this; exact this,hcell 0 _ rfl,hcell 1 _ rfl,hcell 2 _ rfl,hcell 3 _ rfl,hnm,fun j => ?_⟩
 have hE : Ev (FC F C) w (FC F C) (w.setCell ⟨g,way.length * 4 + 3,none⟩ (.int .i64 (j : Int))):=(Ev.refl _ w).set_ (p:=⟨g,way.length * 4 + 3,none⟩) (.inr hCg) _
 have hgne : gc ≠ g:=Blk.ne_ hb hbg (by decide)
 have hbs:=hbg.set_ (way.length * 4 + 3) (.int .i64 (j : Int))
 have hl2 : (way ++ [(n,j)]).length=way.length + 1:=by simp
 refine ⟨⟨⟨_,fA,fc,hb.far (p:=⟨g,way.length * 4 + 3,none⟩) hgne _,hm.ev hE,ho,pre ++ [[.bool n.leaf,.slice A n.cells.length c,.slice B n.kids.length d,.int .i64 (j : Int)]],by rw [hl2]; simp [hpl],?_,fun q vs' s e1 e2 => ?_⟩,h.own,h.apart,fun k hk => Nat.lt_of_lt_of_le (h.lt k hk) hE.size⟩,hE⟩
 · rw [hl2, hlen]
   refine ⟨by simp [hpf]; omega,.inr ⟨g,cap,_,rfl,Nat.zero_le _,hbs,hcap,hcm,by simp [hcs],?_⟩⟩
   have e1 : (cur.setIfInBounds (way.length * 4 + 3) (.int .i64 (j : Int))).toList.take ((way.length + 1) * 4)=(cur.toList.take ((way.length + 1) * 4)).set (way.length * 4 + 3) (.int .i64 (j : Int)):=by
     rw [Array.toList_setIfInBounds,List.take_set]
   rw [e1,htk,List.flatten_append,List.flatten_append,List.set_append_right _ _ (by omega),hpf,Nat.add_sub_cancel_left]
   rfl
 · by_cases hq : q < pre.length
   · rw [List.getElem?_append_left hq] at e1
     rw [List.getElem?_append_left (by omega)] at e2
     exact (h3 q vs' s (by rw [List.getElem?_append_left hq]; exact e1) (by rw [List.getElem?_append_left (by omega)]; exact e2)).ev hE
   · have hq2 : q=pre.length:=by
       have:=(List.getElem?_eq_some_iff.1 e1).1
       simp at this; omega
     subst hq2
     rw [List.getElem?_append_right (Nat.le_refl _),Nat.sub_self] at e1
     rw [hpl,List.getElem?_append_right (Nat.le_refl _),Nat.sub_self] at e2
     simp at e1 e2
     subst e1; subst e2
     exact ⟨A,c,B,d,rfl,hnm.ev hE⟩
def NextEnd (F C : Nat->Prop) (w : World) (gp : Nat) (st : PgS) (gc gt : Nat) (way : List (NodeP × Nat)) (from_ : List UInt8) (er : Int) (c : CellP) (e : Ending) (w' : World) : Prop :=
 ∃ F' C' kA kc vA vc, e = .returned (.tuple #[.agg #[.slice kA c.key.length kc, .slice vA c.val.length vc, .int .i64 (c.over : Int), .int .i64 (c.long : Int)], .int .i64 0]) /\
   CellV (Mine (FC F' C') w') w' [.slice kA c.key.length kc,.slice vA c.val.length vc,.int .i64 (c.over : Int),.int .i64 (c.long : Int)] c /\
   PgAt w' F' gp st/\CurAt F' C' w' gc gt way from_ (-1) er/\Ev (FC F C) w (FC F' C') w'
theorem cur_wide {F C : Nat->Prop} {w : World} {gc gt : Nat} {way : List (NodeP × Nat)} {from_ : List UInt8} {tgt er : Int} (h : CurAt F C w gc gt way from_ tgt er) (hF : ∀ k,F k->k < w.heap.size) (o : Obj) :
   CurAt F (plus C w.heap.size) (w.alloc o) gc gt way from_ tgt er/\Ev (FC F C) w (FC F (plus C w.heap.size)) (w.alloc o):=by
 have hE : Ev (FC F C) w (FC F (plus C w.heap.size)) (w.alloc o):=((Ev.refl (FC F C) w).alloc o).mono (fun k hk => by
   rcases hk with hk | hk | hk
   · exact .inl (.inl hk)
   · exact .inl (.inr hk)
   · exact .inr hk)
 obtain ⟨wv,fA,fc,hb,hm,ho,rows,h1,h2,h3⟩:=h.mem
 refine ⟨⟨⟨wv,fA,fc,hb.alloc o,hm.ev hE,fun k hk => .inl (ho k hk),rows,h1,((Only.refl (fun _ => False) w).alloc o).row h2 (fun _ _ h => h),fun k vs s e1 e2 => (h3 k vs s e1 e2).ev hE⟩,.inl h.own,fun k hk hf => hk.elim (fun hk => h.apart k hk hf) (fun e => by have:=hF k hf; omega),fun k hk => ?_⟩,hE⟩
 have hz : (w.alloc o).heap.size=w.heap.size + 1:=World.size_alloc _ _
 rcases hk with hk | hk
 · have:=h.lt k hk; omega
 · omega
theorem cur_side {F C : Nat->Prop} {w w' : World} {gc gt R : Nat} {way : List (NodeP × Nat)} {from_ : List UInt8} {tgt er : Int} {cs : Array Value} (h : CurAt F C w gc gt way from_ tgt er) (hb : Blk w R 83 cs) (hC : C R) (hO : Only (fun j => j=R) w w') :
   CurAt F C w' gc gt way from_ tgt er/\Ev (FC F C) w (FC F C) w':=by
 have hE : Ev (FC F C) w (FC F C) w':=⟨hO.mono fun j _ e => .inr (by rw [e]; exact hC),fun k hk => .inl hk⟩
 obtain ⟨wv,fA,fc,hbc,hm,ho,rows,h1,h2,h3⟩:=h.mem
 exact ⟨⟨⟨wv,fA,fc,hO.blk hbc (Blk.ne_ hbc hb (by decide)),hm.ev hE,ho,rows,h1,hO.row h2 (fun k hk e => own_blk_ne h2 hb (by decide) (by rw [hk,e])),fun k vs s e1 e2 => (h3 k vs s e1 e2).ev hE⟩,h.own,h.apart,fun k hk => Nat.lt_of_lt_of_le (h.lt k hk) hE.size⟩,hE⟩
set_option maxHeartbeats 2000000 in
theorem next_first (w : World) (F C : Nat->Prop) (gc gt gp k : Nat) (st : PgS) (h : PgAt w F gp st) (ht : TreeAt w (FC F C) gt gp k) (from_ : List UInt8) (no : Nat) (er : Int) (hc : CurAt F C w gc gt [] from_ (no : Int) er) (hno : 0 < no) (n : NodeP) (hl : LoadR st no n) (hleaf : n.leaf=true) (i : Nat) (hi : i=(findP n from_).1) (c : CellP) (hcc : n.cells[i]?=some c) :
   Calls Tryz.prog 58 #[.pointer (some ⟨gc,0,none⟩)] w (NextEnd F C w gp st gc gt [(n,i + 1)] from_ er c):=by
 obtain ⟨hc1,hE1⟩:=cur_wide hc h.lt (.cells #[.slice none 0 0,.slice none 0 0,.int .i64 0,.int .i64 0] 83)
 obtain ⟨hc2,hE2⟩:=cur_tgt hc1 (-1)
 have hP2 : PgAt ((w.alloc (.cells #[.slice none 0 0,.slice none 0 0,.int .i64 0,.int .i64 0] 83)).setCell ⟨gc,3,none⟩ (.int .i64 (-1))) F gp st:=(h.alloc _).set_ (p:=⟨gc,3,none⟩) (hc.apart _ hc.own) _
 have hE12:=hE1.trans hE2
 have hdn:=hide (down_leaf _ F (plus C w.heap.size) gc gt gp k st hP2 (ht.ev hE12) [] from_ (-1) er hc2 no n hl hleaf (by simp))
 obtain ⟨wv,fA,fc,hb,_⟩:=hc1.mem
 have k3 : (w.alloc (.cells #[.slice none 0 0,.slice none 0 0,.int .i64 0,.int .i64 0] 83)).cell? ⟨gc,3,none⟩=some (.int .i64 (no : Int)):=hb.cell 3
 have z3:=hb.frozen 3
 have hnoI : (0 : Int) < (no : Int):=by omega
 have hmany:=hl.2.1.many
 have hno0 : (0 : Int)<=(no : Int):=by omega
 have hbz:=Blk.new w 83 #[.slice none 0 0,.slice none 0 0,.int .i64 0,.int .i64 0]
 replace h:=hide h
 replace ht:=hide ht
 replace hc:=hide hc
 replace hl:=hide hl
 replace hleaf:=hide hleaf
 replace hi:=hide hi
 replace hcc:=hide hcc
 replace hE1:=hide hE1
 replace hc1:=hide hc1
 replace hc2:=hide hc2
 replace hE2:=hide hE2
 replace hE12:=hide hE12
 replace hP2:=hide hP2
 replace hb:=hide hb
 replace hbz:=hide hbz
 go_enter Tryz.func58,Tryz.ntmps58
 go_wp2_with fail
 refine hdn.out.mono ?_
 rintro e w3 ⟨rfl,F3,C3,hP3,hc3,hE3,hC3,hT3⟩
 have hRg0 : w.heap.size ≠ gc:=fun e => by have:=hc.out.lt _ hc.out.own; omega
 have hbR3:=hT3 _ _ _ (hbz.out.far (p:=⟨gc,3,none⟩) hRg0 (.int .i64 (-1))) (fun hf => by have:=h.out.lt _ hf; omega) (by decide) (by decide)
 have hCR : C3 w.heap.size:=hC3 _ (.inr rfl)
 rw [<- hi.out] at hc3
 obtain ⟨g,cap,cur,A,cA,B,cB,hbg,hCg,hcap,hcm,k1,s0,s1,s2,s3,hnm,hset⟩:=cur_last hc3
 simp only [List.length_nil,Nat.zero_mul,Nat.zero_add] at hcap k1 s0 s1 s2 s3 hset
 have hbz3 : ∀ j,w3.cell? ⟨w.heap.size,j,none⟩=(#[Value.slice none 0 0,.slice none 0 0,.int .i64 0,.int .i64 0])[j]?/\w3.frozen? ⟨w.heap.size,j,none⟩=false:=fun j => ⟨hbR3.cell j,hbR3.frozen j⟩
 have y0:=(hbz3 0).1
 have y1:=(hbz3 1).1
 have y2:=(hbz3 2).1
 have y3:=(hbz3 3).1
 have f0:=(hbz3 0).2
 have f1:=(hbz3 1).2
 have f2:=(hbz3 2).2
 have f3:=(hbz3 3).2
 have fg:=hbg.frozen 3
 clear hbz3
 obtain ⟨ad,kA,vA,kc,vc,rfl,hh⟩ : ∃ ad kA vA kc vc,A=some ad/\CellHere (Mine (FC F3 C3) w3) w3 (ad.add (i * 4)) c kA vA kc vc:=by
   obtain ⟨A9,c9,B9,d9,e9,_,_,hcs,_⟩:=hnm
   have hil : i < n.cells.length:=(List.getElem?_eq_some_iff.1 hcc.out).1
   obtain ⟨ad,kA,vA,kc,vc,e1,hh⟩:=hcs.at_ i hil
   have e2 : n.cells[i]=c:=(List.getElem?_eq_some_iff.1 hcc.out).2
   rw [e2] at hh
   injection e9 with e9
   simp at e9
   exact ⟨ad,kA,vA,kc,vc,e9.1.1.trans e1,hh⟩
 obtain ⟨N,hN⟩ : ∃ N,N=n.cells.length:=⟨_,rfl⟩
 obtain ⟨K,hK⟩ : ∃ K,K=n.kids.length:=⟨_,rfl⟩
 have hiN : i < n.cells.length:=(List.getElem?_eq_some_iff.1 hcc.out).1
 rw [<- hN] at hnm s1 hiN
 rw [<- hK] at hnm s2
 rw [hleaf.out] at s0 hnm
 have hiI : (i : Int) < (N : Int):=by omega
 have hiD : decide ((i : Int) < (N : Int))=true:=decide_eq_true hiI
 have hiDn : decide (i < N)=true:=decide_eq_true hiN
 replace hN:=hide hN
 replace hK:=hide hK
 replace hP3:=hide hP3
 replace hc3:=hide hc3
 replace hE3:=hide hE3
 replace hbg:=hide hbg
 replace hbR3:=hide hbR3
 replace hC3:=hide hC3
 replace hT3 : Hid _:=hide hT3
 replace hCg:=hide hCg
 replace hnm:=hide hnm
 replace hset : Hid _:=hide hset
 go_wp2_with fail
 go_loopw [7] (fun _ wx => wx=w3) (fun _ _ => 0)
 case atStart => exact rfl
 case round =>
   have hwx:=hrel
   subst hwx
   go_wp2_with fail
   go_quiet (fail)
   go_upto_region 14 with (fail)
   obtain ⟨W4,hW4⟩ : ∃ W4,W4=(wr.drewN nq).setCell ⟨g,3,none⟩ (.int .i64 (wrap64 ((i : Int) + 1))):=⟨_,rfl⟩
   rw [<- hW4]
   have hwz : wrap64 ((i : Int) + 1)=((i + 1 : Nat) : Int):=by
     have h9:=hmany
     rw [hN.out] at hiN
     unfold wrap64
     omega
   rw [hwz] at hW4
   obtain ⟨hs1,hs2⟩:=hset.out (i + 1)
   have hD : Ev F3 (wr.setCell ⟨g,3,none⟩ (.int .i64 ((i + 1 : Nat) : Int))) F3 W4:=by
     have q:=(Ev.refl F3 (wr.setCell ⟨g,3,none⟩ (.int .i64 ((i + 1 : Nat) : Int)))).drewN nq
     rw [hW4]; exact q
   have hcu4:=hs1.ev hD
   have hE4 : Ev (FC F3 C3) wr (FC F3 C3) W4:=hs2.trans (hD.add C3)
   have hgF : ¬ F3 g:=hc3.out.apart _ hCg.out
   have hP4 : PgAt W4 F3 gp st:=by rw [hW4]; exact (hP3.out.drewN nq).set_ (p:=⟨g,3,none⟩) hgF _
   have hRg : w.heap.size ≠ g:=Blk.ne_ hbR3.out hbg.out (by decide)
   have hcs1 : W4.cell? ⟨g,1,none⟩=some (.slice (some ad) N cA):=by rw [hW4,World.cell?_setCell_other _ _ _ _ (by simp)]; exact s1
   have hO4 : ∀ b,b ≠ g->W4.heap[b]?=wr.heap[b]?:=fun b hb => by rw [hW4]; exact Below.heap_setCell _ ⟨g,3,none⟩ _ b hb
   have hcell : ∀ b o,b ≠ g->W4.cell? ⟨b,o,none⟩=wr.cell? ⟨b,o,none⟩:=fun b o hb => World.cell?_of_block (hO4 b hb)
   have hbk:=hh.blk
   have hbg4 : (ad.add (i * 4)).block ≠ g:=fun e => hbk.2 (by rw [e]; exact .inr hCg.out)
   have hh4 : CellHere (Mine (FC F3 C3) W4) W4 (ad.add (i * 4)) c kA vA kc vc:=⟨(World.cell?_of_block (hO4 _ hbg4)).trans hh.c0,(hcell _ _ hbg4).trans hh.c1,(hcell _ _ hbg4).trans hh.c2,(hcell _ _ hbg4).trans hh.c3,hh.kle,hh.vle,hh.key.ev hE4,hh.val.ev hE4,hE4.mine hbk⟩
   have x0:=hh4.c0
   have x1:=hh4.c1
   have x2:=hh4.c2
   have x3:=hh4.c3
   have hbR4 : Blk W4 w.heap.size 83 #[.slice none 0 0,.slice none 0 0,.int .i64 0,.int .i64 0]:=(hO4 _ hRg).trans hbR3.out
   have hfin : Hid (∀ W,W=(((W4.setCell ⟨w.heap.size,0,none⟩ (.slice kA c.key.length kc)).setCell ⟨w.heap.size,1,none⟩ (.slice vA c.val.length vc)).setCell ⟨w.heap.size,2,none⟩ (.int .i64 (c.over : Int))).setCell ⟨w.heap.size,3,none⟩ (.int .i64 (c.long : Int)) ->
       NextEnd F C w gp st gc gt [(n,i + 1)] from_ er c (.returned (.tuple #[.agg #[.slice kA c.key.length kc,.slice vA c.val.length vc,.int .i64 (c.over : Int),.int .i64 (c.long : Int)],.int .i64 0])) W):=by
     refine hide fun W hW => ?_
     have hO : Only (fun j => j=w.heap.size) W4 W:=by rw [hW]; exact ((((Only.refl (fun j => j=w.heap.size) W4).setCell (p:=⟨w.heap.size,0,none⟩) (fun _ => rfl) _).setCell (p:=⟨w.heap.size,1,none⟩) (fun _ => rfl) _).setCell (p:=⟨w.heap.size,2,none⟩) (fun _ => rfl) _).setCell (p:=⟨w.heap.size,3,none⟩) (fun _ => rfl) _
     obtain ⟨k1,k2⟩:=cur_side hcu4 hbR4 hCR hO
     have k3 : PgAt W F3 gp st:=hP4.keep (fun j hj => hO.block j (hP4.lt _ hj) (fun e => hc3.out.apart _ hCR (by rw [<- e]; exact hj))) hO.size
     exact ⟨F3,C3,kA,kc,vA,vc,rfl,⟨kA,kc,vA,vc,rfl,hh4.kle,hh4.vle,hh4.key.ev k2,hh4.val.ev k2⟩,k3,k1,hE12.out.trans (hE3.out.trans (hE4.trans k2))⟩
   have y0 : W4.cell? ⟨w.heap.size,0,none⟩=some (.slice none 0 0):=hbR4.cell 0
   have y1 : W4.cell? ⟨w.heap.size,1,none⟩=some (.slice none 0 0):=hbR4.cell 1
   have y2 : W4.cell? ⟨w.heap.size,2,none⟩=some (.int .i64 0):=hbR4.cell 2
   have y3 : W4.cell? ⟨w.heap.size,3,none⟩=some (.int .i64 0):=hbR4.cell 3
   have f0:=hbR4.frozen 0
   have f1:=hbR4.frozen 1
   have f2:=hbR4.frozen 2
   have f3:=hbR4.frozen 3
   have hbf:=(((hbR4.set_ 0 (.slice kA c.key.length kc)).set_ 1 (.slice vA c.val.length vc)).set_ 2 (.int .i64 (c.over : Int))).set_ 3 (.int .i64 (c.long : Int))
   replace hbf:=hide hbf
   replace hbR4:=hide hbR4
   replace hh4:=hide hh4
   replace hh:=hide hh
   replace hP4:=hide hP4
   replace hE4:=hide hE4
   replace hcu4:=hide hcu4
   replace hs1:=hide hs1
   replace hs2:=hide hs2
   replace hD:=hide hD
   replace hO4:=hide hO4
   replace hcell:=hide hcell
   replace hbk:=hide hbk
   replace hW4:=hide hW4
   clear s0 s1 s2 s3 k1 fg hwz
   go_wp2_with fail
   refine bodyPost_ret (v:=.tuple #[.agg #[.slice kA c.key.length kc,.slice vA c.val.length vc,.int .i64 (c.over : Int),.int .i64 (c.long : Int)],.int .i64 0]) ?_ rfl (hfin.out _ rfl)
   have hbf:=hbf.out
   obtain ⟨Wf,hWf⟩ : ∃ Wf,Wf=(((W4.setCell ⟨w.heap.size,0,none⟩ (.slice kA c.key.length kc)).setCell ⟨w.heap.size,1,none⟩ (.slice vA c.val.length vc)).setCell ⟨w.heap.size,2,none⟩ (.int .i64 (c.over : Int))).setCell ⟨w.heap.size,3,none⟩ (.int .i64 (c.long : Int)):=⟨_,rfl⟩
   rw [<- hWf] at hbf ⊢
   have j0 : Wf.cell? ⟨w.heap.size,0,none⟩=some (.slice kA c.key.length kc):=hbf.cell 0
   have j1 : Wf.cell? ⟨w.heap.size,1,none⟩=some (.slice vA c.val.length vc):=hbf.cell 1
   have j2 : Wf.cell? ⟨w.heap.size,2,none⟩=some (.int .i64 (c.over : Int)):=hbf.cell 2
   have j3 : Wf.cell? ⟨w.heap.size,3,none⟩=some (.int .i64 (c.long : Int)):=hbf.cell 3
   simp [results,Tryz.results58,go_sem,j0,j1,j2,j3]
theorem cellv_here {G : Nat->Prop} {w : World} {c : CellP} {kA vA : Option Addr} {kc vc : Nat} {x y : Value} (h : CellV G w [.slice kA c.key.length kc,.slice vA c.val.length vc,x,y] c) :
   c.key.length<=kc/\c.val.length<=vc/\Rd G w 1 kA c.key.length (bv c.key)/\Rd G w 1 vA c.val.length (bv c.val):=by
 obtain ⟨kA',kc',vA',vc',e,h1,h2,h3,h4⟩:=h
 injection e with e1 e
 injection e with e2 _
 injection e1 with a1 _ a3
 injection e2 with b1 _ b3
 subst a1; subst a3; subst b1; subst b3
 exact ⟨h1,h2,h3,h4⟩
def NxEnd (F C : Nat->Prop) (w : World) (gp : Nat) (st : PgS) (gc gt : Nat) (way : List (NodeP × Nat)) (from_ : List UInt8) (c : CellP) (e : Ending) (w' : World) : Prop :=
 ∃ F' C' kA kc vA vc, e = .returned (.tuple #[.slice kA c.key.length kc, .slice vA c.val.length vc, .int .i64 0]) /\ RB w' w'.heap.size kA c.key.length c.key /\ RB w' w'.heap.size vA c.val.length c.val /\ c.key.length <= kc /\ c.val.length <= vc /\
   PgAt w' F' gp st/\CurAt F' C' w' gc gt way from_ (-1) 0/\Ev (FC F C) w (FC F' C') w'
set_option maxHeartbeats 2000000 in
theorem cnext_first (w : World) (F C : Nat->Prop) (gc gt gp k : Nat) (st : PgS) (h : PgAt w F gp st) (ht : TreeAt w (FC F C) gt gp k) (from_ : List UInt8) (no : Nat) (hc : CurAt F C w gc gt [] from_ (no : Int) 0) (hno : 0 < no) (n : NodeP) (hl : LoadR st no n) (hleaf : n.leaf=true) (i : Nat) (hi : i=(findP n from_).1) (c : CellP) (hcc : n.cells[i]?=some c) (hov : c.over=0) (hkl : c.key.length<=100000) (hvl : c.val.length<=100000) :
   Calls Tryz.prog 26 #[.pointer (some ⟨gc,0,none⟩)] w (NxEnd F C w gp st gc gt [(n,i + 1)] from_ c):=by
 have hn:=hide (next_first w F C gc gt gp k st h ht from_ no 0 hc hno n hl hleaf i hi c hcc)
 obtain ⟨wv0,fA0,fc0,hb0,_⟩:=hc.mem
 have a4 : w.cell? ⟨gc,4,none⟩=some (.int .i64 0):=hb0.cell 4
 replace h:=hide h
 replace ht:=hide ht
 replace hc:=hide hc
 replace hl:=hide hl
 replace hleaf:=hide hleaf
 replace hi:=hide hi
 replace hcc:=hide hcc
 replace hb0:=hide hb0
 go_enter Tryz.func26,Tryz.ntmps26
 go_wp2_with fail
 refine hn.out.mono ?_
 rintro e w3 ⟨F3,C3,kA,kc,vA,vc,rfl,hcv,hP3,hc3,hE3⟩
 rw [hov]
 obtain ⟨v1,v2,v3,v4⟩:=cellv_here hcv
 obtain ⟨L,hL⟩ : ∃ L,L=c.key.length:=⟨_,rfl⟩
 obtain ⟨M,hM⟩ : ∃ M,M=c.val.length:=⟨_,rfl⟩
 rw [<- hL] at v1 v3 hkl
 rw [<- hM] at v2 v4 hvl
 rw [<- hL,<- hM]
 have hE4 : Ev F3 w3 F3 (w3.alloc (.cells #[.slice kA L kc,.slice vA M vc,.int .i64 0,.int .i64 (c.long : Int)] 83)):=(Ev.refl F3 w3).alloc_ _
 have hc4:=hc3.ev hE4
 have hP4:=hP3.alloc (.cells #[.slice kA L kc,.slice vA M vc,.int .i64 0,.int .i64 (c.long : Int)] 83)
 have hbc4:=Blk.new w3 83 #[.slice kA L kc,.slice vA M vc,.int .i64 0,.int .i64 (c.long : Int)]
 obtain ⟨W4,hW4⟩ : ∃ W4,W4=w3.alloc (.cells #[.slice kA L kc,.slice vA M vc,.int .i64 0,.int .i64 (c.long : Int)] 83):=⟨_,rfl⟩
 obtain ⟨R,hR⟩ : ∃ R,R=w3.heap.size:=⟨_,rfl⟩
 rw [<- hW4] at hE4 hc4 hP4 hbc4
 rw [<- hR] at hbc4
 have h4a:=hE4.add C3
 have u3:=v3.ev h4a
 have u4:=v4.ev h4a
 obtain ⟨hc5,hE5⟩:=cur_err hc4 0
 have hRg : R ≠ gc:=fun e => by
   have h9:=hc3.lt _ hc3.own
   omega
 obtain ⟨wv4,fA4,fc4,hb4,_⟩:=hc4.mem
 have z4 : W4.cell? ⟨gc,4,none⟩=some (.int .i64 0):=hb4.cell 4
 have y4:=hb4.frozen 4
 obtain ⟨wv5,fA5,fc5,hb5,_⟩:=hc5.mem
 have hP5 : PgAt (W4.setCell ⟨gc,4,none⟩ (.int .i64 0)) F3 gp st:=hP4.set_ (p:=⟨gc,4,none⟩) (hc4.apart _ hc4.own) _
 have hbc5:=hbc4.far (p:=⟨gc,4,none⟩) hRg (.int .i64 0)
 obtain ⟨W5,hW5⟩ : ∃ W5,W5=W4.setCell ⟨gc,4,none⟩ (.int .i64 0):=⟨_,rfl⟩
 rw [<- hW5] at hc5 hE5 hb5 hP5 hbc5
 have t3:=u3.ev hE5
 have t4:=u4.ev hE5
 have b0 : W5.cell? ⟨gc,0,none⟩=some (.pointer (some ⟨gt,0,none⟩)):=hb5.cell 0
 have r0 : W5.cell? ⟨R,0,none⟩=some (.slice kA L kc):=hbc5.cell 0
 have r1 : W5.cell? ⟨R,1,none⟩=some (.slice vA M vc):=hbc5.cell 1
 have r2 : W5.cell? ⟨R,2,none⟩=some (.int .i64 0):=hbc5.cell 2
 have r3 : W5.cell? ⟨R,3,none⟩=some (.int .i64 (c.long : Int)):=hbc5.cell 3
 have hval:=hide (value_short W5.drew gt kA vA L M kc vc c.long)
 replace hL:=hide hL
 replace hM:=hide hM
 replace hcv:=hide hcv
 replace hP3:=hide hP3
 replace hc3:=hide hc3
 replace hE3:=hide hE3
 replace v3:=hide v3
 replace v4:=hide v4
 replace u3:=hide u3
 replace u4:=hide u4
 replace t3:=hide t3
 replace t4:=hide t4
 replace hE4:=hide hE4
 replace hc4:=hide hc4
 replace hP4:=hide hP4
 replace hbc4:=hide hbc4
 replace h4a:=hide h4a
 replace hc5:=hide hc5
 replace hE5:=hide hE5
 replace hb4:=hide hb4
 replace hb5:=hide hb5
 replace hP5:=hide hP5
 replace hbc5:=hide hbc5
 clear hn
 replace hW4:=hide hW4
 replace hW5:=hide hW5
 replace hR:=hide hR
 go_upto_region 6 with (fail)
 rw [<- hW4.out,<- hR.out]
 go_upto_region 9 with (fail)
 rw [<- hW5.out]
 go_region_held3 (fun w' => w'.cell? ⟨gc,0,none⟩=some (.pointer (some ⟨gt,0,none⟩))/\w'.cell? ⟨R,0,none⟩=some (.slice kA L kc)/\w'.cell? ⟨R,1,none⟩=some (.slice vA M vc)/\w'.cell? ⟨R,2,none⟩=some (.int .i64 0)/\w'.cell? ⟨R,3,none⟩=some (.int .i64 (c.long : Int))) (first | exact ⟨b0,r0,r1,r2,r3⟩ | exact hS6) (first
   | (go_at_call 47; refine hval.out.mono ?_; rintro e w6 ⟨rfl,hB6⟩; have hS6:=(show w6.cell? ⟨gc,0,none⟩=some (.pointer (some ⟨gt,0,none⟩))/\w6.cell? ⟨R,0,none⟩=some (.slice kA L kc)/\w6.cell? ⟨R,1,none⟩=some (.slice vA M vc)/\w6.cell? ⟨R,2,none⟩=some (.int .i64 0)/\w6.cell? ⟨R,3,none⟩=some (.int .i64 (c.long : Int)) from ⟨(hB6.cell (World.block_lt_of_cell? W5 _ b0)).trans b0,(hB6.cell (World.block_lt_of_cell? W5 _ r0)).trans r0,(hB6.cell (World.block_lt_of_cell? W5 _ r1)).trans r1,(hB6.cell (World.block_lt_of_cell? W5 _ r2)).trans r2,(hB6.cell (World.block_lt_of_cell? W5 _ r3)).trans r3⟩); replace hB6:=hide hB6))
 have hE6 : Ev F3 W5 F3 w6:=((Ev.refl F3 W5).drew).below hB6.out
 have hE6':=hE6.add C3
 have hc6:=hc5.out.ev hE6
 have hP6 : PgAt w6 F3 gp st:=hP5.out.drew.below hB6.out
 have hbc6 : Blk w6 R 83 #[.slice kA L kc,.slice vA M vc,.int .i64 0,.int .i64 (c.long : Int)]:=(show Blk W5.drew R 83 _ from hbc5.out).below hB6.out hbc5.out.lt
 have s3:=t3.out.ev hE6'
 have s4:=t4.out.ev hE6'
 obtain ⟨hc7,hE7⟩:=cur_err hc6 0
 obtain ⟨wv6,fA6,fc6,hb6,_⟩:=hc6.mem
 have z6 : w6.cell? ⟨gc,4,none⟩=some (.int .i64 0):=hb6.cell 4
 have y6:=hb6.frozen 4
 have hP7 : PgAt (w6.setCell ⟨gc,4,none⟩ (.int .i64 0)) F3 gp st:=hP6.set_ (p:=⟨gc,4,none⟩) (hc6.apart _ hc6.own) _
 have hbc7:=hbc6.far (p:=⟨gc,4,none⟩) hRg (.int .i64 0)
 have hev7 : Ev (FC F C) w (FC F3 C3) (w6.setCell ⟨gc,4,none⟩ (.int .i64 0)):=hE3.out.trans ((hE4.out.add C3).trans (hE5.out.trans (hE6'.trans hE7)))
 have q3:=s3.ev hE7
 have q4:=s4.ev hE7
 obtain ⟨W7,hW7⟩ : ∃ W7,W7=w6.setCell ⟨gc,4,none⟩ (.int .i64 0):=⟨_,rfl⟩
 rw [<- hW7] at hc7 hE7 hP7 hbc7 hev7 q3 q4
 have n0 : W7.cell? ⟨R,0,none⟩=some (.slice kA L kc):=hbc7.cell 0
 have rk : RB W7 W7.heap.size kA L c.key:=by have:=q3.readsM; rw [hL.out] at this ⊢; exact this
 have rv : RB W7 W7.heap.size vA M c.val:=by have:=q4.readsM; rw [hM.out] at this ⊢; exact this
 have hk1:=hide (tclone_any kA L kc c.key W7 rk (by omega))
 have hk2 : Hid (∀ w8,Below W7.heap.size W7 w8->Calls Tryz.prog 57 #[.slice vA M vc] w8 (RetB w8 c.val)):=hide fun w8 hB => tclone_any vA M vc c.val w8 ((rv.below hB).more hB.size) (by omega)
 replace hE6:=hide hE6
 replace hE6':=hide hE6'
 replace hc6:=hide hc6
 replace hP6:=hide hP6
 replace hbc6:=hide hbc6
 replace s3:=hide s3
 replace s4:=hide s4
 replace hc7:=hide hc7
 replace hE7:=hide hE7
 replace hb6:=hide hb6
 replace hP7:=hide hP7
 replace hbc7:=hide hbc7
 replace hev7:=hide hev7
 replace q3:=hide q3
 replace q4:=hide q4
 replace rk:=hide rk
 replace rv:=hide rv
 replace hW7:=hide hW7
 clear r0 r1 r2 r3 b0 z4 y4
 go_upto_region 13 with (fail)
 rw [<- hW7.out]
 go_wp2_with fail
 refine hk1.out.mono ?_
 rintro e w8 ⟨v8,rfl,hO8,hB8⟩
 obtain ⟨A8,c8,rfl,hR8,_,hl8,_⟩:=hO8.form
 have hk3:=hide (hk2.out w8 hB8)
 replace hO8:=hide hO8
 replace hR8:=hide hR8
 replace hB8:=hide hB8
 go_wp2_with fail
 refine hk3.out.mono ?_
 rintro e w9 ⟨v9,rfl,hO9,hB9⟩
 obtain ⟨A9,c9,rfl,hR9,_,hl9,_⟩:=hO9.form
 have hB79 : Below W7.heap.size W7 w9:=hB8.out.trans (hB9.mono hB8.out.size)
 have hfin : Hid (NxEnd F C w gp st gc gt [(n,i + 1)] from_ c (.returned (.tuple #[.slice A8 c.key.length c8,.slice A9 c.val.length c9,.int .i64 0])) w9):=by
   exact hide ⟨F3,C3,A8,c8,A9,c9,rfl,(hR8.out.below hB9).more hB9.size,hR9,hl8,hl9,hP7.out.below hB79,hc7.out.ev (Ev.of_below hB79),hev7.out.below hB79⟩
 replace hO9:=hide hO9
 replace hR9:=hide hR9
 replace hB9:=hide hB9
 replace hB79:=hide hB79
 go_wp2_with fail
 go_ret3
 exact hfin.out
end Go.Proofs.YtiiljlmeililbaaGreatDoor
