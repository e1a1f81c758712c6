/-
  Contract of tree.cell at a value of any length.
-/
import Derived.Test.YtiiljlmeililbaaGreatDoorBsGr23
import Derived.Test.YtiiljlmeililbaaGreatDoorBsGr5
import Derived.Test.YtiiljlmeililbaaGreatDoorBsGr22
import Derived.Test.YtiiljlmeililbaaGreatDoorBsGr25
import Derived.Test.YtiiljlmeililbaaGreatDoorBsGr21
namespace Go.Proofs.YtiiljlmeililbaaGreatDoor
set_option linter.unusedVariables false
set_option maxRecDepth 100000
open Go.RowKit
theorem run_app_bt (w : World) (base : Nat) (v : Value) (n : Nat) (l : List UInt8) (hown : OB w base v n l) (B : Nat) (A : Option Addr) (m c : Nat) (news : List UInt8) (hr : RB w B A m news) (ty : TypeId) (hlen : n + m<=1000000) (hbase : base<=w.heap.size) :
   ∃ v' w',(Builtin.append_ #[37,37] ty #[v,.slice A m c]).run Tryz.prog w=.ok v' w'/\OB w' base v' (n + m) (l ++ news)/\w.grownBy w' v.ownBlock:=by
 obtain ⟨i0,hi0,hz0,hz1,hz2⟩:=info_parts byte_info
 obtain ⟨v',w',h1,h2,h3,_⟩:=run_append_any (P:=Tryz.prog) w base 37 ty 5 i0 _ 1 1 Tryz.underlying37 hi0 hz0 hz1 hz2 rfl (by omega) v n (bv l) hown B A m c (bv news) hr (bv_one _) (by simp only [maxLen]; omega) (by omega) hbase
 rw [<- bv_append] at h2
 exact ⟨v',w',h1,h2,h3⟩
theorem wp_app_bt {op : Oper} {a : Act} {Q : Exit->Act->World->Prop} {K : Act->World->Prop} {w : World} (s x : Operand) (ho : op.op=.call { callee:=.builtin .append,args:=#[s,x],argTypes:=#[37,37] })
   (base : Nat) (v : Value) (n : Nat) (l : List UInt8) (hown : OB w base v n l) (hs : a.eval s=v) (B : Nat) (A : Option Addr) (m c : Nat) (news : List UInt8) (hx : a.eval x=.slice A m c) (hr : RB w B A m news) (hlen : n + m<=1000000) (hbase : base<=w.heap.size)
   (h : ∀ v' w',OB w' base v' (n + m) (l ++ news)->w.grownBy w' v.ownBlock->K (a.put op.dst v') w') : Oper.wp Tryz.prog op a w K Q:=by
 obtain ⟨i0,hi0,hz0,hz1,hz2⟩:=info_parts byte_info
 refine wp_append_any w s x 37 ho base 5 i0 _ 1 1 Tryz.underlying37 hi0 hz0 hz1 hz2 rfl (by omega) v n (bv l) hs hown B A m c (bv news) hx hr (bv_one _) (by simp only [maxLen]; omega) (by omega) hbase fun v' w' h1 h2 h3 => ?_
 rw [<- bv_append] at h1
 exact h v' w' h1 h2
theorem RN.one_blk {w : World} {g : Nat} {t : TypeId} {x : Nat} (h : Blk w g t #[.int .i64 (x : Int)]) : RN w w.heap.size (some ⟨g,0,none⟩) 1 [x]:=by
 refine ⟨rfl,fun _ => ⟨_,rfl,h.lt,fun j u hj => ?_⟩⟩
 rw [Addr.add_lit,Nat.zero_add,h.cell]
 simpa [encI] using hj
def CellEndG (F : Nat->Prop) (w : World) (gp : Nat) (st' : PgS) (c : CellP) (e : Ending) (w' : World) : Prop :=
 ∃ x0 x1 F',e=.returned (.tuple #[.agg #[x0,x1,.int .i64 (c.over : Int),.int .i64 (c.long : Int)],.int .i64 0])/\PgAt w' F' gp st'/\Ev F w F' w'/\CellV (byteOf F' w') w' [x0,x1,.int .i64 (c.over : Int),.int .i64 (c.long : Int)] c
def CellS (F : Nat->Prop) (w : World) (gp : Nat) (st' : PgS) (o : Nat) (b : List UInt8) (L M gA gB : Nat) (A2 : Option Addr) (c2 : Nat) (key : List UInt8) (r : Nat) (wx : World) : Prop :=
 ∃ F1 st1 o1,PgAt wx F1 gp st1/\st1.ok/\OverR st1 (piecesUp b r).reverse o1 st' o/\Ev F w F1 wx/\Blk wx gA 83 #[.slice none 0 0,.slice none 0 0,.int .i64 0,.int .i64 0]/\Blk wx gB 83 #[.slice A2 L c2,.slice none 0 0,.int .i64 (o1 : Int),.int .i64 (M : Int)]/\¬ F1 gA/\¬ F1 gB/\Rd (byteOf F1 wx) wx 1 A2 L (bv key)/\o1 < 65536
set_option maxHeartbeats 2000000 in
theorem cell_long (w : World) (F : Nat->Prop) (gt gp k : Nat) (st st' : PgS) (o : Nat) (h : PgAt w F gp st) (ht : TreeAt w F gt gp k) (ho : st.ok) (kA vA : Option Addr) (L M kc vc : Nat) (key b : List UInt8) (hk : MB F w kA L key) (hv : MB F w vA M b) (hvc : M<=vc) (hL : L<=1000000) (hM : 64 < M) (hM2 : M<=20000)
   (hov : OverR st (piecesUp b ((M + 504) / 505)).reverse 0 st' o) :
   Calls Tryz.prog 35 #[.pointer (some ⟨gt,0,none⟩),.slice kA L kc,.slice vA M vc] w (CellEndG F w gp st' ⟨key,[],o,M⟩):=by
 have hMI : ¬ (M : Int)<=64:=by omega
 have hMD : decide ((M : Int)<=64)=false:=decide_eq_false (by omega)
 have hlk : Hid (key.length=L):=hide hk.len
 have hlb : Hid (b.length=M):=hide hv.len
 obtain ⟨adv,rfl,hadvF,_⟩:=hv.2 (by omega)
 obtain ⟨Q,hQ⟩ : ∃ Q,Q=(M - 1) / 505:=⟨_,rfl⟩
 have hQK : (M + 504) / 505=Q + 1:=by omega
 rw [hQK] at hov
 have hB0:=(Below.refl w.heap.size w).alloc (Nat.le_refl _) (.cells #[.slice none 0 0,.slice none 0 0,.int .i64 0,.int .i64 0] 83)
 have hb0:=Blk.new w 83 #[.slice none 0 0,.slice none 0 0,.int .i64 0,.int .i64 0]
 have hE0 : Ev F w F (w.alloc (.cells #[.slice none 0 0,.slice none 0 0,.int .i64 0,.int .i64 0] 83)):=(Ev.refl F w).alloc_ _
 have hP0:=h.alloc (.cells #[.slice none 0 0,.slice none 0 0,.int .i64 0,.int .i64 0] 83)
 have hFlt:=h.lt
 have hcl:=hide (tclone_any kA L kc key (w.alloc (.cells #[.slice none 0 0,.slice none 0 0,.int .i64 0,.int .i64 0] 83)) ((hk.ev hE0).rb) (by omega))
 replace hk:=hide hk
 replace hv:=hide hv
 replace hB0:=hide hB0
 replace hb0:=hide hb0
 replace hE0:=hide hE0
 replace hP0:=hide hP0
 replace h:=hide h
 replace ht:=hide ht
 replace ho:=hide ho
 replace hov:=hide hov
 replace hFlt:=hide hFlt
 replace hQ:=hide hQ
 replace hQK:=hide hQK
 go_enter Tryz.func35,Tryz.ntmps35
 go_wp2_with fail
 go_at_call 57
 refine hcl.out.mono ?_
 rintro e w2 ⟨v2,rfl,hO2,hB2⟩
 rw [hlk.out] at hO2
 obtain ⟨A2,c2,rfl,hr2,_,hc2,_⟩:=hO2.form
 have hb2:=hb0.out.below hB2 (Blk.lt hb0.out)
 have hE2:=hE0.out.below hB2
 have hP2:=hP0.out.below hB2
 have hk2 : Rd (byteOf F w2) w2 1 A2 L (bv key):=by
   have:=hO2.rd5
   exact Rd.keep this fun k hk => ⟨⟨⟨Blk.lt hk.2.choose_spec,fun hf => by have h9:=hFlt.out k hf; have h8:=hk.1; simp at h8; omega⟩,hk.2⟩,rfl⟩
 replace hO2:=hide hO2
 replace hB2:=hide hB2
 replace hr2:=hide hr2
 replace hc2:=hide hc2
 have z0:=hb2.cell 0
 have z1:=hb2.cell 1
 have z2:=hb2.cell 2
 have z3:=hb2.cell 3
 replace hb2:=hide hb2
 replace hE2:=hide hE2
 replace hP2:=hide hP2
 replace hk2:=hide hk2
 go_upto_region 7 with (fail)
 obtain ⟨gA,hgA⟩ : ∃ gA,gA=w.heap.size:=⟨_,rfl⟩
 obtain ⟨gB,hgB⟩ : ∃ gB,gB=w2.heap.size:=⟨_,rfl⟩
 obtain ⟨w4,hw4⟩ : ∃ w4,w4=w2.alloc (.cells #[.slice A2 L c2,.slice none 0 0,.int .i64 0,.int .i64 (M : Int)] 83):=⟨_,rfl⟩
 rw [<- hw4,<- hgA,<- hgB]
 have hEw4 : Ev F w2 F w4:=by rw [hw4]; exact (Ev.refl F w2).alloc_ _
 have hgAB : gA ≠ gB:=by
   have h1:=hE2.out.size
   have h2:=hB2.out.size
   simp at h2
   omega
 have hst : Hid (CellS F w gp st' o b L M gA gB A2 c2 key (Q + 1) w4):=hide (by
   refine ⟨F,st,0,by rw [hw4]; exact hP2.out.alloc _,ho.out,hov.out,hE2.out.trans hEw4,?_,?_,?_,?_,hk2.out.evB hEw4,by omega⟩
   · rw [hgA,hw4]; exact hb2.out.alloc _
   · rw [hgB,hw4]; exact Blk.new w2 83 _
   · intro hf; have:=hFlt.out _ hf; omega
   · intro hf; have:=hFlt.out _ hf; have:=hE2.out.size; omega)
 have hgAw : w.heap.size<=gA:=by omega
 have hgBw : w.heap.size<=gB:=by rw [hgB]; exact hE2.out.size
 have hQM : Hid ((Q : Int) * 505 + 1<=(M : Int)):=hide (by have:=hQ.out; omega)
 replace hgA:=hide hgA
 replace hgB:=hide hgB
 replace hw4:=hide hw4
 replace hEw4:=hide hEw4
 clear z0 z1 z2 z3
 go_loopw [9] (fun v9 wx => ∃ r : Nat,v9=.int .i64 (505 * (r : Int) - 505)/\r<=Q + 1/\Hid (CellS F w gp st' o b L M gA gB A2 c2 key r wx)) (fun v9 _ => (intOf v9 + 505).toNat)
 case atStart => exact ⟨Q + 1,by congr 1; have:=hQ.out; omega,Nat.le_refl _,hst⟩
 case round =>
   obtain ⟨r,rfl,hrQ,hS⟩:=hrel
   obtain ⟨F1,st1,o1,hP1,hok1,hov1,hE1,hbA,hbB,hnA,hnB,hkb,ho1⟩:=hS.out
   have htr:=ht.out.ev hE1
   have t0 : wr.cell? ⟨gt,0,none⟩=some (.pointer (some ⟨gp,0,none⟩)):=htr.blk.cell 0
   have b0:=hbB.cell 0
   have b1:=hbB.cell 1
   have b2:=hbB.cell 2
   have b3:=hbB.cell 3
   have b2f:=hbB.frozen 2
   have a0:=hbA.cell 0
   have a1:=hbA.cell 1
   have a2:=hbA.cell 2
   have a3:=hbA.cell 3
   have a0f:=hbA.frozen 0
   have a1f:=hbA.frozen 1
   have a2f:=hbA.frozen 2
   have a3f:=hbA.frozen 3
   clear hS hst
   cases r with
   | zero =>
     have hend : Hid (st1=st'/\o1=o):=hide (by
       have e : (piecesUp b 0).reverse=[]:=rfl
       rw [e] at hov1
       cases hov1
       exact ⟨rfl,rfl⟩)
     have hfin : Hid (∀ W,Only (fun j => j=gA) wr W->CellEndG F w gp st' ⟨key,[],o,M⟩ (.returned (.tuple #[.agg #[.slice A2 L c2,.slice none 0 0,.int .i64 (o1 : Int),.int .i64 (M : Int)],.int .i64 0])) W):=hide (by
       obtain ⟨rfl,rfl⟩:=hend.out
       intro W hO
       refine ⟨.slice A2 L c2,.slice none 0 0,F1,rfl,hP1.keep (fun j hj => hO.block j (hP1.lt j hj) (fun e => hnA (by rw [<- e]; exact hj))) hO.size,⟨hE1.only.trans hO (fun i hi e => by subst e; omega),hE1.grow⟩,A2,c2,none,0,?_,?_,Nat.le_refl _,?_,by simpa [bv] using Rd.none_⟩
       · show [Value.slice A2 L c2, _, _, _] = [Value.slice A2 key.length c2, _, _, _]
         rw [hlk.out]; rfl
       · show key.length <= c2
         rw [hlk.out]; exact hc2.out
       · show Rd _ W 1 A2 key.length _
         rw [hlk.out]
         exact hkb.keep fun j hj => by
           obtain ⟨⟨h1,h2⟩,bs,h3⟩:=hj
           have h4:=hO.block j h1 (Blk.ne_ h3 hbA (by decide))
           have h5 : Blk W j 5 bs:=Eq.trans h4 h3
           exact ⟨⟨⟨h5.lt,h2⟩,bs,h5⟩,h4⟩)
     have hbf:=(((hbA.set_ 0 (.slice A2 L c2)).set_ 1 (.slice none 0 0)).set_ 2 (.int .i64 (o1 : Int))).set_ 3 (.int .i64 (M : Int))
     have hOf : Only (fun j => j=gA) wr ((((wr.setCell ⟨gA,0,none⟩ (.slice A2 L c2)).setCell ⟨gA,1,none⟩ (.slice none 0 0)).setCell ⟨gA,2,none⟩ (.int .i64 (o1 : Int))).setCell ⟨gA,3,none⟩ (.int .i64 (M : Int))) :=
       ((((Only.refl (fun j => j=gA) wr).setCell (p:=⟨gA,0,none⟩) (fun _ => rfl) _).setCell (p:=⟨gA,1,none⟩) (fun _ => rfl) _).setCell (p:=⟨gA,2,none⟩) (fun _ => rfl) _).setCell (p:=⟨gA,3,none⟩) (fun _ => rfl) _
     replace hP1:=hide hP1
     replace hok1:=hide hok1
     replace hov1:=hide hov1
     replace hE1:=hide hE1
     replace hbA:=hide hbA
     replace hbB:=hide hbB
     replace hnA:=hide hnA
     replace hnB:=hide hnB
     replace hkb:=hide hkb
     replace htr:=hide htr
     replace hbf:=hide hbf
     replace hOf:=hide hOf
     go_wp2_with fail
     refine bodyPost_ret (v:=.tuple #[.agg #[.slice A2 L c2,.slice none 0 0,.int .i64 (o1 : Int),.int .i64 (M : Int)],.int .i64 0]) ?_ rfl (hfin.out _ hOf.out)
     obtain ⟨Wf,hWf⟩ : ∃ Wf,Wf=((((wr.setCell ⟨gA,0,none⟩ (.slice A2 L c2)).setCell ⟨gA,1,none⟩ (.slice none 0 0)).setCell ⟨gA,2,none⟩ (.int .i64 (o1 : Int))).setCell ⟨gA,3,none⟩ (.int .i64 (M : Int))):=⟨_,rfl⟩
     replace hbf:=hbf.out
     rw [<- hWf] at hbf ⊢
     have j0 : Wf.cell? ⟨gA,0,none⟩=some (.slice A2 L c2):=hbf.cell 0
     have j1 : Wf.cell? ⟨gA,1,none⟩=some (.slice none 0 0):=hbf.cell 1
     have j2 : Wf.cell? ⟨gA,2,none⟩=some (.int .i64 (o1 : Int)):=hbf.cell 2
     have j3 : Wf.cell? ⟨gA,3,none⟩=some (.int .i64 (M : Int)):=hbf.cell 3
     simp [results,Tryz.results35,go_sem,j0,j1,j2,j3]
   | succ r =>
     obtain ⟨X,hX⟩ : ∃ X : Nat,X=505 * r:=⟨_,rfl⟩
     have e505 : 505 * ((r + 1 : Nat) : Int) - 505=(X : Int):=by omega
     rw [e505]
     have hXM : X < M:=by have:=hQM.out; have hrq : r<=Q:=(by omega); omega
     rw [piecesUp_succ] at hov1
     obtain ⟨PC,hPC⟩ : ∃ PC,PC=(b.drop (505 * r)).take 505:=⟨_,rfl⟩
     rw [<- hPC] at hov1
     obtain ⟨ha,hrest⟩ : CanAlloc st1/\OverR (writeS (allocS st1) (allocN st1) (leB 3 o1 ++ PC)) (piecesUp b r).reverse (allocN st1) st' o:=by
       cases hov1 with
       | cons _ _ _ _ _ _ ha hr => exact ⟨ha,hr⟩
     obtain ⟨T,hT⟩ : ∃ T,T=min (X + 505) M:=⟨_,rfl⟩
     have hTM : T<=M:=by omega
     have hXT : X < T:=by omega
     have hPL : PC.length=T - X:=by rw [hPC,List.length_take,List.length_drop,hlb.out]; omega
     have hal:=hide (alloc_any wr F1 gp st1 hP1 ha hok1.free)
     obtain ⟨hok2,hhas2⟩:=hok1.alloc ha
     obtain ⟨no,hno⟩ : ∃ no,no=allocN st1:=⟨_,rfl⟩
     obtain ⟨st2,hst2⟩ : ∃ st2,st2=allocS st1:=⟨_,rfl⟩
     unfold AllocEnd at hal
     rw [<- hno,<- hst2] at hal hrest
     rw [<- hno,<- hst2] at hhas2
     rw [<- hst2] at hok2
     replace hP1:=hide hP1
     replace hok1:=hide hok1
     replace hov1:=hide hov1
     replace hE1:=hide hE1
     replace hbA:=hide hbA
     replace hbB:=hide hbB
     replace hnA:=hide hnA
     replace hnB:=hide hnB
     replace hkb:=hide hkb
     replace htr:=hide htr
     replace hrest:=hide hrest
     replace hPL:=hide hPL
     replace hPC:=hide hPC
     replace hT:=hide hT
     replace hno:=hide hno
     replace hst2:=hide hst2
     replace hX:=hide hX
     clear a0 a1 a2 a3 a0f a1f a2f a3f
     go_wp2_with fail
     go_at_call 68
     refine hal.out.mono ?_
     rintro e w5 ⟨rfl,F5,hP5,hE5⟩
     have hbA5:=hE5.blk hbA.out hnA.out
     have hbB5:=hE5.blk hbB.out hnB.out
     have hnA5:=hE5.new hnA.out (Blk.lt hbA.out)
     have hnB5:=hE5.new hnB.out (Blk.lt hbB.out)
     have hk5:=hkb.out.evB hE5
     have ht5:=htr.out.ev hE5
     have hEw5:=hE1.out.trans hE5
     have hv5:=hv.out.ev hEw5
     have t5 : w5.cell? ⟨gt,0,none⟩=some (.pointer (some ⟨gp,0,none⟩)):=ht5.blk.cell 0
     have c2' : w5.cell? ⟨gB,2,none⟩=some (.int .i64 (o1 : Int)):=hbB5.cell 2
     replace hP5:=hide hP5
     replace hE5:=hide hE5
     replace hbA5:=hide hbA5
     replace hbB5:=hide hbB5
     replace hnA5:=hide hnA5
     replace hnB5:=hide hnB5
     replace hk5:=hide hk5
     replace ht5:=hide ht5
     replace hEw5:=hide hEw5
     replace hv5:=hide hv5
     clear t0 b0 b1 b2 b3 b2f
     go_upto_region 12 with (fail)
     have hkp : Hid (∀ W,Below w5.heap.size w5 W->W.cell? ⟨gt,0,none⟩=some (.pointer (some ⟨gp,0,none⟩))/\W.cell? ⟨gB,2,none⟩=some (.int .i64 (o1 : Int))):=hide fun W hB => ⟨(hB.cell (World.block_lt_of_cell? w5 _ t5)).trans t5,(hB.cell (World.block_lt_of_cell? w5 _ c2')).trans c2'⟩
     have hkq : Hid (∀ W F',Ev F5 w5 F' W->W.cell? ⟨gt,0,none⟩=some (.pointer (some ⟨gp,0,none⟩))/\W.cell? ⟨gB,2,none⟩=some (.int .i64 (o1 : Int))):=hide fun W F' hE => ⟨(ht5.out.ev hE).blk.cell 0,(hE.blk hbB5.out hnB5.out).cell 2⟩
     have hwp : Hid (∀ W g,Below w5.heap.size w5 W->Blk W g 3 #[.int .i64 (o1 : Int)]->Calls Tryz.prog 70 #[.slice none 0 0,.int .i64 3,.slice (some ⟨g,0,none⟩) 1 1] W fun e ww => ∃ P pc,e=.returned (.slice P 3 pc)/\OB ww w5.heap.size (.slice P 3 pc) 3 (leB 3 o1)/\Below w5.heap.size w5 ww):=hide (by
       intro W g hB hb
       refine (wput_any W none (some ⟨g,0,none⟩) 0 0 1 1 3 [] [o1] (RB.nil _ _) (RN.one_blk hb) (by omega) (by omega) (by omega) (by omega) (fun x hx => by rw [List.mem_singleton.1 hx]; omega)).mono ?_
       rintro e ww ⟨v,rfl,hO,hB2⟩
       have e1 : leBs 3 [o1]=leB 3 o1:=by simp [leBs]
       rw [List.nil_append,e1,leB_len] at hO
       obtain ⟨P,pc,rfl,_⟩:=hO.form
       exact ⟨P,pc,rfl,own_moreB hO hB.size,hB.trans (hB2.mono hB.size)⟩)
     have hrb : Hid (∀ W,Below w5.heap.size w5 W->RB W W.heap.size (some (adv.add X)) (T - X) PC):=hide (by
       intro W hB
       have h1:=((hv5.out.ev (Ev.of_below hB)).cut (k:=X) (cap:=vc) (by omega) hvc).take (k:=T - X) (by omega)
       rw [if_neg (by omega)] at h1
       have e1 : (b.drop X).take (T - X)=PC:=by
         rw [hPC.out,<- hX.out,hT.out]
         have:=hlb.out
         by_cases h9 : X + 505<=M
         · rw [Nat.min_eq_left h9,Nat.add_sub_cancel_left]
         · rw [Nat.min_eq_right (by omega),List.take_of_length_le (by rw [List.length_drop]; omega),List.take_of_length_le (by rw [List.length_drop]; omega)]
       rw [e1] at h1
       exact h1.rb)
     have hwr : Hid (∀ W A n c,n=3 + (T - X)->Below w5.heap.size w5 W->RB W W.heap.size A n (leB 3 o1 ++ PC)->Calls Tryz.prog 69 #[.pointer (some ⟨gp,0,none⟩),.int .i64 (no : Int),.slice A n c] W (PgEnd F5 W gp (writeS st2 no (leB 3 o1 ++ PC)) (.int .i64 0))):=hide (by
       intro W A n c hn hB hr
       exact write_any W F5 gp st2 (hP5.out.below hB) no hhas2 A n c _ hr (by have:=hT.out; omega))
     have hTI : min ((X : Int) + 505) (M : Int)=(T : Int):=by have:=hT.out; omega
     have hXTI : (X : Int)<=(T : Int):=by omega
     have hTc : (T : Int)<=(vc : Int):=by omega
     have hvX : ¬ vc=X:=by omega
     have hXw : IntKind.i64.wrap ((X : Int) + 505)=(X : Int) + 505:=IntWalk.i64_in _ (by omega)
     go_cut [12] (fun v12 wx => v12=.int .i64 0/\Hid (∃ F6,PgAt wx F6 gp (writeS st2 no (leB 3 o1 ++ PC))/\Ev F5 w5 F6 wx))
     case first =>
       go_region_held3 (fun w' => w'.cell? ⟨gt,0,none⟩=some (.pointer (some ⟨gp,0,none⟩))/\w'.cell? ⟨gB,2,none⟩=some (.int .i64 (o1 : Int))) (first | exact ⟨t5,c2'⟩ | exact hkq.out _ _ hE57.out | exact hkp.out _ (by first | (with_reducible exact (Below.refl _ w5).drew) | (with_reducible exact Below.refl _ w5) | (with_reducible exact (Below.refl _ w5).alloc (Nat.le_refl _) _) | (with_reducible exact ((Below.refl _ w5).alloc (Nat.le_refl _) _).drew) | (with_reducible exact hbW.out) | (with_reducible exact hbW.out.drew) | (with_reducible exact hb6.out) | (with_reducible exact hb6.out.drew)) | go_keep) (first
         | (go_at_call 70; (with_reducible refine (hwp.out _ _ (by first | (with_reducible exact (Below.refl _ w5).drew) | (with_reducible exact Below.refl _ w5) | (with_reducible exact (Below.refl _ w5).alloc (Nat.le_refl _) _) | (with_reducible exact ((Below.refl _ w5).alloc (Nat.le_refl _) _).drew) | (with_reducible exact hbW.out) | (with_reducible exact hbW.out.drew) | (with_reducible exact hb6.out) | (with_reducible exact hb6.out.drew)) (by first | (with_reducible exact Blk.new _ _ _) | (with_reducible exact (Blk.new _ _ _).drew))).mono ?_); rintro e ww ⟨P,pc,rfl,hOw,hBw⟩; have hbW:=hide hBw; replace hOw:=hide hOw; clear hBw)
         | (rw [if_pos (by rfl)]; refine wp_app_bt (.tmp 55) (.tmp 63) rfl w5.heap.size (.slice P 3 pc) 3 (leB 3 o1) hOw.out rfl ww.heap.size (some (adv.add X)) (T - X) (vc - X) PC rfl (hrb.out _ (by first | (with_reducible exact (Below.refl _ w5).drew) | (with_reducible exact Below.refl _ w5) | (with_reducible exact (Below.refl _ w5).alloc (Nat.le_refl _) _) | (with_reducible exact ((Below.refl _ w5).alloc (Nat.le_refl _) _).drew) | (with_reducible exact hbW.out) | (with_reducible exact hbW.out.drew) | (with_reducible exact hb6.out) | (with_reducible exact hb6.out.drew))) (by omega) (by first | exact hbW.out.size | exact hbW.out.drew.size) ?_; intro v6 w6 hO6 hg6; have hb6 : Hid (Below w5.heap.size w5 w6):=hide (hbW.out.trans ((Below.refl w5.heap.size ww).grown hg6 hbW.out.size (fun j hj => (own_lt hOw.out hj).1))); (obtain ⟨P6,p6,rfl,hr6,_⟩:=hO6.form); replace hr6:=hide hr6; clear hO6 hg6)
         | (go_at_call 69; (with_reducible refine (hwr.out _ _ _ _ rfl hb6.out hr6.out).mono ?_); rintro e w7 ⟨rfl,F7,hP7,hE7⟩; have hE57:=hide ((Ev.of_below (F:=F5) hb6.out).trans hE7); replace hP7:=hide hP7; clear hE7))
       all_goals
         go_wp2_with fail
         go_meet
         case rel => exact ⟨rfl,hide ⟨F7,hP7.out,hE57.out⟩⟩
     case rest =>
       obtain ⟨rfl,hG7⟩:=hcut
       obtain ⟨F7,hP7,hE7⟩:=hG7.out
       have hb7:=hE7.blk hbB5.out hnB5.out
       have hrel : Hid (CellS F w gp st' o b L M gA gB A2 c2 key r (wc.setCell ⟨gB,2,none⟩ (.int .i64 (no : Int)))):=hide (by
         have hOg : Only (fun j => j=gB) wc (wc.setCell ⟨gB,2,none⟩ (.int .i64 (no : Int))):=(Only.refl (fun j => j=gB) wc).setCell (p:=⟨gB,2,none⟩) (fun _ => rfl) _
         have hnB7:=hE7.new hnB5.out (Blk.lt hbB5.out)
         have hE8 : Ev F w F7 (wc.setCell ⟨gB,2,none⟩ (.int .i64 (no : Int))):=by
           have h9:=hEw5.out.trans hE7
           exact ⟨h9.only.trans hOg (fun i hi e => by subst e; omega),h9.grow⟩
         refine ⟨F7,writeS st2 no (leB 3 o1 ++ PC),no,hP7.set_ hnB7 _,?_,hrest.out,hE8,hOg.blk (hE7.blk hbA5.out hnA5.out) hgAB,hb7.set_ 2 _,hE7.new hnA5.out (Blk.lt hbA5.out),hnB7,?_,?_⟩
         · exact hok2.write no _ (by have:=hPL.out; have:=hT.out; rw [List.length_append,leB_len]; omega)
         · exact (hk5.out.evB hE7).keep fun j hj => by
             obtain ⟨⟨h1,h2⟩,bs,h3⟩:=hj
             have h4:=hOg.block j h1 (Blk.ne_ h3 hb7 (by decide))
             have h5 : Blk _ j 5 bs:=Eq.trans h4 h3
             exact ⟨⟨⟨h5.lt,h2⟩,bs,h5⟩,h4⟩
         · have:=hhas2.2; have:=hok2.most; omega)
       have z2:=hb7.cell 2
       have z2f:=hb7.frozen 2
       have hXw2 : IntKind.i64.wrap ((X : Int) - 505)=(X : Int) - 505:=IntWalk.i64_in _ (by omega)
       replace hP7:=hide hP7
       replace hE7:=hide hE7
       replace hb7:=hide hb7
       clear hG7 hkp hkq hwp hrb hwr hXw
       go_wp2_with fail
       go_roundw
       case rel => exact ⟨r,by congr 1; have:=hX.out; omega,by omega,hrel⟩
       case measure => simp only [intOf]; omega
theorem cell_any (w : World) (F : Nat->Prop) (gt gp k : Nat) (st st1 : PgS) (c : CellP) (h : PgAt w F gp st) (ht : TreeAt w F gt gp k) (ho : st.ok) (kA vA : Option Addr) (L M kc vc : Nat) (key b : List UInt8) (hk : MB F w kA L key) (hv : MB F w vA M b) (hvc : M<=vc) (hL : L<=1000000) (hM : M<=20000)
   (hcr : CellR st key b st1 c) : Calls Tryz.prog 35 #[.pointer (some ⟨gt,0,none⟩),.slice kA L kc,.slice vA M vc] w (CellEndG F w gp st1 c):=by
 rcases hcr with ⟨hs,rfl,rfl⟩ | ⟨hl,o,hov,rfl⟩
 · refine (cell_short w gt kA vA L M kc vc key b hk.rb hv.rb hL (by have := hv.len; omega)).mono ?_
   rintro e w' ⟨x0,x1,rfl,hcv,hB⟩
   exact ⟨x0,x1,F,rfl,h.below hB,Ev.of_below hB,hcv.mono fun j hj => ⟨⟨Blk.lt hj.2.choose_spec,fun hf => by have:=h.lt j hf; have:=hj.1; omega⟩,hj.2⟩⟩
 · obtain rfl := hv.len
   exact cell_long w F gt gp k st st1 o h ht ho kA vA L _ kc vc key b hk hv hvc hL hl hM hov
def OpEndU (F : Nat->Prop) (w : World) (gp gn B0 : Nat) (st1 : PgS) (n1 : NodeP) (e : Ending) (w' : World) : Prop :=
 e=.returned (.int .i64 0)/\∃ F' B cv kv,PgAt w' F' gp st1/\Only (fun k => F k \/ B0<=k) w w'/\(∀ k,F' k->F k \/ w.heap.size<=k)/\NodeU F' w' B cv kv n1/\Blk w' gn 89 #[.bool n1.leaf,cv,kv]
theorem OpEnd.toU {F : Nat->Prop} {w : World} {gp gn B0 : Nat} {st1 : PgS} {n1 : NodeP} {e : Ending} {w' : World} (h : OpEnd F w gp gn B0 st1 n1 e w') : OpEndU F w gp gn B0 st1 n1 e w':=by
 obtain ⟨he,F',B,cv,kv,h1,h2,h3,h4,h5⟩:=h
 exact ⟨he,F',B,cv,kv,h1,h2,h3,h4.toU,h5⟩
def OpG (f : FuncId) (caps : Array Value) (op : OpR) (w : World) (F : Nat->Prop) (gp : Nat) (st : PgS) : Prop :=
 ∀ n i is st1 n1, op st n i is st1 n1 -> (is = false -> i <= n.cells.length) -> RightP n -> ∀ w1 F1 gn B B0 cv kv, PgAt w1 F1 gp st -> Ev F w F1 w1 -> NodeW F1 w1 B cv kv n -> Blk w1 gn 89 #[.bool n.leaf, cv, kv] -> ¬ F1 gn -> w.heap.size <= B0 -> B0 <= gn -> B0 <= B -> B <= w1.heap.size ->
   Calls Tryz.prog f (#[.pointer (some ⟨gn,0,none⟩),.int .i64 (i : Int),.bool is] ++ caps) w1 (OpEndU F1 w1 gp gn B0 st1 n1)
theorem OpG.ev {f : FuncId} {caps : Array Value} {op : OpR} {w w' : World} {F F' : Nat->Prop} {gp : Nat} {st : PgS} (h : OpG f caps op w F gp st) (he : Ev F w F' w') : OpG f caps op w' F' gp st :=
 fun n i is st1 n1 ho hi hr w1 F1 gn B B0 cv kv hP hE hW hb hn h0 h1 h2 h3 => h n i is st1 n1 ho hi hr w1 F1 gn B B0 cv kv hP (he.trans hE) hW hb hn (Nat.le_trans he.size h0) h1 h2 h3
theorem findP_lo (n : NodeP) (key : List UInt8) (h : (findP n key).2=false) : (findP n key).1<=n.cells.length:=by
 unfold findP at h ⊢
 by_cases h9 : keyAt n.cells (findI n.cells key) key=true
 · rw [if_pos h9] at h; cases h
 · rw [if_neg h9]
   exact List.Sublist.length_le (List.takeWhile_sublist _)
set_option maxHeartbeats 2000000 in
theorem change_leafG (w : World) (F : Nat->Prop) (gt gp k : Nat) (st : PgS) (h : PgAt w F gp st) (ht : TreeAt w F gt gp k) (no : Nat) (n : NodeP) (hl : LoadR st no n) (hleaf : n.leaf=true) (kA : Option Addr) (kc : Nat) (key : List UInt8) (hk : MB F w kA key.length key)
   (f : FuncId) (caps : Array Value) (op : OpR) (st1 st2 : PgS) (n1 : NodeP) (l : Option (List UInt8 × Nat)) (hfn : ∀ args wx,(callFunc f args).run Tryz.prog wx=.ok (.enter f args) wx) (hop : OpG f caps op w F gp st) (hor : op st n (findP n key).1 (findP n key).2 st1 n1) (hok1 : st1.ok) (hlay : LayR st1 no n1 st2 l) :
   Calls Tryz.prog 38 #[.pointer (some ⟨gt,0,none⟩),.int .i64 (no : Int),.slice kA key.length kc,.func (.func f) #[] caps] w (LayEnd F w gp no st2 l):=by
 have hrt:=hl.2.1
 have hld:=hide (load_any w F gt gp k st h ht no n hl hleaf)
 have hgt:=Blk.lt ht.blk
 have hrise:=hl.2.1.rise
 have hmany:=hl.2.1.many
 obtain ⟨L,hL⟩ : ∃ L,L=key.length:=⟨_,rfl⟩
 rw [<- hL] at hk ⊢
 replace h:=hide h
 replace ht:=hide ht
 replace hl:=hide hl
 replace hk:=hide hk
 replace hop : Hid _:=hide hop
 replace hlay:=hide hlay
 replace hor : Hid _:=hide hor
 replace hok1:=hide hok1
 replace hfn : Hid _:=hide hfn
 replace hrt:=hide hrt
 replace hL:=hide hL
 replace hrise:=hide hrise
 replace hmany:=hide hmany
 obtain ⟨lf,hlf⟩ : ∃ lf,lf=n.leaf:=⟨_,rfl⟩
 have hlt : lf=true:=hlf.trans hleaf
 subst hlt
 replace hlf:=hide hlf
 replace hleaf:=hide hleaf
 go_enter Tryz.func38,Tryz.ntmps38
 go_wp2_with fail
 go_at_call 45
 refine hld.out.mono ?_
 rintro e w1 ⟨F1,cv,kv,B0,rfl,hP1,hE1,hF1,hwB,hO1⟩
 rw [<- hlf.out]
 have hO1':=hO1.moreB (Nat.min_le_left B0 w1.heap.size)
 obtain ⟨Bm,hBm⟩ : ∃ Bm,Bm=min B0 w1.heap.size:=⟨_,rfl⟩
 rw [<- hBm] at hO1'
 have hFm : ∀ j,F1 j->j < Bm:=fun j hj => by have:=hF1 j hj; have:=hP1.lt j hj; omega
 have hwm : w.heap.size<=Bm:=by have:=hE1.size; omega
 have hms : Bm<=w1.heap.size:=by omega
 have hW1:=hO1'.toW hFm
 obtain ⟨A1,c1,rfl⟩:=own_form hW1.kids
 obtain ⟨A2,c2,rfl⟩:=own_form hW1.rows.choose_spec.2.1
 obtain ⟨N,hN⟩ : ∃ N,N=n.cells.length:=⟨_,rfl⟩
 obtain ⟨K,hK⟩ : ∃ K,K=n.kids.length:=⟨_,rfl⟩
 rw [<- hN,<- hK] at hW1 ⊢
 replace hN:=hide hN
 replace hK:=hide hK
 replace hO1:=hide hO1
 replace hO1':=hide hO1'
 replace hF1:=hide hF1
 replace hFm:=hide hFm
 replace hBm:=hide hBm
 replace hP1:=hide hP1
 replace hE1:=hide hE1
 replace hW1:=hide hW1
 go_wp2_with fail
 have hnF1 : ¬ F1 w1.heap.size:=fun hf => by have:=hP1.out.lt _ hf; omega
 have hbn:=Blk.new w1 89 #[.bool true,.slice A2 N c2,.slice A1 K c1]
 have hE1a : Ev F w F1 (w1.alloc (.cells #[.bool true,.slice A2 N c2,.slice A1 K c1] 89)):=hE1.out.alloc_ _
 have hfd:=hide (find_any (w1.alloc (.cells #[.bool true,.slice A2 N c2,.slice A1 K c1] 89)) (.agg #[.bool true,.slice A2 N c2,.slice A1 K c1]) n (by
   have h9:=(hW1.out.nodeM.ev ((Ev.refl F1 w1).alloc_ (.cells #[.bool true,.slice A2 N c2,.slice A1 K c1] 89))).old fun k hk => hk.1
   rw [<- hlf.out] at h9
   exact h9) hrise.out (by have:=hmany.out; omega) kA kc key (by have h9:=(hk.out.ev hE1a).rb; rw [hL.out] at h9; exact h9))
 rw [<- hL.out] at hfd
 obtain ⟨I,hI⟩ : ∃ I,I=(findP n key).1:=⟨_,rfl⟩
 obtain ⟨S,hS⟩ : ∃ S,S=(findP n key).2:=⟨_,rfl⟩
 rw [<- hI,<- hS] at hfd hor
 replace hI:=hide hI
 replace hS:=hide hS
 go_at_call 46
 refine hfd.out.mono ?_
 rintro e w2 ⟨rfl,hB2⟩
 have hb2:=hbn.below hB2 (by simp)
 have hP2:=(hP1.out.alloc (.cells #[.bool true,.slice A2 N c2,.slice A1 K c1] 89)).below hB2
 have hE2:=hE1a.below hB2
 have hW2 : NodeW F1 w2 Bm (.slice A2 N c2) (.slice A1 K c1) n:=hW1.out.only (((Only.refl (fun _ => False) w1).alloc _).trans (Only.of_below hB2) (fun _ _ h => h)) (fun _ h => h.elim)
 have hs2:=hE2.size
 have hop2:=hide (hop.out n I S st1 n1 hor.out (fun e => by rw [hI.out]; exact findP_lo n key (by rw [<- hS.out]; exact e)) hrt.out w2 F1 w1.heap.size Bm w.heap.size (.slice A2 N c2) (.slice A1 K c1) hP2 hE2 hW2 (by rw [<- hlf.out]; exact hb2) hnF1 (Nat.le_refl _) hE1.out.size hwm (by have:=hB2.size; simp at this; omega))
 have hfn2:=fun args => hfn.out args w2
 have d0:=hb2.cell 0
 have d1:=hb2.cell 1
 have d2:=hb2.cell 2
 replace hb2:=hide hb2
 replace hbn:=hide hbn
 replace hB2:=hide hB2
 replace hP2:=hide hP2
 replace hE1a:=hide hE1a
 replace hE2:=hide hE2
 replace hW2:=hide hW2
 replace hnF1:=hide hnF1
 go_wp2_with fail
 refine hop2.out.mono ?_
 rintro e w3 ⟨rfl,F3,B3,cv3,kv3,hP3,hO3,hG3,hW3,hb3⟩
 have hE3 : Ev F w F3 w3:=⟨hE2.out.only.trans hO3 fun i hi hT => by
     rcases hT with hT | hT
     · rcases hE2.out.grow i hT with h9 | h9
       · exact h9
       · omega
     · omega,fun j hj => by
     rcases hG3 j hj with h9 | h9
     · exact hE2.out.grow j h9
     · exact .inr (by omega)⟩
 have hly:=hide (lay_any w3 F3 gt gp k st1 st2 hP3 (ht.out.ev hE3) hok1.out no n1 l _ hW3.nodeM hW3.keysIn hlay.out)
 clear hfn2
 obtain ⟨A3,c3,rfl⟩:=own_form hW3.rows.choose_spec.2.1
 obtain ⟨A4,c4,rfl⟩:=own_form hW3.kids
 obtain ⟨N3,hN3⟩ : ∃ N3,N3=n1.cells.length:=⟨_,rfl⟩
 obtain ⟨K3,hK3⟩ : ∃ K3,K3=n1.kids.length:=⟨_,rfl⟩
 obtain ⟨lf3,hlf3⟩ : ∃ lf3,lf3=n1.leaf:=⟨_,rfl⟩
 rw [<- hN3,<- hK3,<- hlf3] at hly hb3
 have q0:=hb3.cell 0
 have q1:=hb3.cell 1
 have q2:=hb3.cell 2
 have hs3:=hE3.size
 replace hN3:=hide hN3
 replace hK3:=hide hK3
 replace hlf3:=hide hlf3
 replace hb3:=hide hb3
 replace hP3:=hide hP3
 replace hO3:=hide hO3
 replace hG3:=hide hG3
 replace hW3:=hide hW3
 replace hE3:=hide hE3
 go_wp2_with fail
 go_at_call 73
 refine hly.out.mono ?_
 rintro e w4 ⟨F4,gl,m,rfl,hP4,hE4,hgl,hnl,hpc⟩
 have hdone : Hid (LayEnd F w gp no st2 l (.returned (.tuple #[.slice (some ⟨gl,0,none⟩) m m,.int .i64 0])) w4):=hide ⟨F4,gl,m,rfl,hP4,hE3.out.trans hE4,by omega,hnl,hpc⟩
 replace hP4:=hide hP4
 replace hE4:=hide hE4
 replace hpc : Hid _:=hide hpc
 go_wp2_with fail
 go_ret2
 exact hdone.out
set_option maxHeartbeats 2000000 in
theorem change_one (w : World) (F : Nat->Prop) (gt gp k : Nat) (st : PgS) (h : PgAt w F gp st) (ht : TreeAt w F gt gp k) (no : Nat) (n : NodeP) (hl : LoadR st no n) (hleaf : n.leaf=false) (kA : Option Addr) (kc : Nat) (key : List UInt8) (hk : MB F w kA key.length key)
   (hi : (findP n key).1 < n.kids.length) (f : FuncId) (caps : Array Value) (st1 st2 st3 : PgS) (n2 : NodeP) (l : Option (List UInt8 × Nat)) (hrec : ∀ w1 F1,PgAt w1 F1 gp st->TreeAt w1 F1 gt gp k->Ev F w F1 w1->MB F1 w1 kA key.length key->Calls Tryz.prog 38 #[.pointer (some ⟨gt,0,none⟩),.int .i64 (kidAt n (findP n key).1 : Int),.slice kA key.length kc,.func (.func f) #[] caps] w1 (LayEnd F1 w1 gp (kidAt n (findP n key).1) st1 none))
   (hok1 : st1.ok) (hok2 : st2.ok) (hmd : MendR st1 n (findP n key).1 st2 n2) (hlay : LayR st2 no n2 st3 l) :
   Calls Tryz.prog 38 #[.pointer (some ⟨gt,0,none⟩),.int .i64 (no : Int),.slice kA key.length kc,.func (.func f) #[] caps] w (LayEnd F w gp no st3 l):=by
 have hrt:=hl.2.1
 have hld:=hide (load_gen w F gt gp k st h ht no n hl)
 have hgt:=Blk.lt ht.blk
 have hrise:=hl.2.1.rise
 have hmany:=hl.2.1.many
 obtain ⟨L,hL⟩ : ∃ L,L=key.length:=⟨_,rfl⟩
 rw [<- hL] at hk hrec ⊢
 replace h:=hide h
 replace ht:=hide ht
 replace hl:=hide hl
 replace hk:=hide hk
 replace hrec : Hid _:=hide hrec
 replace hmd:=hide hmd
 replace hi:=hide hi
 replace hlay:=hide hlay
 replace hok1:=hide hok1
 replace hok2:=hide hok2
 replace hrt:=hide hrt
 replace hL:=hide hL
 replace hrise:=hide hrise
 replace hmany:=hide hmany
 obtain ⟨lf,hlf⟩ : ∃ lf,lf=n.leaf:=⟨_,rfl⟩
 have hlt : lf=false:=hlf.trans hleaf
 subst hlt
 replace hlf:=hide hlf
 replace hleaf:=hide hleaf
 go_enter Tryz.func38,Tryz.ntmps38
 go_wp2_with fail
 go_at_call 45
 refine hld.out.mono ?_
 rintro e w1 ⟨F1,cv,kv,B0,rfl,hP1,hE1,hF1,hwB,hO1⟩
 rw [<- hlf.out]
 have hO1':=hO1.moreB (Nat.min_le_left B0 w1.heap.size)
 obtain ⟨Bm,hBm⟩ : ∃ Bm,Bm=min B0 w1.heap.size:=⟨_,rfl⟩
 rw [<- hBm] at hO1'
 have hFm : ∀ j,F1 j->j < Bm:=fun j hj => by have:=hF1 j hj; have:=hP1.lt j hj; omega
 have hwm : w.heap.size<=Bm:=by have:=hE1.size; omega
 have hms : Bm<=w1.heap.size:=by omega
 have hW1:=hO1'.toW hFm
 obtain ⟨gk,c1,rfl,hck,_,_,hgk⟩:=hW1.toU.kid_form (Nat.lt_of_le_of_lt (Nat.zero_le _) hi.out)
 obtain ⟨A2,c2,rfl⟩:=own_form hW1.rows.choose_spec.2.1
 obtain ⟨N,hN⟩ : ∃ N,N=n.cells.length:=⟨_,rfl⟩
 obtain ⟨K,hK⟩ : ∃ K,K=n.kids.length:=⟨_,rfl⟩
 rw [<- hN,<- hK] at hW1 ⊢
 rw [<- hK] at hi hck
 replace hN:=hide hN
 replace hK:=hide hK
 replace hO1:=hide hO1
 replace hO1':=hide hO1'
 replace hF1:=hide hF1
 replace hFm:=hide hFm
 replace hBm:=hide hBm
 replace hP1:=hide hP1
 replace hE1:=hide hE1
 replace hW1:=hide hW1
 go_wp2_with fail
 have hnF1 : ¬ F1 w1.heap.size:=fun hf => by have:=hP1.out.lt _ hf; omega
 have hbn:=Blk.new w1 89 #[.bool false,.slice A2 N c2,.slice (some ⟨gk,0,none⟩) K c1]
 have hE1a : Ev F w F1 (w1.alloc (.cells #[.bool false,.slice A2 N c2,.slice (some ⟨gk,0,none⟩) K c1] 89)):=hE1.out.alloc_ _
 have hfd:=hide (find_any (w1.alloc (.cells #[.bool false,.slice A2 N c2,.slice (some ⟨gk,0,none⟩) K c1] 89)) (.agg #[.bool false,.slice A2 N c2,.slice (some ⟨gk,0,none⟩) K c1]) n (by
   have h9:=(hW1.out.nodeM.ev ((Ev.refl F1 w1).alloc_ (.cells #[.bool false,.slice A2 N c2,.slice (some ⟨gk,0,none⟩) K c1] 89))).old fun k hk => hk.1
   rw [<- hlf.out] at h9
   exact h9) hrise.out (by have:=hmany.out; omega) kA kc key (by have h9:=(hk.out.ev hE1a).rb; rw [hL.out] at h9; exact h9))
 rw [<- hL.out] at hfd
 obtain ⟨I,hI⟩ : ∃ I,I=(findP n key).1:=⟨_,rfl⟩
 obtain ⟨S,hS⟩ : ∃ S,S=(findP n key).2:=⟨_,rfl⟩
 rw [<- hI,<- hS] at hfd
 rw [<- hI] at hrec hmd hi
 replace hI:=hide hI
 replace hS:=hide hS
 go_at_call 46
 refine hfd.out.mono ?_
 rintro e w2 ⟨rfl,hB2⟩
 have hb2:=hbn.below hB2 (by simp)
 have hP2:=(hP1.out.alloc (.cells #[.bool false,.slice A2 N c2,.slice (some ⟨gk,0,none⟩) K c1] 89)).below hB2
 have hE2:=hE1a.below hB2
 have hW2 : NodeW F1 w2 Bm (.slice A2 N c2) (.slice (some ⟨gk,0,none⟩) K c1) n:=hW1.out.only (((Only.refl (fun _ => False) w1).alloc _).trans (Only.of_below hB2) (fun _ _ h => h)) (fun _ h => h.elim)
 have hs2:=hE2.size
 have k2:=hW2.toU.kid_at I (by rw [<- hK.out]; exact hi.out)
 obtain ⟨kid,hkid⟩ : ∃ kid,kid=kidAt n I:=⟨_,rfl⟩
 rw [<- hkid] at k2 hrec
 have hrc:=hide (hrec.out w2 F1 hP2 (ht.out.ev hE2) hE2 (hk.out.ev hE2))
 have hiI : (I : Int) < (K : Int):=by have:=hi.out; omega
 have hi0 : (0 : Int)<=(I : Int):=by omega
 replace hck:=hide hck
 replace hkid:=hide hkid
 have d0:=hb2.cell 0
 have d1:=hb2.cell 1
 have d2:=hb2.cell 2
 replace hb2:=hide hb2
 replace hbn:=hide hbn
 replace hB2:=hide hB2
 replace hP2:=hide hP2
 replace hE1a:=hide hE1a
 replace hE2:=hide hE2
 replace hW2:=hide hW2
 replace hnF1:=hide hnF1
 go_wp2_with fail
 go_at_call 38
 refine hrc.out.mono ?_
 rintro e w3 ⟨F3,gl,m,rfl,hP3,hE3,hgl,hnl,hpc⟩
 obtain ⟨rfl,hbl⟩:=hpc
 have hU3:=hW2.out.toU.ev hE3
 have hb3 : Blk w3 w1.heap.size 89 #[.bool false,.slice A2 N c2,.slice (some ⟨gk,0,none⟩) K c1]:=hE3.only.blk hb2.out hnF1.out
 replace hb3:=hide hb3
 replace hbl:=hide hbl
 replace hU3:=hide hU3
 replace hP3:=hide hP3
 replace hE3:=hide hE3
 go_wp2_with fail
 go_loopw [67] (fun v67 wx => v67=.int .i64 0/\wx=w3) (fun _ _ => 0)
 case atStart => exact ⟨rfl,rfl⟩
 case round =>
   obtain ⟨rfl,hwr⟩:=hrel
   subst hwr
   have hE23:=hE2.out.trans hE3.out
   have hnF3 : ¬ F3 w1.heap.size:=hE3.out.new hnF1.out hb2.out.lt
   have hmn:=hide (mend_any wr F3 gt gp k st1 st2 hP3.out (ht.out.ev hE23) hok1.out w1.heap.size Bm _ _ n n2 hU3.out (by rw [<- hlf.out]; exact hb3.out) hnF3 I (by have:=hrt.out.many; have:=hrt.out.kidsIn hleaf.out; omega) (by have:=hmany.out; omega) hmd.out)
   go_wp2_with fail
   go_at_call 75
   refine hmn.out.mono ?_
   rintro e w4 ⟨rfl,F4,B4,cv4,kv4,hP4,hO4,hG4,hU4,hb4,hnF4⟩
   have hs3:=hE23.size
   have hgn4:=hE1.out.size
   have hE4 : Ev F w F4 w4:=⟨hE23.only.trans hO4 fun i hi hT => by
       rcases hT with hT | hT
       · rcases hE23.grow i hT with h9 | h9
         · exact h9
         · omega
       · omega,fun j hj => by
       rcases hG4 j hj with h9 | h9
       · exact hE23.grow j h9
       · exact .inr (by omega)⟩
   have hly:=hide (lay_any w4 F4 gt gp k st2 st3 hP4 (ht.out.ev hE4) hok2.out no n2 l _ hU4.nodeM hU4.keysIn hlay.out)
   obtain ⟨A3,c3,rfl⟩:=own_form hU4.rows.choose_spec.2.1
   obtain ⟨A4,c4,rfl⟩:=own_form hU4.kids
   obtain ⟨N3,hN3⟩ : ∃ N3,N3=n2.cells.length:=⟨_,rfl⟩
   obtain ⟨K3,hK3⟩ : ∃ K3,K3=n2.kids.length:=⟨_,rfl⟩
   obtain ⟨lf3,hlf3⟩ : ∃ lf3,lf3=n2.leaf:=⟨_,rfl⟩
   rw [<- hN3,<- hK3,<- hlf3] at hly hb4
   have q0:=hb4.cell 0
   have q1:=hb4.cell 1
   have q2:=hb4.cell 2
   have hs4:=hE4.size
   replace hN3:=hide hN3
   replace hK3:=hide hK3
   replace hlf3:=hide hlf3
   replace hb4:=hide hb4
   replace hP4:=hide hP4
   replace hO4:=hide hO4
   replace hG4:=hide hG4
   replace hU4:=hide hU4
   replace hE4:=hide hE4
   replace hE23:=hide hE23
   go_wp2_with fail
   go_at_call 73
   refine hly.out.mono ?_
   rintro e w5 ⟨F5,g5,m5,rfl,hP5,hE5,hgl5,hnl5,hpc5⟩
   have hdone : Hid (LayEnd F w gp no st3 l (.returned (.tuple #[.slice (some ⟨g5,0,none⟩) m5 m5,.int .i64 0])) w5):=hide ⟨F5,g5,m5,rfl,hP5,hE4.out.trans hE5,by omega,hnl5,hpc5⟩
   replace hP5:=hide hP5
   replace hE5:=hide hE5
   replace hpc5 : Hid _:=hide hpc5
   go_wp2_with fail
   go_ret2
   exact hdone.out
section
variable {F : Nat->Prop} {w w' : World} {B : Nat} {cv kv cv' kv' : Value} {n : NodeP}
theorem NodeU.insC (h : NodeU F w B cv kv n) (hFw : ∀ k,F k->k < w.heap.size) {i : Nat} {c : CellP} {vs : List Value} (hg : w.grownBy w' cv.ownBlock) (hi : i<=n.cells.length) (rows : List (List Value)) (h1 : rows.length=n.cells.length)
   (h2 : w.ownsRow B 83 4 cv n.cells.length rows.flatten) (h3 : CellsW F w rows n.cells) (hv : CellV (byteOf F w) w vs c) (hown : w'.ownsRow B 83 4 cv' (n.cells.length + 1) (insCells rows.flatten i vs))
   (hnew : ∀ k,cv'.ownBlock=some k->cv.ownBlock=some k \/ w.heap.size<=k) :
   NodeU F w' B cv' kv ⟨n.leaf,insAt n.cells i c,n.kids⟩:=by
 have hO : Only (fun j => cv.ownBlock=some j) w w':=(Only.refl _ w).grown hg (fun k hk _ => hk)
 refine ⟨⟨insAt rows i vs,by rw [insAt_len _ _ _ (by omega),insAt_len _ _ _ hi,h1],?_,(h3.ins h1 hv hi).keepW hO fun k cs hk hb => own_blk_ne h2 hb (by decide) hk⟩,hO.row h.kids fun k hk => own_ne h.kids h2 (by decide) k hk,fun k hk hf => ?_,h.kF⟩
 · show w'.ownsRow B 83 4 cv' (insAt n.cells i c).length _
   rw [insAt_len _ _ _ hi,ins_flat _ _ _ (h3.four h1)]
   exact hown
 · rcases hnew k hk with h9 | h9
   · exact h.rF k h9 hf
   · have:=hFw k hf; omega
theorem insInts_map (ks : List Nat) (i x : Nat) : (insAt ks i x).map encI=insInts (ks.map encI) i [encI x]:=by
 unfold insAt insInts
 simp [List.map_take,List.map_drop]
theorem NodeU.insK (h : NodeU F w B cv kv n) (hFw : ∀ k,F k->k < w.heap.size) {i x : Nat} (hg : w.grownBy w' kv.ownBlock) (hi : i<=n.kids.length)
   (hown : w'.ownsRow B 3 1 kv' (n.kids.length + 1) (insInts (n.kids.map encI) i [encI x])) (hnew : ∀ k,kv'.ownBlock=some k->kv.ownBlock=some k \/ w.heap.size<=k) :
   NodeU F w' B cv kv' ⟨n.leaf,n.cells,insAt n.kids i x⟩:=by
 have hO : Only (fun j => kv.ownBlock=some j) w w':=(Only.refl _ w).grown hg (fun k hk _ => hk)
 obtain ⟨rows,h1,h2,h3⟩:=h.rows
 refine ⟨⟨rows,h1,hO.row h2 fun k hk => own_ne h2 h.kids (by decide) k hk,h3.keepW hO fun k cs hk hb => own_blk_ne h.kids hb (by decide) hk⟩,?_,h.rF,fun k hk hf => ?_⟩
 · show w'.ownsRow B 3 1 kv' (insAt n.kids i x).length _
   rw [insAt_len _ _ _ hi,insInts_map]
   exact hown
 · rcases hnew k hk with h9 | h9
   · exact h.kF k h9 hf
   · have:=hFw k hf; omega
end
structure PutS (F : Nat->Prop) (w : World) (gp : Nat) (st : PgS) (B gn : Nat) (cv kv : Value) (lf : Bool) (n : NodeP) (S : Nat->Prop) (w' : World) : Prop where
 pg : PgAt w' F gp st
 node : NodeU F w' B cv kv n
 blk : Blk w' gn 89 #[.bool lf,cv,kv]
 only : Only S w w'
theorem put_cell (w : World) (F : Nat->Prop) (gp : Nat) (st : PgS) (hP : PgAt w F gp st) (B gn gx i : Nat) (cv kv : Value) (n : NodeP) (lf : Bool) (c : CellP) (x0 x1 x2 x3 : Value) (hU : NodeU F w B cv kv n) (hb : Blk w gn 89 #[.bool lf,cv,kv]) (hnF : ¬ F gn)
   (hv : CellV (byteOf F w) w [x0,x1,x2,x3] c) (hx : Blk w gx 83 #[x0,x1,x2,x3]) (hxn : cv.ownBlock ≠ some gx) (hi : i<=n.cells.length) (hlen : n.cells.length<=100000) (hB : B<=w.heap.size) :
   Calls Tryz.prog 40 #[cv,.int .i64 (i : Int),.slice (some ⟨gx,0,none⟩) 1 1] w fun e w4 => ∃ A' c',e=.returned (.slice A' (n.cells.length + 1) c')/\Blk w4 gn 89 #[.bool lf,cv,kv] /\
     PutS F w gp st B gn (.slice A' (n.cells.length + 1) c') kv lf ⟨n.leaf,insAt n.cells i c,n.kids⟩ (fun k => cv.ownBlock=some k \/ k=gn) (w4.setCell ⟨gn,1,none⟩ (.slice A' (n.cells.length + 1) c')):=by
 obtain ⟨rows,hr1,hr2,hr3⟩:=hU.rows
 have h1 : ∀ u ∈ [x0,x1,x2,x3],u.oneCell'=true:=by
   obtain ⟨kA,kc,vA,vc,e,_⟩:=hv
   rw [e]
   intro u hu
   simp at hu
   rcases hu with rfl | rfl | rfl | rfl <;> rfl
 refine (ins_any w B cv n.cells.length i rows.flatten hr2 hi hB (hr3.one hr1) gx (.inr hxn) x0 x1 x2 x3 h1 hx hlen).mono ?_
 rintro e w4 ⟨v',rfl,hown,hg,hnew⟩
 obtain ⟨A',c',rfl⟩:=own_form hown
 have hb4:=hb.grown hg fun e => own_blk_ne hr2 hb (by decide) e.symm
 have hU4:=hU.insC hP.lt hg hi rows hr1 hr2 hr3 hv hown hnew
 have hO3 : Only (fun k => k=gn) w4 (w4.setCell ⟨gn,1,none⟩ (.slice A' (n.cells.length + 1) c')):=(Only.refl (fun k => k=gn) w4).setCell (p:=⟨gn,1,none⟩) (fun _ => rfl) _
 have hO2 : Only (fun k => cv.ownBlock=some k) w w4:=(Only.refl _ _).grown hg (fun k hk _ => hk)
 refine ⟨A',c',rfl,hb4,(hP.grown hg (fun k hk hf => hU.rF k hk hf)).set_ hnF _,hU4.only hO3 fun k hk => by subst hk; exact ⟨_,_,hb4,by decide,by decide,by decide⟩,hb4.set_ 1 _,?_⟩
 exact (hO2.mono fun k _ h => .inl h).trans (hO3.mono fun k _ h => .inr h) (fun k hk h => h)
theorem put_kid (w : World) (F : Nat->Prop) (gp : Nat) (st : PgS) (hP : PgAt w F gp st) (B gn gx i x : Nat) (cv kv : Value) (n : NodeP) (lf : Bool) (hU : NodeU F w B cv kv n) (hb : Blk w gn 89 #[.bool lf,cv,kv]) (hnF : ¬ F gn)
   (hx : Blk w gx 3 #[.int .i64 (x : Int)]) (hxn : kv.ownBlock ≠ some gx) (hi : i<=n.kids.length) (hlen : n.kids.length<=100000) (hB : B<=w.heap.size) :
   Calls Tryz.prog 74 #[kv,.int .i64 (i : Int),.slice (some ⟨gx,0,none⟩) 1 1] w fun e w4 => ∃ A' c',e=.returned (.slice A' (n.kids.length + 1) c')/\Blk w4 gn 89 #[.bool lf,cv,kv] /\
     PutS F w gp st B gn cv (.slice A' (n.kids.length + 1) c') lf ⟨n.leaf,n.cells,insAt n.kids i x⟩ (fun k => kv.ownBlock=some k \/ k=gn) (w4.setCell ⟨gn,2,none⟩ (.slice A' (n.kids.length + 1) c')):=by
 refine (insI_any w B kv n.kids.length i (n.kids.map encI) hU.kids hi hB (fun u hu => by obtain ⟨y,_,rfl⟩:=List.mem_map.1 hu; rfl) gx (.inr hxn) (.int .i64 (x : Int)) (fun u hu => by rw [List.mem_singleton.1 hu]; rfl) hx hlen).mono ?_
 rintro e w4 ⟨v',rfl,hown,hg,hnew⟩
 obtain ⟨A',c',rfl⟩:=own_form hown
 have hb4:=hb.grown hg fun e => own_blk_ne hU.kids hb (by decide) e.symm
 have hU4:=hU.insK hP.lt hg hi hown hnew
 have hO3 : Only (fun k => k=gn) w4 (w4.setCell ⟨gn,2,none⟩ (.slice A' (n.kids.length + 1) c')):=(Only.refl (fun k => k=gn) w4).setCell (p:=⟨gn,2,none⟩) (fun _ => rfl) _
 have hO2 : Only (fun k => kv.ownBlock=some k) w w4:=(Only.refl _ _).grown hg (fun k hk _ => hk)
 refine ⟨A',c',rfl,hb4,(hP.grown hg (fun k hk hf => hU.kF k hk hf)).set_ hnF _,hU4.only hO3 fun k hk => by subst hk; exact ⟨_,_,hb4,by decide,by decide,by decide⟩,hb4.set_ 2 _,?_⟩
 exact (hO2.mono fun k _ h => .inl h).trans (hO3.mono fun k _ h => .inr h) (fun k hk h => h)
def SplitS (F F3 : Nat->Prop) (w : World) (gp : Nat) (st1 : PgS) (B gn : Nat) (n : NodeP) (N K : Nat) (wx : World) : Prop :=
 ∃ A c A' c',PgAt wx F3 gp st1/\NodeU F3 wx B (.slice A (N + 1) c) (.slice A' (K + 1) c') n/\Blk wx gn 89 #[.bool false,.slice A (N + 1) c,.slice A' (K + 1) c']/\Ev F w F3 wx
set_option maxHeartbeats 2000000 in
theorem change_split (w : World) (F : Nat->Prop) (gt gp k : Nat) (st : PgS) (h : PgAt w F gp st) (ht : TreeAt w F gt gp k) (no : Nat) (n : NodeP) (hl : LoadR st no n) (hleaf : n.leaf=false) (kA : Option Addr) (kc : Nat) (key : List UInt8) (hk : MB F w kA key.length key)
   (hi : (findP n key).1 < n.kids.length) (f : FuncId) (caps : Array Value) (st1 st2 : PgS) (kno : Nat) (kk : List UInt8) (l : Option (List UInt8 × Nat)) (hrec : ∀ w1 F1,PgAt w1 F1 gp st->TreeAt w1 F1 gt gp k->Ev F w F1 w1->MB F1 w1 kA key.length key->Calls Tryz.prog 38 #[.pointer (some ⟨gt,0,none⟩),.int .i64 (kidAt n (findP n key).1 : Int),.slice kA key.length kc,.func (.func f) #[] caps] w1 (LayEnd F1 w1 gp (kidAt n (findP n key).1) st1 (some (kk,kno))))
   (hok1 : st1.ok) (hlay : LayR st1 no ⟨false,insAt n.cells (findP n key).1 ⟨kk,[],0,0⟩,insAt n.kids ((findP n key).1 + 1) kno⟩ st2 l) :
   Calls Tryz.prog 38 #[.pointer (some ⟨gt,0,none⟩),.int .i64 (no : Int),.slice kA key.length kc,.func (.func f) #[] caps] w (LayEnd F w gp no st2 l):=by
 have hrt:=hl.2.1
 have hld:=hide (load_gen w F gt gp k st h ht no n hl)
 have hgt:=Blk.lt ht.blk
 have hrise:=hl.2.1.rise
 have hmany:=hl.2.1.many
 obtain ⟨L,hL⟩ : ∃ L,L=key.length:=⟨_,rfl⟩
 rw [<- hL] at hk hrec ⊢
 replace h:=hide h
 replace ht:=hide ht
 replace hl:=hide hl
 replace hk:=hide hk
 replace hrec : Hid _:=hide hrec
 replace hi:=hide hi
 replace hlay:=hide hlay
 replace hok1:=hide hok1
 replace hrt:=hide hrt
 replace hL:=hide hL
 replace hrise:=hide hrise
 replace hmany:=hide hmany
 obtain ⟨lf,hlf⟩ : ∃ lf,lf=n.leaf:=⟨_,rfl⟩
 have hlt : lf=false:=hlf.trans hleaf
 subst hlt
 replace hlf:=hide hlf
 replace hleaf:=hide hleaf
 go_enter Tryz.func38,Tryz.ntmps38
 go_wp2_with fail
 go_at_call 45
 refine hld.out.mono ?_
 rintro e w1 ⟨F1,cv,kv,B0,rfl,hP1,hE1,hF1,hwB,hO1⟩
 rw [<- hlf.out]
 have hO1':=hO1.moreB (Nat.min_le_left B0 w1.heap.size)
 obtain ⟨Bm,hBm⟩ : ∃ Bm,Bm=min B0 w1.heap.size:=⟨_,rfl⟩
 rw [<- hBm] at hO1'
 have hFm : ∀ j,F1 j->j < Bm:=fun j hj => by have:=hF1 j hj; have:=hP1.lt j hj; omega
 have hwm : w.heap.size<=Bm:=by have:=hE1.size; omega
 have hms : Bm<=w1.heap.size:=by omega
 have hW1:=hO1'.toW hFm
 obtain ⟨gk,c1,rfl,hck,_,_,hgk⟩:=hW1.toU.kid_form (Nat.lt_of_le_of_lt (Nat.zero_le _) hi.out)
 obtain ⟨A2,c2,rfl⟩:=own_form hW1.rows.choose_spec.2.1
 obtain ⟨N,hN⟩ : ∃ N,N=n.cells.length:=⟨_,rfl⟩
 obtain ⟨K,hK⟩ : ∃ K,K=n.kids.length:=⟨_,rfl⟩
 rw [<- hN,<- hK] at hW1 ⊢
 rw [<- hK] at hi hck
 replace hN:=hide hN
 replace hK:=hide hK
 replace hO1:=hide hO1
 replace hO1':=hide hO1'
 replace hF1:=hide hF1
 replace hFm:=hide hFm
 replace hBm:=hide hBm
 replace hP1:=hide hP1
 replace hE1:=hide hE1
 replace hW1:=hide hW1
 go_wp2_with fail
 have hnF1 : ¬ F1 w1.heap.size:=fun hf => by have:=hP1.out.lt _ hf; omega
 have hbn:=Blk.new w1 89 #[.bool false,.slice A2 N c2,.slice (some ⟨gk,0,none⟩) K c1]
 have hE1a : Ev F w F1 (w1.alloc (.cells #[.bool false,.slice A2 N c2,.slice (some ⟨gk,0,none⟩) K c1] 89)):=hE1.out.alloc_ _
 have hfd:=hide (find_any (w1.alloc (.cells #[.bool false,.slice A2 N c2,.slice (some ⟨gk,0,none⟩) K c1] 89)) (.agg #[.bool false,.slice A2 N c2,.slice (some ⟨gk,0,none⟩) K c1]) n (by
   have h9:=(hW1.out.nodeM.ev ((Ev.refl F1 w1).alloc_ (.cells #[.bool false,.slice A2 N c2,.slice (some ⟨gk,0,none⟩) K c1] 89))).old fun k hk => hk.1
   rw [<- hlf.out] at h9
   exact h9) hrise.out (by have:=hmany.out; omega) kA kc key (by have h9:=(hk.out.ev hE1a).rb; rw [hL.out] at h9; exact h9))
 rw [<- hL.out] at hfd
 obtain ⟨I,hI⟩ : ∃ I,I=(findP n key).1:=⟨_,rfl⟩
 obtain ⟨S,hS⟩ : ∃ S,S=(findP n key).2:=⟨_,rfl⟩
 rw [<- hI,<- hS] at hfd
 rw [<- hI] at hrec hlay hi
 replace hI:=hide hI
 replace hS:=hide hS
 go_at_call 46
 refine hfd.out.mono ?_
 rintro e w2 ⟨rfl,hB2⟩
 have hb2:=hbn.below hB2 (by simp)
 have hP2:=(hP1.out.alloc (.cells #[.bool false,.slice A2 N c2,.slice (some ⟨gk,0,none⟩) K c1] 89)).below hB2
 have hE2:=hE1a.below hB2
 have hW2 : NodeW F1 w2 Bm (.slice A2 N c2) (.slice (some ⟨gk,0,none⟩) K c1) n:=hW1.out.only (((Only.refl (fun _ => False) w1).alloc _).trans (Only.of_below hB2) (fun _ _ h => h)) (fun _ h => h.elim)
 have hs2:=hE2.size
 have k2:=hW2.toU.kid_at I (by rw [<- hK.out]; exact hi.out)
 obtain ⟨kid,hkid⟩ : ∃ kid,kid=kidAt n I:=⟨_,rfl⟩
 rw [<- hkid] at k2 hrec
 have hrc:=hide (hrec.out w2 F1 hP2 (ht.out.ev hE2) hE2 (hk.out.ev hE2))
 have hiI : (I : Int) < (K : Int):=by have:=hi.out; omega
 have hi0 : (0 : Int)<=(I : Int):=by omega
 replace hck:=hide hck
 replace hkid:=hide hkid
 have d0:=hb2.cell 0
 have d1:=hb2.cell 1
 have d2:=hb2.cell 2
 replace hb2:=hide hb2
 replace hbn:=hide hbn
 replace hB2:=hide hB2
 replace hP2:=hide hP2
 replace hE1a:=hide hE1a
 replace hE2:=hide hE2
 replace hW2:=hide hW2
 replace hnF1:=hide hnF1
 go_wp2_with fail
 go_at_call 38
 refine hrc.out.mono ?_
 rintro e w3 ⟨F3,gl,m,rfl,hP3,hE3,hgl,hnl,hpc⟩
 obtain ⟨rfl,kA2,kc2,hbl,hrd,hkc2⟩:=hpc
 have hU3:=hW2.out.toU.ev hE3
 have hb3 : Blk w3 w1.heap.size 89 #[.bool false,.slice A2 N c2,.slice (some ⟨gk,0,none⟩) K c1]:=hE3.only.blk hb2.out hnF1.out
 replace hb3:=hide hb3
 replace hbl:=hide hbl
 replace hU3:=hide hU3
 replace hP3:=hide hP3
 replace hE3:=hide hE3
 go_wp2_with fail
 have hE23:=hE2.out.trans hE3.out
 have hnF3 : ¬ F3 w1.heap.size:=hE3.out.new hnF1.out hb2.out.lt
 obtain ⟨KL,hKL⟩ : ∃ KL,KL=kk.length:=⟨_,rfl⟩
 rw [<- hKL] at hbl hrd hkc2
 have p2:=hbl.out.cell 2
 have p3:=hbl.out.cell 3
 replace hrd:=hide hrd
 replace hkc2:=hide hkc2
 replace hKL:=hide hKL
 obtain ⟨gn,hgn⟩ : ∃ gn,gn=w1.heap.size:=⟨_,rfl⟩
 rw [<- hgn] at hb3 hb2 hnF3 ⊢
 have hgnw : w.heap.size<=gn:=by rw [hgn]; exact hE1.out.size
 have hgn3 : gn < w3.heap.size:=hb3.out.lt
 have hIN : I<=n.cells.length:=by
   have h9:=hrt.out.kidsIn hleaf.out
   have:=hi.out
   rw [hK.out,h9] at this
   omega
 have hNK : n.kids.length<=100000:=by have:=hrt.out.kidsIn hleaf.out; have:=hmany.out; omega
 have hNc : n.cells.length<=100000:=by have:=hmany.out; omega
 have hB3 : Bm<=w3.heap.size:=by have:=hE23.size; have:=hE2.out.size; have:=hE3.out.size; have h9:=hB2.out.size; simp at h9; omega
 obtain ⟨wA,hwA⟩ : ∃ wA,wA=w3.alloc (.cells #[.slice kA2 KL kc2,.int .i64 (kno : Int)] 131):=⟨_,rfl⟩
 obtain ⟨wB,hwB⟩ : ∃ wB,wB=wA.alloc (.cells #[.slice kA2 KL kc2,.slice none 0 0,.int .i64 0,.int .i64 0] 83):=⟨_,rfl⟩
 have hEA : Ev F3 w3 F3 wA:=by rw [hwA]; exact (Ev.refl F3 w3).alloc_ _
 have hEB : Ev F3 w3 F3 wB:=by rw [hwB]; exact hEA.alloc_ _
 have hbpA : Blk wA w3.heap.size 131 #[.slice kA2 KL kc2,.int .i64 (kno : Int)]:=by rw [hwA]; exact Blk.new w3 131 _
 have hbpB : Blk wB w3.heap.size 131 #[.slice kA2 KL kc2,.int .i64 (kno : Int)]:=by rw [hwB]; exact hbpA.alloc _
 have hbcB : Blk wB wA.heap.size 83 #[.slice kA2 KL kc2,.slice none 0 0,.int .i64 0,.int .i64 0]:=by rw [hwB]; exact Blk.new wA 83 _
 have hsA : wA.heap.size=w3.heap.size + 1:=by rw [hwA]; simp
 have hUB:=hU3.out.ev hEB
 have hPB : PgAt wB F3 gp st1:=by rw [hwB,hwA]; exact (hP3.out.alloc _).alloc _
 have hbB:=hEB.blk hb3.out hnF3
 have hbA:=hEA.blk hb3.out hnF3
 have hcB : CellV (byteOf F3 wB) wB [.slice kA2 KL kc2,.slice none 0 0,.int .i64 0,.int .i64 0] ⟨kk,[],0,0⟩:=by
   refine ⟨kA2,kc2,none,0,by rw [hKL.out]; rfl,by rw [<- hKL.out]; exact hkc2.out,Nat.le_refl _,?_,by simpa [bv] using Rd.none_⟩
   rw [<- hKL.out]
   exact hrd.out.evB hEB
 have hnB : (Value.slice A2 N c2).ownBlock ≠ some wA.heap.size:=fun e => by
   have h9:=hU3.out.rows.choose_spec.2.1
   have h8:=(own_lt h9 e).2
   omega
 have hpc1:=hide (put_cell wB F3 gp st1 hPB Bm gn wA.heap.size I (.slice A2 N c2) (.slice (some ⟨gk,0,none⟩) K c1) n false ⟨kk,[],0,0⟩ _ _ _ _ hUB hbB hnF3 hcB hbcB hnB hIN hNc (Nat.le_trans hB3 hEB.size))
 rw [<- hN.out] at hpc1
 have pA0:=hbpA.cell 0
 have pA1:=hbpA.cell 1
 have qA1:=hbA.cell 1
 replace hEA:=hide hEA
 replace hEB:=hide hEB
 replace hbpA:=hide hbpA
 replace hbpB:=hide hbpB
 replace hbcB:=hide hbcB
 replace hUB:=hide hUB
 replace hPB:=hide hPB
 replace hbB:=hide hbB
 replace hbA:=hide hbA
 replace hcB:=hide hcB
 replace hnB:=hide hnB
 replace hsA:=hide hsA
 replace hgn:=hide hgn
 replace hE23:=hide hE23
 replace hnF3:=hide hnF3
 replace hwA:=hide hwA
 replace hwB:=hide hwB
 go_loopw [67] (fun v67 wx => (v67=.int .i64 0/\wx=w3) \/ (v67=.int .i64 1/\Hid (SplitS F F3 w gp st1 Bm gn ⟨false,insAt n.cells I ⟨kk,[],0,0⟩,insAt n.kids (I + 1) kno⟩ N K wx))) (fun v67 _ => 1 - (intOf v67).toNat)
 case atStart => exact .inl ⟨rfl,rfl⟩
 case round =>
   rcases hrel with ⟨rfl,hwr⟩ | ⟨rfl,hS⟩
   · subst hwr
     go_upto_region 16 with (fail)
     rw [<- hwA.out]
     go_wp2_with fail
     go_at_call 40
     rw [<- hwB.out]
     refine hpc1.out.mono ?_
     rintro e w4 ⟨A4,c4,rfl,hb4,hS4⟩
     have m1:=hb4.cell 1
     have f1:=hb4.frozen 1
     obtain ⟨w5,hw5⟩ : ∃ w5,w5=w4.setCell ⟨gn,1,none⟩ (.slice A4 (N + 1) c4):=⟨_,rfl⟩
     rw [<- hw5] at hS4
     have hE5 : Ev F w F3 w5:=by
       have h9:=hE23.out.trans hEB.out
       refine ⟨h9.only.trans hS4.only fun i hi hT => ?_,h9.grow⟩
       rcases hT with hT | hT
       · have h8 := hW1.out.rows.choose_spec.2.1
         have h7:=(own_lt h8 hT).1
         omega
       · omega
     have hpc5 : Blk w5 wr.heap.size 131 #[.slice kA2 KL kc2,.int .i64 (kno : Int)]:=hS4.only.blk hbpB.out (by
       rintro (e | e)
       · have h8 := hUB.out.rows.choose_spec.2.1
         exact own_blk_ne h8 hbpB.out (by decide) e
       · omega)
     obtain ⟨wC,hwC⟩ : ∃ wC,wC=w5.alloc (.cells #[.int .i64 (kno : Int)] 3):=⟨_,rfl⟩
     have hEC : Ev F3 w5 F3 wC:=by rw [hwC]; exact (Ev.refl F3 w5).alloc_ _
     have hnC : (Value.slice (some ⟨gk,0,none⟩) K c1).ownBlock ≠ some w5.heap.size:=fun e => by
       have h8:=(own_lt hS4.node.kids e).2
       omega
     have hxC : Blk wC w5.heap.size 3 #[.int .i64 (kno : Int)]:=by rw [hwC]; exact Blk.new w5 3 _
     have hb5:=hS4.blk
     have hbC:=hEC.blk hb5 hnF3.out
     have hPC : PgAt wC F3 gp st1:=by rw [hwC]; exact hS4.pg.alloc _
     have hpk:=hide (put_kid wC F3 gp st1 hPC Bm gn w5.heap.size (I + 1) kno (.slice A4 (N + 1) c4) (.slice (some ⟨gk,0,none⟩) K c1) _ false (hS4.node.ev hEC) hbC hnF3.out hxC hnC (by have:=hi.out; rw [hK.out] at this; exact this) hNK (Nat.le_trans hB3 (Nat.le_trans hEB.out.size (Nat.le_trans hS4.only.size hEC.size))))
     have q0:=hpc5.cell 0
     have q1:=hpc5.cell 1
     have q2:=hb5.cell 2
     have hIJ : (I : Int) + 0 + 1=((I + 1 : Nat) : Int):=by omega
     replace hb4:=hide hb4
     replace hS4:=hide hS4
     replace hE5:=hide hE5
     replace hpc5:=hide hpc5
     replace hEC:=hide hEC
     replace hnC:=hide hnC
     replace hxC:=hide hxC
     replace hb5:=hide hb5
     replace hbC:=hide hbC
     replace hPC:=hide hPC
     replace hwC:=hide hwC
     replace hw5:=hide hw5
     go_upto_region 17 with (fail)
     rw [<- hw5.out]
     go_wp2_with fail
     go_at_call 74
     rw [<- hwC.out]
     refine hpk.out.mono ?_
     rintro e w6 ⟨A6,c6,rfl,hb6,hS6⟩
     have hdone : Hid (SplitS F F3 w gp st1 Bm gn ⟨false,insAt n.cells I ⟨kk,[],0,0⟩,insAt n.kids (I + 1) kno⟩ N K (w6.setCell ⟨gn,2,none⟩ (.slice A6 (n.kids.length + 1) c6))):=hide (by
       have h9:=hE5.out.trans hEC.out
       have h8:=hS4.out.node.kids
       have h7:=hE23.out.trans hEB.out
       have hnf:=hlf.out
       refine ⟨A4,c4,A6,c6,hS6.pg,?_,?_,⟨h9.only.trans hS6.only fun i hi hT => ?_,h9.grow⟩⟩
       · have h5 := hS6.node
         rw [hnf,<- hK.out] at *
         exact h5
       · have h5 := hS6.blk
         rw [<- hK.out] at h5 ⊢
         exact h5
       · rcases hT with hT | hT
         · have h6 := (own_lt hW1.out.kids hT).1
           omega
         · omega)
     rw [<- hK.out] at hdone ⊢
     have m2:=hb6.cell 2
     have f2:=hb6.frozen 2
     replace hb6:=hide hb6
     replace hS6:=hide hS6
     go_wp2_with fail
     go_roundw
     case rel => exact .inr ⟨rfl,hdone⟩
     case measure => simp only [intOf]; omega
   · obtain ⟨A4, c4, A6, c6, hP7, hU7, hb7, hE7⟩ := hS.out
     obtain ⟨n7,hn7⟩ : ∃ n7 : NodeP,n7=⟨false,insAt n.cells I ⟨kk,[],0,0⟩,insAt n.kids (I + 1) kno⟩:=⟨_,rfl⟩
     rw [<- hn7] at hU7 hlay
     have hl7 : n7.leaf=false:=by rw [hn7]
     have hc7 : n7.cells.length=N + 1:=by rw [hn7,hN.out]; exact insAt_len _ _ _ hIN
     have hk7 : n7.kids.length=K + 1:=by rw [hn7,hK.out]; exact insAt_len _ _ _ (by have:=hi.out; rw [hK.out] at this; exact this)
     have hly:=hide (lay_any wr F3 gt gp k st1 st2 hP7 (ht.out.ev hE7) hok1.out no n7 l (.agg #[.bool false,.slice A4 (N + 1) c4,.slice A6 (K + 1) c6]) (by have h9:=hU7.nodeM; rw [hl7] at h9; exact h9) (by have h9:=hU7.keysIn; rw [hl7] at h9; exact h9) hlay.out)
     have q0:=hb7.cell 0
     have q1:=hb7.cell 1
     have q2:=hb7.cell 2
     have hs7:=hE7.size
     replace hP7:=hide hP7
     replace hU7:=hide hU7
     replace hb7:=hide hb7
     replace hE7:=hide hE7
     replace hn7:=hide hn7
     replace hl7:=hide hl7
     replace hc7:=hide hc7
     replace hk7:=hide hk7
     go_wp2_with fail
     go_at_call 73
     refine hly.out.mono ?_
     rintro e w8 ⟨F8,g8,m8,rfl,hP8,hE8,hgl8,hnl8,hpc8⟩
     have hdone : Hid (LayEnd F w gp no st2 l (.returned (.tuple #[.slice (some ⟨g8,0,none⟩) m8 m8,.int .i64 0])) w8):=hide ⟨F8,g8,m8,rfl,hP8,hE7.out.trans hE8,by omega,hnl8,hpc8⟩
     replace hP8:=hide hP8
     replace hE8:=hide hE8
     replace hpc8 : Hid _:=hide hpc8
     go_wp2_with fail
     go_ret2
     exact hdone.out
def OpOk (op : OpR) : Prop:=∀ st n i is st1 n1,st.ok->RightP n->op st n i is st1 n1->st1.ok
theorem ChangeR.ok {op : OpR} {key : List UInt8} {st st' : PgS} {no : Nat} {l : Option (List UInt8 × Nat)} (h : ChangeR op key st no st' l) (hop : OpOk op) : st.ok->st'.ok:=by
 induction h with
 | leaf st1 st2 no n n1 l hl hf ho hy => exact fun hok => hy.ok (hop _ _ _ _ _ _ hok hl.2.1 ho)
 | split st1 st2 no kno n kk l hl hf hi hc hy ih => exact fun hok => hy.ok (ih hok)
 | one st1 st2 st3 no n n2 l hl hf hi hc hm hy ih => exact fun hok => hy.ok (hm.ok (ih hok))
theorem tchange_any (gt gp k : Nat) (kA : Option Addr) (kc : Nat) (key : List UInt8) (f : FuncId) (caps : Array Value) (op : OpR) (hfn : ∀ args wx,(callFunc f args).run Tryz.prog wx=.ok (.enter f args) wx) (hopk : OpOk op)
   {st st' : PgS} {no : Nat} {l : Option (List UInt8 × Nat)} (hc : ChangeR op key st no st' l) :
   st.ok->∀ (w : World) (F : Nat->Prop),PgAt w F gp st->TreeAt w F gt gp k->MB F w kA key.length key->OpG f caps op w F gp st ->
   Calls Tryz.prog 38 #[.pointer (some ⟨gt,0,none⟩),.int .i64 (no : Int),.slice kA key.length kc,.func (.func f) #[] caps] w (LayEnd F w gp no st' l):=by
 induction hc with
 | leaf st1 st2 no n n1 l hl hf ho hy =>
   intro hok w F hP ht hk hop
   exact change_leafG w F gt gp k st hP ht no n hl hf kA kc key hk f caps op st1 st2 n1 l hfn hop ho (hopk _ _ _ _ _ _ hok hl.2.1 ho) hy
 | split st1 st2 no kno n kk l hl hf hi hc hy ih =>
   intro hok w F hP ht hk hop
   exact change_split w F gt gp k st hP ht no n hl hf kA kc key hk hi f caps st1 st2 kno kk l (fun w1 F1 hP1 ht1 hE hk1 => ih hok w1 F1 hP1 ht1 hk1 (hop.ev hE)) (hc.ok hopk hok) hy
 | one st1 st2 st3 no n n2 l hl hf hi hc hm hy ih =>
   intro hok w F hP ht hk hop
   exact change_one w F gt gp k st hP ht no n hl hf kA kc key hk hi f caps st1 st2 st3 n2 l (fun w1 F1 hP1 ht1 hE hk1 => ih hok w1 F1 hP1 ht1 hk1 (hop.ev hE)) (hc.ok hopk hok) (hm.ok (hc.ok hopk hok)) hm hy
end Go.Proofs.YtiiljlmeililbaaGreatDoor
