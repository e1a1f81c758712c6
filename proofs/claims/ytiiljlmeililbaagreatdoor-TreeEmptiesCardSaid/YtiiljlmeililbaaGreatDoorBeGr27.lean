/-
  Contract of tree.cell at a value of any length.
-/
import Derived.Test.YtiiljlmeililbaaGreatDoorBeGr23
import Derived.Test.YtiiljlmeililbaaGreatDoorBeGr5
import Derived.Test.YtiiljlmeililbaaGreatDoorBeGr22
import Derived.Test.YtiiljlmeililbaaGreatDoorBePgB
import Derived.Test.YtiiljlmeililbaaGreatDoorBeGr4
import Derived.Test.YtiiljlmeililbaaGreatDoorBeGr20
namespace Go.Proofs.YtiiljlmeililbaaGreatDoor
set_option linter.unusedVariables false
set_option maxRecDepth 100000
open Go.RowKit
theorem run_app_bt (w : World) (base : Nat) (v : Value) (n : Nat) (l : List UInt8) (hown : OB w base v n l) (B : Nat) (A : Option Addr) (m c : Nat) (news : List UInt8) (hr : RB w B A m news) (ty : TypeId) (hlen : n + m<=1000000) (hbase : base<=w.heap.size) :
   ∃ v' w',(Builtin.append_ #[37,37] ty #[v,.slice A m c]).run Tryz.prog w=.ok v' w'/\OB w' base v' (n + m) (l ++ news)/\w.grownBy w' v.ownBlock:=by
 obtain ⟨i0,hi0,hz0,hz1,hz2⟩:=info_parts byte_info
 obtain ⟨v',w',h1,h2,h3,_⟩:=run_append_any (P:=Tryz.prog) w base 37 ty 5 i0 _ 1 1 Tryz.underlying37 hi0 hz0 hz1 hz2 rfl (by omega) v n (bv l) hown B A m c (bv news) hr (bv_one _) (by simp only [maxLen]; omega) (by omega) hbase
 rw [<- bv_append] at h2
 exact ⟨v',w',h1,h2,h3⟩
theorem wp_app_bt {op : Oper} {a : Act} {Q : Exit->Act->World->Prop} {K : Act->World->Prop} {w : World} (s x : Operand) (ho : op.op=.call { callee:=.builtin .append,args:=#[s,x],argTypes:=#[37,37] })
   (base : Nat) (v : Value) (n : Nat) (l : List UInt8) (hown : OB w base v n l) (hs : a.eval s=v) (B : Nat) (A : Option Addr) (m c : Nat) (news : List UInt8) (hx : a.eval x=.slice A m c) (hr : RB w B A m news) (hlen : n + m<=1000000) (hbase : base<=w.heap.size)
   (h : ∀ v' w',OB w' base v' (n + m) (l ++ news)->w.grownBy w' v.ownBlock->K (a.put op.dst v') w') : Oper.wp Tryz.prog op a w K Q:=by
 obtain ⟨i0,hi0,hz0,hz1,hz2⟩:=info_parts byte_info
 refine wp_append_any w s x 37 ho base 5 i0 _ 1 1 Tryz.underlying37 hi0 hz0 hz1 hz2 rfl (by omega) v n (bv l) hs hown B A m c (bv news) hx hr (bv_one _) (by simp only [maxLen]; omega) (by omega) hbase fun v' w' h1 h2 h3 => ?_
 rw [<- bv_append] at h1
 exact h v' w' h1 h2
theorem RN.one_blk {w : World} {g : Nat} {t : TypeId} {x : Nat} (h : Blk w g t #[.int .i64 (x : Int)]) : RN w w.heap.size (some ⟨g,0,none⟩) 1 [x]:=by
 refine ⟨rfl,fun _ => ⟨_,rfl,h.lt,fun j u hj => ?_⟩⟩
 rw [Addr.add_lit,Nat.zero_add,h.cell]
 simpa [encI] using hj
def CellEndG (F : Nat->Prop) (w : World) (gp : Nat) (st' : PgS) (c : CellP) (e : Ending) (w' : World) : Prop :=
 ∃ x0 x1 F',e=.returned (.tuple #[.agg #[x0,x1,.int .i64 (c.over : Int),.int .i64 (c.long : Int)],.int .i64 0])/\PgAt w' F' gp st'/\Ev F w F' w'/\CellV (byteOf F' w') w' [x0,x1,.int .i64 (c.over : Int),.int .i64 (c.long : Int)] c
def CellS (F : Nat->Prop) (w : World) (gp : Nat) (st' : PgS) (o : Nat) (b : List UInt8) (L M gA gB : Nat) (A2 : Option Addr) (c2 : Nat) (key : List UInt8) (r : Nat) (wx : World) : Prop :=
 ∃ F1 st1 o1,PgAt wx F1 gp st1/\st1.ok/\OverR st1 (piecesUp b r).reverse o1 st' o/\Ev F w F1 wx/\Blk wx gA 83 #[.slice none 0 0,.slice none 0 0,.int .i64 0,.int .i64 0]/\Blk wx gB 83 #[.slice A2 L c2,.slice none 0 0,.int .i64 (o1 : Int),.int .i64 (M : Int)]/\¬ F1 gA/\¬ F1 gB/\Rd (byteOf F1 wx) wx 1 A2 L (bv key)/\o1 < 65536
set_option maxHeartbeats 2000000 in
theorem cell_long (w : World) (F : Nat->Prop) (gt gp k : Nat) (st st' : PgS) (o : Nat) (h : PgAt w F gp st) (ht : TreeAt w F gt gp k) (ho : st.ok) (kA vA : Option Addr) (L M kc vc : Nat) (key b : List UInt8) (hk : MB F w kA L key) (hv : MB F w vA M b) (hvc : M<=vc) (hL : L<=1000000) (hM : 64 < M) (hM2 : M<=20000)
   (hov : OverR st (piecesUp b ((M + 504) / 505)).reverse 0 st' o) :
   Calls Tryz.prog 35 #[.pointer (some ⟨gt,0,none⟩),.slice kA L kc,.slice vA M vc] w (CellEndG F w gp st' ⟨key,[],o,M⟩):=by
 have hMI : ¬ (M : Int)<=64:=by omega
 have hMD : decide ((M : Int)<=64)=false:=decide_eq_false (by omega)
 have hlk : Hid (key.length=L):=hide hk.len
 have hlb : Hid (b.length=M):=hide hv.len
 obtain ⟨adv,rfl,hadvF,_⟩:=hv.2 (by omega)
 obtain ⟨Q,hQ⟩ : ∃ Q,Q=(M - 1) / 505:=⟨_,rfl⟩
 have hQK : (M + 504) / 505=Q + 1:=by omega
 rw [hQK] at hov
 have hB0:=(Below.refl w.heap.size w).alloc (Nat.le_refl _) (.cells #[.slice none 0 0,.slice none 0 0,.int .i64 0,.int .i64 0] 83)
 have hb0:=Blk.new w 83 #[.slice none 0 0,.slice none 0 0,.int .i64 0,.int .i64 0]
 have hE0 : Ev F w F (w.alloc (.cells #[.slice none 0 0,.slice none 0 0,.int .i64 0,.int .i64 0] 83)):=(Ev.refl F w).alloc_ _
 have hP0:=h.alloc (.cells #[.slice none 0 0,.slice none 0 0,.int .i64 0,.int .i64 0] 83)
 have hFlt:=h.lt
 have hcl:=hide (tclone_any kA L kc key (w.alloc (.cells #[.slice none 0 0,.slice none 0 0,.int .i64 0,.int .i64 0] 83)) ((hk.ev hE0).rb) (by omega))
 replace hk:=hide hk
 replace hv:=hide hv
 replace hB0:=hide hB0
 replace hb0:=hide hb0
 replace hE0:=hide hE0
 replace hP0:=hide hP0
 replace h:=hide h
 replace ht:=hide ht
 replace ho:=hide ho
 replace hov:=hide hov
 replace hFlt:=hide hFlt
 replace hQ:=hide hQ
 replace hQK:=hide hQK
 go_enter Tryz.func35,Tryz.ntmps35
 go_wp2_with fail
 go_at_call 57
 refine hcl.out.mono ?_
 rintro e w2 ⟨v2,rfl,hO2,hB2⟩
 rw [hlk.out] at hO2
 obtain ⟨A2,c2,rfl,hr2,_,hc2,_⟩:=hO2.form
 have hb2:=hb0.out.below hB2 (Blk.lt hb0.out)
 have hE2:=hE0.out.below hB2
 have hP2:=hP0.out.below hB2
 have hk2 : Rd (byteOf F w2) w2 1 A2 L (bv key):=by
   have:=hO2.rd5
   exact Rd.keep this fun k hk => ⟨⟨⟨Blk.lt hk.2.choose_spec,fun hf => by have h9:=hFlt.out k hf; have h8:=hk.1; simp at h8; omega⟩,hk.2⟩,rfl⟩
 replace hO2:=hide hO2
 replace hB2:=hide hB2
 replace hr2:=hide hr2
 replace hc2:=hide hc2
 have z0:=hb2.cell 0
 have z1:=hb2.cell 1
 have z2:=hb2.cell 2
 have z3:=hb2.cell 3
 replace hb2:=hide hb2
 replace hE2:=hide hE2
 replace hP2:=hide hP2
 replace hk2:=hide hk2
 go_upto_region 7 with (fail)
 obtain ⟨gA,hgA⟩ : ∃ gA,gA=w.heap.size:=⟨_,rfl⟩
 obtain ⟨gB,hgB⟩ : ∃ gB,gB=w2.heap.size:=⟨_,rfl⟩
 obtain ⟨w4,hw4⟩ : ∃ w4,w4=w2.alloc (.cells #[.slice A2 L c2,.slice none 0 0,.int .i64 0,.int .i64 (M : Int)] 83):=⟨_,rfl⟩
 rw [<- hw4,<- hgA,<- hgB]
 have hEw4 : Ev F w2 F w4:=by rw [hw4]; exact (Ev.refl F w2).alloc_ _
 have hgAB : gA ≠ gB:=by
   have h1:=hE2.out.size
   have h2:=hB2.out.size
   simp at h2
   omega
 have hst : Hid (CellS F w gp st' o b L M gA gB A2 c2 key (Q + 1) w4):=hide (by
   refine ⟨F,st,0,by rw [hw4]; exact hP2.out.alloc _,ho.out,hov.out,hE2.out.trans hEw4,?_,?_,?_,?_,hk2.out.evB hEw4,by omega⟩
   · rw [hgA,hw4]; exact hb2.out.alloc _
   · rw [hgB,hw4]; exact Blk.new w2 83 _
   · intro hf; have:=hFlt.out _ hf; omega
   · intro hf; have:=hFlt.out _ hf; have:=hE2.out.size; omega)
 have hgAw : w.heap.size<=gA:=by omega
 have hgBw : w.heap.size<=gB:=by rw [hgB]; exact hE2.out.size
 have hQM : Hid ((Q : Int) * 505 + 1<=(M : Int)):=hide (by have:=hQ.out; omega)
 replace hgA:=hide hgA
 replace hgB:=hide hgB
 replace hw4:=hide hw4
 replace hEw4:=hide hEw4
 clear z0 z1 z2 z3
 go_loopw [9] (fun v9 wx => ∃ r : Nat,v9=.int .i64 (505 * (r : Int) - 505)/\r<=Q + 1/\Hid (CellS F w gp st' o b L M gA gB A2 c2 key r wx)) (fun v9 _ => (intOf v9 + 505).toNat)
 case atStart => exact ⟨Q + 1,by congr 1; have:=hQ.out; omega,Nat.le_refl _,hst⟩
 case round =>
   obtain ⟨r,rfl,hrQ,hS⟩:=hrel
   obtain ⟨F1,st1,o1,hP1,hok1,hov1,hE1,hbA,hbB,hnA,hnB,hkb,ho1⟩:=hS.out
   have htr:=ht.out.ev hE1
   have t0 : wr.cell? ⟨gt,0,none⟩=some (.pointer (some ⟨gp,0,none⟩)):=htr.blk.cell 0
   have b0:=hbB.cell 0
   have b1:=hbB.cell 1
   have b2:=hbB.cell 2
   have b3:=hbB.cell 3
   have b2f:=hbB.frozen 2
   have a0:=hbA.cell 0
   have a1:=hbA.cell 1
   have a2:=hbA.cell 2
   have a3:=hbA.cell 3
   have a0f:=hbA.frozen 0
   have a1f:=hbA.frozen 1
   have a2f:=hbA.frozen 2
   have a3f:=hbA.frozen 3
   clear hS hst
   cases r with
   | zero =>
     have hend : Hid (st1=st'/\o1=o):=hide (by
       have e : (piecesUp b 0).reverse=[]:=rfl
       rw [e] at hov1
       cases hov1
       exact ⟨rfl,rfl⟩)
     have hfin : Hid (∀ W,Only (fun j => j=gA) wr W->CellEndG F w gp st' ⟨key,[],o,M⟩ (.returned (.tuple #[.agg #[.slice A2 L c2,.slice none 0 0,.int .i64 (o1 : Int),.int .i64 (M : Int)],.int .i64 0])) W):=hide (by
       obtain ⟨rfl,rfl⟩:=hend.out
       intro W hO
       refine ⟨.slice A2 L c2,.slice none 0 0,F1,rfl,hP1.keep (fun j hj => hO.block j (hP1.lt j hj) (fun e => hnA (by rw [<- e]; exact hj))) hO.size,⟨hE1.only.trans hO (fun i hi e => by subst e; omega),hE1.grow⟩,A2,c2,none,0,?_,?_,Nat.le_refl _,?_,by simpa [bv] using Rd.none_⟩
       · show [Value.slice A2 L c2, _, _, _] = [Value.slice A2 key.length c2, _, _, _]
         rw [hlk.out]; rfl
       · show key.length <= c2
         rw [hlk.out]; exact hc2.out
       · show Rd _ W 1 A2 key.length _
         rw [hlk.out]
         exact hkb.keep fun j hj => by
           obtain ⟨⟨h1,h2⟩,bs,h3⟩:=hj
           have h4:=hO.block j h1 (Blk.ne_ h3 hbA (by decide))
           have h5 : Blk W j 5 bs:=Eq.trans h4 h3
           exact ⟨⟨⟨h5.lt,h2⟩,bs,h5⟩,h4⟩)
     have hbf:=(((hbA.set_ 0 (.slice A2 L c2)).set_ 1 (.slice none 0 0)).set_ 2 (.int .i64 (o1 : Int))).set_ 3 (.int .i64 (M : Int))
     have hOf : Only (fun j => j=gA) wr ((((wr.setCell ⟨gA,0,none⟩ (.slice A2 L c2)).setCell ⟨gA,1,none⟩ (.slice none 0 0)).setCell ⟨gA,2,none⟩ (.int .i64 (o1 : Int))).setCell ⟨gA,3,none⟩ (.int .i64 (M : Int))) :=
       ((((Only.refl (fun j => j=gA) wr).setCell (p:=⟨gA,0,none⟩) (fun _ => rfl) _).setCell (p:=⟨gA,1,none⟩) (fun _ => rfl) _).setCell (p:=⟨gA,2,none⟩) (fun _ => rfl) _).setCell (p:=⟨gA,3,none⟩) (fun _ => rfl) _
     replace hP1:=hide hP1
     replace hok1:=hide hok1
     replace hov1:=hide hov1
     replace hE1:=hide hE1
     replace hbA:=hide hbA
     replace hbB:=hide hbB
     replace hnA:=hide hnA
     replace hnB:=hide hnB
     replace hkb:=hide hkb
     replace htr:=hide htr
     replace hbf:=hide hbf
     replace hOf:=hide hOf
     go_wp2_with fail
     refine bodyPost_ret (v:=.tuple #[.agg #[.slice A2 L c2,.slice none 0 0,.int .i64 (o1 : Int),.int .i64 (M : Int)],.int .i64 0]) ?_ rfl (hfin.out _ hOf.out)
     obtain ⟨Wf,hWf⟩ : ∃ Wf,Wf=((((wr.setCell ⟨gA,0,none⟩ (.slice A2 L c2)).setCell ⟨gA,1,none⟩ (.slice none 0 0)).setCell ⟨gA,2,none⟩ (.int .i64 (o1 : Int))).setCell ⟨gA,3,none⟩ (.int .i64 (M : Int))):=⟨_,rfl⟩
     replace hbf:=hbf.out
     rw [<- hWf] at hbf ⊢
     have j0 : Wf.cell? ⟨gA,0,none⟩=some (.slice A2 L c2):=hbf.cell 0
     have j1 : Wf.cell? ⟨gA,1,none⟩=some (.slice none 0 0):=hbf.cell 1
     have j2 : Wf.cell? ⟨gA,2,none⟩=some (.int .i64 (o1 : Int)):=hbf.cell 2
     have j3 : Wf.cell? ⟨gA,3,none⟩=some (.int .i64 (M : Int)):=hbf.cell 3
     simp [results,Tryz.results35,go_sem,j0,j1,j2,j3]
   | succ r =>
     obtain ⟨X,hX⟩ : ∃ X : Nat,X=505 * r:=⟨_,rfl⟩
     have e505 : 505 * ((r + 1 : Nat) : Int) - 505=(X : Int):=by omega
     rw [e505]
     have hXM : X < M:=by have:=hQM.out; have hrq : r<=Q:=(by omega); omega
     rw [piecesUp_succ] at hov1
     obtain ⟨PC,hPC⟩ : ∃ PC,PC=(b.drop (505 * r)).take 505:=⟨_,rfl⟩
     rw [<- hPC] at hov1
     obtain ⟨ha,hrest⟩ : CanAlloc st1/\OverR (writeS (allocS st1) (allocN st1) (leB 3 o1 ++ PC)) (piecesUp b r).reverse (allocN st1) st' o:=by
       cases hov1 with
       | cons _ _ _ _ _ _ ha hr => exact ⟨ha,hr⟩
     obtain ⟨T,hT⟩ : ∃ T,T=min (X + 505) M:=⟨_,rfl⟩
     have hTM : T<=M:=by omega
     have hXT : X < T:=by omega
     have hPL : PC.length=T - X:=by rw [hPC,List.length_take,List.length_drop,hlb.out]; omega
     have hal:=hide (alloc_any wr F1 gp st1 hP1 ha hok1.free)
     obtain ⟨hok2,hhas2⟩:=hok1.alloc ha
     obtain ⟨no,hno⟩ : ∃ no,no=allocN st1:=⟨_,rfl⟩
     obtain ⟨st2,hst2⟩ : ∃ st2,st2=allocS st1:=⟨_,rfl⟩
     unfold AllocEnd at hal
     rw [<- hno,<- hst2] at hal hrest
     rw [<- hno,<- hst2] at hhas2
     rw [<- hst2] at hok2
     replace hP1:=hide hP1
     replace hok1:=hide hok1
     replace hov1:=hide hov1
     replace hE1:=hide hE1
     replace hbA:=hide hbA
     replace hbB:=hide hbB
     replace hnA:=hide hnA
     replace hnB:=hide hnB
     replace hkb:=hide hkb
     replace htr:=hide htr
     replace hrest:=hide hrest
     replace hPL:=hide hPL
     replace hPC:=hide hPC
     replace hT:=hide hT
     replace hno:=hide hno
     replace hst2:=hide hst2
     replace hX:=hide hX
     clear a0 a1 a2 a3 a0f a1f a2f a3f
     go_wp2_with fail
     go_at_call 68
     refine hal.out.mono ?_
     rintro e w5 ⟨rfl,F5,hP5,hE5⟩
     have hbA5:=hE5.blk hbA.out hnA.out
     have hbB5:=hE5.blk hbB.out hnB.out
     have hnA5:=hE5.new hnA.out (Blk.lt hbA.out)
     have hnB5:=hE5.new hnB.out (Blk.lt hbB.out)
     have hk5:=hkb.out.evB hE5
     have ht5:=htr.out.ev hE5
     have hEw5:=hE1.out.trans hE5
     have hv5:=hv.out.ev hEw5
     have t5 : w5.cell? ⟨gt,0,none⟩=some (.pointer (some ⟨gp,0,none⟩)):=ht5.blk.cell 0
     have c2' : w5.cell? ⟨gB,2,none⟩=some (.int .i64 (o1 : Int)):=hbB5.cell 2
     replace hP5:=hide hP5
     replace hE5:=hide hE5
     replace hbA5:=hide hbA5
     replace hbB5:=hide hbB5
     replace hnA5:=hide hnA5
     replace hnB5:=hide hnB5
     replace hk5:=hide hk5
     replace ht5:=hide ht5
     replace hEw5:=hide hEw5
     replace hv5:=hide hv5
     clear t0 b0 b1 b2 b3 b2f
     go_upto_region 12 with (fail)
     have hkp : Hid (∀ W,Below w5.heap.size w5 W->W.cell? ⟨gt,0,none⟩=some (.pointer (some ⟨gp,0,none⟩))/\W.cell? ⟨gB,2,none⟩=some (.int .i64 (o1 : Int))):=hide fun W hB => ⟨(hB.cell (World.block_lt_of_cell? w5 _ t5)).trans t5,(hB.cell (World.block_lt_of_cell? w5 _ c2')).trans c2'⟩
     have hkq : Hid (∀ W F',Ev F5 w5 F' W->W.cell? ⟨gt,0,none⟩=some (.pointer (some ⟨gp,0,none⟩))/\W.cell? ⟨gB,2,none⟩=some (.int .i64 (o1 : Int))):=hide fun W F' hE => ⟨(ht5.out.ev hE).blk.cell 0,(hE.blk hbB5.out hnB5.out).cell 2⟩
     have hwp : Hid (∀ W g,Below w5.heap.size w5 W->Blk W g 3 #[.int .i64 (o1 : Int)]->Calls Tryz.prog 70 #[.slice none 0 0,.int .i64 3,.slice (some ⟨g,0,none⟩) 1 1] W fun e ww => ∃ P pc,e=.returned (.slice P 3 pc)/\OB ww w5.heap.size (.slice P 3 pc) 3 (leB 3 o1)/\Below w5.heap.size w5 ww):=hide (by
       intro W g hB hb
       refine (wput_any W none (some ⟨g,0,none⟩) 0 0 1 1 3 [] [o1] (RB.nil _ _) (RN.one_blk hb) (by omega) (by omega) (by omega) (by omega) (fun x hx => by rw [List.mem_singleton.1 hx]; omega)).mono ?_
       rintro e ww ⟨v,rfl,hO,hB2⟩
       have e1 : leBs 3 [o1]=leB 3 o1:=by simp [leBs]
       rw [List.nil_append,e1,leB_len] at hO
       obtain ⟨P,pc,rfl,_⟩:=hO.form
       exact ⟨P,pc,rfl,own_moreB hO hB.size,hB.trans (hB2.mono hB.size)⟩)
     have hrb : Hid (∀ W,Below w5.heap.size w5 W->RB W W.heap.size (some (adv.add X)) (T - X) PC):=hide (by
       intro W hB
       have h1:=((hv5.out.ev (Ev.of_below hB)).cut (k:=X) (cap:=vc) (by omega) hvc).take (k:=T - X) (by omega)
       rw [if_neg (by omega)] at h1
       have e1 : (b.drop X).take (T - X)=PC:=by
         rw [hPC.out,<- hX.out,hT.out]
         have:=hlb.out
         by_cases h9 : X + 505<=M
         · rw [Nat.min_eq_left h9,Nat.add_sub_cancel_left]
         · rw [Nat.min_eq_right (by omega),List.take_of_length_le (by rw [List.length_drop]; omega),List.take_of_length_le (by rw [List.length_drop]; omega)]
       rw [e1] at h1
       exact h1.rb)
     have hwr : Hid (∀ W A n c,n=3 + (T - X)->Below w5.heap.size w5 W->RB W W.heap.size A n (leB 3 o1 ++ PC)->Calls Tryz.prog 69 #[.pointer (some ⟨gp,0,none⟩),.int .i64 (no : Int),.slice A n c] W (PgEnd F5 W gp (writeS st2 no (leB 3 o1 ++ PC)) (.int .i64 0))):=hide (by
       intro W A n c hn hB hr
       exact write_any W F5 gp st2 (hP5.out.below hB) no hhas2 A n c _ hr (by have:=hT.out; omega))
     have hTI : min ((X : Int) + 505) (M : Int)=(T : Int):=by have:=hT.out; omega
     have hXTI : (X : Int)<=(T : Int):=by omega
     have hTc : (T : Int)<=(vc : Int):=by omega
     have hvX : ¬ vc=X:=by omega
     have hXw : IntKind.i64.wrap ((X : Int) + 505)=(X : Int) + 505:=IntWalk.i64_in _ (by omega)
     go_cut [12] (fun v12 wx => v12=.int .i64 0/\Hid (∃ F6,PgAt wx F6 gp (writeS st2 no (leB 3 o1 ++ PC))/\Ev F5 w5 F6 wx))
     case first =>
       go_region_held3 (fun w' => w'.cell? ⟨gt,0,none⟩=some (.pointer (some ⟨gp,0,none⟩))/\w'.cell? ⟨gB,2,none⟩=some (.int .i64 (o1 : Int))) (first | exact ⟨t5,c2'⟩ | exact hkq.out _ _ hE57.out | exact hkp.out _ (by first | (with_reducible exact (Below.refl _ w5).drew) | (with_reducible exact Below.refl _ w5) | (with_reducible exact (Below.refl _ w5).alloc (Nat.le_refl _) _) | (with_reducible exact ((Below.refl _ w5).alloc (Nat.le_refl _) _).drew) | (with_reducible exact hbW.out) | (with_reducible exact hbW.out.drew) | (with_reducible exact hb6.out) | (with_reducible exact hb6.out.drew)) | go_keep) (first
         | (go_at_call 70; (with_reducible refine (hwp.out _ _ (by first | (with_reducible exact (Below.refl _ w5).drew) | (with_reducible exact Below.refl _ w5) | (with_reducible exact (Below.refl _ w5).alloc (Nat.le_refl _) _) | (with_reducible exact ((Below.refl _ w5).alloc (Nat.le_refl _) _).drew) | (with_reducible exact hbW.out) | (with_reducible exact hbW.out.drew) | (with_reducible exact hb6.out) | (with_reducible exact hb6.out.drew)) (by first | (with_reducible exact Blk.new _ _ _) | (with_reducible exact (Blk.new _ _ _).drew))).mono ?_); rintro e ww ⟨P,pc,rfl,hOw,hBw⟩; have hbW:=hide hBw; replace hOw:=hide hOw; clear hBw)
         | (rw [if_pos (by rfl)]; refine wp_app_bt (.tmp 55) (.tmp 63) rfl w5.heap.size (.slice P 3 pc) 3 (leB 3 o1) hOw.out rfl ww.heap.size (some (adv.add X)) (T - X) (vc - X) PC rfl (hrb.out _ (by first | (with_reducible exact (Below.refl _ w5).drew) | (with_reducible exact Below.refl _ w5) | (with_reducible exact (Below.refl _ w5).alloc (Nat.le_refl _) _) | (with_reducible exact ((Below.refl _ w5).alloc (Nat.le_refl _) _).drew) | (with_reducible exact hbW.out) | (with_reducible exact hbW.out.drew) | (with_reducible exact hb6.out) | (with_reducible exact hb6.out.drew))) (by omega) (by first | exact hbW.out.size | exact hbW.out.drew.size) ?_; intro v6 w6 hO6 hg6; have hb6 : Hid (Below w5.heap.size w5 w6):=hide (hbW.out.trans ((Below.refl w5.heap.size ww).grown hg6 hbW.out.size (fun j hj => (own_lt hOw.out hj).1))); (obtain ⟨P6,p6,rfl,hr6,_⟩:=hO6.form); replace hr6:=hide hr6; clear hO6 hg6)
         | (go_at_call 69; (with_reducible refine (hwr.out _ _ _ _ rfl hb6.out hr6.out).mono ?_); rintro e w7 ⟨rfl,F7,hP7,hE7⟩; have hE57:=hide ((Ev.of_below (F:=F5) hb6.out).trans hE7); replace hP7:=hide hP7; clear hE7))
       all_goals
         go_wp2_with fail
         go_meet
         case rel => exact ⟨rfl,hide ⟨F7,hP7.out,hE57.out⟩⟩
     case rest =>
       obtain ⟨rfl,hG7⟩:=hcut
       obtain ⟨F7,hP7,hE7⟩:=hG7.out
       have hb7:=hE7.blk hbB5.out hnB5.out
       have hrel : Hid (CellS F w gp st' o b L M gA gB A2 c2 key r (wc.setCell ⟨gB,2,none⟩ (.int .i64 (no : Int)))):=hide (by
         have hOg : Only (fun j => j=gB) wc (wc.setCell ⟨gB,2,none⟩ (.int .i64 (no : Int))):=(Only.refl (fun j => j=gB) wc).setCell (p:=⟨gB,2,none⟩) (fun _ => rfl) _
         have hnB7:=hE7.new hnB5.out (Blk.lt hbB5.out)
         have hE8 : Ev F w F7 (wc.setCell ⟨gB,2,none⟩ (.int .i64 (no : Int))):=by
           have h9:=hEw5.out.trans hE7
           exact ⟨h9.only.trans hOg (fun i hi e => by subst e; omega),h9.grow⟩
         refine ⟨F7,writeS st2 no (leB 3 o1 ++ PC),no,hP7.set_ hnB7 _,?_,hrest.out,hE8,hOg.blk (hE7.blk hbA5.out hnA5.out) hgAB,hb7.set_ 2 _,hE7.new hnA5.out (Blk.lt hbA5.out),hnB7,?_,?_⟩
         · exact hok2.write no _ (by have:=hPL.out; have:=hT.out; rw [List.length_append,leB_len]; omega)
         · exact (hk5.out.evB hE7).keep fun j hj => by
             obtain ⟨⟨h1,h2⟩,bs,h3⟩:=hj
             have h4:=hOg.block j h1 (Blk.ne_ h3 hb7 (by decide))
             have h5 : Blk _ j 5 bs:=Eq.trans h4 h3
             exact ⟨⟨⟨h5.lt,h2⟩,bs,h5⟩,h4⟩
         · have:=hhas2.2; have:=hok2.most; omega)
       have z2:=hb7.cell 2
       have z2f:=hb7.frozen 2
       have hXw2 : IntKind.i64.wrap ((X : Int) - 505)=(X : Int) - 505:=IntWalk.i64_in _ (by omega)
       replace hP7:=hide hP7
       replace hE7:=hide hE7
       replace hb7:=hide hb7
       clear hG7 hkp hkq hwp hrb hwr hXw
       go_wp2_with fail
       go_roundw
       case rel => exact ⟨r,by congr 1; have:=hX.out; omega,by omega,hrel⟩
       case measure => simp only [intOf]; omega
theorem cell_any (w : World) (F : Nat->Prop) (gt gp k : Nat) (st st1 : PgS) (c : CellP) (h : PgAt w F gp st) (ht : TreeAt w F gt gp k) (ho : st.ok) (kA vA : Option Addr) (L M kc vc : Nat) (key b : List UInt8) (hk : MB F w kA L key) (hv : MB F w vA M b) (hvc : M<=vc) (hL : L<=1000000) (hM : M<=20000)
   (hcr : CellR st key b st1 c) : Calls Tryz.prog 35 #[.pointer (some ⟨gt,0,none⟩),.slice kA L kc,.slice vA M vc] w (CellEndG F w gp st1 c):=by
 rcases hcr with ⟨hs,rfl,rfl⟩ | ⟨hl,o,hov,rfl⟩
 · refine (cell_short w gt kA vA L M kc vc key b hk.rb hv.rb hL (by have := hv.len; omega)).mono ?_
   rintro e w' ⟨x0,x1,rfl,hcv,hB⟩
   exact ⟨x0,x1,F,rfl,h.below hB,Ev.of_below hB,hcv.mono fun j hj => ⟨⟨Blk.lt hj.2.choose_spec,fun hf => by have:=h.lt j hf; have:=hj.1; omega⟩,hj.2⟩⟩
 · obtain rfl := hv.len
   exact cell_long w F gt gp k st st1 o h ht ho kA vA L _ kc vc key b hk hv hvc hL hl hM hov
set_option maxHeartbeats 2000000 in
theorem top_stays (w : World) (F : Nat->Prop) (gt gp k : Nat) (st : PgS) (h : PgAt w F gp st) (ht : TreeAt w F gt gp k) (gl no : Nat) (n : NodeP) (hb : Blk w gl 131 #[.slice none 0 0,.int .i64 (no : Int)]) (hnl : ¬ F gl) (hl : LoadR st no n) (hleaf : n.leaf=true) (hne : n.cells ≠ []) :
   Calls Tryz.prog 42 #[.pointer (some ⟨gt,0,none⟩),.slice (some ⟨gl,0,none⟩) 1 1] w (PgEnd F w gp st (.int .i64 0)):=by
 have hld:=hide (load_any w F gt gp k st h ht no n hl hleaf)
 have hgl:=Blk.lt hb
 have p0:=hb.cell 0
 have p1 : w.cell? ⟨gl,1,none⟩=some (.int .i64 (no : Int)):=hb.cell 1
 obtain ⟨N,hN⟩ : ∃ N,N=n.cells.length:=⟨_,rfl⟩
 have hN0 : (0 : Int) < (N : Int):=by
   have : n.cells.length ≠ 0:=fun e => hne (List.eq_nil_of_length_eq_zero e)
   omega
 have hNd : decide ((0 : Int) < (N : Int))=true:=decide_eq_true hN0
 have hNn : decide (0 < N)=true:=decide_eq_true (by omega)
 obtain ⟨K,hK⟩ : ∃ K,K=n.kids.length:=⟨_,rfl⟩
 obtain ⟨lf,hlf⟩ : ∃ lf,lf=n.leaf:=⟨_,rfl⟩
 replace h:=hide h
 replace ht:=hide ht
 replace hl:=hide hl
 replace hleaf:=hide hleaf
 replace hne:=hide hne
 replace hb:=hide hb
 replace hK:=hide hK
 replace hN:=hide hN
 replace hlf:=hide hlf
 go_enter Tryz.func42,Tryz.ntmps42
 go_wp2_with fail
 go_at_call 45
 refine hld.out.mono ?_
 rintro e w1 ⟨F1,cv,kv,B0,rfl,hP1,hE1,hF1,hwB,hO1⟩
 obtain ⟨A1,c1,rfl⟩:=own_form hO1.kids
 obtain ⟨A2,c2,rfl⟩:=own_form hO1.rows.choose_spec.2.1
 rw [<- hN.out,<- hK.out,<- hlf.out]
 have hdone : Hid (∀ W,Below w1.heap.size w1 W->PgEnd F w gp st (.int .i64 0) (.returned (.int .i64 0)) W):=hide fun W hB => ⟨rfl,F1,hP1.below hB,hE1.below hB⟩
 have hB1:=(Below.refl w1.heap.size w1).alloc (Nat.le_refl _) (.cells #[.bool lf,.slice A2 N c2,.slice A1 K c1] 89)
 have hbn:=Blk.new w1 89 #[.bool lf,.slice A2 N c2,.slice A1 K c1]
 have d0:=hbn.cell 0
 have d1:=hbn.cell 1
 have d2:=hbn.cell 2
 replace hbn:=hide hbn
 replace hB1:=hide hB1
 replace hO1:=hide hO1
 replace hF1:=hide hF1
 replace hP1:=hide hP1
 replace hE1:=hide hE1
 go_wp2_with fail
 go_ret
 exact hdone.out _ hB1.out
set_option maxHeartbeats 2000000 in
theorem put_first (w : World) (F : Nat->Prop) (gt gp k : Nat) (st : PgS) (h : PgAt w F gp st) (ht : TreeAt w F gt gp k) (hk8 : k < 8) (key b : List UInt8) (kA vA : Option Addr) (kc vc : Nat) (hk : MB F w kA key.length key) (hv : MB F w vA b.length b)
   (h1 : 1<=key.length) (h2 : key.length<=120) (h3 : b.length<=64) (h0 : st.roots k=0) (ha : CanAlloc st) (hf : st.free < st.many) (hs : CanSave (allocS st) (allocN st) ⟨true,[⟨key,b,0,0⟩],[]⟩) (hn : allocN st < (allocS st).many) :
   Calls Tryz.prog 11 #[.pointer (some ⟨gt,0,none⟩),.slice kA key.length kc,.slice vA b.length vc] w (PgEnd F w gp (setRootS (saveS (allocS st) (allocN st) ⟨true,[⟨key,b,0,0⟩],[]⟩) k (allocN st)) (.int .i64 0)):=by
 obtain ⟨L,hL⟩ : ∃ L,L=key.length:=⟨_,rfl⟩
 obtain ⟨M,hM⟩ : ∃ M,M=b.length:=⟨_,rfl⟩
 rw [<- hL] at hk h1 h2 ⊢
 rw [<- hM] at hv h3 ⊢
 have l1 : decide ((L : Int) < 1)=false:=decide_eq_false (by omega)
 have l2 : decide (120 < (L : Int))=false:=decide_eq_false (by omega)
 have l2n : decide (120 < L)=false:=decide_eq_false (by omega)
 have l3 : decide (20000 < (M : Int))=false:=decide_eq_false (by omega)
 have l3n : decide (20000 < M)=false:=decide_eq_false (by omega)
 have hL0 : ¬ L=0:=by omega
 have hE0 : Ev F w F (w.alloc (.cells #[.pointer (some ⟨gt,0,none⟩)] 30)):=(Ev.refl F w).alloc_ _
 have hb0:=Blk.new w 30 #[.pointer (some ⟨gt,0,none⟩)]
 have hP0:=h.alloc (.cells #[.pointer (some ⟨gt,0,none⟩)] 30)
 have hcl:=hide (cell_short (w.alloc (.cells #[.pointer (some ⟨gt,0,none⟩)] 30)) gt kA vA L M kc vc key b (hk.ev hE0).rb (hv.ev hE0).rb (by omega) h3)
 have c0 : (w.alloc (.cells #[.pointer (some ⟨gt,0,none⟩)] 30)).cell? ⟨w.heap.size,0,none⟩=some (.pointer (some ⟨gt,0,none⟩)):=hb0.cell 0
 have hgt:=Blk.lt ht.blk
 have hnF : ¬ F w.heap.size:=fun hf => by have:=h.lt _ hf; omega
 replace h:=hide h
 replace ht:=hide ht
 replace hk:=hide hk
 replace hv:=hide hv
 replace hL:=hide hL
 replace hM:=hide hM
 replace hE0:=hide hE0
 replace hb0:=hide hb0
 replace hP0:=hide hP0
 replace h1:=hide h1
 replace h2:=hide h2
 replace h3:=hide h3
 replace h0:=hide h0
 replace ha:=hide ha
 replace hf:=hide hf
 replace hs:=hide hs
 replace hn:=hide hn
 go_enter Tryz.func11,Tryz.ntmps11
 go_wp2_with fail
 go_at_call 35
 refine hcl.out.mono ?_
 rintro e w2 ⟨x0,x1,he,hcv,hB2⟩
 replace he : e=.returned (.tuple #[.agg #[x0,x1,.int .i64 0,.int .i64 0],.int .i64 0]):=he
 subst he
 have hcv2 : CellV (G5 (w.heap.size + 1) w2) w2 [x0,x1,.int .i64 0,.int .i64 0] ⟨key,b,0,0⟩:=by simpa using hcv
 obtain ⟨A0,y0,A1,y1,hx0,hx1⟩ : ∃ A0 y0 A1 y1,x0=.slice A0 L y0/\x1=.slice A1 M y1:=by
   obtain ⟨A0,y0,A1,y1,e9,_⟩:=hcv2
   injection e9 with e0 e9; injection e9 with e1 e9
   exact ⟨A0,y0,A1,y1,by rw [hL.out]; exact e0,by rw [hM.out]; exact e1⟩
 subst hx0; subst hx1
 have hb2:=hb0.out.below hB2 (by simp)
 have hE2:=hE0.out.below hB2
 have hP2:=hP0.out.below hB2
 have hs2:=hE2.size
 have hs2' : w.heap.size < w2.heap.size:=by have:=hB2.size; simp at this; omega
 obtain ⟨o,ho⟩ : ∃ o,o=Obj.cells #[.slice A0 L y0,.slice A1 M y1,.int .i64 0,.int .i64 0] 83 (0,0):=⟨_,rfl⟩
 have hE3 : Ev F w F (w2.alloc o):=hE2.alloc_ o
 have ht3:=ht.out.ev hE3
 have hP3:=hP2.alloc o
 have hb3:=hb2.alloc o
 have hc3 : Blk (w2.alloc o) w2.heap.size 83 #[.slice A0 L y0,.slice A1 M y1,.int .i64 0,.int .i64 0]:=by rw [ho]; exact Blk.new _ _ _
 have hrt:=hide (fun q => root_any ((w2.alloc o).drewN q) F gp st (hP3.drewN q) k hk8)
 rw [h0.out] at hrt
 have t0 : (w2.alloc o).cell? ⟨w.heap.size,0,none⟩=some (.pointer (some ⟨gt,0,none⟩)):=hb3.cell 0
 have t1 : (w2.alloc o).cell? ⟨gt,0,none⟩=some (.pointer (some ⟨gp,0,none⟩)):=ht3.blk.cell 0
 have t2 : (w2.alloc o).cell? ⟨gt,1,none⟩=some (.int .i64 (k : Int)):=ht3.blk.cell 1
 have t4:=hc3.cell 0
 have t5:=hc3.cell 1
 have t6:=hc3.cell 2
 have t7:=hc3.cell 3
 subst ho
 replace hcv:=hide hcv
 replace hcv2:=hide hcv2
 replace hB2:=hide hB2
 replace hb2:=hide hb2
 replace hE2:=hide hE2
 replace hP2:=hide hP2
 replace hE3:=hide hE3
 replace ht3:=hide ht3
 replace hP3:=hide hP3
 replace hb3:=hide hb3
 replace hc3:=hide hc3
 clear hcl
 go_wp2_with fail
 go_quiet (first | (go_at_call 23; exact quiet_left (hrt.out _)))
 obtain ⟨w5,hw5⟩ : ∃ w5,w5=(w2.alloc (.cells #[.slice A0 L y0,.slice A1 M y1,.int .i64 0,.int .i64 0] 83)).drewN nq:=⟨_,rfl⟩
 rw [<- hw5]
 have hE5 : Ev F w F w5:=by rw [hw5]; exact hE3.out.drewN nq
 have hP5 : PgAt w5 F gp st:=by rw [hw5]; exact hP3.out.drewN nq
 have hs5 : w5.heap.size=w2.heap.size + 1:=by rw [hw5]; simp [World.drewN]
 have t0 : w5.cell? ⟨w.heap.size,0,none⟩=some (.pointer (some ⟨gt,0,none⟩)):=by rw [hw5]; exact t0
 have r0 : w5.cell? ⟨w2.heap.size,0,none⟩=some (.slice A0 L y0):=by rw [hw5]; exact t4
 have r1 : w5.cell? ⟨w2.heap.size,1,none⟩=some (.slice A1 M y1):=by rw [hw5]; exact t5
 have r2 : w5.cell? ⟨w2.heap.size,2,none⟩=some (.int .i64 0):=by rw [hw5]; exact t6
 have r3 : w5.cell? ⟨w2.heap.size,3,none⟩=some (.int .i64 0):=by rw [hw5]; exact t7
 have hE6 : Ev F w F (w5.alloc (.cells #[.slice A0 L y0,.slice A1 M y1,.int .i64 0,.int .i64 0] 83)):=hE5.alloc_ _
 have hb6:=Blk.new w5 83 #[.slice A0 L y0,.slice A1 M y1,.int .i64 0,.int .i64 0]
 have hFlt:=h.out.lt
 have hn6 : NodeM (Mine F (w5.alloc (.cells #[.slice A0 L y0,.slice A1 M y1,.int .i64 0,.int .i64 0] 83))) (w5.alloc (.cells #[.slice A0 L y0,.slice A1 M y1,.int .i64 0,.int .i64 0] 83)) (.agg #[.bool true,.slice (some ⟨w5.heap.size,0,none⟩) 1 1,.slice none 0 0]) ⟨true,[⟨key,b,0,0⟩],[]⟩:=by
   refine ⟨some ⟨w5.heap.size,0,none⟩,1,none,0,rfl,Nat.le_refl _,Nat.le_refl _,⟨[[.slice A0 L y0,.slice A1 M y1,.int .i64 0,.int .i64 0]],rfl,⟨rfl,fun _ => ⟨_,rfl,⟨by simp,fun hf => by have h9 : w5.heap.size < w.heap.size:=hFlt _ hf; omega⟩,fun j u hu => ?_⟩⟩,fun q vs c e1 e2 => ?_⟩,Rd.none_⟩
   · rw [Addr.add_lit, Nat.zero_add, hb6.cell]
     simpa using hu
   · obtain rfl : q=0:=by
       have:=(List.getElem?_eq_some_iff.1 e1).1
       simp at this; exact this
     simp at e1 e2
     subst e1; subst e2
     refine hcv2.out.keep fun q hq => ?_
     obtain ⟨q1,cs,q2⟩:=hq
     have q3 : Blk (w5.alloc (.cells #[.slice A0 L y0,.slice A1 M y1,.int .i64 0,.int .i64 0] 83)) q 5 cs:=by
       rw [hw5]; exact ((q2.alloc _).drewN nq).alloc _
     exact ⟨⟨Blk.lt q3,fun hf => by have:=hFlt _ hf; omega⟩,Eq.trans q3 q2.symm⟩
 have hmk:=hide (make_any _ F gt gp k st (hP5.alloc (.cells #[.slice A0 L y0,.slice A1 M y1,.int .i64 0,.int .i64 0] 83)) (ht.out.ev hE6) ⟨true,[⟨key,b,0,0⟩],[]⟩ _ hn6 ha.out hf.out hs.out)
 have hb6t : (w5.alloc (.cells #[.slice A0 L y0,.slice A1 M y1,.int .i64 0,.int .i64 0] 83)).cell? ⟨w.heap.size,0,none⟩=some (.pointer (some ⟨gt,0,none⟩)):=by
   rw [World.cell?_alloc_lt _ _ _ (by show w.heap.size < w5.heap.size; omega)]; exact t0
 obtain ⟨no,hno⟩ : ∃ no,no=allocN st:=⟨_,rfl⟩
 obtain ⟨st1,hst1⟩ : ∃ st1,st1=saveS (allocS st) no ⟨true,[⟨key,b,0,0⟩],[]⟩:=⟨_,rfl⟩
 rw [<- hno,<- hst1] at hmk ⊢
 have hnm : Hid (no < st1.many):=hide (by rw [hst1,hno]; exact hn.out)
 replace hno:=hide hno
 replace hst1:=hide hst1
 replace hw5:=hide hw5
 replace hs5:=hide hs5
 replace hE5:=hide hE5
 replace hP5:=hide hP5
 replace hE6:=hide hE6
 replace hb6:=hide hb6
 replace hFlt:=hide hFlt
 replace hn6:=hide hn6
 go_wp2_with fail
 go_at_call 36
 refine hmk.out.mono ?_
 rintro e w7 ⟨rfl,F7,hP7,hE7⟩
 have ht7:=ht.out.ev (hE6.out.trans hE7)
 have u0 : w7.cell? ⟨w.heap.size,0,none⟩=some (.pointer (some ⟨gt,0,none⟩)):=(hE7.cell (p:=⟨w.heap.size,0,none⟩) ⟨by have:=hs5.out; show w.heap.size < (w5.alloc _).heap.size; simp; omega,hnF⟩).trans hb6t
 have u1 : w7.cell? ⟨gt,0,none⟩=some (.pointer (some ⟨gp,0,none⟩)):=ht7.blk.cell 0
 have u2 : w7.cell? ⟨gt,1,none⟩=some (.int .i64 (k : Int)):=ht7.blk.cell 1
 have hsr:=hide (setRoot_any w7.drew F7 gp st1 hP7.drew k no hk8 hnm.out)
 have hE7w:=hide ((hE6.out.trans hE7).drew)
 replace ht7:=hide ht7
 replace hP7:=hide hP7
 replace hE7:=hide hE7
 have hfold : Hid (∀ w8,PgEnd F w gp (setRootS st1 k no) (.int .i64 0) (.returned (.int .i64 0)) w8->PgEnd F w gp (setRootS (saveS (allocS st) (allocN st) ⟨true,[⟨key,b,0,0⟩],[]⟩) k (allocN st)) (.int .i64 0) (.returned (.int .i64 0)) w8):=hide fun w8 h9 => by
   rw [hst1.out,hno.out] at h9; exact h9
 clear hmk hrt
 go_wp2_with fail
 go_region_law (go_simp; go_at_call 37; refine hsr.out.mono ?_; rintro e w8 ⟨rfl,F8,hP8,hE8⟩; (have hdone:=hfold.out w8 ⟨rfl,F8,hP8,hE7w.out.trans hE8⟩); replace hdone:=hide hdone; replace hP8:=hide hP8; replace hE8:=hide hE8)
 all_goals
   go_wp2_with fail
   go_ret
   exact hdone.out
theorem findP_le (n : NodeP) (key : List UInt8) (h : (findP n key).2=false) : (findP n key).1<=n.cells.length:=by
 unfold findP at h ⊢
 by_cases h9 : keyAt n.cells (findI n.cells key) key=true
 · rw [if_pos h9] at h; cases h
 · rw [if_neg h9]
   exact List.Sublist.length_le (List.takeWhile_sublist _)
theorem CellV.evB {F F' : Nat->Prop} {w w' : World} {vs : List Value} {c : CellP} (h : CellV (byteOf F w) w vs c) (he : Ev F w F' w') : CellV (byteOf F' w') w' vs c :=
 h.keep fun k hk => by
   obtain ⟨h1,cs,h2⟩:=hk
   have:=he.block h1
   exact ⟨⟨he.mine h1,cs,Eq.trans this h2⟩,this⟩
set_option maxHeartbeats 2000000 in
theorem put_more (w : World) (F : Nat->Prop) (gt gp k : Nat) (st : PgS) (h : PgAt w F gp st) (ht : TreeAt w F gt gp k) (hk8 : k < 8) (key b : List UInt8) (kA vA : Option Addr) (kc vc : Nat) (hk : MB F w kA key.length key) (hv : MB F w vA b.length b)
   (h1 : 1<=key.length) (h2 : key.length<=120) (h3 : b.length<=64) (no : Nat) (h0 : st.roots k=no) (hno : no ≠ 0) (n n1 : NodeP) (hl : LoadR st no n) (hleaf : n.leaf=true) (hnew : (findP n key).2=false) (hn1 : n1=⟨n.leaf,insAt n.cells (findP n key).1 ⟨key,b,0,0⟩,n.kids⟩) (hs : CanSave st no n1) :
   Calls Tryz.prog 11 #[.pointer (some ⟨gt,0,none⟩),.slice kA key.length kc,.slice vA b.length vc] w (PgEnd F w gp (saveS st no n1) (.int .i64 0)):=by
 have hnoI : ((no : Int) == 0)=false:=by rw [beq_eq_false_iff_ne]; omega
 obtain ⟨L,hL⟩ : ∃ L,L=key.length:=⟨_,rfl⟩
 obtain ⟨M,hM⟩ : ∃ M,M=b.length:=⟨_,rfl⟩
 rw [<- hL] at hk h1 h2 ⊢
 rw [<- hM] at hv h3 ⊢
 have l1 : decide ((L : Int) < 1)=false:=decide_eq_false (by omega)
 have l2 : decide (120 < (L : Int))=false:=decide_eq_false (by omega)
 have l2n : decide (120 < L)=false:=decide_eq_false (by omega)
 have l3 : decide (20000 < (M : Int))=false:=decide_eq_false (by omega)
 have l3n : decide (20000 < M)=false:=decide_eq_false (by omega)
 have hL0 : ¬ L=0:=by omega
 have hE0 : Ev F w F (w.alloc (.cells #[.pointer (some ⟨gt,0,none⟩)] 30)):=(Ev.refl F w).alloc_ _
 have hb0:=Blk.new w 30 #[.pointer (some ⟨gt,0,none⟩)]
 have hP0:=h.alloc (.cells #[.pointer (some ⟨gt,0,none⟩)] 30)
 have hcl:=hide (cell_short (w.alloc (.cells #[.pointer (some ⟨gt,0,none⟩)] 30)) gt kA vA L M kc vc key b (hk.ev hE0).rb (hv.ev hE0).rb (by omega) h3)
 have c0 : (w.alloc (.cells #[.pointer (some ⟨gt,0,none⟩)] 30)).cell? ⟨w.heap.size,0,none⟩=some (.pointer (some ⟨gt,0,none⟩)):=hb0.cell 0
 have hgt:=Blk.lt ht.blk
 have hnF : ¬ F w.heap.size:=fun hf => by have:=h.lt _ hf; omega
 replace h:=hide h
 replace ht:=hide ht
 replace hk:=hide hk
 replace hv:=hide hv
 replace hL:=hide hL
 replace hM:=hide hM
 replace hE0:=hide hE0
 replace hb0:=hide hb0
 replace hP0:=hide hP0
 replace h1:=hide h1
 replace h2:=hide h2
 replace h3:=hide h3
 replace h0:=hide h0
 replace hs:=hide hs
 replace hl:=hide hl
 replace hleaf:=hide hleaf
 replace hnew:=hide hnew
 replace hn1:=hide hn1
 replace hno:=hide hno
 go_enter Tryz.func11,Tryz.ntmps11
 go_wp2_with fail
 go_at_call 35
 refine hcl.out.mono ?_
 rintro e w2 ⟨x0,x1,he,hcv,hB2⟩
 replace he : e=.returned (.tuple #[.agg #[x0,x1,.int .i64 0,.int .i64 0],.int .i64 0]):=he
 subst he
 have hcv2 : CellV (G5 (w.heap.size + 1) w2) w2 [x0,x1,.int .i64 0,.int .i64 0] ⟨key,b,0,0⟩:=by simpa using hcv
 obtain ⟨A0,y0,A1,y1,hx0,hx1⟩ : ∃ A0 y0 A1 y1,x0=.slice A0 L y0/\x1=.slice A1 M y1:=by
   obtain ⟨A0,y0,A1,y1,e9,_⟩:=hcv2
   injection e9 with e0 e9; injection e9 with e1 e9
   exact ⟨A0,y0,A1,y1,by rw [hL.out]; exact e0,by rw [hM.out]; exact e1⟩
 subst hx0; subst hx1
 have hb2:=hb0.out.below hB2 (by simp)
 have hE2:=hE0.out.below hB2
 have hP2:=hP0.out.below hB2
 have hs2:=hE2.size
 have hs2' : w.heap.size < w2.heap.size:=by have:=hB2.size; simp at this; omega
 obtain ⟨o,ho⟩ : ∃ o,o=Obj.cells #[.slice A0 L y0,.slice A1 M y1,.int .i64 0,.int .i64 0] 83 (0,0):=⟨_,rfl⟩
 have hE3 : Ev F w F (w2.alloc o):=hE2.alloc_ o
 have ht3:=ht.out.ev hE3
 have hP3:=hP2.alloc o
 have hb3:=hb2.alloc o
 have hc3 : Blk (w2.alloc o) w2.heap.size 83 #[.slice A0 L y0,.slice A1 M y1,.int .i64 0,.int .i64 0]:=by rw [ho]; exact Blk.new _ _ _
 have hrt:=hide (fun q => root_any ((w2.alloc o).drewN q) F gp st (hP3.drewN q) k hk8)
 rw [h0.out] at hrt
 have t0 : (w2.alloc o).cell? ⟨w.heap.size,0,none⟩=some (.pointer (some ⟨gt,0,none⟩)):=hb3.cell 0
 have t1 : (w2.alloc o).cell? ⟨gt,0,none⟩=some (.pointer (some ⟨gp,0,none⟩)):=ht3.blk.cell 0
 have t2 : (w2.alloc o).cell? ⟨gt,1,none⟩=some (.int .i64 (k : Int)):=ht3.blk.cell 1
 have t4:=hc3.cell 0
 have t5:=hc3.cell 1
 have t6:=hc3.cell 2
 have t7:=hc3.cell 3
 subst ho
 replace hcv:=hide hcv
 replace hcv2:=hide hcv2
 replace hB2:=hide hB2
 replace hb2:=hide hb2
 replace hE2:=hide hE2
 replace hP2:=hide hP2
 replace hE3:=hide hE3
 replace ht3:=hide ht3
 replace hP3:=hide hP3
 replace hb3:=hide hb3
 replace hc3:=hide hc3
 clear hcl
 go_wp2_with fail
 go_quiet (first | (go_at_call 23; exact quiet_left (hrt.out _)))
 obtain ⟨w5,hw5⟩ : ∃ w5,w5=(w2.alloc (.cells #[.slice A0 L y0,.slice A1 M y1,.int .i64 0,.int .i64 0] 83)).drewN nq:=⟨_,rfl⟩
 rw [<- hw5]
 have hE5 : Ev F w F w5:=by rw [hw5]; exact hE3.out.drewN nq
 have hP5 : PgAt w5 F gp st:=by rw [hw5]; exact hP3.out.drewN nq
 have hs5 : w5.heap.size=w2.heap.size + 1:=by rw [hw5]; simp [World.drewN]
 have t0 : w5.cell? ⟨w.heap.size,0,none⟩=some (.pointer (some ⟨gt,0,none⟩)):=by rw [hw5]; exact t0
 have r0 : w5.cell? ⟨w2.heap.size,0,none⟩=some (.slice A0 L y0):=by rw [hw5]; exact t4
 have r1 : w5.cell? ⟨w2.heap.size,1,none⟩=some (.slice A1 M y1):=by rw [hw5]; exact t5
 have r2 : w5.cell? ⟨w2.heap.size,2,none⟩=some (.int .i64 0):=by rw [hw5]; exact t6
 have r3 : w5.cell? ⟨w2.heap.size,3,none⟩=some (.int .i64 0):=by rw [hw5]; exact t7
 have ht5:=ht.out.ev hE5
 have hgcF : ¬ F w2.heap.size:=fun hf => by have:=h.out.lt _ hf; omega
 have hFlt:=h.out.lt
 have hc5 : Blk w5 w2.heap.size 83 #[.slice A0 L y0,.slice A1 M y1,.int .i64 0,.int .i64 0]:=by rw [hw5]; exact hc3.out.drewN nq
 have hcv5 : CellV (byteOf F w5) w5 [.slice A0 L y0,.slice A1 M y1,.int .i64 0,.int .i64 0] ⟨key,b,0,0⟩:=hcv2.out.keep fun q hq => by
   obtain ⟨q1,cs,q2⟩:=hq
   have q3 : Blk w5 q 5 cs:=by rw [hw5]; exact (q2.alloc _).drewN nq
   exact ⟨⟨⟨Blk.lt q3,fun hf => by have:=hFlt _ hf; omega⟩,cs,q3⟩,Eq.trans q3 q2.symm⟩
 have hlenn : n.cells.length<=100000:=by have:=hl.out.2.1.many; omega
 have hop : OpC 39 (.pointer (some ⟨w2.heap.size,0,none⟩)) (.pointer (some ⟨w.heap.size,0,none⟩)) w5 F gp st n (findP n key).1 (findP n key).2 st n1:=by
   intro w1 F1 gn B cv kv q1 q2 q3 q4 q5 q6 q7 q8
   rw [hnew.out,hn1.out]
   exact put1_new w1 F1 gp st q1 gn w2.heap.size w.heap.size B w5.heap.size (findP n key).1 cv kv n ⟨key,b,0,0⟩ _ _ _ _ q3 q4 (q2.blk hc5 hgcF) (hcv5.evB q2) (findP_le n key hnew.out) hlenn q6 q7 q8 q5
 have hly : LayC w5 F gt gp k no st n1 (saveS st no n1) none:=fun w1 F1 v q1 q2 q3 => lay_fits w1 F1 gt gp k st q1 q2 no n1 v q3 hs.out
 have hk5:=hk.out.ev hE5
 rw [hL.out] at hk5
 have hch:=hide (change_leaf w5 F gt gp k st hP5 ht5 no n hl.out hleaf.out kA kc key hk5 w2.heap.size w.heap.size st (saveS st no n1) n1 none hop hly)
 rw [<- hL.out] at hch
 clear hop hly hk5
 replace hw5:=hide hw5
 replace hs5:=hide hs5
 replace hE5:=hide hE5
 replace hP5:=hide hP5
 replace ht5:=hide ht5
 replace hc5:=hide hc5
 replace hcv5:=hide hcv5
 replace hFlt:=hide hFlt
 replace hgcF:=hide hgcF
 clear hrt
 go_wp2_with fail
 go_at_call 38
 refine hch.out.mono ?_
 rintro e w8 ⟨F8,gl,m,rfl,hP8,hE8,hgl,hnl,rfl,hb8⟩
 have hE8w:=hE5.out.trans hE8
 have u0 : w8.cell? ⟨w.heap.size,0,none⟩=some (.pointer (some ⟨gt,0,none⟩)):=(hE8.cell (p:=⟨w.heap.size,0,none⟩) ⟨by have:=hs5.out; show w.heap.size < w5.heap.size; omega,hnF⟩).trans t0
 have htp:=hide (top_stays w8 F8 gt gp k (saveS st no n1) hP8 (ht.out.ev hE8w) gl no n1 hb8 hnl (load_saved hs.out) (by rw [hn1.out]; exact hleaf.out) (by rw [hn1.out]; unfold insAt; simp))
 replace hE8w:=hide hE8w
 replace hE8:=hide hE8
 replace hP8:=hide hP8
 replace hb8:=hide hb8
 go_wp2_with fail
 go_at_call 42
 refine htp.out.mono ?_
 rintro e w9 ⟨rfl,F9,hP9,hE9⟩
 have hdone : Hid (PgEnd F w gp (saveS st no n1) (.int .i64 0) (.returned (.int .i64 0)) w9):=hide ⟨rfl,F9,hP9,hE8w.out.trans hE9⟩
 replace hP9:=hide hP9
 replace hE9:=hide hE9
 go_wp2_with fail
 go_ret
 exact hdone.out
def StepV (G : Nat->Prop) (w : World) (vs : List Value) (s : NodeP × Nat) : Prop :=
 ∃ A c B d,vs=[.bool s.1.leaf,.slice A s.1.cells.length c,.slice B s.1.kids.length d,.int .i64 (s.2 : Int)]/\NodeM G w (.agg #[.bool s.1.leaf,.slice A s.1.cells.length c,.slice B s.1.kids.length d]) s.1
def FC (F C : Nat->Prop) (k : Nat) : Prop:=F k \/ C k
structure CurAt (F C : Nat->Prop) (w : World) (gc gt : Nat) (way : List (NodeP × Nat)) (from_ : List UInt8) (tgt : Int) (er : Int) : Prop where
 mem : ∃ wv fA fc,Blk w gc 115 #[.pointer (some ⟨gt,0,none⟩),wv,.slice fA from_.length fc,.int .i64 tgt,.int .i64 er]/\MB (FC F C) w fA from_.length from_ /\
   (∀ k,wv.ownBlock=some k->C k)/\∃ rows : List (List Value),rows.length=way.length/\w.ownsRow 0 151 4 wv way.length rows.flatten/\∀ (k : Nat) (vs : List Value) (s : NodeP × Nat),rows[k]?=some vs->way[k]?=some s->StepV (Mine (FC F C) w) w vs s
 own : C gc
 apart : ∀ k,C k->¬ F k
 lt : ∀ k,C k->k < w.heap.size
section
variable {F F' C : Nat->Prop} {w w' : World} {gc gt : Nat} {way : List (NodeP × Nat)} {from_ : List UInt8} {tgt er : Int}
theorem StepV.ev {vs : List Value} {s : NodeP × Nat} (h : StepV (Mine F w) w vs s) (he : Ev F w F' w') : StepV (Mine F' w') w' vs s:=by
 obtain ⟨A,c,B,d,e,hn⟩:=h
 exact ⟨A,c,B,d,e,hn.ev he⟩
theorem CurAt.ev (h : CurAt F C w gc gt way from_ tgt er) (he : Ev F w F' w') : CurAt F' C w' gc gt way from_ tgt er:=by
 obtain ⟨wv,fA,fc,hb,hm,ho,rows,h1,h2,h3⟩:=h.mem
 have he2 : Ev (FC F C) w (FC F' C) w':=he.add C
 refine ⟨⟨wv,fA,fc,he.blk hb (h.apart _ h.own),hm.ev he2,ho,rows,h1,he.only.row h2 (fun k hk => h.apart k (ho k hk)),fun k vs s e1 e2 => (h3 k vs s e1 e2).ev he2⟩,h.own,fun k hk => he.new (h.apart k hk) (h.lt k hk),fun k hk => Nat.lt_of_lt_of_le (h.lt k hk) he.size⟩
end
set_option maxHeartbeats 2000000 in
theorem seek_any (w : World) (F : Nat->Prop) (gt gp k : Nat) (st : PgS) (h : PgAt w F gp st) (ht : TreeAt w F gt gp k) (hk8 : k < 8) (key : List UInt8) (kA : Option Addr) (kc : Nat) (hk : MB F w kA key.length key) (hlen : key.length<=1000000) :
   Calls Tryz.prog 25 #[.pointer (some ⟨gt,0,none⟩),.slice kA key.length kc] w fun e w' => ∃ gc,e=.returned (.pointer (some ⟨gc,0,none⟩))/\Below w.heap.size w w'/\w.heap.size<=gc/\CurAt F (fun j => j=gc) w' gc gt [] key (st.roots k : Int) 0:=by
 obtain ⟨L,hL⟩ : ∃ L,L=key.length:=⟨_,rfl⟩
 rw [<- hL] at hk hlen ⊢
 have hFlt:=h.lt
 have hgt:=Blk.lt ht.blk
 have t1 : w.cell? ⟨gt,0,none⟩=some (.pointer (some ⟨gp,0,none⟩)):=ht.blk.cell 0
 have t2 : w.cell? ⟨gt,1,none⟩=some (.int .i64 (k : Int)):=ht.blk.cell 1
 have hcl:=hide (tclone_any kA L kc key w.drew hk.rb (by omega))
 obtain ⟨R,hR⟩ : ∃ R,R=st.roots k:=⟨_,rfl⟩
 have hrt : Hid (∀ W,Below w.heap.size w W->Calls Tryz.prog 23 #[.pointer (some ⟨gp,0,none⟩),.int .i64 (k : Int)] W fun e w' => e=.returned (.int .i64 (R : Int))/\W=w'):=hide fun W hB => by
   rw [hR]; exact root_any W F gp st (h.below hB) k hk8
 have hfin : Hid (∀ W A c,OB W w.heap.size (.slice A L c) L key->Below w.heap.size w W->∃ gc,Ending.returned (.pointer (some ⟨W.heap.size,0,none⟩))=.returned (.pointer (some ⟨gc,0,none⟩))/\Below w.heap.size w (W.alloc (.cells #[.pointer (some ⟨gt,0,none⟩),.slice none 0 0,.slice A L c,.int .i64 (R : Int),.int .i64 0] 115))/\w.heap.size<=gc/\CurAt F (fun j => j=gc) (W.alloc (.cells #[.pointer (some ⟨gt,0,none⟩),.slice none 0 0,.slice A L c,.int .i64 (R : Int),.int .i64 0] 115)) gc gt [] key (st.roots k : Int) 0):=hide (by
   intro W A c hO hB
   have hE : Ev (FC F (fun j => j=W.heap.size)) W (FC F (fun j => j=W.heap.size)) (W.alloc (.cells #[.pointer (some ⟨gt,0,none⟩),.slice none 0 0,.slice A L c,.int .i64 (R : Int),.int .i64 0] 115)):=(Ev.refl _ W).alloc_ _
   have hm : MB (FC F (fun j => j=W.heap.size)) W A L key:=by
     refine ⟨hO.1,fun hn => ?_⟩
     obtain ⟨g,cap,hv,hb,hlt⟩:=World.ownsRow.form hO hn
     have hA : A=some ⟨g,0,none⟩:=by injection hv
     subst hA
     refine ⟨_,rfl,⟨hlt,?_⟩,World.ownsRow.cells hO (g:=g) rfl⟩
     rintro (hf | hf)
     · have h9 : g < w.heap.size := hFlt _ hf
       omega
     · have h9 : g = W.heap.size := hf
       omega
   refine ⟨_,rfl,hB.alloc hB.size _,hB.size,⟨.slice none 0 0,A,c,?_,?_,fun k hk => by simp [Value.ownBlock] at hk,[],rfl,⟨rfl,.inl ⟨rfl,rfl⟩⟩,fun q vs s e1 => by simp at e1⟩,rfl,fun k hk hf => by have h9:=hFlt _ hf; have:=hB.size; subst hk; omega,fun k hk => by subst hk; simp⟩
   · rw [<- hL,<- hR]; exact Blk.new W 115 _
   · rw [<- hL]; exact hm.ev hE)
 replace h:=hide h
 replace ht:=hide ht
 replace hk:=hide hk
 replace hL:=hide hL
 replace hR:=hide hR
 replace hFlt:=hide hFlt
 go_enter Tryz.func25,Tryz.ntmps25
 go_wp2_with fail
 go_region_law (first
   | (go_simp; go_at_call 57; refine hcl.out.mono ?_; rintro e w2 ⟨v2,rfl,hO2,hB2⟩; rw [<- hL.out] at hO2; (obtain ⟨A2,c2,rfl,_,_,_,_⟩:=hO2.form); have hB2' : Below w.heap.size w w2:=(Below.refl _ w).drew.trans hB2; have s1 : w2.cell? ⟨gt,0,none⟩=some (.pointer (some ⟨gp,0,none⟩)):=(hB2'.cell (p:=⟨gt,0,none⟩) hgt).trans t1; have s2 : w2.cell? ⟨gt,1,none⟩=some (.int .i64 (k : Int)):=(hB2'.cell (p:=⟨gt,1,none⟩) hgt).trans t2; have hdone:=hide (hfin.out w2 A2 c2 hO2 hB2'); have hbb:=hide hB2'; replace hO2:=hide hO2; replace hB2:=hide hB2; replace hB2':=hide hB2')
   | (go_simp; go_at_call 23; refine (hrt.out _ (Below.refl _ w).drew).mono ?_; rintro e w3 ⟨rfl,rfl⟩)
   | (go_simp; go_at_call 23; refine (hrt.out _ hbb.out).mono ?_; rintro e w3 ⟨rfl,rfl⟩))
 all_goals
   go_wp2_with fail
   first | exact hdone.out | (go_ret; exact hdone.out)
def slN : Value->Nat
 | .slice _ n _ => n
 | _ => 0
def FrSt (F : Nat->Prop) (w : World) (gp : Nat) (st : PgS) (fl : List Nat) (v : Value) (n no : Nat) (wx : World) : Prop :=
 ∃ (pre rest : List Nat) (F' : Nat->Prop),fl=pre ++ rest/\n=pre.length/\FreeR st no rest/\wx.ownsRow w.heap.size 3 1 v n (pre.map encI)/\PgAt wx F' gp st/\Ev F w F' wx/\∀ j,v.ownBlock=some j->¬ F' j
def FrEnd (F : Nat->Prop) (w : World) (gp : Nat) (st : PgS) (n : Nat) (e : Ending) (w' : World) : Prop :=
 ∃ A c F',e=.returned (.tuple #[.slice A n c,.int .i64 0])/\PgAt w' F' gp st/\Ev F w F' w'
set_option maxHeartbeats 2000000 in
theorem frees_any (w : World) (F : Nat->Prop) (gp : Nat) (st : PgS) (h : PgAt w F gp st) (fl : List Nat) (hfr : FreeR st st.free fl) (hlen : fl.length < st.many) :
   Calls Tryz.prog 21 #[.pointer (some ⟨gp,0,none⟩)] w (FrEnd F w gp st fl.length):=by
 have hmost:=h.most
 have hu:=hide (up_any 0 w F gp st h)
 obtain ⟨NL,hNL⟩ : ∃ NL,NL=fl.length:=⟨_,rfl⟩
 obtain ⟨M,hM⟩ : ∃ M,M=st.many:=⟨_,rfl⟩
 obtain ⟨R,hR⟩ : ∃ R,R=st.free:=⟨_,rfl⟩
 rw [<- hNL,<- hM] at hlen
 rw [<- hNL]
 rw [<- hM] at hmost
 rw [<- hR] at hfr
 obtain ⟨gm,U,m,hb,_⟩:=h.mem
 have c3 : w.cell? ⟨gp,3,none⟩=some (.int .i64 (R : Int)):=by rw [hb.cell 3,hR]; rfl
 have hst : Hid (FrSt F w gp st fl (.slice none 0 0) 0 R w):=hide ⟨[],fl,F,rfl,rfl,hfr,⟨by simp,.inl ⟨rfl,rfl⟩⟩,h,Ev.refl _ _,fun j hj => by cases hj⟩
 clear hb
 replace h:=hide h
 replace hfr:=hide hfr
 replace hNL:=hide hNL
 replace hM:=hide hM
 replace hR:=hide hR
 go_enter Tryz.func21,Tryz.ntmps21
 go_wp2_with fail
 go_at_call 54
 refine hu.out.mono ?_
 rintro e w1 ⟨rfl,rfl⟩
 go_wp2_with fail
 go_loopw [5,6] (fun v5 v6 wx => ∃ (n no : Nat) (A : Option Addr) (c : Nat),v6=.int .i64 (no : Int)/\v5=.slice A n c/\n<=NL/\Hid (FrSt F w gp st fl (.slice A n c) n no wx)) (fun v5 _ _ => NL - slN v5)
 case atStart => exact ⟨0,R,none,0,rfl,rfl,by omega,hst⟩
 case round =>
   obtain ⟨n,no,A,c,rfl,rfl,hn,hS⟩:=hrel
   obtain ⟨pre,rest,F1,hfl,hnp,hfr1,hO,hP1,hE1,hv⟩:=hS.out
   clear hst hS c3
   obtain ⟨gm1,U1,m1,hb1,_⟩:=hP1.mem
   have d2 : wr.cell? ⟨gp,2,none⟩=some (.int .i64 (M : Int)):=by rw [hb1.cell 2,hM.out]; rfl
   clear hb1
   cases hfr1 with
   | nil =>
     have hnl : n=NL:=by rw [hNL.out,hfl,hnp]; simp
     subst hnl
     have hdone : Hid (FrEnd F w gp st n (.returned (.tuple #[.slice A n c,.int .i64 0])) wr):=hide ⟨A,c,F1,rfl,hP1,hE1⟩
     have hz : ((0 : Int) == 0)=true:=rfl
     replace hfl:=hide hfl
     replace hnp:=hide hnp
     replace hO:=hide hO
     replace hP1:=hide hP1
     replace hE1:=hide hE1
     replace hv : Hid _:=hide hv
     go_wp2_with fail
     go_ret2
     exact hdone.out
   | cons no l h0 hr =>
     have hnl : n < NL:=by rw [hNL.out,hfl,hnp]; simp
     have hno1:=h0.1
     have hz : ((no : Int) == 0)=false:=by rw [beq_eq_false_iff_ne]; omega
     have hlt : decide ((n : Int) < (M : Int))=true:=decide_eq_true (by omega)
     have hltn : decide (n < M)=true:=decide_eq_true (by omega)
     have hnI : (n : Int)<=65536:=by omega
     have hno0 : ¬ (no : Int)=0:=by omega
     have hpg:=hide (page_any wr F1 gp st hP1 no h0)
     have hOlt:=World.ownsRow.lt hO
     obtain ⟨X,hX⟩ : ∃ X,X=numL ((st.page no).take 4):=⟨_,rfl⟩
     rw [<- hX] at hr
     replace hfl:=hide hfl
     replace hnp:=hide hnp
     replace hO:=hide hO
     replace hOlt:=hide hOlt
     replace hP1:=hide hP1
     replace hE1:=hide hE1
     replace hv : Hid _:=hide hv
     replace hr:=hide hr
     replace h0:=hide h0
     replace hX:=hide hX
     go_wp2_with fail
     go_at_call 55
     refine hpg.out.mono ?_
     rintro e w2 ⟨F2,g,c2,rfl,hP2,hE2,hg2,hO2⟩
     have hv2 : ∀ j,(Value.slice A n c).ownBlock=some j->¬ F2 j:=fun j hj => hE2.new (hv.out j hj) (hOlt.out j hj).2
     have hO2r : w2.ownsRow w.heap.size 3 1 (.slice A n c) n (pre.map encI):=hE2.only.row hO.out hv.out
     obtain ⟨w3,hw3⟩ : ∃ w3,w3=w2.alloc (.cells #[.int .i64 (no : Int)] 3):=⟨_,rfl⟩
     have hO3 : w3.ownsRow w.heap.size 3 1 (.slice A n c) n (pre.map encI):=by rw [hw3]; exact World.ownsRow.alloc hO2r _
     have hP3 : PgAt w3 F2 gp st:=by rw [hw3]; exact hP2.alloc _
     have hE3 : Ev F w F2 w3:=by rw [hw3]; exact (hE1.out.trans hE2).alloc_ _
     have hb3 : Blk w3 w2.heap.size 3 #[.int .i64 (no : Int)]:=by rw [hw3]; exact Blk.new w2 3 _
     have hOp3 : OB w3 0 (.slice (some ⟨g,0,none⟩) 508 c2) 508 (st.page no):=by rw [hw3]; exact World.ownsRow.alloc hO2 _
     obtain ⟨v',w4,hrun,hO4,hg4,hv4⟩:=run_app_rowI w3 w.heap.size (.slice A n c) n (pre.map encI) hO3 w3.heap.size (some ⟨w2.heap.size,0,none⟩) 1 1 ([no].map encI) (RN.one_blk hb3) (by intro u hu; obtain ⟨x,_,rfl⟩:=List.mem_map.1 hu; rfl) 57 (by omega) hE3.size
     obtain ⟨A',c',rfl⟩:=own_form hO4
     have hv3 : ∀ j,(Value.slice A' (n + 1) c').ownBlock=some j->¬ F2 j:=fun j hj => by
       rcases hv4 with h9 | h9
       · rw [h9] at hj; exact hv2 j hj
       · rw [h9] at hj; injection hj with hj; subst hj
         exact fun hf => by have:=hP3.lt _ hf; omega
     have hP4 : PgAt w4 F2 gp st:=hP3.grown hg4 (fun k hk hf => hv2 k hk hf)
     have hE4 : Ev F w F2 w4:=⟨hE3.only.grown hg4 (fun k hk hlt => by have:=(World.ownsRow.lt hO3 k hk).1; omega),hE3.grow⟩
     have hg3 : (Value.slice (some ⟨g,0,none⟩) 508 c2).ownBlock=none \/ (Value.slice (some ⟨g,0,none⟩) 508 c2).ownBlock ≠ (Value.slice A n c).ownBlock:=.inr fun e => hv2 g (by rw [<- e]; rfl) hg2
     have hOp4 : OB w4 0 (.slice (some ⟨g,0,none⟩) 508 c2) 508 (st.page no):=World.ownsRow.kept hOp3 hg4 hg3
     have hrb:=hOp4.rb
     have hwg:=hide (wget_any w4 (some ⟨g,0,none⟩) 508 c2 0 4 (st.page no) hrb.1 hrb.2.1 (by omega) (by omega) (by omega) (by omega))
     rw [List.drop_zero,<- hX.out] at hwg
     have hw3e : w2.alloc (.cells #[.int .i64 (no : Int)] 3)=w3:=hw3.symm
     clear hrb hv4 hOp3 hb3 hO2r hpg hg3
     replace hP2:=hide hP2
     replace hE2:=hide hE2
     replace hO2:=hide hO2
     replace hv2 : Hid _:=hide hv2
     replace hw3:=hide hw3
     replace hO3:=hide hO3
     replace hP3:=hide hP3
     replace hE3:=hide hE3
     replace hO4:=hide hO4
     replace hg4:=hide hg4
     replace hv3 : Hid _:=hide hv3
     replace hP4:=hide hP4
     replace hE4:=hide hE4
     replace hOp4:=hide hOp4
     go_wp2_with (first | (at_builtin; (try rw [hw3e]); refine Lib.wpList_append_run _ rfl (.tmp 40) (.tmp 42) 57 57 rfl _ _ rfl rfl _ _ hrun ?_) | fail)
     go_at_call 56
     refine hwg.out.mono ?_
     rintro e w5 ⟨rfl,hb5⟩
     have hrel : Hid (FrSt F w gp st fl (.slice A' (n + 1) c') (n + 1) X w5):=hide (by
       refine ⟨pre ++ [no],l,F2,by rw [hfl.out]; simp,by rw [hnp.out]; simp,hr.out,?_,hP4.out.below hb5,hE4.out.below hb5,hv3.out⟩
       have h9:=hO4.out
       rw [<- List.map_append] at h9
       exact (Only.of_below (S:=fun _ => False) hb5).row h9 (fun _ _ hf => hf))
     replace hb5:=hide hb5
     clear hrun hw3e hwg d2
     go_wp2_with fail
     go_roundw
     case rel => exact ⟨n + 1,X,A',c',rfl,rfl,by omega,hrel⟩
     case measure => simp only [slN]; omega
end Go.Proofs.YtiiljlmeililbaaGreatDoor
