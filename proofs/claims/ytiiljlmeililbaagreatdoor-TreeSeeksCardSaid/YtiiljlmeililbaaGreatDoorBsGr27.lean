/-
  Contract of tree.top where the root stays (a leaf).
-/
import Derived.Test.YtiiljlmeililbaaGreatDoorBsGr23
namespace Go.Proofs.YtiiljlmeililbaaGreatDoor
set_option linter.unusedVariables false
set_option maxRecDepth 100000
open Go.RowKit
set_option maxHeartbeats 2000000 in
theorem top_stays (w : World) (F : Nat->Prop) (gt gp k : Nat) (st : PgS) (h : PgAt w F gp st) (ht : TreeAt w F gt gp k) (gl no : Nat) (n : NodeP) (hb : Blk w gl 131 #[.slice none 0 0,.int .i64 (no : Int)]) (hnl : ¬ F gl) (hl : LoadR st no n) (hleaf : n.leaf=true) (hne : n.cells ≠ []) :
   Calls Tryz.prog 42 #[.pointer (some ⟨gt,0,none⟩),.slice (some ⟨gl,0,none⟩) 1 1] w (PgEnd F w gp st (.int .i64 0)):=by
 have hld:=hide (load_any w F gt gp k st h ht no n hl hleaf)
 have hgl:=Blk.lt hb
 have p0:=hb.cell 0
 have p1 : w.cell? ⟨gl,1,none⟩=some (.int .i64 (no : Int)):=hb.cell 1
 obtain ⟨N,hN⟩ : ∃ N,N=n.cells.length:=⟨_,rfl⟩
 have hN0 : (0 : Int) < (N : Int):=by
   have : n.cells.length ≠ 0:=fun e => hne (List.eq_nil_of_length_eq_zero e)
   omega
 have hNd : decide ((0 : Int) < (N : Int))=true:=decide_eq_true hN0
 have hNn : decide (0 < N)=true:=decide_eq_true (by omega)
 obtain ⟨K,hK⟩ : ∃ K,K=n.kids.length:=⟨_,rfl⟩
 obtain ⟨lf,hlf⟩ : ∃ lf,lf=n.leaf:=⟨_,rfl⟩
 replace h:=hide h
 replace ht:=hide ht
 replace hl:=hide hl
 replace hleaf:=hide hleaf
 replace hne:=hide hne
 replace hb:=hide hb
 replace hK:=hide hK
 replace hN:=hide hN
 replace hlf:=hide hlf
 go_enter Tryz.func42,Tryz.ntmps42
 go_wp2_with fail
 go_at_call 45
 refine hld.out.mono ?_
 rintro e w1 ⟨F1,cv,kv,B0,rfl,hP1,hE1,hF1,hwB,hO1⟩
 obtain ⟨A1,c1,rfl⟩:=own_form hO1.kids
 obtain ⟨A2,c2,rfl⟩:=own_form hO1.rows.choose_spec.2.1
 rw [<- hN.out,<- hK.out,<- hlf.out]
 have hdone : Hid (∀ W,Below w1.heap.size w1 W->PgEnd F w gp st (.int .i64 0) (.returned (.int .i64 0)) W):=hide fun W hB => ⟨rfl,F1,hP1.below hB,hE1.below hB⟩
 have hB1:=(Below.refl w1.heap.size w1).alloc (Nat.le_refl _) (.cells #[.bool lf,.slice A2 N c2,.slice A1 K c1] 89)
 have hbn:=Blk.new w1 89 #[.bool lf,.slice A2 N c2,.slice A1 K c1]
 have d0:=hbn.cell 0
 have d1:=hbn.cell 1
 have d2:=hbn.cell 2
 replace hbn:=hide hbn
 replace hB1:=hide hB1
 replace hO1:=hide hO1
 replace hF1:=hide hF1
 replace hP1:=hide hP1
 replace hE1:=hide hE1
 go_wp2_with fail
 go_ret
 exact hdone.out _ hB1.out
set_option maxHeartbeats 2000000 in
theorem put_first (w : World) (F : Nat->Prop) (gt gp k : Nat) (st : PgS) (h : PgAt w F gp st) (ht : TreeAt w F gt gp k) (hk8 : k < 8) (key b : List UInt8) (kA vA : Option Addr) (kc vc : Nat) (hk : MB F w kA key.length key) (hv : MB F w vA b.length b)
   (h1 : 1<=key.length) (h2 : key.length<=120) (h3 : b.length<=64) (h0 : st.roots k=0) (ha : CanAlloc st) (hf : st.free < st.many) (hs : CanSave (allocS st) (allocN st) ⟨true,[⟨key,b,0,0⟩],[]⟩) (hn : allocN st < (allocS st).many) :
   Calls Tryz.prog 11 #[.pointer (some ⟨gt,0,none⟩),.slice kA key.length kc,.slice vA b.length vc] w (PgEnd F w gp (setRootS (saveS (allocS st) (allocN st) ⟨true,[⟨key,b,0,0⟩],[]⟩) k (allocN st)) (.int .i64 0)):=by
 obtain ⟨L,hL⟩ : ∃ L,L=key.length:=⟨_,rfl⟩
 obtain ⟨M,hM⟩ : ∃ M,M=b.length:=⟨_,rfl⟩
 rw [<- hL] at hk h1 h2 ⊢
 rw [<- hM] at hv h3 ⊢
 have l1 : decide ((L : Int) < 1)=false:=decide_eq_false (by omega)
 have l2 : decide (120 < (L : Int))=false:=decide_eq_false (by omega)
 have l2n : decide (120 < L)=false:=decide_eq_false (by omega)
 have l3 : decide (20000 < (M : Int))=false:=decide_eq_false (by omega)
 have l3n : decide (20000 < M)=false:=decide_eq_false (by omega)
 have hL0 : ¬ L=0:=by omega
 have hE0 : Ev F w F (w.alloc (.cells #[.pointer (some ⟨gt,0,none⟩)] 30)):=(Ev.refl F w).alloc_ _
 have hb0:=Blk.new w 30 #[.pointer (some ⟨gt,0,none⟩)]
 have hP0:=h.alloc (.cells #[.pointer (some ⟨gt,0,none⟩)] 30)
 have hcl:=hide (cell_short (w.alloc (.cells #[.pointer (some ⟨gt,0,none⟩)] 30)) gt kA vA L M kc vc key b (hk.ev hE0).rb (hv.ev hE0).rb (by omega) h3)
 have c0 : (w.alloc (.cells #[.pointer (some ⟨gt,0,none⟩)] 30)).cell? ⟨w.heap.size,0,none⟩=some (.pointer (some ⟨gt,0,none⟩)):=hb0.cell 0
 have hgt:=Blk.lt ht.blk
 have hnF : ¬ F w.heap.size:=fun hf => by have:=h.lt _ hf; omega
 replace h:=hide h
 replace ht:=hide ht
 replace hk:=hide hk
 replace hv:=hide hv
 replace hL:=hide hL
 replace hM:=hide hM
 replace hE0:=hide hE0
 replace hb0:=hide hb0
 replace hP0:=hide hP0
 replace h1:=hide h1
 replace h2:=hide h2
 replace h3:=hide h3
 replace h0:=hide h0
 replace ha:=hide ha
 replace hf:=hide hf
 replace hs:=hide hs
 replace hn:=hide hn
 go_enter Tryz.func11,Tryz.ntmps11
 go_wp2_with fail
 go_at_call 35
 refine hcl.out.mono ?_
 rintro e w2 ⟨x0,x1,he,hcv,hB2⟩
 replace he : e=.returned (.tuple #[.agg #[x0,x1,.int .i64 0,.int .i64 0],.int .i64 0]):=he
 subst he
 have hcv2 : CellV (G5 (w.heap.size + 1) w2) w2 [x0,x1,.int .i64 0,.int .i64 0] ⟨key,b,0,0⟩:=by simpa using hcv
 obtain ⟨A0,y0,A1,y1,hx0,hx1⟩ : ∃ A0 y0 A1 y1,x0=.slice A0 L y0/\x1=.slice A1 M y1:=by
   obtain ⟨A0,y0,A1,y1,e9,_⟩:=hcv2
   injection e9 with e0 e9; injection e9 with e1 e9
   exact ⟨A0,y0,A1,y1,by rw [hL.out]; exact e0,by rw [hM.out]; exact e1⟩
 subst hx0; subst hx1
 have hb2:=hb0.out.below hB2 (by simp)
 have hE2:=hE0.out.below hB2
 have hP2:=hP0.out.below hB2
 have hs2:=hE2.size
 have hs2' : w.heap.size < w2.heap.size:=by have:=hB2.size; simp at this; omega
 obtain ⟨o,ho⟩ : ∃ o,o=Obj.cells #[.slice A0 L y0,.slice A1 M y1,.int .i64 0,.int .i64 0] 83 (0,0):=⟨_,rfl⟩
 have hE3 : Ev F w F (w2.alloc o):=hE2.alloc_ o
 have ht3:=ht.out.ev hE3
 have hP3:=hP2.alloc o
 have hb3:=hb2.alloc o
 have hc3 : Blk (w2.alloc o) w2.heap.size 83 #[.slice A0 L y0,.slice A1 M y1,.int .i64 0,.int .i64 0]:=by rw [ho]; exact Blk.new _ _ _
 have hrt:=hide (fun q => root_any ((w2.alloc o).drewN q) F gp st (hP3.drewN q) k hk8)
 rw [h0.out] at hrt
 have t0 : (w2.alloc o).cell? ⟨w.heap.size,0,none⟩=some (.pointer (some ⟨gt,0,none⟩)):=hb3.cell 0
 have t1 : (w2.alloc o).cell? ⟨gt,0,none⟩=some (.pointer (some ⟨gp,0,none⟩)):=ht3.blk.cell 0
 have t2 : (w2.alloc o).cell? ⟨gt,1,none⟩=some (.int .i64 (k : Int)):=ht3.blk.cell 1
 have t4:=hc3.cell 0
 have t5:=hc3.cell 1
 have t6:=hc3.cell 2
 have t7:=hc3.cell 3
 subst ho
 replace hcv:=hide hcv
 replace hcv2:=hide hcv2
 replace hB2:=hide hB2
 replace hb2:=hide hb2
 replace hE2:=hide hE2
 replace hP2:=hide hP2
 replace hE3:=hide hE3
 replace ht3:=hide ht3
 replace hP3:=hide hP3
 replace hb3:=hide hb3
 replace hc3:=hide hc3
 clear hcl
 go_wp2_with fail
 go_quiet (first | (go_at_call 23; exact quiet_left (hrt.out _)))
 obtain ⟨w5,hw5⟩ : ∃ w5,w5=(w2.alloc (.cells #[.slice A0 L y0,.slice A1 M y1,.int .i64 0,.int .i64 0] 83)).drewN nq:=⟨_,rfl⟩
 rw [<- hw5]
 have hE5 : Ev F w F w5:=by rw [hw5]; exact hE3.out.drewN nq
 have hP5 : PgAt w5 F gp st:=by rw [hw5]; exact hP3.out.drewN nq
 have hs5 : w5.heap.size=w2.heap.size + 1:=by rw [hw5]; simp [World.drewN]
 have t0 : w5.cell? ⟨w.heap.size,0,none⟩=some (.pointer (some ⟨gt,0,none⟩)):=by rw [hw5]; exact t0
 have r0 : w5.cell? ⟨w2.heap.size,0,none⟩=some (.slice A0 L y0):=by rw [hw5]; exact t4
 have r1 : w5.cell? ⟨w2.heap.size,1,none⟩=some (.slice A1 M y1):=by rw [hw5]; exact t5
 have r2 : w5.cell? ⟨w2.heap.size,2,none⟩=some (.int .i64 0):=by rw [hw5]; exact t6
 have r3 : w5.cell? ⟨w2.heap.size,3,none⟩=some (.int .i64 0):=by rw [hw5]; exact t7
 have hE6 : Ev F w F (w5.alloc (.cells #[.slice A0 L y0,.slice A1 M y1,.int .i64 0,.int .i64 0] 83)):=hE5.alloc_ _
 have hb6:=Blk.new w5 83 #[.slice A0 L y0,.slice A1 M y1,.int .i64 0,.int .i64 0]
 have hFlt:=h.out.lt
 have hn6 : NodeM (Mine F (w5.alloc (.cells #[.slice A0 L y0,.slice A1 M y1,.int .i64 0,.int .i64 0] 83))) (w5.alloc (.cells #[.slice A0 L y0,.slice A1 M y1,.int .i64 0,.int .i64 0] 83)) (.agg #[.bool true,.slice (some ⟨w5.heap.size,0,none⟩) 1 1,.slice none 0 0]) ⟨true,[⟨key,b,0,0⟩],[]⟩:=by
   refine ⟨some ⟨w5.heap.size,0,none⟩,1,none,0,rfl,Nat.le_refl _,Nat.le_refl _,⟨[[.slice A0 L y0,.slice A1 M y1,.int .i64 0,.int .i64 0]],rfl,⟨rfl,fun _ => ⟨_,rfl,⟨by simp,fun hf => by have h9 : w5.heap.size < w.heap.size:=hFlt _ hf; omega⟩,fun j u hu => ?_⟩⟩,fun q vs c e1 e2 => ?_⟩,Rd.none_⟩
   · rw [Addr.add_lit, Nat.zero_add, hb6.cell]
     simpa using hu
   · obtain rfl : q=0:=by
       have:=(List.getElem?_eq_some_iff.1 e1).1
       simp at this; exact this
     simp at e1 e2
     subst e1; subst e2
     refine hcv2.out.keep fun q hq => ?_
     obtain ⟨q1,cs,q2⟩:=hq
     have q3 : Blk (w5.alloc (.cells #[.slice A0 L y0,.slice A1 M y1,.int .i64 0,.int .i64 0] 83)) q 5 cs:=by
       rw [hw5]; exact ((q2.alloc _).drewN nq).alloc _
     exact ⟨⟨Blk.lt q3,fun hf => by have:=hFlt _ hf; omega⟩,Eq.trans q3 q2.symm⟩
 have hmk:=hide (make_any _ F gt gp k st (hP5.alloc (.cells #[.slice A0 L y0,.slice A1 M y1,.int .i64 0,.int .i64 0] 83)) (ht.out.ev hE6) ⟨true,[⟨key,b,0,0⟩],[]⟩ _ hn6 ha.out hf.out hs.out)
 have hb6t : (w5.alloc (.cells #[.slice A0 L y0,.slice A1 M y1,.int .i64 0,.int .i64 0] 83)).cell? ⟨w.heap.size,0,none⟩=some (.pointer (some ⟨gt,0,none⟩)):=by
   rw [World.cell?_alloc_lt _ _ _ (by show w.heap.size < w5.heap.size; omega)]; exact t0
 obtain ⟨no,hno⟩ : ∃ no,no=allocN st:=⟨_,rfl⟩
 obtain ⟨st1,hst1⟩ : ∃ st1,st1=saveS (allocS st) no ⟨true,[⟨key,b,0,0⟩],[]⟩:=⟨_,rfl⟩
 rw [<- hno,<- hst1] at hmk ⊢
 have hnm : Hid (no < st1.many):=hide (by rw [hst1,hno]; exact hn.out)
 replace hno:=hide hno
 replace hst1:=hide hst1
 replace hw5:=hide hw5
 replace hs5:=hide hs5
 replace hE5:=hide hE5
 replace hP5:=hide hP5
 replace hE6:=hide hE6
 replace hb6:=hide hb6
 replace hFlt:=hide hFlt
 replace hn6:=hide hn6
 go_wp2_with fail
 go_at_call 36
 refine hmk.out.mono ?_
 rintro e w7 ⟨rfl,F7,hP7,hE7⟩
 have ht7:=ht.out.ev (hE6.out.trans hE7)
 have u0 : w7.cell? ⟨w.heap.size,0,none⟩=some (.pointer (some ⟨gt,0,none⟩)):=(hE7.cell (p:=⟨w.heap.size,0,none⟩) ⟨by have:=hs5.out; show w.heap.size < (w5.alloc _).heap.size; simp; omega,hnF⟩).trans hb6t
 have u1 : w7.cell? ⟨gt,0,none⟩=some (.pointer (some ⟨gp,0,none⟩)):=ht7.blk.cell 0
 have u2 : w7.cell? ⟨gt,1,none⟩=some (.int .i64 (k : Int)):=ht7.blk.cell 1
 have hsr:=hide (setRoot_any w7.drew F7 gp st1 hP7.drew k no hk8 hnm.out)
 have hE7w:=hide ((hE6.out.trans hE7).drew)
 replace ht7:=hide ht7
 replace hP7:=hide hP7
 replace hE7:=hide hE7
 have hfold : Hid (∀ w8,PgEnd F w gp (setRootS st1 k no) (.int .i64 0) (.returned (.int .i64 0)) w8->PgEnd F w gp (setRootS (saveS (allocS st) (allocN st) ⟨true,[⟨key,b,0,0⟩],[]⟩) k (allocN st)) (.int .i64 0) (.returned (.int .i64 0)) w8):=hide fun w8 h9 => by
   rw [hst1.out,hno.out] at h9; exact h9
 clear hmk hrt
 go_wp2_with fail
 go_region_law (go_simp; go_at_call 37; refine hsr.out.mono ?_; rintro e w8 ⟨rfl,F8,hP8,hE8⟩; (have hdone:=hfold.out w8 ⟨rfl,F8,hP8,hE7w.out.trans hE8⟩); replace hdone:=hide hdone; replace hP8:=hide hP8; replace hE8:=hide hE8)
 all_goals
   go_wp2_with fail
   go_ret
   exact hdone.out
theorem findP_le (n : NodeP) (key : List UInt8) (h : (findP n key).2=false) : (findP n key).1<=n.cells.length:=by
 unfold findP at h ⊢
 by_cases h9 : keyAt n.cells (findI n.cells key) key=true
 · rw [if_pos h9] at h; cases h
 · rw [if_neg h9]
   exact List.Sublist.length_le (List.takeWhile_sublist _)
theorem CellV.evB {F F' : Nat->Prop} {w w' : World} {vs : List Value} {c : CellP} (h : CellV (byteOf F w) w vs c) (he : Ev F w F' w') : CellV (byteOf F' w') w' vs c :=
 h.keep fun k hk => by
   obtain ⟨h1,cs,h2⟩:=hk
   have:=he.block h1
   exact ⟨⟨he.mine h1,cs,Eq.trans this h2⟩,this⟩
set_option maxHeartbeats 2000000 in
theorem put_more (w : World) (F : Nat->Prop) (gt gp k : Nat) (st : PgS) (h : PgAt w F gp st) (ht : TreeAt w F gt gp k) (hk8 : k < 8) (key b : List UInt8) (kA vA : Option Addr) (kc vc : Nat) (hk : MB F w kA key.length key) (hv : MB F w vA b.length b)
   (h1 : 1<=key.length) (h2 : key.length<=120) (h3 : b.length<=64) (no : Nat) (h0 : st.roots k=no) (hno : no ≠ 0) (n n1 : NodeP) (hl : LoadR st no n) (hleaf : n.leaf=true) (hnew : (findP n key).2=false) (hn1 : n1=⟨n.leaf,insAt n.cells (findP n key).1 ⟨key,b,0,0⟩,n.kids⟩) (hs : CanSave st no n1) :
   Calls Tryz.prog 11 #[.pointer (some ⟨gt,0,none⟩),.slice kA key.length kc,.slice vA b.length vc] w (PgEnd F w gp (saveS st no n1) (.int .i64 0)):=by
 have hnoI : ((no : Int) == 0)=false:=by rw [beq_eq_false_iff_ne]; omega
 obtain ⟨L,hL⟩ : ∃ L,L=key.length:=⟨_,rfl⟩
 obtain ⟨M,hM⟩ : ∃ M,M=b.length:=⟨_,rfl⟩
 rw [<- hL] at hk h1 h2 ⊢
 rw [<- hM] at hv h3 ⊢
 have l1 : decide ((L : Int) < 1)=false:=decide_eq_false (by omega)
 have l2 : decide (120 < (L : Int))=false:=decide_eq_false (by omega)
 have l2n : decide (120 < L)=false:=decide_eq_false (by omega)
 have l3 : decide (20000 < (M : Int))=false:=decide_eq_false (by omega)
 have l3n : decide (20000 < M)=false:=decide_eq_false (by omega)
 have hL0 : ¬ L=0:=by omega
 have hE0 : Ev F w F (w.alloc (.cells #[.pointer (some ⟨gt,0,none⟩)] 30)):=(Ev.refl F w).alloc_ _
 have hb0:=Blk.new w 30 #[.pointer (some ⟨gt,0,none⟩)]
 have hP0:=h.alloc (.cells #[.pointer (some ⟨gt,0,none⟩)] 30)
 have hcl:=hide (cell_short (w.alloc (.cells #[.pointer (some ⟨gt,0,none⟩)] 30)) gt kA vA L M kc vc key b (hk.ev hE0).rb (hv.ev hE0).rb (by omega) h3)
 have c0 : (w.alloc (.cells #[.pointer (some ⟨gt,0,none⟩)] 30)).cell? ⟨w.heap.size,0,none⟩=some (.pointer (some ⟨gt,0,none⟩)):=hb0.cell 0
 have hgt:=Blk.lt ht.blk
 have hnF : ¬ F w.heap.size:=fun hf => by have:=h.lt _ hf; omega
 replace h:=hide h
 replace ht:=hide ht
 replace hk:=hide hk
 replace hv:=hide hv
 replace hL:=hide hL
 replace hM:=hide hM
 replace hE0:=hide hE0
 replace hb0:=hide hb0
 replace hP0:=hide hP0
 replace h1:=hide h1
 replace h2:=hide h2
 replace h3:=hide h3
 replace h0:=hide h0
 replace hs:=hide hs
 replace hl:=hide hl
 replace hleaf:=hide hleaf
 replace hnew:=hide hnew
 replace hn1:=hide hn1
 replace hno:=hide hno
 go_enter Tryz.func11,Tryz.ntmps11
 go_wp2_with fail
 go_at_call 35
 refine hcl.out.mono ?_
 rintro e w2 ⟨x0,x1,he,hcv,hB2⟩
 replace he : e=.returned (.tuple #[.agg #[x0,x1,.int .i64 0,.int .i64 0],.int .i64 0]):=he
 subst he
 have hcv2 : CellV (G5 (w.heap.size + 1) w2) w2 [x0,x1,.int .i64 0,.int .i64 0] ⟨key,b,0,0⟩:=by simpa using hcv
 obtain ⟨A0,y0,A1,y1,hx0,hx1⟩ : ∃ A0 y0 A1 y1,x0=.slice A0 L y0/\x1=.slice A1 M y1:=by
   obtain ⟨A0,y0,A1,y1,e9,_⟩:=hcv2
   injection e9 with e0 e9; injection e9 with e1 e9
   exact ⟨A0,y0,A1,y1,by rw [hL.out]; exact e0,by rw [hM.out]; exact e1⟩
 subst hx0; subst hx1
 have hb2:=hb0.out.below hB2 (by simp)
 have hE2:=hE0.out.below hB2
 have hP2:=hP0.out.below hB2
 have hs2:=hE2.size
 have hs2' : w.heap.size < w2.heap.size:=by have:=hB2.size; simp at this; omega
 obtain ⟨o,ho⟩ : ∃ o,o=Obj.cells #[.slice A0 L y0,.slice A1 M y1,.int .i64 0,.int .i64 0] 83 (0,0):=⟨_,rfl⟩
 have hE3 : Ev F w F (w2.alloc o):=hE2.alloc_ o
 have ht3:=ht.out.ev hE3
 have hP3:=hP2.alloc o
 have hb3:=hb2.alloc o
 have hc3 : Blk (w2.alloc o) w2.heap.size 83 #[.slice A0 L y0,.slice A1 M y1,.int .i64 0,.int .i64 0]:=by rw [ho]; exact Blk.new _ _ _
 have hrt:=hide (fun q => root_any ((w2.alloc o).drewN q) F gp st (hP3.drewN q) k hk8)
 rw [h0.out] at hrt
 have t0 : (w2.alloc o).cell? ⟨w.heap.size,0,none⟩=some (.pointer (some ⟨gt,0,none⟩)):=hb3.cell 0
 have t1 : (w2.alloc o).cell? ⟨gt,0,none⟩=some (.pointer (some ⟨gp,0,none⟩)):=ht3.blk.cell 0
 have t2 : (w2.alloc o).cell? ⟨gt,1,none⟩=some (.int .i64 (k : Int)):=ht3.blk.cell 1
 have t4:=hc3.cell 0
 have t5:=hc3.cell 1
 have t6:=hc3.cell 2
 have t7:=hc3.cell 3
 subst ho
 replace hcv:=hide hcv
 replace hcv2:=hide hcv2
 replace hB2:=hide hB2
 replace hb2:=hide hb2
 replace hE2:=hide hE2
 replace hP2:=hide hP2
 replace hE3:=hide hE3
 replace ht3:=hide ht3
 replace hP3:=hide hP3
 replace hb3:=hide hb3
 replace hc3:=hide hc3
 clear hcl
 go_wp2_with fail
 go_quiet (first | (go_at_call 23; exact quiet_left (hrt.out _)))
 obtain ⟨w5,hw5⟩ : ∃ w5,w5=(w2.alloc (.cells #[.slice A0 L y0,.slice A1 M y1,.int .i64 0,.int .i64 0] 83)).drewN nq:=⟨_,rfl⟩
 rw [<- hw5]
 have hE5 : Ev F w F w5:=by rw [hw5]; exact hE3.out.drewN nq
 have hP5 : PgAt w5 F gp st:=by rw [hw5]; exact hP3.out.drewN nq
 have hs5 : w5.heap.size=w2.heap.size + 1:=by rw [hw5]; simp [World.drewN]
 have t0 : w5.cell? ⟨w.heap.size,0,none⟩=some (.pointer (some ⟨gt,0,none⟩)):=by rw [hw5]; exact t0
 have r0 : w5.cell? ⟨w2.heap.size,0,none⟩=some (.slice A0 L y0):=by rw [hw5]; exact t4
 have r1 : w5.cell? ⟨w2.heap.size,1,none⟩=some (.slice A1 M y1):=by rw [hw5]; exact t5
 have r2 : w5.cell? ⟨w2.heap.size,2,none⟩=some (.int .i64 0):=by rw [hw5]; exact t6
 have r3 : w5.cell? ⟨w2.heap.size,3,none⟩=some (.int .i64 0):=by rw [hw5]; exact t7
 have ht5:=ht.out.ev hE5
 have hgcF : ¬ F w2.heap.size:=fun hf => by have:=h.out.lt _ hf; omega
 have hFlt:=h.out.lt
 have hc5 : Blk w5 w2.heap.size 83 #[.slice A0 L y0,.slice A1 M y1,.int .i64 0,.int .i64 0]:=by rw [hw5]; exact hc3.out.drewN nq
 have hcv5 : CellV (byteOf F w5) w5 [.slice A0 L y0,.slice A1 M y1,.int .i64 0,.int .i64 0] ⟨key,b,0,0⟩:=hcv2.out.keep fun q hq => by
   obtain ⟨q1,cs,q2⟩:=hq
   have q3 : Blk w5 q 5 cs:=by rw [hw5]; exact (q2.alloc _).drewN nq
   exact ⟨⟨⟨Blk.lt q3,fun hf => by have:=hFlt _ hf; omega⟩,cs,q3⟩,Eq.trans q3 q2.symm⟩
 have hlenn : n.cells.length<=100000:=by have:=hl.out.2.1.many; omega
 have hop : OpC 39 (.pointer (some ⟨w2.heap.size,0,none⟩)) (.pointer (some ⟨w.heap.size,0,none⟩)) w5 F gp st n (findP n key).1 (findP n key).2 st n1:=by
   intro w1 F1 gn B cv kv q1 q2 q3 q4 q5 q6 q7 q8
   rw [hnew.out,hn1.out]
   exact put1_new w1 F1 gp st q1 gn w2.heap.size w.heap.size B w5.heap.size (findP n key).1 cv kv n ⟨key,b,0,0⟩ _ _ _ _ q3 q4 (q2.blk hc5 hgcF) (hcv5.evB q2) (findP_le n key hnew.out) hlenn q6 q7 q8 q5
 have hly : LayC w5 F gt gp k no st n1 (saveS st no n1) none:=fun w1 F1 v q1 q2 q3 => lay_fits w1 F1 gt gp k st q1 q2 no n1 v q3 hs.out
 have hk5:=hk.out.ev hE5
 rw [hL.out] at hk5
 have hch:=hide (change_leaf w5 F gt gp k st hP5 ht5 no n hl.out hleaf.out kA kc key hk5 w2.heap.size w.heap.size st (saveS st no n1) n1 none hop hly)
 rw [<- hL.out] at hch
 clear hop hly hk5
 replace hw5:=hide hw5
 replace hs5:=hide hs5
 replace hE5:=hide hE5
 replace hP5:=hide hP5
 replace ht5:=hide ht5
 replace hc5:=hide hc5
 replace hcv5:=hide hcv5
 replace hFlt:=hide hFlt
 replace hgcF:=hide hgcF
 clear hrt
 go_wp2_with fail
 go_at_call 38
 refine hch.out.mono ?_
 rintro e w8 ⟨F8,gl,m,rfl,hP8,hE8,hgl,hnl,rfl,hb8⟩
 have hE8w:=hE5.out.trans hE8
 have u0 : w8.cell? ⟨w.heap.size,0,none⟩=some (.pointer (some ⟨gt,0,none⟩)):=(hE8.cell (p:=⟨w.heap.size,0,none⟩) ⟨by have:=hs5.out; show w.heap.size < w5.heap.size; omega,hnF⟩).trans t0
 have htp:=hide (top_stays w8 F8 gt gp k (saveS st no n1) hP8 (ht.out.ev hE8w) gl no n1 hb8 hnl (load_saved hs.out) (by rw [hn1.out]; exact hleaf.out) (by rw [hn1.out]; unfold insAt; simp))
 replace hE8w:=hide hE8w
 replace hE8:=hide hE8
 replace hP8:=hide hP8
 replace hb8:=hide hb8
 go_wp2_with fail
 go_at_call 42
 refine htp.out.mono ?_
 rintro e w9 ⟨rfl,F9,hP9,hE9⟩
 have hdone : Hid (PgEnd F w gp (saveS st no n1) (.int .i64 0) (.returned (.int .i64 0)) w9):=hide ⟨rfl,F9,hP9,hE8w.out.trans hE9⟩
 replace hP9:=hide hP9
 replace hE9:=hide hE9
 go_wp2_with fail
 go_ret
 exact hdone.out
def StepV (G : Nat->Prop) (w : World) (vs : List Value) (s : NodeP × Nat) : Prop :=
 ∃ A c B d,vs=[.bool s.1.leaf,.slice A s.1.cells.length c,.slice B s.1.kids.length d,.int .i64 (s.2 : Int)]/\NodeM G w (.agg #[.bool s.1.leaf,.slice A s.1.cells.length c,.slice B s.1.kids.length d]) s.1
def FC (F C : Nat->Prop) (k : Nat) : Prop:=F k \/ C k
structure CurAt (F C : Nat->Prop) (w : World) (gc gt : Nat) (way : List (NodeP × Nat)) (from_ : List UInt8) (tgt : Int) (er : Int) : Prop where
 mem : ∃ wv fA fc,Blk w gc 115 #[.pointer (some ⟨gt,0,none⟩),wv,.slice fA from_.length fc,.int .i64 tgt,.int .i64 er]/\MB (FC F C) w fA from_.length from_ /\
   (∀ k,wv.ownBlock=some k->C k)/\∃ rows : List (List Value),rows.length=way.length/\w.ownsRow 0 151 4 wv way.length rows.flatten/\∀ (k : Nat) (vs : List Value) (s : NodeP × Nat),rows[k]?=some vs->way[k]?=some s->StepV (Mine (FC F C) w) w vs s
 own : C gc
 apart : ∀ k,C k->¬ F k
 lt : ∀ k,C k->k < w.heap.size
section
variable {F F' C : Nat->Prop} {w w' : World} {gc gt : Nat} {way : List (NodeP × Nat)} {from_ : List UInt8} {tgt er : Int}
theorem StepV.ev {vs : List Value} {s : NodeP × Nat} (h : StepV (Mine F w) w vs s) (he : Ev F w F' w') : StepV (Mine F' w') w' vs s:=by
 obtain ⟨A,c,B,d,e,hn⟩:=h
 exact ⟨A,c,B,d,e,hn.ev he⟩
theorem CurAt.ev (h : CurAt F C w gc gt way from_ tgt er) (he : Ev F w F' w') : CurAt F' C w' gc gt way from_ tgt er:=by
 obtain ⟨wv,fA,fc,hb,hm,ho,rows,h1,h2,h3⟩:=h.mem
 have he2 : Ev (FC F C) w (FC F' C) w':=he.add C
 refine ⟨⟨wv,fA,fc,he.blk hb (h.apart _ h.own),hm.ev he2,ho,rows,h1,he.only.row h2 (fun k hk => h.apart k (ho k hk)),fun k vs s e1 e2 => (h3 k vs s e1 e2).ev he2⟩,h.own,fun k hk => he.new (h.apart k hk) (h.lt k hk),fun k hk => Nat.lt_of_lt_of_le (h.lt k hk) he.size⟩
end
set_option maxHeartbeats 2000000 in
theorem seek_any (w : World) (F : Nat->Prop) (gt gp k : Nat) (st : PgS) (h : PgAt w F gp st) (ht : TreeAt w F gt gp k) (hk8 : k < 8) (key : List UInt8) (kA : Option Addr) (kc : Nat) (hk : MB F w kA key.length key) (hlen : key.length<=1000000) :
   Calls Tryz.prog 25 #[.pointer (some ⟨gt,0,none⟩),.slice kA key.length kc] w fun e w' => ∃ gc,e=.returned (.pointer (some ⟨gc,0,none⟩))/\Below w.heap.size w w'/\w.heap.size<=gc/\CurAt F (fun j => j=gc) w' gc gt [] key (st.roots k : Int) 0:=by
 obtain ⟨L,hL⟩ : ∃ L,L=key.length:=⟨_,rfl⟩
 rw [<- hL] at hk hlen ⊢
 have hFlt:=h.lt
 have hgt:=Blk.lt ht.blk
 have t1 : w.cell? ⟨gt,0,none⟩=some (.pointer (some ⟨gp,0,none⟩)):=ht.blk.cell 0
 have t2 : w.cell? ⟨gt,1,none⟩=some (.int .i64 (k : Int)):=ht.blk.cell 1
 have hcl:=hide (tclone_any kA L kc key w.drew hk.rb (by omega))
 obtain ⟨R,hR⟩ : ∃ R,R=st.roots k:=⟨_,rfl⟩
 have hrt : Hid (∀ W,Below w.heap.size w W->Calls Tryz.prog 23 #[.pointer (some ⟨gp,0,none⟩),.int .i64 (k : Int)] W fun e w' => e=.returned (.int .i64 (R : Int))/\W=w'):=hide fun W hB => by
   rw [hR]; exact root_any W F gp st (h.below hB) k hk8
 have hfin : Hid (∀ W A c,OB W w.heap.size (.slice A L c) L key->Below w.heap.size w W->∃ gc,Ending.returned (.pointer (some ⟨W.heap.size,0,none⟩))=.returned (.pointer (some ⟨gc,0,none⟩))/\Below w.heap.size w (W.alloc (.cells #[.pointer (some ⟨gt,0,none⟩),.slice none 0 0,.slice A L c,.int .i64 (R : Int),.int .i64 0] 115))/\w.heap.size<=gc/\CurAt F (fun j => j=gc) (W.alloc (.cells #[.pointer (some ⟨gt,0,none⟩),.slice none 0 0,.slice A L c,.int .i64 (R : Int),.int .i64 0] 115)) gc gt [] key (st.roots k : Int) 0):=hide (by
   intro W A c hO hB
   have hE : Ev (FC F (fun j => j=W.heap.size)) W (FC F (fun j => j=W.heap.size)) (W.alloc (.cells #[.pointer (some ⟨gt,0,none⟩),.slice none 0 0,.slice A L c,.int .i64 (R : Int),.int .i64 0] 115)):=(Ev.refl _ W).alloc_ _
   have hm : MB (FC F (fun j => j=W.heap.size)) W A L key:=by
     refine ⟨hO.1,fun hn => ?_⟩
     obtain ⟨g,cap,hv,hb,hlt⟩:=World.ownsRow.form hO hn
     have hA : A=some ⟨g,0,none⟩:=by injection hv
     subst hA
     refine ⟨_,rfl,⟨hlt,?_⟩,World.ownsRow.cells hO (g:=g) rfl⟩
     rintro (hf | hf)
     · have h9 : g < w.heap.size := hFlt _ hf
       omega
     · have h9 : g = W.heap.size := hf
       omega
   refine ⟨_,rfl,hB.alloc hB.size _,hB.size,⟨.slice none 0 0,A,c,?_,?_,fun k hk => by simp [Value.ownBlock] at hk,[],rfl,⟨rfl,.inl ⟨rfl,rfl⟩⟩,fun q vs s e1 => by simp at e1⟩,rfl,fun k hk hf => by have h9:=hFlt _ hf; have:=hB.size; subst hk; omega,fun k hk => by subst hk; simp⟩
   · rw [<- hL,<- hR]; exact Blk.new W 115 _
   · rw [<- hL]; exact hm.ev hE)
 replace h:=hide h
 replace ht:=hide ht
 replace hk:=hide hk
 replace hL:=hide hL
 replace hR:=hide hR
 replace hFlt:=hide hFlt
 go_enter Tryz.func25,Tryz.ntmps25
 go_wp2_with fail
 go_region_law (first
   | (go_simp; go_at_call 57; refine hcl.out.mono ?_; rintro e w2 ⟨v2,rfl,hO2,hB2⟩; rw [<- hL.out] at hO2; (obtain ⟨A2,c2,rfl,_,_,_,_⟩:=hO2.form); have hB2' : Below w.heap.size w w2:=(Below.refl _ w).drew.trans hB2; have s1 : w2.cell? ⟨gt,0,none⟩=some (.pointer (some ⟨gp,0,none⟩)):=(hB2'.cell (p:=⟨gt,0,none⟩) hgt).trans t1; have s2 : w2.cell? ⟨gt,1,none⟩=some (.int .i64 (k : Int)):=(hB2'.cell (p:=⟨gt,1,none⟩) hgt).trans t2; have hdone:=hide (hfin.out w2 A2 c2 hO2 hB2'); have hbb:=hide hB2'; replace hO2:=hide hO2; replace hB2:=hide hB2; replace hB2':=hide hB2')
   | (go_simp; go_at_call 23; refine (hrt.out _ (Below.refl _ w).drew).mono ?_; rintro e w3 ⟨rfl,rfl⟩)
   | (go_simp; go_at_call 23; refine (hrt.out _ hbb.out).mono ?_; rintro e w3 ⟨rfl,rfl⟩))
 all_goals
   go_wp2_with fail
   first | exact hdone.out | (go_ret; exact hdone.out)
inductive GoR (S : PgS->Nat->PgS) : PgS->Nat->Nat->List (Nat × List UInt8)->PgS->Prop
 | nil (st : PgS) (no : Nat) : GoR S st no 0 [] st
 | cons (st st' : PgS) (no long : Nat) (l : List (Nat × List UInt8)) (h0 : 0 < long) (hn : st.has no) (hf : st.free < st.many) (hr : GoR S (S st no) (numL ((st.page no).take 3)) (long - 505) l st') :
     GoR S st no long ((no,((st.page no).drop 3).take (min long 505)) :: l) st'
theorem GoR.head {S : PgS->Nat->PgS} {st st' : PgS} {no long : Nat} {l : List (Nat × List UInt8)} (h : GoR S st no long l st') (h0 : 0 < long) :
   ∃ r,l=(no,((st.page no).drop 3).take (min long 505)) :: r/\st.has no/\st.free < st.many/\GoR S (S st no) (numL ((st.page no).take 3)) (long - 505) r st':=by
 cases h with
 | nil => omega
 | cons _ _ _ _ r h0 hn hf hr => exact ⟨r,rfl,hn,hf,hr⟩
theorem GoR.done {S : PgS->Nat->PgS} {st st' : PgS} {no : Nat} {l : List (Nat × List UInt8)} (h : GoR S st no 0 l st') : l=[]/\st=st':=by
 cases h with
 | nil => exact ⟨rfl,rfl⟩
 | cons _ _ _ _ r h0 hn hf hr => omega
theorem GoR.len {S : PgS->Nat->PgS} {st st' : PgS} {no long : Nat} {l : List (Nat × List UInt8)} (h : GoR S st no long l st') : l.length<=long:=by
 induction h with
 | nil => exact Nat.le_refl _
 | cons _ _ _ _ r h0 hn hf hr ih => rw [List.length_cons]; omega
structure ChainC (S : PgS->Nat->PgS) (f : FuncId) (caps : Array Value) (gp : Nat) (J : List (Nat × List UInt8)->(Nat->Prop)->(Nat->Prop)->World->Prop) : Prop where
 fn : ∀ args wx,(callFunc f args).run Tryz.prog wx=.ok (.enter f args) wx
 keep : ∀ d D F F' w w',J d D F w->Ev F w F' w'->J d D F' w'
 step : ∀ d D F w st no b A c,J d D F w->PgAt w F gp st->st.has no->st.free < st.many->RB w w.heap.size A b.length b->b.length<=c->b.length<=505->d.length<=100000 ->
   Calls Tryz.prog f (#[.int .i64 (no : Int),.slice A b.length c] ++ caps) w fun e w' => e=.returned (.int .i64 0)/\∃ F' D',PgAt w' F' gp (S st no)/\J (d ++ [(no,b)]) D' F' w'/\Ev (FC F D) w (FC F' D') w'
def ChainEnd (F D : Nat->Prop) (w : World) (gp : Nat) (J : List (Nat × List UInt8)->(Nat->Prop)->(Nat->Prop)->World->Prop) (l : List (Nat × List UInt8)) (st' : PgS) (e : Ending) (w' : World) : Prop :=
 e=.returned (.int .i64 0)/\∃ F' D',PgAt w' F' gp st'/\J l D' F' w'/\Ev (FC F D) w (FC F' D') w'
def ChSt (S : PgS->Nat->PgS) (F D : Nat->Prop) (w : World) (gt gp k : Nat) (J : List (Nat × List UInt8)->(Nat->Prop)->(Nat->Prop)->World->Prop) (l : List (Nat × List UInt8)) (st' : PgS) (no : Nat) (x : Int) (wx : World) : Prop :=
 ∃ F' D' st1 d r,l=d ++ r/\GoR S st1 no x.toNat r st'/\PgAt wx F' gp st1/\J d D' F' wx/\Ev (FC F D) w (FC F' D') wx/\TreeAt wx (FC F' D') gt gp k
set_option maxHeartbeats 2000000 in
theorem chain_any (S : PgS->Nat->PgS) (f : FuncId) (caps : Array Value) (gp : Nat) (J : List (Nat × List UInt8)->(Nat->Prop)->(Nat->Prop)->World->Prop) (hC : ChainC S f caps gp J) (w : World) (F D : Nat->Prop) (gt k : Nat) (st st' : PgS) (h : PgAt w F gp st) (ht : TreeAt w (FC F D) gt gp k)
   (no0 long : Nat) (l : List (Nat × List UInt8)) (hg : GoR S st no0 long l st') (hJ : J [] D F w) (hlong : long<=100000) :
   Calls Tryz.prog 78 #[.pointer (some ⟨gt,0,none⟩),.int .i64 (no0 : Int),.int .i64 (long : Int),.func (.func f) #[] caps] w (ChainEnd F D w gp J l st'):=by
 have hst : Hid (ChSt S F D w gt gp k J l st' no0 (long : Int) w):=hide ⟨F,D,st,[],l,rfl,by simpa using hg,h,hJ,Ev.refl _ w,ht⟩
 have hll:=hide (Nat.le_trans hg.len hlong)
 replace h:=hide h
 replace ht:=hide ht
 replace hg:=hide hg
 replace hJ : Hid _:=hide hJ
 replace hC:=hide hC
 go_enter Tryz.func78,Tryz.ntmps78
 go_wp2_with fail
 go_loopw [1,2] (fun v1 v2 wx => ∃ (no : Nat) (x : Int),v1=.int .i64 (no : Int)/\v2=.int .i64 x/\-505<=x/\x<=100000/\Hid (ChSt S F D w gt gp k J l st' no x wx)) (fun _ v2 _ => (intOf v2).toNat)
 case atStart => exact ⟨no0,long,rfl,rfl,by omega,by omega,hst⟩
 case round =>
   obtain ⟨no,x,rfl,rfl,hx0,hx1,hG⟩:=hrel
   obtain ⟨Fa,Da,st1,d,r,hdr,hgo,hP,hJa,hE,htr⟩:=hG.out
   by_cases hpos : 0 < x
   · obtain ⟨r', hr', hhas, hfree, hgo'⟩ := hgo.head (by omega)
     have hrd:=hide (read_any wr Fa gp st1 hP no hhas)
     have t0 : wr.cell? ⟨gt,0,none⟩=some (.pointer (some ⟨gp,0,none⟩)):=htr.blk.cell 0
     have htF : TreeAt wr Fa gt gp k:=⟨htr.blk,fun hf => htr.out (.inl hf)⟩
     have hlenp:=hP.len hhas
     replace hP:=hide hP
     replace hJa : Hid _:=hide hJa
     replace hE:=hide hE
     replace htr:=hide htr
     replace htF:=hide htF
     replace hgo:=hide hgo
     replace hgo':=hide hgo'
     replace hr':=hide hr'
     replace hdr:=hide hdr
     replace hlenp:=hide hlenp
     clear hG hst
     go_wp2_with fail
     go_at_call 81
     refine hrd.out.mono ?_
     rintro e w1 ⟨F1,A,c,rfl,hc,hP1,hE1,hm1⟩
     obtain ⟨ad,rfl,_,_⟩:=hm1.2 (by omega)
     have hwg:=hide (wget_any w1 (some ad) 508 c 0 3 (st1.page no) hm1.rb hc (by omega) (by omega) (by omega) (by omega))
     rw [List.drop_zero] at hwg
     obtain ⟨nx,hnx⟩ : ∃ nx,nx=numL ((st1.page no).take 3):=⟨_,rfl⟩
     rw [<- hnx] at hwg
     replace hP1:=hide hP1
     replace hE1:=hide hE1
     replace hm1:=hide hm1
     replace hnx:=hide hnx
     replace hc:=hide hc
     go_wp2_with fail
     go_at_call 56
     refine hwg.out.mono ?_
     rintro e w2 ⟨rfl,hB2⟩
     obtain ⟨m,hm⟩ : ∃ m : Nat,m=min x.toNat 505:=⟨_,rfl⟩
     have hmI : min x 505=(m : Int):=by omega
     have hm5 : m<=505:=by omega
     have hE2 : Ev Fa wr F1 w2:=hE1.out.below hB2
     have hP2 : PgAt w2 F1 gp st1:=hP1.out.below hB2
     have hJ2 : J d Da F1 w2:=hC.out.keep d Da Fa F1 wr w2 hJa.out hE2
     have hm2 : MB F1 w2 (some ad) 508 (st1.page no):=hm1.out.ev (Ev.of_below hB2)
     have hrb : RB w2 w2.heap.size (some (ad.add 3)) m (((st1.page no).drop 3).take m):=by
       have h1:=(hm2.cut (k:=3) (cap:=c) (by omega) (by have:=hc.out; omega)).take (k:=m) (by omega)
       rw [if_neg (by have:=hc.out; omega)] at h1
       exact h1.rb
     have hbl : (((st1.page no).drop 3).take m).length=m:=by
       rw [List.length_take,List.length_drop,hlenp.out]; omega
     have hcl : Hid (Calls Tryz.prog f (#[.int .i64 (no : Int),.slice (some (ad.add 3)) m (c - 3)] ++ caps) w2 fun e w' => e=.returned (.int .i64 0)/\∃ F' D',PgAt w' F' gp (S st1 no)/\J (d ++ [(no,((st1.page no).drop 3).take m)]) D' F' w'/\Ev (FC F1 Da) w2 (FC F' D') w'):=hide (by
       have h9:=hC.out.step d Da F1 w2 st1 no (((st1.page no).drop 3).take m) (some (ad.add 3)) (c - 3) hJ2 hP2 hhas hfree (by rw [hbl]; exact hrb) (by rw [hbl]; have:=hc.out; omega) (by rw [hbl]; exact hm5) (by have h8:=hll.out; rw [hdr.out,List.length_append] at h8; omega)
       rw [hbl] at h9
       exact h9)
     replace hB2:=hide hB2
     replace hE2:=hide hE2
     replace hP2:=hide hP2
     replace hJ2 : Hid _:=hide hJ2
     replace hm2:=hide hm2
     replace hrb:=hide hrb
     replace hbl:=hide hbl
     replace hm:=hide hm
     replace hhas:=hide hhas
     replace hfree:=hide hfree
     have hcI : (508 : Int)<=(c : Int):=by have:=hc.out; omega
     have hcN : 508<=c:=hc.out
     have hm3 : 3 + m - 3=m:=by omega
     have hfn:=fun args => hC.out.fn args w2
     clear hrd hwg
     go_wp2_with fail
     refine hcl.out.mono ?_
     rintro e w3 ⟨rfl,F3,D3,hP3,hJ3,hE3⟩
     have hrel : Hid (ChSt S F D w gt gp k J l st' nx (x - 505) w3):=hide (by
       have e1 : (x - 505).toNat=x.toNat - 505:=by omega
       refine ⟨F3,D3,S st1 no,d ++ [(no,((st1.page no).drop 3).take m)],r',?_,?_,hP3,hJ3,?_,htr.out.ev ((hE2.out.add Da).trans hE3)⟩
       · rw [hdr.out,hr'.out,<- hm.out]; simp
       · rw [e1,hnx.out]; exact hgo'.out
       · exact hE.out.trans ((hE2.out.add Da).trans hE3))
     have hw5 : wrap64 (x - 505)=x - 505:=by unfold wrap64; omega
     have hw5' : IntKind.i64.wrap (x - 505)=x - 505:=IntWalk.i64_in _ (by omega)
     replace hP3:=hide hP3
     replace hJ3 : Hid _:=hide hJ3
     replace hE3:=hide hE3
     clear hcl hfn
     go_wp2_with fail
     go_roundw
     case rel => exact ⟨nx,x - 505,rfl,rfl,by omega,by omega,hrel⟩
     case measure => simp [intOf]; omega
   · have hx : x.toNat = 0 := by omega
     rw [hx] at hgo
     obtain ⟨rfl,rfl⟩:=hgo.done
     have hdone : Hid (ChainEnd F D w gp J l st1 (.returned (.int .i64 0)) wr):=hide (by
       rw [List.append_nil] at hdr
       subst hdr
       exact ⟨rfl,Fa,Da,hP,hJa,hE⟩)
     replace hP:=hide hP
     replace hJa : Hid _:=hide hJa
     replace hE:=hide hE
     replace htr:=hide htr
     replace hgo:=hide hgo
     replace hdr:=hide hdr
     clear hG hst
     go_wp2_with fail
     go_ret
     exact hdone.out
theorem step_info : (Tryz.prog.info? 151).map (fun i => (i.zero,i.size,i.bytes))=some (some (.agg #[.bool false,.slice none 0 0,.slice none 0 0,.int .i64 0]),4,64):=by kernel_rfl
theorem run_app_step (w : World) (base : Nat) (v : Value) (m : Nat) (xs : List Value) (hown : w.ownsRow base 151 4 v m xs) (g : Nat) (x0 x1 x2 x3 : Value) (h1 : ∀ u ∈ [x0,x1,x2,x3],u.oneCell'=true) (hb : Blk w g 151 #[x0,x1,x2,x3]) (ty : TypeId) (hlen : m + 1<=1000000) (hbase : base<=w.heap.size) :
   ∃ v' w',(Builtin.append_ #[113,113] ty #[v,.slice (some ⟨g,0,none⟩) 1 1]).run Tryz.prog w=.ok v' w'/\w'.ownsRow base 151 4 v' (m + 1) (xs ++ [x0,x1,x2,x3])/\w.grownBy w' v.ownBlock/\(v'.ownBlock=v.ownBlock \/ v'.ownBlock=some w.heap.size):=by
 obtain ⟨i0,hi0,hz0,hz1,hz2⟩:=info_parts step_info
 exact run_append_any (P:=Tryz.prog) w base 113 ty 151 i0 _ 4 64 Tryz.underlying113 hi0 hz0 hz1 hz2 rfl (by omega) v m xs hown w.heap.size (some ⟨g,0,none⟩) 1 1 [x0,x1,x2,x3] ⟨rfl,fun _ => ⟨_,rfl,hb.lt,fun j u hu => by
     have e : (Addr.mk g 0 none).add j=⟨g,j,none⟩:=by
       unfold Addr.add
       by_cases h0 : j=0
       · subst h0; rfl
       · rw [if_neg h0]; simp
     rw [e,hb.cell]
     simpa using hu⟩⟩ h1 (by simp only [maxLen]; omega) (by omega) hbase
theorem cur_push {F C : Nat->Prop} {w w5 : World} {gc gt : Nat} {way : List (NodeP × Nat)} {from_ : List UInt8} {tgt er : Int} {wv v5 : Value} {fA : Option Addr} {fc : Nat} {rows : List (List Value)} {vs : List Value} {s : NodeP × Nat}
   (hbc : Blk w gc 115 #[.pointer (some ⟨gt,0,none⟩),wv,.slice fA from_.length fc,.int .i64 tgt,.int .i64 er]) (hm : MB (FC F C) w fA from_.length from_) (ho : ∀ k,wv.ownBlock=some k->C k) (h1 : rows.length=way.length) (h2 : w.ownsRow 0 151 4 wv way.length rows.flatten)
   (h3 : ∀ (k : Nat) (vs : List Value) (s : NodeP × Nat),rows[k]?=some vs->way[k]?=some s->StepV (Mine (FC F C) w) w vs s) (own : C gc) (apart : ∀ k,C k->¬ F k) (lt : ∀ k,C k->k < w.heap.size) (hF : ∀ k,F k->k < w.heap.size) (hs : StepV (Mine (FC F C) w) w vs s)
   (hg : w.grownBy w5 wv.ownBlock) (hown : w5.ownsRow 0 151 4 v5 (way.length + 1) (rows.flatten ++ vs)) (hv : v5.ownBlock=wv.ownBlock \/ v5.ownBlock=some w.heap.size) :
   CurAt F (fun k => C k \/ v5.ownBlock=some k) (w5.setCell ⟨gc,1,none⟩ v5) gc gt (way ++ [s]) from_ tgt er/\Ev (FC F C) w (FC F (fun k => C k \/ v5.ownBlock=some k)) (w5.setCell ⟨gc,1,none⟩ v5):=by
 have hnew : ∀ k,v5.ownBlock=some k->C k \/ k=w.heap.size:=fun k hk => by
   rcases hv with e | e
   · exact .inl (ho k (by rw [<- e]; exact hk))
   · rw [e] at hk; injection hk with hk; exact .inr hk.symm
 have hO : Only (FC F C) w (w5.setCell ⟨gc,1,none⟩ v5):=((Only.refl (FC F C) w).grown hg (fun k hk _ => .inr (ho k hk))).setCell (p:=⟨gc,1,none⟩) (fun _ => .inr own) v5
 have hE : Ev (FC F C) w (FC F (fun k => C k \/ v5.ownBlock=some k)) (w5.setCell ⟨gc,1,none⟩ v5):=⟨hO,fun k hk => by
   rcases hk with hk | hk | hk
   · exact .inl (.inl hk)
   · exact .inl (.inr hk)
   · rcases hnew k hk with h9 | h9
     · exact .inl (.inr h9)
     · exact .inr (by omega)⟩
 have hgc : some gc ≠ wv.ownBlock:=fun e => own_blk_ne h2 hbc (by decide) e.symm
 have hb5:=(hbc.grown hg hgc).set_ 1 v5
 have hO2 : Only (fun k => k=gc) w5 (w5.setCell ⟨gc,1,none⟩ v5):=(Only.refl (fun k => k=gc) w5).setCell (p:=⟨gc,1,none⟩) (fun _ => rfl) v5
 have hs5 : w5.heap.size<=(w5.setCell ⟨gc,1,none⟩ v5).heap.size:=hO2.size
 refine ⟨⟨⟨v5,fA,fc,hb5,hm.ev hE,fun k hk => .inr hk,rows ++ [vs],by simp [h1],?_,fun k vs' s' e1 e2 => ?_⟩,.inl own,fun k hk hf => ?_,fun k hk => ?_⟩,hE⟩
 · rw [List.length_append, List.flatten_append]
   simp only [List.flatten_cons,List.flatten_nil,List.append_nil,List.length_cons,List.length_nil,Nat.zero_add]
   exact hO2.row hown (own_not_blk hown (hbc.grown hg hgc) (by decide))
 · by_cases hk : k < rows.length
   · rw [List.getElem?_append_left hk] at e1
     rw [List.getElem?_append_left (by omega)] at e2
     exact (h3 k vs' s' e1 e2).ev hE
   · have hk2 : k=rows.length:=by
       have:=(List.getElem?_eq_some_iff.1 e1).1
       simp at this; omega
     subst hk2
     rw [List.getElem?_append_right (Nat.le_refl _),Nat.sub_self] at e1
     rw [h1,List.getElem?_append_right (Nat.le_refl _),Nat.sub_self] at e2
     simp at e1 e2
     subst e1; subst e2
     exact hs.ev hE
 · rcases hk with hk | hk
   · exact apart k hk hf
   · rcases hnew k hk with h9 | h9
     · exact apart k h9 hf
     · have:=hF k hf; omega
 · rcases hk with hk | hk
   · have h8:=lt k hk; have h9:=hg.size; omega
   · have:=(own_lt hown hk).2; omega
def DownEnd (F C : Nat->Prop) (w : World) (gp : Nat) (st : PgS) (gc gt : Nat) (way : List (NodeP × Nat)) (from_ : List UInt8) (tgt er : Int) (e : Ending) (w' : World) : Prop :=
 e=.returned (.int .i64 0)/\∃ F' C',PgAt w' F' gp st/\CurAt F' C' w' gc gt way from_ tgt er/\Ev (FC F C) w (FC F' C') w'/\(∀ k,C k->C' k)/\∀ (g : Nat) (t : TypeId) (cs : Array Value),Blk w g t cs->¬ F g->t ≠ 115->t ≠ 151->Blk w' g t cs
set_option maxHeartbeats 2000000 in
theorem down_leaf (w : World) (F C : Nat->Prop) (gc gt gp k : Nat) (st : PgS) (h : PgAt w F gp st) (ht : TreeAt w (FC F C) gt gp k) (way : List (NodeP × Nat)) (from_ : List UInt8) (tgt er : Int) (hc : CurAt F C w gc gt way from_ tgt er) (no : Nat) (n : NodeP) (hl : LoadR st no n) (hleaf : n.leaf=true) (hway : way.length<=1000) :
   Calls Tryz.prog 94 #[.pointer (some ⟨gc,0,none⟩),.int .i64 (no : Int),.bool false] w (DownEnd F C w gp st gc gt (way ++ [(n,(findP n from_).1)]) from_ tgt er):=by
 have htF : TreeAt w F gt gp k:=⟨ht.blk,fun hf => ht.out (.inl hf)⟩
 have hld:=hide (load_any w F gt gp k st h htF no n hl hleaf)
 obtain ⟨wv,fA,fc,hbc,hmc,hoc,rows,hr1,hr2,hr3⟩:=hc.mem
 have q0 : w.cell? ⟨gc,0,none⟩=some (.pointer (some ⟨gt,0,none⟩)):=hbc.cell 0
 have hgc:=Blk.lt hbc
 have hgcF : ¬ F gc:=hc.apart _ hc.own
 have hrise:=hl.2.1.rise
 have hmany:=hl.2.1.many
 obtain ⟨L,hL⟩ : ∃ L,L=from_.length:=⟨_,rfl⟩
 obtain ⟨P,hP⟩ : ∃ P,P=way.length:=⟨_,rfl⟩
 rw [<- hL] at hbc hmc
 rw [<- hP] at hr1 hr2
 obtain ⟨wA,wc,rfl⟩:=own_form hr2
 replace h:=hide h
 replace ht:=hide ht
 replace htF:=hide htF
 replace hc:=hide hc
 replace hl:=hide hl
 replace hbc:=hide hbc
 replace hmc:=hide hmc
 replace hoc:=hide hoc
 replace hr1:=hide hr1
 replace hr2:=hide hr2
 replace hr3:=hide hr3
 replace hL:=hide hL
 replace hP:=hide hP
 replace hrise:=hide hrise
 replace hmany:=hide hmany
 replace hgcF:=hide hgcF
 obtain ⟨lf,hlf⟩ : ∃ lf,lf=n.leaf:=⟨_,rfl⟩
 have hlt : lf=true:=hlf.trans hleaf
 subst hlt
 replace hlf:=hide hlf
 replace hleaf:=hide hleaf
 go_enter Tryz.func94,Tryz.ntmps94
 go_wp2_with fail
 go_loopw [1] (fun v1 wx => v1=.int .i64 (no : Int)/\wx=w) (fun _ _ => 0)
 case atStart => exact ⟨rfl,rfl⟩
 case round =>
   obtain ⟨rfl,hwx⟩:=hrel
   subst hwx
   go_wp2_with fail
   go_at_call 45
   refine hld.out.mono ?_
   rintro e w1 ⟨F1,cv,kv,B0,rfl,hP1,hE1,hF1,hwB,hO1⟩
   rw [<- hlf.out]
   have hn1 : NodeM (Mine (FC F1 C) w1) w1 (.agg #[.bool n.leaf,cv,kv]) n:=(hO1.toW (F:=FC F1 C) (fun j hj => by
     rcases hj with hj | hj
     · exact hF1 j hj
     · have:=hc.out.lt j hj; omega)).nodeM
   obtain ⟨A1,c1,rfl⟩:=own_form hO1.kids
   obtain ⟨A2,c2,rfl⟩:=own_form hO1.rows.choose_spec.2.1
   obtain ⟨N,hN⟩ : ∃ N,N=n.cells.length:=⟨_,rfl⟩
   obtain ⟨K,hK⟩ : ∃ K,K=n.kids.length:=⟨_,rfl⟩
   rw [<- hN,<- hK,<- hlf.out] at hn1
   rw [<- hN,<- hK]
   have hnF1 : ¬ F1 w1.heap.size:=fun hf => by have:=hP1.lt _ hf; omega
   have hbn:=Blk.new w1 89 #[.bool true,.slice A2 N c2,.slice A1 K c1]
   have hE2 : Ev F wr F1 (w1.alloc (.cells #[.bool true,.slice A2 N c2,.slice A1 K c1] 89)):=hE1.alloc_ _
   have hcu:=hc.out.ev hE2
   have hbc2 : Blk (w1.alloc (.cells #[.bool true,.slice A2 N c2,.slice A1 K c1] 89)) gc 115 #[.pointer (some ⟨gt,0,none⟩),.slice wA P wc,.slice fA L fc,.int .i64 tgt,.int .i64 er]:=hE2.blk hbc.out hgcF.out
   have hP2:=hP1.alloc (.cells #[.bool true,.slice A2 N c2,.slice A1 K c1] 89)
   have hfd:=hide (find_any (w1.alloc (.cells #[.bool true,.slice A2 N c2,.slice A1 K c1] 89)).drew (.agg #[.bool true,.slice A2 N c2,.slice A1 K c1]) n ((hn1.ev ((Ev.refl (FC F1 C) w1).alloc_ (.cells #[.bool true,.slice A2 N c2,.slice A1 K c1] 89)).drew).old fun k hk => hk.1) hrise.out (by have:=hmany.out; omega) fA fc from_ (by have h9:=(hmc.out.ev (hE2.drew.add C)).rb; rw [hL.out] at h9; exact h9))
   rw [<- hL.out] at hfd
   obtain ⟨I,hI⟩ : ∃ I,I=(findP n from_).1:=⟨_,rfl⟩
   obtain ⟨S,hS⟩ : ∃ S,S=(findP n from_).2:=⟨_,rfl⟩
   rw [<- hI,<- hS] at hfd
   have m0:=hbn.cell 0
   have m1:=hbn.cell 1
   have m2:=hbn.cell 2
   have b1:=hbc2.cell 1
   have b2:=hbc2.cell 2
   replace hN:=hide hN
   replace hK:=hide hK
   replace hI:=hide hI
   replace hS:=hide hS
   replace hn1:=hide hn1
   replace hO1:=hide hO1
   replace hF1:=hide hF1
   replace hP1:=hide hP1
   replace hE1:=hide hE1
   replace hP2:=hide hP2
   replace hE2:=hide hE2
   replace hbn:=hide hbn
   replace hbc2:=hide hbc2
   replace hcu:=hide hcu
   replace hnF1:=hide hnF1
   go_wp2_with fail
   go_region_law (go_simp; go_at_call 46; refine hfd.out.mono ?_; rintro e w3 ⟨rfl,hB3⟩; have hb3:=hbn.out.drew.below hB3 (Blk.lt hbn.out); have o0:=hb3.cell 0; have o1:=hb3.cell 1; have o2:=hb3.cell 2; have hg3:=hbc2.out.drew.below hB3 (Blk.lt hbc2.out); have j1:=hg3.cell 1; have fz:=hg3.frozen 1; replace hb3:=hide hb3; replace hg3:=hide hg3; replace hB3:=hide hB3)
   all_goals
     have hE3 : Ev F wr F1 w3:=hE2.out.drew.below hB3.out
     have hP3 : PgAt w3 F1 gp st:=hP2.out.drew.below hB3.out
     have hrow3:=hE3.only.row hr2.out (fun k hk => hc.out.apart k (hoc.out k hk))
     have hb4:=Blk.new w3 151 #[.bool true,.slice A2 N c2,.slice A1 K c1,.int .i64 (I : Int)]
     have hrow4 : ((w3.alloc (.cells #[.bool true,.slice A2 N c2,.slice A1 K c1,.int .i64 (I : Int)] 151)).drew).ownsRow 0 151 4 (.slice wA P wc) P rows.flatten:=(((Only.refl (fun _ => False) w3).alloc _).drew).row hrow3 (fun _ _ h => h)
     obtain ⟨v5,w5,hrun,hown5,hg5,hv5⟩:=run_app_step _ 0 _ P rows.flatten hrow4 w3.heap.size (.bool true) (.slice A2 N c2) (.slice A1 K c1) (.int .i64 (I : Int)) (by intro u hu; simp at hu; rcases hu with rfl | rfl | rfl | rfl <;> rfl) (show Blk (w3.alloc _).drew w3.heap.size 151 _ from hb4) 113 (by have:=hP.out; omega) (Nat.zero_le _)
     have hE4:=(hE3.alloc_ (.cells #[.bool true,.slice A2 N c2,.slice A1 K c1,.int .i64 (I : Int)] 151)).drew
     have hP4:=(hP3.alloc (.cells #[.bool true,.slice A2 N c2,.slice A1 K c1,.int .i64 (I : Int)] 151)).drew
     have hpush:=cur_push (s:=(n,I)) (vs:=[.bool true,.slice A2 N c2,.slice A1 K c1,.int .i64 (I : Int)]) (way:=way) (from_:=from_) (by rw [<- hL.out]; exact hE4.blk hbc.out hgcF.out) (by rw [<- hL.out]; exact hmc.out.ev (hE4.add C)) hoc.out (by rw [<- hP.out]; exact hr1.out) (by rw [<- hP.out]; exact hrow4) (fun k vs s e1 e2 => (hr3.out k vs s e1 e2).ev (hE4.add C)) hc.out.own (hc.out.ev hE4).apart (hc.out.ev hE4).lt hP4.lt ⟨A2,c2,A1,c1,by show [Value.bool true,.slice A2 N c2,.slice A1 K c1,.int .i64 (I : Int)]=[.bool n.leaf,.slice A2 n.cells.length c2,.slice A1 n.kids.length c1,.int .i64 (I : Int)]; rw [<- hN.out,<- hK.out,<- hlf.out],by
       have h9:=hn1.out.ev ((((Ev.refl (FC F1 C) w1).alloc_ (.cells #[.bool true,.slice A2 N c2,.slice A1 K c1] 89)).drew.below hB3.out).alloc_ (.cells #[.bool true,.slice A2 N c2,.slice A1 K c1,.int .i64 (I : Int)] 151)).drew
       show NodeM _ _ (.agg #[.bool n.leaf,.slice A2 n.cells.length c2,.slice A1 n.kids.length c1]) n
       rw [<- hlf.out,<- hN.out,<- hK.out]
       exact h9⟩ hg5 (by rw [<- hP.out]; exact hown5) hv5
     have hdone : Hid (DownEnd F C wr gp st gc gt (way ++ [(n,(findP n from_).1)]) from_ tgt er (.returned (.int .i64 0)) (w5.setCell ⟨gc,1,none⟩ v5)):=hide (by
       rw [<- hI.out]
       refine ⟨rfl,F1,_,?_,hpush.1,(hE4.add C).trans hpush.2,fun k hk => .inl hk,fun g t cs hb hnf ht1 ht2 => ((hE4.blk hb hnf).grown hg5 (fun e => own_blk_ne hrow4 (hE4.blk hb hnf) ht2.symm e.symm)).far (p:=⟨gc,1,none⟩) (Blk.ne_ hb hbc.out ht1) v5⟩
       exact (hP4.grown hg5 (fun k hk => (hc.out.ev hE4).apart k (hoc.out k hk))).set_ (p:=⟨gc,1,none⟩) ((hc.out.ev hE4).apart gc hc.out.own) v5)
     clear hpush
     replace hE4:=hide hE4
     replace hP4:=hide hP4
     have j1' : (w3.alloc (.cells #[.bool true,.slice A2 N c2,.slice A1 K c1,.int .i64 (I : Int)] 151)).cell? ⟨gc,1,none⟩=some (.slice wA P wc):=(hg3.out.alloc _).cell 1
     have p0:=(hb3.out.alloc (.cells #[.bool true,.slice A2 N c2,.slice A1 K c1,.int .i64 (I : Int)] 151)).cell 0
     have p1:=(hb3.out.alloc (.cells #[.bool true,.slice A2 N c2,.slice A1 K c1,.int .i64 (I : Int)] 151)).cell 1
     have p2:=(hb3.out.alloc (.cells #[.bool true,.slice A2 N c2,.slice A1 K c1,.int .i64 (I : Int)] 151)).cell 2
     have hg6 : Blk w5 gc 115 #[.pointer (some ⟨gt,0,none⟩),.slice wA P wc,.slice fA L fc,.int .i64 tgt,.int .i64 er]:=(show Blk (w3.alloc (.cells #[.bool true,.slice A2 N c2,.slice A1 K c1,.int .i64 (I : Int)] 151)).drew gc 115 _ from hg3.out.alloc _).grown hg5 (fun e => own_blk_ne hrow3 hg3.out (by decide) e.symm)
     obtain ⟨A5,c5,rfl⟩:=own_form hown5
     have z1:=hg6.cell 1
     have z2:=hg6.frozen 1
     replace hE3:=hide hE3
     replace hP3:=hide hP3
     replace hrow3:=hide hrow3
     replace hrow4:=hide hrow4
     replace hb4:=hide hb4
     replace hg6:=hide hg6
     replace hown5:=hide hown5
     replace hg5:=hide hg5
     replace hv5:=hide hv5
     go_wp2_with fail
     go_region_law (refine Lib.wp_append_run _ (.tmp 39) (.tmp 43) 113 113 rfl _ _ rfl rfl _ _ hrun ?_)
   all_goals
     go_wp2_with fail
     first | exact hdone.out | (go_ret; exact hdone.out)
theorem value_short (w : World) (gt : Nat) (kA vA : Option Addr) (kl vl kc vc lg : Nat) :
   Calls Tryz.prog 47 #[.pointer (some ⟨gt,0,none⟩),.agg #[.slice kA kl kc,.slice vA vl vc,.int .i64 0,.int .i64 (lg : Int)]] w fun e w' => e=.returned (.tuple #[.slice vA vl vc,.int .i64 0])/\Below w.heap.size w w':=by
 have hB1:=(Below.refl w.heap.size w).alloc (Nat.le_refl _) (.cells #[.slice kA kl kc,.slice vA vl vc,.int .i64 0,.int .i64 (lg : Int)] 83)
 replace hB1:=hide hB1
 go_enter Tryz.func47,Tryz.ntmps47
 go_wp2_with fail
 go_ret2
 exact ⟨rfl,hB1.out⟩
section
variable {F C : Nat->Prop} {w : World} {gc gt : Nat} {way : List (NodeP × Nat)} {from_ : List UInt8} {tgt er : Int}
theorem cur_tgt (h : CurAt F C w gc gt way from_ tgt er) (t' : Int) : CurAt F C (w.setCell ⟨gc,3,none⟩ (.int .i64 t')) gc gt way from_ t' er/\Ev (FC F C) w (FC F C) (w.setCell ⟨gc,3,none⟩ (.int .i64 t')):=by
 obtain ⟨wv,fA,fc,hb,hm,ho,rows,h1,h2,h3⟩:=h.mem
 have hE : Ev (FC F C) w (FC F C) (w.setCell ⟨gc,3,none⟩ (.int .i64 t')):=(Ev.refl _ w).set_ (p:=⟨gc,3,none⟩) (.inr h.own) _
 have hO : Only (fun k => k=gc) w (w.setCell ⟨gc,3,none⟩ (.int .i64 t')):=(Only.refl (fun k => k=gc) w).setCell (p:=⟨gc,3,none⟩) (fun _ => rfl) _
 exact ⟨⟨⟨wv,fA,fc,hb.set_ 3 _,hm.ev hE,ho,rows,h1,hO.row h2 (own_not_blk h2 hb (by decide)),fun k vs s e1 e2 => (h3 k vs s e1 e2).ev hE⟩,h.own,h.apart,fun k hk => Nat.lt_of_lt_of_le (h.lt k hk) hE.size⟩,hE⟩
theorem cur_err (h : CurAt F C w gc gt way from_ tgt er) (t' : Int) : CurAt F C (w.setCell ⟨gc,4,none⟩ (.int .i64 t')) gc gt way from_ tgt t'/\Ev (FC F C) w (FC F C) (w.setCell ⟨gc,4,none⟩ (.int .i64 t')):=by
 obtain ⟨wv,fA,fc,hb,hm,ho,rows,h1,h2,h3⟩:=h.mem
 have hE : Ev (FC F C) w (FC F C) (w.setCell ⟨gc,4,none⟩ (.int .i64 t')):=(Ev.refl _ w).set_ (p:=⟨gc,4,none⟩) (.inr h.own) _
 have hO : Only (fun k => k=gc) w (w.setCell ⟨gc,4,none⟩ (.int .i64 t')):=(Only.refl (fun k => k=gc) w).setCell (p:=⟨gc,4,none⟩) (fun _ => rfl) _
 exact ⟨⟨⟨wv,fA,fc,hb.set_ 4 _,hm.ev hE,ho,rows,h1,hO.row h2 (own_not_blk h2 hb (by decide)),fun k vs s e1 e2 => (h3 k vs s e1 e2).ev hE⟩,h.own,h.apart,fun k hk => Nat.lt_of_lt_of_le (h.lt k hk) hE.size⟩,hE⟩
end
theorem own_cells4 {w : World} {B m : Nat} {e : TypeId} {v : Value} {xs : List Value} (h : w.ownsRow B e 4 v m xs) (hm : 0 < m) : ∃ g cap cur,v=.slice (some ⟨g,0,none⟩) m cap/\Blk w g e cur/\m<=cap/\cap<=maxLen/\cur.size=cap * 4/\cur.toList.take (m * 4)=xs/\B<=g:=by
 rcases h.2 with ⟨e1,h0⟩ | ⟨g,cap,cur,e1,hg,hh,h3,h4,h5,h6⟩
 · omega
 · exact ⟨g,cap,cur,e1,hh,h3,h4,h5,h6,hg⟩
theorem cur_last {F C : Nat->Prop} {w : World} {gc gt : Nat} {way : List (NodeP × Nat)} {from_ : List UInt8} {tgt er : Int} {n : NodeP} {i : Nat} (h : CurAt F C w gc gt (way ++ [(n,i)]) from_ tgt er) :
   ∃ g cap cur A c B d, Blk w g 151 cur /\ C g /\ way.length + 1 <= cap /\ cap <= maxLen /\ w.cell? ⟨gc, 1, none⟩ = some (.slice (some ⟨g, 0, none⟩) (way.length + 1) cap) /\
     w.cell? ⟨g,way.length * 4,none⟩=some (.bool n.leaf)/\w.cell? ⟨g,way.length * 4 + 1,none⟩=some (.slice A n.cells.length c)/\w.cell? ⟨g,way.length * 4 + 2,none⟩=some (.slice B n.kids.length d)/\w.cell? ⟨g,way.length * 4 + 3,none⟩=some (.int .i64 (i : Int)) /\
     NodeM (Mine (FC F C) w) w (.agg #[.bool n.leaf,.slice A n.cells.length c,.slice B n.kids.length d]) n /\
     ∀ j : Nat,CurAt F C (w.setCell ⟨g,way.length * 4 + 3,none⟩ (.int .i64 (j : Int))) gc gt (way ++ [(n,j)]) from_ tgt er/\Ev (FC F C) w (FC F C) (w.setCell ⟨g,way.length * 4 + 3,none⟩ (.int .i64 (j : Int))):=by
 obtain ⟨wv,fA,fc,hb,hm,ho,rows,h1,h2,h3⟩:=h.mem
 obtain ⟨g,cap,cur,rfl,hbg,hcap,hcm,hcs,htk,_⟩:=own_cells4 h2 (by simp)
 have hlen : (way ++ [(n,i)]).length=way.length + 1:=by simp
 rw [hlen] at h1 h2 hcap htk
 have hCg : C g:=ho g rfl
 obtain ⟨pre,vs,hpv⟩ : ∃ pre vs,rows=pre ++ [vs]:=by
   have : rows ≠ []:=fun e => by rw [e] at h1; simp at h1
   exact ⟨rows.dropLast,rows.getLast this,(List.dropLast_concat_getLast this).symm⟩
 subst hpv
 have hpl : pre.length=way.length:=by simp at h1; exact h1
 obtain ⟨A,c,B,d,hvs,hnm⟩:=h3 way.length vs (n,i) (by rw [<- hpl]; simp) (by simp)
 subst hvs
 have h4 : ∀ r ∈ pre,r.length=4:=by
   intro r hr
   obtain ⟨q,hq,e⟩:=List.getElem_of_mem hr
   have hq2 : q < way.length:=by omega
   obtain ⟨A',c',B',d',e2,_⟩:=h3 q r way[q] (by rw [List.getElem?_append_left hq,List.getElem?_eq_getElem hq,e]) (by rw [List.getElem?_append_left hq2,List.getElem?_eq_getElem hq2])
   rw [e2]; rfl
 have hpf : pre.flatten.length=way.length * 4:=by
   have:=(flatten_take4 pre pre.length h4).2
   rw [List.drop_length] at this
   have h9 : ∀ (l : List (List Value)),(∀ r ∈ l,r.length=4)->l.flatten.length=l.length * 4:=by
     intro l
     induction l with
     | nil => intro _; rfl
     | cons a t ih => intro hl; rw [List.flatten_cons,List.length_append,ih fun r hr => hl r (.tail _ hr),hl a (.head _),List.length_cons]; omega
   rw [h9 pre h4,hpl]
 have hcell : ∀ j u,[Value.bool n.leaf,.slice A n.cells.length c,.slice B n.kids.length d,.int .i64 (i : Int)][j]?=some u->w.cell? ⟨g,way.length * 4 + j,none⟩=some u:=by
   intro j u hu
   have hj:=(List.getElem?_eq_some_iff.1 hu).1
   simp at hj
   rw [hbg.cell]
   have h9 : cur.toList[way.length * 4 + j]?=some u:=by
     have e1 : (cur.toList.take ((way.length + 1) * 4))[way.length * 4 + j]?=some u:=by
       rw [htk,List.flatten_append,List.getElem?_append_right (by omega),hpf,Nat.add_sub_cancel_left]
       simpa using hu
     rw [List.getElem?_take,if_pos (by omega)] at e1
     exact e1
   simpa using h9
 refine ⟨g,cap,cur,A,c,B,d,hbg,hCg,hcap,hcm,by have:=hb.cell 1; rw [hlen] at this; exact this,hcell 0 _ rfl,hcell 1 _ rfl,hcell 2 _ rfl,hcell 3 _ rfl,hnm,fun j => ?_⟩
 have hE : Ev (FC F C) w (FC F C) (w.setCell ⟨g,way.length * 4 + 3,none⟩ (.int .i64 (j : Int))):=(Ev.refl _ w).set_ (p:=⟨g,way.length * 4 + 3,none⟩) (.inr hCg) _
 have hgne : gc ≠ g:=Blk.ne_ hb hbg (by decide)
 have hbs:=hbg.set_ (way.length * 4 + 3) (.int .i64 (j : Int))
 have hl2 : (way ++ [(n,j)]).length=way.length + 1:=by simp
 refine ⟨⟨⟨_,fA,fc,hb.far (p:=⟨g,way.length * 4 + 3,none⟩) hgne _,hm.ev hE,ho,pre ++ [[.bool n.leaf,.slice A n.cells.length c,.slice B n.kids.length d,.int .i64 (j : Int)]],by rw [hl2]; simp [hpl],?_,fun q vs' s e1 e2 => ?_⟩,h.own,h.apart,fun k hk => Nat.lt_of_lt_of_le (h.lt k hk) hE.size⟩,hE⟩
 · rw [hl2, hlen]
   refine ⟨by simp [hpf]; omega,.inr ⟨g,cap,_,rfl,Nat.zero_le _,hbs,hcap,hcm,by simp [hcs],?_⟩⟩
   have e1 : (cur.setIfInBounds (way.length * 4 + 3) (.int .i64 (j : Int))).toList.take ((way.length + 1) * 4)=(cur.toList.take ((way.length + 1) * 4)).set (way.length * 4 + 3) (.int .i64 (j : Int)):=by
     rw [Array.toList_setIfInBounds,List.take_set]
   rw [e1,htk,List.flatten_append,List.flatten_append,List.set_append_right _ _ (by omega),hpf,Nat.add_sub_cancel_left]
   rfl
 · by_cases hq : q < pre.length
   · rw [List.getElem?_append_left hq] at e1
     rw [List.getElem?_append_left (by omega)] at e2
     exact (h3 q vs' s (by rw [List.getElem?_append_left hq]; exact e1) (by rw [List.getElem?_append_left (by omega)]; exact e2)).ev hE
   · have hq2 : q=pre.length:=by
       have:=(List.getElem?_eq_some_iff.1 e1).1
       simp at this; omega
     subst hq2
     rw [List.getElem?_append_right (Nat.le_refl _),Nat.sub_self] at e1
     rw [hpl,List.getElem?_append_right (Nat.le_refl _),Nat.sub_self] at e2
     simp at e1 e2
     subst e1; subst e2
     exact ⟨A,c,B,d,rfl,hnm.ev hE⟩
end Go.Proofs.YtiiljlmeililbaaGreatDoor
