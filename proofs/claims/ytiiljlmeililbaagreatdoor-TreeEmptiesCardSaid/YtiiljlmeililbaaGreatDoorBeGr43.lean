/-
  Contract of wal.Put at one page.
-/
import Derived.Test.YtiiljlmeililbaaGreatDoorBeGr42
import Derived.Lib.SlBytesConst
import Derived.Test.YtiiljlmeililbaaGreatDoorBeGr39
import Derived.Test.YtiiljlmeililbaaGreatDoorBeGr3
namespace Go.Proofs.YtiiljlmeililbaaGreatDoor
set_option linter.unusedVariables false
set_option maxRecDepth 100000
open Go.RowKit Go.Maps
def walB (p : List UInt8) : List UInt8:=([105,113,106,49] ++ leBs 4 [1]) ++ leB 4 0 ++ p
def walL (p : List UInt8) : List UInt8:=walB p ++ leBs 4 [crcOf (walB p)]
theorem walB_len (p : List UInt8) (h : p.length=512) : (walB p).length=524:=by simp [walB,leBs,leB_len,h]
theorem walL_len (p : List UInt8) (h : p.length=512) : (walL p).length=528:=by rw [walL,List.length_append,walB_len p h]; simp [leBs,leB_len]
theorem run_app_b (w : World) (base : Nat) (v : Value) (n : Nat) (l : List UInt8) (hown : OB w base v n l) (A : Option Addr) (m c : Nat) (news : List UInt8) (hr : RB w w.heap.size A m news) (ty : TypeId) (hlen : n + m<=1000000000) (hbase : base<=w.heap.size) :
   ∃ v' w',(Builtin.append_ #[37,37] ty #[v,.slice A m c]).run Tryz.prog w=.ok v' w'/\OB w' base v' (n + m) (l ++ news)/\w.grownBy w' v.ownBlock/\(v'.ownBlock=v.ownBlock \/ v'.ownBlock=some w.heap.size):=by
 obtain ⟨i0,hi0,hz0,hz1,hz2⟩:=info_parts byte_info
 obtain ⟨v',w',h1,h2,h3,h4⟩:=run_append_any (P:=Tryz.prog) w base 37 ty 5 i0 _ 1 1 Tryz.underlying37 hi0 hz0 hz1 hz2 rfl (by omega) v n (bv l) hown w.heap.size A m c (bv news) hr (bv_one _) (by simp [maxLen]; omega) (by omega) hbase
 refine ⟨v',w',h1,?_,h3,h4⟩
 unfold OB
 rw [bv_append]; exact h2
set_option maxHeartbeats 2000000 in
theorem walput_one (w : World) (gl gs c : Nat) (p : List UInt8) (h0 : w.cell? ⟨gl,0,none⟩=some (.int .i64 0)) (h1 : w.cell? ⟨gl,1,none⟩=some (.slice (some ⟨gs,0,none⟩) 512 512)) (hp : Blk w gs 228 (bv p).toArray) (hpl : p.length=512) :
   Calls Tryz.prog 105 #[.slice (some ⟨gl,0,none⟩) 1 c] w fun e w' => ∃ A c2,e=.returned (.tuple #[.slice A 528 c2,.int .i64 0])/\OB w' w.heap.size (.slice A 528 c2) 528 (walL p)/\Below w.heap.size w w':=by
 have hri:=hide (rising_one w gl gs c h0 h1)
 have hgl:=World.block_lt_of_cell? w _ h0
 have kc:=fun (wx : World) (C : Array Value) (n c : Nat) => Lib.run_convert_bytes_const (P:=Tryz.prog) wx 37 5 C n c Tryz.underlying37 Tryz.underlying5
 go_enter Tryz.func105,Tryz.ntmps105
 go_wp2_with fail
 refine hri.out.mono ?_
 rintro e w1 ⟨rfl,hB1⟩
 have q0:=(hB1.cell (p:=⟨gl,0,none⟩) hgl).trans h0
 have q1:=(hB1.cell (p:=⟨gl,1,none⟩) hgl).trans h1
 have hp1:=hide (hp.below hB1 hp.lt)
 obtain ⟨W2,hW2⟩ : ∃ W2,W2=(w1.alloc (.cells #[.int .u8 105,.int .u8 113,.int .u8 106,.int .u8 49] 5 (4,5))).alloc (.cells #[.int .i64 1] 3):=⟨_,rfl⟩
 have hz : (w1.alloc (.cells #[.int .u8 105,.int .u8 113,.int .u8 106,.int .u8 49] 5 (4,5))).heap.size=w1.heap.size + 1:=World.size_alloc _ _
 have hB2 : Below w1.heap.size w1 W2:=by rw [hW2]; exact ((Below.refl w1.heap.size w1).alloc (Nat.le_refl _) _).alloc (by simp) _
 have hmk : RB W2 W2.heap.size (some ⟨w1.heap.size,0,none⟩) 4 [105,113,106,49]:=by
   refine rb_cells (fun i u hu => ?_) rfl (by rw [hW2]; simp; omega)
   rw [hW2,World.cell?_alloc_lt _ _ _ (by show w1.heap.size < _; rw [hz]; omega),cell_of_row _ _ i _ 5 (4,5) (heap_alloc_new w1 (.cells #[.int .u8 105,.int .u8 113,.int .u8 106,.int .u8 49] 5 (4,5)))]
   simpa [bv] using hu
 have hone : RN W2 W2.heap.size (some ⟨w1.heap.size + 1,0,none⟩) 1 [1]:=by
   have h:=one_pn (w1.alloc (.cells #[.int .u8 105,.int .u8 113,.int .u8 106,.int .u8 49] 5 (4,5))) 1 3
   rw [hz] at h
   rw [hW2]; exact h
 have hput:=hide (wput_any W2 (some ⟨w1.heap.size,0,none⟩) (some ⟨w1.heap.size + 1,0,none⟩) 4 4 1 1 4 _ [1] hmk hone (by omega) (by omega) (by omega) (by omega) (by simp))
 replace hB1:=hide hB1
 replace hB2:=hide hB2
 replace hz:=hide hz
 replace hp:=hide hp
 clear hmk hone
 go_wp2_with fail
 rw [<- hW2]
 refine hput.out.mono ?_
 rintro e w3 ⟨v3,rfl,hO3,hB3⟩
 have e8 : ([105,113,106,49] ++ leBs 4 [1] : List UInt8).length=8:=by simp [leBs,leB_len]
 rw [e8] at hO3
 obtain ⟨A3,c3,rfl,_,_,_,_⟩:=hO3.form
 have hB13 : Below w1.heap.size w1 w3:=hB2.out.trans (hB3.mono hB2.out.size)
 have hwz:=hB1.out.size
 have r0:=(hB13.cell (p:=⟨gl,0,none⟩) (by show gl < _; omega)).trans q0
 have r1:=(hB13.cell (p:=⟨gl,1,none⟩) (by show gl < _; omega)).trans q1
 have hp3 : Hid (Blk w3 gs 228 (bv p).toArray):=hide (hp1.out.below hB13 (by have:=hp.out.lt; omega))
 have hB03 : Hid (Below w.heap.size w w3):=hide (hB1.out.trans (hB13.mono hwz))
 have hO3' : Hid (OB w3 w.heap.size (.slice A3 8 c3) 8 ([105,113,106,49] ++ leBs 4 [1])):=hide (hO3.more (by have:=hB2.out.size; omega))
 obtain ⟨W4,hW4⟩ : ∃ W4,W4=w3.alloc (.cells #[.int .i64 0,.slice (some ⟨gs,0,none⟩) 512 512] 167):=⟨_,rfl⟩
 have hz4 : W4.heap.size=w3.heap.size + 1:=by rw [hW4,World.size_alloc]
 have hput4 : Hid (∀ q,Calls Tryz.prog 70 #[.slice none 0 0,.int .i64 4,.slice (some ⟨w3.heap.size + 1,0,none⟩) 1 1] ((W4.alloc (.cells #[.int .i64 0] 3)).drewN q) (BytesRet ((W4.alloc (.cells #[.int .i64 0] 3)).drewN q) (leB 4 0))):=hide fun q => by
   have h:=wput_any ((W4.alloc (.cells #[.int .i64 ((0 : Nat) : Int)] 3)).drewN q) none (some ⟨W4.heap.size,0,none⟩) 0 0 1 1 4 [] [0] (RB.nil _ _) ((one_pn W4 0 3).drewN q) (by omega) (by omega) (by omega) (by omega) (by simp)
   rw [hz4] at h
   have e4 : ([] ++ leBs 4 [0] : List UInt8)=leB 4 0:=by simp [leBs]
   rw [e4] at h
   exact h
 replace hO3:=hide hO3
 replace hB3:=hide hB3
 replace hB13:=hide hB13
 replace hwz:=hide hwz
 clear q0 q1 h0 h1 hri hput
 go_wp2_with fail
 go_loopw [4,6,23] (fun v4 _ v23 wx => (v23=.int .i64 0/\v4=.slice A3 8 c3/\wx=w3) \/ (v23=.int .i64 1/\∃ A c2,v4=.slice A 524 c2/\Hid (OB wx w.heap.size (.slice A 524 c2) 524 (walB p)/\Below w.heap.size w wx))) (fun _ _ v23 _ => 1 - (intOf v23).toNat)
 case atStart => exact .inl ⟨rfl,rfl,rfl⟩
 case round =>
   rcases hrel with ⟨rfl,rfl,rfl⟩ | ⟨rfl,A,c2,rfl,hH⟩
   · have hround : Hid (∀ w5 A5 c5,RB w5 w5.heap.size A5 4 (leB 4 0)->Below W4.heap.size W4 w5->∃ A6 c6 w6 A7 c7 w7,
         (Builtin.append_ #[37,37] 37 #[.slice A3 8 c3,.slice A5 4 c5]).run Tryz.prog w5=.ok (.slice A6 12 c6) w6/\(Builtin.append_ #[37,37] 37 #[.slice A6 12 c6,.slice (some ⟨gs,0,none⟩) 512 512]).run Tryz.prog w6=.ok (.slice A7 524 c7) w7 /\
         w5.cell? ⟨wr.heap.size,1,none⟩=some (.slice (some ⟨gs,0,none⟩) 512 512)/\w6.cell? ⟨wr.heap.size,1,none⟩=some (.slice (some ⟨gs,0,none⟩) 512 512)/\Hid (OB w7 w.heap.size (.slice A7 524 c7) 524 (walB p)/\Below w.heap.size w w7)):=hide fun w5 A5 c5 h5 hB5 => by
       have hcp : Blk W4 wr.heap.size 167 #[.int .i64 0,.slice (some ⟨gs,0,none⟩) 512 512]:=by rw [hW4]; exact Blk.new wr 167 _
       have hcp5:=hcp.below hB5 (by omega)
       have hO4 : OB W4 w.heap.size (.slice A3 8 c3) 8 ([105,113,106,49] ++ leBs 4 [1]):=by rw [hW4]; exact hO3'.out.alloc _
       have hO5:=hO4.below hB5 (Nat.le_refl _)
       have hB04 : Below w.heap.size w W4:=by rw [hW4]; exact hB03.out.alloc hB03.out.size _
       have hs05 : w.heap.size<=w5.heap.size:=by have:=hB04.size; have:=hB5.size; omega
       obtain ⟨v6,w6,hr1,hO6,hg6,hv6⟩:=run_app_b w5 w.heap.size _ 8 _ hO5 A5 4 c5 (leB 4 0) h5 37 (by omega) hs05
       have hps5 : Blk w5 gs 228 (bv p).toArray:=by
         refine Blk.below (w:=W4) ?_ hB5 (by have:=hp3.out.lt; omega)
         rw [hW4]; exact hp3.out.alloc _
       have hne1 : some wr.heap.size ≠ (Value.slice A3 8 c3).ownBlock:=fun e => own_blk_ne hO5 hcp5 (by decide) e.symm
       have hne2 : some gs ≠ (Value.slice A3 8 c3).ownBlock:=fun e => own_blk_ne hO5 hps5 (by decide) e.symm
       have hcp6:=hcp5.grown hg6 hne1
       have hps6:=hps5.grown hg6 hne2
       obtain ⟨A6,c6,rfl,_,_,_,_⟩:=hO6.form
       have hrp : RB w6 w6.heap.size (some ⟨gs,0,none⟩) 512 p:=rb_cells (fun i u hu => by rw [hps6.cell]; simpa using hu) hpl hps6.lt
       obtain ⟨v7,w7,hr2,hO7,hg7,hv7⟩:=run_app_b w6 w.heap.size _ (8 + 4) _ hO6 (some ⟨gs,0,none⟩) 512 512 p hrp 37 (by omega) (by have:=hg6.size; omega)
       obtain ⟨A7,c7,rfl,_,_,_,_⟩:=hO7.form
       have hB06 : Below w.heap.size w w6:=(hB04.trans (hB5.mono hB04.size)).grown hg6 hs05 (fun k hk => hO5.block_lt k hk)
       refine ⟨A6,c6,w6,A7,c7,w7,hr1,hr2,hcp5.cell 1,hcp6.cell 1,hide ⟨?_,hB06.grown hg7 hB06.size (fun k hk => hO6.block_lt k hk)⟩⟩
       unfold walB
       exact hO7
     go_upto_region 9 with (fail)
     rw [<- hW4]
     have s0 : W4.cell? ⟨wr.heap.size,0,none⟩=some (.int .i64 0):=by rw [hW4]; exact (Blk.new wr 167 #[.int .i64 0,.slice (some ⟨gs,0,none⟩) 512 512]).cell 0
     have s1 : W4.cell? ⟨wr.heap.size,1,none⟩=some (.slice (some ⟨gs,0,none⟩) 512 512):=by rw [hW4]; exact (Blk.new wr 167 #[.int .i64 0,.slice (some ⟨gs,0,none⟩) 512 512]).cell 1
     replace hW4:=hide hW4
     have hlt4 : wr.heap.size < W4.heap.size:=by omega
     go_region_law (first
       | (go_simp; go_at_call 70; refine (hput4.out 1).mono ?_; rintro e w5 ⟨v5,rfl,hO5,hB5⟩; rw [leB_len] at hO5; (obtain ⟨A5,c5,rfl,hr5,_,_,_⟩:=hO5.form); have hB45 : Below W4.heap.size W4 w5:=((Below.refl W4.heap.size W4).alloc (Nat.le_refl _) (.cells #[.int .i64 0] 3)).drew.trans (hB5.mono (by simp)); (obtain ⟨A6,c6,w6,A7,c7,w7,hrun1,hrun2,t1,t2,hdone⟩:=hround.out w5 A5 c5 hr5 hB45); replace hO5:=hide hO5; replace hB5:=hide hB5; replace hr5:=hide hr5; replace hB45:=hide hB45)
       | (refine Lib.wp_append_run _ (.tmp 31) (.tmp 35) 37 37 rfl _ _ rfl rfl _ _ hrun1 ?_)
       | (refine Lib.wp_append_run _ (.tmp 36) (.tmp 38) 37 37 rfl _ _ rfl rfl _ _ hrun2 ?_))
     all_goals
       go_wp2_with fail
       go_roundw
       case rel => exact .inr ⟨rfl,A7,c7,rfl,hdone⟩
       case measure => simp [intOf]
   · obtain ⟨hO, hB⟩ := hH.out
     obtain ⟨A',c',e9,hr,_,hc1,hc2⟩:=hO.form
     injection e9 with e9 _ e10
     subst e9; subst e10
     have hof:=of_any (wr.alloc (.cells #[.slice A 524 c2] 37)) ⟨wr.heap.size,0,none⟩ 1 1 [walB p] rfl (by omega) (by omega) (by simp) (by
       intro k b' hk
       match k,hk with
       | 0, hk =>
         simp at hk; subst hk
         exact ⟨A,c2,by rw [walB_len p hpl]; simp [Addr.add],by rw [walB_len p hpl]; exact (hr.alloc (Nat.le_refl _) _).more (by simp),by rw [walB_len p hpl]; omega⟩)
     have ef : ([walB p] : List (List UInt8)).flatten=walB p:=by simp
     rw [ef] at hof
     obtain ⟨X,hX⟩ : ∃ X,X=crcOf (walB p):=⟨_,rfl⟩
     have hXl : X < 4294967296:=by rw [hX]; exact crcOf_lt _
     rw [<- hX] at hof
     replace hof:=hide hof
     replace hX:=hide hX
     replace hO:=hide hO
     replace hB:=hide hB
     replace hr:=hide hr
     go_wp2_with fail
     refine hof.out.mono ?_
     rintro e w5 ⟨rfl,hB5⟩
     have hB5' : Below wr.heap.size wr w5:=((Below.refl wr.heap.size wr).alloc (Nat.le_refl _) (.cells #[.slice A 524 c2] 37)).trans (hB5.mono (by simp))
     have hput6:=hide (wput_any (w5.alloc (.cells #[.int .i64 (X : Int)] 3)) A (some ⟨w5.heap.size,0,none⟩) 524 c2 1 1 4 (walB p) [X] (((hr.out.below hB5').alloc hB5'.size _).more (by simp; exact Nat.le_succ_of_le hB5'.size)) (one_pn w5 X 3) (by omega) (by omega) (by omega) (by omega) (by simp; omega))
     have hBw5:=hB.out.trans (hB5'.mono hB.out.size)
     replace hB5:=hide hB5
     replace hB5':=hide hB5'
     replace hBw5:=hide hBw5
     go_wp2_with fail
     refine hput6.out.mono ?_
     rintro e w6 ⟨v6,rfl,hO6,hB6⟩
     have e6 : (walB p ++ leBs 4 [X]).length=528:=by rw [List.length_append,walB_len p hpl]; simp [leBs,leB_len]
     rw [e6] at hO6
     obtain ⟨A6,c6,rfl,_,_,_,_⟩:=hO6.form
     have hfin : Hid (∃ A c2,Ending.returned (.tuple #[.slice A6 528 c6,.int .i64 0])=.returned (.tuple #[.slice A 528 c2,.int .i64 0])/\OB w6 w.heap.size (.slice A 528 c2) 528 (walL p)/\Below w.heap.size w w6):=by
       refine hide ⟨A6,c6,rfl,?_,(hBw5.out.alloc hBw5.out.size _).trans (hB6.mono (by simp; exact Nat.le_succ_of_le hBw5.out.size))⟩
       unfold walL
       rw [<- hX.out]
       exact hO6.more (by simp; exact Nat.le_succ_of_le hBw5.out.size)
     replace hO6:=hide hO6
     replace hB6:=hide hB6
     go_wp2_with fail
     go_ret2
     exact hfin.out
theorem FsO.imap {w w' : World} (h : FsO w w') {b N : Nat} {m : Nat->Option Value} (hm : IMap w b N m) : IMap w' b N m :=
 hm.keep (Only.block h b hm.lt fun ⟨cs,hc⟩ => by
   rcases hc with hc | hc | hc
   · exact hm.ne hc rfl
   · exact hm.ne hc rfl
   · exact hm.ne hc rfl)
structure CoN where
 H0 : Nat
 gf : Nat
 bm : Nat
 gp : Nat
 gm : Nat
 gc : Nat
 nm : List UInt8
 a : PgS
 b : PgS
 row : Value
 rd : Nat
 cp : Nat
 cb : Nat
 cl : Nat
 gw : Nat
 cw : Nat
 gs : Nat
 gb : Nat
 c : Nat
 p : List UInt8
 xg : Nat
structure Per (N : CoN) (w : World) : Prop where
 pg : Blk w N.gp 73 (pgF N.gf N.nm N.a N.b N.gm N.gc N.row N.rd)
 mp : IMap w N.gm 65536 (fun _ => none)
 bp : Blk w N.cp 24 #[ptrV N.gp]
 bb : Blk w N.cb 37 #[.slice (some ⟨N.gb,0,none⟩) 528 N.c]
 bl : Blk w N.cl 119 #[.slice (some ⟨N.gw,0,none⟩) 1 N.cw]
 wr : ∃ cs,Blk w N.gw 167 cs/\cs[0]?=some (.int .i64 0)/\cs[1]?=some (.slice (some ⟨N.gs,0,none⟩) 512 512)
 ps : Blk w N.gs 228 (bv N.p).toArray
 by_ : OB w 0 (.slice (some ⟨N.gb,0,none⟩) 528 N.c) 528 (walL N.p)
 pl : N.p.length=512
 nl : N.nm.length<=20
 ex : Blk w N.xg 24 #[ptrV N.gp]
theorem Per.fso {N : CoN} {w w' : World} (h : Per N w) (k : FsO w w') : Per N w':=by
 obtain ⟨cs,h1,h2,h3⟩:=h.wr
 refine ⟨k.blk h.pg (by decide) (by decide) (by decide),k.imap h.mp,k.blk h.bp (by decide) (by decide) (by decide),k.blk h.bb (by decide) (by decide) (by decide),k.blk h.bl (by decide) (by decide) (by decide),⟨cs,k.blk h1 (by decide) (by decide) (by decide),h2,h3⟩,k.blk h.ps (by decide) (by decide) (by decide),?_,h.pl,h.nl,k.blk h.ex (by decide) (by decide) (by decide)⟩
 obtain ⟨cs2,hb⟩:=own_blk_of h.by_ (j:=N.gb) rfl
 exact h.by_.same ((k.blk hb (by decide) (by decide) (by decide)).trans hb.symm)
theorem Per.src {N : CoN} {w : World} (h : Per N w) : SrcB w N.gb 528/\528<=N.c/\N.c<=maxLen:=by
 obtain ⟨cs2,hb⟩:=own_blk_of h.by_ (j:=N.gb) rfl
 have hl:=walL_len N.p h.pl
 refine ⟨⟨fun i hi => ⟨(walL N.p)[i]'(by omega),?_⟩,5,cs2,(0,0),hb,by decide,by decide,by decide⟩,h.by_.rb.2⟩
 exact h.by_.cell hi (by omega)
def Sto (N : CoN) (w0 : World) (most stamp kd nd kl nl : Nat) (w : World) : Prop :=
 Per N w/\Fr N.H0 N.gf N.bm w0 w/\∃ gd gl vd vl,FSt w N.H0 N.gf N.bm most stamp (dbN N.nm) (logN N.nm) gd kd nd gl kl nl vd vl
theorem drew_only (w : World) (q : Nat) : Below w.heap.size w (w.drewN q):=below_drewN (Below.refl _ _) q
section
variable {N : CoN} {w0 w : World} {most stamp kd nd kl nl : Nat}
theorem Sto.cells (h : Per N w) : w.cell? ⟨N.cp,0,none⟩=some (.pointer (some ⟨N.gp,0,none⟩))/\w.cell? ⟨N.gp,0,none⟩=some (.pointer (some ⟨N.gf,0,none⟩))/\w.cell? ⟨N.gp,1,none⟩=some (.string (str N.nm))/\w.cell? ⟨N.cb,0,none⟩=some (.slice (some ⟨N.gb,0,none⟩) 528 N.c) :=
 ⟨h.bp.cell 0,h.pg.cell 0,h.pg.cell 1,h.bb.cell 0⟩
theorem step1 (h : Sto N w0 most stamp 0 0 0 0 w) (hm : most<=65536) (hm2 : 17<=most) (hs : stamp<=900000) (q : Nat) :
   Calls Tryz.prog 101 #[.pointer (some ⟨N.gf,0,none⟩),.string (str (logN N.nm)),.int .i64 0,.slice (some ⟨N.gb,0,none⟩) 528 N.c] (w.drewN q) fun e w' => e=.returned (.int .i64 0)/\Hid (Sto N w0 most (stamp + 1) 0 0 9 528 w'):=by
 obtain ⟨hP,hF,gd,gl,vd,vl,hS⟩:=h
 have hP2:=hP.fso (FsO.of_below (drew_only w q))
 have hs2:=hP2.src
 refine (write_l (w.drewN q) N.H0 N.gf N.bm most stamp gd 0 0 gl 0 0 N.gb 528 N.c 0 _ _ vd vl (hS.drewN q) (by have:=hP.nl; simp [logN]; omega) hm (by omega) (by omega) (by omega) (by omega) (by omega) hs2.2.1 (by have:=hs2.2.2; unfold maxLen at this; exact this) (by omega) (by omega) hs2.1).mono ?_
 rintro e w' ⟨rfl,h2⟩
 obtain ⟨vl',f1,f2,f3⟩:=h2.out
 exact ⟨rfl,hide ⟨hP2.fso f2,(hF.trans (Only.of_below (drew_only w q))).trans f3,gd,gl,vd,vl',f1⟩⟩
theorem step2 (h : Sto N w0 most stamp kd nd kl nl w) (hk : kl<=100000) (q : Nat) :
   Calls Tryz.prog 102 #[.pointer (some ⟨N.gf,0,none⟩),.string (str (logN N.nm))] (w.drewN q) fun e w' => e=.returned (.int .i64 0)/\Hid (Sto N w0 most stamp kd nd kl nl w'):=by
 obtain ⟨hP,hF,gd,gl,vd,vl,hS⟩:=h
 have hP2:=hP.fso (FsO.of_below (drew_only w q))
 refine (sync_l (w.drewN q) N.H0 N.gf N.bm most stamp gd kd nd gl kl nl _ _ vd vl (hS.drewN q) (by have:=hP.nl; simp [logN]; omega) hk).mono ?_
 rintro e w' ⟨rfl,h2⟩
 obtain ⟨f1,f2,f3⟩:=h2.out
 exact ⟨rfl,hide ⟨hP2.fso f2,(hF.trans (Only.of_below (drew_only w q))).trans f3,gd,gl,vd,vl,f1⟩⟩
theorem src_done (w : World) : SrcB (w.alloc doneO) w.heap.size 4:=by
 have h:=heap_alloc_new w doneO
 refine ⟨fun i hi => ?_,5,doneC,(4,5),h,by decide,by decide,by decide⟩
 rw [cell_of_row _ _ i doneC 5 (4,5) h]
 match i,hi with
 | 0,_ => exact ⟨100,rfl⟩
 | 1,_ => exact ⟨111,rfl⟩
 | 2,_ => exact ⟨110,rfl⟩
 | 3,_ => exact ⟨101,rfl⟩
theorem step3 (h : Sto N w0 most stamp 0 0 9 528 w) (hm : most<=65536) (hm2 : 17<=most) (hs : stamp<=900000) (q : Nat) :
   Calls Tryz.prog 101 #[.pointer (some ⟨N.gf,0,none⟩),.string (str (logN N.nm)),.int .i64 ((528 : Nat) : Int),.slice (some ⟨w.heap.size,0,none⟩) 4 4] ((w.alloc doneO).drewN q) fun e w' => e=.returned (.int .i64 0)/\Hid (Sto N w0 most (stamp + 1) 0 0 9 532 w'):=by
 obtain ⟨hP,hF,gd,gl,vd,vl,hS⟩:=h
 have hB : Below w.heap.size w ((w.alloc doneO).drewN q):=below_drewN ((Below.refl _ w).alloc (Nat.le_refl _) _) q
 have hP2:=hP.fso (FsO.of_below hB)
 refine (write_l ((w.alloc doneO).drewN q) N.H0 N.gf N.bm most stamp gd 0 0 gl 9 528 w.heap.size 4 4 528 _ _ vd vl (hS.below hB) (by have:=hP.nl; simp [logN]; omega) hm (by omega) (by omega) (by omega) (by omega) (by omega) (by omega) (by omega) (by omega) (by omega) (src_done w)).mono ?_
 rintro e w' ⟨rfl,h2⟩
 obtain ⟨vl',f1,f2,f3⟩:=h2.out
 exact ⟨rfl,hide ⟨hP2.fso f2,(hF.trans (Only.of_below hB)).trans f3,gd,gl,vd,vl',f1⟩⟩
theorem step5 (h : Sto N w0 most stamp 0 0 9 532 w) (hm : most<=65536) (hm2 : 17<=most) (hs : stamp<=900000) :
   Calls Tryz.prog 64 #[.pointer (some ⟨N.gp,0,none⟩),.slice (some ⟨N.gw,0,none⟩) 1 N.cw] w fun e w' => e=.returned (.int .i64 0)/\Hid (Sto N w0 most (stamp + 1) 8 512 9 532 w'):=by
 obtain ⟨hP,hF,gd,gl,vd,vl,hS⟩:=h
 obtain ⟨cs,hw1,hw2,hw3⟩:=hP.wr
 refine (lay_one w N.H0 N.gf N.bm most stamp gd gl 9 532 N.gp N.gw N.cw N.gs N.nm N.p vd vl _ hS hP.nl hm (by omega) hs hP.pg rfl rfl ((hw1.cell 0).trans hw2) ((hw1.cell 1).trans hw3) hP.ps hP.pl).mono ?_
 rintro e w' ⟨rfl,h2⟩
 obtain ⟨vd',f1,f2,f3⟩:=h2.out
 exact ⟨rfl,hide ⟨hP.fso f2,hF.trans f3,gd,gl,vd',vl,f1⟩⟩
theorem step6 (h : Sto N w0 most stamp kd nd kl nl w) (hs : stamp<=900000) (q : Nat) :
   Calls Tryz.prog 65 #[.pointer (some ⟨N.gf,0,none⟩),.string (str (logN N.nm)),.int .i64 0] (w.drewN q) fun e w' => e=.returned (.int .i64 0)/\Hid (Per N w'/\Fr N.H0 N.gf N.bm w0 w'):=by
 obtain ⟨hP,hF,gd,gl,vd,vl,hS⟩:=h
 have hP2:=hP.fso (FsO.of_below (drew_only w q))
 refine (cut_l (w.drewN q) N.H0 N.gf N.bm most stamp gd kd nd gl kl nl _ _ vd vl (hS.drewN q) (by have:=hP.nl; simp [logN]; omega) (by omega)).mono ?_
 rintro e w' ⟨rfl,h2⟩
 obtain ⟨f2,f3⟩:=h2.out
 exact ⟨rfl,hide ⟨hP2.fso f2,(hF.trans (Only.of_below (drew_only w q))).trans f3⟩⟩
end
def CoStg (N : CoN) (w0 : World) (most stamp : Nat) : Nat->World->Prop
 | 0,w => Sto N w0 most stamp 0 0 0 0 w
 | 1,w => Sto N w0 most (stamp + 1) 0 0 9 528 w
 | 2,w => Sto N w0 most (stamp + 1) 0 0 9 528 w
 | 3,w => Sto N w0 most (stamp + 2) 0 0 9 532 w
 | 4,w => Sto N w0 most (stamp + 2) 0 0 9 532 w
 | 5,w => Sto N w0 most (stamp + 3) 8 512 9 532 w
 | _,w => Per N w/\Fr N.H0 N.gf N.bm w0 w
def StgRet (N : CoN) (w0 : World) (most stamp i : Nat) (e : Ending) (w' : World) : Prop:=e=.returned (.int .i64 0)/\Hid (CoStg N w0 most stamp i w')
section
variable {N : CoN} {w0 w : World} {most stamp : Nat}
theorem st1 (h : CoStg N w0 most stamp 0 w) (hm : most<=65536) (hm2 : 17<=most) (hs : stamp<=1000) :
   Calls Tryz.prog 108 #[.pointer (some ⟨N.cp,0,none⟩),.pointer (some ⟨N.cb,0,none⟩)] w (StgRet N w0 most stamp 1):=by
 have c:=Sto.cells h.1
 exact com1_any w N.cp N.gp N.gf N.nm N.cb 528 N.c (some ⟨N.gb,0,none⟩) c.1 c.2.1 c.2.2.1 h.1.nl c.2.2.2 _ (fun q => step1 h hm hm2 (by omega) q) (fun e w' hr => ⟨hr.1,have d:=Sto.cells (Hid.out hr.2).1; ⟨d.1,d.2.1,d.2.2.2⟩⟩)
theorem st2 (h : CoStg N w0 most stamp 1 w) : Calls Tryz.prog 109 #[.pointer (some ⟨N.cp,0,none⟩)] w (StgRet N w0 most stamp 2):=by
 have c:=Sto.cells h.1
 exact com2_any w N.cp N.gp N.gf N.nm c.1 c.2.1 c.2.2.1 h.1.nl _ (fun q => step2 h (by omega) q) (fun e w' hr => ⟨hr.1,have d:=Sto.cells (Hid.out hr.2).1; ⟨d.1,d.2.1⟩⟩)
theorem st3 (h : CoStg N w0 most stamp 2 w) (hm : most<=65536) (hm2 : 17<=most) (hs : stamp<=1000) :
   Calls Tryz.prog 110 #[.pointer (some ⟨N.cp,0,none⟩),.pointer (some ⟨N.cb,0,none⟩)] w (StgRet N w0 most stamp 3):=by
 have c:=Sto.cells h.1
 exact com3_any w N.cp N.gp N.gf N.nm N.cb 528 N.c (some ⟨N.gb,0,none⟩) c.1 c.2.1 c.2.2.1 h.1.nl c.2.2.2 _ (fun q => step3 h hm hm2 (by omega) q) (fun e w' hr => ⟨hr.1,have d:=Sto.cells (Hid.out hr.2).1; ⟨d.1,d.2.1,d.2.2.2⟩⟩)
theorem st4 (h : CoStg N w0 most stamp 3 w) : Calls Tryz.prog 111 #[.pointer (some ⟨N.cp,0,none⟩)] w (StgRet N w0 most stamp 4):=by
 have c:=Sto.cells h.1
 exact com4_any w N.cp N.gp N.gf N.nm c.1 c.2.1 c.2.2.1 h.1.nl _ (fun q => step2 h (by omega) q) (fun e w' hr => ⟨hr.1,have d:=Sto.cells (Hid.out hr.2).1; ⟨d.1,d.2.1⟩⟩)
theorem st5 (h : CoStg N w0 most stamp 4 w) (hm : most<=65536) (hm2 : 17<=most) (hs : stamp<=1000) :
   Calls Tryz.prog 112 #[.pointer (some ⟨N.cp,0,none⟩),.pointer (some ⟨N.cl,0,none⟩)] w (StgRet N w0 most stamp 5) :=
 com5_any w N.cp N.gp N.cl _ (h.1.bp.cell 0) (h.1.bl.cell 0) _ (step5 h hm hm2 (by omega)) (fun e w' hr => hr.1)
theorem st6 (h : CoStg N w0 most stamp 5 w) (hs : stamp<=1000) : Calls Tryz.prog 113 #[.pointer (some ⟨N.cp,0,none⟩)] w (StgRet N w0 most stamp 6):=by
 have c:=Sto.cells h.1
 exact com6_any w N.cp N.gp N.gf N.nm c.1 c.2.1 c.2.2.1 h.1.nl _ (fun q => step6 h (by omega) q) (fun e w' hr => ⟨hr.1,have d:=Sto.cells (Hid.out hr.2).1; ⟨d.1,d.2.1⟩⟩)
end
def CmRet (w : World) (H0 gf bm gp gm gc rd : Nat) (nm : List UInt8) (a : PgS) (row : Value) (xg : Nat) (e : Ending) (w' : World) : Prop :=
 e=.returned (.int .i64 0)/\Blk w' xg 24 #[ptrV gp]/\Blk w' gp 73 (pgF gf nm a a gm gc row rd)/\IMap w' gm 65536 (fun _ => none)/\Fr H0 gf bm w w'
theorem FSt.imap_step {w w' : World} {H0 gf bm most stamp gd kd nd gl kl nl gm : Nat} {da la : List UInt8} {vd vl : Value} (h : FSt w H0 gf bm most stamp da la gd kd nd gl kl nl vd vl) (hO : Only (fun j => j=gm) w w') {N : Nat} {m : Nat->Option Value} (hm : IMap w gm N m) (hne : gm ≠ bm) :
   FSt w' H0 gf bm most stamp da la gd kd nd gl kl nl vd vl :=
 h.keep hO (fun j hj ⟨cs,hc⟩ => by
   subst hj
   rcases hc with hc | hc | hc
   · exact hm.ne hc rfl
   · exact hm.ne hc rfl
   · exact hm.ne hc rfl) (fun e => hne e.symm)
theorem Fr.imap_step {w w' : World} {H0 gf bm gm : Nat} (hO : Only (fun j => j=gm) w w') (hg : H0<=gm) : Fr H0 gf bm w w':=hO.mono fun j _ e => .inr (.inr (by rw [e]; exact hg))
theorem Fr.below {w w' : World} {H0 gf bm : Nat} (hb : Below w.heap.size w w') : Fr H0 gf bm w w':=Only.of_below hb
theorem blk_bit {w w' : World} {gp gm : Nat} {t : TypeId} {cs : Array Value} (h : Blk w gp t cs) (hO : Only (fun j => j=gm) w w') (hne : gp ≠ gm) : Blk w' gp t cs:=hO.blk h hne
def hdV (a : PgS) : List Value:=[.int .i64 (a.many : Int),.int .i64 (a.free : Int),.int .i64 (a.roots 0 : Int),.int .i64 (a.roots 1 : Int),.int .i64 (a.roots 2 : Int),.int .i64 (a.roots 3 : Int),.int .i64 (a.roots 4 : Int),.int .i64 (a.roots 5 : Int),.int .i64 (a.roots 6 : Int),.int .i64 (a.roots 7 : Int)]
theorem hdV_set {gp gf gm gc rd : Nat} {nm : List UInt8} {row : Value} (w : World) (a b : PgS) (h : Blk w gp 73 (pgF gf nm a b gm gc row rd)) : Blk (w.setCells gp 12 (hdV a)) gp 73 (pgF gf nm a a gm gc row rd):=by
 have e : (((((((((((pgF gf nm a b gm gc row rd).setIfInBounds 12 (.int .i64 (a.many : Int))).setIfInBounds 13 (.int .i64 (a.free : Int))).setIfInBounds 14 (.int .i64 (a.roots 0 : Int))).setIfInBounds 15 (.int .i64 (a.roots 1 : Int))).setIfInBounds 16 (.int .i64 (a.roots 2 : Int))).setIfInBounds 17 (.int .i64 (a.roots 3 : Int))).setIfInBounds 18 (.int .i64 (a.roots 4 : Int))).setIfInBounds 19 (.int .i64 (a.roots 5 : Int))).setIfInBounds 20 (.int .i64 (a.roots 6 : Int))).setIfInBounds 21 (.int .i64 (a.roots 7 : Int)))=pgF gf nm a a gm gc row rd:=by kernel_rfl
 rw [<- e]
 generalize pgF gf nm a b gm gc row rd=P at *
 exact (((((((((h.set_ 12 _).set_ 13 _).set_ 14 _).set_ 15 _).set_ 16 _).set_ 17 _).set_ 18 _).set_ 19 _).set_ 20 _).set_ 21 _
set_option maxHeartbeats 4000000 in
theorem commit_new (w : World) (H0 gf bm most stamp gd gl gp gm gc rd xg : Nat) (nm : List UInt8) (a b : PgS) (row vd vl : Value) (hpg : Blk w gp 73 (pgF gf nm a b gm gc row rd)) (hm : IMap w gm 65536 (fun _ => none)) (h : FSt w H0 gf bm most stamp (dbN nm) (logN nm) gd 0 0 gl 0 0 vd vl)
   (h1 : a.many=1) (h2 : a.free<=65536) (h3 : ∀ k,a.roots k<=65536) (hgp : H0<=gp) (hgm : H0<=gm) (hbm : gm ≠ bm) (hmost : most<=65536) (hm17 : 17<=most) (hst : stamp<=1000) (hnm : nm.length<=20) (hx : Blk w xg 24 #[ptrV gp]) :
   Calls Tryz.prog 66 #[.pointer (some ⟨gp,0,none⟩)] w (CmRet w H0 gf bm gp gm gc rd nm a row xg):=by
 have hnx1 : xg ≠ gm:=fun e => hm.ne hx e.symm
 have hnx2 : xg ≠ gp:=fun e => by subst e; exact Blk.ne_ hx hpg (by decide) rfl
 obtain ⟨p0,hp0⟩ : ∃ p0,p0=sealP 0 (headL a ++ zeroB (508 - (headL a).length)):=⟨_,rfl⟩
 have hp0l : p0.length=512:=by rw [hp0]; simp [sealP,headL_len,zeroB,leB_len]
 have hne : gp ≠ gm:=fun e => hm.ne hpg e.symm
 obtain ⟨W1,hW1⟩ : ∃ W1,W1=w.alloc (.cells #[ptrV gp] 24):=⟨_,rfl⟩
 obtain ⟨cp,hcp⟩ : ∃ cp,cp=w.heap.size:=⟨_,rfl⟩
 have hB1 : Below w.heap.size w W1:=by rw [hW1]; exact (Below.refl w.heap.size w).alloc (Nat.le_refl _) _
 have hbp1 : Blk W1 cp 24 #[ptrV gp]:=by rw [hW1,hcp]; exact Blk.new w 24 _
 have hpg1:=hpg.below hB1 hpg.lt
 have hm1:=hm.keep (hB1.block gm hm.lt)
 have hS1:=h.below hB1
 have hx1:=hx.below hB1 hx.lt
 have hwr:=hide (writes_new W1 gp gf gm gc rd nm a b row hpg1 hm1 (by omega) h2 h3)
 rw [<- hp0] at hwr
 have e24 : W1.cell? ⟨cp,0,none⟩=some (.pointer (some ⟨gp,0,none⟩)):=hbp1.cell 0
 replace hpg:=hide hpg
 replace hm:=hide hm
 replace h:=hide h
 replace hp0:=hide hp0
 replace h3:=hide h3
 replace hB1:=hide hB1
 replace hbp1:=hide hbp1
 replace hpg1:=hide hpg1
 replace hm1:=hide hm1
 replace hx1:=hide hx1
 replace hx:=hide hx
 replace hS1:=hide hS1
 go_enter Tryz.func66,Tryz.ntmps66
 go_upto_region 1 with (fail)
 rw [show Value.pointer (some ⟨gp,0,none⟩)=ptrV gp from rfl,<- hW1,<- hcp]
 replace hW1:=hide hW1
 replace hcp:=hide hcp
 go_wp2_with fail
 refine hwr.out.mono ?_
 rintro e w2 ⟨gw,gs,cw,rfl,q0,q1,hps2,hm2,hO2,hgs,hgw,csw,hbw⟩
 have hne1 : cp ≠ gm:=fun e => hm1.out.ne hbp1.out e.symm
 have hpg2:=blk_bit hpg1.out hO2 hne
 have hbp2:=blk_bit hbp1.out hO2 hne1
 have hx2:=hide (blk_bit hx1.out hO2 hnx1)
 have hS2:=hS1.out.imap_step hO2 hm1.out hbm
 have hF2 : Fr H0 gf bm w w2:=(Fr.below hB1.out).trans (Fr.imap_step hO2 hgm)
 have x0 : csw[0]?=some (.int .i64 0):=(hbw.cell 0).symm.trans q0
 have x1 : csw[1]?=some (.slice (some ⟨gs,0,none⟩) 512 512):=(hbw.cell 1).symm.trans q1
 obtain ⟨W3,hW3⟩ : ∃ W3,W3=w2.alloc (.cells #[.slice (some ⟨gw,0,none⟩) 1 cw] 119):=⟨_,rfl⟩
 obtain ⟨cl,hcl⟩ : ∃ cl,cl=w2.heap.size:=⟨_,rfl⟩
 have hB3 : Below w2.heap.size w2 W3:=by rw [hW3]; exact (Below.refl w2.heap.size w2).alloc (Nat.le_refl _) _
 have hbl3 : Blk W3 cl 119 #[.slice (some ⟨gw,0,none⟩) 1 cw]:=by rw [hW3,hcl]; exact Blk.new w2 119 _
 have y0:=(hB3.cell (p:=⟨gw,0,none⟩) hbw.lt).trans q0
 have y1:=(hB3.cell (p:=⟨gw,1,none⟩) hbw.lt).trans q1
 have hps3:=hps2.below hB3 hps2.lt
 have hwp:=hide (walput_one W3 gw gs cw p0 y0 y1 hps3 hp0l)
 have z0 : W3.cell? ⟨cl,0,none⟩=some (.slice (some ⟨gw,0,none⟩) 1 cw):=hbl3.cell 0
 replace hps2:=hide hps2
 replace hm2:=hide hm2
 replace hO2:=hide hO2
 replace hbw:=hide hbw
 replace hpg2:=hide hpg2
 replace hbp2:=hide hbp2
 replace hS2:=hide hS2
 replace hF2 : Hid _:=hide hF2
 replace hB3:=hide hB3
 replace hbl3:=hide hbl3
 replace hps3:=hide hps3
 clear q0 q1 y0 y1
 go_upto_region 2 with (fail)
 rw [<- hW3,<- hcl]
 replace hW3:=hide hW3
 replace hcl:=hide hcl
 go_wp2_with fail
 refine hwp.out.mono ?_
 rintro e w4 ⟨A,c2,rfl,hO4,hB4⟩
 rcases hO4.parts with ⟨_,h0,_⟩ | ⟨gb,cap,e9,hc1,hc2⟩
 · omega
 injection e9 with e9 _ e10
 subst e9; subst e10
 obtain ⟨W5,hW5⟩ : ∃ W5,W5=w4.alloc (.cells #[.slice (some ⟨gb,0,none⟩) 528 c2] 37):=⟨_,rfl⟩
 obtain ⟨cb,hcb⟩ : ∃ cb,cb=w4.heap.size:=⟨_,rfl⟩
 have hB5 : Below w4.heap.size w4 W5:=by rw [hW5]; exact (Below.refl w4.heap.size w4).alloc (Nat.le_refl _) _
 have hbb5 : Blk W5 cb 37 #[.slice (some ⟨gb,0,none⟩) 528 c2]:=by rw [hW5,hcb]; exact Blk.new w4 37 _
 have hB25 : Below w2.heap.size w2 W5:=hB3.out.trans ((hB4.mono hB3.out.size).trans (hB5.mono (by have:=hB3.out.size; have:=hB4.size; omega)))
 have hO5 : OB W5 0 (.slice (some ⟨gb,0,none⟩) 528 c2) 528 (walL p0):=by rw [hW5]; exact (hO4.more (Nat.zero_le _)).alloc _
 have hB35 : Below W3.heap.size W3 W5:=hB4.trans (hB5.mono hB4.size)
 obtain ⟨N,hN⟩ : ∃ N : CoN,N=⟨H0,gf,bm,gp,gm,gc,nm,a,b,row,rd,cp,cb,cl,gw,cw,gs,gb,c2,p0,xg⟩:=⟨_,rfl⟩
 have hpg5:=hpg2.out.below hB25 hpg2.out.lt
 have hbp5:=hbp2.out.below hB25 hbp2.out.lt
 have hS5:=hS2.out.below hB25
 have hPer : Per N W5:=by
   rw [hN]
   exact ⟨hpg5,hm2.out.keep (hB25.block gm hm2.out.lt),hbp5,hbb5,hbl3.out.below hB35 hbl3.out.lt,⟨csw,hbw.out.below hB25 hbw.out.lt,x0,x1⟩,hps3.out.below hB35 hps3.out.lt,hO5,hp0l,hnm,hx2.out.below hB25 hx2.out.lt⟩
 have hSto : Sto N w most stamp 0 0 0 0 W5:=⟨hPer,by rw [hN]; exact hF2.out.trans (Fr.below hB25),gd,gl,vd,vl,by rw [hN]; exact hS5⟩
 have a1 : W5.cell? ⟨cp,0,none⟩=some (.pointer (some ⟨gp,0,none⟩)):=hbp5.cell 0
 have a2 : W5.cell? ⟨gp,0,none⟩=some (.pointer (some ⟨gf,0,none⟩)):=hpg5.cell 0
 have a3 : W5.cell? ⟨gp,1,none⟩=some (.string (str nm)):=hpg5.cell 1
 have a4 : W5.cell? ⟨gp,2,none⟩=some (.int .i64 1):=by have:=hpg5.cell 2; simpa [pgF,h1] using this
 have a5 : W5.cell? ⟨cb,0,none⟩=some (.slice (some ⟨gb,0,none⟩) 528 c2):=hbb5.cell 0
 have hdb:=hide (db_any W5.drew gp nm a3 hnm)
 have hfl:=hide (flen_some W5.drew 0 gf bm most stamp gd 0 0 (dbN nm) (logN nm) (dbN nm) (some gd) (some gl) (hS5.drewN 1).fs (.inl ⟨rfl,rfl⟩) (by simp [dbN]; omega) vd (hS5.drewN 1).fd)
 have hk1 : Hid (∀ w,Calls Tryz.prog 106 #[.int .i64 532] w fun e w' => e=.returned (.int .i64 9)/\w=w'):=hide fun w => sectors_any w 532 (by omega)
 have hk2 : Hid (∀ w,Calls Tryz.prog 106 #[.int .i64 512] w fun e w' => e=.returned (.int .i64 8)/\w=w'):=hide fun w => sectors_any w 512 (by omega)
 have hk3 : Hid (∀ w,Calls Tryz.prog 106 #[.int .i64 0] w fun e w' => e=.returned (.int .i64 0)/\w=w'):=hide fun w => sectors_any w 0 (by omega)
 have hroom:=hide (room_any W5.drew.drew 0 gf bm most stamp gd gl 0 0 0 0 (dbN nm) (logN nm) vd vl (hS5.drewN 2).fs (hS5.drewN 2).fd (hS5.drewN 2).fl hmost (Nat.zero_le _))
 replace hN:=hide hN
 replace hPer:=hide hPer
 replace hSto:=hide hSto
 replace hB5:=hide hB5
 replace hbb5:=hide hbb5
 replace hB25:=hide hB25
 replace hO5:=hide hO5
 replace hB35:=hide hB35
 replace hO4:=hide hO4
 replace hB4:=hide hB4
 replace hpg5:=hide hpg5
 replace hbp5:=hide hbp5
 replace hS5:=hide hS5
 go_upto_region 5 with (fail)
 rw [<- hW5,<- hcb]
 replace hW5:=hide hW5
 replace hcb:=hide hcb
 clear hwr hwp
 go_region_held3 (fun w' => w'.cell? ⟨cp,0,none⟩=some (.pointer (some ⟨gp,0,none⟩))/\w'.cell? ⟨gp,0,none⟩=some (.pointer (some ⟨gf,0,none⟩))) (first | exact ⟨a1,a2⟩) (first
   | (go_at_call 59; refine hfl.out.mono ?_; rintro e w6 ⟨rfl,rfl⟩)
   | (go_at_call 30; refine hdb.out.mono ?_; rintro e w6 ⟨rfl,rfl⟩))
 clear hdb hfl
 go_upto_region 6 with (fail)
 go_cut [54] (fun v54 wx => v54=.bool false/\Hid (Below W5.heap.size W5 wx))
 case first =>
   go_region_held3 (fun w' => w'.cell? ⟨cb,0,none⟩=some (.slice (some ⟨gb,0,none⟩) 528 c2)/\w'.cell? ⟨cp,0,none⟩=some (.pointer (some ⟨gp,0,none⟩))/\w'.cell? ⟨gp,2,none⟩=some (.int .i64 1)/\w'.cell? ⟨gp,0,none⟩=some (.pointer (some ⟨gf,0,none⟩))) (first | exact ⟨a5,a1,a4,a2⟩ | exact hS3) (first
     | (go_at_call 107; refine hroom.out.mono ?_; rintro e w7 ⟨rfl,hB7⟩; have hS3:=(show w7.cell? ⟨cb,0,none⟩=some (.slice (some ⟨gb,0,none⟩) 528 c2)/\w7.cell? ⟨cp,0,none⟩=some (.pointer (some ⟨gp,0,none⟩))/\w7.cell? ⟨gp,2,none⟩=some (.int .i64 1)/\w7.cell? ⟨gp,0,none⟩=some (.pointer (some ⟨gf,0,none⟩)) from ⟨(hB7.cell (World.block_lt_of_cell? W5 _ a5)).trans a5,(hB7.cell (World.block_lt_of_cell? W5 _ a1)).trans a1,(hB7.cell (World.block_lt_of_cell? W5 _ a4)).trans a4,(hB7.cell (World.block_lt_of_cell? W5 _ a2)).trans a2⟩); replace hB7:=hide hB7)
     | (go_at_call 106; refine (hk1.out _).mono ?_; rintro e w6 ⟨rfl,rfl⟩)
     | (go_at_call 106; refine (hk2.out _).mono ?_; rintro e w6 ⟨rfl,rfl⟩)
     | (go_at_call 106; refine (hk3.out _).mono ?_; rintro e w6 ⟨rfl,rfl⟩))
   all_goals
     go_wp2_with fail
     go_meet
     case rel => first | exact ⟨rfl,hide (((Below.refl W5.heap.size W5).drew.drew).trans hB7.out)⟩ | (refine ⟨?_,hide (((Below.refl W5.heap.size W5).drew.drew).trans hB7.out)⟩; show Value.bool (decide ((most : Int) < 17))=_; rw [decide_eq_false (by omega)])
 obtain ⟨rfl,hB8⟩:=hcut
 have hSt0 : Hid (CoStg N w most stamp 0 wc):=by
   obtain ⟨p1,p2,p3⟩:=hSto.out
   obtain ⟨gd,gl,vd,vl,p4⟩:=p3
   exact hide ⟨p1.fso (FsO.of_below hB8.out),p2.trans (Only.of_below hB8.out),gd,gl,vd,vl,p4.below hB8.out⟩
 have T1 : Hid (∀ wx,CoStg N w most stamp 0 wx->Calls Tryz.prog 108 #[.pointer (some ⟨cp,0,none⟩),.pointer (some ⟨cb,0,none⟩)] wx (StgRet N w most stamp 1)):=hide fun wx hx => by
   have:=st1 hx hmost hm17 hst
   have e:=hN.out
   rw [show N.cp=cp by rw [e],show N.cb=cb by rw [e]] at this
   exact this
 have T2 : Hid (∀ wx,CoStg N w most stamp 1 wx->Calls Tryz.prog 109 #[.pointer (some ⟨cp,0,none⟩)] wx (StgRet N w most stamp 2)):=hide fun wx hx => by
   have:=st2 hx
   have e:=hN.out
   rw [show N.cp=cp by rw [e]] at this
   exact this
 have T3 : Hid (∀ wx,CoStg N w most stamp 2 wx->Calls Tryz.prog 110 #[.pointer (some ⟨cp,0,none⟩),.pointer (some ⟨cb,0,none⟩)] wx (StgRet N w most stamp 3)):=hide fun wx hx => by
   have:=st3 hx hmost hm17 hst
   have e:=hN.out
   rw [show N.cp=cp by rw [e],show N.cb=cb by rw [e]] at this
   exact this
 have T4 : Hid (∀ wx,CoStg N w most stamp 3 wx->Calls Tryz.prog 111 #[.pointer (some ⟨cp,0,none⟩)] wx (StgRet N w most stamp 4)):=hide fun wx hx => by
   have:=st4 hx
   have e:=hN.out
   rw [show N.cp=cp by rw [e]] at this
   exact this
 have T5 : Hid (∀ wx,CoStg N w most stamp 4 wx->Calls Tryz.prog 112 #[.pointer (some ⟨cp,0,none⟩),.pointer (some ⟨cl,0,none⟩)] wx (StgRet N w most stamp 5)):=hide fun wx hx => by
   have:=st5 hx hmost hm17 hst
   have e:=hN.out
   rw [show N.cp=cp by rw [e],show N.cl=cl by rw [e]] at this
   exact this
 have T6 : Hid (∀ wx,CoStg N w most stamp 5 wx->Calls Tryz.prog 113 #[.pointer (some ⟨cp,0,none⟩)] wx (StgRet N w most stamp 6)):=hide fun wx hx => by
   have:=st6 hx hst
   have e:=hN.out
   rw [show N.cp=cp by rw [e]] at this
   exact this
 clear hx hx1 hx2 hpg hm h hp0 h3 hB1 hbp1 hpg1 hm1 hS1 hW1 hcp hps2 hm2 hO2 hbw hpg2 hbp2 hS2 hF2 hB3 hbl3 hps3 hW3 hcl a1 a2 a3 a4 a5 hk1 hk2 hk3 hroom hO4 hB4 hB5 hbb5 hB25 hO5 hB35 hpg5 hbp5 hS5 hW5 hcb hPer hSto e24 z0 x0 x1 hB8
 go_upto_region 8 with (fail)
 go_wp2_with fail
 go_loopw [62] (fun v62 wx => ∃ i : Nat,v62=.int .i64 (i : Int)/\i<=6/\Hid (CoStg N w most stamp i wx)) (fun v62 _ => 6 - (intOf v62).toNat)
 case atStart => exact ⟨0,rfl,by omega,hSt0⟩
 case round =>
   obtain ⟨i,rfl,hi,hsg⟩:=hrel
   have h7 : i=0 \/ i=1 \/ i=2 \/ i=3 \/ i=4 \/ i=5 \/ i=6:=by omega
   rcases h7 with rfl | rfl | rfl | rfl | rfl | rfl | rfl
   · have hT := hide (T1.out _ hsg.out)
     have hix : ∀ wx,(Instr.index 173 (.agg #[.func (Fn.func 108) #[] #[.pointer (some ⟨cp,0,none⟩),.pointer (some ⟨cb,0,none⟩)],.func (Fn.func 109) #[] #[.pointer (some ⟨cp,0,none⟩)],.func (Fn.func 110) #[] #[.pointer (some ⟨cp,0,none⟩),.pointer (some ⟨cb,0,none⟩)],.func (Fn.func 111) #[] #[.pointer (some ⟨cp,0,none⟩)],.func (Fn.func 112) #[] #[.pointer (some ⟨cp,0,none⟩),.pointer (some ⟨cl,0,none⟩)],.func (Fn.func 113) #[] #[.pointer (some ⟨cp,0,none⟩)]]) (.int .i64 0)).run Tryz.prog wx=.ok (.func (Fn.func 108) #[] #[.pointer (some ⟨cp,0,none⟩),.pointer (some ⟨cb,0,none⟩)]) wx:=fun _ => by kernel_rfl
     clear T1 T2 T3 T4 T5 T6 hsg hSt0 hN hi
     go_wp2_with fail
     refine hT.out.mono ?_
     rintro e w9 ⟨rfl,h9⟩
     clear hT hix
     go_wp2_with fail
     go_roundw
     case rel => exact ⟨1,rfl,by omega,h9⟩
     case measure => simp [intOf]
   · have hT := hide (T2.out _ hsg.out)
     have hix : ∀ wx,(Instr.index 173 (.agg #[.func (Fn.func 108) #[] #[.pointer (some ⟨cp,0,none⟩),.pointer (some ⟨cb,0,none⟩)],.func (Fn.func 109) #[] #[.pointer (some ⟨cp,0,none⟩)],.func (Fn.func 110) #[] #[.pointer (some ⟨cp,0,none⟩),.pointer (some ⟨cb,0,none⟩)],.func (Fn.func 111) #[] #[.pointer (some ⟨cp,0,none⟩)],.func (Fn.func 112) #[] #[.pointer (some ⟨cp,0,none⟩),.pointer (some ⟨cl,0,none⟩)],.func (Fn.func 113) #[] #[.pointer (some ⟨cp,0,none⟩)]]) (.int .i64 1)).run Tryz.prog wx=.ok (.func (Fn.func 109) #[] #[.pointer (some ⟨cp,0,none⟩)]) wx:=fun _ => by kernel_rfl
     clear T1 T2 T3 T4 T5 T6 hsg hSt0 hN hi
     go_wp2_with fail
     refine hT.out.mono ?_
     rintro e w9 ⟨rfl,h9⟩
     clear hT hix
     go_wp2_with fail
     go_roundw
     case rel => exact ⟨2,rfl,by omega,h9⟩
     case measure => simp [intOf]
   · have hT := hide (T3.out _ hsg.out)
     have hix : ∀ wx,(Instr.index 173 (.agg #[.func (Fn.func 108) #[] #[.pointer (some ⟨cp,0,none⟩),.pointer (some ⟨cb,0,none⟩)],.func (Fn.func 109) #[] #[.pointer (some ⟨cp,0,none⟩)],.func (Fn.func 110) #[] #[.pointer (some ⟨cp,0,none⟩),.pointer (some ⟨cb,0,none⟩)],.func (Fn.func 111) #[] #[.pointer (some ⟨cp,0,none⟩)],.func (Fn.func 112) #[] #[.pointer (some ⟨cp,0,none⟩),.pointer (some ⟨cl,0,none⟩)],.func (Fn.func 113) #[] #[.pointer (some ⟨cp,0,none⟩)]]) (.int .i64 2)).run Tryz.prog wx=.ok (.func (Fn.func 110) #[] #[.pointer (some ⟨cp,0,none⟩),.pointer (some ⟨cb,0,none⟩)]) wx:=fun _ => by kernel_rfl
     clear T1 T2 T3 T4 T5 T6 hsg hSt0 hN hi
     go_wp2_with fail
     refine hT.out.mono ?_
     rintro e w9 ⟨rfl,h9⟩
     clear hT hix
     go_wp2_with fail
     go_roundw
     case rel => exact ⟨3,rfl,by omega,h9⟩
     case measure => simp [intOf]
   · have hT := hide (T4.out _ hsg.out)
     have hix : ∀ wx,(Instr.index 173 (.agg #[.func (Fn.func 108) #[] #[.pointer (some ⟨cp,0,none⟩),.pointer (some ⟨cb,0,none⟩)],.func (Fn.func 109) #[] #[.pointer (some ⟨cp,0,none⟩)],.func (Fn.func 110) #[] #[.pointer (some ⟨cp,0,none⟩),.pointer (some ⟨cb,0,none⟩)],.func (Fn.func 111) #[] #[.pointer (some ⟨cp,0,none⟩)],.func (Fn.func 112) #[] #[.pointer (some ⟨cp,0,none⟩),.pointer (some ⟨cl,0,none⟩)],.func (Fn.func 113) #[] #[.pointer (some ⟨cp,0,none⟩)]]) (.int .i64 3)).run Tryz.prog wx=.ok (.func (Fn.func 111) #[] #[.pointer (some ⟨cp,0,none⟩)]) wx:=fun _ => by kernel_rfl
     clear T1 T2 T3 T4 T5 T6 hsg hSt0 hN hi
     go_wp2_with fail
     refine hT.out.mono ?_
     rintro e w9 ⟨rfl,h9⟩
     clear hT hix
     go_wp2_with fail
     go_roundw
     case rel => exact ⟨4,rfl,by omega,h9⟩
     case measure => simp [intOf]
   · have hT := hide (T5.out _ hsg.out)
     have hix : ∀ wx,(Instr.index 173 (.agg #[.func (Fn.func 108) #[] #[.pointer (some ⟨cp,0,none⟩),.pointer (some ⟨cb,0,none⟩)],.func (Fn.func 109) #[] #[.pointer (some ⟨cp,0,none⟩)],.func (Fn.func 110) #[] #[.pointer (some ⟨cp,0,none⟩),.pointer (some ⟨cb,0,none⟩)],.func (Fn.func 111) #[] #[.pointer (some ⟨cp,0,none⟩)],.func (Fn.func 112) #[] #[.pointer (some ⟨cp,0,none⟩),.pointer (some ⟨cl,0,none⟩)],.func (Fn.func 113) #[] #[.pointer (some ⟨cp,0,none⟩)]]) (.int .i64 4)).run Tryz.prog wx=.ok (.func (Fn.func 112) #[] #[.pointer (some ⟨cp,0,none⟩),.pointer (some ⟨cl,0,none⟩)]) wx:=fun _ => by kernel_rfl
     clear T1 T2 T3 T4 T5 T6 hsg hSt0 hN hi
     go_wp2_with fail
     refine hT.out.mono ?_
     rintro e w9 ⟨rfl,h9⟩
     clear hT hix
     go_wp2_with fail
     go_roundw
     case rel => exact ⟨5,rfl,by omega,h9⟩
     case measure => simp [intOf]
   · have hT := hide (T6.out _ hsg.out)
     have hix : ∀ wx,(Instr.index 173 (.agg #[.func (Fn.func 108) #[] #[.pointer (some ⟨cp,0,none⟩),.pointer (some ⟨cb,0,none⟩)],.func (Fn.func 109) #[] #[.pointer (some ⟨cp,0,none⟩)],.func (Fn.func 110) #[] #[.pointer (some ⟨cp,0,none⟩),.pointer (some ⟨cb,0,none⟩)],.func (Fn.func 111) #[] #[.pointer (some ⟨cp,0,none⟩)],.func (Fn.func 112) #[] #[.pointer (some ⟨cp,0,none⟩),.pointer (some ⟨cl,0,none⟩)],.func (Fn.func 113) #[] #[.pointer (some ⟨cp,0,none⟩)]]) (.int .i64 5)).run Tryz.prog wx=.ok (.func (Fn.func 113) #[] #[.pointer (some ⟨cp,0,none⟩)]) wx:=fun _ => by kernel_rfl
     clear T1 T2 T3 T4 T5 T6 hsg hSt0 hN hi
     go_wp2_with fail
     refine hT.out.mono ?_
     rintro e w9 ⟨rfl,h9⟩
     clear hT hix
     go_wp2_with fail
     go_roundw
     case rel => exact ⟨6,rfl,by omega,h9⟩
     case measure => simp [intOf]
   · obtain ⟨w9, hw9⟩ : ∃ w9, w9 = wr := ⟨_, rfl⟩
     subst hw9
     obtain ⟨hP,hFr⟩:=hsg.out
     have e:=hN.out
     have hpgr : Blk w9 gp 73 (pgF gf nm a b gm gc row rd):=by have:=hP.pg; rw [e] at this; exact this
     have hmr : IMap w9 gm 65536 (fun _ => none):=by have:=hP.mp; rw [e] at this; exact this
     have hbpr : Blk w9 cp 24 #[ptrV gp]:=by have:=hP.bp; rw [e] at this; exact this
     have hxr : Hid (Blk w9 xg 24 #[ptrV gp]):=by have:=hP.ex; rw [e] at this; exact hide this
     have hFrr : Hid (Fr H0 gf bm w w9):=by rw [e] at hFr; exact hide hFr
     have hN1 : N.gp=gp:=by rw [e]
     clear T1 T2 T3 T4 T5 T6 hsg hSt0 hN hi e hP hFr
     have hmr2:=hide hmr
     obtain ⟨nn,D,hown,hKeys⟩:=hmr
     obtain ⟨w10,hrg,hR,hg1,hz1⟩:=hown.range (Go.Maps.int_keyed Tryz.underlying3) Tryz.underlying68
     have hB1 : Below w9.heap.size w9 w10:=(Below.refl _ w9).grown hg1 (Nat.le_refl _) (by simp)
     have e1 : w9.cell? ⟨cp,0,none⟩=some (.pointer (some ⟨gp,0,none⟩)):=hbpr.cell 0
     have e2 : w9.cell? ⟨gp,22,none⟩=some (.map (some gm)):=hpgr.cell 22
     have hpg10:=hpgr.below hB1 hpgr.lt
     have hbp10:=hbpr.below hB1 hbpr.lt
     have hm10:=hmr2.out.keep (hB1.block gm hmr2.out.lt)
     replace hpgr:=hide hpgr
     replace hbpr:=hide hbpr
     replace hown:=hide hown
     replace hKeys:=hide hKeys
     replace hR:=hide hR
     replace hg1:=hide hg1
     replace hz1:=hide hz1
     replace hB1:=hide hB1
     replace hpg10:=hide hpg10
     replace hbp10:=hide hbp10
     replace hm10:=hide hm10
     go_wp2_with fail
     go_loopw [] (fun wx => wx=w10) (fun _ => 0)
     case atStart => rfl
     case round =>
       subst hrel
       rcases hR.out.next (Go.Maps.int_keyed Tryz.underlying3) 0 with ⟨h0,hall,hrun⟩ | ⟨key,v,k,y,w2,cnt',hkey,hleft,_⟩
       · have hnx : ∀ ty, (Instr.next (.pointer (some ⟨w9.heap.size, 0, none⟩)) false ty).run Tryz.prog _ = _ := fun _ => hrun
         replace hall:=hide hall
         clear hrun
         have e4 : wr.cell? ⟨gp,22,none⟩=some (.map (some gm)):=hpg10.out.cell 22
         have e3 : wr.cell? ⟨cp,0,none⟩=some (.pointer (some ⟨gp,0,none⟩)):=hbp10.out.cell 0
         obtain ⟨w11,hcl,hm11,hg11⟩:=IMap.clear hm10.out 0
         have hO11 : Only (fun j => j=gm) wr w11:=(Only.refl _ wr).grown hg11 (fun k hk _ => by injection hk with hk; exact hk.symm)
         have hpg11:=hO11.blk hpg10.out hne
         have hx11:=hide (hO11.blk (hxr.out.below hB1.out hxr.out.lt) hnx1)
         have hbp11:=hO11.blk hbp10.out (fun e => hne1 e)
         have hF11 : Hid (Fr H0 gf bm w w11):=hide ((hFrr.out.trans (Only.of_below hB1.out)).trans (Fr.imap_step hO11 hgm))
         have q0 : w11.cell? ⟨cp,0,none⟩=some (.pointer (some ⟨gp,0,none⟩)):=hbp11.cell 0
         have g2 : w11.cell? ⟨gp,2,none⟩=some (.int .i64 (a.many : Int)):=hpg11.cell 2
         have g3 : w11.cell? ⟨gp,3,none⟩=some (.int .i64 (a.free : Int)):=hpg11.cell 3
         have g4 : w11.cell? ⟨gp,4,none⟩=some (.int .i64 (a.roots 0 : Int)):=hpg11.cell 4
         have g5 : w11.cell? ⟨gp,5,none⟩=some (.int .i64 (a.roots 1 : Int)):=hpg11.cell 5
         have g6 : w11.cell? ⟨gp,6,none⟩=some (.int .i64 (a.roots 2 : Int)):=hpg11.cell 6
         have g7 : w11.cell? ⟨gp,7,none⟩=some (.int .i64 (a.roots 3 : Int)):=hpg11.cell 7
         have g8 : w11.cell? ⟨gp,8,none⟩=some (.int .i64 (a.roots 4 : Int)):=hpg11.cell 8
         have g9 : w11.cell? ⟨gp,9,none⟩=some (.int .i64 (a.roots 5 : Int)):=hpg11.cell 9
         have g10 : w11.cell? ⟨gp,10,none⟩=some (.int .i64 (a.roots 6 : Int)):=hpg11.cell 10
         have g11 : w11.cell? ⟨gp,11,none⟩=some (.int .i64 (a.roots 7 : Int)):=hpg11.cell 11
         have g12 : w11.cell? ⟨gp,12,none⟩=some (.int .i64 (b.many : Int)):=hpg11.cell 12
         have g13 : w11.cell? ⟨gp,13,none⟩=some (.int .i64 (b.free : Int)):=hpg11.cell 13
         have g14 : w11.cell? ⟨gp,14,none⟩=some (.int .i64 (b.roots 0 : Int)):=hpg11.cell 14
         have g15 : w11.cell? ⟨gp,15,none⟩=some (.int .i64 (b.roots 1 : Int)):=hpg11.cell 15
         have g16 : w11.cell? ⟨gp,16,none⟩=some (.int .i64 (b.roots 2 : Int)):=hpg11.cell 16
         have g17 : w11.cell? ⟨gp,17,none⟩=some (.int .i64 (b.roots 3 : Int)):=hpg11.cell 17
         have g18 : w11.cell? ⟨gp,18,none⟩=some (.int .i64 (b.roots 4 : Int)):=hpg11.cell 18
         have g19 : w11.cell? ⟨gp,19,none⟩=some (.int .i64 (b.roots 5 : Int)):=hpg11.cell 19
         have g20 : w11.cell? ⟨gp,20,none⟩=some (.int .i64 (b.roots 6 : Int)):=hpg11.cell 20
         have g21 : w11.cell? ⟨gp,21,none⟩=some (.int .i64 (b.roots 7 : Int)):=hpg11.cell 21
         have f12 : w11.frozen? ⟨gp,12,none⟩=false:=hpg11.frozen 12
         have f13 : w11.frozen? ⟨gp,13,none⟩=false:=hpg11.frozen 13
         have f14 : w11.frozen? ⟨gp,14,none⟩=false:=hpg11.frozen 14
         have f15 : w11.frozen? ⟨gp,15,none⟩=false:=hpg11.frozen 15
         have f16 : w11.frozen? ⟨gp,16,none⟩=false:=hpg11.frozen 16
         have f17 : w11.frozen? ⟨gp,17,none⟩=false:=hpg11.frozen 17
         have f18 : w11.frozen? ⟨gp,18,none⟩=false:=hpg11.frozen 18
         have f19 : w11.frozen? ⟨gp,19,none⟩=false:=hpg11.frozen 19
         have f20 : w11.frozen? ⟨gp,20,none⟩=false:=hpg11.frozen 20
         have f21 : w11.frozen? ⟨gp,21,none⟩=false:=hpg11.frozen 21
         have hu:=Tryz.underlying71
         have hend : Hid (∀ W,W=w11.setCells gp 12 (hdV a)->CmRet w H0 gf bm gp gm gc rd nm a row xg (.returned (.int .i64 0)) W.drew):=by
           refine hide fun W hW => ?_
           have k1 : Blk W gp 73 (pgF gf nm a a gm gc row rd):=by rw [hW]; exact hdV_set w11 a b hpg11
           have k2 : Only (fun j => j=gp) w11 W:=by rw [hW]; exact setCells_only (hdV a) 12 w11 (Only.refl (fun j => j=gp) w11)
           have k3 : IMap W gm 65536 (fun _ => none):=hm11.keep (k2.block gm hm11.lt (fun e => hne e.symm))
           have k4 : Fr H0 gf bm w11 W:=k2.mono fun j _ e => .inr (.inr (by rw [e]; exact hgp))
           have k5 : Blk W xg 24 #[ptrV gp]:=k2.blk hx11.out hnx2
           exact ⟨rfl,k5,k1,k3,hF11.out.trans k4.drew⟩
         replace h1:=hide h1
         replace hm11:=hide hm11
         replace hg11:=hide hg11
         replace hO11:=hide hO11
         replace hpg11:=hide hpg11
         replace hbp11:=hide hbp11
         clear e1 e2 hrg
         go_wp2_with fail
         go_region
         all_goals
           go_wp2_with fail
           go_ret
           exact hend.out _ (by simp only [hdV,World.setCells])
       · exact absurd hleft (by rw [keys_none hKeys.out]; simp)
def hd0 : PgS:=⟨0,0,fun _ => 0,fun _ => []⟩
def hd1 : PgS:=⟨1,0,fun _ => 0,fun _ => []⟩
theorem again_new (w : World) (H0 gf bm most stamp gd gl gp gm gc rd : Nat) (nm : List UInt8) (a b : PgS) (row vd vl : Value) (hpg : Blk w gp 73 (pgF gf nm a b gm gc row rd)) (h : FSt w H0 gf bm most stamp (dbN nm) (logN nm) gd 0 0 gl 0 0 vd vl) (hnm : nm.length<=20) :
   Calls Tryz.prog 33 #[.pointer (some ⟨gp,0,none⟩)] w fun e w' => e=.returned (.int .i64 0)/\Below w.heap.size w w':=by
 have a1 : w.cell? ⟨gp,0,none⟩=some (.pointer (some ⟨gf,0,none⟩)):=hpg.cell 0
 have a2 : w.cell? ⟨gp,1,none⟩=some (.string (str nm)):=hpg.cell 1
 have hlg:=hide (log_any w.drew gp nm a2 hnm)
 have hfl:=hide (flen_some w.drew 0 gf bm most stamp gl 0 0 (dbN nm) (logN nm) (logN nm) (some gd) (some gl) (h.drewN 1).fs (.inr ⟨rfl,rfl⟩) (by simp [logN]; omega) vl (h.drewN 1).fl)
 have hB : Hid (Below w.heap.size w w.drew):=hide (Below.refl _ _).drew
 replace hpg:=hide hpg
 replace h:=hide h
 go_enter Tryz.func33,Tryz.ntmps33
 go_wp2_with fail
 go_region_held3 (fun w' => w'.cell? ⟨gp,0,none⟩=some (.pointer (some ⟨gf,0,none⟩))) (first | exact a1) (first
   | (go_at_call 59; refine hfl.out.mono ?_; rintro e w6 ⟨rfl,rfl⟩)
   | (go_at_call 32; refine hlg.out.mono ?_; rintro e w6 ⟨rfl,rfl⟩))
 all_goals
   go_wp2_with fail
   go_ret
   exact ⟨rfl,hB.out⟩
theorem hdV_set2 {gp gf gm gc rd : Nat} {nm : List UInt8} {row : Value} (w : World) (a b c : PgS) (h : Blk w gp 73 (pgF gf nm a b gm gc row rd)) : Blk (w.setCells gp 2 (hdV c)) gp 73 (pgF gf nm c b gm gc row rd):=by
 have e : (((((((((((pgF gf nm a b gm gc row rd).setIfInBounds 2 (.int .i64 (c.many : Int))).setIfInBounds 3 (.int .i64 (c.free : Int))).setIfInBounds 4 (.int .i64 (c.roots 0 : Int))).setIfInBounds 5 (.int .i64 (c.roots 1 : Int))).setIfInBounds 6 (.int .i64 (c.roots 2 : Int))).setIfInBounds 7 (.int .i64 (c.roots 3 : Int))).setIfInBounds 8 (.int .i64 (c.roots 4 : Int))).setIfInBounds 9 (.int .i64 (c.roots 5 : Int))).setIfInBounds 10 (.int .i64 (c.roots 6 : Int))).setIfInBounds 11 (.int .i64 (c.roots 7 : Int)))=pgF gf nm c b gm gc row rd:=by kernel_rfl
 rw [<- e]
 generalize pgF gf nm a b gm gc row rd=P at *
 exact (((((((((h.set_ 2 _).set_ 3 _).set_ 4 _).set_ 5 _).set_ 6 _).set_ 7 _).set_ 8 _).set_ 9 _).set_ 10 _).set_ 11 _
theorem FSt.blk_step {w w' : World} {H0 gf bm most stamp gd kd nd gl kl nl gp : Nat} {da la : List UInt8} {vd vl : Value} {t : TypeId} {cs : Array Value} (h : FSt w H0 gf bm most stamp da la gd kd nd gl kl nl vd vl) (hO : Only (fun j => j=gp) w w') (hb : Blk w gp t cs) (h1 : t ≠ 79) (h2 : t ≠ 157) (h3 : t ≠ 163) (hne : gp ≠ bm) :
   FSt w' H0 gf bm most stamp da la gd kd nd gl kl nl vd vl :=
 h.keep hO (fun j hj ⟨cs,hc⟩ => by
   subst hj
   rcases hc with hc | hc | hc
   · exact Blk.ne_ hb hc h1 rfl
   · exact Blk.ne_ hb hc h2 rfl
   · exact Blk.ne_ hb hc h3 rfl) (fun e => hne e.symm)
def FiRet (w : World) (H0 gf bm gp gm gc rd : Nat) (nm : List UInt8) (row : Value) (xg : Nat) (e : Ending) (w' : World) : Prop :=
 e=.returned (.int .i64 0)/\Blk w' xg 24 #[ptrV gp]/\Blk w' gp 73 (pgF gf nm hd1 hd1 gm gc row rd)/\IMap w' gm 65536 (fun _ => none)/\Fr H0 gf bm w w'
set_option maxHeartbeats 1000000 in
theorem first_new (w : World) (H0 gf bm most stamp gd gl gp gm gc rd xg : Nat) (nm : List UInt8) (row vd vl : Value) (hpg : Blk w gp 73 (pgF gf nm hd0 hd0 gm gc row rd)) (hm : IMap w gm 65536 (fun _ => none)) (h : FSt w H0 gf bm most stamp (dbN nm) (logN nm) gd 0 0 gl 0 0 vd vl)
   (hgp : H0<=gp) (hgm : H0<=gm) (hbm : gm ≠ bm) (hbp : gp ≠ bm) (hmost : most<=65536) (hm17 : 17<=most) (hst : stamp<=1000) (hnm : nm.length<=20) (hx : Blk w xg 24 #[ptrV gp]) :
   Calls Tryz.prog 34 #[.pointer (some ⟨gp,0,none⟩)] w (FiRet w H0 gf bm gp gm gc rd nm row xg):=by
 have hne : gp ≠ gm:=fun e => hm.ne hpg e.symm
 have a1 : w.cell? ⟨gp,0,none⟩=some (.pointer (some ⟨gf,0,none⟩)):=hpg.cell 0
 have a2 : w.cell? ⟨gp,1,none⟩=some (.string (str nm)):=hpg.cell 1
 have g2 : w.cell? ⟨gp,2,none⟩=some (.int .i64 0):=hpg.cell 2
 have f2 : w.frozen? ⟨gp,2,none⟩=false:=hpg.frozen 2
 have g3 : w.cell? ⟨gp,3,none⟩=some (.int .i64 0):=hpg.cell 3
 have f3 : w.frozen? ⟨gp,3,none⟩=false:=hpg.frozen 3
 have g4 : w.cell? ⟨gp,4,none⟩=some (.int .i64 0):=hpg.cell 4
 have f4 : w.frozen? ⟨gp,4,none⟩=false:=hpg.frozen 4
 have g5 : w.cell? ⟨gp,5,none⟩=some (.int .i64 0):=hpg.cell 5
 have f5 : w.frozen? ⟨gp,5,none⟩=false:=hpg.frozen 5
 have g6 : w.cell? ⟨gp,6,none⟩=some (.int .i64 0):=hpg.cell 6
 have f6 : w.frozen? ⟨gp,6,none⟩=false:=hpg.frozen 6
 have g7 : w.cell? ⟨gp,7,none⟩=some (.int .i64 0):=hpg.cell 7
 have f7 : w.frozen? ⟨gp,7,none⟩=false:=hpg.frozen 7
 have g8 : w.cell? ⟨gp,8,none⟩=some (.int .i64 0):=hpg.cell 8
 have f8 : w.frozen? ⟨gp,8,none⟩=false:=hpg.frozen 8
 have g9 : w.cell? ⟨gp,9,none⟩=some (.int .i64 0):=hpg.cell 9
 have f9 : w.frozen? ⟨gp,9,none⟩=false:=hpg.frozen 9
 have g10 : w.cell? ⟨gp,10,none⟩=some (.int .i64 0):=hpg.cell 10
 have f10 : w.frozen? ⟨gp,10,none⟩=false:=hpg.frozen 10
 have g11 : w.cell? ⟨gp,11,none⟩=some (.int .i64 0):=hpg.cell 11
 have f11 : w.frozen? ⟨gp,11,none⟩=false:=hpg.frozen 11
 have hlg:=hide (db_any w.drew gp nm a2 hnm)
 have hfl:=hide (flen_some w.drew 0 gf bm most stamp gd 0 0 (dbN nm) (logN nm) (dbN nm) (some gd) (some gl) (h.drewN 1).fs (.inl ⟨rfl,rfl⟩) (by simp [dbN]; omega) vd (h.drewN 1).fd)
 have hcm : Hid (∀ W,W=w.setCells gp 2 (hdV hd1)->Calls Tryz.prog 66 #[.pointer (some ⟨gp,0,none⟩)] W.drew (FiRet w H0 gf bm gp gm gc rd nm row xg)):=hide fun W hW => by
   have k1 : Blk W gp 73 (pgF gf nm hd1 hd0 gm gc row rd):=by rw [hW]; exact hdV_set2 w hd0 hd0 hd1 hpg
   have k2 : Only (fun j => j=gp) w W:=by rw [hW]; exact setCells_only (hdV hd1) 2 w (Only.refl (fun j => j=gp) w)
   have k3 : IMap W gm 65536 (fun _ => none):=hm.keep (k2.block gm hm.lt (fun e => hne e.symm))
   have k4 : Fr H0 gf bm w W:=k2.mono fun j _ e => .inr (.inr (by rw [e]; exact hgp))
   have k5:=h.blk_step k2 hpg (by decide) (by decide) (by decide) hbp
   refine (commit_new W.drew H0 gf bm most stamp gd gl gp gm gc rd xg nm hd1 hd0 row vd vl k1 (k3.keep rfl) (k5.drewN 1) rfl (by decide) (fun _ => Nat.zero_le _) hgp hgm hbm hmost hm17 hst hnm (k2.blk hx (fun e => Blk.ne_ hx hpg (by decide) e))).mono ?_
   rintro e w' ⟨rfl,q0,q1,q2,q3⟩
   exact ⟨rfl,q0,q1,q2,(show Fr H0 gf bm w W.drew from k4.drew).trans q3⟩
 replace hpg:=hide hpg
 replace hm:=hide hm
 replace hx:=hide hx
 replace h:=hide h
 go_enter Tryz.func34,Tryz.ntmps34
 go_wp2_with fail
 go_region_held3 (fun w' => w'.cell? ⟨gp,0,none⟩=some (.pointer (some ⟨gf,0,none⟩))) (first | exact a1) (first
   | (go_at_call 59; refine hfl.out.mono ?_; rintro e w6 ⟨rfl,rfl⟩)
   | (go_at_call 30; refine hlg.out.mono ?_; rintro e w6 ⟨rfl,rfl⟩))
 all_goals
   go_wp2_with fail
   refine (hcm.out _ (by simp [hdV,hd1,World.setCells])).mono ?_
   rintro e w7 ⟨rfl,h7⟩
   replace h7:=hide h7
   go_wp2_with fail
   go_ret
   exact ⟨rfl,h7.out⟩
end Go.Proofs.YtiiljlmeililbaaGreatDoor
