/-
  Contract of the pager's writes where nothing is changed but page 0.
-/
import Derived.Test.YtiiljlmeililbaaGreatDoorBeOpD
import Derived.Test.YtiiljlmeililbaaGreatDoorBeSeal
namespace Go.Proofs.YtiiljlmeililbaaGreatDoor
set_option linter.unusedVariables false
set_option maxRecDepth 100000
open Go.RowKit Go.Maps
theorem IMap.look1 {w : World} {b N : Nat} {m : Nat->Option Value} (h : IMap w b N m) (k : Nat) (hk : k < N) (hN : N<=9000000000000000000) :
   (Instr.lookup 68 (.map (some b)) (.int .i64 (k : Int)) false).run Tryz.prog w=.ok ((m k).getD nilS) w:=by
 obtain ⟨nn,D,ho,hK⟩:=h
 obtain ⟨v,ps,hr,hv⟩:=ho.lookup (int_keyed Tryz.underlying3) Tryz.underlying68 (zero_bs w) (zd:=.held nilS) (zp:=[]) rfl (ikey k (by omega))
 rw [hr]
 cases hm : m k with
 | none =>
   rw [atKey_of_not_has (hK.none_ k hk hm)] at hv
   simp only [heldE,Option.some.injEq,Prod.mk.injEq,DataW.held.injEq] at hv
   rw [hv.1]; rfl
 | some x =>
   obtain ⟨h1,h2⟩:=hK.some_ k x hk hm
   rw [h2] at hv
   simp only [heldE,Option.some.injEq,Prod.mk.injEq,DataW.held.injEq] at hv
   rw [hv.1]; rfl
theorem w_info : (Tryz.prog.info? 167).map (fun i => (i.zero,i.size,i.bytes))=some (some (.agg #[.int .i64 0,.slice none 0 0]),2,32):=by kernel_rfl
def WsRet (w : World) (gm : Nat) (p0 : List UInt8) (e : Ending) (w' : World) : Prop :=
 ∃ gl gs c,e=.returned (.slice (some ⟨gl,0,none⟩) 1 c)/\w'.cell? ⟨gl,0,none⟩=some (.int .i64 0)/\w'.cell? ⟨gl,1,none⟩=some (.slice (some ⟨gs,0,none⟩) 512 512)/\Blk w' gs 228 (bv p0).toArray/\IMap w' gm 65536 (fun _ => none)/\Only (fun j => j=gm) w w'/\w.heap.size<=gs/\w.heap.size<=gl/\∃ cs,Blk w' gl 167 cs
set_option maxHeartbeats 2000000 in
theorem writes_new (w : World) (gp gf gm gc rd : Nat) (nm : List UInt8) (a b : PgS) (row : Value) (hpg : Blk w gp 73 (pgF gf nm a b gm gc row rd)) (hm : IMap w gm 65536 (fun _ => none)) (h1 : a.many<=65536) (h2 : a.free<=65536) (h3 : ∀ k,a.roots k<=65536) :
   Calls Tryz.prog 104 #[.pointer (some ⟨gp,0,none⟩)] w (WsRet w gm (sealP 0 (headL a ++ zeroB (508 - (headL a).length)))):=by
 have hby:=hide (hbytes_any w a h1 h2 h3)
 unfold headC at hby
 have c2 : w.cell? ⟨gp,2,none⟩=some (.int .i64 (a.many : Int)):=hpg.cell 2
 have c3 : w.cell? ⟨gp,3,none⟩=some (.int .i64 (a.free : Int)):=hpg.cell 3
 have c4 : w.cell? ⟨gp,4,none⟩=some (.int .i64 (a.roots 0 : Int)):=hpg.cell 4
 have c5 : w.cell? ⟨gp,5,none⟩=some (.int .i64 (a.roots 1 : Int)):=hpg.cell 5
 have c6 : w.cell? ⟨gp,6,none⟩=some (.int .i64 (a.roots 2 : Int)):=hpg.cell 6
 have c7 : w.cell? ⟨gp,7,none⟩=some (.int .i64 (a.roots 3 : Int)):=hpg.cell 7
 have c8 : w.cell? ⟨gp,8,none⟩=some (.int .i64 (a.roots 4 : Int)):=hpg.cell 8
 have c9 : w.cell? ⟨gp,9,none⟩=some (.int .i64 (a.roots 5 : Int)):=hpg.cell 9
 have c10 : w.cell? ⟨gp,10,none⟩=some (.int .i64 (a.roots 6 : Int)):=hpg.cell 10
 have c11 : w.cell? ⟨gp,11,none⟩=some (.int .i64 (a.roots 7 : Int)):=hpg.cell 11
 have hgl:=hpg.lt
 have hgm:=hm.lt
 have hne:=hm.ne hpg
 replace hpg:=hide hpg
 replace hm:=hide hm
 go_enter Tryz.func104,Tryz.ntmps104
 go_wp2_with fail
 refine hby.out.mono ?_
 rintro e w1 ⟨v1,rfl,hO1,hB1⟩
 rw [headL_len] at hO1
 obtain ⟨A1,d1,rfl,hr1,_⟩:=hO1.form
 have hpg1:=hpg.out.below hB1 hgl
 have hch:=hide (change_raw w1 gp gm _ (hpg1.cell 22) (hm.out.keep (hB1.block gm hgm)) 0 (by omega) A1 44 d1 (headL a) (by omega) (by omega) hr1)
 replace hO1:=hide hO1
 replace hB1:=hide hB1
 replace hr1:=hide hr1
 replace hpg1:=hide hpg1
 go_wp2_with fail
 refine hch.out.mono ?_
 rintro e w2 ⟨g2,cc2,rfl,hm2,hO2,hX2,hg2⟩
 have hpg2:=hX2.blk hpg1.out (fun e => hne e.symm)
 have d22 : w2.cell? ⟨gp,22,none⟩=some (.map (some gm)):=hpg2.cell 22
 have hk2:=hide (keys_any (some gm) w2)
 obtain ⟨nn,D,hoD,hKD⟩:=hm2
 have hent:=hoD.entries (int_keyed Tryz.underlying3)
 have hsz:=keys_size hKD hent
 have hso:=hide (sorted_any gm _ D heldE w2 hoD (by unfold maxLen; omega) (by omega))
 have hki:=keys_one hKD (by omega) hent
 have hm2 : Hid (IMap w2 gm 65536 (updO (fun _ => none) 0 (some (.slice (some ⟨g2,0,none⟩) 44 cc2)))):=hide ⟨nn,D,hoD,hKD⟩
 replace hO2:=hide hO2
 replace hX2:=hide hX2
 replace hpg2:=hide hpg2
 replace hki:=hide hki
 clear hoD hKD hent hsz
 go_wp2_with fail
 refine hk2.out.mono ?_
 rintro e w3 ⟨rfl,rfl⟩
 go_wp2_with fail
 refine hso.out.mono ?_
 rintro e w4 ⟨v4,ss,rfl,hpm,hrow,hB4⟩
 have hss : ss=[0]:=by
   have h:=hpm
   rw [hki.out] at h
   exact List.perm_singleton.1 h
 subst hss
 have hms : ([0] : List Int).mergeSort (fun x y => decide (x<=y))=[0]:=List.mergeSort_singleton _
 rw [hms] at hrow
 obtain ⟨gk,ck,rfl,hgk,hgkl⟩:=hrow.form (by simp)
 have k0 : w4.cell? ⟨gk,0,none⟩=some (.int .i64 0):=by
   have h:=hrow.cells (g:=gk) rfl 0 (encZ 0) rfl
   simpa [Addr.add] using h
 have hO24 : Only (fun _ => False) w2 w4:=Only.of_below (((Below.refl w2.heap.size w2).alloc (Nat.le_refl _) (.cells #[.map (some gm)] 68)).trans (hB4.mono (by simp)))
 have hm4 : Hid (IMap w4 gm 65536 (updO (fun _ => none) 0 (some (.slice (some ⟨g2,0,none⟩) 44 cc2)))):=hide (hm2.out.keep (hO24.block gm hm2.out.lt (fun h => h)))
 have hpg4:=hide (hO24.blk hpg2.out (fun h => h))
 have e22 : w4.cell? ⟨gp,22,none⟩=some (.map (some gm)):=hpg4.out.cell 22
 have hlk : (Instr.lookup 68 (.map (some gm)) (.int .i64 0) false).run Tryz.prog w4=.ok (.slice (some ⟨g2,0,none⟩) 44 cc2) w4:=hm4.out.look1 0 (by omega) (by omega)
 have hO4 : Hid (OB w4 w1.heap.size (.slice (some ⟨g2,0,none⟩) 44 cc2) 44 (headL a)):=hide (hO2.out.same (hO24.block g2 (by
   rcases hO2.out.2 with ⟨h0,_⟩ | ⟨g',cap',cur,hv,_,hh,_⟩
   · cases h0
   · cases hv; exact Blk.lt hh) (fun h => h)))
 have hX4 : Hid (Only (fun j => j=gm) w w4):=hide (((Only.of_below hB1.out).trans hX2.out (fun i _ h => h)).trans hO24 (fun i _ h => h.elim))
 replace hrow:=hide hrow
 replace hB4:=hide hB4
 replace hO24:=hide hO24
 clear hpm hms hso hk2 hch hby
 have hse:=hide (seal_any w4 0 (by omega) (some ⟨g2,0,none⟩) 44 cc2 (headL a) hO4.out.rb.1 (by omega))
 go_wp2_with fail
 go_loopw [3,5,6,7,22] (fun v3 _ _ _ v22 wx => (v22=.int .i64 0/\v3=.slice none 0 0/\wx=w4) \/ (v22=.int .i64 1/\∃ gl gs c,v3=.slice (some ⟨gl,0,none⟩) 1 c/\Hid (wx.cell? ⟨gl,0,none⟩=some (.int .i64 0)/\wx.cell? ⟨gl,1,none⟩=some (.slice (some ⟨gs,0,none⟩) 512 512)/\Blk wx gs 228 (bv (sealP 0 (headL a ++ zeroB (508 - (headL a).length)))).toArray/\Below w4.heap.size w4 wx/\w4.heap.size<=gs/\w4.heap.size<=gl/\∃ cs,Blk wx gl 167 cs))) (fun _ _ _ _ v22 _ => 1 - (intOf v22).toNat)
 case atStart => exact .inl ⟨rfl,rfl,rfl⟩
 case round =>
   rcases hrel with ⟨rfl,rfl,rfl⟩ | ⟨rfl,gl,gs,c,rfl,hH⟩
   · go_wp2_with fail
     refine hse.out.mono ?_
     rintro e w5 ⟨gs,rfl,hbs,hB5,hgs⟩
     obtain ⟨i0,hi0,hz0,hz1,hz2⟩:=info_parts w_info
     have hrd:=reads_row w5 #[.int .i64 0,.slice (some ⟨gs,0,none⟩) 512 512] 167 (by simp)
     obtain ⟨v7,w7,hrun,ho7,hg7,hv7⟩:=run_append_any (P:=Tryz.prog) (w5.alloc (.cells #[.int .i64 0,.slice (some ⟨gs,0,none⟩) 512 512] 167)) (w5.heap.size + 1) 119 119 167 i0 _ 2 32 Tryz.underlying119 hi0 hz0 hz1 hz2 rfl (by omega) (.slice none 0 0) 0 [] ⟨by simp,.inl ⟨rfl,rfl⟩⟩ (w5.heap.size + 1) (some ⟨w5.heap.size,0,none⟩) 1 1 _ hrd (by
       intro u hu
       have hu2 : u=.int .i64 0 \/ u=.slice (some ⟨gs,0,none⟩) 512 512:=by simpa using hu
       rcases hu2 with rfl | rfl <;> rfl) (by simp [maxLen]) (by omega) (by simp)
     obtain ⟨gl,cl,rfl,hgl7,hgll⟩:=ho7.form (by omega)
     have q0 : w7.cell? ⟨gl,0,none⟩=some (.int .i64 0):=by
       have h:=ho7.cells (g:=gl) rfl 0 (.int .i64 0) rfl
       simpa [Addr.add] using h
     have q1 : w7.cell? ⟨gl,1,none⟩=some (.slice (some ⟨gs,0,none⟩) 512 512):=by
       have h:=ho7.cells (g:=gl) rfl 1 (.slice (some ⟨gs,0,none⟩) 512 512) rfl
       simpa [Addr.add] using h
     have hB7 : Below w5.heap.size w5 w7:=((Below.refl w5.heap.size w5).alloc (Nat.le_refl _) (.cells #[.int .i64 0,.slice (some ⟨gs,0,none⟩) 512 512] 167)).grown hg7 (by simp) (fun k hk => by simp [Value.ownBlock] at hk)
     have hblk7 : ∃ cs,Blk w7 gl 167 cs:=by
       rcases ho7.2 with ⟨h0,_⟩ | ⟨g',cap',cur,hv,_,hh,_⟩
       · cases h0
       · cases hv; exact ⟨cur,hh⟩
     have hfin : Hid (w7.cell? ⟨gl,0,none⟩=some (.int .i64 0)/\w7.cell? ⟨gl,1,none⟩=some (.slice (some ⟨gs,0,none⟩) 512 512)/\Blk w7 gs 228 (bv (sealP 0 (headL a ++ zeroB (508 - (headL a).length)))).toArray/\Below wr.heap.size wr w7/\wr.heap.size<=gs/\wr.heap.size<=gl/\∃ cs,Blk w7 gl 167 cs):=hide ⟨q0,q1,hbs.below hB7 hbs.lt,hB5.trans (hB7.mono hB5.size),hgs,by have:=hB5.size; omega,hblk7⟩
     replace hbs:=hide hbs
     replace hB5:=hide hB5
     replace ho7:=hide ho7
     replace hg7:=hide hg7
     replace hB7:=hide hB7
     replace hrd:=hide hrd
     clear q0 q1 hv7
     go_wp2_with (at_builtin; refine Lib.wpList_append_run _ rfl (.tmp 37) (.tmp 41) 119 119 rfl _ _ rfl rfl _ _ hrun ?_)
     go_roundw
     case rel => exact .inr ⟨rfl,gl,gs,cl,rfl,hfin⟩
     case measure => simp [intOf]
   · obtain ⟨q0, q1, hbs, hB4r, hgs, hgl4, cs7, hb7⟩ := hH.out
     have hm5:=hm4.out.keep (hB4r.block gm hm4.out.lt)
     obtain ⟨w6,hdr,hm6,hg6⟩:=hm5.drop 0 (by omega) 0
     have hdr : (Builtin.delete_ #[68,3] 0 #[.map (some gm),.int .i64 0]).run Tryz.prog wr=.ok (.tuple #[]) w6:=hdr
     have hup : updO (updO (fun _ => none) 0 (some (.slice (some ⟨g2,0,none⟩) 44 cc2))) 0 none=(fun _ => none : Nat->Option Value):=by
       funext j; unfold updO; split <;> rfl
     rw [hup] at hm6
     have r22 : wr.cell? ⟨gp,22,none⟩=some (.map (some gm)):=(hpg4.out.below hB4r hpg4.out.lt).cell 22
     have hgml:=hm4.out.lt
     have hnegl : gl ≠ gm:=by omega
     have hnegs : gs ≠ gm:=by omega
     have hfin : Hid (WsRet w gm (sealP 0 (headL a ++ zeroB (508 - (headL a).length))) (.returned (.slice (some ⟨gl,0,none⟩) 1 c)) w6):=by
       refine hide ⟨gl,gs,c,rfl,?_,?_,hbs.grown hg6 (fun e => hnegs (by injection e with e)),hm6,(hX4.out.trans (Only.of_below hB4r) (fun i _ h => h)).grown hg6 (fun k hk _ => by injection hk with hk; exact hk.symm),by have:=hX4.out.size; omega,by have:=hX4.out.size; omega,cs7,hb7.grown hg6 (fun e => hnegl (by injection e with e))⟩
       · rw [World.cell?_of_block (w:=wr) (hg6.block gl (World.block_lt_of_cell? wr _ q0) (fun e => hnegl (by injection e with e)))]; exact q0
       · rw [World.cell?_of_block (w:=wr) (hg6.block gl (World.block_lt_of_cell? wr _ q0) (fun e => hnegl (by injection e with e)))]; exact q1
     replace hbs:=hide hbs
     replace hB4r:=hide hB4r
     replace hm5:=hide hm5
     replace hm6:=hide hm6
     replace hg6:=hide hg6
     clear q0 q1 hup
     go_wp2_with fail
     go_ret
     exact hfin.out
set_option maxHeartbeats 1000000 in
theorem rising_one (w : World) (gl gs c : Nat) (h0 : w.cell? ⟨gl,0,none⟩=some (.int .i64 0)) (h1 : w.cell? ⟨gl,1,none⟩=some (.slice (some ⟨gs,0,none⟩) 512 512)) :
   Calls Tryz.prog 100 #[.slice (some ⟨gl,0,none⟩) 1 c] w fun e w' => e=.returned (.bool true)/\Below w.heap.size w w':=by
 go_enter Tryz.func100,Tryz.ntmps100
 go_wp2_with fail
 go_loopw [3,5,8] (fun v3 _ v8 wx => (v8=.int .i64 0/\v3=.int .i64 (-1)/\wx=w) \/ (v8=.int .i64 1/\Hid (Below w.heap.size w wx))) (fun _ _ v8 _ => 1 - (intOf v8).toNat)
 case atStart => exact .inl ⟨rfl,rfl,rfl⟩
 case round =>
   rcases hrel with ⟨rfl,rfl,rfl⟩ | ⟨rfl,hB⟩
   · obtain ⟨W1, hW1⟩ : ∃ W1, W1 = wr.alloc (.cells #[.int .i64 0, .slice (some ⟨gs, 0, none⟩) 512 512] 167) := ⟨_, rfl⟩
     have hsz : W1.heap.size=wr.heap.size + 1:=by rw [hW1,World.size_alloc]
     have hft : Hid (Calls Tryz.prog 137 #[.int .i64 3,.slice (some ⟨wr.heap.size + 1,0,none⟩) 1 1] (W1.alloc (.cells #[.int .i64 0] 3)) fun e w' => e=.returned (.bool true)/\W1.alloc (.cells #[.int .i64 0] 3)=w'):=by
       have h:=fits_any (W1.alloc (.cells #[.int .i64 ((0 : Nat) : Int)] 3)) (some ⟨W1.heap.size,0,none⟩) 1 1 3 [0] (one_pn W1 0 3) (by omega) (by omega) (by omega) (by simp)
       rw [hsz] at h
       exact hide h
     have hB1 : Hid (Below wr.heap.size wr (W1.alloc (.cells #[.int .i64 0] 3))):=by rw [hW1]; exact hide (((Below.refl wr.heap.size wr).alloc (Nat.le_refl _) _).alloc (by simp) _)
     rw [hW1] at hft hB1
     replace hsz:=hide hsz
     clear hW1
     go_wp2_with fail
     refine hft.out.mono ?_
     rintro e w2 ⟨rfl,rfl⟩
     go_wp2_with fail
     go_roundw
     case rel => exact .inr ⟨rfl,hB1⟩
     case measure => simp [intOf]
   · go_wp2_with fail
     go_ret
     exact ⟨rfl,hB.out⟩
end Go.Proofs.YtiiljlmeililbaaGreatDoor
