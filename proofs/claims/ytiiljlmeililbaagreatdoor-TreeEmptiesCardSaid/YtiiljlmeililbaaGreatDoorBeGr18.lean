/-
  Contract of node.Get at the bytes of an inner node that is right, noughts behind.
-/
import Derived.Test.YtiiljlmeililbaaGreatDoorBeGr17
import Derived.Test.YtiiljlmeililbaaGreatDoorBePgB
import Derived.Test.YtiiljlmeililbaaGreatDoorBeGr16
import Derived.Test.YtiiljlmeililbaaGreatDoorBeGr4
import Derived.Test.YtiiljlmeililbaaGreatDoorBeCmp
namespace Go.Proofs.YtiiljlmeililbaaGreatDoor
set_option linter.unusedVariables false
set_option maxRecDepth 100000
open Go.RowKit
theorem kid_step {w wa w8 : World} {gr gn N c i kn p p2 : Nat} {A : Option Addr} {b : List UInt8} {n : NodeP} {cv kv : Value} (hI : GI w gr gn A N c b n i kn p cv kv wa) (hL : RdLeft wa gr A N c b p2 w8) (x : Nat) (hx : n.kids[kn]?=some x) (hkn : kn + 1<=1000000) :
   ∃ A9 c9 w9, (Builtin.append_ #[57, 57] 57 #[kv, .slice (some ⟨w8.heap.size, 0, none⟩) 1 1]).run Tryz.prog (w8.alloc (.cells #[.int .i64 (x : Int)] 3)) = .ok (.slice A9 (kn + 1) c9) w9 /\ w8.cell? ⟨gn, 2, none⟩ = some kv /\ (w8.alloc (.cells #[.int .i64 (x : Int)] 3)).cell? ⟨gn, 2, none⟩ = some kv /\ w9.cell? ⟨gn, 2, none⟩ = some kv /\ w9.frozen? ⟨gn, 2, none⟩ = false /\
     GI w gr gn A N c b n i (kn + 1) p2 cv (.slice A9 (kn + 1) c9) (w9.setCell ⟨gn,2,none⟩ (.slice A9 (kn + 1) c9))/\KeepT 5 wa (w9.setCell ⟨gn,2,none⟩ (.slice A9 (kn + 1) c9)) /\
     (∀ (g : Nat) (t : TypeId) (cs : Array Value),Blk wa g t cs->t ≠ 187->t ≠ 89->t ≠ 3->Blk (w9.setCell ⟨gn,2,none⟩ (.slice A9 (kn + 1) c9)) g t cs):=by
 have hI8:=hI.only hL.2 hL.1
 have hIa:=hI8.alloc (.cells #[.int .i64 (x : Int)] 3)
 have hb:=Blk.new w8 3 #[.int .i64 (x : Int)]
 obtain ⟨v9,w9,hrun,hO9,hg9,_⟩:=run_app_int (w8.alloc (.cells #[.int .i64 (x : Int)] 3)) gn kv kn _ hIa.kids w8.heap.size x hb 57 hkn (Nat.le_of_lt (Blk.lt hIa.nod))
 obtain ⟨A9,c9,rfl⟩ : ∃ A9 c9,v9=.slice A9 (kn + 1) c9:=by
   rcases hO9.2 with ⟨_,h0⟩ | ⟨g,cap,cur,e,_⟩
   · omega
   · exact ⟨_,_,e⟩
 have hnod9:=hIa.nod.grown hg9 (fun e => own_blk_ne hIa.kids hIa.nod (by decide) e.symm)
 have htk : (n.kids.take kn).map encI ++ [.int .i64 (x : Int)]=(n.kids.take (kn + 1)).map encI:=by
   rw [List.take_add_one,hx]; simp [encI]
 rw [htk] at hO9
 refine ⟨A9,c9,w9,hrun,hI8.nod.cell 2,hIa.nod.cell 2,hnod9.cell 2,hnod9.frozen 2,hIa.kid hg9 hO9,?_,fun g t cs hb0 h1 h2 h3 => ?_⟩
 · have hT8 : KeepT 5 wa w8 := hL.2.keepT fun k cs hk hb => by subst hk; exact Blk.ne_ hb hI.rdr.blk (by decide) rfl
   exact ((hT8.alloc _).grown_own hg9 hIa.kids (by decide)).set_ (p:=⟨gn,2,none⟩) hnod9 (by decide) _
 · have k1 : Blk w8 g t cs := hL.2.blk hb0 (fun e => by subst e; exact Blk.ne_ hb0 hI.rdr.blk h1 rfl)
   have k2:=(k1.alloc (.cells #[.int .i64 (x : Int)] 3)).grown hg9 (fun e => own_blk_ne hIa.kids (k1.alloc (.cells #[.int .i64 (x : Int)] 3)) h3.symm e.symm)
   exact k2.far (p:=⟨gn,2,none⟩) (Blk.ne_ k2 hnod9 h2) _
set_option maxHeartbeats 2000000 in
theorem get_inner (w : World) (A : Option Addr) (N c : Nat) (n : NodeP) (z : Nat) (hr : RightP n) (hleaf : n.leaf=false) (hb : RB w w.heap.size A N (packP n ++ zeroB z)) (hnc : N<=c) (hN : N<=100000) : Calls Tryz.prog 82 #[.slice A N c] w (GetRet w n):=by
 obtain ⟨b,hbe⟩ : ∃ b,b=packP n ++ zeroB z:=⟨_,rfl⟩
 have hhead:=head_at n z
 have hcell:=hide (cell_at n z)
 have hend:=hide (end_at n z)
 rw [<- hbe] at hb hhead hcell hend
 have hbl : b.length=N:=hb.len
 have hzN : z=N - (packP n).length/\(packP n).length<=N:=by rw [hbe,List.length_append,zeroB_len] at hbl; omega
 obtain ⟨M,hM⟩ : ∃ M,M=n.cells.length:=⟨_,rfl⟩
 have hmany:=hr.many
 rw [<- hM] at hmany hend
 have hm65 : M % 256 ^ 2=M:=Nat.mod_eq_of_lt (by omega)
 have hpre : Hid (∀ i,i<=M->(preB n i).length<=N):=hide fun i hi => by
   have h1:=preB_le n i (by omega)
   rw [<- packP_len] at h1
   omega
 have hB1:=((Below.refl w.heap.size w).alloc (Nat.le_refl _) (.cells #[.bool false,.slice none 0 0,.slice none 0 0] 89)).alloc (by simp) (.cells #[.slice A N c,.int .i64 0,.bool true] 187)
 have hbR : Blk ((w.alloc (.cells #[.bool false,.slice none 0 0,.slice none 0 0] 89)).alloc (.cells #[.slice A N c,.int .i64 0,.bool true] 187)) (w.heap.size + 1) 187 #[.slice A N c,.int .i64 0,.bool true]:=by
   simpa using Blk.new (w.alloc (.cells #[.bool false,.slice none 0 0,.slice none 0 0] 89)) 187 #[.slice A N c,.int .i64 0,.bool true]
 have hbS:=(Blk.new w 89 #[.bool false,.slice none 0 0,.slice none 0 0]).alloc (.cells #[.slice A N c,.int .i64 0,.bool true] 187)
 have hrd : Rdr ((w.alloc (.cells #[.bool false,.slice none 0 0,.slice none 0 0] 89)).alloc (.cells #[.slice A N c,.int .i64 0,.bool true] 187)) (w.heap.size + 1) A N c b 0:=⟨hbR,(hb.below hB1).more (Nat.le_succ _),hnc,by omega⟩
 obtain ⟨W1,hW1⟩ : ∃ W1,W1=(w.alloc (.cells #[.bool false,.slice none 0 0,.slice none 0 0] 89)).alloc (.cells #[.slice A N c,.int .i64 0,.bool true] 187):=⟨_,rfl⟩
 rw [<- hW1] at hB1 hbR hbS hrd
 obtain ⟨lf,hlf⟩ : ∃ lf,lf=n.leaf:=⟨_,rfl⟩
 obtain ⟨gr,hgr⟩ : ∃ gr,gr=w.heap.size + 1:=⟨_,rfl⟩
 rw [<- hgr] at hrd hbR
 have hkids:=hr.kidsIn
 have hkidl:=hr.kidsLeaf
 rw [<- hlf] at hkids hkidl
 cases lf with
 | true => rw [hleaf] at hlf; cases hlf
 | false =>
   obtain ⟨k0,hk0⟩ : ∃ k0,Hid (leB 3 (n.kids.headD 0)=leB 3 k0/\n.kids[0]?=some k0):=by
     have h:=hkids rfl
     cases hkk : n.kids with
     | nil => rw [hkk] at h; simp at h
     | cons a r => exact ⟨a,hide ⟨rfl,rfl⟩⟩
   have hhd : headB n=[2] ++ (leB 2 M ++ (leB 3 k0)):=by unfold headB; rw [<- hlf,<- hM]; rw [hk0.out.1]; simp
   rw [hhd] at hhead
   obtain ⟨q1,q2⟩:=at_app hhead
   obtain ⟨q3,q4⟩:=at_app q2
   have hq1 : ([2] : List UInt8).length=1:=rfl
   rw [hq1] at q1 q3 q4
   rw [leB_len] at q3 q4
   have hpl : 3<=N:=by have h:=hpre.out 0 (Nat.zero_le _); rw [preB_zero,hhd] at h; simp [leB_len] at h; omega
   have hn1:=rdnum_any W1 gr N c 0 1 A b hrd (by omega) (by omega) (by omega) 1 rfl
   rw [q1] at hn1
   replace hn1 : Calls Tryz.prog 129 #[.pointer (some ⟨gr,0,none⟩),.int .i64 1] W1 fun e w' => e=.returned (.int .i64 2)/\RdLeft W1 gr A N c b 1 w':=hn1
   have hn2 : Hid (∀ wz,RdLeft W1 gr A N c b 1 wz->Calls Tryz.prog 129 #[.pointer (some ⟨gr,0,none⟩),.int .i64 2] wz fun e w' => e=.returned (.int .i64 (M : Int))/\RdLeft wz gr A N c b 3 w'):=hide fun wz hz => by
     have h:=rdnum_any wz gr N c 1 2 A b hz.1 (by omega) (by omega) (by omega) 2 rfl
     rw [show (0 + 1 : Nat)=1 from rfl] at q3
     rw [q3,numL_leB,hm65] at h
     exact h
   replace hn1:=hide hn1
   replace hW1:=hide hW1
   replace hhd:=hide hhd
   replace hM:=hide hM
   replace hlf:=hide hlf
   replace hmany:=hide hmany
   replace hm65:=hide hm65
   replace hhead:=hide hhead
   replace q1:=hide q1
   replace q2:=hide q2
   replace q3:=hide q3
   replace q4:=hide q4
   replace hzN:=hide hzN
   replace hbl:=hide hbl
   replace hbe:=hide hbe
   replace hb:=hide hb
   replace hrd:=hide hrd
   replace hbR:=hide hbR
   replace hbS:=hide hbS
   replace hB1:=hide hB1
   replace hgr:=hide hgr
   replace hr:=hide hr
   replace hkids:=hide hkids
   replace hkidl:=hide hkidl
   clear hq1
   go_enter Tryz.func82,Tryz.ntmps82
   go_wp2_with fail
   rw [<- hW1.out,<- hgr.out]
   refine hn1.out.mono ?_
   rintro e w2 ⟨rfl,hL2⟩
   have hn2b:=hide (hn2.out w2 hL2)
   have hO2:=hide hL2.2
   replace hL2:=hide hL2
   go_wp2_with fail
   refine hn2b.out.mono ?_
   rintro e w3 ⟨rfl,hL3⟩
   have hO3 : Hid (Only (fun j => j=gr) W1 w3):=hide (hO2.out.trans hL3.2 fun i _ h => h)
   have hgi : Hid (GI w gr w3.heap.size A N c b n 0 0 3 (.slice none 0 0) (.slice none 0 0) (w3.alloc (.cells #[.bool false,.slice none 0 0,.slice none 0 0] 89))):=hide (by
     have hlt1 : W1.heap.size=w.heap.size + 2:=by rw [hW1.out]; simp
     have hsz:=hO3.out.size
     have hg:=hgr.out
     refine ⟨(hO3.out.blk hbS.out (by omega)).alloc _,hL3.1.only ((Only.refl (fun _ => False) w3).alloc _) (fun h => h) (fun _ _ h => h),?_,(hB1.out.trans (hO3.out.below (B:=w.heap.size) (fun k hk => by omega) (by omega))).alloc (by omega) _,⟨[],rfl,World.ownsRow_nil ..,fun k vs c e => by simp at e⟩,by rw [List.take_zero]; exact World.ownsRow_nil ..,by omega,by omega⟩
     rw [<- hlf.out]
     exact Blk.new w3 89 #[.bool false,.slice none 0 0,.slice none 0 0])
   have hgnb:=hide hgi.out.nodB
   have r0 : (w3.alloc (.cells #[.bool false,.slice none 0 0,.slice none 0 0] 89)).cell? ⟨w3.heap.size,0,none⟩=some (.bool false):=by have h:=hgi.out.nod.cell 0; rw [<- hlf.out] at h; exact h
   have r1:=hgi.out.nod.cell 1
   have r2:=hgi.out.nod.cell 2
   have g0:=hgi.out.rdr.blk.cell 2
   replace hL3:=hide hL3
   go_wp2_with fail
   obtain ⟨gn,hgn⟩ : ∃ gn,gn=w3.heap.size:=⟨_,rfl⟩
   rw [<- hgn] at hgi hgnb r0 r1 r2 ⊢
   replace hgn:=hide hgn
   obtain ⟨wa,hwa⟩ : ∃ wa,wa=w3.alloc (.cells #[.bool false,.slice none 0 0,.slice none 0 0] 89):=⟨_,rfl⟩
   rw [<- hwa] at hgi r0 r1 r2 g0 ⊢
   replace hwa:=hide hwa
   have hnp : 6<=N:=by have h:=hpre.out 0 (Nat.zero_le _); rw [preB_zero,hhd.out] at h; simp [leB_len] at h; omega
   have q5 : (b.drop 3).take 3=leB 3 k0:=by have h:=q4.out; simpa [leB_len] using h
   have hk24 : k0 < 256 ^ 3:=by
     have h:=hr.out.kidsOk k0 (List.mem_of_getElem? hk0.out.2)
     unfold childN at h; omega
   have hnk : Hid (Calls Tryz.prog 129 #[.pointer (some ⟨gr,0,none⟩),.int .i64 3] wa.drew fun e w' => e=.returned (.int .i64 ((k0 : Nat) : Int))/\RdLeft wa.drew gr A N c b (3 + 3) w'):=hide (by
     have h:=rdnum_any wa.drew gr N c 3 3 A b hgi.out.drew.rdr (by omega) (by omega) (by omega) 3 rfl
     rw [q5,numL_leB,Nat.mod_eq_of_lt hk24] at h
     exact h)
   have hgd:=hide hgi.out.drew
   replace q5:=hide q5
   replace hgi:=hide hgi.out
   go_cut [] (fun wx => ∃ A9 c9,Hid (GI w gr gn A N c b n 0 1 6 (.slice none 0 0) (.slice A9 1 c9) wx))
   case first =>
    go_region_law (first
     | (go_simp; go_at_call 129; refine hnk.out.mono ?_; rintro e w8 ⟨rfl,hL8⟩; obtain ⟨A9,c9,w9,hrun,j1,j2,j3,j4,hI9,hT9,hB9⟩:=kid_step hgd.out hL8 k0 hk0.out.2 (by omega); replace hL8:=hide hL8; replace hI9:=hide hI9; replace hT9:=hide hT9; replace hB9 : Hid _:=hide hB9)
     | (refine Lib.wp_append_run _ (.tmp 23) (.tmp 26) 57 57 rfl _ _ rfl rfl _ _ hrun ?_))
    all_goals
     go_wp2_with fail
     go_meet
     case rel => exact ⟨A9,c9,hI9⟩
   obtain ⟨A0,c0,hgi0⟩:=hcut
   have hst : Hid (GI w gr gn A N c b n 0 (0 + 1) (preB n 0).length (.slice none 0 0) (.slice A0 1 c0) wc):=hide (by
     rw [preB_zero,hhd.out]; simp only [List.length_append,leB_len]; exact hgi0.out)
   clear g0 r0 r1 r2 hgi0 hnk hgd hgi hn2b hn1 hn2
   go_wp2_with fail
   go_loopw [30] (fun v30 wx => ∃ (i : Nat) (cv kv : Value),v30=.int .i64 (i : Int)/\i<=M/\Hid (GI w gr gn A N c b n i (i + 1) (preB n i).length cv kv wx)) (fun v30 _ => M - (intOf v30).toNat)
   case atStart => exact ⟨0,_,_,rfl,Nat.zero_le _,hst⟩
   case round =>
     obtain ⟨i,cv,kv,rfl,hi,hI⟩:=hrel
     obtain ⟨p,hp⟩ : ∃ p,p=(preB n i).length:=⟨_,rfl⟩
     rw [<- hp] at hI
     have r0 : wr.cell? ⟨gn,0,none⟩=some (.bool false):=by have h:=hI.out.nod.cell 0; rw [<- hlf.out] at h; exact h
     have r1:=hI.out.nod.cell 1
     have r2:=hI.out.nod.cell 2
     have g0:=hI.out.rdr.blk.cell 0
     have g1:=hI.out.rdr.blk.cell 1
     have g2:=hI.out.rdr.blk.cell 2
     rcases Nat.lt_or_ge i M with hlt | hge
     · have hIc : (i : Int) < (M : Int) := by omega
       have hiB : (i : Int)<=70000:=by have:=hmany.out; omega
       have hil : i < n.cells.length:=by have:=hM.out; omega
       obtain ⟨x,hxx⟩ : ∃ x,x=n.cells[i]:=⟨_,rfl⟩
       have hx : n.cells[i]?=some x:=by rw [hxx]; exact List.getElem?_eq_getElem hil
       have hxm : x ∈ n.cells:=by rw [hxx]; exact List.getElem_mem hil
       obtain ⟨t1,t2,t3⟩:=hcell.out i x hx
       have hkey:=hr.out.keys x hxm
       have hval:=hr.out.vals x hxm
       rw [<- hlf.out] at hval t1 t2
       rw [<- hp] at t1 t2
       obtain ⟨K,hK⟩ : ∃ K : UInt8,K=UInt8.ofNat x.key.length:=⟨_,rfl⟩
       have hcb : cellB false x (n.kids.getD (i + 1) 0)=[K] ++ (x.key ++ (leB 3 (n.kids.getD (i + 1) 0))):=by unfold cellB; rw [<- hK]; simp
       rw [hcb] at t1 t2
       obtain ⟨s1,s23⟩:=at_app t1
       obtain ⟨s2,s3⟩:=at_app s23
       have hKn : numL [K]=x.key.length:=by
         show K.toNat + 256 * 0=_
         rw [hK,UInt8.toNat_ofNat']; omega
       obtain ⟨KL,hKL⟩ : ∃ KL,KL=x.key.length:=⟨_,rfl⟩
       have hl1 : ([K] : List UInt8).length=1:=rfl
       rw [hl1] at s1 s2 s3
       rw [<- hKL] at s2 s3 hKn hkey
       have hpN : p + 1 + KL + (leB 3 (n.kids.getD (i + 1) 0)).length<=N:=by
         have h1:=hpre.out (i + 1) (by omega)
         rw [t2] at h1
         simp only [List.length_append,hl1] at h1
         omega
       have hp2 : Hid ((preB n (i + 1)).length=p + 1 + KL + (leB 3 (n.kids.getD (i + 1) 0)).length):=hide (by rw [t2]; simp only [List.length_append,hl1]; omega)
       have hnum:=rdnum_any wr gr N c p 1 A b hI.out.rdr (by omega) (by omega) (by omega) 1 rfl
       rw [s1,hKn] at hnum
       have hcut : Hid (∀ wz,RdLeft wr gr A N c b (p + 1) wz->Calls Tryz.prog 130 #[.pointer (some ⟨gr,0,none⟩),.int .i64 (KL : Int)] wz (RCutRet wz gr A N c b (p + 1) KL)):=hide fun wz hz => cut_any wz gr N c (p + 1) KL A b hz.1 (by omega)
       have hKLb : KL<=120:=hkey.2
       replace hnum:=hide hnum
       replace s1:=hide s1
       replace s2:=hide s2
       replace s23:=hide s23
       replace s3:=hide s3
       replace t1:=hide t1
       replace t2:=hide t2
       replace t3:=hide t3
       replace hp:=hide hp
       replace hxx:=hide hxx
       replace hx:=hide hx
       replace hxm:=hide hxm
       replace hK:=hide hK
       replace hKn:=hide hKn
       replace hKL:=hide hKL
       replace hcb:=hide hcb
       replace hkey:=hide hkey
       replace hval:=hide hval
       replace hil:=hide hil
       replace hpN:=hide hpN
       clear hl1
       go_wp2_with fail
       refine hnum.out.mono ?_
       rintro e w4 ⟨rfl,hL4⟩
       have hI4:=hide (hI.out.only hL4.2 hL4.1)
       have hcut4:=hide (hcut.out w4 hL4)
       replace hL4:=hide hL4
       go_wp2_with fail
       refine hcut4.out.mono ?_
       rintro e w5 ⟨v5,rfl,hO5,hL5⟩
       have hI5:=hide (hI4.out.only hL5.2 hL5.1)
       rw [s2.out] at hO5
       have hO5':=hO5.more (b':=w.heap.size) hI4.out.bel.size
       obtain ⟨A5,c5,rfl,_,_,hc5,_⟩:=hO5'.form
       have hrd5:=hide hO5'.rd5
       obtain ⟨gc,hgc⟩ : ∃ gc,gc=w5.heap.size:=⟨_,rfl⟩
       have hI6:=hide (hI5.out.alloc (.cells #[.slice A5 KL c5,.slice none 0 0,.int .i64 0,.int .i64 0] 83))
       have hC6:=hide (Blk.new w5 83 #[.slice A5 KL c5,.slice none 0 0,.int .i64 0,.int .i64 0])
       have hgrc : Hid (gr < gc):=hide (by rw [hgc]; exact Blk.lt hI5.out.rdr.blk)
       have hgnc : Hid (gn < gc):=hide (by rw [hgc]; exact Blk.lt hI5.out.nod)
       obtain ⟨w6,hw6⟩ : ∃ w6,w6=w5.alloc (.cells #[.slice A5 KL c5,.slice none 0 0,.int .i64 0,.int .i64 0] 83):=⟨_,rfl⟩
       rw [<- hw6,<- hgc] at hC6
       rw [<- hw6] at hI6
       have hO56 : Hid (Only (fun j => j=gr) w5 w6):=hide (by rw [hw6]; exact (Only.refl _ w5).alloc _)
       have hT56 : Hid (KeepT 5 w5 w6):=hide (by rw [hw6]; exact (KeepT.refl 5 w5).alloc _)
       have e0 : w6.cell? ⟨gn,0,none⟩=some (.bool false):=by have h:=hI6.out.nod.cell 0; rw [<- hlf.out] at h; exact h
       have e2:=hI6.out.nod.cell 2
       replace hw6:=hide hw6
       replace hgc:=hide hgc
       replace hO5:=hide hO5
       replace hO5':=hide hO5'
       replace hL5:=hide hL5
       replace hc5:=hide hc5
       obtain ⟨kx,hkx⟩ : ∃ kx,n.kids[i + 1]?=some kx:=by
         have h:=hkids.out trivial
         have h2:=hil.out
         exact ⟨_,List.getElem?_eq_getElem (by omega)⟩
       have hkg : n.kids.getD (i + 1) 0=kx:=by rw [List.getD_eq_getElem?_getD,hkx]; rfl
       have q6 : (b.drop (p + 1 + KL)).take 3=leB 3 kx:=by have h:=s3.out; rw [hkg] at h; simpa [leB_len] using h
       have hk24 : kx < 256 ^ 3:=by
         have h:=hr.out.kidsOk kx (List.mem_of_getElem? hkx)
         unfold childN at h; omega
       have hpN3 : p + 1 + KL + 3<=N:=by have h:=hpN.out; simpa [leB_len] using h
       have hi10 : i + 1 + 1<=1000000:=by have:=hmany.out; omega
       have hnk : Hid (Calls Tryz.prog 129 #[.pointer (some ⟨gr,0,none⟩),.int .i64 3] w6.drew fun e w' => e=.returned (.int .i64 ((kx : Nat) : Int))/\RdLeft w6.drew gr A N c b (p + 1 + KL + 3) w'):=hide (by
         have h:=rdnum_any w6.drew gr N c (p + 1 + KL) 3 A b hI6.out.drew.rdr (by omega) (by omega) (by omega) 3 rfl
         rw [q6,numL_leB,Nat.mod_eq_of_lt hk24] at h
         exact h)
       have hgd:=hide hI6.out.drew
       have hCd:=hide hC6.out.drew
       have hkx2:=hide hkx
       replace hkx:=hide hkx
       replace q6:=hide q6
       go_upto_region 10 with (fail)
       rw [<- hw6.out,<- hgc.out]
       go_upto_region 12 with (fail)
       go_cut [] (fun wx => ∃ A9 c9,Hid (GI w gr gn A N c b n i (i + 1 + 1) (p + 1 + KL + 3) cv (.slice A9 (i + 1 + 1) c9) wx)/\Hid (Blk wx gc 83 #[.slice A5 KL c5,.slice none 0 0,.int .i64 0,.int .i64 0])/\Hid (KeepT 5 w6 wx))
       case first =>
        go_region_law (first
         | (go_simp; go_at_call 129; refine hnk.out.mono ?_; rintro e w8 ⟨rfl,hL8⟩; obtain ⟨A9,c9,w9,hrun,j1,j2,j3,j4,hI9,hT9,hB9⟩:=kid_step hgd.out hL8 kx hkx2.out hi10; have hC9:=hide (hB9 _ _ _ hCd.out (by decide) (by decide) (by decide)); replace hL8:=hide hL8; replace hI9:=hide hI9; replace hT9:=hide hT9; replace hB9 : Hid _:=hide hB9)
         | (refine Lib.wp_append_run _ (.tmp 47) (.tmp 50) 57 57 rfl _ _ rfl rfl _ _ hrun ?_))
        all_goals
         go_wp2_with fail
         go_meet
         case rel => exact ⟨A9,c9,hI9,hC9,hT9⟩
       obtain ⟨A8,c8,hI7,hC7,hT67⟩:=hcut
       obtain ⟨w7,hw7⟩ : ∃ w7,w7=wc:=⟨_,rfl⟩
       subst hw7
       have hbare : x.over=0/\x.long=0/\x.val=[]:=by have h:=hval.out; simpa [BareCell] using h
       have hcv : Hid (CellV (G5 w.heap.size w7) w7 [.slice A5 KL c5,.slice none 0 0,.int .i64 0,.int .i64 0] x):=hide ⟨A5,c5,none,0,by rw [hKL.out,hbare.1,hbare.2.1,hbare.2.2]; rfl,by rw [<- hKL.out]; exact hc5.out,by rw [hbare.2.2]; exact Nat.le_refl _,by
         rw [<- hKL.out]
         exact hrd5.out.keep fun k hk => ⟨⟨hk.1,hk.2.choose,hT67.out _ _ (hT56.out _ _ hk.2.choose_spec)⟩,(hT67.out _ _ (hT56.out _ _ hk.2.choose_spec)).trans hk.2.choose_spec.symm⟩,by rw [hbare.2.2]; exact Rd.none_⟩
       have hfinp : Hid ((preB n (i + 1)).length=p + 1 + KL + 3):=by have h:=hp2.out; rw [leB_len] at h; exact hide h
       clear hnk hgd hCd hkx2 e0 e2
       have k0:=hC7.cell 0
       have k1:=hC7.cell 1
       have k2:=hC7.cell 2
       have k3:=hC7.cell 3
       have m1:=hI7.out.nod.cell 1
       have hI8:=hide (hI7.out.alloc (.cells #[(.slice A5 KL c5),(.slice none 0 0),(.int .i64 0),(.int .i64 0)] 83))
       have hB8:=Blk.new w7 83 #[(.slice A5 KL c5),(.slice none 0 0),(.int .i64 0),(.int .i64 0)]
       obtain ⟨rows,hr1,hr2,hr3⟩:=hI8.out.rows
       obtain ⟨v9,w9,hrun,hO9,hg9,hat9⟩:=run_app_cell (w7.alloc (.cells #[(.slice A5 KL c5),(.slice none 0 0),(.int .i64 0),(.int .i64 0)] 83)) gn cv i rows.flatten hr2 w7.heap.size (.slice A5 KL c5) (.slice none 0 0) (.int .i64 0) (.int .i64 0) (by intro u hu; simp at hu; rcases hu with rfl | rfl | rfl | rfl <;> rfl) hB8 87 (by have:=hmany.out; omega) (Nat.le_of_lt (Blk.lt hI8.out.nod))
       have hN9:=hI8.out.nod.grown hg9 (fun e => own_blk_ne hr2 hI8.out.nod (by decide) e.symm)
       have f1:=hN9.frozen 1
       have l1:=hN9.cell 1
       have hcv8 : CellV (G5 w.heap.size (w7.alloc (.cells #[(.slice A5 KL c5),(.slice none 0 0),(.int .i64 0),(.int .i64 0)] 83))) (w7.alloc (.cells #[(.slice A5 KL c5),(.slice none 0 0),(.int .i64 0),(.int .i64 0)] 83)) [(.slice A5 KL c5),(.slice none 0 0),(.int .i64 0),(.int .i64 0)] x:=hcv.out.keep fun k hk => ⟨⟨hk.1,hk.2.choose,hk.2.choose_spec.alloc _⟩,(Below.heap_alloc w7 _ k (Blk.lt hk.2.choose_spec))⟩
       have hdone : Hid (GI w gr gn A N c b n (i + 1) (i + 1 + 1) (preB n (i + 1)).length v9 (.slice A8 (i + 1 + 1) c8) (w9.setCell ⟨gn,1,none⟩ v9)):=hide (by
         rw [hfinp.out]
         exact hI8.out.cell hg9 hx.out hcv8 rows hr1 hr2 hr3 hO9)
       obtain ⟨A9,c9,hv9⟩ : ∃ A9 c9,v9=.slice A9 (i + 1) c9:=by
         rcases hO9.2 with ⟨_,h0⟩ | ⟨g,cap,cur,e,_⟩
         · omega
         · exact ⟨_,_,e⟩
       subst hv9
       replace hC7:=hide hC7
       replace hB8:=hide hB8
       replace hO9:=hide hO9
       replace hg9:=hide hg9
       replace hN9:=hide hN9
       replace hr1:=hide hr1
       replace hr2:=hide hr2
       replace hr3:=hide hr3
       replace hcv8:=hide hcv8
       replace hat9:=hide hat9
       go_wp2_with (at_builtin; refine Lib.wpList_append_run _ rfl (.tmp 54) (.tmp 56) 87 87 rfl _ _ rfl rfl _ _ hrun ?_)
       go_roundw
       case rel => exact ⟨i + 1,_,_,by simp,by omega,hdone⟩
       case measure => simp [intOf]; omega
     · have hiM : i = M := by omega
       have hIf : ¬ (i : Int) < (M : Int):=by omega
       have hIf2 : (M : Int)<=(i : Int):=by omega
       have hMD : decide ((i : Int) < (M : Int))=false:=by rw [decide_eq_false_iff_not]; omega
       have hpN : p<=N:=by rw [hp]; exact hpre.out i (by omega)
       have hown:=hI.out.own (by rw [hiM]; exact hM.out) (by rw [hkids.out trivial,hiM,hM.out])
       have hsl : ∀ {e : TypeId} {size m : Nat} {v : Value} {xs : List Value} {B : Nat},wr.ownsRow B e size v m xs->∃ A c,v=.slice A m c:=by
         intro e size m v xs B h
         rcases h.2 with ⟨rfl,rfl⟩ | ⟨g,cap,cur,rfl,_⟩
         · exact ⟨none,0,rfl⟩
         · exact ⟨_,_,rfl⟩
       obtain ⟨rows,_,hro,_⟩:=hown.rows
       obtain ⟨Ac,cc,rfl⟩:=hsl hro
       obtain ⟨Ak,ck,rfl⟩:=hsl hown.kids
       have hNM:=hown.nodeM (G:=Old wr) (fun k _ hk => hk)
       rw [<- hlf.out] at hNM
       have hri:=hide (right_any wr _ n hNM hr.out)
       obtain ⟨T,hT⟩ : ∃ T,T=N - p:=⟨_,rfl⟩
       have hrbT : RB wr w.heap.size (if c=p then A else A.map (fun a => a.add (p * 1))) T (zeroB T):=by
         have h:=Reads.cut (k:=p) (cap:=c) (hb.out.below hI.out.bel) hpN hnc
         rw [hT]
         have e : b.drop p=zeroB (N - p):=by
           have e1:=hend.out
           rw [<- hiM,<- hp] at e1
           have e2:=congrArg List.length e1
           rw [List.length_drop,hbl.out,zeroB_len] at e2
           rw [e1,e2]
         unfold RB
         rw [<- e]
         unfold bv at h ⊢
         rw [List.map_drop]
         simpa using h
       have hTc : T<=c - p:=by omega
       obtain ⟨AT,hAT⟩ : ∃ AT,AT=(if c=p then A else A.map (fun a => a.add (p * 1))):=⟨_,rfl⟩
       rw [<- hAT] at hrbT
       replace hri:=hide hri
       replace hIf:=hide hIf
       replace hrbT:=hide hrbT
       replace hAT:=hide hAT
       replace hT:=hide hT
       replace hro:=hide hro
       replace hown:=hide hown
       replace hNM:=hide hNM
       replace hiM:=hide hiM
       replace hp:=hide hp
       have hpI : (p : Int)<=(N : Int):=by omega
       have hpc : (p : Int)<=(c : Int):=by omega
       rcases Nat.lt_or_ge p c with hcp | hcp
       · have hcpI : (p : Int) < (c : Int) := by omega
         have hne : ¬ c=p:=by omega
         have e1 : AT=Option.map (fun x => x.add p) A:=by rw [hAT.out,if_neg hne,Nat.mul_one]
         have h1 : T<=(c - p):=by have:=hT.out; omega
         have h2 : T<=10000000:=by have:=hT.out; omega
         have hnT:=hT.out
         have htr : Hid (∀ wz,Below wr.heap.size wr wz->Calls Tryz.prog 132 #[.slice (Option.map (fun x => x.add p) A) (N - p) (c - p),.string { data:=#[0] }] wz fun e w' => e=.returned (.slice none 0 0)/\∃ q,w'=wz.drewN q):=hide fun wz hz => by
           have h:=RB.below hrbT.out (hz.mono hI.out.bel.size)
           have h3:=trim_any wz w.heap.size T (c - p) AT h h1 h2
           rw [e1,hnT] at h3
           exact h3
         replace e1:=hide e1
         replace hnT:=hide hnT
         have hneq : ∀ wz : World,(binOp .neq 37 (.slice none 0 0) (.slice none 0 0)).run Tryz.prog wz=.ok (.bool false) wz:=fun wz => by kernel_rfl
         go_wp2_with (first
           | (go_at_call 87; refine hri.out.out.mono ?_; rintro e w7 ⟨rfl,hb7⟩; (have y0:=(hI.out.rdr.only (Only.of_below (S:=fun _ => False) hb7) (fun h => h) (fun _ _ h => h)).blk.cell 0); (have y1:=(hI.out.rdr.only (Only.of_below (S:=fun _ => False) hb7) (fun h => h) (fun _ _ h => h)).blk.cell 1);
              (have z0 : w7.cell? ⟨gn,0,none⟩=some (.bool false):=(hb7.cell (p:=⟨gn,0,none⟩) (Blk.lt hI.out.nod)).trans r0); (have z1:=(hI.out.nod.below hb7 (Blk.lt hI.out.nod)).cell 1); (have z2:=(hI.out.nod.below hb7 (Blk.lt hI.out.nod)).cell 2);
              (have rs:=hI.out.res.below hb7 (Blk.lt hI.out.res)); (have o0:=rs.cell 0); (have o1:=rs.cell 1); (have o2:=rs.cell 2); (have u0:=rs.frozen 0); (have u1:=rs.frozen 1); (have u2:=rs.frozen 2);
              replace rs:=hide rs; replace hb7:=hide hb7)
           | (go_at_call 132; refine (htr.out _ hb7.out).mono ?_; rintro e w8 ⟨rfl,nq,rfl⟩))
         have hB9 : Below w.heap.size w ((((w7.drewN nq).setCell ⟨w.heap.size,0,none⟩ (.bool false)).setCell ⟨w.heap.size,1,none⟩ (.slice Ac n.cells.length cc)).setCell ⟨w.heap.size,2,none⟩ (.slice Ak n.kids.length ck)) :=
           ((((below_drewN (hI.out.bel.trans (hb7.out.mono hI.out.bel.size)) nq).setCell (p:=⟨w.heap.size,0,none⟩) (Nat.le_refl _) _).setCell (p:=⟨w.heap.size,1,none⟩) (Nat.le_refl _) _).setCell (p:=⟨w.heap.size,2,none⟩) (Nat.le_refl _) _)
         have hown9 : NodeOwn ((((w7.drewN nq).setCell ⟨w.heap.size,0,none⟩ (.bool false)).setCell ⟨w.heap.size,1,none⟩ (.slice Ac n.cells.length cc)).setCell ⟨w.heap.size,2,none⟩ (.slice Ak n.kids.length ck)) w.heap.size (.slice Ac n.cells.length cc) (.slice Ak n.kids.length ck) n:=by
           have e1 : Only (fun j => j=w.heap.size) wr ((((w7.drewN nq).setCell ⟨w.heap.size,0,none⟩ (.bool false)).setCell ⟨w.heap.size,1,none⟩ (.slice Ac n.cells.length cc)).setCell ⟨w.heap.size,2,none⟩ (.slice Ak n.kids.length ck)) :=
             (((((Only.of_below (S:=fun j => j=w.heap.size) hb7.out).drewN nq).setCell (p:=⟨w.heap.size,0,none⟩) (fun _ => rfl) _).setCell (p:=⟨w.heap.size,1,none⟩) (fun _ => rfl) _).setCell (p:=⟨w.heap.size,2,none⟩) (fun _ => rfl) _)
           exact hown.out.only e1 fun k hk => by subst hk; exact ⟨_,_,hI.out.res,by decide,by decide,by decide⟩
         have hfin : Hid (GetRet w n (.returned (.tuple #[.agg #[.bool false,.slice Ac n.cells.length cc,.slice Ak n.kids.length ck],.int .i64 0])) _):=hide ⟨.slice Ac n.cells.length cc,.slice Ak n.kids.length ck,by rw [<- hlf.out],hown9,hB9⟩
         refine bodyPost_ret (v:=.tuple #[.agg #[.bool false,.slice Ac n.cells.length cc,.slice Ak n.kids.length ck],.int .i64 0]) ?_ rfl hfin.out
         have hbf:=(((rs.out.drewN nq).set_ 0 (.bool false)).set_ 1 (.slice Ac n.cells.length cc)).set_ 2 (.slice Ak n.kids.length ck)
         obtain ⟨Wf,hWf⟩ : ∃ Wf,Wf=((((w7.drewN nq).setCell ⟨w.heap.size,0,none⟩ (.bool false)).setCell ⟨w.heap.size,1,none⟩ (.slice Ac n.cells.length cc)).setCell ⟨w.heap.size,2,none⟩ (.slice Ak n.kids.length ck)):=⟨_,rfl⟩
         rw [<- hWf] at hbf ⊢
         have j0:=hbf.cell 0
         have j1:=hbf.cell 1
         have j2:=hbf.cell 2
         have j0' : Wf.cell? ⟨w.heap.size,0,none⟩=some (.bool false):=j0
         have j1' : Wf.cell? ⟨w.heap.size,1,none⟩=some (.slice Ac n.cells.length cc):=j1
         have j2' : Wf.cell? ⟨w.heap.size,2,none⟩=some (.slice Ak n.kids.length ck):=j2
         clear j0 j1 j2
         simp [results,Tryz.results82,go_sem,j0',j1',j2']
       · have hcN : N = p /\ c = p := by omega
         obtain ⟨hc1,hc2⟩:=hcN
         have htr : Hid (∀ wz : World,Below wr.heap.size wr wz->Calls Tryz.prog 132 #[.slice A 0 0,.string { data:=#[0] }] wz fun e w' => e=.returned (.slice none 0 0)/\∃ q,w'=wz.drewN q):=hide fun wz hz => trim_any wz 0 0 0 A ⟨by simp [bv,zeroB],fun h => absurd h (by omega)⟩ (by omega) (by omega)
         subst hc1
         subst hc2
         have hneq : ∀ wz : World,(binOp .neq 37 (.slice none 0 0) (.slice none 0 0)).run Tryz.prog wz=.ok (.bool false) wz:=fun wz => by kernel_rfl
         go_wp2_with (first
           | (go_at_call 87; refine hri.out.out.mono ?_; rintro e w7 ⟨rfl,hb7⟩; (have y0:=(hI.out.rdr.only (Only.of_below (S:=fun _ => False) hb7) (fun h => h) (fun _ _ h => h)).blk.cell 0); (have y1:=(hI.out.rdr.only (Only.of_below (S:=fun _ => False) hb7) (fun h => h) (fun _ _ h => h)).blk.cell 1);
              (have z0 : w7.cell? ⟨gn,0,none⟩=some (.bool false):=(hb7.cell (p:=⟨gn,0,none⟩) (Blk.lt hI.out.nod)).trans r0); (have z1:=(hI.out.nod.below hb7 (Blk.lt hI.out.nod)).cell 1); (have z2:=(hI.out.nod.below hb7 (Blk.lt hI.out.nod)).cell 2);
              (have rs:=hI.out.res.below hb7 (Blk.lt hI.out.res)); (have o0:=rs.cell 0); (have o1:=rs.cell 1); (have o2:=rs.cell 2); (have u0:=rs.frozen 0); (have u1:=rs.frozen 1); (have u2:=rs.frozen 2);
              replace rs:=hide rs; replace hb7:=hide hb7)
           | (go_at_call 132; refine (htr.out _ hb7.out).mono ?_; rintro e w8 ⟨rfl,nq,rfl⟩))
         have hB9 : Below w.heap.size w ((((w7.drewN nq).setCell ⟨w.heap.size,0,none⟩ (.bool false)).setCell ⟨w.heap.size,1,none⟩ (.slice Ac n.cells.length cc)).setCell ⟨w.heap.size,2,none⟩ (.slice Ak n.kids.length ck)) :=
           ((((below_drewN (hI.out.bel.trans (hb7.out.mono hI.out.bel.size)) nq).setCell (p:=⟨w.heap.size,0,none⟩) (Nat.le_refl _) _).setCell (p:=⟨w.heap.size,1,none⟩) (Nat.le_refl _) _).setCell (p:=⟨w.heap.size,2,none⟩) (Nat.le_refl _) _)
         have hown9 : NodeOwn ((((w7.drewN nq).setCell ⟨w.heap.size,0,none⟩ (.bool false)).setCell ⟨w.heap.size,1,none⟩ (.slice Ac n.cells.length cc)).setCell ⟨w.heap.size,2,none⟩ (.slice Ak n.kids.length ck)) w.heap.size (.slice Ac n.cells.length cc) (.slice Ak n.kids.length ck) n:=by
           have e1 : Only (fun j => j=w.heap.size) wr ((((w7.drewN nq).setCell ⟨w.heap.size,0,none⟩ (.bool false)).setCell ⟨w.heap.size,1,none⟩ (.slice Ac n.cells.length cc)).setCell ⟨w.heap.size,2,none⟩ (.slice Ak n.kids.length ck)) :=
             (((((Only.of_below (S:=fun j => j=w.heap.size) hb7.out).drewN nq).setCell (p:=⟨w.heap.size,0,none⟩) (fun _ => rfl) _).setCell (p:=⟨w.heap.size,1,none⟩) (fun _ => rfl) _).setCell (p:=⟨w.heap.size,2,none⟩) (fun _ => rfl) _)
           exact hown.out.only e1 fun k hk => by subst hk; exact ⟨_,_,hI.out.res,by decide,by decide,by decide⟩
         have hfin : Hid (GetRet w n (.returned (.tuple #[.agg #[.bool false,.slice Ac n.cells.length cc,.slice Ak n.kids.length ck],.int .i64 0])) _):=hide ⟨.slice Ac n.cells.length cc,.slice Ak n.kids.length ck,by rw [<- hlf.out],hown9,hB9⟩
         refine bodyPost_ret (v:=.tuple #[.agg #[.bool false,.slice Ac n.cells.length cc,.slice Ak n.kids.length ck],.int .i64 0]) ?_ rfl hfin.out
         have hbf:=(((rs.out.drewN nq).set_ 0 (.bool false)).set_ 1 (.slice Ac n.cells.length cc)).set_ 2 (.slice Ak n.kids.length ck)
         obtain ⟨Wf,hWf⟩ : ∃ Wf,Wf=((((w7.drewN nq).setCell ⟨w.heap.size,0,none⟩ (.bool false)).setCell ⟨w.heap.size,1,none⟩ (.slice Ac n.cells.length cc)).setCell ⟨w.heap.size,2,none⟩ (.slice Ak n.kids.length ck)):=⟨_,rfl⟩
         rw [<- hWf] at hbf ⊢
         have j0:=hbf.cell 0
         have j1:=hbf.cell 1
         have j2:=hbf.cell 2
         have j0' : Wf.cell? ⟨w.heap.size,0,none⟩=some (.bool false):=j0
         have j1' : Wf.cell? ⟨w.heap.size,1,none⟩=some (.slice Ac n.cells.length cc):=j1
         have j2' : Wf.cell? ⟨w.heap.size,2,none⟩=some (.slice Ak n.kids.length ck):=j2
         clear j0 j1 j2
         simp [results,Tryz.results82,go_sem,j0',j1',j2']
theorem get_any (w : World) (A : Option Addr) (N c : Nat) (n : NodeP) (z : Nat) (hr : RightP n) (hb : RB w w.heap.size A N (packP n ++ zeroB z)) (hnc : N<=c) (hN : N<=100000) : Calls Tryz.prog 82 #[.slice A N c] w (GetRet w n):=by
 cases h : n.leaf with
 | true => exact get_leaf w A N c n z hr h hb hnc hN
 | false => exact get_inner w A N c n z hr h hb hnc hN
end Go.Proofs.YtiiljlmeililbaaGreatDoor
namespace Go.Proofs.YtiiljlmeililbaaGreatDoor
set_option linter.unusedVariables false
set_option maxRecDepth 100000
open Go.RowKit Go.Maps
structure TreeAt (w : World) (F : Nat->Prop) (gt gp k : Nat) : Prop where
 blk : Blk w gt 81 #[.pointer (some ⟨gp,0,none⟩),.int .i64 (k : Int)]
 out : ¬ F gt
theorem TreeAt.ev {w w' : World} {F F' : Nat->Prop} {gt gp k : Nat} (h : TreeAt w F gt gp k) (he : Ev F w F' w') : TreeAt w' F' gt gp k:=⟨he.blk h.blk h.out,he.new h.out (Blk.lt h.blk)⟩
theorem tnew_any (w : World) (gp k : Nat) (hk : k < 8) : Calls Tryz.prog 9 #[.pointer (some ⟨gp,0,none⟩),.int .i64 (k : Int)] w fun e w' => e=.returned (.tuple #[.pointer (some ⟨w.heap.size,0,none⟩),.int .i64 0])/\w'=w.alloc (.cells #[.pointer (some ⟨gp,0,none⟩),.int .i64 (k : Int)] 81):=by
 have hkI : (k : Int) < 8:=by omega
 have hk0 : (0 : Int)<=(k : Int):=by omega
 go_enter Tryz.func9,Tryz.ntmps9
 go_wp2_with fail
 go_ret2
 exact ⟨rfl,rfl⟩
def LoadEnd (F : Nat->Prop) (w : World) (gp : Nat) (st : PgS) (n : NodeP) (e : Ending) (w' : World) : Prop :=
 ∃ F' cv kv B0,e=.returned (.tuple #[.agg #[.bool n.leaf,cv,kv],.int .i64 0])/\PgAt w' F' gp st/\Ev F w F' w'/\(∀ j,F' j->j < B0)/\w.heap.size<=B0/\NodeOwn w' B0 cv kv n
set_option maxHeartbeats 1000000 in
theorem load_gen (w : World) (F : Nat->Prop) (gt gp k : Nat) (st : PgS) (h : PgAt w F gp st) (ht : TreeAt w F gt gp k) (no : Nat) (n : NodeP) (hl : LoadR st no n) :
   Calls Tryz.prog 45 #[.pointer (some ⟨gt,0,none⟩),.int .i64 (no : Int)] w (LoadEnd F w gp st n):=by
 have hgt:=Blk.lt ht.blk
 have hB0:=(Below.refl w.heap.size w).alloc (Nat.le_refl _) (.cells #[.bool false,.slice none 0 0,.slice none 0 0] 89)
 have hP1:=h.alloc (.cells #[.bool false,.slice none 0 0,.slice none 0 0] 89)
 have hS1:=Blk.new w 89 #[.bool false,.slice none 0 0,.slice none 0 0]
 have t0 : w.cell? ⟨gt,0,none⟩=some (.pointer (some ⟨gp,0,none⟩)):=ht.blk.cell 0
 have hrd:=hide (read_any _ F gp st hP1 no hl.1)
 have hFw:=h.lt
 obtain ⟨hright,z,hpage⟩:=hl.2
 obtain ⟨lf,hlf⟩ : ∃ lf,lf=n.leaf:=⟨_,rfl⟩
 unfold LoadEnd
 rw [<- hlf]
 replace h:=hide h
 replace ht:=hide ht
 replace hl:=hide hl
 replace hP1:=hide hP1
 replace hS1:=hide hS1
 replace hB0:=hide hB0
 replace hpage:=hide hpage
 replace hright:=hide hright
 replace hFw:=hide hFw
 replace hlf:=hide hlf
 go_enter Tryz.func45,Tryz.ntmps45
 go_wp2_with fail
 refine hrd.out.mono ?_
 rintro e w2 ⟨F2,A2,c2,rfl,hc2,hP2,hE2,hM2⟩
 have hrb:=hM2.rb
 rw [hpage.out] at hrb
 have hgg:=hide (get_any w2 A2 508 c2 n z hright.out hrb hc2 (by omega))
 have hnF : ¬ F w.heap.size:=fun hf => by have:=hFw.out _ hf; omega
 have hS2:=hide (hE2.blk hS1.out hnF)
 replace hP2:=hide hP2
 replace hE2:=hide hE2
 replace hM2:=hide hM2
 replace hrb:=hide hrb
 go_wp2_with fail
 refine hgg.out.mono ?_
 rintro e w3 ⟨cv,kv,rfl,hO3,hB3⟩
 rw [<- hlf.out]
 have hS3:=hS2.out.below hB3 (Blk.lt hS2.out)
 have f0:=hS3.frozen 0
 have f1:=hS3.frozen 1
 have f2:=hS3.frozen 2
 have o0:=hS3.cell 0
 have o1:=hS3.cell 1
 have o2:=hS3.cell 2
 have hsl : ∀ {e : TypeId} {size m : Nat} {v : Value} {xs : List Value} {B : Nat},w3.ownsRow B e size v m xs->∃ A c,v=.slice A m c:=by
   intro e size m v xs B h
   rcases h.2 with ⟨rfl,rfl⟩ | ⟨g,cap,cur,rfl,_⟩
   · exact ⟨none,0,rfl⟩
   · exact ⟨_,_,rfl⟩
 obtain ⟨rows,_,hro,_⟩:=hO3.rows
 obtain ⟨Ac,cc,rfl⟩:=hsl hro
 obtain ⟨Ak,ck,rfl⟩:=hsl hO3.kids
 have hE3:=hE2.out.below hB3
 have hEw : Ev F w F2 w3:=(((Ev.refl F w).alloc_ (.cells #[.bool false,.slice none 0 0,.slice none 0 0] 89)).trans hE3)
 have hfin : Hid (∀ W,W=(((w3.setCell ⟨w.heap.size,0,none⟩ (.bool lf)).setCell ⟨w.heap.size,1,none⟩ (.slice Ac n.cells.length cc)).setCell ⟨w.heap.size,2,none⟩ (.slice Ak n.kids.length ck))->∃ F' cv kv B0,Ending.returned (.tuple #[.agg #[.bool lf,.slice Ac n.cells.length cc,.slice Ak n.kids.length ck],.int .i64 0])=Ending.returned (.tuple #[.agg #[.bool lf,cv,kv],.int .i64 0])/\PgAt W F' gp st/\Ev F w F' W/\(∀ j,F' j->j < B0)/\w.heap.size<=B0/\NodeOwn W B0 cv kv n):=hide (by
   rintro W rfl
   have hn2 : ¬ F2 w.heap.size:=hE2.out.new hnF (by simp)
   have hO : Only (fun j => j=w.heap.size) w3 _:=(((Only.refl (fun j => j=w.heap.size) w3).setCell (p:=⟨w.heap.size,0,none⟩) (fun _ => rfl) (.bool lf)).setCell (p:=⟨w.heap.size,1,none⟩) (fun _ => rfl) (.slice Ac n.cells.length cc)).setCell (p:=⟨w.heap.size,2,none⟩) (fun _ => rfl) (.slice Ak n.kids.length ck)
   refine ⟨F2,_,_,w2.heap.size,rfl,?_,?_,hP2.out.lt,?_,hO3.only hO fun j hj => by subst hj; exact ⟨_,_,hS3,by decide,by decide,by decide⟩⟩
   · exact (((hP2.out.below hB3).set_ (p:=⟨w.heap.size,0,none⟩) hn2 _).set_ (p:=⟨w.heap.size,1,none⟩) hn2 _).set_ (p:=⟨w.heap.size,2,none⟩) hn2 _
   · exact ⟨hEw.only.trans hO (fun i hi e => by omega),hEw.grow⟩
   · have:=hE2.out.size; simp at this; omega)
 have hbf:=((hS3.set_ 0 (.bool lf)).set_ 1 (.slice Ac n.cells.length cc)).set_ 2 (.slice Ak n.kids.length ck)
 replace hS3:=hide hS3
 replace hO3:=hide hO3
 replace hB3:=hide hB3
 replace hE3:=hide hE3
 replace hEw:=hide hEw
 replace hro:=hide hro
 replace hbf:=hide hbf
 clear hgg hrd
 go_wp2_with fail
 refine bodyPost_ret (v:=.tuple #[.agg #[.bool lf,.slice Ac n.cells.length cc,.slice Ak n.kids.length ck],.int .i64 0]) ?_ rfl (hfin.out _ rfl)
 have hbf:=hbf.out
 obtain ⟨Wf,hWf⟩ : ∃ Wf,Wf=(((w3.setCell ⟨w.heap.size,0,none⟩ (.bool lf)).setCell ⟨w.heap.size,1,none⟩ (.slice Ac n.cells.length cc)).setCell ⟨w.heap.size,2,none⟩ (.slice Ak n.kids.length ck)):=⟨_,rfl⟩
 rw [<- hWf] at hbf ⊢
 have j0 : Wf.cell? ⟨w.heap.size,0,none⟩=some (.bool lf):=hbf.cell 0
 have j1 : Wf.cell? ⟨w.heap.size,1,none⟩=some (.slice Ac n.cells.length cc):=hbf.cell 1
 have j2 : Wf.cell? ⟨w.heap.size,2,none⟩=some (.slice Ak n.kids.length ck):=hbf.cell 2
 simp [results,Tryz.results45,go_sem,j0,j1,j2]
theorem NodeM.old {G : Nat->Prop} {w : World} {v : Value} {n : NodeP} (h : NodeM G w v n) (hG : ∀ k,G k->k < w.heap.size) : NodeM (Old w) w v n:=h.mono hG
theorem save_any (w : World) (F : Nat->Prop) (gt gp k : Nat) (st : PgS) (h : PgAt w F gp st) (ht : TreeAt w F gt gp k) (no : Nat) (n : NodeP) (v : Value) (hn : NodeM (Mine F w) w v n) (hc : CanSave st no n) :
   Calls Tryz.prog 71 #[.pointer (some ⟨gt,0,none⟩),.int .i64 (no : Int),v] w (PgEnd F w gp (saveS st no n) (.int .i64 0)):=by
 obtain ⟨A,c,B,d,rfl⟩:=hn.box
 obtain ⟨lf,hlf⟩ : ∃ lf,lf=n.leaf:=⟨_,rfl⟩
 obtain ⟨M,hM⟩ : ∃ M,M=n.cells.length:=⟨_,rfl⟩
 obtain ⟨K,hK⟩ : ∃ K,K=n.kids.length:=⟨_,rfl⟩
 rw [<- hlf,<- hM,<- hK] at hn ⊢
 have hB0:=(Below.refl w.heap.size w).alloc (Nat.le_refl _) (.cells #[.bool lf,.slice A M c,.slice B K d] 89)
 have hnp:=hide (nput_any _ _ n ((hn.old fun k hk => hk.1).below hB0) hc.2.1 hc.2.2)
 have t0 : w.cell? ⟨gt,0,none⟩=some (.pointer (some ⟨gp,0,none⟩)):=ht.blk.cell 0
 have hgt:=Blk.lt ht.blk
 have hP1:=h.alloc (.cells #[.bool lf,.slice A M c,.slice B K d] 89)
 have hzp : (packP n).length<=508:=by rw [packP_len]; exact hc.2.2
 replace h:=hide h
 replace ht:=hide ht
 replace hn:=hide hn
 replace hlf:=hide hlf
 replace hM:=hide hM
 replace hK:=hide hK
 replace hP1:=hide hP1
 replace hB0:=hide hB0
 replace hc:=hide hc
 go_enter Tryz.func71,Tryz.ntmps71
 go_wp2_with fail
 refine hnp.out.mono ?_
 rintro e w2 ⟨v2,rfl,hO2,hB2⟩
 have hP2:=hP1.out.below hB2
 have hB2w:=hB0.out.trans (hB2.mono hB0.out.size)
 obtain ⟨L,hL⟩ : ∃ L,L=(packP n).length:=⟨_,rfl⟩
 rw [<- hL] at hO2 hzp
 obtain ⟨A2,c2,rfl,hr2,_⟩:=hO2.form
 have hwr:=hide (write_any w2 F gp st hP2 no hc.out.1 A2 L c2 (packP n) hr2 hzp)
 have y0 : w2.cell? ⟨gt,0,none⟩=some (.pointer (some ⟨gp,0,none⟩)):=(hB2w.cell (p:=⟨gt,0,none⟩) hgt).trans t0
 replace hL:=hide hL
 replace hO2:=hide hO2
 replace hB2:=hide hB2
 replace hP2:=hide hP2
 replace hr2:=hide hr2
 replace hB2w:=hide hB2w
 go_wp2_with fail
 refine hwr.out.mono ?_
 rintro e w3 ⟨rfl,F',hP',hE'⟩
 replace hP':=hide hP'
 replace hE':=hide hE'
 go_wp2_with fail
 go_ret
 exact ⟨rfl,F',hP'.out,(Ev.of_below hB2w.out).trans hE'.out⟩
theorem make_any (w : World) (F : Nat->Prop) (gt gp k : Nat) (st : PgS) (h : PgAt w F gp st) (ht : TreeAt w F gt gp k) (n : NodeP) (v : Value) (hn : NodeM (Mine F w) w v n) (ha : CanAlloc st) (hf : st.free < st.many) (hc : CanSave (allocS st) (allocN st) n) :
   Calls Tryz.prog 36 #[.pointer (some ⟨gt,0,none⟩),v] w (PgEnd F w gp (saveS (allocS st) (allocN st) n) (.tuple #[.int .i64 (allocN st : Int),.int .i64 0])):=by
 obtain ⟨A,c,B,d,rfl⟩:=hn.box
 obtain ⟨lf,hlf⟩ : ∃ lf,lf=n.leaf:=⟨_,rfl⟩
 obtain ⟨M,hM⟩ : ∃ M,M=n.cells.length:=⟨_,rfl⟩
 obtain ⟨K,hK⟩ : ∃ K,K=n.kids.length:=⟨_,rfl⟩
 rw [<- hlf,<- hM,<- hK] at hn ⊢
 have hE0 : Ev F w F (w.alloc (.cells #[.bool lf,.slice A M c,.slice B K d] 89)):=(Ev.refl F w).alloc_ _
 have hb0:=Blk.new w 89 #[.bool lf,.slice A M c,.slice B K d]
 have hFw:=h.lt
 have hnF : ¬ F w.heap.size:=fun hf => by have:=hFw _ hf; omega
 have t0 : w.cell? ⟨gt,0,none⟩=some (.pointer (some ⟨gp,0,none⟩)):=ht.blk.cell 0
 have hgt:=Blk.lt ht.blk
 have hP1:=h.alloc (.cells #[.bool lf,.slice A M c,.slice B K d] 89)
 have hal:=hide (alloc_any _ F gp st hP1 ha hf)
 have ht1:=ht.ev hE0
 have hn1:=hn.ev hE0
 obtain ⟨no,hno⟩ : ∃ no,no=allocN st:=⟨_,rfl⟩
 unfold AllocEnd at hal
 rw [<- hno] at hc hal ⊢
 replace h:=hide h
 replace ht:=hide ht
 replace hn:=hide hn
 replace hlf:=hide hlf
 replace hM:=hide hM
 replace hK:=hide hK
 replace hP1:=hide hP1
 replace hE0:=hide hE0
 replace hc:=hide hc
 replace hno:=hide hno
 replace hb0:=hide hb0
 replace ht1:=hide ht1
 replace hn1:=hide hn1
 replace hFw:=hide hFw
 go_enter Tryz.func36,Tryz.ntmps36
 go_wp2_with fail
 refine hal.out.mono ?_
 rintro e w2 ⟨rfl,F2,hP2,hE2⟩
 have hb2:=hE2.blk hb0.out hnF
 have c0:=hb2.cell 0
 have c1:=hb2.cell 1
 have c2:=hb2.cell 2
 have hsv:=hide (save_any w2 F2 gt gp k (allocS st) hP2 (ht1.out.ev hE2) no n _ (hn1.out.ev hE2) hc.out)
 replace hP2:=hide hP2
 replace hE2:=hide hE2
 replace hb2:=hide hb2
 go_wp2_with fail
 refine hsv.out.mono ?_
 rintro e w3 ⟨rfl,F',hP',hE'⟩
 replace hP':=hide hP'
 replace hE':=hide hE'
 go_wp2_with fail
 go_ret2
 exact ⟨rfl,F',hP'.out,(hE0.out.trans hE2.out).trans hE'.out⟩
theorem load_any (w : World) (F : Nat->Prop) (gt gp k : Nat) (st : PgS) (h : PgAt w F gp st) (ht : TreeAt w F gt gp k) (no : Nat) (n : NodeP) (hl : LoadR st no n) (hleaf : n.leaf=true) :
   Calls Tryz.prog 45 #[.pointer (some ⟨gt,0,none⟩),.int .i64 (no : Int)] w (LoadEnd F w gp st n):=load_gen w F gt gp k st h ht no n hl
end Go.Proofs.YtiiljlmeililbaaGreatDoor
namespace Go.Proofs.YtiiljlmeililbaaGreatDoor
set_option linter.unusedVariables false
set_option maxRecDepth 100000
open Go.RowKit
def FromV (G : Nat->Prop) (w : World) (v : Value) (lo : KeyB) : Prop:=∃ A n c,v=.slice A n c/\n=lo.length/\Rd G w 1 A n (bv lo)
def ToV (G : Nat->Prop) (w : World) (v : Value) (hi : Option KeyB) : Prop :=
 match hi with
 | none => v=.slice none 0 0
 | some t => ∃ ad n c,v=.slice (some ad) n c/\n=t.length/\Rd G w 1 (some ad) n (bv t)
theorem FromV.ev {F F' : Nat->Prop} {w w' : World} {v : Value} {lo : KeyB} (h : FromV (Mine F w) w v lo) (he : Ev F w F' w') : FromV (Mine F' w') w' v lo:=by
 obtain ⟨A,n,c,e,hn,hr⟩:=h
 exact ⟨A,n,c,e,hn,hr.ev he⟩
theorem ToV.ev {F F' : Nat->Prop} {w w' : World} {v : Value} {hi : Option KeyB} (h : ToV (Mine F w) w v hi) (he : Ev F w F' w') : ToV (Mine F' w') w' v hi:=by
 cases hi with
 | none => exact h
 | some t =>
   obtain ⟨ad,n,c,e,hn,hr⟩:=h
   exact ⟨ad,n,c,e,hn,hr.ev he⟩
theorem run_neq_nil (w : World) (a : Option Addr) (n c : Nat) : (binOp .neq 37 (.slice a n c) (.slice none 0 0)).run Tryz.prog w=.ok (.bool (!a.isNone)) w:=by
 simp only [binOp]
 simp [Op.equal,Op.maxDepth,Lib.run_equalIn_slice_nil w 9999 37 5 a n c 0 0 Tryz.underlying37]
theorem inB_lo {lo x : KeyB} {hi : Option KeyB} (h : inB lo hi x) : decide (Lib.compareBytes x lo < 0)=false:=by rw [cmp_lt,h.1]
theorem inB_hi {lo x t : KeyB} (h : inB lo (some t) x) : decide (0<=Lib.compareBytes x t)=false:=by rw [cmp_ge,h.2 t rfl]; rfl
set_option maxHeartbeats 2000000 in
theorem chk1_any (w : World) (F : Nat->Prop) (gh H : Nat) (hb : Blk w gh 3 #[.int .i64 (H : Int)]) (no deep : Nat) (n : NodeP) (v fv tv : Value) (lo : KeyB) (hi : Option KeyB) (hn : NodeM (Mine F w) w v n) (hr : RightP n) (hz : sizeP n<=100000) (hleaf : n.leaf=decide (deep=H))
   (hthin : 1 < deep->127<=sizeP n) (hne : n.cells ≠ []) (hkeys : ∀ c ∈ n.cells,inB lo hi c.key) (hf : FromV (Mine F w) w fv lo) (ht : ToV (Mine F w) w tv hi) (hd : deep<=100000) :
   Calls Tryz.prog 49 #[.int .i64 (no : Int),.int .i64 (deep : Int),v,fv,tv,.pointer (some ⟨gh,0,none⟩)] w fun e w' => e=.returned (.int .i64 0)/\Below w.heap.size w w':=by
 obtain ⟨A,c,B,d,rfl,hc,hd2,hcs,hks⟩:=hn
 have hn : NodeM (Mine F w) w (.agg #[.bool n.leaf,.slice A n.cells.length c,.slice B n.kids.length d]) n:=⟨A,c,B,d,rfl,hc,hd2,hcs,hks⟩
 obtain ⟨fA,fl,fc,rfl,hfl,hfr⟩:=hf
 obtain ⟨N,hN⟩ : ∃ N,N=n.cells.length:=⟨_,rfl⟩
 obtain ⟨K,hK⟩ : ∃ K,K=n.kids.length:=⟨_,rfl⟩
 obtain ⟨lf,hlf⟩ : ∃ lf,lf=n.leaf:=⟨_,rfl⟩
 obtain ⟨Z,hZ⟩ : ∃ Z,Z=sizeP n:=⟨_,rfl⟩
 have hNpos : 0 < N:=by rw [hN]; exact List.length_pos_iff.2 hne
 have hN0 : ((N : Int) == 0)=false:=by rw [beq_eq_false_iff_ne]; omega
 have hNm : (N : Int)<=65536:=by have:=hr.many; omega
 rw [<- hN] at hc
 have hcI : (N : Int)<=(c : Int):=by omega
 obtain ⟨o,ho⟩ : ∃ o,o=Obj.cells #[.bool lf,.slice A N c,.slice B K d] 89 (0,0):=⟨_,rfl⟩
 obtain ⟨W,hW⟩ : ∃ W,W=w.alloc o:=⟨_,rfl⟩
 have hE : Ev F w F W:=by rw [hW]; exact (Ev.refl F w).alloc_ o
 have hB : Below w.heap.size w W:=by rw [hW]; exact (Below.refl _ _).alloc (Nat.le_refl _) o
 have hbn : Blk W w.heap.size 89 #[.bool lf,.slice A N c,.slice B K d]:=by rw [hW,ho]; exact Blk.new w 89 _
 have hbh : Blk W gh 3 #[.int .i64 (H : Int)]:=by rw [hW]; exact hb.alloc o
 have hsz:=hide (size_any W _ n ((hn.ev hE).old fun k hk => hk.1) hr hz)
 rw [<- hlf,<- hN,<- hK,<- hZ] at hsz
 have hcsW:=hcs.keep (G':=Mine F W) (w':=W) fun k hk => ⟨hE.mine hk,hE.block hk⟩
 have hfrW : Rd (Mine F W) W 1 fA fl (bv lo):=hfr.ev hE
 have htW:=ht.ev hE
 have n0:=hbn.cell 0
 have n1:=hbn.cell 1
 have n2:=hbn.cell 2
 have h0:=hbh.cell 0
 have hlfd : lf=decide (deep=H):=hlf.trans hleaf
 have hdq : ((deep : Int) == (H : Int))=lf:=by
   rw [hlfd]
   by_cases h9 : deep=H
   · subst h9; simp
   · rw [decide_eq_false h9,beq_eq_false_iff_ne]; omega
 have hlne : (lf != lf)=false:=by cases lf <;> rfl
 rw [<- hlf,<- hN,<- hK]
 replace hZ:=hide hZ
 replace hN:=hide hN
 replace hK:=hide hK
 replace hlf:=hide hlf
 replace hlfd:=hide hlfd
 replace hcs:=hide hcs
 replace hks:=hide hks
 replace hn:=hide hn
 replace hb:=hide hb
 replace hr:=hide hr
 replace hE:=hide hE
 replace hB:=hide hB
 replace hbn:=hide hbn
 replace hbh:=hide hbh
 replace hcsW:=hide hcsW
 replace hfrW:=hide hfrW
 replace htW:=hide htW
 replace hfr:=hide hfr
 replace ht:=hide ht
 replace hkeys:=hide hkeys
 replace hfl:=hide hfl
 replace hleaf:=hide hleaf
 replace hne:=hide hne
 have hWl : w.alloc (.cells #[.bool lf,.slice A N c,.slice B K d] 89)=W:=by rw [hW,ho]
 replace hW:=hide hW
 replace ho:=hide ho
 replace hthin : Hid _:=hide hthin
 go_enter Tryz.func49,Tryz.ntmps49
 go_upto_region 1 with (fail)
 clear hWl
 go_cut [34] (fun v34 wx => v34=.bool false/\Hid (Below W.heap.size W wx))
 case first =>
   by_cases hdp : 1 < deep
   · have hd1 : decide (1 < (deep : Int)) = true := decide_eq_true (by omega)
     have hd1n : decide (1 < deep)=true:=decide_eq_true hdp
     have hz127 : decide ((Z : Int) < 127)=false:=decide_eq_false (by have:=hthin.out hdp; have:=hZ.out; omega)
     have hz127n : decide (Z < 127)=false:=decide_eq_false (by have:=hthin.out hdp; have:=hZ.out; omega)
     go_wp2_with fail
     go_at_call 50
     refine hsz.out.mono ?_
     rintro e w2 ⟨rfl,hB2⟩
     have hb2:=hbn.out.below hB2 (Blk.lt hbn.out)
     have m1:=hb2.cell 1
     have hB2':=hide hB2
     replace hb2:=hide hb2
     clear hB2 hsz
     go_wp2_with fail
     go_meet
     case rel => exact ⟨rfl,hB2'⟩
   · have hd1 : decide (1 < (deep : Int)) = false := decide_eq_false (by omega)
     have hd1n : decide (1 < deep)=false:=decide_eq_false hdp
     have hB2' : Hid (Below W.heap.size W W):=hide (Below.refl _ _)
     go_wp2_with fail
     go_meet
     case rel => exact ⟨rfl,hB2'⟩
 case rest =>
   obtain ⟨rfl,hB2⟩:=hcut
   have hb2:=hbn.out.below hB2.out (Blk.lt hbn.out)
   have m1:=hb2.cell 1
   replace hb2:=hide hb2
   clear n0 n1 n2 h0 hsz
   go_wp2_with fail
   go_loopw [38] (fun v38 wx => ∃ i : Nat,v38=.int .i64 (i : Int)/\i<=N/\Hid (Below W.heap.size W wx)) (fun v38 _ => N - (intOf v38).toNat)
   case atStart => exact ⟨0,rfl,by omega,hB2⟩
   case round =>
     obtain ⟨i,rfl,hiN,hBr⟩:=hrel
     clear hb2 m1
     by_cases hlt : i < N
     · have hlk : i < n.cells.length := by rw [<- hN.out]; exact hlt
       have hEr : Ev F W F wr:=Ev.of_below hBr.out
       have hcsr:=hcsW.out.keep (G':=Mine F wr) (w':=wr) fun k hk => ⟨hEr.mine hk,hEr.block hk⟩
       obtain ⟨ad,kA,vA,kc,vc,rfl,hh⟩:=hcsr.at_ i hlk
       obtain ⟨x,hx⟩ : ∃ x,x=n.cells[i]:=⟨_,rfl⟩
       have hin : inB lo hi x.key:=by rw [hx]; exact hkeys.out _ (List.getElem_mem hlk)
       rw [<- hx] at hh
       have x0:=hh.c0
       have x1:=hh.c1
       have x2:=hh.c2
       have x3:=hh.c3
       obtain ⟨KL,hKL⟩ : ∃ z,z=x.key.length:=⟨_,rfl⟩
       obtain ⟨VL,hVL⟩ : ∃ z,z=x.val.length:=⟨_,rfl⟩
       obtain ⟨OV,hOV⟩ : ∃ z,z=x.over:=⟨_,rfl⟩
       obtain ⟨LG,hLG⟩ : ∃ z,z=x.long:=⟨_,rfl⟩
       have hkr:=hh.key
       rw [<- hKL] at x0 hkr
       rw [<- hVL] at x1
       rw [<- hOV] at x2
       rw [<- hLG] at x3
       obtain ⟨ob,hob⟩ : ∃ ob,ob=Obj.cells #[.slice kA KL kc,.slice vA VL vc,.int .i64 (OV : Int),.int .i64 (LG : Int)] 83 (0,0):=⟨_,rfl⟩
       obtain ⟨wq,hwq⟩ : ∃ wq,wq=wr.alloc ob:=⟨_,rfl⟩
       have hEq : Ev F wr F wq:=by rw [hwq]; exact (Ev.refl F wr).alloc_ _
       have hBq : Below W.heap.size W wq:=by rw [hwq]; exact hBr.out.alloc hBr.out.size _
       have hbq : Blk wq wr.heap.size 83 #[.slice kA KL kc,.slice vA VL vc,.int .i64 (OV : Int),.int .i64 (LG : Int)]:=by rw [hwq,hob]; exact Blk.new wr 83 _
       have hkq : Rd (Mine F wq) wq 1 kA KL (bv x.key):=hkr.ev hEq
       have hfq : Rd (Mine F wq) wq 1 fA fl (bv lo):=(hfrW.out.ev hEr).ev hEq
       have htq:=(htW.out.ev hEr).ev hEq
       have hc1:=hide (cmp_any wq wq.heap.size wq.heap.size kA fA KL kc fl fc x.key lo hkq.readsM hfq.readsM)
       obtain ⟨cb,hcb⟩ : ∃ cb,cb=Lib.compareBytes x.key lo:=⟨_,rfl⟩
       have hcb0 : ¬ cb < 0:=by have:=inB_lo hin; rw [<- hcb] at this; simpa using this
       rw [<- hcb] at hc1
       have q0:=hbq.cell 0
       have hrel : Hid (Below W.heap.size W wq):=hide hBq
       have hwqe : wr.alloc (.cells #[.slice kA KL kc,.slice vA VL vc,.int .i64 (OV : Int),.int .i64 (LG : Int)] 83)=wq:=by rw [hwq,hob]
       have hiI : (i : Int) < (N : Int):=by omega
       replace hcb:=hide hcb
       replace hEr:=hide hEr
       replace hcsr:=hide hcsr
       replace hh:=hide hh
       replace hx:=hide hx
       replace hkr:=hide hkr
       replace hKL:=hide hKL
       replace hVL:=hide hVL
       replace hOV:=hide hOV
       replace hLG:=hide hLG
       replace hob:=hide hob
       replace hwq:=hide hwq
       replace hEq:=hide hEq
       replace hBq:=hide hBq
       replace hbq:=hide hbq
       replace hfq:=hide hfq
       replace hlk:=hide hlk
       cases hi with
       | none =>
         obtain rfl : tv=.slice none 0 0:=ht.out
         have hnil:=fun wx => run_neq_nil wx none 0 0
         replace htq:=hide htq
         replace hkq:=hide hkq
         replace hin:=hide hin
         go_wp2_with fail
         go_at_call 51
         refine hc1.out.mono ?_
         rintro e w4 ⟨rfl,rfl⟩
         go_wp2_with fail
         go_roundw
         case rel => exact ⟨i + 1,by go_num,by omega,hrel⟩
         case measure => simp only [intOf]; omega
       | some t =>
         obtain ⟨td,tl,tc,rfl,htl,htr⟩:=htq
         have hc2:=hide (cmp_any wq wq.heap.size wq.heap.size kA (some td) KL kc tl tc x.key t hkq.readsM htr.readsM)
         obtain ⟨cb2,hcb2⟩ : ∃ cb2,cb2=Lib.compareBytes x.key t:=⟨_,rfl⟩
         have hcb3 : ¬ 0<=cb2:=by have:=inB_hi hin; rw [<- hcb2] at this; simpa using this
         rw [<- hcb2] at hc2
         have hnil:=fun wx => run_neq_nil wx (some td) tl tc
         replace hcb2:=hide hcb2
         replace htl:=hide htl
         replace htr:=hide htr
         replace hkq:=hide hkq
         replace hin:=hide hin
         go_wp2_with fail
         go_at_call 51
         refine hc1.out.mono ?_
         rintro e w4 ⟨rfl,rfl⟩
         go_wp2_with fail
         go_at_call 51
         refine hc2.out.mono ?_
         rintro e w5 ⟨rfl,rfl⟩
         go_wp2_with fail
         go_roundw
         case rel => exact ⟨i + 1,by go_num,by omega,hrel⟩
         case measure => simp only [intOf]; omega
     · obtain rfl : i = N := by omega
       have hdone:=hide (hB.out.trans (hBr.out.mono hB.out.size))
       go_wp2_with fail
       go_ret
       exact ⟨rfl,hdone.out⟩
end Go.Proofs.YtiiljlmeililbaaGreatDoor
