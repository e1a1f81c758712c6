/-
  Contract of node.pack at a node that is right.
-/
import Derived.Test.YtiiljlmeililbaaGreatDoorBeGr14
import Derived.Test.YtiiljlmeililbaaGreatDoorBeRunB
import Derived.Test.YtiiljlmeililbaaGreatDoorBeGr10
import Derived.Deep.RegionLaw
import Derived.Deep.RegionWith
import Derived.Test.YtiiljlmeililbaaGreatDoorBeGr3
namespace Go.Proofs.YtiiljlmeililbaaGreatDoor
set_option linter.unusedVariables false
set_option maxRecDepth 100000
open Go.RowKit
theorem preB_le (n : NodeP) (i : Nat) (hi : i<=n.cells.length) : (preB n i).length<=sizeP n:=by
 rw [<- packP_len]
 unfold preB packP
 have:=cellsB_append n.leaf (n.cells.take i) (n.cells.drop i) n.kids.tail
 rw [List.take_append_drop] at this
 rw [this,List.length_append,List.length_append,List.length_append]
 omega
theorem leBs_one (k x : Nat) : leBs k [x]=leB k x:=by simp [leBs]
theorem RB.old {w w' : World} {n : Nat} {A : Option Addr} {l : List UInt8} {B : Nat} (h : Rd (fun k => k < B) w 1 A n (bv l)) (hb : Below B w w') : RB w' B A n l:=RB.below (Rd.reads h fun k hk => hk) hb
theorem OB.lt_heap {w : World} {base n : Nat} {v : Value} {l : List UInt8} (h : OB w base v n l) {k : Nat} (hk : v.ownBlock=some k) : k < w.heap.size:=by
 rcases h.2 with ⟨rfl,_⟩ | ⟨g,cap,cur,rfl,_,hh,_⟩
 · simp [Value.ownBlock] at hk
 · have : g = k := by simpa [Value.ownBlock] using hk
   subst this
   exact Blk.lt (show Blk w g 5 cur from hh)
def Tr (w : World) (NB : Array Value) (wz : World) : Prop:=Below w.heap.size w wz/\Blk wz w.heap.size 89 NB
theorem Tr.alloc {w wz : World} {NB : Array Value} (h : Tr w NB wz) (o : Obj) : Tr w NB (wz.alloc o):=⟨h.1.alloc h.1.size o,h.2.alloc o⟩
theorem Tr.drew {w wz : World} {NB : Array Value} (h : Tr w NB wz) : Tr w NB wz.drew:=⟨h.1.drew,h.2.drew⟩
theorem Tr.then_ {w wz wy : World} {NB : Array Value} (h : Tr w NB wz) (hb : Below wz.heap.size wz wy) : Tr w NB wy:=⟨h.1.trans (hb.mono h.1.size),h.2.below hb (Blk.lt h.2)⟩
theorem wput_one (wz : World) (A : Option Addr) (N c k x g : Nat) (L : List UInt8) (t : TypeId) (hr : RB wz wz.heap.size A N L) (hb : Blk wz g t #[.int .i64 (x : Int)]) (hN : N<=10000000) (hk1 : 1<=k) (hk7 : k<=7) (hx : x < 9223372036854775808) (kk : Int) (hkk : kk=(k : Int)) :
   Calls Tryz.prog 70 #[.slice A N c,.int .i64 kk,.slice (some ⟨g,0,none⟩) 1 1] wz (BytesRet wz (L ++ leB k x)):=by
 subst hkk
 have h:=wput_any wz A (some ⟨g,0,none⟩) N c 1 1 k L [x] hr (RN.one_at hb) hN (by omega) hk1 hk7 (by simpa using hx)
 rw [leBs_one] at h
 exact h
theorem RB.allocs {w : World} {A : Option Addr} {n : Nat} {l : List UInt8} (h : RB w w.heap.size A n l) (o : Obj) : RB (w.alloc o) (w.alloc o).heap.size A n l:=(h.alloc (Nat.le_refl _) o).more (by simp)
def PackI (w : World) (n : NodeP) (i : Nat) (NB : Array Value) (v : Value) (wx : World) : Prop:=OB wx w.heap.size v (preB n i).length (preB n i)/\Below w.heap.size w wx/\Blk wx w.heap.size 89 NB
set_option maxHeartbeats 4000000 in
theorem pack_any (w : World) (v : Value) (n : NodeP) (hn : NodeM (Old w) w v n) (hr : RightP n) (hz : sizeP n<=100000) : Calls Tryz.prog 88 #[v] w (BytesRet w (packP n)):=by
 obtain ⟨A,c,B,d,rfl,hc,hd,hcs,hks⟩:=hn
 obtain ⟨M,hM⟩ : ∃ M,M=n.cells.length:=⟨_,rfl⟩
 obtain ⟨K,hK⟩ : ∃ K,K=n.kids.length:=⟨_,rfl⟩
 obtain ⟨lf,hlf⟩ : ∃ lf,lf=n.leaf:=⟨_,rfl⟩
 have hmany:=hr.many
 rw [<- hM,<- hK,<- hlf]
 rw [<- hM] at hc hmany
 have hki:=hr.kidsIn
 rw [<- hlf] at hki
 have hK2 : lf=false->K=M + 1:=fun h => by rw [hK,hki h,hM]
 have hkid : Hid (∀ j,j < K->∃ b o,B=some ⟨b,o,none⟩/\b < w.heap.size/\w.cell? ⟨b,o + j,none⟩=some (.int .i64 ((n.kids.getD j 0 : Nat) : Int))):=hide fun j hj => by
   have hjl : j < n.kids.length:=by omega
   obtain ⟨b,o,e,hb⟩:=hks.shape (by omega) (by omega)
   obtain ⟨ad,e2,_,hcell⟩:=hks.2 (by omega)
   rw [e] at e2
   cases e2
   have:=hcell j (.int .i64 ((n.kids.getD j 0 : Nat) : Int)) (by rw [List.getElem?_map,List.getElem?_eq_getElem hjl,List.getD_eq_getElem?_getD,List.getElem?_eq_getElem hjl]; rfl)
   have e3 : (Addr.mk b o none).add j=⟨b,o + j,none⟩:=by unfold Addr.add; split <;> simp_all
   rw [e3] at this
   exact ⟨b,o,e,hb,this⟩
 have hat : Hid (∀ i,i < M->∃ x ad kA vA kc vc,n.cells[i]?=some x/\x ∈ n.cells/\A=some ad/\CellHere (Old w) w (ad.add (i * 4)) x kA vA kc vc):=hide fun i hi => by
   have hil : i < n.cells.length:=by omega
   obtain ⟨ad,kA,vA,kc,vc,h1,h2⟩:=hcs.at_ i hil
   exact ⟨n.cells[i],ad,kA,vA,kc,vc,List.getElem?_eq_getElem hil,List.getElem_mem hil,h1,h2⟩
 have hpre : Hid (∀ i,i<=M->(preB n i).length<=100000):=hide fun i hi => by have:=preB_le n i (by omega); omega
 have hstep : Hid (∀ i x,n.cells[i]?=some x->preB n (i + 1)=preB n i ++ cellB n.leaf x (n.kids.getD (i + 1) 0)):=hide fun i x hx => by
   have h1:=List.getElem?_eq_some_iff.1 hx
   rw [preB_succ n i h1.1,h1.2]
 have hend : Hid (preB n M=packP n):=hide (by rw [hM]; exact preB_all n)
 have hbeg : Hid (preB n 0=headB n):=hide (preB_zero n)
 replace hr:=hide hr
 replace hM:=hide hM
 replace hK:=hide hK
 replace hlf:=hide hlf
 replace hcs:=hide hcs
 replace hks:=hide hks
 replace hmany:=hide hmany
 replace hz:=hide hz
 clear hki hd hc
 cases lf with
 | true =>
   have hput:=wput_any (((w.alloc (.cells #[.bool true,.slice A M c,.slice B K d] 89)).alloc (.cells #[.int .u8 1] 5)).alloc (.cells #[.int .i64 (M : Int)] 3)) (some ⟨w.heap.size + 1,0,none⟩) (some ⟨w.heap.size + 2,0,none⟩) 1 1 1 1 2 [1] [M]
     (RB.one_at (t:=5) (g:=w.heap.size + 1) (x:=1) (by have h:=(Blk.new (w.alloc (.cells #[.bool true,.slice A M c,.slice B K d] 89)) 5 #[.int .u8 1]).alloc (.cells #[.int .i64 (M : Int)] 3); simpa using h))
     (RN.one_at (t:=3) (g:=w.heap.size + 2) (by have h:=Blk.new ((w.alloc (.cells #[.bool true,.slice A M c,.slice B K d] 89)).alloc (.cells #[.int .u8 1] 5)) 3 #[.int .i64 (M : Int)]; simpa using h))
     (by omega) (by omega) (by omega) (by omega) (by simp; have:=hmany.out; omega)
   have hB0 : Hid (Below w.heap.size w (((w.alloc (.cells #[.bool true,.slice A M c,.slice B K d] 89)).alloc (.cells #[.int .u8 1] 5)).alloc (.cells #[.int .i64 (M : Int)] 3))):=hide ((((Below.refl _ _).alloc (Nat.le_refl _) _).alloc (by simp) _).alloc (by simp; omega) _)
   have hN0 : Hid (Blk (((w.alloc (.cells #[.bool true,.slice A M c,.slice B K d] 89)).alloc (.cells #[.int .u8 1] 5)).alloc (.cells #[.int .i64 (M : Int)] 3)) w.heap.size 89 #[.bool true,.slice A M c,.slice B K d]):=hide (((Blk.new _ _ _).alloc _).alloc _)
   replace hput:=hide hput
   have hh0 : Hid (headB n=[1] ++ leBs 2 [M]):=hide (by unfold headB; rw [<- hlf.out,leBs_one,<- hM.out]; simp)
   go_enter Tryz.func88,Tryz.ntmps88
   go_wp2_with fail
   refine hput.out.mono ?_
   rintro e w2 ⟨v2,rfl,hO2,hb2⟩
   have hS : Hid (PackI w n 0 #[.bool true,.slice A M c,.slice B K d] v2 w2):=hide ⟨by rw [hbeg.out,hh0.out]; exact hO2.more (by simp; omega),hB0.out.trans (hb2.mono (by simp; omega)),hN0.out.below hb2 (Blk.lt hN0.out)⟩
   have m0:=hS.out.2.2.cell 0
   have m1:=hS.out.2.2.cell 1
   have m2:=hS.out.2.2.cell 2
   replace hO2:=hide hO2
   replace hb2:=hide hb2
   go_wp2_with fail
   go_loopw [3,30] (fun v3 v30 wx => ∃ (i : Nat) (vb : Value),vb=v3/\v30=.int .i64 (i : Int)/\i<=M/\Hid (PackI w n i #[.bool true,.slice A M c,.slice B K d] vb wx)) (fun _ v30 _ => M - (intOf v30).toNat)
   case atStart => exact ⟨0,_,rfl,rfl,Nat.zero_le _,hS⟩
   case round =>
     obtain ⟨i,vb,rfl,rfl,hi,hI⟩:=hrel
     obtain ⟨hO,hbr,hnb⟩:=hI.out
     clear hI
     have n0:=hnb.cell 0
     have n1:=hnb.cell 1
     have n2:=hnb.cell 2
     replace hO:=hide hO
     replace hbr:=hide hbr
     replace hnb:=hide hnb
     rcases Nat.lt_or_ge i M with hlt | hge
     · have hIc : (i : Int) < (M : Int) := by omega
       have hiB : (i : Int)<=70000:=by have:=hmany.out; omega
       obtain ⟨x,ad,kA,vA,kc,vc,hx,hxm,eA,hh⟩:=hat.out i hlt
       have hw:=CellHere.below (B:=w.heap.size) hh hbr.out
       have hst:=hide (hstep.out i x hx)
       have hkey:=hr.out.keys x hxm
       have hval:=hr.out.vals x hxm
       rw [<- hlf.out] at hval
       have c0:=hw.c0
       have c1:=hw.c1
       have c2:=hw.c2
       have c3:=hw.c3
       have hkb:=hide hh.key
       have hvb:=hide hh.val
       obtain ⟨KB,hKB⟩ : ∃ KB : UInt8,KB=UInt8.ofNat x.key.length:=⟨_,rfl⟩
       have hcv : IntKind.u8.wrap (x.key.length : Int)=(KB.toNat : Int):=by rw [hKB,IntKind.wrap_u8,UInt8.toNat_ofNat']; omega
       obtain ⟨KL,hKL⟩ : ∃ KL,KL=x.key.length:=⟨_,rfl⟩
       obtain ⟨VL,hVL⟩ : ∃ VL,VL=x.val.length:=⟨_,rfl⟩
       obtain ⟨OV,hOV⟩ : ∃ OV,OV=x.over:=⟨_,rfl⟩
       obtain ⟨LG,hLG⟩ : ∃ LG,LG=x.long:=⟨_,rfl⟩
       rw [<- hKL] at c0 hkb hcv
       rw [<- hVL] at c1 hvb
       rw [<- hOV] at c2
       rw [<- hLG] at c3
       have hKLb : KL<=120:=by omega
       have hVLb : VL<=64:=by rw [hVL]; exact (by have h:=(by simpa using hval : CellOk x); rcases h with ⟨_,_,h⟩ | ⟨_,_,_,h⟩; exact h; simp [h])
       have hcz:=hide (show cellB true x (n.kids.getD (i + 1) 0)=KB :: (x.key ++ (if OV=0 then leB 2 VL ++ x.val else leB 2 LG ++ leB 3 OV)) by unfold cellB; rw [<- hKB,<- hVL,<- hOV,<- hLG]; simp)
       have hpl:=hide (hpre.out i hi)
       obtain ⟨PB,hPB⟩ : ∃ PB,PB=preB n i:=⟨_,rfl⟩
       rw [<- hPB] at hO hst hpl
       have hBC:=hide (hbr.out.alloc hbr.out.size (.cells #[.slice kA KL kc,.slice vA VL vc,.int .i64 (OV : Int),.int .i64 (LG : Int)] 83))
       have hNC:=hide (hnb.out.alloc (.cells #[.slice kA KL kc,.slice vA VL vc,.int .i64 (OV : Int),.int .i64 (LG : Int)] 83))
       have hOC:=hide (hO.out.alloc (.cells #[.slice kA KL kc,.slice vA VL vc,.int .i64 (OV : Int),.int .i64 (LG : Int)] 83))
       have hXC:=hide (Blk.new wr 83 #[.slice kA KL kc,.slice vA VL vc,.int .i64 (OV : Int),.int .i64 (LG : Int)])
       obtain ⟨WC,hWC⟩ : ∃ WC,WC=wr.alloc (.cells #[.slice kA KL kc,.slice vA VL vc,.int .i64 (OV : Int),.int .i64 (LG : Int)] 83):=⟨_,rfl⟩
       rw [<- hWC] at hBC hNC hOC hXC
       have hsz0:=hide hBC.out.size
       have hrb1 : RB (WC.drew.alloc (.cells #[.int .u8 (KB.toNat : Int)] 5)) _ (some ⟨WC.heap.size,0,none⟩) 1 [KB]:=RB.one_at (Blk.new WC.drew 5 #[.int .u8 (KB.toNat : Int)])
       obtain ⟨v4,w4,hrun1,hO4,hB4,hg4,_⟩:=run_app_bytes (WC.drew.alloc (.cells #[.int .u8 (KB.toNat : Int)] 5)) w.heap.size vb PB.length PB (hOC.out.drew.alloc _) _ _ 1 1 [KB] hrb1 37 (by have:=hpl.out; omega) (by have:=hsz0.out; simp; omega)
       have hxw : wr.heap.size < WC.heap.size:=hXC.out.lt
       have hnw : w.heap.size < WC.heap.size:=hNC.out.lt
       have hno3 : ∀ k,vb.ownBlock=some k->k < wr.heap.size:=fun k hk => OB.lt_heap hO.out hk
       have hX4 : Blk w4 wr.heap.size 83 #[.slice kA KL kc,.slice vA VL vc,.int .i64 (OV : Int),.int .i64 (LG : Int)]:=(hXC.out.drew.alloc _).grown hg4 (fun e => by have:=hno3 _ e.symm; omega)
       have hN4 : Blk w4 w.heap.size 89 #[.bool true,.slice A M c,.slice B K d]:=(hNC.out.drew.alloc _).grown hg4 (fun e => own_blk_ne hO.out hnb.out (by decide) e.symm)
       have hBw4 : Below w.heap.size w w4:=(hBC.out.drew.alloc (by have:=hsz0.out; simpa using this) _).trans hB4
       obtain ⟨v5,w5,hrun2,hO5,hB5,hg5,_⟩:=run_app_bytes w4 w.heap.size v4 _ _ hO4 w.heap.size kA KL kc x.key (RB.old hkb.out hBw4) 37 (by have:=hpl.out; omega) hBw4.size
       have hX5 : Blk w5 wr.heap.size 83 #[.slice kA KL kc,.slice vA VL vc,.int .i64 (OV : Int),.int .i64 (LG : Int)]:=hX4.grown hg5 (fun e => own_blk_ne hO4 hX4 (by decide) e.symm)
       have hN5 : Blk w5 w.heap.size 89 #[.bool true,.slice A M c,.slice B K d]:=hN4.grown hg5 (fun e => own_blk_ne hO4 hN4 (by decide) e.symm)
       have hBw5 : Below w.heap.size w w5:=hBw4.trans hB5
       have a0 : WC.cell? ⟨wr.heap.size,0,none⟩=some (.slice kA KL kc):=hXC.out.cell 0
       have a1 : (WC.alloc (.cells #[.int .u8 (KB.toNat : Int)] 5)).cell? ⟨wr.heap.size,0,none⟩=some (.slice kA KL kc):=(hXC.out.alloc (.cells #[.int .u8 (KB.toNat : Int)] 5)).cell 0
       have b0 : w4.cell? ⟨wr.heap.size,0,none⟩=some (.slice kA KL kc):=hX4.cell 0
       have f0:=hN5.cell 0
       have f1:=hN5.cell 1
       have f2:=hN5.cell 2
       have g1:=hX5.cell 1
       have g2:=hX5.cell 2
       have g3:=hX5.cell 3
       have hlt1 : Hid (WC=wr.alloc (.cells #[.slice kA KL kc,.slice vA VL vc,.int .i64 (OV : Int),.int .i64 (LG : Int)] 83)):=hWC
       replace hX4:=hide hX4
       replace hN4:=hide hN4
       replace hBw4:=hide hBw4
       replace hB4:=hide hB4
       replace hB5:=hide hB5
       replace hg4:=hide hg4
       replace hg5:=hide hg5
       replace hO4:=hide hO4
       replace hO5:=hide hO5
       replace hX5:=hide hX5
       replace hN5:=hide hN5
       replace hBw5:=hide hBw5
       replace hrb1:=hide hrb1
       replace hno3:=hide hno3
       replace hxw:=hide hxw
       replace hnw:=hide hnw
       replace hPB:=hide hPB
       replace hKB:=hide hKB
       replace hKL:=hide hKL
       replace hVL:=hide hVL
       replace hOV:=hide hOV
       replace hLG:=hide hLG
       replace hw:=hide hw
       replace hh:=hide hh
       replace hx:=hide hx
       replace hxm:=hide hxm
       replace hval:=hide hval
       replace hkey:=hide hkey
       replace hKLb:=hide hKLb
       replace hVLb:=hide hVLb
       subst eA
       replace hWC:=hide hWC
       clear hlt1
       go_upto_region 10 with (fail)
       rw [<- hWC.out]
       go_cut [3] (fun v wx => v=v5/\wx=w5)
       case first =>
         go_region_law (first | refine Lib.wp_append_run _ (.tmp 35) (.tmp 40) 37 37 rfl _ _ rfl rfl _ _ hrun1 ?_ | refine Lib.wp_append_run _ (.tmp 41) (.tmp 43) 37 37 rfl _ _ rfl rfl _ _ hrun2 ?_)
         all_goals go_wp2_with fail
         all_goals go_meet
         all_goals exact ⟨rfl,rfl⟩
       case rest =>
         obtain ⟨rfl,rfl⟩:=hcut
         clear hrun1 hrun2 a0 a1 b0
         have hsz5:=hide hBw5.out.size
         obtain ⟨A5,c5,rfl,hr5,_,_,_⟩:=hO5.out.form
         obtain ⟨N5,hN5e⟩ : ∃ N5,N5=PB.length + 1 + KL:=⟨_,rfl⟩
         obtain ⟨L5,hL5⟩ : ∃ L5,L5=PB ++ [KB] ++ x.key:=⟨_,rfl⟩
         rw [<- hN5e,<- hL5] at hr5
         have hN5b : Hid (N5<=100121):=hide (by have:=hpl.out; have:=hKLb.out; omega)
         have hfin : Hid (∀ (l : List UInt8) (u : Value) (m : Nat) (wx : World),OB wx w.heap.size u m (L5 ++ l)->l=(if OV=0 then leB 2 VL ++ x.val else leB 2 LG ++ leB 3 OV)->Below w.heap.size w wx->Blk wx w.heap.size 89 #[.bool true,.slice (some ad) M c,.slice B K d]->PackI w n (i + 1) #[.bool true,.slice (some ad) M c,.slice B K d] u wx):=hide fun l u m wx h1 h2 h3 h4 => by
           have e : preB n (i + 1)=L5 ++ l:=by rw [hst.out,<- hlf.out,hcz.out,h2,hL5]; simp
           refine ⟨?_,h3,h4⟩
           rw [e,h1.len]; exact h1
         replace hr5:=hide hr5
         replace hL5:=hide hL5
         rw [<- hN5e]
         replace hN5e:=hide hN5e
         rcases Nat.eq_zero_or_pos OV with h0 | h0
         · subst h0
           have hput:=wput_any (wc.drew.alloc (.cells #[.int .i64 (VL : Int)] 3)) A5 (some ⟨wc.heap.size,0,none⟩) N5 c5 1 1 2 L5 [VL] (((hr5.out.drew).alloc (Nat.le_refl _) _).more (by simp)) (RN.one_at (Blk.new wc.drew 3 #[.int .i64 (VL : Int)])) (by have:=hN5b.out; omega) (by omega) (by omega) (by omega) (by simp; have:=hVLb.out; omega)
           have e1 : (wc.alloc (.cells #[.int .i64 (VL : Int)] 3)).cell? ⟨wr.heap.size,1,none⟩=some (.slice vA VL vc):=(hX5.out.alloc (.cells #[.int .i64 (VL : Int)] 3)).cell 1
           have hB6:=hide (hBw5.out.drew.alloc (hBw5.out.size) (.cells #[.int .i64 (VL : Int)] 3))
           have hX6:=hide (hX5.out.drew.alloc (.cells #[.int .i64 (VL : Int)] 3))
           have hN6:=hide (hN5.out.drew.alloc (.cells #[.int .i64 (VL : Int)] 3))
           replace hput:=hide hput
           go_upto_region 15 with (fail)
           go_region_law (first
               | refine Lib.wp_append_run _ (.tmp 76) (.tmp 78) 37 37 rfl _ _ rfl rfl _ _ hrun3 ?_
               | (go_simp; go_at_call 70; refine hput.out.mono ?_; rintro e w7 ⟨v7,rfl,hO7,hb7⟩;
                  (obtain ⟨v8,w8,hrun3,hO8,hB8,hg8,_⟩:=run_app_bytes w7 w.heap.size v7 _ _ (hO7.more (by have:=hB6.out.size; exact this)) w.heap.size vA VL vc x.val (RB.old hvb.out (hB6.out.trans (hb7.mono hB6.out.size))) 37 (by simp [leBs_len]; have:=hr5.out.len; have:=hN5b.out; have:=hVLb.out; omega) (Nat.le_trans hB6.out.size hb7.size));
                  (have k1 : w7.cell? ⟨wr.heap.size,1,none⟩=some (.slice vA VL vc):=(hX6.out.below hb7 (Blk.lt hX6.out)).cell 1);
                  (have hdone:=hide (hfin.out (leB 2 VL ++ x.val) v8 _ w8 (by have h:=hO8; rw [leBs_one,List.append_assoc] at h; exact h) (by simp) ((hB6.out.trans (hb7.mono hB6.out.size)).trans hB8) ((hN6.out.below hb7 (Blk.lt hN6.out)).grown hg8 (fun e => own_blk_ne hO7 (hN6.out.below hb7 (Blk.lt hN6.out)) (by decide) e.symm))));
                  replace hO7:=hide hO7; replace hb7:=hide hb7; replace hO8:=hide hO8; replace hB8:=hide hB8; replace hg8:=hide hg8))
           all_goals
             go_wp2_with fail
             go_roundw
             case rel => exact ⟨i + 1,_,rfl,by simp,by omega,hdone⟩
             case measure => simp [intOf]; omega
         · have hne : ((OV : Int) == 0) = false := by rw [beq_eq_false_iff_ne]; omega
           have hlong : Hid (LG<=20000/\OV < 16777216):=hide (by
             have h:=(by simpa using hval.out : CellOk x)
             rw [hLG.out,hOV.out]
             rcases h with ⟨h,_,_⟩ | ⟨h1,_,h2,_⟩
             · have:=hOV.out; omega
             · exact ⟨h2,h1.2⟩)
           have hT5 : Hid (Tr w #[.bool true,.slice (some ad) M c,.slice B K d] wc):=hide ⟨hBw5.out,hN5.out⟩
           have hrA:=hide hr5.out.drew
           have hl1 : Hid (OV ≠ 0):=hide (by omega)
           have hTa:=hide (hT5.out.alloc (.cells #[.int .i64 (LG : Int)] 3)).drew
           have hTb:=hide ((hT5.out.alloc (.cells #[.int .i64 (LG : Int)] 3)).alloc (.cells #[.int .i64 (OV : Int)] 3)).drew
           have hTc:=hide ((hT5.out.alloc (.cells #[.int .i64 (OV : Int)] 3)).alloc (.cells #[.int .i64 (LG : Int)] 3)).drew
           have hPa:=hide (wput_one (wc.alloc (.cells #[.int .i64 (LG : Int)] 3)).drew A5 N5 c5 2 LG wc.heap.size L5 3 (hr5.out.allocs _) (Blk.new wc 3 #[.int .i64 (LG : Int)]) (by have:=hN5b.out; omega) (by omega) (by omega) (by have:=hlong.out; omega) 2 rfl)
           have hBb1 : Blk ((wc.alloc (.cells #[.int .i64 (LG : Int)] 3)).alloc (.cells #[.int .i64 (OV : Int)] 3)) wc.heap.size 3 #[.int .i64 (LG : Int)]:=(Blk.new wc 3 #[.int .i64 (LG : Int)]).alloc _
           have hBb2 : Blk ((wc.alloc (.cells #[.int .i64 (LG : Int)] 3)).alloc (.cells #[.int .i64 (OV : Int)] 3)) (wc.heap.size + 1) 3 #[.int .i64 (OV : Int)]:=by simpa using Blk.new (wc.alloc (.cells #[.int .i64 (LG : Int)] 3)) 3 #[.int .i64 (OV : Int)]
           have hBc1 : Blk ((wc.alloc (.cells #[.int .i64 (OV : Int)] 3)).alloc (.cells #[.int .i64 (LG : Int)] 3)) wc.heap.size 3 #[.int .i64 (OV : Int)]:=(Blk.new wc 3 #[.int .i64 (OV : Int)]).alloc _
           have hBc2 : Blk ((wc.alloc (.cells #[.int .i64 (OV : Int)] 3)).alloc (.cells #[.int .i64 (LG : Int)] 3)) (wc.heap.size + 1) 3 #[.int .i64 (LG : Int)]:=by simpa using Blk.new (wc.alloc (.cells #[.int .i64 (OV : Int)] 3)) 3 #[.int .i64 (LG : Int)]
           have hPb:=hide (wput_one ((wc.alloc (.cells #[.int .i64 (LG : Int)] 3)).alloc (.cells #[.int .i64 (OV : Int)] 3)).drew A5 N5 c5 2 LG wc.heap.size L5 3 ((hr5.out.allocs _).allocs _) hBb1 (by have:=hN5b.out; omega) (by omega) (by omega) (by have:=hlong.out; omega) 2 rfl)
           have hPc:=hide (wput_one ((wc.alloc (.cells #[.int .i64 (OV : Int)] 3)).alloc (.cells #[.int .i64 (LG : Int)] 3)).drew A5 N5 c5 2 LG (wc.heap.size + 1) L5 3 ((hr5.out.allocs _).allocs _) hBc2 (by have:=hN5b.out; omega) (by omega) (by omega) (by have:=hlong.out; omega) 2 rfl)
           have e2 : (wc.alloc (.cells #[.int .i64 (LG : Int)] 3)).cell? ⟨wr.heap.size,2,none⟩=some (.int .i64 (OV : Int)):=(hX5.out.alloc (.cells #[.int .i64 (LG : Int)] 3)).cell 2
           have e3 : (wc.alloc (.cells #[.int .i64 (OV : Int)] 3)).cell? ⟨wr.heap.size,3,none⟩=some (.int .i64 (LG : Int)):=(hX5.out.alloc (.cells #[.int .i64 (OV : Int)] 3)).cell 3
           have hXa:=hide (hX5.out.alloc (.cells #[.int .i64 (LG : Int)] 3))
           obtain ⟨n7,hn7⟩ : ∃ n7,n7=(L5 ++ leB 2 LG).length:=⟨_,rfl⟩
           have hn7b : Hid (n7<=10000000):=hide (by rw [hn7,List.length_append,leB_len,hr5.out.len]; have:=hN5b.out; omega)
           replace hn7:=hide hn7
           replace hBb1:=hide hBb1
           replace hBb2:=hide hBb2
           replace hBc1:=hide hBc1
           replace hBc2:=hide hBc2
           replace h0:=hide h0
           go_upto_region 11 with (fail)
           go_region_law (first
               | (go_simp; go_at_call_of 70 (Value.int IntKind.i64 3); refine hQ.out.mono ?_; rintro e w8 ⟨v8,rfl,hO8,hb8⟩;
                  (have hdone:=hide (hfin.out (leB 2 LG ++ leB 3 OV) v8 _ w8 (by have h:=hO8.more hT.out.1.size; rw [List.append_assoc] at h; exact h) (by simp [hl1.out]) (hT.out.then_ hb8).1 (hT.out.then_ hb8).2));
                  replace hO8:=hide hO8; replace hb8:=hide hb8)
               | (go_simp; go_at_call_of 70 (Value.int IntKind.i64 2); (with_reducible refine hPa.out.mono ?_); rintro e w7 ⟨v7,rfl,hO7,hb7⟩; rw [<- hn7.out] at hO7; (obtain ⟨A7,c7,rfl,hr7,_⟩:=hO7.form);
                  (have hT:=hide ((hTa.out.then_ hb7).alloc (.cells #[.int .i64 (OV : Int)] 3)));
                  (have k2 : w7.cell? ⟨wr.heap.size,2,none⟩=some (.int .i64 (OV : Int)):=(hXa.out.drew.below hb7 (Blk.lt hXa.out)).cell 2);
                  (have hQ:=hide (wput_one (w7.alloc (.cells #[.int .i64 (OV : Int)] 3)) A7 n7 c7 3 OV w7.heap.size _ 3 (hr7.allocs _) (Blk.new w7 3 #[.int .i64 (OV : Int)]) hn7b.out (by omega) (by omega) (by have:=hlong.out; omega) 3 rfl));
                  replace hO7:=hide hO7; replace hb7:=hide hb7; replace hr7:=hide hr7)
               | (go_simp; go_at_call_of 70 (Value.int IntKind.i64 2); (with_reducible refine hPb.out.mono ?_); rintro e w7 ⟨v7,rfl,hO7,hb7⟩; rw [<- hn7.out] at hO7; (obtain ⟨A7,c7,rfl,hr7,_⟩:=hO7.form);
                  (have hT:=hide (hTb.out.then_ hb7));
                  (have hQ:=hide (wput_one w7 A7 n7 c7 3 OV (wc.heap.size + 1) _ 3 hr7 (hBb2.out.drew.below hb7 (Blk.lt hBb2.out)) hn7b.out (by omega) (by omega) (by have:=hlong.out; omega) 3 rfl));
                  replace hO7:=hide hO7; replace hb7:=hide hb7; replace hr7:=hide hr7)
               | (go_simp; go_at_call_of 70 (Value.int IntKind.i64 2); (with_reducible refine hPc.out.mono ?_); rintro e w7 ⟨v7,rfl,hO7,hb7⟩; rw [<- hn7.out] at hO7; (obtain ⟨A7,c7,rfl,hr7,_⟩:=hO7.form);
                  (have hT:=hide (hTc.out.then_ hb7));
                  (have hQ:=hide (wput_one w7 A7 n7 c7 3 OV wc.heap.size _ 3 hr7 (hBc1.out.drew.below hb7 (Blk.lt hBc1.out)) hn7b.out (by omega) (by omega) (by have:=hlong.out; omega) 3 rfl));
                  replace hO7:=hide hO7; replace hb7:=hide hb7; replace hr7:=hide hr7))
           all_goals
             go_wp2_with fail
             go_roundw
             case rel => exact ⟨i + 1,_,rfl,by simp,by omega,hdone⟩
             case measure => simp [intOf]; omega
     · have hI0 : ¬ (i : Int) < (M : Int) := by omega
       have hI2 : (M : Int)<=(i : Int):=by omega
       have hiM : i=M:=by omega
       go_wp2_with fail
       go_ret
       rw [hiM] at hO
       exact ⟨_,rfl,by rw [<- hend.out]; exact hO.out,hbr.out⟩

 | false =>
   obtain ⟨kb,ko,rfl,hkb0,hkc0⟩:=hkid.out 0 (by rw [hK2 rfl]; omega)
   obtain ⟨K0,hK0⟩ : ∃ K0,K0=n.kids.getD 0 0:=⟨_,rfl⟩
   rw [<- hK0,Nat.add_zero] at hkc0
   have hKM : K=M + 1:=hK2 rfl
   have hKp : (0 : Int) < (K : Int):=by omega
   have hkidok : Hid (∀ j,j < K->n.kids.getD j 0 < 16777216):=hide fun j hj => by
     have hjl : j < n.kids.length:=by have:=hK.out; omega
     rw [List.getD_eq_getElem?_getD,List.getElem?_eq_getElem hjl]
     exact (hr.out.kidsOk _ (List.getElem_mem hjl)).2
   have hput:=wput_one (((w.alloc (.cells #[.bool false,.slice A M c,.slice (some ⟨kb,ko,none⟩) K d] 89)).alloc (.cells #[.int .u8 2] 5)).alloc (.cells #[.int .i64 (M : Int)] 3)) (some ⟨w.heap.size + 1,0,none⟩) 1 1 2 M (w.heap.size + 2) [2] 3
     (RB.one_at (t:=5) (g:=w.heap.size + 1) (x:=2) (by have h:=(Blk.new (w.alloc (.cells #[.bool false,.slice A M c,.slice (some ⟨kb,ko,none⟩) K d] 89)) 5 #[.int .u8 2]).alloc (.cells #[.int .i64 (M : Int)] 3); simpa using h))
     (by have h:=Blk.new ((w.alloc (.cells #[.bool false,.slice A M c,.slice (some ⟨kb,ko,none⟩) K d] 89)).alloc (.cells #[.int .u8 2] 5)) 3 #[.int .i64 (M : Int)]; simpa using h)
     (by omega) (by omega) (by omega) (by have:=hmany.out; omega) 2 rfl
   have hT0 : Hid (Tr w #[.bool false,.slice A M c,.slice (some ⟨kb,ko,none⟩) K d] (((w.alloc (.cells #[.bool false,.slice A M c,.slice (some ⟨kb,ko,none⟩) K d] 89)).alloc (.cells #[.int .u8 2] 5)).alloc (.cells #[.int .i64 (M : Int)] 3))) :=
     hide ((Tr.alloc (Tr.alloc ⟨(Below.refl _ _).alloc (Nat.le_refl _) _,Blk.new _ _ _⟩ _) _))
   replace hput:=hide hput
   have hh0 : Hid (headB n=[2] ++ leB 2 M ++ leB 3 K0):=hide (by
     unfold headB
     rw [<- hlf.out,<- hM.out,hK0]
     cases n.kids <;> simp)
   replace hkb0:=hide hkb0
   replace hK0:=hide hK0
   replace hKM:=hide hKM
   clear hK2
   go_enter Tryz.func88,Tryz.ntmps88
   go_wp2_with fail
   refine hput.out.mono ?_
   rintro e w2 ⟨v2,rfl,hO2,hb2⟩
   have hT2:=hide (hT0.out.then_ hb2)
   have m0:=hT2.out.2.cell 0
   have m1:=hT2.out.2.cell 1
   have m2:=hT2.out.2.cell 2
   have mk : w2.cell? ⟨kb,ko,none⟩=some (.int .i64 (K0 : Int)):=(hT2.out.1.cell (p:=⟨kb,ko,none⟩) hkb0.out).trans hkc0
   obtain ⟨n2,hn2⟩ : ∃ n2,n2=([2] ++ leB 2 M).length:=⟨_,rfl⟩
   rw [<- hn2] at hO2
   obtain ⟨A2,c2,rfl,hr2,_⟩:=hO2.form
   have hput2:=hide (wput_one (w2.alloc (.cells #[.int .i64 (K0 : Int)] 3)) A2 n2 c2 3 K0 w2.heap.size _ 3 (hr2.allocs _) (Blk.new w2 3 #[.int .i64 (K0 : Int)]) (by rw [hn2]; simp [leB_len]) (by omega) (by omega) (by have:=hkidok.out 0 (by have:=hKM.out; omega); rw [<- hK0.out] at this; omega) 3 rfl)
   replace hn2:=hide hn2
   replace hO2:=hide hO2
   replace hr2:=hide hr2
   replace hb2:=hide hb2
   go_wp2_with fail
   refine hput2.out.mono ?_
   rintro e w3 ⟨v3,rfl,hO3,hb3⟩
   have hT3:=(hT2.out.alloc (.cells #[.int .i64 (K0 : Int)] 3)).then_ hb3
   have hS : Hid (PackI w n 0 #[.bool false,.slice A M c,.slice (some ⟨kb,ko,none⟩) K d] v3 w3):=hide ⟨by rw [hbeg.out,hh0.out]; exact hO3.more (hT2.out.alloc (.cells #[.int .i64 (K0 : Int)] 3)).1.size,hT3.1,hT3.2⟩
   have q0:=hT3.2.cell 0
   have q1:=hT3.2.cell 1
   have q2:=hT3.2.cell 2
   replace hT3:=hide hT3
   replace hO3:=hide hO3
   replace hb3:=hide hb3
   go_wp2_with fail
   go_loopw [3,30] (fun v3 v30 wx => ∃ (i : Nat) (vb : Value),vb=v3/\v30=.int .i64 (i : Int)/\i<=M/\Hid (PackI w n i #[.bool false,.slice A M c,.slice (some ⟨kb,ko,none⟩) K d] vb wx)) (fun _ v30 _ => M - (intOf v30).toNat)
   case atStart => exact ⟨0,_,rfl,rfl,Nat.zero_le _,hS⟩
   case round =>
     obtain ⟨i,vb,rfl,rfl,hi,hI⟩:=hrel
     obtain ⟨hO,hbr,hnb⟩:=hI.out
     clear hI
     have n0:=hnb.cell 0
     have n1:=hnb.cell 1
     have n2:=hnb.cell 2
     replace hO:=hide hO
     replace hbr:=hide hbr
     replace hnb:=hide hnb
     rcases Nat.lt_or_ge i M with hlt | hge
     · have hIc : (i : Int) < (M : Int) := by omega
       have hiB : (i : Int)<=70000:=by have:=hmany.out; omega
       obtain ⟨x,ad,kA,vA,kc,vc,hx,hxm,eA,hh⟩:=hat.out i hlt
       have hw:=CellHere.below (B:=w.heap.size) hh hbr.out
       have hst:=hide (hstep.out i x hx)
       have hkey:=hr.out.keys x hxm
       have hval:=hr.out.vals x hxm
       rw [<- hlf.out] at hval
       have c0:=hw.c0
       have c1:=hw.c1
       have c2:=hw.c2
       have c3:=hw.c3
       have hkb:=hide hh.key
       have hvb:=hide hh.val
       obtain ⟨KB,hKB⟩ : ∃ KB : UInt8,KB=UInt8.ofNat x.key.length:=⟨_,rfl⟩
       have hcv : IntKind.u8.wrap (x.key.length : Int)=(KB.toNat : Int):=by rw [hKB,IntKind.wrap_u8,UInt8.toNat_ofNat']; omega
       obtain ⟨KL,hKL⟩ : ∃ KL,KL=x.key.length:=⟨_,rfl⟩
       obtain ⟨VL,hVL⟩ : ∃ VL,VL=x.val.length:=⟨_,rfl⟩
       obtain ⟨OV,hOV⟩ : ∃ OV,OV=x.over:=⟨_,rfl⟩
       obtain ⟨LG,hLG⟩ : ∃ LG,LG=x.long:=⟨_,rfl⟩
       rw [<- hKL] at c0 hkb hcv
       rw [<- hVL] at c1 hvb
       rw [<- hOV] at c2
       rw [<- hLG] at c3
       have hKLb : KL<=120:=by omega
       have hVLb : VL<=64:=by rw [hVL]; exact (by have h:=(by simpa using hval : BareCell x); rw [h.2.2]; simp)
       have hcz:=hide (show cellB false x (n.kids.getD (i + 1) 0)=KB :: (x.key ++ leB 3 (n.kids.getD (i + 1) 0)) by unfold cellB; rw [<- hKB,<- hVL,<- hOV,<- hLG]; simp)
       have hpl:=hide (hpre.out i hi)
       obtain ⟨PB,hPB⟩ : ∃ PB,PB=preB n i:=⟨_,rfl⟩
       rw [<- hPB] at hO hst hpl
       have hBC:=hide (hbr.out.alloc hbr.out.size (.cells #[.slice kA KL kc,.slice vA VL vc,.int .i64 (OV : Int),.int .i64 (LG : Int)] 83))
       have hNC:=hide (hnb.out.alloc (.cells #[.slice kA KL kc,.slice vA VL vc,.int .i64 (OV : Int),.int .i64 (LG : Int)] 83))
       have hOC:=hide (hO.out.alloc (.cells #[.slice kA KL kc,.slice vA VL vc,.int .i64 (OV : Int),.int .i64 (LG : Int)] 83))
       have hXC:=hide (Blk.new wr 83 #[.slice kA KL kc,.slice vA VL vc,.int .i64 (OV : Int),.int .i64 (LG : Int)])
       obtain ⟨WC,hWC⟩ : ∃ WC,WC=wr.alloc (.cells #[.slice kA KL kc,.slice vA VL vc,.int .i64 (OV : Int),.int .i64 (LG : Int)] 83):=⟨_,rfl⟩
       rw [<- hWC] at hBC hNC hOC hXC
       have hsz0:=hide hBC.out.size
       have hrb1 : RB (WC.drew.alloc (.cells #[.int .u8 (KB.toNat : Int)] 5)) _ (some ⟨WC.heap.size,0,none⟩) 1 [KB]:=RB.one_at (Blk.new WC.drew 5 #[.int .u8 (KB.toNat : Int)])
       obtain ⟨v4,w4,hrun1,hO4,hB4,hg4,_⟩:=run_app_bytes (WC.drew.alloc (.cells #[.int .u8 (KB.toNat : Int)] 5)) w.heap.size vb PB.length PB (hOC.out.drew.alloc _) _ _ 1 1 [KB] hrb1 37 (by have:=hpl.out; omega) (by have:=hsz0.out; simp; omega)
       have hxw : wr.heap.size < WC.heap.size:=hXC.out.lt
       have hnw : w.heap.size < WC.heap.size:=hNC.out.lt
       have hno3 : ∀ k,vb.ownBlock=some k->k < wr.heap.size:=fun k hk => OB.lt_heap hO.out hk
       have hX4 : Blk w4 wr.heap.size 83 #[.slice kA KL kc,.slice vA VL vc,.int .i64 (OV : Int),.int .i64 (LG : Int)]:=(hXC.out.drew.alloc _).grown hg4 (fun e => by have:=hno3 _ e.symm; omega)
       have hN4 : Blk w4 w.heap.size 89 #[.bool false,.slice A M c,.slice (some ⟨kb,ko,none⟩) K d]:=(hNC.out.drew.alloc _).grown hg4 (fun e => own_blk_ne hO.out hnb.out (by decide) e.symm)
       have hBw4 : Below w.heap.size w w4:=(hBC.out.drew.alloc (by have:=hsz0.out; simpa using this) _).trans hB4
       obtain ⟨v5,w5,hrun2,hO5,hB5,hg5,_⟩:=run_app_bytes w4 w.heap.size v4 _ _ hO4 w.heap.size kA KL kc x.key (RB.old hkb.out hBw4) 37 (by have:=hpl.out; omega) hBw4.size
       have hX5 : Blk w5 wr.heap.size 83 #[.slice kA KL kc,.slice vA VL vc,.int .i64 (OV : Int),.int .i64 (LG : Int)]:=hX4.grown hg5 (fun e => own_blk_ne hO4 hX4 (by decide) e.symm)
       have hN5 : Blk w5 w.heap.size 89 #[.bool false,.slice A M c,.slice (some ⟨kb,ko,none⟩) K d]:=hN4.grown hg5 (fun e => own_blk_ne hO4 hN4 (by decide) e.symm)
       have hBw5 : Below w.heap.size w w5:=hBw4.trans hB5
       have a0 : WC.cell? ⟨wr.heap.size,0,none⟩=some (.slice kA KL kc):=hXC.out.cell 0
       have a1 : (WC.alloc (.cells #[.int .u8 (KB.toNat : Int)] 5)).cell? ⟨wr.heap.size,0,none⟩=some (.slice kA KL kc):=(hXC.out.alloc (.cells #[.int .u8 (KB.toNat : Int)] 5)).cell 0
       have b0 : w4.cell? ⟨wr.heap.size,0,none⟩=some (.slice kA KL kc):=hX4.cell 0
       have f0:=hN5.cell 0
       have f1:=hN5.cell 1
       have f2:=hN5.cell 2
       have g1:=hX5.cell 1
       have g2:=hX5.cell 2
       have g3:=hX5.cell 3
       have hlt1 : Hid (WC=wr.alloc (.cells #[.slice kA KL kc,.slice vA VL vc,.int .i64 (OV : Int),.int .i64 (LG : Int)] 83)):=hWC
       replace hX4:=hide hX4
       replace hN4:=hide hN4
       replace hBw4:=hide hBw4
       replace hB4:=hide hB4
       replace hB5:=hide hB5
       replace hg4:=hide hg4
       replace hg5:=hide hg5
       replace hO4:=hide hO4
       replace hO5:=hide hO5
       replace hX5:=hide hX5
       replace hN5:=hide hN5
       replace hBw5:=hide hBw5
       replace hrb1:=hide hrb1
       replace hno3:=hide hno3
       replace hxw:=hide hxw
       replace hnw:=hide hnw
       replace hPB:=hide hPB
       replace hKB:=hide hKB
       replace hKL:=hide hKL
       replace hVL:=hide hVL
       replace hOV:=hide hOV
       replace hLG:=hide hLG
       replace hw:=hide hw
       replace hh:=hide hh
       replace hx:=hide hx
       replace hxm:=hide hxm
       replace hval:=hide hval
       replace hkey:=hide hkey
       replace hKLb:=hide hKLb
       replace hVLb:=hide hVLb
       subst eA
       replace hWC:=hide hWC
       clear hlt1
       go_upto_region 10 with (fail)
       rw [<- hWC.out]
       go_cut [3] (fun v wx => v=v5/\wx=w5)
       case first =>
         go_region_law (first | refine Lib.wp_append_run _ (.tmp 35) (.tmp 40) 37 37 rfl _ _ rfl rfl _ _ hrun1 ?_ | refine Lib.wp_append_run _ (.tmp 41) (.tmp 43) 37 37 rfl _ _ rfl rfl _ _ hrun2 ?_)
         all_goals go_wp2_with fail
         all_goals go_meet
         all_goals exact ⟨rfl,rfl⟩
       case rest =>
         obtain ⟨rfl,rfl⟩:=hcut
         clear hrun1 hrun2 a0 a1 b0
         have hsz5:=hide hBw5.out.size
         obtain ⟨A5,c5,rfl,hr5,_,_,_⟩:=hO5.out.form
         obtain ⟨N5,hN5e⟩ : ∃ N5,N5=PB.length + 1 + KL:=⟨_,rfl⟩
         obtain ⟨L5,hL5⟩ : ∃ L5,L5=PB ++ [KB] ++ x.key:=⟨_,rfl⟩
         rw [<- hN5e,<- hL5] at hr5
         have hN5b : Hid (N5<=100121):=hide (by have:=hpl.out; have:=hKLb.out; omega)
         have hfin : Hid (∀ (l : List UInt8) (u : Value) (m : Nat) (wx : World),OB wx w.heap.size u m (L5 ++ l)->l=leB 3 (n.kids.getD (i + 1) 0)->Below w.heap.size w wx->Blk wx w.heap.size 89 #[.bool false,.slice (some ad) M c,.slice (some ⟨kb,ko,none⟩) K d]->PackI w n (i + 1) #[.bool false,.slice (some ad) M c,.slice (some ⟨kb,ko,none⟩) K d] u wx):=hide fun l u m wx h1 h2 h3 h4 => by
           have e : preB n (i + 1)=L5 ++ l:=by rw [hst.out,<- hlf.out,hcz.out,h2,hL5]; simp
           refine ⟨?_,h3,h4⟩
           rw [e,h1.len]; exact h1
         replace hr5:=hide hr5
         replace hL5:=hide hL5
         rw [<- hN5e]
         replace hN5e:=hide hN5e
         obtain ⟨J,hJ⟩ : ∃ J,J=i + 1:=⟨_,rfl⟩
         have hJK : J < K:=by have:=hKM.out; omega
         obtain ⟨kb',ko',ek,hkbJ,hkcJ⟩:=hkid.out J hJK
         obtain ⟨rfl,rfl⟩ : kb=kb'/\ko=ko':=by injection ek with ek; injection ek with e1 e2; exact ⟨e1,e2⟩
         have hJI : (i : Int) + 1=(J : Int):=by omega
         have hJKI : (J : Int) < (K : Int):=by omega
         have hkx:=hkidok.out J hJK
         obtain ⟨KJ,hKJ⟩ : ∃ KJ,KJ=n.kids.getD J 0:=⟨_,rfl⟩
         rw [<- hKJ] at hkcJ hkx
         have hJW : IntKind.i64.wrap (J : Int)=(J : Int):=IntWalk.i64_in _ (by omega)
         have kj : wc.cell? ⟨kb,ko + J,none⟩=some (.int .i64 (KJ : Int)):=(hBw5.out.cell (p:=⟨kb,ko + J,none⟩) hkbJ).trans hkcJ
         have hput:=hide (wput_one (wc.alloc (.cells #[.int .i64 (KJ : Int)] 3)) A5 N5 c5 3 KJ wc.heap.size L5 3 (hr5.out.allocs _) (Blk.new wc 3 #[.int .i64 (KJ : Int)]) (by have:=hN5b.out; omega) (by omega) (by omega) (by omega) 3 rfl)
         have hT5 : Hid (Tr w #[.bool false,.slice (some ad) M c,.slice (some ⟨kb,ko,none⟩) K d] wc):=hide ⟨hBw5.out,hN5.out⟩
         replace hJ:=hide hJ
         replace hKJ:=hide hKJ
         replace hkx:=hide hkx
         replace hkbJ:=hide hkbJ
         clear ek
         go_wp2_with fail
         refine hput.out.mono ?_
         rintro e w7 ⟨v7,rfl,hO7,hb7⟩
         have hT7:=(hT5.out.alloc (.cells #[.int .i64 (KJ : Int)] 3)).then_ hb7
         have hdone:=hide (hfin.out (leB 3 KJ) v7 _ w7 (hO7.more (hT5.out.alloc (.cells #[.int .i64 (KJ : Int)] 3)).1.size) (by rw [hKJ.out,hJ.out]) hT7.1 hT7.2)
         replace hO7:=hide hO7
         replace hb7:=hide hb7
         replace hT7:=hide hT7
         go_wp2_with fail
         go_roundw
         case rel => exact ⟨J,_,rfl,rfl,by have:=hJ.out; omega,by rw [hJ.out]; exact hdone⟩
         case measure => have:=hJ.out; simp [intOf]; omega
     · have hI0 : ¬ (i : Int) < (M : Int) := by omega
       have hI2 : (M : Int)<=(i : Int):=by omega
       have hiM : i=M:=by omega
       go_wp2_with fail
       go_ret
       rw [hiM] at hO
       exact ⟨_,rfl,by rw [<- hend.out]; exact hO.out,hbr.out⟩
theorem NodeM.below {w w' : World} {v : Value} {n : NodeP} (h : NodeM (Old w) w v n) (hb : Below w.heap.size w w') : NodeM (Old w') w' v n:=h.keep fun k hk => ⟨Nat.lt_of_lt_of_le hk hb.size,hb.block k hk⟩
theorem NodeM.box {G : Nat->Prop} {w : World} {v : Value} {n : NodeP} (h : NodeM G w v n) : ∃ A c B d,v=.agg #[.bool n.leaf,.slice A n.cells.length c,.slice B n.kids.length d]:=by
 obtain ⟨A,c,B,d,e,_⟩:=h
 exact ⟨A,c,B,d,e⟩
theorem size_any (w : World) (v : Value) (n : NodeP) (hn : NodeM (Old w) w v n) (hr : RightP n) (hz : sizeP n<=100000) : Calls Tryz.prog 50 #[v] w fun e w' => e=.returned (.int .i64 (sizeP n : Int))/\Below w.heap.size w w':=by
 obtain ⟨A,c,B,d,rfl⟩:=hn.box
 obtain ⟨lf,hlf⟩ : ∃ lf,lf=n.leaf:=⟨_,rfl⟩
 obtain ⟨M,hM⟩ : ∃ M,M=n.cells.length:=⟨_,rfl⟩
 obtain ⟨K,hK⟩ : ∃ K,K=n.kids.length:=⟨_,rfl⟩
 rw [<- hlf,<- hM,<- hK] at hn ⊢
 have hB0:=(Below.refl w.heap.size w).alloc (Nat.le_refl _) (.cells #[.bool lf,.slice A M c,.slice B K d] 89)
 have hb0:=Blk.new w 89 #[.bool lf,.slice A M c,.slice B K d]
 have hn0:=hn.below hB0
 have hri:=hide (right_any _ _ n hn0 hr)
 replace hlf:=hide hlf
 replace hM:=hide hM
 replace hK:=hide hK
 replace hr:=hide hr
 replace hz:=hide hz
 replace hn0:=hide hn0
 replace hB0:=hide hB0
 replace hb0:=hide hb0
 clear hn
 go_enter Tryz.func50,Tryz.ntmps50
 go_wp2_with fail
 refine hri.out.mono ?_
 rintro e w2 ⟨rfl,hb2⟩
 have hb:=hb0.out.below hb2 (Blk.lt hb0.out)
 have c0:=hb.cell 0
 have c1:=hb.cell 1
 have c2:=hb.cell 2
 have hpa:=hide (pack_any w2 _ n (hn0.out.below hb2) hr.out hz.out)
 have hB2:=hide (hB0.out.trans (hb2.mono hB0.out.size))
 replace hb:=hide hb
 replace hb2:=hide hb2
 go_wp2_with fail
 refine hpa.out.mono ?_
 rintro e w3 ⟨v3,rfl,hO3,hb3⟩
 rw [packP_len] at hO3
 obtain ⟨A3,c3,rfl,_⟩:=hO3.form
 replace hO3:=hide hO3
 have hB3:=hide (hB2.out.trans (hb3.mono hB2.out.size))
 replace hb3:=hide hb3
 go_wp2_with fail
 go_ret
 exact ⟨rfl,hB3.out⟩
def NPutRet (w : World) (l : List UInt8) (e : Ending) (w' : World) : Prop:=∃ v,e=.returned (.tuple #[v,.int .i64 0])/\OB w' w.heap.size v l.length l/\Below w.heap.size w w'
theorem nput_any (w : World) (v : Value) (n : NodeP) (hn : NodeM (Old w) w v n) (hr : RightP n) (hz : sizeP n<=508) : Calls Tryz.prog 119 #[v] w (NPutRet w (packP n)):=by
 obtain ⟨A,c,B,d,rfl⟩:=hn.box
 obtain ⟨lf,hlf⟩ : ∃ lf,lf=n.leaf:=⟨_,rfl⟩
 obtain ⟨M,hM⟩ : ∃ M,M=n.cells.length:=⟨_,rfl⟩
 obtain ⟨K,hK⟩ : ∃ K,K=n.kids.length:=⟨_,rfl⟩
 rw [<- hlf,<- hM,<- hK] at hn ⊢
 have hB0:=(Below.refl w.heap.size w).alloc (Nat.le_refl _) (.cells #[.bool lf,.slice A M c,.slice B K d] 89)
 have hb0:=Blk.new w 89 #[.bool lf,.slice A M c,.slice B K d]
 have hn0:=hn.below hB0
 have hri:=hide (right_any _ _ n hn0 hr)
 have hzI : (sizeP n : Int)<=508:=by omega
 replace hlf:=hide hlf
 replace hM:=hide hM
 replace hK:=hide hK
 replace hr:=hide hr
 replace hz:=hide hz
 replace hn0:=hide hn0
 replace hB0:=hide hB0
 replace hb0:=hide hb0
 clear hn
 go_enter Tryz.func119,Tryz.ntmps119
 go_wp2_with fail
 refine hri.out.mono ?_
 rintro e w2 ⟨rfl,hb2⟩
 have hb:=hb0.out.below hb2 (Blk.lt hb0.out)
 have c0:=hb.cell 0
 have c1:=hb.cell 1
 have c2:=hb.cell 2
 have hpa:=hide (pack_any w2 _ n (hn0.out.below hb2) hr.out (by have:=hz.out; omega))
 have hB2:=hide (hB0.out.trans (hb2.mono hB0.out.size))
 replace hb:=hide hb
 replace hb2:=hide hb2
 go_wp2_with fail
 refine hpa.out.mono ?_
 rintro e w3 ⟨v3,rfl,hO3,hb3⟩
 have hO4 : Hid (OB w3 w.heap.size v3 (packP n).length (packP n)):=hide (hO3.more hB2.out.size)
 rw [packP_len] at hO3
 obtain ⟨A3,c3,rfl,_⟩:=hO3.form
 replace hO3:=hide hO3
 have hB3:=hide (hB2.out.trans (hb3.mono hB2.out.size))
 replace hb3:=hide hb3
 go_wp2_with fail
 go_ret2
 exact ⟨_,rfl,hO4.out,hB3.out⟩
def FoundAt (n : Nat) (p : Nat->Bool) (L : Nat) : Prop:=L<=n/\(∀ j,j < L->p j=false)/\(L < n->p L=true)
set_option maxHeartbeats 1000000 in
theorem search_any (w : World) (a b n : Nat) (p : Nat->Bool) (hn : n<=1000000) (hmono : ∀ i j,i<=j->j < n->p i=true->p j=true)
   (hf : ∀ q i,i < n->Calls Tryz.prog 84 #[.int .i64 (i : Int),.pointer (some ⟨a,0,none⟩),.pointer (some ⟨b,0,none⟩)] (w.drewN q) fun e w' => e=.returned (.bool (p i))/\∃ m,w'=w.drewN m) :
   Calls Tryz.prog 83 #[.int .i64 (n : Int),.func (.func 84) #[] #[.pointer (some ⟨a,0,none⟩),.pointer (some ⟨b,0,none⟩)]] w fun e w' => (∃ L : Nat,e=.returned (.int .i64 (L : Int))/\FoundAt n p L)/\∃ m,w'=w.drewN m:=by
 have hf2:=hide hf
 have hmono2:=hide hmono
 clear hf hmono
 go_enter Tryz.func83,Tryz.ntmps83
 go_wp2_with fail
 go_loopw [5,6] (fun v5 v6 wx => ∃ lo hi m : Nat,v5=.int .i64 (lo : Int)/\v6=.int .i64 (hi : Int)/\lo<=hi/\hi<=n/\Hid (∀ j,j < lo->p j=false)/\Hid (hi < n->p hi=true)/\wx=w.drewN m) (fun v5 v6 _ => (intOf v6).toNat - (intOf v5).toNat)
 case atStart => exact ⟨0,n,0,rfl,rfl,Nat.zero_le _,Nat.le_refl _,hide (fun j h => absurd h (by omega)),hide (fun h => absurd h (by omega)),rfl⟩
 case round =>
   obtain ⟨lo,hi,m,rfl,rfl,h1,h2,h3,h4,hwr⟩:=hrel
   subst hwr
   rcases Nat.lt_or_ge lo hi with hlt | hge
   · obtain ⟨H, hH⟩ : ∃ H, H = (lo + hi) / 2 := ⟨_, rfl⟩
     obtain ⟨S,hS⟩ : ∃ S,S=lo + hi:=⟨_,rfl⟩
     have hSI : (lo : Int) + (hi : Int)=(S : Int):=by omega
     have hSb : (S : Int)<=2000000:=by omega
     have hSh : (S : Int) / 2=(H : Int):=by omega
     obtain ⟨pv,hpv⟩ : ∃ pv,pv=p H:=⟨_,rfl⟩
     have hcl:=hf2.out m H (by omega)
     rw [<- hpv] at hcl
     replace hcl:=hide hcl
     have hHb : H < hi/\lo<=H:=by omega
     have hHI : (H : Int) < (hi : Int):=by omega
     have hHB : (H : Int)<=1000000:=by omega
     replace hH:=hide hH
     replace hS:=hide hS
     replace hpv:=hide hpv
     go_wp2_with fail
     refine hcl.out.mono ?_
     rintro e w2 ⟨rfl,m2,rfl⟩
     cases pv with
     | true =>
       go_wp2_with fail
       go_roundw
       case rel => exact ⟨lo,H,m2,rfl,rfl,hHb.2,by omega,h3,hide (fun _ => hpv.out.symm),by first | rfl | trivial⟩
       case measure => simp [intOf]; omega
     | false =>
       go_wp2_with fail
       go_roundw
       case rel => exact ⟨H + 1,hi,m2,by simp,rfl,by omega,h2,hide (fun j hj => by
         cases hpj : p j with
         | false => rfl
         | true => have h:=hmono2.out j H (by omega) (by omega) hpj; rw [<- hpv.out] at h; cases h),h4,by first | rfl | trivial⟩
       case measure => simp [intOf]; omega
   · have hge2 : ¬ (lo : Int) < (hi : Int) := by omega
     have hge3 : (hi : Int)<=(lo : Int):=by omega
     go_wp2_with fail
     go_ret
     refine ⟨⟨lo,rfl,by omega,h3.out,fun hl => ?_⟩,m,rfl⟩
     have e : lo=hi:=by omega
     rw [e]
     exact h4.out (by omega)
theorem found_findI (cs : List CellP) (key : List UInt8) (L : Nat) (hr : RiseC cs) (h : FoundAt cs.length (fun i => !ltK (keyOfC cs i) key) L) : L=findI cs key:=by
 obtain ⟨h1,h2,h3⟩:=h
 unfold findI
 induction cs generalizing L with
 | nil => simp at h1; simp [h1]
 | cons c r ih =>
   cases L with
   | zero =>
     have h4:=h3 (by simp)
     have h5 : ltK c.key key=false:=by simpa [keyOfC] using h4
     simp [List.takeWhile,h5]
   | succ L =>
     have h4:=h2 0 (by omega)
     have h5 : ltK c.key key=true:=by simpa [keyOfC] using h4
     have h6:=ih L hr.2 (by simp at h1; omega) (fun j hj => by have:=h2 (j + 1) (by omega); simpa [keyOfC] using this) (fun hl => by have:=h3 (by simp; omega); simpa [keyOfC] using this)
     simp [List.takeWhile,h5,h6]
theorem keyOfC_at {cs : List CellP} {i : Nat} {c : CellP} (h : cs[i]?=some c) : keyOfC cs i=c.key:=by unfold keyOfC; rw [h]
theorem rise_mono (cs : List CellP) (hr : RiseC cs) (key : List UInt8) (i j : Nat) (hij : i<=j) (hj : j < cs.length) (h : (!ltK (keyOfC cs i) key)=true) : (!ltK (keyOfC cs j) key)=true:=by
 rcases Nat.lt_or_ge i j with hlt | hge
 · have h1 : ltK (keyOfC cs i) (keyOfC cs j)=true:=by
     rw [keyOfC_at (List.getElem?_eq_getElem (by omega : i < cs.length)),keyOfC_at (List.getElem?_eq_getElem hj)]
     clear h
     induction cs generalizing i j with
     | nil => simp at hj
     | cons c r ih =>
       cases j with
       | zero => omega
       | succ j =>
         cases i with
         | zero => exact hr.1 _ (List.getElem_mem (by simp at hj; omega))
         | succ i => exact ih hr.2 i j (by omega) (by simp at hj; omega) (by omega)
   cases h2 : ltK (keyOfC cs j) key with
   | false => rfl
   | true => have:=ltK_trans _ _ _ h1 h2; rw [this] at h; cases h
 · have e : i = j := by omega
   subst e; exact h
theorem lamF_any (w : World) (a b : Nat) (n : NodeP) (v0 : Value) (A : Option Addr) (c : Nat) (B : Option Addr) (d : Nat) (hcs : CellsM (Old w) w A n.cells) (hb : Blk w a 89 #[v0,.slice A n.cells.length c,.slice B n.kids.length d])
   (kA : Option Addr) (kc : Nat) (key : List UInt8) (hkb : Blk w b 37 #[.slice kA key.length kc]) (hk : RB w w.heap.size kA key.length key) (i : Nat) (hi : i < n.cells.length) (hil : i < 100000) (q : Nat) :
   Calls Tryz.prog 84 #[.int .i64 (i : Int),.pointer (some ⟨a,0,none⟩),.pointer (some ⟨b,0,none⟩)] (w.drewN q) fun e w' => e=.returned (.bool (!ltK (keyOfC n.cells i) key))/\∃ m,w'=w.drewN m:=by
 obtain ⟨ad,xA,yA,xc,yc,rfl,hh⟩:=hcs.at_ i hi
 obtain ⟨x,hx⟩ : ∃ x,x=n.cells[i]:=⟨_,rfl⟩
 rw [<- hx] at hh
 have hkey : keyOfC n.cells i=x.key:=by rw [hx]; exact keyOfC_at (List.getElem?_eq_getElem hi)
 rw [hkey]
 obtain ⟨M,hM⟩ : ∃ M,M=n.cells.length:=⟨_,rfl⟩
 rw [<- hM] at hb hi
 have c1 : w.cell? ⟨a,1,none⟩=some (.slice (some ad) M c):=hb.cell 1
 have k0 : w.cell? ⟨b,0,none⟩=some (.slice kA key.length kc):=hkb.cell 0
 have x0:=hh.c0
 have hcm : Hid (∀ p,Calls Tryz.prog 51 #[.slice xA x.key.length xc,.slice kA key.length kc] (w.drewN (q + p)) fun e w' => e=.returned (.int .i64 (Lib.compareBytes x.key key))/\w.drewN (q + p)=w'):=hide fun p => cmp_any _ w.heap.size w.heap.size xA kA _ xc _ kc x.key key (RB.drewN (Rd.reads hh.key fun k hk => hk) _) (hk.drewN _)
 have hge:=cmp_ge x.key key
 obtain ⟨r,hr⟩ : ∃ r,r=!ltK x.key key:=⟨_,rfl⟩
 obtain ⟨XL,hXL⟩ : ∃ XL,XL=x.key.length:=⟨_,rfl⟩
 obtain ⟨KL,hKL⟩ : ∃ KL,KL=key.length:=⟨_,rfl⟩
 obtain ⟨cv,hcv⟩ : ∃ cv,cv=Lib.compareBytes x.key key:=⟨_,rfl⟩
 rw [<- hr,<- hcv] at hge
 rw [<- hXL,<- hKL,<- hcv] at hcm
 rw [<- hXL] at x0
 rw [<- hKL] at k0
 rw [<- hr]
 have hiI : (i : Int) < (M : Int):=by omega
 have hiB : (i : Int)<=100000:=by omega
 replace hh:=hide hh
 replace hx:=hide hx
 replace hkey:=hide hkey
 replace hM:=hide hM
 replace hr:=hide hr
 replace hXL:=hide hXL
 replace hKL:=hide hKL
 replace hcv:=hide hcv
 replace hcs:=hide hcs
 clear hb hkb hk
 go_enter Tryz.func84,Tryz.ntmps84
 go_wp2_with fail
 go_quiet (first | (go_at_call 51; exact quiet_add_left (hcm.out _)))
 go_wp2_with fail
 go_ret
 exact ⟨rfl,q + nq,World.drewN_drewN ..⟩
theorem findP_at (n : NodeP) (key : List UInt8) (L : Nat) (x : CellP) (hL : L=findI n.cells key) (hx : n.cells[L]?=some x) : findP n key=if (x.key == key)=true then (if n.leaf=true then L else L + 1,true) else (L,false):=by
 unfold findP keyAt
 rw [<- hL,hx]
theorem findP_end (n : NodeP) (key : List UInt8) (L : Nat) (hL : L=findI n.cells key) (hx : n.cells.length<=L) : findP n key=(L,false):=by
 unfold findP keyAt
 rw [<- hL,List.getElem?_eq_none hx]
 rfl
set_option maxHeartbeats 1000000 in
theorem find_any (w : World) (v : Value) (n : NodeP) (hn : NodeM (Old w) w v n) (hrise : RiseC n.cells) (hmany : n.cells.length<=70000) (kA : Option Addr) (kc : Nat) (key : List UInt8) (hk : RB w w.heap.size kA key.length key) :
   Calls Tryz.prog 46 #[v,.slice kA key.length kc] w fun e w' => e=.returned (.tuple #[.int .i64 ((findP n key).1 : Int),.bool (findP n key).2])/\Below w.heap.size w w':=by
 obtain ⟨A,c,B,d,rfl,hc,hd,hcs,hks⟩:=hn
 have hB0:=((Below.refl w.heap.size w).alloc (Nat.le_refl _) (.cells #[.bool n.leaf,.slice A n.cells.length c,.slice B n.kids.length d] 89)).alloc (by simp) (.cells #[.slice kA key.length kc] 37)
 have hbN:=(Blk.new w 89 #[.bool n.leaf,.slice A n.cells.length c,.slice B n.kids.length d]).alloc (.cells #[.slice kA key.length kc] 37)
 have hbK : Blk ((w.alloc (.cells #[.bool n.leaf,.slice A n.cells.length c,.slice B n.kids.length d] 89)).alloc (.cells #[.slice kA key.length kc] 37)) (w.heap.size + 1) 37 #[.slice kA key.length kc]:=by
   simpa using Blk.new (w.alloc (.cells #[.bool n.leaf,.slice A n.cells.length c,.slice B n.kids.length d] 89)) 37 #[.slice kA key.length kc]
 have hcs1 : CellsM (Old ((w.alloc (.cells #[.bool n.leaf,.slice A n.cells.length c,.slice B n.kids.length d] 89)).alloc (.cells #[.slice kA key.length kc] 37))) _ A n.cells:=hcs.keep fun k hk => ⟨Nat.lt_of_lt_of_le hk hB0.size,hB0.block k hk⟩
 have hk1 : RB ((w.alloc (.cells #[.bool n.leaf,.slice A n.cells.length c,.slice B n.kids.length d] 89)).alloc (.cells #[.slice kA key.length kc] 37)) _ kA key.length key:=(hk.below hB0).more hB0.size
 obtain ⟨W,hW⟩ : ∃ W,W=(w.alloc (.cells #[.bool n.leaf,.slice A n.cells.length c,.slice B n.kids.length d] 89)).alloc (.cells #[.slice kA key.length kc] 37):=⟨_,rfl⟩
 rw [<- hW] at hB0 hbN hbK hcs1 hk1
 have hse:=search_any W w.heap.size (w.heap.size + 1) n.cells.length (fun i => !ltK (keyOfC n.cells i) key) (by omega) (rise_mono n.cells hrise key) (fun q i hi => lamF_any W w.heap.size (w.heap.size + 1) n _ A c B d hcs1 hbN kA kc key hbK hk1 i hi (by omega) q)
 have hat : Hid (∀ L x,n.cells[L]?=some x->∃ ad xA xc,A=some ad/\W.cell? (ad.add (L * 4))=some (.slice xA x.key.length xc)/\∀ q,Calls Tryz.prog 85 #[.slice xA x.key.length xc,.slice kA key.length kc] (W.drewN q) fun e w' => e=.returned (.bool (x.key == key))/\W.drewN q=w'):=hide fun L x hx => by
   obtain ⟨hl,e⟩:=List.getElem?_eq_some_iff.1 hx
   obtain ⟨ad,xA,yA,xc,yc,eA,hh⟩:=hcs1.at_ L hl
   rw [e] at hh
   exact ⟨ad,xA,xc,eA,hh.c0,fun q => equal_any _ W.heap.size W.heap.size xA kA _ xc _ kc x.key key (RB.drewN (Rd.reads hh.key fun k hk => hk) q) (hk1.drewN q)⟩
 have hfi : Hid (∀ L,FoundAt n.cells.length (fun i => !ltK (keyOfC n.cells i) key) L->L=findI n.cells key):=hide fun L h => found_findI n.cells key L hrise h
 have n0 : W.cell? ⟨w.heap.size,0,none⟩=some (.bool n.leaf):=hbN.cell 0
 have k0 : W.cell? ⟨w.heap.size + 1,0,none⟩=some (.slice kA key.length kc):=hbK.cell 0
 have n10 : W.cell? ⟨w.heap.size,1,none⟩=some (.slice A n.cells.length c):=hbN.cell 1
 obtain ⟨M,hM⟩ : ∃ M,M=n.cells.length:=⟨_,rfl⟩
 obtain ⟨KL,hKL⟩ : ∃ KL,KL=key.length:=⟨_,rfl⟩
 obtain ⟨lf,hlf⟩ : ∃ lf,lf=n.leaf:=⟨_,rfl⟩
 obtain ⟨KK,hKK⟩ : ∃ KK,KK=n.kids.length:=⟨_,rfl⟩
 rw [<- hM,<- hlf,<- hKK,<- hKL] at hW
 rw [<- hM] at n10 hse hfi
 rw [<- hlf] at n0
 rw [<- hKL] at k0 hat
 rw [<- hM,<- hlf,<- hKK,<- hKL]
 replace hse:=hide hse
 have hmI : (M : Int)<=70000:=by omega
 replace hM:=hide hM
 replace hKL:=hide hKL
 replace hlf:=hide hlf
 replace hKK:=hide hKK
 replace hcs:=hide hcs
 replace hcs1:=hide hcs1
 replace hks:=hide hks
 replace hk:=hide hk
 replace hk1:=hide hk1
 replace hB0:=hide hB0
 replace hbN:=hide hbN
 replace hbK:=hide hbK
 replace hW:=hide hW
 replace hrise:=hide hrise
 clear hc hd
 go_enter Tryz.func46,Tryz.ntmps46
 go_wp2_with fail
 rw [<- hW.out]
 refine hse.out.mono ?_
 rintro e w2 ⟨⟨L,rfl,hL⟩,m,rfl⟩
 have hLe:=hide (hfi.out L hL)
 have hLM:=hL.1
 have hLI : (L : Int)<=70000:=by omega
 replace hL:=hide hL
 cases hx : n.cells[L]? with
 | none =>
   have hge : n.cells.length<=L:=List.getElem?_eq_none_iff.1 hx
   have hMI : (M : Int)<=(L : Int):=by have:=hM.out; omega
   have hMD : decide ((L : Int) < (M : Int))=false:=by rw [decide_eq_false_iff_not]; omega
   have hMD2 : decide (L < M)=false:=by rw [decide_eq_false_iff_not]; omega
   have hfp:=hide (findP_end n key L hLe.out hge)
   replace hx:=hide hx
   clear hat
   go_wp2_with fail
   go_quiet (fail)
   go_wp2_with fail
   go_ret2
   exact ⟨by rw [hfp.out]; rfl,below_drewN hB0.out _⟩
 | some x =>
   have hlt : L < n.cells.length:=(List.getElem?_eq_some_iff.1 hx).1
   have hMI : (L : Int) < (M : Int):=by have:=hM.out; omega
   have hMD : decide ((L : Int) < (M : Int))=true:=by rw [decide_eq_true_eq]; omega
   obtain ⟨ad,xA,xc,rfl,x0,heq⟩:=hat.out L x hx
   have hfp:=hide (findP_at n key L x hLe.out hx)
   obtain ⟨E,hE⟩ : ∃ E,E=(x.key == key):=⟨_,rfl⟩
   obtain ⟨XL,hXL⟩ : ∃ XL,XL=x.key.length:=⟨_,rfl⟩
   rw [<- hE] at heq hfp
   rw [<- hXL] at heq x0
   rw [<- hlf.out] at hfp
   replace heq:=hide heq
   replace hx:=hide hx
   replace hE:=hide hE
   replace hXL:=hide hXL
   clear hat
   go_wp2_with fail
   go_quiet (first | (go_at_call 85; exact quiet_add_left (heq.out _)))
   cases E with
   | false =>
     go_wp2_with fail
     go_ret2
     exact ⟨by rw [hfp.out]; rfl,below_drewN hB0.out _⟩
   | true =>
     cases lf with
     | true =>
       go_wp2_with fail
       go_ret2
       exact ⟨by rw [hfp.out]; rfl,below_drewN hB0.out _⟩
     | false =>
       go_wp2_with fail
       go_ret2
       exact ⟨by rw [hfp.out]; rfl,below_drewN hB0.out _⟩
end Go.Proofs.YtiiljlmeililbaaGreatDoor
