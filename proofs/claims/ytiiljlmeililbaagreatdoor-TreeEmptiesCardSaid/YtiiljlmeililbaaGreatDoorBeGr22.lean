/-
  Contract of tree.halves: the two halves of a node, and the key between.
-/
import Derived.Test.YtiiljlmeililbaaGreatDoorBeGr21
import Derived.Test.YtiiljlmeililbaaGreatDoorBeGr20
namespace Go.Proofs.YtiiljlmeililbaaGreatDoor
set_option linter.unusedVariables false
set_option maxRecDepth 100000
open Go.RowKit
theorem best_step (n : NodeP) (m : Nat) (h1 : 1<=m) (h2 : m + skipN n < n.cells.length) : bestTo n (m + 1)=if (bestTo n m).1=0 \/ bigAt n m < (bestTo n m).1 then (bigAt n m,m) else bestTo n m:=by
 rw [bestTo]
 by_cases h : (bestTo n m).1=0 \/ bigAt n m < (bestTo n m).1
 · rw [if_pos ⟨⟨h1,h2⟩,h⟩,if_pos h]
 · rw [if_neg (fun hc => h hc.2),if_neg h]
theorem best_end (n : NodeP) (m : Nat) (h : n.cells.length<=m + skipN n) : ∀ j,bestTo n (m + j)=bestTo n m
 | 0 => rfl
 | j + 1 => by
   rw [<- Nat.add_assoc,bestTo,if_neg (fun hc => by have:=hc.1.2; omega),best_end n m h j]
theorem only_s3 {S : Nat->Prop} {g : Nat} {a w : World} (h : Only S a w) (hg : S g) (u0 u1 u2 : Value) : Only S a (((w.setCell ⟨g,0,none⟩ u0).setCell ⟨g,1,none⟩ u1).setCell ⟨g,2,none⟩ u2) :=
 ((h.setCell (p:=⟨g,0,none⟩) (fun _ => hg) u0).setCell (p:=⟨g,1,none⟩) (fun _ => hg) u1).setCell (p:=⟨g,2,none⟩) (fun _ => hg) u2
def KeysIn (G2 : Nat->Prop) (w : World) (v : Value) (n : NodeP) : Prop:=∀ (l : Bool) (A : Option Addr) (x c : Nat) (B : Option Addr) (y d : Nat),v=.agg #[.bool l,.slice A x c,.slice B y d] ->
 ∀ (i : Nat) (cl : CellP) (ad : Addr) (kA : Option Addr) (kc : Nat),n.cells[i]?=some cl->A=some ad->w.cell? (ad.add (i * 4))=some (.slice kA cl.key.length kc)->Rd G2 w 1 kA cl.key.length (bv cl.key)
def HalvesRet (w : World) (G G2 : Nat->Prop) (n : NodeP) (e : Ending) (w' : World) : Prop :=
 ∃ vA vB kA kc,e=.returned (.tuple #[vA,.slice kA (halfK n).length kc,vB])/\NodeM G w' vA (halfA n)/\NodeM G w' vB (halfB n)/\Rd G2 w' 1 kA (halfK n).length (bv (halfK n))/\(halfK n).length<=kc/\Below w.heap.size w w'
structure HvS (w : World) (G G2 : Nat->Prop) (n : NodeP) (nv z1 z2 : Array Value) (v7 : Value) (best m : Nat) (ca cb : Array Value) (wx : World) : Prop where
 bel : Below w.heap.size w wx
 b0 : Blk wx w.heap.size 89 nv
 b1 : Blk wx (w.heap.size + 1) 89 z1
 b2 : Blk wx (w.heap.size + 2) 89 z2
 ba : Blk wx (w.heap.size + 3) 89 ca
 bb : Blk wx (w.heap.size + 4) 89 cb
 m1 : 1<=m
 m2 : m + skipN n<=n.cells.length
 bst : best=(bestTo n m).1
 got : best ≠ 0->NodeM G wx (.agg ca) (partP n 0 (bestTo n m).2)/\NodeM G wx (.agg cb) (partP n ((bestTo n m).2 + skipN n) n.cells.length)/\∃ kA kc,v7=.slice kA (keyOfC n.cells (bestTo n m).2).length kc/\Rd G2 wx 1 kA (keyOfC n.cells (bestTo n m).2).length (bv (keyOfC n.cells (bestTo n m).2))/\(keyOfC n.cells (bestTo n m).2).length<=kc
set_option maxHeartbeats 8000000 in
theorem halves_any (w : World) (G G2 : Nat->Prop) (v : Value) (n : NodeP) (h : NodeM G w v n) (hG : ∀ k,G k->k < w.heap.size) (hG2 : ∀ k,G2 k->k < w.heap.size) (hki : KeysIn G2 w v n) (hr : RightP n) (hz : sizeP n<=100000) (hp : 1 + skipN n < n.cells.length) :
   Calls Tryz.prog 120 #[v] w (HalvesRet w G G2 n):=by
 obtain ⟨A,c,B,d,rfl⟩:=h.box
 obtain ⟨lf,hlf⟩ : ∃ lf,lf=n.leaf:=⟨_,rfl⟩
 obtain ⟨N,hN⟩ : ∃ N,N=n.cells.length:=⟨_,rfl⟩
 obtain ⟨K,hK⟩ : ∃ K,K=n.kids.length:=⟨_,rfl⟩
 obtain ⟨sk,hsk⟩ : ∃ sk,sk=skipN n:=⟨_,rfl⟩
 have hmany:=hr.many
 rw [<- hlf,<- hN,<- hK] at h ⊢
 have hpt : Hid (∀ (a b : Nat) wz,a<=b->b<=N->Below w.heap.size w wz->Calls Tryz.prog 149 #[.agg #[.bool lf,.slice A N c,.slice B K d],.int .i64 (a : Int),.int .i64 (b : Int)] wz (PartRet wz G (partP n a b))):=hide fun a b wz hab hb hB =>
   part_any wz G _ n (h.keep fun k hk => ⟨hk,hB.block k (hG k hk)⟩) (fun k hk => Nat.lt_of_lt_of_le (hG k hk) hB.size) a b hab (by omega) (fun hf => hr.kidsIn hf) (by omega)
 obtain ⟨W0,hW0⟩ : ∃ W0,W0=((((w.alloc (.cells #[.bool lf,.slice A N c,.slice B K d] 89)).alloc (.cells #[.bool false,.slice none 0 0,.slice none 0 0] 89)).alloc (.cells #[.bool false,.slice none 0 0,.slice none 0 0] 89)).alloc (.cells #[.bool false,.slice none 0 0,.slice none 0 0] 89)).alloc (.cells #[.bool false,.slice none 0 0,.slice none 0 0] 89):=⟨_,rfl⟩
 have hst : Hid (HvS w G G2 n #[.bool lf,.slice A N c,.slice B K d] #[.bool false,.slice none 0 0,.slice none 0 0] #[.bool false,.slice none 0 0,.slice none 0 0] (.slice none 0 0) 0 1 #[.bool false,.slice none 0 0,.slice none 0 0] #[.bool false,.slice none 0 0,.slice none 0 0] W0):=hide (by
   have nw : ∀ (W : World) (g : Nat) cs,g=W.heap.size->Blk (W.alloc (.cells cs 89)) g 89 cs:=fun W g cs e => by rw [e]; exact Blk.new W 89 cs
   refine ⟨?_,?_,?_,?_,?_,?_,Nat.le_refl _,by omega,by simp [bestTo],fun h => absurd rfl h⟩
   · rw [hW0]
     exact (((((Below.refl w.heap.size w).alloc (Nat.le_refl _) _).alloc (by simp) _).alloc (by simp <;> omega) _).alloc (by simp <;> omega) _).alloc (by simp <;> omega) _
   · rw [hW0]; exact ((((nw w _ _ rfl).alloc _).alloc _).alloc _).alloc _
   · rw [hW0]; exact (((nw _ _ _ (by simp)).alloc _).alloc _).alloc _
   · rw [hW0]; exact ((nw _ _ _ (by simp)).alloc _).alloc _
   · rw [hW0]; exact (nw _ _ _ (by simp)).alloc _
   · rw [hW0]; exact nw _ _ _ (by simp))
 have skv : Hid (sk=if lf=true then 0 else 1):=hide (by rw [hsk,hlf]; rfl)
 have n0:=hst.out.b0.cell 0
 have n1:=hst.out.b0.cell 1
 have n2:=hst.out.b0.cell 2
 rw [hW0] at n0
 replace hW0:=hide hW0
 replace hki : Hid _:=hide hki
 replace h:=hide h
 replace hlf:=hide hlf
 replace hN:=hide hN
 replace hK:=hide hK
 replace hr:=hide hr
 replace hsk:=hide hsk
 clear n1 n2
 go_enter Tryz.func120,Tryz.ntmps120
 go_upto_if 16 with (fail)
 rw [<- hW0.out]
 rw [<- hW0.out] at n0
 go_cut [9] (fun v9 wx => v9=.int .i64 (sk : Int)/\wx=W0)
 case first =>
   cases lf with
   | true =>
     have hs0 : sk=0:=skv.out
     go_wp2_with fail
     go_meet
     case rel => exact ⟨by rw [hs0]; rfl,rfl⟩
   | false =>
     have hs0 : sk=1:=skv.out
     go_wp2_with fail
     go_meet
     case rel => exact ⟨by rw [hs0]; rfl,rfl⟩
 obtain ⟨rfl,rfl⟩:=hcut
 have hskN : Hid (1 + sk < N):=hide (by rw [hsk.out,hN.out]; exact hp)
 have hNb : N < 65536:=by rw [hN.out]; exact hmany
 have hsk1 : sk<=1:=by rw [skv.out]; split <;> omega
 clear hp hmany
 go_wp2_with fail
 go_loopw [7,8,10] (fun v7 v8 v10 wx => ∃ (best m : Nat) (la lb : Bool) (A1 B1 A2 B2 : Option Addr) (x1 c1 y1 d1 x2 c2 y2 d2 : Nat) (kA : Option Addr) (kl kc : Nat),v7=.slice kA kl kc/\v8=.int .i64 (best : Int)/\v10=.int .i64 (m : Int)/\Hid (HvS w G G2 n #[.bool lf,.slice A N c,.slice B K d] #[.bool false,.slice none 0 0,.slice none 0 0] #[.bool false,.slice none 0 0,.slice none 0 0] (.slice kA kl kc) best m #[.bool la,.slice A1 x1 c1,.slice B1 y1 d1] #[.bool lb,.slice A2 x2 c2,.slice B2 y2 d2] wx)) (fun _ _ v10 _ => N - (intOf v10).toNat)
 case atStart => exact ⟨0,1,false,false,none,none,none,none,0,0,0,0,0,0,0,0,none,0,0,rfl,rfl,rfl,hst⟩
 case round =>
   obtain ⟨best,m,la,lb,A1,B1,A2,B2,x1,c1,y1,d1,x2,c2,y2,d2,kA,kl,kc,rfl,rfl,rfl,hS⟩:=hrel
   clear hst n0
   have n0:=hS.out.b0.cell 0
   have n1:=hS.out.b0.cell 1
   have n2:=hS.out.b0.cell 2
   have hm1:=hS.out.m1
   have hm2 : m + sk<=N:=by rw [hsk.out,hN.out]; exact hS.out.m2
   by_cases hlt : m + sk < N
   · have t1 : decide ((m : Int) + (sk : Int) < (N : Int)) = true := decide_eq_true (by omega)
     have hb0 : (0 : Int)<=(m : Int):=by omega
     have hpA : Hid (∀ wz,Below wr.heap.size wr wz->Calls Tryz.prog 149 #[.agg #[.bool lf,.slice A N c,.slice B K d],.int .i64 0,.int .i64 (m : Int)] wz (PartRet wz G (partP n 0 m))):=hide fun wz hB => hpt.out 0 m wz (Nat.zero_le _) (by omega) (hS.out.bel.trans (hB.mono hS.out.bel.size))
     have hpB : Hid (∀ wz,Below wr.heap.size wr wz->Calls Tryz.prog 149 #[.agg #[.bool lf,.slice A N c,.slice B K d],.int .i64 ((m : Int) + (sk : Int)),.int .i64 (N : Int)] wz (PartRet wz G (partP n (m + sk) N))):=hide fun wz hB => by
       have h9:=hpt.out (m + sk) N wz (by omega) (Nat.le_refl _) (hS.out.bel.trans (hB.mono hS.out.bel.size))
       rw [show ((m + sk : Nat) : Int)=(m : Int) + (sk : Int) from by omega] at h9
       exact h9
     have hkeep : Hid (∀ wz,Below wr.heap.size wr wz->(wz.cell? ⟨w.heap.size,0,none⟩=some (.bool lf)/\wz.cell? ⟨w.heap.size,1,none⟩=some (.slice A N c)/\wz.cell? ⟨w.heap.size,2,none⟩=some (.slice B K d))):=hide fun wz hz =>
       ⟨(hz.cell (p:=⟨w.heap.size,0,none⟩) hS.out.b0.lt).trans n0,(hz.cell (p:=⟨w.heap.size,1,none⟩) hS.out.b0.lt).trans n1,(hz.cell (p:=⟨w.heap.size,2,none⟩) hS.out.b0.lt).trans n2⟩
     have hwr : Hid (w.heap.size<=wr.heap.size):=hide hS.out.bel.size
     have hmI : (m : Int)<=65536:=by omega
     have hskI : (sk : Int)<=1:=by omega
     have hsk0 : (0 : Int)<=(sk : Int):=by omega
     have hwms : IntKind.i64.wrap ((m : Int) + (sk : Int))=(m : Int) + (sk : Int):=IntWalk.i64_in _ (by omega)
     go_upto_region 10 with (fail)
     refine wp_region_any (by kernel_rfl) ?_
     refine wpAny_inv (HI wr G (.agg #[.bool lf,.slice A N c,.slice B K d]) (.slice kA kl kc) A w.heap.size N c m sk best (partP n 0 m) (partP n (m + sk) N) ?U0) (by kernel_rfl) ?_ ?_ _ _ _ _ (by simp) (by decide) ?init
     case init => exact HI.mk (Below.refl _ wr).drew
     · generalize U0V _ = U0
       rintro listed i act w7 hls ⟨U,rfl,hC⟩ hi
       obtain ⟨hi1,hi2⟩:=List.mem_filter.1 hi
       have hi15 : i < 15:=List.mem_range.1 hi1
       have hl15 : listed.size=15:=hls
       have hk7:=hkeep.out w7 hC.bel
       obtain ⟨q0,q1,q2⟩:=hk7
       clear hi hi1 hls n0 n1 n2
       match i,hi15,hi2 with
       | 0, _, hd =>
         have hN1:=hide (hC.pure0)
         replace hC:=hide hC
         clear hd
         refine wpOp_list rfl ?_
         go_wp2_with fail
         exact HI.next 0 (by decide) hl15 _ (by first | rfl | simp [upUv]) hN1.out
       | 1, _, hd =>
         have hN1:=hide (hC.pure1)
         replace hC:=hide hC
         clear hd
         refine wpOp_list rfl ?_
         go_wp2_with fail
         exact HI.next 1 (by decide) hl15 _ (by first | rfl | simp [upUv]) hN1.out
       | 2, _, hd =>
         have hdn:=getDv_false (listed:=listed) (i:=2) (by simp only [Bool.and_eq_true] at hd; exact hd.1)
         have hdd : listed.getD 0 false=true/\listed.getD 1 false=true:=by
           simp only [Array.getD_eq_getD_getElem?]; simp [Region.binds] at hd; exact ⟨by simp [hd],by simp [hd]⟩
         obtain ⟨hd0,hd1⟩:=hdd
         have hv0:=hC.s0 hd0
         have hv1:=hC.s1 hd1
         have hC2:=hide hC
         have hcl:=hide (hpA.out w7 hC.bel)
         clear hd hC q0 q1 q2 hd0 hd1
         refine wpOp_list rfl ?_
         go_wp2_with (first | (go_at_call 149; refine hcl.out.mono ?_; rintro e wa ⟨XA,xc,XB,xd,rfl,hxa,hBa⟩; have hNM : NodeM G wr _ _:=hxa.keep (w':=wr) fun k hk => ⟨hk,((hC2.out.bel.trans (hBa.mono hC2.out.bel.size)).block k (Nat.lt_of_lt_of_le (hG k hk) (hwr.out))).symm⟩; have hN1:=hide (hC2.out.call2 hdn hBa ⟨XA,xc,XB,xd,rfl,hNM⟩); replace hxa:=hide hxa; replace hBa:=hide hBa; replace hNM:=hide hNM))
         exact HI.next 2 (by decide) hl15 _ (by first | rfl | simp [upUv,hv0,hv1]) hN1.out
       | 3, _, hd =>
         have hN1:=hide (hC.pure3)
         replace hC:=hide hC
         clear hd
         refine wpOp_list rfl ?_
         go_wp2_with fail
         exact HI.next 3 (by decide) hl15 _ (by first | rfl | simp [upUv]) hN1.out
       | 4, _, hd =>
         have hN1:=hide (hC.pure4)
         replace hC:=hide hC
         clear hd
         refine wpOp_list rfl ?_
         go_wp2_with fail
         exact HI.next 4 (by decide) hl15 _ (by first | rfl | simp [upUv]) hN1.out
       | 5, _, hd =>
         have hN1:=hide (hC.pure5)
         replace hC:=hide hC
         clear hd
         refine wpOp_list rfl ?_
         go_wp2_with fail
         exact HI.next 5 (by decide) hl15 _ (by first | rfl | simp [upUv]) hN1.out
       | 6, _, hd =>
         have hdd : listed.getD 4 false=true/\listed.getD 5 false=true:=by
           simp only [Array.getD_eq_getD_getElem?]; simp [Region.binds] at hd; exact ⟨by simp [hd],by simp [hd]⟩
         obtain ⟨hd4,hd5⟩:=hdd
         have hv4:=hC.s4 hd4
         have hv5:=hC.s5 hd5
         have hN1:=hide (hC.pure6)
         replace hC:=hide hC
         clear hd hd4 hd5
         refine wpOp_list rfl ?_
         go_wp2_with fail
         exact HI.next 6 (by decide) hl15 _ (by first | rfl | simp [upUv,hv4,hv5]) hN1.out
       | 7, _, hd =>
         have hN1:=hide (hC.pure7)
         replace hC:=hide hC
         clear hd
         refine wpOp_list rfl ?_
         go_wp2_with fail
         exact HI.next 7 (by decide) hl15 _ (by first | rfl | simp [upUv]) hN1.out
       | 8, _, hd =>
         have hd7 : listed.getD 7 false=true:=by rw [Array.getD_eq_getD_getElem?]; simp [Region.binds] at hd; simp [hd]
         have hv7:=hC.s7 hd7
         have hN1:=hide (hC.pure8)
         replace hC:=hide hC
         clear hd hd7
         refine wpOp_list rfl ?_
         go_wp2_with fail
         exact HI.next 8 (by decide) hl15 _ (by first | rfl | simp [upUv,hv7]) hN1.out
       | 9, _, hd =>
         have hd8 : listed.getD 8 false=true:=by rw [Array.getD_eq_getD_getElem?]; simp [Region.binds] at hd; simp [hd]
         have hv8:=hC.s8 hd8
         have hN1:=hide (hC.pure9)
         replace hC:=hide hC
         clear hd hd8
         refine wpOp_list rfl ?_
         go_wp2_with fail
         exact HI.next 9 (by decide) hl15 _ (by first | rfl | simp [upUv,hv8]) hN1.out
       | 10, _, hd =>
         have hdn:=getDv_false (listed:=listed) (i:=10) (by simp only [Bool.and_eq_true] at hd; exact hd.1)
         have hdd : listed.getD 3 false=true/\listed.getD 6 false=true/\listed.getD 9 false=true:=by
           simp only [Array.getD_eq_getD_getElem?]; simp [Region.binds] at hd; exact ⟨by simp [hd],by simp [hd],by simp [hd]⟩
         obtain ⟨hd3,hd6,hd9⟩:=hdd
         have hv3:=hC.s3 hd3
         have hv6:=hC.s6 hd6
         have hv9:=hC.s9 hd9
         have hC2:=hide hC
         have hcl:=hide (hpB.out w7 hC.bel)
         clear hd hC q0 q1 q2 hd3 hd6 hd9
         refine wpOp_list rfl ?_
         go_wp2_with (first | (go_at_call 149; refine hcl.out.mono ?_; rintro e wa ⟨XA,xc,XB,xd,rfl,hxa,hBa⟩; have hNM : NodeM G wr _ _:=hxa.keep (w':=wr) fun k hk => ⟨hk,((hC2.out.bel.trans (hBa.mono hC2.out.bel.size)).block k (Nat.lt_of_lt_of_le (hG k hk) (hwr.out))).symm⟩; have hN1:=hide (hC2.out.call10 hdn hBa ⟨XA,xc,XB,xd,rfl,hNM⟩); replace hxa:=hide hxa; replace hBa:=hide hBa; replace hNM:=hide hNM))
         exact HI.next 10 (by decide) hl15 _ (by first | rfl | simp [upUv,hv3,hv6,hv9]) hN1.out
       | 11, _, hd =>
         have hdn:=getDv_false (listed:=listed) (i:=11) (by simp only [Bool.and_eq_true] at hd; exact hd.1)
         have hN1:=hide (hC.alloc11 (p0:=.bool false) (p1:=.slice none 0 0) (p2:=.slice none 0 0) hdn)
         replace hC:=hide hC
         clear hd hdn
         refine wpOp_list rfl ?_
         go_wp2_with fail
         exact HI.next 11 (by decide) hl15 _ (by first | rfl | simp [upUv]) hN1.out
       | 12, _, hd =>
         have hdn:=getDv_false (listed:=listed) (i:=12) (by simp only [Bool.and_eq_true] at hd; exact hd.1)
         have hN1:=hide (hC.alloc12 (p0:=.bool false) (p1:=.slice none 0 0) (p2:=.slice none 0 0) hdn)
         replace hC:=hide hC
         clear hd hdn
         refine wpOp_list rfl ?_
         go_wp2_with fail
         exact HI.next 12 (by decide) hl15 _ (by first | rfl | simp [upUv]) hN1.out
       | 13, _, hd =>
         have hdd : listed.getD 11 false=true/\listed.getD 2 false=true:=by
           simp only [Array.getD_eq_getD_getElem?]; simp [Region.binds] at hd; exact ⟨by simp [hd],by simp [hd]⟩
         obtain ⟨hd11,hd2⟩:=hdd
         obtain ⟨gx,hgx,hgl,⟨p0,p1,p2,hbx⟩,_⟩:=hC.x hd11
         obtain ⟨XA,xc,XB,xd,hxv,_⟩:=hC.s2 hd2
         have hN1:=hide (hC.store13 hd11 hd2 hgx hxv)
         have z0:=hbx.cell 0
         have z1:=hbx.cell 1
         have z2:=hbx.cell 2
         have y0:=hbx.frozen 0
         have y1:=hbx.frozen 1
         have y2:=hbx.frozen 2
         replace hbx:=hide hbx
         replace hC:=hide hC
         clear hd hd11 hd2
         refine wpOp_list rfl ?_
         go_wp2_with fail
         exact HI.next 13 (by decide) hl15 U (by simp [hgx,hxv]) hN1.out
       | 14, _, hd =>
         have hdd : listed.getD 12 false=true/\listed.getD 10 false=true:=by
           simp only [Array.getD_eq_getD_getElem?]; simp [Region.binds] at hd; exact ⟨by simp [hd],by simp [hd]⟩
         obtain ⟨hd12,hd10⟩:=hdd
         obtain ⟨gx,hgx,hgl,⟨p0,p1,p2,hbx⟩,_⟩:=hC.y hd12
         obtain ⟨XA,xc,XB,xd,hxv,_⟩:=hC.s10 hd10
         have hN1:=hide (hC.store14 hd12 hd10 hgx hxv)
         have z0:=hbx.cell 0
         have z1:=hbx.cell 1
         have z2:=hbx.cell 2
         have y0:=hbx.frozen 0
         have y1:=hbx.frozen 1
         have y2:=hbx.frozen 2
         replace hbx:=hide hbx
         replace hC:=hide hC
         clear hd hd12 hd10
         refine wpOp_list rfl ?_
         go_wp2_with fail
         exact HI.next 14 (by decide) hl15 U (by simp [hgx,hxv]) hN1.out
     · rintro listed act w7 hls ⟨U, rfl, hC⟩ hall
       have ef14:=hC.fix 14 rfl
       have ef15:=hC.fix 15 rfl
       have ef16:=hC.fix 16 rfl
       have ef58:=hC.fix 58 rfl
       have ef59:=hC.fix 59 rfl
       have ef60:=hC.fix 60 rfl
       simp [U0V] at ef14 ef15 ef16 ef58 ef59 ef60
       rw [ef14,ef15,ef16,ef58,ef59,ef60]
       clear ef14 ef15 ef16 ef58 ef59 ef60
       have hL:=fun i hi => getDv_true (n:=15) hls hall i hi
       obtain ⟨gx,hgx,hglx,_,hbx⟩:=hC.x (hL 11 (by decide))
       obtain ⟨gy,hgy,hgly,_,hby⟩:=hC.y (hL 12 (by decide))
       obtain ⟨XA,xc,XB,xd,hxv,hxm⟩:=hC.s2 (hL 2 (by decide))
       obtain ⟨YA,yc,YB,yd,hyv,hym⟩:=hC.s10 (hL 10 (by decide))
       obtain ⟨cs,e1,hbx⟩:=hbx (hL 13 (by decide))
       obtain ⟨cs2,e2,hby⟩:=hby (hL 14 (by decide))
       rw [hxv] at e1
       rw [hyv] at e2
       rw [hxv] at hxm
       rw [hyv] at hym
       injection e1 with e1
       injection e2 with e2
       subst e1
       subst e2
       have hbel:=hC.bel
       have hpr : RightP (partP n 0 m)/\RightP (partP n (m + sk) N):=⟨hr.out.part (Nat.zero_le _) (by have:=hN.out; omega),hr.out.part (by have:=hN.out; omega) (by rw [hN.out]; exact Nat.le_refl _)⟩
       have hzx : sizeP (partP n 0 m)<=100000/\sizeP (partP n (m + sk) N)<=100000:=by
         have e1:=size_partA n m
         have e2:=size_partB n (m + sk)
         have e3:=sumTo_drop n m
         have e4:=sumTo_drop n (m + sk)
         have e5 : sizeP n=(if n.leaf=true then 3 else 6) + cellsZ n.leaf n.cells:=rfl
         rw [hN.out]
         constructor <;> omega
       obtain ⟨ZX,hZX⟩ : ∃ ZX,ZX=sizeP (partP n 0 m):=⟨_,rfl⟩
       obtain ⟨ZY,hZY⟩ : ∃ ZY,ZY=sizeP (partP n (m + sk) N):=⟨_,rfl⟩
       obtain ⟨Z,hZ⟩ : ∃ Z,Z=bigAt n m:=⟨_,rfl⟩
       have hmx : max (ZX : Int) (ZY : Int)=(Z : Int):=by
         have e : Z=max ZX ZY:=by rw [hZ,hZX,hZY]; unfold bigAt; rw [<- hsk.out,<- hN.out]
         omega
       have hsX : Hid (∀ wz,Below wr.heap.size wr wz->Calls Tryz.prog 50 #[.agg #[.bool (partP n 0 m).leaf,.slice XA (partP n 0 m).cells.length xc,.slice XB (partP n 0 m).kids.length xd]] wz fun e w' => e=.returned (.int .i64 (ZX : Int))/\Below wz.heap.size wz w'):=hide fun wz hB => by
         rw [hZX]
         exact size_any wz _ _ (hxm.keep fun k hk => ⟨Nat.lt_of_lt_of_le (Nat.lt_of_lt_of_le (hG k hk) hwr.out) hB.size,hB.block k (Nat.lt_of_lt_of_le (hG k hk) hwr.out)⟩) hpr.1 hzx.1
       have hsY : Hid (∀ wz,Below wr.heap.size wr wz->Calls Tryz.prog 50 #[.agg #[.bool (partP n (m + sk) N).leaf,.slice YA (partP n (m + sk) N).cells.length yc,.slice YB (partP n (m + sk) N).kids.length yd]] wz fun e w' => e=.returned (.int .i64 (ZY : Int))/\Below wz.heap.size wz w'):=hide fun wz hB => by
         rw [hZY]
         exact size_any wz _ _ (hym.keep fun k hk => ⟨Nat.lt_of_lt_of_le (Nat.lt_of_lt_of_le (hG k hk) hwr.out) hB.size,hB.block k (Nat.lt_of_lt_of_le (hG k hk) hwr.out)⟩) hpr.2 hzx.2
       obtain ⟨la',hla'⟩ : ∃ b,b=(partP n 0 m).leaf:=⟨_,rfl⟩
       obtain ⟨lb',hlb'⟩ : ∃ b,b=(partP n (m + sk) N).leaf:=⟨_,rfl⟩
       obtain ⟨ca,hca⟩ : ∃ b,b=(partP n 0 m).cells.length:=⟨_,rfl⟩
       obtain ⟨cb,hcb⟩ : ∃ b,b=(partP n (m + sk) N).cells.length:=⟨_,rfl⟩
       obtain ⟨ka,hka⟩ : ∃ b,b=(partP n 0 m).kids.length:=⟨_,rfl⟩
       obtain ⟨kb,hkb⟩ : ∃ b,b=(partP n (m + sk) N).kids.length:=⟨_,rfl⟩
       rw [<- hla',<- hca,<- hka] at hsX hbx hxm
       rw [<- hlb',<- hcb,<- hkb] at hsY hby hym
       have x0:=hbx.cell 0
       have x1:=hbx.cell 1
       have x2:=hbx.cell 2
       have y0:=hby.cell 0
       have y1:=hby.cell 1
       have y2:=hby.cell 2
       have hkp7 : Hid (∀ wz,Below w7.heap.size w7 wz->(wz.cell? ⟨gx,0,none⟩=some (.bool la')/\wz.cell? ⟨gx,1,none⟩=some (.slice XA ca xc)/\wz.cell? ⟨gx,2,none⟩=some (.slice XB ka xd)/\wz.cell? ⟨gy,0,none⟩=some (.bool lb')/\wz.cell? ⟨gy,1,none⟩=some (.slice YA cb yc)/\wz.cell? ⟨gy,2,none⟩=some (.slice YB kb yd))):=hide fun wz hz =>
         ⟨(hz.cell (p:=⟨gx,0,none⟩) hbx.lt).trans x0,(hz.cell (p:=⟨gx,1,none⟩) hbx.lt).trans x1,(hz.cell (p:=⟨gx,2,none⟩) hbx.lt).trans x2,(hz.cell (p:=⟨gy,0,none⟩) hby.lt).trans y0,(hz.cell (p:=⟨gy,1,none⟩) hby.lt).trans y1,(hz.cell (p:=⟨gy,2,none⟩) hby.lt).trans y2⟩
       rw [hgx,hgy]
       replace hbx:=hide hbx
       replace hby:=hide hby
       replace hxm:=hide hxm
       replace hym:=hide hym
       replace hbel:=hide hbel
       replace hC:=hide hC
       replace hgx:=hide hgx
       replace hgy:=hide hgy
       replace hxv:=hide hxv
       replace hyv:=hide hyv
       replace hZX:=hide hZX
       replace hZY:=hide hZY
       replace hZ:=hide hZ
       replace hla':=hide hla'
       replace hlb':=hide hlb'
       replace hca:=hide hca
       replace hcb:=hide hcb
       replace hka:=hide hka
       replace hkb:=hide hkb
       replace hpr:=hide hpr
       replace hzx:=hide hzx
       replace hL : Hid _:=hide hL
       replace hall : Hid _:=hide hall
       clear hpA hpB hkeep
       go_upto_region 11 with (fail)
       go_cut [13] (fun v13 wx => v13=.int .i64 (Z : Int)/\Hid (Below w7.heap.size w7 wx))
       case first =>
         go_region_held3 (fun w' => w'.cell? ⟨gx,0,none⟩=some (.bool la')/\w'.cell? ⟨gx,1,none⟩=some (.slice XA ca xc)/\w'.cell? ⟨gx,2,none⟩=some (.slice XB ka xd)/\w'.cell? ⟨gy,0,none⟩=some (.bool lb')/\w'.cell? ⟨gy,1,none⟩=some (.slice YA cb yc)/\w'.cell? ⟨gy,2,none⟩=some (.slice YB kb yd)) (first | exact ⟨x0,x1,x2,y0,y1,y2⟩ | (with_reducible exact hkp7.out _ hb2.out) | (with_reducible exact hkp7.out _ hb1.out)) (first
           | (go_at_call 50; (with_reducible refine (hsX.out _ (hbel.out.trans ((by first | (with_reducible exact hb2.out) | (with_reducible exact (Below.refl _ w7).drew) : Below w7.heap.size w7 _).mono hbel.out.size))).mono ?_); rintro e w8 ⟨rfl,hB8⟩; have hb1 : Hid (Below w7.heap.size w7 w8):=hide (Below.trans (by first | (with_reducible exact hb2.out) | (with_reducible exact (Below.refl _ w7).drew)) (hB8.mono (by first | (with_reducible exact hb2.out.size) | exact Nat.le_refl _))); replace hB8:=hide hB8)
           | (go_at_call 50; (with_reducible refine (hsY.out _ (hbel.out.trans ((by first | (with_reducible exact hb1.out) | (with_reducible exact (Below.refl _ w7).drew) : Below w7.heap.size w7 _).mono hbel.out.size))).mono ?_); rintro e w9 ⟨rfl,hB9⟩; have hb2 : Hid (Below w7.heap.size w7 w9):=hide (Below.trans (by first | (with_reducible exact hb1.out) | (with_reducible exact (Below.refl _ w7).drew)) (hB9.mono (by first | (with_reducible exact hb1.out.size) | exact Nat.le_refl _))); replace hB9:=hide hB9))
         all_goals go_wp2_with fail
         all_goals go_meet
         all_goals exact ⟨by first | rfl | rw [hmx],by first | (with_reducible exact hb2) | (with_reducible exact hb1)⟩
       case rest =>
         obtain ⟨rfl,hb9⟩:=hcut
         have hZ0 : 0 < Z:=by rw [hZ.out]; exact bigAt_pos n m
         have hstep:=best_step n m hm1 (by rw [<- hsk.out,<- hN.out]; exact hlt)
         have hw1 : Below w.heap.size w wc:=hS.out.bel.trans ((hbel.out.trans (hb9.out.mono hbel.out.size)).mono hS.out.bel.size)
         have hbr : Below wr.heap.size wr wc:=hbel.out.trans (hb9.out.mono hbel.out.size)
         have e0:=hS.out.b0.below hbr hS.out.b0.lt
         have e1:=hS.out.b1.below hbr hS.out.b1.lt
         have e2:=hS.out.b2.below hbr hS.out.b2.lt
         have ea:=hS.out.ba.below hbr hS.out.ba.lt
         have eb:=hS.out.bb.below hbr hS.out.bb.lt
         have ex:=hbx.out.below hb9.out hbx.out.lt
         have ey:=hby.out.below hb9.out hby.out.lt
         have hmN : Hid (((m : Int) + 1)=((m + 1 : Nat) : Int)):=hide (by omega)
         have hm7 : (m : Int)<=65535:=by omega
         have hm2' : m + 1 + skipN n<=n.cells.length:=by rw [<- hsk.out,<- hN.out]; omega
         have hbst:=hS.out.bst
         have hgot:=hS.out.got
         have hkpG : ∀ {W : World},Below wr.heap.size wr W->∀ k,G k->G k/\W.heap[k]?=wr.heap[k]?:=fun hB k hk => ⟨hk,hB.block k (Nat.lt_of_lt_of_le (hG k hk) hwr.out)⟩
         clear x0 x1 x2 y0 y1 y2 hsX hsY hkp7 n0 n1 n2 hwms
         have n0:=e0.cell 0
         have n1:=e0.cell 1
         have n2:=e0.cell 2
         by_cases hup : (bestTo n m).1=0 \/ bigAt n m < (bestTo n m).1
         · rw [if_pos hup] at hstep
           have hml : m < n.cells.length:=by rw [<- hN.out]; omega
           have hNW:=(h.out.keep (w':=wc) fun k hk => ⟨hk,hw1.block k (hG k hk)⟩)
           obtain ⟨A5,c5,B5,d5,e5,hc5,hd5,hcs5,hks5⟩:=hNW
           injection e5 with e5
           simp at e5
           obtain ⟨g1,⟨rfl,g2,rfl⟩,rfl,g3,rfl⟩:=e5
           clear g1 g2 g3
           obtain ⟨ad,kA2,vA2,kc2,vc2,eA,hh⟩:=hcs5.at_ m hml
           subst eA
           obtain ⟨U1,hU1⟩ : ∃ U1,U1=(keyOfC n.cells m).length:=⟨_,rfl⟩
           have hkey : (n.cells[m]).key=keyOfC n.cells m:=(keyOfC_at (List.getElem?_eq_getElem hml)).symm
           have r0:=hh.c0
           have hkr : Rd G2 w 1 kA2 (n.cells[m]).key.length (bv (n.cells[m]).key):=hki.out _ _ _ _ _ _ _ rfl m _ ad kA2 kc2 (List.getElem?_eq_getElem hml) rfl ((World.cell?_of_block (hw1.block _ (hG _ hh.blk))).symm.trans hh.c0)
           have hkl:=hh.kle
           rw [hkey,<- hU1] at r0 hkr hkl
           have hmNI : (m : Int) < (N : Int):=by omega
           have hmNN : m < N:=by omega
           have x0:=ex.cell 0
           have x1:=ex.cell 1
           have x2:=ex.cell 2
           have y0:=ey.cell 0
           have y1:=ey.cell 1
           have y2:=ey.cell 2
           have a0:=ea.cell 0
           have a1:=ea.cell 1
           have a2:=ea.cell 2
           have b0:=eb.cell 0
           have b1:=eb.cell 1
           have b2:=eb.cell 2
           have za0:=ea.frozen 0
           have za1:=ea.frozen 1
           have za2:=ea.frozen 2
           have zb0:=eb.frozen 0
           have zb1:=eb.frozen 1
           have zb2:=eb.frozen 2
           have hfin : Hid (∀ W,Only (fun k => k=w.heap.size + 3 \/ k=w.heap.size + 4) wc W->Blk W (w.heap.size + 3) 89 #[.bool la',.slice XA ca xc,.slice XB ka xd]->Blk W (w.heap.size + 4) 89 #[.bool lb',.slice YA cb yc,.slice YB kb yd] ->
               HvS w G G2 n #[.bool lf,.slice (some ad) N c,.slice B K d] #[.bool false,.slice none 0 0,.slice none 0 0] #[.bool false,.slice none 0 0,.slice none 0 0] (.slice kA2 U1 kc2) Z (m + 1) #[.bool la',.slice XA ca xc,.slice XB ka xd] #[.bool lb',.slice YA cb yc,.slice YB kb yd] W):=hide (by
             intro W hO hA hB
             have hbW : Below w.heap.size w W:=hw1.trans (hO.below (B:=w.heap.size) (fun k hk => by omega) hw1.size)
             have hkw : ∀ k,G k->G k/\W.heap[k]?=w.heap[k]?:=fun k hk => ⟨hk,hbW.block k (hG k hk)⟩
             have hk0 : ∀ k,G k->G k/\w.heap[k]?=wr.heap[k]?:=fun k hk => ⟨hk,(hS.out.bel.block k (hG k hk)).symm⟩
             have hk1 : ∀ k,G k->G k/\w.heap[k]?=wc.heap[k]?:=fun k hk => ⟨hk,(hw1.block k (hG k hk)).symm⟩
             refine ⟨hbW,hO.blk e0 (by omega),hO.blk e1 (by omega),hO.blk e2 (by omega),hA,hB,by omega,hm2',by rw [hstep]; exact hZ.out,fun _ => ?_⟩
             rw [hstep]
             refine ⟨(hxm.out.keep hk0).keep hkw,?_,kA2,kc2,by rw [hU1],?_,by rw [<- hU1]; exact hkl⟩
             · have h9 := (hym.out.keep hk0).keep hkw
               rw [hsk.out,hN.out] at h9
               exact h9
             · have h9 := Rd.keep hkr (w' := W) (G' := G2) fun k hk => ⟨hk, hbW.block k (hG2 k hk)⟩
               rw [hU1] at h9
               exact h9)
           replace hstep:=hide hstep
           replace e0:=hide e0
           replace e1:=hide e1
           replace e2:=hide e2
           replace ea:=hide ea
           replace eb:=hide eb
           replace ex:=hide ex
           replace ey:=hide ey
           replace hw1:=hide hw1
           replace hbr:=hide hbr
           replace hbst:=hide hbst
           replace hgot : Hid _:=hide hgot
           replace hm2':=hide hm2'
           replace hmx:=hide hmx
           replace hh:=hide hh
           replace hcs5:=hide hcs5
           replace hks5:=hide hks5
           replace hU1:=hide hU1
           replace hkey:=hide hkey
           replace hkr:=hide hkr
           replace hkl:=hide hkl
           clear hkpG hc5 hd5
           have hcond : (best=0/\((best : Int) == 0)=true) \/ (((best : Int) == 0)=false/\decide ((Z : Int) < (best : Int))=true/\decide (Z < best)=true):=by
             by_cases hb : best=0
             · exact .inl ⟨hb,by rw [hb]; rfl⟩
             · rcases hup with h9 | h9
               · exact absurd (hbst.out.trans h9) hb
               · rw [<- hZ.out, <- hbst.out] at h9
                 exact .inr ⟨by rw [beq_eq_false_iff_ne]; omega,decide_eq_true (by omega),decide_eq_true h9⟩
           replace hup:=hide hup
           have hgs:=hS.out.bb.lt
           have hpb:=hG _ hh.out.blk
           have hOS : Hid (∀ W,Only (fun k => k=w.heap.size + 1 + 1 + 1 \/ k=w.heap.size + 1 + 1 + 1 + 1) wc W->(W.cell? ⟨w.heap.size,1,none⟩=some (.slice (some ad) N c)/\W.cell? ⟨gx,0,none⟩=some (.bool la')/\W.cell? ⟨gx,1,none⟩=some (.slice XA ca xc)/\W.cell? ⟨gx,2,none⟩=some (.slice XB ka xd)/\W.cell? ⟨gy,0,none⟩=some (.bool lb')/\W.cell? ⟨gy,1,none⟩=some (.slice YA cb yc)/\W.cell? ⟨gy,2,none⟩=some (.slice YB kb yd)/\W.cell? (ad.add (m * 4))=some (.slice kA2 U1 kc2))):=hide (by
             intro W hO
             have q : ∀ (p : Addr) u,wc.cell? p=some u->p.block < wc.heap.size->p.block ≠ w.heap.size + 1 + 1 + 1->p.block ≠ w.heap.size + 1 + 1 + 1 + 1->W.cell? p=some u:=fun p u hu hl h1 h2 => (World.cell?_of_block (hO.block p.block hl (fun h => h.elim h1 h2))).trans hu
             have l0:=e0.out.lt
             have l1:=ex.out.lt
             have l2:=ey.out.lt
             have l3:=hw1.out.size
             exact ⟨q ⟨w.heap.size,1,none⟩ _ n1 l0 (by simp <;> omega) (by simp <;> omega),q ⟨gx,0,none⟩ _ x0 l1 (by simp <;> omega) (by simp <;> omega),q ⟨gx,1,none⟩ _ x1 l1 (by simp <;> omega) (by simp <;> omega),q ⟨gx,2,none⟩ _ x2 l1 (by simp <;> omega) (by simp <;> omega),
               q ⟨gy,0,none⟩ _ y0 l2 (by simp <;> omega) (by simp <;> omega),q ⟨gy,1,none⟩ _ y1 l2 (by simp <;> omega) (by simp <;> omega),q ⟨gy,2,none⟩ _ y2 l2 (by simp <;> omega) (by simp <;> omega),q (ad.add (m * 4)) _ r0 (by omega) (by omega) (by omega)⟩)
           have ea' : Blk wc (w.heap.size + 1 + 1 + 1) 89 _:=ea.out
           have eb' : Blk wc (w.heap.size + 1 + 1 + 1 + 1) 89 _:=eb.out
           have hgx0 : w.heap.size + 4 < gx:=by omega
           have hgy0 : w.heap.size + 4 < gy:=by omega
           replace ea':=hide ea'
           replace eb':=hide eb'
           clear hgs hpb
           have hdone:=hide (hfin.out _ (only_s3 (only_s3 (Only.refl _ wc) (.inl rfl) (.bool la') (.slice XA ca xc) (.slice XB ka xd)) (.inr rfl) (.bool lb') (.slice YA cb yc) (.slice YB kb yd)).drew
             (blk_far3 (Node3.own ⟨_,_,_,ea'.out⟩ (.bool la') (.slice XA ca xc) (.slice XB ka xd)) (by omega) _ _ _).drew (Node3.own ⟨_,_,_,blk_far3 eb'.out (by omega) _ _ _⟩ _ _ _).drew)
           obtain ⟨u10,u11,u12,u13,u14',u15',u16',u17'⟩:=hOS.out _ (only_s3 (Only.refl _ wc) (.inl rfl) (.bool la') (.slice XA ca xc) (.slice XB ka xd))
           obtain ⟨v10,v11,v12,v13,v14,v15,v16,v17⟩:=hOS.out _ (only_s3 (Only.refl _ wc) (.inr rfl) (.bool lb') (.slice YA cb yc) (.slice YB kb yd))
           have hmI0 : (0 : Int)<=(m : Int):=by omega
           rcases hcond with ⟨hbz,f1⟩ | ⟨f1,f2,f3⟩
           · go_upto_region 13 with (fail)
             go_region
             all_goals
               go_wp2_with fail
               exact ⟨⟨Z,m + 1,la',lb',XA,XB,YA,YB,ca,xc,ka,xd,cb,yc,kb,yd,kA2,U1,kc2,rfl,rfl,by rw [hmN.out],hdone⟩,by simp [intOf]; omega⟩
           · go_upto_region 13 with (fail)
             go_region
             all_goals
               go_wp2_with fail
               exact ⟨⟨Z,m + 1,la',lb',XA,XB,YA,YB,ca,xc,ka,xd,cb,yc,kb,yd,kA2,U1,kc2,rfl,rfl,by rw [hmN.out],hdone⟩,by simp [intOf]; omega⟩
         · rw [if_neg hup] at hstep
           have hbn : ¬ best=0:=fun e => hup (.inl (by rw [<- hbst]; exact e))
           have f1 : ((best : Int) == 0)=false:=by rw [beq_eq_false_iff_ne]; omega
           have f2 : decide ((Z : Int) < (best : Int))=false:=by
             refine decide_eq_false fun h9 => hup (.inr ?_)
             rw [<- hZ.out,<- hbst]; omega
           have f3 : decide (Z < best)=false:=decide_eq_false (by have:=of_decide_eq_false f2; omega)
           have hnew : Hid (HvS w G G2 n #[.bool lf,.slice A N c,.slice B K d] #[.bool false,.slice none 0 0,.slice none 0 0] #[.bool false,.slice none 0 0,.slice none 0 0] (.slice kA kl kc) best (m + 1) #[.bool la,.slice A1 x1 c1,.slice B1 y1 d1] #[.bool lb,.slice A2 x2 c2,.slice B2 y2 d2] wc):=hide (by
             refine ⟨hw1,e0,e1,e2,ea,eb,by omega,hm2',by rw [hstep]; exact hbst,fun h => ?_⟩
             obtain ⟨g1,g2,kA',kc',g3,g4,g5⟩:=hgot h
             rw [hstep]
             exact ⟨g1.keep (hkpG hbr),g2.keep (hkpG hbr),kA',kc',g3,Rd.keep g4 (fun k hk => ⟨hk,hbr.block k (Nat.lt_of_lt_of_le (hG2 k hk) hwr.out)⟩),g5⟩)
           replace hstep:=hide hstep
           replace e0:=hide e0
           replace e1:=hide e1
           replace e2:=hide e2
           replace ea:=hide ea
           replace eb:=hide eb
           replace ex:=hide ex
           replace ey:=hide ey
           replace hw1:=hide hw1
           replace hbr:=hide hbr
           replace hbst:=hide hbst
           replace hgot : Hid _:=hide hgot
           replace hm2':=hide hm2'
           replace hup:=hide hup
           replace hmx:=hide hmx
           clear hkpG
           go_wp2_with fail
           go_roundw
           case rel => exact ⟨best,m + 1,la,lb,A1,B1,A2,B2,x1,c1,y1,d1,x2,c2,y2,d2,kA,kl,kc,rfl,rfl,by rw [hmN.out],hnew⟩
           case measure => simp [intOf]; omega
   · have t1 : decide ((m : Int) + (sk : Int) < (N : Int)) = false := decide_eq_false (by omega)
     have a0:=hS.out.ba.cell 0
     have a1:=hS.out.ba.cell 1
     have a2:=hS.out.ba.cell 2
     have b0:=hS.out.bb.cell 0
     have b1:=hS.out.bb.cell 1
     have b2:=hS.out.bb.cell 2
     have z10:=hS.out.b1.cell 0
     have z11:=hS.out.b1.cell 1
     have z12:=hS.out.b1.cell 2
     have z20:=hS.out.b2.cell 0
     have z21:=hS.out.b2.cell 1
     have z22:=hS.out.b2.cell 2
     have y10:=hS.out.b1.frozen 0
     have y11:=hS.out.b1.frozen 1
     have y12:=hS.out.b1.frozen 2
     have y20:=hS.out.b2.frozen 0
     have y21:=hS.out.b2.frozen 1
     have y22:=hS.out.b2.frozen 2
     have hlast : bestTo n n.cells.length=bestTo n m:=by
       have h9:=best_end n m (by rw [<- hsk.out,<- hN.out]; omega) (n.cells.length - m)
       rwa [show m + (n.cells.length - m)=n.cells.length from by have:=hN.out; omega] at h9
     have hbne : best ≠ 0:=fun e => by
       rcases best_spec n n.cells.length with ⟨h1,h2⟩ | ⟨h1,h2,h3,h4⟩
       · exact h2 1 (by have:=hskN.out; have:=hN.out; omega) ⟨Nat.le_refl _,by rw [<- hsk.out,<- hN.out]; exact hskN.out⟩
       · rw [hlast] at h3
         have h5:=hS.out.bst
         have h6:=bigAt_pos n (bestTo n m).2
         omega
     have hdone : Hid (∀ W,Below w.heap.size wr W->HalvesRet w G G2 n (.returned (.tuple #[.agg #[.bool la,.slice A1 x1 c1,.slice B1 y1 d1],.slice kA kl kc,.agg #[.bool lb,.slice A2 x2 c2,.slice B2 y2 d2]])) W):=hide (by
       intro W hBW
       obtain ⟨g1,g2,kA',kc',g3,g4,g5⟩:=hS.out.got hbne
       injection g3 with e1 e2 e3
       subst e1; subst e2; subst e3
       have hk : ∀ k,G k->G k/\W.heap[k]?=wr.heap[k]?:=fun k hk => ⟨hk,hBW.block k (hG k hk)⟩
       have ec : cutAt n=(bestTo n m).2:=by unfold cutAt; rw [hlast]
       have ek : halfK n=keyOfC n.cells (bestTo n m).2:=by unfold halfK; rw [ec]
       refine ⟨_,_,kA,kc,by rw [ek],?_,?_,?_,by rw [ek]; exact g5,hS.out.bel.trans hBW⟩
       · unfold halfA; rw [ec]; exact g1.keep hk
       · unfold halfB; rw [ec]; exact g2.keep hk
       · rw [ek]; exact Rd.keep g4 fun k hk => ⟨hk,hBW.block k (hG2 k hk)⟩)
     have hbW:=hide (hdone.out _ (bel_s3 (bel_s3 (Below.refl _ wr) (g:=w.heap.size + 1) (by omega) (.bool la) (.slice A1 x1 c1) (.slice B1 y1 d1)) (g:=w.heap.size + 1 + 1) (by omega) (.bool lb) (.slice A2 x2 c2) (.slice B2 y2 d2)).drew)
     have hb1:=hide (blk_far3 (Node3.own ⟨_,_,_,hS.out.b1⟩ (.bool la) (.slice A1 x1 c1) (.slice B1 y1 d1)) (k:=w.heap.size + 1 + 1) (by omega) (.bool lb) (.slice A2 x2 c2) (.slice B2 y2 d2)).drew
     have hb2:=hide (Node3.own (g:=w.heap.size + 1 + 1) ⟨_,_,_,blk_far3 hS.out.b2 (k:=w.heap.size + 1) (by omega) (.bool la) (.slice A1 x1 c1) (.slice B1 y1 d1)⟩ (.bool lb) (.slice A2 x2 c2) (.slice B2 y2 d2)).drew
     replace hlast:=hide hlast
     have hmI : (m : Int)<=65536:=by omega
     have hskI : (sk : Int)<=1:=by omega
     go_upto_region 14 with (fail)
     go_region
     all_goals
       go_wp2_with fail
       refine bodyPost_ret (v:=.tuple #[.agg #[.bool la,.slice A1 x1 c1,.slice B1 y1 d1],.slice kA kl kc,.agg #[.bool lb,.slice A2 x2 c2,.slice B2 y2 d2]]) ?_ rfl hbW.out
       have hb1:=hb1.out
       have hb2:=hb2.out
       obtain ⟨Wf,hWf⟩ : ∃ Wf,Wf=(((((wr.setCell ⟨w.heap.size + 1,0,none⟩ (.bool la)).setCell ⟨w.heap.size + 1,1,none⟩ (.slice A1 x1 c1)).setCell ⟨w.heap.size + 1,2,none⟩ (.slice B1 y1 d1)).setCell ⟨w.heap.size + 1 + 1,0,none⟩ (.bool lb)).setCell ⟨w.heap.size + 1 + 1,1,none⟩ (.slice A2 x2 c2)).setCell ⟨w.heap.size + 1 + 1,2,none⟩ (.slice B2 y2 d2):=⟨_,rfl⟩
       rw [<- hWf] at hb1 hb2 ⊢
       have j0 : Wf.cell? ⟨w.heap.size + 1,0,none⟩=some (.bool la):=hb1.cell 0
       have j1 : Wf.cell? ⟨w.heap.size + 1,1,none⟩=some (.slice A1 x1 c1):=hb1.cell 1
       have j2 : Wf.cell? ⟨w.heap.size + 1,2,none⟩=some (.slice B1 y1 d1):=hb1.cell 2
       have i0 : Wf.cell? ⟨w.heap.size + 1 + 1,0,none⟩=some (.bool lb):=hb2.cell 0
       have i1 : Wf.cell? ⟨w.heap.size + 1 + 1,1,none⟩=some (.slice A2 x2 c2):=hb2.cell 1
       have i2 : Wf.cell? ⟨w.heap.size + 1 + 1,2,none⟩=some (.slice B2 y2 d2):=hb2.cell 2
       simp [results,Tryz.results120,go_sem,j0,j1,j2,i0,i1,i2]
def OpEnd (F : Nat->Prop) (w : World) (gp gn B0 : Nat) (st1 : PgS) (n1 : NodeP) (e : Ending) (w' : World) : Prop :=
 e=.returned (.int .i64 0)/\∃ F' B cv kv,PgAt w' F' gp st1/\Only (fun k => F k \/ B0<=k) w w'/\(∀ k,F' k->F k \/ w.heap.size<=k)/\NodeW F' w' B cv kv n1/\Blk w' gn 89 #[.bool n1.leaf,cv,kv]
theorem own_lt {w : World} {B size m k : Nat} {e : TypeId} {v : Value} {xs : List Value} (h : w.ownsRow B e size v m xs) (hk : v.ownBlock=some k) : B<=k/\k < w.heap.size:=by
 rcases h.2 with ⟨e,_⟩ | ⟨g,cap,cur,e,hg,hh,_⟩
 · rw [e] at hk; simp [Value.ownBlock] at hk
 · rw [e] at hk
   have : g=k:=by simpa [Value.ownBlock] using hk
   subst this
   exact ⟨hg,Blk.lt (show Blk w g _ cur from hh)⟩
theorem own_form {w : World} {B size m : Nat} {e : TypeId} {v : Value} {xs : List Value} (h : w.ownsRow B e size v m xs) : ∃ A c,v=.slice A m c:=by
 rcases h.2 with ⟨rfl,h0⟩ | ⟨g,cap,cur,rfl,_⟩
 · rw [h0]; exact ⟨none,0,rfl⟩
 · exact ⟨_,_,rfl⟩
set_option maxHeartbeats 1000000 in
theorem put1_new (w : World) (F : Nat->Prop) (gp : Nat) (st : PgS) (hP : PgAt w F gp st) (gn gc gt B B0 i : Nat) (cv kv : Value) (n : NodeP) (c : CellP) (x0 x1 x2 x3 : Value) (hn : NodeW F w B cv kv n) (hb : Blk w gn 89 #[.bool n.leaf,cv,kv])
   (hc : Blk w gc 83 #[x0,x1,x2,x3]) (hv : CellV (byteOf F w) w [x0,x1,x2,x3] c) (hi : i<=n.cells.length) (hlen : n.cells.length<=100000) (hBn : B0<=gn) (hBB : B0<=B) (hBs : B<=w.heap.size) (hFn : ¬ F gn) :
   Calls Tryz.prog 39 #[.pointer (some ⟨gn,0,none⟩),.int .i64 (i : Int),.bool false,.pointer (some ⟨gc,0,none⟩),.pointer (some ⟨gt,0,none⟩)] w (OpEnd F w gp gn B0 st ⟨n.leaf,insAt n.cells i c,n.kids⟩):=by
 obtain ⟨rows,hr1,hr2,hr3⟩:=hn.rows
 have h1x:=hr3.one hr1
 have h1 : ∀ u ∈ [x0,x1,x2,x3],u.oneCell'=true:=by
   obtain ⟨kA,kc,vA,vc,e,_⟩:=hv
   injection e with e0 e; injection e with e1 e; injection e with e2 e; injection e with e3 e
   subst e0; subst e1; subst e2; subst e3
   intro u hu; simp at hu; rcases hu with rfl | rfl | rfl | rfl <;> rfl
 obtain ⟨o,ho⟩ : ∃ o,o=Obj.cells #[x0,x1,x2,x3] 83 (0,0):=⟨_,rfl⟩
 have hgn:=Blk.lt hb
 have hgc:=Blk.lt hc
 have hO1 : Only (fun _ => False) w (w.alloc o).drew:=((Only.refl _ w).alloc o).drew
 have hr2a:=hO1.row hr2 (fun _ _ h => h)
 have hr3a : CellsW F (w.alloc o).drew rows n.cells:=hr3.keepW hO1 (fun _ _ h => h.elim)
 have hva:=hv.keepW hO1 (fun _ _ h => h.elim)
 have hba : Blk (w.alloc o).drew gn 89 #[.bool n.leaf,cv,kv]:=hO1.blk hb (fun h => h)
 have hna : NodeW F (w.alloc o).drew B cv kv n:=⟨⟨rows,hr1,hr2a,hr3a⟩,hO1.row hn.kids (fun _ _ h => h),hn.above⟩
 have hPa : PgAt (w.alloc o).drew F gp st:=(hP.alloc o).drew
 have hca : Blk (w.alloc o).drew w.heap.size 83 #[x0,x1,x2,x3]:=by rw [ho]; exact Blk.new w 83 #[x0,x1,x2,x3]
 have hins:=hide (ins_any (w.alloc o).drew B cv n.cells.length i rows.flatten hr2a hi (by simp [World.drew]; omega) h1x w.heap.size (.inr fun e => by have:=(own_lt hr2 e).2; omega) x0 x1 x2 x3 h1 hca hlen)
 have hfin : Hid (∀ v' w3,w3.ownsRow B 83 4 v' (n.cells.length + 1) (insCells rows.flatten i [x0,x1,x2,x3])->(w.alloc o).drew.grownBy w3 cv.ownBlock->Blk w3 gn 89 #[.bool n.leaf,cv,kv]->OpEnd F w gp gn B0 st ⟨n.leaf,insAt n.cells i c,n.kids⟩ (.returned (.int .i64 0)) (w3.setCell ⟨gn,1,none⟩ v')):=hide (by
   intro v' w3 hown hg hb3
   have hO2 : Only (fun k => cv.ownBlock=some k) (w.alloc o).drew w3:=(Only.refl _ _).grown hg (fun k hk _ => hk)
   have hO3 : Only (fun k => k=gn) w3 (w3.setCell ⟨gn,1,none⟩ v'):=(Only.refl (fun k => k=gn) w3).setCell (p:=⟨gn,1,none⟩) (fun _ => rfl) v'
   have hW:=hna.ins hg hi rows hr1 hr2a hr3a hva hown
   refine ⟨rfl,F,B,v',kv,?_,?_,fun k hk => .inl hk,hW.only hO3 fun k hk => by subst hk; exact ⟨_,_,hb3,by decide,by decide,by decide⟩,hb3.set_ 1 v'⟩
   · exact (hPa.grown hg (fun k hk hf => by have:=hn.above k hf; have:=(own_lt hr2 hk).1; omega)).set_ hFn v'
   · exact ((hO1.mono (fun _ _ h => h.elim)).trans hO2 (fun k hk h => .inr (by have:=(own_lt hr2 h).1; omega))).trans hO3 (fun k hk h => .inr (by subst h; exact hBn)))
 have hbg : Hid (∀ w3,(w.alloc o).drew.grownBy w3 cv.ownBlock->Blk w3 gn 89 #[.bool n.leaf,cv,kv]):=hide fun w3 hg => hba.grown hg fun e => own_blk_ne hr2a hba (by decide) e.symm
 obtain ⟨lf,hlf⟩ : ∃ lf,lf=n.leaf:=⟨_,rfl⟩
 obtain ⟨N,hN⟩ : ∃ N,N=n.cells.length:=⟨_,rfl⟩
 obtain ⟨Q,hQ⟩ : ∃ Q,Q=OpEnd F w gp gn B0 st ⟨n.leaf,insAt n.cells i c,n.kids⟩:=⟨_,rfl⟩
 rw [<- hQ] at hfin ⊢
 replace hQ:=hide hQ
 rw [<- hN] at hins
 rw [<- hlf,<- hN] at hfin
 rw [<- hlf] at hbg hb
 have hsl : ∃ A cap,cv=.slice A N cap:=by
   rw [hN]
   rcases hr2.2 with ⟨rfl,h0⟩ | ⟨g,cap,cur,rfl,_⟩
   · rw [h0]; exact ⟨none,0,rfl⟩
   · exact ⟨_,_,rfl⟩
 obtain ⟨A,cap,rfl⟩:=hsl
 obtain ⟨row,hrow⟩ : ∃ row,row=(Value.slice A N cap).ownBlock:=⟨_,rfl⟩
 rw [<- hrow] at hins hfin hbg
 have n1 : w.cell? ⟨gn,1,none⟩=some (.slice A N cap):=hb.cell 1
 have n1' : (w.alloc o).cell? ⟨gn,1,none⟩=some (.slice A N cap):=(hb.alloc o).cell 1
 have c0 : w.cell? ⟨gc,0,none⟩=some x0:=hc.cell 0
 have c1 : w.cell? ⟨gc,1,none⟩=some x1:=hc.cell 1
 have c2 : w.cell? ⟨gc,2,none⟩=some x2:=hc.cell 2
 have c3 : w.cell? ⟨gc,3,none⟩=some x3:=hc.cell 3
 subst ho
 replace hP:=hide hP
 replace hn:=hide hn
 replace hb:=hide hb
 replace hc:=hide hc
 replace hv:=hide hv
 replace hr2:=hide hr2
 replace hr3:=hide hr3
 replace hO1:=hide hO1
 replace hr2a:=hide hr2a
 replace hr3a:=hide hr3a
 replace hva:=hide hva
 replace hba:=hide hba
 replace hna:=hide hna
 replace hPa:=hide hPa
 replace hca:=hide hca
 replace hlf:=hide hlf
 replace hN:=hide hN
 replace hrow:=hide hrow
 replace hr1:=hide hr1
 replace hi:=hide hi
 replace hlen:=hide hlen
 clear h1 h1x
 go_enter Tryz.func39,Tryz.ntmps39
 go_wp2_with fail
 go_region_law (go_simp; go_at_call 40; refine hins.out.mono ?_; rintro e w3 ⟨v',rfl,hown,hg,_⟩; have hb3:=hbg.out w3 hg; (have hdone:=hide (hfin.out v' w3 hown hg hb3)); (obtain ⟨A',cap',rfl⟩:=own_form hown); have m1:=hb3.cell 1; have f1:=hb3.frozen 1; replace hb3:=hide hb3; replace hown:=hide hown; replace hg:=hide hg)
 all_goals
   go_wp2_with fail
   exact hdone.out
def PiecesAt (F : Nat->Prop) (w : World) (gl no : Nat) (m : Nat) (l : Option (List UInt8 × Nat)) : Prop :=
 match l with
 | none => m=1/\Blk w gl 131 #[.slice none 0 0,.int .i64 (no : Int)]
 | some (key,kno) => m=2/\∃ kA kc,Blk w gl 131 #[.slice none 0 0,.int .i64 (no : Int),.slice kA key.length kc,.int .i64 (kno : Int)]/\Rd (byteOf F w) w 1 kA key.length (bv key)/\key.length<=kc
def LayEnd (F : Nat->Prop) (w : World) (gp no : Nat) (st' : PgS) (l : Option (List UInt8 × Nat)) (e : Ending) (w' : World) : Prop :=
 ∃ F' gl m,e=.returned (.tuple #[.slice (some ⟨gl,0,none⟩) m m,.int .i64 0])/\PgAt w' F' gp st'/\Ev F w F' w'/\w.heap.size<=gl/\¬ F' gl/\PiecesAt F' w' gl no m l
set_option maxHeartbeats 1000000 in
theorem lay_fits (w : World) (F : Nat->Prop) (gt gp k : Nat) (st : PgS) (h : PgAt w F gp st) (ht : TreeAt w F gt gp k) (no : Nat) (n : NodeP) (v : Value) (hn : NodeM (Mine F w) w v n) (hc : CanSave st no n) :
   Calls Tryz.prog 73 #[.pointer (some ⟨gt,0,none⟩),.int .i64 (no : Int),v] w (LayEnd F w gp no (saveS st no n) none):=by
 obtain ⟨A,c,B,d,rfl⟩:=hn.box
 obtain ⟨lf,hlf⟩ : ∃ lf,lf=n.leaf:=⟨_,rfl⟩
 obtain ⟨M,hM⟩ : ∃ M,M=n.cells.length:=⟨_,rfl⟩
 obtain ⟨K,hK⟩ : ∃ K,K=n.kids.length:=⟨_,rfl⟩
 rw [<- hlf,<- hM,<- hK] at hn ⊢
 have hE0 : Ev F w F (w.alloc (.cells #[.bool lf,.slice A M c,.slice B K d] 89)):=(Ev.refl F w).alloc_ _
 have hb0:=Blk.new w 89 #[.bool lf,.slice A M c,.slice B K d]
 have hFw:=h.lt
 have hnF : ¬ F w.heap.size:=fun hf => by have:=hFw _ hf; omega
 have hgt:=Blk.lt ht.blk
 have hP1:=h.alloc (.cells #[.bool lf,.slice A M c,.slice B K d] 89)
 have ht1:=ht.ev hE0
 have hn1:=hn.ev hE0
 have hsz:=hide (size_any _ _ n (hn1.old fun k hk => hk.1) hc.2.1 (by have:=hc.2.2; omega))
 have hszI : Hid ((sizeP n : Int)<=508):=hide (by have:=hc.2.2; omega)
 obtain ⟨Z,hZ⟩ : ∃ Z,Z=sizeP n:=⟨_,rfl⟩
 rw [<- hZ] at hsz hszI
 have hZI : (Z : Int)<=508:=hszI.out
 replace h:=hide h
 replace ht:=hide ht
 replace hn:=hide hn
 replace hlf:=hide hlf
 replace hM:=hide hM
 replace hK:=hide hK
 replace hZ:=hide hZ
 replace hP1:=hide hP1
 replace hE0:=hide hE0
 replace hc:=hide hc
 replace hb0:=hide hb0
 replace ht1:=hide ht1
 replace hn1:=hide hn1
 replace hFw:=hide hFw
 have c0:=hb0.out.cell 0
 have c1:=hb0.out.cell 1
 have c2:=hb0.out.cell 2
 go_enter Tryz.func73,Tryz.ntmps73
 go_wp2_with (first | (go_at_call 50; refine hsz.out.mono ?_; rintro e w2 ⟨rfl,hB2⟩; have hb2:=hb0.out.below hB2 (Blk.lt hb0.out); have hba:=hb2.alloc (.cells #[.slice none 0 0,.int .i64 (no : Int)] 131); have d0:=hb2.cell 0; have d1:=hb2.cell 1; have d2:=hb2.cell 2; have a0:=hba.cell 0; have a1:=hba.cell 1; have a2:=hba.cell 2; replace hB2:=hide hB2; replace hb2:=hide hb2; replace hba:=hide hba))
 have hE2 : Ev F w F (w2.alloc (.cells #[.slice none 0 0,.int .i64 (no : Int)] 131)):=(hE0.out.below hB2.out).alloc_ _
 have hsv:=hide (save_any _ F gt gp k st ((hP1.out.below hB2.out).alloc _) (ht.out.ev hE2) no n _ (hn.out.ev hE2) hc.out)
 have hg2 : Hid (w.heap.size<=w2.heap.size/\¬ F w2.heap.size/\Blk (w2.alloc (.cells #[.slice none 0 0,.int .i64 (no : Int)] 131)) w2.heap.size 131 #[.slice none 0 0,.int .i64 (no : Int)]):=hide (by
   have h1:=hE0.out.size
   have h2:=hB2.out.size
   have h3 : w.heap.size<=w2.heap.size:=by omega
   exact ⟨h3,fun hf => by have:=hFw.out _ hf; omega,Blk.new w2 131 _⟩)
 replace hE2:=hide hE2
 go_at_call 71
 refine hsv.out.mono ?_
 rintro e w3 ⟨rfl,F',hP',hE'⟩
 have hdone : Hid (LayEnd F w gp no (saveS st no n) none (.returned (.tuple #[.slice (some ⟨w2.heap.size,0,none⟩) 1 1,.int .i64 0])) w3):=hide ⟨F',w2.heap.size,1,rfl,hP',hE2.out.trans hE',hg2.out.1,hE'.new hg2.out.2.1 (by simp),rfl,hE'.blk hg2.out.2.2 hg2.out.2.1⟩
 replace hP':=hide hP'
 replace hE':=hide hE'
 go_wp2_with fail
 go_ret2
 exact hdone.out
theorem drop_none (w : World) (gt : Nat) (c : CellP) (kA vA : Option Addr) (kl vl kc vc : Nat) (h0 : c.over=0) :
   Calls Tryz.prog 41 #[.pointer (some ⟨gt,0,none⟩),.agg #[.slice kA kl kc,.slice vA vl vc,.int .i64 (c.over : Int),.int .i64 (c.long : Int)]] w fun e w' => e=.returned (.int .i64 0)/\Below w.heap.size w w':=by
 rw [h0]
 have hB1:=((Below.refl w.heap.size w).alloc (Nat.le_refl _) (.cells #[.pointer (some ⟨gt,0,none⟩)] 30)).alloc (by simp) (.cells #[.slice kA kl kc,.slice vA vl vc,.int .i64 ((0 : Nat) : Int),.int .i64 (c.long : Int)] 83)
 replace hB1:=hide hB1
 go_enter Tryz.func41,Tryz.ntmps41
 go_wp2_with fail
 go_ret
 exact ⟨rfl,hB1.out⟩
set_option maxHeartbeats 400000 in
theorem tclone_any (A : Option Addr) (n c : Nat) (xs : List UInt8) (w : World) (ha : RB w w.heap.size A n xs) (hn : n<=140737488351232) :
   Calls Tryz.prog 57 #[.slice A n c] w (RetB w xs):=by
 have hnil:=fun wx => Lib.run_eql_slice_nil (P:=Tryz.prog) wx 37 5 A n c 0 0 Tryz.underlying37
 rcases A with _ | ad
 · have hn0 : n=0:=by
     rcases Nat.eq_zero_or_pos n with h0 | h0
     · exact h0
     · obtain ⟨ad,h,_⟩:=ha.2 h0; cases h
   subst hn0
   have hx : xs=[]:=List.eq_nil_of_length_eq_zero ha.len
   subst hx
   clear ha
   go_enter Tryz.func57,Tryz.ntmps57
   go_wp2
   go_ret
   exact RetB.mk (OB.nil _ _) (Below.refl _ _)
 · have HA := hide ha
   clear ha
   go_enter Tryz.func57,Tryz.ntmps57
   go_wp2_with (at_builtin; refine wpList_app_b rfl (.tmp 5) (.tmp 6) rfl w.heap.size _ 0 [] (OB.empty w (Nat.le_refl _)) rfl w.heap.size (some ad) n c xs rfl (HA.out.alloc (Nat.le_refl _) _) (by omega) (by simp) ?_; intro v1 w1 hown1 hb1 hg1 hat1)
   go_ret
   exact RetB.mk hown1 (((Below.refl _ _).alloc (Nat.le_refl _) _).trans hb1)
def CellEnd (w : World) (c : CellP) (e : Ending) (w' : World) : Prop :=
 ∃ x0 x1,e=.returned (.tuple #[.agg #[x0,x1,.int .i64 (c.over : Int),.int .i64 (c.long : Int)],.int .i64 0])/\CellV (G5 w.heap.size w') w' [x0,x1,.int .i64 (c.over : Int),.int .i64 (c.long : Int)] c/\Below w.heap.size w w'
set_option maxHeartbeats 1000000 in
theorem cell_short (w : World) (gt : Nat) (kA vA : Option Addr) (L M kc vc : Nat) (key b : List UInt8) (hk : RB w w.heap.size kA L key) (hv : RB w w.heap.size vA M b) (hL : L<=1000000) (hM : M<=64) :
   Calls Tryz.prog 35 #[.pointer (some ⟨gt,0,none⟩),.slice kA L kc,.slice vA M vc] w (CellEnd w ⟨key,b,0,0⟩):=by
 have hMI : (M : Int)<=64:=by omega
 have hlk : Hid (key.length=L):=hide hk.len
 have hlb : Hid (b.length=M):=hide hv.len
 have hB0:=(Below.refl w.heap.size w).alloc (Nat.le_refl _) (.cells #[.slice none 0 0,.slice none 0 0,.int .i64 0,.int .i64 0] 83)
 have hb0:=Blk.new w 83 #[.slice none 0 0,.slice none 0 0,.int .i64 0,.int .i64 0]
 have hcl:=hide (tclone_any kA L kc key (w.alloc (.cells #[.slice none 0 0,.slice none 0 0,.int .i64 0,.int .i64 0] 83)) (hk.allocs _) (by omega))
 replace hk:=hide hk
 replace hv:=hide hv
 replace hB0:=hide hB0
 replace hb0:=hide hb0
 go_enter Tryz.func35,Tryz.ntmps35
 go_wp2_with fail
 go_at_call 57
 refine hcl.out.mono ?_
 rintro e w2 ⟨v2,rfl,hO2,hB2⟩
 rw [hlk.out] at hO2
 obtain ⟨A2,c2,rfl,hr2,_,hc2,_⟩:=hO2.form
 have hb2:=hb0.out.below hB2 (Blk.lt hb0.out)
 replace hO2:=hide hO2
 replace hB2:=hide hB2
 replace hr2:=hide hr2
 replace hc2:=hide hc2
 have z0:=hb2.cell 0
 have z1:=hb2.cell 1
 have z2:=hb2.cell 2
 have z3:=hb2.cell 3
 replace hb2:=hide hb2
 go_wp2_with fail
 have hBw2 : Below w.heap.size w w2:=hB0.out.trans (hB2.out.mono (by simp))
 have hlt : w.heap.size < w2.heap.size:=by have:=hB2.out.size; simp at this; omega
 have hne : ¬ w2.heap.size=w.heap.size:=by omega
 have hne2 : ¬ w.heap.size=w2.heap.size:=by omega
 have hcl2:=hide (tclone_any vA M vc b (w2.alloc (.cells #[.slice A2 L c2,.slice none 0 0,.int .i64 0,.int .i64 0] 83)) (((RB.below hv.out hBw2).more hBw2.size).allocs _) (by omega))
 replace hBw2:=hide hBw2
 refine hcl2.out.mono ?_
 rintro e w4 ⟨v4,rfl,hO4,hB4⟩
 rw [hlb.out] at hO4
 obtain ⟨A4,c4,rfl,hr4,_,hc4,_⟩:=hO4.form
 have hbx:=(Blk.new w2 83 #[.slice A2 L c2,.slice none 0 0,.int .i64 0,.int .i64 0]).below hB4 (by simp)
 have hbz:=(hb2.out.alloc (.cells #[.slice A2 L c2,.slice none 0 0,.int .i64 0,.int .i64 0] 83)).below hB4 (by simp; omega)
 have hBw4 : Below w.heap.size w w4:=(hBw2.out.trans ((Below.refl w.heap.size w2).alloc (by omega) (.cells #[.slice A2 L c2,.slice none 0 0,.int .i64 0,.int .i64 0] 83))).trans (hB4.mono (by simp; omega))
 have hfin : Hid (∀ W,Only (fun k => k=w.heap.size \/ k=w2.heap.size) w4 W->CellEnd w ⟨key,b,0,0⟩ (.returned (.tuple #[.agg #[.slice A2 L c2,.slice A4 M c4,.int .i64 0,.int .i64 0],.int .i64 0])) W):=hide (by
   intro W hO
   have hT : ∀ j,(∃ cs,Blk w4 j 5 cs)->W.heap[j]?=w4.heap[j]?:=fun j hj => by
     obtain ⟨cs,hj⟩:=hj
     refine hO.block j (Blk.lt hj) ?_
     rintro (rfl | rfl)
     · exact Blk.ne_ hj hbz (by decide) rfl
     · exact Blk.ne_ hj hbx (by decide) rfl
   have h2 : Rd (G5 w.heap.size w2) w2 1 A2 L (bv key):=by
     have:=hO2.out.rd5
     exact Rd.keep this fun k hk => ⟨⟨by have:=hk.1; simp at this; omega,hk.2⟩,rfl⟩
   have h2' : Rd (G5 w.heap.size w4) w4 1 A2 L (bv key):=h2.keep fun k hk => by
     obtain ⟨q1,cs,q2⟩:=hk
     have q3:=(q2.alloc (.cells #[.slice A2 L c2,.slice none 0 0,.int .i64 0,.int .i64 0] 83)).below hB4 (by have:=Blk.lt q2; simp; omega)
     exact ⟨⟨q1,cs,q3⟩,Eq.trans q3 q2.symm⟩
   have h4 : Rd (G5 w.heap.size w4) w4 1 A4 M (bv b):=by
     have:=hO4.rd5
     exact Rd.keep this fun k hk => ⟨⟨by have:=hk.1; simp at this; omega,hk.2⟩,rfl⟩
   have hk : ∀ k,G5 w.heap.size w4 k->G5 w.heap.size W k/\W.heap[k]?=w4.heap[k]?:=fun k hk => by
     have:=hT k hk.2
     exact ⟨⟨hk.1,hk.2.choose,this.trans hk.2.choose_spec⟩,this⟩
   refine ⟨.slice A2 L c2,.slice A4 M c4,rfl,⟨A2,c2,A4,c4,?_,?_,?_,?_,?_⟩,?_⟩
   · show [Value.slice A2 L c2, Value.slice A4 M c4, _, _] = [Value.slice A2 key.length c2, Value.slice A4 b.length c4, _, _]
     rw [hlk.out,hlb.out]
   · show key.length <= c2
     rw [hlk.out]; exact hc2.out
   · show b.length <= c4
     rw [hlb.out]; exact hc4
   · show Rd _ W 1 A2 key.length _
     rw [hlk.out]; exact h2'.keep hk
   · show Rd _ W 1 A4 b.length _
     rw [hlb.out]; exact h4.keep hk
   · exact hBw4.trans (hO.below (fun k hk => by rcases hk with rfl | rfl <;> omega) hBw4.size))
 have x0:=hbx.cell 0
 have x1:=hbx.cell 1
 have x2:=hbx.cell 2
 have x3:=hbx.cell 3
 have f1:=hbx.frozen 1
 have y0:=hbz.cell 0
 have y1:=hbz.cell 1
 have y2:=hbz.cell 2
 have y3:=hbz.cell 3
 have g0:=hbz.frozen 0
 have g1:=hbz.frozen 1
 have g2:=hbz.frozen 2
 have g3:=hbz.frozen 3
 replace hbx:=hide hbx
 replace hbz:=hide hbz
 replace hO4:=hide hO4
 replace hB4:=hide hB4
 replace hr4:=hide hr4
 replace hc4:=hide hc4
 replace hBw4:=hide hBw4
 go_wp2_with fail
 have hO : Only (fun k => k=w.heap.size \/ k=w2.heap.size) w4 (((((w4.setCell ⟨w2.heap.size,1,none⟩ (.slice A4 M c4)).setCell ⟨w.heap.size,0,none⟩ (.slice A2 L c2)).setCell ⟨w.heap.size,1,none⟩ (.slice A4 M c4)).setCell ⟨w.heap.size,2,none⟩ (.int .i64 0)).setCell ⟨w.heap.size,3,none⟩ (.int .i64 0)) :=
   (((((Only.refl _ w4).setCell (p:=⟨w2.heap.size,1,none⟩) (fun _ => Or.inr rfl) _).setCell (p:=⟨w.heap.size,0,none⟩) (fun _ => Or.inl rfl) _).setCell (p:=⟨w.heap.size,1,none⟩) (fun _ => Or.inl rfl) _).setCell (p:=⟨w.heap.size,2,none⟩) (fun _ => Or.inl rfl) _).setCell (p:=⟨w.heap.size,3,none⟩) (fun _ => Or.inl rfl) _
 refine bodyPost_ret (v:=.tuple #[.agg #[.slice A2 L c2,.slice A4 M c4,.int .i64 0,.int .i64 0],.int .i64 0]) ?_ rfl (hfin.out _ hO)
 have hz:=Blk.far hbz.out (p:=⟨w2.heap.size,1,none⟩) hne2 (.slice A4 M c4)
 have hbf:=(((hz.set_ 0 (.slice A2 L c2)).set_ 1 (.slice A4 M c4)).set_ 2 (.int .i64 0)).set_ 3 (.int .i64 0)
 obtain ⟨Wf,hWf⟩ : ∃ Wf,Wf=(((((w4.setCell ⟨w2.heap.size,1,none⟩ (.slice A4 M c4)).setCell ⟨w.heap.size,0,none⟩ (.slice A2 L c2)).setCell ⟨w.heap.size,1,none⟩ (.slice A4 M c4)).setCell ⟨w.heap.size,2,none⟩ (.int .i64 0)).setCell ⟨w.heap.size,3,none⟩ (.int .i64 0)):=⟨_,rfl⟩
 rw [<- hWf] at hbf ⊢
 have j0 : Wf.cell? ⟨w.heap.size,0,none⟩=some (.slice A2 L c2):=hbf.cell 0
 have j1 : Wf.cell? ⟨w.heap.size,1,none⟩=some (.slice A4 M c4):=hbf.cell 1
 have j2 : Wf.cell? ⟨w.heap.size,2,none⟩=some (.int .i64 0):=hbf.cell 2
 have j3 : Wf.cell? ⟨w.heap.size,3,none⟩=some (.int .i64 0):=hbf.cell 3
 simp [results,Tryz.results35,go_sem,j0,j1,j2,j3]
end Go.Proofs.YtiiljlmeililbaaGreatDoor
