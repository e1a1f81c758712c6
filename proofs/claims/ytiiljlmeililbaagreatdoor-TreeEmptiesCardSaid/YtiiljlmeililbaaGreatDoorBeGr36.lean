/-
  Contract of vfs.put: bytes go into the slots; what the slots hold is left open.
-/
import Derived.Test.YtiiljlmeililbaaGreatDoorBeGr35
import Derived.Laws.CopyOwn
import Derived.Deep.MidRow
import Derived.Deep.RegionHeld3
import Derived.BigRegion
import Derived.Deep.RegionLaw
namespace Go.Proofs.YtiiljlmeililbaaGreatDoor
set_option linter.unusedVariables false
set_option maxRecDepth 100000
open Go.RowKit Go.Maps
theorem slice_sector (w : World) (gs o r : Nat) (hr : r < 64) : (Instr.sliceAt 161 (.pointer (some ⟨gs,o,none⟩)) (some (.int .i64 (r : Int))) none none).run Tryz.prog w=.ok (.slice (some ⟨gs,o + r,none⟩) (64 - r) (64 - r)) w:=by
 have hl : Tryz.prog.arrayLen 161=64:=by kernel_rfl
 have h:=run_sliceAt_array_l (P:=Tryz.prog) w 161 ⟨gs,o,none⟩ (by kernel_rfl) .i64 (r : Int) (by omega) (by rw [hl]; omega)
 have hz : (sizeOf (Tryz.prog.elem 161)).run Tryz.prog w=.ok 1 w:=by kernel_rfl
 rw [h,hz,hl]
 show Result.ok _ w=_
 unfold slicedAt
 have e1 : ((r : Int)).toNat=r:=by omega
 rw [e1,if_neg (by omega),Nat.mul_one]
 unfold Addr.add
 split
 · rename_i h0; subst h0; rfl
 · rfl
def PutRel (w : World) (B g k n stx gs cap gb ao n0 c0 at0 : Nat) (v1 v2 : Value) (wx : World) : Prop :=
 ∃ (i X : Nat) (A' : Option Addr) (c' : Nat), X = at0 + i /\ v1 = .int .i64 (X : Int) /\ v2 = .slice A' (n0 - i) c' /\ i <= n0 /\ (i < n0 -> A' = some ⟨gb, ao + i, none⟩ /\ c' = c0 - i) /\
   Blk wx g 157 #[.slice (some ⟨gs,0,none⟩) k cap,.int .i64 (n : Int),.int .i64 (stx : Int)]/\Only (fun j => j=gs) w wx/\(∃ cur : List Value,wx.heap[gs]?=some (.cells cur.toArray 163 (0,0))/\cur.length=cap * 129/\OneL (cur.take (k * 129)))
def remOf (v : Value) : Nat:=match v with | .slice _ n _ => n | _ => 0
set_option maxHeartbeats 2000000 in
theorem put_any (w : World) (B g k n gs cap gb ao n0 c0 at0 stx : Nat) (b : List UInt8) (hb : Blk w g 157 #[.slice (some ⟨gs,0,none⟩) k cap,.int .i64 (n : Int),.int .i64 (stx : Int)])
   (cur0 : List Value) (hs : w.heap[gs]?=some (.cells cur0.toArray 163 (0,0))) (hcur : cur0.length=cap * 129) (hone0 : OneL (cur0.take (k * 129))) (hkc : k<=cap) (hk : k<=100000) (hn0 : n0<=c0) (hc0 : c0<=9223372036854775807) (hat : at0 + n0<=64 * k) (hgs : gb ≠ gs) (hne : g ≠ gs)
   (hrb : ∀ i,i < n0->∃ x : UInt8,w.cell? ⟨gb,ao + i,none⟩=some (.int .u8 (x.toNat : Int))) :
   Calls Tryz.prog 144 #[.pointer (some ⟨g,0,none⟩),.int .i64 (at0 : Int),.slice (some ⟨gb,ao,none⟩) n0 c0] w fun e w' => e=.returned (.tuple #[]) /\
     Blk w' g 157 #[.slice (some ⟨gs,0,none⟩) k cap,.int .i64 (n : Int),.int .i64 (stx : Int)]/\Only (fun j => j=gs) w w'/\(∃ cur : List Value,w'.heap[gs]?=some (.cells cur.toArray 163 (0,0))/\cur.length=cap * 129/\OneL (cur.take (k * 129))):=by
 have hrel0 : Hid (PutRel w B g k n stx gs cap gb ao n0 c0 at0 (.int .i64 (at0 : Int)) (.slice (some ⟨gb,ao,none⟩) n0 c0) w) :=
   hide ⟨0,at0,some ⟨gb,ao,none⟩,c0,by simp,rfl,by simp,by omega,fun _ => ⟨by simp,by simp⟩,hb,Only.refl _ w,⟨cur0,hs,hcur,hone0⟩⟩
 replace hb:=hide hb
 replace hs:=hide hs
 replace hcur:=hide hcur
 replace hrb:=hide hrb
 replace hone0:=hide hone0
 go_enter Tryz.func144,Tryz.ntmps144
 go_wp2_with fail
 go_loopw [1,2] (fun v1 v2 wx => Hid (PutRel w B g k n stx gs cap gb ao n0 c0 at0 v1 v2 wx)) (fun _ v2 _ => remOf v2)
 case atStart => exact hrel0
 case round =>
   obtain ⟨i,X,A',c',hX,rfl,rfl,hi,hA,hbx,hOx,curx,hsx,hcx,hox⟩:=hrel.out
   replace hox:=hide hox
   clear hrel
   have d0:=hbx.cell 0
   rcases Nat.lt_or_ge i n0 with hlt | hge
   · obtain ⟨rfl, rfl⟩ := hA hlt
     clear hA
     obtain ⟨R,hR⟩ : ∃ R,R=n0 - i:=⟨_,rfl⟩
     obtain ⟨C,hC⟩ : ∃ C,C=c0 - i:=⟨_,rfl⟩
     obtain ⟨q,hq⟩ : ∃ q,q=X / 64:=⟨_,rfl⟩
     obtain ⟨r,hr⟩ : ∃ r,r=X % 64:=⟨_,rfl⟩
     rw [<- hR,<- hC]
     have hRp : 0 < R:=by omega
     have hRI : (0 : Int) < (R : Int):=by omega
     have hqk : q < k:=by omega
     have hr64 : r < 64:=by omega
     have hqI : (X : Int).tdiv 64=(q : Int):=by rw [Int.tdiv_eq_ediv_of_nonneg (by omega)]; omega
     have hrI : (X : Int).tmod 64=(r : Int):=by rw [Int.tmod_eq_emod_of_nonneg (by omega)]; omega
     have hqI2 : (X : Int) / 64=(q : Int):=by omega
     have hrI2 : (X : Int) % 64=(r : Int):=by omega
     have hsl:=slice_sector wr gs (q * 129) r hr64
     obtain ⟨L,hL⟩ : ∃ L,L=Nat.min R (64 - r):=⟨_,rfl⟩
     have hLR : L<=R/\L<=64 - r/\0 < L:=by rw [hL]; show min R (64 - r)<=R/\min R (64 - r)<=64 - r/\0 < min R (64 - r); omega
     obtain ⟨cs,hcs⟩ : ∃ cs : List Value,cs=(List.range L).map fun j => (wr.cell? ⟨gb,ao + i + j,none⟩).getD undef:=⟨_,rfl⟩
     have hcl : cs.length=L:=by rw [hcs]; simp
     have hby : ∀ j,j < L->∃ x : UInt8,wr.cell? ⟨gb,ao + i + j,none⟩=some (.int .u8 (x.toNat : Int)):=by
       intro j hj
       obtain ⟨x,hx⟩:=hrb.out (i + j) (by omega)
       have hbl : gb < w.heap.size:=by
         rcases Nat.lt_or_ge gb w.heap.size with h | h
         · exact h
         · unfold World.cell? at hx; simp [Array.getElem?_eq_none h] at hx
       refine ⟨x,?_⟩
       rw [World.cell?_of_block (w:=w) (hOx.block gb hbl hgs),<- hx,Nat.add_assoc]
     have hsrc : ∀ j v,cs[j]?=some v->wr.cell? ((⟨gb,ao + i,none⟩ : Addr).add j)=some v:=by
       intro j v hj
       have hjl : j < L:=by
         rcases Nat.lt_or_ge j L with h | h
         · exact h
         · rw [List.getElem?_eq_none (by omega)] at hj; cases hj
       obtain ⟨x,hx⟩:=hby j hjl
       have e : (⟨gb,ao + i,none⟩ : Addr).add j=⟨gb,ao + i + j,none⟩:=by
         unfold Addr.add
         split
         · rename_i h0; subst h0; rfl
         · rfl
       rw [e,hx]
       rw [hcs] at hj
       simp [hjl,hx] at hj
       rw [hj]
     have hone : ∀ v ∈ cs,v.oneCell'=true:=by
       intro v hv
       rw [hcs] at hv
       obtain ⟨j,hj,rfl⟩:=List.mem_map.1 hv
       obtain ⟨x,hx⟩:=hby j (List.mem_range.1 hj)
       rw [hx]; rfl
     replace hcs:=hide hcs
     replace hby:=hide hby
     replace hL:=hide hL
     have hfit : q * 129 + r + cs.length<=curx.toArray.size:=by simp; omega
     obtain ⟨N1,hN1⟩ : ∃ N1,N1=(List.take (q * 129 + r) curx ++ (cs ++ List.drop (q * 129 + r + L) curx)).toArray:=⟨_,rfl⟩
     have hNs : N1.size=cap * 129:=by rw [hN1]; simp; omega
     have hB2 : Blk (wr.setRow gs N1) gs 163 N1:=setRow_heap wr gs _ N1 163 (0,0) hsx
     have hq129 : q * 129 + 128 < cap * 129:=by omega
     have e128:=hB2.cell (q * 129 + 128)
     obtain ⟨u128,hu128⟩ : ∃ u,N1[q * 129 + 128]?=some u:=⟨_,Array.getElem?_eq_getElem (by omega)⟩
     rw [hu128] at e128
     replace hu128:=hide hu128
     have f128:=hB2.frozen (q * 129 + 128)
     have hB3:=hB2.set_ (q * 129 + 128) (.bool true)
     have hOs : Only (fun j => j=gs) wr (wr.setRow gs N1):=⟨rfl,rfl,rfl,by simp [World.setRow],fun k hk hne => setRow_other wr gs k N1 hne⟩
     have hO3 : Only (fun j => j=gs) w ((wr.setRow gs N1).setCell ⟨gs,q * 129 + 128,none⟩ (.bool true)) :=
       (hOx.trans hOs fun i _ h => h).setCell (p:=⟨gs,q * 129 + 128,none⟩) (fun _ => rfl) _
     have hbx3 : Blk ((wr.setRow gs N1).setCell ⟨gs,q * 129 + 128,none⟩ (.bool true)) g 157 #[.slice (some ⟨gs,0,none⟩) k cap,.int .i64 (n : Int),.int .i64 (stx : Int)] :=
       Blk.far (p:=⟨gs,q * 129 + 128,none⟩) (show Blk (wr.setRow gs N1) g _ _ from (setRow_other wr gs g N1 hne).trans hbx) hne _
     have hcur3 : ∃ cur : List Value,((wr.setRow gs N1).setCell ⟨gs,q * 129 + 128,none⟩ (.bool true)).heap[gs]?=some (.cells cur.toArray 163 (0,0))/\cur.length=cap * 129/\OneL (cur.take (k * 129)):=by
       refine ⟨(N1.setIfInBounds (q * 129 + 128) (.bool true)).toList,by rw [Array.toArray_toList]; exact hB3,by simp; omega,fun j u hj => ?_⟩
       rw [List.getElem?_take] at hj
       split at hj
       · rename_i hjk
         rw [Array.toList_setIfInBounds,List.getElem?_set] at hj
         split at hj
         · split at hj
           · injection hj with hj; rw [<- hj]; rfl
           · cases hj
         · rw [hN1] at hj
           have hj2 : (List.take (q * 129 + r) curx ++ (cs ++ List.drop (q * 129 + r + L) curx))[j]?=some u:=by simpa using hj
           have hlt : (List.take (q * 129 + r) curx).length=q * 129 + r:=by rw [List.length_take]; omega
           rcases Nat.lt_or_ge j (q * 129 + r) with h1 | h1
           · rw [List.getElem?_append_left (by omega), List.getElem?_take, if_pos h1] at hj2
             exact hox.out j u (by rw [List.getElem?_take,if_pos hjk]; exact hj2)
           · rw [List.getElem?_append_right (by omega), hlt] at hj2
             rcases Nat.lt_or_ge (j - (q * 129 + r)) cs.length with h2 | h2
             · rw [List.getElem?_append_left h2] at hj2
               exact hone u (List.mem_of_getElem? hj2)
             · rw [List.getElem?_append_right h2, List.getElem?_drop] at hj2
               refine hox.out j u ?_
               rw [List.getElem?_take,if_pos hjk,<- hj2]
               congr 1; omega
       · cases hj
     obtain ⟨Y,hY⟩ : ∃ Y,Y=X + L:=⟨_,rfl⟩
     have hrelN : Hid (∀ nq A2 c2,(L < R->A2=some ⟨gb,ao + i + L,none⟩/\c2=C - L)->PutRel w B g k n stx gs cap gb ao n0 c0 at0 (.int .i64 (Y : Int)) (.slice A2 (R - L) c2) (((wr.setRow gs N1).setCell ⟨gs,q * 129 + 128,none⟩ (.bool true)).drewN nq)):=by
       refine hide fun nq A2 c2 h2 => ⟨i + L,Y,A2,c2,by omega,rfl,by rw [hR,Nat.sub_sub],by omega,fun h => ?_,hbx3,hO3.drewN nq,hcur3⟩
       obtain ⟨h3,h4⟩:=h2 (by omega)
       exact ⟨by rw [h3,Nat.add_assoc],by rw [h4]; omega⟩
     have hXL : (X : Int) + (L : Int)=(Y : Int):=by omega
     have hYI : (Y : Int)<=6400000:=by omega
     replace hY:=hide hY
     have hLRI : (L : Int)<=(R : Int):=by omega
     have hRC : (R : Int)<=(C : Int):=by omega
     rw [hN1] at e128 f128
     replace hB2:=hide hB2
     replace hB3:=hide hB3
     replace hO3:=hide hO3
     replace hbx3:=hide hbx3
     replace hcur3:=hide hcur3
     replace hNs:=hide hNs
     replace hN1:=hide hN1
     replace hX:=hide hX
     replace hq:=hide hq
     replace hr:=hide hr
     replace hR:=hide hR
     replace hC:=hide hC
     replace hbx:=hide hbx
     replace hOx:=hide hOx
     replace hsx:=hide hsx
     replace hcx:=hide hcx
     go_wp2_with (refine wpList_copy_own rfl _ _ 37 37 rfl 5 Tryz.underlying37 ?p1 gs (q * 129 + r) (64 - r) (64 - r) ⟨gb,ao + i,none⟩ R C rfl rfl curx.toArray 163 hsx.out cs ?p2 hsrc hfit hone ?_)
     case p1 => kernel_rfl
     case p2 => rw [hcl,hL.out]
     go_quiet (fail)
     go_wp2_with fail
     go_roundw
     case rel =>
       rw [<- hN1.out]
       exact hide (hrelN.out _ _ _ (fun h => ⟨by rw [if_neg (by omega)],rfl⟩))
     case measure => show R - L < R; omega
   · have hR : n0 - i = 0 := by omega
     rw [hR]
     replace hbx:=hide hbx
     replace hOx:=hide hOx
     replace hsx:=hide hsx
     replace hcx:=hide hcx
     go_wp2_with fail
     go_end0
     exact ⟨rfl,hbx.out,hOx.out,⟨curx,hsx.out,hcx.out,hox.out⟩⟩
def WrRet (w : World) (B gf bm most stamp : Nat) (da la : List UInt8) (gd gl g K N : Nat) (v : Value) (e : Ending) (w' : World) : Prop :=
 e=.returned (.int .i64 0)/\FSAt w' B gf bm most (stamp + 1) da la (some gd) (some gl)/\∃ v',FileX w' B g K N v'/\Only (fun j => j=gf \/ j=g \/ v.ownBlock=some j) w w'/\(v'.ownBlock=v.ownBlock \/ ∃ j,v'.ownBlock=some j/\w.heap.size<=j)
set_option maxHeartbeats 1500000 in
theorem fwrite_any (w : World) (B gf bm most stamp gd kd nd gl kl nl g k n gb ao n0 c0 at0 : Nat) (da la nm : List UInt8) (vd vl v : Value) (h : FSAt w B gf bm most stamp da la (some gd) (some gl)) (hd : FileX w B gd kd nd vd) (hl : FileX w B gl kl nl vl)
   (hn : Names nm da la (some gd) (some gl) (some g)) (hnl : nm.length<=24) (hf : FileX w B g k n v) (hmost : most<=65536) (hk : kd + kl<=most) (hkk : k<=most) (hnn : n<=2000000) (hst : stamp<=1000000) (hB : B<=w.heap.size)
   (hat : at0<=n) (h0 : 0 < n0) (hn0 : n0<=c0) (hc0 : c0<=9223372036854775807) (hn00 : n0<=1000000) (hroom : (max n (at0 + n0) + 63) / 64 - k<=most - kd - kl)
   (hgb : gb < w.heap.size) (hgv : v.ownBlock ≠ some gb) (hgg : gb ≠ g)
   (hrb : ∀ i,i < n0->∃ x : UInt8,w.cell? ⟨gb,ao + i,none⟩=some (.int .u8 (x.toNat : Int))) :
   Calls Tryz.prog 101 #[.pointer (some ⟨gf,0,none⟩),.string (str nm),.int .i64 (at0 : Int),.slice (some ⟨gb,ao,none⟩) n0 c0] w (WrRet w B gf bm most stamp da la gd gl g (max k ((max n (at0 + n0) + 63) / 64)) (max n (at0 + n0)) v):=by
 have ha:=hide (fat_some w B gf bm most stamp g da la nm (some gd) (some gl) h hn (by omega))
 obtain ⟨E,hE⟩ : ∃ E,E=at0 + n0:=⟨_,rfl⟩
 obtain ⟨N,hN⟩ : ∃ N,N=max n E:=⟨_,rfl⟩
 obtain ⟨D,hD⟩ : ∃ D,D=(N + 63) / 64:=⟨_,rfl⟩
 obtain ⟨R,hR⟩ : ∃ R,R=most - kd - kl:=⟨_,rfl⟩
 rw [<- hE,<- hN,<- hD]
 rw [<- hE,<- hN,<- hD,<- hR] at hroom
 have hEI : (at0 : Int) + (n0 : Int)=(E : Int):=by omega
 have hmx : max (n : Int) (E : Int)=(N : Int):=by omega
 have hNb : N<=5000000:=by omega
 have hDb : D<=80000:=by omega
 have hnd : Hid (∀ wz,Calls Tryz.prog 103 #[.int .i64 (N : Int)] wz fun e w' => e=.returned (.int .i64 (D : Int))/\wz=w'):=hide fun wz => by rw [hD]; exact need_any wz N (by omega)
 have hro : Hid (∀ wz,Below w.heap.size w wz->Calls Tryz.prog 107 #[.pointer (some ⟨gf,0,none⟩)] wz fun e w' => e=.returned (.int .i64 (R : Int))/\Below wz.heap.size wz w'):=hide fun wz hz => by
   have hzo : Only (fun _ => False) w wz:=Only.of_below hz
   rw [hR]
   exact room_any wz B gf bm most stamp gd gl kd nd kl nl da la vd vl (h.only hzo (fun h => h) (fun h => h)) (hd.only hzo (fun h => h) (fun _ _ h => h)) (hl.only hzo (fun h => h) (fun _ _ h => h)) hmost hk
 obtain ⟨st,hb⟩:=hf.st
 obtain ⟨xs,hr,_⟩:=hf.row
 obtain ⟨ov,capv,hv⟩:=ownsRow_slice hr
 have x0:=hb.cell 0
 have x1:=hb.cell 1
 rw [hv] at x0 x1
 have hkeep : Hid (∀ wz,Below w.heap.size w wz->(wz.cell? ⟨g,0,none⟩=some (.slice ov k capv)/\wz.cell? ⟨g,1,none⟩=some (.int .i64 (n : Int)))):=hide fun wz hz =>
   ⟨(hz.cell (p:=⟨g,0,none⟩) hb.lt).trans x0,(hz.cell (p:=⟨g,1,none⟩) hb.lt).trans x1⟩
 have hDk : (D : Int) - (k : Int)<=(R : Int):=by omega
 have hW1 : IntKind.i64.wrap (E : Int)=(E : Int):=IntWalk.i64_in _ (by omega)
 have hW2 : IntKind.i64.wrap ((D : Int) - (k : Int))=(D : Int) - (k : Int):=IntWalk.i64_in _ (by omega)
 have hA0 : decide ((at0 : Int) < 0)=false:=by rw [decide_eq_false_iff_not]; omega
 have hA1 : decide (n < at0)=false:=by rw [decide_eq_false_iff_not]; omega
 have hA2 : decide ((n : Int) < (at0 : Int))=false:=by rw [decide_eq_false_iff_not]; omega
 have hatI : (at0 : Int)<=(n : Int):=by omega
 have h0I : (0 : Int) < (n0 : Int):=by omega
 have hD2 : decide ((R : Int) < (D : Int) - (k : Int))=false:=by rw [decide_eq_false_iff_not]; omega
 replace h:=hide h
 replace hd:=hide hd
 replace hl:=hide hl
 replace hf:=hide hf
 replace hb:=hide hb
 replace hr:=hide hr
 replace hv:=hide hv
 replace hE:=hide hE
 replace hN:=hide hN
 replace hD:=hide hD
 replace hR:=hide hR
 replace hn:=hide hn
 replace hrb:=hide hrb
 go_enter Tryz.func101,Tryz.ntmps101
 go_upto_region 2 with ((go_at_call 95; refine ha.out.mono ?_; rintro e w1 ⟨rfl,rfl⟩))
 go_upto_region 6 with (fail)
 go_cut [32] (fun v32 wx => v32=.bool false/\Hid (Below w.heap.size w wx))
 case first =>
   go_region_held3 (fun w' => w'.cell? ⟨g,0,none⟩=some (.slice ov k capv)/\w'.cell? ⟨g,1,none⟩=some (.int .i64 (n : Int))) (first | exact ⟨x0,x1⟩ | exact hkeep.out _ hbA | exact hkeep.out _ (below_drewN hbA _)) ((first
       | (go_at_call 103; refine (hnd.out _).mono ?_; rintro e w2 ⟨rfl,rfl⟩)
       | (go_at_call 107; refine (hro.out _ ((Below.refl _ w).drew)).mono ?_; rintro e w2 ⟨rfl,hX⟩; have hbA : Below w.heap.size w w2:=(Below.refl _ w).drew.trans hX; replace hX:=hide hX)))
   all_goals go_wp2_with fail
   all_goals go_meet
   all_goals exact ⟨rfl,hide hbA⟩
 case rest =>
   obtain ⟨rfl,hbw⟩:=hcut
   clear hro hnd hkeep ha
   have hO1:=Only.of_below (S:=fun _ => False) hbw.out
   have hF1:=hide (h.out.only hO1 (fun h => h) (fun h => h))
   have hbu:=hide (burn_any _ B gf bm most stamp da la (some gd) (some gl) hF1.out)
   go_wp2_with fail
   refine hbu.out.mono ?_
   rintro e w3 ⟨rfl,rfl⟩
   go_wp2_with fail
   have hwc : w.heap.size<=wc.heap.size:=hbw.out.size
   have hgr:=grow_any wc B g k n E v (hf.out.only hO1 (fun h => h) (fun _ _ h => h)) (by omega) (by omega) (by have:=hE.out; omega) (by omega)
   rw [<- hN.out,<- hD.out] at hgr
   replace hgr:=hide hgr
   refine hgr.out.mono ?_
   rintro e w4 ⟨rfl,v4,hF4,hO4,hv4⟩
   have hgneq : g ≠ 0 \/ True:=.inr trivial
   obtain ⟨st4,hb4⟩:=hF4.st
   obtain ⟨xs4,hr4,ho4⟩:=hF4.row
   have hD1 : 1<=D:=by have:=hD.out; have:=hN.out; have:=hE.out; omega
   have hE64 : E<=64 * max k D:=by have:=hD.out; have:=hN.out; omega
   rcases hr4.2 with ⟨_,hz⟩ | ⟨gs,cap,cur,rfl,hgs,hh,hkc,hcm,hcs,ht⟩
   · exfalso; omega
   · have hgbs : gb ≠ gs:=by
       rintro rfl
       rcases hv4 with e | ⟨j,e,hj⟩
       · exact hgv (by rw [<- e]; rfl)
       · have e2 : gb = j := by simpa [Value.ownBlock] using e
         omega
     have hgne : g ≠ gs:=fun e => hF4.gvs (by rw [e]; rfl)
     have hpu:=hide (put_any w4 B g (max k D) N gs cap gb ao n0 c0 at0 st4 [] hb4 cur.toList (by simpa using hh) (by simpa using hcs) (by rw [ht]; exact ho4) hkc (by omega) hn0 (by omega) (by have:=hE.out; omega) hgbs hgne (fun i hi => by
       obtain ⟨x,hx⟩:=hrb.out i hi
       refine ⟨x,?_⟩
       rw [World.cell?_of_block (w:=w) ((hO4.block gb (by omega) (fun e => e.elim (fun e => hgg e) (fun e => hgv e))).trans (hO1.block gb hgb (fun h => h)))]
       exact hx))
     replace hF4:=hide hF4
     replace hO4:=hide hO4
     replace hv4:=hide hv4
     replace hb4:=hide hb4
     replace hr4:=hide hr4
     replace hh:=hide hh
     clear hgr
     go_wp2_with fail
     refine hpu.out.mono ?_
     rintro e w5 ⟨rfl,hb5,hO5,cur5,hh5,hc5,ho5⟩
     have hF1w:=hF1.out
     have hS4 : FSAt w4 B gf bm most stamp da la (some gd) (some gl):=hF1w.only hO4.out
       (fun e => e.elim (fun e => ((hf.out.ngf h.out).1 e)) (fun e => (hf.out.ngf h.out).2 e))
       (fun e => e.elim (fun e => h.out.bmNe hb.out e) (fun e => by
         rcases hr.out.2 with ⟨e2,_⟩ | ⟨g2,c2,cu2,e2,_,hh2,_⟩
         · rw [e2] at e; cases e
         · rw [e2] at e; exact h.out.bmNe (show Blk w g2 _ _ from hh2) (by simpa [Value.ownBlock] using e.symm)))
     have hS5 : FSAt w5 B gf bm most stamp da la (some gd) (some gl):=hS4.only hO5 (Blk.ne_ hS4.st (show Blk w4 gs _ _ from hh.out) (by decide)) (hS4.bmNe (show Blk w4 gs _ _ from hh.out))
     have hF5 : FileX w5 B g (max k D) N (.slice (some ⟨gs,0,none⟩) (max k D) cap):=⟨⟨st4,hb5⟩,⟨cur5.take (max k D * 129),⟨by
       rw [List.length_take,hc5]; exact Nat.min_eq_left (Nat.mul_le_mul_right _ hkc),.inr ⟨gs,cap,cur5.toArray,rfl,hgs,hh5,hkc,hcm,by simpa using hc5,rfl⟩⟩,ho5⟩,hF4.out.gB⟩
     have hch:=hide (changed_any w5 B gf bm most stamp g (max k D) N da la (some gd) (some gl) _ hS5 hF5 hst)
     have hO15 : Only (fun j => j=gf \/ j=g \/ v.ownBlock=some j) w w5:=(((hO1.mono (S:=fun j => j=gf \/ j=g \/ v.ownBlock=some j) (fun _ _ h => h.elim)).trans hO4.out (fun i _ e => .inr e)).trans hO5 (fun i hi e => by
       rcases hv4.out with e2 | ⟨j,e2,hj⟩
       · exact .inr (.inr (by rw [<- e2,e]; rfl))
       · have e3 : gs = j := by simpa [Value.ownBlock] using e2
         omega))
     replace hS5:=hide hS5
     replace hF5:=hide hF5
     replace hO15:=hide hO15
     clear hS4 hpu hbu
     go_wp2_with fail
     refine hch.out.mono ?_
     rintro e w6 ⟨rfl,h6,h7,h8⟩
     replace h6:=hide h6
     replace h7:=hide h7
     replace h8:=hide h8
     go_wp2_with fail
     go_ret
     exact ⟨rfl,h6.out,_,h7.out,hO15.out.trans h8.out (fun i _ e => e.elim .inl (fun e => .inr (.inl e))),hv4.out.imp id (fun ⟨j,e,hj⟩ => ⟨j,e,by omega⟩)⟩
def SyRet (w : World) (B gf bm most stamp : Nat) (da la : List UInt8) (fd fl : Option Nat) (g k n : Nat) (v : Value) (e : Ending) (w' : World) : Prop :=
 e=.returned (.int .i64 0)/\FSAt w' B gf bm most stamp da la fd fl/\FileX w' B g k n v/\Only (fun j => v.ownBlock=some j) w w'
def SyRel (w : World) (g k n st gs cap : Nat) (wx : World) : Prop :=
 Blk wx g 157 #[.slice (some ⟨gs,0,none⟩) k cap,.int .i64 (n : Int),.int .i64 (st : Int)]/\Only (fun j => j=gs) w wx/\∃ cur : List Value,wx.heap[gs]?=some (.cells cur.toArray 163 (0,0))/\cur.length=cap * 129/\OneL (cur.take (k * 129))
theorem sec_size : (Tryz.prog.info? 161).map (·.size)=some 64:=by kernel_rfl
theorem setCells_blk {g : Nat} {t : TypeId} : ∀ (vs : List Value) (o : Nat) (w : World) (cur : Array Value),Blk w g t cur ->
   ∃ cur',Blk (w.setCells g o vs) g t cur'/\cur'.size=cur.size/\∀ (j : Nat) (u : Value),cur'[j]?=some u->u ∈ vs \/ cur[j]?=some u
 | [],o,w,cur,h => ⟨cur,h,rfl,fun _ _ h => .inr h⟩
 | v :: r, o, w, cur, h => by
   obtain ⟨cur',h1,h2,h3⟩:=setCells_blk r (o + 1) _ _ (h.set_ o v)
   refine ⟨cur',h1,by rw [h2]; simp,fun j u hj => ?_⟩
   rcases h3 j u hj with h4 | h4
   · exact .inl (.tail _ h4)
   · rw [Array.getElem?_setIfInBounds] at h4
     split at h4
     · split at h4
       · injection h4 with h4; subst h4; exact .inl (.head _)
       · cases h4
     · exact .inr h4
theorem setCells_only {g : Nat} {a : World} : ∀ (vs : List Value) (o : Nat) (w : World),Only (fun j => j=g) a w->Only (fun j => j=g) a (w.setCells g o vs)
 | [],_,_,h => h
 | v :: r,o,w,h => setCells_only r (o + 1) _ (h.setCell (p:=⟨g,o,none⟩) (fun _ => rfl) v)
theorem sy_row {w' : World} {g gs i : Nat} {cs : List Value} {u : Value} (hne : g ≠ gs) (hcs : cs.length=64)
   (h : w'.cell? ⟨g,0,none⟩=some u/\w'.rangeAt gs (i * 129) cs/\w'.there gs (i * 129 + 64) 64/\(w'.cell? ⟨gs,i * 129 + 128,none⟩).isSome=true/\w'.frozen? ⟨gs,i * 129 + 128,none⟩=false) :
   (w'.setCells gs (i * 129 + 64) cs).cell? ⟨g,0,none⟩=some u/\(w'.setCells gs (i * 129 + 64) cs).rangeAt gs (i * 129) cs/\(w'.setCells gs (i * 129 + 64) cs).there gs (i * 129 + 64) 64/\((w'.setCells gs (i * 129 + 64) cs).cell? ⟨gs,i * 129 + 128,none⟩).isSome=true/\(w'.setCells gs (i * 129 + 64) cs).frozen? ⟨gs,i * 129 + 128,none⟩=false :=
 ⟨by rw [World.cell?_setCells_out gs cs _ w' ⟨g,0,none⟩ (fun hb _ => absurd hb hne)]; exact h.1,World.rangeAt_setCells_apart h.2.1 _ _ _ (.inr (.inl (by omega))),World.there_setCells h.2.2.1 _ _ _,World.isSome_setCells gs cs _ w' _ h.2.2.2.1,by rw [World.frozen?_setCells]; exact h.2.2.2.2⟩
theorem sy_flag {w' : World} {g gs i : Nat} {cs : List Value} {u : Value} (hne : g ≠ gs) (hcs : cs.length=64)
   (h : w'.cell? ⟨g,0,none⟩=some u/\w'.rangeAt gs (i * 129) cs/\w'.there gs (i * 129 + 64) 64/\(w'.cell? ⟨gs,i * 129 + 128,none⟩).isSome=true/\w'.frozen? ⟨gs,i * 129 + 128,none⟩=false) :
   (w'.setCell ⟨gs,i * 129 + 128,none⟩ (.bool false)).cell? ⟨g,0,none⟩=some u/\(w'.setCell ⟨gs,i * 129 + 128,none⟩ (.bool false)).rangeAt gs (i * 129) cs/\(w'.setCell ⟨gs,i * 129 + 128,none⟩ (.bool false)).there gs (i * 129 + 64) 64/\((w'.setCell ⟨gs,i * 129 + 128,none⟩ (.bool false)).cell? ⟨gs,i * 129 + 128,none⟩).isSome=true/\(w'.setCell ⟨gs,i * 129 + 128,none⟩ (.bool false)).frozen? ⟨gs,i * 129 + 128,none⟩=false :=
 ⟨(World.cell?_setCells_out gs [.bool false] (i * 129 + 128) w' ⟨g,0,none⟩ (fun hb _ => absurd hb hne)).trans h.1,World.rangeAt_setCells_apart (vs:=[.bool false]) h.2.1 gs (i * 129 + 128) (.inr (.inl (by omega))),World.there_setCells (vs:=[.bool false]) h.2.2.1 gs (i * 129 + 128),World.isSome_setCells gs [.bool false] (i * 129 + 128) w' _ h.2.2.2.1,(World.frozen?_setCells gs [.bool false] (i * 129 + 128) w' ⟨gs,i * 129 + 128,none⟩).trans h.2.2.2.2⟩
set_option maxHeartbeats 2000000 in
theorem sync_any (w : World) (B gf bm most stamp g k n : Nat) (da la nm : List UInt8) (fd fl : Option Nat) (v : Value) (h : FSAt w B gf bm most stamp da la fd fl) (hn : Names nm da la fd fl (some g)) (hnl : nm.length<=24) (hf : FileX w B g k n v) (hk : k<=100000) :
   Calls Tryz.prog 102 #[.pointer (some ⟨gf,0,none⟩),.string (str nm)] w (SyRet w B gf bm most stamp da la fd fl g k n v):=by
 have ha:=hide (fat_some w B gf bm most stamp g da la nm fd fl h hn (by omega))
 have hbu:=hide (burn_any w B gf bm most stamp da la fd fl h)
 obtain ⟨st,hb⟩:=hf.st
 obtain ⟨xs,hr,hone⟩:=hf.row
 obtain ⟨ov,capv,hv⟩:=ownsRow_slice hr
 have c0:=hb.cell 0
 rw [hv] at c0
 have hrel0 : 0 < k->∃ gs,v=.slice (some ⟨gs,0,none⟩) k capv/\Hid (SyRel w g k n st gs capv w)/\k<=capv/\g ≠ gs/\B<=gs:=fun h0 => by
   rcases hr.2 with ⟨_,hz⟩ | ⟨gs,cap,cur,e,hgs,hh,hkc,hcm,hcs,ht⟩
   · omega
   · rw [hv] at e
     injection e with e1 e2 e3
     subst e1; subst e3
     refine ⟨gs,hv,hide ⟨by rw [hv] at hb; exact hb,Only.refl _ w,cur.toList,by simpa using hh,by simpa using hcs,by rw [ht]; exact hone⟩,hkc,fun e => hf.gvs (by rw [hv,e]; rfl),hgs⟩
 have hone':=hide hone
 clear hone
 replace h:=hide h
 replace hb:=hide hb
 replace hr:=hide hr
 replace hf:=hide hf
 replace hn:=hide hn
 rcases Nat.eq_zero_or_pos k with h0 | h0
 · subst h0
   clear hrel0
   replace hv:=hide hv
   go_enter Tryz.func102,Tryz.ntmps102
   go_wp2_with fail
   refine ha.out.mono ?_
   rintro e w1 ⟨rfl,rfl⟩
   go_wp2_with fail
   refine hbu.out.mono ?_
   rintro e w2 ⟨rfl,rfl⟩
   go_wp2_with fail
   go_loopw [7,27] (fun _ v27 wx => v27=.int .i64 0/\wx=w) (fun _ _ _ => 0)
   case atStart => exact ⟨rfl,rfl⟩
   case round =>
     obtain ⟨rfl,rfl⟩:=hrel
     go_wp2_with fail
     go_ret
     exact ⟨rfl,h.out,hf.out,Only.refl _ _⟩
 · obtain ⟨gs, rfl, hS0, hkc, hne, hgs⟩ := hrel0 h0
   injection hv with e1
   subst e1
   replace hgs:=hide hgs
   have hst : Hid (∀ w' : World,∀ i : Nat,(w'.cell? ⟨gs,i,none⟩).isSome=true->w'.frozen? ⟨gs,i,none⟩=false->(Instr.storeAt 4 (.pointer (some ⟨gs,i,none⟩)) (.bool false)).run Tryz.prog w'=.ok () (w'.setCell ⟨gs,i,none⟩ (.bool false))):=hide fun w' i h1 h2 => by
     have h3:=run_storeVar_mid (P:=Tryz.prog) w' gs i 4 #[.bool false] (fun j hj => by
       have hj0 : j=0:=by simpa using hj
       subst hj0; exact ⟨h1,h2⟩) (by kernel_rfl) (by simp [Value.oneCell'])
     simp only [Instr.storeAt,Instr.sureAddr,Sem.run_bind,Sem.run_pure,Result.andThen_ok]
     exact h3
   go_enter Tryz.func102,Tryz.ntmps102
   go_wp2_with fail
   refine ha.out.mono ?_
   rintro e w1 ⟨rfl,rfl⟩
   go_wp2_with fail
   refine hbu.out.mono ?_
   rintro e w2 ⟨rfl,rfl⟩
   go_wp2_with fail
   go_loopw [7,27] (fun _ v27 wx => ∃ i : Nat,v27=.int .i64 (i : Int)/\i<=k/\Hid (SyRel w g k n st gs capv wx)) (fun _ v27 _ => k - (intOf v27).toNat)
   case atStart => exact ⟨0,rfl,by omega,hS0⟩
   case round =>
     obtain ⟨i,rfl,hik,hR⟩:=hrel
     rcases Nat.lt_or_ge i k with hlt | hge
     · have hikI : (i : Int) < (k : Int) := by omega
       have hik0 : (0 : Int)<=(i : Int):=by omega
       obtain ⟨hbx,hOx,cur,hcx,hcl,hco⟩:=hR.out
       have d0:=hbx.cell 0
       have hkc129 : k * 129<=capv * 129:=Nat.mul_le_mul_right _ hkc
       have hi129 : i * 129 + 129<=k * 129:=by omega
       obtain ⟨cs,hcs⟩ : ∃ cs,cs=(cur.drop (i * 129)).take 64:=⟨_,rfl⟩
       have hcs64 : cs.length=64:=by rw [hcs,List.length_take,List.length_drop]; omega
       have hcs1 : ∀ u ∈ cs,u.oneCell'=true:=fun u hu => by
         obtain ⟨j,hj⟩:=List.mem_iff_getElem?.1 hu
         rw [hcs,List.getElem?_take] at hj
         split at hj
         · rw [List.getElem?_drop] at hj
           exact hco (i * 129 + j) u (by rw [List.getElem?_take,if_pos (by omega)]; exact hj)
         · cases hj
       have hra : wr.rangeAt gs (i * 129) cs:=fun j u hj => by
         rw [cell_of_row wr gs (i * 129 + j) _ _ (0,0) hcx]
         rw [hcs,List.getElem?_take] at hj
         split at hj
         · rw [List.getElem?_drop] at hj; simpa using hj
         · cases hj
       have hce : ∀ j,j < capv * 129->(wr.cell? ⟨gs,j,none⟩).isSome=true/\wr.frozen? ⟨gs,j,none⟩=false:=fun j hj => by
         refine ⟨?_,Blk.frozen (show Blk wr gs _ _ from hcx) j⟩
         rw [cell_of_row wr gs j _ _ (0,0) hcx]
         simp; omega
       have hth : wr.there gs (i * 129 + 64) 64:=fun j hj => hce _ (by omega)
       have hfl:=hce (i * 129 + 128) (by omega)
       have hS : wr.cell? ⟨g,0,none⟩=some (.slice (some ⟨gs,0,none⟩) k capv)/\wr.rangeAt gs (i * 129) cs/\wr.there gs (i * 129 + 64) 64/\(wr.cell? ⟨gs,i * 129 + 128,none⟩).isSome=true/\wr.frozen? ⟨gs,i * 129 + 128,none⟩=false:=⟨d0,hra,hth,hfl.1,hfl.2⟩
       obtain ⟨q0,q1,q2,q3,q4⟩:=hS
       obtain ⟨fl,hfl2⟩ : ∃ fl : World->Value,∀ w' : World,(w'.cell? ⟨gs,i * 129 + 128,none⟩).isSome=true->w'.cell? ⟨gs,i * 129 + 128,none⟩=some (fl w') :=
         ⟨fun w' => (w'.cell? ⟨gs,i * 129 + 128,none⟩).getD undef,fun w' h => by obtain ⟨u,hu⟩:=Option.isSome_iff_exists.1 h; show _=some ((w'.cell? ⟨gs,i * 129 + 128,none⟩).getD undef); rw [hu]; rfl⟩
       have hkr : Hid (∀ w' : World,(w'.cell? ⟨g,0,none⟩=some (.slice (some ⟨gs,0,none⟩) k capv)/\w'.rangeAt gs (i * 129) cs/\w'.there gs (i * 129 + 64) 64/\w'.cell? ⟨gs,i * 129 + 128,none⟩=some (fl w')/\w'.frozen? ⟨gs,i * 129 + 128,none⟩=false) ->
           ((w'.setCells gs (i * 129 + 64) cs).cell? ⟨g,0,none⟩=some (.slice (some ⟨gs,0,none⟩) k capv)/\(w'.setCells gs (i * 129 + 64) cs).rangeAt gs (i * 129) cs/\(w'.setCells gs (i * 129 + 64) cs).there gs (i * 129 + 64) 64/\(w'.setCells gs (i * 129 + 64) cs).cell? ⟨gs,i * 129 + 128,none⟩=some (fl (w'.setCells gs (i * 129 + 64) cs))/\(w'.setCells gs (i * 129 + 64) cs).frozen? ⟨gs,i * 129 + 128,none⟩=false)):=hide fun w' h => by
         have h2:=sy_row hne hcs64 ⟨h.1,h.2.1,h.2.2.1,by rw [h.2.2.2.1]; rfl,h.2.2.2.2⟩
         exact ⟨h2.1,h2.2.1,h2.2.2.1,hfl2 _ h2.2.2.2.1,h2.2.2.2.2⟩
       have hkf : Hid (∀ w' : World,(w'.cell? ⟨g,0,none⟩=some (.slice (some ⟨gs,0,none⟩) k capv)/\w'.rangeAt gs (i * 129) cs/\w'.there gs (i * 129 + 64) 64/\w'.cell? ⟨gs,i * 129 + 128,none⟩=some (fl w')/\w'.frozen? ⟨gs,i * 129 + 128,none⟩=false) ->
           ((w'.setCell ⟨gs,i * 129 + 128,none⟩ (.bool false)).cell? ⟨g,0,none⟩=some (.slice (some ⟨gs,0,none⟩) k capv)/\(w'.setCell ⟨gs,i * 129 + 128,none⟩ (.bool false)).rangeAt gs (i * 129) cs/\(w'.setCell ⟨gs,i * 129 + 128,none⟩ (.bool false)).there gs (i * 129 + 64) 64/\(w'.setCell ⟨gs,i * 129 + 128,none⟩ (.bool false)).cell? ⟨gs,i * 129 + 128,none⟩=some (fl (w'.setCell ⟨gs,i * 129 + 128,none⟩ (.bool false)))/\(w'.setCell ⟨gs,i * 129 + 128,none⟩ (.bool false)).frozen? ⟨gs,i * 129 + 128,none⟩=false)):=hide fun w' h => by
         have h2:=sy_flag hne hcs64 ⟨h.1,h.2.1,h.2.2.1,by rw [h.2.2.2.1]; rfl,h.2.2.2.2⟩
         exact ⟨h2.1,h2.2.1,h2.2.2.1,hfl2 _ h2.2.2.2.1,h2.2.2.2.2⟩
       have hS : Hid (∀ nq,(wr.drewN nq).cell? ⟨g,0,none⟩=some (.slice (some ⟨gs,0,none⟩) k capv)/\(wr.drewN nq).rangeAt gs (i * 129) cs/\(wr.drewN nq).there gs (i * 129 + 64) 64/\(wr.drewN nq).cell? ⟨gs,i * 129 + 128,none⟩=some (fl (wr.drewN nq))/\(wr.drewN nq).frozen? ⟨gs,i * 129 + 128,none⟩=false):=hide fun nq => ⟨q0,q1,q2,hfl2 _ q3,q4⟩
       have hu:=Tryz.underlying161
       have hi64 : (Tryz.prog.info? 161).map (·.size)=some cs.length:=by rw [hcs64]; exact sec_size
       replace hfl2:=hide hfl2
       clear q1 q2 q3 q4 hst
       replace hbx:=hide hbx
       replace hOx:=hide hOx
       replace hcx:=hide hcx
       replace hcs:=hide hcs
       replace hco:=hide hco
       replace hR:=hide hR.out
       clear hce hra hth hfl
       go_wp2_with fail
       go_region_held3 (fun w' => w'.cell? ⟨g,0,none⟩=some (.slice (some ⟨gs,0,none⟩) k capv)/\w'.rangeAt gs (i * 129) cs/\w'.there gs (i * 129 + 64) 64/\w'.cell? ⟨gs,i * 129 + 128,none⟩=some (fl w')/\w'.frozen? ⟨gs,i * 129 + 128,none⟩=false) (first | exact hS.out 0 | exact hS.out 1 | exact hkr.out _ (by assumption) | exact hkf.out _ (by assumption) | exact hkr.out _ ⟨by assumption,by assumption,by assumption,by assumption,by assumption⟩ | exact hkf.out _ ⟨by assumption,by assumption,by assumption,by assumption,by assumption⟩) (fail)
       have hrelN : Hid (SyRel w g k n st gs capv ((wr.drew.setCells gs (i * 129 + 64) cs).setCell ⟨gs,i * 129 + 128,none⟩ (.bool false))):=by
         have hO:=(setCells_only cs (i * 129 + 64) wr.drew hOx.out.drew).setCell (p:=⟨gs,i * 129 + 128,none⟩) (fun _ => rfl) (.bool false)
         obtain ⟨cur2,h1,h2,h3⟩:=setCells_blk cs (i * 129 + 64) wr.drew cur.toArray (show Blk wr.drew gs 163 cur.toArray from hcx.out)
         have h4:=h1.set_ (i * 129 + 128) (.bool false)
         refine hide ⟨(((setCells_only cs (i * 129 + 64) wr.drew ((Only.refl (fun j => j=gs) wr).drew)).setCell (p:=⟨gs,i * 129 + 128,none⟩) (fun _ => rfl) (.bool false))).blk hbx.out hne,hO,(cur2.setIfInBounds (i * 129 + 128) (.bool false)).toList,by rw [Array.toArray_toList]; exact h4,by simp [h2,hcl],fun j u hj => ?_⟩
         rw [List.getElem?_take] at hj
         split at hj
         · rename_i hjk
           rw [Array.getElem?_toList,Array.getElem?_setIfInBounds] at hj
           split at hj
           · split at hj
             · injection hj with hj; rw [<- hj]; rfl
             · cases hj
           · rcases h3 j u hj with h5 | h5
             · exact hcs1 u h5
             · exact hco.out j u (by rw [List.getElem?_take,if_pos hjk]; simpa using h5)
         · cases hj
       go_wp2_with fail
       go_roundw
       case rel => exact ⟨i + 1,by simp,by omega,hrelN⟩
       case measure => simp [intOf]; omega
     · have hki : i = k := by omega
       subst hki
       obtain ⟨hbx,hOx,cur,hcx,hcl,hco⟩:=hR.out
       have hfin : Hid (SyRet w B gf bm most stamp da la fd fl g i n (.slice (some ⟨gs,0,none⟩) i capv) (.returned (.int .i64 0)) wr):=by
         have hOv : Only (fun j => (Value.slice (some ⟨gs,0,none⟩) i capv).ownBlock=some j) w wr:=hOx.mono fun j _ e => by rw [e]; rfl
         have hgz:=hf.out.ngf h.out
         refine hide ⟨rfl,h.out.only hOx (fun e => hgz.2 (by rw [<- e]; rfl)) (fun e => ?_),⟨⟨st,hbx⟩,⟨cur.take (i * 129),⟨by rw [List.length_take,hcl]; exact Nat.min_eq_left (Nat.mul_le_mul_right _ hkc),.inr ⟨gs,capv,cur.toArray,rfl,hgs.out,hcx,hkc,?_,by simpa using hcl,by simp⟩⟩,hco⟩,hf.out.gB⟩,hOv⟩
         · rcases hr.out.2 with ⟨e2, _⟩ | ⟨g2, c2, cu2, e2, _, hh2, _⟩
           · cases e2
           · have e3 : g2 = gs := by injection e2 with e2; injection e2 with e2; injection e2 with e2; exact e2.symm
             subst e3
             exact h.out.bmNe (show Blk w g2 _ _ from hh2) e
         · rcases hr.out.2 with ⟨e2, _⟩ | ⟨g2, c2, cu2, e2, _, hh2, _, hm, _⟩
           · cases e2
           · injection e2 with _ _ e4
             rw [e4]; exact hm
       have hii : ¬ (i : Int) < (i : Int):=by omega
       replace hbx:=hide hbx
       replace hOx:=hide hOx
       replace hcx:=hide hcx
       replace hcl:=hide hcl
       replace hco:=hide hco
       go_wp2_with fail
       go_ret
       exact hfin.out
theorem changed_raw (w : World) (gf bm most stamp g : Nat) (u1 u2 : Value) (st : Nat) (h : Blk w gf 79 #[.int .i64 (most : Int),.int .i64 (stamp : Int),.int .i64 (-1),.bool false,.map (some bm)]) (hb : Blk w g 157 #[u1,u2,.int .i64 (st : Int)]) (hs : stamp<=1000000) :
   Calls Tryz.prog 98 #[.pointer (some ⟨gf,0,none⟩),.pointer (some ⟨g,0,none⟩)] w fun e w' => e=.returned (.int .i64 0)/\Only (fun j => j=gf \/ j=g) w w':=by
 have hne : gf ≠ g:=Blk.ne_ h hb (by decide)
 have c1:=h.cell 1
 have q1:=h.frozen 1
 have d2:=hb.cell 2
 have r2:=hb.frozen 2
 obtain ⟨S1,hS1⟩ : ∃ S1,S1=stamp + 1:=⟨_,rfl⟩
 have hI : (stamp : Int) + 1=(S1 : Int):=by omega
 have hbz:=hb.far (p:=⟨gf,1,none⟩) (fun e => hne e.symm) (.int .i64 (S1 : Int))
 have e2:=hbz.cell 2
 have t2:=hbz.frozen 2
 have hO1 : Only (fun j => j=gf \/ j=g) w (w.setCell ⟨gf,1,none⟩ (.int .i64 (S1 : Int))):=(Only.refl _ w).setCell (p:=⟨gf,1,none⟩) (fun _ => .inl rfl) _
 have hO2:=hide (hO1.setCell (p:=⟨g,2,none⟩) (fun _ => .inr rfl) (.int .i64 (S1 : Int)))
 have c1':=(h.set_ 1 (.int .i64 (S1 : Int))).cell 1
 replace h:=hide h
 replace hb:=hide hb
 replace hS1:=hide hS1
 replace hbz:=hide hbz
 replace hO1:=hide hO1
 go_enter Tryz.func98,Tryz.ntmps98
 go_wp2_with fail
 go_ret
 exact ⟨rfl,hO2.out⟩
set_option maxHeartbeats 2000000 in
theorem cut0_any (w : World) (B gf bm most stamp g k n : Nat) (da la nm : List UInt8) (fd fl : Option Nat) (v : Value) (h : FSAt w B gf bm most stamp da la fd fl) (hn : Names nm da la fd fl (some g)) (hnl : nm.length<=24) (hf : FileX w B g k n v) (hs : stamp<=1000000) :
   Calls Tryz.prog 65 #[.pointer (some ⟨gf,0,none⟩),.string (str nm),.int .i64 0] w fun e w' => e=.returned (.int .i64 0)/\Only (fun j => j=gf \/ j=g) w w':=by
 have ha:=hide (fat_some w B gf bm most stamp g da la nm fd fl h hn (by omega))
 have hbu:=hide (burn_any w B gf bm most stamp da la fd fl h)
 have hnd:=hide (fun wz => need_any wz 0 (by omega))
 obtain ⟨st,hb⟩:=hf.st
 obtain ⟨xs,hr,hone⟩:=hf.row
 obtain ⟨ov,capv,rfl⟩:=ownsRow_slice hr
 have c0:=hb.cell 0
 have c1:=hb.cell 1
 have f0:=hb.frozen 0
 have f1:=hb.frozen 1
 have hne : gf ≠ g:=(hf.ngf h).1
 have hst:=h.st
 replace h:=hide h
 replace hb:=hide hb
 replace hr:=hide hr
 replace hf:=hide hf
 replace hn:=hide hn
 replace hone:=hide hone
 replace hst:=hide hst
 have hgb:=(hb.out.set_ 1 (.int .i64 0)).set_ 0 (.slice ov 0 0)
 have hfb:=(hst.out.far (p:=⟨g,1,none⟩) hne (.int .i64 0)).far (p:=⟨g,0,none⟩) hne (.slice ov 0 0)
 have hO : Only (fun j => j=gf \/ j=g) w ((w.setCell ⟨g,1,none⟩ (.int .i64 0)).setCell ⟨g,0,none⟩ (.slice ov 0 0)):=((Only.refl _ w).setCell (p:=⟨g,1,none⟩) (fun _ => .inr rfl) _).setCell (p:=⟨g,0,none⟩) (fun _ => .inr rfl) _
 have hch:=hide (changed_raw (((w.setCell ⟨g,1,none⟩ (.int .i64 0)).setCell ⟨g,0,none⟩ (.slice ov 0 0)).drew) gf bm most stamp g _ _ st hfb.drew hgb.drew hs)
 replace hO:=hide hO.drew
 replace hgb:=hide hgb
 replace hfb:=hide hfb
 go_enter Tryz.func65,Tryz.ntmps65
 go_upto_region 8 with (first | (go_at_call 95; refine ha.out.mono ?_; rintro e w1 ⟨rfl,rfl⟩) | (go_at_call 97; refine hbu.out.mono ?_; rintro e w2 ⟨rfl,rfl⟩))
 go_region_with (go_at_call 103; refine (hnd.out _).mono ?_; rintro e w3 ⟨rfl,rfl⟩)
 all_goals
   go_wp2_with fail
   refine hch.out.mono ?_
   rintro e w4 ⟨rfl,h4⟩
   replace h4:=hide h4
   go_wp2_with fail
   go_ret
   exact ⟨rfl,hO.out.trans h4.out fun _ _ h => h⟩
def FsB (w : World) (j : Nat) : Prop:=∃ cs,Blk w j 79 cs \/ Blk w j 157 cs \/ Blk w j 163 cs
def FsO (w w' : World) : Prop:=Only (FsB w) w w'
theorem FsO.trans {a b c : World} (h : FsO a b) (k : FsO b c) : FsO a c:=Only.trans h k fun i hi hs => Classical.byContradiction fun hn => by
 have h1:=Only.block h i hi hn
 obtain ⟨cs,hcs⟩:=hs
 rcases hcs with h2 | h2 | h2
 · exact hn ⟨cs,.inl (h1.symm.trans h2)⟩
 · exact hn ⟨cs,.inr (.inl (h1.symm.trans h2))⟩
 · exact hn ⟨cs,.inr (.inr (h1.symm.trans h2))⟩
theorem FsO.of_below {w w' : World} (h : Below w.heap.size w w') : FsO w w':=Only.of_below h
theorem FsO.blk {w w' : World} (h : FsO w w') {g : Nat} {t : TypeId} {cs : Array Value} (hb : Blk w g t cs) (h1 : t ≠ 79) (h2 : t ≠ 157) (h3 : t ≠ 163) : Blk w' g t cs :=
 Only.blk h hb fun ⟨c,hc⟩ => by
   rcases hc with hc | hc | hc
   · exact Blk.ne_ hb hc h1 rfl
   · exact Blk.ne_ hb hc h2 rfl
   · exact Blk.ne_ hb hc h3 rfl
structure FSt (w : World) (H0 gf bm most stamp : Nat) (da la : List UInt8) (gd kd nd gl kl nl : Nat) (vd vl : Value) : Prop where
 fs : FSAt w 0 gf bm most stamp da la (some gd) (some gl)
 fd : FileX w 0 gd kd nd vd
 fl : FileX w 0 gl kl nl vl
 hd : H0<=gd/\∀ j,vd.ownBlock=some j->H0<=j
 hl : H0<=gl/\∀ j,vl.ownBlock=some j->H0<=j
 ne : gd ≠ gl
 ap : ∀ j,vd.ownBlock=some j->vl.ownBlock ≠ some j
 sz : H0<=w.heap.size
def Fr (H0 gf bm : Nat) (w w' : World) : Prop:=Only (fun j => j=gf \/ j=bm \/ H0<=j) w w'
theorem Fr.trans {H0 gf bm : Nat} {a b c : World} (h : Fr H0 gf bm a b) (k : Fr H0 gf bm b c) : Fr H0 gf bm a c:=Only.trans h k fun _ _ h => h
theorem own_blk_of {w : World} {B n : Nat} {e : TypeId} {sz j : Nat} {v : Value} {xs : List Value} (h : w.ownsRow B e sz v n xs) (hj : v.ownBlock=some j) : ∃ cs,Blk w j e cs:=by
 rcases h.2 with ⟨rfl,_⟩ | ⟨g,cap,cur,rfl,_,hh,_⟩
 · cases hj
 · have : g = j := by simpa [Value.ownBlock] using hj
   subst this
   exact ⟨cur,hh⟩
section
variable {w w' : World} {H0 gf bm most stamp gd kd nd gl kl nl : Nat} {da la : List UInt8} {vd vl : Value}
theorem FSt.fsb_f (h : FSt w H0 gf bm most stamp da la gd kd nd gl kl nl vd vl) : FsB w gf:=⟨_,.inl h.fs.st⟩
theorem FSt.fsb_d (h : FSt w H0 gf bm most stamp da la gd kd nd gl kl nl vd vl) : FsB w gd:=by obtain ⟨st,hb⟩:=h.fd.st; exact ⟨_,.inr (.inl hb)⟩
theorem FSt.fsb_l (h : FSt w H0 gf bm most stamp da la gd kd nd gl kl nl vd vl) : FsB w gl:=by obtain ⟨st,hb⟩:=h.fl.st; exact ⟨_,.inr (.inl hb)⟩
theorem FSt.fsb_vd (h : FSt w H0 gf bm most stamp da la gd kd nd gl kl nl vd vl) {j : Nat} (hj : vd.ownBlock=some j) : FsB w j:=by
 obtain ⟨xs,hr,_⟩:=h.fd.row
 obtain ⟨cs,hb⟩:=own_blk_of hr hj
 exact ⟨cs,.inr (.inr hb)⟩
theorem FSt.fsb_vl (h : FSt w H0 gf bm most stamp da la gd kd nd gl kl nl vd vl) {j : Nat} (hj : vl.ownBlock=some j) : FsB w j:=by
 obtain ⟨xs,hr,_⟩:=h.fl.row
 obtain ⟨cs,hb⟩:=own_blk_of hr hj
 exact ⟨cs,.inr (.inr hb)⟩
theorem FSt.keep (h : FSt w H0 gf bm most stamp da la gd kd nd gl kl nl vd vl) {S : Nat->Prop} (hO : Only S w w') (hn : ∀ j,S j->¬ FsB w j) (hb : ¬ S bm) : FSt w' H0 gf bm most stamp da la gd kd nd gl kl nl vd vl :=
 ⟨h.fs.only hO (fun e => hn _ e h.fsb_f) hb,h.fd.only hO (fun e => hn _ e h.fsb_d) (fun j hj e => hn _ e (h.fsb_vd hj)),h.fl.only hO (fun e => hn _ e h.fsb_l) (fun j hj e => hn _ e (h.fsb_vl hj)),h.hd,h.hl,h.ne,h.ap,Nat.le_trans h.sz hO.size⟩
theorem FSt.below (h : FSt w H0 gf bm most stamp da la gd kd nd gl kl nl vd vl) (hb : Below w.heap.size w w') : FSt w' H0 gf bm most stamp da la gd kd nd gl kl nl vd vl:=h.keep (S:=fun _ => False) (Only.of_below hb) (fun _ h => h.elim) (fun h => h)
theorem FSt.drewN (h : FSt w H0 gf bm most stamp da la gd kd nd gl kl nl vd vl) (q : Nat) : FSt (w.drewN q) H0 gf bm most stamp da la gd kd nd gl kl nl vd vl:=h.below (below_drewN (Below.refl _ _) q)
end
def SrcB (w : World) (gb n : Nat) : Prop:=(∀ i,i < n->∃ x : UInt8,w.cell? ⟨gb,i,none⟩=some (.int .u8 (x.toNat : Int)))/\(∃ t cs fr,w.heap[gb]?=some (.cells cs t fr)/\t ≠ 79/\t ≠ 157/\t ≠ 163)
theorem SrcB.not {w : World} {gb n j : Nat} (h : SrcB w gb n) (hj : FsB w j) : gb ≠ j:=by
 rintro rfl
 obtain ⟨_,t,cs,fr,hb,h1,h2,h3⟩:=h
 obtain ⟨c,hc⟩:=hj
 rcases hc with hc | hc | hc
 · unfold Blk at hc; rw [hb] at hc; injection hc with hc; injection hc with _ e; exact h1 e
 · unfold Blk at hc; rw [hb] at hc; injection hc with hc; injection hc with _ e; exact h2 e
 · unfold Blk at hc; rw [hb] at hc; injection hc with hc; injection hc with _ e; exact h3 e
theorem write_l (w : World) (H0 gf bm most stamp gd kd nd gl kl nl gb n0 c0 at0 : Nat) (da la : List UInt8) (vd vl : Value) (h : FSt w H0 gf bm most stamp da la gd kd nd gl kl nl vd vl) (hla : la.length<=24) (hmost : most<=65536) (hk : kd + kl<=most) (hnl : nl<=2000000) (hst : stamp<=1000000)
   (hat : at0<=nl) (h0 : 0 < n0) (hn0 : n0<=c0) (hc0 : c0<=9223372036854775807) (hn00 : n0<=1000000) (hroom : (max nl (at0 + n0) + 63) / 64 - kl<=most - kd - kl) (hs : SrcB w gb n0) :
   Calls Tryz.prog 101 #[.pointer (some ⟨gf,0,none⟩),.string (str la),.int .i64 (at0 : Int),.slice (some ⟨gb,0,none⟩) n0 c0] w fun e w' => e=.returned (.int .i64 0) /\
     Hid (∃ vl',FSt w' H0 gf bm most (stamp + 1) da la gd kd nd gl (max kl ((max nl (at0 + n0) + 63) / 64)) (max nl (at0 + n0)) vd vl'/\FsO w w'/\Fr H0 gf bm w w'):=by
 have hgbl : gb < w.heap.size:=(Array.getElem?_eq_some_iff.1 hs.2.choose_spec.choose_spec.choose_spec.1).1
 refine (fwrite_any w 0 gf bm most stamp gd kd nd gl kl nl gl kl nl gb 0 n0 c0 at0 da la la vd vl vl h.fs h.fd h.fl (.inr ⟨rfl,rfl⟩) hla h.fl hmost hk (by omega) hnl hst (Nat.zero_le _) hat h0 hn0 hc0 hn00 hroom hgbl (fun e => hs.not (h.fsb_vl e) rfl) (fun e => hs.not h.fsb_l e) (fun i hi => by rw [Nat.zero_add]; exact hs.1 i hi)).mono ?_
 rintro e w' ⟨rfl,h1,v',h2,h3,h4⟩
 refine ⟨rfl,hide ⟨v',⟨h1,h.fd.only h3 ?_ ?_,h2,h.hd,⟨h.hl.1,fun j hj => ?_⟩,h.ne,fun j hj e => ?_,Nat.le_trans h.sz h3.size⟩,h3.mono fun j hj hs => ?_,h3.mono fun j hj hs => ?_⟩⟩
 · rintro (e | e | e)
   · exact (h.fd.ngf h.fs).1 e.symm
   · exact h.ne e
   · exact absurd e (fun e => by
       obtain ⟨xs,hr,_⟩:=h.fl.row
       obtain ⟨st,hb⟩:=h.fd.st
       exact own_blk_ne hr hb (by decide) e)
 · rintro j hj (e | e | e)
   · exact (h.fd.ngf h.fs).2 (by rw [hj,e])
   · obtain ⟨xs, hr, _⟩ := h.fd.row
     obtain ⟨st,hb⟩:=h.fl.st
     exact own_blk_ne hr hb (by decide) (by rw [hj,e])
   · exact h.ap j hj e
 · rcases h4 with e | ⟨q, e, hq⟩
   · exact h.hl.2 j (by rw [<- e]; exact hj)
   · rw [hj] at e; injection e with e; have:=h.sz; omega
 · rcases h4 with e2 | ⟨q, e2, hq⟩
   · exact h.ap j hj (by rw [<- e2]; exact e)
   · rw [e] at e2; injection e2 with e2
     obtain ⟨xs,hr,_⟩:=h.fd.row
     obtain ⟨cs,hb⟩:=own_blk_of hr hj
     have:=hb.lt; omega
 · rcases hs with rfl | rfl | e
   · exact h.fsb_f
   · exact h.fsb_l
   · exact h.fsb_vl e
 · rcases hs with rfl | rfl | e
   · exact .inl rfl
   · exact .inr (.inr h.hl.1)
   · exact .inr (.inr (h.hl.2 j e))
theorem write_d (w : World) (H0 gf bm most stamp gd kd nd gl kl nl gb n0 c0 at0 : Nat) (da la : List UInt8) (vd vl : Value) (h : FSt w H0 gf bm most stamp da la gd kd nd gl kl nl vd vl) (hla : da.length<=24) (hmost : most<=65536) (hk : kd + kl<=most) (hnl : nd<=2000000) (hst : stamp<=1000000)
   (hat : at0<=nd) (h0 : 0 < n0) (hn0 : n0<=c0) (hc0 : c0<=9223372036854775807) (hn00 : n0<=1000000) (hroom : (max nd (at0 + n0) + 63) / 64 - kd<=most - kd - kl) (hs : SrcB w gb n0) :
   Calls Tryz.prog 101 #[.pointer (some ⟨gf,0,none⟩),.string (str da),.int .i64 (at0 : Int),.slice (some ⟨gb,0,none⟩) n0 c0] w fun e w' => e=.returned (.int .i64 0) /\
     Hid (∃ vd',FSt w' H0 gf bm most (stamp + 1) da la gd (max kd ((max nd (at0 + n0) + 63) / 64)) (max nd (at0 + n0)) gl kl nl vd' vl/\FsO w w'/\Fr H0 gf bm w w'):=by
 have hgbl : gb < w.heap.size:=(Array.getElem?_eq_some_iff.1 hs.2.choose_spec.choose_spec.choose_spec.1).1
 refine (fwrite_any w 0 gf bm most stamp gd kd nd gl kl nl gd kd nd gb 0 n0 c0 at0 da la da vd vl vd h.fs h.fd h.fl (.inl ⟨rfl,rfl⟩) hla h.fd hmost hk (by omega) hnl hst (Nat.zero_le _) hat h0 hn0 hc0 hn00 hroom hgbl (fun e => hs.not (h.fsb_vd e) rfl) (fun e => hs.not h.fsb_d e) (fun i hi => by rw [Nat.zero_add]; exact hs.1 i hi)).mono ?_
 rintro e w' ⟨rfl,h1,v',h2,h3,h4⟩
 refine ⟨rfl,hide ⟨v',⟨h1,h2,h.fl.only h3 ?_ ?_,⟨h.hd.1,fun j hj => ?_⟩,h.hl,h.ne,fun j hj e => ?_,Nat.le_trans h.sz h3.size⟩,h3.mono fun j hj hs => ?_,h3.mono fun j hj hs => ?_⟩⟩
 · rintro (e | e | e)
   · exact (h.fl.ngf h.fs).1 e.symm
   · exact h.ne e.symm
   · obtain ⟨xs, hr, _⟩ := h.fd.row
     obtain ⟨st,hb⟩:=h.fl.st
     exact own_blk_ne hr hb (by decide) e
 · rintro j hj (e | e | e)
   · exact (h.fl.ngf h.fs).2 (by rw [hj,e])
   · obtain ⟨xs, hr, _⟩ := h.fl.row
     obtain ⟨st,hb⟩:=h.fd.st
     exact own_blk_ne hr hb (by decide) (by rw [hj,e])
   · exact h.ap j e hj
 · rcases h4 with e | ⟨q, e, hq⟩
   · exact h.hd.2 j (by rw [<- e]; exact hj)
   · rw [hj] at e; injection e with e; have:=h.sz; omega
 · rcases h4 with e2 | ⟨q, e2, hq⟩
   · exact h.ap j (by rw [<- e2]; exact hj) e
   · rw [hj] at e2; injection e2 with e2
     obtain ⟨xs,hr,_⟩:=h.fl.row
     obtain ⟨cs,hb⟩:=own_blk_of hr e
     have:=hb.lt; omega
 · rcases hs with rfl | rfl | e
   · exact h.fsb_f
   · exact h.fsb_d
   · exact h.fsb_vd e
 · rcases hs with rfl | rfl | e
   · exact .inl rfl
   · exact .inr (.inr h.hd.1)
   · exact .inr (.inr (h.hd.2 j e))
theorem sync_l (w : World) (H0 gf bm most stamp gd kd nd gl kl nl : Nat) (da la : List UInt8) (vd vl : Value) (h : FSt w H0 gf bm most stamp da la gd kd nd gl kl nl vd vl) (hla : la.length<=24) (hk : kl<=100000) :
   Calls Tryz.prog 102 #[.pointer (some ⟨gf,0,none⟩),.string (str la)] w fun e w' => e=.returned (.int .i64 0)/\Hid (FSt w' H0 gf bm most stamp da la gd kd nd gl kl nl vd vl/\FsO w w'/\Fr H0 gf bm w w'):=by
 refine (sync_any w 0 gf bm most stamp gl kl nl da la la (some gd) (some gl) vl h.fs (.inr ⟨rfl,rfl⟩) hla h.fl hk).mono ?_
 rintro e w' ⟨rfl,h1,h2,h3⟩
 refine ⟨rfl,hide ⟨⟨h1,h.fd.only h3 (fun e => ?_) (fun j hj e => h.ap j hj e),h2,h.hd,h.hl,h.ne,h.ap,Nat.le_trans h.sz h3.size⟩,h3.mono fun j hj hs => h.fsb_vl hs,h3.mono fun j hj hs => .inr (.inr (h.hl.2 j hs))⟩⟩
 obtain ⟨xs,hr,_⟩:=h.fl.row
 obtain ⟨st,hb⟩:=h.fd.st
 exact own_blk_ne hr hb (by decide) e
theorem sync_d (w : World) (H0 gf bm most stamp gd kd nd gl kl nl : Nat) (da la : List UInt8) (vd vl : Value) (h : FSt w H0 gf bm most stamp da la gd kd nd gl kl nl vd vl) (hla : da.length<=24) (hk : kd<=100000) :
   Calls Tryz.prog 102 #[.pointer (some ⟨gf,0,none⟩),.string (str da)] w fun e w' => e=.returned (.int .i64 0)/\Hid (FSt w' H0 gf bm most stamp da la gd kd nd gl kl nl vd vl/\FsO w w'/\Fr H0 gf bm w w'):=by
 refine (sync_any w 0 gf bm most stamp gd kd nd da la da (some gd) (some gl) vd h.fs (.inl ⟨rfl,rfl⟩) hla h.fd hk).mono ?_
 rintro e w' ⟨rfl,h1,h2,h3⟩
 refine ⟨rfl,hide ⟨⟨h1,h2,h.fl.only h3 (fun e => ?_) (fun j hj e => h.ap j e hj),h.hd,h.hl,h.ne,h.ap,Nat.le_trans h.sz h3.size⟩,h3.mono fun j hj hs => h.fsb_vd hs,h3.mono fun j hj hs => .inr (.inr (h.hd.2 j hs))⟩⟩
 obtain ⟨xs,hr,_⟩:=h.fd.row
 obtain ⟨st,hb⟩:=h.fl.st
 exact own_blk_ne hr hb (by decide) e
theorem cut_l (w : World) (H0 gf bm most stamp gd kd nd gl kl nl : Nat) (da la : List UInt8) (vd vl : Value) (h : FSt w H0 gf bm most stamp da la gd kd nd gl kl nl vd vl) (hla : la.length<=24) (hst : stamp<=1000000) :
   Calls Tryz.prog 65 #[.pointer (some ⟨gf,0,none⟩),.string (str la),.int .i64 0] w fun e w' => e=.returned (.int .i64 0)/\Hid (FsO w w'/\Fr H0 gf bm w w'):=by
 refine (cut0_any w 0 gf bm most stamp gl kl nl da la la (some gd) (some gl) vl h.fs (.inr ⟨rfl,rfl⟩) hla h.fl hst).mono ?_
 rintro e w' ⟨rfl,h3⟩
 refine ⟨rfl,hide ⟨h3.mono fun j hj hs => ?_,h3.mono fun j hj hs => ?_⟩⟩
 · rcases hs with rfl | rfl
   · exact h.fsb_f
   · exact h.fsb_l
 · rcases hs with rfl | rfl
   · exact .inl rfl
   · exact .inr (.inr h.hl.1)
end Go.Proofs.YtiiljlmeililbaaGreatDoor
