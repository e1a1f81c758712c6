/-
  Contract of tree.mend where the child is thin: they are parted anew.
-/
import Derived.Test.YtiiljlmeililbaaGreatDoorBeGr24
namespace Go.Proofs.YtiiljlmeililbaaGreatDoor
set_option linter.unusedVariables false
set_option maxRecDepth 100000
open Go.RowKit
set_option maxHeartbeats 8000000 in
theorem mend_parts (w : World) (F : Nat->Prop) (gt gp k : Nat) (st : PgS) (h : PgAt w F gp st) (ht : TreeAt w F gt gp k) (ho : st.ok) (gn B : Nat) (cv kv : Value) (n c a b : NodeP) (hn : NodeU F w B cv kv n) (hb : Blk w gn 89 #[.bool n.leaf,cv,kv]) (hnF : ¬ F gn)
   (i kk : Nat) (hi : i < n.kids.length) (hm : n.kids.length<=65536) (hl : LoadR st (kidAt n i) c) (hz : sizeP c < 127) (h1 : n.kids.length ≠ 1) (hkk : kk=min i (n.kids.length - 2)) (hla : LoadR st (kidAt n kk) a) (hlb : LoadR st (kidAt n (kk + 1)) b) (hkc : kk < n.cells.length) (hmM : n.cells.length<=65536)
   (hxr : RightP (joinP a (keyOfC n.cells kk) b)) (hz2 : 508 < sizeP (joinP a (keyOfC n.cells kk) b)) (hm2 : sizeP (joinP a (keyOfC n.cells kk) b)<=760) (hp : PartsOk (joinP a (keyOfC n.cells kk) b)) (hs1 : CanSave st (kidAt n kk) (halfA (joinP a (keyOfC n.cells kk) b))) (hs2 : CanSave (saveS st (kidAt n kk) (halfA (joinP a (keyOfC n.cells kk) b))) (kidAt n (kk + 1)) (halfB (joinP a (keyOfC n.cells kk) b))) :
   Calls Tryz.prog 75 #[.pointer (some ⟨gt,0,none⟩),.pointer (some ⟨gn,0,none⟩),.int .i64 (i : Int)] w (MendEnd F w gp gn (saveS (saveS st (kidAt n kk) (halfA (joinP a (keyOfC n.cells kk) b))) (kidAt n (kk + 1)) (halfB (joinP a (keyOfC n.cells kk) b))) ⟨n.leaf,setKey n.cells kk (halfK (joinP a (keyOfC n.cells kk) b)),n.kids⟩):=by
 have hld0:=hide (load_gen w F gt gp k st h ht (kidAt n i) c hl)
 obtain ⟨gk,ck,rfl,hck,hgkF,hBk,hgkl⟩:=hn.kid_form (by omega)
 obtain ⟨gr,cr,rfl,hcr,hgrF,hBr,hgrl⟩:=hn.cell_form (by omega)
 have k0:=hn.kid_at i hi
 obtain ⟨kid,hkid⟩ : ∃ kid,kid=kidAt n i:=⟨_,rfl⟩
 obtain ⟨K,hK⟩ : ∃ K,K=n.kids.length:=⟨_,rfl⟩
 obtain ⟨M,hM⟩ : ∃ M,M=n.cells.length:=⟨_,rfl⟩
 obtain ⟨nl,hnl⟩ : ∃ nl,nl=n.leaf:=⟨_,rfl⟩
 rw [<- hkid] at hld0 k0
 rw [<- hK] at hi hm hck hkk h1 hb hn
 rw [<- hM] at hkc hcr hb hn hmM
 rw [<- hnl] at hb
 have n2 : w.cell? ⟨gn,2,none⟩=some (.slice (some ⟨gk,0,none⟩) K ck):=hb.cell 2
 have hsc:=hl.size ho
 have hsa:=hla.size ho
 have hsb:=hlb.size ho
 have hla3:=cellsZ_len a.leaf a.cells
 have hlb3:=cellsZ_len b.leaf b.cells
 have hsa2 : sizeP a=(if a.leaf=true then 3 else 6) + cellsZ a.leaf a.cells:=rfl
 have hsb2 : sizeP b=(if b.leaf=true then 3 else 6) + cellsZ b.leaf b.cells:=rfl
 have hlenA : a.cells.length<=200/\a.kids.length<=201:=by
   have hk1:=hla.2.1.kidsLeaf
   have hk2:=hla.2.1.kidsIn
   have hl9 : a.cells.length<=200:=by omega
   refine ⟨hl9,?_⟩
   cases hf : a.leaf with
   | true => rw [hk1 hf]; simp
   | false => rw [hk2 hf]; omega
 have hlenB : b.cells.length<=200/\b.kids.length<=201:=by
   have hk1:=hlb.2.1.kidsLeaf
   have hk2:=hlb.2.1.kidsIn
   have hl9 : b.cells.length<=200:=by omega
   refine ⟨hl9,?_⟩
   cases hf : b.leaf with
   | true => rw [hk1 hf]; simp
   | false => rw [hk2 hf]; omega
 have hcrt:=hl.2.1
 have hK2 : 2<=K:=by omega
 have hkkK : kk + 1 < K:=by omega
 have hiI : (i : Int) < (K : Int):=by omega
 have hi0 : (0 : Int)<=(i : Int):=by omega
 have hkI : (kk : Int) < (K : Int):=by omega
 have hk0 : (0 : Int)<=(kk : Int):=by omega
 have hkI1 : (kk : Int) + 1 < (K : Int):=by omega
 have hkM : (kk : Int) < (M : Int):=by omega
 have hKb : (K : Int)<=65536:=by omega
 have hmin : min (i : Int) ((K : Int) - 2)=(kk : Int):=by omega
 have hgn:=hb.lt
 obtain ⟨kid1,hkid1⟩ : ∃ kid,kid=kidAt n kk:=⟨_,rfl⟩
 obtain ⟨kid2,hkid2⟩ : ∃ kid,kid=kidAt n (kk + 1):=⟨_,rfl⟩
 clear hsa2 hsb2 hla3 hlb3
 replace h:=hide h
 replace ht:=hide ht
 replace ho:=hide ho
 replace hn:=hide hn
 replace hb:=hide hb
 replace hl:=hide hl
 replace hla:=hide hla
 replace hlb:=hide hlb
 replace hkid:=hide hkid
 replace hK:=hide hK
 replace hM:=hide hM
 replace hnl:=hide hnl
 replace hkid1:=hide hkid1
 replace hkid2:=hide hkid2
 replace hcrt:=hide hcrt
 replace hkk:=hide hkk
 replace hlenA:=hide hlenA
 replace hlenB:=hide hlenB
 replace hck:=hide hck
 replace hcr:=hide hcr
 go_enter Tryz.func75,Tryz.ntmps75
 go_wp2_with fail
 go_at_call 45
 refine hld0.out.mono ?_
 rintro e w0 ⟨F0,cv0,kv0,B0,rfl,hP0,hE0,hF0,hwB0,hO0⟩
 have hU0 : NodeU F0 w0 B0 cv0 kv0 c:=hO0.toU hF0
 obtain ⟨A0,y0,rfl⟩:=own_form hU0.kids
 obtain ⟨D0,x0,rfl⟩:=own_form hU0.rows.choose_spec.2.1
 obtain ⟨lf0,hlf0⟩ : ∃ z,z=c.leaf:=⟨_,rfl⟩
 obtain ⟨m0,hm0⟩ : ∃ z,z=c.cells.length:=⟨_,rfl⟩
 obtain ⟨q0,hq0⟩ : ∃ z,z=c.kids.length:=⟨_,rfl⟩
 rw [<- hm0,<- hq0] at hU0
 rw [<- hlf0,<- hm0,<- hq0]
 obtain ⟨V0,hV0⟩ : ∃ z,z=w0.alloc (.cells #[.bool lf0,.slice D0 m0 x0,.slice A0 q0 y0] 89):=⟨_,rfl⟩
 have hEv0 : Ev F0 w0 F0 V0:=by rw [hV0]; exact (Ev.refl _ _).alloc_ _
 have hEw0 : Ev F w F0 V0:=hE0.trans hEv0
 have hPv0 : PgAt V0 F0 gp st:=by rw [hV0]; exact hP0.alloc _
 have hUv0:=hU0.ev hEv0
 have hbk0 : Blk V0 w0.heap.size 89 #[.bool lf0,.slice D0 m0 x0,.slice A0 q0 y0]:=by rw [hV0]; exact Blk.new _ _ _
 have hg0 : ¬ F0 w0.heap.size:=fun hf => by have:=hP0.lt _ hf; omega
 have hgl0 : w.heap.size<=w0.heap.size:=hE0.size
 replace hP0:=hide hP0
 replace hE0:=hide hE0
 replace hF0:=hide hF0
 replace hO0:=hide hO0
 replace hU0:=hide hU0
 replace hlf0:=hide hlf0
 replace hm0:=hide hm0
 replace hq0:=hide hq0
 replace hV0:=hide hV0
 replace hEv0:=hide hEv0
 replace hEw0:=hide hEw0
 replace hPv0:=hide hPv0
 replace hUv0:=hide hUv0
 replace hbk0:=hide hbk0
 have hszc:=hide (size_any V0 (.agg #[.bool lf0,.slice D0 m0 x0,.slice A0 q0 y0]) c (by have h9:=hUv0.out.nodeM; rw [<- hlf0.out] at h9; exact h9.old fun k hk => hk.1) hcrt.out (by omega))
 obtain ⟨Z,hZ⟩ : ∃ Z,Z=sizeP c:=⟨_,rfl⟩
 rw [<- hZ] at hszc hsc hz
 replace hZ:=hide hZ
 have t1 : decide ((127 : Int)<=(Z : Int))=false:=decide_eq_false (by omega)
 have t2 : decide (127<=Z)=false:=decide_eq_false (by omega)
 have t3 : ((K : Int) == 1)=false:=by rw [beq_eq_false_iff_ne]; omega
 have cc0:=hbk0.out.cell 0
 have cc1:=hbk0.out.cell 1
 have cc2:=hbk0.out.cell 2
 go_upto_region 2 with (fail)
 rw [<- hV0.out]
 go_upto_region 5 with (first | (go_at_call 50; refine hszc.out.mono ?_; rintro e w3 ⟨rfl,hB3⟩; have hb3:=(hEw0.out.blk hb.out hnF).below hB3 (hEw0.out.blk hb.out hnF).lt; have u2:=hb3.cell 2; replace hb3:=hide hb3; replace hB3:=hide hB3))
 have hE3 : Ev F w F0 w3:=hEw0.out.below hB3.out
 have hP3 : PgAt w3 F0 gp st:=hPv0.out.below hB3.out
 have hn3:=hn.out.ev hE3
 have k3:=hn3.kid_at kk (by rw [<- hK.out]; omega)
 have hld4:=hide (load_gen w3 F0 gt gp k st hP3 (ht.out.ev hE3) (kidAt n kk) a hla.out)
 rw [<- hkid1.out] at k3 hld4
 replace hE3:=hide hE3
 replace hP3:=hide hP3
 replace hn3:=hide hn3
 clear n2 k0 cc0 cc1 cc2 hszc
 go_wp2_with fail
 go_at_call 45
 refine hld4.out.mono ?_
 rintro e w4 ⟨F4,cv4,kv4,B4,rfl,hP4,hE4,hF4,hwB4,hO4⟩
 have hU4 : NodeU F4 w4 B4 cv4 kv4 a:=hO4.toU hF4
 obtain ⟨A4,y4,rfl⟩:=own_form hU4.kids
 obtain ⟨D4,x4,rfl⟩:=own_form hU4.rows.choose_spec.2.1
 obtain ⟨lf4,hlf4⟩ : ∃ z,z=a.leaf:=⟨_,rfl⟩
 obtain ⟨m4,hm4⟩ : ∃ z,z=a.cells.length:=⟨_,rfl⟩
 obtain ⟨q4,hq4⟩ : ∃ z,z=a.kids.length:=⟨_,rfl⟩
 rw [<- hm4,<- hq4] at hU4
 rw [<- hlf4,<- hm4,<- hq4]
 obtain ⟨V4,hV4⟩ : ∃ z,z=w4.alloc (.cells #[.bool lf4,.slice D4 m4 x4,.slice A4 q4 y4] 89):=⟨_,rfl⟩
 have hEv4 : Ev F4 w4 F4 V4:=by rw [hV4]; exact (Ev.refl _ _).alloc_ _
 have hEw4 : Ev F0 w3 F4 V4:=hE4.trans hEv4
 have hPv4 : PgAt V4 F4 gp st:=by rw [hV4]; exact hP4.alloc _
 have hUv4:=hU4.ev hEv4
 have hbk4 : Blk V4 w4.heap.size 89 #[.bool lf4,.slice D4 m4 x4,.slice A4 q4 y4]:=by rw [hV4]; exact Blk.new _ _ _
 have hg4 : ¬ F4 w4.heap.size:=fun hf => by have:=hP4.lt _ hf; omega
 have hgl4 : w3.heap.size<=w4.heap.size:=hE4.size
 replace hP4:=hide hP4
 replace hE4:=hide hE4
 replace hF4:=hide hF4
 replace hO4:=hide hO4
 replace hU4:=hide hU4
 replace hlf4:=hide hlf4
 replace hm4:=hide hm4
 replace hq4:=hide hq4
 replace hV4:=hide hV4
 replace hEv4:=hide hEv4
 replace hEw4:=hide hEw4
 replace hPv4:=hide hPv4
 replace hUv4:=hide hUv4
 replace hbk4:=hide hbk4
 have hE5 : Ev F w F4 V4:=hE3.out.trans hEw4.out
 have hn5:=hn.out.ev hE5
 have hb5:=hE5.blk hb.out hnF
 have v2:=hb5.cell 2
 have k5:=hn5.kid_at (kk + 1) (by rw [<- hK.out]; omega)
 have hld6:=hide (load_gen V4 F4 gt gp k st hPv4.out (ht.out.ev hE5) (kidAt n (kk + 1)) b hlb.out)
 rw [<- hkid2.out] at k5 hld6
 replace hE5:=hide hE5
 replace hn5:=hide hn5
 replace hb5:=hide hb5
 clear u2 k3 hld4
 go_upto_region 8 with (fail)
 rw [<- hV4.out]
 go_wp2_with fail
 go_at_call 45
 refine hld6.out.mono ?_
 rintro e w6 ⟨F6,cv6,kv6,B6,rfl,hP6,hE6,hF6,hwB6,hO6⟩
 have hU6 : NodeU F6 w6 B6 cv6 kv6 b:=hO6.toU hF6
 obtain ⟨A6,y6,rfl⟩:=own_form hU6.kids
 obtain ⟨D6,x6,rfl⟩:=own_form hU6.rows.choose_spec.2.1
 obtain ⟨lf6,hlf6⟩ : ∃ z,z=b.leaf:=⟨_,rfl⟩
 obtain ⟨m6,hm6⟩ : ∃ z,z=b.cells.length:=⟨_,rfl⟩
 obtain ⟨q6,hq6⟩ : ∃ z,z=b.kids.length:=⟨_,rfl⟩
 rw [<- hm6,<- hq6] at hU6
 rw [<- hlf6,<- hm6,<- hq6]
 obtain ⟨V6,hV6⟩ : ∃ z,z=w6.alloc (.cells #[.bool lf6,.slice D6 m6 x6,.slice A6 q6 y6] 89):=⟨_,rfl⟩
 have hEv6 : Ev F6 w6 F6 V6:=by rw [hV6]; exact (Ev.refl _ _).alloc_ _
 have hEw6 : Ev F4 V4 F6 V6:=hE6.trans hEv6
 have hPv6 : PgAt V6 F6 gp st:=by rw [hV6]; exact hP6.alloc _
 have hUv6:=hU6.ev hEv6
 have hbk6 : Blk V6 w6.heap.size 89 #[.bool lf6,.slice D6 m6 x6,.slice A6 q6 y6]:=by rw [hV6]; exact Blk.new _ _ _
 have hg6 : ¬ F6 w6.heap.size:=fun hf => by have:=hP6.lt _ hf; omega
 have hgl6 : V4.heap.size<=w6.heap.size:=hE6.size
 replace hP6:=hide hP6
 replace hE6:=hide hE6
 replace hF6:=hide hF6
 replace hO6:=hide hO6
 replace hU6:=hide hU6
 replace hlf6:=hide hlf6
 replace hm6:=hide hm6
 replace hq6:=hide hq6
 replace hV6:=hide hV6
 replace hEv6:=hide hEv6
 replace hEw6:=hide hEw6
 replace hPv6:=hide hPv6
 replace hUv6:=hide hUv6
 replace hbk6:=hide hbk6
 have hE7 : Ev F w F6 V6:=hE5.out.trans hEw6.out
 have hn7:=hn.out.ev hE7
 have hb7:=hE7.blk hb.out hnF
 have hP7 : PgAt V6 F6 gp st:=hPv6.out
 have hUa : NodeU F6 V6 B4 (.slice D4 m4 x4) (.slice A4 q4 y4) a:=hUv4.out.ev hEw6.out
 have hUb : NodeU F6 V6 B6 (.slice D6 m6 x6) (.slice A6 q6 y6) b:=hUv6.out
 have hba : Blk V6 w4.heap.size 89 #[.bool lf4,.slice D4 m4 x4,.slice A4 q4 y4]:=hEw6.out.blk hbk4.out hg4
 have hbb : Blk V6 w6.heap.size 89 #[.bool lf6,.slice D6 m6 x6,.slice A6 q6 y6]:=hbk6.out
 obtain ⟨kA,kc,r0,hkr,hkl⟩:=hn7.key_at kk (by rw [<- hM.out]; exact hkc)
 obtain ⟨KY,hKY⟩ : ∃ KY,KY=keyOfC n.cells kk:=⟨_,rfl⟩
 obtain ⟨U,hU⟩ : ∃ U,U=KY.length:=⟨_,rfl⟩
 rw [<- hKY,<- hU] at r0 hkr hkl
 have u1:=hb7.cell 1
 have a0:=hba.cell 0
 have a1:=hba.cell 1
 have a2:=hba.cell 2
 have b0:=hbb.cell 0
 have b1:=hbb.cell 1
 have b2:=hbb.cell 2
 have hgr7 : gr < V6.heap.size:=by have:=hE7.size; omega
 have hjn : Hid (∀ wz,Below V6.heap.size V6 wz->Calls Tryz.prog 123 #[.agg #[.bool lf4,.slice D4 m4 x4,.slice A4 q4 y4],.slice kA U kc,.agg #[.bool lf6,.slice D6 m6 x6,.slice A6 q6 y6]] wz (JoinRet F6 wz (joinP a KY b))):=hide fun wz hz => by
   have hEz : Ev F6 V6 F6 wz:=Ev.of_below hz
   have h9:=join_any wz F6 (fun k hk => Nat.lt_of_lt_of_le (hP7.lt k hk) hz.size) a b B4 B6 _ _ _ _ (hUa.ev hEz) (hUb.ev hEz) (by have:=hlenA.out.1; omega) (by have:=hlenB.out.1; omega) (by have:=hlenA.out.2; omega) (by have:=hlenB.out.2; omega) kA kc KY (by rw [<- hU]; exact hkr.evB hEz) (by rw [<- hU]; exact hkl)
   rw [<- hlf4.out,<- hlf6.out,<- hU] at h9
   exact h9
 have hkp : Hid (∀ wz,Below V6.heap.size V6 wz->(wz.cell? ⟨w4.heap.size,0,none⟩=some (.bool lf4)/\wz.cell? ⟨w4.heap.size,1,none⟩=some (.slice D4 m4 x4)/\wz.cell? ⟨w4.heap.size,2,none⟩=some (.slice A4 q4 y4)/\wz.cell? ⟨gn,1,none⟩=some (.slice (some ⟨gr,0,none⟩) M cr)/\wz.cell? ⟨gr,kk * 4,none⟩=some (.slice kA U kc)/\wz.cell? ⟨w6.heap.size,0,none⟩=some (.bool lf6)/\wz.cell? ⟨w6.heap.size,1,none⟩=some (.slice D6 m6 x6)/\wz.cell? ⟨w6.heap.size,2,none⟩=some (.slice A6 q6 y6))):=hide fun wz hz =>
   ⟨(hz.cell (p:=⟨w4.heap.size,0,none⟩) hba.lt).trans a0,(hz.cell (p:=⟨w4.heap.size,1,none⟩) hba.lt).trans a1,(hz.cell (p:=⟨w4.heap.size,2,none⟩) hba.lt).trans a2,(hz.cell (p:=⟨gn,1,none⟩) hb7.lt).trans u1,(hz.cell (p:=⟨gr,kk * 4,none⟩) hgr7).trans r0,(hz.cell (p:=⟨w6.heap.size,0,none⟩) hbb.lt).trans b0,(hz.cell (p:=⟨w6.heap.size,1,none⟩) hbb.lt).trans b1,(hz.cell (p:=⟨w6.heap.size,2,none⟩) hbb.lt).trans b2⟩
 replace hE7:=hide hE7
 replace hn7:=hide hn7
 replace hb7:=hide hb7
 replace hP7:=hide hP7
 replace hUa:=hide hUa
 replace hUb:=hide hUb
 replace hba:=hide hba
 replace hbb:=hide hbb
 replace hkr:=hide hkr
 replace hkl:=hide hkl
 replace hKY:=hide hKY
 replace hU:=hide hU
 clear v2 k5 hld6
 go_upto_region 11 with (fail)
 rw [<- hV6.out]
 go_cut [12] (fun v12 wx => ∃ (gj : Nat) (J1 J2 : Option Addr) (j1 e1 j2 e2 : Nat),v12=.pointer (some ⟨gj,0,none⟩)/\Hid (Below V6.heap.size V6 wx/\V6.heap.size<=gj/\Blk wx gj 89 #[.bool (joinP a KY b).leaf,.slice J1 j1 e1,.slice J2 j2 e2]/\NodeU F6 wx V6.heap.size (.slice J1 j1 e1) (.slice J2 j2 e2) (joinP a KY b)))
 case first =>
   go_region_held3 (fun w' => w'.cell? ⟨w4.heap.size,0,none⟩=some (.bool lf4)/\w'.cell? ⟨w4.heap.size,1,none⟩=some (.slice D4 m4 x4)/\w'.cell? ⟨w4.heap.size,2,none⟩=some (.slice A4 q4 y4)/\w'.cell? ⟨gn,1,none⟩=some (.slice (some ⟨gr,0,none⟩) M cr)/\w'.cell? ⟨gr,kk * 4,none⟩=some (.slice kA U kc)/\w'.cell? ⟨w6.heap.size,0,none⟩=some (.bool lf6)/\w'.cell? ⟨w6.heap.size,1,none⟩=some (.slice D6 m6 x6)/\w'.cell? ⟨w6.heap.size,2,none⟩=some (.slice A6 q6 y6)) (first | exact ⟨a0,a1,a2,u1,r0,b0,b1,b2⟩ | (with_reducible exact hkp.out _ hbA.out) | (with_reducible exact hkp.out _ (hbA.out.alloc hbA.out.size _)) | (exact hkp.out _ (bel_s3 hbA.out (Nat.le_refl _) _ _ _)) | (exact hkp.out _ (by first | (with_reducible exact (Below.refl _ V6).drew) | (with_reducible exact (Below.refl _ V6).alloc (Nat.le_refl _) _) | (with_reducible exact ((Below.refl _ V6).alloc (Nat.le_refl _) _).drew) | (with_reducible exact Below.refl _ V6))) | go_keep) (first
     | (go_at_call 123; (with_reducible refine (hjn.out _ (by first | (with_reducible exact (Below.refl _ V6).drew) | (with_reducible exact (Below.refl _ V6).alloc (Nat.le_refl _) _) | (with_reducible exact ((Below.refl _ V6).alloc (Nat.le_refl _) _).drew) | (with_reducible exact Below.refl _ V6))).mono ?_); rintro e w8 ⟨cv8,kv8,rfl,hU8,hB8⟩; have hbA : Hid (Below V6.heap.size V6 w8):=hide (Below.trans (by first | (with_reducible exact (Below.refl _ V6).drew) | (with_reducible exact (Below.refl _ V6).alloc (Nat.le_refl _) _) | (with_reducible exact ((Below.refl _ V6).alloc (Nat.le_refl _) _).drew) | (with_reducible exact Below.refl _ V6)) (hB8.mono (Below.size (B:=V6.heap.size) (by first | (with_reducible exact (Below.refl _ V6).drew) | (with_reducible exact (Below.refl _ V6).alloc (Nat.le_refl _) _) | (with_reducible exact ((Below.refl _ V6).alloc (Nat.le_refl _) _).drew) | (with_reducible exact Below.refl _ V6))))); (try (have hq : Blk w8 V6.heap.size 89 #[.bool false,.slice none 0 0,.slice none 0 0]:=(by first | exact Blk.below (Blk.new V6 89 #[.bool false,.slice none 0 0,.slice none 0 0]) hB8 (by simp) | exact Blk.below (Blk.new V6 89 #[.bool false,.slice none 0 0,.slice none 0 0]).drew hB8 (by simp)); have q0:=hq.cell 0; have q1:=hq.cell 1; have q2:=hq.cell 2; have r0:=hq.frozen 0; have r1:=hq.frozen 1; have r2:=hq.frozen 2; replace hq:=hide hq)); (obtain ⟨J1,e1,rfl,hj1⟩:=own_sl hU8.rows.choose_spec.2.1); (obtain ⟨J2,e2,rfl,hj2⟩:=own_sl hU8.kids); replace hU8:=hide hU8; replace hB8:=hide hB8))
   all_goals go_wp2_with fail
   all_goals go_meet
   · exact ⟨_,J1,J2,_,e1,_,e2,rfl,hide ⟨hbA.out.alloc hbA.out.size _,hbA.out.size,Blk.new _ _ _,(hU8.out.more (by first | exact Nat.le_refl _ | (simp <;> omega))).ev ((Ev.refl F6 w8).alloc_ _)⟩⟩
   · have hq2 := hq.out
     exact ⟨_,J1,J2,_,e1,_,e2,rfl,hide ⟨bel_s3 hbA.out (Nat.le_refl _) _ _ _,Nat.le_refl _,Node3.own ⟨_,_,_,hq2⟩ _ _ _,(hU8.out.more (by first | exact Nat.le_refl _ | (simp <;> omega))).only (only_s3 (Only.refl (fun k => k=V6.heap.size) w8) rfl _ _ _) fun k hk => by subst hk; exact ⟨_,_,hq2,by decide,by decide,by decide⟩⟩⟩
 case rest =>
   obtain ⟨gj,J1,J2,j1,e1,j2,e2,rfl,hJ⟩:=hcut
   obtain ⟨hB9,hgj,hbj,hUj⟩:=hJ.out
   clear hJ hjn hkp a0 a1 a2 b0 b1 b2 u1 r0
   obtain ⟨X,hX⟩ : ∃ X,X=joinP a KY b:=⟨_,rfl⟩
   rw [<- hX] at hbj hUj
   have hE9 : Ev F w F6 wc:=hE7.out.below hB9
   have hP9 : PgAt wc F6 gp st:=hP7.out.below hB9
   have hj1 : j1=X.cells.length:=by
     rcases hUj.rows.choose_spec.2.1.2 with ⟨e9,h9⟩ | ⟨g,cap,cur,e9,_⟩
     · injection e9 with _ e9 _; omega
     · injection e9 with _ e9 _
   have hj2 : j2=X.kids.length:=by
     rcases hUj.kids.2 with ⟨e9,h9⟩ | ⟨g,cap,cur,e9,_⟩
     · injection e9 with _ e9 _; omega
     · injection e9 with _ e9 _
   obtain ⟨xl,hxl⟩ : ∃ z,z=X.leaf:=⟨_,rfl⟩
   rw [<- hxl] at hbj
   have hgjF : ¬ F6 gj:=fun hf => by have:=hP7.out.lt _ hf; omega
   have hnd9:=hE9.blk hb.out hnF
   have hgnj : gn ≠ gj:=by have:=hE7.out.size; omega
   rw [<- hKY.out,<- hX] at hxr hz2 hm2 hp hs1 hs2
   have hszX:=hide (size_any wc (.agg #[.bool xl,.slice J1 j1 e1,.slice J2 j2 e2]) X (by have h9:=hUj.nodeM; rw [<- hxl] at h9; exact h9.old fun k hk => hk.1) hxr (by omega))
   obtain ⟨ZX,hZX⟩ : ∃ ZX,ZX=sizeP X:=⟨_,rfl⟩
   have hZ508 : 508 < ZX:=by rw [hZX]; exact hz2
   rw [<- hZX] at hszX
   have s1 : decide ((ZX : Int)<=508)=false:=decide_eq_false (by omega)
   have s2 : decide (ZX<=508)=false:=decide_eq_false (by omega)
   have i0:=hbj.cell 0
   have i1:=hbj.cell 1
   have i2:=hbj.cell 2
   replace hB9:=hide hB9
   replace hbj:=hide hbj
   replace hUj:=hide hUj
   replace hX:=hide hX
   replace hE9:=hide hE9
   replace hP9:=hide hP9
   replace hj1:=hide hj1
   replace hj2:=hide hj2
   replace hxl:=hide hxl
   replace hnd9:=hide hnd9
   replace hZX:=hide hZX
   replace hxr:=hide hxr
   replace hz2:=hide hz2
   replace hm2:=hide hm2
   replace hp:=hide hp
   replace hs1:=hide hs1
   replace hs2:=hide hs2
   go_upto_region 20 with (first | (go_at_call 50; refine hszX.out.mono ?_; rintro e w10 ⟨rfl,hB10⟩; have hj10:=hbj.out.below hB10 hbj.out.lt; have x0:=hj10.cell 0; have x1:=hj10.cell 1; have x2:=hj10.cell 2; replace hj10:=hide hj10; replace hB10:=hide hB10))
   have hE10 : Ev F w F6 w10:=hE9.out.below hB10.out
   have hP10 : PgAt w10 F6 gp st:=hP9.out.below hB10.out
   have hU10:=hUj.out.ev (Ev.of_below (F:=F6) hB10.out)
   have hbn10:=hE10.blk hb.out hnF
   have hhv:=hide (halves_any w10 (fun k => Mine F6 w10 k/\k ≠ gn) (byteOf F6 w10) (.agg #[.bool xl,.slice J1 j1 e1,.slice J2 j2 e2]) X (by have h9:=hU10.nodeNe hbn10; rw [<- hxl.out] at h9; exact h9) (fun k hk => hk.1.1) (fun k hk => hk.1.1) (by have h9:=hU10.keysIn; rw [<- hxl.out] at h9; exact h9) hxr.out (by have:=hm2.out; omega) hp.out.1)
   replace hE10:=hide hE10
   replace hP10:=hide hP10
   replace hU10:=hide hU10
   replace hbn10:=hide hbn10
   go_wp2_with fail
   go_at_call 120
   refine hhv.out.mono ?_
   rintro e w11 ⟨vA,vB,kA2,kc2,rfl,hHA,hHB,hkey,hkc2,hB11⟩
   have hHA3 : NodeM (Mine F6 w11) w11 vA (halfA X):=hHA.mono fun k hk => ⟨Nat.lt_of_lt_of_le hk.1.1 hB11.size,hk.1.2⟩
   have hHB3 : NodeM (fun k => Mine F6 w11 k/\k ≠ gn) w11 vB (halfB X):=hHB.mono fun k hk => ⟨⟨Nat.lt_of_lt_of_le hk.1.1 hB11.size,hk.1.2⟩,hk.2⟩
   have hkey3 : Rd (byteOf F6 w11) w11 1 kA2 (halfK X).length (bv (halfK X)):=hkey.mono_ fun k hk => by
     obtain ⟨⟨h1,h2⟩,bs,h3⟩:=hk
     have h4:=h3.below hB11 h1
     exact ⟨⟨h4.lt,h2⟩,bs,h4⟩
   obtain ⟨UL,hUL⟩ : ∃ z,z=(halfK X).length:=⟨_,rfl⟩
   obtain ⟨P1,g1,P2,g2,rfl⟩:=hHA3.box
   obtain ⟨Q1,r1,Q2,r2,rfl⟩:=hHB3.box
   obtain ⟨la,hla'⟩ : ∃ z,z=(halfA X).leaf:=⟨_,rfl⟩
   obtain ⟨lb,hlb'⟩ : ∃ z,z=(halfB X).leaf:=⟨_,rfl⟩
   obtain ⟨ca,hca⟩ : ∃ z,z=(halfA X).cells.length:=⟨_,rfl⟩
   obtain ⟨cb,hcb⟩ : ∃ z,z=(halfB X).cells.length:=⟨_,rfl⟩
   obtain ⟨ka,hka⟩ : ∃ z,z=(halfA X).kids.length:=⟨_,rfl⟩
   obtain ⟨kb,hkb⟩ : ∃ z,z=(halfB X).kids.length:=⟨_,rfl⟩
   rw [<- hla',<- hca,<- hka] at hHA3 ⊢
   rw [<- hlb',<- hcb,<- hkb] at hHB3 ⊢
   rw [<- hUL] at hkey3 hkc2 ⊢
   obtain ⟨W4,hW4⟩ : ∃ z,z=(w11.alloc (.cells #[.bool la,.slice P1 ca g1,.slice P2 ka g2] 89)).alloc (.cells #[.bool lb,.slice Q1 cb r1,.slice Q2 kb r2] 89):=⟨_,rfl⟩
   have hE34 : Ev F6 w11 F6 W4:=by rw [hW4]; exact ((Ev.refl F6 w11).alloc_ _).alloc_ _
   have hE11 : Ev F w F6 w11:=hE10.out.below hB11
   have hE4 : Ev F w F6 W4:=hE11.trans hE34
   have hba : Blk W4 w11.heap.size 89 #[.bool la,.slice P1 ca g1,.slice P2 ka g2]:=by rw [hW4]; exact (Blk.new w11 89 _).alloc _
   have hbb : Blk W4 (w11.heap.size + 1) 89 #[.bool lb,.slice Q1 cb r1,.slice Q2 kb r2]:=by
     rw [hW4]
     have q:=Blk.new (w11.alloc (.cells #[.bool la,.slice P1 ca g1,.slice P2 ka g2] 89)) 89 #[.bool lb,.slice Q1 cb r1,.slice Q2 kb r2]
     rw [World.size_alloc] at q; exact q
   have hP4 : PgAt W4 F6 gp st:=by rw [hW4]; exact ((hP10.out.below hB11).alloc _).alloc _
   have hA4:=hHA3.ev hE34
   have hB4 : NodeM (fun k => Mine F6 W4 k/\k ≠ gn) W4 (.agg #[.bool lb,.slice Q1 cb r1,.slice Q2 kb r2]) (halfB X):=hHB3.keep fun k hk => ⟨⟨hE34.mine hk.1,hk.2⟩,hE34.block hk.1⟩
   have hk4:=hkey3.evB hE34
   have hnba : ¬ F6 w11.heap.size:=fun hf => by have:=(hP10.out.below hB11).lt _ hf; omega
   have hnbb : ¬ F6 (w11.heap.size + 1):=fun hf => by have:=(hP10.out.below hB11).lt _ hf; omega
   have hn4:=hn.out.ev hE4
   have hbn4:=hE4.blk hb.out hnF
   have k9:=hn4.kid_at kk (by rw [<- hK.out]; omega)
   have v9:=hbn4.cell 2
   have x0':=hba.cell 0
   have x1':=hba.cell 1
   have x2':=hba.cell 2
   have hgk4 : gk < W4.heap.size:=by have:=hE4.size; omega
   have hsv:=hide (save_any W4.drew F6 gt gp k st hP4.drew (ht.out.ev hE4.drew) (kidAt n kk) (halfA X) (.agg #[.bool la,.slice P1 ca g1,.slice P2 ka g2]) (hA4.ev ((Ev.refl F6 W4).drew)) hs1.out)
   rw [<- hkid1.out] at k9 hsv
   replace hW4:=hide hW4
   replace hE34:=hide hE34
   replace hE11:=hide hE11
   replace hE4:=hide hE4
   replace hba:=hide hba
   replace hbb:=hide hbb
   replace hP4:=hide hP4
   replace hA4:=hide hA4
   replace hB4:=hide hB4
   replace hk4:=hide hk4
   replace hn4:=hide hn4
   replace hbn4:=hide hbn4
   replace hHA:=hide hHA
   replace hHB:=hide hHB
   replace hHA3:=hide hHA3
   replace hHB3:=hide hHB3
   replace hkey:=hide hkey
   replace hkey3:=hide hkey3
   replace hB11:=hide hB11
   replace hUL:=hide hUL
   replace hla':=hide hla'
   replace hlb':=hide hlb'
   replace hca:=hide hca
   replace hcb:=hide hcb
   replace hka:=hide hka
   replace hkb:=hide hkb
   clear i0 i1 i2 hszX hhv x0 x1 x2
   go_upto_region 21 with (fail)
   rw [<- hW4.out]
   go_cut [18] (fun v18 wx => v18=.int .i64 0/\Hid (∃ F11,PgAt wx F11 gp (saveS st kid1 (halfA X))/\Ev F6 W4 F11 wx))
   case first =>
     go_region_held3 (fun w' => w'.cell? ⟨gn,2,none⟩=some (.slice (some ⟨gk,0,none⟩) K ck)/\w'.cell? ⟨gk,kk,none⟩=some (.int .i64 (kid1 : Int))/\w'.cell? ⟨w11.heap.size,0,none⟩=some (.bool la)/\w'.cell? ⟨w11.heap.size,1,none⟩=some (.slice P1 ca g1)/\w'.cell? ⟨w11.heap.size,2,none⟩=some (.slice P2 ka g2)) (first | exact ⟨v9,k9,x0',x1',x2'⟩ | exact hdS.out) (first
       | (go_at_call 71; refine hsv.out.mono ?_; rintro e w13 ⟨rfl,F11,hP11,hE13⟩; have hdS : Hid (w13.cell? ⟨gn,2,none⟩=some (.slice (some ⟨gk,0,none⟩) K ck)/\w13.cell? ⟨gk,kk,none⟩=some (.int .i64 (kid1 : Int))/\w13.cell? ⟨w11.heap.size,0,none⟩=some (.bool la)/\w13.cell? ⟨w11.heap.size,1,none⟩=some (.slice P1 ca g1)/\w13.cell? ⟨w11.heap.size,2,none⟩=some (.slice P2 ka g2)):=hide (by have hgF:=hE4.out.new hnF hgn; have hkF:=hE4.out.new hgkF hgkl; exact ⟨(hE13.cell (p:=⟨gn,2,none⟩) ⟨hbn4.out.lt,hgF⟩).trans v9,(hE13.cell (p:=⟨gk,kk,none⟩) ⟨hgk4,hkF⟩).trans k9,(hE13.cell (p:=⟨w11.heap.size,0,none⟩) ⟨hba.out.lt,hnba⟩).trans x0',(hE13.cell (p:=⟨w11.heap.size,1,none⟩) ⟨hba.out.lt,hnba⟩).trans x1',(hE13.cell (p:=⟨w11.heap.size,2,none⟩) ⟨hba.out.lt,hnba⟩).trans x2'⟩); replace hP11:=hide hP11; replace hE13:=hide hE13))
     all_goals go_wp2_with fail
     all_goals go_meet
     all_goals exact ⟨rfl,hide ⟨F11,hP11.out,(Ev.refl F6 W4).drew.trans hE13.out⟩⟩
   case rest =>
     obtain ⟨rfl,hc18⟩:=hcut
     obtain ⟨F11,hP11,hE13⟩:=hc18.out
     obtain ⟨w13,hw13⟩ : ∃ z,z=wc:=⟨_,rfl⟩
     rw [<- hw13] at hP11 hE13 ⊢
     replace hw13:=hide hw13
     clear hc18
     have hE1w : Ev F w F11 w13:=hE4.out.trans hE13
     have hn13:=hn.out.ev hE1w
     have hb13:=hE1w.blk hb.out hnF
     have hgF13:=hE1w.new hnF hgn
     have hbb13:=hE13.blk hbb.out hnbb
     have hB13 : NodeM (fun k => Mine F11 w13 k/\k ≠ gn) w13 (.agg #[.bool lb,.slice Q1 cb r1,.slice Q2 kb r2]) (halfB X):=hB4.out.keep fun k hk => ⟨⟨hE13.mine hk.1,hk.2⟩,hE13.block hk.1⟩
     have hk13:=hk4.out.evB hE13
     have k13:=hn13.kid_at (kk + 1) (by rw [<- hK.out]; omega)
     rw [<- hkid2.out] at k13
     obtain ⟨rows,hr1,hr2,hr3⟩:=hn13.rows
     rw [<- hM.out] at hr2
     have h1r:=hr3.one hr1
     have hkd:=hn13.kids
     rw [<- hK.out] at hkd
     have hcc:=hide (cloneC_any w13 (some ⟨gr,0,none⟩) M cr rows.flatten (Reads.of_own hr2) h1r (by omega))
     have hgk13 : gk < w13.heap.size:=by have:=hE1w.size; omega
     have hgkn : gk ≠ gn:=own_not_blk hkd hb13 (by decide) gk rfl
     have hgbn : w11.heap.size + 1 ≠ gn:=by have:=hE11.out.size; omega
     have hgtn : gt ≠ gn:=Blk.ne_ (ht.out.ev hE1w).blk hb13 (by decide)
     have hgn13:=hb13.lt
     have v1:=hb13.cell 1
     have z1:=hb13.frozen 1
     have hT13:=ht.out.ev hE1w
     replace hT13:=hide hT13
     replace hP11:=hide hP11
     replace hE13:=hide hE13
     replace hE1w:=hide hE1w
     replace hn13:=hide hn13
     replace hb13:=hide hb13
     replace hbb13:=hide hbb13
     replace hB13:=hide hB13
     replace hk13:=hide hk13
     replace hr1:=hide hr1
     replace hr2:=hide hr2
     replace hr3:=hide hr3
     replace hkd:=hide hkd
     replace h1r : Hid _:=hide h1r
     clear v9 k9 x0' x1' x2' hsv
     go_upto_region 25 with (first
       | (go_at_call 124; refine hcc.out.mono ?_; rintro e w14 ⟨v14,rfl,hO14,hB14⟩; have hb14:=hb13.out.below hB14 hb13.out.lt; (obtain ⟨g14,c14,rfl,hbg14,hlt14⟩:=hO14.form (by omega)); have y1:=hb14.cell 1; have y2:=hb14.frozen 1; replace hO14:=hide hO14; replace hB14:=hide hB14; replace hb14:=hide hb14))
     obtain ⟨w15,hw15⟩ : ∃ z,z=w14.setCell ⟨gn,1,none⟩ (.slice (some ⟨g14,0,none⟩) M c14):=⟨_,rfl⟩
     rw [<- hw15]
     have hO15 : Only (fun k => k=gn) w13 w15:=by
       have h9 : Only (fun k => k=gn) w13 w14:=Only.of_below hB14.out
       rw [hw15]; exact h9.setCell (p:=⟨gn,1,none⟩) (fun _ => rfl) _
     have hb15 : Blk w15 gn 89 #[.bool nl,.slice (some ⟨g14,0,none⟩) M c14,.slice (some ⟨gk,0,none⟩) K ck]:=by rw [hw15]; exact hb14.out.set_ 1 _
     have hr15 : w15.ownsRow w13.heap.size 83 4 (.slice (some ⟨g14,0,none⟩) M c14) M rows.flatten:=by
       rw [hw15]; exact ((Only.refl (fun k => k=gn) w14).setCell (p:=⟨gn,1,none⟩) (fun _ => rfl) _).row hO14.out (own_not_blk hO14.out hb14.out (by decide))
     have hne14 : g14 ≠ gn:=own_not_blk hr15 hb15 (by decide) g14 rfl
     have hO16 : Only (fun k => k=gn) w13 (w15.setCell ⟨g14,kk * 4,none⟩ (.slice kA2 UL kc2)):=hO15.setCell (p:=⟨g14,kk * 4,none⟩) (fun h9 => absurd h9 (by simp <;> omega)) _
     have hb16:=hb15.far (p:=⟨g14,kk * 4,none⟩) (Ne.symm hne14) (.slice kA2 UL kc2)
     have hr16:=own_store (j:=kk * 4) hr15 (.slice kA2 UL kc2)
     rw [<- flatten_set4 _ (hr3.out.four hr1.out)] at hr16
     obtain ⟨old,hold⟩ : ∃ u,w15.cell? ⟨g14,kk * 4,none⟩=some u:=by
       have hl9 : kk * 4 < rows.flatten.length:=by have:=hr15.1; omega
       have h9:=hr15.cells (g:=g14) rfl (kk * 4) _ (List.getElem?_eq_getElem hl9)
       rw [Addr.add_lit,Nat.zero_add] at h9
       exact ⟨_,h9⟩
     have hfz:=World.ownsRow.frozenAt hr15 (kk * 4)
     have u1:=hb15.cell 1
     obtain ⟨W6,hW6⟩ : ∃ z,z=w15.setCell ⟨g14,kk * 4,none⟩ (.slice kA2 UL kc2):=⟨_,rfl⟩
     rw [<- hW6] at hO16 hb16 hr16
     have hP16 : PgAt W6 F11 gp (saveS st kid1 (halfA X)):=hP11.out.only hO16 fun k hk e => hgF13 (by rw [<- e]; exact hk)
     have hT16 : TreeAt W6 F11 gt gp k:=⟨hO16.blk hT13.out.blk hgtn,hT13.out.out⟩
     have hB16 : NodeM (Mine F11 W6) W6 (.agg #[.bool lb,.slice Q1 cb r1,.slice Q2 kb r2]) (halfB X):=hB13.out.keep fun k hk => ⟨⟨Nat.lt_of_lt_of_le hk.1.1 hO16.size,hk.1.2⟩,hO16.block k hk.1.1 hk.2⟩
     have hbb16:=hO16.blk hbb13.out hgbn
     have k16 : W6.cell? ⟨gk,kk + 1,none⟩=some (.int .i64 (kid2 : Int)):=(World.cell?_of_block (hO16.block gk hgk13 hgkn)).trans k13
     have v16:=hb16.cell 2
     have x0:=hbb16.cell 0
     have x1:=hbb16.cell 1
     have x2:=hbb16.cell 2
     have hU16 : NodeU F11 W6 0 (.slice (some ⟨g14,0,none⟩) M c14) (.slice (some ⟨gk,0,none⟩) K ck) ⟨n.leaf,setKey n.cells kk (halfK X),n.kids⟩:=nodeU_keyed hr1.out hr3.out hM.out hK.out hO16 hb13.out hP11.out.lt hr16 hkd.out hn13.out.kF hk13.out (by rw [<- hUL.out]; exact hkc2) hUL.out
     have hsv2:=hide (save_any W6.drew F11 gt gp k (saveS st kid1 (halfA X)) hP16.drew (hT16.ev ((Ev.refl F11 W6).drew)) (kidAt n (kk + 1)) (halfB X) (.agg #[.bool lb,.slice Q1 cb r1,.slice Q2 kb r2]) (hB16.ev ((Ev.refl F11 W6).drew)) (by have h9:=hs2.out; rw [<- hkid1.out] at h9; exact h9))
     rw [<- hkid2.out] at hsv2
     have hgb16 : w11.heap.size + 1 < W6.heap.size:=hbb16.lt
     have hnb16 : ¬ F11 (w11.heap.size + 1):=hE13.out.new hnbb hbb.out.lt
     have hgkF16 : ¬ F11 gk:=hE1w.out.new hgkF hgkl
     have hend : Hid (∀ w17 F17,PgAt w17 F17 gp (saveS (saveS st kid1 (halfA X)) kid2 (halfB X))->Ev F11 W6.drew F17 w17->MendEnd F w gp gn (saveS (saveS st (kidAt n kk) (halfA (joinP a (keyOfC n.cells kk) b))) (kidAt n (kk + 1)) (halfB (joinP a (keyOfC n.cells kk) b))) ⟨n.leaf,setKey n.cells kk (halfK (joinP a (keyOfC n.cells kk) b)),n.kids⟩ (.returned (.int .i64 0)) w17):=hide (by
       intro w17 F17 hP17 hE17'
       have hE17 : Ev F11 W6 F17 w17:=(Ev.refl F11 W6).drew.trans hE17'
       have hO0 : Only (fun k => F k \/ k=gn) w W6:=(hE1w.out.only.mono fun k _ hk => .inl hk).trans hO16 fun k _ hk => .inr hk
       have hU17:=hU16.ev hE17
       rw [hX.out,hKY.out] at hU17
       refine ⟨rfl,F17,0,_,_,?_,?_,fun k hk => ?_,hU17,?_,hE17.new hgF13 hb16.lt⟩
       · rw [hkid1.out,hkid2.out,hX.out,hKY.out] at hP17; exact hP17
       · exact hO0.trans hE17.only fun k hlt hk => (hE1w.out.grow k hk).elim .inl (fun h9 => absurd h9 (by omega))
       · rcases hE17.grow k hk with h9 | h9
         · exact hE1w.out.grow k h9
         · exact .inr (Nat.le_trans hO0.size h9)
       · rw [<- hnl.out]; exact hE17.blk hb16 hgF13)
     replace hW6:=hide hW6
     replace hw15:=hide hw15
     replace hO15:=hide hO15
     replace hb15:=hide hb15
     replace hr15:=hide hr15
     replace hO16:=hide hO16
     replace hr16:=hide hr16
     replace hP16:=hide hP16
     replace hT16:=hide hT16
     replace hB16:=hide hB16
     replace hU16:=hide hU16
     have hb16l:=hb16.lt
     have hgk16 : gk < W6.heap.size:=Nat.lt_of_lt_of_le hgk13 hO16.out.size
     replace hb16:=hide hb16
     replace hbb16:=hide hbb16
     clear hcc y1 y2 v1 z1 k13
     go_upto_region 26 with (fail)
     rw [<- hW6.out]
     clear u1 hold hfz
     have hwk : IntKind.i64.wrap ((kk : Int) + 1)=(kk : Int) + 1:=IntWalk.i64_in _ (by omega)
     have hkk1 : (0 : Int)<=(kk : Int) + 1:=by clear hwk; omega
     go_region_held3 (fun w' => w'.cell? ⟨gn,2,none⟩=some (.slice (some ⟨gk,0,none⟩) K ck)/\w'.cell? ⟨gk,kk + 1,none⟩=some (.int .i64 (kid2 : Int))/\w'.cell? ⟨w11.heap.size + 1,0,none⟩=some (.bool lb)/\w'.cell? ⟨w11.heap.size + 1,1,none⟩=some (.slice Q1 cb r1)/\w'.cell? ⟨w11.heap.size + 1,2,none⟩=some (.slice Q2 kb r2)) (first | exact ⟨v16,k16,x0,x1,x2⟩ | exact hdS.out) (first
       | (go_at_call 71; refine hsv2.out.mono ?_; rintro e w17 ⟨rfl,F17,hP17,hE17⟩; have hdS : Hid (w17.cell? ⟨gn,2,none⟩=some (.slice (some ⟨gk,0,none⟩) K ck)/\w17.cell? ⟨gk,kk + 1,none⟩=some (.int .i64 (kid2 : Int))/\w17.cell? ⟨w11.heap.size + 1,0,none⟩=some (.bool lb)/\w17.cell? ⟨w11.heap.size + 1,1,none⟩=some (.slice Q1 cb r1)/\w17.cell? ⟨w11.heap.size + 1,2,none⟩=some (.slice Q2 kb r2)):=hide ⟨(hE17.cell (p:=⟨gn,2,none⟩) ⟨hb16l,hgF13⟩).trans v16,(hE17.cell (p:=⟨gk,kk + 1,none⟩) ⟨hgk16,hgkF16⟩).trans k16,(hE17.cell (p:=⟨w11.heap.size + 1,0,none⟩) ⟨hgb16,hnb16⟩).trans x0,(hE17.cell (p:=⟨w11.heap.size + 1,1,none⟩) ⟨hgb16,hnb16⟩).trans x1,(hE17.cell (p:=⟨w11.heap.size + 1,2,none⟩) ⟨hgb16,hnb16⟩).trans x2⟩; have hd:=hide (hend.out w17 F17 hP17 hE17); replace hP17:=hide hP17; replace hE17:=hide hE17))
     all_goals
       go_wp2_with fail
       go_ret
       exact hd.out
theorem MendR.ok {st st' : PgS} {n n' : NodeP} {i : Nat} (h : MendR st n i st' n') (ho : st.ok) : st'.ok:=by
 cases h with
 | stays c _ hi hl h => exact ho
 | joins c a b _ k hi hl h h1 hk ha hb hkc hs hg => exact (ho.save hs).freed _ hg
 | parts c a b x _ k hi hl h h1 hk ha hb hkc hx hxr hz hm hp hs1 hs2 => exact (ho.save hs1).save hs2
theorem mend_any (w : World) (F : Nat->Prop) (gt gp k : Nat) (st st' : PgS) (h : PgAt w F gp st) (ht : TreeAt w F gt gp k) (ho : st.ok) (gn B : Nat) (cv kv : Value) (n n' : NodeP) (hn : NodeU F w B cv kv n) (hb : Blk w gn 89 #[.bool n.leaf,cv,kv]) (hnF : ¬ F gn)
   (i : Nat) (hm : n.kids.length<=65536) (hmM : n.cells.length<=65536) (hr : MendR st n i st' n') :
   Calls Tryz.prog 75 #[.pointer (some ⟨gt,0,none⟩),.pointer (some ⟨gn,0,none⟩),.int .i64 (i : Int)] w (MendEnd F w gp gn st' n'):=by
 cases hr with
 | stays c _ hi hl hz => exact mend_stays w F gt gp k st h ht ho gn B cv kv n c hn hb hnF i hi hm hl hz
 | joins c a b _ kk hi hl hz h1 hk hla hlb hkc hs hg => exact mend_joins w F gt gp k st h ht ho gn B cv kv n c a b hn hb hnF i kk hi hm hl hz h1 hk hla hlb hkc hmM hs hg
 | parts c a b x _ kk hi hl hz h1 hk hla hlb hkc hx hxr hz2 hm2 hp hs1 hs2 =>
   subst hx
   exact mend_parts w F gt gp k st h ht ho gn B cv kv n c a b hn hb hnF i kk hi hm hl hz h1 hk hla hlb hkc hmM hxr hz2 hm2 hp hs1 hs2
set_option maxHeartbeats 2000000 in
theorem top_stay (w : World) (F : Nat->Prop) (gt gp k : Nat) (st : PgS) (h : PgAt w F gp st) (ht : TreeAt w F gt gp k) (gl no : Nat) (n : NodeP) (hb : Blk w gl 131 #[.slice none 0 0,.int .i64 (no : Int)]) (hnl : ¬ F gl) (hl : LoadR st no n) (hne : n.cells ≠ []) :
   Calls Tryz.prog 42 #[.pointer (some ⟨gt,0,none⟩),.slice (some ⟨gl,0,none⟩) 1 1] w (PgEnd F w gp st (.int .i64 0)):=by
 have hld:=hide (load_gen w F gt gp k st h ht no n hl)
 have hgl:=Blk.lt hb
 have p0:=hb.cell 0
 have p1 : w.cell? ⟨gl,1,none⟩=some (.int .i64 (no : Int)):=hb.cell 1
 obtain ⟨N,hN⟩ : ∃ N,N=n.cells.length:=⟨_,rfl⟩
 have hN0 : (0 : Int) < (N : Int):=by
   have : n.cells.length ≠ 0:=fun e => hne (List.eq_nil_of_length_eq_zero e)
   omega
 have hNd : decide ((0 : Int) < (N : Int))=true:=decide_eq_true hN0
 have hNn : decide (0 < N)=true:=decide_eq_true (by omega)
 obtain ⟨K,hK⟩ : ∃ K,K=n.kids.length:=⟨_,rfl⟩
 obtain ⟨lf,hlf⟩ : ∃ lf,lf=n.leaf:=⟨_,rfl⟩
 replace h:=hide h
 replace ht:=hide ht
 replace hl:=hide hl
 replace hne:=hide hne
 replace hb:=hide hb
 replace hK:=hide hK
 replace hN:=hide hN
 replace hlf:=hide hlf
 go_enter Tryz.func42,Tryz.ntmps42
 go_wp2_with fail
 go_at_call 45
 refine hld.out.mono ?_
 rintro e w1 ⟨F1,cv,kv,B0,rfl,hP1,hE1,hF1,hwB,hO1⟩
 obtain ⟨A1,c1,rfl⟩:=own_form hO1.kids
 obtain ⟨A2,c2,rfl⟩:=own_form hO1.rows.choose_spec.2.1
 rw [<- hN.out,<- hK.out,<- hlf.out]
 have hdone : Hid (∀ W,Below w1.heap.size w1 W->PgEnd F w gp st (.int .i64 0) (.returned (.int .i64 0)) W):=hide fun W hB => ⟨rfl,F1,hP1.below hB,hE1.below hB⟩
 have hB1:=(Below.refl w1.heap.size w1).alloc (Nat.le_refl _) (.cells #[.bool lf,.slice A2 N c2,.slice A1 K c1] 89)
 have hbn:=Blk.new w1 89 #[.bool lf,.slice A2 N c2,.slice A1 K c1]
 have d0:=hbn.cell 0
 have d1:=hbn.cell 1
 have d2:=hbn.cell 2
 replace hbn:=hide hbn
 replace hB1:=hide hB1
 replace hO1:=hide hO1
 replace hF1:=hide hF1
 replace hP1:=hide hP1
 replace hE1:=hide hE1
 go_wp2_with fail
 go_ret
 exact hdone.out _ hB1.out
set_option maxHeartbeats 2000000 in
theorem top_less_leaf (w : World) (F : Nat->Prop) (gt gp k : Nat) (st : PgS) (h : PgAt w F gp st) (ht : TreeAt w F gt gp k) (hk8 : k < 8) (ho : st.ok) (gl no : Nat) (n : NodeP) (hb : Blk w gl 131 #[.slice none 0 0,.int .i64 (no : Int)]) (hnl : ¬ F gl) (hl : LoadR st no n) (he : n.cells=[]) (hf : n.leaf=true) (hn : 0 < st.many) :
   Calls Tryz.prog 42 #[.pointer (some ⟨gt,0,none⟩),.slice (some ⟨gl,0,none⟩) 1 1] w (PgEnd F w gp (freeS (setRootS st k 0) no) (.int .i64 0)):=by
 have hld:=hide (load_gen w F gt gp k st h ht no n hl)
 have hgl:=Blk.lt hb
 have p0:=hb.cell 0
 have p1 : w.cell? ⟨gl,1,none⟩=some (.int .i64 (no : Int)):=hb.cell 1
 obtain ⟨nx,hnx⟩ : ∃ nx : Nat,nx=0:=⟨_,rfl⟩
 have hkids : n.leaf=false->n.kids.length=1:=fun h9 => by rw [hl.2.1.kidsIn h9,he]; rfl
 have hhas:=hl.1
 rw [<- hnx] at hn
 replace h:=hide h
 replace ht:=hide ht
 replace ho:=hide ho
 replace hl:=hide hl
 replace hb:=hide hb
 replace hnx:=hide hnx
 replace hkids : Hid _:=hide hkids
 replace hhas:=hide hhas
 go_enter Tryz.func42,Tryz.ntmps42
 go_wp2_with fail
 go_at_call 45
 refine hld.out.mono ?_
 rintro e w1 ⟨F1,cv,kv,B0,rfl,hP1,hE1,hF1,hwB,hO1⟩
 have hU1 : NodeU F1 w1 B0 cv kv n:=hO1.toU hF1
 have hN0 : n.cells.length=0:=by rw [he]; rfl
 obtain ⟨A1,c1,rfl⟩:=own_form hU1.kids
 obtain ⟨K,hK⟩ : ∃ K,K=n.kids.length:=⟨_,rfl⟩
 rw [<- hK]
 replace hK:=hide hK
 obtain ⟨A2,c2,rfl⟩:=own_form hU1.rows.choose_spec.2.1
 rw [hf,hN0]
 replace he:=hide he
 replace hf:=hide hf
 replace hN0:=hide hN0
 obtain ⟨W2,hW2⟩ : ∃ z,z=w1.alloc (.cells #[.bool true,.slice A2 0 c2,.slice A1 K c1] 89):=⟨_,rfl⟩
 have hE2 : Ev F w F1 W2:=by rw [hW2]; exact hE1.alloc_ _
 have hP2 : PgAt W2 F1 gp st:=by rw [hW2]; exact hP1.alloc _
 have hT2:=ht.out.ev hE2
 have hbn : Blk W2 w1.heap.size 89 #[.bool true,.slice A2 0 c2,.slice A1 K c1]:=by rw [hW2]; exact Blk.new _ _ _
 have d0:=hbn.cell 0
 have d1:=hbn.cell 1
 have d2:=hbn.cell 2
 have t1 : W2.cell? ⟨gt,0,none⟩=some (.pointer (some ⟨gp,0,none⟩)):=hT2.blk.cell 0
 have t2 : W2.cell? ⟨gt,1,none⟩=some (.int .i64 (k : Int)):=hT2.blk.cell 1
 have hnI : (nx : Int)=0:=by rw [hnx.out]; rfl
 have hsr:=hide (setRoot_any W2.drew F1 gp st hP2.drew k nx hk8 hn)
 rw [hnI] at hsr
 replace hnI:=hide hnI
 have hend : Hid (∀ w5 F5,PgAt w5 F5 gp (freeS (setRootS st k nx) no)->Ev F w F5 w5->PgEnd F w gp (freeS (setRootS st k 0) no) (.int .i64 0) (.returned (.int .i64 0)) w5):=hide fun w5 F5 hP5 hE5 => ⟨rfl,F5,by rw [hnx.out] at hP5; exact hP5,hE5⟩
 replace hbn:=hide hbn
 replace hE2:=hide hE2
 replace hP2:=hide hP2
 replace hT2:=hide hT2
 replace hU1:=hide hU1
 replace hO1:=hide hO1
 replace hF1:=hide hF1
 replace hP1:=hide hP1
 replace hE1:=hide hE1
 replace hW2:=hide hW2
 go_upto_region 8 with (fail)
 rw [<- hW2.out]
 go_upto_region 13 with (fail)
 go_cut [11] (fun v11 wx => v11=.int .i64 0/\Hid (∃ F4,PgAt wx F4 gp (setRootS st k nx)/\Ev F w F4 wx))
 case first =>
   go_region_held3 (fun w' => w'.cell? ⟨gt,0,none⟩=some (.pointer (some ⟨gp,0,none⟩))/\w'.cell? ⟨gt,1,none⟩=some (.int .i64 (k : Int))) (first | exact ⟨t1,t2⟩ | exact hdS.out) (first
     | (go_at_call 37; refine hsr.out.mono ?_; rintro e w4 ⟨rfl,F4,hP4,hE4⟩; have hEw4 : Hid (Ev F w F4 w4):=hide (hE2.out.drew.trans hE4); have hdS : Hid (w4.cell? ⟨gt,0,none⟩=some (.pointer (some ⟨gp,0,none⟩))/\w4.cell? ⟨gt,1,none⟩=some (.int .i64 (k : Int))):=hide (by have h9:=ht.out.ev hEw4.out; exact ⟨h9.blk.cell 0,h9.blk.cell 1⟩); replace hP4:=hide hP4; replace hE4:=hide hE4))
   all_goals go_wp2_with fail
   all_goals go_meet
   all_goals exact ⟨rfl,hide ⟨F4,hP4.out,hEw4.out⟩⟩
 case rest =>
   obtain ⟨rfl,hc⟩:=hcut
   obtain ⟨F4,hP4,hE4⟩:=hc.out
   have t4 : wc.cell? ⟨gt,0,none⟩=some (.pointer (some ⟨gp,0,none⟩)):=(ht.out.ev hE4).blk.cell 0
   have hfr:=hide (free_any wc F4 gp (setRootS st k nx) hP4 no hhas.out (ho.out.set k nx hn).free)
   replace hP4:=hide hP4
   replace hE4:=hide hE4
   clear hc hsr d0 d1 d2 t1 t2
   go_wp2_with (first | (go_at_call 80; refine hfr.out.mono ?_; rintro e w5 ⟨rfl,F5,hP5,hE5⟩; have hd:=hide (hend.out w5 F5 hP5 (hE4.out.trans hE5)); replace hP5:=hide hP5; replace hE5:=hide hE5))
   go_ret
   exact hd.out
set_option maxHeartbeats 2000000 in
theorem top_less_inner (w : World) (F : Nat->Prop) (gt gp k : Nat) (st : PgS) (h : PgAt w F gp st) (ht : TreeAt w F gt gp k) (hk8 : k < 8) (ho : st.ok) (gl no : Nat) (n : NodeP) (hb : Blk w gl 131 #[.slice none 0 0,.int .i64 (no : Int)]) (hnl : ¬ F gl) (hl : LoadR st no n) (he : n.cells=[]) (hf : n.leaf=false) (hn : (kidAt n 0) < st.many) :
   Calls Tryz.prog 42 #[.pointer (some ⟨gt,0,none⟩),.slice (some ⟨gl,0,none⟩) 1 1] w (PgEnd F w gp (freeS (setRootS st k (kidAt n 0)) no) (.int .i64 0)):=by
 have hld:=hide (load_gen w F gt gp k st h ht no n hl)
 have hgl:=Blk.lt hb
 have p0:=hb.cell 0
 have p1 : w.cell? ⟨gl,1,none⟩=some (.int .i64 (no : Int)):=hb.cell 1
 obtain ⟨nx,hnx⟩ : ∃ nx : Nat,nx=(kidAt n 0):=⟨_,rfl⟩
 have hkids : n.leaf=false->n.kids.length=1:=fun h9 => by rw [hl.2.1.kidsIn h9,he]; rfl
 have hhas:=hl.1
 rw [<- hnx] at hn
 replace h:=hide h
 replace ht:=hide ht
 replace ho:=hide ho
 replace hl:=hide hl
 replace hb:=hide hb
 replace hnx:=hide hnx
 replace hkids : Hid _:=hide hkids
 replace hhas:=hide hhas
 go_enter Tryz.func42,Tryz.ntmps42
 go_wp2_with fail
 go_at_call 45
 refine hld.out.mono ?_
 rintro e w1 ⟨F1,cv,kv,B0,rfl,hP1,hE1,hF1,hwB,hO1⟩
 have hU1 : NodeU F1 w1 B0 cv kv n:=hO1.toU hF1
 have hN0 : n.cells.length=0:=by rw [he]; rfl
 obtain ⟨gk,ck,rfl,hck,_,_,_⟩:=hU1.kid_form (by rw [hkids.out hf]; omega)
 have k0:=hU1.kid_at 0 (by rw [hkids.out hf]; omega)
 rw [hkids.out hf] at hck
 rw [hkids.out hf]
 rw [<- hnx.out] at k0
 obtain ⟨A2,c2,rfl⟩:=own_form hU1.rows.choose_spec.2.1
 rw [hf,hN0]
 replace he:=hide he
 replace hf:=hide hf
 replace hN0:=hide hN0
 obtain ⟨W2,hW2⟩ : ∃ z,z=w1.alloc (.cells #[.bool false,.slice A2 0 c2,.slice (some ⟨gk,0,none⟩) 1 ck] 89):=⟨_,rfl⟩
 have hE2 : Ev F w F1 W2:=by rw [hW2]; exact hE1.alloc_ _
 have hP2 : PgAt W2 F1 gp st:=by rw [hW2]; exact hP1.alloc _
 have hT2:=ht.out.ev hE2
 have hbn : Blk W2 w1.heap.size 89 #[.bool false,.slice A2 0 c2,.slice (some ⟨gk,0,none⟩) 1 ck]:=by rw [hW2]; exact Blk.new _ _ _
 have d0:=hbn.cell 0
 have d1:=hbn.cell 1
 have d2:=hbn.cell 2
 have t1 : W2.cell? ⟨gt,0,none⟩=some (.pointer (some ⟨gp,0,none⟩)):=hT2.blk.cell 0
 have t2 : W2.cell? ⟨gt,1,none⟩=some (.int .i64 (k : Int)):=hT2.blk.cell 1
 have k1 : W2.cell? ⟨gk,0,none⟩=some (.int .i64 (nx : Int)):=by rw [hW2,World.cell?_alloc_lt _ _ _ (by assumption)]; exact k0
 have hsr:=hide (setRoot_any W2.drew F1 gp st hP2.drew k nx hk8 hn)
 have hend : Hid (∀ w5 F5,PgAt w5 F5 gp (freeS (setRootS st k nx) no)->Ev F w F5 w5->PgEnd F w gp (freeS (setRootS st k (kidAt n 0)) no) (.int .i64 0) (.returned (.int .i64 0)) w5):=hide fun w5 F5 hP5 hE5 => ⟨rfl,F5,by rw [hnx.out] at hP5; exact hP5,hE5⟩
 replace hbn:=hide hbn
 replace hE2:=hide hE2
 replace hP2:=hide hP2
 replace hT2:=hide hT2
 replace hU1:=hide hU1
 replace hO1:=hide hO1
 replace hF1:=hide hF1
 replace hP1:=hide hP1
 replace hE1:=hide hE1
 replace hW2:=hide hW2
 go_upto_region 8 with (fail)
 rw [<- hW2.out]
 go_upto_region 13 with (fail)
 go_cut [11] (fun v11 wx => v11=.int .i64 0/\Hid (∃ F4,PgAt wx F4 gp (setRootS st k nx)/\Ev F w F4 wx))
 case first =>
   go_region_held3 (fun w' => w'.cell? ⟨gt,0,none⟩=some (.pointer (some ⟨gp,0,none⟩))/\w'.cell? ⟨gt,1,none⟩=some (.int .i64 (k : Int))) (first | exact ⟨t1,t2⟩ | exact hdS.out) (first
     | (go_at_call 37; refine hsr.out.mono ?_; rintro e w4 ⟨rfl,F4,hP4,hE4⟩; have hEw4 : Hid (Ev F w F4 w4):=hide (hE2.out.drew.trans hE4); have hdS : Hid (w4.cell? ⟨gt,0,none⟩=some (.pointer (some ⟨gp,0,none⟩))/\w4.cell? ⟨gt,1,none⟩=some (.int .i64 (k : Int))):=hide (by have h9:=ht.out.ev hEw4.out; exact ⟨h9.blk.cell 0,h9.blk.cell 1⟩); replace hP4:=hide hP4; replace hE4:=hide hE4))
   all_goals go_wp2_with fail
   all_goals go_meet
   all_goals exact ⟨rfl,hide ⟨F4,hP4.out,hEw4.out⟩⟩
 case rest =>
   obtain ⟨rfl,hc⟩:=hcut
   obtain ⟨F4,hP4,hE4⟩:=hc.out
   have t4 : wc.cell? ⟨gt,0,none⟩=some (.pointer (some ⟨gp,0,none⟩)):=(ht.out.ev hE4).blk.cell 0
   have hfr:=hide (free_any wc F4 gp (setRootS st k nx) hP4 no hhas.out (ho.out.set k nx hn).free)
   replace hP4:=hide hP4
   replace hE4:=hide hE4
   clear hc hsr d0 d1 d2 t1 t2
   go_wp2_with (first | (go_at_call 80; refine hfr.out.mono ?_; rintro e w5 ⟨rfl,F5,hP5,hE5⟩; have hd:=hide (hend.out w5 F5 hP5 (hE4.out.trans hE5)); replace hP5:=hide hP5; replace hE5:=hide hE5))
   go_ret
   exact hd.out
theorem two_node {F : Nat->Prop} {w : World} {gc gi no kno kc : Nat} {kA : Option Addr} {key : List UInt8} (hc : Blk w gc 83 #[.slice kA key.length kc,.slice none 0 0,.int .i64 0,.int .i64 0]) (hi : Blk w gi 3 #[.int .i64 (no : Int),.int .i64 (kno : Int)]) (hcF : ¬ F gc) (hiF : ¬ F gi)
   (hk : Rd (byteOf F w) w 1 kA key.length (bv key)) (hkc : key.length<=kc) : NodeM (Mine F w) w (.agg #[.bool false,.slice (some ⟨gc,0,none⟩) 1 1,.slice (some ⟨gi,0,none⟩) 2 2]) ⟨false,[⟨key,[],0,0⟩],[no,kno]⟩:=by
 refine ⟨some ⟨gc,0,none⟩,1,some ⟨gi,0,none⟩,2,rfl,Nat.le_refl _,Nat.le_refl _,⟨[[.slice kA key.length kc,.slice none 0 0,.int .i64 0,.int .i64 0]],rfl,⟨rfl,fun _ => ⟨_,rfl,⟨hc.lt,hcF⟩,fun j u hu => ?_⟩⟩,fun q vs c e1 e2 => ?_⟩,⟨rfl,fun _ => ⟨_,rfl,⟨hi.lt,hiF⟩,fun j u hu => ?_⟩⟩⟩
 · rw [Addr.add_lit, Nat.zero_add, hc.cell]
   simpa using hu
 · obtain rfl : q=0:=by
     have:=(List.getElem?_eq_some_iff.1 e1).1
     simp at this; exact this
   simp at e1 e2
   subst e1; subst e2
   exact ⟨kA,kc,none,0,rfl,hkc,Nat.le_refl _,hk.mono_ fun j hj => hj.1,Rd.none_⟩
 · rw [Addr.add_lit, Nat.zero_add, hi.cell]
   simpa [encI] using hu
set_option maxHeartbeats 4000000 in
theorem top_two (w : World) (F : Nat->Prop) (gt gp k : Nat) (st : PgS) (h : PgAt w F gp st) (ht : TreeAt w F gt gp k) (hk8 : k < 8) (ho : st.ok) (gl no kno kc : Nat) (kA : Option Addr) (key : List UInt8) (hb : Blk w gl 131 #[.slice none 0 0,.int .i64 (no : Int),.slice kA key.length kc,.int .i64 (kno : Int)]) (hnl : ¬ F gl)
   (hk : Rd (byteOf F w) w 1 kA key.length (bv key)) (hkc : key.length<=kc) (ha : CanAlloc st) (hs : CanSave (allocS st) (allocN st) ⟨false,[⟨key,[],0,0⟩],[no,kno]⟩) :
   Calls Tryz.prog 42 #[.pointer (some ⟨gt,0,none⟩),.slice (some ⟨gl,0,none⟩) 2 2] w (PgEnd F w gp (setRootS (saveS (allocS st) (allocN st) ⟨false,[⟨key,[],0,0⟩],[no,kno]⟩) k (allocN st)) (.int .i64 0)):=by
 have p1 : w.cell? ⟨gl,1,none⟩=some (.int .i64 (no : Int)):=hb.cell 1
 have p3 : w.cell? ⟨gl,3,none⟩=some (.int .i64 (kno : Int)):=hb.cell 3
 have p2 : w.cell? ⟨gl,2,none⟩=some (.slice kA key.length kc):=hb.cell 2
 obtain ⟨U,hU⟩ : ∃ U,U=key.length:=⟨_,rfl⟩
 rw [<- hU] at p2
 obtain ⟨rn,hrn⟩ : ∃ rn,rn=allocN st:=⟨_,rfl⟩
 obtain ⟨st1,hst1⟩ : ∃ s1,s1=saveS (allocS st) rn ⟨false,[⟨key,[],0,0⟩],[no,kno]⟩:=⟨_,rfl⟩
 have hgl:=hb.lt
 have hFlt:=h.lt
 have hmk : Hid (∀ wz gc gi,Ev F w F wz->PgAt wz F gp st->Blk wz gc 83 #[.slice kA U kc,.slice none 0 0,.int .i64 0,.int .i64 0]->Blk wz gi 3 #[.int .i64 (no : Int),.int .i64 (kno : Int)]->w.heap.size<=gc->w.heap.size<=gi ->
     Calls Tryz.prog 36 #[.pointer (some ⟨gt,0,none⟩),.agg #[.bool false,.slice (some ⟨gc,0,none⟩) 1 1,.slice (some ⟨gi,0,none⟩) 2 2]] wz (PgEnd F wz gp st1 (.tuple #[.int .i64 (rn : Int),.int .i64 0]))):=hide (by
   intro wz gc gi hE hP hc hi h1 h2
   rw [hU] at hc
   have hcF : ¬ F gc:=fun hf => by have:=hFlt _ hf; omega
   have hiF : ¬ F gi:=fun hf => by have:=hFlt _ hf; omega
   have h9:=make_any wz F gt gp k st hP (ht.ev hE) ⟨false,[⟨key,[],0,0⟩],[no,kno]⟩ _ (two_node hc hi hcF hiF (hk.evB hE) hkc) ha ho.free hs
   rw [hst1,hrn]
   exact h9)
 have hrnm : rn < st1.many:=by rw [hst1,hrn]; exact ((ho.alloc ha).2).2
 have hend : Hid (∀ w5 F5,PgAt w5 F5 gp (setRootS st1 k rn)->Ev F w F5 w5->PgEnd F w gp (setRootS (saveS (allocS st) (allocN st) ⟨false,[⟨key,[],0,0⟩],[no,kno]⟩) k (allocN st)) (.int .i64 0) (.returned (.int .i64 0)) w5):=hide fun w5 F5 hP5 hE5 => ⟨rfl,F5,by rw [hst1,hrn] at hP5; exact hP5,hE5⟩
 obtain ⟨oc,hoc⟩ : ∃ oc,oc=Obj.cells #[.slice kA U kc,.slice none 0 0,.int .i64 0,.int .i64 0] 83 (0,0):=⟨_,rfl⟩
 obtain ⟨oi,hoi⟩ : ∃ oi,oi=Obj.cells #[.int .i64 (no : Int),.int .i64 (kno : Int)] 3 (0,0):=⟨_,rfl⟩
 have hmA:=hide (hmk.out ((w.alloc oc).alloc oi).drew w.heap.size (w.heap.size + 1) (((Ev.refl F w).alloc_ _).alloc_ _).drew ((h.alloc _).alloc _).drew (by rw [hoc]; exact (Blk.new w _ _).alloc _) (by
   rw [hoi]
   have q:=Blk.new (w.alloc oc) 3 #[.int .i64 (no : Int),.int .i64 (kno : Int)]
   rw [World.size_alloc] at q; exact q) (Nat.le_refl _) (Nat.le_succ _))
 have hmB:=hide (hmk.out ((w.alloc oi).alloc oc).drew (w.heap.size + 1) w.heap.size (((Ev.refl F w).alloc_ _).alloc_ _).drew ((h.alloc _).alloc _).drew (by
   rw [hoc]
   have q:=Blk.new (w.alloc oi) 83 #[.slice kA U kc,.slice none 0 0,.int .i64 0,.int .i64 0]
   rw [World.size_alloc] at q; exact q) (by rw [hoi]; exact (Blk.new w _ _).alloc _) (Nat.le_succ _) (Nat.le_refl _))
 have hEA : Hid (Ev F w F ((w.alloc oc).alloc oi).drew):=hide (((Ev.refl F w).alloc_ _).alloc_ _).drew
 have hEB : Hid (Ev F w F ((w.alloc oi).alloc oc).drew):=hide (((Ev.refl F w).alloc_ _).alloc_ _).drew
 have hkp : Hid (∀ F' wz,Ev F w F' wz->(wz.cell? ⟨gl,1,none⟩=some (.int .i64 (no : Int))/\wz.cell? ⟨gl,2,none⟩=some (.slice kA U kc)/\wz.cell? ⟨gl,3,none⟩=some (.int .i64 (kno : Int)))):=hide fun F' wz hE => ⟨(hE.cell (p:=⟨gl,1,none⟩) ⟨hgl,hnl⟩).trans p1,(hE.cell (p:=⟨gl,2,none⟩) ⟨hgl,hnl⟩).trans p2,(hE.cell (p:=⟨gl,3,none⟩) ⟨hgl,hnl⟩).trans p3⟩
 subst hoc
 subst hoi
 replace h:=hide h
 replace ht:=hide ht
 replace ho:=hide ho
 replace hb:=hide hb
 replace hk:=hide hk
 replace ha:=hide ha
 replace hs:=hide hs
 replace hU:=hide hU
 replace hrn:=hide hrn
 replace hst1:=hide hst1
 replace hFlt : Hid _:=hide hFlt
 clear hmk
 go_enter Tryz.func42,Tryz.ntmps42
 go_upto_region 2 with (fail)
 go_cut [5,6] (fun v5 v6 wx => v5=.int .i64 (rn : Int)/\v6=.int .i64 0/\Hid (∃ F4,PgAt wx F4 gp st1/\Ev F w F4 wx))
 case first =>
   go_region_held3 (fun w' => w'.cell? ⟨gl,1,none⟩=some (.int .i64 (no : Int))/\w'.cell? ⟨gl,2,none⟩=some (.slice kA U kc)/\w'.cell? ⟨gl,3,none⟩=some (.int .i64 (kno : Int))) (first | exact ⟨p1,p2,p3⟩ | (with_reducible exact hkp.out _ _ hEw.out) | (exact hkp.out F _ ((Ev.refl F w).alloc_ _)) | (exact hkp.out F _ (((Ev.refl F w).alloc_ _).alloc_ _)) | go_keep) (first
     | (go_at_call 36; (with_reducible refine hmA.out.mono ?_); rintro e w4 ⟨rfl,F4,hP4,hE4⟩; have hEw : Hid (Ev F w F4 w4):=hide (hEA.out.trans hE4); replace hP4:=hide hP4; replace hE4:=hide hE4)
     | (go_at_call 36; (with_reducible refine hmB.out.mono ?_); rintro e w4 ⟨rfl,F4,hP4,hE4⟩; have hEw : Hid (Ev F w F4 w4):=hide (hEB.out.trans hE4); replace hP4:=hide hP4; replace hE4:=hide hE4))
   all_goals go_wp2_with fail
   all_goals go_meet
   all_goals exact ⟨rfl,rfl,hide ⟨F4,hP4.out,hEw.out⟩⟩
 case rest =>
   obtain ⟨rfl,rfl,hc⟩:=hcut
   obtain ⟨F4,hP4,hE4⟩:=hc.out
   have hT4:=ht.out.ev hE4
   have t1 : wc.cell? ⟨gt,0,none⟩=some (.pointer (some ⟨gp,0,none⟩)):=hT4.blk.cell 0
   have t2 : wc.cell? ⟨gt,1,none⟩=some (.int .i64 (k : Int)):=hT4.blk.cell 1
   have hsr:=hide (setRoot_any wc.drew F4 gp st1 hP4.drew k rn hk8 hrnm)
   replace hP4:=hide hP4
   replace hE4:=hide hE4
   replace hT4:=hide hT4
   clear hc hmA hmB hEA hEB hkp p1 p2 p3
   go_upto_region 5 with (fail)
   go_region_held3 (fun w' => w'.cell? ⟨gt,0,none⟩=some (.pointer (some ⟨gp,0,none⟩))/\w'.cell? ⟨gt,1,none⟩=some (.int .i64 (k : Int))) (first | exact ⟨t1,t2⟩ | exact hdS.out) (first
     | (go_at_call 37; refine hsr.out.mono ?_; rintro e w5 ⟨rfl,F5,hP5,hE5⟩; have hEw5 : Hid (Ev F w F5 w5):=hide (hE4.out.drew.trans hE5); have hdS : Hid (w5.cell? ⟨gt,0,none⟩=some (.pointer (some ⟨gp,0,none⟩))/\w5.cell? ⟨gt,1,none⟩=some (.int .i64 (k : Int))):=hide (by have h9:=ht.out.ev hEw5.out; exact ⟨h9.blk.cell 0,h9.blk.cell 1⟩); have hd:=hide (hend.out w5 F5 hP5 hEw5.out); replace hP5:=hide hP5; replace hE5:=hide hE5))
   all_goals
     go_wp2_with fail
     go_ret
     exact hd.out
theorem top_any (w : World) (F : Nat->Prop) (gt gp k : Nat) (st st' : PgS) (h : PgAt w F gp st) (ht : TreeAt w F gt gp k) (hk8 : k < 8) (ho : st.ok) (gl no m : Nat) (l : Option (List UInt8 × Nat)) (hp : PiecesAt F w gl no m l) (hnl : ¬ F gl) (hr : TopR k st no l st') :
   Calls Tryz.prog 42 #[.pointer (some ⟨gt,0,none⟩),.slice (some ⟨gl,0,none⟩) m m] w (PgEnd F w gp st' (.int .i64 0)):=by
 cases hr with
 | two kno kk ha hs =>
   obtain ⟨rfl,kA,kc,hb,hk,hkc⟩:=hp
   exact top_two w F gt gp k st h ht hk8 ho gl no kno kc kA kk hb hnl hk hkc ha hs
 | stays n hl hne =>
   obtain ⟨rfl,hb⟩:=hp
   exact top_stay w F gt gp k _ h ht gl no n hb hnl hl hne
 | less n hl he hn hh =>
   obtain ⟨rfl,hb⟩:=hp
   cases hf : n.leaf with
   | true =>
     have h9:=top_less_leaf w F gt gp k st h ht hk8 ho gl no n hb hnl hl he hf (by rw [hf] at hn; exact hn)
     simpa [hf] using h9
   | false =>
     have h9:=top_less_inner w F gt gp k st h ht hk8 ho gl no n hb hnl hl he hf (by rw [hf] at hn; exact hn)
     simpa [hf] using h9
end Go.Proofs.YtiiljlmeililbaaGreatDoor
