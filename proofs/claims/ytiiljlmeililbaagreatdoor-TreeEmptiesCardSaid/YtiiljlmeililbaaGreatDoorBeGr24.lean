/-
  A key stored into a row of cells; a node apart from a block.
-/
import Derived.Test.YtiiljlmeililbaaGreatDoorBeGr23
namespace Go.Proofs.YtiiljlmeililbaaGreatDoor
set_option linter.unusedVariables false
set_option maxRecDepth 100000
open Go.RowKit
theorem NodeU.nodeNe {F : Nat->Prop} {w : World} {B gn : Nat} {cv kv : Value} {n : NodeP} {vs : Array Value} (h : NodeU F w B cv kv n) (hb : Blk w gn 89 vs) : NodeM (fun k => Mine F w k/\k ≠ gn) w (.agg #[.bool n.leaf,cv,kv]) n:=by
 obtain ⟨rows,h1,h2,h3⟩:=h.rows
 have hk:=h.kids
 have hrF:=h.rF
 have hkF:=h.kF
 obtain ⟨A,c,rfl,hc⟩:=own_sl h2
 obtain ⟨A',d,rfl,hd⟩:=own_sl hk
 exact ⟨A,c,A',d,rfl,hc,hd,⟨rows,h1,Rd.of_own_ h2 fun k hk hl => ⟨⟨hl,hrF k hk⟩,own_not_blk h2 hb (by decide) k hk⟩,fun k vs x e1 e2 => (h3 k vs x e1 e2).mono fun j hj => ⟨hj.1,by obtain ⟨_,bs,h9⟩:=hj; exact Blk.ne_ h9 hb (by decide)⟩⟩,Rd.of_own_ hk fun k hk' hl => ⟨⟨hl,hkF k hk'⟩,own_not_blk hk hb (by decide) k hk'⟩⟩
theorem own_store {w : World} {base g n c j : Nat} {xs : List Value} (h : w.ownsRow base 83 4 (.slice (some ⟨g,0,none⟩) n c) n xs) (v : Value) : (w.setCell ⟨g,j,none⟩ v).ownsRow base 83 4 (.slice (some ⟨g,0,none⟩) n c) n (xs.set j v):=by
 obtain ⟨h1,h2⟩:=h
 refine ⟨by rw [List.length_set]; exact h1,?_⟩
 rcases h2 with ⟨e,_⟩ | ⟨g',cap,cur,e,hb,hh,q1,q2,q3,q4⟩
 · cases e
 · injection e with e _ ec
   injection e with e
   injection e with e _
   subst e
   refine .inr ⟨g,cap,cur.setIfInBounds j v,by rw [ec],hb,(show Blk w g 83 cur from hh).set_ j v,q1,q2,by simpa using q3,?_⟩
   rw [Array.toList_setIfInBounds,List.take_set,q4]
theorem flatten_set4 (rows : List (List Value)) (h4 : ∀ r ∈ rows,r.length=4) (i : Nat) (v : Value) : (rows.modify i fun r => r.set 0 v).flatten=rows.flatten.set (i * 4) v:=by
 induction rows generalizing i with
 | nil => simp
 | cons r t ih =>
   have hr : r.length=4:=h4 r (.head _)
   cases i with
   | zero =>
     simp only [List.modify_zero_cons,List.flatten_cons,Nat.zero_mul]
     rw [List.set_append_left _ _ (by omega)]
   | succ i =>
     simp only [List.modify_succ_cons,List.flatten_cons]
     rw [ih (fun r hr => h4 r (.tail _ hr)),List.set_append_right _ _ (by rw [hr]; omega),hr,show (i + 1) * 4 - 4=i * 4 from by omega]
theorem CellsW.setKey {F : Nat->Prop} {w : World} {rows : List (List Value)} {cs : List CellP} (h : CellsW F w rows cs) (i : Nat) {kA : Option Addr} {kc : Nat} {key : List UInt8} (hk : Rd (byteOf F w) w 1 kA key.length (bv key)) (hkc : key.length<=kc) :
   CellsW F w (rows.modify i fun r => r.set 0 (.slice kA key.length kc)) (Go.Proofs.YtiiljlmeililbaaGreatDoor.setKey cs i key):=by
 intro j vs c e1 e2
 unfold Go.Proofs.YtiiljlmeililbaaGreatDoor.setKey at e2
 rw [List.getElem?_modify] at e1 e2
 by_cases hij : i=j
 · subst hij
   simp only [if_true] at e1 e2
   cases hr : rows[i]? with
   | none => rw [hr] at e1; simp at e1
   | some r =>
     cases hcs : cs[i]? with
     | none => rw [hcs] at e2; simp at e2
     | some c0 =>
       rw [hr] at e1
       rw [hcs] at e2
       simp at e1 e2
       obtain ⟨kA',kc',vA,vc,e,q1,q2,q3,q4⟩:=h i r c0 hr hcs
       subst e1; subst e2
       rw [e]
       exact ⟨kA,kc,vA,vc,rfl,hkc,q2,hk,q4⟩
 · simp only [if_neg hij] at e1 e2
   exact h j vs c (by simpa using e1) (by simpa using e2)
theorem nodeU_keyed {F : Nat->Prop} {w13 W : World} {gn M K kk UL kc B : Nat} {kA : Option Addr} {v14 kv : Value} {n : NodeP} {rows : List (List Value)} {v : Array Value} {key : List UInt8} (hr1 : rows.length=n.cells.length) (hr3 : CellsW F w13 rows n.cells) (hM : M=n.cells.length) (hK : K=n.kids.length)
   (hO : Only (fun k => k=gn) w13 W) (hb : Blk w13 gn 89 v) (hF : ∀ k,F k->k < w13.heap.size) (hr : W.ownsRow w13.heap.size 83 4 v14 M (rows.modify kk fun r => r.set 0 (.slice kA UL kc)).flatten) (hk : w13.ownsRow B 3 1 kv K (n.kids.map encI)) (hkF : ∀ k,kv.ownBlock=some k->¬ F k)
   (hkey : Rd (byteOf F w13) w13 1 kA UL (bv key)) (hkc : key.length<=kc) (hUL : UL=key.length) : NodeU F W 0 v14 kv ⟨n.leaf,setKey n.cells kk key,n.kids⟩:=by
 subst hUL
 have e1 : (setKey n.cells kk key).length=M:=by unfold setKey; rw [List.length_modify,hM]
 have e2 : (rows.modify kk fun r => r.set 0 (.slice kA key.length kc)).length=M:=by rw [List.length_modify,hr1,hM]
 rw [<- e1] at hr
 rw [hK] at hk
 refine ⟨⟨_,e2.trans e1.symm,own_moreB hr (Nat.zero_le _),(hr3.setKey kk hkey hkc).keepW hO fun k cs hk h9 => by subst hk; exact Blk.ne_ h9 hb (by decide) rfl⟩,own_moreB (hO.row hk (own_not_blk hk hb (by decide))) (Nat.zero_le _),fun k hk2 hf => by have:=hF k hf; have:=(own_lt hr hk2).1; omega,hkF⟩
set_option maxHeartbeats 8000000 in
theorem mend_joins (w : World) (F : Nat->Prop) (gt gp k : Nat) (st : PgS) (h : PgAt w F gp st) (ht : TreeAt w F gt gp k) (ho : st.ok) (gn B : Nat) (cv kv : Value) (n c a b : NodeP) (hn : NodeU F w B cv kv n) (hb : Blk w gn 89 #[.bool n.leaf,cv,kv]) (hnF : ¬ F gn)
   (i kk : Nat) (hi : i < n.kids.length) (hm : n.kids.length<=65536) (hl : LoadR st (kidAt n i) c) (hz : sizeP c < 127) (h1 : n.kids.length ≠ 1) (hkk : kk=min i (n.kids.length - 2)) (hla : LoadR st (kidAt n kk) a) (hlb : LoadR st (kidAt n (kk + 1)) b) (hkc : kk < n.cells.length) (hmM : n.cells.length<=65536)
   (hs : CanSave st (kidAt n kk) (joinP a (keyOfC n.cells kk) b)) (hg : st.has (kidAt n (kk + 1))) :
   Calls Tryz.prog 75 #[.pointer (some ⟨gt,0,none⟩),.pointer (some ⟨gn,0,none⟩),.int .i64 (i : Int)] w (MendEnd F w gp gn (freeS (saveS st (kidAt n kk) (joinP a (keyOfC n.cells kk) b)) (kidAt n (kk + 1))) ⟨n.leaf,n.cells.eraseIdx kk,n.kids.eraseIdx (kk + 1)⟩):=by
 have hld0:=hide (load_gen w F gt gp k st h ht (kidAt n i) c hl)
 obtain ⟨gk,ck,rfl,hck,hgkF,hBk,hgkl⟩:=hn.kid_form (by omega)
 obtain ⟨gr,cr,rfl,hcr,hgrF,hBr,hgrl⟩:=hn.cell_form (by omega)
 have k0:=hn.kid_at i hi
 obtain ⟨kid,hkid⟩ : ∃ kid,kid=kidAt n i:=⟨_,rfl⟩
 obtain ⟨K,hK⟩ : ∃ K,K=n.kids.length:=⟨_,rfl⟩
 obtain ⟨M,hM⟩ : ∃ M,M=n.cells.length:=⟨_,rfl⟩
 obtain ⟨nl,hnl⟩ : ∃ nl,nl=n.leaf:=⟨_,rfl⟩
 rw [<- hkid] at hld0 k0
 rw [<- hK] at hi hm hck hkk h1 hb hn
 rw [<- hM] at hkc hcr hb hn hmM
 rw [<- hnl] at hb
 have n2 : w.cell? ⟨gn,2,none⟩=some (.slice (some ⟨gk,0,none⟩) K ck):=hb.cell 2
 have hsc:=hl.size ho
 have hsa:=hla.size ho
 have hsb:=hlb.size ho
 have hla3:=cellsZ_len a.leaf a.cells
 have hlb3:=cellsZ_len b.leaf b.cells
 have hsa2 : sizeP a=(if a.leaf=true then 3 else 6) + cellsZ a.leaf a.cells:=rfl
 have hsb2 : sizeP b=(if b.leaf=true then 3 else 6) + cellsZ b.leaf b.cells:=rfl
 have hlenA : a.cells.length<=200/\a.kids.length<=201:=by
   have hk1:=hla.2.1.kidsLeaf
   have hk2:=hla.2.1.kidsIn
   have hl9 : a.cells.length<=200:=by omega
   refine ⟨hl9,?_⟩
   cases hf : a.leaf with
   | true => rw [hk1 hf]; simp
   | false => rw [hk2 hf]; omega
 have hlenB : b.cells.length<=200/\b.kids.length<=201:=by
   have hk1:=hlb.2.1.kidsLeaf
   have hk2:=hlb.2.1.kidsIn
   have hl9 : b.cells.length<=200:=by omega
   refine ⟨hl9,?_⟩
   cases hf : b.leaf with
   | true => rw [hk1 hf]; simp
   | false => rw [hk2 hf]; omega
 have hcrt:=hl.2.1
 have hK2 : 2<=K:=by omega
 have hkkK : kk + 1 < K:=by omega
 have hiI : (i : Int) < (K : Int):=by omega
 have hi0 : (0 : Int)<=(i : Int):=by omega
 have hkI : (kk : Int) < (K : Int):=by omega
 have hk0 : (0 : Int)<=(kk : Int):=by omega
 have hkI1 : (kk : Int) + 1 < (K : Int):=by omega
 have hkM : (kk : Int) < (M : Int):=by omega
 have hKb : (K : Int)<=65536:=by omega
 have hmin : min (i : Int) ((K : Int) - 2)=(kk : Int):=by omega
 have hgn:=hb.lt
 obtain ⟨kid1,hkid1⟩ : ∃ kid,kid=kidAt n kk:=⟨_,rfl⟩
 obtain ⟨kid2,hkid2⟩ : ∃ kid,kid=kidAt n (kk + 1):=⟨_,rfl⟩
 clear hsa2 hsb2 hla3 hlb3
 replace h:=hide h
 replace ht:=hide ht
 replace ho:=hide ho
 replace hn:=hide hn
 replace hb:=hide hb
 replace hl:=hide hl
 replace hla:=hide hla
 replace hlb:=hide hlb
 replace hkid:=hide hkid
 replace hK:=hide hK
 replace hM:=hide hM
 replace hnl:=hide hnl
 replace hkid1:=hide hkid1
 replace hkid2:=hide hkid2
 replace hcrt:=hide hcrt
 replace hkk:=hide hkk
 replace hlenA:=hide hlenA
 replace hlenB:=hide hlenB
 replace hck:=hide hck
 replace hcr:=hide hcr
 go_enter Tryz.func75,Tryz.ntmps75
 go_wp2_with fail
 go_at_call 45
 refine hld0.out.mono ?_
 rintro e w0 ⟨F0,cv0,kv0,B0,rfl,hP0,hE0,hF0,hwB0,hO0⟩
 have hU0 : NodeU F0 w0 B0 cv0 kv0 c:=hO0.toU hF0
 obtain ⟨A0,y0,rfl⟩:=own_form hU0.kids
 obtain ⟨D0,x0,rfl⟩:=own_form hU0.rows.choose_spec.2.1
 obtain ⟨lf0,hlf0⟩ : ∃ z,z=c.leaf:=⟨_,rfl⟩
 obtain ⟨m0,hm0⟩ : ∃ z,z=c.cells.length:=⟨_,rfl⟩
 obtain ⟨q0,hq0⟩ : ∃ z,z=c.kids.length:=⟨_,rfl⟩
 rw [<- hm0,<- hq0] at hU0
 rw [<- hlf0,<- hm0,<- hq0]
 obtain ⟨V0,hV0⟩ : ∃ z,z=w0.alloc (.cells #[.bool lf0,.slice D0 m0 x0,.slice A0 q0 y0] 89):=⟨_,rfl⟩
 have hEv0 : Ev F0 w0 F0 V0:=by rw [hV0]; exact (Ev.refl _ _).alloc_ _
 have hEw0 : Ev F w F0 V0:=hE0.trans hEv0
 have hPv0 : PgAt V0 F0 gp st:=by rw [hV0]; exact hP0.alloc _
 have hUv0:=hU0.ev hEv0
 have hbk0 : Blk V0 w0.heap.size 89 #[.bool lf0,.slice D0 m0 x0,.slice A0 q0 y0]:=by rw [hV0]; exact Blk.new _ _ _
 have hg0 : ¬ F0 w0.heap.size:=fun hf => by have:=hP0.lt _ hf; omega
 have hgl0 : w.heap.size<=w0.heap.size:=hE0.size
 replace hP0:=hide hP0
 replace hE0:=hide hE0
 replace hF0:=hide hF0
 replace hO0:=hide hO0
 replace hU0:=hide hU0
 replace hlf0:=hide hlf0
 replace hm0:=hide hm0
 replace hq0:=hide hq0
 replace hV0:=hide hV0
 replace hEv0:=hide hEv0
 replace hEw0:=hide hEw0
 replace hPv0:=hide hPv0
 replace hUv0:=hide hUv0
 replace hbk0:=hide hbk0
 have hszc:=hide (size_any V0 (.agg #[.bool lf0,.slice D0 m0 x0,.slice A0 q0 y0]) c (by have h9:=hUv0.out.nodeM; rw [<- hlf0.out] at h9; exact h9.old fun k hk => hk.1) hcrt.out (by omega))
 obtain ⟨Z,hZ⟩ : ∃ Z,Z=sizeP c:=⟨_,rfl⟩
 rw [<- hZ] at hszc hsc hz
 replace hZ:=hide hZ
 have t1 : decide ((127 : Int)<=(Z : Int))=false:=decide_eq_false (by omega)
 have t2 : decide (127<=Z)=false:=decide_eq_false (by omega)
 have t3 : ((K : Int) == 1)=false:=by rw [beq_eq_false_iff_ne]; omega
 have cc0:=hbk0.out.cell 0
 have cc1:=hbk0.out.cell 1
 have cc2:=hbk0.out.cell 2
 go_upto_region 2 with (fail)
 rw [<- hV0.out]
 go_upto_region 5 with (first | (go_at_call 50; refine hszc.out.mono ?_; rintro e w3 ⟨rfl,hB3⟩; have hb3:=(hEw0.out.blk hb.out hnF).below hB3 (hEw0.out.blk hb.out hnF).lt; have u2:=hb3.cell 2; replace hb3:=hide hb3; replace hB3:=hide hB3))
 have hE3 : Ev F w F0 w3:=hEw0.out.below hB3.out
 have hP3 : PgAt w3 F0 gp st:=hPv0.out.below hB3.out
 have hn3:=hn.out.ev hE3
 have k3:=hn3.kid_at kk (by rw [<- hK.out]; omega)
 have hld4:=hide (load_gen w3 F0 gt gp k st hP3 (ht.out.ev hE3) (kidAt n kk) a hla.out)
 rw [<- hkid1.out] at k3 hld4
 replace hE3:=hide hE3
 replace hP3:=hide hP3
 replace hn3:=hide hn3
 clear n2 k0 cc0 cc1 cc2 hszc
 go_wp2_with fail
 go_at_call 45
 refine hld4.out.mono ?_
 rintro e w4 ⟨F4,cv4,kv4,B4,rfl,hP4,hE4,hF4,hwB4,hO4⟩
 have hU4 : NodeU F4 w4 B4 cv4 kv4 a:=hO4.toU hF4
 obtain ⟨A4,y4,rfl⟩:=own_form hU4.kids
 obtain ⟨D4,x4,rfl⟩:=own_form hU4.rows.choose_spec.2.1
 obtain ⟨lf4,hlf4⟩ : ∃ z,z=a.leaf:=⟨_,rfl⟩
 obtain ⟨m4,hm4⟩ : ∃ z,z=a.cells.length:=⟨_,rfl⟩
 obtain ⟨q4,hq4⟩ : ∃ z,z=a.kids.length:=⟨_,rfl⟩
 rw [<- hm4,<- hq4] at hU4
 rw [<- hlf4,<- hm4,<- hq4]
 obtain ⟨V4,hV4⟩ : ∃ z,z=w4.alloc (.cells #[.bool lf4,.slice D4 m4 x4,.slice A4 q4 y4] 89):=⟨_,rfl⟩
 have hEv4 : Ev F4 w4 F4 V4:=by rw [hV4]; exact (Ev.refl _ _).alloc_ _
 have hEw4 : Ev F0 w3 F4 V4:=hE4.trans hEv4
 have hPv4 : PgAt V4 F4 gp st:=by rw [hV4]; exact hP4.alloc _
 have hUv4:=hU4.ev hEv4
 have hbk4 : Blk V4 w4.heap.size 89 #[.bool lf4,.slice D4 m4 x4,.slice A4 q4 y4]:=by rw [hV4]; exact Blk.new _ _ _
 have hg4 : ¬ F4 w4.heap.size:=fun hf => by have:=hP4.lt _ hf; omega
 have hgl4 : w3.heap.size<=w4.heap.size:=hE4.size
 replace hP4:=hide hP4
 replace hE4:=hide hE4
 replace hF4:=hide hF4
 replace hO4:=hide hO4
 replace hU4:=hide hU4
 replace hlf4:=hide hlf4
 replace hm4:=hide hm4
 replace hq4:=hide hq4
 replace hV4:=hide hV4
 replace hEv4:=hide hEv4
 replace hEw4:=hide hEw4
 replace hPv4:=hide hPv4
 replace hUv4:=hide hUv4
 replace hbk4:=hide hbk4
 have hE5 : Ev F w F4 V4:=hE3.out.trans hEw4.out
 have hn5:=hn.out.ev hE5
 have hb5:=hE5.blk hb.out hnF
 have v2:=hb5.cell 2
 have k5:=hn5.kid_at (kk + 1) (by rw [<- hK.out]; omega)
 have hld6:=hide (load_gen V4 F4 gt gp k st hPv4.out (ht.out.ev hE5) (kidAt n (kk + 1)) b hlb.out)
 rw [<- hkid2.out] at k5 hld6
 replace hE5:=hide hE5
 replace hn5:=hide hn5
 replace hb5:=hide hb5
 clear u2 k3 hld4
 go_upto_region 8 with (fail)
 rw [<- hV4.out]
 go_wp2_with fail
 go_at_call 45
 refine hld6.out.mono ?_
 rintro e w6 ⟨F6,cv6,kv6,B6,rfl,hP6,hE6,hF6,hwB6,hO6⟩
 have hU6 : NodeU F6 w6 B6 cv6 kv6 b:=hO6.toU hF6
 obtain ⟨A6,y6,rfl⟩:=own_form hU6.kids
 obtain ⟨D6,x6,rfl⟩:=own_form hU6.rows.choose_spec.2.1
 obtain ⟨lf6,hlf6⟩ : ∃ z,z=b.leaf:=⟨_,rfl⟩
 obtain ⟨m6,hm6⟩ : ∃ z,z=b.cells.length:=⟨_,rfl⟩
 obtain ⟨q6,hq6⟩ : ∃ z,z=b.kids.length:=⟨_,rfl⟩
 rw [<- hm6,<- hq6] at hU6
 rw [<- hlf6,<- hm6,<- hq6]
 obtain ⟨V6,hV6⟩ : ∃ z,z=w6.alloc (.cells #[.bool lf6,.slice D6 m6 x6,.slice A6 q6 y6] 89):=⟨_,rfl⟩
 have hEv6 : Ev F6 w6 F6 V6:=by rw [hV6]; exact (Ev.refl _ _).alloc_ _
 have hEw6 : Ev F4 V4 F6 V6:=hE6.trans hEv6
 have hPv6 : PgAt V6 F6 gp st:=by rw [hV6]; exact hP6.alloc _
 have hUv6:=hU6.ev hEv6
 have hbk6 : Blk V6 w6.heap.size 89 #[.bool lf6,.slice D6 m6 x6,.slice A6 q6 y6]:=by rw [hV6]; exact Blk.new _ _ _
 have hg6 : ¬ F6 w6.heap.size:=fun hf => by have:=hP6.lt _ hf; omega
 have hgl6 : V4.heap.size<=w6.heap.size:=hE6.size
 replace hP6:=hide hP6
 replace hE6:=hide hE6
 replace hF6:=hide hF6
 replace hO6:=hide hO6
 replace hU6:=hide hU6
 replace hlf6:=hide hlf6
 replace hm6:=hide hm6
 replace hq6:=hide hq6
 replace hV6:=hide hV6
 replace hEv6:=hide hEv6
 replace hEw6:=hide hEw6
 replace hPv6:=hide hPv6
 replace hUv6:=hide hUv6
 replace hbk6:=hide hbk6
 have hE7 : Ev F w F6 V6:=hE5.out.trans hEw6.out
 have hn7:=hn.out.ev hE7
 have hb7:=hE7.blk hb.out hnF
 have hP7 : PgAt V6 F6 gp st:=hPv6.out
 have hUa : NodeU F6 V6 B4 (.slice D4 m4 x4) (.slice A4 q4 y4) a:=hUv4.out.ev hEw6.out
 have hUb : NodeU F6 V6 B6 (.slice D6 m6 x6) (.slice A6 q6 y6) b:=hUv6.out
 have hba : Blk V6 w4.heap.size 89 #[.bool lf4,.slice D4 m4 x4,.slice A4 q4 y4]:=hEw6.out.blk hbk4.out hg4
 have hbb : Blk V6 w6.heap.size 89 #[.bool lf6,.slice D6 m6 x6,.slice A6 q6 y6]:=hbk6.out
 obtain ⟨kA,kc,r0,hkr,hkl⟩:=hn7.key_at kk (by rw [<- hM.out]; exact hkc)
 obtain ⟨KY,hKY⟩ : ∃ KY,KY=keyOfC n.cells kk:=⟨_,rfl⟩
 obtain ⟨U,hU⟩ : ∃ U,U=KY.length:=⟨_,rfl⟩
 rw [<- hKY,<- hU] at r0 hkr hkl
 have u1:=hb7.cell 1
 have a0:=hba.cell 0
 have a1:=hba.cell 1
 have a2:=hba.cell 2
 have b0:=hbb.cell 0
 have b1:=hbb.cell 1
 have b2:=hbb.cell 2
 have hgr7 : gr < V6.heap.size:=by have:=hE7.size; omega
 have hjn : Hid (∀ wz,Below V6.heap.size V6 wz->Calls Tryz.prog 123 #[.agg #[.bool lf4,.slice D4 m4 x4,.slice A4 q4 y4],.slice kA U kc,.agg #[.bool lf6,.slice D6 m6 x6,.slice A6 q6 y6]] wz (JoinRet F6 wz (joinP a KY b))):=hide fun wz hz => by
   have hEz : Ev F6 V6 F6 wz:=Ev.of_below hz
   have h9:=join_any wz F6 (fun k hk => Nat.lt_of_lt_of_le (hP7.lt k hk) hz.size) a b B4 B6 _ _ _ _ (hUa.ev hEz) (hUb.ev hEz) (by have:=hlenA.out.1; omega) (by have:=hlenB.out.1; omega) (by have:=hlenA.out.2; omega) (by have:=hlenB.out.2; omega) kA kc KY (by rw [<- hU]; exact hkr.evB hEz) (by rw [<- hU]; exact hkl)
   rw [<- hlf4.out,<- hlf6.out,<- hU] at h9
   exact h9
 have hkp : Hid (∀ wz,Below V6.heap.size V6 wz->(wz.cell? ⟨w4.heap.size,0,none⟩=some (.bool lf4)/\wz.cell? ⟨w4.heap.size,1,none⟩=some (.slice D4 m4 x4)/\wz.cell? ⟨w4.heap.size,2,none⟩=some (.slice A4 q4 y4)/\wz.cell? ⟨gn,1,none⟩=some (.slice (some ⟨gr,0,none⟩) M cr)/\wz.cell? ⟨gr,kk * 4,none⟩=some (.slice kA U kc)/\wz.cell? ⟨w6.heap.size,0,none⟩=some (.bool lf6)/\wz.cell? ⟨w6.heap.size,1,none⟩=some (.slice D6 m6 x6)/\wz.cell? ⟨w6.heap.size,2,none⟩=some (.slice A6 q6 y6))):=hide fun wz hz =>
   ⟨(hz.cell (p:=⟨w4.heap.size,0,none⟩) hba.lt).trans a0,(hz.cell (p:=⟨w4.heap.size,1,none⟩) hba.lt).trans a1,(hz.cell (p:=⟨w4.heap.size,2,none⟩) hba.lt).trans a2,(hz.cell (p:=⟨gn,1,none⟩) hb7.lt).trans u1,(hz.cell (p:=⟨gr,kk * 4,none⟩) hgr7).trans r0,(hz.cell (p:=⟨w6.heap.size,0,none⟩) hbb.lt).trans b0,(hz.cell (p:=⟨w6.heap.size,1,none⟩) hbb.lt).trans b1,(hz.cell (p:=⟨w6.heap.size,2,none⟩) hbb.lt).trans b2⟩
 replace hE7:=hide hE7
 replace hn7:=hide hn7
 replace hb7:=hide hb7
 replace hP7:=hide hP7
 replace hUa:=hide hUa
 replace hUb:=hide hUb
 replace hba:=hide hba
 replace hbb:=hide hbb
 replace hkr:=hide hkr
 replace hkl:=hide hkl
 replace hKY:=hide hKY
 replace hU:=hide hU
 clear v2 k5 hld6
 go_upto_region 11 with (fail)
 rw [<- hV6.out]
 go_cut [12] (fun v12 wx => ∃ (gj : Nat) (J1 J2 : Option Addr) (j1 e1 j2 e2 : Nat),v12=.pointer (some ⟨gj,0,none⟩)/\Hid (Below V6.heap.size V6 wx/\V6.heap.size<=gj/\Blk wx gj 89 #[.bool (joinP a KY b).leaf,.slice J1 j1 e1,.slice J2 j2 e2]/\NodeU F6 wx V6.heap.size (.slice J1 j1 e1) (.slice J2 j2 e2) (joinP a KY b)))
 case first =>
   go_region_held3 (fun w' => w'.cell? ⟨w4.heap.size,0,none⟩=some (.bool lf4)/\w'.cell? ⟨w4.heap.size,1,none⟩=some (.slice D4 m4 x4)/\w'.cell? ⟨w4.heap.size,2,none⟩=some (.slice A4 q4 y4)/\w'.cell? ⟨gn,1,none⟩=some (.slice (some ⟨gr,0,none⟩) M cr)/\w'.cell? ⟨gr,kk * 4,none⟩=some (.slice kA U kc)/\w'.cell? ⟨w6.heap.size,0,none⟩=some (.bool lf6)/\w'.cell? ⟨w6.heap.size,1,none⟩=some (.slice D6 m6 x6)/\w'.cell? ⟨w6.heap.size,2,none⟩=some (.slice A6 q6 y6)) (first | exact ⟨a0,a1,a2,u1,r0,b0,b1,b2⟩ | (with_reducible exact hkp.out _ hbA.out) | (with_reducible exact hkp.out _ (hbA.out.alloc hbA.out.size _)) | (exact hkp.out _ (bel_s3 hbA.out (Nat.le_refl _) _ _ _)) | (exact hkp.out _ (by first | (with_reducible exact (Below.refl _ V6).drew) | (with_reducible exact (Below.refl _ V6).alloc (Nat.le_refl _) _) | (with_reducible exact ((Below.refl _ V6).alloc (Nat.le_refl _) _).drew) | (with_reducible exact Below.refl _ V6))) | go_keep) (first
     | (go_at_call 123; (with_reducible refine (hjn.out _ (by first | (with_reducible exact (Below.refl _ V6).drew) | (with_reducible exact (Below.refl _ V6).alloc (Nat.le_refl _) _) | (with_reducible exact ((Below.refl _ V6).alloc (Nat.le_refl _) _).drew) | (with_reducible exact Below.refl _ V6))).mono ?_); rintro e w8 ⟨cv8,kv8,rfl,hU8,hB8⟩; have hbA : Hid (Below V6.heap.size V6 w8):=hide (Below.trans (by first | (with_reducible exact (Below.refl _ V6).drew) | (with_reducible exact (Below.refl _ V6).alloc (Nat.le_refl _) _) | (with_reducible exact ((Below.refl _ V6).alloc (Nat.le_refl _) _).drew) | (with_reducible exact Below.refl _ V6)) (hB8.mono (Below.size (B:=V6.heap.size) (by first | (with_reducible exact (Below.refl _ V6).drew) | (with_reducible exact (Below.refl _ V6).alloc (Nat.le_refl _) _) | (with_reducible exact ((Below.refl _ V6).alloc (Nat.le_refl _) _).drew) | (with_reducible exact Below.refl _ V6))))); (try (have hq : Blk w8 V6.heap.size 89 #[.bool false,.slice none 0 0,.slice none 0 0]:=(by first | exact Blk.below (Blk.new V6 89 #[.bool false,.slice none 0 0,.slice none 0 0]) hB8 (by simp) | exact Blk.below (Blk.new V6 89 #[.bool false,.slice none 0 0,.slice none 0 0]).drew hB8 (by simp)); have q0:=hq.cell 0; have q1:=hq.cell 1; have q2:=hq.cell 2; have r0:=hq.frozen 0; have r1:=hq.frozen 1; have r2:=hq.frozen 2; replace hq:=hide hq)); (obtain ⟨J1,e1,rfl,hj1⟩:=own_sl hU8.rows.choose_spec.2.1); (obtain ⟨J2,e2,rfl,hj2⟩:=own_sl hU8.kids); replace hU8:=hide hU8; replace hB8:=hide hB8))
   all_goals go_wp2_with fail
   all_goals go_meet
   · exact ⟨_,J1,J2,_,e1,_,e2,rfl,hide ⟨hbA.out.alloc hbA.out.size _,hbA.out.size,Blk.new _ _ _,(hU8.out.more (by first | exact Nat.le_refl _ | (simp <;> omega))).ev ((Ev.refl F6 w8).alloc_ _)⟩⟩
   · have hq2 := hq.out
     exact ⟨_,J1,J2,_,e1,_,e2,rfl,hide ⟨bel_s3 hbA.out (Nat.le_refl _) _ _ _,Nat.le_refl _,Node3.own ⟨_,_,_,hq2⟩ _ _ _,(hU8.out.more (by first | exact Nat.le_refl _ | (simp <;> omega))).only (only_s3 (Only.refl (fun k => k=V6.heap.size) w8) rfl _ _ _) fun k hk => by subst hk; exact ⟨_,_,hq2,by decide,by decide,by decide⟩⟩⟩
 case rest =>
   obtain ⟨gj,J1,J2,j1,e1,j2,e2,rfl,hJ⟩:=hcut
   obtain ⟨hB9,hgj,hbj,hUj⟩:=hJ.out
   clear hJ hjn hkp a0 a1 a2 b0 b1 b2 u1 r0
   obtain ⟨X,hX⟩ : ∃ X,X=joinP a KY b:=⟨_,rfl⟩
   rw [<- hX] at hbj hUj
   have hE9 : Ev F w F6 wc:=hE7.out.below hB9
   have hP9 : PgAt wc F6 gp st:=hP7.out.below hB9
   have hj1 : j1=X.cells.length:=by
     rcases hUj.rows.choose_spec.2.1.2 with ⟨e9,h9⟩ | ⟨g,cap,cur,e9,_⟩
     · injection e9 with _ e9 _; omega
     · injection e9 with _ e9 _
   have hj2 : j2=X.kids.length:=by
     rcases hUj.kids.2 with ⟨e9,h9⟩ | ⟨g,cap,cur,e9,_⟩
     · injection e9 with _ e9 _; omega
     · injection e9 with _ e9 _
   obtain ⟨xl,hxl⟩ : ∃ z,z=X.leaf:=⟨_,rfl⟩
   rw [<- hxl] at hbj
   have hgjF : ¬ F6 gj:=fun hf => by have:=hP7.out.lt _ hf; omega
   have hnd9:=hE9.blk hb.out hnF
   have hgnj : gn ≠ gj:=by have:=hE7.out.size; omega
   rw [<- hKY.out,<- hX] at hs
   have hszX:=hide (size_any wc (.agg #[.bool xl,.slice J1 j1 e1,.slice J2 j2 e2]) X (by have h9:=hUj.nodeM; rw [<- hxl] at h9; exact h9.old fun k hk => hk.1) hs.2.1 (by have:=hs.2.2; omega))
   obtain ⟨ZX,hZX⟩ : ∃ ZX,ZX=sizeP X:=⟨_,rfl⟩
   have hZ508 : ZX<=508:=by rw [hZX]; exact hs.2.2
   rw [<- hZX] at hszX
   have s1 : decide ((ZX : Int)<=508)=true:=decide_eq_true (by omega)
   have s2 : decide (ZX<=508)=true:=decide_eq_true hZ508
   have i0:=hbj.cell 0
   have i1:=hbj.cell 1
   have i2:=hbj.cell 2
   replace hB9:=hide hB9
   replace hbj:=hide hbj
   replace hUj:=hide hUj
   replace hX:=hide hX
   replace hE9:=hide hE9
   replace hP9:=hide hP9
   replace hj1:=hide hj1
   replace hj2:=hide hj2
   replace hxl:=hide hxl
   replace hnd9:=hide hnd9
   replace hZX:=hide hZX
   replace hs:=hide hs
   replace hg:=hide hg
   go_upto_region 13 with (first | (go_at_call 50; refine hszX.out.mono ?_; rintro e w10 ⟨rfl,hB10⟩; replace hB10:=hide hB10))
   have hE10 : Ev F w F6 w10:=hE9.out.below hB10.out
   have hP10 : PgAt w10 F6 gp st:=hP9.out.below hB10.out
   have hU10:=hUj.out.ev (Ev.of_below (F:=F6) hB10.out)
   have hn10:=hn.out.ev hE10
   have hb10:=hE10.blk hb.out hnF
   have hj10:=hbj.out.below hB10.out hbj.out.lt
   have k9:=hn10.kid_at kk (by rw [<- hK.out]; omega)
   have v9:=hb10.cell 2
   have x0:=hj10.cell 0
   have x1:=hj10.cell 1
   have x2:=hj10.cell 2
   have hgk10 : gk < w10.heap.size:=by have:=hE10.size; omega
   have hsv:=hide (save_any w10.drew F6 gt gp k st hP10.drew (ht.out.ev hE10.drew) (kidAt n kk) X (.agg #[.bool xl,.slice J1 j1 e1,.slice J2 j2 e2]) (by have h9:=(hU10.ev ((Ev.refl F6 w10).drew)).nodeM; rw [<- hxl.out] at h9; exact h9) hs.out)
   rw [<- hkid1.out] at k9 hsv
   have hkp10 : Hid (∀ wz,Below w10.heap.size w10 wz->(wz.cell? ⟨gn,2,none⟩=some (.slice (some ⟨gk,0,none⟩) K ck)/\wz.cell? ⟨gk,kk,none⟩=some (.int .i64 (kid1 : Int))/\wz.cell? ⟨gj,0,none⟩=some (.bool xl)/\wz.cell? ⟨gj,1,none⟩=some (.slice J1 j1 e1)/\wz.cell? ⟨gj,2,none⟩=some (.slice J2 j2 e2))):=hide fun wz hz =>
     ⟨(hz.cell (p:=⟨gn,2,none⟩) hb10.lt).trans v9,(hz.cell (p:=⟨gk,kk,none⟩) hgk10).trans k9,(hz.cell (p:=⟨gj,0,none⟩) hj10.lt).trans x0,(hz.cell (p:=⟨gj,1,none⟩) hj10.lt).trans x1,(hz.cell (p:=⟨gj,2,none⟩) hj10.lt).trans x2⟩
   replace hE10:=hide hE10
   replace hP10:=hide hP10
   replace hU10:=hide hU10
   replace hn10:=hide hn10
   replace hb10:=hide hb10
   replace hj10:=hide hj10
   clear i0 i1 i2 hszX
   go_cut [13] (fun v13 wx => v13=.int .i64 0/\Hid (∃ F11,PgAt wx F11 gp (saveS st kid1 X)/\Ev F w F11 wx))
   case first =>
     go_region_held3 (fun w' => w'.cell? ⟨gn,2,none⟩=some (.slice (some ⟨gk,0,none⟩) K ck)/\w'.cell? ⟨gk,kk,none⟩=some (.int .i64 (kid1 : Int))/\w'.cell? ⟨gj,0,none⟩=some (.bool xl)/\w'.cell? ⟨gj,1,none⟩=some (.slice J1 j1 e1)/\w'.cell? ⟨gj,2,none⟩=some (.slice J2 j2 e2)) (first | exact ⟨v9,k9,x0,x1,x2⟩ | exact hdS.out) (first
       | (go_at_call 71; refine hsv.out.mono ?_; rintro e w11 ⟨rfl,F11,hP11,hE11⟩; have hdS : Hid (w11.cell? ⟨gn,2,none⟩=some (.slice (some ⟨gk,0,none⟩) K ck)/\w11.cell? ⟨gk,kk,none⟩=some (.int .i64 (kid1 : Int))/\w11.cell? ⟨gj,0,none⟩=some (.bool xl)/\w11.cell? ⟨gj,1,none⟩=some (.slice J1 j1 e1)/\w11.cell? ⟨gj,2,none⟩=some (.slice J2 j2 e2)):=hide (by have hgF:=hE10.out.new hnF hgn; have hkF:=hE10.out.new hgkF hgkl; exact ⟨(hE11.cell (p:=⟨gn,2,none⟩) ⟨hb10.out.lt,hgF⟩).trans v9,(hE11.cell (p:=⟨gk,kk,none⟩) ⟨hgk10,hkF⟩).trans k9,(hE11.cell (p:=⟨gj,0,none⟩) ⟨hj10.out.lt,hgjF⟩).trans x0,(hE11.cell (p:=⟨gj,1,none⟩) ⟨hj10.out.lt,hgjF⟩).trans x1,(hE11.cell (p:=⟨gj,2,none⟩) ⟨hj10.out.lt,hgjF⟩).trans x2⟩); have hE1w : Hid (Ev F w F11 w11):=hide (hE10.out.drew.trans hE11); replace hP11:=hide hP11; replace hE11:=hide hE11))
     all_goals go_wp2_with fail
     all_goals go_meet
     all_goals exact ⟨rfl,hide ⟨F11,hP11.out,hE1w.out⟩⟩
   case rest =>
   obtain ⟨rfl,hc13⟩:=hcut
   obtain ⟨F11,hP11,hE1w0⟩:=hc13.out
   obtain ⟨w11,hw11⟩ : ∃ z,z=wc:=⟨_,rfl⟩
   rw [<- hw11] at hP11 hE1w0 ⊢
   replace hw11:=hide hw11
   have hE1w:=hide hE1w0
   replace hP11:=hide hP11
   clear hE1w0 hc13
   have hn11:=hn.out.ev hE1w.out
   have hb11:=hE1w.out.blk hb.out hnF
   have hgF11:=hE1w.out.new hnF hgn
   have k11:=hn11.kid_at (kk + 1) (by rw [<- hK.out]; omega)
   rw [<- hkid2.out] at k11
   obtain ⟨rows,hr1,hr2,hr3⟩:=hn11.rows
   rw [<- hM.out] at hr2
   have hrd1:=Reads.of_own hr2
   have hkd:=hn11.kids
   rw [<- hK.out] at hkd
   have hrdk:=Reads.of_own hkd
   replace hkd:=hide hkd
   have h1r:=hr3.one hr1
   have hcc:=hide (cloneC_any w11 (some ⟨gr,0,none⟩) M cr rows.flatten hrd1 h1r (by omega))
   have v1:=hb11.cell 1
   have v2:=hb11.cell 2
   have z1:=hb11.frozen 1
   have z2:=hb11.frozen 2
   have t0 : w11.cell? ⟨gt,0,none⟩=some (.pointer (some ⟨gp,0,none⟩)):=(ht.out.ev hE1w.out).blk.cell 0
   have hgtn : gt ≠ gn:=Blk.ne_ (ht.out.ev hE1w.out).blk hb11 (by decide)
   replace hn11:=hide hn11
   replace hb11:=hide hb11
   replace hr1:=hide hr1
   replace hr2:=hide hr2
   replace hr3:=hide hr3
   replace hrd1:=hide hrd1
   replace hrdk:=hide hrdk
   replace h1r : Hid _:=hide h1r
   clear v9 k9 x0 x1 x2 hsv hkp10
   go_upto_region 17 with (fail)
   go_upto_region 18 with (first
     | (go_at_call 124; refine hcc.out.mono ?_; rintro e w12 ⟨v12,rfl,hO12,hB12⟩; have hb12:=hb11.out.below hB12 hb11.out.lt; (obtain ⟨A12,c12,rfl⟩:=own_form hO12); have hdc:=hide (delC_any w12 w11.heap.size _ M kk rows.flatten hO12 hkc h1r.out (by omega)); replace hO12:=hide hO12; replace hB12:=hide hB12; replace hb12:=hide hb12)
     | (go_at_call 53; refine hdc.out.mono ?_; rintro e w13 ⟨v13,rfl,hO13,hg13,hw13⟩; have hb13:=hb12.out.grown hg13 (fun e => own_not_blk hO12.out hb12.out (by decide) gn e.symm rfl); have y1:=hb13.cell 1; have y2:=hb13.frozen 1; (obtain ⟨A13,c13,rfl⟩:=own_form hO13); replace hO13:=hide hO13; replace hg13:=hide hg13; replace hb13:=hide hb13; replace hw13:=hide hw13))
   obtain ⟨w14,hw14⟩ : ∃ z,z=w13.setCell ⟨gn,1,none⟩ (.slice A13 (M - 1) c13):=⟨_,rfl⟩
   rw [<- hw14]
   have hOa : Only (fun k => k=gn) w11 w14:=by
     have h9 : Only (fun k => k=gn) w11 w13:=(Only.of_below hB12.out).grown hg13.out (fun k hk hlt => by have:=(own_lt hO12.out hk).1; omega)
     rw [hw14]; exact h9.setCell (p:=⟨gn,1,none⟩) (fun _ => rfl) _
   have hb14 : Blk w14 gn 89 #[.bool nl,.slice A13 (M - 1) c13,.slice (some ⟨gk,0,none⟩) K ck]:=by rw [hw14]; exact hb13.out.set_ 1 _
   have hr14 : w14.ownsRow w11.heap.size 83 4 (.slice A13 (M - 1) c13) (M - 1) (rows.flatten.take (kk * 4) ++ rows.flatten.drop ((kk + 1) * 4)):=by
     rw [hw14]; exact ((Only.refl (fun k => k=gn) w13).setCell (p:=⟨gn,1,none⟩) (fun _ => rfl) _).row hO13.out (own_not_blk hO13.out hb13.out (by decide))
   have hkd14:=hOa.row hkd.out (own_not_blk hkd.out hb11.out (by decide))
   have hci:=hide (cloneI_any w14 (some ⟨gk,0,none⟩) K ck (n.kids.map encI) (Reads.of_own hkd14) (encI_one _) (by omega))
   have q2:=hb14.cell 2
   have p2:=hb14.frozen 2
   have hs14 : w11.heap.size<=w14.heap.size:=hOa.size
   have hw2 : IntKind.i64.wrap ((kk : Int) + 2)=(kk : Int) + 2:=IntWalk.i64_in _ (by omega)
   replace hw14:=hide hw14
   replace hOa:=hide hOa
   replace hb14:=hide hb14
   replace hr14:=hide hr14
   replace hkd14:=hide hkd14
   clear hcc hdc y1 y2 v1 v2 z1 z2
   go_upto_region 19 with (first
     | (go_at_call 126; refine hci.out.mono ?_; rintro e w15 ⟨v15,rfl,hO15,hB15⟩; have hb15:=hb14.out.below hB15 hb14.out.lt; (obtain ⟨A15,c15,rfl⟩:=own_form hO15); (have hdi0:=delI_any w15 w14.heap.size _ K (kk + 1) (n.kids.map encI) hO15 hkkK (encI_one _) (by omega)); (rw [show ((kk + 1 : Nat) : Int)=(kk : Int) + 1 from by omega,show (kk : Int) + 1 + 1=(kk : Int) + 2 from by omega] at hdi0); have hdi:=hide hdi0; clear hdi0; replace hO15:=hide hO15; replace hB15:=hide hB15; replace hb15:=hide hb15)
     | (go_at_call 125; refine hdi.out.mono ?_; rintro e w16 ⟨v16,rfl,hO16,hg16,hw16⟩; have hb16:=hb15.out.grown hg16 (fun e => own_not_blk hO15.out hb15.out (by decide) gn e.symm rfl); have y1:=hb16.cell 2; have y2:=hb16.frozen 2; (obtain ⟨A16,c16,rfl⟩:=own_form hO16); replace hO16:=hide hO16; replace hg16:=hide hg16; replace hb16:=hide hb16; replace hw16:=hide hw16))
   clear hw2
   obtain ⟨w17,hw17⟩ : ∃ z,z=w16.setCell ⟨gn,2,none⟩ (.slice A16 (K - 1) c16):=⟨_,rfl⟩
   rw [<- hw17]
   have hOb : Only (fun k => k=gn) w14 w17:=by
     have h9 : Only (fun k => k=gn) w14 w16:=(Only.of_below hB15.out).grown hg16.out (fun k hk hlt => by have:=(own_lt hO15.out hk).1; omega)
     rw [hw17]; exact h9.setCell (p:=⟨gn,2,none⟩) (fun _ => rfl) _
   have hb17 : Blk w17 gn 89 #[.bool nl,.slice A13 (M - 1) c13,.slice A16 (K - 1) c16]:=by rw [hw17]; exact hb16.out.set_ 2 _
   have hk17 : w17.ownsRow w14.heap.size 3 1 (.slice A16 (K - 1) c16) (K - 1) ((n.kids.map encI).take ((kk + 1) * 1) ++ (n.kids.map encI).drop ((kk + 1 + 1) * 1)):=by
     rw [hw17]; exact ((Only.refl (fun k => k=gn) w16).setCell (p:=⟨gn,2,none⟩) (fun _ => rfl) _).row hO16.out (own_not_blk hO16.out hb16.out (by decide))
   have hr17:=hOb.row hr14.out (own_not_blk hr14.out hb14.out (by decide))
   have hOc : Only (fun k => k=gn) w11 w17:=hOa.out.trans hOb (fun _ _ h => h)
   have hP17 : PgAt w17 F11 gp (saveS st kid1 X):=hP11.out.only hOc fun k hk e => hgF11 (by rw [<- e]; exact hk)
   have hU17:=nodeU_erased hr1.out hr3.out hM.out hK.out hkc hkkK hOc hb11.out hP11.out.lt hr17 (own_moreB hk17 hs14)
   have hO0 : Only (fun k => F k \/ k=gn) w w17:=(hE1w.out.only.mono fun k _ hk => .inl hk).trans hOc fun k _ hk => .inr hk
   have hho : (saveS st kid1 X).ok:=by
     have h9:=ho.out.save hs.out
     rw [<- hkid1.out] at h9; exact h9
   have hfr:=hide (free_any w17 F11 gp (saveS st kid1 X) hP17 kid2 (by have h9:=hg.out; rw [<- hkid2.out] at h9; exact h9) hho.free)
   have g0 : w17.cell? ⟨gt,0,none⟩=some (.pointer (some ⟨gp,0,none⟩)):=(hOc.blk (ht.out.ev hE1w.out).blk hgtn).cell 0
   have hend : Hid (∀ w18 F18,PgAt w18 F18 gp (freeS (saveS st kid1 X) kid2)->Ev F11 w17 F18 w18->MendEnd F w gp gn (freeS (saveS st (kidAt n kk) (joinP a (keyOfC n.cells kk) b)) (kidAt n (kk + 1))) ⟨n.leaf,n.cells.eraseIdx kk,n.kids.eraseIdx (kk + 1)⟩ (.returned (.int .i64 0)) w18):=hide (by
     intro w18 F18 hP18 hE18
     refine ⟨rfl,F18,w11.heap.size,_,_,?_,?_,fun k hk => ?_,hU17.ev hE18,?_,hE18.new hgF11 hb17.lt⟩
     · rw [hkid1.out,hkid2.out,hX.out,hKY.out] at hP18; exact hP18
     · exact hO0.trans hE18.only fun k hlt hk => (hE1w.out.grow k hk).elim .inl (fun h9 => absurd h9 (by omega))
     · rcases hE18.grow k hk with h9 | h9
       · exact hE1w.out.grow k h9
       · exact .inr (Nat.le_trans hO0.size h9)
     · rw [<- hnl.out]; exact hE18.blk hb17 hgF11)
   replace hw17:=hide hw17
   replace hOb:=hide hOb
   replace hb17:=hide hb17
   replace hk17:=hide hk17
   replace hr17:=hide hr17
   replace hOc:=hide hOc
   replace hP17:=hide hP17
   replace hU17:=hide hU17
   replace hO0:=hide hO0
   replace hho:=hide hho
   clear hci y1 y2 q2 p2 k11 t0
   go_wp2_with (first | (go_at_call 80; refine hfr.out.mono ?_; rintro e w18 ⟨rfl,F18,hP18,hE18⟩; have hd:=hide (hend.out w18 F18 hP18 hE18); replace hP18:=hide hP18; replace hE18:=hide hE18))
   go_ret
   exact hd.out
end Go.Proofs.YtiiljlmeililbaaGreatDoor
