/-
  Contract of tree.change at a leaf, with Put's closure.
-/
import Derived.Test.YtiiljlmeililbaaGreatDoorBeGr22
import Derived.Test.YtiiljlmeililbaaGreatDoorBeGr20
import Derived.Test.YtiiljlmeililbaaGreatDoorBeGr4
namespace Go.Proofs.YtiiljlmeililbaaGreatDoor
set_option linter.unusedVariables false
set_option maxRecDepth 100000
open Go.RowKit
theorem NodeOwn.moreB {w : World} {B B' : Nat} {cv kv : Value} {n : NodeP} (h : NodeOwn w B cv kv n) (hb : B'<=B) : NodeOwn w B' cv kv n:=by
 obtain ⟨rows,h1,h2,h3⟩:=h.rows
 exact ⟨⟨rows,h1,own_moreB h2 hb,fun k vs c e1 e2 => (h3 k vs c e1 e2).mono fun j hj => ⟨Nat.le_trans hb hj.1,hj.2⟩⟩,own_moreB h.kids hb⟩
def OpC (f : FuncId) (x y : Value) (w : World) (F : Nat->Prop) (gp : Nat) (st : PgS) (n : NodeP) (i : Nat) (is : Bool) (st1 : PgS) (n1 : NodeP) : Prop :=
 ∀ w1 F1 gn B cv kv, PgAt w1 F1 gp st -> Ev F w F1 w1 -> NodeW F1 w1 B cv kv n -> Blk w1 gn 89 #[.bool n.leaf, cv, kv] -> ¬ F1 gn -> w.heap.size <= gn -> w.heap.size <= B -> B <= w1.heap.size ->
   Calls Tryz.prog f #[.pointer (some ⟨gn,0,none⟩),.int .i64 (i : Int),.bool is,x,y] w1 (OpEnd F1 w1 gp gn w.heap.size st1 n1)
def LayC (w : World) (F : Nat->Prop) (gt gp k no : Nat) (st : PgS) (n : NodeP) (st' : PgS) (l : Option (List UInt8 × Nat)) : Prop :=
 ∀ w1 F1 v,PgAt w1 F1 gp st->TreeAt w1 F1 gt gp k->NodeM (Mine F1 w1) w1 v n->Calls Tryz.prog 73 #[.pointer (some ⟨gt,0,none⟩),.int .i64 (no : Int),v] w1 (LayEnd F1 w1 gp no st' l)
set_option maxHeartbeats 2000000 in
theorem change_leaf (w : World) (F : Nat->Prop) (gt gp k : Nat) (st : PgS) (h : PgAt w F gp st) (ht : TreeAt w F gt gp k) (no : Nat) (n : NodeP) (hl : LoadR st no n) (hleaf : n.leaf=true) (kA : Option Addr) (kc : Nat) (key : List UInt8) (hk : MB F w kA key.length key)
   (gc gt2 : Nat) (st1 st2 : PgS) (n1 : NodeP) (l : Option (List UInt8 × Nat)) (hop : OpC 39 (.pointer (some ⟨gc,0,none⟩)) (.pointer (some ⟨gt2,0,none⟩)) w F gp st n (findP n key).1 (findP n key).2 st1 n1) (hlay : LayC w F gt gp k no st1 n1 st2 l) :
   Calls Tryz.prog 38 #[.pointer (some ⟨gt,0,none⟩),.int .i64 (no : Int),.slice kA key.length kc,.func (.func 39) #[] #[.pointer (some ⟨gc,0,none⟩),.pointer (some ⟨gt2,0,none⟩)]] w (LayEnd F w gp no st2 l):=by
 have hld:=hide (load_any w F gt gp k st h ht no n hl hleaf)
 have hgt:=Blk.lt ht.blk
 have hrise:=hl.2.1.rise
 have hmany:=hl.2.1.many
 obtain ⟨L,hL⟩ : ∃ L,L=key.length:=⟨_,rfl⟩
 rw [<- hL] at hk ⊢
 replace h:=hide h
 replace ht:=hide ht
 replace hl:=hide hl
 replace hk:=hide hk
 replace hop : Hid _:=hide hop
 replace hlay : Hid _:=hide hlay
 replace hL:=hide hL
 replace hrise:=hide hrise
 replace hmany:=hide hmany
 obtain ⟨lf,hlf⟩ : ∃ lf,lf=n.leaf:=⟨_,rfl⟩
 have hlt : lf=true:=hlf.trans hleaf
 subst hlt
 replace hlf:=hide hlf
 replace hleaf:=hide hleaf
 go_enter Tryz.func38,Tryz.ntmps38
 go_wp2_with fail
 go_at_call 45
 refine hld.out.mono ?_
 rintro e w1 ⟨F1,cv,kv,B0,rfl,hP1,hE1,hF1,hwB,hO1⟩
 rw [<- hlf.out]
 have hO1':=hO1.moreB (Nat.min_le_left B0 w1.heap.size)
 obtain ⟨Bm,hBm⟩ : ∃ Bm,Bm=min B0 w1.heap.size:=⟨_,rfl⟩
 rw [<- hBm] at hO1'
 have hFm : ∀ j,F1 j->j < Bm:=fun j hj => by have:=hF1 j hj; have:=hP1.lt j hj; omega
 have hwm : w.heap.size<=Bm:=by have:=hE1.size; omega
 have hms : Bm<=w1.heap.size:=by omega
 have hW1:=hO1'.toW hFm
 obtain ⟨A1,c1,rfl⟩:=own_form hW1.kids
 obtain ⟨A2,c2,rfl⟩:=own_form hW1.rows.choose_spec.2.1
 obtain ⟨N,hN⟩ : ∃ N,N=n.cells.length:=⟨_,rfl⟩
 obtain ⟨K,hK⟩ : ∃ K,K=n.kids.length:=⟨_,rfl⟩
 rw [<- hN,<- hK] at hW1 ⊢
 replace hN:=hide hN
 replace hK:=hide hK
 replace hO1:=hide hO1
 replace hO1':=hide hO1'
 replace hF1:=hide hF1
 replace hFm:=hide hFm
 replace hBm:=hide hBm
 replace hP1:=hide hP1
 replace hE1:=hide hE1
 replace hW1:=hide hW1
 go_wp2_with fail
 have hnF1 : ¬ F1 w1.heap.size:=fun hf => by have:=hP1.out.lt _ hf; omega
 have hbn:=Blk.new w1 89 #[.bool true,.slice A2 N c2,.slice A1 K c1]
 have hE1a : Ev F w F1 (w1.alloc (.cells #[.bool true,.slice A2 N c2,.slice A1 K c1] 89)):=hE1.out.alloc_ _
 have hfd:=hide (find_any (w1.alloc (.cells #[.bool true,.slice A2 N c2,.slice A1 K c1] 89)) (.agg #[.bool true,.slice A2 N c2,.slice A1 K c1]) n (by
   have h9:=(hW1.out.nodeM.ev ((Ev.refl F1 w1).alloc_ (.cells #[.bool true,.slice A2 N c2,.slice A1 K c1] 89))).old fun k hk => hk.1
   rw [<- hlf.out] at h9
   exact h9) hrise.out (by have:=hmany.out; omega) kA kc key (by have h9:=(hk.out.ev hE1a).rb; rw [hL.out] at h9; exact h9))
 rw [<- hL.out] at hfd
 obtain ⟨I,hI⟩ : ∃ I,I=(findP n key).1:=⟨_,rfl⟩
 obtain ⟨S,hS⟩ : ∃ S,S=(findP n key).2:=⟨_,rfl⟩
 rw [<- hI,<- hS] at hfd hop
 replace hI:=hide hI
 replace hS:=hide hS
 go_at_call 46
 refine hfd.out.mono ?_
 rintro e w2 ⟨rfl,hB2⟩
 have hb2:=hbn.below hB2 (by simp)
 have hP2:=(hP1.out.alloc (.cells #[.bool true,.slice A2 N c2,.slice A1 K c1] 89)).below hB2
 have hE2:=hE1a.below hB2
 have hW2 : NodeW F1 w2 Bm (.slice A2 N c2) (.slice A1 K c1) n:=hW1.out.only (((Only.refl (fun _ => False) w1).alloc _).trans (Only.of_below hB2) (fun _ _ h => h)) (fun _ h => h.elim)
 have hs2:=hE2.size
 have hop2:=hide (hop.out w2 F1 w1.heap.size Bm (.slice A2 N c2) (.slice A1 K c1) hP2 hE2 hW2 (by rw [<- hlf.out]; exact hb2) hnF1 hE1.out.size hwm (by have:=hB2.size; simp at this; omega))
 have d0:=hb2.cell 0
 have d1:=hb2.cell 1
 have d2:=hb2.cell 2
 replace hb2:=hide hb2
 replace hbn:=hide hbn
 replace hB2:=hide hB2
 replace hP2:=hide hP2
 replace hE1a:=hide hE1a
 replace hE2:=hide hE2
 replace hW2:=hide hW2
 replace hnF1:=hide hnF1
 go_wp2_with fail
 go_at_call 39
 refine hop2.out.mono ?_
 rintro e w3 ⟨rfl,F3,B3,cv3,kv3,hP3,hO3,hG3,hW3,hb3⟩
 have hE3 : Ev F w F3 w3:=⟨hE2.out.only.trans hO3 fun i hi hT => by
     rcases hT with hT | hT
     · rcases hE2.out.grow i hT with h9 | h9
       · exact h9
       · omega
     · omega,fun j hj => by
     rcases hG3 j hj with h9 | h9
     · exact hE2.out.grow j h9
     · exact .inr (by omega)⟩
 have hly:=hide (hlay.out w3 F3 _ hP3 (ht.out.ev hE3) hW3.nodeM)
 obtain ⟨A3,c3,rfl⟩:=own_form hW3.rows.choose_spec.2.1
 obtain ⟨A4,c4,rfl⟩:=own_form hW3.kids
 obtain ⟨N3,hN3⟩ : ∃ N3,N3=n1.cells.length:=⟨_,rfl⟩
 obtain ⟨K3,hK3⟩ : ∃ K3,K3=n1.kids.length:=⟨_,rfl⟩
 obtain ⟨lf3,hlf3⟩ : ∃ lf3,lf3=n1.leaf:=⟨_,rfl⟩
 rw [<- hN3,<- hK3,<- hlf3] at hly hb3
 have q0:=hb3.cell 0
 have q1:=hb3.cell 1
 have q2:=hb3.cell 2
 have hs3:=hE3.size
 replace hN3:=hide hN3
 replace hK3:=hide hK3
 replace hlf3:=hide hlf3
 replace hb3:=hide hb3
 replace hP3:=hide hP3
 replace hO3:=hide hO3
 replace hG3:=hide hG3
 replace hW3:=hide hW3
 replace hE3:=hide hE3
 go_wp2_with fail
 go_at_call 73
 refine hly.out.mono ?_
 rintro e w4 ⟨F4,gl,m,rfl,hP4,hE4,hgl,hnl,hpc⟩
 have hdone : Hid (LayEnd F w gp no st2 l (.returned (.tuple #[.slice (some ⟨gl,0,none⟩) m m,.int .i64 0])) w4):=hide ⟨F4,gl,m,rfl,hP4,hE3.out.trans hE4,by omega,hnl,hpc⟩
 replace hP4:=hide hP4
 replace hE4:=hide hE4
 replace hpc : Hid _:=hide hpc
 go_wp2_with fail
 go_ret2
 exact hdone.out
structure NodeU (F : Nat->Prop) (w : World) (B : Nat) (cv kv : Value) (n : NodeP) : Prop where
 rows : ∃ rows : List (List Value),rows.length=n.cells.length/\w.ownsRow B 83 4 cv n.cells.length rows.flatten/\CellsW F w rows n.cells
 kids : w.ownsRow B 3 1 kv n.kids.length (n.kids.map encI)
 rF : ∀ k,cv.ownBlock=some k->¬ F k
 kF : ∀ k,kv.ownBlock=some k->¬ F k
section
variable {F F' S : Nat->Prop} {w w' : World} {B : Nat} {cv kv : Value} {n : NodeP} {rows : List (List Value)} {cs : List CellP}
theorem NodeW.toU (h : NodeW F w B cv kv n) : NodeU F w B cv kv n:=by
 obtain ⟨rows,h1,h2,h3⟩:=h.rows
 exact ⟨⟨rows,h1,h2,h3⟩,h.kids,fun k hk hf => by have:=h.above k hf; have:=(own_lt h2 hk).1; omega,fun k hk hf => by have:=h.above k hf; have:=(own_lt h.kids hk).1; omega⟩
theorem CellV.evU {vs : List Value} {c : CellP} (h : CellV (byteOf F w) w vs c) (he : Ev F w F' w') : CellV (byteOf F' w') w' vs c :=
 h.keep fun j hj => by
   obtain ⟨h1,bs,h2⟩:=hj
   have:=he.block h1
   exact ⟨⟨he.mine h1,bs,Eq.trans this h2⟩,this⟩
theorem CellsW.ev (h : CellsW F w rows cs) (he : Ev F w F' w') : CellsW F' w' rows cs:=fun k vs c e1 e2 =>
 (h k vs c e1 e2).keep fun j hj => by
   obtain ⟨h1,bs,h2⟩:=hj
   have:=he.block h1
   exact ⟨⟨he.mine h1,bs,Eq.trans this h2⟩,this⟩
theorem NodeU.ev (h : NodeU F w B cv kv n) (he : Ev F w F' w') : NodeU F' w' B cv kv n:=by
 obtain ⟨rows,h1,h2,h3⟩:=h.rows
 exact ⟨⟨rows,h1,he.only.row h2 h.rF,h3.ev he⟩,he.only.row h.kids h.kF,fun k hk => he.new (h.rF k hk) (own_lt h2 hk).2,fun k hk => he.new (h.kF k hk) (own_lt h.kids hk).2⟩
theorem NodeU.only (h : NodeU F w B cv kv n) (hO : Only S w w') (hS : ∀ k,S k->∃ t cs,Blk w k t cs/\t ≠ 5/\t ≠ 83/\t ≠ 3) : NodeU F w' B cv kv n:=by
 obtain ⟨rows,h1,h2,h3⟩:=h.rows
 refine ⟨⟨rows,h1,hO.row h2 fun k hk hs => ?_,h3.keepW hO fun k cs hk hb => ?_⟩,hO.row h.kids fun k hk hs => ?_,h.rF,h.kF⟩
 · obtain ⟨t, cs', hb', _, ht, _⟩ := hS k hs
   exact own_blk_ne h2 hb' (Ne.symm ht) hk
 · obtain ⟨t, cs', hb', ht, _⟩ := hS k hk
   exact Blk.ne_ hb hb' (Ne.symm ht) rfl
 · obtain ⟨t, cs', hb', _, _, ht⟩ := hS k hs
   exact own_blk_ne h.kids hb' (Ne.symm ht) hk
theorem NodeU.more {B' : Nat} (h : NodeU F w B cv kv n) (hb : B'<=B) : NodeU F w B' cv kv n:=by
 obtain ⟨rows,h1,h2,h3⟩:=h.rows
 exact ⟨⟨rows,h1,own_moreB h2 hb,h3⟩,own_moreB h.kids hb,h.rF,h.kF⟩
theorem Rd.of_own_ {base : Nat} {e : TypeId} {size c m : Nat} {A : Option Addr} {xs : List Value} {G : Nat->Prop} (h : w.ownsRow base e size (.slice A m c) m xs) (hG : ∀ k,(Value.slice A m c).ownBlock=some k->k < w.heap.size->G k) : Rd G w size A m xs:=by
 refine ⟨h.1,fun hn => ?_⟩
 obtain ⟨g,cap,hv,hb,hlt⟩:=h.form hn
 have hA : A=some ⟨g,0,none⟩:=by injection hv
 subst hA
 exact ⟨_,rfl,hG g rfl hlt,h.cells (g:=g) rfl⟩
theorem own_sl {e : TypeId} {size m : Nat} {v : Value} {xs : List Value} (h : w.ownsRow B e size v m xs) : ∃ A c,v=.slice A m c/\m<=c:=by
 rcases h.2 with ⟨rfl,rfl⟩ | ⟨g,cap,cur,rfl,_,_,h3,_⟩
 · exact ⟨none,0,rfl,Nat.le_refl _⟩
 · exact ⟨_,_,rfl,h3⟩
theorem NodeU.nodeM (h : NodeU F w B cv kv n) : NodeM (Mine F w) w (.agg #[.bool n.leaf,cv,kv]) n:=by
 obtain ⟨rows,h1,h2,h3⟩:=h.rows
 have hk:=h.kids
 have hrF:=h.rF
 have hkF:=h.kF
 obtain ⟨A,c,rfl,hc⟩:=own_sl h2
 obtain ⟨A',d,rfl,hd⟩:=own_sl hk
 exact ⟨A,c,A',d,rfl,hc,hd,⟨rows,h1,Rd.of_own_ h2 fun k hk hl => ⟨hl,hrF k hk⟩,fun k vs x e1 e2 => (h3 k vs x e1 e2).mono fun j hj => hj.1⟩,Rd.of_own_ hk fun k hk hl => ⟨hl,hkF k hk⟩⟩
theorem NodeU.keysIn (h : NodeU F w B cv kv n) : KeysIn (byteOf F w) w (.agg #[.bool n.leaf,cv,kv]) n:=by
 intro l A x c B' y d hv i cl ad kA kc hi hA hcell
 injection hv with hv
 simp at hv
 obtain ⟨_,hcv,_⟩:=hv
 subst hcv
 subst hA
 obtain ⟨rows,h1,h2,h3⟩:=h.rows
 have hil : i < rows.length:=by rw [h1]; exact (List.getElem?_eq_some_iff.1 hi).1
 obtain ⟨kA',kc',vA,vc,e,q1,q2,q3,q4⟩:=h3 i rows[i] cl (List.getElem?_eq_getElem hil) hi
 rcases h2.2 with ⟨e9,_⟩ | ⟨g,cap,cur,e9,_,hh,_,_,_,htk⟩
 · cases e9
 · injection e9 with e9 e10 e11
   injection e9 with e9
   subst e9
   have hat:=flatten_at4 (h3.four h1) i 0 rows[i] (.slice kA' cl.key.length kc') (List.getElem?_eq_getElem hil) (by rw [e]; rfl)
   rw [Nat.add_zero] at hat
   have hc2:=h2.cells (g:=g) rfl (i * 4) _ hat
   have hcell2:=hc2.symm.trans hcell
   replace hcell:=hcell2
   injection hcell with hcell
   injection hcell with hcell
   subst hcell
   exact q3
end
theorem LayR.ok {st st' : PgS} {no : Nat} {n : NodeP} {l : Option (List UInt8 × Nat)} (h : LayR st no n st' l) (ho : st.ok) : st'.ok:=by
 cases h with
 | fits hc => exact ho.save hc
 | split hr hz hm hp ha hal hb => exact ((ho.save ha).alloc hal).1.save hb
theorem Rd.evB {F F' : Nat->Prop} {w w' : World} {size n : Nat} {A : Option Addr} {xs : List Value} (h : Rd (byteOf F w) w size A n xs) (he : Ev F w F' w') : Rd (byteOf F' w') w' size A n xs:=h.keep fun k hk => by
 obtain ⟨h1,bs,h2⟩:=hk
 have:=he.block h1
 exact ⟨⟨he.mine h1,bs,Eq.trans this h2⟩,this⟩
theorem Rd.mono_ {G G' : Nat->Prop} {w : World} {size n : Nat} {A : Option Addr} {xs : List Value} (h : Rd G w size A n xs) (hk : ∀ k,G k->G' k) : Rd G' w size A n xs:=h.keep fun k hG => ⟨hk k hG,rfl⟩
theorem KeysIn.ev {F F' : Nat->Prop} {w w' : World} {v : Value} {n : NodeP} (h : KeysIn (byteOf F w) w v n) (hn : NodeM (Mine F w) w v n) (he : Ev F w F' w') : KeysIn (byteOf F' w') w' v n:=by
 intro l A x c B y d hv i cl ad kA kc hi hA hcell
 obtain ⟨A5,c5,B5,d5,e5,hc5,hd5,hcs5,hks5⟩:=hn
 rw [hv] at e5
 injection e5 with e5
 simp at e5
 obtain ⟨_,⟨rfl,_,rfl⟩,_⟩:=e5
 obtain ⟨ad',kA2,vA2,kc2,vc2,eA,hh⟩:=hcs5.at_ i (List.getElem?_eq_some_iff.1 hi).1
 have hA':=hA.symm.trans eA
 injection hA' with hA'
 subst hA'
 exact (h l A x c B y d hv i cl ad kA kc hi hA ((he.cell hh.blk).symm.trans hcell)).evB he
set_option maxHeartbeats 4000000 in
theorem lay_split (w : World) (F : Nat->Prop) (gt gp k : Nat) (st : PgS) (h : PgAt w F gp st) (ht : TreeAt w F gt gp k) (ho : st.ok) (no : Nat) (n : NodeP) (v : Value) (hn : NodeM (Mine F w) w v n) (hki : KeysIn (byteOf F w) w v n)
   (hr : RightP n) (hz : 508 < sizeP n) (hm : sizeP n<=760) (hp : PartsOk n) (ha : CanSave st no (halfA n)) (hal : CanAlloc (saveS st no (halfA n))) (hb : CanSave (allocS (saveS st no (halfA n))) (allocN (saveS st no (halfA n))) (halfB n)) :
   Calls Tryz.prog 73 #[.pointer (some ⟨gt,0,none⟩),.int .i64 (no : Int),v] w (LayEnd F w gp no (saveS (allocS (saveS st no (halfA n))) (allocN (saveS st no (halfA n))) (halfB n)) (some (halfK n,allocN (saveS st no (halfA n))))):=by
 obtain ⟨A,c,B,d,rfl⟩:=hn.box
 obtain ⟨lf,hlf⟩ : ∃ lf,lf=n.leaf:=⟨_,rfl⟩
 obtain ⟨M,hM⟩ : ∃ M,M=n.cells.length:=⟨_,rfl⟩
 obtain ⟨K,hK⟩ : ∃ K,K=n.kids.length:=⟨_,rfl⟩
 rw [<- hlf,<- hM,<- hK] at hn hki ⊢
 have hE0 : Ev F w F (w.alloc (.cells #[.bool lf,.slice A M c,.slice B K d] 89)):=(Ev.refl F w).alloc_ _
 have hb0:=Blk.new w 89 #[.bool lf,.slice A M c,.slice B K d]
 have hFw:=h.lt
 have hnF : ¬ F w.heap.size:=fun hf => by have:=hFw _ hf; omega
 have hgt:=Blk.lt ht.blk
 have hn1:=hn.ev hE0
 have hki1:=hki.ev hn hE0
 have hsz:=hide (size_any _ _ n (hn1.old fun k hk => hk.1) hr (by omega))
 obtain ⟨Z,hZ⟩ : ∃ Z,Z=sizeP n:=⟨_,rfl⟩
 rw [<- hZ] at hsz hz
 have hZI : decide ((Z : Int)<=508)=false:=decide_eq_false (by omega)
 have hZN : decide (Z<=508)=false:=decide_eq_false (by omega)
 obtain ⟨kno,hkno⟩ : ∃ kno,kno=allocN (saveS st no (halfA n)):=⟨_,rfl⟩
 obtain ⟨st1,hst1⟩ : ∃ st1,st1=saveS st no (halfA n):=⟨_,rfl⟩
 obtain ⟨st2,hst2⟩ : ∃ st2,st2=saveS (allocS st1) kno (halfB n):=⟨_,rfl⟩
 have ho1 : st1.ok:=by rw [hst1]; exact ho.save ha
 rw [<- hkno,<- hst1] at hb ⊢
 rw [<- hst1] at hal
 rw [<- hst2]
 have hknoA : kno=allocN st1:=by rw [hst1]; exact hkno
 replace h:=hide h
 replace ht:=hide ht
 replace hn:=hide hn
 replace hki : Hid _:=hide hki
 replace hki1 : Hid _:=hide hki1
 replace hlf:=hide hlf
 replace hM:=hide hM
 replace hK:=hide hK
 replace hZ:=hide hZ
 replace hE0:=hide hE0
 replace ha:=hide ha
 replace hb:=hide hb
 replace hal:=hide hal
 replace hb0:=hide hb0
 replace hn1:=hide hn1
 replace hFw:=hide hFw
 replace hr:=hide hr
 replace hp:=hide hp
 replace hm:=hide hm
 replace hkno:=hide hkno
 replace hknoA:=hide hknoA
 replace hst1:=hide hst1
 replace hst2:=hide hst2
 replace ho:=hide ho
 replace ho1:=hide ho1
 have c0:=hb0.out.cell 0
 have c1:=hb0.out.cell 1
 have c2:=hb0.out.cell 2
 go_enter Tryz.func73,Tryz.ntmps73
 go_wp2_with (first | (go_at_call 50; refine hsz.out.mono ?_; rintro e w2 ⟨rfl,hB2⟩; have hb2:=hb0.out.below hB2 (Blk.lt hb0.out); have d0:=hb2.cell 0; have d1:=hb2.cell 1; have d2:=hb2.cell 2; replace hB2:=hide hB2; replace hb2:=hide hb2))
 have hE2 : Ev F w F w2:=hE0.out.below hB2.out
 have hn2:=hn1.out.ev (Ev.of_below hB2.out)
 have hki2:=hki1.out.ev hn1.out (Ev.of_below hB2.out)
 have hhv:=hide (halves_any w2 (Mine F w2) (byteOf F w2) _ n hn2 (fun k hk => hk.1) (fun k hk => hk.1.1) hki2 hr.out (by have:=hm.out; omega) hp.out.1)
 replace hE2:=hide hE2
 replace hn2:=hide hn2
 replace hki2 : Hid _:=hide hki2
 go_at_call 120
 refine hhv.out.mono ?_
 rintro e w3 ⟨vA,vB,kA,kc,rfl,hA,hB,hkey,hkc,hB3⟩
 have hE3 : Ev F w F w3:=hE2.out.below hB3
 have hA3 : NodeM (Mine F w3) w3 vA (halfA n):=hA.mono fun k hk => ⟨Nat.lt_of_lt_of_le hk.1 hB3.size,hk.2⟩
 have hB3n : NodeM (Mine F w3) w3 vB (halfB n):=hB.mono fun k hk => ⟨Nat.lt_of_lt_of_le hk.1 hB3.size,hk.2⟩
 have hkey3 : Rd (byteOf F w3) w3 1 kA (halfK n).length (bv (halfK n)):=hkey.mono_ fun k hk => by
   obtain ⟨⟨h1,h2⟩,bs,h3⟩:=hk
   have h4:=h3.below hB3 h1
   exact ⟨⟨h4.lt,h2⟩,bs,h4⟩
 obtain ⟨UL,hUL⟩ : ∃ UL,UL=(halfK n).length:=⟨_,rfl⟩
 obtain ⟨A1,x1,B1,y1,rfl⟩:=hA3.box
 obtain ⟨A2,x2,B2,y2,rfl⟩:=hB3n.box
 obtain ⟨la,hla⟩ : ∃ b,b=(halfA n).leaf:=⟨_,rfl⟩
 obtain ⟨lb,hlb⟩ : ∃ b,b=(halfB n).leaf:=⟨_,rfl⟩
 obtain ⟨ca,hca⟩ : ∃ b,b=(halfA n).cells.length:=⟨_,rfl⟩
 obtain ⟨cb,hcb⟩ : ∃ b,b=(halfB n).cells.length:=⟨_,rfl⟩
 obtain ⟨ka,hka⟩ : ∃ b,b=(halfA n).kids.length:=⟨_,rfl⟩
 obtain ⟨kb,hkb⟩ : ∃ b,b=(halfB n).kids.length:=⟨_,rfl⟩
 rw [<- hla,<- hca,<- hka] at hA3 ⊢
 rw [<- hlb,<- hcb,<- hkb] at hB3n ⊢
 rw [<- hUL] at hkey3 hkc ⊢
 obtain ⟨W4,hW4⟩ : ∃ W4,W4=(w3.alloc (.cells #[.bool la,.slice A1 ca x1,.slice B1 ka y1] 89)).alloc (.cells #[.bool lb,.slice A2 cb x2,.slice B2 kb y2] 89):=⟨_,rfl⟩
 have hE34 : Ev F w3 F W4:=by rw [hW4]; exact ((Ev.refl F w3).alloc_ _).alloc_ _
 have hE4 : Ev F w F W4:=hE3.trans hE34
 have hba : Blk W4 w3.heap.size 89 #[.bool la,.slice A1 ca x1,.slice B1 ka y1]:=by rw [hW4]; exact (Blk.new w3 89 _).alloc _
 have hbb : Blk W4 (w3.heap.size + 1) 89 #[.bool lb,.slice A2 cb x2,.slice B2 kb y2]:=by
   rw [hW4]
   have q:=Blk.new (w3.alloc (.cells #[.bool la,.slice A1 ca x1,.slice B1 ka y1] 89)) 89 #[.bool lb,.slice A2 cb x2,.slice B2 kb y2]
   rw [World.size_alloc] at q; exact q
 have hP4 : PgAt W4 F gp st:=by
   rw [hW4]; exact ((((h.out.alloc _).below hB2.out).below hB3).alloc _).alloc _
 have hsv:=hide (save_any W4 F gt gp k st hP4 (ht.out.ev hE4) no (halfA n) (.agg #[.bool la,.slice A1 ca x1,.slice B1 ka y1]) (hA3.ev hE34) ha.out)
 rw [<- hst1.out] at hsv
 have hs3 : w.heap.size<=w3.heap.size:=hE3.size
 have hnb : ¬ F (w3.heap.size + 1):=fun hf => by have:=hFw.out _ hf; omega
 have e0:=hba.cell 0
 have e1:=hba.cell 1
 have e2:=hba.cell 2
 replace hW4:=hide hW4
 replace hE34:=hide hE34
 replace hE4:=hide hE4
 replace hE3:=hide hE3
 replace hba:=hide hba
 replace hbb:=hide hbb
 replace hP4:=hide hP4
 replace hA:=hide hA
 replace hB:=hide hB
 replace hA3:=hide hA3
 replace hB3n:=hide hB3n
 replace hkey:=hide hkey
 replace hkey3:=hide hkey3
 replace hB3:=hide hB3
 replace hUL:=hide hUL
 replace hla:=hide hla
 replace hlb:=hide hlb
 replace hca:=hide hca
 replace hcb:=hide hcb
 replace hka:=hide hka
 replace hkb:=hide hkb
 go_upto_region 4 with (fail)
 rw [<- hW4.out]
 go_wp2_with fail
 go_at_call 71
 refine hsv.out.mono ?_
 rintro e w5 ⟨rfl,F5,hP5,hE5⟩
 have hbb5:=hE5.blk hbb.out hnb
 have g0:=hbb5.cell 0
 have g1:=hbb5.cell 1
 have g2:=hbb5.cell 2
 have hmk:=hide (make_any w5 F5 gt gp k st1 hP5 (ht.out.ev (hE4.out.trans hE5)) (halfB n) (.agg #[.bool lb,.slice A2 cb x2,.slice B2 kb y2]) ((hB3n.out.ev hE34.out).ev hE5) hal.out ho1.out.free (by rw [<- hknoA.out]; exact hb.out))
 rw [<- hknoA.out,<- hst2.out] at hmk
 replace hbb5:=hide hbb5
 replace hP5:=hide hP5
 replace hE5:=hide hE5
 clear hsv hhv hsz
 go_wp2_with fail
 go_at_call 36
 refine hmk.out.mono ?_
 rintro e w6 ⟨rfl,F6,hP6,hE6⟩
 have hE16 : Ev F w F6 w6:=hE4.out.trans (hE5.out.trans hE6)
 have hbg:=Blk.new w6 131 #[.slice none 0 0,.int .i64 (no : Int),.slice kA UL kc,.int .i64 (kno : Int)]
 have hdone : Hid (LayEnd F w gp no st2 (some (halfK n,kno)) (.returned (.tuple #[.slice (some ⟨w6.heap.size,0,none⟩) 2 2,.int .i64 0])) (w6.alloc (.cells #[.slice none 0 0,.int .i64 (no : Int),.slice kA UL kc,.int .i64 (kno : Int)] 131))):=hide (by
   have hk6 : Rd (byteOf F6 w6) w6 1 kA UL (bv (halfK n)):=((hkey3.out.evB hE34.out).evB hE5.out).evB hE6
   have hnF6 : ¬ F6 w6.heap.size:=fun hf => by have:=hP6.lt _ hf; omega
   refine ⟨F6,w6.heap.size,2,rfl,hP6.alloc _,hE16.alloc_ _,hE16.size,hnF6,rfl,kA,kc,?_,?_,?_⟩
   · rw [<- hUL.out]; exact hbg
   · rw [<- hUL.out]; exact hk6.evB ((Ev.refl F6 w6).alloc_ _)
   · rw [<- hUL.out]; exact hkc)
 replace hP6:=hide hP6
 replace hE6:=hide hE6
 replace hE16:=hide hE16
 replace hbg:=hide hbg
 clear hmk
 go_wp2_with fail
 go_ret2
 exact hdone.out
theorem lay_any (w : World) (F : Nat->Prop) (gt gp k : Nat) (st st' : PgS) (h : PgAt w F gp st) (ht : TreeAt w F gt gp k) (ho : st.ok) (no : Nat) (n : NodeP) (l : Option (List UInt8 × Nat)) (v : Value) (hn : NodeM (Mine F w) w v n) (hki : KeysIn (byteOf F w) w v n) (hl : LayR st no n st' l) :
   Calls Tryz.prog 73 #[.pointer (some ⟨gt,0,none⟩),.int .i64 (no : Int),v] w (LayEnd F w gp no st' l):=by
 cases hl with
 | fits hc => exact lay_fits w F gt gp k st h ht no n v hn hc
 | split hr hz hm hp ha hal hb => exact lay_split w F gt gp k st h ht ho no n v hn hki hr hz hm hp ha hal hb
def JoinRet (F : Nat->Prop) (w : World) (n : NodeP) (e : Ending) (w' : World) : Prop :=
 ∃ cv kv,e=.returned (.agg #[.bool n.leaf,cv,kv])/\NodeU F w' w.heap.size cv kv n/\Below w.heap.size w w'
structure JnS (F : Nat->Prop) (w : World) (lf lb : Bool) (cvb kvb : Value) (gn : Nat) (cs : List CellP) (ks : List Nat) (cv kv : Value) (wx : World) : Prop where
 bel : Below w.heap.size w wx
 bb : Blk wx (w.heap.size + 1) 89 #[.bool lb,cvb,kvb]
 br : Blk wx (w.heap.size + 1 + 1) 89 #[.bool false,.slice none 0 0,.slice none 0 0]
 nd : Blk wx gn 89 #[.bool lf,cv,kv]
 glt : w.heap.size + 2 < gn
 rows : ∃ rows : List (List Value),rows.length=cs.length/\wx.ownsRow w.heap.size 83 4 cv cs.length rows.flatten/\CellsW F wx rows cs
 kids : wx.ownsRow w.heap.size 3 1 kv ks.length (ks.map encI)
theorem JnS.turn {F : Nat->Prop} {w wx W : World} {lf lb : Bool} {cvb kvb cv kv cv2 kv2 : Value} {gn : Nat} {cs cs2 : List CellP} {ks ks2 : List Nat} (h : JnS F w lf lb cvb kvb gn cs ks cv kv wx) (hO : Only (fun k => cv.ownBlock=some k \/ k=gn) wx W)
   (hn : Blk W gn 89 #[.bool lf,cv2,kv2]) (hr : ∃ rows : List (List Value),rows.length=cs2.length/\W.ownsRow w.heap.size 83 4 cv2 cs2.length rows.flatten/\CellsW F wx rows cs2) (hk : W.ownsRow w.heap.size 3 1 kv2 ks2.length (ks2.map encI)) :
   JnS F w lf lb cvb kvb gn cs2 ks2 cv2 kv2 W:=by
 obtain ⟨rows,h1,h2,h3⟩:=h.rows
 obtain ⟨rows2,g1,g2,g3⟩:=hr
 have hgl:=h.glt
 have hS : ∀ k,(cv.ownBlock=some k \/ k=gn)->w.heap.size<=k:=fun k hk => hk.elim (fun e => (own_lt h2 e).1) (fun e => by omega)
 have hne : ∀ g cs,Blk wx g 89 cs->g ≠ gn->¬ (cv.ownBlock=some g \/ g=gn):=fun g cs hb hg hs => hs.elim (fun e => own_not_blk h2 hb (by decide) g e rfl) hg
 exact ⟨h.bel.trans (hO.below hS h.bel.size),hO.blk h.bb (hne _ _ h.bb (by omega)),hO.blk h.br (hne _ _ h.br (by omega)),hn,hgl,⟨rows2,g1,g2,g3.keepW hO fun k cs hk hb => hk.elim (fun e => own_blk_ne h2 hb (by decide) e) (fun e => by subst e; exact Blk.ne_ hb h.nd (by decide) rfl)⟩,hk⟩
theorem encI_one (l : List Nat) : ∀ u ∈ l.map encI,u.oneCell'=true:=by
 intro u hu
 obtain ⟨x,_,rfl⟩:=List.mem_map.1 hu
 rfl
set_option maxHeartbeats 4000000 in
theorem join_any (w : World) (F : Nat->Prop) (hF : ∀ k,F k->k < w.heap.size) (na nb : NodeP) (B1 B2 : Nat) (cva kva cvb kvb : Value) (ha : NodeU F w B1 cva kva na) (hb : NodeU F w B2 cvb kvb nb) (hla : na.cells.length<=40000) (hlb : nb.cells.length<=40000) (hka : na.kids.length<=40001) (hkb : nb.kids.length<=40001)
   (kA : Option Addr) (kc : Nat) (key : List UInt8) (hk : Rd (byteOf F w) w 1 kA key.length (bv key)) (hkc : key.length<=kc) :
   Calls Tryz.prog 123 #[.agg #[.bool na.leaf,cva,kva],.slice kA key.length kc,.agg #[.bool nb.leaf,cvb,kvb]] w (JoinRet F w (joinP na key nb)):=by
 obtain ⟨rowsA,hra,hoa,hca⟩:=ha.rows
 obtain ⟨rowsB,hrb,hob,hcb⟩:=hb.rows
 have h1A:=hca.one hra
 have h1B:=hcb.one hrb
 have hka2:=ha.kids
 have hkb2:=hb.kids
 obtain ⟨A,c,rfl,hc⟩:=own_sl hoa
 obtain ⟨A',d,rfl,hd⟩:=own_sl hka2
 obtain ⟨B,x,rfl,hx⟩:=own_sl hob
 obtain ⟨B',y,rfl,hy⟩:=own_sl hkb2
 have hrA:=Reads.of_own hoa
 have hrB:=Reads.of_own hob
 have hrA':=Reads.of_own hka2
 have hrB':=Reads.of_own hkb2
 obtain ⟨lf,hlf⟩ : ∃ lf,lf=na.leaf:=⟨_,rfl⟩
 obtain ⟨lb,hlb'⟩ : ∃ lb,lb=nb.leaf:=⟨_,rfl⟩
 obtain ⟨M,hM⟩ : ∃ M,M=na.cells.length:=⟨_,rfl⟩
 obtain ⟨N,hN⟩ : ∃ N,N=nb.cells.length:=⟨_,rfl⟩
 obtain ⟨K,hK⟩ : ∃ K,K=na.kids.length:=⟨_,rfl⟩
 obtain ⟨L,hL⟩ : ∃ L,L=nb.kids.length:=⟨_,rfl⟩
 obtain ⟨U,hU⟩ : ∃ U,U=key.length:=⟨_,rfl⟩
 rw [<- hlf,<- hlb',<- hM,<- hN,<- hK,<- hL,<- hU]
 rw [<- hM] at hrA hla
 rw [<- hN] at hrB hlb
 rw [<- hK] at hrA' hka
 rw [<- hL] at hrB' hkb
 obtain ⟨W1,hW1⟩ : ∃ W1,W1=((w.alloc (.cells #[.bool lf,.slice A M c,.slice A' K d] 89)).alloc (.cells #[.bool lb,.slice B N x,.slice B' L y] 89)).alloc (.cells #[.bool false,.slice none 0 0,.slice none 0 0] 89):=⟨_,rfl⟩
 have hB1 : Below w.heap.size w W1:=by rw [hW1]; exact (((Below.refl w.heap.size w).alloc (Nat.le_refl _) _).alloc (by simp) _).alloc (by simp <;> omega) _
 have hz1 : W1.heap.size=w.heap.size + 3:=by rw [hW1]; simp
 have ba : Blk W1 w.heap.size 89 #[.bool lf,.slice A M c,.slice A' K d]:=by rw [hW1]; exact ((Blk.new w 89 _).alloc _).alloc _
 have bb : Blk W1 (w.heap.size + 1) 89 #[.bool lb,.slice B N x,.slice B' L y]:=by
   rw [hW1]
   have q:=Blk.new (w.alloc (.cells #[.bool lf,.slice A M c,.slice A' K d] 89)) 89 #[.bool lb,.slice B N x,.slice B' L y]
   rw [World.size_alloc] at q; exact q.alloc _
 have br : Blk W1 (w.heap.size + 1 + 1) 89 #[.bool false,.slice none 0 0,.slice none 0 0]:=by
   rw [hW1]
   have q:=Blk.new ((w.alloc (.cells #[.bool lf,.slice A M c,.slice A' K d] 89)).alloc (.cells #[.bool lb,.slice B N x,.slice B' L y] 89)) 89 #[.bool false,.slice none 0 0,.slice none 0 0]
   rw [World.size_alloc,World.size_alloc] at q; exact q
 have a0:=ba.cell 0
 have a1:=ba.cell 1
 have a2:=ba.cell 2
 have hcl : Hid (∀ wz,Below W1.heap.size W1 wz->Calls Tryz.prog 124 #[.slice A M c] wz (RowRet wz wz.heap.size 83 4 M rowsA.flatten)):=hide fun wz hz => cloneC_any wz A M c rowsA.flatten ((hrA.below (hB1.trans (hz.mono hB1.size))).more (Nat.le_trans hB1.size hz.size)) h1A (by omega)
 have hkp : Hid (∀ wz,Below W1.heap.size W1 wz->(wz.cell? ⟨w.heap.size,0,none⟩=some (.bool lf)/\wz.cell? ⟨w.heap.size,1,none⟩=some (.slice A M c))):=hide fun wz hz => ⟨(hz.cell (p:=⟨w.heap.size,0,none⟩) ba.lt).trans a0,(hz.cell (p:=⟨w.heap.size,1,none⟩) ba.lt).trans a1⟩
 have hmk : Hid (∀ wx gn A9 c9,Below W1.heap.size W1 wx->Blk wx gn 89 #[.bool lf,.slice A9 M c9,.slice none 0 0]->W1.heap.size<=gn->wx.ownsRow w.heap.size 83 4 (.slice A9 M c9) M rowsA.flatten ->
     JnS F w lf lb (.slice B N x) (.slice B' L y) gn na.cells [] (.slice A9 M c9) (.slice none 0 0) wx/\Blk wx w.heap.size 89 #[.bool lf,.slice A M c,.slice A' K d]):=hide (by
   intro wx gn A9 c9 hB hn hg ho
   have hBw : Below w.heap.size w wx:=hB1.trans (hB.mono hB1.size)
   refine ⟨⟨hBw,bb.below hB bb.lt,br.below hB br.lt,hn,by omega,⟨rowsA,hra,by rw [<- hM]; exact ho,hca.ev (Ev.of_below hBw)⟩,⟨rfl,.inl ⟨rfl,rfl⟩⟩⟩,ba.below hB ba.lt⟩)
 replace ha:=hide ha
 replace hb:=hide hb
 replace hk:=hide hk
 replace hlf:=hide hlf
 replace hlb':=hide hlb'
 replace hM:=hide hM
 replace hN:=hide hN
 replace hK:=hide hK
 replace hL:=hide hL
 replace hU:=hide hU
 replace hW1:=hide hW1
 replace hB1:=hide hB1
 replace hz1:=hide hz1
 replace ba:=hide ba
 replace bb:=hide bb
 replace br:=hide br
 replace hra:=hide hra
 replace hrb:=hide hrb
 replace hoa:=hide hoa
 replace hob:=hide hob
 replace hca:=hide hca
 replace hcb:=hide hcb
 replace h1A : Hid _:=hide h1A
 replace h1B : Hid _:=hide h1B
 replace hka2:=hide hka2
 replace hkb2:=hide hkb2
 replace hrA:=hide hrA
 replace hrB:=hide hrB
 replace hrA':=hide hrA'
 replace hrB':=hide hrB'
 replace hF : Hid _:=hide hF
 go_enter Tryz.func123,Tryz.ntmps123
 go_upto_region 1 with (fail)
 rw [<- hW1.out]
 go_cut [7] (fun v7 wx => ∃ (gn : Nat) (A9 : Option Addr) (c9 : Nat),v7=.pointer (some ⟨gn,0,none⟩)/\Hid (JnS F w lf lb (.slice B N x) (.slice B' L y) gn na.cells [] (.slice A9 M c9) (.slice none 0 0) wx/\Blk wx w.heap.size 89 #[.bool lf,.slice A M c,.slice A' K d]))
 case first =>
   go_region_held3 (fun w' => w'.cell? ⟨w.heap.size,0,none⟩=some (.bool lf)/\w'.cell? ⟨w.heap.size,1,none⟩=some (.slice A M c)) (first | exact ⟨a0,a1⟩ | (with_reducible exact hkp.out _ hbA.out) | (with_reducible exact hkp.out _ (hbA.out.alloc hbA.out.size _)) | (exact hkp.out _ (bel_s3 hbA.out (Nat.le_refl _) _ _ _)) | go_keep) (first
     | (go_at_call 124; (with_reducible refine (hcl.out _ (by first | (with_reducible exact (Below.refl _ W1).drew) | (with_reducible exact (Below.refl _ W1).alloc (Nat.le_refl _) _) | (with_reducible exact ((Below.refl _ W1).alloc (Nat.le_refl _) _).drew) | (with_reducible exact Below.refl _ W1))).mono ?_); rintro e w3 ⟨v3,rfl,hO3,hB3⟩; have hbA : Hid (Below W1.heap.size W1 w3):=hide (Below.trans (by first | (with_reducible exact (Below.refl _ W1).drew) | (with_reducible exact (Below.refl _ W1).alloc (Nat.le_refl _) _) | (with_reducible exact ((Below.refl _ W1).alloc (Nat.le_refl _) _).drew) | (with_reducible exact Below.refl _ W1)) (hB3.mono (Below.size (B:=W1.heap.size) (by first | (with_reducible exact (Below.refl _ W1).drew) | (with_reducible exact (Below.refl _ W1).alloc (Nat.le_refl _) _) | (with_reducible exact ((Below.refl _ W1).alloc (Nat.le_refl _) _).drew) | (with_reducible exact Below.refl _ W1))))); (try (have hq : Blk w3 W1.heap.size 89 #[.bool false,.slice none 0 0,.slice none 0 0]:=(by first | exact Blk.below (Blk.new W1 89 #[.bool false,.slice none 0 0,.slice none 0 0]) hB3 (by simp) | exact Blk.below (Blk.new W1 89 #[.bool false,.slice none 0 0,.slice none 0 0]).drew hB3 (by simp)); have q0:=hq.cell 0; have q1:=hq.cell 1; have q2:=hq.cell 2; have r0:=hq.frozen 0; have r1:=hq.frozen 1; have r2:=hq.frozen 2; replace hq:=hide hq)); (obtain ⟨A9,c9,rfl,hc9⟩:=own_sl hO3); replace hO3:=hide hO3; replace hB3:=hide hB3))
   all_goals go_wp2_with fail
   all_goals go_meet
   · refine ⟨_,A9,c9,rfl,hide (hmk.out _ _ A9 c9 (hbA.out.alloc hbA.out.size _) (Blk.new _ _ _) hbA.out.size (World.ownsRow.alloc (own_moreB hO3.out (by first | exact hB1.out.size | (have:=hB1.out.size; simp <;> omega))) _))⟩
   · have hq2 := hq.out
     refine ⟨_,A9,c9,rfl,hide (hmk.out _ _ A9 c9 (bel_s3 hbA.out (Nat.le_refl _) _ _ _) (Node3.own ⟨_,_,_,hq2⟩ _ _ _) (Nat.le_refl _) ((only_s3 (Only.refl (fun k => k=W1.heap.size) w3) rfl _ _ _).row (own_moreB hO3.out (by first | exact hB1.out.size | (have:=hB1.out.size; simp <;> omega))) (own_not_blk hO3.out hq2 (by decide))))⟩
 case rest =>
   obtain ⟨gn,A9,c9,rfl,hJ0⟩:=hcut
   obtain ⟨hJ,hba⟩:=hJ0.out
   clear hJ0 a0 a1 a2 hkp hcl hmk
   have a0:=hba.cell 0
   have a2:=hba.cell 2
   have n0:=hJ.nd.cell 0
   have n1:=hJ.nd.cell 1
   have n2:=hJ.nd.cell 2
   have f1:=hJ.nd.frozen 1
   have f2:=hJ.nd.frozen 2
   have b1:=hJ.bb.cell 1
   have b2:=hJ.bb.cell 2
   replace hba:=hide hba
   replace hJ:=hide hJ
   go_upto_if 16 with (fail)
   go_cut [] (fun wx => ∃ (A8 B8 : Option Addr) (m8 k8 c8 d8 : Nat),Hid (m8=(joinP na key nb).cells.length - N/\k8=(joinP na key nb).kids.length/\JnS F w lf lb (.slice B N x) (.slice B' L y) gn (na.cells ++ if lf=true then [] else [⟨key,[],0,0⟩]) (if lf=true then [] else na.kids ++ nb.kids) (.slice A8 m8 c8) (.slice B8 k8 d8) wx))
   case first =>
     cases lf with
     | true =>
       have hrel : Hid (M=(joinP na key nb).cells.length - N/\0=(joinP na key nb).kids.length/\JnS F w true lb (.slice B N x) (.slice B' L y) gn (na.cells ++ if true=true then [] else [⟨key,[],0,0⟩]) (if true=true then [] else na.kids ++ nb.kids) (.slice A9 M c9) (.slice none 0 0) wc):=hide (by
         refine ⟨?_,?_,?_⟩
         · unfold joinP; simp [<- hlf.out]; rw [hM.out,hN.out]; omega
         · unfold joinP; simp [<- hlf.out]
         · simpa using hJ.out)
       go_wp2_with fail
       go_meet
       case rel => exact ⟨A9,none,M,0,c9,0,hrel⟩
     | false =>
       obtain ⟨rows,hr1,hr2,hr3⟩:=hJ.out.rows
       rw [<- hM.out] at hr2
       have hg1 : Blk (wc.alloc (.cells #[.slice kA U kc,.slice none 0 0,.int .i64 0,.int .i64 0] 83)) wc.heap.size 83 #[.slice kA U kc,.slice none 0 0,.int .i64 0,.int .i64 0]:=Blk.new _ _ _
       obtain ⟨v8,w8,hrun,hO8,hg8,hv8⟩:=run_app_cell (wc.alloc (.cells #[.slice kA U kc,.slice none 0 0,.int .i64 0,.int .i64 0] 83)) w.heap.size (.slice A9 M c9) M rows.flatten (World.ownsRow.alloc hr2 _) wc.heap.size (.slice kA U kc) (.slice none 0 0) (.int .i64 0) (.int .i64 0) (by intro u hu; simp at hu; rcases hu with rfl | rfl | rfl <;> rfl) hg1 87 (by omega) (Nat.le_trans hJ.out.bel.size (by simp))
       have hO18 : Only (fun k => (Value.slice A9 M c9).ownBlock=some k \/ k=gn) wc w8:=(((Only.refl _ wc).alloc _).grown hg8 (fun k hk _ => .inl hk))
       have hnd8 : Blk w8 gn 89 #[.bool false,.slice A9 M c9,.slice none 0 0]:=(hJ.out.nd.alloc _).grown hg8 (fun e => own_not_blk hr2 hJ.out.nd (by decide) gn e.symm rfl)
       have hJ2 : JnS F w false lb (.slice B N x) (.slice B' L y) gn (na.cells ++ [⟨key,[],0,0⟩]) [] v8 (.slice none 0 0) (w8.setCell ⟨gn,1,none⟩ v8):=by
         refine hJ.out.turn (hO18.setCell (p:=⟨gn,1,none⟩) (fun _ => .inr rfl) v8) (hnd8.set_ 1 v8) ⟨rows ++ [[.slice kA U kc,.slice none 0 0,.int .i64 0,.int .i64 0]],by simp [hr1],?_,?_⟩ ⟨rfl,.inl ⟨rfl,rfl⟩⟩
         · have h9 := ((Only.refl (fun k => k = gn) w8).setCell (p := ⟨gn, 1, none⟩) (fun _ => rfl) v8).row hO8 (own_not_blk hO8 hnd8 (by decide))
           rw [List.length_append,<- hM.out]
           simpa using h9
         · intro q vs cl e1 e2
           rcases Nat.lt_trichotomy q rows.length with hq | hq | hq
           · rw [List.getElem?_append_left hq] at e1
             rw [List.getElem?_append_left (by omega)] at e2
             exact hr3 q vs cl e1 e2
           · subst hq
             rw [List.getElem?_append_right (Nat.le_refl _)] at e1
             rw [hr1,List.getElem?_append_right (Nat.le_refl _)] at e2
             simp at e1 e2
             subst e1; subst e2
             refine ⟨kA,kc,none,0,by rw [hU.out]; rfl,hkc,Nat.le_refl _,?_,Rd.none_⟩
             exact (hk.out.evB (Ev.of_below hJ.out.bel))
           · rw [List.getElem?_append_right (by omega)] at e1
             have : q - rows.length=(q - rows.length - 1) + 1:=by omega
             rw [this] at e1
             simp at e1
       obtain ⟨A7,c7,rfl⟩:=own_form hO8
       have hx0:=hba.out.cell 2
       have hba8 : Blk (w8.setCell ⟨gn,1,none⟩ (.slice A7 (M + 1) c7)) w.heap.size 89 #[.bool false,.slice A M c,.slice A' K d]:=(hO18.setCell (p:=⟨gn,1,none⟩) (fun _ => .inr rfl) _).blk hba.out (fun hs => hs.elim (fun e => own_not_blk hr2 hba.out (by decide) _ e rfl) (fun e => by have:=hJ.out.glt; omega))
       have m1:=hnd8.cell 1
       have g1:=hnd8.frozen 1
       replace hO8:=hide hO8
       replace hg8:=hide hg8
       replace hv8:=hide hv8
       replace hO18:=hide hO18
       replace hnd8:=hide hnd8
       replace hr1:=hide hr1
       replace hr2:=hide hr2
       replace hr3:=hide hr3
       replace hg1:=hide hg1
       replace hJ2:=hide hJ2
       replace hba8:=hide hba8
       clear hx0
       go_upto_region 3 with (fail)
       go_wp2_with (at_builtin; refine Lib.wpList_append_run _ rfl (.tmp 18) (.tmp 21) 87 87 rfl _ _ rfl rfl _ _ hrun ?_)
       obtain ⟨w9,hw9⟩ : ∃ w9,w9=w8.setCell ⟨gn,1,none⟩ (.slice A7 (M + 1) c7):=⟨_,rfl⟩
       rw [<- hw9] at hJ2 hba8 ⊢
       have hbel9:=hJ2.out.bel
       have t0:=hba8.out.cell 2
       have t1:=hJ2.out.bb.cell 2
       have t2:=hJ2.out.nd.cell 2
       have t3:=hJ2.out.nd.frozen 2
       have hci : Hid (∀ wz,Below w9.heap.size w9 wz->Calls Tryz.prog 126 #[.slice A' K d] wz (RowRet wz wz.heap.size 3 1 K (na.kids.map encI))):=hide fun wz hz => cloneI_any wz A' K d (na.kids.map encI) ((hrA'.out.below (hbel9.trans (hz.mono hbel9.size))).more (Nat.le_trans hbel9.size hz.size)) (encI_one _) (by omega)
       have hfin : Hid (∀ w10 w11 c10 A10 v11 B0,Below w9.heap.size w9 w10->w10.ownsRow B0 3 1 (.slice A10 K c10) K (na.kids.map encI)->w9.heap.size<=B0->w10.grownBy w11 (Value.slice A10 K c10).ownBlock->w11.ownsRow w.heap.size 3 1 v11 (K + L) (na.kids.map encI ++ nb.kids.map encI) ->
           Blk w11 gn 89 #[.bool false,.slice A7 (M + 1) c7,.slice none 0 0]/\JnS F w false lb (.slice B N x) (.slice B' L y) gn (na.cells ++ [⟨key,[],0,0⟩]) (na.kids ++ nb.kids) (.slice A7 (M + 1) c7) v11 (w11.setCell ⟨gn,2,none⟩ v11)):=hide (by
         intro w10 w11 c10 A10 v11 B0 hB10 hO10 hB0 hg11 hO11
         have hO9 : Only (fun k => (Value.slice A7 (M + 1) c7).ownBlock=some k \/ k=gn) w9 w11:=(Only.of_below hB10).grown hg11 fun k hk hlt => by have:=(own_lt hO10 hk).1; omega
         have hn10:=hJ2.out.nd.below hB10 hJ2.out.nd.lt
         have hn11 : Blk w11 gn 89 #[.bool false,.slice A7 (M + 1) c7,.slice none 0 0]:=hn10.grown hg11 fun e => own_not_blk hO10 hn10 (by decide) gn e.symm rfl
         obtain ⟨rows,q1,q2,q3⟩:=hJ2.out.rows
         have hOa : Only (fun k => k=gn) w9 w11:=(Only.of_below hB10).grown hg11 fun k hk hlt => by have:=(own_lt hO10 hk).1; omega
         have hO9' : Only (fun k => k=gn) w9 (w11.setCell ⟨gn,2,none⟩ v11):=hOa.setCell (p:=⟨gn,2,none⟩) (fun _ => rfl) v11
         refine ⟨hn11,hJ2.out.turn (hO9'.mono fun k _ e => .inr e) (hn11.set_ 2 v11) ⟨rows,q1,hO9'.row q2 (own_not_blk q2 hJ2.out.nd (by decide)),q3⟩ ?_⟩
         have h9:=((Only.refl (fun k => k=gn) w11).setCell (p:=⟨gn,2,none⟩) (fun _ => rfl) v11).row hO11 (own_not_blk hO11 hn11 (by decide))
         rw [List.map_append,List.length_append,<- hK.out,<- hL.out]
         exact h9)
       have hrB9 : Hid (∀ w10,Below w9.heap.size w9 w10->Reads w10 w10.heap.size 1 B' L (nb.kids.map encI)):=hide fun w10 hz => (hrB'.out.below (hbel9.trans (hz.mono hbel9.size))).more (Nat.le_trans hbel9.size hz.size)
       have hs9 : Hid (w.heap.size<=w9.heap.size):=hide hbel9.size
       have e1I:=encI_one nb.kids
       replace e1I : Hid _:=hide e1I
       replace hbel9:=hide hbel9
       replace hw9:=hide hw9
       clear a2 n0 n1 n2 f1 f2 b1 b2 m1 g1 hrun
       have hkp9 : Hid (∀ wz,Below w9.heap.size w9 wz->(wz.cell? ⟨w.heap.size,2,none⟩=some (.slice A' K d)/\wz.cell? ⟨w.heap.size + 1,2,none⟩=some (.slice B' L y))):=hide fun wz hz => ⟨(hz.cell (p:=⟨w.heap.size,2,none⟩) hba8.out.lt).trans t0,(hz.cell (p:=⟨w.heap.size + 1,2,none⟩) hJ2.out.bb.lt).trans t1⟩
       go_region_law (first
         | (refine Lib.wp_append_run _ (.tmp 26) (.tmp 28) 57 57 rfl _ _ rfl rfl _ _ hrunI.out ?_)
         | (go_simp; go_at_call 126; refine (hci.out _ (by first | (with_reducible exact (Below.refl _ w9).drew) | (with_reducible exact Below.refl _ w9))).mono ?_; rintro e w10 ⟨v10,rfl,hO10,hB10⟩; (have hB10' : Below w9.heap.size w9 w10:=by first | exact hB10 | exact (Below.refl _ w9).drew.trans hB10); (obtain ⟨A10,c10,rfl,hc10⟩:=own_sl hO10); (have hs10:=hB10'.size); (obtain ⟨v11,w11,hrunI,hO11,hg11,hv11⟩:=run_app_rowI w10 w.heap.size _ K (na.kids.map encI) (own_moreB hO10 (by first | exact hs9.out | (have:=hs9.out; simp <;> omega))) w10.heap.size B' L y (nb.kids.map encI) (hrB9.out w10 hB10') e1I.out 57 (by omega) (by have:=hs9.out; omega)); (have hd:=hfin.out w10 w11 c10 A10 v11 _ hB10' hO10 (by simp) hg11 hO11); (obtain ⟨A11,c11,rfl⟩:=own_form hO11); have hd2:=hide hd.2; have k2:=hd.1.cell 2; have k3:=hd.1.frozen 2; clear hd; (have hkp:=hkp9.out w10 hB10'); obtain ⟨kp0,kp1⟩:=hkp; replace hO10:=hide hO10; replace hB10:=hide hB10; replace hB10':=hide hB10'; replace hO11:=hide hO11; replace hg11:=hide hg11; replace hv11:=hide hv11; replace hrunI:=hide hrunI))
       all_goals
         go_wp2_with fail
         go_meet
         exact ⟨A7,A11,M + 1,K + L,c7,c11,hide ⟨by unfold joinP; rw [<- hlf.out]; simp; rw [hM.out,hN.out]; omega,by unfold joinP; rw [<- hlf.out]; simp; rw [hK.out,hL.out],by simpa using hd2.out⟩⟩
   case rest =>
     obtain ⟨A8,B8,m8,k8,c8,d8,hJ8⟩:=hcut
     obtain ⟨hm8,hk8,hJ8⟩:=hJ8.out
     obtain ⟨cs,hcs⟩ : ∃ cs,cs=na.cells ++ (if lf=true then [] else [⟨key,[],0,0⟩]):=⟨_,rfl⟩
     obtain ⟨ks,hks⟩ : ∃ ks,ks=(if lf=true then [] else na.kids ++ nb.kids):=⟨_,rfl⟩
     rw [<- hcs,<- hks] at hJ8
     have hjc : (joinP na key nb).cells=cs ++ nb.cells:=by unfold joinP; rw [hcs,hlf.out]
     have hjk : (joinP na key nb).kids=ks:=by unfold joinP; rw [hks,hlf.out]
     have hjl : (joinP na key nb).leaf=lf:=by rw [hlf.out]; rfl
     have hml : m8=cs.length:=by rw [hm8,hjc,List.length_append,<- hN.out]; omega
     have hkl : k8=ks.length:=by rw [hk8,hjk]
     obtain ⟨rows,hr1,hr2,hr3⟩:=hJ8.rows
     have hkd:=hJ8.kids
     rw [<- hml] at hr2
     rw [<- hkl] at hkd
     have hcsl : cs.length<=40001:=by
       rw [hcs,List.length_append,<- hM.out]; split <;> simp <;> omega
     obtain ⟨v9,w9,hrun,hO9,hg9,hv9⟩:=run_app_rowC wc w.heap.size (.slice A8 m8 c8) m8 rows.flatten hr2 wc.heap.size B N x rowsB.flatten ((hrB.out.below hJ8.bel).more hJ8.bel.size) h1B.out 87 (by omega) hJ8.bel.size
     have hnd9 : Blk w9 gn 89 #[.bool lf,.slice A8 m8 c8,.slice B8 k8 d8]:=hJ8.nd.grown hg9 (fun e => own_not_blk hr2 hJ8.nd (by decide) gn e.symm rfl)
     have hO8 : Only (fun k => (Value.slice A8 m8 c8).ownBlock=some k \/ k=gn) wc w9:=(Only.refl _ wc).grown hg9 (fun k hk _ => .inl hk)
     obtain ⟨A9',c9',rfl⟩:=own_form hO9
     have hOW : Only (fun k => (Value.slice A8 m8 c8).ownBlock=some k \/ k=gn) wc (w9.setCell ⟨gn,1,none⟩ (.slice A9' (m8 + N) c9')):=hO8.setCell (p:=⟨gn,1,none⟩) (fun _ => .inr rfl) _
     have hrW:=((Only.refl (fun k => k=gn) w9).setCell (p:=⟨gn,1,none⟩) (fun _ => rfl) (.slice A9' (m8 + N) c9')).row hO9 (own_not_blk hO9 hnd9 (by decide))
     have hkW:=hOW.row hkd (fun k hk hs => hs.elim (fun e => own_ne hkd hr2 (by decide) k hk e) (fun e => own_not_blk hkd hJ8.nd (by decide) k hk e))
     have hndW:=hnd9.set_ 1 (.slice A9' (m8 + N) c9')
     have hS : ∀ k,((Value.slice A8 m8 c8).ownBlock=some k \/ k=gn)->w.heap.size<=k:=fun k hk => hk.elim (fun e => (own_lt hr2 e).1) (fun e => by have:=hJ8.glt; omega)
     have hbW : Below w.heap.size w (w9.setCell ⟨gn,1,none⟩ (.slice A9' (m8 + N) c9')):=hJ8.bel.trans (hOW.below hS hJ8.bel.size)
     have hbrW:=hOW.blk hJ8.br (fun hs => hs.elim (fun e => own_not_blk hr2 hJ8.br (by decide) _ e rfl) (fun e => by have:=hJ8.glt; omega))
     have hfin : Hid (∀ W,Only (fun k => k=w.heap.size + 1 + 1) (w9.setCell ⟨gn,1,none⟩ (.slice A9' (m8 + N) c9')) W->JoinRet F w (joinP na key nb) (.returned (.agg #[.bool lf,.slice A9' (m8 + N) c9',.slice B8 k8 d8])) W):=hide (by
       intro W hO
       have hTn : ∀ k t cs,k=w.heap.size + 1 + 1->Blk (w9.setCell ⟨gn,1,none⟩ (.slice A9' (m8 + N) c9')) k t cs->t=89:=fun k t cs hk hb => by
         subst hk
         have h9:=hb.symm.trans hbrW
         injection h9 with h9
         injection h9
       have e1 : (joinP na key nb).cells.length=m8 + N:=by rw [hjc,List.length_append,hml,hN.out]
       refine ⟨_,_,by rw [hjl],⟨⟨rows ++ rowsB,by rw [hjc,List.length_append,List.length_append,hr1,hrb.out],?_,?_⟩,?_,fun k hk hf => ?_,fun k hk hf => ?_⟩,hbW.trans (hO.below (fun k hk => by omega) hbW.size)⟩
       · rw [e1, List.flatten_append]
         exact hO.row hrW (fun k hk e => own_not_blk hrW hbrW (by decide) k hk e)
       · rw [hjc]
         intro q vs cl q1 q2
         have hEv : Ev F w F W:=Ev.of_below (hbW.trans (hO.below (fun k hk => by omega) hbW.size))
         rcases Nat.lt_or_ge q rows.length with hq | hq
         · rw [List.getElem?_append_left hq] at q1
           rw [List.getElem?_append_left (by omega)] at q2
           exact ((hr3 q vs cl q1 q2).keepW hOW fun k cs hk hb => hk.elim (fun e => own_blk_ne hr2 hb (by decide) e) (fun e => by subst e; exact Blk.ne_ hb hJ8.nd (by decide) rfl)).keepW hO fun k cs hk hb => by have:=hTn k _ cs hk hb; exact absurd this (by decide)
         · rw [List.getElem?_append_right hq] at q1
           rw [List.getElem?_append_right (by omega),<- hr1] at q2
           exact CellV.evU (hcb.out (q - rows.length) vs cl q1 q2) hEv
       · rw [hjk, <- hkl]
         exact hO.row hkW (fun k hk e => own_not_blk hkW hbrW (by decide) k hk e)
       · have := hF.out k hf
         have:=(own_lt hrW hk).1
         omega
       · have := hF.out k hf
         have:=(own_lt hkW hk).1
         omega)
     have n0:=hJ8.nd.cell 0
     have n1:=hJ8.nd.cell 1
     have n2:=hJ8.nd.cell 2
     have b1:=hJ8.bb.cell 1
     have j0:=hnd9.cell 0
     have j1:=hnd9.cell 1
     have j2:=hnd9.cell 2
     have j3:=hnd9.frozen 1
     have i0:=hndW.cell 0
     have i1:=hndW.cell 1
     have i2:=hndW.cell 2
     have r0:=hbrW.cell 0
     have r1:=hbrW.cell 1
     have r2:=hbrW.cell 2
     have r3:=hbrW.frozen 0
     have r4:=hbrW.frozen 1
     have r5:=hbrW.frozen 2
     have hgl:=hJ8.glt
     obtain ⟨W5,hW5⟩ : ∃ W5,W5=w9.setCell ⟨gn,1,none⟩ (.slice A9' (m8 + N) c9'):=⟨_,rfl⟩
     rw [<- hW5] at hfin hOW hrW hkW hndW hbW hbrW i0 i1 i2 r0 r1 r2 r3 r4 r5
     have hdone:=hide (hfin.out _ (only_s3 (Only.refl (fun k => k=w.heap.size + 1 + 1) W5) rfl (.bool lf) (.slice A9' (m8 + N) c9') (.slice B8 k8 d8)))
     have hbf:=hide (Node3.own ⟨_,_,_,hbrW⟩ (.bool lf) (.slice A9' (m8 + N) c9') (.slice B8 k8 d8))
     replace hW5:=hide hW5
     replace hJ8:=hide hJ8
     replace hr1:=hide hr1
     replace hr2:=hide hr2
     replace hr3:=hide hr3
     replace hkd:=hide hkd
     replace hO9:=hide hO9
     replace hg9:=hide hg9
     replace hv9:=hide hv9
     replace hnd9:=hide hnd9
     replace hO8:=hide hO8
     replace hOW:=hide hOW
     replace hrW:=hide hrW
     replace hkW:=hide hkW
     replace hndW:=hide hndW
     replace hS : Hid _:=hide hS
     replace hbW:=hide hbW
     replace hbrW:=hide hbrW
     replace hm8:=hide hm8
     replace hk8:=hide hk8
     replace hcs:=hide hcs
     replace hks:=hide hks
     replace hjc:=hide hjc
     replace hjk:=hide hjk
     replace hjl:=hide hjl
     replace hml:=hide hml
     replace hkl:=hide hkl
     go_upto_region 6 with (first | (at_builtin; refine Lib.wpList_append_run _ rfl (.tmp 32) (.tmp 34) 87 87 rfl _ _ rfl rfl _ _ hrun ?_))
     rw [<- hW5.out]
     clear hrun n0 n1 n2 b1 j0 j1 j2 j3
     go_wp2_with fail
     refine bodyPost_ret (v:=.agg #[.bool lf,.slice A9' (m8 + N) c9',.slice B8 k8 d8]) ?_ rfl hdone.out
     have hbf:=hbf.out
     obtain ⟨Wf,hWf⟩ : ∃ Wf,Wf=((W5.setCell ⟨w.heap.size + 1 + 1,0,none⟩ (.bool lf)).setCell ⟨w.heap.size + 1 + 1,1,none⟩ (.slice A9' (m8 + N) c9')).setCell ⟨w.heap.size + 1 + 1,2,none⟩ (.slice B8 k8 d8):=⟨_,rfl⟩
     rw [<- hWf] at hbf ⊢
     have q0 : Wf.cell? ⟨w.heap.size + 1 + 1,0,none⟩=some (.bool lf):=hbf.cell 0
     have q1 : Wf.cell? ⟨w.heap.size + 1 + 1,1,none⟩=some (.slice A9' (m8 + N) c9'):=hbf.cell 1
     have q2 : Wf.cell? ⟨w.heap.size + 1 + 1,2,none⟩=some (.slice B8 k8 d8):=hbf.cell 2
     simp [results,Tryz.results123,go_sem,q0,q1,q2]
section
variable {F F' : Nat->Prop} {w w' : World} {B : Nat} {cv kv : Value} {n : NodeP}
theorem NodeU.kid_at {gk K ck : Nat} (h : NodeU F w B cv (.slice (some ⟨gk,0,none⟩) K ck) n) (i : Nat) (hi : i < n.kids.length) : w.cell? ⟨gk,i,none⟩=some (.int .i64 (kidAt n i : Int)):=by
 have h1:=h.kids.cells (g:=gk) rfl i (.int .i64 (kidAt n i : Int)) (by
   rw [List.getElem?_map,List.getElem?_eq_getElem hi]
   simp [kidAt,encI,hi])
 rwa [Addr.add_lit,Nat.zero_add] at h1
theorem NodeU.kid_form (h : NodeU F w B cv kv n) (hk : 0 < n.kids.length) : ∃ gk ck,kv=.slice (some ⟨gk,0,none⟩) n.kids.length ck/\n.kids.length<=ck/\¬ F gk/\B<=gk/\gk < w.heap.size:=by
 have hf:=h.kF
 rcases h.kids.2 with ⟨_,h0⟩ | ⟨g,cap,cur,rfl,hb,hh,hc,_⟩
 · omega
 · exact ⟨g,cap,rfl,hc,hf g rfl,hb,Blk.lt (show Blk w g _ cur from hh)⟩
theorem NodeU.cell_form (h : NodeU F w B cv kv n) (hk : 0 < n.cells.length) : ∃ gr cr,cv=.slice (some ⟨gr,0,none⟩) n.cells.length cr/\n.cells.length<=cr/\¬ F gr/\B<=gr/\gr < w.heap.size:=by
 obtain ⟨rows,h1,h2,h3⟩:=h.rows
 have hf:=h.rF
 rcases h2.2 with ⟨_,h0⟩ | ⟨g,cap,cur,rfl,hb,hh,hc,_⟩
 · omega
 · exact ⟨g,cap,rfl,hc,hf g rfl,hb,Blk.lt (show Blk w g _ cur from hh)⟩
theorem NodeU.key_at {gr M cr : Nat} (h : NodeU F w B (.slice (some ⟨gr,0,none⟩) M cr) kv n) (i : Nat) (hi : i < n.cells.length) :
   ∃ kA kc,w.cell? ⟨gr,i * 4,none⟩=some (.slice kA (keyOfC n.cells i).length kc)/\Rd (byteOf F w) w 1 kA (keyOfC n.cells i).length (bv (keyOfC n.cells i))/\(keyOfC n.cells i).length<=kc:=by
 obtain ⟨rows,h1,h2,h3⟩:=h.rows
 have hil : i < rows.length:=by omega
 obtain ⟨kA',kc',vA,vc,e,q1,q2,q3,q4⟩:=h3 i rows[i] n.cells[i] (List.getElem?_eq_getElem hil) (List.getElem?_eq_getElem hi)
 have hat:=flatten_at4 (h3.four h1) i 0 rows[i] (.slice kA' (n.cells[i]).key.length kc') (List.getElem?_eq_getElem hil) (by rw [e]; rfl)
 rw [Nat.add_zero] at hat
 have hc2:=h2.cells (g:=gr) rfl (i * 4) _ hat
 rw [Addr.add_lit,Nat.zero_add] at hc2
 have hkey : keyOfC n.cells i=(n.cells[i]).key:=keyOfC_at (List.getElem?_eq_getElem hi)
 rw [hkey]
 exact ⟨kA',kc',hc2,q3,q1⟩
end
theorem flatten_erase4 (rows : List (List Value)) (i : Nat) (h4 : ∀ r ∈ rows,r.length=4) : (rows.eraseIdx i).flatten=rows.flatten.take (i * 4) ++ rows.flatten.drop ((i + 1) * 4):=by
 rw [List.eraseIdx_eq_take_drop_succ,List.flatten_append,(flatten_take4 rows i h4).1,(flatten_take4 rows (i + 1) h4).2]
theorem map_erase (l : List Nat) (i : Nat) : (l.eraseIdx i).map encI=(l.map encI).take (i * 1) ++ (l.map encI).drop ((i + 1) * 1):=by
 rw [List.eraseIdx_eq_take_drop_succ,List.map_append,List.map_take,List.map_drop,Nat.mul_one,Nat.mul_one]
theorem CellsW.erase {F : Nat->Prop} {w : World} {rows : List (List Value)} {cs : List CellP} (h : CellsW F w rows cs) (i : Nat) : CellsW F w (rows.eraseIdx i) (cs.eraseIdx i):=by
 intro k vs c e1 e2
 rw [List.getElem?_eraseIdx] at e1 e2
 split at e1
 · rename_i hk
   rw [if_pos hk] at e2
   exact h k vs c e1 e2
 · rename_i hk
   rw [if_neg hk] at e2
   exact h _ vs c e1 e2
theorem PgAt.only {w w' : World} {F S : Nat->Prop} {gp : Nat} {st : PgS} (h : PgAt w F gp st) (hO : Only S w w') (hS : ∀ k,F k->¬ S k) : PgAt w' F gp st:=h.keep (fun k hk => hO.block k (h.lt k hk) (hS k hk)) hO.size
theorem nodeU_erased {F : Nat->Prop} {w11 w17 : World} {gn M K kk : Nat} {v13 v16 : Value} {n : NodeP} {rows : List (List Value)} {v : Array Value} (hr1 : rows.length=n.cells.length) (hr3 : CellsW F w11 rows n.cells) (hM : M=n.cells.length) (hK : K=n.kids.length) (hkc : kk < M) (hkk : kk + 1 < K)
   (hO : Only (fun k => k=gn) w11 w17) (hb : Blk w11 gn 89 v) (hF : ∀ k,F k->k < w11.heap.size) (hr17 : w17.ownsRow w11.heap.size 83 4 v13 (M - 1) (rows.flatten.take (kk * 4) ++ rows.flatten.drop ((kk + 1) * 4)))
   (hk17 : w17.ownsRow w11.heap.size 3 1 v16 (K - 1) ((n.kids.map encI).take ((kk + 1) * 1) ++ (n.kids.map encI).drop ((kk + 1 + 1) * 1))) :
   NodeU F w17 w11.heap.size v13 v16 ⟨n.leaf,n.cells.eraseIdx kk,n.kids.eraseIdx (kk + 1)⟩:=by
 have e1 : (n.cells.eraseIdx kk).length=M - 1:=by rw [List.length_eraseIdx,if_pos (by omega),hM]
 have e2 : (n.kids.eraseIdx (kk + 1)).length=K - 1:=by rw [List.length_eraseIdx,if_pos (by omega),hK]
 have e3 : (rows.eraseIdx kk).length=M - 1:=by rw [List.length_eraseIdx,hr1,if_pos (by omega),hM]
 rw [<- flatten_erase4 _ _ (hr3.four hr1),<- e1] at hr17
 rw [<- map_erase,<- e2] at hk17
 exact ⟨⟨rows.eraseIdx kk,e3.trans e1.symm,hr17,(hr3.erase kk).keepW hO fun k cs hk h9 => by subst hk; exact Blk.ne_ h9 hb (by decide) rfl⟩,hk17,
   fun k hk hf => by have:=hF k hf; have:=(own_lt hr17 hk).1; omega,fun k hk hf => by have:=hF k hf; have:=(own_lt hk17 hk).1; omega⟩
def MendEnd (F : Nat->Prop) (w : World) (gp gn : Nat) (st' : PgS) (n' : NodeP) (e : Ending) (w' : World) : Prop :=
 e=.returned (.int .i64 0)/\∃ F' B cv kv,PgAt w' F' gp st'/\Only (fun k => F k \/ k=gn) w w'/\(∀ k,F' k->F k \/ w.heap.size<=k)/\NodeU F' w' B cv kv n'/\Blk w' gn 89 #[.bool n'.leaf,cv,kv]/\¬ F' gn
theorem NodeOwn.toU {B0 : Nat} {F : Nat->Prop} {w : World} {cv kv : Value} {n : NodeP} (h : NodeOwn w B0 cv kv n) (hF : ∀ j,F j->j < B0) : NodeU F w B0 cv kv n:=(h.toW hF).toU
set_option maxHeartbeats 4000000 in
theorem mend_stays (w : World) (F : Nat->Prop) (gt gp k : Nat) (st : PgS) (h : PgAt w F gp st) (ht : TreeAt w F gt gp k) (ho : st.ok) (gn B : Nat) (cv kv : Value) (n c : NodeP) (hn : NodeU F w B cv kv n) (hb : Blk w gn 89 #[.bool n.leaf,cv,kv]) (hnF : ¬ F gn)
   (i : Nat) (hi : i < n.kids.length) (hm : n.kids.length<=65536) (hl : LoadR st (kidAt n i) c) (hz : 127<=sizeP c \/ n.kids.length=1) :
   Calls Tryz.prog 75 #[.pointer (some ⟨gt,0,none⟩),.pointer (some ⟨gn,0,none⟩),.int .i64 (i : Int)] w (MendEnd F w gp gn st n):=by
 have hld:=hide (load_gen w F gt gp k st h ht (kidAt n i) c hl)
 obtain ⟨gk,ck,rfl,hck,hgkF,_,hgl⟩:=hn.kid_form (by omega)
 have k0:=hn.kid_at i hi
 obtain ⟨kid,hkid⟩ : ∃ kid,kid=kidAt n i:=⟨_,rfl⟩
 obtain ⟨K,hK⟩ : ∃ K,K=n.kids.length:=⟨_,rfl⟩
 rw [<- hkid] at hld k0
 rw [<- hK] at hi hm hck hz hb hn
 have n2 : w.cell? ⟨gn,2,none⟩=some (.slice (some ⟨gk,0,none⟩) K ck):=hb.cell 2
 have hsz508:=hl.size ho
 have hcr:=hl.2.1
 have hiI : (i : Int) < (K : Int):=by omega
 have hi0 : (0 : Int)<=(i : Int):=by omega
 have hgn:=hb.lt
 obtain ⟨lf,hlf⟩ : ∃ lf,lf=c.leaf:=⟨_,rfl⟩
 replace h:=hide h
 replace ht:=hide ht
 replace ho:=hide ho
 replace hn:=hide hn
 replace hb:=hide hb
 replace hl:=hide hl
 replace hkid:=hide hkid
 replace hK:=hide hK
 replace hcr:=hide hcr
 replace hlf:=hide hlf
 replace hz:=hide hz
 go_enter Tryz.func75,Tryz.ntmps75
 go_wp2_with fail
 go_at_call 45
 refine hld.out.mono ?_
 rintro e w1 ⟨F1,cv1,kv1,B0,rfl,hP1,hE1,hF1,hwB,hO1⟩
 rw [<- hlf.out]
 have hU1 : NodeU F1 w1 B0 cv1 kv1 c:=hO1.toU hF1
 have hn1:=hU1.nodeM
 rw [<- hlf.out] at hn1
 obtain ⟨A1,c1,rfl⟩:=own_form hU1.kids
 obtain ⟨A2,c2,rfl⟩:=own_form hU1.rows.choose_spec.2.1
 obtain ⟨cM,hcM⟩ : ∃ cM,cM=c.cells.length:=⟨_,rfl⟩
 obtain ⟨cK,hcK⟩ : ∃ cK,cK=c.kids.length:=⟨_,rfl⟩
 rw [<- hcM,<- hcK] at hn1 ⊢
 have hE2 : Ev F w F1 (w1.alloc (.cells #[.bool lf,.slice A2 cM c2,.slice A1 cK c1] 89)):=hE1.alloc_ _
 have hbn:=Blk.new w1 89 #[.bool lf,.slice A2 cM c2,.slice A1 cK c1]
 have hszc:=hide (size_any (w1.alloc (.cells #[.bool lf,.slice A2 cM c2,.slice A1 cK c1] 89)) (.agg #[.bool lf,.slice A2 cM c2,.slice A1 cK c1]) c ((hn1.ev ((Ev.refl F1 w1).alloc_ _)).old fun k hk => hk.1) hcr.out (by omega))
 obtain ⟨Z,hZ⟩ : ∃ Z,Z=sizeP c:=⟨_,rfl⟩
 rw [<- hZ] at hszc hsz508 hz
 have hb2:=hE2.blk hb.out hnF
 have hdone : Hid (∀ W,Below (w1.alloc (.cells #[.bool lf,.slice A2 cM c2,.slice A1 cK c1] 89)).heap.size (w1.alloc (.cells #[.bool lf,.slice A2 cM c2,.slice A1 cK c1] 89)) W->MendEnd F w gp gn st n (.returned (.int .i64 0)) W):=hide (by
   intro W hB
   have hE : Ev F w F1 W:=hE2.below hB
   exact ⟨rfl,F1,B,cv,_,(hP1.alloc _).below hB,hE.only.mono fun k _ hk => .inl hk,hE.grow,hn.out.ev hE,hE.blk hb.out hnF,hE.new hnF hgn⟩)
 have m0:=hbn.cell 0
 have m1:=hbn.cell 1
 have m2:=hbn.cell 2
 have v2:=hb2.cell 2
 replace hbn:=hide hbn
 replace hb2:=hide hb2
 replace hE2:=hide hE2
 replace hU1:=hide hU1
 replace hn1:=hide hn1
 replace hO1:=hide hO1
 replace hF1:=hide hF1
 replace hP1:=hide hP1
 replace hE1:=hide hE1
 replace hcM:=hide hcM
 replace hcK:=hide hcK
 replace hZ:=hide hZ
 rcases hz.out with hz1 | hz1
 · have t1 : decide ((127 : Int) <= (Z : Int)) = true := decide_eq_true (by omega)
   have t2 : decide (127<=Z)=true:=decide_eq_true hz1
   go_wp2_with (first | (go_at_call 50; refine hszc.out.mono ?_; rintro e w2 ⟨rfl,hB2⟩; have hd:=hide (hdone.out w2 hB2); replace hB2:=hide hB2))
   go_ret
   exact hd.out
 · by_cases hz2 : 127 <= Z
   · have t1 : decide ((127 : Int) <= (Z : Int)) = true := decide_eq_true (by omega)
     have t2 : decide (127<=Z)=true:=decide_eq_true hz2
     go_wp2_with (first | (go_at_call 50; refine hszc.out.mono ?_; rintro e w2 ⟨rfl,hB2⟩; have hd:=hide (hdone.out w2 hB2); replace hB2:=hide hB2))
     go_ret
     exact hd.out
   · have t1 : decide ((127 : Int) <= (Z : Int)) = false := decide_eq_false (by omega)
     have t2 : decide (127<=Z)=false:=decide_eq_false hz2
     have t3 : ((K : Int) == 1)=true:=by rw [hz1]; rfl
     replace hz1:=hide hz1
     go_wp2_with (first | (go_at_call 50; refine hszc.out.mono ?_; rintro e w2 ⟨rfl,hB2⟩; have hd:=hide (hdone.out w2 hB2); have u2:=hb2.out.below hB2 hb2.out.lt; have u3:=u2.cell 2; replace u2:=hide u2; replace hB2:=hide hB2))
     go_ret
     exact hd.out
end Go.Proofs.YtiiljlmeililbaaGreatDoor
