/-
  Contract of tree.change at a leaf, for any closure.
-/
import Derived.Test.YtiiljlmeililbaaGreatDoorBeGr25
import Derived.Test.YtiiljlmeililbaaGreatDoorBeGr21
import Derived.Test.YtiiljlmeililbaaGreatDoorBeGr18
namespace Go.Proofs.YtiiljlmeililbaaGreatDoor
set_option linter.unusedVariables false
set_option maxRecDepth 100000
open Go.RowKit
def OpEndU (F : Nat->Prop) (w : World) (gp gn B0 : Nat) (st1 : PgS) (n1 : NodeP) (e : Ending) (w' : World) : Prop :=
 e=.returned (.int .i64 0)/\∃ F' B cv kv,PgAt w' F' gp st1/\Only (fun k => F k \/ B0<=k) w w'/\(∀ k,F' k->F k \/ w.heap.size<=k)/\NodeU F' w' B cv kv n1/\Blk w' gn 89 #[.bool n1.leaf,cv,kv]
theorem OpEnd.toU {F : Nat->Prop} {w : World} {gp gn B0 : Nat} {st1 : PgS} {n1 : NodeP} {e : Ending} {w' : World} (h : OpEnd F w gp gn B0 st1 n1 e w') : OpEndU F w gp gn B0 st1 n1 e w':=by
 obtain ⟨he,F',B,cv,kv,h1,h2,h3,h4,h5⟩:=h
 exact ⟨he,F',B,cv,kv,h1,h2,h3,h4.toU,h5⟩
def OpG (f : FuncId) (caps : Array Value) (op : OpR) (w : World) (F : Nat->Prop) (gp : Nat) (st : PgS) : Prop :=
 ∀ n i is st1 n1, op st n i is st1 n1 -> (is = false -> i <= n.cells.length) -> RightP n -> ∀ w1 F1 gn B B0 cv kv, PgAt w1 F1 gp st -> Ev F w F1 w1 -> NodeW F1 w1 B cv kv n -> Blk w1 gn 89 #[.bool n.leaf, cv, kv] -> ¬ F1 gn -> w.heap.size <= B0 -> B0 <= gn -> B0 <= B -> B <= w1.heap.size ->
   Calls Tryz.prog f (#[.pointer (some ⟨gn,0,none⟩),.int .i64 (i : Int),.bool is] ++ caps) w1 (OpEndU F1 w1 gp gn B0 st1 n1)
theorem OpG.ev {f : FuncId} {caps : Array Value} {op : OpR} {w w' : World} {F F' : Nat->Prop} {gp : Nat} {st : PgS} (h : OpG f caps op w F gp st) (he : Ev F w F' w') : OpG f caps op w' F' gp st :=
 fun n i is st1 n1 ho hi hr w1 F1 gn B B0 cv kv hP hE hW hb hn h0 h1 h2 h3 => h n i is st1 n1 ho hi hr w1 F1 gn B B0 cv kv hP (he.trans hE) hW hb hn (Nat.le_trans he.size h0) h1 h2 h3
theorem findP_lo (n : NodeP) (key : List UInt8) (h : (findP n key).2=false) : (findP n key).1<=n.cells.length:=by
 unfold findP at h ⊢
 by_cases h9 : keyAt n.cells (findI n.cells key) key=true
 · rw [if_pos h9] at h; cases h
 · rw [if_neg h9]
   exact List.Sublist.length_le (List.takeWhile_sublist _)
set_option maxHeartbeats 2000000 in
theorem change_leafG (w : World) (F : Nat->Prop) (gt gp k : Nat) (st : PgS) (h : PgAt w F gp st) (ht : TreeAt w F gt gp k) (no : Nat) (n : NodeP) (hl : LoadR st no n) (hleaf : n.leaf=true) (kA : Option Addr) (kc : Nat) (key : List UInt8) (hk : MB F w kA key.length key)
   (f : FuncId) (caps : Array Value) (op : OpR) (st1 st2 : PgS) (n1 : NodeP) (l : Option (List UInt8 × Nat)) (hfn : ∀ args wx,(callFunc f args).run Tryz.prog wx=.ok (.enter f args) wx) (hop : OpG f caps op w F gp st) (hor : op st n (findP n key).1 (findP n key).2 st1 n1) (hok1 : st1.ok) (hlay : LayR st1 no n1 st2 l) :
   Calls Tryz.prog 38 #[.pointer (some ⟨gt,0,none⟩),.int .i64 (no : Int),.slice kA key.length kc,.func (.func f) #[] caps] w (LayEnd F w gp no st2 l):=by
 have hrt:=hl.2.1
 have hld:=hide (load_any w F gt gp k st h ht no n hl hleaf)
 have hgt:=Blk.lt ht.blk
 have hrise:=hl.2.1.rise
 have hmany:=hl.2.1.many
 obtain ⟨L,hL⟩ : ∃ L,L=key.length:=⟨_,rfl⟩
 rw [<- hL] at hk ⊢
 replace h:=hide h
 replace ht:=hide ht
 replace hl:=hide hl
 replace hk:=hide hk
 replace hop : Hid _:=hide hop
 replace hlay:=hide hlay
 replace hor : Hid _:=hide hor
 replace hok1:=hide hok1
 replace hfn : Hid _:=hide hfn
 replace hrt:=hide hrt
 replace hL:=hide hL
 replace hrise:=hide hrise
 replace hmany:=hide hmany
 obtain ⟨lf,hlf⟩ : ∃ lf,lf=n.leaf:=⟨_,rfl⟩
 have hlt : lf=true:=hlf.trans hleaf
 subst hlt
 replace hlf:=hide hlf
 replace hleaf:=hide hleaf
 go_enter Tryz.func38,Tryz.ntmps38
 go_wp2_with fail
 go_at_call 45
 refine hld.out.mono ?_
 rintro e w1 ⟨F1,cv,kv,B0,rfl,hP1,hE1,hF1,hwB,hO1⟩
 rw [<- hlf.out]
 have hO1':=hO1.moreB (Nat.min_le_left B0 w1.heap.size)
 obtain ⟨Bm,hBm⟩ : ∃ Bm,Bm=min B0 w1.heap.size:=⟨_,rfl⟩
 rw [<- hBm] at hO1'
 have hFm : ∀ j,F1 j->j < Bm:=fun j hj => by have:=hF1 j hj; have:=hP1.lt j hj; omega
 have hwm : w.heap.size<=Bm:=by have:=hE1.size; omega
 have hms : Bm<=w1.heap.size:=by omega
 have hW1:=hO1'.toW hFm
 obtain ⟨A1,c1,rfl⟩:=own_form hW1.kids
 obtain ⟨A2,c2,rfl⟩:=own_form hW1.rows.choose_spec.2.1
 obtain ⟨N,hN⟩ : ∃ N,N=n.cells.length:=⟨_,rfl⟩
 obtain ⟨K,hK⟩ : ∃ K,K=n.kids.length:=⟨_,rfl⟩
 rw [<- hN,<- hK] at hW1 ⊢
 replace hN:=hide hN
 replace hK:=hide hK
 replace hO1:=hide hO1
 replace hO1':=hide hO1'
 replace hF1:=hide hF1
 replace hFm:=hide hFm
 replace hBm:=hide hBm
 replace hP1:=hide hP1
 replace hE1:=hide hE1
 replace hW1:=hide hW1
 go_wp2_with fail
 have hnF1 : ¬ F1 w1.heap.size:=fun hf => by have:=hP1.out.lt _ hf; omega
 have hbn:=Blk.new w1 89 #[.bool true,.slice A2 N c2,.slice A1 K c1]
 have hE1a : Ev F w F1 (w1.alloc (.cells #[.bool true,.slice A2 N c2,.slice A1 K c1] 89)):=hE1.out.alloc_ _
 have hfd:=hide (find_any (w1.alloc (.cells #[.bool true,.slice A2 N c2,.slice A1 K c1] 89)) (.agg #[.bool true,.slice A2 N c2,.slice A1 K c1]) n (by
   have h9:=(hW1.out.nodeM.ev ((Ev.refl F1 w1).alloc_ (.cells #[.bool true,.slice A2 N c2,.slice A1 K c1] 89))).old fun k hk => hk.1
   rw [<- hlf.out] at h9
   exact h9) hrise.out (by have:=hmany.out; omega) kA kc key (by have h9:=(hk.out.ev hE1a).rb; rw [hL.out] at h9; exact h9))
 rw [<- hL.out] at hfd
 obtain ⟨I,hI⟩ : ∃ I,I=(findP n key).1:=⟨_,rfl⟩
 obtain ⟨S,hS⟩ : ∃ S,S=(findP n key).2:=⟨_,rfl⟩
 rw [<- hI,<- hS] at hfd hor
 replace hI:=hide hI
 replace hS:=hide hS
 go_at_call 46
 refine hfd.out.mono ?_
 rintro e w2 ⟨rfl,hB2⟩
 have hb2:=hbn.below hB2 (by simp)
 have hP2:=(hP1.out.alloc (.cells #[.bool true,.slice A2 N c2,.slice A1 K c1] 89)).below hB2
 have hE2:=hE1a.below hB2
 have hW2 : NodeW F1 w2 Bm (.slice A2 N c2) (.slice A1 K c1) n:=hW1.out.only (((Only.refl (fun _ => False) w1).alloc _).trans (Only.of_below hB2) (fun _ _ h => h)) (fun _ h => h.elim)
 have hs2:=hE2.size
 have hop2:=hide (hop.out n I S st1 n1 hor.out (fun e => by rw [hI.out]; exact findP_lo n key (by rw [<- hS.out]; exact e)) hrt.out w2 F1 w1.heap.size Bm w.heap.size (.slice A2 N c2) (.slice A1 K c1) hP2 hE2 hW2 (by rw [<- hlf.out]; exact hb2) hnF1 (Nat.le_refl _) hE1.out.size hwm (by have:=hB2.size; simp at this; omega))
 have hfn2:=fun args => hfn.out args w2
 have d0:=hb2.cell 0
 have d1:=hb2.cell 1
 have d2:=hb2.cell 2
 replace hb2:=hide hb2
 replace hbn:=hide hbn
 replace hB2:=hide hB2
 replace hP2:=hide hP2
 replace hE1a:=hide hE1a
 replace hE2:=hide hE2
 replace hW2:=hide hW2
 replace hnF1:=hide hnF1
 go_wp2_with fail
 refine hop2.out.mono ?_
 rintro e w3 ⟨rfl,F3,B3,cv3,kv3,hP3,hO3,hG3,hW3,hb3⟩
 have hE3 : Ev F w F3 w3:=⟨hE2.out.only.trans hO3 fun i hi hT => by
     rcases hT with hT | hT
     · rcases hE2.out.grow i hT with h9 | h9
       · exact h9
       · omega
     · omega,fun j hj => by
     rcases hG3 j hj with h9 | h9
     · exact hE2.out.grow j h9
     · exact .inr (by omega)⟩
 have hly:=hide (lay_any w3 F3 gt gp k st1 st2 hP3 (ht.out.ev hE3) hok1.out no n1 l _ hW3.nodeM hW3.keysIn hlay.out)
 clear hfn2
 obtain ⟨A3,c3,rfl⟩:=own_form hW3.rows.choose_spec.2.1
 obtain ⟨A4,c4,rfl⟩:=own_form hW3.kids
 obtain ⟨N3,hN3⟩ : ∃ N3,N3=n1.cells.length:=⟨_,rfl⟩
 obtain ⟨K3,hK3⟩ : ∃ K3,K3=n1.kids.length:=⟨_,rfl⟩
 obtain ⟨lf3,hlf3⟩ : ∃ lf3,lf3=n1.leaf:=⟨_,rfl⟩
 rw [<- hN3,<- hK3,<- hlf3] at hly hb3
 have q0:=hb3.cell 0
 have q1:=hb3.cell 1
 have q2:=hb3.cell 2
 have hs3:=hE3.size
 replace hN3:=hide hN3
 replace hK3:=hide hK3
 replace hlf3:=hide hlf3
 replace hb3:=hide hb3
 replace hP3:=hide hP3
 replace hO3:=hide hO3
 replace hG3:=hide hG3
 replace hW3:=hide hW3
 replace hE3:=hide hE3
 go_wp2_with fail
 go_at_call 73
 refine hly.out.mono ?_
 rintro e w4 ⟨F4,gl,m,rfl,hP4,hE4,hgl,hnl,hpc⟩
 have hdone : Hid (LayEnd F w gp no st2 l (.returned (.tuple #[.slice (some ⟨gl,0,none⟩) m m,.int .i64 0])) w4):=hide ⟨F4,gl,m,rfl,hP4,hE3.out.trans hE4,by omega,hnl,hpc⟩
 replace hP4:=hide hP4
 replace hE4:=hide hE4
 replace hpc : Hid _:=hide hpc
 go_wp2_with fail
 go_ret2
 exact hdone.out
set_option maxHeartbeats 2000000 in
theorem change_one (w : World) (F : Nat->Prop) (gt gp k : Nat) (st : PgS) (h : PgAt w F gp st) (ht : TreeAt w F gt gp k) (no : Nat) (n : NodeP) (hl : LoadR st no n) (hleaf : n.leaf=false) (kA : Option Addr) (kc : Nat) (key : List UInt8) (hk : MB F w kA key.length key)
   (hi : (findP n key).1 < n.kids.length) (f : FuncId) (caps : Array Value) (st1 st2 st3 : PgS) (n2 : NodeP) (l : Option (List UInt8 × Nat)) (hrec : ∀ w1 F1,PgAt w1 F1 gp st->TreeAt w1 F1 gt gp k->Ev F w F1 w1->MB F1 w1 kA key.length key->Calls Tryz.prog 38 #[.pointer (some ⟨gt,0,none⟩),.int .i64 (kidAt n (findP n key).1 : Int),.slice kA key.length kc,.func (.func f) #[] caps] w1 (LayEnd F1 w1 gp (kidAt n (findP n key).1) st1 none))
   (hok1 : st1.ok) (hok2 : st2.ok) (hmd : MendR st1 n (findP n key).1 st2 n2) (hlay : LayR st2 no n2 st3 l) :
   Calls Tryz.prog 38 #[.pointer (some ⟨gt,0,none⟩),.int .i64 (no : Int),.slice kA key.length kc,.func (.func f) #[] caps] w (LayEnd F w gp no st3 l):=by
 have hrt:=hl.2.1
 have hld:=hide (load_gen w F gt gp k st h ht no n hl)
 have hgt:=Blk.lt ht.blk
 have hrise:=hl.2.1.rise
 have hmany:=hl.2.1.many
 obtain ⟨L,hL⟩ : ∃ L,L=key.length:=⟨_,rfl⟩
 rw [<- hL] at hk hrec ⊢
 replace h:=hide h
 replace ht:=hide ht
 replace hl:=hide hl
 replace hk:=hide hk
 replace hrec : Hid _:=hide hrec
 replace hmd:=hide hmd
 replace hi:=hide hi
 replace hlay:=hide hlay
 replace hok1:=hide hok1
 replace hok2:=hide hok2
 replace hrt:=hide hrt
 replace hL:=hide hL
 replace hrise:=hide hrise
 replace hmany:=hide hmany
 obtain ⟨lf,hlf⟩ : ∃ lf,lf=n.leaf:=⟨_,rfl⟩
 have hlt : lf=false:=hlf.trans hleaf
 subst hlt
 replace hlf:=hide hlf
 replace hleaf:=hide hleaf
 go_enter Tryz.func38,Tryz.ntmps38
 go_wp2_with fail
 go_at_call 45
 refine hld.out.mono ?_
 rintro e w1 ⟨F1,cv,kv,B0,rfl,hP1,hE1,hF1,hwB,hO1⟩
 rw [<- hlf.out]
 have hO1':=hO1.moreB (Nat.min_le_left B0 w1.heap.size)
 obtain ⟨Bm,hBm⟩ : ∃ Bm,Bm=min B0 w1.heap.size:=⟨_,rfl⟩
 rw [<- hBm] at hO1'
 have hFm : ∀ j,F1 j->j < Bm:=fun j hj => by have:=hF1 j hj; have:=hP1.lt j hj; omega
 have hwm : w.heap.size<=Bm:=by have:=hE1.size; omega
 have hms : Bm<=w1.heap.size:=by omega
 have hW1:=hO1'.toW hFm
 obtain ⟨gk,c1,rfl,hck,_,_,hgk⟩:=hW1.toU.kid_form (Nat.lt_of_le_of_lt (Nat.zero_le _) hi.out)
 obtain ⟨A2,c2,rfl⟩:=own_form hW1.rows.choose_spec.2.1
 obtain ⟨N,hN⟩ : ∃ N,N=n.cells.length:=⟨_,rfl⟩
 obtain ⟨K,hK⟩ : ∃ K,K=n.kids.length:=⟨_,rfl⟩
 rw [<- hN,<- hK] at hW1 ⊢
 rw [<- hK] at hi hck
 replace hN:=hide hN
 replace hK:=hide hK
 replace hO1:=hide hO1
 replace hO1':=hide hO1'
 replace hF1:=hide hF1
 replace hFm:=hide hFm
 replace hBm:=hide hBm
 replace hP1:=hide hP1
 replace hE1:=hide hE1
 replace hW1:=hide hW1
 go_wp2_with fail
 have hnF1 : ¬ F1 w1.heap.size:=fun hf => by have:=hP1.out.lt _ hf; omega
 have hbn:=Blk.new w1 89 #[.bool false,.slice A2 N c2,.slice (some ⟨gk,0,none⟩) K c1]
 have hE1a : Ev F w F1 (w1.alloc (.cells #[.bool false,.slice A2 N c2,.slice (some ⟨gk,0,none⟩) K c1] 89)):=hE1.out.alloc_ _
 have hfd:=hide (find_any (w1.alloc (.cells #[.bool false,.slice A2 N c2,.slice (some ⟨gk,0,none⟩) K c1] 89)) (.agg #[.bool false,.slice A2 N c2,.slice (some ⟨gk,0,none⟩) K c1]) n (by
   have h9:=(hW1.out.nodeM.ev ((Ev.refl F1 w1).alloc_ (.cells #[.bool false,.slice A2 N c2,.slice (some ⟨gk,0,none⟩) K c1] 89))).old fun k hk => hk.1
   rw [<- hlf.out] at h9
   exact h9) hrise.out (by have:=hmany.out; omega) kA kc key (by have h9:=(hk.out.ev hE1a).rb; rw [hL.out] at h9; exact h9))
 rw [<- hL.out] at hfd
 obtain ⟨I,hI⟩ : ∃ I,I=(findP n key).1:=⟨_,rfl⟩
 obtain ⟨S,hS⟩ : ∃ S,S=(findP n key).2:=⟨_,rfl⟩
 rw [<- hI,<- hS] at hfd
 rw [<- hI] at hrec hmd hi
 replace hI:=hide hI
 replace hS:=hide hS
 go_at_call 46
 refine hfd.out.mono ?_
 rintro e w2 ⟨rfl,hB2⟩
 have hb2:=hbn.below hB2 (by simp)
 have hP2:=(hP1.out.alloc (.cells #[.bool false,.slice A2 N c2,.slice (some ⟨gk,0,none⟩) K c1] 89)).below hB2
 have hE2:=hE1a.below hB2
 have hW2 : NodeW F1 w2 Bm (.slice A2 N c2) (.slice (some ⟨gk,0,none⟩) K c1) n:=hW1.out.only (((Only.refl (fun _ => False) w1).alloc _).trans (Only.of_below hB2) (fun _ _ h => h)) (fun _ h => h.elim)
 have hs2:=hE2.size
 have k2:=hW2.toU.kid_at I (by rw [<- hK.out]; exact hi.out)
 obtain ⟨kid,hkid⟩ : ∃ kid,kid=kidAt n I:=⟨_,rfl⟩
 rw [<- hkid] at k2 hrec
 have hrc:=hide (hrec.out w2 F1 hP2 (ht.out.ev hE2) hE2 (hk.out.ev hE2))
 have hiI : (I : Int) < (K : Int):=by have:=hi.out; omega
 have hi0 : (0 : Int)<=(I : Int):=by omega
 replace hck:=hide hck
 replace hkid:=hide hkid
 have d0:=hb2.cell 0
 have d1:=hb2.cell 1
 have d2:=hb2.cell 2
 replace hb2:=hide hb2
 replace hbn:=hide hbn
 replace hB2:=hide hB2
 replace hP2:=hide hP2
 replace hE1a:=hide hE1a
 replace hE2:=hide hE2
 replace hW2:=hide hW2
 replace hnF1:=hide hnF1
 go_wp2_with fail
 go_at_call 38
 refine hrc.out.mono ?_
 rintro e w3 ⟨F3,gl,m,rfl,hP3,hE3,hgl,hnl,hpc⟩
 obtain ⟨rfl,hbl⟩:=hpc
 have hU3:=hW2.out.toU.ev hE3
 have hb3 : Blk w3 w1.heap.size 89 #[.bool false,.slice A2 N c2,.slice (some ⟨gk,0,none⟩) K c1]:=hE3.only.blk hb2.out hnF1.out
 replace hb3:=hide hb3
 replace hbl:=hide hbl
 replace hU3:=hide hU3
 replace hP3:=hide hP3
 replace hE3:=hide hE3
 go_wp2_with fail
 go_loopw [67] (fun v67 wx => v67=.int .i64 0/\wx=w3) (fun _ _ => 0)
 case atStart => exact ⟨rfl,rfl⟩
 case round =>
   obtain ⟨rfl,hwr⟩:=hrel
   subst hwr
   have hE23:=hE2.out.trans hE3.out
   have hnF3 : ¬ F3 w1.heap.size:=hE3.out.new hnF1.out hb2.out.lt
   have hmn:=hide (mend_any wr F3 gt gp k st1 st2 hP3.out (ht.out.ev hE23) hok1.out w1.heap.size Bm _ _ n n2 hU3.out (by rw [<- hlf.out]; exact hb3.out) hnF3 I (by have:=hrt.out.many; have:=hrt.out.kidsIn hleaf.out; omega) (by have:=hmany.out; omega) hmd.out)
   go_wp2_with fail
   go_at_call 75
   refine hmn.out.mono ?_
   rintro e w4 ⟨rfl,F4,B4,cv4,kv4,hP4,hO4,hG4,hU4,hb4,hnF4⟩
   have hs3:=hE23.size
   have hgn4:=hE1.out.size
   have hE4 : Ev F w F4 w4:=⟨hE23.only.trans hO4 fun i hi hT => by
       rcases hT with hT | hT
       · rcases hE23.grow i hT with h9 | h9
         · exact h9
         · omega
       · omega,fun j hj => by
       rcases hG4 j hj with h9 | h9
       · exact hE23.grow j h9
       · exact .inr (by omega)⟩
   have hly:=hide (lay_any w4 F4 gt gp k st2 st3 hP4 (ht.out.ev hE4) hok2.out no n2 l _ hU4.nodeM hU4.keysIn hlay.out)
   obtain ⟨A3,c3,rfl⟩:=own_form hU4.rows.choose_spec.2.1
   obtain ⟨A4,c4,rfl⟩:=own_form hU4.kids
   obtain ⟨N3,hN3⟩ : ∃ N3,N3=n2.cells.length:=⟨_,rfl⟩
   obtain ⟨K3,hK3⟩ : ∃ K3,K3=n2.kids.length:=⟨_,rfl⟩
   obtain ⟨lf3,hlf3⟩ : ∃ lf3,lf3=n2.leaf:=⟨_,rfl⟩
   rw [<- hN3,<- hK3,<- hlf3] at hly hb4
   have q0:=hb4.cell 0
   have q1:=hb4.cell 1
   have q2:=hb4.cell 2
   have hs4:=hE4.size
   replace hN3:=hide hN3
   replace hK3:=hide hK3
   replace hlf3:=hide hlf3
   replace hb4:=hide hb4
   replace hP4:=hide hP4
   replace hO4:=hide hO4
   replace hG4:=hide hG4
   replace hU4:=hide hU4
   replace hE4:=hide hE4
   replace hE23:=hide hE23
   go_wp2_with fail
   go_at_call 73
   refine hly.out.mono ?_
   rintro e w5 ⟨F5,g5,m5,rfl,hP5,hE5,hgl5,hnl5,hpc5⟩
   have hdone : Hid (LayEnd F w gp no st3 l (.returned (.tuple #[.slice (some ⟨g5,0,none⟩) m5 m5,.int .i64 0])) w5):=hide ⟨F5,g5,m5,rfl,hP5,hE4.out.trans hE5,by omega,hnl5,hpc5⟩
   replace hP5:=hide hP5
   replace hE5:=hide hE5
   replace hpc5 : Hid _:=hide hpc5
   go_wp2_with fail
   go_ret2
   exact hdone.out
section
variable {F : Nat->Prop} {w w' : World} {B : Nat} {cv kv cv' kv' : Value} {n : NodeP}
theorem NodeU.insC (h : NodeU F w B cv kv n) (hFw : ∀ k,F k->k < w.heap.size) {i : Nat} {c : CellP} {vs : List Value} (hg : w.grownBy w' cv.ownBlock) (hi : i<=n.cells.length) (rows : List (List Value)) (h1 : rows.length=n.cells.length)
   (h2 : w.ownsRow B 83 4 cv n.cells.length rows.flatten) (h3 : CellsW F w rows n.cells) (hv : CellV (byteOf F w) w vs c) (hown : w'.ownsRow B 83 4 cv' (n.cells.length + 1) (insCells rows.flatten i vs))
   (hnew : ∀ k,cv'.ownBlock=some k->cv.ownBlock=some k \/ w.heap.size<=k) :
   NodeU F w' B cv' kv ⟨n.leaf,insAt n.cells i c,n.kids⟩:=by
 have hO : Only (fun j => cv.ownBlock=some j) w w':=(Only.refl _ w).grown hg (fun k hk _ => hk)
 refine ⟨⟨insAt rows i vs,by rw [insAt_len _ _ _ (by omega),insAt_len _ _ _ hi,h1],?_,(h3.ins h1 hv hi).keepW hO fun k cs hk hb => own_blk_ne h2 hb (by decide) hk⟩,hO.row h.kids fun k hk => own_ne h.kids h2 (by decide) k hk,fun k hk hf => ?_,h.kF⟩
 · show w'.ownsRow B 83 4 cv' (insAt n.cells i c).length _
   rw [insAt_len _ _ _ hi,ins_flat _ _ _ (h3.four h1)]
   exact hown
 · rcases hnew k hk with h9 | h9
   · exact h.rF k h9 hf
   · have:=hFw k hf; omega
theorem insInts_map (ks : List Nat) (i x : Nat) : (insAt ks i x).map encI=insInts (ks.map encI) i [encI x]:=by
 unfold insAt insInts
 simp [List.map_take,List.map_drop]
theorem NodeU.insK (h : NodeU F w B cv kv n) (hFw : ∀ k,F k->k < w.heap.size) {i x : Nat} (hg : w.grownBy w' kv.ownBlock) (hi : i<=n.kids.length)
   (hown : w'.ownsRow B 3 1 kv' (n.kids.length + 1) (insInts (n.kids.map encI) i [encI x])) (hnew : ∀ k,kv'.ownBlock=some k->kv.ownBlock=some k \/ w.heap.size<=k) :
   NodeU F w' B cv kv' ⟨n.leaf,n.cells,insAt n.kids i x⟩:=by
 have hO : Only (fun j => kv.ownBlock=some j) w w':=(Only.refl _ w).grown hg (fun k hk _ => hk)
 obtain ⟨rows,h1,h2,h3⟩:=h.rows
 refine ⟨⟨rows,h1,hO.row h2 fun k hk => own_ne h2 h.kids (by decide) k hk,h3.keepW hO fun k cs hk hb => own_blk_ne h.kids hb (by decide) hk⟩,?_,h.rF,fun k hk hf => ?_⟩
 · show w'.ownsRow B 3 1 kv' (insAt n.kids i x).length _
   rw [insAt_len _ _ _ hi,insInts_map]
   exact hown
 · rcases hnew k hk with h9 | h9
   · exact h.kF k h9 hf
   · have:=hFw k hf; omega
end
structure PutS (F : Nat->Prop) (w : World) (gp : Nat) (st : PgS) (B gn : Nat) (cv kv : Value) (lf : Bool) (n : NodeP) (S : Nat->Prop) (w' : World) : Prop where
 pg : PgAt w' F gp st
 node : NodeU F w' B cv kv n
 blk : Blk w' gn 89 #[.bool lf,cv,kv]
 only : Only S w w'
theorem put_cell (w : World) (F : Nat->Prop) (gp : Nat) (st : PgS) (hP : PgAt w F gp st) (B gn gx i : Nat) (cv kv : Value) (n : NodeP) (lf : Bool) (c : CellP) (x0 x1 x2 x3 : Value) (hU : NodeU F w B cv kv n) (hb : Blk w gn 89 #[.bool lf,cv,kv]) (hnF : ¬ F gn)
   (hv : CellV (byteOf F w) w [x0,x1,x2,x3] c) (hx : Blk w gx 83 #[x0,x1,x2,x3]) (hxn : cv.ownBlock ≠ some gx) (hi : i<=n.cells.length) (hlen : n.cells.length<=100000) (hB : B<=w.heap.size) :
   Calls Tryz.prog 40 #[cv,.int .i64 (i : Int),.slice (some ⟨gx,0,none⟩) 1 1] w fun e w4 => ∃ A' c',e=.returned (.slice A' (n.cells.length + 1) c')/\Blk w4 gn 89 #[.bool lf,cv,kv] /\
     PutS F w gp st B gn (.slice A' (n.cells.length + 1) c') kv lf ⟨n.leaf,insAt n.cells i c,n.kids⟩ (fun k => cv.ownBlock=some k \/ k=gn) (w4.setCell ⟨gn,1,none⟩ (.slice A' (n.cells.length + 1) c')):=by
 obtain ⟨rows,hr1,hr2,hr3⟩:=hU.rows
 have h1 : ∀ u ∈ [x0,x1,x2,x3],u.oneCell'=true:=by
   obtain ⟨kA,kc,vA,vc,e,_⟩:=hv
   rw [e]
   intro u hu
   simp at hu
   rcases hu with rfl | rfl | rfl | rfl <;> rfl
 refine (ins_any w B cv n.cells.length i rows.flatten hr2 hi hB (hr3.one hr1) gx (.inr hxn) x0 x1 x2 x3 h1 hx hlen).mono ?_
 rintro e w4 ⟨v',rfl,hown,hg,hnew⟩
 obtain ⟨A',c',rfl⟩:=own_form hown
 have hb4:=hb.grown hg fun e => own_blk_ne hr2 hb (by decide) e.symm
 have hU4:=hU.insC hP.lt hg hi rows hr1 hr2 hr3 hv hown hnew
 have hO3 : Only (fun k => k=gn) w4 (w4.setCell ⟨gn,1,none⟩ (.slice A' (n.cells.length + 1) c')):=(Only.refl (fun k => k=gn) w4).setCell (p:=⟨gn,1,none⟩) (fun _ => rfl) _
 have hO2 : Only (fun k => cv.ownBlock=some k) w w4:=(Only.refl _ _).grown hg (fun k hk _ => hk)
 refine ⟨A',c',rfl,hb4,(hP.grown hg (fun k hk hf => hU.rF k hk hf)).set_ hnF _,hU4.only hO3 fun k hk => by subst hk; exact ⟨_,_,hb4,by decide,by decide,by decide⟩,hb4.set_ 1 _,?_⟩
 exact (hO2.mono fun k _ h => .inl h).trans (hO3.mono fun k _ h => .inr h) (fun k hk h => h)
theorem put_kid (w : World) (F : Nat->Prop) (gp : Nat) (st : PgS) (hP : PgAt w F gp st) (B gn gx i x : Nat) (cv kv : Value) (n : NodeP) (lf : Bool) (hU : NodeU F w B cv kv n) (hb : Blk w gn 89 #[.bool lf,cv,kv]) (hnF : ¬ F gn)
   (hx : Blk w gx 3 #[.int .i64 (x : Int)]) (hxn : kv.ownBlock ≠ some gx) (hi : i<=n.kids.length) (hlen : n.kids.length<=100000) (hB : B<=w.heap.size) :
   Calls Tryz.prog 74 #[kv,.int .i64 (i : Int),.slice (some ⟨gx,0,none⟩) 1 1] w fun e w4 => ∃ A' c',e=.returned (.slice A' (n.kids.length + 1) c')/\Blk w4 gn 89 #[.bool lf,cv,kv] /\
     PutS F w gp st B gn cv (.slice A' (n.kids.length + 1) c') lf ⟨n.leaf,n.cells,insAt n.kids i x⟩ (fun k => kv.ownBlock=some k \/ k=gn) (w4.setCell ⟨gn,2,none⟩ (.slice A' (n.kids.length + 1) c')):=by
 refine (insI_any w B kv n.kids.length i (n.kids.map encI) hU.kids hi hB (fun u hu => by obtain ⟨y,_,rfl⟩:=List.mem_map.1 hu; rfl) gx (.inr hxn) (.int .i64 (x : Int)) (fun u hu => by rw [List.mem_singleton.1 hu]; rfl) hx hlen).mono ?_
 rintro e w4 ⟨v',rfl,hown,hg,hnew⟩
 obtain ⟨A',c',rfl⟩:=own_form hown
 have hb4:=hb.grown hg fun e => own_blk_ne hU.kids hb (by decide) e.symm
 have hU4:=hU.insK hP.lt hg hi hown hnew
 have hO3 : Only (fun k => k=gn) w4 (w4.setCell ⟨gn,2,none⟩ (.slice A' (n.kids.length + 1) c')):=(Only.refl (fun k => k=gn) w4).setCell (p:=⟨gn,2,none⟩) (fun _ => rfl) _
 have hO2 : Only (fun k => kv.ownBlock=some k) w w4:=(Only.refl _ _).grown hg (fun k hk _ => hk)
 refine ⟨A',c',rfl,hb4,(hP.grown hg (fun k hk hf => hU.kF k hk hf)).set_ hnF _,hU4.only hO3 fun k hk => by subst hk; exact ⟨_,_,hb4,by decide,by decide,by decide⟩,hb4.set_ 2 _,?_⟩
 exact (hO2.mono fun k _ h => .inl h).trans (hO3.mono fun k _ h => .inr h) (fun k hk h => h)
def SplitS (F F3 : Nat->Prop) (w : World) (gp : Nat) (st1 : PgS) (B gn : Nat) (n : NodeP) (N K : Nat) (wx : World) : Prop :=
 ∃ A c A' c',PgAt wx F3 gp st1/\NodeU F3 wx B (.slice A (N + 1) c) (.slice A' (K + 1) c') n/\Blk wx gn 89 #[.bool false,.slice A (N + 1) c,.slice A' (K + 1) c']/\Ev F w F3 wx
set_option maxHeartbeats 2000000 in
theorem change_split (w : World) (F : Nat->Prop) (gt gp k : Nat) (st : PgS) (h : PgAt w F gp st) (ht : TreeAt w F gt gp k) (no : Nat) (n : NodeP) (hl : LoadR st no n) (hleaf : n.leaf=false) (kA : Option Addr) (kc : Nat) (key : List UInt8) (hk : MB F w kA key.length key)
   (hi : (findP n key).1 < n.kids.length) (f : FuncId) (caps : Array Value) (st1 st2 : PgS) (kno : Nat) (kk : List UInt8) (l : Option (List UInt8 × Nat)) (hrec : ∀ w1 F1,PgAt w1 F1 gp st->TreeAt w1 F1 gt gp k->Ev F w F1 w1->MB F1 w1 kA key.length key->Calls Tryz.prog 38 #[.pointer (some ⟨gt,0,none⟩),.int .i64 (kidAt n (findP n key).1 : Int),.slice kA key.length kc,.func (.func f) #[] caps] w1 (LayEnd F1 w1 gp (kidAt n (findP n key).1) st1 (some (kk,kno))))
   (hok1 : st1.ok) (hlay : LayR st1 no ⟨false,insAt n.cells (findP n key).1 ⟨kk,[],0,0⟩,insAt n.kids ((findP n key).1 + 1) kno⟩ st2 l) :
   Calls Tryz.prog 38 #[.pointer (some ⟨gt,0,none⟩),.int .i64 (no : Int),.slice kA key.length kc,.func (.func f) #[] caps] w (LayEnd F w gp no st2 l):=by
 have hrt:=hl.2.1
 have hld:=hide (load_gen w F gt gp k st h ht no n hl)
 have hgt:=Blk.lt ht.blk
 have hrise:=hl.2.1.rise
 have hmany:=hl.2.1.many
 obtain ⟨L,hL⟩ : ∃ L,L=key.length:=⟨_,rfl⟩
 rw [<- hL] at hk hrec ⊢
 replace h:=hide h
 replace ht:=hide ht
 replace hl:=hide hl
 replace hk:=hide hk
 replace hrec : Hid _:=hide hrec
 replace hi:=hide hi
 replace hlay:=hide hlay
 replace hok1:=hide hok1
 replace hrt:=hide hrt
 replace hL:=hide hL
 replace hrise:=hide hrise
 replace hmany:=hide hmany
 obtain ⟨lf,hlf⟩ : ∃ lf,lf=n.leaf:=⟨_,rfl⟩
 have hlt : lf=false:=hlf.trans hleaf
 subst hlt
 replace hlf:=hide hlf
 replace hleaf:=hide hleaf
 go_enter Tryz.func38,Tryz.ntmps38
 go_wp2_with fail
 go_at_call 45
 refine hld.out.mono ?_
 rintro e w1 ⟨F1,cv,kv,B0,rfl,hP1,hE1,hF1,hwB,hO1⟩
 rw [<- hlf.out]
 have hO1':=hO1.moreB (Nat.min_le_left B0 w1.heap.size)
 obtain ⟨Bm,hBm⟩ : ∃ Bm,Bm=min B0 w1.heap.size:=⟨_,rfl⟩
 rw [<- hBm] at hO1'
 have hFm : ∀ j,F1 j->j < Bm:=fun j hj => by have:=hF1 j hj; have:=hP1.lt j hj; omega
 have hwm : w.heap.size<=Bm:=by have:=hE1.size; omega
 have hms : Bm<=w1.heap.size:=by omega
 have hW1:=hO1'.toW hFm
 obtain ⟨gk,c1,rfl,hck,_,_,hgk⟩:=hW1.toU.kid_form (Nat.lt_of_le_of_lt (Nat.zero_le _) hi.out)
 obtain ⟨A2,c2,rfl⟩:=own_form hW1.rows.choose_spec.2.1
 obtain ⟨N,hN⟩ : ∃ N,N=n.cells.length:=⟨_,rfl⟩
 obtain ⟨K,hK⟩ : ∃ K,K=n.kids.length:=⟨_,rfl⟩
 rw [<- hN,<- hK] at hW1 ⊢
 rw [<- hK] at hi hck
 replace hN:=hide hN
 replace hK:=hide hK
 replace hO1:=hide hO1
 replace hO1':=hide hO1'
 replace hF1:=hide hF1
 replace hFm:=hide hFm
 replace hBm:=hide hBm
 replace hP1:=hide hP1
 replace hE1:=hide hE1
 replace hW1:=hide hW1
 go_wp2_with fail
 have hnF1 : ¬ F1 w1.heap.size:=fun hf => by have:=hP1.out.lt _ hf; omega
 have hbn:=Blk.new w1 89 #[.bool false,.slice A2 N c2,.slice (some ⟨gk,0,none⟩) K c1]
 have hE1a : Ev F w F1 (w1.alloc (.cells #[.bool false,.slice A2 N c2,.slice (some ⟨gk,0,none⟩) K c1] 89)):=hE1.out.alloc_ _
 have hfd:=hide (find_any (w1.alloc (.cells #[.bool false,.slice A2 N c2,.slice (some ⟨gk,0,none⟩) K c1] 89)) (.agg #[.bool false,.slice A2 N c2,.slice (some ⟨gk,0,none⟩) K c1]) n (by
   have h9:=(hW1.out.nodeM.ev ((Ev.refl F1 w1).alloc_ (.cells #[.bool false,.slice A2 N c2,.slice (some ⟨gk,0,none⟩) K c1] 89))).old fun k hk => hk.1
   rw [<- hlf.out] at h9
   exact h9) hrise.out (by have:=hmany.out; omega) kA kc key (by have h9:=(hk.out.ev hE1a).rb; rw [hL.out] at h9; exact h9))
 rw [<- hL.out] at hfd
 obtain ⟨I,hI⟩ : ∃ I,I=(findP n key).1:=⟨_,rfl⟩
 obtain ⟨S,hS⟩ : ∃ S,S=(findP n key).2:=⟨_,rfl⟩
 rw [<- hI,<- hS] at hfd
 rw [<- hI] at hrec hlay hi
 replace hI:=hide hI
 replace hS:=hide hS
 go_at_call 46
 refine hfd.out.mono ?_
 rintro e w2 ⟨rfl,hB2⟩
 have hb2:=hbn.below hB2 (by simp)
 have hP2:=(hP1.out.alloc (.cells #[.bool false,.slice A2 N c2,.slice (some ⟨gk,0,none⟩) K c1] 89)).below hB2
 have hE2:=hE1a.below hB2
 have hW2 : NodeW F1 w2 Bm (.slice A2 N c2) (.slice (some ⟨gk,0,none⟩) K c1) n:=hW1.out.only (((Only.refl (fun _ => False) w1).alloc _).trans (Only.of_below hB2) (fun _ _ h => h)) (fun _ h => h.elim)
 have hs2:=hE2.size
 have k2:=hW2.toU.kid_at I (by rw [<- hK.out]; exact hi.out)
 obtain ⟨kid,hkid⟩ : ∃ kid,kid=kidAt n I:=⟨_,rfl⟩
 rw [<- hkid] at k2 hrec
 have hrc:=hide (hrec.out w2 F1 hP2 (ht.out.ev hE2) hE2 (hk.out.ev hE2))
 have hiI : (I : Int) < (K : Int):=by have:=hi.out; omega
 have hi0 : (0 : Int)<=(I : Int):=by omega
 replace hck:=hide hck
 replace hkid:=hide hkid
 have d0:=hb2.cell 0
 have d1:=hb2.cell 1
 have d2:=hb2.cell 2
 replace hb2:=hide hb2
 replace hbn:=hide hbn
 replace hB2:=hide hB2
 replace hP2:=hide hP2
 replace hE1a:=hide hE1a
 replace hE2:=hide hE2
 replace hW2:=hide hW2
 replace hnF1:=hide hnF1
 go_wp2_with fail
 go_at_call 38
 refine hrc.out.mono ?_
 rintro e w3 ⟨F3,gl,m,rfl,hP3,hE3,hgl,hnl,hpc⟩
 obtain ⟨rfl,kA2,kc2,hbl,hrd,hkc2⟩:=hpc
 have hU3:=hW2.out.toU.ev hE3
 have hb3 : Blk w3 w1.heap.size 89 #[.bool false,.slice A2 N c2,.slice (some ⟨gk,0,none⟩) K c1]:=hE3.only.blk hb2.out hnF1.out
 replace hb3:=hide hb3
 replace hbl:=hide hbl
 replace hU3:=hide hU3
 replace hP3:=hide hP3
 replace hE3:=hide hE3
 go_wp2_with fail
 have hE23:=hE2.out.trans hE3.out
 have hnF3 : ¬ F3 w1.heap.size:=hE3.out.new hnF1.out hb2.out.lt
 obtain ⟨KL,hKL⟩ : ∃ KL,KL=kk.length:=⟨_,rfl⟩
 rw [<- hKL] at hbl hrd hkc2
 have p2:=hbl.out.cell 2
 have p3:=hbl.out.cell 3
 replace hrd:=hide hrd
 replace hkc2:=hide hkc2
 replace hKL:=hide hKL
 obtain ⟨gn,hgn⟩ : ∃ gn,gn=w1.heap.size:=⟨_,rfl⟩
 rw [<- hgn] at hb3 hb2 hnF3 ⊢
 have hgnw : w.heap.size<=gn:=by rw [hgn]; exact hE1.out.size
 have hgn3 : gn < w3.heap.size:=hb3.out.lt
 have hIN : I<=n.cells.length:=by
   have h9:=hrt.out.kidsIn hleaf.out
   have:=hi.out
   rw [hK.out,h9] at this
   omega
 have hNK : n.kids.length<=100000:=by have:=hrt.out.kidsIn hleaf.out; have:=hmany.out; omega
 have hNc : n.cells.length<=100000:=by have:=hmany.out; omega
 have hB3 : Bm<=w3.heap.size:=by have:=hE23.size; have:=hE2.out.size; have:=hE3.out.size; have h9:=hB2.out.size; simp at h9; omega
 obtain ⟨wA,hwA⟩ : ∃ wA,wA=w3.alloc (.cells #[.slice kA2 KL kc2,.int .i64 (kno : Int)] 131):=⟨_,rfl⟩
 obtain ⟨wB,hwB⟩ : ∃ wB,wB=wA.alloc (.cells #[.slice kA2 KL kc2,.slice none 0 0,.int .i64 0,.int .i64 0] 83):=⟨_,rfl⟩
 have hEA : Ev F3 w3 F3 wA:=by rw [hwA]; exact (Ev.refl F3 w3).alloc_ _
 have hEB : Ev F3 w3 F3 wB:=by rw [hwB]; exact hEA.alloc_ _
 have hbpA : Blk wA w3.heap.size 131 #[.slice kA2 KL kc2,.int .i64 (kno : Int)]:=by rw [hwA]; exact Blk.new w3 131 _
 have hbpB : Blk wB w3.heap.size 131 #[.slice kA2 KL kc2,.int .i64 (kno : Int)]:=by rw [hwB]; exact hbpA.alloc _
 have hbcB : Blk wB wA.heap.size 83 #[.slice kA2 KL kc2,.slice none 0 0,.int .i64 0,.int .i64 0]:=by rw [hwB]; exact Blk.new wA 83 _
 have hsA : wA.heap.size=w3.heap.size + 1:=by rw [hwA]; simp
 have hUB:=hU3.out.ev hEB
 have hPB : PgAt wB F3 gp st1:=by rw [hwB,hwA]; exact (hP3.out.alloc _).alloc _
 have hbB:=hEB.blk hb3.out hnF3
 have hbA:=hEA.blk hb3.out hnF3
 have hcB : CellV (byteOf F3 wB) wB [.slice kA2 KL kc2,.slice none 0 0,.int .i64 0,.int .i64 0] ⟨kk,[],0,0⟩:=by
   refine ⟨kA2,kc2,none,0,by rw [hKL.out]; rfl,by rw [<- hKL.out]; exact hkc2.out,Nat.le_refl _,?_,by simpa [bv] using Rd.none_⟩
   rw [<- hKL.out]
   exact hrd.out.evB hEB
 have hnB : (Value.slice A2 N c2).ownBlock ≠ some wA.heap.size:=fun e => by
   have h9:=hU3.out.rows.choose_spec.2.1
   have h8:=(own_lt h9 e).2
   omega
 have hpc1:=hide (put_cell wB F3 gp st1 hPB Bm gn wA.heap.size I (.slice A2 N c2) (.slice (some ⟨gk,0,none⟩) K c1) n false ⟨kk,[],0,0⟩ _ _ _ _ hUB hbB hnF3 hcB hbcB hnB hIN hNc (Nat.le_trans hB3 hEB.size))
 rw [<- hN.out] at hpc1
 have pA0:=hbpA.cell 0
 have pA1:=hbpA.cell 1
 have qA1:=hbA.cell 1
 replace hEA:=hide hEA
 replace hEB:=hide hEB
 replace hbpA:=hide hbpA
 replace hbpB:=hide hbpB
 replace hbcB:=hide hbcB
 replace hUB:=hide hUB
 replace hPB:=hide hPB
 replace hbB:=hide hbB
 replace hbA:=hide hbA
 replace hcB:=hide hcB
 replace hnB:=hide hnB
 replace hsA:=hide hsA
 replace hgn:=hide hgn
 replace hE23:=hide hE23
 replace hnF3:=hide hnF3
 replace hwA:=hide hwA
 replace hwB:=hide hwB
 go_loopw [67] (fun v67 wx => (v67=.int .i64 0/\wx=w3) \/ (v67=.int .i64 1/\Hid (SplitS F F3 w gp st1 Bm gn ⟨false,insAt n.cells I ⟨kk,[],0,0⟩,insAt n.kids (I + 1) kno⟩ N K wx))) (fun v67 _ => 1 - (intOf v67).toNat)
 case atStart => exact .inl ⟨rfl,rfl⟩
 case round =>
   rcases hrel with ⟨rfl,hwr⟩ | ⟨rfl,hS⟩
   · subst hwr
     go_upto_region 16 with (fail)
     rw [<- hwA.out]
     go_wp2_with fail
     go_at_call 40
     rw [<- hwB.out]
     refine hpc1.out.mono ?_
     rintro e w4 ⟨A4,c4,rfl,hb4,hS4⟩
     have m1:=hb4.cell 1
     have f1:=hb4.frozen 1
     obtain ⟨w5,hw5⟩ : ∃ w5,w5=w4.setCell ⟨gn,1,none⟩ (.slice A4 (N + 1) c4):=⟨_,rfl⟩
     rw [<- hw5] at hS4
     have hE5 : Ev F w F3 w5:=by
       have h9:=hE23.out.trans hEB.out
       refine ⟨h9.only.trans hS4.only fun i hi hT => ?_,h9.grow⟩
       rcases hT with hT | hT
       · have h8 := hW1.out.rows.choose_spec.2.1
         have h7:=(own_lt h8 hT).1
         omega
       · omega
     have hpc5 : Blk w5 wr.heap.size 131 #[.slice kA2 KL kc2,.int .i64 (kno : Int)]:=hS4.only.blk hbpB.out (by
       rintro (e | e)
       · have h8 := hUB.out.rows.choose_spec.2.1
         exact own_blk_ne h8 hbpB.out (by decide) e
       · omega)
     obtain ⟨wC,hwC⟩ : ∃ wC,wC=w5.alloc (.cells #[.int .i64 (kno : Int)] 3):=⟨_,rfl⟩
     have hEC : Ev F3 w5 F3 wC:=by rw [hwC]; exact (Ev.refl F3 w5).alloc_ _
     have hnC : (Value.slice (some ⟨gk,0,none⟩) K c1).ownBlock ≠ some w5.heap.size:=fun e => by
       have h8:=(own_lt hS4.node.kids e).2
       omega
     have hxC : Blk wC w5.heap.size 3 #[.int .i64 (kno : Int)]:=by rw [hwC]; exact Blk.new w5 3 _
     have hb5:=hS4.blk
     have hbC:=hEC.blk hb5 hnF3.out
     have hPC : PgAt wC F3 gp st1:=by rw [hwC]; exact hS4.pg.alloc _
     have hpk:=hide (put_kid wC F3 gp st1 hPC Bm gn w5.heap.size (I + 1) kno (.slice A4 (N + 1) c4) (.slice (some ⟨gk,0,none⟩) K c1) _ false (hS4.node.ev hEC) hbC hnF3.out hxC hnC (by have:=hi.out; rw [hK.out] at this; exact this) hNK (Nat.le_trans hB3 (Nat.le_trans hEB.out.size (Nat.le_trans hS4.only.size hEC.size))))
     have q0:=hpc5.cell 0
     have q1:=hpc5.cell 1
     have q2:=hb5.cell 2
     have hIJ : (I : Int) + 0 + 1=((I + 1 : Nat) : Int):=by omega
     replace hb4:=hide hb4
     replace hS4:=hide hS4
     replace hE5:=hide hE5
     replace hpc5:=hide hpc5
     replace hEC:=hide hEC
     replace hnC:=hide hnC
     replace hxC:=hide hxC
     replace hb5:=hide hb5
     replace hbC:=hide hbC
     replace hPC:=hide hPC
     replace hwC:=hide hwC
     replace hw5:=hide hw5
     go_upto_region 17 with (fail)
     rw [<- hw5.out]
     go_wp2_with fail
     go_at_call 74
     rw [<- hwC.out]
     refine hpk.out.mono ?_
     rintro e w6 ⟨A6,c6,rfl,hb6,hS6⟩
     have hdone : Hid (SplitS F F3 w gp st1 Bm gn ⟨false,insAt n.cells I ⟨kk,[],0,0⟩,insAt n.kids (I + 1) kno⟩ N K (w6.setCell ⟨gn,2,none⟩ (.slice A6 (n.kids.length + 1) c6))):=hide (by
       have h9:=hE5.out.trans hEC.out
       have h8:=hS4.out.node.kids
       have h7:=hE23.out.trans hEB.out
       have hnf:=hlf.out
       refine ⟨A4,c4,A6,c6,hS6.pg,?_,?_,⟨h9.only.trans hS6.only fun i hi hT => ?_,h9.grow⟩⟩
       · have h5 := hS6.node
         rw [hnf,<- hK.out] at *
         exact h5
       · have h5 := hS6.blk
         rw [<- hK.out] at h5 ⊢
         exact h5
       · rcases hT with hT | hT
         · have h6 := (own_lt hW1.out.kids hT).1
           omega
         · omega)
     rw [<- hK.out] at hdone ⊢
     have m2:=hb6.cell 2
     have f2:=hb6.frozen 2
     replace hb6:=hide hb6
     replace hS6:=hide hS6
     go_wp2_with fail
     go_roundw
     case rel => exact .inr ⟨rfl,hdone⟩
     case measure => simp only [intOf]; omega
   · obtain ⟨A4, c4, A6, c6, hP7, hU7, hb7, hE7⟩ := hS.out
     obtain ⟨n7,hn7⟩ : ∃ n7 : NodeP,n7=⟨false,insAt n.cells I ⟨kk,[],0,0⟩,insAt n.kids (I + 1) kno⟩:=⟨_,rfl⟩
     rw [<- hn7] at hU7 hlay
     have hl7 : n7.leaf=false:=by rw [hn7]
     have hc7 : n7.cells.length=N + 1:=by rw [hn7,hN.out]; exact insAt_len _ _ _ hIN
     have hk7 : n7.kids.length=K + 1:=by rw [hn7,hK.out]; exact insAt_len _ _ _ (by have:=hi.out; rw [hK.out] at this; exact this)
     have hly:=hide (lay_any wr F3 gt gp k st1 st2 hP7 (ht.out.ev hE7) hok1.out no n7 l (.agg #[.bool false,.slice A4 (N + 1) c4,.slice A6 (K + 1) c6]) (by have h9:=hU7.nodeM; rw [hl7] at h9; exact h9) (by have h9:=hU7.keysIn; rw [hl7] at h9; exact h9) hlay.out)
     have q0:=hb7.cell 0
     have q1:=hb7.cell 1
     have q2:=hb7.cell 2
     have hs7:=hE7.size
     replace hP7:=hide hP7
     replace hU7:=hide hU7
     replace hb7:=hide hb7
     replace hE7:=hide hE7
     replace hn7:=hide hn7
     replace hl7:=hide hl7
     replace hc7:=hide hc7
     replace hk7:=hide hk7
     go_wp2_with fail
     go_at_call 73
     refine hly.out.mono ?_
     rintro e w8 ⟨F8,g8,m8,rfl,hP8,hE8,hgl8,hnl8,hpc8⟩
     have hdone : Hid (LayEnd F w gp no st2 l (.returned (.tuple #[.slice (some ⟨g8,0,none⟩) m8 m8,.int .i64 0])) w8):=hide ⟨F8,g8,m8,rfl,hP8,hE7.out.trans hE8,by omega,hnl8,hpc8⟩
     replace hP8:=hide hP8
     replace hE8:=hide hE8
     replace hpc8 : Hid _:=hide hpc8
     go_wp2_with fail
     go_ret2
     exact hdone.out
def OpOk (op : OpR) : Prop:=∀ st n i is st1 n1,st.ok->RightP n->op st n i is st1 n1->st1.ok
theorem ChangeR.ok {op : OpR} {key : List UInt8} {st st' : PgS} {no : Nat} {l : Option (List UInt8 × Nat)} (h : ChangeR op key st no st' l) (hop : OpOk op) : st.ok->st'.ok:=by
 induction h with
 | leaf st1 st2 no n n1 l hl hf ho hy => exact fun hok => hy.ok (hop _ _ _ _ _ _ hok hl.2.1 ho)
 | split st1 st2 no kno n kk l hl hf hi hc hy ih => exact fun hok => hy.ok (ih hok)
 | one st1 st2 st3 no n n2 l hl hf hi hc hm hy ih => exact fun hok => hy.ok (hm.ok (ih hok))
theorem tchange_any (gt gp k : Nat) (kA : Option Addr) (kc : Nat) (key : List UInt8) (f : FuncId) (caps : Array Value) (op : OpR) (hfn : ∀ args wx,(callFunc f args).run Tryz.prog wx=.ok (.enter f args) wx) (hopk : OpOk op)
   {st st' : PgS} {no : Nat} {l : Option (List UInt8 × Nat)} (hc : ChangeR op key st no st' l) :
   st.ok->∀ (w : World) (F : Nat->Prop),PgAt w F gp st->TreeAt w F gt gp k->MB F w kA key.length key->OpG f caps op w F gp st ->
   Calls Tryz.prog 38 #[.pointer (some ⟨gt,0,none⟩),.int .i64 (no : Int),.slice kA key.length kc,.func (.func f) #[] caps] w (LayEnd F w gp no st' l):=by
 induction hc with
 | leaf st1 st2 no n n1 l hl hf ho hy =>
   intro hok w F hP ht hk hop
   exact change_leafG w F gt gp k st hP ht no n hl hf kA kc key hk f caps op st1 st2 n1 l hfn hop ho (hopk _ _ _ _ _ _ hok hl.2.1 ho) hy
 | split st1 st2 no kno n kk l hl hf hi hc hy ih =>
   intro hok w F hP ht hk hop
   exact change_split w F gt gp k st hP ht no n hl hf kA kc key hk hi f caps st1 st2 kno kk l (fun w1 F1 hP1 ht1 hE hk1 => ih hok w1 F1 hP1 ht1 hk1 (hop.ev hE)) (hc.ok hopk hok) hy
 | one st1 st2 st3 no n n2 l hl hf hi hc hm hy ih =>
   intro hok w F hP ht hk hop
   exact change_one w F gt gp k st hP ht no n hl hf kA kc key hk hi f caps st1 st2 st3 n2 l (fun w1 F1 hP1 ht1 hE hk1 => ih hok w1 F1 hP1 ht1 hk1 (hop.ev hE)) (hc.ok hopk hok) (hm.ok (hc.ok hopk hok)) hm hy
theorem kids_nth {T : KeyB->Option KeyB->Nat->List CellP->List Nat->Prop} {cs : List CellP} {ks : List Nat} {lo : KeyB} {hi : Option KeyB} {L : List CellP} {P : List Nat} (h : Kids T cs ks lo hi L P) :
   ∀ (i k : Nat),ks[i]?=some k->∃ l p,T (if i=0 then lo else keyOfC cs (i - 1)) (if i < cs.length then some (keyOfC cs i) else hi) k l p:=by
 induction h with
 | one k lo hi L P h =>
   intro i k' hk
   cases i with
   | zero => simp at hk; subst hk; exact ⟨L,P,by simpa using h⟩
   | succ i => simp at hk
 | more c cs k ks lo hi l p L P hb h hr ih =>
   intro i k' hk
   cases i with
   | zero => simp at hk; subst hk; exact ⟨l,p,by simpa [keyOfC] using h⟩
   | succ i =>
     obtain ⟨l',p',h1⟩:=ih i k' (by simpa using hk)
     refine ⟨l',p',?_⟩
     rw [if_neg (by omega)]
     have e1 : keyOfC (c :: cs) (i + 1)=keyOfC cs i:=by simp [keyOfC]
     have e2 : (if i + 1 < (c :: cs).length then some (keyOfC (c :: cs) (i + 1)) else hi)=if i < cs.length then some (keyOfC cs i) else hi:=by
       rw [e1]; simp
     rw [e2]
     cases i with
     | zero => simpa [keyOfC] using h1
     | succ i => simpa [keyOfC] using h1
def WkEnd (F : Nat->Prop) (w : World) (gp : Nat) (st : PgS) (e : Ending) (w' : World) : Prop:=e=.returned (.int .i64 0)/\∃ F',PgAt w' F' gp st/\Ev F w F' w'
def WkC (gt gp k gh H : Nat) (st : PgS) (h m : Nat) (lo : KeyB) (hi : Option KeyB) (no : Nat) : Prop :=
 ∀ (w : World) (F : Nat -> Prop) (deep : Nat) (fv tv : Value), PgAt w F gp st -> TreeAt w F gt gp k -> Blk w gh 3 #[.int .i64 (H : Int)] -> ¬ F gh -> deep + h = H -> 1 <= deep -> (1 < deep -> 127 <= m) -> FromV (Mine F w) w fv lo -> ToV (Mine F w) w tv hi -> H <= 1000 ->
   Calls Tryz.prog 48 #[.pointer (some ⟨gt,0,none⟩),.int .i64 (no : Int),.int .i64 (deep : Int),fv,tv,.func (.func 49) #[] #[.pointer (some ⟨gh,0,none⟩)]] w (WkEnd F w gp st)
theorem cells_some {n : NodeP} {m : Nat} (h7 : 7<=m) (hz : m<=sizeP n) : n.cells ≠ []:=by
 intro e
 unfold sizeP at hz
 rw [e] at hz
 cases hf : n.leaf with
 | true => rw [hf] at hz; have h9 : m<=3:=hz; omega
 | false => rw [hf] at hz; have h9 : m<=6:=hz; omega
set_option maxHeartbeats 4000000 in
theorem walk_node (gt gp k gh H : Nat) (st : PgS) (h m : Nat) (lo : KeyB) (hi : Option KeyB) (no : Nat) (n : NodeP) (hl : LoadR st no n) (hz : m<=sizeP n) (h7 : 7<=m) (hleaf : n.leaf=decide (h=0)) (hkeys : ∀ c ∈ n.cells,inB lo hi c.key)
   (hrec : n.leaf=false->∀ (i kid : Nat),n.kids[i]?=some kid->WkC gt gp k gh H st (h - 1) 127 (if i=0 then lo else keyOfC n.cells (i - 1)) (if i < n.cells.length then some (keyOfC n.cells i) else hi) kid) : WkC gt gp k gh H st h m lo hi no:=by
 intro w F deep fv tv hP ht hb hnh hdh hd1 hthin hf hto hH
 have hne:=cells_some h7 hz
 have hrt:=hl.2.1
 have hld:=hide (load_gen w F gt gp k st hP ht no n hl)
 have hsz : sizeP n<=508:=by
   obtain ⟨z,hz2⟩:=hl.2.2
   have h9:=hP.len hl.1
   have h8:=congrArg List.length hz2
   rw [h9,List.length_append,packP_len] at h8
   omega
 have hgt:=Blk.lt ht.blk
 have hlfd : n.leaf=decide (deep=H):=by
   rw [hleaf]
   by_cases h0 : h=0
   · rw [decide_eq_true h0,decide_eq_true (by omega)]
   · rw [decide_eq_false h0,decide_eq_false (by omega)]
 have hmany:=hrt.many
 obtain ⟨fA,fl,fc,rfl,hfl,hfr⟩:=hf
 have hf : FromV (Mine F w) w (.slice fA fl fc) lo:=⟨fA,fl,fc,rfl,hfl,hfr⟩
 obtain ⟨lf,hlf⟩ : ∃ lf,lf=n.leaf:=⟨_,rfl⟩
 replace hP:=hide hP
 replace ht:=hide ht
 replace hl:=hide hl
 replace hb:=hide hb
 replace hf:=hide hf
 replace hfl:=hide hfl
 replace hfr:=hide hfr
 replace hto:=hide hto
 replace hrt:=hide hrt
 replace hlf:=hide hlf
 replace hleaf:=hide hleaf
 replace hlfd:=hide hlfd
 replace hkeys:=hide hkeys
 replace hrec : Hid _:=hide hrec
 replace hthin : Hid _:=hide hthin
 replace hne:=hide hne
 replace hdh:=hide hdh
 replace hsz:=hide hsz
 replace hz:=hide hz
 replace hnh:=hide hnh
 have hdI : (deep : Int)<=1000:=by have:=hdh.out; omega
 go_enter Tryz.func48,Tryz.ntmps48
 go_wp2_with fail
 go_at_call 45
 refine hld.out.mono ?_
 rintro e w1 ⟨F1,cv,kv,B0,rfl,hP1,hE1,hF1,hwB,hO1⟩
 rw [<- hlf.out]
 have hO1':=hO1.moreB (Nat.min_le_left B0 w1.heap.size)
 obtain ⟨Bm,hBm⟩ : ∃ Bm,Bm=min B0 w1.heap.size:=⟨_,rfl⟩
 rw [<- hBm] at hO1'
 have hFm : ∀ j,F1 j->j < Bm:=fun j hj => by have:=hF1 j hj; have:=hP1.lt j hj; omega
 have hU1:=(hO1'.toW hFm).toU
 obtain ⟨A2,c2,rfl⟩:=own_form hU1.rows.choose_spec.2.1
 obtain ⟨A1,c1,rfl⟩:=own_form hU1.kids
 obtain ⟨N,hN⟩ : ∃ N,N=n.cells.length:=⟨_,rfl⟩
 obtain ⟨K,hK⟩ : ∃ K,K=n.kids.length:=⟨_,rfl⟩
 rw [<- hN,<- hK] at hU1 ⊢
 obtain ⟨w2,hw2⟩ : ∃ w2,w2=w1.alloc (.cells #[.bool lf,.slice A2 N c2,.slice A1 K c1] 89):=⟨_,rfl⟩
 have hE12 : Ev F1 w1 F1 w2:=by rw [hw2]; exact (Ev.refl F1 w1).alloc_ _
 have hE2:=hE1.trans hE12
 have hP2 : PgAt w2 F1 gp st:=by rw [hw2]; exact hP1.alloc _
 have hbn : Blk w2 w1.heap.size 89 #[.bool lf,.slice A2 N c2,.slice A1 K c1]:=by rw [hw2]; exact Blk.new w1 89 _
 have hnF1 : ¬ F1 w1.heap.size:=fun hf => by have:=hP1.lt _ hf; omega
 have hU2:=hU1.ev hE12
 have hM2:=hU2.nodeM
 rw [<- hlf.out] at hM2
 have hck:=hide (chk1_any w2 F1 gh H (hE2.blk hb.out hnh.out) no deep n (.agg #[.bool lf,.slice A2 N c2,.slice A1 K c1]) (.slice fA fl fc) tv lo hi hM2 hrt.out (by have:=hsz.out; omega) hlfd.out (fun h9 => by have:=hthin.out h9; have:=hz.out; omega) hne.out hkeys.out (hf.out.ev hE2) (hto.out.ev hE2) (by omega))
 have n0:=hbn.cell 0
 have n1:=hbn.cell 1
 have n2:=hbn.cell 2
 have hw2e : w1.alloc (.cells #[.bool lf,.slice A2 N c2,.slice A1 K c1] 89)=w2:=hw2.symm
 replace hN:=hide hN
 replace hK:=hide hK
 replace hO1:=hide hO1
 replace hO1':=hide hO1'
 replace hF1:=hide hF1
 replace hFm:=hide hFm
 replace hBm:=hide hBm
 replace hP1:=hide hP1
 replace hE1:=hide hE1
 replace hU1:=hide hU1
 replace hw2:=hide hw2
 replace hE12:=hide hE12
 replace hE2:=hide hE2
 replace hP2:=hide hP2
 replace hbn:=hide hbn
 replace hnF1:=hide hnF1
 replace hU2:=hide hU2
 replace hM2:=hide hM2
 go_wp2_with fail
 go_at_call 49
 refine hck.out.mono ?_
 rintro e w3 ⟨rfl,hB3⟩
 have hE3:=hE2.out.below hB3
 have hP3:=hP2.out.below hB3
 have hU3:=hU2.out.ev (Ev.of_below (F:=F1) hB3)
 have hb3:=hbn.out.below hB3 (Blk.lt hbn.out)
 have m0:=hb3.cell 0
 have m1:=hb3.cell 1
 have m2:=hb3.cell 2
 clear hck n0 n1 n2 hw2e
 cases hlc : lf with
 | true =>
   subst hlc
   have hdone : Hid (WkEnd F w gp st (.returned (.int .i64 0)) w3):=hide ⟨rfl,F1,hP3,hE3⟩
   replace hE3:=hide hE3
   replace hP3:=hide hP3
   replace hU3:=hide hU3
   replace hb3:=hide hb3
   replace hB3:=hide hB3
   go_wp2_with fail
   go_ret
   exact hdone.out
 | false =>
   subst hlc
   have hKN : K=N + 1:=by rw [hK.out,hN.out]; exact hrt.out.kidsIn hlf.out.symm
   have hNp : 0 < N:=by rw [hN.out]; exact List.length_pos_iff.2 hne.out
   have hKI : (K : Int)<=70000:=by have:=hN.out; omega
   have hnF3:=hnF1.out
   obtain ⟨gk,c1',hkv,hck',_,_,_⟩:=hU3.kid_form (by have:=hK.out; omega)
   rw [<- hK.out] at hkv hck'
   injection hkv with hA1 _ hc1
   subst hA1 hc1
   obtain ⟨gr,c2',hrv,hcr',_,_,_⟩:=hU3.cell_form (by have:=hN.out; omega)
   rw [<- hN.out] at hrv hcr'
   injection hrv with hA2 _ hc2
   subst hA2 hc2
   have hcKI : (K : Int)<=(c1 : Int):=by omega
   have hcNI : (N : Int)<=(c2 : Int):=by omega
   have hst : Hid (∃ F',PgAt w3 F' gp st/\Ev F1 w3 F' w3):=hide ⟨F1,hP3,Ev.refl _ _⟩
   replace hE3:=hide hE3
   replace hP3:=hide hP3
   replace hU3:=hide hU3
   replace hb3:=hide hb3
   replace hB3:=hide hB3
   replace hnF3:=hide hnF3
   go_wp2_with fail
   go_loopw [47] (fun v47 wx => ∃ i : Nat,v47=.int .i64 (i : Int)/\i<=K/\Hid (∃ F',PgAt wx F' gp st/\Ev F1 w3 F' wx)) (fun v47 _ => K - (intOf v47).toNat)
   case atStart => exact ⟨0,rfl,by omega,hst⟩
   case round =>
     obtain ⟨i,rfl,hiK,hS⟩:=hrel
     obtain ⟨F4,hP4,hE4⟩:=hS.out
     clear hst m0 m1 m2 hS
     have hb4:=hE4.blk hb3.out hnF3.out
     have m1:=hb4.cell 2
     by_cases hlt : i < K
     · have hU4 := hU3.out.ev hE4
       have hEw:=hE3.out.trans hE4
       have hlk : i < n.kids.length:=by rw [<- hK.out]; exact hlt
       have k4:=hU4.kid_at i hlk
       obtain ⟨kid,hkid⟩ : ∃ kid,n.kids[i]?=some kid:=⟨n.kids[i],List.getElem?_eq_getElem hlk⟩
       have hki : kidAt n i=kid:=by simp [kidAt,hkid]
       rw [hki] at k4
       have hltI : (i : Int) < (K : Int):=by omega
       have hiI : (i : Int)<=70000:=by omega
       have hi0 : (0 : Int)<=(i : Int):=by omega
       have hcI : (i : Int) < (c1 : Int):=by omega
       have c4:=hb4.cell 1
       have d4:=hb4.cell 2
       replace hU4:=hide hU4
       replace hEw:=hide hEw
       replace hP4:=hide hP4
       replace hE4:=hide hE4
       replace hb4:=hide hb4
       replace hkid:=hide hkid
       replace hlk:=hide hlk
       replace hki:=hide hki
       clear m1
       obtain ⟨LO,hLO⟩ : ∃ LO,LO=if i=0 then lo else keyOfC n.cells (i - 1):=⟨_,rfl⟩
       obtain ⟨HI,hHI⟩ : ∃ HI,HI=if i < n.cells.length then some (keyOfC n.cells i) else hi:=⟨_,rfl⟩
       have hk0 : 1 < deep + 1->127<=127:=fun _ => Nat.le_refl _
       have hsub:=hide (hrec.out hlf.out.symm i kid hkid.out)
       rw [<- hLO,<- hHI] at hsub
       replace hLO:=hide hLO
       replace hHI:=hide hHI
       go_upto_if 55 with (fail)
       go_cut [18] (fun v18 wx => FromV (Mine F4 wr) wr v18 LO/\wx=wr)
       case first =>
         by_cases h0 : i=0
         · have hd0 : decide ((0 : Int) < (i : Int)) = false := decide_eq_false (by omega)
           have hfr4 : Hid (FromV (Mine F4 wr) wr (.slice fA fl fc) LO):=hide (by rw [hLO.out,if_pos h0]; exact hf.out.ev hEw.out)
           go_wp2_with fail
           go_meet
           case rel => exact ⟨hfr4.out,rfl⟩
         · have hd0 : decide ((0 : Int) < (i : Int)) = true := decide_eq_true (by omega)
           obtain ⟨j,hj⟩ : ∃ j,i=j + 1:=⟨i - 1,by omega⟩
           have hj1 : (i : Int) - 1=(j : Int):=by omega
           have hjN : (j : Int) < (N : Int):=by omega
           have hj0 : (0 : Int)<=(j : Int):=by omega
           have hjc : (j : Int) < (c2 : Int):=by omega
           obtain ⟨kA,kc,r0,hkr,hkl⟩:=hU4.out.key_at j (by rw [<- hN.out]; omega)
           have hfr4 : Hid (FromV (Mine F4 wr) wr (.slice kA (keyOfC n.cells j).length kc) LO):=hide (by
             rw [hLO.out,if_neg h0,show i - 1=j by omega]
             exact ⟨kA,_,kc,rfl,rfl,hkr.keep fun k hk => ⟨hk.1,rfl⟩⟩)
           replace hkr:=hide hkr
           replace hj:=hide hj
           go_wp2_with fail
           go_meet
           case rel => exact ⟨hfr4.out,rfl⟩
       case rest =>
         obtain ⟨hFV,he⟩:=hcut
         replace he:=he.symm
         subst he
         replace hFV:=hide hFV
         go_upto_if 67 with (fail)
         go_cut [19] (fun v19 wx => ToV (Mine F4 wr) wr v19 HI/\wx=wr)
         case first =>
           by_cases h0 : i < N
           · have hd0 : decide ((i : Int) < (N : Int)) = true := decide_eq_true (by omega)
             have hjN : (i : Int) < (N : Int):=by omega
             have hjc : (i : Int) < (c2 : Int):=by omega
             obtain ⟨kA,kc,r0,hkr,hkl⟩:=hU4.out.key_at i (by rw [<- hN.out]; omega)
             obtain ⟨ad,hkA,_⟩:=hkr.2 (by have:=(hrt.out.keys (n.cells[i]'(by rw [<- hN.out]; omega)) (List.getElem_mem _)).1; rw [keyOfC_at (List.getElem?_eq_getElem (by rw [<- hN.out]; omega))]; exact this)
             have hto4 : Hid (ToV (Mine F4 wr) wr (.slice kA (keyOfC n.cells i).length kc) HI):=hide (by
               rw [hHI.out,if_pos (by rw [<- hN.out]; exact h0),hkA]
               rw [hkA] at hkr
               exact ⟨ad,_,kc,rfl,rfl,hkr.keep fun k hk => ⟨hk.1,rfl⟩⟩)
             clear hkA
             replace hkr:=hide hkr
             go_wp2_with fail
             go_meet
             case rel => exact ⟨hto4.out,rfl⟩
           · have hd0 : decide ((i : Int) < (N : Int)) = false := decide_eq_false (by omega)
             have hto4 : Hid (ToV (Mine F4 wr) wr tv HI):=hide (by
               rw [hHI.out,if_neg (by rw [<- hN.out]; exact h0)]; exact hto.out.ev hEw.out)
             go_wp2_with fail
             go_meet
             case rel => exact ⟨hto4.out,rfl⟩
         case rest =>
           obtain ⟨hTV,he⟩:=hcut
           replace he:=he.symm
           subst he
           replace hTV:=hide hTV
           have hfun:=hide (hsub.out wr F4 (deep + 1) _ _ hP4.out (ht.out.ev hEw.out) (hEw.out.blk hb.out hnh.out) (fun hf4 => by
             rcases hEw.out.grow gh hf4 with h9 | h9
             · exact hnh.out h9
             · have:=Blk.lt hb.out; omega) (by have:=hdh.out; have : h ≠ 0:=(fun h9 => by have h8:=hleaf.out; rw [h9] at h8; have h7:=hlf.out; rw [h8] at h7; cases h7); omega) (by omega) (fun _ => Nat.le_refl _) hFV.out hTV.out hH)
           rw [show ((deep + 1 : Nat) : Int)=(deep : Int) + 1 from rfl] at hfun
           go_wp2_with fail
           refine hfun.out.mono ?_
           rintro e w5 ⟨rfl,F5,hP5,hE5⟩
           have hst : Hid (∃ F',PgAt w5 F' gp st/\Ev F1 w3 F' w5):=hide ⟨F5,hP5,hE4.out.trans hE5⟩
           replace hP5:=hide hP5
           replace hE5:=hide hE5
           clear hfun
           go_wp2_with fail
           go_roundw
           case rel => exact ⟨i + 1,rfl,by omega,hst⟩
           case measure => simp [intOf]; omega
     · obtain rfl : i = K := by omega
       have hdone : Hid (WkEnd F w gp st (.returned (.int .i64 0)) wr):=hide ⟨rfl,F4,hP4,hE3.out.trans hE4⟩
       replace hP4:=hide hP4
       replace hE4:=hide hE4
       replace hb4:=hide hb4
       go_wp2_with fail
       go_ret
       exact hdone.out
end Go.Proofs.YtiiljlmeililbaaGreatDoor
