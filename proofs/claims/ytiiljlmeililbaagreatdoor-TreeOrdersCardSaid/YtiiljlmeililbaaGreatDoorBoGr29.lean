/-
  Contract of Tree.Get: the way down to a leaf, the value of its cell.
-/
import Derived.Test.YtiiljlmeililbaaGreatDoorBoGr28
import Derived.Test.YtiiljlmeililbaaGreatDoorBoGr5
import Derived.Test.YtiiljlmeililbaaGreatDoorBoGr26
namespace Go.Proofs.YtiiljlmeililbaaGreatDoor
set_option linter.unusedVariables false
set_option maxRecDepth 100000
open Go.RowKit
inductive FirstL (st : PgS) : List Nat->Prop
 | nil : FirstL st []
 | leaf (no : Nat) (m : NodeP) (hno : no ≠ 0) (hl : LoadR st no m) (hf : m.leaf=true) : FirstL st [no]
 | inner (no kid : Nat) (n : NodeP) (r : List Nat) (hno : no ≠ 0) (hl : LoadR st no n) (hf : n.leaf=false) (hk : n.kids[0]?=some kid) (hd : FirstL st (kid :: r)) : FirstL st (no :: kid :: r)
theorem FirstL.head {st : PgS} {no : Nat} {r : List Nat} (h : FirstL st (no :: r)) : no ≠ 0/\∃ n,LoadR st no n/\((n.leaf=true/\r=[]) \/ (n.leaf=false/\∃ kid r',r=kid :: r'/\n.kids[0]?=some kid/\FirstL st (kid :: r'))):=by
 cases h with
 | leaf _ m hno hl hf => exact ⟨hno,m,hl,.inl ⟨hf,rfl⟩⟩
 | inner _ kid n r' hno hl hf hk hd => exact ⟨hno,n,hl,.inr ⟨hf,kid,r',rfl,hk,hd⟩⟩
def HtEnd (F : Nat->Prop) (w : World) (gp : Nat) (st : PgS) (n : Nat) (e : Ending) (w' : World) : Prop :=
 e=.returned (.tuple #[.int .i64 (n : Int),.int .i64 0])/\∃ F',PgAt w' F' gp st/\Ev F w F' w'
def HtRel (w : World) (F : Nat->Prop) (gp : Nat) (st : PgS) (path : List Nat) (j no : Nat) (wx : World) : Prop :=
 ∃ (pre rest : List Nat) (F' : Nat->Prop),path=pre ++ rest/\j=pre.length/\no=rest.headD 0/\FirstL st rest/\PgAt wx F' gp st/\Ev F w F' wx
set_option maxHeartbeats 2000000 in
theorem height_any (w : World) (F : Nat->Prop) (gt gp k : Nat) (st : PgS) (h : PgAt w F gp st) (ht : TreeAt w F gt gp k) (hk8 : k < 8) (path : List Nat) (hp : st.roots k=path.headD 0) (hd : FirstL st path) (hpl : path.length<=1000) :
   Calls Tryz.prog 22 #[.pointer (some ⟨gt,0,none⟩)] w (HtEnd F w gp st path.length):=by
 have t1 : w.cell? ⟨gt,0,none⟩=some (.pointer (some ⟨gp,0,none⟩)):=ht.blk.cell 0
 have t2 : w.cell? ⟨gt,1,none⟩=some (.int .i64 (k : Int)):=ht.blk.cell 1
 obtain ⟨R,hR⟩ : ∃ R,R=st.roots k:=⟨_,rfl⟩
 have hrt : Hid (Calls Tryz.prog 23 #[.pointer (some ⟨gp,0,none⟩),.int .i64 (k : Int)] w.drew fun e w' => e=.returned (.int .i64 (R : Int))/\w.drew=w'):=hide (by rw [hR]; exact root_any w.drew F gp st h.drew k hk8)
 have hst : Hid (HtRel w F gp st path 0 R w.drew):=hide ⟨[],path,F,rfl,rfl,by rw [hR]; exact hp,hd,h.drew,(Ev.refl F w).drew⟩
 replace h:=hide h
 replace ht:=hide ht
 replace hR:=hide hR
 replace hp:=hide hp
 replace hd:=hide hd
 go_enter Tryz.func22,Tryz.ntmps22
 go_wp2_with fail
 go_region_held3 (fun w' => w'.cell? ⟨gt,0,none⟩=some (.pointer (some ⟨gp,0,none⟩))/\w'.cell? ⟨gt,1,none⟩=some (.int .i64 (k : Int))) (first | exact ⟨t1,t2⟩) (first | (go_at_call 23; refine hrt.out.mono ?_; rintro e w3 ⟨rfl,rfl⟩))
 go_wp2_with fail
 go_loopw [4,5] (fun v4 v5 wx => ∃ j no : Nat,v4=.int .i64 (j : Int)/\v5=.int .i64 (no : Int)/\Hid (HtRel w F gp st path j no wx)) (fun v4 _ _ => path.length + 1 - (intOf v4).toNat)
 case atStart => exact ⟨0,R,rfl,rfl,hst⟩
 case round =>
   obtain ⟨j,no,rfl,rfl,hG⟩:=hrel
   obtain ⟨pre,rest,F1,hpa,hj,hno,hfl,hP1,hE1⟩:=hG.out
   cases rest with
   | nil =>
     have hno0 : no=0:=hno
     subst hno0
     have hjl : j=path.length:=by rw [hpa,List.append_nil]; exact hj
     have hend : Hid (HtEnd F w gp st path.length (.returned (.tuple #[.int .i64 (j : Int),.int .i64 0])) wr):=hide ⟨by rw [hjl],F1,hP1,hE1⟩
     replace hP1:=hide hP1
     replace hE1:=hide hE1
     replace hpa:=hide hpa
     replace hj:=hide hj
     replace hjl:=hide hjl
     clear hno hfl hG
     go_wp2_with fail
     go_ret2
     exact hend.out
   | cons no2 r =>
     have hno2 : no=no2:=hno
     subst hno2
     obtain ⟨hnz,n,hl,hcs⟩:=hfl.head
     have hnoI : ¬ (no : Int)=0:=by omega
     have hjI : (j : Int)<=1000:=by have h9:=congrArg List.length hpa; simp at h9; omega
     have hj0 : (0 : Int)<=(j : Int):=by omega
     have hlen : j < path.length:=by have h9:=congrArg List.length hpa; simp at h9; omega
     have ht1 : TreeAt wr F1 gt gp k:=ht.out.ev hE1
     have hld:=hide (load_gen wr F1 gt gp k st hP1 ht1 no n hl)
     obtain ⟨lf,hlf⟩ : ∃ lf,lf=n.leaf:=⟨_,rfl⟩
     replace hl:=hide hl
     replace hP1:=hide hP1
     replace hE1:=hide hE1
     replace ht1:=hide ht1
     replace hpa:=hide hpa
     replace hj:=hide hj
     replace hfl:=hide hfl
     replace hcs:=hide hcs
     replace hlf:=hide hlf
     replace hnz:=hide hnz
     replace hlen:=hide hlen
     clear hno
     go_wp2_with fail
     refine hld.out.mono ?_
     rintro e w1 ⟨F2,cv,kv,B0,rfl,hP2,hE2,hF2,hwB,hO1⟩
     rw [<- hlf.out]
     have hn1 : NodeM (Mine F2 w1) w1 (.agg #[.bool n.leaf,cv,kv]) n:=(hO1.toW (F:=F2) (fun j hj => hF2 j hj)).nodeM
     obtain ⟨A1,c1,rfl⟩:=own_form hO1.kids
     obtain ⟨A2,c2,rfl⟩:=own_form hO1.rows.choose_spec.2.1
     obtain ⟨N,hN⟩ : ∃ N,N=n.cells.length:=⟨_,rfl⟩
     obtain ⟨K,hK⟩ : ∃ K,K=n.kids.length:=⟨_,rfl⟩
     rw [<- hN,<- hK]
     obtain ⟨A5,c5,B5,d5,e5,hc5,hd5,hcs5,hks5⟩:=hn1
     injection e5 with e5
     simp at e5
     obtain ⟨⟨rfl,rfl⟩,rfl,rfl⟩:=e5
     have hE3 : Ev F w F2 (w1.alloc (.cells #[.bool lf,.slice A2 N c2,.slice A1 K c1] 89)):=(hE1.out.trans hE2).alloc_ _
     have hP3:=hP2.alloc (.cells #[.bool lf,.slice A2 N c2,.slice A1 K c1] 89)
     have hks3:=hks5.ev ((Ev.refl F2 w1).alloc_ (.cells #[.bool lf,.slice A2 N c2,.slice A1 K c1] 89))
     have hbn:=Blk.new w1 89 #[.bool lf,.slice A2 N c2,.slice A1 K c1]
     obtain ⟨W2,hW2⟩ : ∃ W2,W2=w1.alloc (.cells #[.bool lf,.slice A2 N c2,.slice A1 K c1] 89):=⟨_,rfl⟩
     obtain ⟨gn,hgn⟩ : ∃ gn,gn=w1.heap.size:=⟨_,rfl⟩
     rw [<- hW2] at hE3 hP3 hks3 hbn
     rw [<- hgn] at hbn
     have y0 : W2.cell? ⟨gn,0,none⟩=some (.bool lf):=hbn.cell 0
     have y2 : W2.cell? ⟨gn,2,none⟩=some (.slice A1 K c1):=hbn.cell 2
     replace hN:=hide hN
     replace hK:=hide hK
     replace hks5:=hide hks5
     replace hcs5:=hide hcs5
     replace hO1:=hide hO1
     replace hF2:=hide hF2
     replace hP2:=hide hP2
     replace hE2:=hide hE2
     replace hE3:=hide hE3
     replace hP3:=hide hP3
     replace hbn:=hide hbn
     replace hW2:=hide hW2
     replace hgn:=hide hgn
     go_upto_region 8 with (fail)
     rw [<- hW2.out,<- hgn.out]
     cases lf with
     | true =>
       have hr0 : r=[]:=by
         rcases hcs.out with ⟨_,e⟩ | ⟨hf,_⟩
         · exact e
         · exact absurd (hlf.out.trans hf) (by simp)
       have hrel : Hid (HtRel w F gp st path (j + 1) 0 W2):=hide ⟨pre ++ [no],[],F2,by rw [hpa.out,hr0]; simp,by rw [hj.out]; simp,rfl,.nil,hP3.out,hE3.out⟩
       replace hr0:=hide hr0
       replace hks3:=hide hks3
       go_wp2_with fail
       go_roundw
       case rel => exact ⟨j + 1,0,by simp,rfl,hrel⟩
       case measure => have:=hlen.out; simp [intOf]; omega
     | false =>
       obtain ⟨kid,r',hr,hkid,hdk⟩ : ∃ kid r',r=kid :: r'/\n.kids[0]?=some kid/\FirstL st (kid :: r'):=by
         rcases hcs.out with ⟨hf,_⟩ | ⟨_,h1⟩
         · exact absurd (hlf.out.trans hf) (by simp)
         · exact h1
       have hKl : 0 < n.kids.length:=(List.getElem?_eq_some_iff.1 hkid).1
       obtain ⟨ad,hA,_,hcell⟩:=hks3.2 hKl
       subst hA
       have kx : W2.cell? ad=some (.int .i64 (kid : Int)):=hcell 0 _ (by rw [List.getElem?_map,hkid]; rfl)
       have hK0 : 0 < K:=by have:=hK.out; omega
       have hKI : (0 : Int) < (K : Int):=by omega
       have hrel : Hid (HtRel w F gp st path (j + 1) kid W2):=hide ⟨pre ++ [no],kid :: r',F2,by rw [hpa.out,hr]; simp,by rw [hj.out]; simp,rfl,hdk,hP3.out,hE3.out⟩
       replace hkid:=hide hkid
       replace hr:=hide hr
       replace hdk:=hide hdk
       replace hcell:=hide hcell
       replace hks3:=hide hks3
       clear hKl
       go_wp2_with fail
       go_roundw
       case rel => exact ⟨j + 1,kid,by simp,rfl,hrel⟩
       case measure => have:=hlen.out; simp [intOf]; omega
theorem wrap_small (x : Int) (h0 : 0<=x) (h1 : x<=100000) : IntKind.i64.wrap x=x:=by
 have e : x % (2 ^ 64 : Int)=x:=Int.emod_eq_of_lt h0 (by
   have : (2 ^ 64 : Int)=18446744073709551616:=by decide
   omega)
 show (if (true && decide (x % (2 ^ 64 : Int) >= (2 ^ 63 : Int)))=true then x % (2 ^ 64 : Int) - (2 ^ 64 : Int) else x % (2 ^ 64 : Int))=x
 rw [e,if_neg]
 have : (2 ^ 63 : Int)=9223372036854775808:=by decide
 simp only [Bool.true_and,decide_eq_true_eq]
 omega
inductive WayL (st : PgS) (key : List UInt8) : Nat->List (NodeP × Nat)->Prop
 | leaf (no : Nat) (n : NodeP) (hl : LoadR st no n) (hf : n.leaf=true) : WayL st key no [(n,(findP n key).1)]
 | inner (no kid : Nat) (n : NodeP) (l : List (NodeP × Nat)) (hl : LoadR st no n) (hf : n.leaf=false) (hk : n.kids[(findP n key).1]?=some kid) (hd : WayL st key kid l) : WayL st key no ((n,(findP n key).1 + 1) :: l)
theorem WayL.head {st : PgS} {key : List UInt8} {no : Nat} {l : List (NodeP × Nat)} (h : WayL st key no l) : ∃ n,LoadR st no n/\((n.leaf=true/\l=[(n,(findP n key).1)]) \/ (n.leaf=false/\∃ kid r,l=(n,(findP n key).1 + 1) :: r/\n.kids[(findP n key).1]?=some kid/\WayL st key kid r)):=by
 cases h with
 | leaf _ n hl hf => exact ⟨n,hl,.inl ⟨hf,rfl⟩⟩
 | inner _ kid n r hl hf hk hd => exact ⟨n,hl,.inr ⟨hf,kid,r,rfl,hk,hd⟩⟩
def lenCur (w : World) (gc : Nat) : Nat:=match w.cell? ⟨gc,1,none⟩ with | some (.slice _ n _) => n | _ => 0
def DnRel (F C : Nat->Prop) (w : World) (gp : Nat) (st : PgS) (gc gt : Nat) (way l : List (NodeP × Nat)) (from_ : List UInt8) (tgt er : Int) (no : Nat) (wx : World) : Prop :=
 ∃ (done rest : List (NodeP × Nat)) (F' C' : Nat -> Prop), l = done ++ rest /\ WayL st from_ no rest /\ PgAt wx F' gp st /\ CurAt F' C' wx gc gt (way ++ done) from_ tgt er /\ Ev (FC F C) w (FC F' C') wx /\ (∀ k, C k -> C' k) /\
   ∀ (g : Nat) (t : TypeId) (cs : Array Value),Blk w g t cs->¬ F g->t ≠ 115->t ≠ 151->Blk wx g t cs
set_option maxHeartbeats 4000000 in
theorem cdown_any (w : World) (F C : Nat->Prop) (gc gt gp k : Nat) (st : PgS) (h : PgAt w F gp st) (ht : TreeAt w (FC F C) gt gp k) (way l : List (NodeP × Nat)) (from_ : List UInt8) (tgt er : Int) (hc : CurAt F C w gc gt way from_ tgt er) (no0 : Nat) (hw : WayL st from_ no0 l) (hway : way.length + l.length<=1000) :
   Calls Tryz.prog 94 #[.pointer (some ⟨gc,0,none⟩),.int .i64 (no0 : Int),.bool false] w (DownEnd F C w gp st gc gt (way ++ l) from_ tgt er):=by
 have hst : Hid (DnRel F C w gp st gc gt way l from_ tgt er no0 w):=hide ⟨[],l,F,C,rfl,hw,h,by rw [List.append_nil]; exact hc,Ev.refl _ w,fun k hk => hk,fun g t cs hb _ _ _ => hb⟩
 replace h:=hide h
 replace ht:=hide ht
 replace hc:=hide hc
 replace hw:=hide hw
 go_enter Tryz.func94,Tryz.ntmps94
 go_wp2_with fail
 go_loopw [1] (fun v1 wx => ∃ no : Nat,v1=.int .i64 (no : Int)/\Hid (DnRel F C w gp st gc gt way l from_ tgt er no wx)) (fun _ wx => way.length + l.length - lenCur wx gc)
 case atStart => exact ⟨no0,rfl,hst⟩
 case round =>
   obtain ⟨no,rfl,hG⟩:=hrel
   obtain ⟨done,rest,Fa,Ca,hdl,hwl,h0,hc0,hE0,hsub,hty⟩:=hG.out
   obtain ⟨n,hl,hcs⟩:=hwl.head
   obtain ⟨wy,hwy⟩ : ∃ wy,wy=way ++ done:=⟨_,rfl⟩
   rw [<- hwy] at hc0
   have hlen : wy.length + rest.length=way.length + l.length:=by rw [hwy,hdl]; simp; omega
   have hrest : 1<=rest.length:=by
     rcases hcs with ⟨_,e⟩ | ⟨_,_,_,e,_⟩ <;> rw [e] <;> simp
   have ht0:=ht.out.ev hE0
   have htF : TreeAt wr Fa gt gp k:=⟨ht0.blk,fun hf => ht0.out (.inl hf)⟩
   have hld:=hide (load_gen wr Fa gt gp k st h0 htF no n hl)
   have hcc:=hc0
   obtain ⟨wv,fA,fc,hbc,hmc,hoc,rows,hr1,hr2,hr3⟩:=hc0.mem
   have q0 : wr.cell? ⟨gc,0,none⟩=some (.pointer (some ⟨gt,0,none⟩)):=hbc.cell 0
   have hgc:=Blk.lt hbc
   have hgcF : ¬ Fa gc:=hc0.apart _ hc0.own
   have hrise:=hl.2.1.rise
   have hmany:=hl.2.1.many
   obtain ⟨L,hL⟩ : ∃ L,L=from_.length:=⟨_,rfl⟩
   obtain ⟨P,hP⟩ : ∃ P,P=wy.length:=⟨_,rfl⟩
   rw [<- hL] at hbc hmc
   rw [<- hP] at hr1 hr2
   obtain ⟨wA,wc,rfl⟩:=own_form hr2
   have hc:=hide hc0
   have hPb : P + 1<=1000:=by omega
   obtain ⟨lf,hlf⟩ : ∃ lf,lf=n.leaf:=⟨_,rfl⟩
   replace h0:=hide h0
   replace hc0:=hide hc0
   replace hcc:=hide hcc
   replace ht0:=hide ht0
   replace htF:=hide htF
   replace hl:=hide hl
   replace hbc:=hide hbc
   replace hmc:=hide hmc
   replace hoc:=hide hoc
   replace hr1:=hide hr1
   replace hr2:=hide hr2
   replace hr3:=hide hr3
   replace hL:=hide hL
   replace hP:=hide hP
   replace hrise:=hide hrise
   replace hmany:=hide hmany
   replace hgcF:=hide hgcF
   replace hlf:=hide hlf
   replace hcs:=hide hcs
   replace hdl:=hide hdl
   replace hwl:=hide hwl
   replace hE0:=hide hE0
   replace hsub:=hide hsub
   replace hty : Hid _:=hide hty
   replace hwy:=hide hwy
   replace hlen:=hide hlen
   replace hrest:=hide hrest
   go_wp2_with fail
   go_at_call 45
   refine hld.out.mono ?_
   rintro e w1 ⟨F1,cv,kv,B0,rfl,hP1,hE1,hF1,hwB,hO1⟩
   rw [<- hlf.out]
   have hn1 : NodeM (Mine (FC F1 Ca) w1) w1 (.agg #[.bool n.leaf,cv,kv]) n:=(hO1.toW (F:=FC F1 Ca) (fun j hj => by
     rcases hj with hj | hj
     · exact hF1 j hj
     · have:=hc.out.lt j hj; omega)).nodeM
   obtain ⟨A1,c1,rfl⟩:=own_form hO1.kids
   obtain ⟨A2,c2,rfl⟩:=own_form hO1.rows.choose_spec.2.1
   obtain ⟨N,hN⟩ : ∃ N,N=n.cells.length:=⟨_,rfl⟩
   obtain ⟨K,hK⟩ : ∃ K,K=n.kids.length:=⟨_,rfl⟩
   rw [<- hN,<- hK,<- hlf.out] at hn1
   rw [<- hN,<- hK]
   have hnF1 : ¬ F1 w1.heap.size:=fun hf => by have:=hP1.lt _ hf; omega
   have hbn:=Blk.new w1 89 #[.bool lf,.slice A2 N c2,.slice A1 K c1]
   have hE2 : Ev Fa wr F1 (w1.alloc (.cells #[.bool lf,.slice A2 N c2,.slice A1 K c1] 89)):=hE1.alloc_ _
   have hcu:=hc.out.ev hE2
   have hbc2 : Blk (w1.alloc (.cells #[.bool lf,.slice A2 N c2,.slice A1 K c1] 89)) gc 115 #[.pointer (some ⟨gt,0,none⟩),.slice wA P wc,.slice fA L fc,.int .i64 tgt,.int .i64 er]:=hE2.blk hbc.out hgcF.out
   have hP2:=hP1.alloc (.cells #[.bool lf,.slice A2 N c2,.slice A1 K c1] 89)
   have hfd:=hide (find_any (w1.alloc (.cells #[.bool lf,.slice A2 N c2,.slice A1 K c1] 89)).drew (.agg #[.bool lf,.slice A2 N c2,.slice A1 K c1]) n ((hn1.ev ((Ev.refl (FC F1 Ca) w1).alloc_ (.cells #[.bool lf,.slice A2 N c2,.slice A1 K c1] 89)).drew).old fun k hk => hk.1) hrise.out (by have:=hmany.out; omega) fA fc from_ (by have h9:=(hmc.out.ev (hE2.drew.add Ca)).rb; rw [hL.out] at h9; exact h9))
   rw [<- hL.out] at hfd
   obtain ⟨I,hI⟩ : ∃ I,I=(findP n from_).1:=⟨_,rfl⟩
   obtain ⟨S,hS⟩ : ∃ S,S=(findP n from_).2:=⟨_,rfl⟩
   rw [<- hI,<- hS] at hfd
   have m0:=hbn.cell 0
   have m1:=hbn.cell 1
   have m2:=hbn.cell 2
   have b1:=hbc2.cell 1
   have b2:=hbc2.cell 2
   replace hN:=hide hN
   replace hK:=hide hK
   replace hI:=hide hI
   replace hS:=hide hS
   replace hn1:=hide hn1
   replace hO1:=hide hO1
   replace hF1:=hide hF1
   replace hP1:=hide hP1
   replace hE1:=hide hE1
   replace hP2:=hide hP2
   replace hE2:=hide hE2
   replace hbn:=hide hbn
   replace hbc2:=hide hbc2
   replace hcu:=hide hcu
   replace hnF1:=hide hnF1
   go_wp2_with fail
   go_region_law (go_simp; go_at_call 46; refine hfd.out.mono ?_; rintro e w3 ⟨rfl,hB3⟩; have hb3:=hbn.out.drew.below hB3 (Blk.lt hbn.out); have o0:=hb3.cell 0; have o1:=hb3.cell 1; have o2:=hb3.cell 2; have hg3:=hbc2.out.drew.below hB3 (Blk.lt hbc2.out); have j1:=hg3.cell 1; have fz:=hg3.frozen 1; replace hb3:=hide hb3; replace hg3:=hide hg3; replace hB3:=hide hB3)
   all_goals
    cases lf with
    | true =>
     have hE3 : Ev Fa wr F1 w3:=hE2.out.drew.below hB3.out
     have hP3 : PgAt w3 F1 gp st:=hP2.out.drew.below hB3.out
     have hrow3:=hE3.only.row hr2.out (fun k hk => hc.out.apart k (hoc.out k hk))
     have hb4:=Blk.new w3 151 #[.bool true,.slice A2 N c2,.slice A1 K c1,.int .i64 (I : Int)]
     have hrow4 : ((w3.alloc (.cells #[.bool true,.slice A2 N c2,.slice A1 K c1,.int .i64 (I : Int)] 151)).drew).ownsRow 0 151 4 (.slice wA P wc) P rows.flatten:=(((Only.refl (fun _ => False) w3).alloc _).drew).row hrow3 (fun _ _ h => h)
     obtain ⟨v5,w5,hrun,hown5,hg5,hv5⟩:=run_app_step _ 0 _ P rows.flatten hrow4 w3.heap.size (.bool true) (.slice A2 N c2) (.slice A1 K c1) (.int .i64 (I : Int)) (by intro u hu; simp at hu; rcases hu with rfl | rfl | rfl | rfl <;> rfl) (show Blk (w3.alloc _).drew w3.heap.size 151 _ from hb4) 113 (by have:=hP.out; omega) (Nat.zero_le _)
     have hE4:=(hE3.alloc_ (.cells #[.bool true,.slice A2 N c2,.slice A1 K c1,.int .i64 (I : Int)] 151)).drew
     have hP4:=(hP3.alloc (.cells #[.bool true,.slice A2 N c2,.slice A1 K c1,.int .i64 (I : Int)] 151)).drew
     have hpush:=cur_push (s:=(n,I)) (vs:=[.bool true,.slice A2 N c2,.slice A1 K c1,.int .i64 (I : Int)]) (way:=wy) (from_:=from_) (by rw [<- hL.out]; exact hE4.blk hbc.out hgcF.out) (by rw [<- hL.out]; exact hmc.out.ev (hE4.add Ca)) hoc.out (by rw [<- hP.out]; exact hr1.out) (by rw [<- hP.out]; exact hrow4) (fun k vs s e1 e2 => (hr3.out k vs s e1 e2).ev (hE4.add Ca)) hc.out.own (hc.out.ev hE4).apart (hc.out.ev hE4).lt hP4.lt ⟨A2,c2,A1,c1,by show [Value.bool true,.slice A2 N c2,.slice A1 K c1,.int .i64 (I : Int)]=[.bool n.leaf,.slice A2 n.cells.length c2,.slice A1 n.kids.length c1,.int .i64 (I : Int)]; rw [<- hN.out,<- hK.out,<- hlf.out],by
       have h9:=hn1.out.ev ((((Ev.refl (FC F1 Ca) w1).alloc_ (.cells #[.bool true,.slice A2 N c2,.slice A1 K c1] 89)).drew.below hB3.out).alloc_ (.cells #[.bool true,.slice A2 N c2,.slice A1 K c1,.int .i64 (I : Int)] 151)).drew
       show NodeM _ _ (.agg #[.bool n.leaf,.slice A2 n.cells.length c2,.slice A1 n.kids.length c1]) n
       rw [<- hlf.out,<- hN.out,<- hK.out]
       exact h9⟩ hg5 (by rw [<- hP.out]; exact hown5) hv5
     have hpg5:=(hP4.grown hg5 (fun k hk => (hc.out.ev hE4).apart k (hoc.out k hk))).set_ (p:=⟨gc,1,none⟩) ((hc.out.ev hE4).apart gc hc.out.own) v5
     have hev5 : Ev (FC F C) w (FC F1 _) (w5.setCell ⟨gc,1,none⟩ v5):=hE0.out.trans ((hE4.add Ca).trans hpush.2)
     have hty5 : ∀ (g : Nat) (t : TypeId) (cs : Array Value),Blk w g t cs->¬ F g->t ≠ 115->t ≠ 151->Blk (w5.setCell ⟨gc,1,none⟩ v5) g t cs:=fun g t cs hb hnf ht1 ht2 => by
       have hbw:=hty.out g t cs hb hnf ht1 ht2
       have hnFa : ¬ Fa g:=fun hf => by
         by_cases hCg : C g
         · exact hc.out.apart g (hsub.out g hCg) hf
         · rcases hE0.out.grow g (.inl hf) with h9 | h9
           · rcases h9 with h9 | h9
             · exact hnf h9
             · exact hCg h9
           · have:=hb.lt; omega
       exact ((hE4.blk hbw hnFa).grown hg5 (fun e => own_blk_ne hrow4 (hE4.blk hbw hnFa) ht2.symm e.symm)).far (p:=⟨gc,1,none⟩) (Blk.ne_ hbw hbc.out ht1) v5
     have hrs : rest=[(n,I)]:=by
       rcases hcs.out with ⟨_,e⟩ | ⟨hf,_⟩
       · rw [hI.out]; exact e
       · exact absurd (hlf.out.trans hf) (by simp)
     have hdone : Hid (DownEnd F C w gp st gc gt (way ++ l) from_ tgt er (.returned (.int .i64 0)) (w5.setCell ⟨gc,1,none⟩ v5)):=hide (by
       have hwl2 : wy ++ [(n,I)]=way ++ l:=by rw [hwy.out,hdl.out,hrs,List.append_assoc]
       refine ⟨rfl,F1,_,hpg5,?_,hev5,fun k hk => .inl (hsub.out k hk),hty5⟩
       rw [<- hwl2]; exact hpush.1)
     replace hpg5:=hide hpg5
     replace hev5:=hide hev5
     replace hty5 : Hid _:=hide hty5
     replace hrs:=hide hrs
     clear hpush
     replace hE4:=hide hE4
     replace hP4:=hide hP4
     have j1' : (w3.alloc (.cells #[.bool true,.slice A2 N c2,.slice A1 K c1,.int .i64 (I : Int)] 151)).cell? ⟨gc,1,none⟩=some (.slice wA P wc):=(hg3.out.alloc _).cell 1
     have p0:=(hb3.out.alloc (.cells #[.bool true,.slice A2 N c2,.slice A1 K c1,.int .i64 (I : Int)] 151)).cell 0
     have p1:=(hb3.out.alloc (.cells #[.bool true,.slice A2 N c2,.slice A1 K c1,.int .i64 (I : Int)] 151)).cell 1
     have p2:=(hb3.out.alloc (.cells #[.bool true,.slice A2 N c2,.slice A1 K c1,.int .i64 (I : Int)] 151)).cell 2
     have hg6 : Blk w5 gc 115 #[.pointer (some ⟨gt,0,none⟩),.slice wA P wc,.slice fA L fc,.int .i64 tgt,.int .i64 er]:=(show Blk (w3.alloc (.cells #[.bool true,.slice A2 N c2,.slice A1 K c1,.int .i64 (I : Int)] 151)).drew gc 115 _ from hg3.out.alloc _).grown hg5 (fun e => own_blk_ne hrow3 hg3.out (by decide) e.symm)
     obtain ⟨A5,c5,rfl⟩:=own_form hown5
     have z1:=hg6.cell 1
     have z2:=hg6.frozen 1
     replace hE3:=hide hE3
     replace hP3:=hide hP3
     replace hrow3:=hide hrow3
     replace hrow4:=hide hrow4
     replace hb4:=hide hb4
     replace hg6:=hide hg6
     replace hown5:=hide hown5
     replace hg5:=hide hg5
     replace hv5:=hide hv5
     go_wp2_with fail
     go_region_law (refine Lib.wp_append_run _ (.tmp 39) (.tmp 43) 113 113 rfl _ _ rfl rfl _ _ hrun ?_)
     all_goals
       go_wp2_with fail
       first | exact hdone.out | (go_ret; exact hdone.out)
    | false =>
     have hE3 : Ev Fa wr F1 w3:=hE2.out.drew.below hB3.out
     have hP3 : PgAt w3 F1 gp st:=hP2.out.drew.below hB3.out
     have hrow3:=hE3.only.row hr2.out (fun k hk => hc.out.apart k (hoc.out k hk))
     have hb4:=Blk.new w3 151 #[.bool false,.slice A2 N c2,.slice A1 K c1,.int .i64 ((I : Int) + 1)]
     have hrow4 : ((w3.alloc (.cells #[.bool false,.slice A2 N c2,.slice A1 K c1,.int .i64 ((I : Int) + 1)] 151)).drew).ownsRow 0 151 4 (.slice wA P wc) P rows.flatten:=(((Only.refl (fun _ => False) w3).alloc _).drew).row hrow3 (fun _ _ h => h)
     obtain ⟨v5,w5,hrun,hown5,hg5,hv5⟩:=run_app_step _ 0 _ P rows.flatten hrow4 w3.heap.size (.bool false) (.slice A2 N c2) (.slice A1 K c1) (.int .i64 ((I : Int) + 1)) (by intro u hu; simp at hu; rcases hu with rfl | rfl | rfl | rfl <;> rfl) (show Blk (w3.alloc _).drew w3.heap.size 151 _ from hb4) 113 (by have:=hP.out; omega) (Nat.zero_le _)
     have hE4:=(hE3.alloc_ (.cells #[.bool false,.slice A2 N c2,.slice A1 K c1,.int .i64 ((I : Int) + 1)] 151)).drew
     have hP4:=(hP3.alloc (.cells #[.bool false,.slice A2 N c2,.slice A1 K c1,.int .i64 ((I : Int) + 1)] 151)).drew
     have hpush:=cur_push (s:=(n,I + 1)) (vs:=[.bool false,.slice A2 N c2,.slice A1 K c1,.int .i64 ((I : Int) + 1)]) (way:=wy) (from_:=from_) (by rw [<- hL.out]; exact hE4.blk hbc.out hgcF.out) (by rw [<- hL.out]; exact hmc.out.ev (hE4.add Ca)) hoc.out (by rw [<- hP.out]; exact hr1.out) (by rw [<- hP.out]; exact hrow4) (fun k vs s e1 e2 => (hr3.out k vs s e1 e2).ev (hE4.add Ca)) hc.out.own (hc.out.ev hE4).apart (hc.out.ev hE4).lt hP4.lt ⟨A2,c2,A1,c1,by show [Value.bool false,.slice A2 N c2,.slice A1 K c1,.int .i64 ((I : Int) + 1)]=[.bool n.leaf,.slice A2 n.cells.length c2,.slice A1 n.kids.length c1,.int .i64 ((I : Int) + 1)]; rw [<- hN.out,<- hK.out,<- hlf.out],by
       have h9:=hn1.out.ev ((((Ev.refl (FC F1 Ca) w1).alloc_ (.cells #[.bool false,.slice A2 N c2,.slice A1 K c1] 89)).drew.below hB3.out).alloc_ (.cells #[.bool false,.slice A2 N c2,.slice A1 K c1,.int .i64 ((I : Int) + 1)] 151)).drew
       show NodeM _ _ (.agg #[.bool n.leaf,.slice A2 n.cells.length c2,.slice A1 n.kids.length c1]) n
       rw [<- hlf.out,<- hN.out,<- hK.out]
       exact h9⟩ hg5 (by rw [<- hP.out]; exact hown5) hv5
     have hpg5:=(hP4.grown hg5 (fun k hk => (hc.out.ev hE4).apart k (hoc.out k hk))).set_ (p:=⟨gc,1,none⟩) ((hc.out.ev hE4).apart gc hc.out.own) v5
     have hev5 : Ev (FC F C) w (FC F1 _) (w5.setCell ⟨gc,1,none⟩ v5):=hE0.out.trans ((hE4.add Ca).trans hpush.2)
     have hty5 : ∀ (g : Nat) (t : TypeId) (cs : Array Value),Blk w g t cs->¬ F g->t ≠ 115->t ≠ 151->Blk (w5.setCell ⟨gc,1,none⟩ v5) g t cs:=fun g t cs hb hnf ht1 ht2 => by
       have hbw:=hty.out g t cs hb hnf ht1 ht2
       have hnFa : ¬ Fa g:=fun hf => by
         by_cases hCg : C g
         · exact hc.out.apart g (hsub.out g hCg) hf
         · rcases hE0.out.grow g (.inl hf) with h9 | h9
           · rcases h9 with h9 | h9
             · exact hnf h9
             · exact hCg h9
           · have:=hb.lt; omega
       exact ((hE4.blk hbw hnFa).grown hg5 (fun e => own_blk_ne hrow4 (hE4.blk hbw hnFa) ht2.symm e.symm)).far (p:=⟨gc,1,none⟩) (Blk.ne_ hbw hbc.out ht1) v5
     obtain ⟨kid,r,hrs,hkid,hdk⟩ : ∃ kid r,rest=(n,I + 1) :: r/\n.kids[I]?=some kid/\WayL st from_ kid r:=by
       rcases hcs.out with ⟨hf,_⟩ | ⟨_,h9⟩
       · exact absurd (hlf.out.trans hf) (by simp)
       · rw [hI.out]; exact h9
     have hnF:=(hn1.out.ev ((((Ev.refl (FC F1 Ca) w1).alloc_ (.cells #[.bool false,.slice A2 N c2,.slice A1 K c1] 89)).drew.below hB3.out).alloc_ (.cells #[.bool false,.slice A2 N c2,.slice A1 K c1,.int .i64 ((I : Int) + 1)] 151)).drew).ev hpush.2
     obtain ⟨A8,c8,B8,d8,e8,_,_,_,hks8⟩:=hnF
     injection e8 with e8
     simp at e8
     have hKl : I < n.kids.length:=(List.getElem?_eq_some_iff.1 hkid).1
     obtain ⟨ad,hA,_,hcell⟩:=hks8.2 (by omega)
     have hA1 : A1=some ad:=by
       have h9:=e8.2.2.1
       exact h9.trans hA
     have kx:=hcell I _ (show (n.kids.map encI)[I]?=some (.int .i64 (kid : Int)) by rw [List.getElem?_map,hkid]; rfl)
     clear e8 hcell hks8 hA
     have hb4d : Blk (w3.alloc (.cells #[.bool false,.slice A2 N c2,.slice A1 K c1,.int .i64 ((I : Int) + 1)] 151)).drew w1.heap.size 89 #[.bool false,.slice A2 N c2,.slice A1 K c1]:=hb3.out.alloc _
     have hbF:=(hb4d.grown hg5 (fun e => own_blk_ne hrow4 hb4d (by decide) e.symm)).far (p:=⟨gc,1,none⟩) (Blk.ne_ hb3.out hg3.out (by decide)) v5
     have kb:=hbF.cell 2
     have hIKI : (I : Int) < (K : Int):=by have:=hK.out; omega
     have hI0 : (0 : Int)<=(I : Int):=by omega
     have hI7 : (I : Int)<=70000:=by have:=hl.out.2.1.kidsIn (by rw [<- hlf.out]); have:=hmany.out; omega
     replace hA1:=hide hA1
     have hwI : IntKind.i64.wrap ((I : Int) + 1)=(I : Int) + 1:=wrap_small _ (by omega) (by omega)
     have hwI2 : wrap64 ((I : Int) + 1)=(I : Int) + 1:=by unfold wrap64; omega
     have hrel : Hid (DnRel F C w gp st gc gt way l from_ tgt er kid (w5.setCell ⟨gc,1,none⟩ v5)):=hide (by
       refine ⟨done ++ [(n,I + 1)],r,F1,_,by rw [hdl.out,hrs]; simp,hdk,hpg5,?_,hev5,fun k hk => .inl (hsub.out k hk),hty5⟩
       rw [<- List.append_assoc,<- hwy.out]; exact hpush.1)
     have hmeas : Hid (way.length + l.length - lenCur (w5.setCell ⟨gc,1,none⟩ v5) gc < way.length + l.length - lenCur wr gc):=hide (by
       have e1 : lenCur wr gc=P:=by unfold lenCur; rw [hbc.out.cell 1]; rfl
       obtain ⟨wv6,fA6,fc6,hb6,_,_,rows6,hr6,ho6,_⟩:=hpush.1.mem
       obtain ⟨A6,c6,rfl⟩:=own_form ho6
       have e2 : lenCur (w5.setCell ⟨gc,1,none⟩ v5) gc=P + 1:=by unfold lenCur; rw [hb6.cell 1]; show (wy ++ [(n,I + 1)]).length=_; rw [hP.out]; simp
       have:=hlen.out
       have:=hrest.out
       have:=hP.out
       rw [e1,e2]; omega)
     replace hpg5:=hide hpg5
     replace hev5:=hide hev5
     replace hty5 : Hid _:=hide hty5
     replace hrs:=hide hrs
     replace hkid:=hide hkid
     replace hdk:=hide hdk
     replace hbF:=hide hbF
     replace hb4d:=hide hb4d
     clear hKl
     clear hpush
     replace hE4:=hide hE4
     replace hP4:=hide hP4
     have j1' : (w3.alloc (.cells #[.bool false,.slice A2 N c2,.slice A1 K c1,.int .i64 ((I : Int) + 1)] 151)).cell? ⟨gc,1,none⟩=some (.slice wA P wc):=(hg3.out.alloc _).cell 1
     have p0:=(hb3.out.alloc (.cells #[.bool false,.slice A2 N c2,.slice A1 K c1,.int .i64 ((I : Int) + 1)] 151)).cell 0
     have p1:=(hb3.out.alloc (.cells #[.bool false,.slice A2 N c2,.slice A1 K c1,.int .i64 ((I : Int) + 1)] 151)).cell 1
     have p2:=(hb3.out.alloc (.cells #[.bool false,.slice A2 N c2,.slice A1 K c1,.int .i64 ((I : Int) + 1)] 151)).cell 2
     have hg6 : Blk w5 gc 115 #[.pointer (some ⟨gt,0,none⟩),.slice wA P wc,.slice fA L fc,.int .i64 tgt,.int .i64 er]:=(show Blk (w3.alloc (.cells #[.bool false,.slice A2 N c2,.slice A1 K c1,.int .i64 ((I : Int) + 1)] 151)).drew gc 115 _ from hg3.out.alloc _).grown hg5 (fun e => own_blk_ne hrow3 hg3.out (by decide) e.symm)
     obtain ⟨A5,c5,rfl⟩:=own_form hown5
     have z1:=hg6.cell 1
     have z2:=hg6.frozen 1
     replace hE3:=hide hE3
     replace hP3:=hide hP3
     replace hrow3:=hide hrow3
     replace hrow4:=hide hrow4
     replace hb4:=hide hb4
     replace hg6:=hide hg6
     replace hown5:=hide hown5
     replace hg5:=hide hg5
     replace hv5:=hide hv5
     go_wp2_with fail
     go_region_law (refine Lib.wp_append_run _ (.tmp 51) (.tmp 56) 113 113 rfl _ _ rfl rfl _ _ hrun ?_)
     all_goals
       have hA1:=hA1.out
       subst hA1
       go_wp2_with fail
       go_roundw
       case rel => exact ⟨kid,rfl,hrel⟩
       case measure => exact hmeas.out
theorem kids_first {T : KeyB->Option KeyB->Nat->List CellP->List Nat->Prop} {cs : List CellP} {ks : List Nat} {lo : KeyB} {hi : Option KeyB} {L : List CellP} {P : List Nat} (h : Kids T cs ks lo hi L P) : ∃ k lo' hi' l p,ks[0]?=some k/\T lo' hi' k l p:=by
 cases h with
 | one k _ _ _ _ h => exact ⟨k,_,_,_,_,rfl,h⟩
 | more c cs k ks _ _ l p _ _ hb h hr => exact ⟨k,_,_,_,_,rfl,h⟩
theorem treeR_first {st : PgS} : ∀ (h m : Nat) (lo : KeyB) (hi : Option KeyB) (no : Nat) (L : List CellP) (P : List Nat),TreeR st h m lo hi no L P->∃ r,FirstL st (no :: r)/\r.length=h
 | 0, m, lo, hi, no, L, P, ht => by
   obtain ⟨n,hl,_,⟨hf,_⟩,_⟩:=ht
   exact ⟨[],.leaf no n (by have:=hl.1.1; omega) hl hf,rfl⟩
 | h + 1, m, lo, hi, no, L, P, ht => by
   obtain ⟨n,Q,hl,_,⟨hf,hk⟩,_⟩:=ht
   obtain ⟨k,lo',hi',l,p,hk0,htk⟩:=kids_first hk
   obtain ⟨r,hr1,hr2⟩:=treeR_first h 127 lo' hi' k l p htk
   exact ⟨k :: r,.inner no k n r (by have:=hl.1.1; omega) hl hf hk0 hr1,by simp [hr2]⟩
theorem walk_any (gt gp k gh H : Nat) (st : PgS) : ∀ (h m : Nat) (lo : KeyB) (hi : Option KeyB) (no : Nat) (L : List CellP) (P : List Nat),TreeR st h m lo hi no L P->7<=m->WkC gt gp k gh H st h m lo hi no
 | 0, m, lo, hi, no, L, P, ht, h7 => by
   obtain ⟨n,hl,hz,⟨hf,_,hb⟩,_⟩:=ht
   exact walk_node gt gp k gh H st 0 m lo hi no n hl hz h7 (by rw [hf]; rfl) hb (fun h9 => by rw [hf] at h9; cases h9)
 | h + 1, m, lo, hi, no, L, P, ht, h7 => by
   obtain ⟨n,Q,hl,hz,⟨hf,hk⟩,_⟩:=ht
   refine walk_node gt gp k gh H st (h + 1) m lo hi no n hl hz h7 (by rw [hf]; rfl) (fun c hc => ?_) fun _ i kid hik => ?_
   · have h9 := hk.seps c hc
     exact ⟨ltK_asymm _ _ h9.1,h9.2⟩
   · obtain ⟨l, p, h9⟩ := kids_nth hk i kid hik
     exact walk_any gt gp k gh H st h 127 _ _ kid l p h9 (by omega)
set_option maxHeartbeats 2000000 in
theorem check_any (w : World) (F : Nat->Prop) (gt gp k : Nat) (st : PgS) (hP : PgAt w F gp st) (ht : TreeAt w F gt gp k) (hk8 : k < 8) (L : List CellP) (P : List Nat) (hT : TreeOf st k L P) (hL : L.length<=1000000) :
   Calls Tryz.prog 19 #[.pointer (some ⟨gt,0,none⟩)] w (WkEnd F w gp st):=by
 obtain ⟨path,hp,hfl,hpl,hca⟩ : ∃ path : List Nat,st.roots k=path.headD 0/\FirstL st path/\path.length<=1000/\((path.length=0/\st.roots k=0) \/ (path.length ≠ 0/\∃ h,path.length=1 + h/\TreeR st h 7 [] none (st.roots k) L P)):=by
   rcases hT with ⟨h0,rfl,_⟩ | ⟨h,hr⟩
   · exact ⟨[],h0,.nil,by simp,.inl ⟨rfl,h0⟩⟩
   · obtain ⟨r, h1, h2⟩ := treeR_first h 7 _ _ _ _ _ hr
     have h3:=hr.height (Nat.le_refl _)
     refine ⟨_,rfl,h1,?_,.inr ⟨by simp,h,by simp [h2,Nat.add_comm],hr⟩⟩
     rw [List.length_cons,h2]
     rcases Nat.lt_or_ge h 20 with h4 | h4
     · omega
     · have h5 := Nat.pow_le_pow_right (n := 2) (by decide) h4
       have h6 : (2 : Nat) ^ 20=1048576:=by decide
       omega
 have hht:=hide (height_any w F gt gp k st hP ht hk8 path hp hfl hpl)
 obtain ⟨H,hH⟩ : ∃ H,H=path.length:=⟨_,rfl⟩
 rw [<- hH] at hht hpl hca
 replace hp:=hide hp
 replace hfl:=hide hfl
 replace hH:=hide hH
 replace hca:=hide hca
 replace hP:=hide hP
 replace ht:=hide ht
 replace hT:=hide hT
 go_enter Tryz.func19,Tryz.ntmps19
 go_wp2_with fail
 go_at_call 22
 refine hht.out.mono ?_
 rintro e w1 ⟨rfl,F1,hP1,hE1⟩
 obtain ⟨w2,hw2⟩ : ∃ w2,w2=w1.alloc (.cells #[.int .i64 (H : Int)] 3):=⟨_,rfl⟩
 have hE12 : Ev F1 w1 F1 w2:=by rw [hw2]; exact (Ev.refl F1 w1).alloc_ _
 have hE2:=hE1.trans hE12
 have hP2 : PgAt w2 F1 gp st:=by rw [hw2]; exact hP1.alloc _
 have hb2 : Blk w2 w1.heap.size 3 #[.int .i64 (H : Int)]:=by rw [hw2]; exact Blk.new w1 3 _
 have hn1 : ¬ F1 w1.heap.size:=fun hf => by have:=hP1.lt _ hf; omega
 have h0:=hb2.cell 0
 have ht2:=ht.out.ev hE2
 have t1 : w2.cell? ⟨gt,0,none⟩=some (.pointer (some ⟨gp,0,none⟩)):=ht2.blk.cell 0
 have t2 : w2.cell? ⟨gt,1,none⟩=some (.int .i64 (k : Int)):=ht2.blk.cell 1
 have hw2e : w1.alloc (.cells #[.int .i64 (H : Int)] 3)=w2:=hw2.symm
 replace hw2:=hide hw2
 replace hP1:=hide hP1
 replace hE1:=hide hE1
 replace hE12:=hide hE12
 replace hE2:=hide hE2
 replace hP2:=hide hP2
 replace hb2:=hide hb2
 replace hn1:=hide hn1
 replace ht2:=hide ht2
 rcases hca.out with ⟨hz,hr0⟩ | ⟨hz,h,hh,htr⟩
 · have hz0 : ((H : Int) == 0) = true := by rw [hz]; rfl
   replace hz:=hide hz
   have hdone : Hid (∃ F',PgAt w2 F' gp st/\Ev F w F' w2):=hide ⟨F1,hP2.out,hE2.out⟩
   go_wp2_with fail
   go_ret
   exact ⟨rfl,hdone.out⟩
 · have hz0 : ((H : Int) == 0) = false := by rw [beq_eq_false_iff_ne]; omega
   have hrt:=hide (fun q => root_any (w2.drewN q) F1 gp st (hP2.out.drewN q) k hk8)
   have hwk:=hide (walk_any gt gp k w1.heap.size H st h 7 [] none (st.roots k) L P htr (Nat.le_refl _))
   replace htr:=hide htr
   replace hh:=hide hh
   replace hz:=hide hz
   obtain ⟨R,hR⟩ : ∃ R,R=st.roots k:=⟨_,rfl⟩
   rw [<- hR] at hrt hwk
   have hwk2 : Hid (∀ q,Calls Tryz.prog 48 #[.pointer (some ⟨gt,0,none⟩),.int .i64 (R : Int),.int .i64 1,.slice none 0 0,.slice none 0 0,.func (.func 49) #[] #[.pointer (some ⟨w1.heap.size,0,none⟩)]] (w2.drewN q) fun e w' => WkEnd F w gp st e w'/\w'.cell? ⟨gt,0,none⟩=some (.pointer (some ⟨gp,0,none⟩))/\w'.cell? ⟨gt,1,none⟩=some (.int .i64 (k : Int))):=hide (fun q => by
     refine (hwk.out (w2.drewN q) F1 1 (.slice none 0 0) (.slice none 0 0) (hP2.out.drewN q) (ht2.out.ev ((Ev.refl F1 w2).drewN q)) (hb2.out.drewN q) hn1.out (by have:=hh.out; omega) (Nat.le_refl _) (fun h9 => absurd h9 (by decide)) ⟨none,0,0,rfl,rfl,Rd.none_⟩ rfl (by omega)).mono ?_
     rintro e w3 ⟨rfl,F3,hP3,hE3⟩
     have h9:=hE2.out.trans (((Ev.refl F1 w2).drewN q).trans hE3)
     exact ⟨⟨rfl,F3,hP3,h9⟩,(ht.out.ev h9).blk.cell 0,(ht.out.ev h9).blk.cell 1⟩)
   replace hR:=hide hR
   go_wp2_with fail
   go_region_held3 (fun w' => w'.cell? ⟨gt,0,none⟩=some (.pointer (some ⟨gp,0,none⟩))/\w'.cell? ⟨gt,1,none⟩=some (.int .i64 (k : Int))) (first | exact ⟨t1,t2⟩ | exact ⟨c1,c2⟩) (first | (go_at_call 23; refine (hrt.out _).mono ?_; rintro e w3 ⟨rfl,rfl⟩) | (go_at_call 48; refine (hwk2.out _).mono ?_; rintro e w3 ⟨⟨rfl,hw3⟩,c1,c2⟩; replace hw3:=hide hw3))
   all_goals go_wp2_with fail
   all_goals go_ret
   all_goals exact ⟨rfl,hw3.out⟩
end Go.Proofs.YtiiljlmeililbaaGreatDoor
