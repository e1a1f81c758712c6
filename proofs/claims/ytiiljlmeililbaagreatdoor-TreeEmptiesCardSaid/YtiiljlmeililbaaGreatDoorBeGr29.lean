/-
  Contract of Tree.Get: the way down to a leaf, the value of its cell.
-/
import Derived.Test.YtiiljlmeililbaaGreatDoorBeGr28
import Derived.Test.YtiiljlmeililbaaGreatDoorBeGr5
import Derived.Test.YtiiljlmeililbaaGreatDoorBeGr26
namespace Go.Proofs.YtiiljlmeililbaaGreatDoor
set_option linter.unusedVariables false
set_option maxRecDepth 100000
open Go.RowKit
inductive DownL (st : PgS) (key : List UInt8) (m : NodeP) : List Nat->Prop
 | leaf (no : Nat) (hno : no ≠ 0) (hl : LoadR st no m) (hf : m.leaf=true) : DownL st key m [no]
 | inner (no kid : Nat) (n : NodeP) (r : List Nat) (hno : no ≠ 0) (hl : LoadR st no n) (hf : n.leaf=false) (hi : (findP n key).1 < n.kids.length) (hk : n.kids[(findP n key).1]?=some kid) (hd : DownL st key m (kid :: r)) : DownL st key m (no :: kid :: r)
theorem DownL.head {st : PgS} {key : List UInt8} {m : NodeP} {no : Nat} {r : List Nat} (h : DownL st key m (no :: r)) : no ≠ 0/\((m.leaf=true/\LoadR st no m/\r=[]) \/ ∃ kid n r',r=kid :: r'/\LoadR st no n/\n.leaf=false/\n.kids[(findP n key).1]?=some kid/\DownL st key m (kid :: r')):=by
 cases h with
 | leaf _ hno hl hf => exact ⟨hno,.inl ⟨hf,hl,rfl⟩⟩
 | inner _ kid n r' hno hl hf hi hk hd => exact ⟨hno,.inr ⟨kid,n,r',rfl,hl,hf,hk,hd⟩⟩
def GtRel (w : World) (F : Nat->Prop) (gt gp : Nat) (st : PgS) (key : List UInt8) (m : NodeP) (path : List Nat) (no : Nat) (wx : World) : Prop :=
 ∃ (pre r : List Nat) (F' : Nat->Prop),path=pre ++ no :: r/\DownL st key m (no :: r)/\PgAt wx F' gp st/\Ev F w F' wx
theorem idx_pre {pre r : List Nat} {no : Nat} (h : (pre ++ no :: r).Nodup) : (pre ++ no :: r).idxOf no=pre.length:=by
 have h1 : no ∉ pre:=fun hm => by
   have:=(List.nodup_append.1 h).2.2
   exact this no hm no (.head _) rfl
 rw [List.idxOf_append,if_neg h1]
 simp
inductive FirstL (st : PgS) : List Nat->Prop
 | nil : FirstL st []
 | leaf (no : Nat) (m : NodeP) (hno : no ≠ 0) (hl : LoadR st no m) (hf : m.leaf=true) : FirstL st [no]
 | inner (no kid : Nat) (n : NodeP) (r : List Nat) (hno : no ≠ 0) (hl : LoadR st no n) (hf : n.leaf=false) (hk : n.kids[0]?=some kid) (hd : FirstL st (kid :: r)) : FirstL st (no :: kid :: r)
theorem FirstL.head {st : PgS} {no : Nat} {r : List Nat} (h : FirstL st (no :: r)) : no ≠ 0/\∃ n,LoadR st no n/\((n.leaf=true/\r=[]) \/ (n.leaf=false/\∃ kid r',r=kid :: r'/\n.kids[0]?=some kid/\FirstL st (kid :: r'))):=by
 cases h with
 | leaf _ m hno hl hf => exact ⟨hno,m,hl,.inl ⟨hf,rfl⟩⟩
 | inner _ kid n r' hno hl hf hk hd => exact ⟨hno,n,hl,.inr ⟨hf,kid,r',rfl,hk,hd⟩⟩
def HtEnd (F : Nat->Prop) (w : World) (gp : Nat) (st : PgS) (n : Nat) (e : Ending) (w' : World) : Prop :=
 e=.returned (.tuple #[.int .i64 (n : Int),.int .i64 0])/\∃ F',PgAt w' F' gp st/\Ev F w F' w'
def HtRel (w : World) (F : Nat->Prop) (gp : Nat) (st : PgS) (path : List Nat) (j no : Nat) (wx : World) : Prop :=
 ∃ (pre rest : List Nat) (F' : Nat->Prop),path=pre ++ rest/\j=pre.length/\no=rest.headD 0/\FirstL st rest/\PgAt wx F' gp st/\Ev F w F' wx
set_option maxHeartbeats 2000000 in
theorem height_any (w : World) (F : Nat->Prop) (gt gp k : Nat) (st : PgS) (h : PgAt w F gp st) (ht : TreeAt w F gt gp k) (hk8 : k < 8) (path : List Nat) (hp : st.roots k=path.headD 0) (hd : FirstL st path) (hpl : path.length<=1000) :
   Calls Tryz.prog 22 #[.pointer (some ⟨gt,0,none⟩)] w (HtEnd F w gp st path.length):=by
 have t1 : w.cell? ⟨gt,0,none⟩=some (.pointer (some ⟨gp,0,none⟩)):=ht.blk.cell 0
 have t2 : w.cell? ⟨gt,1,none⟩=some (.int .i64 (k : Int)):=ht.blk.cell 1
 obtain ⟨R,hR⟩ : ∃ R,R=st.roots k:=⟨_,rfl⟩
 have hrt : Hid (Calls Tryz.prog 23 #[.pointer (some ⟨gp,0,none⟩),.int .i64 (k : Int)] w.drew fun e w' => e=.returned (.int .i64 (R : Int))/\w.drew=w'):=hide (by rw [hR]; exact root_any w.drew F gp st h.drew k hk8)
 have hst : Hid (HtRel w F gp st path 0 R w.drew):=hide ⟨[],path,F,rfl,rfl,by rw [hR]; exact hp,hd,h.drew,(Ev.refl F w).drew⟩
 replace h:=hide h
 replace ht:=hide ht
 replace hR:=hide hR
 replace hp:=hide hp
 replace hd:=hide hd
 go_enter Tryz.func22,Tryz.ntmps22
 go_wp2_with fail
 go_region_held3 (fun w' => w'.cell? ⟨gt,0,none⟩=some (.pointer (some ⟨gp,0,none⟩))/\w'.cell? ⟨gt,1,none⟩=some (.int .i64 (k : Int))) (first | exact ⟨t1,t2⟩) (first | (go_at_call 23; refine hrt.out.mono ?_; rintro e w3 ⟨rfl,rfl⟩))
 go_wp2_with fail
 go_loopw [4,5] (fun v4 v5 wx => ∃ j no : Nat,v4=.int .i64 (j : Int)/\v5=.int .i64 (no : Int)/\Hid (HtRel w F gp st path j no wx)) (fun v4 _ _ => path.length + 1 - (intOf v4).toNat)
 case atStart => exact ⟨0,R,rfl,rfl,hst⟩
 case round =>
   obtain ⟨j,no,rfl,rfl,hG⟩:=hrel
   obtain ⟨pre,rest,F1,hpa,hj,hno,hfl,hP1,hE1⟩:=hG.out
   cases rest with
   | nil =>
     have hno0 : no=0:=hno
     subst hno0
     have hjl : j=path.length:=by rw [hpa,List.append_nil]; exact hj
     have hend : Hid (HtEnd F w gp st path.length (.returned (.tuple #[.int .i64 (j : Int),.int .i64 0])) wr):=hide ⟨by rw [hjl],F1,hP1,hE1⟩
     replace hP1:=hide hP1
     replace hE1:=hide hE1
     replace hpa:=hide hpa
     replace hj:=hide hj
     replace hjl:=hide hjl
     clear hno hfl hG
     go_wp2_with fail
     go_ret2
     exact hend.out
   | cons no2 r =>
     have hno2 : no=no2:=hno
     subst hno2
     obtain ⟨hnz,n,hl,hcs⟩:=hfl.head
     have hnoI : ¬ (no : Int)=0:=by omega
     have hjI : (j : Int)<=1000:=by have h9:=congrArg List.length hpa; simp at h9; omega
     have hj0 : (0 : Int)<=(j : Int):=by omega
     have hlen : j < path.length:=by have h9:=congrArg List.length hpa; simp at h9; omega
     have ht1 : TreeAt wr F1 gt gp k:=ht.out.ev hE1
     have hld:=hide (load_gen wr F1 gt gp k st hP1 ht1 no n hl)
     obtain ⟨lf,hlf⟩ : ∃ lf,lf=n.leaf:=⟨_,rfl⟩
     replace hl:=hide hl
     replace hP1:=hide hP1
     replace hE1:=hide hE1
     replace ht1:=hide ht1
     replace hpa:=hide hpa
     replace hj:=hide hj
     replace hfl:=hide hfl
     replace hcs:=hide hcs
     replace hlf:=hide hlf
     replace hnz:=hide hnz
     replace hlen:=hide hlen
     clear hno
     go_wp2_with fail
     refine hld.out.mono ?_
     rintro e w1 ⟨F2,cv,kv,B0,rfl,hP2,hE2,hF2,hwB,hO1⟩
     rw [<- hlf.out]
     have hn1 : NodeM (Mine F2 w1) w1 (.agg #[.bool n.leaf,cv,kv]) n:=(hO1.toW (F:=F2) (fun j hj => hF2 j hj)).nodeM
     obtain ⟨A1,c1,rfl⟩:=own_form hO1.kids
     obtain ⟨A2,c2,rfl⟩:=own_form hO1.rows.choose_spec.2.1
     obtain ⟨N,hN⟩ : ∃ N,N=n.cells.length:=⟨_,rfl⟩
     obtain ⟨K,hK⟩ : ∃ K,K=n.kids.length:=⟨_,rfl⟩
     rw [<- hN,<- hK]
     obtain ⟨A5,c5,B5,d5,e5,hc5,hd5,hcs5,hks5⟩:=hn1
     injection e5 with e5
     simp at e5
     obtain ⟨⟨rfl,rfl⟩,rfl,rfl⟩:=e5
     have hE3 : Ev F w F2 (w1.alloc (.cells #[.bool lf,.slice A2 N c2,.slice A1 K c1] 89)):=(hE1.out.trans hE2).alloc_ _
     have hP3:=hP2.alloc (.cells #[.bool lf,.slice A2 N c2,.slice A1 K c1] 89)
     have hks3:=hks5.ev ((Ev.refl F2 w1).alloc_ (.cells #[.bool lf,.slice A2 N c2,.slice A1 K c1] 89))
     have hbn:=Blk.new w1 89 #[.bool lf,.slice A2 N c2,.slice A1 K c1]
     obtain ⟨W2,hW2⟩ : ∃ W2,W2=w1.alloc (.cells #[.bool lf,.slice A2 N c2,.slice A1 K c1] 89):=⟨_,rfl⟩
     obtain ⟨gn,hgn⟩ : ∃ gn,gn=w1.heap.size:=⟨_,rfl⟩
     rw [<- hW2] at hE3 hP3 hks3 hbn
     rw [<- hgn] at hbn
     have y0 : W2.cell? ⟨gn,0,none⟩=some (.bool lf):=hbn.cell 0
     have y2 : W2.cell? ⟨gn,2,none⟩=some (.slice A1 K c1):=hbn.cell 2
     replace hN:=hide hN
     replace hK:=hide hK
     replace hks5:=hide hks5
     replace hcs5:=hide hcs5
     replace hO1:=hide hO1
     replace hF2:=hide hF2
     replace hP2:=hide hP2
     replace hE2:=hide hE2
     replace hE3:=hide hE3
     replace hP3:=hide hP3
     replace hbn:=hide hbn
     replace hW2:=hide hW2
     replace hgn:=hide hgn
     go_upto_region 8 with (fail)
     rw [<- hW2.out,<- hgn.out]
     cases lf with
     | true =>
       have hr0 : r=[]:=by
         rcases hcs.out with ⟨_,e⟩ | ⟨hf,_⟩
         · exact e
         · exact absurd (hlf.out.trans hf) (by simp)
       have hrel : Hid (HtRel w F gp st path (j + 1) 0 W2):=hide ⟨pre ++ [no],[],F2,by rw [hpa.out,hr0]; simp,by rw [hj.out]; simp,rfl,.nil,hP3.out,hE3.out⟩
       replace hr0:=hide hr0
       replace hks3:=hide hks3
       go_wp2_with fail
       go_roundw
       case rel => exact ⟨j + 1,0,by simp,rfl,hrel⟩
       case measure => have:=hlen.out; simp [intOf]; omega
     | false =>
       obtain ⟨kid,r',hr,hkid,hdk⟩ : ∃ kid r',r=kid :: r'/\n.kids[0]?=some kid/\FirstL st (kid :: r'):=by
         rcases hcs.out with ⟨hf,_⟩ | ⟨_,h1⟩
         · exact absurd (hlf.out.trans hf) (by simp)
         · exact h1
       have hKl : 0 < n.kids.length:=(List.getElem?_eq_some_iff.1 hkid).1
       obtain ⟨ad,hA,_,hcell⟩:=hks3.2 hKl
       subst hA
       have kx : W2.cell? ad=some (.int .i64 (kid : Int)):=hcell 0 _ (by rw [List.getElem?_map,hkid]; rfl)
       have hK0 : 0 < K:=by have:=hK.out; omega
       have hKI : (0 : Int) < (K : Int):=by omega
       have hrel : Hid (HtRel w F gp st path (j + 1) kid W2):=hide ⟨pre ++ [no],kid :: r',F2,by rw [hpa.out,hr]; simp,by rw [hj.out]; simp,rfl,hdk,hP3.out,hE3.out⟩
       replace hkid:=hide hkid
       replace hr:=hide hr
       replace hdk:=hide hdk
       replace hcell:=hide hcell
       replace hks3:=hide hks3
       clear hKl
       go_wp2_with fail
       go_roundw
       case rel => exact ⟨j + 1,kid,by simp,rfl,hrel⟩
       case measure => have:=hlen.out; simp [intOf]; omega
theorem kids_first {T : KeyB->Option KeyB->Nat->List CellP->List Nat->Prop} {cs : List CellP} {ks : List Nat} {lo : KeyB} {hi : Option KeyB} {L : List CellP} {P : List Nat} (h : Kids T cs ks lo hi L P) : ∃ k lo' hi' l p,ks[0]?=some k/\T lo' hi' k l p:=by
 cases h with
 | one k _ _ _ _ h => exact ⟨k,_,_,_,_,rfl,h⟩
 | more c cs k ks _ _ l p _ _ hb h hr => exact ⟨k,_,_,_,_,rfl,h⟩
theorem treeR_first {st : PgS} : ∀ (h m : Nat) (lo : KeyB) (hi : Option KeyB) (no : Nat) (L : List CellP) (P : List Nat),TreeR st h m lo hi no L P->∃ r,FirstL st (no :: r)/\r.length=h
 | 0, m, lo, hi, no, L, P, ht => by
   obtain ⟨n,hl,_,⟨hf,_⟩,_⟩:=ht
   exact ⟨[],.leaf no n (by have:=hl.1.1; omega) hl hf,rfl⟩
 | h + 1, m, lo, hi, no, L, P, ht => by
   obtain ⟨n,Q,hl,_,⟨hf,hk⟩,_⟩:=ht
   obtain ⟨k,lo',hi',l,p,hk0,htk⟩:=kids_first hk
   obtain ⟨r,hr1,hr2⟩:=treeR_first h 127 lo' hi' k l p htk
   exact ⟨k :: r,.inner no k n r (by have:=hl.1.1; omega) hl hf hk0 hr1,by simp [hr2]⟩
theorem walk_any (gt gp k gh H : Nat) (st : PgS) : ∀ (h m : Nat) (lo : KeyB) (hi : Option KeyB) (no : Nat) (L : List CellP) (P : List Nat),TreeR st h m lo hi no L P->7<=m->WkC gt gp k gh H st h m lo hi no
 | 0, m, lo, hi, no, L, P, ht, h7 => by
   obtain ⟨n,hl,hz,⟨hf,_,hb⟩,_⟩:=ht
   exact walk_node gt gp k gh H st 0 m lo hi no n hl hz h7 (by rw [hf]; rfl) hb (fun h9 => by rw [hf] at h9; cases h9)
 | h + 1, m, lo, hi, no, L, P, ht, h7 => by
   obtain ⟨n,Q,hl,hz,⟨hf,hk⟩,_⟩:=ht
   refine walk_node gt gp k gh H st (h + 1) m lo hi no n hl hz h7 (by rw [hf]; rfl) (fun c hc => ?_) fun _ i kid hik => ?_
   · have h9 := hk.seps c hc
     exact ⟨ltK_asymm _ _ h9.1,h9.2⟩
   · obtain ⟨l, p, h9⟩ := kids_nth hk i kid hik
     exact walk_any gt gp k gh H st h 127 _ _ kid l p h9 (by omega)
set_option maxHeartbeats 2000000 in
theorem check_any (w : World) (F : Nat->Prop) (gt gp k : Nat) (st : PgS) (hP : PgAt w F gp st) (ht : TreeAt w F gt gp k) (hk8 : k < 8) (L : List CellP) (P : List Nat) (hT : TreeOf st k L P) (hL : L.length<=1000000) :
   Calls Tryz.prog 19 #[.pointer (some ⟨gt,0,none⟩)] w (WkEnd F w gp st):=by
 obtain ⟨path,hp,hfl,hpl,hca⟩ : ∃ path : List Nat,st.roots k=path.headD 0/\FirstL st path/\path.length<=1000/\((path.length=0/\st.roots k=0) \/ (path.length ≠ 0/\∃ h,path.length=1 + h/\TreeR st h 7 [] none (st.roots k) L P)):=by
   rcases hT with ⟨h0,rfl,_⟩ | ⟨h,hr⟩
   · exact ⟨[],h0,.nil,by simp,.inl ⟨rfl,h0⟩⟩
   · obtain ⟨r, h1, h2⟩ := treeR_first h 7 _ _ _ _ _ hr
     have h3:=hr.height (Nat.le_refl _)
     refine ⟨_,rfl,h1,?_,.inr ⟨by simp,h,by simp [h2,Nat.add_comm],hr⟩⟩
     rw [List.length_cons,h2]
     rcases Nat.lt_or_ge h 20 with h4 | h4
     · omega
     · have h5 := Nat.pow_le_pow_right (n := 2) (by decide) h4
       have h6 : (2 : Nat) ^ 20=1048576:=by decide
       omega
 have hht:=hide (height_any w F gt gp k st hP ht hk8 path hp hfl hpl)
 obtain ⟨H,hH⟩ : ∃ H,H=path.length:=⟨_,rfl⟩
 rw [<- hH] at hht hpl hca
 replace hp:=hide hp
 replace hfl:=hide hfl
 replace hH:=hide hH
 replace hca:=hide hca
 replace hP:=hide hP
 replace ht:=hide ht
 replace hT:=hide hT
 go_enter Tryz.func19,Tryz.ntmps19
 go_wp2_with fail
 go_at_call 22
 refine hht.out.mono ?_
 rintro e w1 ⟨rfl,F1,hP1,hE1⟩
 obtain ⟨w2,hw2⟩ : ∃ w2,w2=w1.alloc (.cells #[.int .i64 (H : Int)] 3):=⟨_,rfl⟩
 have hE12 : Ev F1 w1 F1 w2:=by rw [hw2]; exact (Ev.refl F1 w1).alloc_ _
 have hE2:=hE1.trans hE12
 have hP2 : PgAt w2 F1 gp st:=by rw [hw2]; exact hP1.alloc _
 have hb2 : Blk w2 w1.heap.size 3 #[.int .i64 (H : Int)]:=by rw [hw2]; exact Blk.new w1 3 _
 have hn1 : ¬ F1 w1.heap.size:=fun hf => by have:=hP1.lt _ hf; omega
 have h0:=hb2.cell 0
 have ht2:=ht.out.ev hE2
 have t1 : w2.cell? ⟨gt,0,none⟩=some (.pointer (some ⟨gp,0,none⟩)):=ht2.blk.cell 0
 have t2 : w2.cell? ⟨gt,1,none⟩=some (.int .i64 (k : Int)):=ht2.blk.cell 1
 have hw2e : w1.alloc (.cells #[.int .i64 (H : Int)] 3)=w2:=hw2.symm
 replace hw2:=hide hw2
 replace hP1:=hide hP1
 replace hE1:=hide hE1
 replace hE12:=hide hE12
 replace hE2:=hide hE2
 replace hP2:=hide hP2
 replace hb2:=hide hb2
 replace hn1:=hide hn1
 replace ht2:=hide ht2
 rcases hca.out with ⟨hz,hr0⟩ | ⟨hz,h,hh,htr⟩
 · have hz0 : ((H : Int) == 0) = true := by rw [hz]; rfl
   replace hz:=hide hz
   have hdone : Hid (∃ F',PgAt w2 F' gp st/\Ev F w F' w2):=hide ⟨F1,hP2.out,hE2.out⟩
   go_wp2_with fail
   go_ret
   exact ⟨rfl,hdone.out⟩
 · have hz0 : ((H : Int) == 0) = false := by rw [beq_eq_false_iff_ne]; omega
   have hrt:=hide (fun q => root_any (w2.drewN q) F1 gp st (hP2.out.drewN q) k hk8)
   have hwk:=hide (walk_any gt gp k w1.heap.size H st h 7 [] none (st.roots k) L P htr (Nat.le_refl _))
   replace htr:=hide htr
   replace hh:=hide hh
   replace hz:=hide hz
   obtain ⟨R,hR⟩ : ∃ R,R=st.roots k:=⟨_,rfl⟩
   rw [<- hR] at hrt hwk
   have hwk2 : Hid (∀ q,Calls Tryz.prog 48 #[.pointer (some ⟨gt,0,none⟩),.int .i64 (R : Int),.int .i64 1,.slice none 0 0,.slice none 0 0,.func (.func 49) #[] #[.pointer (some ⟨w1.heap.size,0,none⟩)]] (w2.drewN q) fun e w' => WkEnd F w gp st e w'/\w'.cell? ⟨gt,0,none⟩=some (.pointer (some ⟨gp,0,none⟩))/\w'.cell? ⟨gt,1,none⟩=some (.int .i64 (k : Int))):=hide (fun q => by
     refine (hwk.out (w2.drewN q) F1 1 (.slice none 0 0) (.slice none 0 0) (hP2.out.drewN q) (ht2.out.ev ((Ev.refl F1 w2).drewN q)) (hb2.out.drewN q) hn1.out (by have:=hh.out; omega) (Nat.le_refl _) (fun h9 => absurd h9 (by decide)) ⟨none,0,0,rfl,rfl,Rd.none_⟩ rfl (by omega)).mono ?_
     rintro e w3 ⟨rfl,F3,hP3,hE3⟩
     have h9:=hE2.out.trans (((Ev.refl F1 w2).drewN q).trans hE3)
     exact ⟨⟨rfl,F3,hP3,h9⟩,(ht.out.ev h9).blk.cell 0,(ht.out.ev h9).blk.cell 1⟩)
   replace hR:=hide hR
   go_wp2_with fail
   go_region_held3 (fun w' => w'.cell? ⟨gt,0,none⟩=some (.pointer (some ⟨gp,0,none⟩))/\w'.cell? ⟨gt,1,none⟩=some (.int .i64 (k : Int))) (first | exact ⟨t1,t2⟩ | exact ⟨c1,c2⟩) (first | (go_at_call 23; refine (hrt.out _).mono ?_; rintro e w3 ⟨rfl,rfl⟩) | (go_at_call 48; refine (hwk2.out _).mono ?_; rintro e w3 ⟨⟨rfl,hw3⟩,c1,c2⟩; replace hw3:=hide hw3))
   all_goals go_wp2_with fail
   all_goals go_ret
   all_goals exact ⟨rfl,hw3.out⟩
end Go.Proofs.YtiiljlmeililbaaGreatDoor
