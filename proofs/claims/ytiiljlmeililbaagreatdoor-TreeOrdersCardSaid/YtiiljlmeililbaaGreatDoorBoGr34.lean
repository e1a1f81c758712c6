/-
  A cursor beside other blocks; contract of cat.each for any closure.
-/
import Derived.Test.YtiiljlmeililbaaGreatDoorBoGr33
import Derived.Test.YtiiljlmeililbaaGreatDoorBoCmp
import Derived.Test.YtiiljlmeililbaaGreatDoorBoGr31
import Derived.Test.YtiiljlmeililbaaGreatDoorBoGr29
import Derived.Test.YtiiljlmeililbaaGreatDoorBoGr30
namespace Go.Proofs.YtiiljlmeililbaaGreatDoor
set_option linter.unusedVariables false
set_option maxRecDepth 100000
open Go.RowKit
set_option maxHeartbeats 2000000 in
theorem seek_with (w : World) (F : Nat->Prop) (gt gp k : Nat) (st : PgS) (h : PgAt w F gp st) (ht : TreeAt w F gt gp k) (hk8 : k < 8) (key : List UInt8) (kA : Option Addr) (kc : Nat) (hk : MB F w kA key.length key) (hlen : key.length<=1000000) (D : Nat->Prop) (hD : ∀ j,D j->j < w.heap.size/\¬ F j) :
   Calls Tryz.prog 25 #[.pointer (some ⟨gt,0,none⟩),.slice kA key.length kc] w fun e w' => ∃ gc,e=.returned (.pointer (some ⟨gc,0,none⟩))/\Below w.heap.size w w'/\w.heap.size<=gc/\CurAt F (fun j => j=gc \/ D j) w' gc gt [] key (st.roots k : Int) 0:=by
 obtain ⟨L,hL⟩ : ∃ L,L=key.length:=⟨_,rfl⟩
 rw [<- hL] at hk hlen ⊢
 have hFlt:=h.lt
 have hgt:=Blk.lt ht.blk
 have t1 : w.cell? ⟨gt,0,none⟩=some (.pointer (some ⟨gp,0,none⟩)):=ht.blk.cell 0
 have t2 : w.cell? ⟨gt,1,none⟩=some (.int .i64 (k : Int)):=ht.blk.cell 1
 have hcl:=hide (tclone_any kA L kc key w.drew hk.rb (by omega))
 obtain ⟨R,hR⟩ : ∃ R,R=st.roots k:=⟨_,rfl⟩
 have hrt : Hid (∀ W,Below w.heap.size w W->Calls Tryz.prog 23 #[.pointer (some ⟨gp,0,none⟩),.int .i64 (k : Int)] W fun e w' => e=.returned (.int .i64 (R : Int))/\W=w'):=hide fun W hB => by
   rw [hR]; exact root_any W F gp st (h.below hB) k hk8
 have hfin : Hid (∀ W A c,OB W w.heap.size (.slice A L c) L key->Below w.heap.size w W->∃ gc,Ending.returned (.pointer (some ⟨W.heap.size,0,none⟩))=.returned (.pointer (some ⟨gc,0,none⟩))/\Below w.heap.size w (W.alloc (.cells #[.pointer (some ⟨gt,0,none⟩),.slice none 0 0,.slice A L c,.int .i64 (R : Int),.int .i64 0] 115))/\w.heap.size<=gc/\CurAt F (fun j => j=gc \/ D j) (W.alloc (.cells #[.pointer (some ⟨gt,0,none⟩),.slice none 0 0,.slice A L c,.int .i64 (R : Int),.int .i64 0] 115)) gc gt [] key (st.roots k : Int) 0):=hide (by
   intro W A c hO hB
   have hE : Ev (FC F (fun j => j=W.heap.size \/ D j)) W (FC F (fun j => j=W.heap.size \/ D j)) (W.alloc (.cells #[.pointer (some ⟨gt,0,none⟩),.slice none 0 0,.slice A L c,.int .i64 (R : Int),.int .i64 0] 115)):=(Ev.refl _ W).alloc_ _
   have hm : MB (FC F (fun j => j=W.heap.size \/ D j)) W A L key:=by
     refine ⟨hO.1,fun hn => ?_⟩
     obtain ⟨g,cap,hv,hb,hlt⟩:=World.ownsRow.form hO hn
     have hA : A=some ⟨g,0,none⟩:=by injection hv
     subst hA
     refine ⟨_,rfl,⟨hlt,?_⟩,World.ownsRow.cells hO (g:=g) rfl⟩
     rintro (hf | hf)
     · have h9 : g < w.heap.size := hFlt _ hf
       omega
     · rcases hf with h9 | h9
       · have h8 : g = W.heap.size := h9
         omega
       · have:=(hD g h9).1; omega
   refine ⟨_,rfl,hB.alloc hB.size _,hB.size,⟨.slice none 0 0,A,c,?_,?_,fun k hk => by simp [Value.ownBlock] at hk,[],rfl,⟨rfl,.inl ⟨rfl,rfl⟩⟩,fun q vs s e1 => by simp at e1⟩,.inl rfl,fun k hk hf => by
     have h9:=hFlt _ hf
     have:=hB.size
     rcases hk with hk | hk
     · omega
     · exact (hD k hk).2 hf,fun k hk => by
     have:=hB.size
     rcases hk with hk | hk
     · subst hk; simp
     · have:=(hD k hk).1; simp; omega⟩
   · rw [<- hL,<- hR]; exact Blk.new W 115 _
   · rw [<- hL]; exact hm.ev hE)
 replace h:=hide h
 replace ht:=hide ht
 replace hk:=hide hk
 replace hL:=hide hL
 replace hR:=hide hR
 replace hFlt:=hide hFlt
 go_enter Tryz.func25,Tryz.ntmps25
 go_wp2_with fail
 go_region_law (first
   | (go_simp; go_at_call 57; refine hcl.out.mono ?_; rintro e w2 ⟨v2,rfl,hO2,hB2⟩; rw [<- hL.out] at hO2; (obtain ⟨A2,c2,rfl,_,_,_,_⟩:=hO2.form); have hB2' : Below w.heap.size w w2:=(Below.refl _ w).drew.trans hB2; have s1 : w2.cell? ⟨gt,0,none⟩=some (.pointer (some ⟨gp,0,none⟩)):=(hB2'.cell (p:=⟨gt,0,none⟩) hgt).trans t1; have s2 : w2.cell? ⟨gt,1,none⟩=some (.int .i64 (k : Int)):=(hB2'.cell (p:=⟨gt,1,none⟩) hgt).trans t2; have hdone:=hide (hfin.out w2 A2 c2 hO2 hB2'); have hbb:=hide hB2'; replace hO2:=hide hO2; replace hB2:=hide hB2; replace hB2':=hide hB2')
   | (go_simp; go_at_call 23; refine (hrt.out _ (Below.refl _ w).drew).mono ?_; rintro e w3 ⟨rfl,rfl⟩)
   | (go_simp; go_at_call 23; refine (hrt.out _ hbb.out).mono ?_; rintro e w3 ⟨rfl,rfl⟩))
 all_goals
   go_wp2_with fail
   first | exact hdone.out | (go_ret; exact hdone.out)
inductive ValsG (st : PgS) : List CellP->List (List UInt8 × List UInt8)->Prop
 | nil : ValsG st [] []
 | cons (c : CellP) (b : List UInt8) (L : List CellP) (kv : List (List UInt8 × List UInt8)) (h : ValueG st c b) (hk : c.key.length<=100000) (hb : b.length<=100000) (hr : ValsG st L kv) : ValsG st (c :: L) ((c.key,b) :: kv)
theorem blk_type {w : World} {k : Nat} {t t' : TypeId} {cs cs' : Array Value} (h : Blk w k t cs) (h' : Blk w k t' cs') : t=t':=by
 have e:=Eq.trans (Eq.symm h) h'
 injection e with e
 injection e
theorem cur_grow {F C D D' : Nat->Prop} {w w' : World} {gc gt : Nat} {way : List (NodeP × Nat)} {from_ : List UInt8} {tgt er : Int} (h : CurAt F C w gc gt way from_ tgt er) (hF : ∀ k,F k->k < w.heap.size) (hDC : ∀ k,D k->C k)
   (hg : ∀ k,D k->∃ t cs,Blk w k t cs/\t ≠ 115/\t ≠ 151) (he : Ev D w D' w') (hlt : ∀ k,D' k->k < w'.heap.size) : CurAt F (fun k => C k \/ D' k) w' gc gt way from_ tgt er:=by
 obtain ⟨wv,fA,fc,hb,hm,ho,rows,h1,h2,h3⟩:=h.mem
 have hgc : ¬ D gc:=fun hd => by
   obtain ⟨t,cs,q1,q2,_⟩:=hg gc hd
   exact q2 (blk_type q1 hb)
 have hrow : ∀ k,wv.ownBlock=some k->¬ D k:=fun k hk hd => by
   obtain ⟨t,cs,q1,_,q3⟩:=hg k hd
   rcases h2.2 with ⟨e,_⟩ | ⟨g,cap,cur,e,_,hh,_⟩
   · rw [e] at hk; simp [Value.ownBlock] at hk
   · rw [e] at hk
     have : g=k:=by simpa [Value.ownBlock] using hk
     subst this
     exact q3 (blk_type q1 hh)
 have hnew : ∀ k,D' k->C k \/ w.heap.size<=k:=fun k hk => (he.grow k hk).imp (hDC k) id
 have hE : Ev (FC F C) w (FC F (fun k => C k \/ D' k)) w':=⟨he.only.mono fun k _ hk => .inr (hDC k hk),fun k hk => by
   rcases hk with hk | hk | hk
   · exact .inl (.inl hk)
   · exact .inl (.inr hk)
   · exact (hnew k hk).imp .inr id⟩
 exact ⟨⟨wv,fA,fc,he.only.blk hb hgc,hm.ev hE,fun k hk => .inl (ho k hk),rows,h1,he.only.row h2 hrow,fun k vs s e1 e2 => (h3 k vs s e1 e2).ev hE⟩,.inl h.own,fun k hk hf => by
     rcases hk with hk | hk
     · exact h.apart k hk hf
     · rcases hnew k hk with h9 | h9
       · exact h.apart k h9 hf
       · have:=hF k hf; omega,fun k hk => by
     rcases hk with hk | hk
     · exact Nat.lt_of_lt_of_le (h.lt k hk) he.size
     · exact hlt k hk⟩
structure AlR (F C : Nat->Prop) (w : World) (v : Value) (kv : List KV) : Prop where
 rows : ∃ rows : List (List Value),rows.length=kv.length/\w.ownsRow 0 50 2 v kv.length rows.flatten/\PairsW (FC F C) w rows kv
 own : ∀ k,v.ownBlock=some k->C k
theorem AlR.next {F C F' C' : Nat->Prop} {w w' : World} {v : Value} {kv : List KV} (h : AlR F C w v kv) (hap : ∀ k,C k->¬ F k) (he : Ev (FC F C) w (FC F' C') w') (hk : CurKeep F C C' w w') : AlR F' C' w' v kv:=by
 obtain ⟨rows,h1,h2,h3⟩:=h.rows
 have hO : Only (fun k => ¬ v.ownBlock=some k) w w':=⟨he.only.os,he.only.tape,he.only.output,he.only.size,fun k hkl hn => by
   have hv : v.ownBlock=some k:=Classical.not_not.1 hn
   rcases h2.2 with ⟨e,_⟩ | ⟨g,cap,cur,e,_,hh,_⟩
   · rw [e] at hv; simp [Value.ownBlock] at hv
   · rw [e] at hv
     have : g=k:=by simpa [Value.ownBlock] using hv
     subst this
     have hb : Blk w g 50 cur:=hh
     have hF : ¬ F g:=hap g (h.own g (by rw [e]; rfl))
     exact Eq.trans (hk.2 g _ cur hb hF (by decide) (by decide)) (Eq.symm hb)⟩
 exact ⟨⟨rows,h1,hO.row h2 fun k hk hn => hn hk,h3.ev he⟩,fun k hv => hk.1 k (h.own k hv)⟩
theorem AlR.push {F C : Nat->Prop} {w : World} {v : Value} {kv : List KV} (h : AlR F C w v kv) (hF : ∀ k,FC F C k->k < w.heap.size) {x0 x1 : Value} {p : KV} (hv : PairV (byteOf (FC F C) w) w [x0,x1] p) (hn : kv.length<=100000) :
   ∃ v' w', (Builtin.append_ #[34, 34] 34 #[v, .slice (some ⟨w.heap.size, 0, none⟩) 1 1]).run Tryz.prog (w.alloc (.cells #[x0, x1] 50)) = .ok v' w' /\ AlR F (fun k => C k \/ v'.ownBlock = some k) w' v' (kv ++ [p]) /\
     Ev (fun k => v.ownBlock=some k) (w.alloc (.cells #[x0,x1] 50)) (fun k => v'.ownBlock=some k) w'/\(∀ k,v'.ownBlock=some k->k < w'.heap.size)/\∀ k,v.ownBlock=some k->∃ cs,Blk (w.alloc (.cells #[x0,x1] 50)) k 50 cs:=by
 obtain ⟨i0,hi0,hz0,hz1,hz2⟩:=info_parts pair_info
 obtain ⟨rows,h1,h2,h3⟩:=h.rows
 have hone : ∀ u ∈ [x0,x1],u.oneCell'=true:=by
   obtain ⟨kA,kc,vA,vc,e,_⟩:=hv
   rw [e]; intro u hu; simp at hu; rcases hu with rfl | rfl <;> rfl
 have hb:=Blk.new w 50 #[x0,x1]
 obtain ⟨W,hW⟩ : ∃ W,W=w.alloc (.cells #[x0,x1] 50):=⟨_,rfl⟩
 have hEb : Ev (FC F C) w (FC F C) W:=by rw [hW]; exact (Ev.refl _ w).alloc_ _
 have hsW : W.heap.size=w.heap.size + 1:=by rw [hW]; simp
 rw [<- hW] at hb ⊢
 have h2a : W.ownsRow 0 50 2 v kv.length rows.flatten:=by rw [hW]; exact World.ownsRow.alloc h2 _
 have h3a:=h3.ev hEb
 have hva:=hv.ev hEb
 obtain ⟨v',w',hrun,ho,hg,hv'⟩:=run_append_any (P:=Tryz.prog) W 0 34 34 50 i0 _ 2 48 Tryz.underlying34 hi0 hz0 hz1 hz2 rfl (by omega) v kv.length rows.flatten h2a W.heap.size (some ⟨w.heap.size,0,none⟩) 1 1 [x0,x1] ⟨rfl,fun _ => ⟨_,rfl,hb.lt,fun j u hu => by
     rw [Addr.add_lit,Nat.zero_add,hb.cell]
     simpa using hu⟩⟩ hone (by simp only [maxLen]; omega) (by omega) (Nat.zero_le _)
 have hO : Only (fun j => v.ownBlock=some j) W w':=(Only.refl _ W).grown hg (fun k hk _ => hk)
 have hs : ∀ k cs,v.ownBlock=some k->¬ Blk W k 5 cs:=fun k cs hk hb => own_blk_ne h2a hb (by decide) hk
 have hnew : ∀ k,v'.ownBlock=some k->v.ownBlock=some k \/ W.heap.size<=k:=fun k hk => by
   rcases hv' with e | e
   · exact .inl (e.symm.trans hk)
   · rw [e] at hk; injection hk with hk; exact .inr (by omega)
 have ho2 : w'.ownsRow 0 50 2 v' (kv ++ [p]).length (rows ++ [[x0,x1]]).flatten:=by
   rw [List.flatten_append,List.length_append]
   simpa using ho
 refine ⟨v',w',hrun,⟨⟨rows ++ [[x0,x1]],by simp [h1],ho2,?_⟩,fun k hk => .inr hk⟩,⟨hO,hnew⟩,fun k hk => (own_lt ho2 hk).2,fun k hk => ?_⟩
 · have h4 := (h3a.snoc h1 hva).keepW hO hs
   intro k vs q e1 e2
   refine (h4 k vs q e1 e2).keep fun j hj => ⟨⟨⟨hj.1.1,?_⟩,hj.2⟩,rfl⟩
   obtain ⟨⟨q1,q2⟩,bs,q3⟩:=hj
   rintro (hf | hf | hf)
   · exact q2 (.inl hf)
   · exact q2 (.inr hf)
   · exact own_blk_ne ho2 q3 (by decide) hf
 · rcases h2a.2 with ⟨e, _⟩ | ⟨g, cap, cur, e, _, hh, _⟩
   · rw [e] at hk; simp [Value.ownBlock] at hk
   · rw [e] at hk
     have : g=k:=by simpa [Value.ownBlock] using hk
     subst this
     exact ⟨cur,hh⟩
def AlS (F : Nat->Prop) (w : World) (gp : Nat) (st : PgS) (gc gt k : Nat) (from_ : List UInt8) (all : List KV) (x : Value × World) (N : Nat) : Prop :=
 ∃ F1 C1 way tgt done rest L,PgAt x.2 F1 gp st/\CurAt F1 C1 x.2 gc gt way from_ tgt 0/\AlR F1 C1 x.2 x.1 done/\CurL st from_ way tgt L/\ValsG st L rest/\all=done ++ rest/\rest.length=N/\Ev F w (FC F1 C1) x.2/\TreeAt x.2 (FC F1 C1) gt gp k
def AllEnd (F : Nat->Prop) (w : World) (gp : Nat) (st : PgS) (kv : List KV) (e : Ending) (w' : World) : Prop :=
 ∃ F' A n c,e=.returned (.tuple #[.slice A n c,.int .i64 0])/\n=kv.length/\n<=c/\PgAt w' F' gp st/\Ev F w F' w'/\PairsAt F' w' A kv
set_option maxHeartbeats 2000000 in
theorem lall_any (w : World) (F : Nat->Prop) (gt gp k : Nat) (st : PgS) (h : PgAt w F gp st) (ht : TreeAt w F gt gp k) (hk8 : k < 8)
   (from_ : List UInt8) (fA : Option Addr) (fc : Nat) (hf : MB F w fA from_.length from_) (hfl : from_.length<=100000) (L : List CellP) (kv : List KV) (hL : CurL st from_ [] (st.roots k : Int) L) (hV : ValsG st L kv) (hkv : kv.length<=90000) :
   Calls Tryz.prog 13 #[.pointer (some ⟨gt,0,none⟩),.slice fA from_.length fc] w (AllEnd F w gp st kv):=by
 have hsk:=hide (seek_with w F gt gp k st h ht hk8 from_ fA fc hf (by omega) (fun _ => False) (fun j hj => hj.elim))
 obtain ⟨FL,hFL⟩ : ∃ FL,FL=from_.length:=⟨_,rfl⟩
 rw [<- hFL] at hsk ⊢
 replace h:=hide h
 replace ht:=hide ht
 replace hf:=hide hf
 replace hL:=hide hL
 replace hV:=hide hV
 replace hFL:=hide hFL
 replace hkv:=hide hkv
 go_enter Tryz.func13,Tryz.ntmps13
 go_wp2_with fail
 go_at_call 25
 refine hsk.out.mono ?_
 rintro e w1 ⟨gc,rfl,hB1,hgc,hcu⟩
 obtain ⟨mu,hmu⟩:=least_fun (AlS F w gp st gc gt k from_ kv)
 obtain ⟨C0,hC0⟩ : ∃ C0,C0=(fun j => j=gc \/ False):=⟨_,rfl⟩
 rw [<- hC0] at hcu
 have hE1 : Ev F w (FC F C0) w1:=⟨Only.of_below hB1,fun j hj => by
   rcases hj with hj | hj
   · exact .inl hj
   · rw [hC0] at hj
     rcases hj with hj | hj
     · exact .inr (by omega)
     · exact hj.elim⟩
 have hst : Hid (∃ N,AlS F w gp st gc gt k from_ kv (.slice none 0 0,w1) N):=hide ⟨kv.length,F,C0,[],_,[],kv,L,h.out.below hB1,hcu,⟨⟨[],rfl,World.ownsRow_nil w1 _ _ _,fun k vs p e => by simp at e⟩,fun k hk => by simp [Value.ownBlock] at hk⟩,hL.out,hV.out,rfl,rfl,hE1,ht.out.ev hE1⟩
 replace hmu : Hid _:=hide hmu
 replace hB1:=hide hB1
 replace hcu:=hide hcu
 replace hE1:=hide hE1
 replace hC0:=hide hC0
 clear hsk
 go_wp2_with fail
 go_loopw [6] (fun v6 wx => Hid (∃ N,AlS F w gp st gc gt k from_ kv (v6,wx) N)) (fun v6 wx => mu (v6,wx))
 case atStart => exact hst
 case round =>
   obtain ⟨F1,C1,way,tgt,done,rest,Lx,hP,hcx,hR,hLx,hVx,htk,hN,hEx,htx⟩:=(hmu.out _ hrel.out).1
   obtain ⟨way',r,hnr,hr,hLn⟩:=next_law hLx
   have hr2:=hide hr
   clear hr hst
   have hap : Hid (∀ k,C1 k->¬ F1 k):=hide hcx.apart
   cases hVx with
   | nil =>
     have hno:=hide (cnext_no wr F1 C1 gc gt gp k st hP htx way from_ tgt hcx way' (by rw [<- (show r=none from hr2.out)]; exact hnr))
     replace hP:=hide hP
     replace hcx:=hide hcx
     replace hR:=hide hR
     replace hLx:=hide hLx
     replace htk:=hide htk
     replace hN:=hide hN
     replace hEx:=hide hEx
     replace htx:=hide htx
     replace hnr:=hide hnr
     replace hLn:=hide hLn
     clear hrel
     go_wp2_with fail
     refine hno.out.mono ?_
     rintro e w2 ⟨F2,C2,rfl,hP2,hc2,hE2,hK2⟩
     have hR2:=hR.out.next hap.out hE2 hK2
     obtain ⟨rows,h1,h2,h3⟩:=hR2.rows
     obtain ⟨A9,c9,e9,hc9⟩:=own_sl h2
     obtain ⟨M,hM⟩ : ∃ M,M=done.length:=⟨_,rfl⟩
     rw [<- hM] at e9 hc9
     subst e9
     have hkvd : kv=done:=by rw [htk.out,List.append_nil]
     have hdone : Hid (AllEnd F w gp st kv (.returned (.tuple #[.slice A9 M c9,.int .i64 0])) w2):=hide (by
       rw [hkvd]
       have hE:=hEx.out.trans hE2
       refine ⟨F2,A9,M,c9,rfl,hM,hc9,hP2,⟨hE.only,fun j hj => hE.grow j (.inl hj)⟩,rows,h1,?_,fun k vs p e1 e2 => (h3 k vs p e1 e2).keep fun j hj => ⟨⟨⟨hj.1.1,fun hf => hj.1.2 (.inl hf)⟩,hj.2⟩,rfl⟩⟩
       rw [<- hM] at h2 ⊢
       exact Rd.of_own_ h2 fun j hj hl => ⟨hl,hc2.apart j (hR2.own j hj)⟩)
     replace hP2:=hide hP2
     replace hc2:=hide hc2
     replace hE2:=hide hE2
     replace hK2:=hide hK2
     replace hR2:=hide hR2
     replace h2:=hide h2
     replace h3:=hide h3
     replace hM:=hide hM
     clear hkvd
     go_wp2_with fail
     go_ret2
     exact hdone.out
   | cons c b L' kv' hvg hkl hvl hVr =>
     have hso:=hide (cnext_some wr F1 C1 gc gt gp k st hP htx way from_ tgt hcx way' c b (by rw [<- (show r=some c from hr2.out)]; exact hnr) hvg hkl hvl)
     obtain ⟨ck,hck⟩ : ∃ ck,ck=c.key:=⟨_,rfl⟩
     obtain ⟨N0,hN0⟩ : ∃ N0,N0=mu (u6,wr):=⟨_,rfl⟩
     rw [<- hck] at hso hkl
     rw [<- hN0] at hN
     have hdl : Hid (done.length<=90000):=hide (by
       have e1:=congrArg List.length htk
       rw [List.length_append] at e1
       have:=hkv.out
       omega)
     have hgo : Hid (∀ F2 C2 w2 kA kc vA vc,PgAt w2 F2 gp st->CurAt F2 C2 w2 gc gt way' from_ (-1) 0->Ev (FC F1 C1) wr (FC F2 C2) w2->CurKeep F1 C1 C2 wr w2->PairV (byteOf (FC F2 C2) w2) w2 [.slice kA ck.length kc,.slice vA b.length vc] (ck,b) ->
         ∃ v9 w9,(Builtin.append_ #[34,34] 34 #[u6,.slice (some ⟨w2.heap.size,0,none⟩) 1 1]).run Tryz.prog (w2.alloc (.cells #[.slice kA ck.length kc,.slice vA b.length vc] 50))=.ok v9 w9/\AlS F w gp st gc gt k from_ kv (v9,w9) kv'.length):=hide (by
       intro F2 C2 w2 kA kc vA vc hP2 hc2 hE2 hK2 hpv
       have hR2:=hR.next hap.out hE2 hK2
       have hlt2 : ∀ j,FC F2 C2 j->j < w2.heap.size:=fun j hj => hj.elim (hP2.lt j) (hc2.lt j)
       obtain ⟨v9,w9,hrun,hR9,hE9,hlt9,hty⟩:=hR2.push hlt2 hpv (by have:=hdl.out; omega)
       refine ⟨v9,w9,hrun,?_⟩
       obtain ⟨W,hW⟩ : ∃ W,W=w2.alloc (.cells #[.slice kA ck.length kc,.slice vA b.length vc] 50):=⟨_,rfl⟩
       rw [<- hW] at hE9 hty
       have hEb : Ev F2 w2 F2 W:=by rw [hW]; exact (Ev.refl F2 w2).alloc_ _
       have hcW:=hc2.ev hEb
       have hPW : PgAt W F2 gp st:=by rw [hW]; exact hP2.alloc _
       have hD : ∀ j,u6.ownBlock=some j->C2 j:=hR2.own
       have hc9:=cur_grow hcW hPW.lt hD (fun j hj => by obtain ⟨cs,q⟩:=hty j hj; exact ⟨_,cs,q,by decide,by decide⟩) hE9 hlt9
       have hP9 : PgAt w9 F2 gp st:=hPW.keep (fun j hj => hE9.only.block j (hPW.lt j hj) (fun hd => hc2.apart j (hD j hd) hj)) hE9.size
       have hE3 : Ev (FC F2 C2) W (FC F2 (fun j => C2 j \/ v9.ownBlock=some j)) w9:=⟨hE9.only.mono fun j _ hj => .inr (hD j hj),fun j hj => by
         rcases hj with hj | hj | hj
         · exact .inl (.inl hj)
         · exact .inl (.inr hj)
         · exact (hE9.grow j hj).imp (fun z => .inr (hD j z)) id⟩
       have hE29 : Ev (FC F2 C2) w2 (FC F2 (fun j => C2 j \/ v9.ownBlock=some j)) w9:=(hEb.add C2).trans hE3
       refine ⟨F2,_,way',-1,done ++ [(ck,b)],kv',L',hP9,hc9,hR9,hLn,hVr,?_,rfl,hEx.trans (hE2.trans hE29),htx.ev (hE2.trans hE29)⟩
       rw [htk,hck,List.append_assoc]; rfl)
     have hlen1 : kv'.length + 1=N0:=by rw [<- hN]; simp
     obtain ⟨KL,hKL⟩ : ∃ KL,KL=ck.length:=⟨_,rfl⟩
     obtain ⟨BL,hBL⟩ : ∃ BL,BL=b.length:=⟨_,rfl⟩
     replace hP:=hide hP
     replace hcx:=hide hcx
     replace hR:=hide hR
     replace hLx:=hide hLx
     replace htk:=hide htk
     replace hN:=hide hN
     replace hEx:=hide hEx
     replace htx:=hide htx
     replace hnr:=hide hnr
     replace hLn:=hide hLn
     replace hVr:=hide hVr
     replace hvg:=hide hvg
     replace hck:=hide hck
     replace hKL:=hide hKL
     replace hBL:=hide hBL
     replace hN0:=hide hN0
     clear hrel
     rw [<- hKL.out,<- hBL.out] at hgo
     unfold NxtEnd at hso
     rw [<- hKL.out,<- hBL.out] at hso
     go_wp2_with fail
     refine hso.out.mono ?_
     rintro e w2 ⟨F2,C2,kA,kc,vA,vc,rfl,hmk,hmv,lk,lv,mk,mv,hP2,hc2,hE2,hK2⟩
     obtain ⟨v9,w9,hrun,hS9⟩:=hgo.out F2 C2 w2 kA kc vA vc hP2 hc2 hE2 hK2 (by rw [hKL.out,hBL.out] at *; exact ⟨kA,kc,vA,vc,rfl,lk,lv,hmk,hmv⟩)
     have hrel2 : Hid (∃ N,AlS F w gp st gc gt k from_ kv (v9,w9) N):=hide ⟨_,hS9⟩
     have hmea : Hid (mu (v9,w9) < N0):=hide (by have:=(hmu.out _ hrel2.out).2 _ hS9; omega)
     replace hmk:=hide hmk
     replace hmv:=hide hmv
     replace hP2:=hide hP2
     replace hc2:=hide hc2
     replace hE2:=hide hE2
     replace hK2:=hide hK2
     replace hS9:=hide hS9
     clear lk lv mk mv
     go_wp2_with (at_builtin; refine Lib.wpList_append_run _ rfl (.tmp 26) (.tmp 30) 34 34 rfl _ _ rfl rfl _ _ hrun ?_)
     go_roundw
     case rel => exact hrel2
     case measure => rw [hN0.out] at hmea; exact hmea.out
theorem kids_cells {T : KeyB->Option KeyB->Nat->List CellP->List Nat->Prop} {cs : List CellP} {ks : List Nat} {lo : KeyB} {hi : Option KeyB} {L : List CellP} {P : List Nat} {Q : CellP->Prop} (h : Kids T cs ks lo hi L P) (hT : ∀ lo hi k l p,T lo hi k l p->∀ c ∈ l,Q c) : ∀ c ∈ L,Q c:=by
 induction h with
 | one k lo hi L P h => exact hT _ _ _ _ _ h
 | more c cs k ks lo hi l p L P hb h hr ih =>
   intro d hd
   rcases List.mem_append.1 hd with hd | hd
   · exact hT _ _ _ _ _ h d hd
   · exact ih d hd
theorem TreeR.cells {st : PgS} : ∀ {h m : Nat} {lo : KeyB} {hi : Option KeyB} {no : Nat} {L : List CellP} {P : List Nat},TreeR st h m lo hi no L P->∀ c ∈ L,CellOk c/\c.key.length<=120
 | 0,_,_,_,_,_,_,⟨n,hl,_,⟨hf,rfl,_⟩,_⟩ => fun c hc => ⟨by have:=hl.2.1.vals c hc; rw [if_pos hf] at this; exact this,(hl.2.1.keys c hc).2⟩
 | h + 1,_,_,_,_,_,_,⟨n,Q,_,_,⟨_,hk⟩,_⟩ => kids_cells hk fun _ _ _ _ _ ht => TreeR.cells ht
theorem TreeOf.cells {st : PgS} {k : Nat} {L : List CellP} {P : List Nat} (h : TreeOf st k L P) : ∀ c ∈ L,CellOk c/\c.key.length<=120:=by
 rcases h with ⟨_,rfl,_⟩ | ⟨h,ht⟩
 · intro c hc; cases hc
 · exact ht.cells
theorem ChainR.goS {st : PgS} (hf : st.free < st.many) {no long : Nat} {l : List (Nat × List UInt8)} (h : ChainR st no long l) : GoR sameS st no long l st:=by
 induction h with
 | nil no => exact .nil st no
 | cons no long l h0 hn hr ih => exact .cons st st no long l h0 hn hf ih
theorem OvR.valueG {st : PgS} (hf : st.free < st.many) {c : CellP} {b : List UInt8} {ps : List Nat} (h : OvR st c b ps) (hc : CellOk c) : ValueG st c b:=by
 rcases h with ⟨h0,h1,_⟩ | ⟨h0,l,h1,h2,_⟩
 · exact .inl ⟨h0,h1⟩
 · refine .inr ⟨h0, ?_, l, h1.goS hf, h2⟩
   rcases hc with hc | hc
   · exact absurd hc.1 h0
   · exact hc.2.2.1
theorem ValsR.valsG {st : PgS} (hf : st.free < st.many) : ∀ {L : List CellP} {kv : List KV} {O : List Nat},ValsR st L kv O->(∀ c ∈ L,CellOk c/\c.key.length<=120)->(∀ p ∈ kv,p.2.length<=100000)->ValsG st L kv
 | _,_,_,.nil,_,_ => .nil
 | _,_,_,.cons c L b kv ps O h hr,hc,hb => .cons c b L kv (h.valueG hf (hc c (.head _)).1) (by have:=(hc c (.head _)).2; omega) (hb _ (.head _)) (ValsR.valsG hf hr (fun d hd => hc d (.tail _ hd)) fun p hp => hb p (.tail _ hp))
theorem TreeKV.rise {st : PgS} {k : Nat} {kv : List KV} {pages : List Nat} (h : TreeKV st k kv pages) : RiseK kv:=by
 obtain ⟨L,P,O,h1,h2,_⟩:=h
 exact riseK_of h2.keys h1.rise
end Go.Proofs.YtiiljlmeililbaaGreatDoor
