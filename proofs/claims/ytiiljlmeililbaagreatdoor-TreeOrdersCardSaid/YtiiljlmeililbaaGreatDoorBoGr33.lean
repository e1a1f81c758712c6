/-
  Contract of Cursor.next in trees of any height.
-/
import Derived.Test.YtiiljlmeililbaaGreatDoorBoGr28
import Derived.Test.YtiiljlmeililbaaGreatDoorBoGr30
import Derived.Test.YtiiljlmeililbaaGreatDoorBoGr3
import Derived.StillTailTactics
import Derived.Test.YtiiljlmeililbaaGreatDoorBoGr31
namespace Go.Proofs.YtiiljlmeililbaaGreatDoor
set_option linter.unusedVariables false
set_option maxRecDepth 100000
open Go.RowKit
def CurKeep (F C C' : Nat->Prop) (w w' : World) : Prop:=(∀ k,C k->C' k)/\∀ (g : Nat) (t : TypeId) (cs : Array Value),Blk w g t cs->¬ F g->t ≠ 115->t ≠ 151->Blk w' g t cs
def NextNo (F C : Nat->Prop) (w : World) (gp : Nat) (st : PgS) (gc gt : Nat) (way : List (NodeP × Nat)) (from_ : List UInt8) (er : Int) (e : Ending) (w' : World) : Prop :=
 ∃ F' C',e=.returned (.tuple #[.agg #[.slice none 0 0,.slice none 0 0,.int .i64 0,.int .i64 0],.int .i64 3])/\PgAt w' F' gp st/\CurAt F' C' w' gc gt way from_ (-1) er/\Ev (FC F C) w (FC F' C') w'/\CurKeep F C C' w w'
def NextYes (F C : Nat->Prop) (w : World) (gp : Nat) (st : PgS) (gc gt : Nat) (way : List (NodeP × Nat)) (from_ : List UInt8) (er : Int) (c : CellP) (e : Ending) (w' : World) : Prop :=
 ∃ F' C' kA kc vA vc, e = .returned (.tuple #[.agg #[.slice kA c.key.length kc, .slice vA c.val.length vc, .int .i64 (c.over : Int), .int .i64 (c.long : Int)], .int .i64 0]) /\
   CellV (Mine (FC F' C') w') w' [.slice kA c.key.length kc,.slice vA c.val.length vc,.int .i64 (c.over : Int),.int .i64 (c.long : Int)] c /\
   PgAt w' F' gp st/\CurAt F' C' w' gc gt way from_ (-1) er/\Ev (FC F C) w (FC F' C') w'/\CurKeep F C C' w w'
def NextRet (F C : Nat->Prop) (w : World) (gp : Nat) (st : PgS) (gc gt : Nat) (way : List (NodeP × Nat)) (from_ : List UInt8) (er : Int) (r : Option CellP) (e : Ending) (w' : World) : Prop :=
 match r with
 | some c => NextYes F C w gp st gc gt way from_ er c e w'
 | none => NextNo F C w gp st gc gt way from_ er e w'
def NxSt (F C : Nat->Prop) (w : World) (gp : Nat) (st : PgS) (gc gt k R : Nat) (from_ : List UInt8) (er : Int) (way' : List (NodeP × Nat)) (r : Option CellP) (N : Nat) (wx : World) : Prop :=
 ∃ F1 C1 W,PgAt wx F1 gp st/\CurAt F1 C1 wx gc gt W from_ (-1) er/\Ev (FC F C) w (FC F1 C1) wx/\C1 R/\Blk wx R 83 #[.slice none 0 0,.slice none 0 0,.int .i64 0,.int .i64 0]/\PopR st N W way' r/\TreeAt wx (FC F1 C1) gt gp k/\CurKeep F C C1 w wx
theorem PopR.inv {st : PgS} {N : Nat} {W way' : List (NodeP × Nat)} {r : Option CellP} (h : PopR st N W way' r) :
   (W=[]/\way'=[]/\r=none) \/ ∃ way n i,W=way ++ [(n,i)] /\
     ((n.leaf=true/\∃ c,n.cells[i]?=some c/\i<=100000/\way'=way ++ [(n,i + 1)]/\r=some c) \/
      (n.leaf=false/\∃ kno l M,n.kids[i]?=some kno/\WayF st kno l/\way.length + 1 + l.length<=1000/\i<=100000/\N=M + 1/\PopR st M ((way ++ [(n,i + 1)]) ++ l) way' r) \/
      ((if n.leaf=true then n.cells.length else n.kids.length)<=i/\∃ M,N=M + 1/\PopR st M way way' r)):=by
 cases h with
 | done => exact .inl ⟨rfl,rfl,rfl⟩
 | cell _ way n i c hf hc hi => exact .inr ⟨way,n,i,rfl,.inl ⟨hf,c,hc,hi,rfl,rfl⟩⟩
 | kid M way n i kno l way' r hf hk hd hlen hi hr => exact .inr ⟨way,n,i,rfl,.inr (.inl ⟨hf,kno,l,M,hk,hd,hlen,hi,rfl,hr⟩)⟩
 | pop M way n i way' r hi hr => exact .inr ⟨way,n,i,rfl,.inr (.inr ⟨hi,M,rfl,hr⟩)⟩
theorem cur_pop {F C : Nat->Prop} {w : World} {gc gt : Nat} {way : List (NodeP × Nat)} {from_ : List UInt8} {tgt er : Int} {s : NodeP × Nat} (h : CurAt F C w gc gt (way ++ [s]) from_ tgt er) :
   ∀ g cap,w.cell? ⟨gc,1,none⟩=some (.slice (some ⟨g,0,none⟩) (way.length + 1) cap) ->
   CurAt F C (w.setCell ⟨gc,1,none⟩ (.slice (some ⟨g,0,none⟩) way.length cap)) gc gt way from_ tgt er/\Ev (FC F C) w (FC F C) (w.setCell ⟨gc,1,none⟩ (.slice (some ⟨g,0,none⟩) way.length cap)):=by
 intro g cap hcell
 obtain ⟨wv,fA,fc,hb,hm,ho,rows,h1,h2,h3⟩:=h.mem
 have hw : wv=.slice (some ⟨g,0,none⟩) (way.length + 1) cap:=by
   have:=hb.cell 1
   rw [hcell] at this
   have h9 : some (Value.slice (some ⟨g,0,none⟩) (way.length + 1) cap)=some wv:=this
   injection h9 with h9
   exact h9.symm
 subst hw
 have hlen : (way ++ [s]).length=way.length + 1:=by simp
 rw [hlen] at h1 h2
 have hE : Ev (FC F C) w (FC F C) (w.setCell ⟨gc,1,none⟩ (.slice (some ⟨g,0,none⟩) way.length cap)):=(Ev.refl _ w).set_ (p:=⟨gc,1,none⟩) (.inr h.own) _
 have hO : Only (fun k => k=gc) w (w.setCell ⟨gc,1,none⟩ (.slice (some ⟨g,0,none⟩) way.length cap)):=(Only.refl (fun k => k=gc) w).setCell (p:=⟨gc,1,none⟩) (fun _ => rfl) _
 have h4 : ∀ r ∈ rows.take way.length,r.length=4:=by
   intro r hr
   obtain ⟨q,hq,e⟩:=List.getElem_of_mem hr
   have hq2 : q < way.length:=by simp at hq; omega
   have hq3 : q < rows.length:=by omega
   obtain ⟨A',c',B',d',e2,_⟩:=h3 q r way[q] (by rw [<- e,List.getElem_take]; exact List.getElem?_eq_getElem hq3) (by rw [List.getElem?_append_left hq2,List.getElem?_eq_getElem hq2])
   rw [e2]; rfl
 have hfl : (rows.take way.length).flatten=rows.flatten.take (way.length * 4):=by
   have e1 : rows=rows.take way.length ++ rows.drop way.length:=(List.take_append_drop ..).symm
   have h9 : ∀ (l : List (List Value)),(∀ r ∈ l,r.length=4)->l.flatten.length=l.length * 4:=by
     intro l
     induction l with
     | nil => intro _; rfl
     | cons a t ih => intro hl; rw [List.flatten_cons,List.length_append,ih fun r hr => hl r (.tail _ hr),hl a (.head _),List.length_cons]; omega
   have e2:=h9 _ h4
   conv => rhs; rw [e1,List.flatten_append]
   rw [List.take_left']
   rw [e2]; simp; omega
 have hrow : w.ownsRow 0 151 4 (.slice (some ⟨g,0,none⟩) way.length cap) way.length (rows.take way.length).flatten:=by
   obtain ⟨g2,cap2,cur,e1,hbg,hcap,hcm,hcs,htk,_⟩:=own_cells4 h2 (by omega)
   injection e1 with e1 _ e3
   injection e1 with e1
   injection e1 with e1
   subst e1; subst e3
   refine ⟨by rw [hfl,List.length_take,h2.1]; omega,.inr ⟨g,cap,cur,rfl,Nat.zero_le _,hbg,by omega,hcm,hcs,?_⟩⟩
   rw [hfl,<- htk,List.take_take,Nat.min_eq_left (by omega)]
 refine ⟨⟨⟨_,fA,fc,hb.set_ 1 _,hm.ev hE,fun k hk => ho k (by simpa [Value.ownBlock] using hk),rows.take way.length,by simp; omega,hO.row hrow (fun k hk e => own_blk_ne h2 hb (by decide) (by rw [<- e]; simpa [Value.ownBlock] using hk)),fun q vs s' e1 e2 => ?_⟩,h.own,h.apart,fun k hk => Nat.lt_of_lt_of_le (h.lt k hk) hE.size⟩,hE⟩
 have hq : q < way.length:=(List.getElem?_eq_some_iff.1 e2).1
 rw [List.getElem?_take,if_pos hq] at e1
 exact (h3 q vs s' e1 (by rw [List.getElem?_append_left hq]; exact e2)).ev hE
theorem wrap_mid (x : Int) (h0 : 0<=x) (h1 : x<=9223372036854775807) : wrap64 x=x/\IntKind.i64.wrap x=x:=⟨by unfold wrap64; omega,IntWalk.i64_in _ (by omega)⟩
theorem wrap_len (P cap : Nat) (h : P + 1<=cap) (h2 : cap<=maxLen) : wrap64 (P : Int)=(P : Int)/\IntKind.i64.wrap (P : Int)=(P : Int):=wrap_mid _ (by omega) (by
 have h9 : maxLen=9223372036854775807:=rfl
 omega)
theorem wrap_next (i : Nat) (h : i<=100000) : wrap64 ((i : Int) + 1)=((i + 1 : Nat) : Int)/\IntKind.i64.wrap ((i : Int) + 1)=((i + 1 : Nat) : Int):=⟨by unfold wrap64; omega,by rw [IntWalk.i64_in _ (by omega)]; omega⟩
set_option maxHeartbeats 4000000 in
theorem next_any (w : World) (F C : Nat->Prop) (gc gt gp k : Nat) (st : PgS) (h : PgAt w F gp st) (ht : TreeAt w (FC F C) gt gp k) (way : List (NodeP × Nat)) (from_ : List UInt8) (tgt er : Int) (hc : CurAt F C w gc gt way from_ tgt er) (way' : List (NodeP × Nat)) (r : Option CellP) (hn : NextR st from_ way tgt way' r) :
   Calls Tryz.prog 58 #[.pointer (some ⟨gc,0,none⟩)] w (NextRet F C w gp st gc gt way' from_ er r):=by
 obtain ⟨R,hR⟩ : ∃ R,R=w.heap.size:=⟨_,rfl⟩
 obtain ⟨w1,hw1⟩ : ∃ w1,w1=w.alloc (.cells #[.slice none 0 0,.slice none 0 0,.int .i64 0,.int .i64 0] 83):=⟨_,rfl⟩
 obtain ⟨hc1,hE1⟩:=cur_wide hc h.lt (.cells #[.slice none 0 0,.slice none 0 0,.int .i64 0,.int .i64 0] 83)
 have hbz:=Blk.new w 83 #[.slice none 0 0,.slice none 0 0,.int .i64 0,.int .i64 0]
 have hP1:=h.alloc (.cells #[.slice none 0 0,.slice none 0 0,.int .i64 0,.int .i64 0] 83)
 rw [<- hR] at hbz
 rw [<- hw1,<- hR] at hc1 hE1
 rw [<- hw1] at hbz hP1
 have hCR : plus C R R:=.inr rfl
 have hnFR : ¬ F R:=fun hf => by have:=h.lt _ hf; omega
 have hRg0 : R ≠ gc:=fun e => by have:=hc.lt _ hc.own; omega
 have ht1:=ht.ev hE1
 have hK1 : CurKeep F C (plus C R) w w1:=⟨fun k hk => .inl hk,fun g t cs hb _ _ _ => by rw [hw1]; exact hb.alloc _⟩
 have hnFw:=hide (fun (g : Nat) (t : TypeId) (cs : Array Value) (hb : Blk w g t cs) => hb.lt)
 obtain ⟨wv1,fA1,fc1,hb1,_⟩:=hc1.mem
 have k3 : w1.cell? ⟨gc,3,none⟩=some (.int .i64 tgt):=hb1.cell 3
 have z3:=hb1.frozen 3
 have k3w : (w.alloc (.cells #[.slice none 0 0,.slice none 0 0,.int .i64 0,.int .i64 0] 83)).cell? ⟨gc,3,none⟩=some (.int .i64 tgt):=by rw [<- hw1]; exact k3
 obtain ⟨hc2,hE2⟩:=cur_tgt hc1 (-1)
 have hP2 : PgAt (w1.setCell ⟨gc,3,none⟩ (.int .i64 (-1))) F gp st:=hP1.set_ (p:=⟨gc,3,none⟩) (hc.apart _ hc.own) _
 have hbz2:=hbz.far (p:=⟨gc,3,none⟩) hRg0 (.int .i64 (-1))
 have ht2:=ht1.ev hE2
 have hK2 : CurKeep F C (plus C R) w (w1.setCell ⟨gc,3,none⟩ (.int .i64 (-1))):=⟨fun k hk => .inl hk,fun g t cs hb hf h1 h2 => (hK1.2 g t cs hb hf h1 h2).far (p:=⟨gc,3,none⟩) (Blk.ne_ (hK1.2 g t cs hb hf h1 h2) hb1 h1) _⟩
 replace h:=hide h
 replace ht:=hide ht
 replace hc:=hide hc
 replace hb1:=hide hb1
 replace hE1:=hide hE1
 replace hc1:=hide hc1
 replace hc2:=hide hc2
 replace hE2:=hide hE2
 replace hP1:=hide hP1
 replace hP2:=hide hP2
 replace hbz:=hide hbz
 replace hbz2:=hide hbz2
 replace ht1:=hide ht1
 replace ht2:=hide ht2
 replace hw1:=hide hw1
 replace hR:=hide hR
 replace hnFR:=hide hnFR
 replace hCR:=hide hCR
 replace hK1:=hide hK1
 replace hK2:=hide hK2
 obtain ⟨mu,hmu⟩:=least_fun (fun (wx : World) (N : Nat) => NxSt F C w gp st gc gt k R from_ er way' r N wx)
 replace hmu : Hid _:=hide hmu
 go_enter Tryz.func58,Tryz.ntmps58
 go_upto_if 13 with (fail)
 rw [<- hw1.out,<- hR.out]
 clear k3w
 go_cut [] (fun wx => Hid (∃ N,NxSt F C w gp st gc gt k R from_ er way' r N wx))
 case first =>
   rcases hn with ⟨rfl,N,hp⟩ | ⟨rfl,rfl,hwn,hrn⟩ | ⟨no,l,rfl,hno,rfl,hwl,hl1,N,hp⟩
   · have hst : Hid (∃ N, NxSt F C w gp st gc gt k R from_ er way' r N w1) := hide ⟨N, F, plus C R, way, hP1.out, hc1.out, hE1.out, hCR.out, hbz.out, hp, ht1.out, hK1.out⟩
     clear hp
     go_wp2_with fail
     go_meet
     case rel => exact hst
   · have hst : Hid (∃ N, NxSt F C w gp st gc gt k R from_ er way' r N (w1.setCell ⟨gc, 3, none⟩ (.int .i64 (-1)))) := hide ⟨0, F, plus C R, [], hP2.out, hc2.out, hE1.out.trans hE2.out, hCR.out, hbz2.out, by rw [hwn, hrn]; exact .done 0, ht2.out, hK2.out⟩
     clear hwn hrn
     go_wp2_with fail
     go_meet
     case rel => exact hst
   · have hnoI : (0 : Int) < (no : Int) := by omega
     have hno0 : (0 : Int)<=(no : Int):=by omega
     have hdn:=hide (cdown_any _ F (plus C R) gc gt gp k st hP2.out ht2.out [] l from_ (-1) er hc2.out no hwl (by simpa using hl1))
     replace hwl:=hide hwl
     replace hp:=hide hp
     clear hno
     go_wp2_with fail
     refine hdn.out.mono ?_
     rintro e w3 ⟨rfl,F3,C3,hP3,hc3,hE3,hC3,hT3⟩
     have hst : Hid (∃ N,NxSt F C w gp st gc gt k R from_ er way' r N w3):=hide ⟨N,F3,C3,l,hP3,hc3,hE1.out.trans (hE2.out.trans hE3),hC3 _ hCR.out,hT3 _ _ _ hbz2.out hnFR.out (by decide) (by decide),hp.out,ht2.out.ev hE3,⟨fun k hk => hC3 k (hK2.out.1 k hk),fun g t cs hb hf h1 h2 => hT3 g t cs (hK2.out.2 g t cs hb hf h1 h2) hf h1 h2⟩⟩
     replace hP3:=hide hP3
     replace hc3:=hide hc3
     replace hE3:=hide hE3
     replace hC3:=hide hC3
     replace hT3 : Hid _:=hide hT3
     go_wp2_with fail
     go_meet
     case rel => exact hst
 have hst0 : Hid (∃ N,NxSt F C w gp st gc gt k R from_ er way' r N wc):=hcut
 clear hcut
 clear k3 z3 hP1 hP2 hc1 hc2 hE1 hE2 hbz hbz2 ht1 ht2 hb1
 go_wp2_with fail
 go_loopw [7] (fun _ wx => Hid (∃ N,NxSt F C w gp st gc gt k R from_ er way' r N wx)) (fun _ wx => mu wx)
 case atStart => exact hst0
 case round =>
   obtain ⟨F1,C1,W,hP,hcu,hE,hC1,hbR,hpop,htr,hKe⟩:=(hmu.out wr hrel.out).1
   obtain ⟨M0,hM0⟩ : ∃ M0,M0=mu wr:=⟨_,rfl⟩
   rw [<- hM0] at hpop
   replace hM0:=hide hM0
   clear hst0 hrel
   have hnF1 : Hid (∀ (g : Nat) (t : TypeId) (cs : Array Value),Blk w g t cs->¬ F g->¬ F1 g):=hide fun g t cs hb hf hf1 => by
     by_cases hCg : C g
     · exact hcu.apart g (hKe.1 g hCg) hf1
     · rcases hE.grow g (.inl hf1) with h9 | h9
       · rcases h9 with h9 | h9
         · exact hf h9
         · exact hCg h9
       · have:=hnFw.out g t cs hb; omega
   have hwRlt : Hid (∀ (g : Nat) (t : TypeId) (cs : Array Value),Blk w g t cs->g ≠ R):=hide fun g t cs hb e => by have:=hnFw.out g t cs hb; have:=hR.out; omega
   replace hKe:=hide hKe
   have y0:=hbR.cell 0
   have y1:=hbR.cell 1
   have y2:=hbR.cell 2
   have y3:=hbR.cell 3
   have f0:=hbR.frozen 0
   have f1:=hbR.frozen 1
   have f2:=hbR.frozen 2
   have f3:=hbR.frozen 3
   rcases hpop.inv with ⟨rfl,rfl,rfl⟩ | ⟨wy,n,i,rfl,hcase⟩
   · obtain ⟨wv, fA, fc, hbc, _, _, rows, _, hrw, _⟩ := hcu.mem
     obtain ⟨wA,wc',rfl⟩:=own_form hrw
     have b1 : wr.cell? ⟨gc,1,none⟩=some (.slice wA 0 wc'):=hbc.cell 1
     have hfin : Hid (∀ W,W=(((wr.setCell ⟨R,0,none⟩ (.slice none 0 0)).setCell ⟨R,1,none⟩ (.slice none 0 0)).setCell ⟨R,2,none⟩ (.int .i64 0)).setCell ⟨R,3,none⟩ (.int .i64 0)->NextRet F C w gp st gc gt [] from_ er none (.returned (.tuple #[.agg #[.slice none 0 0,.slice none 0 0,.int .i64 0,.int .i64 0],.int .i64 3])) W):=by
       refine hide fun W hW => ?_
       have hO : Only (fun j => j=R) wr W:=by rw [hW]; exact ((((Only.refl (fun j => j=R) wr).setCell (p:=⟨R,0,none⟩) (fun _ => rfl) _).setCell (p:=⟨R,1,none⟩) (fun _ => rfl) _).setCell (p:=⟨R,2,none⟩) (fun _ => rfl) _).setCell (p:=⟨R,3,none⟩) (fun _ => rfl) _
       obtain ⟨k1,k2⟩:=cur_side hcu hbR hC1 hO
       have k3 : PgAt W F1 gp st:=hP.keep (fun j hj => hO.block j (hP.lt _ hj) (fun e => hcu.apart _ hC1 (by rw [<- e]; exact hj))) hO.size
       exact ⟨F1,C1,rfl,k3,k1,hE.trans k2,hKe.out.1,fun g t cs hb hf h1 h2 => hO.blk (hKe.out.2 g t cs hb hf h1 h2) (hwRlt.out g t cs hb)⟩
     have hbf:=(((hbR.set_ 0 (.slice none 0 0)).set_ 1 (.slice none 0 0)).set_ 2 (.int .i64 0)).set_ 3 (.int .i64 0)
     replace hP:=hide hP
     replace hcu:=hide hcu
     replace hE:=hide hE
     replace hC1:=hide hC1
     replace hbR:=hide hbR
     replace hpop:=hide hpop
     replace htr:=hide htr
     replace hbc:=hide hbc
     replace hrw:=hide hrw
     replace hbf:=hide hbf
     go_wp2_with fail
     refine bodyPost_ret (v:=.tuple #[.agg #[.slice none 0 0,.slice none 0 0,.int .i64 0,.int .i64 0],.int .i64 3]) ?_ rfl (hfin.out _ rfl)
     have hbf:=hbf.out
     obtain ⟨Wf,hWf⟩ : ∃ Wf,Wf=(((wr.setCell ⟨R,0,none⟩ (.slice none 0 0)).setCell ⟨R,1,none⟩ (.slice none 0 0)).setCell ⟨R,2,none⟩ (.int .i64 0)).setCell ⟨R,3,none⟩ (.int .i64 0):=⟨_,rfl⟩
     rw [<- hWf] at hbf ⊢
     have j0 : Wf.cell? ⟨R,0,none⟩=some (.slice none 0 0):=hbf.cell 0
     have j1 : Wf.cell? ⟨R,1,none⟩=some (.slice none 0 0):=hbf.cell 1
     have j2 : Wf.cell? ⟨R,2,none⟩=some (.int .i64 0):=hbf.cell 2
     have j3 : Wf.cell? ⟨R,3,none⟩=some (.int .i64 0):=hbf.cell 3
     simp [results,Tryz.results58,go_sem,j0,j1,j2,j3]
   · obtain ⟨g, cap, cur, A, cA, B, cB, hbg, hCg, hcap, hcm, k1, s0, s1, s2, s3, hnm, hset⟩ := cur_last hcu
     have hpp:=cur_pop hcu g cap k1
     obtain ⟨wv,fA,fc,hbc,_⟩:=hcu.mem
     have fgc:=hbc.frozen 1
     have fg:=hbg.frozen (wy.length * 4 + 3)
     obtain ⟨P,hP'⟩ : ∃ P,P=wy.length:=⟨_,rfl⟩
     rw [<- hP'] at hcap k1 s0 s1 s2 s3 hset hpp fg
     obtain ⟨N,hN⟩ : ∃ N,N=n.cells.length:=⟨_,rfl⟩
     obtain ⟨K,hK⟩ : ∃ K,K=n.kids.length:=⟨_,rfl⟩
     obtain ⟨lf,hlf⟩ : ∃ lf,lf=n.leaf:=⟨_,rfl⟩
     rw [<- hN] at s1 hnm hcase
     rw [<- hK] at s2 hnm hcase
     rw [<- hlf] at s0 hnm hcase
     replace hcase : Hid _:=hide hcase
     have hadd : (⟨g,0,none⟩ : Addr).add (P * 4)=⟨g,P * 4,none⟩:=by rw [Addr.add_mid,Nat.zero_add]
     have hPl : (P : Int) < (P : Int) + 1:=by omega
     have hP0 : (0 : Int)<=(P : Int):=by omega
     have hPc : (P : Int)<=(cap : Int):=by omega
     replace hP:=hide hP
     replace hcu:=hide hcu
     replace hE:=hide hE
     replace hC1:=hide hC1
     replace hbR:=hide hbR
     replace hpop:=hide hpop
     replace htr:=hide htr
     replace hbc:=hide hbc
     replace hbg:=hide hbg
     replace hCg:=hide hCg
     have hwP:=hide (wrap_len P cap hcap hcm)
     replace hcm:=hide hcm
     replace hpp:=hide hpp
     replace hset : Hid _:=hide hset
     replace hnm:=hide hnm
     replace hN:=hide hN
     replace hK:=hide hK
     replace hlf:=hide hlf
     replace hP':=hide hP'
     rcases hcase.out with ⟨rfl,c,hcc,hib,rfl,rfl⟩ | ⟨rfl,kno,l,M,hkk,hwf,hlen,hib,hMM,hpr⟩ | ⟨hie,M,hMM,hpr⟩
     · have hiN : i < N := by rw [hN.out]; exact (List.getElem?_eq_some_iff.1 hcc).1
       have hiI : (i : Int) < (N : Int):=by omega
       have hiD : decide ((i : Int) < (N : Int))=true:=decide_eq_true hiI
       have hiDn : decide (i < N)=true:=decide_eq_true hiN
       obtain ⟨ad,kA,vA,kc,vc,rfl,hh⟩ : ∃ ad kA vA kc vc,A=some ad/\CellHere (Mine (FC F1 C1) wr) wr (ad.add (i * 4)) c kA vA kc vc:=by
         obtain ⟨A9,c9,B9,d9,e9,_,_,hcs,_⟩:=hnm.out
         have hil : i < n.cells.length:=by rw [<- hN.out]; exact hiN
         obtain ⟨ad,kA,vA,kc,vc,e1,hh⟩:=hcs.at_ i hil
         have e2 : n.cells[i]=c:=(List.getElem?_eq_some_iff.1 hcc).2
         rw [e2] at hh
         injection e9 with e9
         simp at e9
         exact ⟨ad,kA,vA,kc,vc,e9.2.1.1.trans e1,hh⟩
       replace hcc:=hide hcc
       obtain ⟨hw0,hw0'⟩:=hwP.out
       obtain ⟨hw1,hw1'⟩:=wrap_next i hib
       go_wp2_with fail
       go_quiet (fail)
       go_upto_region 14 with (fail)
       have hwz : ((i : Int) + 1)=((i + 1 : Nat) : Int):=by omega
       obtain ⟨W4,hW4⟩ : ∃ W4,W4=(wr.drewN nq).setCell ⟨g,P * 4 + 3,none⟩ (.int .i64 ((i : Int) + 1)):=⟨_,rfl⟩
       rw [<- hW4]
       rw [hwz] at hW4
       obtain ⟨hs1,hs2⟩:=hset.out (i + 1)
       have hD : Ev F1 (wr.setCell ⟨g,P * 4 + 3,none⟩ (.int .i64 ((i + 1 : Nat) : Int))) F1 W4:=by
         have q:=(Ev.refl F1 (wr.setCell ⟨g,P * 4 + 3,none⟩ (.int .i64 ((i + 1 : Nat) : Int)))).drewN nq
         rw [hW4]; exact q
       have hcu4:=hs1.ev hD
       have hE4 : Ev (FC F1 C1) wr (FC F1 C1) W4:=hs2.trans (hD.add C1)
       have hgF : ¬ F1 g:=hcu.out.apart _ hCg.out
       have hP4 : PgAt W4 F1 gp st:=by rw [hW4]; exact (hP.out.drewN nq).set_ (p:=⟨g,P * 4 + 3,none⟩) hgF _
       have hRg : R ≠ g:=Blk.ne_ hbR.out hbg.out (by decide)
       have hO4 : ∀ b,b ≠ g->W4.heap[b]?=wr.heap[b]?:=fun b hb => by rw [hW4]; exact Below.heap_setCell _ ⟨g,P * 4 + 3,none⟩ _ b hb
       have hcs1 : W4.cell? ⟨g,P * 4 + 1,none⟩=some (.slice (some ad) N cA):=by rw [hW4,World.cell?_setCell_other _ _ _ _ (by simp)]; exact s1
       have hcell : ∀ b o,b ≠ g->W4.cell? ⟨b,o,none⟩=wr.cell? ⟨b,o,none⟩:=fun b o hb => World.cell?_of_block (hO4 b hb)
       have hbk:=hh.blk
       have hbg4 : (ad.add (i * 4)).block ≠ g:=fun e => hbk.2 (by rw [e]; exact .inr hCg.out)
       have hh4 : CellHere (Mine (FC F1 C1) W4) W4 (ad.add (i * 4)) c kA vA kc vc:=⟨(World.cell?_of_block (hO4 _ hbg4)).trans hh.c0,(hcell _ _ hbg4).trans hh.c1,(hcell _ _ hbg4).trans hh.c2,(hcell _ _ hbg4).trans hh.c3,hh.kle,hh.vle,hh.key.ev hE4,hh.val.ev hE4,hE4.mine hbk⟩
       have x0:=hh4.c0
       have x1:=hh4.c1
       have x2:=hh4.c2
       have x3:=hh4.c3
       have hbR4 : Blk W4 R 83 #[.slice none 0 0,.slice none 0 0,.int .i64 0,.int .i64 0]:=(hO4 _ hRg).trans hbR.out
       have hfin : Hid (∀ W,W=(((W4.setCell ⟨R,0,none⟩ (.slice kA c.key.length kc)).setCell ⟨R,1,none⟩ (.slice vA c.val.length vc)).setCell ⟨R,2,none⟩ (.int .i64 (c.over : Int))).setCell ⟨R,3,none⟩ (.int .i64 (c.long : Int)) ->
           NextRet F C w gp st gc gt (wy ++ [(n,i + 1)]) from_ er (some c) (.returned (.tuple #[.agg #[.slice kA c.key.length kc,.slice vA c.val.length vc,.int .i64 (c.over : Int),.int .i64 (c.long : Int)],.int .i64 0])) W):=by
         refine hide fun W hW => ?_
         have hO : Only (fun j => j=R) W4 W:=by rw [hW]; exact ((((Only.refl (fun j => j=R) W4).setCell (p:=⟨R,0,none⟩) (fun _ => rfl) _).setCell (p:=⟨R,1,none⟩) (fun _ => rfl) _).setCell (p:=⟨R,2,none⟩) (fun _ => rfl) _).setCell (p:=⟨R,3,none⟩) (fun _ => rfl) _
         obtain ⟨k1,k2⟩:=cur_side hcu4 hbR4 hC1.out hO
         have k3 : PgAt W F1 gp st:=hP4.keep (fun j hj => hO.block j (hP4.lt _ hj) (fun e => hcu.out.apart _ hC1.out (by rw [<- e]; exact hj))) hO.size
         exact ⟨F1,C1,kA,kc,vA,vc,rfl,⟨kA,kc,vA,vc,rfl,hh4.kle,hh4.vle,hh4.key.ev k2,hh4.val.ev k2⟩,k3,k1,hE.out.trans (hE4.trans k2),hKe.out.1,fun g' t cs hb hf h1 h2 => hO.blk ((hO4 g' (Blk.ne_ (hKe.out.2 g' t cs hb hf h1 h2) hbg.out h2)).trans (hKe.out.2 g' t cs hb hf h1 h2)) (hwRlt.out g' t cs hb)⟩
       have y0:=hbR4.cell 0
       have y1:=hbR4.cell 1
       have y2:=hbR4.cell 2
       have y3:=hbR4.cell 3
       have f0:=hbR4.frozen 0
       have f1:=hbR4.frozen 1
       have f2:=hbR4.frozen 2
       have f3:=hbR4.frozen 3
       have hbf:=(((hbR4.set_ 0 (.slice kA c.key.length kc)).set_ 1 (.slice vA c.val.length vc)).set_ 2 (.int .i64 (c.over : Int))).set_ 3 (.int .i64 (c.long : Int))
       replace hbf:=hide hbf
       replace hbR4:=hide hbR4
       replace hh4:=hide hh4
       replace hh:=hide hh
       replace hP4:=hide hP4
       replace hE4:=hide hE4
       replace hcu4:=hide hcu4
       replace hs1:=hide hs1
       replace hs2:=hide hs2
       replace hD:=hide hD
       replace hO4:=hide hO4
       replace hcell:=hide hcell
       replace hbk:=hide hbk
       replace hW4:=hide hW4
       clear s0 s1 s2 s3 k1 fg hwz
       go_wp2_with fail
       refine bodyPost_ret (v:=.tuple #[.agg #[.slice kA c.key.length kc,.slice vA c.val.length vc,.int .i64 (c.over : Int),.int .i64 (c.long : Int)],.int .i64 0]) ?_ rfl (hfin.out _ rfl)
       have hbf:=hbf.out
       obtain ⟨Wf,hWf⟩ : ∃ Wf,Wf=(((W4.setCell ⟨R,0,none⟩ (.slice kA c.key.length kc)).setCell ⟨R,1,none⟩ (.slice vA c.val.length vc)).setCell ⟨R,2,none⟩ (.int .i64 (c.over : Int))).setCell ⟨R,3,none⟩ (.int .i64 (c.long : Int)):=⟨_,rfl⟩
       rw [<- hWf] at hbf ⊢
       have j0 : Wf.cell? ⟨R,0,none⟩=some (.slice kA c.key.length kc):=hbf.cell 0
       have j1 : Wf.cell? ⟨R,1,none⟩=some (.slice vA c.val.length vc):=hbf.cell 1
       have j2 : Wf.cell? ⟨R,2,none⟩=some (.int .i64 (c.over : Int)):=hbf.cell 2
       have j3 : Wf.cell? ⟨R,3,none⟩=some (.int .i64 (c.long : Int)):=hbf.cell 3
       simp [results,Tryz.results58,go_sem,j0,j1,j2,j3]
     · have hiK : i < K := by rw [hK.out]; exact (List.getElem?_eq_some_iff.1 hkk).1
       have hiI : (i : Int) < (K : Int):=by omega
       have hiD : decide ((i : Int) < (K : Int))=true:=decide_eq_true hiI
       have hiDn : decide (i < K)=true:=decide_eq_true hiK
       replace hkk:=hide hkk
       replace hwf:=hide hwf
       replace hpr:=hide hpr
       replace hlen:=hide hlen
       obtain ⟨hw0,hw0'⟩:=hwP.out
       obtain ⟨hw1,hw1'⟩:=wrap_next i hib
       go_wp2_with fail
       go_quiet (fail)
       go_upto_region 17 with (fail)
       have hwz : ((i : Int) + 1)=((i + 1 : Nat) : Int):=by omega
       obtain ⟨W4,hW4⟩ : ∃ W4,W4=(wr.drewN nq).setCell ⟨g,P * 4 + 3,none⟩ (.int .i64 ((i : Int) + 1)):=⟨_,rfl⟩
       rw [<- hW4]
       rw [hwz] at hW4
       obtain ⟨hs1,hs2⟩:=hset.out (i + 1)
       have hD : Ev F1 (wr.setCell ⟨g,P * 4 + 3,none⟩ (.int .i64 ((i + 1 : Nat) : Int))) F1 W4:=by
         have q:=(Ev.refl F1 (wr.setCell ⟨g,P * 4 + 3,none⟩ (.int .i64 ((i + 1 : Nat) : Int)))).drewN nq
         rw [hW4]; exact q
       have hcu4:=hs1.ev hD
       have hE4 : Ev (FC F1 C1) wr (FC F1 C1) W4:=hs2.trans (hD.add C1)
       have hgF : ¬ F1 g:=hcu.out.apart _ hCg.out
       have hP4 : PgAt W4 F1 gp st:=by rw [hW4]; exact (hP.out.drewN nq).set_ (p:=⟨g,P * 4 + 3,none⟩) hgF _
       have hRg : R ≠ g:=Blk.ne_ hbR.out hbg.out (by decide)
       have hO4 : ∀ b,b ≠ g->W4.heap[b]?=wr.heap[b]?:=fun b hb => by rw [hW4]; exact Below.heap_setCell _ ⟨g,P * 4 + 3,none⟩ _ b hb
       have hcs2 : W4.cell? ⟨g,P * 4 + 2,none⟩=some (.slice B K cB):=by rw [hW4,World.cell?_setCell_other _ _ _ _ (by simp)]; exact s2
       have hbR4 : Blk W4 R 83 #[.slice none 0 0,.slice none 0 0,.int .i64 0,.int .i64 0]:=(hO4 _ hRg).trans hbR.out
       obtain ⟨A9,c9,B9,d9,e9,_,_,_,hks9⟩:=hnm.out.ev hE4
       injection e9 with e9
       simp at e9
       obtain ⟨bd,hB,_,hkc⟩:=hks9.2 (Nat.lt_of_le_of_lt (Nat.zero_le i) (List.getElem?_eq_some_iff.1 hkk.out).1)
       have hBd : B=some bd:=e9.2.2.1.trans hB
       subst hBd
       have kx:=hkc i _ (show (n.kids.map encI)[i]?=some (.int .i64 (kno : Int)) by rw [List.getElem?_map,hkk.out]; rfl)
       have hdn:=hide (down_first W4 F1 C1 gc gt gp k st hP4 (htr.out.ev hE4) (wy ++ [(n,i + 1)]) l from_ (-1) er hcu4 kno hwf.out (by simpa using hlen.out))
       have hnR : ¬ F1 R:=hcu.out.apart _ hC1.out
       clear hks9 hkc e9 hB
       replace hbR4:=hide hbR4
       replace hP4:=hide hP4
       replace hE4:=hide hE4
       replace hcu4:=hide hcu4
       replace hs1:=hide hs1
       replace hs2:=hide hs2
       replace hD:=hide hD
       replace hO4:=hide hO4
       replace hW4:=hide hW4
       clear s0 s1 s2 s3 k1 fg hwz y0 y1 y2 y3 f0 f1 f2 f3
       go_wp2_with fail
       refine hdn.out.mono ?_
       rintro e w5 ⟨rfl,F5,C5,hP5,hc5,hE5,hC5,hT5⟩
       have hst : Hid (NxSt F C w gp st gc gt k R from_ er way' r M w5):=hide ⟨F5,C5,(wy ++ [(n,i + 1)]) ++ l,hP5,hc5,hE.out.trans (hE4.out.trans hE5),hC5 _ hC1.out,hT5 _ _ _ hbR4.out hnR (by decide) (by decide),hpr.out,htr.out.ev (hE4.out.trans hE5),fun k hk => hC5 k (hKe.out.1 k hk),fun g' t cs hb hf h1 h2 => hT5 g' t cs ((hO4.out g' (Blk.ne_ (hKe.out.2 g' t cs hb hf h1 h2) hbg.out h2)).trans (hKe.out.2 g' t cs hb hf h1 h2)) (hnF1.out g' t cs hb hf) h1 h2⟩
       have hms : Hid (mu w5 < mu wr):=hide (by
         have h1:=(hmu.out w5 ⟨M,hst.out⟩).2 M hst.out
         have h2:=hM0.out
         omega)
       replace hP5:=hide hP5
       replace hc5:=hide hc5
       replace hE5:=hide hE5
       replace hC5:=hide hC5
       replace hT5 : Hid _:=hide hT5
       replace hnR:=hide hnR
       go_wp2_with fail
       go_roundw
       case rel => exact hide ⟨M,hst.out⟩
       case measure => exact hms.out
     · have hie' := hide hie
       cases lf with
       | true =>
         have hle : N<=i:=by simpa using hie
         have hd1 : decide ((i : Int) < (N : Int))=false:=decide_eq_false (by omega)
         have hd2 : decide (i < N)=false:=decide_eq_false (by omega)
         have hnI : ¬ (i : Int) < (N : Int):=by omega
         clear hie
         obtain ⟨hw0,hw0'⟩:=hwP.out
         go_wp2_with fail
         go_quiet (fail)
         go_upto_region 11 with (fail)
         obtain ⟨W4,hW4⟩ : ∃ W4,W4=wr.drewN nq:=⟨_,rfl⟩
         rw [<- hW4]
         have hD : Ev (FC F1 C1) wr (FC F1 C1) W4:=by rw [hW4]; exact (Ev.refl _ wr).drewN nq
         have hDF : Ev F1 wr F1 W4:=by rw [hW4]; exact (Ev.refl _ wr).drewN nq
         have hP4 : PgAt W4 F1 gp st:=by rw [hW4]; exact hP.out.drewN nq
         have q1 : W4.cell? ⟨gc,1,none⟩=some (.slice (some ⟨g,0,none⟩) (P + 1) cap):=by rw [hW4]; exact k1
         have q2 : W4.frozen? ⟨gc,1,none⟩=false:=by rw [hW4]; exact fgc
         have hcu4:=hcu.out.ev hDF
         have hpp4 : CurAt F1 C1 (W4.setCell ⟨gc,1,none⟩ (.slice (some ⟨g,0,none⟩) P cap)) gc gt wy from_ (-1) er/\Ev (FC F1 C1) W4 (FC F1 C1) (W4.setCell ⟨gc,1,none⟩ (.slice (some ⟨g,0,none⟩) P cap)):=by
           have h9:=cur_pop hcu4 g cap (by rw [<- hP'.out]; exact q1)
           rw [<- hP'.out] at h9; exact h9
         have hst : Hid (∀ W,W=(W4.setCell ⟨gc,1,none⟩ (.slice (some ⟨g,0,none⟩) P cap)).drew->NxSt F C w gp st gc gt k R from_ er way' r M W):=hide fun W hW => by
           rw [hW]
           have hd9 : Ev F1 (W4.setCell ⟨gc,1,none⟩ (.slice (some ⟨g,0,none⟩) P cap)) F1 (W4.setCell ⟨gc,1,none⟩ (.slice (some ⟨g,0,none⟩) P cap)).drew:=(Ev.refl _ _).drew
           have hRg : R ≠ gc:=hRg0
           exact ⟨F1,C1,wy,(hP4.set_ (p:=⟨gc,1,none⟩) (hcu.out.apart _ hcu.out.own) _).drew,hpp4.1.ev hd9,hE.out.trans (hD.trans (hpp4.2.trans (hd9.add C1))),hC1.out,(((hDF.blk hbR.out (hcu.out.apart _ hC1.out)).far (p:=⟨gc,1,none⟩) hRg _)).drew,hpr,htr.out.ev (hD.trans (hpp4.2.trans (hd9.add C1))),hKe.out.1,fun g' t cs hb hf h1 h2 => ((hDF.blk (hKe.out.2 g' t cs hb hf h1 h2) (hnF1.out g' t cs hb hf)).far (p:=⟨gc,1,none⟩) (Blk.ne_ (hKe.out.2 g' t cs hb hf h1 h2) hbc.out h1) _).drew⟩
         have hms : Hid (∀ W,NxSt F C w gp st gc gt k R from_ er way' r M W->mu W < mu wr):=hide (fun W hW => by
           have h1:=(hmu.out W ⟨M,hW⟩).2 M hW
           have h2:=hM0.out
           omega)
         have hpr':=hide hpr
         clear hpr
         replace hP4:=hide hP4
         replace hD:=hide hD
         replace hDF:=hide hDF
         replace hcu4:=hide hcu4
         replace hpp4:=hide hpp4
         replace hW4:=hide hW4
         clear s0 s1 s2 s3 k1 fg y0 y1 y2 y3 f0 f1 f2 f3 fgc hd1 hd2 hnI hle
         go_still_tail 14,(by kernel_rfl)
         go_wp2_with fail
         go_roundw
         case rel => exact hide ⟨M,hst.out _ rfl⟩
         case measure => exact hms.out _ (hst.out _ rfl)
       | false =>
         have hle : K<=i:=by simpa using hie
         have hd1 : decide ((i : Int) < (K : Int))=false:=decide_eq_false (by omega)
         have hd2 : decide (i < K)=false:=decide_eq_false (by omega)
         have hnI : ¬ (i : Int) < (K : Int):=by omega
         clear hie
         obtain ⟨hw0,hw0'⟩:=hwP.out
         go_wp2_with fail
         go_quiet (fail)
         go_upto_region 11 with (fail)
         obtain ⟨W4,hW4⟩ : ∃ W4,W4=wr.drewN nq:=⟨_,rfl⟩
         rw [<- hW4]
         have hD : Ev (FC F1 C1) wr (FC F1 C1) W4:=by rw [hW4]; exact (Ev.refl _ wr).drewN nq
         have hDF : Ev F1 wr F1 W4:=by rw [hW4]; exact (Ev.refl _ wr).drewN nq
         have hP4 : PgAt W4 F1 gp st:=by rw [hW4]; exact hP.out.drewN nq
         have q1 : W4.cell? ⟨gc,1,none⟩=some (.slice (some ⟨g,0,none⟩) (P + 1) cap):=by rw [hW4]; exact k1
         have q2 : W4.frozen? ⟨gc,1,none⟩=false:=by rw [hW4]; exact fgc
         have hcu4:=hcu.out.ev hDF
         have hpp4 : CurAt F1 C1 (W4.setCell ⟨gc,1,none⟩ (.slice (some ⟨g,0,none⟩) P cap)) gc gt wy from_ (-1) er/\Ev (FC F1 C1) W4 (FC F1 C1) (W4.setCell ⟨gc,1,none⟩ (.slice (some ⟨g,0,none⟩) P cap)):=by
           have h9:=cur_pop hcu4 g cap (by rw [<- hP'.out]; exact q1)
           rw [<- hP'.out] at h9; exact h9
         have hst : Hid (∀ W,W=(W4.setCell ⟨gc,1,none⟩ (.slice (some ⟨g,0,none⟩) P cap)).drew->NxSt F C w gp st gc gt k R from_ er way' r M W):=hide fun W hW => by
           rw [hW]
           have hd9 : Ev F1 (W4.setCell ⟨gc,1,none⟩ (.slice (some ⟨g,0,none⟩) P cap)) F1 (W4.setCell ⟨gc,1,none⟩ (.slice (some ⟨g,0,none⟩) P cap)).drew:=(Ev.refl _ _).drew
           have hRg : R ≠ gc:=hRg0
           exact ⟨F1,C1,wy,(hP4.set_ (p:=⟨gc,1,none⟩) (hcu.out.apart _ hcu.out.own) _).drew,hpp4.1.ev hd9,hE.out.trans (hD.trans (hpp4.2.trans (hd9.add C1))),hC1.out,(((hDF.blk hbR.out (hcu.out.apart _ hC1.out)).far (p:=⟨gc,1,none⟩) hRg _)).drew,hpr,htr.out.ev (hD.trans (hpp4.2.trans (hd9.add C1))),hKe.out.1,fun g' t cs hb hf h1 h2 => ((hDF.blk (hKe.out.2 g' t cs hb hf h1 h2) (hnF1.out g' t cs hb hf)).far (p:=⟨gc,1,none⟩) (Blk.ne_ (hKe.out.2 g' t cs hb hf h1 h2) hbc.out h1) _).drew⟩
         have hms : Hid (∀ W,NxSt F C w gp st gc gt k R from_ er way' r M W->mu W < mu wr):=hide (fun W hW => by
           have h1:=(hmu.out W ⟨M,hW⟩).2 M hW
           have h2:=hM0.out
           omega)
         have hpr':=hide hpr
         clear hpr
         replace hP4:=hide hP4
         replace hD:=hide hD
         replace hDF:=hide hDF
         replace hcu4:=hide hcu4
         replace hpp4:=hide hpp4
         replace hW4:=hide hW4
         clear s0 s1 s2 s3 k1 fg y0 y1 y2 y3 f0 f1 f2 f3 fgc hd1 hd2 hnI hle
         go_still_tail 14,(by kernel_rfl)
         go_wp2_with fail
         go_roundw
         case rel => exact hide ⟨M,hst.out _ rfl⟩
         case measure => exact hms.out _ (hst.out _ rfl)
def NxtEnd (F C : Nat->Prop) (w : World) (gp : Nat) (st : PgS) (gc gt : Nat) (way : List (NodeP × Nat)) (from_ key b : List UInt8) (e : Ending) (w' : World) : Prop :=
 ∃ F' C' kA kc vA vc, e = .returned (.tuple #[.slice kA key.length kc, .slice vA b.length vc, .int .i64 0]) /\ Rd (byteOf (FC F' C') w') w' 1 kA key.length (bv key) /\ Rd (byteOf (FC F' C') w') w' 1 vA b.length (bv b) /\ key.length <= kc /\ b.length <= vc /\ kc <= maxLen /\ vc <= maxLen /\
   PgAt w' F' gp st/\CurAt F' C' w' gc gt way from_ (-1) 0/\Ev (FC F C) w (FC F' C') w'/\CurKeep F C C' w w'
def NxtNo (F C : Nat->Prop) (w : World) (gp : Nat) (st : PgS) (gc gt : Nat) (way : List (NodeP × Nat)) (from_ : List UInt8) (e : Ending) (w' : World) : Prop :=
 ∃ F' C',e=.returned (.tuple #[.slice none 0 0,.slice none 0 0,.int .i64 3])/\PgAt w' F' gp st/\CurAt F' C' w' gc gt way from_ (-1) 3/\Ev (FC F C) w (FC F' C') w'/\CurKeep F C C' w w'
theorem Rd.madeB {F : Nat->Prop} {w' : World} {base n c : Nat} {A : Option Addr} {l : List UInt8} (h : OB w' base (.slice A n c) n l) (hF : ∀ k,F k->k < base) : Rd (byteOf F w') w' 1 A n (bv l) :=
 Rd.keep h.rd5 fun j hj => by
   obtain ⟨q1,cs,q2⟩:=hj
   exact ⟨⟨⟨q2.lt,fun hf => by have:=hF j hf; omega⟩,cs,q2⟩,rfl⟩
theorem Rd.evBB {F F' : Nat->Prop} {w w' : World} {size n : Nat} {A : Option Addr} {xs : List Value} (h : Rd (byteOf F w) w size A n xs) (he : Ev F w F' w') : Rd (byteOf F' w') w' size A n xs:=h.keep fun k hk => by
 obtain ⟨h1,bs,h2⟩:=hk
 have:=he.block h1
 exact ⟨⟨he.mine h1,bs,Eq.trans this h2⟩,this⟩
set_option maxHeartbeats 2000000 in
theorem cnext_no (w : World) (F C : Nat->Prop) (gc gt gp k : Nat) (st : PgS) (h : PgAt w F gp st) (ht : TreeAt w (FC F C) gt gp k) (way : List (NodeP × Nat)) (from_ : List UInt8) (tgt : Int) (hc : CurAt F C w gc gt way from_ tgt 0) (way' : List (NodeP × Nat)) (hnr : NextR st from_ way tgt way' none) :
   Calls Tryz.prog 26 #[.pointer (some ⟨gc,0,none⟩)] w (NxtNo F C w gp st gc gt way' from_):=by
 have hn:=hide (next_any w F C gc gt gp k st h ht way from_ tgt 0 hc way' none hnr)
 obtain ⟨wv0,fA0,fc0,hb0,_⟩:=hc.mem
 have a4 : w.cell? ⟨gc,4,none⟩=some (.int .i64 0):=hb0.cell 4
 replace h:=hide h
 replace ht:=hide ht
 replace hc:=hide hc
 replace hnr:=hide hnr
 replace hb0:=hide hb0
 go_enter Tryz.func26,Tryz.ntmps26
 go_wp2_with fail
 refine hn.out.mono ?_
 rintro e w3 ⟨F3,C3,rfl,hP3,hc3,hE3,hK3⟩
 obtain ⟨o,ho⟩ : ∃ o,o=Obj.cells #[.slice none 0 0,.slice none 0 0,.int .i64 0,.int .i64 0] 83:=⟨_,rfl⟩
 have hE4 : Ev F3 w3 F3 (w3.alloc o):=(Ev.refl F3 w3).alloc_ _
 have hc4:=hc3.ev hE4
 have hP4:=hP3.alloc o
 obtain ⟨hc5,hE5⟩:=cur_err hc4 3
 obtain ⟨wv4,fA4,fc4,hb4,_⟩:=hc4.mem
 have hK5 : CurKeep F C C3 w ((w3.alloc o).setCell ⟨gc,4,none⟩ (.int .i64 3)):=⟨hK3.1,fun g t cs hb hf h1 h2 => ((hK3.2 g t cs hb hf h1 h2).alloc o).far (p:=⟨gc,4,none⟩) (Blk.ne_ ((hK3.2 g t cs hb hf h1 h2).alloc o) hb4 h1) _⟩
 have z4 : (w3.alloc o).cell? ⟨gc,4,none⟩=some (.int .i64 0):=hb4.cell 4
 have y4:=hb4.frozen 4
 have hP5 : PgAt ((w3.alloc o).setCell ⟨gc,4,none⟩ (.int .i64 3)) F3 gp st:=hP4.set_ (p:=⟨gc,4,none⟩) (hc4.apart _ hc4.own) _
 have hdone : Hid (NxtNo F C w gp st gc gt way' from_ (.returned (.tuple #[.slice none 0 0,.slice none 0 0,.int .i64 3])) ((w3.alloc o).setCell ⟨gc,4,none⟩ (.int .i64 3))):=hide ⟨F3,C3,rfl,hP5,hc5,hE3.trans ((hE4.add C3).trans hE5),hK5⟩
 subst ho
 replace hP3:=hide hP3
 replace hc3:=hide hc3
 replace hE3:=hide hE3
 replace hK3:=hide hK3
 replace hK5:=hide hK5
 replace hE4:=hide hE4
 replace hc4:=hide hc4
 replace hP4:=hide hP4
 replace hc5:=hide hc5
 replace hE5:=hide hE5
 replace hb4:=hide hb4
 replace hP5:=hide hP5
 clear hn
 go_wp2_with fail
 go_ret3
 exact hdone.out
set_option maxHeartbeats 2000000 in
theorem cnext_some (w : World) (F C : Nat->Prop) (gc gt gp k : Nat) (st : PgS) (h : PgAt w F gp st) (ht : TreeAt w (FC F C) gt gp k) (way : List (NodeP × Nat)) (from_ : List UInt8) (tgt : Int) (hc : CurAt F C w gc gt way from_ tgt 0) (way' : List (NodeP × Nat)) (c : CellP) (b : List UInt8) (hnr : NextR st from_ way tgt way' (some c)) (hvg : ValueG st c b) (hkl : c.key.length<=100000) (hvl : b.length<=100000) :
   Calls Tryz.prog 26 #[.pointer (some ⟨gc,0,none⟩)] w (NxtEnd F C w gp st gc gt way' from_ c.key b):=by
 have hn:=hide (next_any w F C gc gt gp k st h ht way from_ tgt 0 hc way' (some c) hnr)
 obtain ⟨wv0,fA0,fc0,hb0,_⟩:=hc.mem
 have a4 : w.cell? ⟨gc,4,none⟩=some (.int .i64 0):=hb0.cell 4
 replace h:=hide h
 replace ht:=hide ht
 replace hc:=hide hc
 replace hnr:=hide hnr
 replace hb0:=hide hb0
 replace hvg:=hide hvg
 go_enter Tryz.func26,Tryz.ntmps26
 go_wp2_with fail
 refine hn.out.mono ?_
 rintro e w3 ⟨F3,C3,kA,kc,vA,vc,rfl,hcv,hP3,hc3,hE3,hK3⟩
 obtain ⟨v1,v2,v3,v4⟩:=cellv_here hcv
 have hv2:=hide v2
 obtain ⟨L,hL⟩ : ∃ L,L=c.key.length:=⟨_,rfl⟩
 obtain ⟨M,hM⟩ : ∃ M,M=c.val.length:=⟨_,rfl⟩
 obtain ⟨ov,hov⟩ : ∃ ov,ov=c.over:=⟨_,rfl⟩
 obtain ⟨lg,hlg⟩ : ∃ lg,lg=c.long:=⟨_,rfl⟩
 rw [<- hL] at v1 v3 hkl
 rw [<- hM] at v2 v4
 rw [<- hL,<- hM,<- hov,<- hlg]
 obtain ⟨o,ho⟩ : ∃ o,o=Obj.cells #[.slice kA L kc,.slice vA M vc,.int .i64 (ov : Int),.int .i64 (lg : Int)] 83:=⟨_,rfl⟩
 have hE4 : Ev F3 w3 F3 (w3.alloc o):=(Ev.refl F3 w3).alloc_ _
 have hc4:=hc3.ev hE4
 have hP4:=hP3.alloc o
 have hbc4 : Blk (w3.alloc o) w3.heap.size 83 #[.slice kA L kc,.slice vA M vc,.int .i64 (ov : Int),.int .i64 (lg : Int)]:=by rw [ho]; exact Blk.new w3 83 _
 obtain ⟨W4,hW4⟩ : ∃ W4,W4=w3.alloc (.cells #[.slice kA L kc,.slice vA M vc,.int .i64 (ov : Int),.int .i64 (lg : Int)] 83):=⟨_,rfl⟩
 obtain ⟨R,hR⟩ : ∃ R,R=w3.heap.size:=⟨_,rfl⟩
 have hW4o : W4=w3.alloc o:=by rw [hW4,ho]
 rw [<- hW4o] at hE4 hc4 hP4 hbc4
 rw [<- hR] at hbc4
 have h4a:=hE4.add C3
 have u3:=v3.ev h4a
 have u4:=v4.ev h4a
 obtain ⟨hc5,hE5⟩:=cur_err hc4 0
 have hRg : R ≠ gc:=fun e => by
   have h9:=hc3.lt _ hc3.own
   omega
 have hFlt3:=hP3.lt
 have hRF : ¬ F3 R:=fun hf => by have:=hFlt3 _ hf; omega
 obtain ⟨wv4,fA4,fc4,hb4,_⟩:=hc4.mem
 have z4 : W4.cell? ⟨gc,4,none⟩=some (.int .i64 0):=hb4.cell 4
 have y4:=hb4.frozen 4
 obtain ⟨wv5,fA5,fc5,hb5,_⟩:=hc5.mem
 have hP5 : PgAt (W4.setCell ⟨gc,4,none⟩ (.int .i64 0)) F3 gp st:=hP4.set_ (p:=⟨gc,4,none⟩) (hc4.apart _ hc4.own) _
 have hbc5:=hbc4.far (p:=⟨gc,4,none⟩) hRg (.int .i64 0)
 obtain ⟨W5,hW5⟩ : ∃ W5,W5=W4.setCell ⟨gc,4,none⟩ (.int .i64 0):=⟨_,rfl⟩
 rw [<- hW5] at hc5 hE5 hb5 hP5 hbc5
 have t3:=u3.ev hE5
 have t4:=u4.ev hE5
 have b0 : W5.cell? ⟨gc,0,none⟩=some (.pointer (some ⟨gt,0,none⟩)):=hb5.cell 0
 have r0 : W5.cell? ⟨R,0,none⟩=some (.slice kA L kc):=hbc5.cell 0
 have r1 : W5.cell? ⟨R,1,none⟩=some (.slice vA M vc):=hbc5.cell 1
 have r2 : W5.cell? ⟨R,2,none⟩=some (.int .i64 (ov : Int)):=hbc5.cell 2
 have r3 : W5.cell? ⟨R,3,none⟩=some (.int .i64 (lg : Int)):=hbc5.cell 3
 have hK5 : CurKeep F C C3 w W5:=⟨hK3.1,fun g t cs hb hf h1 h2 => by
   have q : Blk W4 g t cs:=by rw [hW4]; exact (hK3.2 g t cs hb hf h1 h2).alloc _
   rw [hW5]
   exact q.far (p:=⟨gc,4,none⟩) (Blk.ne_ q hb4 h1) _⟩
 have hnF3 : Hid (∀ (g : Nat) (t : TypeId) (cs : Array Value),Blk w g t cs->¬ F g->¬ F3 g):=hide fun g t cs hb hf hf1 => by
   by_cases hCg : C g
   · exact hc3.apart g (hK3.1 g hCg) hf1
   · rcases hE3.grow g (.inl hf1) with h9 | h9
     · rcases h9 with h9 | h9
       · exact hf h9
       · exact hCg h9
     · have:=hb.lt; omega
 have hev5 : Ev (FC F C) w (FC F3 C3) W5:=hE3.trans (h4a.trans hE5)
 have ht5:=ht.out.ev hev5
 have htF5 : TreeAt W5.drew F3 gt gp k:=⟨ht5.blk,fun hf => ht5.out (.inl hf)⟩
 have hval : Hid (Calls Tryz.prog 47 #[.pointer (some ⟨gt,0,none⟩),.agg #[.slice kA L kc,.slice vA M vc,.int .i64 (ov : Int),.int .i64 (lg : Int)]] W5.drew (ValueEnd F3 C3 W5.drew gp st b)):=hide (by
   have h9:=value_any W5.drew F3 C3 hc5.lt gt gp k st hP5.drew htF5 c b hvg.out kA vA L kc vc (fun _ => by
     have h8 : MB (FC F3 C3) W5.drew vA M c.val:=t4
     rw [<- hM]
     exact h8) hv2.out
   rw [<- hM,<- hov,<- hlg] at h9
   exact h9)
 obtain ⟨N,hN⟩ : ∃ N,N=b.length:=⟨_,rfl⟩
 have hkeep : Hid (∀ w6 F6,Ev F3 W5.drew F6 w6->w6.cell? ⟨gc,0,none⟩=some (.pointer (some ⟨gt,0,none⟩))/\w6.cell? ⟨R,0,none⟩=some (.slice kA L kc)/\w6.cell? ⟨R,1,none⟩=some (.slice vA M vc)/\w6.cell? ⟨R,2,none⟩=some (.int .i64 (ov : Int))/\w6.cell? ⟨R,3,none⟩=some (.int .i64 (lg : Int))):=hide fun w6 F6 he => by
   have k1:=he.blk (show Blk W5.drew gc 115 _ from hb5) (hc5.apart _ hc5.own)
   have k2:=he.blk (show Blk W5.drew R 83 _ from hbc5) hRF
   exact ⟨k1.cell 0,k2.cell 0,k2.cell 1,k2.cell 2,k2.cell 3⟩
 replace hL:=hide hL
 replace hM:=hide hM
 replace hov:=hide hov
 replace hlg:=hide hlg
 replace hcv:=hide hcv
 replace hP3:=hide hP3
 replace hc3:=hide hc3
 replace hK3:=hide hK3
 replace hK5:=hide hK5
 replace hE3:=hide hE3
 replace v3:=hide v3
 replace v4:=hide v4
 replace u3:=hide u3
 replace u4:=hide u4
 replace t3:=hide t3
 replace t4:=hide t4
 replace hE4:=hide hE4
 replace hc4:=hide hc4
 replace hP4:=hide hP4
 replace hbc4:=hide hbc4
 replace h4a:=hide h4a
 replace hc5:=hide hc5
 replace hE5:=hide hE5
 replace hb4:=hide hb4
 replace hb5:=hide hb5
 replace hP5:=hide hP5
 replace hbc5:=hide hbc5
 replace hev5:=hide hev5
 replace ht5:=hide ht5
 replace htF5:=hide htF5
 replace hFlt3:=hide hFlt3
 replace hRF:=hide hRF
 replace hN:=hide hN
 clear hn
 replace hW4:=hide hW4
 replace hW5:=hide hW5
 replace hR:=hide hR
 replace hW4o:=hide hW4o
 replace ho:=hide ho
 go_upto_region 6 with (fail)
 rw [<- hW4.out,<- hR.out]
 go_upto_region 9 with (fail)
 rw [<- hW5.out]
 go_region_held3 (fun w' => w'.cell? ⟨gc,0,none⟩=some (.pointer (some ⟨gt,0,none⟩))/\w'.cell? ⟨R,0,none⟩=some (.slice kA L kc)/\w'.cell? ⟨R,1,none⟩=some (.slice vA M vc)/\w'.cell? ⟨R,2,none⟩=some (.int .i64 (ov : Int))/\w'.cell? ⟨R,3,none⟩=some (.int .i64 (lg : Int))) (first | exact ⟨b0,r0,r1,r2,r3⟩ | exact hS6) (first
   | (go_at_call 47; refine hval.out.mono ?_; rintro e w6 ⟨F6,bA,bc,rfl,hP6,hE6,hm6,hbc6⟩; rw [<- hN.out] at hm6 hbc6; rw [<- hN.out]; have hS6:=hkeep.out w6 F6 hE6; replace hE6:=hide hE6; replace hP6:=hide hP6; replace hm6:=hide hm6; replace hbc6:=hide hbc6))
 have hE6a : Ev F3 W5 F6 w6:=((Ev.refl F3 W5).drew).trans hE6.out
 have hE6':=hE6a.add C3
 have hc6:=hc5.out.ev hE6a
 have hbk6 : Blk w6 R 83 #[.slice kA L kc,.slice vA M vc,.int .i64 (ov : Int),.int .i64 (lg : Int)]:=hE6a.blk hbc5.out hRF.out
 have s3:=t3.out.ev hE6'
 obtain ⟨hc7,hE7⟩:=cur_err hc6 0
 obtain ⟨wv6,fA6,fc6,hb6,_⟩:=hc6.mem
 have z6 : w6.cell? ⟨gc,4,none⟩=some (.int .i64 0):=hb6.cell 4
 have y6:=hb6.frozen 4
 have hP7 : PgAt (w6.setCell ⟨gc,4,none⟩ (.int .i64 0)) F6 gp st:=hP6.out.set_ (p:=⟨gc,4,none⟩) (hc6.apart _ hc6.own) _
 have hbk7:=hbk6.far (p:=⟨gc,4,none⟩) hRg (.int .i64 0)
 have hev7 : Ev (FC F C) w (FC F6 C3) (w6.setCell ⟨gc,4,none⟩ (.int .i64 0)):=hev5.out.trans (hE6'.trans hE7)
 have hK7 : CurKeep F C C3 w (w6.setCell ⟨gc,4,none⟩ (.int .i64 0)):=⟨hK5.out.1,fun g t cs hb hf h1 h2 => by
   have q:=hE6a.blk (hK5.out.2 g t cs hb hf h1 h2) (hnF3.out g t cs hb hf)
   exact q.far (p:=⟨gc,4,none⟩) (Blk.ne_ q hb6 h1) _⟩
 have q3:=s3.ev hE7
 have q4:=hm6.out.ev hE7
 obtain ⟨W7,hW7⟩ : ∃ W7,W7=w6.setCell ⟨gc,4,none⟩ (.int .i64 0):=⟨_,rfl⟩
 rw [<- hW7] at hc7 hE7 hP7 hbk7 hev7 q3 q4 hK7
 have n0 : W7.cell? ⟨R,0,none⟩=some (.slice kA L kc):=hbk7.cell 0
 have rk : RB W7 W7.heap.size kA L c.key:=by have:=q3.readsM; rw [hL.out] at this ⊢; exact this
 have rv : RB W7 W7.heap.size bA N b:=q4.rb
 have hFC7 : ∀ j,FC F6 C3 j->j < W7.heap.size:=fun j hj => by
   rcases hj with hj | hj
   · exact hP7.lt j hj
   · exact hc7.lt j hj
 have hNl : N<=100000:=by rw [hN.out]; exact hvl
 have hk1:=hide (tclone_any kA L kc c.key W7 rk (by omega))
 have hk2 : Hid (∀ w8,Below W7.heap.size W7 w8->Calls Tryz.prog 57 #[.slice bA N bc] w8 (RetB w8 b)):=hide fun w8 hB => tclone_any bA N bc b w8 ((rv.below hB).more hB.size) (by omega)
 replace hE6a:=hide hE6a
 replace hE6':=hide hE6'
 replace hc6:=hide hc6
 replace s3:=hide s3
 replace hc7:=hide hc7
 replace hE7:=hide hE7
 replace hb6:=hide hb6
 replace hP7:=hide hP7
 replace hbk6:=hide hbk6
 replace hbk7:=hide hbk7
 replace hev7:=hide hev7
 replace hK7:=hide hK7
 replace q3:=hide q3
 replace q4:=hide q4
 replace rk:=hide rk
 replace rv:=hide rv
 replace hFC7:=hide hFC7
 replace hW7:=hide hW7
 clear r0 r1 r2 r3 b0 z4 y4
 go_upto_region 13 with (fail)
 rw [<- hW7.out]
 go_wp2_with fail
 refine hk1.out.mono ?_
 rintro e w8 ⟨v8,rfl,hO8,hB8⟩
 obtain ⟨A8,c8,rfl,hR8,_,hl8,hm8⟩:=hO8.form
 have hk3:=hide (hk2.out w8 hB8)
 have hkm : Rd (byteOf (FC F6 C3) w8) w8 1 A8 c.key.length (bv c.key):=Rd.madeB hO8 hFC7.out
 replace hO8:=hide hO8
 replace hR8:=hide hR8
 replace hB8:=hide hB8
 replace hkm:=hide hkm
 go_wp2_with fail
 refine hk3.out.mono ?_
 rintro e w9 ⟨v9,rfl,hO9,hB9⟩
 obtain ⟨A9,c9,rfl,hR9,_,hl9,hm9⟩:=hO9.form
 have hB79 : Below W7.heap.size W7 w9:=hB8.out.trans (hB9.mono hB8.out.size)
 have hbm : Rd (byteOf (FC F6 C3) w9) w9 1 A9 b.length (bv b):=Rd.madeB hO9 fun j hj => Nat.lt_of_lt_of_le (hFC7.out j hj) hB8.out.size
 have hfin : Hid (NxtEnd F C w gp st gc gt way' from_ c.key b (.returned (.tuple #[.slice A8 c.key.length c8,.slice A9 b.length c9,.int .i64 0])) w9):=by
   exact hide ⟨F6,C3,A8,c8,A9,c9,rfl,hkm.out.evBB (Ev.of_below hB9),hbm,hl8,hl9,hm8,hm9,hP7.out.below hB79,hc7.out.ev (Ev.of_below hB79),hev7.out.below hB79,hK7.out.1,fun g t cs hb hf h1 h2 => (hK7.out.2 g t cs hb hf h1 h2).below hB79 (hK7.out.2 g t cs hb hf h1 h2).lt⟩
 replace hO9:=hide hO9
 replace hR9:=hide hR9
 replace hB9:=hide hB9
 replace hB79:=hide hB79
 replace hbm:=hide hbm
 go_wp2_with fail
 go_ret3
 exact hfin.out
end Go.Proofs.YtiiljlmeililbaaGreatDoor
