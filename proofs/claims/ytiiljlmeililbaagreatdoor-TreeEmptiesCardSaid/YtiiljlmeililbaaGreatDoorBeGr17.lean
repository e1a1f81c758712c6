/-
  The reader of a node's bytes: contracts of num, cut, cell; of bytes.Trim at noughts.
-/
import Derived.Test.YtiiljlmeililbaaGreatDoorBeGr16
import Derived.Test.YtiiljlmeililbaaGreatDoorBeGr10
import Derived.Test.YtiiljlmeililbaaGreatDoorBeGr1
import Derived.Test.YtiiljlmeililbaaGreatDoorBeGr7
import Derived.Deep.RegionLaw
namespace Go.Proofs.YtiiljlmeililbaaGreatDoor
set_option linter.unusedVariables false
set_option maxRecDepth 100000
open Go.RowKit
theorem OB.far {w : World} {base n : Nat} {v : Value} {l : List UInt8} (h : OB w base v n l) {p : Addr} (hp : v.ownBlock ≠ some p.block) (u : Value) : OB (w.setCell p u) base v n l:=by
 obtain ⟨h1,h2⟩:=h
 refine ⟨h1,?_⟩
 rcases h2 with h2 | ⟨g,cap,cur,rfl,hg,hh,r⟩
 · exact Or.inl h2
 · exact Or.inr ⟨g,cap,cur,rfl,hg,(Below.heap_setCell w p u g (fun e => hp (by rw [<- e]; rfl))).trans hh,r⟩
structure Rdr (w : World) (gr : Nat) (A : Option Addr) (N c : Nat) (b : List UInt8) (at_ : Nat) : Prop where
 blk : Blk w gr 187 #[.slice A N c,.int .i64 (at_ : Int),.bool true]
 rb : RB w gr A N b
 nc : N<=c
 small : N<=10000000
def RdLeft (w : World) (gr : Nat) (A : Option Addr) (N c : Nat) (b : List UInt8) (at_ : Nat) (w' : World) : Prop:=Rdr w' gr A N c b at_/\Only (fun j => j=gr) w w'
theorem Rdr.moved {w w' : World} {gr N c at_ at2 : Nat} {A : Option Addr} {b : List UInt8} (h : Rdr w gr A N c b at_) (hb : Below w.heap.size w w') :
   RdLeft w gr A N c b at2 ((w'.setCell ⟨gr,1,none⟩ (.int .i64 (at2 : Int))).setCell ⟨gr,2,none⟩ (.bool true)):=by
 have h1:=h.blk.below hb (Blk.lt h.blk)
 have h2:=(h1.set_ 1 (.int .i64 (at2 : Int))).set_ 2 (.bool true)
 have hlt:=Blk.lt h.blk
 refine ⟨⟨h2,?_,h.nc,h.small⟩,(((Only.of_below (S:=fun j => j=gr) hb).setCell (p:=⟨gr,1,none⟩) (fun _ => rfl) _).setCell (p:=⟨gr,2,none⟩) (fun _ => rfl) _)⟩
 exact ((h.rb.below (hb.mono (Nat.le_of_lt hlt))).setCell (p:=⟨gr,1,none⟩) (Nat.le_refl _) _).setCell (p:=⟨gr,2,none⟩) (Nat.le_refl _) _
theorem rdnum_any (w : World) (gr N c at_ k : Nat) (A : Option Addr) (b : List UInt8) (h : Rdr w gr A N c b at_) (hk1 : 1<=k) (hk : k<=4) (hak : at_ + k<=N) (kk : Int) (hkk : kk=(k : Int)) :
   Calls Tryz.prog 129 #[.pointer (some ⟨gr,0,none⟩),.int .i64 kk] w fun e w' => e=.returned (.int .i64 ((numL ((b.drop at_).take k) : Nat) : Int))/\RdLeft w gr A N c b (at_ + k) w':=by
 subst hkk
 have c0 : w.cell? ⟨gr,0,none⟩=some (.slice A N c):=h.blk.cell 0
 have c1 : w.cell? ⟨gr,1,none⟩=some (.int .i64 (at_ : Int)):=h.blk.cell 1
 have hlt:=Blk.lt h.blk
 have hwg : Hid (∀ wz,Below w.heap.size w wz->Calls Tryz.prog 56 #[.slice A N c,.int .i64 (at_ : Int),.int .i64 (k : Int)] wz (NumRet (numL ((b.drop at_).take k)) 0 wz)):=hide fun wz hb =>
   wget_any wz A N c at_ k b ((h.rb.below (hb.mono (Nat.le_of_lt hlt))).more (by have:=hb.size; omega)) h.nc h.small hak hk1 hk
 obtain ⟨X,hX⟩ : ∃ X,X=numL ((b.drop at_).take k):=⟨_,rfl⟩
 obtain ⟨T,hT⟩ : ∃ T,T=at_ + k:=⟨_,rfl⟩
 rw [<- hX,<- hT]
 rw [<- hX] at hwg
 have hTI : (at_ : Int) + (k : Int)=(T : Int):=by omega
 have hTb : (T : Int)<=10000000:=by have:=h.small; omega
 have hkeep : Hid (∀ wz,Below w.heap.size w wz->(wz.cell? ⟨gr,0,none⟩=some (.slice A N c)/\wz.cell? ⟨gr,1,none⟩=some (.int .i64 (at_ : Int)))):=hide fun wz hz => ⟨(hz.cell (p:=⟨gr,0,none⟩) hlt).trans c0,(hz.cell (p:=⟨gr,1,none⟩) hlt).trans c1⟩
 have hmv:=hide (fun w' hb => h.moved (at2:=T) (w':=w') hb)
 have hB:=hide h.blk
 replace hX:=hide hX
 replace hT:=hide hT
 replace h:=hide h
 go_enter Tryz.func129,Tryz.ntmps129
 go_upto_region 1 with (fail)
 go_region_held3 (fun w' => w'.cell? ⟨gr,0,none⟩=some (.slice A N c)/\w'.cell? ⟨gr,1,none⟩=some (.int .i64 (at_ : Int))) (first | exact ⟨c0,c1⟩ | exact hkeep.out _ hbA | exact hkeep.out _ (below_drewN hbA _)) ((go_at_call 56; refine (hwg.out _ ((Below.refl _ w).drew)).mono ?_; rintro e w2 ⟨rfl,hb2⟩; have hbA : Below w.heap.size w w2:=(Below.refl _ w).drew.trans hb2; replace hb2:=hide hb2))
 all_goals
   have hb3:=hB.out.below hbA hlt
   have d1:=hb3.cell 1
   have f1:=hb3.frozen 1
   have d2:=hb3.cell 2
   have f2:=hb3.frozen 2
   have hfin:=hide (hmv.out _ hbA)
   replace hb3:=hide hb3
   replace hbA:=hide hbA
   go_wp2_with fail
   go_ret
   exact ⟨rfl,hfin.out⟩
def RCutRet (w : World) (gr : Nat) (A : Option Addr) (N c : Nat) (b : List UInt8) (at_ k : Nat) (e : Ending) (w' : World) : Prop:=∃ v,e=.returned v/\OB w' w.heap.size v k ((b.drop at_).take k)/\RdLeft w gr A N c b (at_ + k) w'
theorem cut_any (w : World) (gr N c at_ k : Nat) (A : Option Addr) (b : List UInt8) (h : Rdr w gr A N c b at_) (hak : at_ + k<=N) :
   Calls Tryz.prog 130 #[.pointer (some ⟨gr,0,none⟩),.int .i64 (k : Int)] w (RCutRet w gr A N c b at_ k):=by
 have c0 : w.cell? ⟨gr,0,none⟩=some (.slice A N c):=h.blk.cell 0
 have c1 : w.cell? ⟨gr,1,none⟩=some (.int .i64 (at_ : Int)):=h.blk.cell 1
 have hlt:=Blk.lt h.blk
 have hwg : Hid (∀ wz,Below w.heap.size w wz->Calls Tryz.prog 92 #[.slice A N c,.int .i64 (at_ : Int),.int .i64 (k : Int)] wz (CutRet wz k ((b.drop at_).take k))):=hide fun wz hb =>
   wcut_any wz A N c at_ k b ((h.rb.below (hb.mono (Nat.le_of_lt hlt))).more (by have:=hb.size; omega)) h.nc h.small hak
 obtain ⟨X,hX⟩ : ∃ X,X=(b.drop at_).take k:=⟨_,rfl⟩
 obtain ⟨T,hT⟩ : ∃ T,T=at_ + k:=⟨_,rfl⟩
 unfold RCutRet
 rw [<- hX,<- hT]
 rw [<- hX] at hwg
 have hTI : (at_ : Int) + (k : Int)=(T : Int):=by omega
 have hTb : (T : Int)<=10000000:=by have:=h.small; omega
 have hkeep : Hid (∀ wz,Below w.heap.size w wz->(wz.cell? ⟨gr,0,none⟩=some (.slice A N c)/\wz.cell? ⟨gr,1,none⟩=some (.int .i64 (at_ : Int)))):=hide fun wz hz => ⟨(hz.cell (p:=⟨gr,0,none⟩) hlt).trans c0,(hz.cell (p:=⟨gr,1,none⟩) hlt).trans c1⟩
 have hmv:=hide (fun w' hb => h.moved (at2:=T) (w':=w') hb)
 have hB:=hide h.blk
 replace hX:=hide hX
 replace hT:=hide hT
 replace h:=hide h
 go_enter Tryz.func130,Tryz.ntmps130
 go_upto_region 1 with (fail)
 go_region_held3 (fun w' => w'.cell? ⟨gr,0,none⟩=some (.slice A N c)/\w'.cell? ⟨gr,1,none⟩=some (.int .i64 (at_ : Int))) (first | exact ⟨c0,c1⟩ | exact hkeep.out _ hbA | exact hkeep.out _ (below_drewN hbA _)) ((go_at_call 92; refine (hwg.out _ ((Below.refl _ w).drew)).mono ?_; rintro e w2 ⟨v2,rfl,hO2,hb2⟩; have hbA : Below w.heap.size w w2:=(Below.refl _ w).drew.trans hb2; replace hb2:=hide hb2; replace hO2:=hide hO2))
 all_goals
   have hb3:=hB.out.below hbA hlt
   have d1:=hb3.cell 1
   have f1:=hb3.frozen 1
   have d2:=hb3.cell 2
   have f2:=hb3.frozen 2
   have hfin:=hide (hmv.out _ hbA)
   have hOf : Hid (OB ((w2.setCell ⟨gr,1,none⟩ (.int .i64 (T : Int))).setCell ⟨gr,2,none⟩ (.bool true)) w.heap.size v2 k X):=hide (by
     have hO:=hO2.out
     have hne:=own_blk_ne hO hb3 (by decide)
     exact OB.far (OB.far hO hne _) hne _)
   replace hb3:=hide hb3
   replace hbA:=hide hbA
   go_wp2_with fail
   go_ret
   exact ⟨v2,rfl,hOf.out,hfin.out⟩
def tailB (c : CellP) : List UInt8:=if c.over=0 then leB 2 c.val.length ++ c.val else leB 2 c.long ++ leB 3 c.over
theorem tailB_len (c : CellP) : (tailB c).length=if c.over=0 then 2 + c.val.length else 5:=by
 unfold tailB; split <;> simp [leB_len]
theorem at_app {b x y : List UInt8} {at_ : Nat} (h : (b.drop at_).take (x ++ y).length=x ++ y) : (b.drop at_).take x.length=x/\(b.drop (at_ + x.length)).take y.length=y:=by
 have hl : (x ++ y).length<=(b.drop at_).length:=by rw [<- h]; rw [List.length_take]; omega
 constructor
 · have h2 := congrArg (List.take x.length) h
   rw [List.take_take,List.take_left] at h2
   rw [Nat.min_eq_left (by simp)] at h2
   exact h2
 · have h2 := congrArg (List.drop x.length) h
   rw [List.drop_left,List.drop_take,List.drop_drop] at h2
   rw [List.length_append,Nat.add_sub_cancel_left] at h2
   exact h2
theorem Rdr.only {w w' : World} {gr N c at_ : Nat} {A : Option Addr} {b : List UInt8} {S : Nat->Prop} (h : Rdr w gr A N c b at_) (hO : Only S w w') (h1 : ¬ S gr) (h2 : ∀ k,k < gr->¬ S k) : Rdr w' gr A N c b at_ :=
 ⟨hO.blk h.blk h1,h.rb.keep fun p hp => World.cell?_of_block (hO.block p.block (by have:=Blk.lt h.blk; omega) (h2 _ hp)),h.nc,h.small⟩
theorem Rdr.set_ {w : World} {gr N c at_ g i : Nat} {A : Option Addr} {b : List UInt8} (h : Rdr w gr A N c b at_) (hg : gr < g) (u : Value) : Rdr (w.setCell ⟨g,i,none⟩ u) gr A N c b at_ :=
 ⟨h.blk.far (by exact Nat.ne_of_lt hg) _,h.rb.setCell (p:=⟨g,i,none⟩) (Nat.le_of_lt hg) _,h.nc,h.small⟩
def RCellRet (w : World) (gr gc : Nat) (A : Option Addr) (N c : Nat) (b : List UInt8) (at_ : Nat) (kv : Value) (x : CellP) (e : Ending) (w' : World) : Prop :=
 e=.returned (.tuple #[])/\Rdr w' gr A N c b (at_ + (tailB x).length)/\Only (fun j => j=gr \/ j=gc) w w'/\∃ vv,Blk w' gc 83 #[kv,vv,.int .i64 (x.over : Int),.int .i64 (x.long : Int)]/\OB w' w.heap.size vv x.val.length x.val
theorem rcell_any (w : World) (gr gc N c at_ : Nat) (A : Option Addr) (b : List UInt8) (h : Rdr w gr A N c b at_) (kv : Value) (hgc : gr < gc) (hc : Blk w gc 83 #[kv,.slice none 0 0,.int .i64 0,.int .i64 0]) (x : CellP) (hx : CellOk x)
   (ht : (b.drop at_).take (tailB x).length=tailB x) (hN : at_ + (tailB x).length<=N) :
   Calls Tryz.prog 131 #[.pointer (some ⟨gr,0,none⟩),.pointer (some ⟨gc,0,none⟩)] w (RCellRet w gr gc A N c b at_ kv x):=by
 have htl:=tailB_len x
 have hltc:=Blk.lt hc
 rcases hx with ⟨h1,h2,h3⟩ | ⟨h1,h2,h3,h4⟩
 · have e : tailB x = leB 2 x.val.length ++ x.val := by unfold tailB; rw [if_pos h1]
   rw [if_pos h1] at htl
   rw [e] at ht
   obtain ⟨t1,t2⟩:=at_app ht
   rw [leB_len] at t1 t2
   have hn:=rdnum_any w gr N c at_ 2 A b h (by omega) (by omega) (by omega) 2 rfl
   rw [t1,numL_leB,Nat.mod_eq_of_lt (by omega)] at hn
   obtain ⟨VL,hVL⟩ : ∃ VL,VL=x.val.length:=⟨_,rfl⟩
   rw [<- hVL] at hn h3
   have hVI : (VL : Int)<=64:=by omega
   have hcu : Hid (∀ wz,RdLeft w gr A N c b (at_ + 2) wz->Calls Tryz.prog 130 #[.pointer (some ⟨gr,0,none⟩),.int .i64 (VL : Int)] wz (RCutRet wz gr A N c b (at_ + 2) VL)):=hide fun wz hz => cut_any wz gr N c (at_ + 2) VL A b hz.1 (by rw [hVL]; omega)
   unfold RCellRet
   rw [h1,h2,htl,<- hVL]
   replace hn:=hide hn
   replace hVL:=hide hVL
   replace h:=hide h
   replace hc:=hide hc
   replace ht:=hide ht
   replace t1:=hide t1
   replace t2:=hide t2
   replace e:=hide e
   replace htl:=hide htl
   replace h1:=hide h1
   replace h2:=hide h2
   go_enter Tryz.func131,Tryz.ntmps131
   go_wp2_with fail
   refine hn.out.mono ?_
   rintro e w2 ⟨rfl,hL2⟩
   have hcu2:=hide (hcu.out w2 hL2)
   have hc2:=hide (hL2.2.blk hc.out (Nat.ne_of_gt hgc))
   have hO2:=hide hL2.2
   have hs2:=hL2.2.size
   replace hL2:=hide hL2
   go_wp2_with fail
   refine hcu2.out.mono ?_
   rintro e w3 ⟨v3,rfl,hO3,hL3⟩
   obtain ⟨A3,c3,hv3,_⟩:=hO3.form
   subst hv3
   have hc3:=hL3.2.blk hc2.out (Nat.ne_of_gt hgc)
   have f1:=hc3.frozen 1
   have d1:=hc3.cell 1
   have hR3:=hide (hL3.1.set_ (g:=gc) (i:=1) hgc (.slice A3 VL c3))
   have hO4 : Hid (Only (fun j => j=gr \/ j=gc) w (w3.setCell ⟨gc,1,none⟩ (.slice A3 VL c3))):=hide (((hO2.out.mono (S:=fun j => j=gr \/ j=gc) (fun _ _ h => .inl h)).trans hL3.2 (fun i _ h => .inl h)).setCell (p:=⟨gc,1,none⟩) (fun _ => .inr rfl) _)
   have hc4:=hide (hc3.set_ 1 (.slice A3 VL c3))
   have hob : Hid (OB (w3.setCell ⟨gc,1,none⟩ (.slice A3 VL c3)) w.heap.size (.slice A3 VL c3) VL x.val):=hide (by
     have:=t2.out
     rw [<- hVL.out] at this
     rw [this] at hO3
     exact (OB.far hO3 (own_blk_ne hO3 hc3 (by decide)) _).more hs2)
   replace hc3:=hide hc3
   replace hO3:=hide hO3
   replace hL3:=hide hL3
   go_wp2_with fail
   go_end0
   exact ⟨rfl,by rw [<- Nat.add_assoc]; exact hR3.out,hO4.out,.slice A3 VL c3,hc4.out,hob.out⟩
 · have h1n : x.over ≠ 0 := by have := h1.1; omega
   have e : tailB x=leB 2 x.long ++ leB 3 x.over:=by unfold tailB; rw [if_neg h1n]
   rw [if_neg h1n] at htl
   rw [e] at ht
   obtain ⟨t1,t2⟩:=at_app ht
   rw [leB_len] at t1 t2
   rw [leB_len] at t2
   have hn:=rdnum_any w gr N c at_ 2 A b h (by omega) (by omega) (by omega) 2 rfl
   rw [t1,numL_leB,Nat.mod_eq_of_lt (by omega)] at hn
   have hn3 : Hid (∀ wz,RdLeft w gr A N c b (at_ + 2) wz->Calls Tryz.prog 129 #[.pointer (some ⟨gr,0,none⟩),.int .i64 3] wz fun e w' => e=.returned (.int .i64 (x.over : Int))/\RdLeft wz gr A N c b (at_ + 2 + 3) w'):=hide fun wz hz => by
     have h:=rdnum_any wz gr N c (at_ + 2) 3 A b hz.1 (by omega) (by omega) (by omega) 3 rfl
     rw [t2,numL_leB,Nat.mod_eq_of_lt (by have:=h1.2; omega)] at h
     exact h
   have hLI : (64 : Int) < (x.long : Int):=by omega
   have hv0 : x.val=[]:=h4
   unfold RCellRet
   rw [htl,hv0]
   obtain ⟨OV,hOV⟩ : ∃ OV,OV=x.over:=⟨_,rfl⟩
   obtain ⟨LG,hLG⟩ : ∃ LG,LG=x.long:=⟨_,rfl⟩
   rw [<- hOV,<- hLG]
   rw [<- hOV] at hn3
   rw [<- hLG] at hn hLI
   replace hn:=hide hn
   replace h:=hide h
   replace hc:=hide hc
   replace ht:=hide ht
   replace t1:=hide t1
   replace t2:=hide t2
   replace e:=hide e
   replace htl:=hide htl
   replace hOV:=hide hOV
   replace hLG:=hide hLG
   replace hv0:=hide hv0
   replace h4:=hide h4
   go_enter Tryz.func131,Tryz.ntmps131
   go_wp2_with fail
   refine hn.out.mono ?_
   rintro e w2 ⟨rfl,hL2⟩
   have hcu2:=hide (hn3.out w2 hL2)
   have hc2:=hide (hL2.2.blk hc.out (Nat.ne_of_gt hgc))
   have hO2:=hide hL2.2
   replace hL2:=hide hL2
   go_wp2_with fail
   refine hcu2.out.mono ?_
   rintro e w3 ⟨rfl,hL3⟩
   have hc3:=hL3.2.blk hc2.out (Nat.ne_of_gt hgc)
   have f2:=hc3.frozen 2
   have d2:=hc3.cell 2
   have f3:=hc3.frozen 3
   have d3:=hc3.cell 3
   have hR3:=hide ((hL3.1.set_ (g:=gc) (i:=3) hgc (.int .i64 (LG : Int))).set_ (g:=gc) (i:=2) hgc (.int .i64 (OV : Int)))
   have hO4 : Hid (Only (fun j => j=gr \/ j=gc) w ((w3.setCell ⟨gc,3,none⟩ (.int .i64 (LG : Int))).setCell ⟨gc,2,none⟩ (.int .i64 (OV : Int)))):=hide ((((hO2.out.mono (S:=fun j => j=gr \/ j=gc) (fun _ _ h => .inl h)).trans hL3.2 (fun i _ h => .inl h)).setCell (p:=⟨gc,3,none⟩) (fun _ => .inr rfl) _).setCell (p:=⟨gc,2,none⟩) (fun _ => .inr rfl) _)
   have hc4:=hide ((hc3.set_ 3 (.int .i64 (LG : Int))).set_ 2 (.int .i64 (OV : Int)))
   replace hc3:=hide hc3
   replace hL3:=hide hL3
   go_wp2_with fail
   go_end0
   exact ⟨rfl,hR3.out,hO4.out,.slice none 0 0,hc4.out,OB.nil _ _⟩
def G5 (B : Nat) (w : World) (k : Nat) : Prop:=B<=k/\∃ cs,Blk w k 5 cs
def CellsV (B : Nat) (w : World) (rows : List (List Value)) (cs : List CellP) : Prop:=∀ (k : Nat) (vs : List Value) (c : CellP),rows[k]?=some vs->cs[k]?=some c->CellV (G5 B w) w vs c
structure NodeOwn (w : World) (B : Nat) (cv kv : Value) (n : NodeP) : Prop where
 rows : ∃ rows : List (List Value),rows.length=n.cells.length/\w.ownsRow B 83 4 cv n.cells.length rows.flatten/\CellsV B w rows n.cells
 kids : w.ownsRow B 3 1 kv n.kids.length (n.kids.map encI)
theorem NodeOwn.nodeM {w : World} {B : Nat} {cv kv : Value} {n : NodeP} (h : NodeOwn w B cv kv n) {G : Nat->Prop} (hG : ∀ k,B<=k->k < w.heap.size->G k) : NodeM G w (.agg #[.bool n.leaf,cv,kv]) n:=by
 obtain ⟨rows,h1,h2,h3⟩:=h.rows
 have hk:=h.kids
 have hsl : ∀ {e : TypeId} {size m : Nat} {v : Value} {xs : List Value},w.ownsRow B e size v m xs->∃ A c,v=.slice A m c/\m<=c:=by
   intro e size m v xs h
   rcases h.2 with ⟨rfl,rfl⟩ | ⟨g,cap,cur,rfl,_,_,h3,_⟩
   · exact ⟨none,0,rfl,Nat.le_refl _⟩
   · exact ⟨_,_,rfl,h3⟩
 obtain ⟨A,c,rfl,hc⟩:=hsl h2
 obtain ⟨A',d,rfl,hd⟩:=hsl hk
 exact ⟨A,c,A',d,rfl,hc,hd,⟨rows,h1,Rd.of_own h2 hG,fun k vs x e1 e2 => (h3 k vs x e1 e2).mono fun j hj => hG j hj.1 (Blk.lt hj.2.choose_spec)⟩,Rd.of_own hk hG⟩
theorem CellsV.keepT {B : Nat} {w w' : World} {rows : List (List Value)} {cs : List CellP} (h : CellsV B w rows cs) (hk : KeepT 5 w w') : CellsV B w' rows cs:=fun k vs c e1 e2 =>
 (h k vs c e1 e2).keep fun j hj => ⟨⟨hj.1,hj.2.choose,hk _ _ hj.2.choose_spec⟩,(hk _ _ hj.2.choose_spec).trans hj.2.choose_spec.symm⟩
theorem CellsV.snoc {B : Nat} {w : World} {rows : List (List Value)} {cs : List CellP} (h : CellsV B w rows cs) {vs : List Value} {c : CellP} (hi : cs[rows.length]?=some c) (hv : CellV (G5 B w) w vs c) : CellsV B w (rows ++ [vs]) cs:=fun k vs' c' e1 e2 => by
 rcases Nat.lt_trichotomy k rows.length with hk | hk | hk
 · rw [List.getElem?_append_left hk] at e1
   exact h k vs' c' e1 e2
 · subst hk
   rw [List.getElem?_append_right (Nat.le_refl _)] at e1
   simp at e1
   rw [hi] at e2
   injection e2 with e2
   subst e1; subst e2; exact hv
 · rw [List.getElem?_append_right (by omega)] at e1
   have : k - rows.length=(k - rows.length - 1) + 1:=by omega
   rw [this] at e1
   simp at e1
theorem OB.rd5 {w : World} {B n c : Nat} {A : Option Addr} {l : List UInt8} (h : OB w B (.slice A n c) n l) : Rd (G5 B w) w 1 A n (bv l):=by
 refine ⟨h.1,fun hn => ?_⟩
 rcases h.2 with ⟨e,h0⟩ | ⟨g,cap,cur,hv,hg,hh,h3,h4,h5,ht⟩
 · omega
 · cases hv
   refine ⟨_,rfl,⟨hg,cur,hh⟩,fun j u hu => ?_⟩
   exact World.ownsRow.cells h rfl j u hu
structure GI (w : World) (gr gn : Nat) (A : Option Addr) (N c : Nat) (b : List UInt8) (n : NodeP) (i kn p : Nat) (cv kv : Value) (wx : World) : Prop where
 res : Blk wx w.heap.size 89 #[.bool false,.slice none 0 0,.slice none 0 0]
 rdr : Rdr wx gr A N c b p
 nod : Blk wx gn 89 #[.bool n.leaf,cv,kv]
 bel : Below w.heap.size w wx
 rows : ∃ rows : List (List Value),rows.length=i/\wx.ownsRow gn 83 4 cv i rows.flatten/\CellsV w.heap.size wx rows n.cells
 kids : wx.ownsRow gn 3 1 kv kn ((n.kids.take kn).map encI)
 lr : w.heap.size < gr
 rn : gr < gn
section
variable {w wx wy : World} {gr gn N c i kn p q : Nat} {A : Option Addr} {b : List UInt8} {n : NodeP} {cv kv : Value}
theorem own_not_blk {e t : TypeId} {size m g : Nat} {v : Value} {xs : List Value} {B : Nat} {cs : Array Value} (h : wx.ownsRow B e size v m xs) (hb : Blk wx g t cs) (hne : e ≠ t) : ∀ k,v.ownBlock=some k->k ≠ g:=fun k hk e => own_blk_ne h hb hne (by rw [hk,e])
theorem GI.only (h : GI w gr gn A N c b n i kn p cv kv wx) (hO : Only (fun j => j=gr) wx wy) (hr : Rdr wy gr A N c b q) : GI w gr gn A N c b n i kn q cv kv wy:=by
 obtain ⟨rows,h1,h2,h3⟩:=h.rows
 have hlr:=h.lr
 have hrn:=h.rn
 have hT : KeepT 5 wx wy:=hO.keepT fun k cs hk hb => by subst hk; exact Blk.ne_ hb h.rdr.blk (by decide) rfl
 exact ⟨hO.blk h.res (by omega),hr,hO.blk h.nod (by omega),h.bel.trans (hO.below (B:=w.heap.size) (fun k hk => by omega) h.bel.size),⟨rows,h1,hO.row h2 (own_not_blk h2 h.rdr.blk (by decide)),h3.keepT hT⟩,hO.row h.kids (own_not_blk h.kids h.rdr.blk (by decide)),hlr,hrn⟩
theorem GI.alloc (h : GI w gr gn A N c b n i kn p cv kv wx) (o : Obj) : GI w gr gn A N c b n i kn p cv kv (wx.alloc o) :=
 h.only ((Only.refl _ wx).alloc o) (h.rdr.only ((Only.refl (fun _ => False) wx).alloc o) (fun h => h) (fun _ _ h => h))
theorem GI.drew (h : GI w gr gn A N c b n i kn p cv kv wx) : GI w gr gn A N c b n i kn p cv kv wx.drew :=
 h.only (Only.refl _ wx).drew (h.rdr.only (Only.refl (fun _ => False) wx).drew (fun h => h) (fun _ _ h => h))
theorem GI.nodB (h : GI w gr gn A N c b n i kn p cv kv wx) : w.heap.size < gn:=Nat.lt_trans h.lr h.rn
theorem own_base {e : TypeId} {size m : Nat} {v : Value} {xs : List Value} {B : Nat} (h : wx.ownsRow B e size v m xs) : ∀ k,v.ownBlock=some k->B<=k:=fun k hk => by
 rcases h.2 with ⟨e,_⟩ | ⟨g,cap,cur,e,hg,_⟩
 · rw [e] at hk; simp [Value.ownBlock] at hk
 · rw [e] at hk; simp [Value.ownBlock] at hk; omega
theorem own_ne {e e' : TypeId} {size size' m m' : Nat} {v v' : Value} {xs xs' : List Value} {B B' : Nat} (h : wx.ownsRow B e size v m xs) (h' : wx.ownsRow B' e' size' v' m' xs') (hne : e ≠ e') : ∀ k,v.ownBlock=some k->v'.ownBlock ≠ some k:=fun k hk he => by
 rcases h'.2 with ⟨e2,_⟩ | ⟨g,cap,cur,e2,_,hh,_⟩
 · rw [e2] at he; simp [Value.ownBlock] at he
 · rw [e2] at he
   have : g=k:=by simpa [Value.ownBlock] using he
   subst this
   exact own_blk_ne h (show Blk wx g e' cur from hh) hne hk
theorem own_moreB {e : TypeId} {size m : Nat} {v : Value} {xs : List Value} {B B' : Nat} (h : wx.ownsRow B e size v m xs) (hb : B'<=B) : wx.ownsRow B' e size v m xs:=by
 obtain ⟨h1,h2⟩:=h
 refine ⟨h1,?_⟩
 rcases h2 with h2 | ⟨g,cap,cur,hv,hg,r⟩
 · exact Or.inl h2
 · exact Or.inr ⟨g,cap,cur,hv,by omega,r⟩
theorem GI.kid (h : GI w gr gn A N c b n i kn p cv kv wx) {kv' : Value} {kn' : Nat} (hg : wx.grownBy wy kv.ownBlock) (ho : wy.ownsRow gn 3 1 kv' kn' ((n.kids.take kn').map encI)) :
   GI w gr gn A N c b n i kn' p cv kv' (wy.setCell ⟨gn,2,none⟩ kv'):=by
 obtain ⟨rows,h1,h2,h3⟩:=h.rows
 have hgn:=h.nod
 have hlr:=h.lr
 have hrn:=h.rn
 have hkb:=own_base h.kids
 have hkn:=own_not_blk h.kids h.nod (by decide)
 have hkc : ∀ k,kv.ownBlock=some k->∀ cs,¬ Blk wx k 5 cs:=fun k hk cs hb => own_blk_ne h.kids hb (by decide) hk
 have hkcv:=own_ne h2 h.kids (by decide)
 have hnod2 : Blk wy gn 89 #[.bool n.leaf,cv,kv]:=hgn.grown hg (fun e => hkn gn e.symm rfl)
 have hO1 : Only (fun j => kv.ownBlock=some j) wx wy:=(Only.refl _ wx).grown hg (fun k hk _ => hk)
 have hO2 : Only (fun j => j=gn) wy (wy.setCell ⟨gn,2,none⟩ kv'):=(Only.refl (fun j => j=gn) wy).setCell (p:=⟨gn,2,none⟩) (fun _ => rfl) kv'
 have hrdr1 : Rdr wy gr A N c b p:=h.rdr.only hO1 (fun e => by have:=hkb gr e; omega) (fun k hk e => by have:=hkb k e; omega)
 have hT1 : KeepT 5 wx wy:=hO1.keepT fun k cs hk hb => hkc k hk cs hb
 have hT2 : KeepT 5 wy (wy.setCell ⟨gn,2,none⟩ kv'):=hO2.keepT fun k cs hk hb => by subst hk; exact Blk.ne_ hb hnod2 (by decide) rfl
 have hown2:=hO1.row h2 (fun k hk => hkcv k hk)
 refine ⟨hO2.blk (hO1.blk h.res (fun e => by have:=hkb _ e; omega)) (by omega),hrdr1.only hO2 (by omega) (fun k hk e => by omega),?_,h.bel.trans ((hO1.below (B:=w.heap.size) (fun k hk => by have:=hkb k hk; omega) h.bel.size).trans (hO2.below (B:=w.heap.size) (fun k hk => by omega) (Nat.le_trans h.bel.size hO1.size))),⟨rows,h1,hO2.row hown2 (own_not_blk hown2 hnod2 (by decide)),(h3.keepT hT1).keepT hT2⟩,hO2.row ho (own_not_blk ho hnod2 (by decide)),hlr,hrn⟩
 exact hnod2.set_ 2 kv'
theorem GI.cell (h : GI w gr gn A N c b n i kn p cv kv wx) {cv' : Value} {vs : List Value} {x : CellP} (hg : wx.grownBy wy cv.ownBlock) (hx : n.cells[i]?=some x) (hvs : CellV (G5 w.heap.size wx) wx vs x)
   (rows : List (List Value)) (h1 : rows.length=i) (h2 : wx.ownsRow gn 83 4 cv i rows.flatten) (h3 : CellsV w.heap.size wx rows n.cells)
   (hown2 : wy.ownsRow gn 83 4 cv' (i + 1) (rows.flatten ++ vs)) :
   GI w gr gn A N c b n (i + 1) kn p cv' kv (wy.setCell ⟨gn,1,none⟩ cv'):=by
 have hgn:=h.nod
 have hlr:=h.lr
 have hrn:=h.rn
 have hkb:=own_base h2
 have hkn:=own_not_blk h2 h.nod (by decide)
 have hkc : ∀ k,cv.ownBlock=some k->∀ cs,¬ Blk wx k 5 cs:=fun k hk cs hb => own_blk_ne h2 hb (by decide) hk
 have hkcv:=own_ne h.kids h2 (by decide)
 have hnod2 : Blk wy gn 89 #[.bool n.leaf,cv,kv]:=hgn.grown hg (fun e => hkn gn e.symm rfl)
 have hO1 : Only (fun j => cv.ownBlock=some j) wx wy:=(Only.refl _ wx).grown hg (fun k hk _ => hk)
 have hO2 : Only (fun j => j=gn) wy (wy.setCell ⟨gn,1,none⟩ cv'):=(Only.refl (fun j => j=gn) wy).setCell (p:=⟨gn,1,none⟩) (fun _ => rfl) cv'
 have hrdr1 : Rdr wy gr A N c b p:=h.rdr.only hO1 (fun e => by have:=hkb gr e; omega) (fun k hk e => by have:=hkb k e; omega)
 have hT1 : KeepT 5 wx wy:=hO1.keepT fun k cs hk hb => hkc k hk cs hb
 have hT2 : KeepT 5 wy (wy.setCell ⟨gn,1,none⟩ cv'):=hO2.keepT fun k cs hk hb => by subst hk; exact Blk.ne_ hb hnod2 (by decide) rfl
 have hkid2:=hO1.row h.kids (fun k hk => hkcv k hk)
 have hsn : CellsV w.heap.size wx (rows ++ [vs]) n.cells:=h3.snoc (by rw [h1]; exact hx) hvs
 refine ⟨hO2.blk (hO1.blk h.res (fun e => by have:=hkb _ e; omega)) (by omega),hrdr1.only hO2 (by omega) (fun k hk e => by omega),?_,h.bel.trans ((hO1.below (B:=w.heap.size) (fun k hk => by have:=hkb k hk; omega) h.bel.size).trans (hO2.below (B:=w.heap.size) (fun k hk => by omega) (Nat.le_trans h.bel.size hO1.size))),⟨rows ++ [vs],by simp [h1],?_,(hsn.keepT hT1).keepT hT2⟩,hO2.row hkid2 (own_not_blk hkid2 hnod2 (by decide)),hlr,hrn⟩
 · exact hnod2.set_ 1 cv'
 · rw [show (rows ++ [vs]).flatten = rows.flatten ++ vs from by simp]
   exact hO2.row hown2 (own_not_blk hown2 hnod2 (by decide))
theorem NodeOwn.only {B : Nat} (h : NodeOwn wx B cv kv n) {S : Nat->Prop} (hO : Only S wx wy) (hS : ∀ k,S k->∃ t cs,Blk wx k t cs/\t ≠ 5/\t ≠ 83/\t ≠ 3) : NodeOwn wy B cv kv n:=by
 obtain ⟨rows,h1,h2,h3⟩:=h.rows
 have hT : KeepT 5 wx wy:=hO.keepT fun k cs hk hb => by
   obtain ⟨t,cs',hb',ht,_⟩:=hS k hk
   exact Blk.ne_ hb hb' (Ne.symm ht) rfl
 refine ⟨⟨rows,h1,hO.row h2 fun k hk hs => ?_,h3.keepT hT⟩,hO.row h.kids fun k hk hs => ?_⟩
 · obtain ⟨t, cs', hb', _, ht, _⟩ := hS k hs
   exact own_blk_ne h2 hb' (Ne.symm ht) hk
 · obtain ⟨t, cs', hb', _, _, ht⟩ := hS k hs
   exact own_blk_ne h.kids hb' (Ne.symm ht) hk
theorem GI.own (h : GI w gr gn A N c b n i kn p cv kv wx) (hi : i=n.cells.length) (hk : kn=n.kids.length) : NodeOwn wx w.heap.size cv kv n:=by
 obtain ⟨rows,h1,h2,h3⟩:=h.rows
 have hb:=h.nodB
 subst hi; subst hk
 refine ⟨⟨rows,h1,own_moreB h2 (by omega),h3⟩,?_⟩
 have:=own_moreB (B':=w.heap.size) h.kids (by omega)
 rw [List.take_length] at this
 exact this
end
theorem cell_info : (Tryz.prog.info? 83).map (fun i => (i.zero,i.size,i.bytes))=some (some (.agg #[.slice none 0 0,.slice none 0 0,.int .i64 0,.int .i64 0]),4,64):=by kernel_rfl
theorem head_at (n : NodeP) (z : Nat) : ((packP n ++ zeroB z).drop 0).take (headB n).length=headB n:=by
 rw [List.drop_zero]
 unfold packP
 rw [List.append_assoc,List.take_left]
theorem cell_at (n : NodeP) (z i : Nat) (x : CellP) (hx : n.cells[i]?=some x) :
   ((packP n ++ zeroB z).drop (preB n i).length).take (cellB n.leaf x (n.kids.getD (i + 1) 0)).length=cellB n.leaf x (n.kids.getD (i + 1) 0)/\(preB n (i + 1)).length=(preB n i).length + (cellB n.leaf x (n.kids.getD (i + 1) 0)).length/\(preB n (i + 1)).length<=(packP n).length:=by
 obtain ⟨hi,e⟩:=List.getElem?_eq_some_iff.1 hx
 obtain ⟨rest,hp⟩:=packP_at n i hi
 rw [e] at hp
 refine ⟨?_,?_,?_⟩
 · rw [hp,List.append_assoc,List.append_assoc,List.drop_left,List.take_left]
 · rw [preB_succ n i hi,e,List.length_append]
 · rw [preB_succ n i hi,e,List.length_append,hp,List.length_append,List.length_append]; omega
theorem end_at (n : NodeP) (z : Nat) : (packP n ++ zeroB z).drop (preB n n.cells.length).length=zeroB z:=by rw [preB_all,List.drop_left]
theorem run_app_cell (w : World) (base : Nat) (v : Value) (m : Nat) (xs : List Value) (hown : w.ownsRow base 83 4 v m xs) (g : Nat) (x0 x1 x2 x3 : Value) (h1 : ∀ u ∈ [x0,x1,x2,x3],u.oneCell'=true) (hb : Blk w g 83 #[x0,x1,x2,x3]) (ty : TypeId) (hlen : m + 1<=1000000) (hbase : base<=w.heap.size) :
   ∃ v' w',(Builtin.append_ #[87,87] ty #[v,.slice (some ⟨g,0,none⟩) 1 1]).run Tryz.prog w=.ok v' w'/\w'.ownsRow base 83 4 v' (m + 1) (xs ++ [x0,x1,x2,x3])/\w.grownBy w' v.ownBlock/\(v'.ownBlock=v.ownBlock \/ v'.ownBlock=some w.heap.size):=by
 obtain ⟨i0,hi0,hz0,hz1,hz2⟩:=info_parts cell_info
 exact run_append_any (P:=Tryz.prog) w base 87 ty 83 i0 _ 4 64 Tryz.underlying87 hi0 hz0 hz1 hz2 rfl (by omega) v m xs hown w.heap.size (some ⟨g,0,none⟩) 1 1 [x0,x1,x2,x3] ⟨rfl,fun _ => ⟨_,rfl,hb.lt,fun j u hu => by
     have e : (Addr.mk g 0 none).add j=⟨g,j,none⟩:=by
       unfold Addr.add
       by_cases h0 : j=0
       · subst h0; rfl
       · rw [if_neg h0]; simp
     rw [e,hb.cell]
     simpa using hu⟩⟩ h1 (by simp only [maxLen]; omega) (by omega) hbase
theorem run_app_int (w : World) (base : Nat) (v : Value) (m : Nat) (xs : List Value) (hown : w.ownsRow base 3 1 v m xs) (g x : Nat) (hb : Blk w g 3 #[.int .i64 (x : Int)]) (ty : TypeId) (hlen : m + 1<=1000000) (hbase : base<=w.heap.size) :
   ∃ v' w',(Builtin.append_ #[57,57] ty #[v,.slice (some ⟨g,0,none⟩) 1 1]).run Tryz.prog w=.ok v' w'/\w'.ownsRow base 3 1 v' (m + 1) (xs ++ [.int .i64 (x : Int)])/\w.grownBy w' v.ownBlock/\(v'.ownBlock=v.ownBlock \/ v'.ownBlock=some w.heap.size):=by
 obtain ⟨i0,hi0,hz0,hz1,hz2⟩:=info_parts int_info
 exact run_append_any (P:=Tryz.prog) w base 57 ty 3 i0 _ 1 8 Tryz.underlying57 hi0 hz0 hz1 hz2 rfl (by omega) v m xs hown w.heap.size (some ⟨g,0,none⟩) 1 1 [.int .i64 (x : Int)] (by
     have h:=RN.one_at hb
     exact h) (by intro u hu; simp at hu; subst hu; rfl) (by simp only [maxLen]; omega) (by omega) hbase
def GetRet (w : World) (n : NodeP) (e : Ending) (w' : World) : Prop:=∃ cv kv,e=.returned (.tuple #[.agg #[.bool n.leaf,cv,kv],.int .i64 0])/\NodeOwn w' w.heap.size cv kv n/\Below w.heap.size w w'
set_option maxHeartbeats 2000000 in
theorem get_leaf (w : World) (A : Option Addr) (N c : Nat) (n : NodeP) (z : Nat) (hr : RightP n) (hleaf : n.leaf=true) (hb : RB w w.heap.size A N (packP n ++ zeroB z)) (hnc : N<=c) (hN : N<=100000) : Calls Tryz.prog 82 #[.slice A N c] w (GetRet w n):=by
 obtain ⟨b,hbe⟩ : ∃ b,b=packP n ++ zeroB z:=⟨_,rfl⟩
 have hhead:=head_at n z
 have hcell:=hide (cell_at n z)
 have hend:=hide (end_at n z)
 rw [<- hbe] at hb hhead hcell hend
 have hbl : b.length=N:=hb.len
 have hzN : z=N - (packP n).length/\(packP n).length<=N:=by rw [hbe,List.length_append,zeroB_len] at hbl; omega
 obtain ⟨M,hM⟩ : ∃ M,M=n.cells.length:=⟨_,rfl⟩
 have hmany:=hr.many
 rw [<- hM] at hmany hend
 have hm65 : M % 256 ^ 2=M:=Nat.mod_eq_of_lt (by omega)
 have hpre : Hid (∀ i,i<=M->(preB n i).length<=N):=hide fun i hi => by
   have h1:=preB_le n i (by omega)
   rw [<- packP_len] at h1
   omega
 have hB1:=((Below.refl w.heap.size w).alloc (Nat.le_refl _) (.cells #[.bool false,.slice none 0 0,.slice none 0 0] 89)).alloc (by simp) (.cells #[.slice A N c,.int .i64 0,.bool true] 187)
 have hbR : Blk ((w.alloc (.cells #[.bool false,.slice none 0 0,.slice none 0 0] 89)).alloc (.cells #[.slice A N c,.int .i64 0,.bool true] 187)) (w.heap.size + 1) 187 #[.slice A N c,.int .i64 0,.bool true]:=by
   simpa using Blk.new (w.alloc (.cells #[.bool false,.slice none 0 0,.slice none 0 0] 89)) 187 #[.slice A N c,.int .i64 0,.bool true]
 have hbS:=(Blk.new w 89 #[.bool false,.slice none 0 0,.slice none 0 0]).alloc (.cells #[.slice A N c,.int .i64 0,.bool true] 187)
 have hrd : Rdr ((w.alloc (.cells #[.bool false,.slice none 0 0,.slice none 0 0] 89)).alloc (.cells #[.slice A N c,.int .i64 0,.bool true] 187)) (w.heap.size + 1) A N c b 0:=⟨hbR,(hb.below hB1).more (Nat.le_succ _),hnc,by omega⟩
 obtain ⟨W1,hW1⟩ : ∃ W1,W1=(w.alloc (.cells #[.bool false,.slice none 0 0,.slice none 0 0] 89)).alloc (.cells #[.slice A N c,.int .i64 0,.bool true] 187):=⟨_,rfl⟩
 rw [<- hW1] at hB1 hbR hbS hrd
 obtain ⟨lf,hlf⟩ : ∃ lf,lf=n.leaf:=⟨_,rfl⟩
 obtain ⟨gr,hgr⟩ : ∃ gr,gr=w.heap.size + 1:=⟨_,rfl⟩
 rw [<- hgr] at hrd hbR
 have hkids:=hr.kidsIn
 have hkidl:=hr.kidsLeaf
 rw [<- hlf] at hkids hkidl
 cases lf with
 | true =>
   have hhd : headB n=[1] ++ (leB 2 M ++ []):=by unfold headB; rw [<- hlf,<- hM]; simp
   rw [hhd] at hhead
   obtain ⟨q1,q2⟩:=at_app hhead
   obtain ⟨q3,q4⟩:=at_app q2
   have hq1 : ([1] : List UInt8).length=1:=rfl
   rw [hq1] at q1 q3 q4
   rw [leB_len] at q3 q4
   have hpl : 3<=N:=by have h:=hpre.out 0 (Nat.zero_le _); rw [preB_zero,hhd] at h; simp [leB_len] at h; omega
   have hn1:=rdnum_any W1 gr N c 0 1 A b hrd (by omega) (by omega) (by omega) 1 rfl
   rw [q1] at hn1
   replace hn1 : Calls Tryz.prog 129 #[.pointer (some ⟨gr,0,none⟩),.int .i64 1] W1 fun e w' => e=.returned (.int .i64 1)/\RdLeft W1 gr A N c b 1 w':=hn1
   have hn2 : Hid (∀ wz,RdLeft W1 gr A N c b 1 wz->Calls Tryz.prog 129 #[.pointer (some ⟨gr,0,none⟩),.int .i64 2] wz fun e w' => e=.returned (.int .i64 (M : Int))/\RdLeft wz gr A N c b 3 w'):=hide fun wz hz => by
     have h:=rdnum_any wz gr N c 1 2 A b hz.1 (by omega) (by omega) (by omega) 2 rfl
     rw [show (0 + 1 : Nat)=1 from rfl] at q3
     rw [q3,numL_leB,hm65] at h
     exact h
   replace hn1:=hide hn1
   replace hW1:=hide hW1
   replace hhd:=hide hhd
   replace hM:=hide hM
   replace hlf:=hide hlf
   replace hmany:=hide hmany
   replace hm65:=hide hm65
   replace hhead:=hide hhead
   replace q1:=hide q1
   replace q2:=hide q2
   replace q3:=hide q3
   replace q4:=hide q4
   replace hzN:=hide hzN
   replace hbl:=hide hbl
   replace hbe:=hide hbe
   replace hb:=hide hb
   replace hrd:=hide hrd
   replace hbR:=hide hbR
   replace hbS:=hide hbS
   replace hB1:=hide hB1
   replace hgr:=hide hgr
   replace hr:=hide hr
   replace hkids:=hide hkids
   replace hkidl:=hide hkidl
   clear hq1
   go_enter Tryz.func82,Tryz.ntmps82
   go_wp2_with fail
   rw [<- hW1.out,<- hgr.out]
   refine hn1.out.mono ?_
   rintro e w2 ⟨rfl,hL2⟩
   have hn2b:=hide (hn2.out w2 hL2)
   have hO2:=hide hL2.2
   replace hL2:=hide hL2
   go_wp2_with fail
   refine hn2b.out.mono ?_
   rintro e w3 ⟨rfl,hL3⟩
   have hO3 : Hid (Only (fun j => j=gr) W1 w3):=hide (hO2.out.trans hL3.2 fun i _ h => h)
   have hgi : Hid (GI w gr w3.heap.size A N c b n 0 0 3 (.slice none 0 0) (.slice none 0 0) (w3.alloc (.cells #[.bool true,.slice none 0 0,.slice none 0 0] 89))):=hide (by
     have hlt1 : W1.heap.size=w.heap.size + 2:=by rw [hW1.out]; simp
     have hsz:=hO3.out.size
     have hg:=hgr.out
     refine ⟨(hO3.out.blk hbS.out (by omega)).alloc _,hL3.1.only ((Only.refl (fun _ => False) w3).alloc _) (fun h => h) (fun _ _ h => h),?_,(hB1.out.trans (hO3.out.below (B:=w.heap.size) (fun k hk => by omega) (by omega))).alloc (by omega) _,⟨[],rfl,World.ownsRow_nil ..,fun k vs c e => by simp at e⟩,by rw [List.take_zero]; exact World.ownsRow_nil ..,by omega,by omega⟩
     rw [<- hlf.out]
     exact Blk.new w3 89 #[.bool true,.slice none 0 0,.slice none 0 0])
   have hgnb:=hide hgi.out.nodB
   have r0 : (w3.alloc (.cells #[.bool true,.slice none 0 0,.slice none 0 0] 89)).cell? ⟨w3.heap.size,0,none⟩=some (.bool true):=by have h:=hgi.out.nod.cell 0; rw [<- hlf.out] at h; exact h
   have r1:=hgi.out.nod.cell 1
   have r2:=hgi.out.nod.cell 2
   have g0:=hgi.out.rdr.blk.cell 2
   replace hL3:=hide hL3
   go_wp2_with fail
   obtain ⟨gn,hgn⟩ : ∃ gn,gn=w3.heap.size:=⟨_,rfl⟩
   rw [<- hgn] at hgi hgnb r0 r1 r2 ⊢
   replace hgn:=hide hgn
   have hst : Hid (GI w gr gn A N c b n 0 0 (preB n 0).length (.slice none 0 0) (.slice none 0 0) (w3.alloc (.cells #[.bool true,.slice none 0 0,.slice none 0 0] 89))):=hide (by
     rw [preB_zero,hhd.out]; simp only [List.length_append,leB_len]; exact hgi.out)
   clear g0
   go_loopw [30] (fun v30 wx => ∃ (i : Nat) (cv kv : Value),v30=.int .i64 (i : Int)/\i<=M/\Hid (GI w gr gn A N c b n i 0 (preB n i).length cv kv wx)) (fun v30 _ => M - (intOf v30).toNat)
   case atStart => exact ⟨0,_,_,rfl,Nat.zero_le _,hst⟩
   case round =>
     obtain ⟨i,cv,kv,rfl,hi,hI⟩:=hrel
     obtain ⟨p,hp⟩ : ∃ p,p=(preB n i).length:=⟨_,rfl⟩
     rw [<- hp] at hI
     have r0 : wr.cell? ⟨gn,0,none⟩=some (.bool true):=by have h:=hI.out.nod.cell 0; rw [<- hlf.out] at h; exact h
     have r1:=hI.out.nod.cell 1
     have r2:=hI.out.nod.cell 2
     have g0:=hI.out.rdr.blk.cell 0
     have g1:=hI.out.rdr.blk.cell 1
     have g2:=hI.out.rdr.blk.cell 2
     rcases Nat.lt_or_ge i M with hlt | hge
     · have hIc : (i : Int) < (M : Int) := by omega
       have hiB : (i : Int)<=70000:=by have:=hmany.out; omega
       have hil : i < n.cells.length:=by have:=hM.out; omega
       obtain ⟨x,hxx⟩ : ∃ x,x=n.cells[i]:=⟨_,rfl⟩
       have hx : n.cells[i]?=some x:=by rw [hxx]; exact List.getElem?_eq_getElem hil
       have hxm : x ∈ n.cells:=by rw [hxx]; exact List.getElem_mem hil
       obtain ⟨t1,t2,t3⟩:=hcell.out i x hx
       have hkey:=hr.out.keys x hxm
       have hval:=hr.out.vals x hxm
       rw [<- hlf.out] at hval t1 t2
       rw [<- hp] at t1 t2
       obtain ⟨K,hK⟩ : ∃ K : UInt8,K=UInt8.ofNat x.key.length:=⟨_,rfl⟩
       have hcb : cellB true x (n.kids.getD (i + 1) 0)=[K] ++ (x.key ++ (tailB x)):=by unfold cellB tailB; rw [<- hK]; simp
       rw [hcb] at t1 t2
       obtain ⟨s1,s23⟩:=at_app t1
       obtain ⟨s2,s3⟩:=at_app s23
       have hKn : numL [K]=x.key.length:=by
         show K.toNat + 256 * 0=_
         rw [hK,UInt8.toNat_ofNat']; omega
       obtain ⟨KL,hKL⟩ : ∃ KL,KL=x.key.length:=⟨_,rfl⟩
       have hl1 : ([K] : List UInt8).length=1:=rfl
       rw [hl1] at s1 s2 s3
       rw [<- hKL] at s2 s3 hKn hkey
       have hpN : p + 1 + KL + (tailB x).length<=N:=by
         have h1:=hpre.out (i + 1) (by omega)
         rw [t2] at h1
         simp only [List.length_append,hl1] at h1
         omega
       have hp2 : Hid ((preB n (i + 1)).length=p + 1 + KL + (tailB x).length):=hide (by rw [t2]; simp only [List.length_append,hl1]; omega)
       have hnum:=rdnum_any wr gr N c p 1 A b hI.out.rdr (by omega) (by omega) (by omega) 1 rfl
       rw [s1,hKn] at hnum
       have hcut : Hid (∀ wz,RdLeft wr gr A N c b (p + 1) wz->Calls Tryz.prog 130 #[.pointer (some ⟨gr,0,none⟩),.int .i64 (KL : Int)] wz (RCutRet wz gr A N c b (p + 1) KL)):=hide fun wz hz => cut_any wz gr N c (p + 1) KL A b hz.1 (by omega)
       have hKLb : KL<=120:=hkey.2
       replace hnum:=hide hnum
       replace s1:=hide s1
       replace s2:=hide s2
       replace s23:=hide s23
       replace s3:=hide s3
       replace t1:=hide t1
       replace t2:=hide t2
       replace t3:=hide t3
       replace hp:=hide hp
       replace hxx:=hide hxx
       replace hx:=hide hx
       replace hxm:=hide hxm
       replace hK:=hide hK
       replace hKn:=hide hKn
       replace hKL:=hide hKL
       replace hcb:=hide hcb
       replace hkey:=hide hkey
       replace hval:=hide hval
       replace hil:=hide hil
       replace hpN:=hide hpN
       clear hl1
       go_wp2_with fail
       refine hnum.out.mono ?_
       rintro e w4 ⟨rfl,hL4⟩
       have hI4:=hide (hI.out.only hL4.2 hL4.1)
       have hcut4:=hide (hcut.out w4 hL4)
       replace hL4:=hide hL4
       go_wp2_with fail
       refine hcut4.out.mono ?_
       rintro e w5 ⟨v5,rfl,hO5,hL5⟩
       have hI5:=hide (hI4.out.only hL5.2 hL5.1)
       rw [s2.out] at hO5
       have hO5':=hO5.more (b':=w.heap.size) hI4.out.bel.size
       obtain ⟨A5,c5,rfl,_,_,hc5,_⟩:=hO5'.form
       have hrd5:=hide hO5'.rd5
       obtain ⟨gc,hgc⟩ : ∃ gc,gc=w5.heap.size:=⟨_,rfl⟩
       have hI6:=hide (hI5.out.alloc (.cells #[.slice A5 KL c5,.slice none 0 0,.int .i64 0,.int .i64 0] 83))
       have hC6:=hide (Blk.new w5 83 #[.slice A5 KL c5,.slice none 0 0,.int .i64 0,.int .i64 0])
       have hgrc : Hid (gr < gc):=hide (by rw [hgc]; exact Blk.lt hI5.out.rdr.blk)
       have hgnc : Hid (gn < gc):=hide (by rw [hgc]; exact Blk.lt hI5.out.nod)
       obtain ⟨w6,hw6⟩ : ∃ w6,w6=w5.alloc (.cells #[.slice A5 KL c5,.slice none 0 0,.int .i64 0,.int .i64 0] 83):=⟨_,rfl⟩
       rw [<- hw6,<- hgc] at hC6
       rw [<- hw6] at hI6
       have hO56 : Hid (Only (fun j => j=gr) w5 w6):=hide (by rw [hw6]; exact (Only.refl _ w5).alloc _)
       have hT56 : Hid (KeepT 5 w5 w6):=hide (by rw [hw6]; exact (KeepT.refl 5 w5).alloc _)
       have e0 : w6.cell? ⟨gn,0,none⟩=some (.bool true):=by have h:=hI6.out.nod.cell 0; rw [<- hlf.out] at h; exact h
       have e2:=hI6.out.nod.cell 2
       replace hw6:=hide hw6
       replace hgc:=hide hgc
       replace hO5:=hide hO5
       replace hO5':=hide hO5'
       replace hL5:=hide hL5
       replace hc5:=hide hc5
       have hrc:=hide (rcell_any w6 gr gc N c (p + 1 + KL) A b hI6.out.rdr (.slice A5 KL c5) hgrc.out hC6.out x (by simpa using hval.out) s3.out hpN.out)
       go_upto_region 10 with (fail)
       rw [<- hw6.out,<- hgc.out]
       go_wp2_with fail
       refine hrc.out.mono ?_
       rintro e w7 ⟨rfl,hR7,hO7,vv,hC7,hV7⟩
       have hO57 : Only (fun j => j=gr) w5 w7:=hO56.out.trans hO7 (fun k hk h => h.elim id (fun h => by have:=hgc.out; omega))
       have hI7:=hide (hI5.out.only hO57 hR7)
       have hT67 : KeepT 5 w6 w7:=hO7.keepT fun k cs hk hb => by
         rcases hk with rfl | rfl
         · exact Blk.ne_ hb hI6.out.rdr.blk (by decide) rfl
         · exact Blk.ne_ hb hC6.out (by decide) rfl
       have hV7':=hV7.more (b':=w.heap.size) hI6.out.bel.size
       obtain ⟨A7,c7,rfl,_,_,hc7,_⟩:=hV7'.form
       have hcv : Hid (CellV (G5 w.heap.size w7) w7 [.slice A5 KL c5,.slice A7 x.val.length c7,.int .i64 (x.over : Int),.int .i64 (x.long : Int)] x):=hide ⟨A5,c5,A7,c7,by rw [hKL.out],by rw [<- hKL.out]; exact hc5.out,hc7,by
         rw [<- hKL.out]
         exact hrd5.out.keep fun k hk => ⟨⟨hk.1,hk.2.choose,hT67 _ _ (hT56.out _ _ hk.2.choose_spec)⟩,(hT67 _ _ (hT56.out _ _ hk.2.choose_spec)).trans hk.2.choose_spec.symm⟩,hV7'.rd5⟩
       obtain ⟨VL,hVL⟩ : ∃ VL,VL=x.val.length:=⟨_,rfl⟩
       rw [<- hVL] at hcv hC7
       replace hVL:=hide hVL
       replace hO7:=hide hO7
       replace hR7:=hide hR7
       replace hV7:=hide hV7
       replace hV7':=hide hV7'
       replace hT67:=hide hT67
       replace hO57:=hide hO57
       have hfinp : Hid ((preB n (i + 1)).length=p + 1 + KL + (tailB x).length):=hp2
       have k0:=hC7.cell 0
       have k1:=hC7.cell 1
       have k2:=hC7.cell 2
       have k3:=hC7.cell 3
       have m1:=hI7.out.nod.cell 1
       have hI8:=hide (hI7.out.alloc (.cells #[(.slice A5 KL c5),(.slice A7 VL c7),(.int .i64 (x.over : Int)),(.int .i64 (x.long : Int))] 83))
       have hB8:=Blk.new w7 83 #[(.slice A5 KL c5),(.slice A7 VL c7),(.int .i64 (x.over : Int)),(.int .i64 (x.long : Int))]
       obtain ⟨rows,hr1,hr2,hr3⟩:=hI8.out.rows
       obtain ⟨v9,w9,hrun,hO9,hg9,hat9⟩:=run_app_cell (w7.alloc (.cells #[(.slice A5 KL c5),(.slice A7 VL c7),(.int .i64 (x.over : Int)),(.int .i64 (x.long : Int))] 83)) gn cv i rows.flatten hr2 w7.heap.size (.slice A5 KL c5) (.slice A7 VL c7) (.int .i64 (x.over : Int)) (.int .i64 (x.long : Int)) (by intro u hu; simp at hu; rcases hu with rfl | rfl | rfl | rfl <;> rfl) hB8 87 (by have:=hmany.out; omega) (Nat.le_of_lt (Blk.lt hI8.out.nod))
       have hN9:=hI8.out.nod.grown hg9 (fun e => own_blk_ne hr2 hI8.out.nod (by decide) e.symm)
       have f1:=hN9.frozen 1
       have l1:=hN9.cell 1
       have hcv8 : CellV (G5 w.heap.size (w7.alloc (.cells #[(.slice A5 KL c5),(.slice A7 VL c7),(.int .i64 (x.over : Int)),(.int .i64 (x.long : Int))] 83))) (w7.alloc (.cells #[(.slice A5 KL c5),(.slice A7 VL c7),(.int .i64 (x.over : Int)),(.int .i64 (x.long : Int))] 83)) [(.slice A5 KL c5),(.slice A7 VL c7),(.int .i64 (x.over : Int)),(.int .i64 (x.long : Int))] x:=hcv.out.keep fun k hk => ⟨⟨hk.1,hk.2.choose,hk.2.choose_spec.alloc _⟩,(Below.heap_alloc w7 _ k (Blk.lt hk.2.choose_spec))⟩
       have hdone : Hid (GI w gr gn A N c b n (i + 1) 0 (preB n (i + 1)).length v9 kv (w9.setCell ⟨gn,1,none⟩ v9)):=hide (by
         rw [hfinp.out]
         exact hI8.out.cell hg9 hx.out hcv8 rows hr1 hr2 hr3 hO9)
       obtain ⟨A9,c9,hv9⟩ : ∃ A9 c9,v9=.slice A9 (i + 1) c9:=by
         rcases hO9.2 with ⟨_,h0⟩ | ⟨g,cap,cur,e,_⟩
         · omega
         · exact ⟨_,_,e⟩
       subst hv9
       replace hC7:=hide hC7
       replace hB8:=hide hB8
       replace hO9:=hide hO9
       replace hg9:=hide hg9
       replace hN9:=hide hN9
       replace hr1:=hide hr1
       replace hr2:=hide hr2
       replace hr3:=hide hr3
       replace hcv8:=hide hcv8
       replace hat9:=hide hat9
       go_wp2_with (at_builtin; refine Lib.wpList_append_run _ rfl (.tmp 54) (.tmp 56) 87 87 rfl _ _ rfl rfl _ _ hrun ?_)
       go_roundw
       case rel => exact ⟨i + 1,_,_,by simp,by omega,hdone⟩
       case measure => simp [intOf]; omega
     · have hiM : i = M := by omega
       have hIf : ¬ (i : Int) < (M : Int):=by omega
       have hIf2 : (M : Int)<=(i : Int):=by omega
       have hMD : decide ((i : Int) < (M : Int))=false:=by rw [decide_eq_false_iff_not]; omega
       have hpN : p<=N:=by rw [hp]; exact hpre.out i (by omega)
       have hown:=hI.out.own (by rw [hiM]; exact hM.out) (by rw [hkidl.out trivial]; rfl)
       have hsl : ∀ {e : TypeId} {size m : Nat} {v : Value} {xs : List Value} {B : Nat},wr.ownsRow B e size v m xs->∃ A c,v=.slice A m c:=by
         intro e size m v xs B h
         rcases h.2 with ⟨rfl,rfl⟩ | ⟨g,cap,cur,rfl,_⟩
         · exact ⟨none,0,rfl⟩
         · exact ⟨_,_,rfl⟩
       obtain ⟨rows,_,hro,_⟩:=hown.rows
       obtain ⟨Ac,cc,rfl⟩:=hsl hro
       obtain ⟨Ak,ck,rfl⟩:=hsl hown.kids
       have hNM:=hown.nodeM (G:=Old wr) (fun k _ hk => hk)
       rw [<- hlf.out] at hNM
       have hri:=hide (right_any wr _ n hNM hr.out)
       obtain ⟨T,hT⟩ : ∃ T,T=N - p:=⟨_,rfl⟩
       have hrbT : RB wr w.heap.size (if c=p then A else A.map (fun a => a.add (p * 1))) T (zeroB T):=by
         have h:=Reads.cut (k:=p) (cap:=c) (hb.out.below hI.out.bel) hpN hnc
         rw [hT]
         have e : b.drop p=zeroB (N - p):=by
           have e1:=hend.out
           rw [<- hiM,<- hp] at e1
           have e2:=congrArg List.length e1
           rw [List.length_drop,hbl.out,zeroB_len] at e2
           rw [e1,e2]
         unfold RB
         rw [<- e]
         unfold bv at h ⊢
         rw [List.map_drop]
         simpa using h
       have hTc : T<=c - p:=by omega
       obtain ⟨AT,hAT⟩ : ∃ AT,AT=(if c=p then A else A.map (fun a => a.add (p * 1))):=⟨_,rfl⟩
       rw [<- hAT] at hrbT
       replace hri:=hide hri
       replace hIf:=hide hIf
       replace hrbT:=hide hrbT
       replace hAT:=hide hAT
       replace hT:=hide hT
       replace hro:=hide hro
       replace hown:=hide hown
       replace hNM:=hide hNM
       replace hiM:=hide hiM
       replace hp:=hide hp
       have hpI : (p : Int)<=(N : Int):=by omega
       have hpc : (p : Int)<=(c : Int):=by omega
       rcases Nat.lt_or_ge p c with hcp | hcp
       · have hcpI : (p : Int) < (c : Int) := by omega
         have hne : ¬ c=p:=by omega
         have e1 : AT=Option.map (fun x => x.add p) A:=by rw [hAT.out,if_neg hne,Nat.mul_one]
         have h1 : T<=(c - p):=by have:=hT.out; omega
         have h2 : T<=10000000:=by have:=hT.out; omega
         have hnT:=hT.out
         have htr : Hid (∀ wz,Below wr.heap.size wr wz->Calls Tryz.prog 132 #[.slice (Option.map (fun x => x.add p) A) (N - p) (c - p),.string { data:=#[0] }] wz fun e w' => e=.returned (.slice none 0 0)/\∃ q,w'=wz.drewN q):=hide fun wz hz => by
           have h:=RB.below hrbT.out (hz.mono hI.out.bel.size)
           have h3:=trim_any wz w.heap.size T (c - p) AT h h1 h2
           rw [e1,hnT] at h3
           exact h3
         replace e1:=hide e1
         replace hnT:=hide hnT
         have hneq : ∀ wz : World,(binOp .neq 37 (.slice none 0 0) (.slice none 0 0)).run Tryz.prog wz=.ok (.bool false) wz:=fun wz => by kernel_rfl
         go_wp2_with (first
           | (go_at_call 87; refine hri.out.out.mono ?_; rintro e w7 ⟨rfl,hb7⟩; (have y0:=(hI.out.rdr.only (Only.of_below (S:=fun _ => False) hb7) (fun h => h) (fun _ _ h => h)).blk.cell 0); (have y1:=(hI.out.rdr.only (Only.of_below (S:=fun _ => False) hb7) (fun h => h) (fun _ _ h => h)).blk.cell 1);
              (have z0 : w7.cell? ⟨gn,0,none⟩=some (.bool true):=(hb7.cell (p:=⟨gn,0,none⟩) (Blk.lt hI.out.nod)).trans r0); (have z1:=(hI.out.nod.below hb7 (Blk.lt hI.out.nod)).cell 1); (have z2:=(hI.out.nod.below hb7 (Blk.lt hI.out.nod)).cell 2);
              (have rs:=hI.out.res.below hb7 (Blk.lt hI.out.res)); (have o0:=rs.cell 0); (have o1:=rs.cell 1); (have o2:=rs.cell 2); (have u0:=rs.frozen 0); (have u1:=rs.frozen 1); (have u2:=rs.frozen 2);
              replace rs:=hide rs; replace hb7:=hide hb7)
           | (go_at_call 132; refine (htr.out _ hb7.out).mono ?_; rintro e w8 ⟨rfl,nq,rfl⟩))
         have hB9 : Below w.heap.size w ((((w7.drewN nq).setCell ⟨w.heap.size,0,none⟩ (.bool true)).setCell ⟨w.heap.size,1,none⟩ (.slice Ac n.cells.length cc)).setCell ⟨w.heap.size,2,none⟩ (.slice Ak n.kids.length ck)) :=
           ((((below_drewN (hI.out.bel.trans (hb7.out.mono hI.out.bel.size)) nq).setCell (p:=⟨w.heap.size,0,none⟩) (Nat.le_refl _) _).setCell (p:=⟨w.heap.size,1,none⟩) (Nat.le_refl _) _).setCell (p:=⟨w.heap.size,2,none⟩) (Nat.le_refl _) _)
         have hown9 : NodeOwn ((((w7.drewN nq).setCell ⟨w.heap.size,0,none⟩ (.bool true)).setCell ⟨w.heap.size,1,none⟩ (.slice Ac n.cells.length cc)).setCell ⟨w.heap.size,2,none⟩ (.slice Ak n.kids.length ck)) w.heap.size (.slice Ac n.cells.length cc) (.slice Ak n.kids.length ck) n:=by
           have e1 : Only (fun j => j=w.heap.size) wr ((((w7.drewN nq).setCell ⟨w.heap.size,0,none⟩ (.bool true)).setCell ⟨w.heap.size,1,none⟩ (.slice Ac n.cells.length cc)).setCell ⟨w.heap.size,2,none⟩ (.slice Ak n.kids.length ck)) :=
             (((((Only.of_below (S:=fun j => j=w.heap.size) hb7.out).drewN nq).setCell (p:=⟨w.heap.size,0,none⟩) (fun _ => rfl) _).setCell (p:=⟨w.heap.size,1,none⟩) (fun _ => rfl) _).setCell (p:=⟨w.heap.size,2,none⟩) (fun _ => rfl) _)
           exact hown.out.only e1 fun k hk => by subst hk; exact ⟨_,_,hI.out.res,by decide,by decide,by decide⟩
         have hfin : Hid (GetRet w n (.returned (.tuple #[.agg #[.bool true,.slice Ac n.cells.length cc,.slice Ak n.kids.length ck],.int .i64 0])) _):=hide ⟨.slice Ac n.cells.length cc,.slice Ak n.kids.length ck,by rw [<- hlf.out],hown9,hB9⟩
         refine bodyPost_ret (v:=.tuple #[.agg #[.bool true,.slice Ac n.cells.length cc,.slice Ak n.kids.length ck],.int .i64 0]) ?_ rfl hfin.out
         have hbf:=(((rs.out.drewN nq).set_ 0 (.bool true)).set_ 1 (.slice Ac n.cells.length cc)).set_ 2 (.slice Ak n.kids.length ck)
         obtain ⟨Wf,hWf⟩ : ∃ Wf,Wf=((((w7.drewN nq).setCell ⟨w.heap.size,0,none⟩ (.bool true)).setCell ⟨w.heap.size,1,none⟩ (.slice Ac n.cells.length cc)).setCell ⟨w.heap.size,2,none⟩ (.slice Ak n.kids.length ck)):=⟨_,rfl⟩
         rw [<- hWf] at hbf ⊢
         have j0:=hbf.cell 0
         have j1:=hbf.cell 1
         have j2:=hbf.cell 2
         have j0' : Wf.cell? ⟨w.heap.size,0,none⟩=some (.bool true):=j0
         have j1' : Wf.cell? ⟨w.heap.size,1,none⟩=some (.slice Ac n.cells.length cc):=j1
         have j2' : Wf.cell? ⟨w.heap.size,2,none⟩=some (.slice Ak n.kids.length ck):=j2
         clear j0 j1 j2
         simp [results,Tryz.results82,go_sem,j0',j1',j2']
       · have hcN : N = p /\ c = p := by omega
         obtain ⟨hc1,hc2⟩:=hcN
         have htr : Hid (∀ wz : World,Below wr.heap.size wr wz->Calls Tryz.prog 132 #[.slice A 0 0,.string { data:=#[0] }] wz fun e w' => e=.returned (.slice none 0 0)/\∃ q,w'=wz.drewN q):=hide fun wz hz => trim_any wz 0 0 0 A ⟨by simp [bv,zeroB],fun h => absurd h (by omega)⟩ (by omega) (by omega)
         subst hc1
         subst hc2
         have hneq : ∀ wz : World,(binOp .neq 37 (.slice none 0 0) (.slice none 0 0)).run Tryz.prog wz=.ok (.bool false) wz:=fun wz => by kernel_rfl
         go_wp2_with (first
           | (go_at_call 87; refine hri.out.out.mono ?_; rintro e w7 ⟨rfl,hb7⟩; (have y0:=(hI.out.rdr.only (Only.of_below (S:=fun _ => False) hb7) (fun h => h) (fun _ _ h => h)).blk.cell 0); (have y1:=(hI.out.rdr.only (Only.of_below (S:=fun _ => False) hb7) (fun h => h) (fun _ _ h => h)).blk.cell 1);
              (have z0 : w7.cell? ⟨gn,0,none⟩=some (.bool true):=(hb7.cell (p:=⟨gn,0,none⟩) (Blk.lt hI.out.nod)).trans r0); (have z1:=(hI.out.nod.below hb7 (Blk.lt hI.out.nod)).cell 1); (have z2:=(hI.out.nod.below hb7 (Blk.lt hI.out.nod)).cell 2);
              (have rs:=hI.out.res.below hb7 (Blk.lt hI.out.res)); (have o0:=rs.cell 0); (have o1:=rs.cell 1); (have o2:=rs.cell 2); (have u0:=rs.frozen 0); (have u1:=rs.frozen 1); (have u2:=rs.frozen 2);
              replace rs:=hide rs; replace hb7:=hide hb7)
           | (go_at_call 132; refine (htr.out _ hb7.out).mono ?_; rintro e w8 ⟨rfl,nq,rfl⟩))
         have hB9 : Below w.heap.size w ((((w7.drewN nq).setCell ⟨w.heap.size,0,none⟩ (.bool true)).setCell ⟨w.heap.size,1,none⟩ (.slice Ac n.cells.length cc)).setCell ⟨w.heap.size,2,none⟩ (.slice Ak n.kids.length ck)) :=
           ((((below_drewN (hI.out.bel.trans (hb7.out.mono hI.out.bel.size)) nq).setCell (p:=⟨w.heap.size,0,none⟩) (Nat.le_refl _) _).setCell (p:=⟨w.heap.size,1,none⟩) (Nat.le_refl _) _).setCell (p:=⟨w.heap.size,2,none⟩) (Nat.le_refl _) _)
         have hown9 : NodeOwn ((((w7.drewN nq).setCell ⟨w.heap.size,0,none⟩ (.bool true)).setCell ⟨w.heap.size,1,none⟩ (.slice Ac n.cells.length cc)).setCell ⟨w.heap.size,2,none⟩ (.slice Ak n.kids.length ck)) w.heap.size (.slice Ac n.cells.length cc) (.slice Ak n.kids.length ck) n:=by
           have e1 : Only (fun j => j=w.heap.size) wr ((((w7.drewN nq).setCell ⟨w.heap.size,0,none⟩ (.bool true)).setCell ⟨w.heap.size,1,none⟩ (.slice Ac n.cells.length cc)).setCell ⟨w.heap.size,2,none⟩ (.slice Ak n.kids.length ck)) :=
             (((((Only.of_below (S:=fun j => j=w.heap.size) hb7.out).drewN nq).setCell (p:=⟨w.heap.size,0,none⟩) (fun _ => rfl) _).setCell (p:=⟨w.heap.size,1,none⟩) (fun _ => rfl) _).setCell (p:=⟨w.heap.size,2,none⟩) (fun _ => rfl) _)
           exact hown.out.only e1 fun k hk => by subst hk; exact ⟨_,_,hI.out.res,by decide,by decide,by decide⟩
         have hfin : Hid (GetRet w n (.returned (.tuple #[.agg #[.bool true,.slice Ac n.cells.length cc,.slice Ak n.kids.length ck],.int .i64 0])) _):=hide ⟨.slice Ac n.cells.length cc,.slice Ak n.kids.length ck,by rw [<- hlf.out],hown9,hB9⟩
         refine bodyPost_ret (v:=.tuple #[.agg #[.bool true,.slice Ac n.cells.length cc,.slice Ak n.kids.length ck],.int .i64 0]) ?_ rfl hfin.out
         have hbf:=(((rs.out.drewN nq).set_ 0 (.bool true)).set_ 1 (.slice Ac n.cells.length cc)).set_ 2 (.slice Ak n.kids.length ck)
         obtain ⟨Wf,hWf⟩ : ∃ Wf,Wf=((((w7.drewN nq).setCell ⟨w.heap.size,0,none⟩ (.bool true)).setCell ⟨w.heap.size,1,none⟩ (.slice Ac n.cells.length cc)).setCell ⟨w.heap.size,2,none⟩ (.slice Ak n.kids.length ck)):=⟨_,rfl⟩
         rw [<- hWf] at hbf ⊢
         have j0:=hbf.cell 0
         have j1:=hbf.cell 1
         have j2:=hbf.cell 2
         have j0' : Wf.cell? ⟨w.heap.size,0,none⟩=some (.bool true):=j0
         have j1' : Wf.cell? ⟨w.heap.size,1,none⟩=some (.slice Ac n.cells.length cc):=j1
         have j2' : Wf.cell? ⟨w.heap.size,2,none⟩=some (.slice Ak n.kids.length ck):=j2
         clear j0 j1 j2
         simp [results,Tryz.results82,go_sem,j0',j1',j2']
 | false =>
   rw [hleaf] at hlf; cases hlf
end Go.Proofs.YtiiljlmeililbaaGreatDoor
