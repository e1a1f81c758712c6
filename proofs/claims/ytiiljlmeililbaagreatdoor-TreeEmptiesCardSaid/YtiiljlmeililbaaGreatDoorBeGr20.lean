/-
  Contract of slices.Insert of one cell into a row of cells of the call's own.
-/
import Derived.Test.YtiiljlmeililbaaGreatDoorBeGr17
import Derived.Shelf.Spec.SlicesInsert
import Derived.Shelf.Spec.SlicesInsertGrow
import Derived.Lib.AppendZerosOnto
import Derived.Test.YtiiljlmeililbaaGreatDoorBeGr18
import Derived.Test.YtiiljlmeililbaaGreatDoorBeGr3
import Derived.Lib.SliceRun
import Derived.Deep.RegionLaw
namespace Go.Proofs.YtiiljlmeililbaaGreatDoor
set_option linter.unusedVariables false
set_option maxRecDepth 100000
open Go.RowKit
theorem run_copy_row4 (w : World) (ty : TypeId) (g off dLen dCap : Nat) (ad : Addr) (sLen sCap : Nat) (cur : Array Value) (cs : List Value) (hg : w.heap[g]?=some (.cells cur 83 (0,0))) (hn : cs.length=(Nat.min sLen dLen) * 4)
   (hsrc : ∀ j v,cs[j]?=some v->w.cell? (ad.add j)=some v) (hfit : off + cs.length<=cur.size) (h1 : ∀ v ∈ cs,v.oneCell'=true) :
   (Builtin.copy_ #[87,87] ty #[.slice (some ⟨g,off,none⟩) dLen dCap,.slice (some ad) sLen sCap]).run Tryz.prog w=.ok (goInt (Nat.min sLen dLen)) (w.setRow g (cur.toList.take off ++ (cs ++ cur.toList.drop (off + cs.length))).toArray):=by
 obtain ⟨i0,hi0,hz0,hz1,hz2⟩:=info_parts cell_info
 have hl:=run_loadCells_list (P:=Tryz.prog) w ad cs hsrc
 have hst:=run_storeCells_at Tryz.prog g off 83 cs 0 cur w hg (by simpa using hfit) h1
 simp only [Nat.add_zero] at hst
 rw [hn] at hl
 simp [Builtin.copy_,run_underlying Tryz.underlying87,Builtin.lenOf,Builtin.firstCells,sizeOf,typeInfo,hi0,hz1,hl,hst,List.append_assoc]
def insCells (xs : List Value) (i : Nat) (vs : List Value) : List Value:=xs.take (i * 4) ++ (vs ++ xs.drop (i * 4))
def InsRet (w : World) (base : Nat) (row : Option Nat) (n : Nat) (ys : List Value) (e : Ending) (w' : World) : Prop :=
 ∃ v',e=.returned v'/\w'.ownsRow base 83 4 v' (n + 1) ys/\w.grownBy w' row/\(∀ k,v'.ownBlock=some k->row=some k \/ w.heap.size<=k)
theorem ins_lists (T xs vs : List Value) (n i : Nat) (hT : T.take (n * 4)=xs) (hl : (n + 1) * 4<=T.length) (hi : i < n) (hv : vs.length=4) :
   (((T.take ((i + 1) * 4) ++ (xs.drop (i * 4) ++ T.drop ((i + 1) * 4 + (xs.drop (i * 4)).length))).take (i * 4) ++ (vs ++ (T.take ((i + 1) * 4) ++ (xs.drop (i * 4) ++ T.drop ((i + 1) * 4 + (xs.drop (i * 4)).length))).drop (i * 4 + 4)))).take ((n + 1) * 4)=xs.take (i * 4) ++ (vs ++ xs.drop (i * 4)):=by
 have hxl : xs.length=n * 4:=by rw [<- hT,List.length_take]; omega
 have e1 : (T.take ((i + 1) * 4) ++ (xs.drop (i * 4) ++ T.drop ((i + 1) * 4 + (xs.drop (i * 4)).length))).take (i * 4)=xs.take (i * 4):=by
   rw [List.take_append_of_le_length (by rw [List.length_take]; omega),List.take_take,Nat.min_eq_left (by omega),<- hT,List.take_take,Nat.min_eq_left (by omega)]
 have e2 : (T.take ((i + 1) * 4) ++ (xs.drop (i * 4) ++ T.drop ((i + 1) * 4 + (xs.drop (i * 4)).length))).drop (i * 4 + 4)=xs.drop (i * 4) ++ T.drop ((i + 1) * 4 + (xs.drop (i * 4)).length):=by
   rw [show i * 4 + 4=(T.take ((i + 1) * 4)).length from by rw [List.length_take]; omega,List.drop_left]
 rw [e1,e2,<- List.append_assoc,<- List.append_assoc,List.append_assoc (xs.take (i * 4)) vs]
 rw [List.take_append_of_le_length (by simp only [List.length_append,List.length_take,List.length_drop,hv,hxl]; omega)]
 exact List.take_of_length_le (by simp only [List.length_append,List.length_take,List.length_drop,hv,hxl]; omega)
set_option maxHeartbeats 1000000 in
theorem ins_end (w : World) (base : Nat) (v : Value) (n : Nat) (xs : List Value) (hown : w.ownsRow base 83 4 v n xs) (g : Nat) (x0 x1 x2 x3 : Value) (h1 : ∀ u ∈ [x0,x1,x2,x3],u.oneCell'=true) (hb : Blk w g 83 #[x0,x1,x2,x3]) (hn : n<=100000) (hbase : base<=w.heap.size) :
   Calls Tryz.prog 40 #[v,.int .i64 (n : Int),.slice (some ⟨g,0,none⟩) 1 1] w (InsRet w base v.ownBlock n (xs ++ [x0,x1,x2,x3])):=by
 obtain ⟨v',w',hrun,h2,h3,h4⟩:=run_app_cell w base v n xs hown g x0 x1 x2 x3 h1 hb 87 (by omega) hbase
 have hsl : ∃ A c,v=.slice A n c/\n<=c:=by
   rcases hown.2 with ⟨rfl,rfl⟩ | ⟨g,cap,cur,rfl,_,_,h3,_⟩
   · exact ⟨none,0,rfl,Nat.le_refl _⟩
   · exact ⟨_,_,rfl,h3⟩
 obtain ⟨A,c,rfl,hc⟩:=hsl
 have hnI : (n : Int)<=(c : Int):=by omega
 obtain ⟨row,hrow⟩ : ∃ row,row=(Value.slice A n c).ownBlock:=⟨_,rfl⟩
 rw [<- hrow] at h3 h4 ⊢
 have h5 : Hid (∀ k,v'.ownBlock=some k->row=some k \/ w.heap.size<=k):=hide (fun k hk => by
   rcases h4 with h4 | h4
   · exact .inl (h4.symm.trans hk)
   · rw [h4] at hk; injection hk with hk; exact .inr (by omega))
 clear h4
 replace hrow:=hide hrow
 replace hown:=hide hown
 replace hb:=hide hb
 replace h2:=hide h2
 replace h3:=hide h3
 clear h1
 go_enter Tryz.func40,Tryz.ntmps40
 go_wp2_with (at_builtin; refine Lib.wpList_append_run _ rfl (.tmp 23) (.tmp 24) 87 87 rfl _ _ rfl rfl _ _ hrun ?_)
 all_goals
   go_ret
   exact ⟨v',rfl,h2.out,h3.out,h5.out⟩
set_option maxHeartbeats 8000000 in
theorem ins_room (w : World) (base g0 cap : Nat) (n i : Nat) (xs : List Value) (cur : Array Value) (hg0 : base<=g0) (hrow : w.heap[g0]?=some (.cells cur 83 (0,0))) (hcs : cur.size=cap * 4) (hxs : xs.length=n * 4) (hti : cur.toList.take (n * 4)=xs) (hi : i < n) (hroom : n + 1<=cap) (hcm : cap<=maxLen)
   (g : Nat) (hne : g ≠ g0) (x0 x1 x2 x3 : Value) (h1 : ∀ u ∈ [x0,x1,x2,x3],u.oneCell'=true) (h1x : ∀ u ∈ xs,u.oneCell'=true) (hb : Blk w g 83 #[x0,x1,x2,x3]) (hn : n<=100000) :
   Calls Tryz.prog 40 #[.slice (some ⟨g0,0,none⟩) n cap,.int .i64 (i : Int),.slice (some ⟨g,0,none⟩) 1 1] w (InsRet w base (some g0) n (insCells xs i [x0,x1,x2,x3])):=by
 have hne2 : ((i : Int) == (n : Int))=false:=by rw [beq_eq_false_iff_ne]; omega
 have hiI : (i : Int)<=(n : Int):=by omega
 have hnc : (n : Int)<=(cap : Int):=by omega
 have hr1 : (n : Int) + 1<=(cap : Int):=by omega
 have hn6 : (n : Int)<=100000:=by omega
 obtain ⟨N1,hN1⟩ : ∃ N1,N1=n + 1:=⟨_,rfl⟩
 have hNI : (n : Int) + 1=(N1 : Int):=by omega
 have hNc : (N1 : Int)<=(cap : Int):=by omega
 have hND : decide ((cap : Int) < (N1 : Int))=false:=by rw [decide_eq_false_iff_not]; omega
 have hNW : IntKind.i64.wrap (N1 : Int)=(N1 : Int):=IntWalk.i64_in _ (by omega)
 have hiN : (i : Int)<=(N1 : Int):=by omega
 obtain ⟨J,hJ⟩ : ∃ J,J=i + 1:=⟨_,rfl⟩
 have hJI : (i : Int) + 1=(J : Int):=by omega
 have hJW : IntKind.i64.wrap (J : Int)=(J : Int):=IntWalk.i64_in _ (by omega)
 have hJN : (J : Int)<=(N1 : Int):=by omega
 have hov : (callFunc 76 #[.slice (some ⟨g,0,none⟩) 1 1,.slice (some ⟨g0,J * 4,none⟩) (N1 - J) (cap - J)]).run Tryz.prog w=.ok (.value (.bool false)) w:=by
   rw [run_callFunc_extern (P:=Tryz.prog) (f:=76) Tryz.func76 (by kernel_rfl) (by kernel_rfl) (by kernel_rfl) (e:=Extern.SlicesOverlaps.overlaps #[87,87] #[4]) (by kernel_rfl),
     Lib.run_overlaps_apart w 87 4 83 Tryz.underlying87 4 Tryz.sizeOf83 ⟨g,0,none⟩ ⟨g0,J * 4,none⟩ 1 1 (N1 - J) (cap - J) hne 83 83 4 cur.size (by unfold Blk at hb; simp [World.shape?,hb]) (by simp [World.shape?,hrow]) (by omega) (hb.frozen 0) (hb.frozen 4)]
   rfl
 have hdl : (xs.drop (i * 4)).length=(n - i) * 4:=by rw [List.length_drop,hxs]; omega
 have hmin : Nat.min (N1 - i) (N1 - J)=n - i:=by show min (N1 - i) (N1 - J)=n - i; omega
 obtain ⟨C1,hC1⟩ : ∃ C1,C1=(cur.toList.take (J * 4) ++ (xs.drop (i * 4) ++ cur.toList.drop (J * 4 + (xs.drop (i * 4)).length))).toArray:=⟨_,rfl⟩
 have hcp1:=run_copy_row4 w.drew 3 g0 (J * 4) (N1 - J) (cap - J) ⟨g0,i * 4,none⟩ (N1 - i) (cap - i) cur (xs.drop (i * 4)) hrow (by rw [hmin,hdl]) (fun j v hj => by
   rw [Addr.add_lit]
   have h2 : w.cell? ⟨g0,i * 4 + j,none⟩=cur[i * 4 + j]?:=(show Blk w g0 83 cur from hrow).cell _
   have h3 : w.drew.cell? ⟨g0,i * 4 + j,none⟩=w.cell? ⟨g0,i * 4 + j,none⟩:=rfl
   rw [h3,h2]
   have hj2:=(List.getElem?_eq_some_iff.1 hj).1
   rw [List.getElem?_drop,<- hti,List.getElem?_take,if_pos (by rw [hdl] at hj2; omega)] at hj
   simpa using hj) (by rw [hdl,hcs]; omega) (fun v hv => h1x v (List.mem_of_mem_drop hv))
 rw [<- hC1,hmin] at hcp1
 have hC1s : C1.size=cap * 4:=by rw [hC1]; simp [hdl,hcs]; omega
 have hB1 : Blk (w.drew.setRow g0 C1) g0 83 C1:=setRow_heap w.drew g0 cur C1 83 (0,0) hrow
 have hbg1 : Blk (w.drew.setRow g0 C1) g 83 #[x0,x1,x2,x3]:=(setRow_other w.drew g0 g C1 hne).trans hb
 have hmin2 : Nat.min 1 (N1 - i)=1:=by show min 1 (N1 - i)=1; omega
 obtain ⟨C2,hC2⟩ : ∃ C2,C2=(C1.toList.take (i * 4) ++ ([x0,x1,x2,x3] ++ C1.toList.drop (i * 4 + [x0,x1,x2,x3].length))).toArray:=⟨_,rfl⟩
 have hcp2:=run_copy_row4 (w.drew.setRow g0 C1) 3 g0 (i * 4) (N1 - i) (cap - i) ⟨g,0,none⟩ 1 1 C1 [x0,x1,x2,x3] hB1 (by rw [hmin2]; rfl) (fun j v hj => by
   rw [Addr.add_lit,Nat.zero_add,hbg1.cell]
   simpa using hj) (by rw [hC1s]; simp; omega) h1
 rw [<- hC2,hmin2] at hcp2
 have hfin : Hid (InsRet w base (some g0) n (insCells xs i [x0,x1,x2,x3]) (.returned (.slice (some ⟨g0,0,none⟩) N1 cap)) ((w.drew.setRow g0 C1).setRow g0 C2)):=hide (by
   have hC2s : C2.size=cap * 4:=by rw [hC2]; simp [hC1s]; omega
   have hll:=ins_lists cur.toList xs [x0,x1,x2,x3] n i hti (by simp [hcs]; omega) hi rfl
   refine ⟨_,rfl,?_,⟨rfl,rfl,rfl,by simp [World.setRow],fun k hk hkk => ?_⟩,fun k hk => .inl hk⟩
   · rw [hN1]
     refine ⟨?_,.inr ⟨g0,cap,C2,rfl,hg0,setRow_heap (w.drew.setRow g0 C1) g0 C1 C2 83 (0,0) hB1,hroom,hcm,hC2s,?_⟩⟩
     · unfold insCells; simp [hdl,hxs]; omega
     · rw [hC2, hC1, hJ]
       exact hll
   · have hk0 : k ≠ g0 := fun e => hkk (by rw [e])
     rw [setRow_other (w.drew.setRow g0 C1) g0 k C2 hk0,setRow_other w.drew g0 k C1 hk0]; rfl)
 have hJc : ¬ cap=J:=by omega
 have hic : ¬ cap=i:=by omega
 clear h1 h1x
 replace hcp1 : Hid _:=hide hcp1
 replace hcp2 : Hid _:=hide hcp2
 replace hB1:=hide hB1
 replace hbg1:=hide hbg1
 replace hC1:=hide hC1
 replace hC2:=hide hC2
 replace hC1s:=hide hC1s
 replace hmin:=hide hmin
 replace hmin2:=hide hmin2
 replace hdl:=hide hdl
 replace hN1:=hide hN1
 replace hJ:=hide hJ
 replace hrow:=hide hrow
 replace hb:=hide hb
 replace hti:=hide hti
 replace hcs:=hide hcs
 replace hxs:=hide hxs
 go_enter Tryz.func40,Tryz.ntmps40
 go_wp2_with (simp only [hov])
 go_region_law (refine wp_copy_runI _ (.tmp 73) (.tmp 76) 87 87 rfl (.slice (some ⟨g0,J * 4,none⟩) (N1 - J) (cap - J)) (.slice (some ⟨g0,i * 4,none⟩) (N1 - i) (cap - i)) (by simp [Act.eval,Act.put]) (by simp [Act.eval,Act.put]) hcp1.out ?_)
 go_wp2
 rw [hcp2.out]
 go_wp2
 all_goals
   go_ret
   exact hfin.out
theorem insg_lists (R xs vs : List Value) (n i : Nat) (hR : R.take (i * 4)=xs.take (i * 4)) (hl : (n + 1) * 4<=R.length) (hxl : xs.length=n * 4) (hi : i < n) (hv : vs.length=4) :
   (((R.take (i * 4) ++ (vs ++ R.drop (i * 4 + vs.length))).take ((i + 1) * 4)) ++ (xs.drop (i * 4) ++ (R.take (i * 4) ++ (vs ++ R.drop (i * 4 + vs.length))).drop ((i + 1) * 4 + (xs.drop (i * 4)).length))).take ((n + 1) * 4)=xs.take (i * 4) ++ (vs ++ xs.drop (i * 4)):=by
 have e1 : (R.take (i * 4) ++ (vs ++ R.drop (i * 4 + vs.length))).take ((i + 1) * 4)=xs.take (i * 4) ++ vs:=by
   rw [<- List.append_assoc,hR]
   exact List.take_left' (by rw [List.length_append,List.length_take,hxl,hv]; omega)
 rw [e1,<- List.append_assoc (xs.take (i * 4)) vs (xs.drop (i * 4)),<- List.append_assoc (xs.take (i * 4) ++ vs) (xs.drop (i * 4))]
 exact List.take_left' (by simp only [List.length_append,List.length_take,List.length_drop,hv,hxl]; omega)
set_option maxHeartbeats 1000000 in
theorem ins_grow (w : World) (base g0 : Nat) (n i : Nat) (xs : List Value) (cur : Array Value) (hbase : base<=w.heap.size) (hrow : w.heap[g0]?=some (.cells cur 83 (0,0))) (hxs : xs.length=n * 4) (hti : cur.toList.take (n * 4)=xs) (hi : i < n)
   (g : Nat) (x0 x1 x2 x3 : Value) (h1 : ∀ u ∈ [x0,x1,x2,x3],u.oneCell'=true) (h1x : ∀ u ∈ xs,u.oneCell'=true) (hb : Blk w g 83 #[x0,x1,x2,x3]) (hn : n<=100000) :
   Calls Tryz.prog 40 #[.slice (some ⟨g0,0,none⟩) n n,.int .i64 (i : Int),.slice (some ⟨g,0,none⟩) 1 1] w (InsRet w base (some g0) n (insCells xs i [x0,x1,x2,x3])):=by
 obtain ⟨i0,hi0,hz0,hz1,hz2⟩:=info_parts cell_info
 have hne2 : ((i : Int) == (n : Int))=false:=by rw [beq_eq_false_iff_ne]; omega
 have hiI : (i : Int)<=(n : Int):=by omega
 have hn6 : (n : Int)<=100000:=by omega
 have hg0lt : g0 < w.heap.size:=by
   rcases Nat.lt_or_ge g0 w.heap.size with h | h
   · exact h
   · rw [Array.getElem?_eq_none h] at hrow; cases hrow
 have hglt : g < w.heap.size:=hb.lt
 obtain ⟨N1,hN1⟩ : ∃ N1,N1=n + 1:=⟨_,rfl⟩
 have hNI : (n : Int) + 1=(N1 : Int):=by omega
 have hND : decide ((n : Int) < (N1 : Int))=true:=by rw [decide_eq_true_iff]; omega
 have hNDn : decide (n < N1)=true:=by rw [decide_eq_true_iff]; omega
 have hNW : IntKind.i64.wrap (N1 : Int)=(N1 : Int):=IntWalk.i64_in _ (by omega)
 have hiN : (i : Int)<=(N1 : Int):=by omega
 obtain ⟨J,hJ⟩ : ∃ J,J=i + 1:=⟨_,rfl⟩
 have hJI : (i : Int) + 1=(J : Int):=by omega
 have hJW : IntKind.i64.wrap (J : Int)=(J : Int):=IntWalk.i64_in _ (by omega)
 have hJN : (J : Int)<=(N1 : Int):=by omega
 obtain ⟨M,hM⟩ : ∃ M,M=n + 1 - i:=⟨_,rfl⟩
 have hMI : (N1 : Int) - (i : Int)=(M : Int):=by omega
 have hMW : IntKind.i64.wrap (M : Int)=(M : Int):=IntWalk.i64_in _ (by omega)
 obtain ⟨G,hG⟩ : ∃ G,G=grownCap w N1 n 83:=⟨_,rfl⟩
 have hGn : N1<=G:=by rw [hG]; exact grownCap_ge w _ _ _
 have hGI : (N1 : Int)<=(G : Int):=by omega
 have hGm : G<=maxLen:=by rw [hG]; exact grownCap_le_maxLen w N1 n 83 (by unfold maxLen; omega)
 have hG63 : (G : Int)<=9223372036854775807:=by unfold maxLen at hGm; omega
 obtain ⟨B,hB⟩ : ∃ B,B=w.heap.size:=⟨_,rfl⟩
 obtain ⟨ROW,hROW⟩ : ∃ ROW : Array Value,ROW=(xs.take (i * 4)).toArray ++ Builtin.zeroCells (Value.agg #[.slice none 0 0,.slice none 0 0,.int .i64 0,.int .i64 0]).cells M ++ Builtin.zeroCells (Value.agg #[.slice none 0 0,.slice none 0 0,.int .i64 0,.int .i64 0]).cells (G - N1):=⟨_,rfl⟩
 have hRs : ROW.size=G * 4:=by
   rw [hROW]
   simp only [Array.size_append,List.size_toArray,List.length_take,size_zeroCells,hxs]
   show min (i * 4) (n * 4) + M * 4 + (G - N1) * 4=G * 4
   omega
 obtain ⟨W1,hW1⟩ : ∃ W1,W1=w.drew.alloc (.cells ROW 83):=⟨_,rfl⟩
 have hcellx : ∀ j v,xs[j]?=some v->w.cell? ⟨g0,j,none⟩=some v:=fun j v hj => by
   rw [(show Blk w g0 83 cur from hrow).cell]
   have hj2:=(List.getElem?_eq_some_iff.1 hj).1
   rw [<- hti,List.getElem?_take,if_pos (by omega)] at hj
   simpa using hj
 have hold : (Builtin.firstCells i0.size i (.slice (some ⟨g0,0,none⟩) i n)).run Tryz.prog w.drew=.ok (xs.take (i * 4)).toArray w.drew:=by
   rw [hz1]
   exact run_firstCells_some w.drew 4 i ⟨g0,0,none⟩ i n (xs.take (i * 4)) (by rw [List.length_take,hxs]; omega) (fun j v hj => by
     rw [Addr.add_lit]
     rw [List.getElem?_take] at hj
     split at hj
     · simpa using hcellx j v hj
     · cases hj)
 have hrz : ∀ ty,(Builtin.append_ #[87,3] ty #[.slice (some ⟨g0,0,none⟩) i n,.int .i64 (M : Int)]).run Tryz.prog w=.ok (.slice (some ⟨B,0,none⟩) N1 G) W1:=fun ty => by
   have h:=Lib.run_append_grow_zeros w 87 3 ty 83 i0 _ .i64 .i64 Tryz.underlying87 Tryz.underlying3 hi0 hz0 (some ⟨g0,0,none⟩) i n (xs.take (i * 4)) hold M (by omega) (by omega) (by omega) (by omega) (by rw [hz2]; omega) (by rw [hz2]; exact growslice_fits (by omega) (by omega))
   have e : i + M=N1:=by omega
   rw [e,<- hG,<- hROW,<- hW1,<- hB] at h
   exact h
 have hb1 : Blk W1 B 83 ROW:=by rw [hW1,hB]; exact heap_alloc_new w.drew _
 have hbx : ∀ k ob,w.heap[k]?=some ob->W1.heap[k]?=some ob:=fun k ob h => by
   have hk : k < w.heap.size:=by
     rcases Nat.lt_or_ge k w.heap.size with h2 | h2
     · exact h2
     · rw [Array.getElem?_eq_none h2] at h; cases h
   rw [hW1]; exact (Below.heap_alloc w.drew _ k hk).trans h
 have hbg1 : Blk W1 g 83 #[x0,x1,x2,x3]:=hbx g _ hb
 have hrow1 : Blk W1 g0 83 cur:=hbx g0 _ hrow
 have hgB : g ≠ B:=by omega
 have hg0B : g0 ≠ B:=by omega
 have hmin1 : Nat.min 1 (N1 - i)=1:=by show min 1 (N1 - i)=1; omega
 obtain ⟨C1,hC1⟩ : ∃ C1,C1=(ROW.toList.take (i * 4) ++ ([x0,x1,x2,x3] ++ ROW.toList.drop (i * 4 + [x0,x1,x2,x3].length))).toArray:=⟨_,rfl⟩
 have hcp1:=run_copy_row4 W1 3 B (i * 4) (N1 - i) (G - i) ⟨g,0,none⟩ 1 1 ROW [x0,x1,x2,x3] hb1 (by rw [hmin1]; rfl) (fun j v hj => by
   rw [Addr.add_lit,Nat.zero_add,hbg1.cell]
   simpa using hj) (by rw [hRs]; simp; omega) h1
 rw [<- hC1,hmin1] at hcp1
 have hC1s : C1.size=G * 4:=by rw [hC1]; simp [hRs]; omega
 obtain ⟨W2,hW2⟩ : ∃ W2,W2=W1.setRow B C1:=⟨_,rfl⟩
 rw [<- hW2] at hcp1
 have hb2 : Blk W2 B 83 C1:=by rw [hW2]; exact setRow_heap W1 B ROW C1 83 (0,0) hb1
 have hrow2 : Blk W2 g0 83 cur:=by rw [hW2]; exact (setRow_other W1 B g0 C1 hg0B).trans hrow1
 have hdl : (xs.drop (i * 4)).length=(n - i) * 4:=by rw [List.length_drop,hxs]; omega
 have hmin2 : Nat.min (n - i) (N1 - J)=n - i:=by show min (n - i) (N1 - J)=n - i; omega
 obtain ⟨C2,hC2⟩ : ∃ C2,C2=(C1.toList.take (J * 4) ++ (xs.drop (i * 4) ++ C1.toList.drop (J * 4 + (xs.drop (i * 4)).length))).toArray:=⟨_,rfl⟩
 have hcp2:=run_copy_row4 W2.drew 3 B (J * 4) (N1 - J) (G - J) ⟨g0,i * 4,none⟩ (n - i) (n - i) C1 (xs.drop (i * 4)) hb2 (by rw [hmin2,hdl]) (fun j v hj => by
   rw [Addr.add_lit]
   have h3 : W2.drew.cell? ⟨g0,i * 4 + j,none⟩=W2.cell? ⟨g0,i * 4 + j,none⟩:=rfl
   rw [h3,hrow2.cell,<- (show Blk w g0 83 cur from hrow).cell]
   rw [List.getElem?_drop] at hj
   exact hcellx _ _ hj) (by rw [hdl,hC1s]; omega) (fun v hv => h1x v (List.mem_of_mem_drop hv))
 rw [<- hC2,hmin2] at hcp2
 have hfin : Hid (InsRet w base (some g0) n (insCells xs i [x0,x1,x2,x3]) (.returned (.slice (some ⟨B,0,none⟩) N1 G)) (W2.drew.setRow B C2)):=hide (by
   have hC2s : C2.size=G * 4:=by rw [hC2]; simp [hdl,hC1s]; omega
   have hRt : ROW.toList.take (i * 4)=xs.take (i * 4):=by
     rw [hROW]
     simp only [Array.toList_append,List.append_assoc]
     exact List.take_left' (by rw [List.length_take,hxs]; omega)
   have hll:=insg_lists ROW.toList xs [x0,x1,x2,x3] n i hRt (by simp [hRs]; omega) hxs hi rfl
   refine ⟨_,rfl,?_,⟨by rw [hW2,hW1]; rfl,by rw [hW2,hW1]; rfl,by rw [hW2,hW1]; rfl,by rw [hW2,hW1]; simp [World.setRow],fun k hk hkk => ?_⟩,fun k hk => by
     have e9 : B=k:=by injection hk
     exact .inr (by omega)⟩
   · rw [hN1]
     refine ⟨?_,.inr ⟨B,G,C2,rfl,by omega,setRow_heap W2.drew B C1 C2 83 (0,0) hb2,by omega,hGm,hC2s,?_⟩⟩
     · unfold insCells; simp [hdl,hxs]; omega
     · rw [hC2, hC1, hJ]
       exact hll
   · have hk0 : k ≠ B := by omega
     rw [setRow_other W2.drew B k C2 hk0,show W2.drew.heap=W2.heap from rfl,hW2,setRow_other W1 B k C1 hk0,hW1]
     exact Below.heap_alloc w.drew _ k (show k < w.heap.size by omega))
 have hGi : ¬ G=i:=by omega
 have hGj : ¬ G=J:=by omega
 have hni : ¬ n=i:=by omega
 clear h1 h1x hold hcellx hbx
 replace hcp1 : Hid _:=hide hcp1
 replace hcp2 : Hid _:=hide hcp2
 replace hb1:=hide hb1
 replace hb2:=hide hb2
 replace hbg1:=hide hbg1
 replace hrow1:=hide hrow1
 replace hrow2:=hide hrow2
 replace hC1:=hide hC1
 replace hC2:=hide hC2
 replace hC1s:=hide hC1s
 replace hmin1:=hide hmin1
 replace hmin2:=hide hmin2
 replace hdl:=hide hdl
 replace hN1:=hide hN1
 replace hJ:=hide hJ
 replace hM:=hide hM
 replace hG:=hide hG
 replace hB:=hide hB
 replace hW1:=hide hW1
 replace hW2:=hide hW2
 replace hROW:=hide hROW
 replace hRs:=hide hRs
 replace hrow:=hide hrow
 replace hb:=hide hb
 replace hti:=hide hti
 replace hxs:=hide hxs
 clear hi0 hz0 hz1 hz2
 go_enter Tryz.func40,Tryz.ntmps40
 go_wp2_with (at_builtin; refine Lib.wpList_append_run _ rfl _ _ _ _ rfl _ _ rfl rfl _ _ (hrz _) ?_)
 rw [hcp1.out]
 go_wp2
 go_region_law (refine wp_copy_runI _ (.tmp 50) (.tmp 53) 87 87 rfl (.slice (some ⟨B,J * 4,none⟩) (N1 - J) (G - J)) (.slice (some ⟨g0,i * 4,none⟩) (n - i) (n - i)) (by simp [Act.eval,Act.put]) (by simp [Act.eval,Act.put]) hcp2.out ?_)
 go_wp2
 all_goals
   go_ret
   exact hfin.out
theorem ins_any (w : World) (base : Nat) (v : Value) (n i : Nat) (xs : List Value) (hown : w.ownsRow base 83 4 v n xs) (hi : i<=n) (hbase : base<=w.heap.size) (h1x : ∀ u ∈ xs,u.oneCell'=true)
   (g : Nat) (hgb : g < base \/ v.ownBlock ≠ some g) (x0 x1 x2 x3 : Value) (h1 : ∀ u ∈ [x0,x1,x2,x3],u.oneCell'=true) (hb : Blk w g 83 #[x0,x1,x2,x3]) (hn : n<=100000) :
   Calls Tryz.prog 40 #[v,.int .i64 (i : Int),.slice (some ⟨g,0,none⟩) 1 1] w (InsRet w base v.ownBlock n (insCells xs i [x0,x1,x2,x3])):=by
 have hxs:=hown.1
 by_cases hin : i=n
 · subst hin
   have h:=ins_end w base v i xs hown g x0 x1 x2 x3 h1 hb hn hbase
   have e : insCells xs i [x0,x1,x2,x3]=xs ++ [x0,x1,x2,x3]:=by
     unfold insCells
     rw [List.take_of_length_le (by omega),List.drop_of_length_le (by omega),List.append_nil]
   rw [e]; exact h
 · rcases hown.2 with ⟨rfl, rfl⟩ | ⟨g0, cap, cur, rfl, hbg, hg, hnc, hcm, hcs, htake⟩
   · simp at hxs; omega
   · have hne : g ≠ g0:=by
       rcases hgb with h | h
       · omega
       · intro e; exact h (by rw [e]; rfl)
     by_cases hroom : n + 1<=cap
     · exact ins_room w base g0 cap n i xs cur hbg hg hcs hxs htake (by omega) hroom hcm g hne x0 x1 x2 x3 h1 h1x hb hn
     · obtain rfl : cap = n := by omega
       exact ins_grow w base g0 cap i xs cur hbase hg hxs htake (by omega) g x0 x1 x2 x3 h1 h1x hb hn
def byteOf (F : Nat->Prop) (w : World) (k : Nat) : Prop:=Mine F w k/\∃ cs,Blk w k 5 cs
def CellsW (F : Nat->Prop) (w : World) (rows : List (List Value)) (cs : List CellP) : Prop:=∀ (k : Nat) (vs : List Value) (c : CellP),rows[k]?=some vs->cs[k]?=some c->CellV (byteOf F w) w vs c
structure NodeW (F : Nat->Prop) (w : World) (B : Nat) (cv kv : Value) (n : NodeP) : Prop where
 rows : ∃ rows : List (List Value),rows.length=n.cells.length/\w.ownsRow B 83 4 cv n.cells.length rows.flatten/\CellsW F w rows n.cells
 kids : w.ownsRow B 3 1 kv n.kids.length (n.kids.map encI)
 above : ∀ j,F j->j < B
section
variable {F F' S : Nat->Prop} {w w' : World} {B : Nat} {cv kv : Value} {n : NodeP} {rows : List (List Value)} {cs : List CellP}
theorem NodeOwn.toW (h : NodeOwn w B cv kv n) (hF : ∀ j,F j->j < B) : NodeW F w B cv kv n:=by
 obtain ⟨rows,h1,h2,h3⟩:=h.rows
 exact ⟨⟨rows,h1,h2,fun k vs c e1 e2 => (h3 k vs c e1 e2).mono fun j hj => ⟨⟨Blk.lt hj.2.choose_spec,fun hf => by have:=hF j hf; have:=hj.1; omega⟩,hj.2⟩⟩,h.kids,hF⟩
theorem CellV.keepW {vs : List Value} {c : CellP} (h : CellV (byteOf F w) w vs c) (hO : Only S w w') (hS : ∀ k cs,S k->¬ Blk w k 5 cs) : CellV (byteOf F w') w' vs c :=
 h.keep fun j hj => by
   obtain ⟨⟨h1,h2⟩,bs,hb⟩:=hj
   have hb' : Blk w' j 5 bs:=hO.blk hb fun hs => hS _ _ hs hb
   exact ⟨⟨⟨Blk.lt hb',h2⟩,bs,hb'⟩,Eq.trans hb' hb.symm⟩
theorem CellsW.keepW (h : CellsW F w rows cs) (hO : Only S w w') (hS : ∀ k cs,S k->¬ Blk w k 5 cs) : CellsW F w' rows cs:=fun k vs c e1 e2 => (h k vs c e1 e2).keepW hO hS
theorem CellsW.one (h : CellsW F w rows cs) (hl : rows.length=cs.length) : ∀ u ∈ rows.flatten,u.oneCell'=true:=by
 intro u hu
 obtain ⟨vs,hvs,huv⟩:=List.mem_flatten.1 hu
 obtain ⟨k,hk,e⟩:=List.getElem_of_mem hvs
 obtain ⟨kA,kc,vA,vc,e2,_⟩:=h k vs cs[k] (by rw [List.getElem?_eq_getElem hk,e]) (List.getElem?_eq_getElem (by omega))
 subst e2
 simp at huv
 rcases huv with rfl | rfl | rfl | rfl <;> rfl
theorem CellsW.four (h : CellsW F w rows cs) (hl : rows.length=cs.length) : ∀ r ∈ rows,r.length=4:=by
 intro r hr
 obtain ⟨k,hk,e⟩:=List.getElem_of_mem hr
 obtain ⟨kA,kc,vA,vc,e2,_⟩:=h k r cs[k] (by rw [List.getElem?_eq_getElem hk,e]) (List.getElem?_eq_getElem (by omega))
 rw [e2]; rfl
theorem flatten_take4 : ∀ (rows : List (List Value)) (i : Nat),(∀ r ∈ rows,r.length=4)->(rows.take i).flatten=rows.flatten.take (i * 4)/\(rows.drop i).flatten=rows.flatten.drop (i * 4)
 | [],i,_ => by simp
 | r :: t,0,_ => by simp
 | r :: t, i + 1, h => by
   have hr : r.length=4:=h r (.head _)
   obtain ⟨h1,h2⟩:=flatten_take4 t i fun x hx => h x (.tail _ hx)
   have e : (i + 1) * 4=r.length + i * 4:=by omega
   constructor
   · rw [List.take_succ_cons,List.flatten_cons,List.flatten_cons,h1,e,List.take_length_add_append]
   · rw [List.drop_succ_cons,List.flatten_cons,h2,e,List.drop_length_add_append]
theorem ins_flat (rows : List (List Value)) (i : Nat) (vs : List Value) (h4 : ∀ r ∈ rows,r.length=4) : (insAt rows i vs).flatten=insCells rows.flatten i vs:=by
 obtain ⟨h1,h2⟩:=flatten_take4 rows i h4
 unfold insAt insCells
 rw [List.flatten_append,List.flatten_cons,h1,h2]
theorem insAt_at {α : Type} (l : List α) (i : Nat) (x : α) (hi : i<=l.length) (k : Nat) : (insAt l i x)[k]?=if k < i then l[k]? else if k=i then some x else l[k - 1]?:=by
 unfold insAt
 have hl : (l.take i).length=i:=by rw [List.length_take]; omega
 by_cases h1 : k < i
 · rw [if_pos h1,List.getElem?_append_left (by omega),List.getElem?_take,if_pos h1]
 · rw [if_neg h1, List.getElem?_append_right (by omega), hl]
   by_cases h2 : k=i
   · rw [if_pos h2,h2,Nat.sub_self]; rfl
   · rw [if_neg h2,show k - i=(k - i - 1) + 1 from by omega,List.getElem?_cons_succ,List.getElem?_drop,show i + (k - i - 1)=k - 1 from by omega]
theorem insAt_len {α : Type} (l : List α) (i : Nat) (x : α) (hi : i<=l.length) : (insAt l i x).length=l.length + 1:=by
 unfold insAt; simp; omega
theorem CellsW.ins (h : CellsW F w rows cs) (hl : rows.length=cs.length) {vs : List Value} {c : CellP} (hv : CellV (byteOf F w) w vs c) {i : Nat} (hi : i<=cs.length) : CellsW F w (insAt rows i vs) (insAt cs i c):=by
 intro k vs' c' e1 e2
 rw [insAt_at _ _ _ (by omega)] at e1
 rw [insAt_at _ _ _ hi] at e2
 split at e1
 · rename_i hk
   rw [if_pos hk] at e2
   exact h k vs' c' e1 e2
 · rename_i hk
   rw [if_neg hk] at e2
   split at e1
   · rename_i hk2
     rw [if_pos hk2] at e2
     injection e1 with e1; injection e2 with e2
     subst e1; subst e2; exact hv
   · rename_i hk2
     rw [if_neg hk2] at e2
     exact h _ vs' c' e1 e2
theorem NodeW.only (h : NodeW F w B cv kv n) (hO : Only S w w') (hS : ∀ k,S k->∃ t cs,Blk w k t cs/\t ≠ 5/\t ≠ 83/\t ≠ 3) : NodeW F w' B cv kv n:=by
 obtain ⟨rows,h1,h2,h3⟩:=h.rows
 refine ⟨⟨rows,h1,hO.row h2 fun k hk hs => ?_,h3.keepW hO fun k cs hk hb => ?_⟩,hO.row h.kids fun k hk hs => ?_,h.above⟩
 · obtain ⟨t, cs', hb', _, ht, _⟩ := hS k hs
   exact own_blk_ne h2 hb' (Ne.symm ht) hk
 · obtain ⟨t, cs', hb', ht, _⟩ := hS k hk
   exact Blk.ne_ hb hb' (Ne.symm ht) rfl
 · obtain ⟨t, cs', hb', _, _, ht⟩ := hS k hs
   exact own_blk_ne h.kids hb' (Ne.symm ht) hk
theorem NodeW.nodeM (h : NodeW F w B cv kv n) : NodeM (Mine F w) w (.agg #[.bool n.leaf,cv,kv]) n:=by
 obtain ⟨rows,h1,h2,h3⟩:=h.rows
 have hk:=h.kids
 have hsl : ∀ {e : TypeId} {size m : Nat} {v : Value} {xs : List Value},w.ownsRow B e size v m xs->∃ A c,v=.slice A m c/\m<=c:=by
   intro e size m v xs h
   rcases h.2 with ⟨rfl,rfl⟩ | ⟨g,cap,cur,rfl,_,_,h3,_⟩
   · exact ⟨none,0,rfl,Nat.le_refl _⟩
   · exact ⟨_,_,rfl,h3⟩
 obtain ⟨A,c,rfl,hc⟩:=hsl h2
 obtain ⟨A',d,rfl,hd⟩:=hsl hk
 have hG : ∀ k,B<=k->k < w.heap.size->Mine F w k:=fun k hb hl => ⟨hl,fun hf => by have:=h.above k hf; omega⟩
 exact ⟨A,c,A',d,rfl,hc,hd,⟨rows,h1,Rd.of_own h2 hG,fun k vs x e1 e2 => (h3 k vs x e1 e2).mono fun j hj => hj.1⟩,Rd.of_own hk hG⟩
theorem NodeW.ins (h : NodeW F w B cv kv n) {cv' : Value} {i : Nat} {c : CellP} {vs : List Value} (hg : w.grownBy w' cv.ownBlock) (hi : i<=n.cells.length) (rows : List (List Value)) (h1 : rows.length=n.cells.length)
   (h2 : w.ownsRow B 83 4 cv n.cells.length rows.flatten) (h3 : CellsW F w rows n.cells) (hv : CellV (byteOf F w) w vs c) (hown : w'.ownsRow B 83 4 cv' (n.cells.length + 1) (insCells rows.flatten i vs)) :
   NodeW F w' B cv' kv ⟨n.leaf,insAt n.cells i c,n.kids⟩:=by
 have hO : Only (fun j => cv.ownBlock=some j) w w':=(Only.refl _ w).grown hg (fun k hk _ => hk)
 refine ⟨⟨insAt rows i vs,by rw [insAt_len _ _ _ (by omega),insAt_len _ _ _ hi,h1],?_,(h3.ins h1 hv hi).keepW hO fun k cs hk hb => own_blk_ne h2 hb (by decide) hk⟩,hO.row h.kids fun k hk => own_ne h.kids h2 (by decide) k hk,h.above⟩
 show w'.ownsRow B 83 4 cv' (insAt n.cells i c).length _
 rw [insAt_len _ _ _ hi,ins_flat _ _ _ (h3.four h1)]
 exact hown
end
theorem slice3_run (t e : TypeId) (sz : Nat) (ht : Tryz.prog.underlying t=some (.slice e)) (hs : (Tryz.prog.info? e).map (·.size)=some sz) (A : Option Addr) (N c a b : Nat) (hab : a<=b) (hb : b<=c) (wx : World) :
   (Instr.slice t (.slice A N c) (some (.int .i64 (a : Int))) (some (.int .i64 (b : Int))) (some (.int .i64 (b : Int)))).run Tryz.prog wx=.ok (.slice (if b=a then A else A.map (·.add (a * sz))) (b - a) (b - a)) wx:=by
 have h1 : (0 : Int)<=(b : Int)/\(b : Int)<=(c : Int):=by omega
 have h2 : (0 : Int)<=(b : Int)/\(b : Int)<=(b : Int):=by omega
 have h3 : (0 : Int)<=(a : Int)/\(a : Int)<=(b : Int):=by omega
 cases hq : Tryz.prog.info? e with
 | none => simp [hq] at hs
 | some i =>
   have hs2 : i.size=sz:=by simpa [hq] using hs
   simp [Instr.slice,Sem.run_bind,run_underlying ht,Instr.sliceBounds,Instr.sliceBound,asIntOf,sizeOf,typeInfo,hq,hs2,h1,h3,hb,hab,go_sem]
def PartRet (w : World) (G : Nat->Prop) (n : NodeP) (e : Ending) (w' : World) : Prop :=
 ∃ A c B d,e=.returned (.agg #[.bool n.leaf,.slice A n.cells.length c,.slice B n.kids.length d])/\NodeM G w' (.agg #[.bool n.leaf,.slice A n.cells.length c,.slice B n.kids.length d]) n/\Below w.heap.size w w'
theorem CellsM.slice {G : Nat->Prop} {w : World} {A : Option Addr} {cs : List CellP} (h : CellsM G w A cs) {a b : Nat} (hab : a<=b) (hb : b<=cs.length) : CellsM G w (if b=a then A else A.map (·.add (a * 4))) ((cs.drop a).take (b - a)):=by
 obtain ⟨rows,h1,h2,h3⟩:=h
 have h4:=CellsM.rows4 h1 h3
 have e1 : ((rows.drop a).take (b - a)).length=((cs.drop a).take (b - a)).length:=by simp [h1]
 have hl : ((cs.drop a).take (b - a)).length=b - a:=by simp; omega
 refine ⟨(rows.drop a).take (b - a),e1,?_,fun k vs c q1 q2 => ?_⟩
 · have r1 := (h2.take hb).cut (k := a) (cap := b) hab (Nat.le_refl _)
   rw [hl]
   have e2 : ((rows.drop a).take (b - a)).flatten=((rows.flatten.take (b * 4)).drop (a * 4)):=by
     rw [<- List.drop_take,(flatten_take4 (rows.take b) a (fun r hr => h4 r (List.mem_of_mem_take hr))).2,(flatten_take4 rows b h4).1]
   rw [e2]; exact r1
 · have q3 := (List.getElem?_eq_some_iff.1 q1).1
   have q4 : k < b - a:=by simp at q3; omega
   rw [List.getElem?_take,if_pos q4,List.getElem?_drop] at q1 q2
   exact h3 _ _ _ q1 q2
theorem Rd.slice1 {G : Nat->Prop} {w : World} {A : Option Addr} {n : Nat} {xs : List Value} (h : Rd G w 1 A n xs) {a b : Nat} (hab : a<=b) (hb : b<=n) : Rd G w 1 (if b=a then A else A.map (·.add (a * 1))) (b - a) ((xs.drop a).take (b - a)):=by
 have r1:=(h.take hb).cut (k:=a) (cap:=b) hab (Nat.le_refl _)
 rw [Nat.mul_one,Nat.mul_one] at r1
 rw [<- List.drop_take,Nat.mul_one]
 exact r1
theorem cell_size4 : (Tryz.prog.info? 83).map (·.size)=some 4:=by kernel_rfl
theorem int_size1 : (Tryz.prog.info? 3).map (·.size)=some 1:=by kernel_rfl
set_option maxHeartbeats 1000000 in
theorem part_any (w : World) (G : Nat->Prop) (v : Value) (n : NodeP) (h : NodeM G w v n) (hG : ∀ k,G k->k < w.heap.size) (a b : Nat) (hab : a<=b) (hb : b<=n.cells.length) (hk : n.leaf=false->n.kids.length=n.cells.length + 1) (hmany : n.cells.length<=65536) :
   Calls Tryz.prog 149 #[v,.int .i64 (a : Int),.int .i64 (b : Int)] w (PartRet w G (partP n a b)):=by
 obtain ⟨A,c,B,d,rfl,hc,hd,hcs,hks⟩:=h
 obtain ⟨N,hN⟩ : ∃ N,N=n.cells.length:=⟨_,rfl⟩
 obtain ⟨K,hK⟩ : ∃ K,K=n.kids.length:=⟨_,rfl⟩
 obtain ⟨lf,hlf⟩ : ∃ lf,lf=n.leaf:=⟨_,rfl⟩
 obtain ⟨A1,hA1⟩ : ∃ A1,A1=(if b=a then A else A.map (·.add (a * 4))):=⟨_,rfl⟩
 obtain ⟨B1,hB1⟩ : ∃ B1,B1=(if b + 1=a then B else B.map (·.add (a * 1))):=⟨_,rfl⟩
 have s1:=fun wx => slice3_run 87 83 4 Tryz.underlying87 cell_size4 A N c a b hab (by omega) wx
 rw [<- hA1] at s1
 have hm1 : CellsM G w A1 (partP n a b).cells:=by rw [hA1]; exact hcs.slice hab hb
 rw [<- hN,<- hK,<- hlf]
 rw [<- hN] at hb hc hmany hk
 rw [<- hK] at hd hk
 rw [<- hlf] at hk
 have hN1 : (partP n a b).cells.length=b - a:=by simp [partP]; omega
 have hfin : ∀ (W : World) (B2 : Option Addr) (d2 M : Nat),Below w.heap.size w W->M=(partP n a b).kids.length->M<=d2->Rd G w 1 B2 M ((partP n a b).kids.map encI)->PartRet w G (partP n a b) (.returned (.agg #[.bool lf,.slice A1 (b - a) (b - a),.slice B2 M d2])) W:=by
   intro W B2 d2 M hB hM hle hrd
   have e1 : lf=(partP n a b).leaf:=hlf
   refine ⟨A1,b - a,B2,d2,by rw [hN1,<- hM,<- e1],?_,hB⟩
   rw [hN1,<- hM,<- e1]
   have hkk : ∀ k,G k->G k/\W.heap[k]?=w.heap[k]?:=fun k hk => ⟨hk,hB.block k (hG k hk)⟩
   have hnm : NodeM G w (.agg #[.bool lf,.slice A1 (b - a) (b - a),.slice B2 M d2]) (partP n a b):=⟨A1,b - a,B2,d2,by rw [hN1,<- hM,<- e1],by rw [hN1]; exact Nat.le_refl _,by rw [<- hM]; exact hle,hm1,by rw [<- hM]; exact hrd⟩
   exact hnm.keep hkk
 have haI : (a : Int)<=70000:=by omega
 have hbI : (b : Int)<=70000:=by omega
 have hb0 : (0 : Int)<=(b : Int):=by omega
 have ha0 : (0 : Int)<=(a : Int):=by omega
 replace hm1:=hide hm1
 replace hA1:=hide hA1
 replace hN:=hide hN
 replace hK:=hide hK
 replace hN1:=hide hN1
 replace hcs:=hide hcs
 replace hfin:=hide hfin
 cases lf with
 | true =>
   have hres : Hid (∀ W,Below w.heap.size w W->PartRet w G (partP n a b) (.returned (.agg #[.bool true,.slice A1 (b - a) (b - a),.slice none 0 0])) W):=hide fun W hB => hfin.out W none 0 0 hB (by simp [partP,<- hlf]) (Nat.le_refl _) (by simp [partP,<- hlf]; exact Rd.none_)
   replace hks:=hide hks
   replace hlf:=hide hlf
   replace hB1:=hide hB1
   clear hk hd
   go_enter Tryz.func149,Tryz.ntmps149
   go_wp2_with fail
   go_region
   all_goals
     go_wp2_with fail
     refine bodyPost_ret (v:=.agg #[.bool true,.slice A1 (b - a) (b - a),.slice none 0 0]) ?_ rfl (hres.out _ (((((Below.refl w.heap.size w).alloc (Nat.le_refl _) _).alloc (by simp) _).alloc (by simp <;> omega) _).drew))
     have hbf : Blk ((((w.alloc (.cells #[.bool true,.slice A N c,.slice B K d] 89)).alloc (.cells #[.bool true,.slice A1 (b - a) (b - a),.slice none 0 0] 89)).alloc (.cells #[.bool true,.slice A1 (b - a) (b - a),.slice none 0 0] 89)).drew) (w.heap.size + 1) 89 #[.bool true,.slice A1 (b - a) (b - a),.slice none 0 0]:=by
       have q:=Blk.new (w.alloc (.cells #[.bool true,.slice A N c,.slice B K d] 89)) 89 #[.bool true,.slice A1 (b - a) (b - a),.slice none 0 0]
       rw [World.size_alloc] at q
       exact q.alloc _
     obtain ⟨Wf,hWf⟩ : ∃ Wf,Wf=((((w.alloc (.cells #[.bool true,.slice A N c,.slice B K d] 89)).alloc (.cells #[.bool true,.slice A1 (b - a) (b - a),.slice none 0 0] 89)).alloc (.cells #[.bool true,.slice A1 (b - a) (b - a),.slice none 0 0] 89)).drew):=⟨_,rfl⟩
     rw [<- hWf] at hbf ⊢
     have j0 : Wf.cell? ⟨w.heap.size + 1,0,none⟩=some (.bool true):=hbf.cell 0
     have j1 : Wf.cell? ⟨w.heap.size + 1,1,none⟩=some (.slice A1 (b - a) (b - a)):=hbf.cell 1
     have j2 : Wf.cell? ⟨w.heap.size + 1,2,none⟩=some (.slice none 0 0):=hbf.cell 2
     simp [results,Tryz.results149,go_sem,j0,j1,j2]
 | false =>
   have hK1:=hk rfl
   have s2:=fun wx => slice3_run 57 3 1 Tryz.underlying57 int_size1 B K d a (b + 1) (by omega) (by omega) wx
   rw [<- hB1] at s2
   have hbc : ((b + 1 : Nat) : Int)=(b : Int) + 1:=by omega
   rw [hbc] at s2
   have hkn : (partP n a b).kids.length=b + 1 - a:=by simp [partP,<- hlf]; have:=hN.out; have:=hK.out; omega
   have hrd : Rd G w 1 B1 (b + 1 - a) ((partP n a b).kids.map encI):=by
     rw [hB1]
     have h9:=hks.slice1 (a:=a) (b:=b + 1) (by omega) (by have:=hK.out; omega)
     have e9 : (partP n a b).kids.map encI=((n.kids.map encI).drop a).take (b + 1 - a):=by simp [partP,<- hlf,List.map_take,List.map_drop]
     rw [e9]; exact h9
   have hres : Hid (∀ W,Below w.heap.size w W->PartRet w G (partP n a b) (.returned (.agg #[.bool false,.slice A1 (b - a) (b - a),.slice B1 (b + 1 - a) (b + 1 - a)])) W):=hide fun W hB => hfin.out W B1 (b + 1 - a) (b + 1 - a) hB hkn.symm (Nat.le_refl _) hrd
   replace hks:=hide hks
   replace hlf:=hide hlf
   replace hB1:=hide hB1
   replace hrd:=hide hrd
   replace hkn:=hide hkn
   clear hk hd hK1 hbc
   go_enter Tryz.func149,Tryz.ntmps149
   go_wp2_with fail
   go_region
   all_goals
     go_wp2_with fail
     refine bodyPost_ret (v:=.agg #[.bool false,.slice A1 (b - a) (b - a),.slice B1 (b + 1 - a) (b + 1 - a)]) ?_ rfl (hres.out _ (((((Below.refl w.heap.size w).alloc (Nat.le_refl _) _).alloc (by simp) _).alloc (by simp <;> omega) _).drew))
     have hbf : Blk ((((w.alloc (.cells #[.bool false,.slice A N c,.slice B K d] 89)).alloc (.cells #[.bool false,.slice A1 (b - a) (b - a),.slice B1 (b + 1 - a) (b + 1 - a)] 89)).alloc (.cells #[.bool false,.slice A1 (b - a) (b - a),.slice B1 (b + 1 - a) (b + 1 - a)] 89)).drew) (w.heap.size + 1) 89 #[.bool false,.slice A1 (b - a) (b - a),.slice B1 (b + 1 - a) (b + 1 - a)]:=by
       have q:=Blk.new (w.alloc (.cells #[.bool false,.slice A N c,.slice B K d] 89)) 89 #[.bool false,.slice A1 (b - a) (b - a),.slice B1 (b + 1 - a) (b + 1 - a)]
       rw [World.size_alloc] at q
       exact q.alloc _
     obtain ⟨Wf,hWf⟩ : ∃ Wf,Wf=((((w.alloc (.cells #[.bool false,.slice A N c,.slice B K d] 89)).alloc (.cells #[.bool false,.slice A1 (b - a) (b - a),.slice B1 (b + 1 - a) (b + 1 - a)] 89)).alloc (.cells #[.bool false,.slice A1 (b - a) (b - a),.slice B1 (b + 1 - a) (b + 1 - a)] 89)).drew):=⟨_,rfl⟩
     rw [<- hWf] at hbf ⊢
     have j0 : Wf.cell? ⟨w.heap.size + 1,0,none⟩=some (.bool false):=hbf.cell 0
     have j1 : Wf.cell? ⟨w.heap.size + 1,1,none⟩=some (.slice A1 (b - a) (b - a)):=hbf.cell 1
     have j2 : Wf.cell? ⟨w.heap.size + 1,2,none⟩=some (.slice B1 (b + 1 - a) (b + 1 - a)):=hbf.cell 2
     simp [results,Tryz.results149,go_sem,j0,j1,j2]
def RowRet (w : World) (base : Nat) (t : TypeId) (size n : Nat) (xs : List Value) (e : Ending) (w' : World) : Prop :=
 ∃ v',e=.returned v'/\w'.ownsRow base t size v' n xs/\Below w.heap.size w w'
def DelRet (w : World) (base : Nat) (t : TypeId) (size : Nat) (v : Value) (n : Nat) (ys : List Value) (e : Ending) (w' : World) : Prop :=
 ∃ v',e=.returned v'/\w'.ownsRow base t size v' n ys/\w.grownBy w' v.ownBlock/\v'.ownBlock=v.ownBlock
theorem Reads.nil_ {w : World} {B size n : Nat} {xs : List Value} (h : Reads w B size none n xs) : n=0/\xs=[]:=by
 have h0 : n=0:=by
   rcases Nat.eq_zero_or_pos n with h0 | h0
   · exact h0
   · obtain ⟨ad,e,_⟩:=h.2 h0; cases e
 subst h0
 exact ⟨rfl,List.eq_nil_of_length_eq_zero (by rw [h.1]; omega)⟩
theorem Reads.cells_ {w : World} {B size n : Nat} {ad : Addr} {xs : List Value} (h : Reads w B size (some ad) n xs) : ∀ j u,xs[j]?=some u->w.cell? (ad.add j)=some u:=fun j u hj => by
 have h0 : 0 < n:=by
   rcases Nat.eq_zero_or_pos n with h0 | h0
   · subst h0
     have:=h.1
     rw [Nat.zero_mul] at this
     rw [List.eq_nil_of_length_eq_zero this] at hj
     cases hj
   · exact h0
 obtain ⟨ad',e,_,hc⟩:=h.2 h0
 injection e with e
 subst e
 exact hc j u hj
def cells_at (cur : Array Value) (o : Nat) (vs : List Value) : Array Value:=(cur.toList.take o ++ (vs ++ cur.toList.drop (o + vs.length))).toArray
theorem cells_at_size (cur : Array Value) (o : Nat) (vs : List Value) (h : o + vs.length<=cur.size) : (cells_at cur o vs).size=cur.size:=by
 unfold cells_at
 simp
 omega
theorem Blk.setCells_at {g : Nat} {t : TypeId} : ∀ (vs : List Value) {w : World} {cur : Array Value} (h : Blk w g t cur) (o : Nat),o + vs.length<=cur.size->Blk (w.setCells g o vs) g t (cells_at cur o vs)
 | [], w, cur, h, o, _ => by
   have e : cells_at cur o []=cur:=by unfold cells_at; simp
   rw [e]; exact h
 | v :: r, w, cur, h, o, hl => by
   rw [List.length_cons] at hl
   have h1:=Blk.setCells_at r (h.set_ o v) (o + 1) (by simp; omega)
   have e : cells_at (cur.setIfInBounds o v) (o + 1) r=cells_at cur o (v :: r):=by
     unfold cells_at
     congr 1
     rw [Array.toList_setIfInBounds]
     have e1 : (cur.toList.set o v).take (o + 1)=cur.toList.take o ++ [v]:=by
       rw [List.take_succ_eq_append_getElem (by simp; omega),List.take_set_of_le (Nat.le_refl _)]
       simp
     have e2 : (cur.toList.set o v).drop (o + 1 + r.length)=cur.toList.drop (o + (v :: r).length):=by
       rw [List.drop_set_of_lt (by omega),List.length_cons]
       congr 1
       omega
     rw [e1,e2]
     simp
   rw [e] at h1
   exact h1
theorem sCells_only {g : Nat} {a : World} : ∀ (vs : List Value) (o : Nat) (w : World),Only (fun j => j=g) a w->Only (fun j => j=g) a (w.setCells g o vs)
 | [],_,_,h => h
 | v :: r,o,w,h => sCells_only r (o + 1) _ (h.setCell (p:=⟨g,o,none⟩) (fun _ => rfl) v)
theorem Only.grown_ {g : Nat} {w w' : World} (h : Only (fun j => j=g) w w') : w.grownBy w' (some g) :=
 ⟨h.os,h.tape,h.output,h.size,fun k hk hne => h.block k hk fun e => hne (by rw [e])⟩
theorem run_app_rowC (w : World) (base : Nat) (v : Value) (m : Nat) (xs : List Value) (hown : w.ownsRow base 83 4 v m xs) (B : Nat) (A : Option Addr) (k c : Nat) (news : List Value) (hr : Reads w B 4 A k news) (h1 : ∀ u ∈ news,u.oneCell'=true) (ty : TypeId) (hlen : m + k<=1000000) (hbase : base<=w.heap.size) :
   ∃ v' w',(Builtin.append_ #[87,87] ty #[v,.slice A k c]).run Tryz.prog w=.ok v' w'/\w'.ownsRow base 83 4 v' (m + k) (xs ++ news)/\w.grownBy w' v.ownBlock/\(v'.ownBlock=v.ownBlock \/ v'.ownBlock=some w.heap.size):=by
 obtain ⟨i0,hi0,hz0,hz1,hz2⟩:=info_parts cell_info
 exact run_append_any (P:=Tryz.prog) w base 87 ty 83 i0 _ 4 64 Tryz.underlying87 hi0 hz0 hz1 hz2 rfl (by omega) v m xs hown B A k c news hr h1 (by simp only [maxLen]; omega) (by omega) hbase
set_option maxHeartbeats 1000000 in
theorem cloneC_any (w : World) (A : Option Addr) (n c : Nat) (xs : List Value) (h : Reads w w.heap.size 4 A n xs) (h1 : ∀ u ∈ xs,u.oneCell'=true) (hn : n<=100000) :
   Calls Tryz.prog 124 #[.slice A n c] w (RowRet w w.heap.size 83 4 n xs):=by
 have hnil:=fun wx => Lib.run_eql_slice_nil (P:=Tryz.prog) wx 87 83 A n c 0 0 Tryz.underlying87
 rcases A with _ | ad
 · obtain ⟨rfl, rfl⟩ := Reads.nil_ h
   clear h
   go_enter Tryz.func124,Tryz.ntmps124
   go_wp2
   go_ret
   exact ⟨_,rfl,⟨rfl,.inl ⟨rfl,rfl⟩⟩,Below.refl _ _⟩
 · obtain ⟨i0, hi0, hz0, hz1, hz2⟩ := info_parts cell_info
   have hl:=hide h.1
   have hc:=hide (Reads.cells_ h)
   have h1' : Hid (∀ u ∈ xs,u.oneCell'=true):=hide h1
   replace hi0:=hide hi0
   replace hz0:=hide hz0
   replace hz1:=hide hz1
   replace hz2:=hide hz2
   clear h h1
   go_enter Tryz.func124,Tryz.ntmps124
   go_wp2_with (at_builtin; refine wpList_append_own _ rfl _ _ 87 rfl w.heap.size 83 i0 _ 4 64 Tryz.underlying87 hi0.out hz0.out hz1.out hz2.out rfl (by decide) _ _ _ rfl (World.ownsRow_made w #[] 0 (Nat.le_refl _) (Nat.zero_le _) (by simp)) ad n c xs rfl ?qc1 ?qc2 ?qc3 ?qc4 ?qc5 ?qc6 ?_)
   case qc1 => exact hl.out
   case qc2 => exact fun j u hj => Lib.cell?_alloc_some _ (hc.out j u hj)
   case qc3 => exact h1'.out
   case qc4 => simp only [maxLen]; omega
   case qc5 => omega
   case qc6 => simp
   intro v' w1 hown hgrow hnil
   go_wp2
   go_ret
   exact ⟨v',rfl,by simpa using hown,((Below.refl _ w).alloc (Nat.le_refl _) _).grown hgrow (by simp) (by intro k hk; simp [Value.ownBlock] at hk; omega)⟩
theorem run_clearC (w : World) (ty : TypeId) (b o c : Nat) (hc : ∀ j,j < 4->(w.cell? ⟨b,o + j,none⟩).isSome=true) (hf : ∀ j,j < 4->w.frozen? ⟨b,o + j,none⟩=false) :
   (Builtin.clear_ #[87] ty #[.slice (some ⟨b,o,none⟩) 1 c]).run Tryz.prog w=.ok (.tuple #[]) (w.setCells b o [.slice none 0 0,.slice none 0 0,.int .i64 0,.int .i64 0]):=by
 have hst:=run_storeCells_cells (P:=Tryz.prog) b o [.slice none 0 0,.slice none 0 0,.int .i64 0,.int .i64 0] 0 w (by simpa using hc) (by simpa using hf) (by intro v hv; simp at hv; rcases hv with rfl | rfl | rfl | rfl <;> rfl)
 simp only [Nat.add_zero] at hst
 have hzv : (zeroValue 83).run Tryz.prog w=.ok (.agg #[.slice none 0 0,.slice none 0 0,.int .i64 0,.int .i64 0]) w:=Tryz.zeroValue83 w
 have hzc : (Builtin.zeroCells (Value.agg #[.slice none 0 0,.slice none 0 0,.int .i64 0,.int .i64 0]).cells 1).toList=[.slice none 0 0,.slice none 0 0,.int .i64 0,.int .i64 0]:=by simp [Builtin.zeroCells,Value.cells,List.range_succ]
 simp [Builtin.clear_,run_underlying Tryz.underlying87,hzv,hzc,hst]
set_option maxHeartbeats 4000000 in
theorem delC_any (w : World) (base : Nat) (v : Value) (n i : Nat) (xs : List Value) (hown : w.ownsRow base 83 4 v n xs) (hi : i < n) (h1 : ∀ u ∈ xs,u.oneCell'=true) (hn : n<=100000) :
   Calls Tryz.prog 53 #[v,.int .i64 (i : Int),.int .i64 ((i : Int) + 1)] w (DelRet w base 83 4 v (n - 1) (xs.take (i * 4) ++ xs.drop ((i + 1) * 4))):=by
 obtain ⟨hxl,⟨_,h0⟩ | ⟨g,cap,cur,rfl,hbg,hh,hnc,hcm,hcs,htk⟩⟩:=hown
 · omega
 obtain ⟨j,hj⟩ : ∃ j,j=i + 1:=⟨_,rfl⟩
 have hjI : (i : Int) + 1=(j : Int):=by omega
 rw [hjI]
 have hb : Blk w g 83 cur:=hh
 obtain ⟨news,hnews⟩ : ∃ news,news=xs.drop (j * 4):=⟨_,rfl⟩
 have hnl : news.length=(n - j) * 4:=by rw [hnews,List.length_drop,hxl,Nat.sub_mul]
 have hcell : ∀ q u,xs[q]?=some u->w.cell? ⟨g,q,none⟩=some u:=fun q u hq => by
   rw [hb.cell]
   rw [<- htk,List.getElem?_take] at hq
   split at hq
   · simpa using hq
   · cases hq
 obtain ⟨A,hA,hsrc⟩ : ∃ A : Addr,(if cap=j then some (⟨g,0,none⟩ : Addr) else some ⟨g,j * 4,none⟩)=some A/\Hid (∀ t u,news[t]?=some u->w.drew.cell? (A.add t)=some u):=by
   by_cases h : cap=j
   · refine ⟨⟨g, 0, none⟩, by simp [h], fun t u hu => ?_⟩
     have h0 : news.length = 0 := by rw [hnl]; have : n - j = 0 := by omega
                                     rw [this,Nat.zero_mul]
     rw [List.length_eq_zero_iff.1 h0] at hu
     simp at hu
   · refine ⟨⟨g, j * 4, none⟩, by simp [h], fun t u hu => ?_⟩
     rw [Addr.add_lit]
     rw [hnews,List.getElem?_drop] at hu
     exact hcell _ _ hu
 have s1 : Hid (news.length=(n - j) * 4):=hnl
 have s2 : Hid (∀ u ∈ news,u.oneCell'=true):=fun u hu => h1 u (by rw [hnews] at hu; exact List.mem_of_mem_drop hu)
 have hfz : ∀ q,w.frozen? ⟨g,q,none⟩=false:=fun q => hb.frozen q
 have hsome : ∀ q,q < cap * 4->(w.cell? ⟨g,q,none⟩).isSome=true:=fun q hq => by
   rw [hb.cell,Array.getElem?_eq_getElem (by rw [hcs]; exact hq)]; rfl
 have hij1 : i * 4 + news.length<=cap * 4:=by rw [hnl,<- Nat.add_mul]; exact Nat.mul_le_mul_right _ (by omega)
 have s3 : Hid (∀ t,t < news.length->(w.drew.cell? ⟨g,0 + i * 4 + t,none⟩).isSome=true/\w.drew.frozen? ⟨g,0 + i * 4 + t,none⟩=false):=fun t ht => by
   rw [Nat.zero_add]
   exact ⟨hsome _ (by omega),hfz _⟩
 obtain ⟨W1,hW1⟩ : ∃ W1,W1=w.drew.setCells g (0 + i * 4) news:=⟨_,rfl⟩
 have hb1 : Blk W1 g 83 (cells_at cur (i * 4) news):=by rw [hW1,Nat.zero_add]; exact Blk.setCells_at news (w:=w.drew) hb (i * 4) (by rw [hcs]; exact hij1)
 have hm : i + (n - j)=n - 1:=by omega
 have hcl : ∀ ty,(Builtin.clear_ #[87] ty #[.slice (some ⟨g,0 + (n - 1) * 4,none⟩) 1 (cap - (n - 1))]).run Tryz.prog W1=.ok (.tuple #[]) (W1.setCells g (0 + (n - 1) * 4) [.slice none 0 0,.slice none 0 0,.int .i64 0,.int .i64 0]):=fun ty => by
   rw [Nat.zero_add]
   exact run_clearC W1 ty g ((n - 1) * 4) (cap - (n - 1)) (fun q hq => by
     rw [hb1.cell, Array.getElem?_eq_getElem (by rw [cells_at_size _ _ _ (by rw [hcs]; exact hij1), hcs]; have : (n - 1) * 4 + 4 = n * 4 := by omega
                                                 have h9 : n * 4<=cap * 4:=Nat.mul_le_mul_right _ hnc
                                                 omega)]; rfl) (fun q hq => hb1.frozen _)
 have hend : Hid (DelRet w base 83 4 (.slice (some ⟨g,0,none⟩) n cap) (n - 1) (xs.take (i * 4) ++ xs.drop (j * 4)) (.returned (.slice (some ⟨g,0,none⟩) (n - 1) cap)) (W1.setCells g (0 + (n - 1) * 4) [.slice none 0 0,.slice none 0 0,.int .i64 0,.int .i64 0])):=hide (by
   have hn1 : (n - 1) * 4 + 4=n * 4:=by omega
   have hle : n * 4<=cap * 4:=Nat.mul_le_mul_right _ hnc
   have hsz1 : (cells_at cur (i * 4) news).size=cap * 4:=by rw [cells_at_size _ _ _ (by rw [hcs]; exact hij1),hcs]
   have hb2:=Blk.setCells_at [.slice none 0 0,.slice none 0 0,.int .i64 0,.int .i64 0] hb1 ((n - 1) * 4) (by rw [hsz1]; simp; omega)
   rw [Nat.zero_add]
   have hsum : i * 4 + news.length=(n - 1) * 4:=by rw [hnl,<- Nat.add_mul,hm]
   have hO : Only (fun k => k=g) w (W1.setCells g ((n - 1) * 4) [.slice none 0 0,.slice none 0 0,.int .i64 0,.int .i64 0]):=sCells_only _ _ _ (by rw [hW1]; exact sCells_only _ _ _ (Only.refl _ w).drew)
   refine ⟨_,rfl,⟨?_,.inr ⟨g,cap,_,rfl,hbg,hb2,by omega,hcm,?_,?_⟩⟩,hO.grown_,rfl⟩
   · rw [List.length_append,<- hnews,List.length_take,hxl,Nat.min_eq_left (Nat.mul_le_mul_right _ (by omega))]; exact hsum
   · rw [cells_at_size _ _ _ (by rw [hsz1]; simp; omega),hsz1]
   · have ht1 : (cur.toList.take (i * 4)).length = i * 4 := by rw [List.length_take, Array.length_toList, hcs]; exact Nat.min_eq_left (Nat.mul_le_mul_right _ (by omega))
     have ht2 : cur.toList.take (i * 4)=xs.take (i * 4):=by rw [<- htk,List.take_take,Nat.min_eq_left (Nat.mul_le_mul_right _ (by omega))]
     unfold cells_at
     simp only
     rw [List.take_append_of_le_length (by simp; rw [hcs]; omega),List.take_take,Nat.min_self,<- List.append_assoc,List.take_append_of_le_length (by rw [List.length_append,ht1,hsum]; exact Nat.le_refl _),List.take_of_length_le (by rw [List.length_append,ht1,hsum]; exact Nat.le_refl _),ht2,hnews])
 have hic : i<=cap:=by omega
 have hjc : j<=cap:=by omega
 have hjn : j<=n:=by omega
 have hW : Hid (W1=w.drew.setCells g (0 + i * 4) news):=hW1
 have hone : n - (n - 1)=1:=by omega
 have hcn : ¬ cap=n - 1:=by omega
 have hnI : ((n - 1 : Nat) : Int)<=(n : Int):=by omega
 replace hend:=hide hend.out
 replace hj : Hid _:=hide hj
 replace hjI : Hid _:=hide hjI
 have hijN : ((i : Int) == (j : Int))=false:=by rw [beq_eq_false_iff_ne]; have:=hjI.out; omega
 have hjI2 : (j : Int)<=(n : Int):=by omega
 have hiI2 : (i : Int)<=(j : Int):=by have:=hj.out; omega
 have hncI : (n : Int)<=(cap : Int):=by omega
 obtain ⟨i0,hi0,hz0,hz1,hz2⟩:=info_parts cell_info
 clear hW1 hb1 hb hh hcell hsome hnl hij1 hfz hxl htk hcs h1
 replace hnews : Hid _:=hide hnews
 simp only [Nat.zero_add] at hcl
 go_enter Tryz.func53,Tryz.ntmps53
 go_wp2_with fail
 go_region_law (refine step_append_room rfl (.tmp 22) (.tmp 25) 87 rfl 83 i0 4 Tryz.underlying87 hi0 hz1 g 0 i cap (by simp [Act.eval,Act.put]) A (n - j) (cap - j) news (by simp [Act.eval,Act.put]) s1.out hsrc.out s2.out (by omega) s3.out ?_; rw [<- hW.out])
 all_goals
   go_wp2
   go_ret
   have h9:=hend.out
   rw [hj.out] at h9
   simp only [Nat.zero_add] at h9 ⊢
   exact h9
theorem run_app_rowI (w : World) (base : Nat) (v : Value) (m : Nat) (xs : List Value) (hown : w.ownsRow base 3 1 v m xs) (B : Nat) (A : Option Addr) (k c : Nat) (news : List Value) (hr : Reads w B 1 A k news) (h1 : ∀ u ∈ news,u.oneCell'=true) (ty : TypeId) (hlen : m + k<=1000000) (hbase : base<=w.heap.size) :
   ∃ v' w',(Builtin.append_ #[57,57] ty #[v,.slice A k c]).run Tryz.prog w=.ok v' w'/\w'.ownsRow base 3 1 v' (m + k) (xs ++ news)/\w.grownBy w' v.ownBlock/\(v'.ownBlock=v.ownBlock \/ v'.ownBlock=some w.heap.size):=by
 obtain ⟨i0,hi0,hz0,hz1,hz2⟩:=info_parts int_info
 exact run_append_any (P:=Tryz.prog) w base 57 ty 3 i0 _ 1 8 Tryz.underlying57 hi0 hz0 hz1 hz2 rfl (by omega) v m xs hown B A k c news hr h1 (by simp only [maxLen]; omega) (by omega) hbase
set_option maxHeartbeats 1000000 in
theorem cloneI_any (w : World) (A : Option Addr) (n c : Nat) (xs : List Value) (h : Reads w w.heap.size 1 A n xs) (h1 : ∀ u ∈ xs,u.oneCell'=true) (hn : n<=100000) :
   Calls Tryz.prog 126 #[.slice A n c] w (RowRet w w.heap.size 3 1 n xs):=by
 have hnil:=fun wx => Lib.run_eql_slice_nil (P:=Tryz.prog) wx 57 3 A n c 0 0 Tryz.underlying57
 rcases A with _ | ad
 · obtain ⟨rfl, rfl⟩ := Reads.nil_ h
   clear h
   go_enter Tryz.func126,Tryz.ntmps126
   go_wp2
   go_ret
   exact ⟨_,rfl,⟨rfl,.inl ⟨rfl,rfl⟩⟩,Below.refl _ _⟩
 · obtain ⟨i0, hi0, hz0, hz1, hz2⟩ := info_parts int_info
   have hl:=hide h.1
   have hc:=hide (Reads.cells_ h)
   have h1' : Hid (∀ u ∈ xs,u.oneCell'=true):=hide h1
   replace hi0:=hide hi0
   replace hz0:=hide hz0
   replace hz1:=hide hz1
   replace hz2:=hide hz2
   clear h h1
   go_enter Tryz.func126,Tryz.ntmps126
   go_wp2_with (at_builtin; refine wpList_append_own _ rfl _ _ 57 rfl w.heap.size 3 i0 _ 1 8 Tryz.underlying57 hi0.out hz0.out hz1.out hz2.out rfl (by decide) _ _ _ rfl (World.ownsRow_made w #[] 0 (Nat.le_refl _) (Nat.zero_le _) (by simp)) ad n c xs rfl ?qc1 ?qc2 ?qc3 ?qc4 ?qc5 ?qc6 ?_)
   case qc1 => exact hl.out
   case qc2 => exact fun j u hj => Lib.cell?_alloc_some _ (hc.out j u hj)
   case qc3 => exact h1'.out
   case qc4 => simp only [maxLen]; omega
   case qc5 => omega
   case qc6 => simp
   intro v' w1 hown hgrow hnil
   go_wp2
   go_ret
   exact ⟨v',rfl,by simpa using hown,((Below.refl _ w).alloc (Nat.le_refl _) _).grown hgrow (by simp) (by intro k hk; simp [Value.ownBlock] at hk; omega)⟩
theorem run_clearI (w : World) (ty : TypeId) (b o c : Nat) (hc : ∀ j,j < 1->(w.cell? ⟨b,o + j,none⟩).isSome=true) (hf : ∀ j,j < 1->w.frozen? ⟨b,o + j,none⟩=false) :
   (Builtin.clear_ #[57] ty #[.slice (some ⟨b,o,none⟩) 1 c]).run Tryz.prog w=.ok (.tuple #[]) (w.setCells b o [.int .i64 0]):=by
 have hst:=run_storeCells_cells (P:=Tryz.prog) b o [.int .i64 0] 0 w (by simpa using hc) (by simp) (by intro v hv; simp at hv; subst hv; rfl)
 simp only [Nat.add_zero] at hst
 have hzv : (zeroValue 3).run Tryz.prog w=.ok (.int .i64 0) w:=Tryz.zeroValue3 w
 have hzc : (Builtin.zeroCells (Value.int .i64 0).cells 1).toList=[.int .i64 0]:=by simp [Builtin.zeroCells,Value.cells]
 simp [Builtin.clear_,run_underlying Tryz.underlying57,hzv,hzc,hst]
set_option maxHeartbeats 4000000 in
theorem delI_any (w : World) (base : Nat) (v : Value) (n i : Nat) (xs : List Value) (hown : w.ownsRow base 3 1 v n xs) (hi : i < n) (h1 : ∀ u ∈ xs,u.oneCell'=true) (hn : n<=100000) :
   Calls Tryz.prog 125 #[v,.int .i64 (i : Int),.int .i64 ((i : Int) + 1)] w (DelRet w base 3 1 v (n - 1) (xs.take (i * 1) ++ xs.drop ((i + 1) * 1))):=by
 obtain ⟨hxl,⟨_,h0⟩ | ⟨g,cap,cur,rfl,hbg,hh,hnc,hcm,hcs,htk⟩⟩:=hown
 · omega
 obtain ⟨j,hj⟩ : ∃ j,j=i + 1:=⟨_,rfl⟩
 have hjI : (i : Int) + 1=(j : Int):=by omega
 rw [hjI]
 have hb : Blk w g 3 cur:=hh
 obtain ⟨news,hnews⟩ : ∃ news,news=xs.drop (j * 1):=⟨_,rfl⟩
 have hnl : news.length=(n - j) * 1:=by rw [hnews,List.length_drop,hxl,Nat.sub_mul]
 have hcell : ∀ q u,xs[q]?=some u->w.cell? ⟨g,q,none⟩=some u:=fun q u hq => by
   rw [hb.cell]
   rw [<- htk,List.getElem?_take] at hq
   split at hq
   · simpa using hq
   · cases hq
 obtain ⟨A,hA,hsrc⟩ : ∃ A : Addr,(if cap=j then some (⟨g,0,none⟩ : Addr) else some ⟨g,j * 1,none⟩)=some A/\Hid (∀ t u,news[t]?=some u->w.drew.cell? (A.add t)=some u):=by
   by_cases h : cap=j
   · refine ⟨⟨g, 0, none⟩, by simp [h], fun t u hu => ?_⟩
     have h0 : news.length = 0 := by rw [hnl]; have : n - j = 0 := by omega
                                     rw [this,Nat.zero_mul]
     rw [List.length_eq_zero_iff.1 h0] at hu
     simp at hu
   · refine ⟨⟨g, j * 1, none⟩, by simp [h], fun t u hu => ?_⟩
     rw [Addr.add_lit]
     rw [hnews,List.getElem?_drop] at hu
     exact hcell _ _ hu
 have s1 : Hid (news.length=(n - j) * 1):=hnl
 have s2 : Hid (∀ u ∈ news,u.oneCell'=true):=fun u hu => h1 u (by rw [hnews] at hu; exact List.mem_of_mem_drop hu)
 have hfz : ∀ q,w.frozen? ⟨g,q,none⟩=false:=fun q => hb.frozen q
 have hsome : ∀ q,q < cap * 1->(w.cell? ⟨g,q,none⟩).isSome=true:=fun q hq => by
   rw [hb.cell,Array.getElem?_eq_getElem (by rw [hcs]; exact hq)]; rfl
 have hij1 : i * 1 + news.length<=cap * 1:=by rw [hnl,<- Nat.add_mul]; exact Nat.mul_le_mul_right _ (by omega)
 have s3 : Hid (∀ t,t < news.length->(w.drew.cell? ⟨g,0 + i * 1 + t,none⟩).isSome=true/\w.drew.frozen? ⟨g,0 + i * 1 + t,none⟩=false):=fun t ht => by
   rw [Nat.zero_add]
   exact ⟨hsome _ (by omega),hfz _⟩
 obtain ⟨W1,hW1⟩ : ∃ W1,W1=w.drew.setCells g (0 + i * 1) news:=⟨_,rfl⟩
 have hb1 : Blk W1 g 3 (cells_at cur (i * 1) news):=by rw [hW1,Nat.zero_add]; exact Blk.setCells_at news (w:=w.drew) hb (i * 1) (by rw [hcs]; exact hij1)
 have hm : i + (n - j)=n - 1:=by omega
 have hcl : ∀ ty,(Builtin.clear_ #[57] ty #[.slice (some ⟨g,0 + (n - 1) * 1,none⟩) 1 (cap - (n - 1))]).run Tryz.prog W1=.ok (.tuple #[]) (W1.setCells g (0 + (n - 1) * 1) [.int .i64 0]):=fun ty => by
   rw [Nat.zero_add]
   exact run_clearI W1 ty g ((n - 1) * 1) (cap - (n - 1)) (fun q hq => by
     rw [hb1.cell, Array.getElem?_eq_getElem (by rw [cells_at_size _ _ _ (by rw [hcs]; exact hij1), hcs]; have : (n - 1) * 1 + 1 = n * 1 := by omega
                                                 have h9 : n * 1<=cap * 1:=Nat.mul_le_mul_right _ hnc
                                                 omega)]; rfl) (fun q hq => hb1.frozen _)
 have hend : Hid (DelRet w base 3 1 (.slice (some ⟨g,0,none⟩) n cap) (n - 1) (xs.take (i * 1) ++ xs.drop (j * 1)) (.returned (.slice (some ⟨g,0,none⟩) (n - 1) cap)) (W1.setCells g (0 + (n - 1) * 1) [.int .i64 0])):=hide (by
   have hn1 : (n - 1) * 1 + 1=n * 1:=by omega
   have hle : n * 1<=cap * 1:=Nat.mul_le_mul_right _ hnc
   have hsz1 : (cells_at cur (i * 1) news).size=cap * 1:=by rw [cells_at_size _ _ _ (by rw [hcs]; exact hij1),hcs]
   have hb2:=Blk.setCells_at [.int .i64 0] hb1 ((n - 1) * 1) (by rw [hsz1]; simp; omega)
   rw [Nat.zero_add]
   have hsum : i * 1 + news.length=(n - 1) * 1:=by rw [hnl,<- Nat.add_mul,hm]
   have hO : Only (fun k => k=g) w (W1.setCells g ((n - 1) * 1) [.int .i64 0]):=sCells_only _ _ _ (by rw [hW1]; exact sCells_only _ _ _ (Only.refl _ w).drew)
   refine ⟨_,rfl,⟨?_,.inr ⟨g,cap,_,rfl,hbg,hb2,by omega,hcm,?_,?_⟩⟩,hO.grown_,rfl⟩
   · rw [List.length_append,<- hnews,List.length_take,hxl,Nat.min_eq_left (Nat.mul_le_mul_right _ (by omega))]; exact hsum
   · rw [cells_at_size _ _ _ (by rw [hsz1]; simp; omega),hsz1]
   · have ht1 : (cur.toList.take (i * 1)).length = i * 1 := by rw [List.length_take, Array.length_toList, hcs]; exact Nat.min_eq_left (Nat.mul_le_mul_right _ (by omega))
     have ht2 : cur.toList.take (i * 1)=xs.take (i * 1):=by rw [<- htk,List.take_take,Nat.min_eq_left (Nat.mul_le_mul_right _ (by omega))]
     unfold cells_at
     simp only
     rw [List.take_append_of_le_length (by simp; rw [hcs]; omega),List.take_take,Nat.min_self,<- List.append_assoc,List.take_append_of_le_length (by rw [List.length_append,ht1,hsum]; exact Nat.le_refl _),List.take_of_length_le (by rw [List.length_append,ht1,hsum]; exact Nat.le_refl _),ht2,hnews])
 have hic : i<=cap:=by omega
 have hjc : j<=cap:=by omega
 have hjn : j<=n:=by omega
 have hW : Hid (W1=w.drew.setCells g (0 + i * 1) news):=hW1
 have hone : n - (n - 1)=1:=by omega
 have hcn : ¬ cap=n - 1:=by omega
 have hnI : ((n - 1 : Nat) : Int)<=(n : Int):=by omega
 replace hend:=hide hend.out
 replace hj : Hid _:=hide hj
 replace hjI : Hid _:=hide hjI
 have hijN : ((i : Int) == (j : Int))=false:=by rw [beq_eq_false_iff_ne]; have:=hjI.out; omega
 have hjI2 : (j : Int)<=(n : Int):=by omega
 have hiI2 : (i : Int)<=(j : Int):=by have:=hj.out; omega
 have hncI : (n : Int)<=(cap : Int):=by omega
 obtain ⟨i0,hi0,hz0,hz1,hz2⟩:=info_parts int_info
 clear hW1 hb1 hb hh hcell hsome hnl hij1 hfz hxl htk hcs h1
 replace hnews : Hid _:=hide hnews
 simp only [Nat.mul_one,Nat.zero_add] at hA hcl
 go_enter Tryz.func125,Tryz.ntmps125
 go_wp2_with fail
 go_region_law (refine step_append_room rfl (.tmp 22) (.tmp 25) 57 rfl 3 i0 1 Tryz.underlying57 hi0 hz1 g 0 i cap (by simp [Act.eval,Act.put]) A (n - j) (cap - j) news (by simp [Act.eval,Act.put]) s1.out hsrc.out s2.out (by omega) s3.out ?_; rw [<- hW.out])
 all_goals
   go_wp2
   go_ret
   have h9:=hend.out
   rw [hj.out] at h9
   simp only [Nat.zero_add,Nat.mul_one] at h9 ⊢
   exact h9
end Go.Proofs.YtiiljlmeililbaaGreatDoor
