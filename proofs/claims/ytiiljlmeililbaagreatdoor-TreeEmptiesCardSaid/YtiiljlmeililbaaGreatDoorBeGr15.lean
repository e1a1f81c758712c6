/-
  Sums of 32 bits: contracts of begin, New, Add, Sum, Of.
-/
import Derived.Test.YtiiljlmeililbaaGreatDoorBeGr3
import Derived.Test.YtiiljlmeililbaaGreatDoorBeGr10
import Derived.Deep.WholeRow
import Derived.Great.BuildSlice
import Derived.Laws.BitsAllLaws
import Derived.StillTailTactics
namespace Go.Proofs.YtiiljlmeililbaaGreatDoor
set_option linter.unusedVariables false
set_option maxRecDepth 100000
open Go.RowKit
def crcS (x : Nat) : Nat:=if x % 2=1 then (x / 2) ^^^ 3988292384 else x / 2
def crcI : Nat->Nat->Nat
 | 0,x => x
 | k + 1,x => crcS (crcI k x)
def crcT (i : Nat) : Nat:=crcI 4 i
theorem crcS_lt {x : Nat} (h : x < 4294967296) : crcS x < 4294967296:=by
 unfold crcS
 split
 · exact Nat.xor_lt_two_pow (n:=32) (by omega) (by decide)
 · omega
theorem crcI_lt {x : Nat} (h : x < 4294967296) : ∀ k,crcI k x < 4294967296
 | 0 => h
 | k + 1 => crcS_lt (crcI_lt h k)
theorem crcT_lt (i : Nat) (h : i < 16) : crcT i < 4294967296:=crcI_lt (by omega) 4
def u32V (x : Nat) : Value:=.int .u32 (x : Int)
def tabC (i : Nat) : Array Value:=((List.range 16).map fun j => u32V (if j < i then crcT j else 0)).toArray
theorem tabC_size (i : Nat) : (tabC i).size=16:=by simp [tabC]
theorem tabC_get (i j : Nat) (hj : j < 16) : (tabC i)[j]?=some (u32V (if j < i then crcT j else 0)):=by
 unfold tabC
 simp [hj]
theorem tabC_set (i : Nat) (hi : i < 16) : (tabC i).setIfInBounds i (u32V (crcT i))=tabC (i + 1):=by
 apply Array.ext'
 apply List.ext_getElem?
 intro j
 rcases Nat.lt_or_ge j 16 with hj | hj
 · have h1 := tabC_get (i + 1) j hj
   rw [Array.getElem?_toList,Array.getElem?_toList,h1,Array.getElem?_setIfInBounds]
   by_cases e : i=j
   · subst e
     rw [if_pos rfl,if_pos (by rw [tabC_size]; exact hi),if_pos (by omega)]
   · rw [if_neg e, tabC_get i j hj]
     congr 2
     by_cases h2 : j < i
     · rw [if_pos h2,if_pos (by omega)]
     · rw [if_neg h2,if_neg (by omega)]
 · rw [List.getElem?_eq_none (by simp [tabC_size]; omega),List.getElem?_eq_none (by simp [tabC_size]; omega)]
theorem tabC_zero : tabC 0=#[.int .u32 0,.int .u32 0,.int .u32 0,.int .u32 0,.int .u32 0,.int .u32 0,.int .u32 0,.int .u32 0,.int .u32 0,.int .u32 0,.int .u32 0,.int .u32 0,.int .u32 0,.int .u32 0,.int .u32 0,.int .u32 0]:=by
 rfl
theorem tabC_one (i : Nat) : (tabC i).all (·.oneCell')=true:=by
 simp [tabC,u32V,Value.oneCell']
theorem below_setRow {B : Nat} {a w : World} (h : Below B a w) {g : Nat} (hg : B<=g) (cs : Array Value) : Below B a (w.setRow g cs) :=
 ⟨h.os,h.tape,h.output,by simpa [World.setRow] using h.size,fun i hi => (setRow_other w g i cs (by omega)).trans (h.block i hi)⟩
set_option maxHeartbeats 1000000 in
theorem begin_any (w : World) : Calls Tryz.prog 166 #[] w fun e w' => e=.returned (.agg (tabC 16))/\Below w.heap.size w w':=by
 obtain ⟨Z,hZ⟩ : ∃ Z,Z=tabC 0:=⟨_,rfl⟩
 obtain ⟨T,hT⟩ : ∃ T,T=tabC 16:=⟨_,rfl⟩
 have hTs : T.size=16:=by rw [hT]; exact tabC_size 16
 have hTone : Hid (T.all (·.oneCell')=true):=by rw [hT]; exact tabC_one 16
 have hZs : Z.size=16:=by rw [hZ]; exact tabC_size 0
 have hZ2:=hZ
 rw [tabC_zero] at hZ2
 rw [<- hT]
 replace hT:=hide hT
 replace hZ:=hide hZ
 replace hTs:=hide hTs
 replace hZs:=hide hZs
 go_enter Tryz.func166,Tryz.ntmps166
 go_wp2_with fail
 rw [<- hZ2]
 replace hZ2:=hide hZ2
 go_loopw [2,3,4] (fun v2 v3 v4 wx => ∃ i : Nat,v4=.int .i64 (i : Int)/\i<=16/\Hid (Below w.heap.size w wx/\Blk wx w.heap.size 223 Z/\Blk wx (w.heap.size + 1) 223 (tabC i))) (fun _ _ v4 _ => 16 - (intOf v4).toNat)
 case atStart =>
   refine ⟨0,rfl,by omega,hide ⟨?_,?_,?_⟩⟩
   · exact ((Below.refl w.heap.size w).alloc (Nat.le_refl _) _).alloc (by simp) _
   · exact (Blk.new w 223 Z).alloc _
   · have h := Blk.new (w.alloc (.cells Z 223)) 223 Z
     rw [World.size_alloc] at h
     rw [<- hZ.out]; exact h
 case round =>
   obtain ⟨i,rfl,hi,hH⟩:=hrel
   rcases Nat.lt_or_ge i 16 with hlt | hge
   · have hiI : (i : Int) < 16 := by omega
     go_wp2_with fail
     go_loopw [3,9] (fun v3 v9 wx => ∃ j : Nat,v9=.int .i64 (j : Int)/\j<=4/\v3=.int .u32 ((crcI j i : Nat) : Int)/\wx=wr) (fun _ v9 _ => 4 - (intOf v9).toNat)
     case atStart => exact ⟨0,rfl,by omega,by simp [crcI],rfl⟩
     case round =>
       obtain ⟨j,rfl,hj,rfl,rfl⟩:=hrel
       obtain ⟨X,hX⟩ : ∃ X,X=crcI j i:=⟨_,rfl⟩
       have hXl : X < 4294967296:=by rw [hX]; exact crcI_lt (by omega) j
       have hand : bits .and .u32 (X : Int) 1=((X % 2 : Nat) : Int):=by
         have h:=u32_and_nat X 1 hXl (by omega)
         rw [Nat.and_one_is_mod] at h; exact h
       have hxor : bits .xor .u32 ((X / 2 : Nat) : Int) 3988292384=(((X / 2) ^^^ 3988292384 : Nat) : Int):=u32_xor_nat (X / 2) 3988292384 (by omega) (by omega)
       have hs : crcI (j + 1) i=crcS X:=by rw [crcI,<- hX]
       have hdiv : Hid ((X : Int) / 2=((X / 2 : Nat) : Int)):=hide (by omega)
       replace hxor:=hide hxor
       rw [<- hX]
       replace hX:=hide hX
       rcases Nat.lt_or_ge j 4 with hlt2 | hge2
       · have hjI : (j : Int) < 4 := by omega
         by_cases hodd : X % 2=1
         · have hs2 : crcS X = (X / 2) ^^^ 3988292384 := by unfold crcS; rw [if_pos hodd]
           rw [hodd] at hand
           replace hs:=hide hs
           replace hs2:=hide hs2
           go_wp2_with fail
           go_roundw
           case rel => exact ⟨j + 1,by simp,by omega,by rw [hs.out,hs2.out]; first | rw [hdiv.out,hxor.out] | rw [hdiv.out],by first | rfl | trivial⟩
           case measure => simp [intOf]; omega
         · have hs2 : crcS X = X / 2 := by unfold crcS; rw [if_neg hodd]
           have hev : X % 2=0:=by omega
           rw [hev] at hand
           replace hs:=hide hs
           replace hs2:=hide hs2
           go_wp2_with fail
           go_roundw
           case rel => exact ⟨j + 1,by simp,by omega,by rw [hs.out,hs2.out]; first | rw [hdiv.out,hxor.out] | rw [hdiv.out],by first | rfl | trivial⟩
           case measure => simp [intOf]; omega
       · have hj4 : j = 4 := by omega
         subst hj4
         have hXT : Hid (X=crcT i):=hX
         have hb:=hH.out.2.2
         have ci:=(hb.cell i).trans (tabC_get i i hlt)
         have fi:=hb.frozen i
         have hrelN : Hid (Hid (Below w.heap.size w (wr.setCell ⟨w.heap.size + 1,i,none⟩ (.int .u32 (X : Int)))/\Blk (wr.setCell ⟨w.heap.size + 1,i,none⟩ (.int .u32 (X : Int))) w.heap.size 223 Z/\Blk (wr.setCell ⟨w.heap.size + 1,i,none⟩ (.int .u32 (X : Int))) (w.heap.size + 1) 223 (tabC (i + 1)))):=by
           refine hide (hide ⟨hH.out.1.setCell (p:=⟨w.heap.size + 1,i,none⟩) (by simp) _,hH.out.2.1.far (p:=⟨w.heap.size + 1,i,none⟩) (by simp) _,?_⟩)
           have h:=hb.set_ i (u32V X)
           rw [hXT.out,tabC_set i hlt,<- hXT.out] at h
           exact h
         replace hb:=hide hb
         go_wp2_with fail
         go_roundw
         case rel => exact ⟨i + 1,by simp,by omega,hrelN.out⟩
         case measure => simp [intOf]; omega
   · have hi16 : i = 16 := by omega
     subst hi16
     have hb:=hH.out.2.2
     rw [<- hT.out] at hb
     replace hb:=hide hb
     have hbz:=hide hH.out.2.1
     go_wp2_with (first
       | refine wpList_load_row rfl 223 (.tmp 1) rfl (w.heap.size + 1) rfl 223 T (0,0) _ hb.out Tryz.underlying223 rfl (by rw [hTs.out]; kernel_rfl) ?_
       | refine wpList_store_rowTo rfl 223 (.tmp 0) (.tmp 24) rfl rfl w.heap.size T rfl rfl 223 Z hbz.out (by rw [hTs.out]; kernel_rfl) (by rw [hTs.out,hZs.out]) hTone.out ?_)
     refine bodyPost_ret (v:=.agg T) ?_ rfl ⟨rfl,?_⟩
     · exact results_cell_row rfl _ _ w.heap.size 223 T (0,0) _ rfl (setRow_heap _ _ _ _ _ _ hbz.out) Tryz.underlying223 rfl (by rw [hTs.out]; kernel_rfl)
     · exact below_setRow hH.out.1 (Nat.le_refl _) T
def sumC (x l : Nat) : Array Value:=tabC 16 ++ #[u32V x,.int .i64 (l : Int)]
theorem sumC_tab (x l j : Nat) (hj : j < 16) : (sumC x l)[j]?=some (u32V (crcT j)):=by
 unfold sumC
 rw [Array.getElem?_append,if_pos (by rw [tabC_size]; exact hj),tabC_get 16 j hj,if_pos hj]
theorem sumC_x (x l : Nat) : (sumC x l)[16]?=some (u32V x):=by
 unfold sumC
 rw [Array.getElem?_append,if_neg (by rw [tabC_size]; decide),tabC_size]; rfl
theorem sumC_l (x l : Nat) : (sumC x l)[17]?=some (.int .i64 (l : Int)):=by
 unfold sumC
 rw [Array.getElem?_append,if_neg (by rw [tabC_size]; decide),tabC_size]; rfl
theorem sumC_setx (x y l : Nat) : (sumC x l).setIfInBounds 16 (u32V y)=sumC y l:=by
 unfold sumC
 rw [Array.setIfInBounds_append_right (by rw [tabC_size]; decide),tabC_size]; rfl
theorem sumC_setl (x l m : Nat) : (sumC x l).setIfInBounds 17 (.int .i64 (m : Int))=sumC x m:=by
 unfold sumC
 rw [Array.setIfInBounds_append_right (by rw [tabC_size]; decide),tabC_size]; rfl
def crcN (x : Nat) : Nat:=(x / 16) ^^^ crcT (x % 16)
def crcB (x c : Nat) : Nat:=crcN (crcN (x ^^^ c))
def crcL (x : Nat) (b : List UInt8) : Nat:=b.foldl (fun x c => crcB x c.toNat) x
theorem crcN_lt {x : Nat} (h : x < 4294967296) : crcN x < 4294967296:=Nat.xor_lt_two_pow (n:=32) (by omega) (crcT_lt _ (Nat.mod_lt _ (by decide)))
theorem crcB_lt {x : Nat} (c : UInt8) (h : x < 4294967296) : crcB x c.toNat < 4294967296:=crcN_lt (crcN_lt (Nat.xor_lt_two_pow (n:=32) h (by have:=c.toNat_lt; omega)))
theorem crcL_lt {x : Nat} (h : x < 4294967296) (b : List UInt8) : crcL x b < 4294967296:=by
 unfold crcL
 induction b generalizing x with
 | nil => exact h
 | cons c r ih => exact ih (crcB_lt c h)
theorem crcL_snoc (x : Nat) (b : List UInt8) (k : Nat) (hk : k < b.length) : crcL x (b.take (k + 1))=crcB (crcL x (b.take k)) (b[k]).toNat:=by
 unfold crcL
 rw [List.take_succ_eq_append_getElem hk,List.foldl_append]; rfl
theorem built_sum : Tryz.prog.built 226 [(0,.agg (tabC 16)),(1,.int .u32 4294967295)]=some (sumC 4294967295 0):=by kernel_rfl
theorem new_any (w : World) : Calls Tryz.prog 140 #[] w fun e w' => ∃ s,e=.returned (.pointer (some ⟨s,0,none⟩))/\Blk w' s 226 (sumC 4294967295 0)/\Below w.heap.size w w'/\w.heap.size<=s:=by
 have hb:=hide (begin_any w)
 obtain ⟨T,hT⟩ : ∃ T,T=tabC 16:=⟨_,rfl⟩
 obtain ⟨C,hC⟩ : ∃ C,C=sumC 4294967295 0:=⟨_,rfl⟩
 have hbf : Hid (Tryz.prog.built 226 [(0,.agg T),(1,.int .u32 4294967295)]=some C):=by rw [hT,hC]; exact built_sum
 rw [<- hT] at hb
 rw [<- hC]
 replace hT:=hide hT
 replace hC:=hide hC
 go_enter Tryz.func140,Tryz.ntmps140
 go_wp2_with fail
 refine hb.out.mono ?_
 rintro e w1 ⟨rfl,hB⟩
 replace hB:=hide hB
 go_wp2_with (refine wpList_buildTo rfl 226 _ rfl (some 2) rfl C (Eq.trans (by kernel_rfl) hbf.out) ?_)
 go_ret
 exact ⟨w1.heap.size,rfl,Blk.new w1 226 C,hB.out.alloc hB.out.size _,hB.out.size⟩
theorem nib_facts {W : World} {s x l : Nat} (h : Blk W s 226 (sumC x l)) (hx : x < 4294967296) :
   ∃ J Q T y : Nat,(J : Int) < 16/\W.cell? ⟨s,16,none⟩=some (.int .u32 (x : Int))/\W.cell? ⟨s,J,none⟩=some (.int .u32 (T : Int))/\W.frozen? ⟨s,16,none⟩=false/\bits .and .u32 (x : Int) 15=(J : Int)/\(x : Int) / 16=(Q : Int)/\bits .xor .u32 (Q : Int) (T : Int)=(y : Int)/\y < 4294967296/\Hid (y=crcN x):=by
 refine ⟨x % 16,x / 16,crcT (x % 16),crcN x,by omega,(h.cell 16).trans (sumC_x x l),(h.cell _).trans (sumC_tab x l _ (by omega)),h.frozen 16,?_,by omega,?_,crcN_lt hx,rfl⟩
 · have h := u32_and_nat x 15 hx (by omega)
   rw [show (15 : Nat)=2 ^ 4 - 1 from rfl,Nat.and_two_pow_sub_one_eq_mod] at h
   exact h
 · exact u32_xor_nat (x / 16) (crcT (x % 16)) (by omega) (crcT_lt _ (by omega))
def AddRel (w : World) (s x l : Nat) (b : List UInt8) (k : Nat) (wx : World) : Prop:=Blk wx s 226 (sumC (crcL x (b.take k)) l)/\Only (fun j => j=s) w wx
set_option maxHeartbeats 2000000 in
theorem add_any (w : World) (s x l : Nat) (A : Option Addr) (n c : Nat) (b : List UInt8) (hs : Blk w s 226 (sumC x l)) (hx : x < 4294967296) (hb : RB w s A n b) (hn : n<=1000000000) (hl : l<=1000000000) :
   Calls Tryz.prog 141 #[.pointer (some ⟨s,0,none⟩),.slice A n c] w fun e w' => e=.returned (.tuple #[])/\Blk w' s 226 (sumC (crcL x b) (l + n))/\Only (fun j => j=s) w w':=by
 have hlen:=hide hb.len
 have hrel0 : Hid (AddRel w s x l b 0 w):=hide ⟨hs,Only.refl _ w⟩
 replace hb:=hide hb
 replace hs:=hide hs
 go_enter Tryz.func141,Tryz.ntmps141
 go_wp2_with fail
 go_loopw [5,10] (fun v5 v10 wx => ∃ k : Nat,v10=.int .i64 (k : Int)/\k<=n/\Hid (AddRel w s x l b k wx)) (fun _ v10 _ => n - (intOf v10).toNat)
 case atStart => exact ⟨0,rfl,by omega,hrel0⟩
 case round =>
   obtain ⟨k,rfl,hk,hR⟩:=hrel
   rcases Nat.lt_or_ge k n with hlt | hge
   · have hkI : (k : Int) < (n : Int) := by omega
     have hkl : k < b.length:=by have:=hlen.out; omega
     obtain ⟨X,hX⟩ : ∃ X,X=crcL x (b.take k):=⟨_,rfl⟩
     have hX32 : X < 4294967296:=by rw [hX]; exact crcL_lt hx _
     obtain ⟨ad,rfl,hab,hcell⟩:=(hb.out).elem (k:=k) hlt hkl
     obtain ⟨y,hy⟩ : ∃ y : UInt8,y=b[k]:=⟨_,rfl⟩
     have hsn:=crcL_snoc x b k hkl
     rw [<- hX,<- hy] at hsn
     rw [<- hy] at hcell
     have hB:=hR.out.1
     rw [<- hX] at hB
     have hcw : wr.cell? (ad.add k)=some (.int .u8 (y.toNat : Int)):=by
       rw [World.cell?_of_block (w:=w) (hR.out.2.block _ (by rw [block_of_add]; have:=hs.out.lt; omega) (by rw [block_of_add]; omega))]
       exact hcell
     obtain ⟨Y,hY⟩ : ∃ Y : Nat,Y=y.toNat:=⟨_,rfl⟩
     have hY8 : Y < 256:=by rw [hY]; exact y.toNat_lt
     rw [<- hY] at hcw hsn
     have c16:=(hB.cell 16).trans (sumC_x X l)
     have f16:=hB.frozen 16
     obtain ⟨X1,hX1⟩ : ∃ X1,X1=X ^^^ Y:=⟨_,rfl⟩
     have hxor1 : bits .xor .u32 (X : Int) (Y : Int)=(X1 : Int):=by rw [hX1]; exact u32_xor_nat X Y hX32 (by omega)
     replace hX1:=hide hX1
     replace hsn:=hide hsn
     replace hX:=hide hX
     replace hy:=hide hy
     replace hY:=hide hY
     unfold u32V at c16
     have hX1l : X1 < 4294967296:=by rw [hX1.out]; exact Nat.xor_lt_two_pow (n:=32) hX32 (by omega)
     have hB2:=hB.set_ 16 (u32V X1)
     rw [sumC_setx] at hB2
     have hO2 : Only (fun j => j=s) w (wr.setCell ⟨s,16,none⟩ (u32V X1)):=hR.out.2.setCell (p:=⟨s,16,none⟩) (fun _ => rfl) _
     replace hB:=hide hB
     unfold u32V at hB2 hO2
     obtain ⟨W2,hW2⟩ : ∃ W2,W2=wr.setCell ⟨s,16,none⟩ (.int .u32 (X1 : Int)):=⟨_,rfl⟩
     rw [<- hW2] at hB2 hO2
     obtain ⟨J1,Q1,T1,X2,hJ1,e16,eJ1,g16,hand1,hdiv1,hxor2,hX2l,hN1⟩:=nib_facts hB2 hX1l
     replace hB2:=hide hB2
     replace hO2:=hide hO2
     go_wp2_with fail
     rw [<- hW2]
     replace hW2:=hide hW2
     go_still_tail 19,(by kernel_rfl)
     change wpList _ _ _ _ _ W2.drew
     have hB2d:=Blk.drew hB2.out
     have hO2d:=hO2.out.drew
     have g16d : W2.drew.frozen? ⟨s,16,none⟩=false:=g16
     have e16d : W2.drew.cell? ⟨s,16,none⟩=some (.int .u32 (X1 : Int)):=e16
     generalize W2.drew=W2d at *
     have hB3:=hB2d.set_ 16 (u32V X2)
     rw [sumC_setx] at hB3
     have hO3:=hO2d.setCell (p:=⟨s,16,none⟩) (fun _ => rfl) (u32V X2)
     replace hB2d:=hide hB2d
     replace hO2d:=hide hO2d
     unfold u32V at hB3 hO3
     obtain ⟨W3,hW3⟩ : ∃ W3,W3=W2d.setCell ⟨s,16,none⟩ (.int .u32 (X2 : Int)):=⟨_,rfl⟩
     rw [<- hW3] at hB3 hO3
     obtain ⟨J2,Q2,T2,X3,hJ2,k16,kJ2,m16,hand2,hdiv2,hxor3,hX3l,hN2⟩:=nib_facts hB3 hX2l
     replace hB3:=hide hB3
     replace hO3:=hide hO3
     go_wp2_with fail
     rw [<- hW3]
     replace hW3:=hide hW3
     go_still_tail 19,(by kernel_rfl)
     change wpList _ _ _ _ _ W3.drew
     have hB3d:=Blk.drew hB3.out
     have hO3d:=hO3.out.drew
     have m16d : W3.drew.frozen? ⟨s,16,none⟩=false:=m16
     have k16d : W3.drew.cell? ⟨s,16,none⟩=some (.int .u32 (X2 : Int)):=k16
     generalize W3.drew=W3d at *
     have hB4:=hB3d.set_ 16 (u32V X3)
     rw [sumC_setx] at hB4
     have hO4:=hO3d.setCell (p:=⟨s,16,none⟩) (fun _ => rfl) (u32V X3)
     replace hB3d:=hide hB3d
     replace hO3d:=hide hO3d
     have hfin : Hid (X3=crcL x (b.take (k + 1))):=by
       rw [hsn.out,hN2.out,hN1.out,hX1.out]; exact hide rfl
     unfold u32V at hB4 hO4
     replace hB4:=hide hB4
     replace hO4:=hide hO4
     go_wp2_with fail
     go_roundw
     case rel => exact ⟨k + 1,by simp,by omega,by unfold AddRel; rw [<- hfin.out]; exact hide ⟨hB4.out,hO4.out⟩⟩
     case measure => simp [intOf]; omega
   · have hkn : k = n := by omega
     subst hkn
     have hB:=hR.out.1
     rw [List.take_of_length_le (by rw [hlen.out]; exact Nat.le_refl _)] at hB
     obtain ⟨X,hX⟩ : ∃ X,X=crcL x b:=⟨_,rfl⟩
     rw [<- hX] at hB
     have c17:=(hB.cell 17).trans (sumC_l X l)
     have f17:=hB.frozen 17
     obtain ⟨M,hM⟩ : ∃ M,M=l + k:=⟨_,rfl⟩
     have hMI : (l : Int) + (k : Int)=(M : Int):=by omega
     have hB2:=hB.set_ 17 (.int .i64 (M : Int))
     rw [sumC_setl] at hB2
     have hO2:=hR.out.2.setCell (p:=⟨s,17,none⟩) (fun _ => rfl) (.int .i64 (M : Int))
     replace hM:=hide hM
     replace hX:=hide hX
     replace hB:=hide hB
     replace hB2:=hide hB2
     replace hO2:=hide hO2
     have hkk : ¬ (k : Int) < (k : Int):=by omega
     go_wp2_with fail
     go_end0
     exact ⟨rfl,by rw [<- hX.out,<- hM.out]; exact hB2.out,hO2.out⟩
theorem sum_any (w : World) (s x l : Nat) (hs : Blk w s 226 (sumC x l)) (hx : x < 4294967296) : Calls Tryz.prog 142 #[.pointer (some ⟨s,0,none⟩)] w fun e w' => e=.returned (.int .u32 ((4294967295 ^^^ x : Nat) : Int))/\w=w':=by
 have c16:=(hs.cell 16).trans (sumC_x x l)
 unfold u32V at c16
 replace hs:=hide hs
 have hsg : IntKind.u32.signed=false:=rfl
 go_enter Tryz.func142,Tryz.ntmps142
 go_wp2_with fail
 go_ret
 exact ⟨ret_int (u32_xor_nat 4294967295 x (by omega) hx),rfl⟩
def crcOf (b : List UInt8) : Nat:=4294967295 ^^^ crcL 4294967295 b
theorem crcOf_lt (b : List UInt8) : crcOf b < 4294967296:=Nat.xor_lt_two_pow (n:=32) (by decide) (crcL_lt (by decide) b)
theorem crcL_append (x : Nat) (a b : List UInt8) : crcL x (a ++ b)=crcL (crcL x a) b:=List.foldl_append
def OfRel (w : World) (ls : List (List UInt8)) (B : Nat) (k : Nat) (s : Nat) (wx : World) : Prop :=
 Blk wx s 226 (sumC (crcL 4294967295 (ls.take k).flatten) (ls.take k).flatten.length)/\Below B w wx
set_option maxHeartbeats 1000000 in
theorem of_any (w : World) (ad : Addr) (n c : Nat) (ls : List (List UInt8)) (hn : ls.length=n) (hn0 : 0 < n) (hnb : n<=100) (hab : ad.block < w.heap.size)
   (hc : ∀ k b,ls[k]?=some b->∃ A cc,w.cell? (ad.add k)=some (.slice A b.length cc)/\RB w w.heap.size A b.length b/\b.length<=1000000) :
   Calls Tryz.prog 99 #[.slice (some ad) n c] w fun e w' => e=.returned (.int .u32 ((crcOf ls.flatten : Nat) : Int))/\Below w.heap.size w w':=by
 have hnw:=hide (new_any w)
 replace hc : Hid _:=hide hc
 go_enter Tryz.func99,Tryz.ntmps99
 go_wp2_with fail
 refine hnw.out.mono ?_
 rintro e w1 ⟨s,rfl,hs1,hB1,hsg⟩
 have hrel0 : Hid (OfRel w ls w.heap.size 0 s w1):=hide ⟨hs1,hB1⟩
 replace hs1:=hide hs1
 replace hB1:=hide hB1
 go_wp2_with fail
 go_loopw [5,9] (fun v5 v9 wx => ∃ k : Nat,v9=.int .i64 (k : Int)/\k<=n/\Hid (OfRel w ls w.heap.size k s wx)) (fun _ v9 _ => n - (intOf v9).toNat)
 case atStart => exact ⟨0,rfl,by omega,hrel0⟩
 case round =>
   obtain ⟨k,rfl,hk,hR⟩:=hrel
   rcases Nat.lt_or_ge k n with hlt | hge
   · have hkI : (k : Int) < (n : Int) := by omega
     obtain ⟨b,hb⟩ : ∃ b,ls[k]?=some b:=⟨_,List.getElem?_eq_getElem (by omega)⟩
     obtain ⟨A,cc,hcell,hrb,hbl⟩:=hc.out k b hb
     have hcw:=(hR.out.2.cell (p:=ad.add k) (by rw [block_of_add]; exact hab)).trans hcell
     obtain ⟨X,hX⟩ : ∃ X,X=crcL 4294967295 (ls.take k).flatten:=⟨_,rfl⟩
     obtain ⟨l,hl⟩ : ∃ l,l=(ls.take k).flatten.length:=⟨_,rfl⟩
     have hs:=hR.out.1
     rw [<- hX,<- hl] at hs
     have hl100 : l<=100000000:=by
       rw [hl]
       have key : ∀ q,q<=n->(ls.take q).flatten.length<=q * 1000000:=by
         intro q
         induction q with
         | zero => intro _; simp
         | succ q ih =>
           intro hq
           obtain ⟨_,_,_,_,hq3⟩:=hc.out q ls[q] (List.getElem?_eq_getElem (by omega))
           rw [List.take_succ_eq_append_getElem (by omega),List.flatten_append,List.length_append]
           have:=ih (by omega)
           rw [List.flatten_cons,List.flatten_nil,List.append_nil]; omega
       have:=key k hk
       omega
     have hadd:=hide (add_any wr s X l A b.length cc b hs (by rw [hX]; exact crcL_lt (by decide) _) ((hrb.below hR.out.2).more hsg) (by omega) (by omega))
     have htk : (ls.take (k + 1)).flatten=(ls.take k).flatten ++ b:=by
       obtain ⟨h1,h2⟩:=List.getElem?_eq_some_iff.1 hb
       rw [List.take_succ_eq_append_getElem h1,List.flatten_append,h2]; simp
     obtain ⟨m,hm⟩ : ∃ m,m=b.length:=⟨_,rfl⟩
     rw [<- hm] at hcw hadd
     replace hm:=hide hm
     replace htk:=hide htk
     replace hX:=hide hX
     replace hl:=hide hl
     replace hs:=hide hs
     replace hb:=hide hb
     replace hcell:=hide hcell
     replace hrb:=hide hrb
     go_wp2_with fail
     refine hadd.out.mono ?_
     rintro e w2 ⟨rfl,h2,h3⟩
     have hrelN : Hid (OfRel w ls w.heap.size (k + 1) s w2):=by
       refine hide ⟨?_,hR.out.2.trans (h3.below (fun q e => by rw [e]; exact hsg) hR.out.2.size)⟩
       rw [htk.out,crcL_append,List.length_append,<- hX.out,<- hl.out,<- hm.out]; exact h2
     replace h2:=hide h2
     replace h3:=hide h3
     go_wp2_with fail
     go_roundw
     case rel => exact ⟨k + 1,by simp,by omega,hrelN⟩
     case measure => simp [intOf]; omega
   · have hkn : k = n := by omega
     subst hkn
     have hs:=hR.out.1
     rw [List.take_of_length_le (by omega)] at hs
     have hsu:=hide (sum_any wr s _ _ hs (crcL_lt (by decide) _))
     replace hs:=hide hs
     have hkk : ¬ (k : Int) < (k : Int):=by omega
     go_wp2_with fail
     refine hsu.out.mono ?_
     rintro e w2 ⟨rfl,rfl⟩
     go_wp2_with fail
     go_ret
     exact ⟨rfl,hR.out.2⟩
end Go.Proofs.YtiiljlmeililbaaGreatDoor
