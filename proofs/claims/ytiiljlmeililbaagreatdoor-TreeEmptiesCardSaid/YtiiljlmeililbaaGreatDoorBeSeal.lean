/-
  Contract of page.Seal.
-/
import Derived.Test.YtiiljlmeililbaaGreatDoorBePage
import Derived.Laws.CopyOwn
import Derived.Great.Walk
import Derived.Deep.RegionLaw
import Derived.Laws.CopyRow
import Derived.Shelf.Spec.SlicesInsert
namespace Go.Proofs.YtiiljlmeililbaaGreatDoor
set_option linter.unusedVariables false
set_option maxRecDepth 100000
open Go.RowKit
def sealP (no : Nat) (p : List UInt8) : List UInt8:=p ++ leB 4 (crcOf (leB 4 no ++ p))
def SealRet (w : World) (no : Nat) (b : List UInt8) (e : Ending) (w' : World) : Prop :=
 ∃ g,e=.returned (.tuple #[.slice (some ⟨g,0,none⟩) 512 512,.int .i64 0])/\Blk w' g 228 (bv (sealP no (b ++ zeroB (508 - b.length)))).toArray/\Below w.heap.size w w'/\w.heap.size<=g
theorem alloc_page (ρ : Operand->Value) (w : World) (o : Oper) (ho : o.op=.alloc 228) :
   (execOp ρ o).run Tryz.prog w=.ok (.value (.pointer (some ⟨w.heap.size,0,none⟩))) (w.alloc (.cells (bv (zeroB 512)).toArray 228)):=by
 unfold execOp
 simp only [ho]
 kernel_rfl
theorem slice_lo (w : World) (g : Nat) : (Instr.sliceAt 228 (.pointer (some ⟨g,0,none⟩)) none (some (.int .i64 508)) none).run Tryz.prog w=.ok (.slice (some ⟨g,0,none⟩) 508 512) w:=by kernel_rfl
theorem slice_hi (w : World) (g : Nat) : (Instr.sliceAt 228 (.pointer (some ⟨g,0,none⟩)) (some (.int .i64 508)) none none).run Tryz.prog w=.ok (.slice (some ⟨g,508,none⟩) 4 4) w:=by kernel_rfl
theorem slice_al (w : World) (g : Nat) : (Instr.sliceAt 228 (.pointer (some ⟨g,0,none⟩)) none none none).run Tryz.prog w=.ok (.slice (some ⟨g,0,none⟩) 512 512) w:=by kernel_rfl
theorem rb_of_cells {w : World} {g m : Nat} {t : TypeId} {l r : List UInt8} (h : w.heap[g]?=some (.cells (bv (l ++ r)).toArray t (0,0))) (hm : l.length=m) (hg : g < w.heap.size) : RB w w.heap.size (some ⟨g,0,none⟩) m l:=by
 refine ⟨by rw [bv_length,hm,Nat.mul_one],fun _ => ⟨_,rfl,hg,fun j u hj => ?_⟩⟩
 have e : (Addr.mk g 0 none).add j=⟨g,j,none⟩:=by
   unfold Addr.add
   by_cases h0 : j=0
   · subst h0; rfl
   · rw [if_neg h0]; simp
 rw [e,cell_of_row w g j _ t (0,0) h]
 have hjl:=(List.getElem?_eq_some_iff.1 hj).1
 rw [bv_append]
 simpa [List.getElem?_append_left hjl] using hj
theorem bv_splice (b : List UInt8) (hb : b.length<=508) : splice (bv (zeroB 512)) 0 (bv b)=bv (b ++ zeroB (508 - b.length) ++ zeroB 4):=by
 unfold splice bv zeroB
 rw [List.take_zero,List.nil_append,Nat.zero_add,<- List.map_drop,<- List.map_append]
 simp only [List.length_map,List.drop_replicate,List.append_assoc,List.replicate_append_replicate]
 congr 3; omega
theorem bv_splice2 (p q z : List UInt8) (hp : p.length=508) (hq : q.length=4) (hz : z.length=4) : splice (bv (p ++ z)) 508 (bv q)=bv (p ++ q):=by
 unfold splice bv
 rw [<- List.map_take,<- List.map_drop,List.take_left' hp,List.drop_of_length_le (by simp; omega),List.map_nil,List.append_nil,<- List.map_append]
set_option maxHeartbeats 1000000 in
theorem seal_any (w : World) (no : Nat) (hno : no < 16777216) (A : Option Addr) (n c : Nat) (b : List UInt8) (hb : RB w w.heap.size A n b) (hn : n<=508) :
   Calls Tryz.prog 147 #[.int .i64 (no : Int),.slice A n c] w (SealRet w no b):=by
 have hblen:=hb.len
 obtain ⟨P,hP⟩ : ∃ P,P=b ++ zeroB (508 - b.length):=⟨_,rfl⟩
 have hPl : P.length=508:=by rw [hP,List.length_append,zeroB_len]; omega
 have hfit:=fits_any (w.alloc (.cells #[.int .i64 (no : Int)] 3)) (some ⟨w.heap.size,0,none⟩) 1 1 3 [no] (one_pn w no 3) (by omega) (by omega) (by omega) (by simp; omega)
 obtain ⟨Z,hZ⟩ : ∃ Z,Z=(bv (zeroB 512)).toArray:=⟨_,rfl⟩
 have hal : Hid (∀ (ρ : Operand->Value) (wz : World) (o : Oper) (ho : o.op=.alloc 228),(execOp ρ o).run Tryz.prog wz=.ok (.value (.pointer (some ⟨wz.heap.size,0,none⟩))) (wz.alloc (.cells Z 228))):=hide fun ρ wz o ho => by rw [hZ]; exact alloc_page ρ wz o ho
 have hlo:=slice_lo
 have hhi:=slice_hi
 have hall:=slice_al
 replace hfit:=hide hfit
 replace hb:=hide hb
 replace hZ:=hide hZ
 replace hP:=hide hP
 replace hblen:=hide hblen
 go_enter Tryz.func147,Tryz.ntmps147
 go_wp2_with fail
 refine hfit.out.mono ?_
 rintro e w1 ⟨rfl,hX⟩
 subst hX
 obtain ⟨g,hg⟩ : ∃ g,g=w.heap.size + 1:=⟨_,rfl⟩
 obtain ⟨W2,hW2⟩ : ∃ W2,W2=(w.alloc (.cells #[.int .i64 (no : Int)] 3)).alloc (.cells Z 228):=⟨_,rfl⟩
 have hblk : Hid (W2.heap[g]?=some (.cells (bv (zeroB 512)).toArray 228 (0,0))):=by
   rw [hW2,hg,hZ.out]
   have h:=heap_alloc_new (w.alloc (.cells #[.int .i64 (no : Int)] 3)) (.cells (bv (zeroB 512)).toArray 228)
   rw [World.size_alloc] at h
   exact h
 have hBw : Below w.heap.size w W2:=by rw [hW2]; exact ((Below.refl w.heap.size w).alloc (Nat.le_refl _) _).alloc (by simp) _
 have hgle : w.heap.size<=g:=by omega
 have hrb2 : RB W2 w.heap.size A n b:=hb.out.below hBw
 have hgs : (w.alloc (.cells #[.int .i64 (no : Int)] 3)).heap.size=g:=by rw [World.size_alloc,hg]
 have hnI : (n : Int)<=508:=by omega
 replace hBw:=hide hBw
 replace hg:=hide hg
 replace hgs:=hide hgs
 replace hrb2:=hide hrb2
 replace hblen:=hblen
 obtain ⟨C1,hC1⟩ : ∃ C1,C1=splice (bv (zeroB 512)) 0 (bv b):=⟨_,rfl⟩
 have hC1b:=bv_splice b (by have:=hblen.out; omega)
 rw [<- hC1,<- hP.out] at hC1b
 replace hC1:=hide hC1
 replace hC1b:=hide hC1b
 obtain ⟨bb,hbb⟩ : ∃ bb,bb=bv b:=⟨_,rfl⟩
 have hbbl : bb.length=n:=by rw [hbb,bv_length,hblen.out]
 have hbone : ∀ v ∈ bb,v.oneCell'=true:=by rw [hbb]; exact bv_one b
 have hbsrc : 0 < bb.length->∃ ad,A=some ad/\∀ j v,bb[j]?=some v->W2.cell? (ad.add j)=some v:=fun h0 => by
   obtain ⟨ad,e,_,hc⟩:=hrb2.out.2 (by omega)
   exact ⟨ad,e,fun j v hj => hc j v (by rw [<- hbb]; exact hj)⟩
 have hmin : bb.length=Nat.min n 508:=by rw [hbbl]; exact (Nat.min_eq_left hn).symm
 rw [<- hbb] at hC1
 replace hC1 : Hid (C1=splice (bv (zeroB 512)) 0 bb):=hC1
 replace hbb:=hide hbb
 replace hbone:=hide hbone
 replace hbsrc:=hide hbsrc
 replace hmin:=hide hmin
 replace hbbl:=hide hbbl
 go_upto_region 6 with (refine Go.Great.wpList_runTo rfl (some 6) rfl _ _ (hal.out _ _ _ rfl) ?_)
 rw [<- hW2,hgs.out]
 replace hW2:=hide hW2
 go_upto_region 7 with (refine wpList_copy_splice rfl (.tmp 16) (.tmp 17) 37 37 rfl 5 Tryz.underlying37 (by kernel_rfl) (some ⟨g,0,none⟩) A 508 512 n c rfl rfl g 0 (bv (zeroB 512)) 228 hblk.out bb hmin.out (fun h0 => ⟨rfl,hbsrc.out h0⟩) (by rw [hbbl.out]; simp [bv,zeroB]; omega) hbone.out w.heap.size w hBw.out hgle ?_; intro w3 hc3 hB3; replace hB3:=hide hB3; rw [<- hC1.out] at hc3)
 have hg3 : Hid (w3.heap[g]?=some (.cells (bv (P ++ zeroB 4)).toArray 228 (0,0))):=by rw [<- hC1b.out]; exact hc3
 have hglt : g < w3.heap.size:=(Array.getElem?_eq_some_iff.1 hg3.out).1
 have hps:=hide (psum_any w3.drew no (some ⟨g,0,none⟩) 508 512 P (by omega) (rb_of_cells (w:=w3) hg3.out hPl hglt) (by omega))
 obtain ⟨Q,hQ⟩ : ∃ Q,Q=leB 4 (crcOf (leB 4 no ++ P)):=⟨_,rfl⟩
 have hQl : Q.length=4:=by rw [hQ,leB_len]
 rw [<- hQ] at hps
 replace hQ:=hide hQ
 replace hglt:=hide hglt
 have hfin : Hid (∀ w4 : World,Below w3.heap.size w3 w4->SealRet w no b (.returned (.tuple #[.slice (some ⟨g,0,none⟩) 512 512,.int .i64 0])) (w4.setRow g (bv (P ++ Q)).toArray)):=hide fun w4 h4 => by
   have hB4 : Below w.heap.size w w4:=hB3.out.trans (h4.mono (hB3.out.size))
   have h5 : w4.heap[g]?=some (.cells (bv (P ++ zeroB 4)).toArray 228 (0,0)):=(h4.block g hglt.out).trans hg3.out
   refine ⟨g,rfl,?_,below_setRow hB4 hgle _,hgle⟩
   have h6:=setRow_heap w4 g _ (bv (P ++ Q)).toArray 228 (0,0) h5
   unfold sealP
   rw [<- hP.out,<- hQ.out]
   exact h6
 obtain ⟨C2,hC2⟩ : ∃ C2,C2=(bv (P ++ Q)).toArray:=⟨_,rfl⟩
 have hspl : Hid ((((bv (P ++ zeroB 4)).toArray.toList.take 508 ++ bv Q ++ (bv (P ++ zeroB 4)).toArray.toList.drop (508 + (bv Q).length)).toArray)=C2):=by
   have h:=bv_splice2 P Q (zeroB 4) hPl hQl (zeroB_len 4)
   unfold splice at h
   rw [hC2,<- h,List.append_assoc]; exact hide rfl
 have hfit2 : Hid (508 + (bv Q).length<=(bv (P ++ zeroB 4)).toArray.size):=by rw [bv_length,hQl]; simp [bv,zeroB,hPl]; exact hide trivial
 rw [<- hC2] at hfin
 have hcpy : Hid (∀ (w4 : World) (ad4 : Addr) (c4 : Nat),Below w3.heap.size w3 w4->(∀ j u,(bv Q)[j]?=some u->w4.cell? (ad4.add j)=some u)->(Builtin.copy_ #[37,37] 3 #[.slice (some ⟨g,508,none⟩) 4 4,.slice (some ad4) 4 c4]).run Tryz.prog w4=.ok (goInt 4) (w4.setRow g C2)):=hide fun w4 ad4 c4 h4 hc4 => by
   have h44:=(h4.block g hglt.out).trans hg3.out
   have hcp:=run_copy_row (P:=Tryz.prog) w4 37 37 3 5 g 508 4 4 ad4 4 c4 _ 228 (bv Q) Tryz.underlying37 (by kernel_rfl) h44 (by rw [bv_length,hQl]; rfl) hc4 hfit2.out (bv_one Q)
   rw [hspl.out,bv_length,hQl] at hcp
   exact hcp
 replace hC2:=hide hC2
 go_region_with (go_at_call 138; refine hps.out.mono ?_; rintro e w4 ⟨v4,rfl,hO4,hB4⟩; rw [hQl] at hO4; (obtain ⟨A4,c4,rfl,hr4,hA4,_,_⟩:=hO4.form); (obtain ⟨ad4,rfl,_,hc4⟩:=hr4.2 (by omega)); have hB4' : Below w3.heap.size w3 w4:=(Below.refl _ w3).drew.trans hB4; have hcp:=hcpy.out w4 ad4 c4 hB4' hc4; have hend:=hide (hfin.out w4 hB4'); replace hB4':=hide hB4'; replace hO4:=hide hO4; replace hB4:=hide hB4; replace hr4:=hide hr4; clear hc4)
 all_goals
   go_wp2_with fail
   go_ret2
   exact hend.out
end Go.Proofs.YtiiljlmeililbaaGreatDoor
