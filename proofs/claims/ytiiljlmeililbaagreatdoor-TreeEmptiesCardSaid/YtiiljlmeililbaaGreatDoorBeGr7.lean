/-
  append(b, make([]byte, n)...): zeros behind a row of the call's own.
-/
import Derived.Test.YtiiljlmeililbaaGreatDoorBeGr3
import Derived.Lib.AppendZeros
namespace Go.Proofs.YtiiljlmeililbaaGreatDoor
set_option linter.unusedVariables false
set_option maxRecDepth 100000
open Go.RowKit
set_option linter.unusedSimpArgs false
def zeroB (n : Nat) : List UInt8:=List.replicate n 0
theorem zeroB_len (n : Nat) : (zeroB n).length=n:=by simp [zeroB]
theorem zeroCells_b (n : Nat) : Builtin.zeroCells (Value.int .u8 0).cells n=(bv (zeroB n)).toArray:=by
 apply Array.ext
 · simp [Builtin.zeroCells,bv,zeroB,Value.cells]
 · intro i h1 h2
   simp [Builtin.zeroCells,bv,zeroB,Value.cells,Nat.mod_one]
theorem run_app_zero (w : World) (base : Nat) (v : Value) (n : Nat) (l : List UInt8) (hown : OB w base v n l) (m : Nat) (ty : TypeId) (hlen : n + m<=1000000000) (hbase : base<=w.heap.size) :
   ∃ v' w',(Builtin.append_ #[37,3] ty #[v,.int .i64 (m : Int)]).run Tryz.prog w=.ok v' w'/\OB w' base v' (n + m) (l ++ zeroB m)/\w.grownBy w' v.ownBlock/\(v'.ownBlock=v.ownBlock \/ v'.ownBlock=some w.heap.size):=by
 obtain ⟨i,hi,hz,hz1,hz2⟩:=info_parts byte_info
 have ht:=Tryz.underlying37
 have htn:=Tryz.underlying3
 have hw : IntKind.i64.wrap (m : Int)=m:=by rw [IntKind.wrap_i64]; omega
 have hw0 : IntKind.i64.wrap 0=0:=by rw [IntKind.wrap_i64]; omega
 have h48i : ¬ (281474976710656 < (m : Int)):=by omega
 have hneg : ¬ ((m : Int) < 0):=by omega
 have hl:=hown.len
 have hll : (bv (l ++ zeroB m)).length=(n + m) * 1:=by rw [bv_length,List.length_append,zeroB_len,hl,Nat.mul_one]
 have grown : ∀ (old : Nat),old < n + m->∀ (row : Option Nat),
     OB (w.drew.alloc (.cells ((bv l).toArray ++ (bv (zeroB m)).toArray ++ Builtin.zeroCells (Value.int .u8 0).cells (grownCap w (n + m) old 5 - (n + m))) 5)) base (.slice (some ⟨w.heap.size,0,none⟩) (n + m) (grownCap w (n + m) old 5)) (n + m) (l ++ zeroB m) /\
     w.grownBy (w.drew.alloc (.cells ((bv l).toArray ++ (bv (zeroB m)).toArray ++ Builtin.zeroCells (Value.int .u8 0).cells (grownCap w (n + m) old 5 - (n + m))) 5)) row:=by
   intro old ho row
   have hge:=grownCap_ge w (n + m) old 5
   have hcm : grownCap w (n + m) old 5<=maxLen:=grownCap_le_maxLen w (n + m) old 5 (by simp only [maxLen]; omega)
   refine ⟨⟨hll,.inr ⟨w.heap.size,_,_,rfl,hbase,heap_alloc_new w.drew _,hge,hcm,?_,?_⟩⟩,⟨rfl,rfl,rfl,by simp,fun k hk _ => Below.heap_alloc w.drew _ k hk⟩⟩
   · simp only [Array.size_append, List.size_toArray, size_zeroCells, bv_length, hl, zeroB_len]
     show _ + _ * 1=_ * 1
     omega
   · simp only [Array.toList_append, List.append_assoc]
     rw [<- List.append_assoc,<- bv_append,<- hll]
     exact List.take_left
 rcases hown.2 with ⟨rfl,rfl⟩ | ⟨g,cap,cur,rfl,hbg,hg,hnc,hcm,hcs,htake⟩
 · have hx : l = [] := List.eq_nil_of_length_eq_zero hl
   subst hx
   by_cases hm : m=0
   · subst hm
     refine ⟨.slice none 0 0,w,?_,OB.nil w base,⟨rfl,rfl,rfl,Nat.le_refl _,fun _ _ _ => rfl⟩,Or.inl rfl⟩
     simp [Builtin.append_,run_underlying ht,run_underlying htn,sizeOf,typeInfo,zeroValue,hi,hz,asInt,asIntOf,hz2,hz1,hw0]
   · have hr := Lib.run_append_nil_zeros (P := Tryz.prog) w 37 3 ty 5 i (.int .u8 0) .i64 .i64 ht htn hi hz m (by omega) (by omega) (by omega) (by rw [hz2]; omega)
     have hgr:=grown 0 (by omega) (Value.ownBlock (.slice none 0 0))
     simp only [Nat.zero_add,List.nil_append,Array.empty_append,bv,List.map_nil,zeroCells_b] at hgr hr ⊢
     exact ⟨_,_,hr,hgr.1,hgr.2,Or.inr rfl⟩
 · by_cases hroom : n + m <= cap
   · have hz0 := zeroCells_b m
     have hst:=run_storeCells_at Tryz.prog g (n * 1) 5 (bv (zeroB m)) 0 cur w hg (by rw [bv_length,zeroB_len,hcs]; omega) (bv_one _)
     simp only [Nat.add_zero,Nat.mul_one] at hst
     refine ⟨.slice (some ⟨g,0,none⟩) (n + m) cap,w.setRow g (cur.toList.take (n * 1) ++ bv (zeroB m) ++ cur.toList.drop (n * 1 + (bv (zeroB m)).length)).toArray,?_,⟨hll,.inr ⟨g,cap,_,rfl,hbg,setRow_heap w g cur _ 5 _ hg,hroom,hcm,?_,?_⟩⟩,⟨rfl,rfl,rfl,by simp,fun k _ hk => setRow_other w g k _ (fun e => hk (by simp [Value.ownBlock,e]))⟩,Or.inl rfl⟩
     · by_cases hm : m = 0
       · subst hm
         have e0 : zeroB 0=[]:=rfl
         simp [e0,bv] at hst
         simp [Builtin.append_,run_underlying ht,run_underlying htn,sizeOf,typeInfo,zeroValue,hi,hz,asInt,asIntOf,hz2,hz1,hw0,hnc,e0,bv,Addr.add_lit,hst]
       · have hm2 : ¬ (m * 1 = 0) := by omega
         simp [Builtin.append_,run_underlying ht,run_underlying htn,sizeOf,typeInfo,zeroValue,hi,hz,asInt,asIntOf,hw,hm,hneg,h48i,hz2,hz1,hroom,hz0,Addr.add_lit]
         simp only [List.append_assoc] at hst
         rw [hst]
         rfl
     · simp only [List.size_toArray, List.length_append, List.length_take, List.length_drop, Array.length_toList, bv_length, zeroB_len]
       omega
     · rw [htake, <- bv_append, <- hll]
       exact List.take_left
   · have hm : ¬ m = 0 := by omega
     have hm2 : ¬ (m * 1=0):=by omega
     have hn : ¬ (n + m<=cap):=hroom
     have h63' : ¬ (9223372036854775807 < ((n : Int) + (m : Int))):=by omega
     have h48' : ¬ (281474976710656 < Builtin.nextslicecap (n + m) cap):=by
       have:=growslice_fits (need:=n + m) (old:=cap) (bytes:=1) (by omega) (by omega)
       omega
     have hfo:=run_firstCells_some (P:=Tryz.prog) w.drew 1 n ⟨g,0,none⟩ n cap (bv l) (by rw [bv_length,hl]; omega) (by simpa using World.ownsRow.cells (g:=g) hown rfl)
     have hgr:=grown cap (by omega) (Value.ownBlock (.slice (some ⟨g,0,none⟩) n cap))
     refine ⟨_,_,?_,hgr.1,hgr.2,Or.inr rfl⟩
     simp [Builtin.append_,run_underlying ht,run_underlying htn,sizeOf,typeInfo,zeroValue,hi,hz,asInt,asIntOf,hw,hm,hm2,hneg,h48i,hz2,hz1,hn,h63',h48',Question.forced,hfo,newRow,grownCap,zeroCells_b]
theorem trimR_any (w : World) (B n c : Nat) (A : Option Addr) (hr : RB w B A n (zeroB n)) (hnc : n<=c) (hn : n<=10000000) :
   Calls Tryz.prog 153 #[.slice A n c,.int .u8 0] w fun e w' => e=.returned (.slice A 0 c)/\w=w':=by
 have hat : Hid (∀ i,i < n->∃ ad,A=some ad/\w.cell? (ad.add i)=some (.int .u8 0)):=hide fun i hi => by
   obtain ⟨ad,e,_,hc⟩:=hr.elem hi (by rw [zeroB_len]; exact hi)
   refine ⟨ad,e,?_⟩
   rw [hc]; simp [zeroB]
 clear hr
 go_enter Tryz.func153,Tryz.ntmps153
 go_wp2_with fail
 go_loopw [0] (fun v0 wx => ∃ m : Nat,v0=.slice A m c/\m<=n/\wx=w) (fun v0 _ => match v0 with | .slice _ m _ => m | _ => 0)
 case atStart => exact ⟨n,rfl,Nat.le_refl _,rfl⟩
 case round =>
   obtain ⟨m,rfl,hm,hwr⟩:=hrel
   subst hwr
   cases m with
   | zero =>
     go_wp2_with fail
     go_ret
     exact ⟨rfl,rfl⟩
   | succ j =>
     obtain ⟨ad,rfl,hc⟩:=hat.out j (by omega)
     have hjI : ((j + 1 : Nat) : Int) - 1=(j : Int):=by omega
     have hjb : (j : Int)<=10000000:=by omega
     obtain ⟨J,hJ⟩ : ∃ J,J=j + 1:=⟨_,rfl⟩
     rw [<- hJ] at hjI ⊢
     have hJp : (0 : Int) < (J : Int):=by omega
     have hJj : (j : Int) < (J : Int):=by omega
     have hJc : (J : Int)<=(c : Int):=by omega
     have hjc : (j : Int)<=(c : Int):=by omega
     replace hJ:=hide hJ
     go_wp2_with fail
     go_roundw
     case rel => exact ⟨j,rfl,by have:=hJ.out; omega,by first | rfl | trivial⟩
     case measure => have:=hJ.out; show j < J; omega
theorem trimL_any (w : World) (c : Nat) (A : Option Addr) :
   Calls Tryz.prog 152 #[.slice A 0 c,.int .u8 0] w fun e w' => e=.returned (.slice none 0 0)/\w=w':=by
 go_enter Tryz.func152,Tryz.ntmps152
 go_wp2_with fail
 go_loopw [0] (fun v0 wx => v0=.slice A 0 c/\wx=w) (fun v0 _ => 0)
 case atStart => exact ⟨rfl,rfl⟩
 case round =>
   obtain ⟨rfl,hwr⟩:=hrel
   subst hwr
   go_wp2_with fail
   go_ret
   exact ⟨rfl,rfl⟩
theorem trim_any (w : World) (B n c : Nat) (A : Option Addr) (hr : RB w B A n (zeroB n)) (hnc : n<=c) (hn : n<=10000000) :
   Calls Tryz.prog 132 #[.slice A n c,.string { data:=#[0] }] w fun e w' => e=.returned (.slice none 0 0)/\∃ q,w'=w.drewN q:=by
 have hR : Hid (∀ q,Calls Tryz.prog 153 #[.slice A n c,.int .u8 0] (w.drewN q) fun e w' => e=.returned (.slice A 0 c)/\w.drewN q=w'):=hide fun q => trimR_any _ B n c A (hr.drewN q) hnc hn
 have hL : Hid (∀ q,Calls Tryz.prog 152 #[.slice A 0 c,.int .u8 0] (w.drewN q) fun e w' => e=.returned (.slice none 0 0)/\w.drewN q=w'):=hide fun q => trimL_any _ c A
 clear hr
 rcases Nat.eq_zero_or_pos n with h0 | h0
 · subst h0
   go_enter Tryz.func132,Tryz.ntmps132
   go_wp2_with fail
   go_ret
   exact ⟨rfl,0,rfl⟩
 · have hne : ((n : Int) == 0) = false := by rw [beq_eq_false_iff_ne]; omega
   go_enter Tryz.func132,Tryz.ntmps132
   go_wp2_with fail
   go_quiet (first | (go_at_call 153; exact quiet_left (hR.out _)) | (go_at_call 152; exact quiet_left (hL.out _)))
   go_wp2_with fail
   go_ret
   exact ⟨rfl,_,rfl⟩
end Go.Proofs.YtiiljlmeililbaaGreatDoor
