/-
  What is told of the arguments of the laws of this seat when they come in: slices of integers and of bytes read as lists. Used by the ends of the laws.
-/
import Derived.Test.YtiiljlmeililbaaGreatDoorRows
import Derived.Test.YtiiljlmeililbaaGreatDoorBeGr1
import Derived.ProofKit
import Derived.OpenShut
import Derived.ShutString
import Derived.ChangeOld
namespace Go.Proofs.YtiiljlmeililbaaGreatDoor
set_option linter.unusedVariables false
set_option maxRecDepth 100000
open Go.ChangeShapes Go.WideShapes Go.ChangeAt Go.RowKit
theorem seat_own : ownKnob Tryz.prog.godebug=none:=by kernel_rfl
theorem seat_laidOut : laidOutB Tryz.prog=true:=by kernel_rfl
def IsRow (k : IntKind) (w : World) (a : Option Addr) (len cap : Nat) (zs : List Int) : Prop :=
 (a=none/\len=0/\cap=0/\zs=[]) \/
 ∃ x,a=some x/\len<=cap/\cap<=maxLen/\zs.length=cap/\(∀ i,i < zs.length->w.cell? (x.add i)=some (.int k (zs.getD i 0)))/\∀ n ∈ zs,(Lit.int k n).wf=true
theorem cell_block_lt {w : World} {p : Addr} {v : Value} (h : w.cell? p=some v) : p.block < w.heap.size:=by
 rcases Nat.lt_or_ge p.block w.heap.size with hlt | hge
 · exact hlt
 · simp [World.cell?,Array.getElem?_eq_none hge] at h
theorem IsRow.reads {k : IntKind} {w : World} {a : Option Addr} {len cap : Nat} {zs : List Int} (h : IsRow k w a len cap zs) : Reads w w.heap.size 1 a len ((zs.take len).map (Value.int k)):=by
 rcases h with ⟨rfl,rfl,rfl,rfl⟩ | ⟨x,rfl,hl,hm,hz,hc,_⟩
 · exact Reads.none_
 · refine ⟨by simp; omega, fun h0 => ⟨x, rfl, ?_, fun j u hu => ?_⟩⟩
   · have := cell_block_lt (hc 0 (by omega))
     rwa [block_of_add] at this
   · have hj : j < len/\j < zs.length:=by
       have:=(List.getElem?_eq_some_iff.1 hu).1
       simp at this; omega
     have e : zs.getD j 0=zs[j]'hj.2:=by simp [List.getD,hj.2]
     rw [hc j hj.2,e,<- hu]
     simp [hj.1,hj.2]
theorem bytes_of_ints {zs : List Int} (h : ∀ n ∈ zs,(Lit.int .u8 n).wf=true) : ∃ l : List UInt8,zs.map (Value.int .u8)=bv l:=by
 refine ⟨zs.map fun z => UInt8.ofNat z.toNat,?_⟩
 simp only [bv,List.map_map]
 apply List.map_congr_left
 intro z hz
 have hw:=h z hz
 simp [Lit.wf,IntKind.min,IntKind.max,IntKind.signed,IntKind.bits] at hw
 simp only [Function.comp,UInt8.toNat_ofNat']
 congr 1
 omega
theorem IsRow.rb {w : World} {a : Option Addr} {len cap : Nat} {zs : List Int} (h : IsRow .u8 w a len cap zs) : ∃ l : List UInt8,RB w w.heap.size a len l:=by
 obtain ⟨l,hl⟩:=bytes_of_ints (zs:=zs.take len) (by
   rcases h with ⟨_,_,_,rfl⟩ | ⟨_,_,_,_,_,_,hw⟩
   · simp
   · exact fun n hn => hw n (List.mem_of_mem_take hn))
 exact ⟨l,by rw [RB,<- hl]; exact h.reads⟩
end Go.Proofs.YtiiljlmeililbaaGreatDoor
