/-
  A slice of byte slices that came in as an argument.
-/
import Derived.Test.YtiiljlmeililbaaGreatDoorBeRow
import Derived.Test.YtiiljlmeililbaaGreatDoorBeGr45
import Derived.Deep.Matrix
namespace Go.Proofs.YtiiljlmeililbaaGreatDoor
set_option linter.unusedVariables false
set_option maxRecDepth 100000
open Go.ChangeShapes Go.WideShapes Go.ChangeAt Go.RowKit
theorem rowsB_nil (W : World) : RowsB W none 0 0 []:=⟨rfl,Nat.le_refl _,[],rfl,Rd.none_,fun i v k e => by simp at e⟩
theorem rowsB_of (W : World) (a : Addr) (len cap : Nat) (AA : Nat->Option Addr) (LL CC : Nat->Nat) (Z : Nat->List Int) (hl : len<=cap)
   (hr : ∀ r, r < cap -> W.cell? (a.add r) = some (.slice (AA r) (LL r) (CC r)) /\ LL r <= CC r /\ CC r <= maxLen /\ (Z r).length = CC r /\ (∀ n ∈ Z r, (Lit.int .u8 n).wf = true) /\ (AA r = none -> CC r = 0) /\
       ∀ a',AA r=some a'->(0 : Nat)<=a'.block/\∀ c,c < CC r->W.cell? (a'.add c)=some (.int .u8 ((Z r).getD c 0))) : ∃ ks,RowsB W (some a) len cap ks:=by
 have hrow : ∀ r,∃ l : List UInt8,r < cap->RB W W.heap.size (AA r) (LL r) l:=by
   intro r
   by_cases h : r < cap
   · obtain ⟨h1, h2, h3, h4, h5, h6, h7⟩ := hr r h
     have hi : IsRow .u8 W (AA r) (LL r) (CC r) (Z r):=by
       cases hA : AA r with
       | none =>
         have e:=h6 hA
         refine .inl ⟨rfl,by omega,e,List.eq_nil_of_length_eq_zero (by omega)⟩
       | some x => exact .inr ⟨x,rfl,h2,h3,h4,fun i hi => (h7 x hA).2 i (by omega),h5⟩
     obtain ⟨l,hl⟩:=hi.rb
     exact ⟨l,fun _ => hl⟩
   · exact ⟨[],fun h2 => absurd h2 h⟩
 obtain ⟨f,hf⟩:=Classical.axiomOfChoice hrow
 refine ⟨(List.range len).map f,by simp,hl,(List.range len).map fun r => .slice (AA r) (LL r) (CC r),by simp,⟨by simp,fun h0 => ⟨a,rfl,?_,fun j u hj => ?_⟩⟩,fun i v k e1 e2 => ?_⟩
 · have := cell_block_lt (hr 0 (by omega)).1
   rwa [block_of_add] at this
 · have hj2 := (List.getElem?_eq_some_iff.1 hj).1
   simp at hj2
   rw [List.getElem?_map,List.getElem?_range hj2] at hj
   simp at hj
   rw [<- hj]
   exact (hr j (by omega)).1
 · have hi := (List.getElem?_eq_some_iff.1 e1).1
   simp at hi
   rw [List.getElem?_map,List.getElem?_range hi] at e1 e2
   simp at e1 e2
   subst e1; subst e2
   have h9:=hf i (by omega)
   obtain ⟨h1,h2,h3,_⟩:=hr i (by omega)
   have hlen : (f i).length=LL i:=h9.len
   refine ⟨AA i,CC i,by rw [hlen],by rw [hlen]; exact h2,h3,?_⟩
   rw [hlen]
   exact Rd.of_reads h9 fun k hk => hk
end Go.Proofs.YtiiljlmeililbaaGreatDoor
