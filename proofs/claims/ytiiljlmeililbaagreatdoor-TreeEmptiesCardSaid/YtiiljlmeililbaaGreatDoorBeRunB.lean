/-
  The run of append on rows of bytes of the call's own, as an equation.
-/
import Derived.Test.YtiiljlmeililbaaGreatDoorBeGr3
import Derived.Test.YtiiljlmeililbaaGreatDoorBeGr10
import Derived.Lib.AppendZeros
namespace Go.Proofs.YtiiljlmeililbaaGreatDoor
set_option linter.unusedVariables false
set_option maxRecDepth 100000
open Go.RowKit
theorem run_app_bytes (w : World) (base : Nat) (v : Value) (n : Nat) (l : List UInt8) (hown : OB w base v n l) (B : Nat) (A : Option Addr) (m c : Nat) (news : List UInt8) (hr : RB w B A m news) (ty : TypeId)
   (hlen : n + m<=140737488351232) (hbase : base<=w.heap.size) :
   ∃ v' w',(Builtin.append_ #[37,37] ty #[v,.slice A m c]).run Tryz.prog w=.ok v' w'/\OB w' base v' (n + m) (l ++ news)/\Below base w w'/\w.grownBy w' v.ownBlock/\(v'.ownBlock=v.ownBlock \/ v'.ownBlock=some w.heap.size):=by
 obtain ⟨i0,hi0,hz0,hz1,hz2⟩:=info_parts byte_info
 obtain ⟨v',w',h1,h2,h3,h4⟩:=run_append_any (P:=Tryz.prog) w base 37 ty 5 i0 _ 1 1 Tryz.underlying37 hi0 hz0 hz1 hz2 rfl (by omega) v n (bv l) hown B A m c (bv news) hr (bv_one _) (by simp only [maxLen]; omega) (by omega) hbase
 rw [<- bv_append] at h2
 exact ⟨v',w',h1,h2,(Below.refl _ _).grown h3 hbase (fun k hk => hown.block_lt k hk),h3,h4⟩
theorem RN.one_at {w : World} {g : Nat} {x : Nat} {t : TypeId} (h : Blk w g t #[.int .i64 (x : Int)]) : RN w w.heap.size (some ⟨g,0,none⟩) 1 [x]:=by
 refine ⟨by simp,fun _ => ⟨_,rfl,h.lt,fun j u hj => ?_⟩⟩
 match j,hj with
 | 0,hj => simp [encI] at hj; subst hj; exact h.cell 0
theorem RB.one_at {w : World} {g : Nat} {x : UInt8} {t : TypeId} (h : Blk w g t #[.int .u8 (x.toNat : Int)]) : RB w w.heap.size (some ⟨g,0,none⟩) 1 [x]:=by
 refine ⟨by simp [bv],fun _ => ⟨_,rfl,h.lt,fun j u hj => ?_⟩⟩
 match j,hj with
 | 0,hj => simp [bv] at hj; subst hj; exact h.cell 0
end Go.Proofs.YtiiljlmeililbaaGreatDoor
