/-
  The example of layer 20 holds: the contract of inquestlaw20.wakes.
-/
import Derived.Test.YtnnjcedlomfhoaaGreatDoorHA
namespace Go.Proofs.YtnnjcedlomfhoaaGreatDoor
open Go.RowKit
set_option linter.unusedVariables false
theorem RI.one_new (w : World) (b : Int) (t : TypeId) : RI (w.alloc (.cells #[.int .i64 b] t)) (w.alloc (.cells #[.int .i64 b] t)).heap.size (some ⟨w.heap.size, 0, none⟩) 1 [b] := by
  refine ⟨by simp [iv], fun _ => ⟨_, rfl, by simp, fun j u hj => ?_⟩⟩
  match j, hj with
  | 0, hj => simp [iv] at hj; subst hj; simp [Addr.add]
/-- A row of bytes that has just been laid, written out. -/
theorem RB.lit (w : World) (l : List UInt8) (t : TypeId) (n : Nat) (hn : l.length = n) : RB (w.alloc (.cells (bv l).toArray t)) (w.alloc (.cells (bv l).toArray t)).heap.size (some ⟨w.heap.size, 0, none⟩) n l := by
  refine ⟨by simp [bv, hn], fun _ => ⟨_, rfl, by simp, fun j u hj => ?_⟩⟩
  rw [show (⟨w.heap.size, 0, none⟩ : Addr).add j = ⟨w.heap.size, j, none⟩ from by unfold Addr.add; split <;> simp_all]
  have := cell_of_row (w.alloc (.cells (bv l).toArray t)) w.heap.size j (bv l).toArray t (0, 0) (heap_alloc_new w _)
  rw [this]
  simpa using hj
end Go.Proofs.YtnnjcedlomfhoaaGreatDoor
