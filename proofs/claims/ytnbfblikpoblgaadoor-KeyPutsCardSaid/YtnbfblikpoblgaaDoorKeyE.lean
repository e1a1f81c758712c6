/-
  The example of layer 20 holds: the contract of inquestlaw20.wakes.
-/
import Derived.Test.YtnbfblikpoblgaaDoorKeyC
namespace Go.Proofs.YtnbfblikpoblgaaDoor
open Go.RowKit
set_option linter.unusedVariables false

theorem RI.one_new (w : World) (b : Int) (t : TypeId) : RI (w.alloc (.cells #[.int .i64 b] t)) (w.alloc (.cells #[.int .i64 b] t)).heap.size (some ⟨w.heap.size, 0, none⟩) 1 [b] := by
  refine ⟨by simp [iv], fun _ => ⟨_, rfl, by simp, fun j u hj => ?_⟩⟩
  match j, hj with
  | 0, hj => simp [iv] at hj; subst hj; simp [Addr.add]
/-- A row of bytes that has just been laid, written out. -/
theorem RB.lit (w : World) (l : List UInt8) (t : TypeId) (n : Nat) (hn : l.length = n) : RB (w.alloc (.cells (bv l).toArray t)) (w.alloc (.cells (bv l).toArray t)).heap.size (some ⟨w.heap.size, 0, none⟩) n l := by
  refine ⟨by simp [bv, hn], fun _ => ⟨_, rfl, by simp, fun j u hj => ?_⟩⟩
  rw [show (⟨w.heap.size, 0, none⟩ : Addr).add j = ⟨w.heap.size, j, none⟩ from by unfold Addr.add; split <;> simp_all]
  have := cell_of_row (w.alloc (.cells (bv l).toArray t)) w.heap.size j (bv l).toArray t (0, 0) (heap_alloc_new w _)
  rw [this]
  simpa using hj

set_option maxHeartbeats 400000 in
theorem wakes20_any (w : World) : Calls Tryd.prog 10 #[] w fun e w' => e = .returned (.bool true) ∧ Below w.heap.size w w' := by
  go_enter Tryd.func10, Tryd.ntmps10
  go_wp2_with fail
  refine (num_any _ _ 0 1 _ _ [] [258] _ (RB.nil _ _) (RI.one_new _ _ _) (by omega) (by omega)).mono ?_
  rintro e w1 ⟨v1, rfl, ho1, hb1⟩
  obtain ⟨A1, c1, rfl, hr1, _⟩ := ho1.form
  have hsz : w.heap.size + 1 ≤ w1.heap.size := by have := hb1.size; simpa using this
  have hb1' := (((Below.refl w.heap.size w).alloc (Nat.le_refl _) _).trans (hb1.mono (by simp)))
  replace hr1 := hide hr1
  clear ho1 hb1
  go_wp2_with fail
  have h2 := RB.lit w1 [0, 0, 0, 0, 1, 2] 5 6 rfl
  have e2 : (bv [0, 0, 0, 0, 1, 2]).toArray = #[Value.int .u8 0, .int .u8 0, .int .u8 0, .int .u8 0, .int .u8 1, .int .u8 2] := rfl
  rw [e2] at h2
  have h1 := (hr1.out.alloc (Nat.le_refl _) (.cells #[Value.int .u8 0, .int .u8 0, .int .u8 0, .int .u8 0, .int .u8 1, .int .u8 2] 5)).more (B' := (w1.alloc (.cells #[Value.int .u8 0, .int .u8 0, .int .u8 0, .int .u8 0, .int .u8 1, .int .u8 2] 5)).heap.size) (by simp)
  refine (same_any _ _ _ _ _ _ _ _ _ h1 h2 (by simp [numsB, numB]) (by omega)).mono ?_
  rintro e w2 ⟨rfl, hq⟩
  have hd : decide ([] ++ numsB [258] = [0, 0, 0, 0, 1, 2]) = true := by decide
  have hbel := ((hb1'.alloc (by omega) (.cells #[Value.int .u8 0, .int .u8 0, .int .u8 0, .int .u8 0, .int .u8 1, .int .u8 2] 5)).trans (hq.below _))
  clear h1 h2 hr1
  go_wp2_with fail
  go_ret
  exact ⟨ret_bool hd, hbel⟩
end Go.Proofs.YtnbfblikpoblgaaDoor
