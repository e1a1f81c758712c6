/-
  Contracts of small functions of layers 18 and 20: Held, Less.
-/
import Derived.Test.YtnbfblikpoblgaaDoorChecked
import Derived.Test.YtnbfblikpoblgaaDoorBase
namespace Go.Proofs.YtnbfblikpoblgaaDoor
open Go.RowKit
set_option linter.unusedVariables false

def heldI (n : Int) : Int := if n < 0 then 0 else if 281474976710655 < n then 281474976710655 else n
theorem heldI_0 (n : Int) : 0 ≤ heldI n := by unfold heldI; split <;> (try split) <;> omega
theorem heldI_1 (n : Int) : heldI n ≤ 281474976710655 := by unfold heldI; split <;> (try split) <;> omega

theorem held_any (n : Int) (w : World) : Calls Tryd.prog 13 #[.int .i64 n] w fun e w' => e = .returned (.int .i64 (heldI n)) ∧ w = w' := by
  by_cases h0 : n < 0
  · have h := hide (show heldI n = 0 by simp [heldI, h0])
    go_enter Tryd.func13, Tryd.ntmps13
    go_wp2
    go_ret
    exact ⟨ret_int h.out.symm, rfl⟩
  · by_cases h1 : 281474976710655 < n
    · have h := hide (show heldI n = 281474976710655 by simp [heldI, h0, h1])
      go_enter Tryd.func13, Tryd.ntmps13
      go_wp2
      go_ret
      exact ⟨ret_int h.out.symm, rfl⟩
    · have H : Hid (heldI n = n) := by simp [heldI, h0, h1, Hid]
      go_enter Tryd.func13, Tryd.ntmps13
      go_wp2
      go_ret
      exact ⟨by simp [H.out], rfl⟩

/-- Bytes in order. -/
def lessB : List UInt8 → List UInt8 → Bool
  | [], [] => false
  | [], _ :: _ => true
  | _ :: _, [] => false
  | a :: l, b :: r => if a = b then lessB l r else decide (a < b)

theorem lessB_app (p l r : List UInt8) : lessB (p ++ l) (p ++ r) = lessB l r := by
  induction p with
  | nil => rfl
  | cons a p ih => simp [lessB, ih]
theorem lessB_split (k : Nat) (xs ys : List UInt8) (h : xs.take k = ys.take k) : lessB xs ys = lessB (xs.drop k) (ys.drop k) := by
  rw [← List.take_append_drop k xs, ← List.take_append_drop k ys, h, lessB_app]
  rw [← h, List.take_append_drop, h, List.take_append_drop]
end Go.Proofs.YtnbfblikpoblgaaDoor
