/-
  Contract of bytes.Clone: a row of the call's own with the same bytes.
-/
import Derived.Test.YtnbfblikpoblgaaDoorLess
import Derived.Test.YtnbfblikpoblgaaDoorBytes
namespace Go.Proofs.YtnbfblikpoblgaaDoor
open Go.RowKit
set_option linter.unusedVariables false

set_option maxHeartbeats 400000 in
theorem clone_any (A : Option Addr) (n c : Nat) (xs : List UInt8) (w : World) (ha : RB w w.heap.size A n xs) (hn : n ≤ 140737488351232) :
    Calls Tryd.prog 30 #[.slice A n c] w (RetB w xs) := by
  have hnil := fun wx => Lib.run_eql_slice_nil (P := Tryd.prog) wx 24 5 A n c 0 0 Tryd.underlying24
  rcases A with _ | ad
  · have hn0 : n = 0 := by
      rcases Nat.eq_zero_or_pos n with h0 | h0
      · exact h0
      · obtain ⟨ad, h, _⟩ := ha.2 h0; cases h
    subst hn0
    have hx : xs = [] := List.eq_nil_of_length_eq_zero ha.len
    subst hx
    clear ha
    go_enter Tryd.func30, Tryd.ntmps30
    go_wp2
    go_ret
    exact RetB.mk (OB.nil _ _) (Below.refl _ _)
  · have HA := hide ha
    clear ha
    go_enter Tryd.func30, Tryd.ntmps30
    go_wp2_with (at_builtin; refine wpList_app_b rfl (.tmp 5) (.tmp 6) rfl w.heap.size _ 0 [] (OB.empty w (Nat.le_refl _)) rfl w.heap.size (some ad) n c xs rfl (HA.out.alloc (Nat.le_refl _) _) (by omega) (by simp) ?_; intro v1 w1 hown1 hb1 hg1 hat1)
    go_ret
    exact RetB.mk hown1 (((Below.refl _ _).alloc (Nat.le_refl _) _).trans hb1)
end Go.Proofs.YtnbfblikpoblgaaDoor
