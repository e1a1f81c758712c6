/-
  Contract of inquestref24.Same at lists that are alike.
-/
import Derived.Test.YtnhcamkccnaeeaaDoorParH
import Derived.Laws.StructEq
namespace Go.Proofs.YtnhcamkccnaeeaaDoor
open Go.RowKit
set_option linter.unusedVariables false

set_option maxRecDepth 100000 in
set_option maxHeartbeats 1000000 in
theorem sameAsks_any (w : World) (A B : Option Addr) (n c d : Nat) (l : List Ask) (ha : RA w w.heap.size A n l) (hb : RA w w.heap.size B n l) (hn : n ≤ 100000) :
    Calls Tryd.prog 12 #[.slice A n c, .slice B n d] w fun e w' => e = .returned (.bool true) ∧ Below w.heap.size w w' := by
  have hlen := hide ha.len
  replace ha := hide ha
  replace hb := hide hb
  go_enter Tryd.func12, Tryd.ntmps12
  go_wp2_with fail
  go_loopw [5] (fun i wr => ∃ k : Nat, k ≤ n ∧ i = .int .i64 k ∧ Below w.heap.size w wr) (fun i _ => n - (intOf i).toNat)
  case atStart => exact ⟨0, by omega, rfl, Below.refl _ _⟩
  case round =>
    obtain ⟨k, hk, rfl, hbl⟩ := hrel
    by_cases h1 : k < n
    · have hkl : k < l.length := by have := hlen.out; omega
      obtain ⟨ad, rfl, hab, c0, c1, c2, c3, c4, c5, c6⟩ := (ha.out.below hbl).elem h1 hkl
      obtain ⟨bd, rfl, hbb, d0, d1, d2, d3, d4, d5, d6⟩ := (hb.out.below hbl).elem h1 hkl
      generalize l[k] = x at *
      go_wp2_with fail
      go_quiet (fail)
      go_wp2_with fail
      go_roundw
      case rel => exact ⟨k + 1, by omega, by go_num, below_drewN hbl _⟩
      case measure => simp [intOf]; omega
    · go_wp2_with fail
      go_ret
      exact ⟨rfl, hbl⟩
end Go.Proofs.YtnhcamkccnaeeaaDoor
