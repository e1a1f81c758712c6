/-
  Contract of bytes.Trim: noughts, of which all are cut.
-/
import Derived.Test.YthohbbaglceppaaGreatDoorUZeros
namespace Go.Proofs.YthohbbaglceppaaGreatDoor
open Go.RowKit
set_option linter.unusedVariables false
set_option maxRecDepth 100000 in
theorem trimR_any (w : World) (B n c : Nat) (A : Option Addr) (hr : RB w B A n (zeroB n)) (hnc : n ≤ c) (hn : n ≤ 10000000) :
    Calls Tryz.prog 182 #[.slice A n c, .int .u8 0] w fun e w' => e = .returned (.slice A 0 c) ∧ w = w' := by
  have hat : Hid (∀ i, i < n → ∃ ad, A = some ad ∧ w.cell? (ad.add i) = some (.int .u8 0)) := hide fun i hi => by
    obtain ⟨ad, e, _, hc⟩ := hr.elem hi (by rw [zeroB_len]; exact hi)
    refine ⟨ad, e, ?_⟩
    rw [hc]; simp [zeroB]
  clear hr
  go_enter Tryz.func182, Tryz.ntmps182
  go_wp2_with fail
  go_loopw [0] (fun v0 wx => ∃ m : Nat, v0 = .slice A m c ∧ m ≤ n ∧ wx = w) (fun v0 _ => match v0 with | .slice _ m _ => m | _ => 0)
  case atStart => exact ⟨n, rfl, Nat.le_refl _, rfl⟩
  case round =>
    obtain ⟨m, rfl, hm, hwr⟩ := hrel
    subst hwr
    cases m with
    | zero =>
      go_wp2_with fail
      go_ret
      exact ⟨rfl, rfl⟩
    | succ j =>
      obtain ⟨ad, rfl, hc⟩ := hat.out j (by omega)
      have hjI : ((j + 1 : Nat) : Int) - 1 = (j : Int) := by omega
      have hjb : (j : Int) ≤ 10000000 := by omega
      obtain ⟨J, hJ⟩ : ∃ J, J = j + 1 := ⟨_, rfl⟩
      rw [← hJ] at hjI ⊢
      have hJp : (0 : Int) < (J : Int) := by omega
      have hJj : (j : Int) < (J : Int) := by omega
      have hJc : (J : Int) ≤ (c : Int) := by omega
      have hjc : (j : Int) ≤ (c : Int) := by omega
      replace hJ := hide hJ
      go_wp2_with fail
      go_roundw
      case rel => exact ⟨j, rfl, by have := hJ.out; omega, by first | rfl | trivial⟩
      case measure => have := hJ.out; show j < J; omega
set_option maxRecDepth 100000 in
theorem trimL_any (w : World) (c : Nat) (A : Option Addr) :
    Calls Tryz.prog 181 #[.slice A 0 c, .int .u8 0] w fun e w' => e = .returned (.slice none 0 0) ∧ w = w' := by
  go_enter Tryz.func181, Tryz.ntmps181
  go_wp2_with fail
  go_loopw [0] (fun v0 wx => v0 = .slice A 0 c ∧ wx = w) (fun v0 _ => 0)
  case atStart => exact ⟨rfl, rfl⟩
  case round =>
    obtain ⟨rfl, hwr⟩ := hrel
    subst hwr
    go_wp2_with fail
    go_ret
    exact ⟨rfl, rfl⟩
set_option maxRecDepth 100000 in
theorem trim_any (w : World) (B n c : Nat) (A : Option Addr) (hr : RB w B A n (zeroB n)) (hnc : n ≤ c) (hn : n ≤ 10000000) :
    Calls Tryz.prog 150 #[.slice A n c, .string { data := #[0] }] w fun e w' => e = .returned (.slice none 0 0) ∧ ∃ q, w' = w.drewN q := by
  have hR : Hid (∀ q, Calls Tryz.prog 182 #[.slice A n c, .int .u8 0] (w.drewN q) fun e w' => e = .returned (.slice A 0 c) ∧ w.drewN q = w') := hide fun q => trimR_any _ B n c A (hr.drewN q) hnc hn
  have hL : Hid (∀ q, Calls Tryz.prog 181 #[.slice A 0 c, .int .u8 0] (w.drewN q) fun e w' => e = .returned (.slice none 0 0) ∧ w.drewN q = w') := hide fun q => trimL_any _ c A
  clear hr
  rcases Nat.eq_zero_or_pos n with h0 | h0
  · subst h0
    go_enter Tryz.func150, Tryz.ntmps150
    go_wp2_with fail
    go_ret
    exact ⟨rfl, 0, rfl⟩
  · have hne : ((n : Int) == 0) = false := by rw [beq_eq_false_iff_ne]; omega
    go_enter Tryz.func150, Tryz.ntmps150
    go_wp2_with fail
    go_quiet (first | (go_at_call 182; exact quiet_left (hR.out _)) | (go_at_call 181; exact quiet_left (hL.out _)))
    go_wp2_with fail
    go_ret
    exact ⟨rfl, _, rfl⟩
end Go.Proofs.YthohbbaglceppaaGreatDoor
