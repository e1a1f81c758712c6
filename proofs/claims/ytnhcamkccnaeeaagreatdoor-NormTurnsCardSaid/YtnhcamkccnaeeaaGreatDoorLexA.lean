/-
  Contracts of layer 23's small functions: small, digit, the blank's closure, run, number.
-/
import Derived.Test.YtnhcamkccnaeeaaGreatDoorLexSpec
namespace Go.Proofs.YtnhcamkccnaeeaaGreatDoor
open Go.RowKit
set_option linter.unusedVariables false

theorem small_any (c : UInt8) (w : World) : Calls Tryz.prog 84 #[.int .u8 (c.toNat : Int)] w fun e w' => e = .returned (.bool (smallB c)) ∧ w = w' := by
  have hs := hide (show smallB c = (decide ((97 : Int) ≤ (c.toNat : Int)) && decide ((c.toNat : Int) ≤ 122)) from rfl)
  rw [hs.out]
  generalize (c.toNat : Int) = x
  clear hs
  by_cases h1 : (97 : Int) ≤ x
  · go_enter Tryz.func84, Tryz.ntmps84
    go_wp2
    go_ret
    exact ⟨ret_bool (by simp; try omega), rfl⟩
  · go_enter Tryz.func84, Tryz.ntmps84
    go_wp2
    go_ret
    exact ⟨ret_bool (by simp; try omega), rfl⟩
theorem digit_any (c : UInt8) (w : World) : Calls Tryz.prog 85 #[.int .u8 (c.toNat : Int)] w fun e w' => e = .returned (.bool (digitB c)) ∧ w = w' := by
  have hs := hide (show digitB c = (decide ((48 : Int) ≤ (c.toNat : Int)) && decide ((c.toNat : Int) ≤ 57)) from rfl)
  rw [hs.out]
  generalize (c.toNat : Int) = x
  clear hs
  by_cases h1 : (48 : Int) ≤ x
  · go_enter Tryz.func85, Tryz.ntmps85
    go_wp2
    go_ret
    exact ⟨ret_bool (by simp; try omega), rfl⟩
  · go_enter Tryz.func85, Tryz.ntmps85
    go_wp2
    go_ret
    exact ⟨ret_bool (by simp; try omega), rfl⟩
theorem blank_any (c : UInt8) (w : World) : Calls Tryz.prog 83 #[.int .u8 (c.toNat : Int)] w fun e w' => e = .returned (.bool (blankB c)) ∧ w = w' := by
  have hs := hide (show blankB c = ((c.toNat : Int) == 32) from rfl)
  rw [hs.out]
  generalize (c.toNat : Int) = x
  clear hs
  go_enter Tryz.func83, Tryz.ntmps83
  go_wp2
  go_ret
  exact ⟨rfl, rfl⟩

theorem runL_drop (p : UInt8 → Bool) (l : List UInt8) (k : Nat) (h : k < l.length) : runL p (l.drop k) = if p l[k] then runL p (l.drop (k + 1)) + 1 else 0 := by
  rw [List.drop_eq_getElem_cons h, runL_cons]

set_option maxHeartbeats 400000 in
theorem run_small (s : ByteArray) (p0 : Nat) (w : World) (hs : s.size ≤ 1000000) (hp : p0 ≤ s.size) :
    Calls Tryz.prog 82 #[.string s, .int .i64 (p0 : Int), .func (.func 84) #[] #[]] w fun e w' => e = .returned (.int .i64 (p0 + runL smallB (s.data.toList.drop p0) : Nat)) ∧ w = w' := by
  have hlen := hide (data_len s)
  go_enter Tryz.func82, Tryz.ntmps82
  go_wp2
  go_loop [1] (fun i => ∃ k : Nat, k ≤ s.size ∧ i = .int .i64 (k : Int) ∧ Hid (p0 + runL smallB (s.data.toList.drop p0) = k + runL smallB (s.data.toList.drop k))) (fun i => s.size - (intOf i).toNat)
  case atStart => exact ⟨p0, hp, rfl, rfl⟩
  case round =>
    obtain ⟨k, hk, rfl, HE⟩ := hrel
    by_cases h1 : k < s.size
    · have hd := hide (runL_drop smallB s.data.toList k (by have := hlen.out; omega))
      have hget := hide (str_get s k h1 (by have := hlen.out; omega))
      by_cases h2 : smallB s.data.toList[k] = true
      · have HE2 : Hid (p0 + runL smallB (s.data.toList.drop p0) = (k + 1) + runL smallB (s.data.toList.drop (k + 1))) := by
          have := hd.out
          rw [if_pos h2] at this
          rw [Hid, HE.out]; omega
        have h3 : smallB s[k] = true := by rw [hget.out]; exact h2
        clear hd HE h2 hget
        go_wp2_with (go_at_call 84; refine (small_any _ _).mono ?_; rintro e w' ⟨rfl, rfl⟩)
        go_round
        case rel => exact ⟨k + 1, by omega, by go_num, HE2⟩
        case measure => simp [intOf]; omega
      · have HE2 : Hid (p0 + runL smallB (s.data.toList.drop p0) = k) := by
          have := hd.out
          rw [if_neg h2] at this
          rw [Hid, HE.out]; omega
        have h3 : smallB s[k] = false := by rw [hget.out]; simpa using h2
        clear hd HE h2 hget
        go_wp2_with (go_at_call 84; refine (small_any _ _).mono ?_; rintro e w' ⟨rfl, rfl⟩)
        go_ret
        exact ⟨ret_int (by have := HE2.out; omega), rfl⟩
    · have HE2 : Hid (p0 + runL smallB (s.data.toList.drop p0) = k) := by
        rw [Hid, HE.out, List.drop_of_length_le (by have := hlen.out; omega)]; rfl
      clear HE
      go_wp2
      go_ret
      exact ⟨ret_int (by have := HE2.out; omega), rfl⟩
set_option maxHeartbeats 400000 in
theorem run_digit (s : ByteArray) (p0 : Nat) (w : World) (hs : s.size ≤ 1000000) (hp : p0 ≤ s.size) :
    Calls Tryz.prog 82 #[.string s, .int .i64 (p0 : Int), .func (.func 85) #[] #[]] w fun e w' => e = .returned (.int .i64 (p0 + runL digitB (s.data.toList.drop p0) : Nat)) ∧ w = w' := by
  have hlen := hide (data_len s)
  go_enter Tryz.func82, Tryz.ntmps82
  go_wp2
  go_loop [1] (fun i => ∃ k : Nat, k ≤ s.size ∧ i = .int .i64 (k : Int) ∧ Hid (p0 + runL digitB (s.data.toList.drop p0) = k + runL digitB (s.data.toList.drop k))) (fun i => s.size - (intOf i).toNat)
  case atStart => exact ⟨p0, hp, rfl, rfl⟩
  case round =>
    obtain ⟨k, hk, rfl, HE⟩ := hrel
    by_cases h1 : k < s.size
    · have hd := hide (runL_drop digitB s.data.toList k (by have := hlen.out; omega))
      have hget := hide (str_get s k h1 (by have := hlen.out; omega))
      by_cases h2 : digitB s.data.toList[k] = true
      · have HE2 : Hid (p0 + runL digitB (s.data.toList.drop p0) = (k + 1) + runL digitB (s.data.toList.drop (k + 1))) := by
          have := hd.out
          rw [if_pos h2] at this
          rw [Hid, HE.out]; omega
        have h3 : digitB s[k] = true := by rw [hget.out]; exact h2
        clear hd HE h2 hget
        go_wp2_with (go_at_call 85; refine (digit_any _ _).mono ?_; rintro e w' ⟨rfl, rfl⟩)
        go_round
        case rel => exact ⟨k + 1, by omega, by go_num, HE2⟩
        case measure => simp [intOf]; omega
      · have HE2 : Hid (p0 + runL digitB (s.data.toList.drop p0) = k) := by
          have := hd.out
          rw [if_neg h2] at this
          rw [Hid, HE.out]; omega
        have h3 : digitB s[k] = false := by rw [hget.out]; simpa using h2
        clear hd HE h2 hget
        go_wp2_with (go_at_call 85; refine (digit_any _ _).mono ?_; rintro e w' ⟨rfl, rfl⟩)
        go_ret
        exact ⟨ret_int (by have := HE2.out; omega), rfl⟩
    · have HE2 : Hid (p0 + runL digitB (s.data.toList.drop p0) = k) := by
        rw [Hid, HE.out, List.drop_of_length_le (by have := hlen.out; omega)]; rfl
      clear HE
      go_wp2
      go_ret
      exact ⟨ret_int (by have := HE2.out; omega), rfl⟩
set_option maxHeartbeats 400000 in
theorem run_blank (s : ByteArray) (p0 : Nat) (w : World) (hs : s.size ≤ 1000000) (hp : p0 ≤ s.size) :
    Calls Tryz.prog 82 #[.string s, .int .i64 (p0 : Int), .func (.func 83) #[] #[]] w fun e w' => e = .returned (.int .i64 (p0 + runL blankB (s.data.toList.drop p0) : Nat)) ∧ w = w' := by
  have hlen := hide (data_len s)
  go_enter Tryz.func82, Tryz.ntmps82
  go_wp2
  go_loop [1] (fun i => ∃ k : Nat, k ≤ s.size ∧ i = .int .i64 (k : Int) ∧ Hid (p0 + runL blankB (s.data.toList.drop p0) = k + runL blankB (s.data.toList.drop k))) (fun i => s.size - (intOf i).toNat)
  case atStart => exact ⟨p0, hp, rfl, rfl⟩
  case round =>
    obtain ⟨k, hk, rfl, HE⟩ := hrel
    by_cases h1 : k < s.size
    · have hd := hide (runL_drop blankB s.data.toList k (by have := hlen.out; omega))
      have hget := hide (str_get s k h1 (by have := hlen.out; omega))
      by_cases h2 : blankB s.data.toList[k] = true
      · have HE2 : Hid (p0 + runL blankB (s.data.toList.drop p0) = (k + 1) + runL blankB (s.data.toList.drop (k + 1))) := by
          have := hd.out
          rw [if_pos h2] at this
          rw [Hid, HE.out]; omega
        have h3 : blankB s[k] = true := by rw [hget.out]; exact h2
        clear hd HE h2 hget
        go_wp2_with (go_at_call 83; refine (blank_any _ _).mono ?_; rintro e w' ⟨rfl, rfl⟩)
        go_round
        case rel => exact ⟨k + 1, by omega, by go_num, HE2⟩
        case measure => simp [intOf]; omega
      · have HE2 : Hid (p0 + runL blankB (s.data.toList.drop p0) = k) := by
          have := hd.out
          rw [if_neg h2] at this
          rw [Hid, HE.out]; omega
        have h3 : blankB s[k] = false := by rw [hget.out]; simpa using h2
        clear hd HE h2 hget
        go_wp2_with (go_at_call 83; refine (blank_any _ _).mono ?_; rintro e w' ⟨rfl, rfl⟩)
        go_ret
        exact ⟨ret_int (by have := HE2.out; omega), rfl⟩
    · have HE2 : Hid (p0 + runL blankB (s.data.toList.drop p0) = k) := by
        rw [Hid, HE.out, List.drop_of_length_le (by have := hlen.out; omega)]; rfl
      clear HE
      go_wp2
      go_ret
      exact ⟨ret_int (by have := HE2.out; omega), rfl⟩
end Go.Proofs.YtnhcamkccnaeeaaGreatDoor
