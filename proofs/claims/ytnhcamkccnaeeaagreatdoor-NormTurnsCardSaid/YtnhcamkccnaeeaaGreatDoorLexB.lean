/-
  Contract of lex.number: the number of digits.
-/
import Derived.Test.YtnhcamkccnaeeaaGreatDoorLexSpec
namespace Go.Proofs.YtnhcamkccnaeeaaGreatDoor
open Go.RowKit
set_option linter.unusedVariables false

theorem numOf_snoc (d : List UInt8) (c : UInt8) : numOf (d ++ [c]) = 10 * numOf d + ((c.toNat : Int) - 48) := by simp [numOf]
theorem numOf_take (d : List UInt8) (k : Nat) (h : k < d.length) : numOf (d.take (k + 1)) = 10 * numOf (d.take k) + ((d[k].toNat : Int) - 48) := by
  rw [List.take_succ_eq_append_getElem h, numOf_snoc]
theorem digit_bounds {c : UInt8} (h : digitB c = true) : 48 ≤ (c.toNat : Int) ∧ (c.toNat : Int) ≤ 57 := by
  simpa [digitB] using h
theorem numOf_bounds (d : List UInt8) (h : ∀ c ∈ d, digitB c = true) (k : Nat) (hk : k ≤ d.length) : 0 ≤ numOf (d.take k) ∧ numOf (d.take k) + 1 ≤ 10 ^ k := by
  induction k with
  | zero => simp [numOf]
  | succ k ih =>
    have := ih (by omega)
    rw [numOf_take d k (by omega), Int.pow_succ]
    have hb := digit_bounds (h d[k] (List.getElem_mem _))
    omega
theorem numOf_small (d : List UInt8) (h : ∀ c ∈ d, digitB c = true) (k : Nat) (hk : k ≤ d.length) (h15 : d.length ≤ 15) : 0 ≤ numOf (d.take k) ∧ numOf (d.take k) ≤ 1000000000000000 := by
  have := numOf_bounds d h k hk
  have h2 : (10 : Int) ^ k ≤ 10 ^ 15 := by
    have : (10 : Nat) ^ k ≤ 10 ^ 15 := Nat.pow_le_pow_right (by omega) (by omega)
    exact_mod_cast this
  have h3 : (10 : Int) ^ 15 = 1000000000000000 := by decide
  omega

theorem u8_eq_iff (a : UInt8) (n : Nat) (hn : n < 256) : ((a.toNat : Int) == (n : Int)) = (a == UInt8.ofNat n) := by
  rw [Bool.eq_iff_iff, beq_iff_eq, beq_iff_eq]
  have h : (UInt8.ofNat n).toNat = n := by rw [UInt8.toNat_ofNat']; omega
  constructor
  · intro e; apply UInt8.toNat_inj.1; omega
  · intro e; rw [e, h]
theorem head_is (l : List UInt8) (h : 0 < l.length) : (l.head? == some 48) = ((l[0].toNat : Int) == 48) := by
  cases l with
  | nil => simp at h
  | cons a l =>
    simp only [List.head?_cons, List.getElem_cons_zero]
    rw [show (48 : Int) = ((48 : Nat) : Int) from rfl, u8_eq_iff a 48 (by omega)]
    rfl
/-- What the program's number answers. -/
def numR (d : List UInt8) : Int := if numBad d then -1 else numOf d

set_option maxHeartbeats 400000 in
theorem number_any (s : ByteArray) (w : World) (hd : ∀ c ∈ s.data.toList, digitB c = true) (hs0 : 0 < s.size) (hs : s.size ≤ 1000000) :
    Calls Tryz.prog 86 #[.string s] w fun e w' => e = .returned (.int .i64 (numR s.data.toList)) ∧ w = w' := by
  have hlen := hide (data_len s)
  have HD := hide hd
  clear hd
  by_cases h15 : s.size ≤ 15
  · have hget0 := hide (str_get s 0 hs0 (by have := hlen.out; omega))
    have hbad : Hid (numBad s.data.toList = (decide (1 < s.size) && ((s[0].toNat : Int) == 48))) := by
      have e2 : decide (15 < s.data.toList.length) = false := by have := hlen.out; simp; omega
      have e3 : decide (1 < s.data.toList.length) = decide (1 < s.size) := by rw [hlen.out]
      rw [Hid, numBad, e2, head_is _ (by have := hlen.out; omega), e3, hget0.out]; simp
    clear hget0
    by_cases hb : 1 < s.size ∧ ((s[0].toNat : Int) == 48) = true
    · obtain ⟨hb3, hb4⟩ := hb
      have HB : Hid (numR s.data.toList = -1) := by
        rw [Hid, numR, hbad.out, hb4]; simp [hb3]
      clear hbad
      go_enter Tryz.func86, Tryz.ntmps86
      go_wp2
      go_ret
      exact ⟨ret_int HB.out.symm, rfl⟩
    · have HB : Hid (numR s.data.toList = numOf s.data.toList) := by
        have : (decide (1 < s.size) && ((s[0].toNat : Int) == 48)) = false := by
          by_cases h1 : 1 < s.size <;> simp [h1] at hb ⊢
          exact hb
        rw [Hid, numR, hbad.out, this]; simp
      clear hbad
      have h0 : ¬ (1 < s.size) ∨ (1 < s.size ∧ ((s[0].toNat : Int) == 48) = false) := by
        by_cases h1 : 1 < s.size
        · right; exact ⟨h1, by simpa [h1] using hb⟩
        · left; exact h1
      clear hb
      have hN := hide (fun k hk => numOf_small s.data.toList HD.out k hk (by have := hlen.out; omega))
      rcases h0 with h1 | ⟨h1, h2⟩
      all_goals
        go_enter Tryz.func86, Tryz.ntmps86
        go_wp2
        go_loop [3, 20] (fun v i => ∃ k : Nat, k ≤ s.size ∧ i = .int .i64 k ∧ v = .int .i64 (numOf (s.data.toList.take k))) (fun _ i => s.size - (intOf i).toNat)
        case atStart => exact ⟨0, by omega, rfl, rfl⟩
        case round =>
          obtain ⟨k, hk, rfl, rfl⟩ := hrel
          have hb := hN.out k (by have := hlen.out; omega)
          by_cases hk1 : k < s.size
          · have hk2 : k < s.data.toList.length := by have := hlen.out; omega
            have hget := str_get s k hk1 hk2
            have hdig := digit_bounds (HD.out s.data.toList[k] (List.getElem_mem _))
            have hT := hide (numOf_take s.data.toList k hk2)
            rw [← hget] at hdig hT
            replace hget := hide hget
            obtain ⟨hb1, hb2⟩ := hb
            obtain ⟨hdig1, hdig2⟩ := hdig
            generalize numOf (s.data.toList.take k) = v0 at *
            go_wp2
            go_round
            case rel => exact ⟨k + 1, by omega, by go_num, by rw [hT.out]⟩
            case measure => simp [intOf]; omega
          · have hE : Hid (numR s.data.toList = numOf (s.data.toList.take k)) := by
              rw [Hid, HB.out, List.take_of_length_le (by have := hlen.out; omega)]
            clear hb
            go_wp2
            go_ret
            exact ⟨ret_int hE.out.symm, rfl⟩
  · have HB : Hid (numR s.data.toList = -1) := by
      have := hlen.out
      have : numBad s.data.toList = true := by simp [numBad]; left; simp at this; omega
      simp [Hid, numR, this]
    go_enter Tryz.func86, Tryz.ntmps86
    go_wp2
    go_ret
    exact ⟨ret_int HB.out.symm, rfl⟩
end Go.Proofs.YtnhcamkccnaeeaaGreatDoor
