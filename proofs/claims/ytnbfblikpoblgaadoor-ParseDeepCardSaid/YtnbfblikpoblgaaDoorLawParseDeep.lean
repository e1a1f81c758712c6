/-
  The walk of the law ParseDeep.
-/
import Derived.Test.YtnbfblikpoblgaaDoorParW
namespace Go.Proofs.YtnbfblikpoblgaaDoor
open Go.RowKit
set_option linter.unusedVariables false

/-- k nots ahead of a term. -/
def nt : Nat → List UInt8
  | 0 => [115, 105, 122, 101, 32, 61, 32, 49]
  | k + 1 => [110, 111, 116, 32] ++ nt k
theorem nt_len (k : Nat) : (nt k).length = 8 + 4 * k := by
  induction k with
  | zero => rfl
  | succ k ih => rw [nt, List.length_append, ih]; simp; omega
def ntE (k : Nat) : Int := if 15 < k then 11 else 0
def ntN (k : Nat) : Nat := if 15 < k then 0 else k + 1
theorem nt_law : ∀ k, k < 60 → parsedE (nt k) = ntE k ∧ (parsedL (nt k)).length = ntN k ∧ deepL (parsedL (nt k)) = ntN k := by decide +kernel

set_option maxRecDepth 100000 in
set_option maxHeartbeats 2000000 in
theorem parseDeep_walk (w : World) (hA : Asp w) (hgb : 0 < w.heap.size) (x : Int) (hx0 : 0 ≤ x) (hx1 : x ≤ 255) :
    Calls Tryd.prog 7 #[.int .u8 x] w fun e w' => e = .returned (.bool true) ∧ Below w.heap.size w w' := by
  have hA' := hide hA
  clear hA
  go_enter Tryd.func7, Tryd.ntmps7
  go_wp2_with fail
  refine (wakes24_any w hA'.out hgb).mono ?_
  rintro e w1 ⟨rfl, hb1⟩
  obtain ⟨k, hk, hk60⟩ : ∃ k : Nat, x % 60 = (k : Int) ∧ k < 60 := ⟨(x % 60).toNat, by omega, by omega⟩
  have hmod : Hid (x % 60 = (k : Int)) := hk
  clear hk
  have hA1 := asp_below hA'.out hb1 hgb
  have hsz := hb1.size
  replace hA1 := hide hA1
  have hlaw := hide (nt_law k hk60)
  go_upto_region 4 with (fail)
  rw [hmod.out]
  go_wp2_with fail
  go_loop [4, 13] (fun t i => ∃ j : Nat, j ≤ k ∧ i = .int .i64 j ∧ t = .string (str (nt j))) (fun _ i => k - (intOf i).toNat)
  case atStart => exact ⟨0, by omega, rfl, rfl⟩
  case round =>
    obtain ⟨j, hj, rfl, rfl⟩ := hrel
    have hl : (str (nt j)).size ≤ 300 := by rw [str_size, nt_len]; omega
    by_cases h1 : j < k
    · have hnext : Hid (ByteArray.mk #[110, 111, 116, 32] ++ str (nt j) = str (nt (j + 1))) := by
        show str [110, 111, 116, 32] ++ _ = _
        rw [str_append]; rfl
      go_wp2_with fail
      go_round
      case rel => exact ⟨j + 1, by omega, by go_num, by rw [← hnext.out]⟩
      case measure => simp [intOf]; omega
    · have hjk : j = k := by omega
      subst hjk
      go_wp2_with fail
      refine (parse_any (str (nt j)) w1 (by omega) hA1.out (by omega)).mono ?_
      rintro e w2 ⟨v, rfl, ho, hb2⟩
      rw [str_toList] at *
      obtain ⟨hE, hN, hD⟩ := hlaw.out
      rw [hE]
      rw [hN] at ho
      generalize parsedL (nt j) = l at *
      obtain ⟨A, c, rfl, hRA, -, -, -⟩ := ho.form
      have hbw := hb1.trans (hb2.mono hsz)
      replace hRA := hide hRA
      clear ho hlaw hE hl
      by_cases c1 : 15 < j
      · have e1 : ntE j = 11 := by rw [ntE, if_pos c1]
        have e2 : ntN j = 0 := by rw [ntN, if_pos c1]
        rw [e1]
        rw [e2]
        clear hRA hD hN e1 e2
        go_wp2_with fail
        go_ret
        exact ⟨rfl, hbw⟩
      · have e1 : ntE j = 0 := by rw [ntE, if_neg c1]
        have e2 : ntN j = j + 1 := by rw [ntN, if_neg c1]
        rw [e1]
        rw [e2] at hRA hD ⊢
        replace hD := hide hD
        clear e1 e2 hN
        go_wp2_with fail
        refine (deep_any w2 A (j + 1) c l hRA.out (by omega)).mono ?_
        rintro e w3 ⟨rfl, hb3⟩
        rw [hD.out]
        have hbw3 := hbw.trans (hb3.mono hbw.size)
        clear hRA hD
        go_wp2_with fail
        go_ret
        exact ⟨ret_bool (by simp), hbw3⟩
end Go.Proofs.YtnbfblikpoblgaaDoor
