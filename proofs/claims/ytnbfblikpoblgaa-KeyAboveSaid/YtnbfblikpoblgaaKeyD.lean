/-
  Contract of key.Above.
-/
import Derived.Test.YtnbfblikpoblgaaKeyC
namespace Go.Proofs.Ytnbfblikpoblgaa
open Go.RowKit
set_option linter.unusedVariables false

/-- The least key above all that begin so, on a list read from its end. -/
def aboveR : List UInt8 → List UInt8
  | [] => []
  | b :: r => if b = 255 then aboveR r else (b + 1) :: r
def aboveB (l : List UInt8) : List UInt8 := (aboveR l.reverse).reverse
theorem aboveB_snoc (l : List UInt8) (b : UInt8) : aboveB (l ++ [b]) = if b = 255 then aboveB l else l ++ [b + 1] := by
  unfold aboveB
  rw [List.reverse_append]
  simp only [List.reverse_cons, List.reverse_nil, List.nil_append, List.cons_append, aboveR]
  split <;> simp
theorem aboveB_take (l : List UInt8) (k : Nat) (h : k < l.length) : aboveB (l.take (k + 1)) = if l[k] = 255 then aboveB (l.take k) else l.take k ++ [l[k] + 1] := by
  rw [List.take_succ_eq_append_getElem h, aboveB_snoc]
theorem aboveB_set (l : List UInt8) (k : Nat) (h : k < l.length) : (l.take (k + 1)).set k (l[k] + 1) = l.take k ++ [l[k] + 1] := by
  rw [List.take_succ_eq_append_getElem h, List.set_append_right _ _ (by simp; omega)]
  simp [Nat.min_eq_left (Nat.le_of_lt h)]
theorem u8_next (b : UInt8) (h : b ≠ 255) : ((b + 1).toNat : Int) = (b.toNat : Int) + 1 := by
  have : b.toNat ≠ 255 := fun e => h (by apply UInt8.toNat_inj.1; simpa using e)
  have := b.toNat_lt
  rw [UInt8.toNat_add]; simp; omega

set_option maxHeartbeats 400000 in
theorem above_any (A : Option Addr) (n c : Nat) (xs : List UInt8) (w : World) (ha : RB w w.heap.size A n xs) (hn : n ≤ 100000) :
    Calls Try.prog 12 #[.slice A n c] w (RetB w (aboveB xs)) := by
  have hnl := hide ha.len
  have HA := hide ha
  clear ha
  go_enter Try.func12, Try.ntmps12
  go_wp2_with fail
  refine (clone_any _ _ _ _ _ HA.out (by omega)).mono ?_
  rintro e w1 ⟨v1, rfl, hown1, hb1⟩
  rw [hnl.out] at hown1
  have hxl := hnl
  rcases hown1.parts with ⟨rfl, rfl, rfl⟩ | ⟨g, cap, rfl, hcap, hcap2⟩
  · clear hown1
    go_wp2_with fail
    refine wp_loop_rounds 1 ?_
    rw [rounds_succ]
    go_wp2
    go_ret
    exact RetB.mk (OB.nil _ _) hb1
  · replace hown1 := hide hown1
    go_wp2_with fail
    go_loop [3] (fun v => ∃ k : Nat, k ≤ n ∧ v = .slice (some ⟨g, 0, none⟩) k cap ∧ Hid (aboveB xs = aboveB (xs.take k))) (fun v => match v with | .slice _ k _ => k | _ => 0)
    case atStart => exact ⟨n, Nat.le_refl _, rfl, by have := hxl.out; rw [Hid, List.take_of_length_le (by omega)]⟩
    case round =>
      obtain ⟨k, hk, rfl, HE⟩ := hrel
      by_cases h0 : k = 0
      · subst h0
        have hnil : Hid (aboveB xs = []) := by rw [Hid, HE.out]; rfl
        go_wp2
        go_ret
        exact RetB.mk2 (OB.nil _ _) hnil.out hb1
      · obtain ⟨j, rfl⟩ : ∃ j, k = j + 1 := ⟨k - 1, by omega⟩
        have hj : j < xs.length := by have := hxl.out; omega
        have hc := hown1.out.cell (k := j) (by omega) hj
        have hf := hown1.out.froz (k := j)
        have hT := hide (aboveB_take xs j hj)
        by_cases h255 : xs[j] = 255
        · have HE2 : Hid (aboveB xs = aboveB (xs.take j)) := by rw [Hid, HE.out, hT.out, if_pos h255]
          rw [h255, show (((255 : UInt8).toNat : Int)) = 255 from rfl] at hc
          clear hT HE h255
          go_wp2
          go_round
          case rel => exact ⟨j, by omega, by go_num, HE2⟩
          case measure => simp
        · have hne : ((xs[j].toNat : Int) == 255) = false := by
            rw [beq_eq_false_iff_ne]; intro e; apply h255; apply UInt8.toNat_inj.1
            have : (255 : UInt8).toNat = 255 := rfl
            omega
          have HE2 : Hid (aboveB xs = (xs.take (j + 1)).set j (xs[j] + 1)) := by rw [Hid, HE.out, hT.out, if_neg h255, aboveB_set]
          have HU := hide (u8_next xs[j] h255)
          have HB := hide ((hown1.out.cut hk).stored j (xs[j] + 1))
          have hgb := hown1.out.base_le
          rw [HU.out] at HB
          have hlt := xs[j].toNat_lt
          have hlt2 : (xs[j].toNat : Int) ≤ 254 := by
            have : (xs[j].toNat : Int) ≠ 255 := by simpa using hne
            omega
          have hge : 0 ≤ (xs[j].toNat : Int) := by omega
          clear hT HE h255 HU
          generalize (xs[j].toNat : Int) = x at *
          go_wp2
          go_ret
          exact RetB.mk2 HB.out HE2.out (hb1.setCell hgb _)
end Go.Proofs.Ytnbfblikpoblgaa
