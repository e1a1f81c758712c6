/-
  The walk of the law DeflateStored.
-/
import Derived.Test.YtbchaomnjbkdhaaRStored
import Derived.Lib.SlBytesConst
namespace Go.Proofs.Ytbchaomnjbkdhaa
open Go.RowKit
set_option linter.unusedVariables false

set_option maxRecDepth 100000 in
set_option maxHeartbeats 1000000 in
theorem sameB_any (w : World) (A B : Option Addr) (n c d : Nat) (l : List UInt8) (ha : RB w w.heap.size A n l) (hb : RB w w.heap.size B n l) (hn : n ≤ 100000000) :
    Calls Try.prog 7 #[.slice A n c, .slice B n d] w fun e w' => e = .returned (.bool true) ∧ Below w.heap.size w w' := by
  have hlen := hide ha.len
  replace ha := hide ha
  replace hb := hide hb
  go_enter Try.func7, Try.ntmps7
  go_wp2_with fail
  go_loopw [5] (fun i wr => ∃ k : Nat, k ≤ n ∧ i = .int .i64 k ∧ Below w.heap.size w wr) (fun i _ => n - (intOf i).toNat)
  case atStart => exact ⟨0, by omega, rfl, Below.refl _ _⟩
  case round =>
    obtain ⟨k, hk, rfl, hbl⟩ := hrel
    by_cases h1 : k < n
    · have hkl : k < l.length := by have := hlen.out; omega
      obtain ⟨ad, rfl, hab, c0⟩ := (ha.out.below hbl).elem h1 hkl
      obtain ⟨bd, rfl, hbb, d0⟩ := (hb.out.below hbl).elem h1 hkl
      generalize l[k] = x at *
      go_wp2_with fail
      go_quiet (fail)
      go_wp2_with fail
      go_roundw
      case rel => exact ⟨k + 1, by omega, by go_num, below_drewN hbl _⟩
      case measure => simp [intOf]; omega
    · go_wp2_with fail
      go_ret
      exact ⟨rfl, hbl⟩

theorem RB.six (w : World) (t : TypeId) : RB (w.alloc (.cells #[.int .u8 1, .int .u8 1, .int .u8 0, .int .u8 254, .int .u8 255, .int .u8 97] t)) (w.heap.size + 1) (some ⟨w.heap.size, 0, none⟩) 6 [1, 1, 0, 254, 255, 97] := by
  refine ⟨rfl, fun _ => ⟨_, rfl, Nat.lt_succ_self _, fun j u hj => ?_⟩⟩
  have hc := cell_of_row _ _ j _ t (0, 0) (heap_alloc_new w (.cells #[.int .u8 1, .int .u8 1, .int .u8 0, .int .u8 254, .int .u8 255, .int .u8 97] t))
  have e : (Addr.mk w.heap.size 0 none).add j = ⟨w.heap.size, j, none⟩ := by
    unfold Addr.add
    by_cases h0 : j = 0
    · subst h0; rfl
    · rw [if_neg h0]; simp
  rw [e, hc]
  have hv : bv [1, 1, 0, 254, 255, 97] = [.int .u8 1, .int .u8 1, .int .u8 0, .int .u8 254, .int .u8 255, .int .u8 97] := rfl
  rw [hv] at hj
  simpa using hj
set_option maxRecDepth 100000 in
set_option maxHeartbeats 1000000 in
theorem wakes07_any (w : World) : Calls Try.prog 4 #[] w fun e w' => e = .returned (.bool true) ∧ Below w.heap.size w w' := by
  have hst : Hid (storedS 2 [97] = [1, 1, 0, 254, 255, 97]) := by rw [Hid]; decide +kernel
  have hR : Hid (RB (w.alloc (.cells #[.int .u8 97] 5 (1, 2))) (w.alloc (.cells #[.int .u8 97] 5 (1, 2))).heap.size (some ⟨w.heap.size, 0, none⟩) 1 [97]) := by
    refine ⟨rfl, fun _ => ⟨_, rfl, by simp, fun j u hj => ?_⟩⟩
    match j, hj with
    | 0, hj =>
      have hc := cell_of_row _ _ 0 _ 5 (1, 2) (heap_alloc_new w (.cells #[.int .u8 97] 5 (1, 2)))
      rw [show (Addr.mk w.heap.size 0 none).add 0 = ⟨w.heap.size, 0, none⟩ from rfl, hc]
      simpa [bv] using hj
  have hb0 : Below w.heap.size w (w.alloc (.cells #[.int .u8 97] 5 (1, 2))) := (Below.refl _ _).alloc (Nat.le_refl _) _
  have kc := fun (wx : World) (C : Array Value) (n c : Nat) => Lib.run_convert_bytes_const (P := Try.prog) wx 22 5 C n c Try.underlying22 Try.underlying5
  go_enter Try.func4, Try.ntmps4
  go_wp2_with fail
  refine (pack_any _ _ 1 1 [97] hR.out (by omega) (by omega)).mono ?_
  rintro e w1 ⟨v1, rfl, ho1, hb1⟩
  rw [hst.out] at ho1
  obtain ⟨A1, c1, rfl, hR1, -, -, -⟩ := ho1.form
  have hb1' := hb0.trans (hb1.mono hb0.size)
  have hs1 := hb1'.size
  replace hR1 := hide hR1
  clear hb1 ho1 hR
  have h6 : Hid (RB (w1.alloc (.cells #[.int .u8 1, .int .u8 1, .int .u8 0, .int .u8 254, .int .u8 255, .int .u8 97] 5)) (w1.heap.size + 1) (some ⟨w1.heap.size, 0, none⟩) 6 [1, 1, 0, 254, 255, 97]) := RB.six w1 5
  go_wp2_with fail
  have hz : (w1.alloc (.cells #[.int .u8 1, .int .u8 1, .int .u8 0, .int .u8 254, .int .u8 255, .int .u8 97] 5)).heap.size = w1.heap.size + 1 := by simp
  refine (sameB_any _ A1 _ 6 c1 6 [1, 1, 0, 254, 255, 97] (by rw [hz]; exact (hR1.out.alloc (Nat.le_refl _) _).more (Nat.le_succ _)) (by rw [hz]; exact h6.out) (by omega)).mono ?_
  rintro e w2 ⟨rfl, hb2⟩
  have hb2' := (hb1'.alloc hs1 _).trans (hb2.mono (by rw [hz]; omega))
  go_wp2_with fail
  go_ret
  exact ⟨rfl, hb2'⟩

/-- So many times the same bytes. -/
def timesL (b : List UInt8) : Nat → List UInt8
  | 0 => []
  | k + 1 => timesL b k ++ b
theorem timesL_len (b : List UInt8) : ∀ k, (timesL b k).length = k * b.length
  | 0 => by simp [timesL]
  | k + 1 => by rw [timesL, List.length_append, timesL_len b k, Nat.succ_mul]

end Go.Proofs.Ytbchaomnjbkdhaa
