/-
  The writer by its bits; contracts of Writer.Bits and Writer.Code.
-/
import Derived.Test.YtbchaomnjbkdhaaGreatEB
import Derived.Test.YtbchaomnjbkdhaaGreatEA
namespace Go.Proofs.YtbchaomnjbkdhaaGreat
open Go.RowKit
set_option linter.unusedVariables false
/-- A writer that has written these bits. -/
def WA (w : World) (g : Nat) (bs : List Nat) : Prop := ∃ v, WSt w g v (stB bs)
theorem WA.lt {w : World} {g : Nat} {bs : List Nat} (h : WA w g bs) : g < w.heap.size := by obtain ⟨v, h⟩ := h; exact h.1.lt
/-- What a call that writes leaves. -/
def WrRet (w : World) (g : Nat) (bs : List Nat) (e : Ending) (w' : World) : Prop := e = .returned (.tuple #[]) ∧ WA w' g bs ∧ Below g w w' ∧ KeepX w w'
theorem wbits_any (w : World) (g : Nat) (bs : List Nat) (N X : Int) (n x : Nat) (hN : N = (n : Int)) (hX : X = (x : Int)) (h : WA w g bs) (hn : n ≤ 24) (hx : x < 1099511627776) (hl : bs.length ≤ 90000000) :
    Calls Tryz.prog 29 #[.pointer (some ⟨g, 0, none⟩), .int .i64 N, .int .i64 X] w (WrRet w g (bs ++ loB n x)) := by
  subst hN hX
  obtain ⟨v, h⟩ := h
  refine (bits_x w g v (stB bs) n x h hn hx (by rw [stB_n]; exact hl)).mono ?_
  rintro e w' ⟨rfl, ⟨v', h'⟩, hb, hk⟩
  exact ⟨rfl, ⟨v', by rw [← stB_bits]; exact h'⟩, hb, hk⟩
set_option maxRecDepth 100000 in
set_option maxHeartbeats 1000000 in
theorem wcode_any (w : World) (g : Nat) (bs : List Nat) (N X : Int) (n x : Nat) (hN : N = (n : Int)) (hX : X = (x : Int)) (h : WA w g bs) (hn : n ≤ 24) (hx : x < 1099511627776) (hl : bs.length ≤ 90000000) :
    Calls Tryz.prog 38 #[.pointer (some ⟨g, 0, none⟩), .int .i64 N, .int .i64 X] w (WrRet w g (bs ++ hiB n x)) := by
  subst hN hX
  have hlt := h.lt
  replace h := hide h
  go_enter Tryz.func38, Tryz.ntmps38
  go_wp2_with fail
  refine (held_any n w (by omega) (by omega)).mono ?_
  rintro e w' ⟨rfl, rfl⟩
  go_wp2_with fail
  go_loopw [6] (fun v6 wr => ∃ k : Nat, v6 = .int .i64 ((k : Int) - 1) ∧ k ≤ n ∧ Hid (WA wr g (bs ++ (hiB n x).take (n - k))) ∧ Hid (Below g w wr) ∧ Hid (KeepX w wr)) (fun v6 _ => (intOf v6 + 1).toNat)
  case atStart => exact ⟨n, rfl, Nat.le_refl _, by rw [Nat.sub_self, List.take_zero, List.append_nil]; exact h, Below.refl _ _, KeepX.refl _⟩
  case round =>
    obtain ⟨k, rfl, hk, hS, hb, hkx⟩ := hrel
    cases k with
    | zero =>
      have hfin : Hid (WA wr g (bs ++ hiB n x)) := by
        have := hS.out
        rwa [Nat.sub_zero, List.take_of_length_le (by rw [hiB_len]; exact Nat.le_refl _)] at this
      have e0 : (((0 : Nat) : Int) - 1) = -1 := rfl
      rw [e0]
      clear hS
      go_wp2_with fail
      go_end0
      exact ⟨rfl, hfin.out, hb.out, hkx.out⟩
    | succ k =>
      have e1 : (((k + 1 : Nat) : Int) - 1) = (k : Int) := by omega
      rw [e1]
      have hk2 : k ≤ 24 := by omega
      have htk := hiB_take n x (n - (k + 1)) (by omega)
      rw [show n - 1 - (n - (k + 1)) = k by omega] at htk
      have hnx : Hid (bs ++ (hiB n x).take (n - k) = (bs ++ (hiB n x).take (n - (k + 1))) ++ [x / 2 ^ k % 2]) := by
        rw [Hid, List.append_assoc, ← htk, show n - (k + 1) + 1 = n - k by omega]
      have hbl : (stB (bs ++ (hiB n x).take (n - (k + 1)))).2 ≤ 100000000 := by
        rw [stB_n, List.length_append, List.length_take, hiB_len]; omega
      obtain ⟨v, hv⟩ := hS.out
      replace hv := hide hv
      clear htk e1
      go_wp2_with fail
      rw [bit_of x k]
      refine (bone_x wr g v _ _ hv.out (Nat.mod_lt _ (by omega)) hbl).mono ?_
      rintro e w2 ⟨rfl, ⟨v2, hS2⟩, hb2, hk2x⟩
      have hkx2 := hide (hkx.out.trans hk2x)
      have hb3 := hide (hb.out.trans hb2)
      have hS3 : Hid (WA w2 g (bs ++ (hiB n x).take (n - k))) := ⟨v2, by rw [hnx.out, stB_snoc]; exact hS2⟩
      clear hk2x hb2 hS2 hbl hnx
      go_wp2_with fail
      go_roundw
      case rel => exact ⟨k, by go_num, by omega, hS3, hb3, hkx2⟩
      case measure => simp [intOf]
end Go.Proofs.YtbchaomnjbkdhaaGreat
