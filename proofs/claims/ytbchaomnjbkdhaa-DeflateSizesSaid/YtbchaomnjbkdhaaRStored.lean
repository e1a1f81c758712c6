/-
  Contract of the reference's Stored.
-/
import Derived.Test.YtbchaomnjbkdhaaPack
namespace Go.Proofs.Ytbchaomnjbkdhaa
open Go.RowKit
set_option linter.unusedVariables false

/-- What is still to come from a place on. -/
def restS (n f p : Nat) (b : List UInt8) : List UInt8 := if p = 0 ∨ p < n then storedS f (b.drop p) else []
theorem RB.five (w : World) (t : TypeId) (x0 x1 x2 x3 x4 : Int) (l : List UInt8) (h : l.map (fun b : UInt8 => (b.toNat : Int)) = [x0, x1, x2, x3, x4]) :
    RB (w.alloc (.cells #[.int .u8 x0, .int .u8 x1, .int .u8 x2, .int .u8 x3, .int .u8 x4] t)) (w.heap.size + 1) (some ⟨w.heap.size, 0, none⟩) 5 l := by
  have hl : l.length = 5 := by have := congrArg List.length h; simpa using this
  have hv : bv l = [.int .u8 x0, .int .u8 x1, .int .u8 x2, .int .u8 x3, .int .u8 x4] := by
    have e : bv l = (l.map (fun b : UInt8 => (b.toNat : Int))).map (fun z => Value.int .u8 z) := by simp [bv]
    rw [e, h]; rfl
  refine ⟨by rw [hv]; rfl, fun _ => ⟨_, rfl, Nat.lt_succ_self _, fun j u hj => ?_⟩⟩
  rw [hv] at hj
  have hc := cell_of_row _ _ j _ t (0, 0) (heap_alloc_new w (.cells #[.int .u8 x0, .int .u8 x1, .int .u8 x2, .int .u8 x3, .int .u8 x4] t))
  have e : (Addr.mk w.heap.size 0 none).add j = ⟨w.heap.size, j, none⟩ := by
    unfold Addr.add
    by_cases h0 : j = 0
    · subst h0; rfl
    · rw [if_neg h0]; simp
  rw [e, hc]
  simpa using hj
theorem headS_vals (k last : Nat) (P : Int) (hP : P = (k : Int)) (hk : k ≤ 65535) (hl : last ≤ 1) :
    (headS k last).map (fun b : UInt8 => (b.toNat : Int)) = [(last : Int), P % 256, P / 256, (65535 - P) % 256, (65535 - P) / 256] := by
  subst hP
  simp only [headS, List.map_cons, List.map_nil, UInt8.toNat_ofNat']
  refine List.cons_eq_cons.2 ⟨by omega, List.cons_eq_cons.2 ⟨by omega, List.cons_eq_cons.2 ⟨by omega, List.cons_eq_cons.2 ⟨by omega, List.cons_eq_cons.2 ⟨by omega, rfl⟩⟩⟩⟩⟩
theorem own_len {w : World} {base n m : Nat} {A : Option Addr} {c : Nat} {l : List UInt8} (h : OB w base (.slice A n c) n l) (e : l.length = m) : OB w base (.slice A m c) l.length l := by
  have := h.len
  subst e
  rw [this]; exact h
/-- A block: from p to E. -/
def BlockS (n p E k last : Nat) : Prop := E = p + k ∧ E ≤ n ∧ k ≤ 65535 ∧ ((last = 1 ∧ E = n) ∨ (last = 0 ∧ k = 65535 ∧ E < n))
theorem rest_step {n f p k last : Nat} {b : List UInt8} (hb : b.length = n) (hc : p = 0 ∨ p < n) (hk : k ≤ 65535) (hp : p ≤ n) (hl : (last = 1 ∧ p + k = n) ∨ (last = 0 ∧ k = 65535 ∧ p + k < n)) :
    restS n (f + 1) p b = headS k last ++ (b.drop p).take k ++ restS n f (p + 65535) b := by
  rw [restS, if_pos hc]
  rcases hl with ⟨rfl, h⟩ | ⟨rfl, rfl, h⟩
  · have hd : (b.drop p).length = k := by rw [List.length_drop]; omega
    rw [storedS_last _ _ (by omega), hd, List.take_of_length_le (by omega), restS, if_neg (by omega), List.append_nil]
  · have hd : 65535 < (b.drop p).length := by rw [List.length_drop]; omega
    rw [storedS_more _ _ hd, restS, if_pos (.inr (by omega)), List.drop_drop, List.append_assoc]
end Go.Proofs.Ytbchaomnjbkdhaa
