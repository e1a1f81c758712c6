/-
  The plain law of layer 20's order: keys of a text and a number are in order as these are. No program in sight.
-/
import Derived.Test.YtnbfblikpoblgaaDoorKeyC
import Derived.Test.YtnbfblikpoblgaaDoorTextLaw
import Derived.Lib.Bytes
namespace Go.Proofs.YtnbfblikpoblgaaDoor
open Go.RowKit
set_option linter.unusedVariables false

def val : List UInt8 → Nat
  | [] => 0
  | b :: l => b.toNat * 256 ^ l.length + val l
theorem val_lt (l : List UInt8) : val l < 256 ^ l.length := by
  induction l with
  | nil => simp [val]
  | cons b l ih =>
    simp only [val, List.length_cons]
    have hb := b.toNat_lt
    have : b.toNat * 256 ^ l.length ≤ 255 * 256 ^ l.length := Nat.mul_le_mul_right _ (by omega)
    rw [Nat.pow_succ]
    omega
theorem lessB_val (p q : List UInt8) (h : p.length = q.length) : lessB p q = decide (val p < val q) := by
  induction p generalizing q with
  | nil => cases q with
    | nil => rfl
    | cons _ _ => simp at h
  | cons a p ih => cases q with
    | nil => simp at h
    | cons b q =>
      have h' : p.length = q.length := by simpa using h
      have hp := val_lt p
      have hq := val_lt q
      simp only [lessB, val, h']
      rw [h'] at hp
      by_cases e : a = b
      · subst e
        rw [if_pos rfl, ih q h']
        simp
      · rw [if_neg e]
        have hne : a.toNat ≠ b.toNat := fun h => e (UInt8.toNat_inj.1 h)
        rw [decide_eq_decide, UInt8.lt_iff_toNat_lt]
        generalize 256 ^ q.length = m at *
        constructor
        · intro hl
          have : (a.toNat + 1) * m ≤ b.toNat * m := Nat.mul_le_mul_right _ (by omega)
          rw [Nat.add_mul] at this
          omega
        · intro hl
          rcases Nat.lt_or_ge a.toNat b.toNat with h1 | h1
          · exact h1
          · have : (b.toNat + 1) * m ≤ a.toNat * m := Nat.mul_le_mul_right _ (by omega)
            rw [Nat.add_mul] at this
            omega
theorem lessB_cat (p q l r : List UInt8) (h : p.length = q.length) : lessB (p ++ l) (q ++ r) = if p = q then lessB l r else lessB p q := by
  induction p generalizing q with
  | nil => cases q with
    | nil => rfl
    | cons _ _ => simp at h
  | cons a p ih => cases q with
    | nil => simp at h
    | cons b q =>
      have h' : p.length = q.length := by simpa using h
      simp only [List.cons_append, lessB, ih q h', List.cons.injEq]
      by_cases e : a = b <;> by_cases e2 : p = q <;> simp [e, e2]
theorem val_numB (z : Int) (h0 : 0 ≤ z) (h1 : z ≤ 281474976710655) : val (numB z) = z.toNat := by
  obtain ⟨n, rfl⟩ := Int.eq_ofNat_of_zero_le h0
  simp only [val, numB, byteN, UInt8.toNat_ofNat', List.length_cons, List.length_nil, Int.toNat_natCast]
  omega
theorem lessB_numB (a b : Int) (l r : List UInt8) : lessB (numB (heldI a) ++ l) (numB (heldI b) ++ r) = if heldI a = heldI b then lessB l r else decide (heldI a < heldI b) := by
  have a0 := heldI_0 a; have a1 := heldI_1 a; have b0 := heldI_0 b; have b1 := heldI_1 b
  rw [lessB_cat (numB (heldI a)) (numB (heldI b)) l r rfl, lessB_val (numB (heldI a)) (numB (heldI b)) rfl, val_numB _ a0 a1, val_numB _ b0 b1]
  by_cases e : heldI a = heldI b
  · simp [e]
  · rw [if_neg e, if_neg, decide_eq_decide]
    · omega
    · intro h
      have := congrArg val h
      rw [val_numB _ a0 a1, val_numB _ b0 b1] at this
      omega

theorem bytesLess_lessB : ∀ (a b : List UInt8), Op.bytesLess a b = lessB a b
  | [], [] => rfl
  | [], _ :: _ => rfl
  | _ :: _, [] => rfl
  | a :: x, b :: y => by
    rw [Op.bytesLess, lessB, bytesLess_lessB x y]
    by_cases e : a = b
    · subst e; simp
    · rw [if_neg e, beq_eq_false_iff_ne.2 e]; simp
theorem lessB_irr (a : List UInt8) : lessB a a = false := by
  induction a with
  | nil => rfl
  | cons x a ih => rw [lessB, if_pos rfl, ih]
theorem lessB_key (a b : ByteArray) (n0 n1 : Int) : lessB (textB a.data.toList ++ numB (heldI n0)) (textB b.data.toList ++ numB (heldI n1)) =
    (Op.bytesLess a.toList b.toList || (a.toList == b.toList && decide (heldI n0 < heldI n1))) := by
  have h := lessB_numB n0 n1 [] []
  rw [List.append_nil, List.append_nil] at h
  rw [lessB_text, bytesLess_lessB, Lib.toList_data, Lib.toList_data, h]
  by_cases e : a.data.toList = b.data.toList
  · rw [if_pos e, e, lessB_irr, lessB_irr, beq_self_eq_true, Bool.false_or, Bool.true_and]
    by_cases e2 : heldI n0 = heldI n1
    · rw [if_pos e2, e2]; simp
    · rw [if_neg e2]
  · rw [if_neg e, beq_eq_false_iff_ne.2 e, Bool.false_and, Bool.or_false]
end Go.Proofs.YtnbfblikpoblgaaDoor
