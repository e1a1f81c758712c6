/-
  The plain law of layer 20's order: keys of numbers are in order as these are. No program in sight.
-/
import Derived.Test.YtnbfblikpoblgaaLawKeyNums
namespace Go.Proofs.Ytnbfblikpoblgaa
open Go.RowKit
set_option linter.unusedVariables false

def val : List UInt8 → Nat
  | [] => 0
  | b :: l => b.toNat * 256 ^ l.length + val l
theorem val_lt (l : List UInt8) : val l < 256 ^ l.length := by
  induction l with
  | nil => simp [val]
  | cons b l ih =>
    simp only [val, List.length_cons]
    have hb := b.toNat_lt
    have : b.toNat * 256 ^ l.length ≤ 255 * 256 ^ l.length := Nat.mul_le_mul_right _ (by omega)
    rw [Nat.pow_succ]
    omega
theorem lessB_val (p q : List UInt8) (h : p.length = q.length) : lessB p q = decide (val p < val q) := by
  induction p generalizing q with
  | nil => cases q with
    | nil => rfl
    | cons _ _ => simp at h
  | cons a p ih => cases q with
    | nil => simp at h
    | cons b q =>
      have h' : p.length = q.length := by simpa using h
      have hp := val_lt p
      have hq := val_lt q
      simp only [lessB, val, h']
      rw [h'] at hp
      by_cases e : a = b
      · subst e
        rw [if_pos rfl, ih q h']
        simp
      · rw [if_neg e]
        have hne : a.toNat ≠ b.toNat := fun h => e (UInt8.toNat_inj.1 h)
        rw [decide_eq_decide, UInt8.lt_iff_toNat_lt]
        generalize 256 ^ q.length = m at *
        constructor
        · intro hl
          have : (a.toNat + 1) * m ≤ b.toNat * m := Nat.mul_le_mul_right _ (by omega)
          rw [Nat.add_mul] at this
          omega
        · intro hl
          rcases Nat.lt_or_ge a.toNat b.toNat with h1 | h1
          · exact h1
          · have : (b.toNat + 1) * m ≤ a.toNat * m := Nat.mul_le_mul_right _ (by omega)
            rw [Nat.add_mul] at this
            omega
theorem lessB_cat (p q l r : List UInt8) (h : p.length = q.length) : lessB (p ++ l) (q ++ r) = if p = q then lessB l r else lessB p q := by
  induction p generalizing q with
  | nil => cases q with
    | nil => rfl
    | cons _ _ => simp at h
  | cons a p ih => cases q with
    | nil => simp at h
    | cons b q =>
      have h' : p.length = q.length := by simpa using h
      simp only [List.cons_append, lessB, ih q h', List.cons.injEq]
      by_cases e : a = b <;> by_cases e2 : p = q <;> simp [e, e2]
theorem val_numB (z : Int) (h0 : 0 ≤ z) (h1 : z ≤ 281474976710655) : val (numB z) = z.toNat := by
  obtain ⟨n, rfl⟩ := Int.eq_ofNat_of_zero_le h0
  simp only [val, numB, byteN, UInt8.toNat_ofNat', List.length_cons, List.length_nil, Int.toNat_natCast]
  omega
theorem lessB_numB (a b : Int) (l r : List UInt8) : lessB (numB (heldI a) ++ l) (numB (heldI b) ++ r) = if heldI a = heldI b then lessB l r else decide (heldI a < heldI b) := by
  have a0 := heldI_0 a; have a1 := heldI_1 a; have b0 := heldI_0 b; have b1 := heldI_1 b
  rw [lessB_cat (numB (heldI a)) (numB (heldI b)) l r rfl, lessB_val (numB (heldI a)) (numB (heldI b)) rfl, val_numB _ a0 a1, val_numB _ b0 b1]
  by_cases e : heldI a = heldI b
  · simp [e]
  · rw [if_neg e, if_neg, decide_eq_decide]
    · omega
    · intro h
      have := congrArg val h
      rw [val_numB _ a0 a1, val_numB _ b0 b1] at this
      omega
theorem lessB_nums (xs ys : List Int) (h : xs.length = ys.length) : lessB (numsB xs) (numsB ys) = lessI xs ys := by
  induction xs generalizing ys with
  | nil => cases ys with
    | nil => rfl
    | cons _ _ => simp at h
  | cons a xs ih => cases ys with
    | nil => simp at h
    | cons b ys =>
      have h' : xs.length = ys.length := by simpa using h
      have e : ∀ (c : Int) (zs : List Int), numsB (c :: zs) = numB (heldI c) ++ numsB zs := fun c zs => by simp [numsB]
      rw [e, e, lessB_numB, ih ys h']
      rfl
theorem keyNums_true (w : World) (A : Option Addr) (n c : Nat) (xs : List Int) (ha : RI w w.heap.size A n xs) (B : Option Addr) (m d : Nat) (ys : List Int) (hb : RI w w.heap.size B m ys) :
    Calls Try.prog 3 #[.slice A n c, .slice B m d] w fun e w' => e = .returned (.bool true) ∧ Below w.heap.size w w' :=
  keyNums_of _ _ _ _ _ _ _ _ w ha hb fun h => by rw [List.nil_append, List.nil_append]; exact lessB_nums _ _ h
end Go.Proofs.Ytnbfblikpoblgaa
