/-
  A byte that comes again and again, in plain Lean: its items are a byte, and copies from one back. No program in sight.
-/
import Derived.Test.YtbchaomnjbkdhaaItemSpec
namespace Go.Proofs.Ytbchaomnjbkdhaa
set_option linter.unusedVariables false

def rowB (c : UInt8) (n : Nat) : List UInt8 := List.replicate n c
theorem row_at (c : UInt8) (n i : Nat) (h : i < n) : (rowB c n).getD i 0 = c := by
  unfold rowB
  rw [List.getD_eq_getElem?_getD, List.getElem?_replicate, if_pos h]; rfl
theorem row_len (c : UInt8) (n : Nat) : (rowB c n).length = n := List.length_replicate
theorem row_trip (c : UInt8) (n i : Nat) (h : i + 3 ≤ n) : tripAt (rowB c n) i = [c, c, c] := by
  unfold tripAt
  rw [row_at c n i (by omega), row_at c n (i + 1) (by omega), row_at c n (i + 2) (by omega)]
theorem row_came (c : UInt8) (n i : Nat) (h : i + 1 + 3 ≤ n) : came (rowB c n) (i + 1) [c, c, c] = some i := by
  rw [came, if_pos ⟨by rw [row_len]; omega, row_trip c n i (by omega)⟩]
theorem row_run (c : UInt8) (n k i : Nat) (hk : k ≤ i) : ∀ f m, m + f = 258 → i + m ≤ n → runL (rowB c n) k i f m = min 258 (n - i)
  | 0, m, h, hm => by rw [runL]; omega
  | f + 1, m, h, hm => by
    rw [runL, row_len]
    by_cases h1 : i + m < n
    · rw [if_pos ⟨by omega, h1, by rw [row_at c n _ (by omega), row_at c n _ h1]⟩]
      exact row_run c n k i hk f (m + 1) (by omega) (by omega)
    · rw [if_neg (by omega)]; omega
theorem row_match (c : UInt8) (n i : Nat) (h : i + 1 + 3 ≤ n) : matchAt (rowB c n) (i + 1) = (min 258 (n - (i + 1)), 1) := by
  unfold matchAt
  rw [if_pos (by rw [row_len]; exact h), row_trip c n (i + 1) h, row_came c n i h]
  dsimp only
  rw [if_pos (by omega), row_run c n i (i + 1) (by omega) 258 0 (by omega) (by omega), show i + 1 - i = 1 by omega]
theorem row_first (c : UInt8) (n : Nat) : matchAt (rowB c n) 0 = (0, 0) := by
  unfold matchAt
  split
  · rfl
  · rfl
theorem row_end (c : UInt8) (n i : Nat) (h : n < i + 3) : matchAt (rowB c n) i = (0, 0) := by
  unfold matchAt
  rw [if_neg (by rw [row_len]; omega)]
/-- What is behind the first byte. -/
def rowT (c : UInt8) : Nat → Nat → List Item
  | 0, _ => []
  | f + 1, m => if m = 0 then [] else if m < 3 then ⟨c, 0, 0⟩ :: rowT c f (m - 1) else ⟨0, min 258 m, 1⟩ :: rowT c f (m - min 258 m)
theorem row_tail (c : UInt8) (n : Nat) : ∀ f i, 1 ≤ i → i ≤ n → n ≤ i + f → itemsF (rowB c n) f i = rowT c f (n - i)
  | 0, i, _, _, _ => rfl
  | f + 1, 0, h, _, _ => by omega
  | f + 1, i + 1, h1, h2, h3 => by
    rw [itemsF, rowT, row_len]
    by_cases hl : i + 1 < n
    · rw [if_pos hl, if_neg (show ¬ n - (i + 1) = 0 by omega)]
      by_cases hs : n - (i + 1) < 3
      · rw [row_end c n (i + 1) (by omega), if_pos (by decide), if_pos hs, row_at c n _ hl, row_tail c n f (i + 1 + 1) (by omega) (by omega) (by omega)]
        congr 2
      · rw [row_match c n i (by omega), if_neg hs]
        dsimp only
        rw [if_neg (by omega), row_tail c n f (i + 1 + min 258 (n - (i + 1))) (by omega) (by omega) (by omega)]
        congr 2
        omega
    · rw [if_neg hl, if_pos (by omega)]
theorem row_items (c : UInt8) (n : Nat) (h : 1 ≤ n) : itemsL (rowB c n) = ⟨c, 0, 0⟩ :: rowT c (n - 1) (n - 1) := by
  obtain ⟨m, rfl⟩ : ∃ m, n = m + 1 := ⟨n - 1, by omega⟩
  unfold itemsL
  rw [row_len, itemsF, row_len, if_pos (by omega), row_first, if_pos (by decide), row_at c _ 0 (by omega), row_tail c (m + 1) m 1 (by omega) (by omega) (by omega)]
  rfl
/-- How many of a row's items are copies, and what they are like: all but one of 258 bytes. -/
theorem rowT_like (c : UInt8) : ∀ f m, m ≤ f → ∀ x ∈ rowT c f m, x = ⟨c, 0, 0⟩ ∨ x = ⟨0, 258, 1⟩ ∨ (x = ⟨0, m % 258, 1⟩ ∧ 3 ≤ m % 258)
  | 0, m, _, x, hx => by cases hx
  | f + 1, m, h, x, hx => by
    rw [rowT] at hx
    split at hx
    · cases hx
    · split at hx
      · rcases List.mem_cons.1 hx with rfl | hx
        · exact .inl rfl
        · rcases rowT_like c f (m - 1) (by omega) x hx with h1 | h1 | ⟨h1, h2⟩
          · exact .inl h1
          · exact .inr (.inl h1)
          · have := Nat.mod_le (m - 1) 258
            omega
      · rcases List.mem_cons.1 hx with rfl | hx
        · by_cases h2 : 258 ≤ m
          · rw [Nat.min_eq_left h2]; exact .inr (.inl rfl)
          · rw [Nat.min_eq_right (by omega), Nat.mod_eq_of_lt (by omega)]
            exact .inr (.inr ⟨rfl, by omega⟩)
        · rcases rowT_like c f (m - min 258 m) (by omega) x hx with h1 | h1 | h1
          · exact .inl h1
          · exact .inr (.inl h1)
          · by_cases h2 : 258 ≤ m
            · rw [Nat.min_eq_left h2] at h1
              have e : (m - 258) % 258 = m % 258 := by omega
              rw [e] at h1
              exact .inr (.inr h1)
            · rw [Nat.min_eq_right (by omega), Nat.sub_self] at h1
              have := h1.2
              simp at this
theorem rowT_len (c : UInt8) : ∀ f m, m ≤ f → (rowT c f m).length ≤ m / 258 + 2
  | 0, m, _ => by simp [rowT]
  | f + 1, m, h => by
    rw [rowT]
    split
    · simp
    · split
      · have := rowT_len c f (m - 1) (by omega)
        rw [List.length_cons]
        have h1 : (m - 1) / 258 = 0 := Nat.div_eq_of_lt (by omega)
        by_cases h2 : m = 1
        · subst h2
          have : rowT c f 0 = [] := by cases f <;> simp [rowT]
          rw [Nat.sub_self, this]; simp
        · have h3 : m = 2 := by omega
          subst h3
          cases f with
          | zero => simp [rowT]
          | succ f =>
            have : rowT c f 0 = [] := by cases f <;> simp [rowT]
            simp [rowT, this]
      · rw [List.length_cons]
        by_cases h2 : 258 ≤ m
        · rw [Nat.min_eq_left h2]
          have := rowT_len c f (m - 258) (by omega)
          have e : (m - 258) / 258 + 1 = m / 258 := by omega
          omega
        · rw [Nat.min_eq_right (by omega), Nat.sub_self]
          have : rowT c f 0 = [] := by cases f <;> simp [rowT]
          rw [this]; simp
end Go.Proofs.Ytbchaomnjbkdhaa
