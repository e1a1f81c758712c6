/-
  The plain law of Above: what begins with a key is below it; what is above the key, and does not begin with it, is not. No program in sight.
-/
import Derived.Test.YtnbfblikpoblgaaKeyD
namespace Go.Proofs.Ytnbfblikpoblgaa
set_option linter.unusedVariables false

def allFF (l : List UInt8) : Bool := l.all (· == 255)
theorem aboveR_snoc (r : List UInt8) (a : UInt8) : aboveR (r ++ [a]) = if allFF r then aboveR [a] else aboveR r ++ [a] := by
  induction r with
  | nil => rfl
  | cons b r ih =>
    simp only [List.cons_append, aboveR, ih, allFF, List.all_cons]
    by_cases e : b = 255
    · simp [e]
    · simp [e]
theorem allFF_rev (l : List UInt8) : allFF l.reverse = allFF l := by simp [allFF]
theorem aboveB_cons (a : UInt8) (l : List UInt8) : aboveB (a :: l) = if allFF l then (if a = 255 then [] else [a + 1]) else a :: aboveB l := by
  unfold aboveB
  rw [List.reverse_cons, aboveR_snoc, allFF_rev]
  by_cases h : allFF l = true
  · simp only [h, if_true, aboveR]
    split <;> simp
  · simp [h]
theorem aboveB_ones (l : List UInt8) (h : allFF l = true) : aboveB l = [] := by
  cases l with
  | nil => rfl
  | cons a l =>
    have : a = 255 ∧ allFF l = true := by simpa [allFF] using h
    rw [aboveB_cons, if_pos this.2, if_pos this.1]
theorem aboveB_len (l : List UInt8) : (aboveB l).length ≤ l.length := by
  induction l with
  | nil => simp [aboveB, aboveR]
  | cons a l ih =>
    rw [aboveB_cons]
    split
    · split <;> simp
    · simp; exact ih
theorem above_lt (a : UInt8) (h : a ≠ 255) : a ≠ a + 1 ∧ a < a + 1 := by
  have := u8_next a h
  have h2 : (a + 1).toNat = a.toNat + 1 := by omega
  refine ⟨fun e => ?_, ?_⟩
  · have := congrArg UInt8.toNat e; omega
  · rw [UInt8.lt_iff_toNat_lt]; omega
theorem above_more (xs more : List UInt8) (h : allFF xs = false) : lessB (xs ++ more) (aboveB xs) = true := by
  induction xs with
  | nil => simp [allFF] at h
  | cons a l ih =>
    rw [aboveB_cons]
    by_cases hl : allFF l = true
    · have ha : a ≠ 255 := fun e => by subst e; simp [allFF] at h hl; obtain ⟨x, hx, hx2⟩ := h; exact hx2 (hl x hx)
      rw [if_pos hl, if_neg ha]
      have := above_lt a ha
      simp [lessB, this.2, this.1]
    · rw [if_neg hl]
      simp only [List.cons_append, lessB, if_true]
      exact ih (by simpa using hl)
theorem ones_top (l r : List UInt8) (h : allFF l = true) : (l.isPrefixOf r || lessB r l) = true := by
  induction l generalizing r with
  | nil => simp
  | cons a l ih =>
    obtain ⟨rfl, hl⟩ : a = 255 ∧ allFF l = true := by simpa [allFF] using h
    cases r with
    | nil => rfl
    | cons b r =>
      by_cases e : b = 255
      · subst e
        simpa [lessB, List.isPrefixOf] using ih r hl
      · have hb := b.toNat_lt
        have hne : b.toNat ≠ 255 := fun e2 => e (by apply UInt8.toNat_inj.1; simpa using e2)
        have : b < 255 := by rw [UInt8.lt_iff_toNat_lt]; show b.toNat < 255; omega
        simp [lessB, e, this]
theorem above_other (xs other : List UInt8) (h : allFF xs = false) : lessB other (aboveB xs) = (xs.isPrefixOf other || lessB other xs) := by
  induction xs generalizing other with
  | nil => simp [allFF] at h
  | cons a l ih =>
    rw [aboveB_cons]
    by_cases hl : allFF l = true
    · have ha : a ≠ 255 := fun e => by subst e; simp [allFF] at h hl; obtain ⟨x, hx, hx2⟩ := h; exact hx2 (hl x hx)
      have hlt := above_lt a ha
      rw [if_pos hl, if_neg ha]
      cases other with
      | nil => simp [lessB]
      | cons o r =>
        by_cases e : o = a
        · subst e
          have := ones_top l r hl
          simp [lessB, List.isPrefixOf, hlt.1, hlt.2, this]
        · have h2 := u8_next a ha
          have e2 : a.toNat ≠ o.toNat := fun h => e (UInt8.toNat_inj.1 h.symm)
          have e3 : (a == o) = false := by simp; exact fun h => e h.symm
          simp only [lessB, List.isPrefixOf, e3, e, if_false, Bool.false_and, Bool.false_or]
          by_cases e4 : o = a + 1
          · subst e4
            have e5 : decide (a + 1 < a) = false := by
              rw [decide_eq_false_iff_not, UInt8.lt_iff_toNat_lt]
              omega
            rw [if_pos rfl, e5]
            cases r <;> rfl
          · rw [if_neg e4, decide_eq_decide, UInt8.lt_iff_toNat_lt, UInt8.lt_iff_toNat_lt]
            omega
    · rw [if_neg hl]
      cases other with
      | nil => simp [lessB]
      | cons o r =>
        by_cases e : o = a
        · subst e
          simp [lessB, List.isPrefixOf, ih r (by simpa using hl)]
        · have e3 : (a == o) = false := by simp; exact fun h => e h.symm
          simp [lessB, List.isPrefixOf, e, e3]
theorem prefix_take (xs other : List UInt8) : xs.isPrefixOf other = (decide (xs.length ≤ other.length) && decide (other.take xs.length = xs)) := by
  rw [Bool.eq_iff_iff]
  simp only [List.isPrefixOf_iff_prefix, Bool.and_eq_true, decide_eq_true_eq]
  constructor
  · rintro ⟨t, rfl⟩
    exact ⟨by simp, by simp⟩
  · rintro ⟨_, h⟩
    refine ⟨other.drop xs.length, ?_⟩
    have := List.take_append_drop xs.length other
    rw [h] at this
    exact this
end Go.Proofs.Ytnbfblikpoblgaa
