/-
  A text's bytes in a key, in plain Lean; keys of texts are in order as the texts are. No program in sight.
-/
import Derived.Test.YtnbfblikpoblgaaDoorKeyA
namespace Go.Proofs.YtnbfblikpoblgaaDoor
set_option linter.unusedVariables false

def txtF (x : UInt8) : List UInt8 := if x = 0 then [0, 255] else [x]
def textB (s : List UInt8) : List UInt8 := s.flatMap txtF ++ [0, 1]
theorem textB_cons (x : UInt8) (s : List UInt8) : textB (x :: s) = txtF x ++ textB s := by simp [textB]
theorem lessB_cons (x y : UInt8) (l r : List UInt8) : lessB (x :: l) (y :: r) = if x = y then lessB l r else decide (x < y) := by
  rw [lessB]
theorem pos_of_ne (x : UInt8) (h : x ≠ 0) : (0 : UInt8) < x := by
  rw [UInt8.lt_iff_toNat_lt]
  have : x.toNat ≠ 0 := fun e => h (UInt8.toNat_inj.1 e)
  show 0 < x.toNat
  omega
theorem lessB_text : ∀ (a b p q : List UInt8), lessB (textB a ++ p) (textB b ++ q) = if a = b then lessB p q else lessB a b
  | [], [], p, q => by rw [if_pos rfl]; exact lessB_app _ _ _
  | [], y :: b, p, q => by
    rw [if_neg (by simp), textB_cons, show textB [] = [0, 1] from rfl]
    by_cases hy : y = 0
    · subst hy
      rw [show txtF 0 = [0, 255] from rfl]
      show lessB (0 :: 1 :: p) (0 :: 255 :: (textB b ++ q)) = _
      rw [lessB_cons, if_pos rfl, lessB_cons, if_neg (by decide)]; rfl
    · rw [show txtF y = [y] from by simp [txtF, hy]]
      show lessB (0 :: 1 :: p) (y :: (textB b ++ q)) = _
      rw [lessB_cons, if_neg (Ne.symm hy), decide_eq_true (pos_of_ne y hy)]; rfl
  | x :: a, [], p, q => by
    rw [if_neg (by simp), textB_cons, show textB [] = [0, 1] from rfl]
    by_cases hx : x = 0
    · subst hx
      rw [show txtF 0 = [0, 255] from rfl]
      show lessB (0 :: 255 :: (textB a ++ p)) (0 :: 1 :: q) = _
      rw [lessB_cons, if_pos rfl, lessB_cons, if_neg (by decide)]; rfl
    · rw [show txtF x = [x] from by simp [txtF, hx]]
      show lessB (x :: (textB a ++ p)) (0 :: 1 :: q) = _
      rw [lessB_cons, if_neg hx, decide_eq_false (by have := pos_of_ne x hx; rw [UInt8.lt_iff_toNat_lt] at *; omega)]; rfl
  | x :: a, y :: b, p, q => by
    rw [textB_cons, textB_cons, List.append_assoc, List.append_assoc, lessB_cons]
    by_cases he : x = y
    · subst he
      rw [lessB_app, if_pos rfl, lessB_text a b p q]
      simp
    · rw [if_neg (by simp [he]), if_neg he]
      by_cases hx : x = 0
      · subst hx
        rw [show txtF 0 = [0, 255] from rfl, show txtF y = [y] from by simp [txtF, Ne.symm he]]
        show lessB (0 :: 255 :: (textB a ++ p)) (y :: (textB b ++ q)) = _
        rw [lessB_cons, if_neg he]
      · by_cases hy : y = 0
        · subst hy
          rw [show txtF 0 = [0, 255] from rfl, show txtF x = [x] from by simp [txtF, hx]]
          show lessB (x :: (textB a ++ p)) (0 :: 255 :: (textB b ++ q)) = _
          rw [lessB_cons, if_neg he]
        · rw [show txtF x = [x] from by simp [txtF, hx], show txtF y = [y] from by simp [txtF, hy]]
          show lessB (x :: (textB a ++ p)) (y :: (textB b ++ q)) = _
          rw [lessB_cons, if_neg he]
end Go.Proofs.YtnbfblikpoblgaaDoor
