/-
  Quoting, in plain Lean: what two replacements of single bytes write; a quoted text is one token. No program in sight.
-/
import Derived.Test.YtnbfblikpoblgaaDoorLexLaw
import Derived.Lib.Replace
import Derived.Lib.IndexBytes
namespace Go.Proofs.YtnbfblikpoblgaaDoor
set_option linter.unusedVariables false

def repF (c : UInt8) (new : List UInt8) (x : UInt8) : List UInt8 := if x = c then new else [x]
theorem flatMap_none (c : UInt8) (new : List UInt8) : ∀ s : List UInt8, s.count c = 0 → s.flatMap (repF c new) = s
  | [], _ => rfl
  | b :: l, h => by
    by_cases hb : b = c
    · subst hb; simp at h
    · rw [List.count_cons_of_ne hb] at h
      rw [List.flatMap_cons, flatMap_none c new l h, repF, if_neg hb]; rfl
theorem replaceK_one (c : UInt8) (new : List UInt8) : ∀ (s : List UInt8) (k : Nat), s.count c ≤ k → Lib.replaceK [c] new k s = s.flatMap (repF c new)
  | s, 0, h => by rw [flatMap_none c new s (by omega)]; rfl
  | [], k + 1, _ => by rw [Lib.replaceK, Lib.index_one]; rfl
  | b :: l, k + 1, h => by
    by_cases hb : b = c
    · subst hb
      have hi : Lib.index (b :: l) [b] = ((0 : Nat) : Int) := by rw [Lib.index_one, Lib.indexByte]; simp
      rw [Lib.replaceK_hit _ _ _ _ 0 hi, List.flatMap_cons, repF, if_pos rfl]
      have hk : l.count b ≤ k := by rw [List.count_cons_self] at h; omega
      have := replaceK_one b new l k hk
      simpa using this
    · rw [List.count_cons_of_ne hb] at h
      have ih := replaceK_one c new l (k + 1) h
      rw [List.flatMap_cons, repF, if_neg hb, ← ih]
      have hb' : (b == c) = false := by simpa using hb
      rcases Lib.index_spec l [c] with ⟨hm, _⟩ | ⟨i, hi, _⟩
      · have h1 : Lib.index (b :: l) [c] = -1 := by
          rw [Lib.index_one, Lib.indexByte, hb', ← Lib.index_one, hm]; rfl
        rw [Lib.replaceK, Lib.replaceK, h1, hm]; rfl
      · have h1 : Lib.index (b :: l) [c] = ((i + 1 : Nat) : Int) := by
          rw [Lib.index_one, Lib.indexByte, hb', ← Lib.index_one, hi]
          have : ((i : Int) == -1) = false := by rw [beq_eq_false_iff_ne]; omega
          simp [this]
        rw [Lib.replaceK_hit _ _ _ _ _ h1, Lib.replaceK_hit _ _ _ _ _ hi]
        simp
theorem replaceAll_one (c : UInt8) (new s : List UInt8) (h : ([c] == new) = false) : Lib.replaceAll s [c] new = s.flatMap (repF c new) := by
  rw [Lib.replaceAll, Lib.replace, if_neg (by rw [h]; exact Bool.false_ne_true)]
  refine replaceK_one c new s _ ?_
  rw [Lib.replaceNum, if_pos (Or.inl (by decide)), Lib.count_one]
  exact Nat.le_refl _

def escB (c : UInt8) : List UInt8 := if c = 34 then [92, 34] else if c = 92 then [92, 92] else [c]
def escL (s : List UInt8) : List UInt8 := s.flatMap escB
theorem esc_two (s : List UInt8) : Lib.replaceAll (Lib.replaceAll s [92] [92, 92]) [34] [92, 34] = escL s := by
  rw [replaceAll_one _ _ _ rfl, replaceAll_one _ _ _ rfl, escL, List.flatMap_assoc]
  congr 1
  funext c
  by_cases h1 : c = 92
  · subst h1; rfl
  · by_cases h2 : c = 34
    · subst h2; rfl
    · simp [repF, escB, h1, h2]
theorem escL_len (s : List UInt8) : (escL s).length ≤ 2 * s.length := by
  induction s with
  | nil => simp [escL]
  | cons c r ih =>
    have e : escL (c :: r) = escB c ++ escL r := by simp [escL]
    have : (escB c).length ≤ 2 := by unfold escB; split <;> (try split) <;> simp
    rw [e, List.length_append, List.length_cons]; omega
theorem quoted_esc (s r : List UInt8) : quotedL (escL s ++ 34 :: r) = some (s, (escL s).length + 1) := by
  induction s with
  | nil => rw [show escL [] = [] from rfl, List.nil_append, quotedL_end]; rfl
  | cons c t ih =>
    have e : escL (c :: t) = escB c ++ escL t := by simp [escL]
    rw [e]
    by_cases h1 : c = 34
    · subst h1
      show quotedL (92 :: 34 :: (escL t ++ 34 :: r)) = _
      rw [quotedL_esc, if_pos (Or.inl rfl), ih, show escB 34 = [92, 34] from rfl]
      simp
    · by_cases h2 : c = 92
      · subst h2
        show quotedL (92 :: 92 :: (escL t ++ 34 :: r)) = _
        rw [quotedL_esc, if_pos (Or.inr rfl), ih, show escB 92 = [92, 92] from rfl]
        simp
      · rw [show escB c = [c] from by simp [escB, h1, h2], List.cons_append, List.nil_append, List.cons_append, quotedL_byte c _ h1 h2, ih]
        simp
/-- A quoted text is one token. -/
theorem toks_quote (s : List UInt8) : toks (34 :: (escL s ++ [34])) = ([⟨3, s, 0, 0⟩], (escL s).length + 2, true) := by
  have ht : tokL (34 :: (escL s ++ [34])) 0 = some (⟨3, s, 0, 0⟩, (escL s).length + 2) := by
    have r1 : runL smallB (34 :: (escL s ++ [34])) = 0 := by rw [runL_cons, if_neg (by decide)]
    have r2 : runL digitB (34 :: (escL s ++ [34])) = 0 := by rw [runL_cons, if_neg (by decide)]
    rw [tokL, if_neg (by rw [r1]; simp), if_neg (by rw [r2]; simp), if_pos (by simp)]
    rw [List.tail_cons, quoted_esc s []]
    rfl
  have r0 : runL blankB (34 :: (escL s ++ [34])) = 0 := by rw [runL_cons, if_neg (by decide)]
  have e := toksF_step (34 :: (escL s ++ [34])).length 0 (34 :: (escL s ++ [34])) (Nat.le_refl _) r0 (by simp)
  rw [ht] at e
  rw [toks, e]
  simp only []
  rw [List.drop_of_length_le (by simp), toksF_nil]
  simp
theorem lex_quote (s : List UInt8) (a b : Nat) (h : 2 * s.length + 2 + a + b ≤ 400) :
    lexL (List.replicate a 32 ++ (34 :: (escL s ++ [34]) ++ List.replicate b 32)) = [⟨3, s, 0, a⟩] ∧ lexE (List.replicate a 32 ++ (34 :: (escL s ++ [34]) ++ List.replicate b 32)) = 0 ∧
    lexAt (List.replicate a 32 ++ (34 :: (escL s ++ [34]) ++ List.replicate b 32)) = (escL s).length + 2 + a + b := by
  have hl := escL_len s
  have hq : (34 :: (escL s ++ [34])).length = (escL s).length + 2 := by simp
  have hn : ¬ 400 < (34 :: (escL s ++ [34])).length := by omega
  obtain ⟨h1, h2, h3⟩ := lex_blanks (34 :: (escL s ++ [34])) a b (by omega)
  have e1 : lexL (34 :: (escL s ++ [34])) = [⟨3, s, 0, 0⟩] := by rw [lexL, if_neg hn, toks_quote]; rfl
  have e2 : lexE (34 :: (escL s ++ [34])) = 0 := by rw [lexE, if_neg hn, toks_quote]; rfl
  have e3 : lexAt (34 :: (escL s ++ [34])) = (escL s).length + 2 := by rw [lexAt, if_neg hn, toks_quote]
  refine ⟨?_, ?_, ?_⟩
  · rw [h1, e1]; simp [shiftT]
  · rw [h2, e2]
  · rw [h3, e2, e3]; simp
end Go.Proofs.YtnbfblikpoblgaaDoor
