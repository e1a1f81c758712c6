/-
  The question of a text, and what Parse answers of it. Brackets, nots and words between make the questions that they ought to.
-/
import Derived.Test.YtnhcamkccnaeeaaDoorParI
import Derived.Test.YtnhcamkccnaeeaaDoorBrLaw
namespace Go.Proofs.YtnhcamkccnaeeaaDoor
set_option linter.unusedVariables false

/-- The question of a text. -/
def textQ (l : List UInt8) : Option Q := if l.length ≤ 400 ∧ (sL l).2 = true then parseQ (sL l).1 else none
def qE (q : Q) : Int := if 16 < q.depth then 11 else if 8 < patsL (q.parts 0) then 17 else 0
def qL (q : Q) : List Ask := if 16 < q.depth then [] else if 8 < patsL (q.parts 0) then [] else q.parts 0
theorem textQ_len {l : List UInt8} {q : Q} (h : textQ l = some q) : l.length ≤ 400 ∧ (sL l).2 = true ∧ parseQ (sL l).1 = some q := by
  unfold textQ at h
  split at h
  · rename_i h1; exact ⟨h1.1, h1.2, h⟩
  · cases h
theorem textQ_mk {l : List UInt8} {q : Q} (h1 : l.length ≤ 400) (h2 : (sL l).2 = true) (h3 : parseQ (sL l).1 = some q) : textQ l = some q := by
  unfold textQ; rw [if_pos ⟨h1, h2⟩, h3]
theorem parsed_of {l : List UInt8} {q : Q} (h : textQ l = some q) : parsedE l = qE q ∧ parsedL l = qL q := by
  obtain ⟨h1, h2, h3⟩ := textQ_len h
  obtain ⟨h4, h5⟩ := lex_sL l h1
  have h6 : parseQ (lexL l) = some q := by rw [← parseQ_strip, h5 h2, h3]
  unfold parsedE parsedL parseE parseL
  rw [if_pos (h4.2 h2), if_pos (h4.2 h2), h6]
  exact ⟨rfl, rfl⟩
/-- What is parsed without an error is a question, no deeper than may be. -/
theorem of_parsed {l : List UInt8} (h : parsedE l = 0) : ∃ q, textQ l = some q ∧ parsedL l = q.parts 0 ∧ q.depth ≤ 16 ∧ patsL (q.parts 0) ≤ 8 ∧ q.plain := by
  unfold parsedE at h
  split at h
  · rename_i h0
    have hl : l.length ≤ 400 := by
      rcases Nat.lt_or_ge 400 l.length with h1 | h1
      · rw [lexE, if_pos h1] at h0; cases h0
      · exact h1
    obtain ⟨h4, h5⟩ := lex_sL l hl
    have h2 := h4.1 h0
    unfold parseE at h
    cases hq : parseQ (lexL l) with
    | none => rw [hq] at h; simp at h
    | some q =>
      rw [hq] at h
      simp only [] at h
      have hd : ¬ 16 < q.depth := by intro hd; rw [if_pos hd] at h; simp at h
      rw [if_neg hd] at h
      have hp : ¬ 8 < patsL (q.parts 0) := by intro hp; rw [if_pos hp] at h; simp at h
      refine ⟨q, textQ_mk hl h2 (by rw [← h5 h2, parseQ_strip, hq]), ?_, by omega, by omega, parseQ_plain _ _ hq⟩
      unfold parsedL parseL
      rw [if_pos h0, hq]
      simp only [if_neg hd, if_neg hp]
  · rename_i h0
    exact absurd h h0
theorem textQ_par {l : List UInt8} {q : Q} (h : textQ l = some q) (hl : l.length + 3 ≤ 400) : textQ ([40, 32] ++ l ++ [41]) = some q := by
  obtain ⟨h1, h2, h3⟩ := textQ_len h
  have e : sL ([40, 32] ++ l ++ [41]) = (lpT :: ((sL l).1 ++ [rpT]), true) := by
    show sL (40 :: 32 :: (l ++ 41 :: [])) = _
    rw [sL_lp, sL_blank, sL_rp l [] h2]; rfl
  exact textQ_mk (by simp; omega) (by rw [e]) (by rw [e]; exact parseQ_par h3)
theorem textQ_not {l : List UInt8} {q : Q} (h : textQ l = some q) (hl : l.length + 6 ≤ 400) : textQ ([110, 111, 116, 32, 40] ++ l ++ [41]) = some (.neg q) := by
  obtain ⟨h1, h2, h3⟩ := textQ_len h
  have e : sL ([110, 111, 116, 32, 40] ++ l ++ [41]) = (notT :: lpT :: ((sL l).1 ++ [rpT]), true) := by
    show sL ([110, 111, 116] ++ 32 :: (40 :: (l ++ 41 :: []))) = _
    rw [sL_join _ _ (by decide +kernel), sL_lp, sL_rp l [] h2]; rfl
  exact textQ_mk (by simp; omega) (by rw [e]) (by rw [e]; exact parseQ_not h3)
theorem textQ_or {a b : List UInt8} {p q : Q} (ha : textQ a = some p) (hb : textQ b = some q) (hl : a.length + b.length ≤ 300) : textQ ([40] ++ a ++ [41, 32, 111, 114, 32, 40] ++ b ++ [41]) = some (.two 1 p q) := by
  obtain ⟨h1, h2, h3⟩ := textQ_len ha
  obtain ⟨g1, g2, g3⟩ := textQ_len hb
  have e : sL ([40] ++ a ++ [41, 32, 111, 114, 32, 40] ++ b ++ [41]) = (lpT :: ((sL a).1 ++ rpT :: ⟨1, orW, 0, 0⟩ :: lpT :: ((sL b).1 ++ [rpT])), true) := by
    have e0 : [40] ++ a ++ [41, 32, 111, 114, 32, 40] ++ b ++ [41] = 40 :: (a ++ 41 :: (32 :: ([111, 114] ++ 32 :: (40 :: (b ++ 41 :: []))))) := by simp
    rw [e0, sL_lp, sL_rp a _ h2, sL_blank, sL_join _ _ (by decide +kernel), sL_lp, sL_rp b [] g2]; rfl
  exact textQ_mk (by simp; omega) (by rw [e]) (by rw [e]; exact parseQ_or h3 g3)
theorem textQ_and {a b : List UInt8} {p q : Q} (ha : textQ a = some p) (hb : textQ b = some q) (hl : a.length + b.length ≤ 300) : textQ ([40] ++ a ++ [41, 32, 97, 110, 100, 32, 40] ++ b ++ [41]) = some (.two 2 p q) := by
  obtain ⟨h1, h2, h3⟩ := textQ_len ha
  obtain ⟨g1, g2, g3⟩ := textQ_len hb
  have e : sL ([40] ++ a ++ [41, 32, 97, 110, 100, 32, 40] ++ b ++ [41]) = (lpT :: ((sL a).1 ++ rpT :: ⟨1, andW, 0, 0⟩ :: lpT :: ((sL b).1 ++ [rpT])), true) := by
    have e0 : [40] ++ a ++ [41, 32, 97, 110, 100, 32, 40] ++ b ++ [41] = 40 :: (a ++ 41 :: (32 :: ([97, 110, 100] ++ 32 :: (40 :: (b ++ 41 :: []))))) := by simp
    rw [e0, sL_lp, sL_rp a _ h2, sL_blank, sL_join _ _ (by decide +kernel), sL_lp, sL_rp b [] g2]; rfl
  exact textQ_mk (by simp; omega) (by rw [e]) (by rw [e]; exact parseQ_and h3 g3)
/-- Texts with brackets, with nots around. -/
def parN : Nat → List UInt8 → List UInt8
  | 0, l => l
  | k + 1, l => [40, 32] ++ parN k l ++ [41]
def notN : Nat → List UInt8 → List UInt8
  | 0, l => l
  | k + 1, l => [110, 111, 116, 32, 40] ++ notN k l ++ [41]
def negN : Nat → Q → Q
  | 0, q => q
  | k + 1, q => .neg (negN k q)
theorem parN_len (k : Nat) (l : List UInt8) : (parN k l).length = l.length + 3 * k := by
  induction k with
  | zero => rfl
  | succ k ih => rw [parN]; simp [ih]; omega
theorem notN_len (k : Nat) (l : List UInt8) : (notN k l).length = l.length + 6 * k := by
  induction k with
  | zero => rfl
  | succ k ih => rw [notN]; simp [ih]; omega
theorem textQ_parN {l : List UInt8} {q : Q} (h : textQ l = some q) (k : Nat) (hl : l.length + 3 * k ≤ 400) : textQ (parN k l) = some q := by
  induction k with
  | zero => exact h
  | succ k ih => exact textQ_par (ih (by omega)) (by rw [parN_len]; omega)
theorem textQ_notN {l : List UInt8} {q : Q} (h : textQ l = some q) (k : Nat) (hl : l.length + 6 * k ≤ 400) : textQ (notN k l) = some (negN k q) := by
  induction k with
  | zero => exact h
  | succ k ih => exact textQ_not (ih (by omega)) (by rw [notN_len]; omega)
theorem negN_depth (k : Nat) (q : Q) : (negN k q).depth = q.depth + k := by
  induction k with
  | zero => rfl
  | succ k ih => rw [negN, Q.depth, ih]; omega
theorem negN_size (k : Nat) (q : Q) : (negN k q).size = q.size + k := by
  induction k with
  | zero => rfl
  | succ k ih => rw [negN, Q.size, ih]; omega
theorem negN_plain (k : Nat) (q : Q) (h : q.plain) : (negN k q).plain := by
  induction k with
  | zero => exact h
  | succ k ih => exact ih
theorem patsL_append (l r : List Ask) : patsL (l ++ r) = patsL l + patsL r := by unfold patsL; exact List.countP_append
theorem negN_pats (k : Nat) (q : Q) (p : Nat) : patsL ((negN k q).parts p) = patsL (q.parts p) := by
  induction k with
  | zero => rfl
  | succ k ih =>
    rw [negN, Q.parts, patsL_append, ih]; rfl
end Go.Proofs.YtnhcamkccnaeeaaDoor
