/-
  Plain laws of the lexer: texts with brackets around, a word between. No program in sight.
  The question of a text, and what Parse answers of it. Brackets, nots and words between make the questions that they ought to.
-/
import Derived.Test.YtnhcamkccnaeeaaGreatDoorLexLaw
import Derived.Test.YtnhcamkccnaeeaaGreatDoorParseLaw
import Derived.Test.YtnhcamkccnaeeaaGreatDoorParI
namespace Go.Proofs.YtnhcamkccnaeeaaGreatDoor
set_option linter.unusedVariables false

theorem takeWhile_head (q : UInt8 → Bool) (c : UInt8) (hc : q c = false) (l r : List UInt8) : (l ++ c :: r).takeWhile q = l.takeWhile q := by
  induction l with
  | nil => simp [hc]
  | cons a l ih =>
    simp only [List.cons_append, List.takeWhile_cons]
    split
    · rw [ih]
    · rfl
theorem runL_headC (q : UInt8 → Bool) (c : UInt8) (hc : q c = false) (l r : List UInt8) : runL q (l ++ c :: r) = runL q l := by
  unfold runL; rw [takeWhile_head q c hc]
theorem find_congr {α : Type} (p q : α → Bool) : ∀ (l : List α), (∀ x ∈ l, p x = q x) → l.find? p = l.find? q
  | [], _ => rfl
  | x :: l, h => by
    rw [List.find?_cons, List.find?_cons, h x List.mem_cons_self, find_congr p q l fun y hy => h y (List.mem_cons_of_mem _ hy)]
theorem markL_br (a : UInt8) (l r : List UInt8) : markL (a :: (l ++ 41 :: r)) = markL (a :: l) := by
  unfold markL
  rw [find_congr (fun m => m.isPrefixOf (a :: (l ++ 41 :: r))) (fun m => m.isPrefixOf (a :: l)) marksL]
  intro m hm
  cases l with
  | nil =>
    simp only [marksL, List.mem_cons, List.not_mem_nil, or_false] at hm
    rcases hm with rfl | rfl | rfl | rfl | rfl | rfl | rfl | rfl | rfl <;> simp [List.isPrefixOf]
  | cons b l =>
    simp only [marksL, List.mem_cons, List.not_mem_nil, or_false] at hm
    rcases hm with rfl | rfl | rfl | rfl | rfl | rfl | rfl | rfl | rfl <;> simp [List.isPrefixOf]
theorem tokL_br (l r : List UInt8) (p : Nat) (x : Tok × Nat) (h : tokL l p = some x) : tokL (l ++ 41 :: r) p = some x := by
  have hl : l ≠ [] := by
    intro e; subst e
    have := tokL_len _ _ _ h
    simp at this; omega
  obtain ⟨a, l, rfl⟩ : ∃ a t, l = a :: t := by
    cases l with
    | nil => exact absurd rfl hl
    | cons a t => exact ⟨a, t, rfl⟩
  rw [← h]
  have hs := runL_headC smallB 41 (by decide) (a :: l) r
  have hd := runL_headC digitB 41 (by decide) (a :: l) r
  have ts := takeWhile_head smallB 41 (by decide) (a :: l) r
  have td := takeWhile_head digitB 41 (by decide) (a :: l) r
  have hmk := markL_br a l r
  unfold tokL
  rw [hs, hd, ts, td]
  rw [List.cons_append] at *
  rw [hmk]
  by_cases h1 : runL smallB (a :: l) ≠ 0
  · rw [if_pos h1, if_pos h1]
  · rw [if_neg h1, if_neg h1]
    by_cases h2 : runL digitB (a :: l) ≠ 0
    · rw [if_pos h2, if_pos h2]
    · rw [if_neg h2, if_neg h2]
      by_cases h3 : (a :: l).head? = some (34 : UInt8)
      · have h3' : (a :: (l ++ 41 :: r)).head? = some (34 : UInt8) := h3
        rw [if_pos h3, if_pos h3']
        have h4 := h
        unfold tokL at h4
        rw [if_neg h1, if_neg h2, if_pos h3] at h4
        simp only [List.tail_cons] at h4 ⊢
        simp at h4
        obtain ⟨u, v, hq, _⟩ := h4
        rw [quotedL_some _ _ (41 :: r) (Nat.le_refl _) _ hq, hq]
      · have h3' : ¬ (a :: (l ++ 41 :: r)).head? = some (34 : UInt8) := h3
        rw [if_neg h3, if_neg h3']
theorem tokL_rp (r : List UInt8) (p : Nat) : tokL (41 :: r) p = some (⟨4, [41], 0, p⟩, 1) := by
  have hm : markL (41 :: r) = [41] := by
    unfold markL marksL
    cases r <;> simp [List.find?, List.isPrefixOf]
  unfold tokL
  rw [runL_cons, runL_cons, hm]
  simp [show smallB 41 = false from by decide, show digitB 41 = false from by decide]
theorem tokL_lp (r : List UInt8) (p : Nat) : tokL (40 :: r) p = some (⟨4, [40], 0, p⟩, 1) := by
  have hm : markL (40 :: r) = [40] := by
    unfold markL marksL
    cases r <;> simp [List.find?, List.isPrefixOf]
  unfold tokL
  rw [runL_cons, runL_cons, hm]
  simp [show smallB 40 = false from by decide, show digitB 40 = false from by decide]

/-- Tokens without their places, and whether all was right. -/
def sF (f p : Nat) (l : List UInt8) : List Tok × Bool := ((toksF f p l).1.map strip, (toksF f p l).2.2)
def sL (l : List UInt8) : List Tok × Bool := sF l.length 0 l
theorem strip_shift (a : Nat) (t : Tok) : strip (shiftT a t) = strip t := rfl
theorem sF_any (f p : Nat) (l : List UInt8) (hf : l.length ≤ f) : sF f p l = sL l := by
  unfold sL sF
  rw [toksF_more f l.length p l hf (Nat.le_refl _)]
  have := toksF_pos l.length 0 p l
  rw [Nat.zero_add] at this
  rw [this]
  simp only [List.map_map]
  congr 1
theorem sF_tok (f p : Nat) (c : UInt8) (r : List UInt8) (t : Tok) (k : Nat) (hb : blankB c = false) (h : tokL (c :: r) p = some (t, k)) : sF (f + 1) p (c :: r) = (strip t :: (sF f (p + k) ((c :: r).drop k)).1, (sF f (p + k) ((c :: r).drop k)).2) := by
  unfold sF
  rw [toksF, hb, h]
  rfl
theorem sL_blank (l : List UInt8) : sL (32 :: l) = sL l := by
  have h : sL (32 :: l) = sF l.length 1 l := by
    unfold sL sF
    rw [List.length_cons, toksF, show blankB 32 = true from by decide]; rfl
  rw [h, sF_any _ _ _ (Nat.le_refl _)]
theorem sL_lp (l : List UInt8) : sL (40 :: l) = (lpT :: (sL l).1, (sL l).2) := by
  have h : sL (40 :: l) = sF (l.length + 1) 0 (40 :: l) := rfl
  rw [h, sF_tok _ _ _ _ _ _ (by decide) (tokL_lp l 0)]
  rw [show (40 :: l).drop 1 = l from rfl, sF_any _ _ _ (Nat.le_refl _)]; rfl
theorem sF_rp (f p : Nat) (l r : List UInt8) (hf : l.length + 1 + r.length ≤ f) (hok : (sF f p l).2 = true) : sF f p (l ++ 41 :: r) = ((sF f p l).1 ++ rpT :: (sL r).1, (sL r).2) := by
  induction f generalizing p l with
  | zero => omega
  | succ f ih =>
    cases l with
    | nil =>
      rw [List.nil_append, sF_tok _ _ _ _ _ _ (by decide) (tokL_rp r p), show (41 :: r).drop 1 = r from rfl, sF_any _ _ _ (by simp at hf; omega)]
      have : sF (f + 1) p [] = ([], true) := rfl
      rw [this]; rfl
    | cons c l =>
      simp at hf
      rw [List.cons_append]
      by_cases hc : blankB c = true
      · have e : ∀ m, sF (f + 1) p (c :: m) = sF f (p + 1) m := fun m => by unfold sF; rw [toksF, hc]; rfl
        rw [e] at hok ⊢
        rw [e]
        exact ih (p + 1) l (by omega) hok
      · have hc' : blankB c = false := by simpa using hc
        cases ht : tokL (c :: l) p with
        | none =>
          exfalso
          unfold sF at hok
          rw [toksF, hc', ht] at hok
          simp at hok
        | some x =>
          obtain ⟨t, k⟩ := x
          have hk := tokL_len _ _ _ ht
          simp at hk
          have h2 := tokL_br (c :: l) r p _ ht
          rw [List.cons_append] at h2
          rw [sF_tok _ _ _ _ _ _ hc' ht] at hok ⊢
          rw [sF_tok _ _ _ _ _ _ hc' h2]
          have e : (c :: (l ++ 41 :: r)).drop k = (c :: l).drop k ++ 41 :: r := by
            rw [← List.cons_append, List.drop_append_of_le_length (by simp; omega)]
          rw [e, ih (p + k) ((c :: l).drop k) (by simp; omega) hok]
          rfl
theorem sL_rp (l r : List UInt8) (hok : (sL l).2 = true) : sL (l ++ 41 :: r) = ((sL l).1 ++ rpT :: (sL r).1, (sL r).2) := by
  have h1 : sF (l ++ 41 :: r).length 0 l = sL l := sF_any _ _ _ (by simp)
  have h := sF_rp (l ++ 41 :: r).length 0 l r (by simp; omega) (by rw [h1]; exact hok)
  rw [h1] at h
  exact h
theorem sL_join (a b : List UInt8) (hok : (sL a).2 = true) : sL (a ++ 32 :: b) = ((sL a).1 ++ (sL b).1, (sL b).2) := by
  have h := toks_join a b hok
  have e : ∀ l, sL l = ((toks l).1.map strip, (toks l).2.2) := fun _ => rfl
  rw [e, h, e, e]
  simp only [List.map_append, List.map_map]
  rfl
/-- What the lexer answers, by its stripped tokens. -/
theorem lex_sL (l : List UInt8) (h : l.length ≤ 400) : (lexE l = 0 ↔ (sL l).2 = true) ∧ ((sL l).2 = true → (lexL l).map strip = (sL l).1) := by
  have e : sL l = ((toks l).1.map strip, (toks l).2.2) := rfl
  have h4 : ¬ 400 < l.length := by omega
  simp only [lexE, lexL, if_neg h4, e]
  cases (toks l).2.2 <;> simp
end Go.Proofs.YtnhcamkccnaeeaaGreatDoor
namespace Go.Proofs.YtnhcamkccnaeeaaGreatDoor
set_option linter.unusedVariables false

/-- The question of a text. -/
def textQ (l : List UInt8) : Option Q := if l.length ≤ 400 ∧ (sL l).2 = true then parseQ (sL l).1 else none
def qE (q : Q) : Int := if 16 < q.depth then 11 else if 8 < patsL (q.parts 0) then 17 else 0
def qL (q : Q) : List Ask := if 16 < q.depth then [] else if 8 < patsL (q.parts 0) then [] else q.parts 0
theorem textQ_len {l : List UInt8} {q : Q} (h : textQ l = some q) : l.length ≤ 400 ∧ (sL l).2 = true ∧ parseQ (sL l).1 = some q := by
  unfold textQ at h
  split at h
  · rename_i h1; exact ⟨h1.1, h1.2, h⟩
  · cases h
theorem textQ_mk {l : List UInt8} {q : Q} (h1 : l.length ≤ 400) (h2 : (sL l).2 = true) (h3 : parseQ (sL l).1 = some q) : textQ l = some q := by
  unfold textQ; rw [if_pos ⟨h1, h2⟩, h3]
theorem parsed_of {l : List UInt8} {q : Q} (h : textQ l = some q) : parsedE l = qE q ∧ parsedL l = qL q := by
  obtain ⟨h1, h2, h3⟩ := textQ_len h
  obtain ⟨h4, h5⟩ := lex_sL l h1
  have h6 : parseQ (lexL l) = some q := by rw [← parseQ_strip, h5 h2, h3]
  unfold parsedE parsedL parseE parseL
  rw [if_pos (h4.2 h2), if_pos (h4.2 h2), h6]
  exact ⟨rfl, rfl⟩
/-- What is parsed without an error is a question, no deeper than may be. -/
theorem of_parsed {l : List UInt8} (h : parsedE l = 0) : ∃ q, textQ l = some q ∧ parsedL l = q.parts 0 ∧ q.depth ≤ 16 ∧ patsL (q.parts 0) ≤ 8 ∧ q.plain := by
  unfold parsedE at h
  split at h
  · rename_i h0
    have hl : l.length ≤ 400 := by
      rcases Nat.lt_or_ge 400 l.length with h1 | h1
      · rw [lexE, if_pos h1] at h0; cases h0
      · exact h1
    obtain ⟨h4, h5⟩ := lex_sL l hl
    have h2 := h4.1 h0
    unfold parseE at h
    cases hq : parseQ (lexL l) with
    | none => rw [hq] at h; simp at h
    | some q =>
      rw [hq] at h
      simp only [] at h
      have hd : ¬ 16 < q.depth := by intro hd; rw [if_pos hd] at h; simp at h
      rw [if_neg hd] at h
      have hp : ¬ 8 < patsL (q.parts 0) := by intro hp; rw [if_pos hp] at h; simp at h
      refine ⟨q, textQ_mk hl h2 (by rw [← h5 h2, parseQ_strip, hq]), ?_, by omega, by omega, parseQ_plain _ _ hq⟩
      unfold parsedL parseL
      rw [if_pos h0, hq]
      simp only [if_neg hd, if_neg hp]
  · rename_i h0
    exact absurd h h0
theorem textQ_par {l : List UInt8} {q : Q} (h : textQ l = some q) (hl : l.length + 3 ≤ 400) : textQ ([40, 32] ++ l ++ [41]) = some q := by
  obtain ⟨h1, h2, h3⟩ := textQ_len h
  have e : sL ([40, 32] ++ l ++ [41]) = (lpT :: ((sL l).1 ++ [rpT]), true) := by
    show sL (40 :: 32 :: (l ++ 41 :: [])) = _
    rw [sL_lp, sL_blank, sL_rp l [] h2]; rfl
  exact textQ_mk (by simp; omega) (by rw [e]) (by rw [e]; exact parseQ_par h3)
theorem textQ_not {l : List UInt8} {q : Q} (h : textQ l = some q) (hl : l.length + 6 ≤ 400) : textQ ([110, 111, 116, 32, 40] ++ l ++ [41]) = some (.neg q) := by
  obtain ⟨h1, h2, h3⟩ := textQ_len h
  have e : sL ([110, 111, 116, 32, 40] ++ l ++ [41]) = (notT :: lpT :: ((sL l).1 ++ [rpT]), true) := by
    show sL ([110, 111, 116] ++ 32 :: (40 :: (l ++ 41 :: []))) = _
    rw [sL_join _ _ (by decide +kernel), sL_lp, sL_rp l [] h2]; rfl
  exact textQ_mk (by simp; omega) (by rw [e]) (by rw [e]; exact parseQ_not h3)
theorem textQ_or {a b : List UInt8} {p q : Q} (ha : textQ a = some p) (hb : textQ b = some q) (hl : a.length + b.length ≤ 300) : textQ ([40] ++ a ++ [41, 32, 111, 114, 32, 40] ++ b ++ [41]) = some (.two 1 p q) := by
  obtain ⟨h1, h2, h3⟩ := textQ_len ha
  obtain ⟨g1, g2, g3⟩ := textQ_len hb
  have e : sL ([40] ++ a ++ [41, 32, 111, 114, 32, 40] ++ b ++ [41]) = (lpT :: ((sL a).1 ++ rpT :: ⟨1, orW, 0, 0⟩ :: lpT :: ((sL b).1 ++ [rpT])), true) := by
    have e0 : [40] ++ a ++ [41, 32, 111, 114, 32, 40] ++ b ++ [41] = 40 :: (a ++ 41 :: (32 :: ([111, 114] ++ 32 :: (40 :: (b ++ 41 :: []))))) := by simp
    rw [e0, sL_lp, sL_rp a _ h2, sL_blank, sL_join _ _ (by decide +kernel), sL_lp, sL_rp b [] g2]; rfl
  exact textQ_mk (by simp; omega) (by rw [e]) (by rw [e]; exact parseQ_or h3 g3)
theorem textQ_and {a b : List UInt8} {p q : Q} (ha : textQ a = some p) (hb : textQ b = some q) (hl : a.length + b.length ≤ 300) : textQ ([40] ++ a ++ [41, 32, 97, 110, 100, 32, 40] ++ b ++ [41]) = some (.two 2 p q) := by
  obtain ⟨h1, h2, h3⟩ := textQ_len ha
  obtain ⟨g1, g2, g3⟩ := textQ_len hb
  have e : sL ([40] ++ a ++ [41, 32, 97, 110, 100, 32, 40] ++ b ++ [41]) = (lpT :: ((sL a).1 ++ rpT :: ⟨1, andW, 0, 0⟩ :: lpT :: ((sL b).1 ++ [rpT])), true) := by
    have e0 : [40] ++ a ++ [41, 32, 97, 110, 100, 32, 40] ++ b ++ [41] = 40 :: (a ++ 41 :: (32 :: ([97, 110, 100] ++ 32 :: (40 :: (b ++ 41 :: []))))) := by simp
    rw [e0, sL_lp, sL_rp a _ h2, sL_blank, sL_join _ _ (by decide +kernel), sL_lp, sL_rp b [] g2]; rfl
  exact textQ_mk (by simp; omega) (by rw [e]) (by rw [e]; exact parseQ_and h3 g3)
/-- Texts with brackets, with nots around. -/
def parN : Nat → List UInt8 → List UInt8
  | 0, l => l
  | k + 1, l => [40, 32] ++ parN k l ++ [41]
def notN : Nat → List UInt8 → List UInt8
  | 0, l => l
  | k + 1, l => [110, 111, 116, 32, 40] ++ notN k l ++ [41]
def negN : Nat → Q → Q
  | 0, q => q
  | k + 1, q => .neg (negN k q)
theorem parN_len (k : Nat) (l : List UInt8) : (parN k l).length = l.length + 3 * k := by
  induction k with
  | zero => rfl
  | succ k ih => rw [parN]; simp [ih]; omega
theorem notN_len (k : Nat) (l : List UInt8) : (notN k l).length = l.length + 6 * k := by
  induction k with
  | zero => rfl
  | succ k ih => rw [notN]; simp [ih]; omega
theorem textQ_parN {l : List UInt8} {q : Q} (h : textQ l = some q) (k : Nat) (hl : l.length + 3 * k ≤ 400) : textQ (parN k l) = some q := by
  induction k with
  | zero => exact h
  | succ k ih => exact textQ_par (ih (by omega)) (by rw [parN_len]; omega)
theorem textQ_notN {l : List UInt8} {q : Q} (h : textQ l = some q) (k : Nat) (hl : l.length + 6 * k ≤ 400) : textQ (notN k l) = some (negN k q) := by
  induction k with
  | zero => exact h
  | succ k ih => exact textQ_not (ih (by omega)) (by rw [notN_len]; omega)
theorem negN_depth (k : Nat) (q : Q) : (negN k q).depth = q.depth + k := by
  induction k with
  | zero => rfl
  | succ k ih => rw [negN, Q.depth, ih]; omega
theorem negN_size (k : Nat) (q : Q) : (negN k q).size = q.size + k := by
  induction k with
  | zero => rfl
  | succ k ih => rw [negN, Q.size, ih]; omega
theorem negN_plain (k : Nat) (q : Q) (h : q.plain) : (negN k q).plain := by
  induction k with
  | zero => exact h
  | succ k ih => exact ih
theorem patsL_append (l r : List Ask) : patsL (l ++ r) = patsL l + patsL r := by unfold patsL; exact List.countP_append
theorem negN_pats (k : Nat) (q : Q) (p : Nat) : patsL ((negN k q).parts p) = patsL (q.parts p) := by
  induction k with
  | zero => rfl
  | succ k ih =>
    rw [negN, Q.parts, patsL_append, ih]; rfl
end Go.Proofs.YtnhcamkccnaeeaaGreatDoor
