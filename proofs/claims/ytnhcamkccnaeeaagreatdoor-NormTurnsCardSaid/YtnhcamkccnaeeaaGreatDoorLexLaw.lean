/-
  Plain laws of the lexer: blanks ahead and behind; two texts with a blank between. No program in sight.
-/
import Derived.Test.YtnhcamkccnaeeaaGreatDoorLexE
namespace Go.Proofs.YtnhcamkccnaeeaaGreatDoor
set_option linter.unusedVariables false

def shiftT (a : Nat) (t : Tok) : Tok := ⟨t.kind, t.text, t.n, t.pos + a⟩
theorem tokL_pos (l : List UInt8) (p a : Nat) : tokL l (p + a) = (tokL l p).map fun x => (shiftT a x.1, x.2) := by
  unfold tokL
  split
  · rfl
  · split
    · split <;> rfl
    · split
      · cases quotedL l.tail <;> rfl
      · split <;> rfl
theorem toksF_pos (f p a : Nat) (l : List UInt8) : toksF f (p + a) l = ((toksF f p l).1.map (shiftT a), (toksF f p l).2.1 + a, (toksF f p l).2.2) := by
  induction f generalizing p l with
  | zero => rfl
  | succ f ih =>
    cases l with
    | nil => rfl
    | cons c r =>
      simp only [toksF]
      split
      · have := ih (p + 1) r
        rw [show p + a + 1 = p + 1 + a from by omega, this]
      · rw [tokL_pos]
        cases ht : tokL (c :: r) p with
        | none => rfl
        | some x =>
          obtain ⟨t, k⟩ := x
          have := ih (p + k) ((c :: r).drop k)
          simp only [Option.map_some]
          rw [show p + a + k = p + k + a from by omega, this]
          rfl
theorem toksF_ahead (f p a : Nat) (l : List UInt8) (hf : a + l.length ≤ f) : toksF f p (List.replicate a 32 ++ l) = toksF f (p + a) l := by
  induction a generalizing f p with
  | zero => simp
  | succ a ih =>
    cases f with
    | zero => omega
    | succ f =>
      have hb : blankB 32 = true := by decide
      rw [List.replicate_succ, List.cons_append]
      simp only [toksF, hb, if_true]
      rw [ih f (p + 1) (by omega), toksF_more f (f + 1) _ l (by omega) (by omega)]
      congr 1; omega
/-- What may stand behind: nothing, or a blank and whatever. -/
def Tail (bs : List UInt8) : Prop := bs = [] ∨ ∃ r, bs = 32 :: r
theorem takeWhile_tail (q : UInt8 → Bool) (h32 : q 32 = false) (l bs : List UInt8) (hb : Tail bs) : (l ++ bs).takeWhile q = l.takeWhile q := by
  induction l with
  | nil =>
    rcases hb with rfl | ⟨r, rfl⟩
    · rfl
    · simp [h32]
  | cons a l ih =>
    simp only [List.cons_append, List.takeWhile_cons]
    split
    · rw [ih]
    · rfl
theorem prefix_tail (m : List UInt8) (hm : ∀ c ∈ m, c ≠ 32) (l bs : List UInt8) (hb : Tail bs) : m.isPrefixOf (l ++ bs) = m.isPrefixOf l := by
  induction m generalizing l with
  | nil => simp
  | cons c m ih =>
    cases l with
    | nil =>
      rcases hb with rfl | ⟨r, rfl⟩
      · rfl
      · have := hm c (by simp)
        simp [List.isPrefixOf, this]
    | cons a l =>
      simp only [List.cons_append, List.isPrefixOf]
      rw [ih (fun x hx => hm x (by simp [hx]))]
theorem marks_no_blank : ∀ m ∈ marksL, ∀ c ∈ m, c ≠ 32 := by decide
theorem markL_tail (l bs : List UInt8) (hb : Tail bs) : markL (l ++ bs) = markL l := by
  unfold markL
  have : ∀ (ms : List (List UInt8)), (∀ m ∈ ms, ∀ c ∈ m, c ≠ 32) → ms.find? (·.isPrefixOf (l ++ bs)) = ms.find? (·.isPrefixOf l) := by
    intro ms
    induction ms with
    | nil => intro _; rfl
    | cons m ms ih =>
      intro h
      rw [List.find?_cons, List.find?_cons, prefix_tail m (h m (by simp)) l bs hb, ih (fun x hx => h x (by simp [hx]))]
  rw [this marksL marks_no_blank]
theorem quotedL_some (n : Nat) (l bs : List UInt8) (hn : l.length ≤ n) (x : List UInt8 × Nat) (h : quotedL l = some x) : quotedL (l ++ bs) = some x := by
  induction n generalizing l x with
  | zero =>
    have : l = [] := List.eq_nil_of_length_eq_zero (by omega)
    subst this
    simp [quotedL_nil] at h
  | succ n ih =>
    cases l with
    | nil => simp [quotedL_nil] at h
    | cons c r =>
      by_cases h1 : c = 34
      · subst h1
        rw [quotedL_end] at h
        rw [List.cons_append, quotedL_end]; exact h
      · by_cases h2 : c = 92
        · subst h2
          cases r with
          | nil => rw [quotedL_back] at h; simp at h
          | cons d r =>
            rw [quotedL_esc] at h
            rw [List.cons_append, List.cons_append, quotedL_esc]
            split at h
            · rename_i hd
              rw [if_pos hd]
              simp at h
              obtain ⟨a, b, hq, rfl⟩ := h
              rw [ih r (by simp at hn; omega) _ hq]; rfl
            · simp at h
        · rw [quotedL_byte c r h1 h2] at h
          rw [List.cons_append, quotedL_byte c _ h1 h2]
          simp at h
          obtain ⟨a, b, hq, rfl⟩ := h
          rw [ih r (by simp at hn; omega) _ hq]; rfl
theorem quotedL_blanks (b : Nat) : quotedL (List.replicate b 32) = none := by
  induction b with
  | zero => rfl
  | succ b ih => rw [List.replicate_succ, quotedL_byte _ _ (by decide) (by decide), ih]; rfl
theorem quotedL_none (n : Nat) (l : List UInt8) (b : Nat) (hn : l.length ≤ n) (h : quotedL l = none) : quotedL (l ++ List.replicate b 32) = none := by
  induction n generalizing l with
  | zero =>
    have : l = [] := List.eq_nil_of_length_eq_zero (by omega)
    subst this
    exact quotedL_blanks b
  | succ n ih =>
    cases l with
    | nil => exact quotedL_blanks b
    | cons c r =>
      by_cases h1 : c = 34
      · subst h1
        rw [quotedL_end] at h; simp at h
      · by_cases h2 : c = 92
        · subst h2
          cases r with
          | nil =>
            cases b with
            | zero => exact h
            | succ b => rw [List.replicate_succ, List.cons_append, List.nil_append, quotedL_esc, if_neg (by decide)]
          | cons d r =>
            rw [quotedL_esc] at h
            rw [List.cons_append, List.cons_append, quotedL_esc]
            split at h
            · rename_i hd
              rw [if_pos hd]
              simp at h
              rw [ih r (by simp at hn; omega) h]; rfl
            · rename_i hd
              rw [if_neg hd]
        · rw [quotedL_byte c r h1 h2] at h
          rw [List.cons_append, quotedL_byte c _ h1 h2]
          simp at h
          rw [ih r (by simp at hn; omega) h]; rfl
theorem runL_tail (q : UInt8 → Bool) (h32 : q 32 = false) (l bs : List UInt8) (hb : Tail bs) : runL q (l ++ bs) = runL q l := by
  unfold runL; rw [takeWhile_tail q h32 l bs hb]
theorem tokL_tail (l bs : List UInt8) (p : Nat) (hb : Tail bs) (hl : l ≠ []) (hq : quotedL (l.tail ++ bs) = quotedL l.tail) : tokL (l ++ bs) p = tokL l p := by
  unfold tokL
  rw [runL_tail smallB (by decide) l bs hb, runL_tail digitB (by decide) l bs hb, takeWhile_tail smallB (by decide) l bs hb, takeWhile_tail digitB (by decide) l bs hb, markL_tail l bs hb]
  cases l with
  | nil => exact absurd rfl hl
  | cons a l =>
    simp only [List.cons_append, List.head?_cons, List.tail_cons]
    simp only [List.tail_cons] at hq
    rw [hq]
    rfl
/-- A token that is there stays, whatever stands behind a blank. -/
theorem tokL_some (l bs : List UInt8) (p : Nat) (hb : Tail bs) (x : Tok × Nat) (h : tokL l p = some x) : tokL (l ++ bs) p = some x := by
  have hl : l ≠ [] := by
    intro e; subst e
    have := tokL_len _ _ _ h
    simp at this; omega
  by_cases hq : l.head? = some 34 ∧ runL smallB l = 0 ∧ runL digitB l = 0
  · have h2 := h
    unfold tokL at h2
    rw [if_neg (by rw [hq.2.1]; simp), if_neg (by rw [hq.2.2]; simp), if_pos hq.1] at h2
    simp at h2
    obtain ⟨a, b, hqq, _⟩ := h2
    rw [tokL_tail l bs p hb hl (by rw [quotedL_some _ _ bs (Nat.le_refl _) _ hqq, hqq]), h]
  · -- no quote: the head decides otherwise
    rw [← h]
    unfold tokL
    rw [runL_tail smallB (by decide) l bs hb, runL_tail digitB (by decide) l bs hb, takeWhile_tail smallB (by decide) l bs hb, takeWhile_tail digitB (by decide) l bs hb, markL_tail l bs hb]
    by_cases h1 : runL smallB l ≠ 0
    · rw [if_pos h1, if_pos h1]
    · rw [if_neg h1, if_neg h1]
      by_cases h2 : runL digitB l ≠ 0
      · rw [if_pos h2, if_pos h2]
      · rw [if_neg h2, if_neg h2]
        have h3 : ¬ l.head? = some 34 := fun e => hq ⟨e, by simpa using h1, by simpa using h2⟩
        have h4 : ¬ (l ++ bs).head? = some 34 := by
          cases l with
          | nil => exact absurd rfl hl
          | cons a l => exact h3
        rw [if_neg h3, if_neg h4]
/-- No token, blanks behind: none still. -/
theorem tokL_none (l : List UInt8) (b p : Nat) (hl : l ≠ []) (h : tokL l p = none) : tokL (l ++ List.replicate b 32) p = none := by
  have ht : Tail (List.replicate b 32) := by cases b with
    | zero => exact .inl rfl
    | succ b => exact .inr ⟨_, rfl⟩
  cases hq : quotedL l.tail with
  | none => rw [tokL_tail l _ p ht hl (by rw [quotedL_none _ _ b (Nat.le_refl _) hq, hq]), h]
  | some x => rw [tokL_tail l _ p ht hl (by rw [quotedL_some _ _ _ (Nat.le_refl _) x hq, hq]), h]
theorem toksF_behind (f p b : Nat) (l : List UInt8) (hf : l.length + b ≤ f) :
    toksF f p (l ++ List.replicate b 32) = ((toksF f p l).1, (if (toksF f p l).2.2 then (toksF f p l).2.1 + b else (toksF f p l).2.1), (toksF f p l).2.2) := by
  induction f generalizing p l with
  | zero =>
    have : l = [] := List.eq_nil_of_length_eq_zero (by omega)
    subst this
    have : b = 0 := by simp at hf; omega
    subst this
    rfl
  | succ f ih =>
    cases l with
    | nil =>
      rw [List.nil_append]
      have := toksF_ahead (f + 1) p b [] (by simp at hf ⊢; omega)
      rw [List.append_nil] at this
      rw [this, toksF_nil, toksF_nil]; simp
    | cons c r =>
      simp at hf
      rw [List.cons_append]
      simp only [toksF]
      by_cases hc : blankB c = true
      · rw [if_pos hc, if_pos hc]
        exact ih (p + 1) r (by omega)
      · rw [if_neg hc, if_neg hc]
        cases ht : tokL (c :: r) p with
        | none =>
          have := tokL_none (c :: r) b p (by simp) ht
          rw [List.cons_append] at this
          rw [this]; simp
        | some x =>
          have htl : Tail (List.replicate b 32) := by cases b with
            | zero => exact .inl rfl
            | succ b => exact .inr ⟨_, rfl⟩
          have := tokL_some (c :: r) (List.replicate b 32) p htl x ht
          rw [List.cons_append] at this
          rw [this]
          obtain ⟨t, k⟩ := x
          have hk := tokL_len _ _ _ ht
          simp at hk
          simp only []
          have e : (c :: (r ++ List.replicate b 32)).drop k = (c :: r).drop k ++ List.replicate b 32 := by
            rw [← List.cons_append, List.drop_append_of_le_length (by simp; omega)]
          rw [e, ih (p + k) ((c :: r).drop k) (by simp; omega)]
theorem toksF_join (f p : Nat) (l r : List UInt8) (hf : l.length + 1 + r.length ≤ f) (hok : (toksF f p l).2.2 = true) :
    toksF f p (l ++ 32 :: r) = ((toksF f p l).1 ++ (toksF f (p + l.length + 1) r).1, (toksF f (p + l.length + 1) r).2) ∧ (toksF f p l).2.1 = p + l.length := by
  induction f generalizing p l with
  | zero => omega
  | succ f ih =>
    cases l with
    | nil =>
      have hb : blankB 32 = true := by decide
      refine ⟨?_, by rw [toksF_nil]; rfl⟩
      rw [toksF_nil]
      simp only [List.nil_append, toksF, hb, if_true, List.length_nil, Nat.add_zero]
      rw [toksF_more f (f + 1) (p + 1) r (by simp at hf; omega) (by simp at hf; omega)]
    | cons c l =>
      simp at hf
      rw [List.cons_append]
      have hmore : ∀ q, toksF f q r = toksF (f + 1) q r := fun q => toksF_more f (f + 1) q r (by omega) (by omega)
      simp only [toksF] at hok ⊢
      by_cases hc : blankB c = true
      · rw [if_pos hc] at hok ⊢
        rw [if_pos hc]
        have := ih (p + 1) l (by omega) hok
        rw [this.1, this.2, hmore]
        rw [show p + 1 + l.length + 1 = p + (l.length + 1) + 1 from by omega]
        exact ⟨rfl, by simp; omega⟩
      · rw [if_neg hc] at hok ⊢
        rw [if_neg hc]
        cases ht : tokL (c :: l) p with
        | none => rw [ht] at hok; simp at hok
        | some x =>
          rw [ht] at hok
          have := tokL_some (c :: l) (32 :: r) p (.inr ⟨r, rfl⟩) x ht
          rw [List.cons_append] at this
          rw [this]
          obtain ⟨t, k⟩ := x
          have hk := tokL_len _ _ _ ht
          simp at hk hok
          simp only []
          have e : (c :: (l ++ 32 :: r)).drop k = (c :: l).drop k ++ 32 :: r := by
            rw [← List.cons_append, List.drop_append_of_le_length (by simp; omega)]
          have := ih (p + k) ((c :: l).drop k) (by simp; omega) hok
          rw [e, this.1, this.2, hmore]
          have hd : ((c :: l).drop k).length = l.length + 1 - k := by simp
          rw [hd, show p + k + (l.length + 1 - k) + 1 = p + (l.length + 1) + 1 from by omega]
          exact ⟨by simp, by simp; omega⟩
theorem toks_blanks (l : List UInt8) (a b : Nat) :
    toks (List.replicate a 32 ++ (l ++ List.replicate b 32)) = ((toks l).1.map (shiftT a), (if (toks l).2.2 then (toks l).2.1 + b else (toks l).2.1) + a, (toks l).2.2) := by
  unfold toks
  rw [toksF_ahead _ _ _ _ (by simp; try omega), toksF_pos, toksF_behind _ _ _ _ (by simp; try omega)]
  rw [toksF_more _ l.length 0 l (by simp; omega) (Nat.le_refl _)]
theorem lex_blanks (l : List UInt8) (a b : Nat) (h : l.length + a + b ≤ 400) :
    lexL (List.replicate a 32 ++ (l ++ List.replicate b 32)) = (lexL l).map (shiftT a) ∧ lexE (List.replicate a 32 ++ (l ++ List.replicate b 32)) = lexE l ∧
    lexAt (List.replicate a 32 ++ (l ++ List.replicate b 32)) = (if lexE l = 0 then lexAt l + a + b else lexAt l + a) := by
  have h1 : ¬ 400 < (List.replicate a 32 ++ (l ++ List.replicate b (32 : UInt8))).length := by simp; omega
  have h2 : ¬ 400 < l.length := by omega
  simp only [lexL, lexE, lexAt, if_neg h1, if_neg h2, toks_blanks]
  cases (toks l).2.2 <;> simp <;> omega
theorem toks_join (a b : List UInt8) (h : (toks a).2.2 = true) :
    toks (a ++ 32 :: b) = ((toks a).1 ++ (toks b).1.map (shiftT (a.length + 1)), (toks b).2.1 + (a.length + 1), (toks b).2.2) := by
  unfold toks at *
  have hm : toksF (a ++ 32 :: b).length 0 a = toksF a.length 0 a := toksF_more _ _ _ _ (by simp) (Nat.le_refl _)
  have hj := (toksF_join (a ++ 32 :: b).length 0 a b (by simp; omega) (by rw [hm]; exact h)).1
  rw [hj, hm, show 0 + a.length + 1 = 0 + (a.length + 1) from by omega, toksF_pos, toksF_more _ b.length 0 b (by simp; omega) (Nat.le_refl _)]
theorem lex_join (a b : List UInt8) (h : a.length + b.length ≤ 399) (ha : lexE a = 0) :
    (lexE b ≠ 0 → lexE (a ++ 32 :: b) = lexE b ∧ lexAt (a ++ 32 :: b) = a.length + 1 + lexAt b) ∧
    (lexE b = 0 → lexE (a ++ 32 :: b) = 0 ∧ lexL (a ++ 32 :: b) = lexL a ++ (lexL b).map (shiftT (a.length + 1))) := by
  have h1 : ¬ 400 < (a ++ 32 :: b).length := by simp; omega
  have h2 : ¬ 400 < a.length := by omega
  have h3 : ¬ 400 < b.length := by omega
  have hok : (toks a).2.2 = true := by
    rw [lexE, if_neg h2] at ha
    cases hx : (toks a).2.2 with
    | true => rfl
    | false => rw [hx] at ha; simp at ha
  simp only [lexL, lexE, lexAt, if_neg h1, if_neg h2, if_neg h3, toks_join a b hok, hok]
  cases (toks b).2.2 <;> simp <;> omega
theorem toksF_len (f p : Nat) (l : List UInt8) (hf : l.length ≤ f) : (toksF f p l).1.length ≤ l.length ∧ (toksF f p l).2.1 ≤ p + l.length := by
  induction f generalizing p l with
  | zero => simp [toksF]
  | succ f ih =>
    cases l with
    | nil => simp [toksF]
    | cons c r =>
      simp only [toksF]
      simp at hf
      split
      · have := ih (p + 1) r hf
        simp; omega
      · cases ht : tokL (c :: r) p with
        | none => simp
        | some x =>
          obtain ⟨t, k⟩ := x
          have hk := tokL_len _ _ _ ht
          simp at hk
          have := ih (p + k) ((c :: r).drop k) (by simp; omega)
          simp at this ⊢
          omega
theorem lexL_len (l : List UInt8) : (lexL l).length ≤ l.length := by
  unfold lexL
  split
  · simp
  · split
    · exact (toksF_len l.length 0 l (Nat.le_refl _)).1
    · simp
theorem lexAt_le (l : List UInt8) : lexAt l ≤ l.length := by
  unfold lexAt
  split
  · simp
  · have := (toksF_len l.length 0 l (Nat.le_refl _)).2
    rw [Nat.zero_add] at this
    exact this
theorem toksF_places (f p : Nat) (l : List UInt8) : ∀ t ∈ (toksF f p l).1, p ≤ t.pos ∧ t.pos < p + l.length := by
  induction f generalizing p l with
  | zero => simp [toksF]
  | succ f ih =>
    cases l with
    | nil => simp [toksF]
    | cons c r =>
      intro t ht
      simp only [toksF] at ht
      split at ht
      · have := ih (p + 1) r t ht
        simp; omega
      · cases hx : tokL (c :: r) p with
        | none => rw [hx] at ht; simp at ht
        | some x =>
          rw [hx] at ht
          obtain ⟨t0, k⟩ := x
          have hk := tokL_len _ _ _ hx
          simp at hk ht
          rcases ht with rfl | ht
          · simp; omega
          · have := ih (p + k) ((c :: r).drop k) t ht
            simp at this ⊢
            omega
theorem lexL_pos (l : List UInt8) : ∀ t ∈ lexL l, t.pos ≤ 400 := by
  intro t ht
  unfold lexL at ht
  split at ht
  · simp at ht
  · split at ht
    · have := toksF_places l.length 0 l t ht
      omega
    · simp at ht
end Go.Proofs.YtnhcamkccnaeeaaGreatDoor
