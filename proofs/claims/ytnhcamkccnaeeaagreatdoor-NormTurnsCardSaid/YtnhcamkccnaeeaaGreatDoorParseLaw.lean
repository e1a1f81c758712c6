/-
  Plain laws of the grammar: places of tokens do not matter; what is parsed is parsed with more behind it; brackets, nots and words between. No program in sight.
-/
import Derived.Test.YtnhcamkccnaeeaaGreatDoorParseSpec
namespace Go.Proofs.YtnhcamkccnaeeaaGreatDoor
set_option linter.unusedVariables false

/-- Tokens without their places. -/
def strip (t : Tok) : Tok := ⟨t.kind, t.text, t.n, 0⟩
def Nat_ (one : List Tok → Option (Q × List Tok)) : Prop := ∀ T, one (T.map strip) = (one T).map fun x => (x.1, x.2.map strip)
theorem atW_strip (T : List Tok) (k : Int) (w : List UInt8) : atW (T.map strip) k w = atW T k w := by
  cases T <;> rfl
theorem opOf_strip (t : Tok) : opOf (strip t) = opOf t := rfl
theorem termP_strip (T : List Tok) : termP (T.map strip) = (termP T).map fun x => (x.1, x.2.map strip) := by
  unfold termP
  rw [atW_strip]
  by_cases h : atW T 1 hasW = true
  · rw [if_pos h, if_pos h]
    match T with
    | [] => rfl
    | [_] => rfl
    | _ :: v :: r =>
      simp only [List.map_cons, strip]
      split <;> simp
  · rw [if_neg h, if_neg h]
    match T with
    | [] => rfl
    | [_] => rfl
    | [_, _] => rfl
    | t :: m :: v :: r =>
      simp only [List.map_cons]
      by_cases c : t.kind = 1 ∧ kindOf t.text ≠ 0 ∧ opOf m ≠ 0 ∧ (v.kind = 3 ∨ v.kind = 2)
      · have c' : (strip t).kind = 1 ∧ kindOf (strip t).text ≠ 0 ∧ opOf (strip m) ≠ 0 ∧ ((strip v).kind = 3 ∨ (strip v).kind = 2) := c
        rw [if_pos c, if_pos c']; rfl
      · have c' : ¬((strip t).kind = 1 ∧ kindOf (strip t).text ≠ 0 ∧ opOf (strip m) ≠ 0 ∧ ((strip v).kind = 3 ∨ (strip v).kind = 2)) := c
        rw [if_neg c, if_neg c']; rfl
theorem loopP_strip {word : List UInt8} {kind : Int} {one : List Tok → Option (Q × List Tok)} (ho : Nat_ one) : ∀ (g : Nat) (a : Q) (T : List Tok),
    loopP word kind one g a (T.map strip) = (loopP word kind one g a T).map fun x => (x.1, x.2.map strip)
  | 0, a, T => rfl
  | g + 1, a, T => by
    simp only [loopP]
    rw [atW_strip]
    split
    · rw [← List.map_tail, ho]
      cases one T.tail with
      | none => rfl
      | some x => exact loopP_strip ho g _ _
    · rfl
theorem rowP_strip {word : List UInt8} {kind : Int} {one : List Tok → Option (Q × List Tok)} (ho : Nat_ one) : Nat_ (rowP word kind one) := by
  intro T
  unfold rowP
  rw [ho]
  cases one T with
  | none => rfl
  | some x =>
    simp only [Option.map_some, List.length_map]
    exact loopP_strip ho _ _ _
theorem notsP_strip : ∀ f, Nat_ (notsP f)
  | 0 => fun T => rfl
  | f + 1 => fun T => by
    have ih := notsP_strip f
    rw [notsP, notsP, atW_strip, atW_strip, ← List.map_tail]
    split
    · rw [ih]
      cases notsP f T.tail <;> rfl
    · split
      · rw [rowP_strip (rowP_strip ih) T.tail]
        cases rowP orW 1 (rowP andW 2 (notsP f)) T.tail with
        | none => rfl
        | some x =>
          simp only [Option.map_some]
          rw [atW_strip]
          split
          · simp [← List.map_tail]
          · rfl
      · rw [termP_strip]
        cases termP T <;> rfl
theorem orsP_strip (f : Nat) : Nat_ (orsP f) := rowP_strip (rowP_strip (notsP_strip f))
theorem parseQ_strip (T : List Tok) : parseQ (T.map strip) = parseQ T := by
  unfold parseQ
  rw [List.length_map, orsP_strip]
  cases orsP (T.length + 1) T with
  | none => rfl
  | some x =>
    obtain ⟨q, T'⟩ := x
    cases T' <;> rfl

/-- More fuel changes no success. -/
def Mono (one two : List Tok → Option (Q × List Tok)) : Prop := ∀ T x, one T = some x → two T = some x
theorem loopP_mono {word : List UInt8} {kind : Int} {one two : List Tok → Option (Q × List Tok)} (h : Mono one two) : ∀ (g : Nat) (a : Q) (T : List Tok) (x : Q × List Tok),
    loopP word kind one g a T = some x → loopP word kind two g a T = some x
  | 0, a, T, x, hx => hx
  | g + 1, a, T, x, hx => by
    rw [loopP] at hx ⊢
    split at hx
    · rename_i hw
      rw [if_pos hw]
      cases h1 : one T.tail with
      | none => rw [h1] at hx; cases hx
      | some y =>
        rw [h1] at hx
        rw [h _ _ h1]
        exact loopP_mono h g _ _ _ hx
    · rename_i hw
      rw [if_neg hw]
      exact hx
theorem rowP_mono {word : List UInt8} {kind : Int} {one two : List Tok → Option (Q × List Tok)} (h : Mono one two) : Mono (rowP word kind one) (rowP word kind two) := by
  intro T x hx
  unfold rowP at hx ⊢
  cases h1 : one T with
  | none => rw [h1] at hx; cases hx
  | some y =>
    rw [h1] at hx
    rw [h _ _ h1]
    exact loopP_mono h _ _ _ _ hx
theorem notsP_mono : ∀ f, Mono (notsP f) (notsP (f + 1))
  | 0 => fun T x h => by simp [notsP] at h
  | f + 1 => fun T x hx => by
    have ih := notsP_mono f
    rw [notsP] at hx
    rw [notsP]
    split at hx
    · rename_i hw
      rw [if_pos hw]
      cases h1 : notsP f T.tail with
      | none => rw [h1] at hx; cases hx
      | some y =>
        rw [h1] at hx
        rw [ih _ _ h1]
        exact hx
    · rename_i hw
      rw [if_neg hw]
      split at hx
      · rename_i hw2
        rw [if_pos hw2]
        cases h1 : rowP orW 1 (rowP andW 2 (notsP f)) T.tail with
        | none => rw [h1] at hx; cases hx
        | some y =>
          rw [h1] at hx
          rw [rowP_mono (rowP_mono ih) _ _ h1]
          exact hx
      · rename_i hw2
        rw [if_neg hw2]
        exact hx
theorem notsP_le {f g : Nat} (h : f ≤ g) : Mono (notsP f) (notsP g) := by
  induction h with
  | refl => exact fun _ _ h => h
  | step _ ih => exact fun T x hx => notsP_mono _ _ _ (ih T x hx)
theorem orsP_le {f g : Nat} (h : f ≤ g) : Mono (orsP f) (orsP g) := rowP_mono (rowP_mono (notsP_le h))
/-- More rounds than tokens change nothing. -/
theorem loopP_more {word : List UInt8} {kind : Int} {one : List Tok → Option (Q × List Tok)} (ht : Takes one) : ∀ (g g' : Nat) (a : Q) (T : List Tok), T.length ≤ g → T.length ≤ g' → loopP word kind one g a T = loopP word kind one g' a T
  | 0, g', a, T, h, h' => by
    have : T = [] := List.eq_nil_of_length_eq_zero (by omega)
    subst this
    cases g' with
    | zero => rfl
    | succ g' => rw [loopP, loopP, show atW [] 1 word = false from rfl]; rfl
  | g + 1, 0, a, T, h, h' => by
    have : T = [] := List.eq_nil_of_length_eq_zero (by omega)
    subst this
    rw [loopP, loopP, show atW [] 1 word = false from rfl]; rfl
  | g + 1, g' + 1, a, T, h, h' => by
    rw [loopP, loopP]
    split
    · rename_i hw
      obtain ⟨t, r, rfl, _⟩ := atW_cons hw
      cases h1 : one (t :: r).tail with
      | none => rfl
      | some x =>
        obtain ⟨b, T'⟩ := x
        have := ht _ _ _ h1
        simp at this h h'
        exact loopP_more ht g g' _ _ (by omega) (by omega)
    · rfl

/-- What stands behind begins with no word between. -/
def Rok (R : List Tok) : Prop := atW R 1 andW = false ∧ atW R 1 orW = false
/-- 'what is parsed is parsed with more behind it'. -/
def Ext (one : List Tok → Option (Q × List Tok)) : Prop := ∀ T q T' R, one T = some (q, T') → (T' ≠ [] ∨ Rok R) → one (T ++ R) = some (q, T' ++ R)
theorem atW_append {T R : List Tok} {k : Int} {w : List UInt8} (h : T ≠ []) : atW (T ++ R) k w = atW T k w := by
  cases T with
  | nil => exact absurd rfl h
  | cons t r => rfl
theorem loopP_ext {word : List UInt8} {kind : Int} {one : List Tok → Option (Q × List Tok)} (hw : word = andW ∨ word = orW) (ht : Takes one) (he : Ext one) : ∀ (g : Nat) (a : Q) (T : List Tok) (q : Q) (T' R : List Tok),
    loopP word kind one g a T = some (q, T') → (T' ≠ [] ∨ Rok R) → T.length ≤ g → loopP word kind one (g + R.length) a (T ++ R) = some (q, T' ++ R)
  | g, a, [], q, T', R, h, hR, hg => by
    have h2 : loopP word kind one g a [] = some (a, []) := by
      cases g with
      | zero => rfl
      | succ g => rw [loopP, show atW [] 1 word = false from rfl]; rfl
    rw [h2] at h
    simp at h
    obtain ⟨rfl, rfl⟩ := h
    have hR2 : Rok R := by
      rcases hR with h | h
      · exact absurd rfl h
      · exact h
    have hno : atW R 1 word = false := by
      rcases hw with rfl | rfl
      · exact hR2.1
      · exact hR2.2
    rw [List.nil_append]
    cases hgr : g + R.length with
    | zero => rfl
    | succ n => rw [loopP, hno]; rfl
  | 0, a, t :: T, q, T', R, h, hR, hg => by simp at hg
  | g + 1, a, t :: T, q, T', R, h, hR, hg => by
    rw [show g + 1 + R.length = (g + R.length) + 1 from by omega, loopP, atW_append (by simp)]
    rw [loopP] at h
    split at h
    · rename_i hw2
      rw [if_pos hw2]
      cases h1 : one (t :: T).tail with
      | none => rw [h1] at h; cases h
      | some x =>
        obtain ⟨b, T1⟩ := x
        rw [h1] at h
        have hb := ht _ _ _ h1
        have hl := loopP_takes ht _ _ _ _ _ h
        have h3 := he _ _ _ R h1 (by
          rcases hR with hR | hR
          · left; intro e; subst e; simp at hl; exact hR hl.1
          · exact .inr hR)
        simp only [List.cons_append, List.tail_cons] at h1 h3 ⊢
        rw [h3]
        simp at hg hb
        exact loopP_ext hw ht he g _ T1 q T' R h hR (by omega)
    · rename_i hw2
      rw [if_neg hw2]
      simp at h
      obtain ⟨rfl, rfl⟩ := h
      rfl
theorem rowP_ext {word : List UInt8} {kind : Int} {one : List Tok → Option (Q × List Tok)} (hw : word = andW ∨ word = orW) (ht : Takes one) (he : Ext one) : Ext (rowP word kind one) := by
  intro T q T' R h hR
  unfold rowP at h ⊢
  cases h1 : one T with
  | none => rw [h1] at h; cases h
  | some x =>
    obtain ⟨a, T1⟩ := x
    rw [h1] at h
    have hl := loopP_takes ht _ _ _ _ _ h
    have h3 := he _ _ _ R h1 (by
      rcases hR with hR | hR
      · left; intro e; subst e; simp at hl; exact hR hl.1
      · exact .inr hR)
    rw [h3]
    simp only [List.length_append]
    exact loopP_ext hw ht he _ _ _ _ _ _ h hR (Nat.le_refl _)
theorem termP_ext (T R : List Tok) (x : Ask) (T' : List Tok) (h : termP T = some (x, T')) : termP (T ++ R) = some (x, T' ++ R) := by
  have hne : T ≠ [] := by
    intro e; subst e; simp [termP, atW] at h
  unfold termP at h ⊢
  rw [atW_append hne]
  split at h
  · rename_i hw
    rw [if_pos hw]
    match T, h with
    | _ :: v :: r, h =>
      simp only [List.cons_append] at h ⊢
      split at h
      · rename_i h3
        simp at h
        obtain ⟨rfl, rfl⟩ := h
        simp [h3]
      · cases h
  · rename_i hw
    rw [if_neg hw]
    match T, h with
    | t :: m :: v :: r, h =>
      simp only [List.cons_append] at h ⊢
      split at h
      · rename_i h3
        simp at h
        obtain ⟨rfl, rfl⟩ := h
        rw [if_pos h3]
      · cases h
theorem notsP_ext : ∀ f, Ext (notsP f)
  | 0 => fun T q T' R h => by simp [notsP] at h
  | f + 1 => fun T q T' R h hR => by
    have ih := notsP_ext f
    have hne : T ≠ [] := by
      have := notsP_takes (f + 1) _ _ _ h
      intro e; subst e; simp at this
    obtain ⟨t, r, rfl⟩ : ∃ t r, T = t :: r := by
      cases T with
      | nil => exact absurd rfl hne
      | cons t r => exact ⟨t, r, rfl⟩
    rw [notsP] at h
    rw [notsP, atW_append (by simp), atW_append (by simp)]
    simp only [List.tail_cons, List.cons_append] at h ⊢
    split at h
    · rename_i hw
      rw [if_pos hw]
      cases h1 : notsP f r with
      | none => rw [h1] at h; cases h
      | some x =>
        obtain ⟨q1, T1⟩ := x
        rw [h1] at h
        simp at h
        obtain ⟨rfl, rfl⟩ := h
        rw [ih _ _ _ R h1 hR]
    · rename_i hw
      rw [if_neg hw]
      split at h
      · rename_i hw2
        rw [if_pos hw2]
        cases h1 : rowP orW 1 (rowP andW 2 (notsP f)) r with
        | none => rw [h1] at h; cases h
        | some x =>
          obtain ⟨q1, T1⟩ := x
          rw [h1] at h
          simp only [] at h
          split at h
          · rename_i hr
            obtain ⟨t', r', rfl, _⟩ := atW_cons hr
            simp at h
            obtain ⟨rfl, rfl⟩ := h
            have h3 := rowP_ext (kind := 1) (.inr rfl) (rowP_takes (notsP_takes f)) (rowP_ext (kind := 2) (.inl rfl) (notsP_takes f) ih) _ _ _ R h1 (.inl (by simp))
            rw [h3]
            simp only [List.cons_append]
            rw [show atW (t' :: (r' ++ R)) 4 rpW = atW (t' :: r') 4 rpW from rfl, if_pos hr]
            rfl
          · cases h
      · rename_i hw2
        rw [if_neg hw2]
        cases h1 : termP (t :: r) with
        | none => rw [h1] at h; cases h
        | some x =>
          obtain ⟨x1, T1⟩ := x
          rw [h1] at h
          simp at h
          obtain ⟨rfl, rfl⟩ := h
          have := termP_ext _ R _ _ h1
          rw [List.cons_append] at this
          rw [this]; rfl
theorem orsP_ext (f : Nat) : Ext (orsP f) := rowP_ext (.inr rfl) (rowP_takes (notsP_takes f)) (rowP_ext (.inl rfl) (notsP_takes f) (notsP_ext f))

def lpT : Tok := ⟨4, lpW, 0, 0⟩
def rpT : Tok := ⟨4, rpW, 0, 0⟩
def notT : Tok := ⟨1, notW, 0, 0⟩
/-- A question in brackets is a not's part: with anything behind. -/
theorem nots_par {T : List Tok} {q : Q} (h : parseQ T = some q) (R : List Tok) (f : Nat) (hf : T.length + 1 ≤ f) : notsP (f + 1) (lpT :: (T ++ rpT :: R)) = some (q, R) := by
  have h1 : orsP (T.length + 1) T = some (q, []) := by
    unfold parseQ at h
    split at h
    · rename_i q1 h2
      simp at h; subst h; exact h2
    · cases h
  have h2 := orsP_ext f _ _ _ (rpT :: R) (orsP_le hf _ _ h1) (.inr ⟨rfl, rfl⟩)
  rw [List.nil_append] at h2
  rw [notsP, show atW (lpT :: (T ++ rpT :: R)) 1 notW = false from rfl, show atW (lpT :: (T ++ rpT :: R)) 4 lpW = true from rfl]
  simp only [List.tail_cons, Bool.false_eq_true, if_false, if_true]
  have h3 : rowP orW 1 (rowP andW 2 (notsP f)) (T ++ rpT :: R) = some (q, rpT :: R) := h2
  rw [h3]
  rfl
/-- A not's part alone is a question. -/
theorem ors_of_nots {f : Nat} {T : List Tok} {q : Q} (h : notsP f T = some (q, [])) : orsP f T = some (q, []) := by
  have h1 : andsP f T = some (q, []) := by unfold andsP rowP; rw [h]; rfl
  unfold orsP rowP; rw [h1]; rfl
theorem parseQ_of_nots {T : List Tok} {q : Q} (h : notsP (T.length + 1) T = some (q, [])) : parseQ T = some q := by
  unfold parseQ; rw [ors_of_nots h]
theorem parseQ_par {T : List Tok} {q : Q} (h : parseQ T = some q) : parseQ (lpT :: (T ++ [rpT])) = some q :=
  parseQ_of_nots (nots_par h [] _ (by simp))
theorem parseQ_not {T : List Tok} {q : Q} (h : parseQ T = some q) : parseQ (notT :: lpT :: (T ++ [rpT])) = some (.neg q) := by
  apply parseQ_of_nots
  rw [notsP, show atW (notT :: lpT :: (T ++ [rpT])) 1 notW = true from rfl]
  simp only [List.tail_cons, if_true, List.length_cons]
  rw [nots_par h [] _ (by simp)]
/-- Two questions in brackets with a word between. -/
theorem parseQ_or {T1 T2 : List Tok} {q1 q2 : Q} (h1 : parseQ T1 = some q1) (h2 : parseQ T2 = some q2) : parseQ (lpT :: (T1 ++ rpT :: ⟨1, orW, 0, 0⟩ :: lpT :: (T2 ++ [rpT]))) = some (.two 1 q1 q2) := by
  unfold parseQ
  generalize hf : (lpT :: (T1 ++ rpT :: ⟨1, orW, 0, 0⟩ :: lpT :: (T2 ++ [rpT]))).length = f
  have hl : T1.length + 1 ≤ f ∧ T2.length + 1 ≤ f := by rw [← hf]; simp; omega
  have a1 : andsP (f + 1) (lpT :: (T1 ++ rpT :: ⟨1, orW, 0, 0⟩ :: lpT :: (T2 ++ [rpT]))) = some (q1, ⟨1, orW, 0, 0⟩ :: lpT :: (T2 ++ [rpT])) := by
    unfold andsP rowP
    rw [nots_par h1 _ f hl.1]
    simp only [List.length_cons]
    rw [loopP, show atW (⟨1, orW, 0, 0⟩ :: lpT :: (T2 ++ [rpT])) 1 andW = false from rfl]; rfl
  have a2 : andsP (f + 1) (lpT :: (T2 ++ [rpT])) = some (q2, []) := by
    unfold andsP rowP
    rw [nots_par h2 _ f hl.2]; rfl
  have a3 : orsP (f + 1) (lpT :: (T1 ++ rpT :: ⟨1, orW, 0, 0⟩ :: lpT :: (T2 ++ [rpT]))) = some (.two 1 q1 q2, []) := by
    unfold orsP rowP
    rw [a1]
    simp only [List.length_cons]
    rw [loopP, show atW (⟨1, orW, 0, 0⟩ :: lpT :: (T2 ++ [rpT])) 1 orW = true from rfl]
    simp only [if_true, List.tail_cons]
    rw [a2]
    simp only []
    rw [loopP, show atW [] 1 orW = false from rfl]; rfl
  rw [a3]
theorem parseQ_and {T1 T2 : List Tok} {q1 q2 : Q} (h1 : parseQ T1 = some q1) (h2 : parseQ T2 = some q2) : parseQ (lpT :: (T1 ++ rpT :: ⟨1, andW, 0, 0⟩ :: lpT :: (T2 ++ [rpT]))) = some (.two 2 q1 q2) := by
  unfold parseQ
  generalize hf : (lpT :: (T1 ++ rpT :: ⟨1, andW, 0, 0⟩ :: lpT :: (T2 ++ [rpT]))).length = f
  have hl : T1.length + 1 ≤ f ∧ T2.length + 1 ≤ f := by rw [← hf]; simp; omega
  have a1 : andsP (f + 1) (lpT :: (T1 ++ rpT :: ⟨1, andW, 0, 0⟩ :: lpT :: (T2 ++ [rpT]))) = some (.two 2 q1 q2, []) := by
    unfold andsP rowP
    rw [nots_par h1 _ f hl.1]
    simp only [List.length_cons]
    rw [loopP, show atW (⟨1, andW, 0, 0⟩ :: lpT :: (T2 ++ [rpT])) 1 andW = true from rfl]
    simp only [if_true, List.tail_cons]
    rw [nots_par h2 _ f hl.2]
    simp only []
    rw [loopP, show atW [] 1 andW = false from rfl]; rfl
  have a3 : orsP (f + 1) (lpT :: (T1 ++ rpT :: ⟨1, andW, 0, 0⟩ :: lpT :: (T2 ++ [rpT]))) = some (.two 2 q1 q2, []) := by
    unfold orsP rowP
    rw [a1]; rfl
  rw [a3]
end Go.Proofs.YtnhcamkccnaeeaaGreatDoor
