/-
  What the questions of a text are: their terms, their size. No program in sight.
-/
import Derived.Test.YtnhcamkccnaeeaaGreatDoorTextQ
import Derived.Test.YtnhcamkccnaeeaaGreatDoorRpProg
namespace Go.Proofs.YtnhcamkccnaeeaaGreatDoor
set_option linter.unusedVariables false

/-- What the terms of a question of the lexer's tokens are. -/
def okA (a : Ask) : Prop :=
  ((a.kind = 9 ∧ a.op = 1 ∧ a.isText = true) ∨ (4 ≤ a.kind ∧ a.kind ≤ 8 ∧ 1 ≤ a.op ∧ a.op ≤ 7)) ∧ a.a = -1 ∧ a.b = -1 ∧ (a.isText = true → a.n = 0) ∧ (a.isText = false → a.text = []) ∧ 0 ≤ a.n ∧ a.n < 1000000000000000 ∧ a.text.length ≤ 400
def okQ : Q → Prop
  | .term a => okA a
  | .neg q => okQ q
  | .two k x y => (k = 1 ∨ k = 2) ∧ okQ x ∧ okQ y
def TokOk (T : List Tok) : Prop := ∀ t ∈ T, (t.kind = 3 → t.n = 0) ∧ (t.kind = 2 → t.text = []) ∧ 0 ≤ t.n ∧ t.n < 1000000000000000 ∧ t.text.length ≤ 400

theorem kindOf_range (t : List UInt8) (h : kindOf t ≠ 0) : 4 ≤ kindOf t ∧ kindOf t ≤ 8 := by
  unfold kindOf at h ⊢
  split
  · decide
  split
  · decide
  split
  · decide
  split
  · decide
  split
  · decide
  · simp_all
theorem findK_range (t : List UInt8) : ∀ (l : List (List UInt8)) (k : Int), findK l t k ≠ 0 → k ≤ findK l t k ∧ findK l t k < k + l.length
  | [], k, h => absurd rfl h
  | m :: r, k, h => by
    rw [findK] at h ⊢
    split
    · simp; omega
    · rename_i h1
      rw [if_neg h1] at h
      have := findK_range t r (k + 1) h
      simp; omega
theorem opOf_range (t : Tok) (h : opOf t ≠ 0) : 1 ≤ opOf t ∧ opOf t ≤ 7 := by
  unfold opOf at h ⊢
  split
  · rename_i h1
    rw [if_pos h1] at h
    have := findK_range t.text cmpL 1 h
    have hl : cmpL.length = 7 := rfl
    omega
  · rename_i h1
    rw [if_neg h1] at h; exact absurd rfl h
theorem rterm_ok {T : List Tok} {a : Ask} (h : rterm T = some a) (ho : TokOk T) : okA a := by
  match T, h with
  | [t, v], h =>
    rw [rterm] at h
    by_cases c : isW t 1 hasW = true ∧ v.kind = 3
    · rw [if_pos c] at h
      cases h
      have hv := ho v (by simp)
      exact ⟨.inl ⟨rfl, rfl, rfl⟩, rfl, rfl, fun _ => rfl, (fun h => by cases h), by show (0 : Int) ≤ 0; omega, by show (0 : Int) < _; omega, hv.2.2.2.2⟩
    · rw [if_neg c] at h; cases h
  | [t, m, v], h =>
    rw [rterm] at h
    by_cases c : (if t.kind = 1 then kindOf t.text else 0) = 0 ∨ opOf m = 0 ∨ (v.kind ≠ 2 ∧ v.kind ≠ 3)
    · rw [if_pos c] at h; cases h
    · rw [if_neg c] at h
      have hv := ho v (by simp)
      have c0 : kindOf t.text ≠ 0 := by
        intro h
        refine c (Or.inl ?_)
        split
        · exact h
        · rfl
      have c2 : opOf m ≠ 0 := fun h => c (Or.inr (Or.inl h))
      have r1 := kindOf_range _ c0
      have r2 := opOf_range _ c2
      split at h
      · cases h
        exact ⟨.inr ⟨r1.1, r1.2, r2.1, r2.2⟩, rfl, rfl, fun _ => rfl, (fun h => by cases h), by show (0 : Int) ≤ 0; omega, by show (0 : Int) < _; omega, hv.2.2.2.2⟩
      · cases h
        exact ⟨.inr ⟨r1.1, r1.2, r2.1, r2.2⟩, rfl, rfl, (fun h => by cases h), fun _ => rfl, hv.2.2.1, hv.2.2.2.1, by show (0 : Nat) ≤ 400; omega⟩
theorem G_ok {k : Nat} {q : Q} {T : List Tok} (h : G k q T) : TokOk T → okQ q := by
  induction h with
  | or_ x y A B t _ _ _ ihx ihy => exact fun ho => ⟨.inl rfl, ihx fun t h => ho t (by simp [h]), ihy fun t h => ho t (by simp [h])⟩
  | up0 q T _ ih => exact ih
  | and_ x y A B t _ _ _ ihx ihy => exact fun ho => ⟨.inr rfl, ihx fun t h => ho t (by simp [h]), ihy fun t h => ho t (by simp [h])⟩
  | up1 q T _ ih => exact ih
  | not_ q T t _ _ ih => exact fun ho => ih fun t h => ho t (by simp [h])
  | par q T t u _ _ _ ih => exact fun ho => ih fun t h => ho t (by simp [h])
  | term a T h => exact fun ho => rterm_ok h ho

theorem tokL_ok (l : List UInt8) (p : Nat) (x : Tok × Nat) (h : tokL l p = some x) : (x.1.kind = 3 → x.1.n = 0) ∧ (x.1.kind = 2 → x.1.text = []) := by
  unfold tokL at h
  split at h
  · simp at h; subst h; simp
  · split at h
    · split at h
      · cases h
      · simp at h; subst h; simp
    · split at h
      · simp at h
        obtain ⟨a, b, hq, rfl⟩ := h
        simp
      · split at h
        · cases h
        · simp at h; subst h; simp
theorem toksF_ok (f p : Nat) (l : List UInt8) : OkT (toksF f p l).1 := by
  induction f generalizing p l with
  | zero => intro t ht; simp [toksF] at ht
  | succ f ih =>
    cases l with
    | nil => intro t ht; simp [toksF] at ht
    | cons c r =>
      rw [toksF]
      split
      · exact ih _ _
      · cases ht : tokL (c :: r) p with
        | none => intro t h; simp at h
        | some x =>
          obtain ⟨t, k⟩ := x
          intro t' h
          simp only [List.mem_cons] at h
          rcases h with rfl | h
          · exact tokL_ok _ _ _ ht
          · exact ih _ _ _ h
theorem lexL_ok (l : List UInt8) : OkT (lexL l) := by
  unfold lexL
  split
  · intro t h; simp at h
  · split
    · exact toksF_ok _ _ _
    · intro t h; simp at h

theorem rterm_len {T : List Tok} {a : Ask} (h : rterm T = some a) : 1 ≤ T.length := by
  match T, h with
  | [_, _], _ => simp
  | [_, _, _], _ => simp
theorem G_size {k : Nat} {q : Q} {T : List Tok} (h : G k q T) : q.size ≤ T.length := by
  induction h with
  | or_ x y A B t _ _ _ ihx ihy => simp [Q.size]; omega
  | up0 q T _ ih => exact ih
  | and_ x y A B t _ _ _ ihx ihy => simp [Q.size]; omega
  | up1 q T _ ih => exact ih
  | not_ q T t _ _ ih => simp [Q.size]; omega
  | par q T t u _ _ _ ih => simp; omega
  | term a T h => exact rterm_len h
theorem takeWhile_digits (p : UInt8 → Bool) : ∀ l : List UInt8, ∀ c ∈ l.takeWhile p, p c = true
  | [], c, h => by simp at h
  | a :: l, c, h => by
    rw [List.takeWhile_cons] at h
    split at h
    · rename_i ha
      rcases List.mem_cons.1 h with rfl | h
      · exact ha
      · exact takeWhile_digits p l c h
    · simp at h
theorem tokL_good (l : List UInt8) (p : Nat) (x : Tok × Nat) (h : tokL l p = some x) : 0 ≤ x.1.n ∧ x.1.n < 1000000000000000 := by
  unfold tokL at h
  split at h
  · cases h; exact ⟨by show (0 : Int) ≤ 0; omega, by show (0 : Int) < _; omega⟩
  · split at h
    · split at h
      · cases h
      · rename_i hb
        cases h
        have hd := takeWhile_digits digitB l
        generalize l.takeWhile digitB = d at *
        have h15 : d.length ≤ 15 := by
          unfold numBad at hb
          simp at hb
          omega
        have := numOf_bounds d hd d.length (Nat.le_refl _)
        rw [List.take_length] at this
        have h2 : (10 : Int) ^ d.length ≤ 10 ^ 15 := by
          have : (10 : Nat) ^ d.length ≤ 10 ^ 15 := Nat.pow_le_pow_right (by omega) h15
          exact_mod_cast this
        have h3 : (10 : Int) ^ 15 = 1000000000000000 := by decide
        show 0 ≤ numOf d ∧ numOf d < _
        omega
    · split at h
      · obtain ⟨y, _, e⟩ := Option.map_eq_some_iff.1 h
        rw [← e]
        exact ⟨by show (0 : Int) ≤ 0; omega, by show (0 : Int) < _; omega⟩
      · split at h
        · cases h
        · cases h; exact ⟨by show (0 : Int) ≤ 0; omega, by show (0 : Int) < _; omega⟩
theorem toksF_good (f p : Nat) (l : List UInt8) : ∀ t ∈ (toksF f p l).1, 0 ≤ t.n ∧ t.n < 1000000000000000 := by
  induction f generalizing p l with
  | zero => intro t ht; simp [toksF] at ht
  | succ f ih =>
    cases l with
    | nil => intro t ht; simp [toksF] at ht
    | cons c r =>
      rw [toksF]
      split
      · exact ih _ _
      · cases ht : tokL (c :: r) p with
        | none => intro t h; simp at h
        | some x =>
          obtain ⟨t, k⟩ := x
          intro t' h
          simp only [List.mem_cons] at h
          rcases h with rfl | h
          · exact tokL_good _ _ _ ht
          · exact ih _ _ _ h
theorem sL_ok (l : List UInt8) (hl : l.length ≤ 400) : TokOk (sL l).1 := by
  intro t ht
  have ht' : t ∈ (toksF l.length 0 l).1.map strip := ht
  obtain ⟨u, hu, rfl⟩ := List.mem_map.1 ht'
  have h1 := toksF_ok _ _ _ u hu
  have h2 := toksF_good _ _ _ u hu
  have h3 := (toksF_text l.length 0 l).2 u hu
  exact ⟨h1.1, h1.2, h2.1, h2.2, by show u.text.length ≤ 400; omega⟩
theorem TokOk.okT {T : List Tok} (h : TokOk T) : OkT T := fun t ht => ⟨(h t ht).1, (h t ht).2.1⟩
theorem textQ_ok {l : List UInt8} {q : Q} (h : textQ l = some q) : okQ q := by
  obtain ⟨h1, h2, h3⟩ := textQ_len h
  have ho := sL_ok l h1
  exact G_ok ((parseQ_iff ho.okT q).1 h3) ho
theorem textQ_size {l : List UInt8} {q : Q} (h : textQ l = some q) : q.size ≤ 400 := by
  obtain ⟨h1, h2, h3⟩ := textQ_len h
  have ho := sL_ok l h1
  have h4 := G_size ((parseQ_iff ho.okT q).1 h3)
  have h5 : (sL l).1.length = (toksF l.length 0 l).1.length := by show ((toksF l.length 0 l).1.map strip).length = _; simp
  have := (toksF_text l.length 0 l).1
  omega
end Go.Proofs.YtnhcamkccnaeeaaGreatDoor
