/-
  Both parsers of questions obey one grammar: G level q T (0: ors, 1: ands, 2: nots). No program in sight.
  The reference's parser is sound for the grammar. No program in sight.
  The program's parser obeys the same grammar. No program in sight.
-/
import Derived.Test.YtnhcamkccnaeeaaGreatDoorRefPSpec
import Derived.Test.YtnhcamkccnaeeaaGreatDoorParseLaw
namespace Go.Proofs.YtnhcamkccnaeeaaGreatDoor
set_option linter.unusedVariables false

inductive G : Nat → Q → List Tok → Prop where
  | or_ (x y : Q) (A B : List Tok) (t : Tok) : G 0 x A → G 1 y B → isW t 1 orW = true → G 0 (.two 1 x y) (A ++ t :: B)
  | up0 (q : Q) (T : List Tok) : G 1 q T → G 0 q T
  | and_ (x y : Q) (A B : List Tok) (t : Tok) : G 1 x A → G 2 y B → isW t 1 andW = true → G 1 (.two 2 x y) (A ++ t :: B)
  | up1 (q : Q) (T : List Tok) : G 2 q T → G 1 q T
  | not_ (q : Q) (T : List Tok) (t : Tok) : G 2 q T → isW t 1 notW = true → G 2 (.neg q) (t :: T)
  | par (q : Q) (T : List Tok) (t u : Tok) : G 0 q T → isLp t = true → isRp u = true → G 2 q (t :: (T ++ [u]))
  | term (a : Ask) (T : List Tok) : rterm T = some a → G 2 (.term a) T

theorem isW_iff (t : Tok) (k : Int) (s : List UInt8) : isW t k s = true ↔ t.kind = k ∧ t.text = s := by simp [isW]
/-- It is no bracket. -/
def NoBr (t : Tok) : Prop := isLp t = false ∧ isRp t = false
theorem noBr_kind {t : Tok} (h : t.kind ≠ 4) : NoBr t := by simp [NoBr, isLp, isRp, isW, h]
theorem noBr_op {t : Tok} (h : opOf t ≠ 0) : NoBr t := by
  unfold opOf at h
  by_cases h4 : t.kind = 4
  · rw [if_pos h4] at h
    constructor
    · rw [← Bool.not_eq_true]; intro hh
      have := ((isW_iff _ _ _).1 hh).2
      rw [this] at h
      exact h (by decide)
    · rw [← Bool.not_eq_true]; intro hh
      have := ((isW_iff _ _ _).1 hh).2
      rw [this] at h
      exact h (by decide)
  · exact noBr_kind h4
theorem rterm_noBr {T : List Tok} {a : Ask} (h : rterm T = some a) : ∀ t ∈ T, NoBr t := by
  match T, h with
  | [t, v], h =>
    simp only [rterm] at h
    split at h
    · rename_i c
      have c1 := (isW_iff _ _ _).1 c.1
      intro x hx
      simp at hx
      rcases hx with rfl | rfl
      · exact noBr_kind (by omega)
      · exact noBr_kind (by omega)
    · simp at h
  | [t, m, v], h =>
    rw [rterm] at h
    by_cases c : (if t.kind = 1 then kindOf t.text else 0) = 0 ∨ opOf m = 0 ∨ (v.kind ≠ 2 ∧ v.kind ≠ 3)
    · rw [if_pos c] at h; simp at h
    · have c1 : t.kind = 1 := by
        by_cases h1 : t.kind = 1
        · exact h1
        · exact absurd (Or.inl (by rw [if_neg h1])) c
      have c2 : opOf m ≠ 0 := fun h => c (Or.inr (Or.inl h))
      have c3 : ¬ (v.kind ≠ 2 ∧ v.kind ≠ 3) := fun h => c (Or.inr (Or.inr h))
      intro x hx
      simp at hx
      rcases hx with rfl | rfl | rfl
      · exact noBr_kind (by omega)
      · exact noBr_op c2
      · exact noBr_kind (by omega)

theorem lastF_br {word : List UInt8} {t : Tok} (h : NoBr t) (T : List Tok) (d a i : Int) : lastF word (t :: T) d a i = lastF word T d (if d = 0 ∧ isW t 1 word = true then i else a) (i + 1) := by
  rw [lastF, h.1, h.2]; simp
theorem closedF_br {t : Tok} (h : NoBr t) (T : List Tok) (d : Int) (hd : 0 ≤ d) : closedF (t :: T) d = closedF T d := by
  rw [closedF, show dStep d t = d from by unfold dStep; rw [h.1, h.2]; simp, if_neg (by omega)]
theorem closedF_run {S : List Tok} (h : ∀ t ∈ S, NoBr t) (R : List Tok) (d : Int) (hd : 0 ≤ d) : closedF (S ++ R) d = closedF R d := by
  induction S with
  | nil => rfl
  | cons t S ih =>
    rw [List.cons_append, closedF_br (h t List.mem_cons_self) _ _ hd]
    exact ih fun t ht => h t (List.mem_cons_of_mem _ ht)
/-- A question's brackets stand in pairs. -/
theorem G_closed {k : Nat} {q : Q} {T : List Tok} (h : G k q T) : ∀ (R : List Tok) (d : Int), 0 ≤ d → closedF (T ++ R) d = closedF R d := by
  induction h with
  | or_ x y A B t _ _ hw iha ihb =>
    intro R d hd
    rw [List.append_assoc, iha _ _ hd, List.cons_append, closedF_br (noBr_kind (by have := (isW_iff _ _ _).1 hw; omega)) _ _ hd, ihb _ _ hd]
  | up0 q T _ ih => exact ih
  | and_ x y A B t _ _ hw iha ihb =>
    intro R d hd
    rw [List.append_assoc, iha _ _ hd, List.cons_append, closedF_br (noBr_kind (by have := (isW_iff _ _ _).1 hw; omega)) _ _ hd, ihb _ _ hd]
  | up1 q T _ ih => exact ih
  | not_ q T t _ hw ih =>
    intro R d hd
    rw [List.cons_append, closedF_br (noBr_kind (by have := (isW_iff _ _ _).1 hw; omega)) _ _ hd, ih _ _ hd]
  | par q T t u _ h1 h2 ih =>
    intro R d hd
    have hu : isLp u = false := by
      rw [← Bool.not_eq_true]; intro h
      have a := (isW_iff _ _ _).1 h
      have b := (isW_iff _ _ _).1 h2
      rw [a.2] at b
      exact absurd b.2 (by decide)
    rw [List.cons_append, List.append_assoc, closedF, show dStep d t = d + 1 from by unfold dStep; rw [if_pos h1], if_neg (by omega), ih _ _ (by omega), List.cons_append, List.nil_append, closedF,
      show dStep (d + 1) u = d from by unfold dStep; rw [hu, h2]; simp, if_neg (by omega)]
  | term a T h =>
    intro R d hd
    exact closedF_run (rterm_noBr h) R d hd

theorem lastF_lp {word : List UInt8} {t : Tok} (h : isLp t = true) (T : List Tok) (d a i : Int) : lastF word (t :: T) d a i = lastF word T (d + 1) a (i + 1) := by
  rw [lastF, if_pos h]
theorem rp_not_lp {u : Tok} (h2 : isRp u = true) : isLp u = false := by
  rw [← Bool.not_eq_true]; intro h
  have a := (isW_iff _ _ _).1 h
  have b := (isW_iff _ _ _).1 h2
  rw [a.2] at b
  exact absurd b.2 (by decide)
theorem lastF_rp {word : List UInt8} {t : Tok} (h : isRp t = true) (T : List Tok) (d a i : Int) : lastF word (t :: T) d a i = lastF word T (d - 1) a (i + 1) := by
  rw [lastF, rp_not_lp h, h]; simp
theorem lastF_in {word : List UInt8} {t : Tok} (h : NoBr t) (T : List Tok) (d a i : Int) (hd : 1 ≤ d) : lastF word (t :: T) d a i = lastF word T d a (i + 1) := by
  rw [lastF_br h, if_neg (by intro hh; omega)]
theorem lastF_run {word : List UInt8} {S : List Tok} (h : ∀ t ∈ S, NoBr t) (R : List Tok) (d a i : Int) (hd : 1 ≤ d) : lastF word (S ++ R) d a i = lastF word R d a (i + S.length) := by
  induction S generalizing i with
  | nil => simp
  | cons t S ih =>
    rw [List.cons_append, lastF_in (h t List.mem_cons_self) _ _ _ _ hd, ih (fun t ht => h t (List.mem_cons_of_mem _ ht)), List.length_cons]
    congr 1; omega
/-- A scan passes over a question inside brackets. -/
theorem G_deep {k : Nat} {q : Q} {T : List Tok} (h : G k q T) : ∀ (word : List UInt8) (R : List Tok) (d a i : Int), 1 ≤ d → lastF word (T ++ R) d a i = lastF word R d a (i + T.length) := by
  induction h with
  | or_ x y A B t _ _ hw iha ihb =>
    intro word R d a i hd
    rw [List.append_assoc, iha _ _ _ _ _ hd, List.cons_append, lastF_in (noBr_kind (by have := (isW_iff _ _ _).1 hw; omega)) _ _ _ _ hd, ihb _ _ _ _ _ hd]
    congr 1; simp; omega
  | up0 q T _ ih => exact ih
  | and_ x y A B t _ _ hw iha ihb =>
    intro word R d a i hd
    rw [List.append_assoc, iha _ _ _ _ _ hd, List.cons_append, lastF_in (noBr_kind (by have := (isW_iff _ _ _).1 hw; omega)) _ _ _ _ hd, ihb _ _ _ _ _ hd]
    congr 1; simp; omega
  | up1 q T _ ih => exact ih
  | not_ q T t _ hw ih =>
    intro word R d a i hd
    rw [List.cons_append, lastF_in (noBr_kind (by have := (isW_iff _ _ _).1 hw; omega)) _ _ _ _ hd, ih _ _ _ _ _ hd]
    congr 1; simp; omega
  | par q T t u _ h1 h2 ih =>
    intro word R d a i hd
    rw [List.cons_append, List.append_assoc, lastF_lp h1, ih _ _ _ _ _ (by omega), List.cons_append, List.nil_append, lastF_rp h2]
    congr 1
    · omega
    · simp; omega
  | term x T h =>
    intro word R d a i hd
    exact lastF_run (rterm_noBr h) R d a i hd

theorem lastF_skip {word : List UInt8} {S : List Tok} (h : ∀ t ∈ S, NoBr t ∧ isW t 1 word = false) (R : List Tok) (a i : Int) : lastF word (S ++ R) 0 a i = lastF word R 0 a (i + S.length) := by
  induction S generalizing i with
  | nil => simp
  | cons t S ih =>
    have h1 := h t List.mem_cons_self
    rw [List.cons_append, lastF_br h1.1, if_neg (by rw [h1.2]; simp), ih (fun t ht => h t (List.mem_cons_of_mem _ ht)), List.length_cons]
    congr 1; omega
theorem not_word {t : Tok} {word w2 : List UInt8} (h : isW t 1 word = true) (hne : word ≠ w2) : isW t 1 w2 = false := by
  rw [← Bool.not_eq_true]; intro h2
  have a := (isW_iff _ _ _).1 h
  have b := (isW_iff _ _ _).1 h2
  exact hne (a.2.symm.trans b.2)
theorem kind_word {t : Tok} {word : List UInt8} (h : t.kind ≠ 1) : isW t 1 word = false := by simp [isW, h]
/-- A word between two questions. -/
def Join (word : List UInt8) : Prop := word = orW ∨ word = andW
theorem rterm_noJoin {word : List UInt8} (hw : Join word) {T : List Tok} {a : Ask} (h : rterm T = some a) : ∀ t ∈ T, isW t 1 word = false := by
  match T, h with
  | [t, v], h =>
    simp only [rterm] at h
    split at h
    · rename_i c
      intro x hx
      simp at hx
      rcases hx with rfl | rfl
      · exact not_word c.1 (by rcases hw with rfl | rfl <;> decide)
      · exact kind_word (by omega)
    · simp at h
  | [t, m, v], h =>
    rw [rterm] at h
    by_cases c : (if t.kind = 1 then kindOf t.text else 0) = 0 ∨ opOf m = 0 ∨ (v.kind ≠ 2 ∧ v.kind ≠ 3)
    · rw [if_pos c] at h; simp at h
    · have c1 : (if t.kind = 1 then kindOf t.text else 0) ≠ 0 := fun h => c (Or.inl h)
      have c2 : opOf m ≠ 0 := fun h => c (Or.inr (Or.inl h))
      have c3 : ¬ (v.kind ≠ 2 ∧ v.kind ≠ 3) := fun h => c (Or.inr (Or.inr h))
      intro x hx
      simp at hx
      rcases hx with rfl | rfl | rfl
      · rw [← Bool.not_eq_true]; intro h2
        have b := (isW_iff _ _ _).1 h2
        rw [if_pos b.1, b.2] at c1
        exact c1 (by rcases hw with rfl | rfl <;> decide)
      · refine kind_word fun h => ?_
        rw [opOf, if_neg (by omega)] at c2
        exact c2 rfl
      · exact kind_word (by omega)
/-- A question of the last level has no word between at depth 0; one of the middle level has no 'or'. -/
theorem G_skip {k : Nat} {q : Q} {T : List Tok} (h : G k q T) : ∀ (word : List UInt8), Join word → (k = 2 ∨ (k = 1 ∧ word = orW)) → ∀ (R : List Tok) (a i : Int), lastF word (T ++ R) 0 a i = lastF word R 0 a (i + T.length) := by
  induction h with
  | or_ x y A B t _ _ hw iha ihb => intro word hj hk; omega
  | up0 q T _ ih => intro word hj hk; omega
  | and_ x y A B t _ _ hw iha ihb =>
    intro word hj hk R a i
    have hk2 : word = orW := by rcases hk with h | h; · omega
                                · exact h.2
    rw [List.append_assoc, iha _ hj (.inr ⟨rfl, hk2⟩), List.cons_append, lastF_br (noBr_kind (by have := (isW_iff _ _ _).1 hw; omega)), if_neg (by rw [not_word hw (by rw [hk2]; decide)]; simp), ihb _ hj (.inl rfl)]
    congr 1; simp; omega
  | up1 q T _ ih => intro word hj hk; exact ih word hj (.inl rfl)
  | not_ q T t _ hw ih =>
    intro word hj hk R a i
    rw [List.cons_append, lastF_br (noBr_kind (by have := (isW_iff _ _ _).1 hw; omega)), if_neg (by rw [not_word hw (by rcases hj with rfl | rfl <;> decide)]; simp), ih _ hj (.inl rfl)]
    congr 1; simp; omega
  | par q T t u hg h1 h2 ih =>
    intro word hj hk R a i
    rw [List.cons_append, List.append_assoc, lastF_lp h1, G_deep hg _ _ _ _ _ (by omega), List.cons_append, List.nil_append, lastF_rp h2]
    congr 1
    simp; omega
  | term x T h =>
    intro word hj hk R a i
    exact lastF_skip (fun t ht => ⟨rterm_noBr h t ht, rterm_noJoin hj h t ht⟩) R a i

/-- A scan over a question from depth 0 stands at depth 0 again. -/
theorem G_any {k : Nat} {q : Q} {T : List Tok} (h : G k q T) : ∀ (word : List UInt8), Join word → ∀ (R : List Tok) (a i : Int), ∃ a', lastF word (T ++ R) 0 a i = lastF word R 0 a' (i + T.length) := by
  induction h with
  | or_ x y A B t _ _ hw iha ihb =>
    intro word hj R a i
    obtain ⟨a1, h1⟩ := iha word hj (t :: B ++ R) a i
    obtain ⟨a2, h2⟩ := ihb word hj R (if (0 : Int) = 0 ∧ isW t 1 word = true then i + A.length else a1) (i + A.length + 1)
    refine ⟨a2, ?_⟩
    rw [List.append_assoc, h1, List.cons_append, lastF_br (noBr_kind (by have := (isW_iff _ _ _).1 hw; omega)), h2]
    congr 1; simp; omega
  | up0 q T _ ih => exact ih
  | and_ x y A B t _ _ hw iha ihb =>
    intro word hj R a i
    obtain ⟨a1, h1⟩ := iha word hj (t :: B ++ R) a i
    obtain ⟨a2, h2⟩ := ihb word hj R (if (0 : Int) = 0 ∧ isW t 1 word = true then i + A.length else a1) (i + A.length + 1)
    refine ⟨a2, ?_⟩
    rw [List.append_assoc, h1, List.cons_append, lastF_br (noBr_kind (by have := (isW_iff _ _ _).1 hw; omega)), h2]
    congr 1; simp; omega
  | up1 q T _ ih => exact ih
  | not_ q T t hg hw ih =>
    intro word hj R a i
    exact ⟨a, G_skip (.not_ q T t hg hw) word hj (.inl rfl) R a i⟩
  | par q T t u hg h1 h2 ih =>
    intro word hj R a i
    exact ⟨a, G_skip (.par q T t u hg h1 h2) word hj (.inl rfl) R a i⟩
  | term x T h =>
    intro word hj R a i
    exact ⟨a, G_skip (.term x T h) word hj (.inl rfl) R a i⟩
/-- The last word between, at a question of its level. -/
theorem last_join {k k2 : Nat} {x y : Q} {A B : List Tok} {t : Tok} {word : List UInt8} (hj : Join word) (hx : G k x A) (hy : G k2 y B) (hk : k2 = 2 ∨ (k2 = 1 ∧ word = orW)) (hw : isW t 1 word = true) : lastW word (A ++ t :: B) 0 = A.length := by
  obtain ⟨a1, h1⟩ := G_any hx word hj (t :: B) (-1) 0
  have h2 := G_skip hy word hj hk [] (A.length : Int) ((0 : Int) + A.length + 1)
  rw [List.append_nil] at h2
  unfold lastW
  rw [h1, lastF_br (noBr_kind (by have := (isW_iff _ _ _).1 hw; omega)), if_pos ⟨rfl, hw⟩, Int.zero_add] at *
  rw [h2]; rfl
theorem last_none {k : Nat} {q : Q} {T : List Tok} {word : List UInt8} (hj : Join word) (h : G k q T) (hk : k = 2 ∨ (k = 1 ∧ word = orW)) : lastW word T 0 = -1 := by
  have h2 := G_skip h word hj hk [] (-1) 0
  rw [List.append_nil] at h2
  unfold lastW
  rw [h2]; rfl

theorem G_pos {k : Nat} {q : Q} {T : List Tok} (h : G k q T) : T ≠ [] := by
  induction h with
  | or_ => simp
  | up0 q T _ ih => exact ih
  | and_ => simp
  | up1 q T _ ih => exact ih
  | not_ => simp
  | par => simp
  | term x T h => intro e; subst e; simp [rterm] at h
theorem rterm_noNot {T : List Tok} {a : Ask} (h : rterm T = some a) : atW T 1 notW = false := by
  match T, h with
  | [t, v], h =>
    simp only [rterm] at h
    split at h
    · rename_i c
      exact not_word c.1 (by decide)
    · simp at h
  | [t, m, v], h =>
    rw [rterm] at h
    by_cases c : (if t.kind = 1 then kindOf t.text else 0) = 0 ∨ opOf m = 0 ∨ (v.kind ≠ 2 ∧ v.kind ≠ 3)
    · rw [if_pos c] at h; simp at h
    · have c1 : (if t.kind = 1 then kindOf t.text else 0) ≠ 0 := fun h => c (Or.inl h)
      show isW t 1 notW = false
      rw [← Bool.not_eq_true]; intro h2
      have b := (isW_iff _ _ _).1 h2
      rw [if_pos b.1, b.2] at c1
      exact c1 (by decide)
/-- The reference's parser finds every question of the grammar. -/
theorem G_part {k : Nat} {q : Q} {T : List Tok} (h : G k q T) : ∀ (f : Nat), T.length < f → partP f T = some q := by
  induction h with
  | up0 q T _ ih => exact ih
  | up1 q T _ ih => exact ih
  | or_ x y A B t hx hy hw ihx ihy =>
    intro f hf
    obtain ⟨g, rfl⟩ : ∃ g, f = g + 1 := ⟨f - 1, by omega⟩
    rw [List.length_append, List.length_cons] at hf
    rw [partP, if_neg (by simp)]
    dsimp only
    rw [last_join (.inl rfl) hx hy (.inr ⟨rfl, rfl⟩) hw, if_pos (by omega), Int.toNat_natCast, List.take_left, ihx g (by omega), show (A ++ t :: B).drop (A.length + 1) = B from by rw [List.drop_append]; simp, ihy g (by omega)]
    rfl
  | and_ x y A B t hx hy hw ihx ihy =>
    intro f hf
    obtain ⟨g, rfl⟩ : ∃ g, f = g + 1 := ⟨f - 1, by omega⟩
    have hn := last_none (.inl rfl) (.and_ x y A B t hx hy hw) (.inr ⟨rfl, rfl⟩) (word := orW)
    rw [List.length_append, List.length_cons] at hf
    rw [partP, if_neg (by simp)]
    dsimp only
    rw [hn, if_neg (by omega), last_join (.inr rfl) hx hy (.inl rfl) hw, if_pos (by omega), Int.toNat_natCast, List.take_left, ihx g (by omega), show (A ++ t :: B).drop (A.length + 1) = B from by rw [List.drop_append]; simp, ihy g (by omega)]
    rfl
  | not_ q T t hg hw ih =>
    intro f hf
    obtain ⟨g, rfl⟩ : ∃ g, f = g + 1 := ⟨f - 1, by omega⟩
    have h1 := last_none (.inl rfl) (.not_ q T t hg hw) (.inl rfl) (word := orW)
    have h2 := last_none (.inr rfl) (.not_ q T t hg hw) (.inl rfl) (word := andW)
    rw [List.length_cons] at hf
    rw [partP, if_neg (by simp)]
    dsimp only
    rw [h1, h2, if_neg (by omega), if_neg (by omega), if_pos (show atW (t :: T) 1 notW = true from hw), List.tail_cons, ih g (by omega)]
    rfl
  | par q T t u hg hl hr ih =>
    intro f hf
    obtain ⟨g, rfl⟩ : ∃ g, f = g + 1 := ⟨f - 1, by omega⟩
    have h1 := last_none (.inl rfl) (.par q T t u hg hl hr) (.inl rfl) (word := orW)
    have h2 := last_none (.inr rfl) (.par q T t u hg hl hr) (.inl rfl) (word := andW)
    rw [List.length_cons, List.length_append] at hf
    rw [partP, if_neg (by simp)]
    dsimp only
    rw [h1, h2, if_neg (by omega), if_neg (by omega), if_neg (show ¬ atW (t :: (T ++ [u])) 1 notW = true from by rw [show atW (t :: (T ++ [u])) 1 notW = isW t 1 notW from rfl, kind_word (by have := (isW_iff _ _ _).1 hl; omega)]; simp),
      if_pos ⟨hl, by rw [← List.cons_append, List.getLast?_concat]; simp [hr]⟩, List.tail_cons, List.dropLast_concat, ih g (by omega)]
  | term x T h =>
    intro f hf
    obtain ⟨g, rfl⟩ : ∃ g, f = g + 1 := ⟨f - 1, by omega⟩
    have h1 := last_none (.inl rfl) (.term x T h) (.inl rfl) (word := orW)
    have h2 := last_none (.inr rfl) (.term x T h) (.inl rfl) (word := andW)
    have h3 := rterm_noNot h
    have h4 : ¬ atW T 4 lpW = true := by
      match T, h with
      | t :: r, h => intro hh; exact absurd hh (by rw [show atW (t :: r) 4 lpW = isLp t from rfl, (rterm_noBr h t List.mem_cons_self).1]; simp)
    rw [partP, if_neg (G_pos (.term x T h))]
    dsimp only
    rw [h1, h2, if_neg (by omega), if_neg (by omega), if_neg (by rw [h3]; simp), if_neg (fun hh => h4 hh.1), h]
    rfl
end Go.Proofs.YtnhcamkccnaeeaaGreatDoor
namespace Go.Proofs.YtnhcamkccnaeeaaGreatDoor
set_option linter.unusedVariables false

theorem lastB (word : List UInt8) : ∀ (T : List Tok) (d a k : Int), lastF word T d a k = a ∨ (k ≤ lastF word T d a k ∧ lastF word T d a k < k + T.length)
  | [], d, a, k => .inl rfl
  | t :: T, d, a, k => by
    have ih := fun d a => lastB word T d a (k + 1)
    rw [lastF, List.length_cons]
    by_cases c1 : isLp t = true
    · rw [if_pos c1]
      rcases ih (d + 1) a with h | h
      · exact .inl h
      · exact .inr (by omega)
    · rw [if_neg c1]
      by_cases c2 : isRp t = true
      · rw [if_pos c2]
        rcases ih (d - 1) a with h | h
        · exact .inl h
        · exact .inr (by omega)
      · rw [if_neg c2]
        by_cases c3 : d = 0 ∧ isW t 1 word = true
        · rw [if_pos c3]
          rcases ih d k with h | h
          · exact .inr (by rw [h]; omega)
          · exact .inr (by omega)
        · rw [if_neg c3]
          rcases ih d a with h | h
          · exact .inl h
          · exact .inr (by omega)
/-- The depth behind a list. -/
def depF : List Tok → Int → Int
  | [], d => d
  | t :: T, d => depF T (dStep d t)
theorem depF_app (A R : List Tok) (d : Int) : depF (A ++ R) d = depF R (depF A d) := by
  induction A generalizing d with
  | nil => rfl
  | cons t A ih => exact ih _
theorem lastF_app (word : List UInt8) : ∀ (A R : List Tok) (d a i : Int), lastF word (A ++ R) d a i = lastF word R (depF A d) (lastF word A d a i) (i + A.length)
  | [], R, d, a, i => by simp [depF, lastF]
  | t :: A, R, d, a, i => by
    have ih := fun d a => lastF_app word A R d a (i + 1)
    have e : i + 1 + (A.length : Int) = i + ((A.length : Int) + 1) := by omega
    rw [List.cons_append, lastF, lastF, depF, List.length_cons, Int.natCast_succ]
    by_cases c1 : isLp t = true
    · rw [if_pos c1, if_pos c1, ih, e, show dStep d t = d + 1 from by unfold dStep; rw [if_pos c1]]
    · rw [if_neg c1, if_neg c1]
      by_cases c2 : isRp t = true
      · rw [if_pos c2, if_pos c2, ih, e, show dStep d t = d - 1 from by unfold dStep; rw [if_neg c1, if_pos c2]]
      · rw [if_neg c2, if_neg c2, ih, e, show dStep d t = d from by unfold dStep; rw [if_neg c1, if_neg c2]]
theorem dStep_br {t : Tok} (h : NoBr t) (d : Int) : dStep d t = d := by unfold dStep; rw [h.1, h.2]; simp
theorem depF_run {S : List Tok} (h : ∀ t ∈ S, NoBr t) (d : Int) : depF S d = d := by
  induction S generalizing d with
  | nil => rfl
  | cons t S ih => rw [depF, dStep_br (h t List.mem_cons_self)]; exact ih (fun t ht => h t (List.mem_cons_of_mem _ ht)) d
theorem G_dep {k : Nat} {q : Q} {T : List Tok} (h : G k q T) : ∀ d, depF T d = d := by
  induction h with
  | or_ x y A B t _ _ hw iha ihb => intro d; rw [depF_app, iha, depF, dStep_br (noBr_kind (by have := (isW_iff _ _ _).1 hw; omega)), ihb]
  | up0 q T _ ih => exact ih
  | and_ x y A B t _ _ hw iha ihb => intro d; rw [depF_app, iha, depF, dStep_br (noBr_kind (by have := (isW_iff _ _ _).1 hw; omega)), ihb]
  | up1 q T _ ih => exact ih
  | not_ q T t _ hw ih => intro d; rw [depF, dStep_br (noBr_kind (by have := (isW_iff _ _ _).1 hw; omega)), ih]
  | par q T t u _ h1 h2 ih =>
    intro d
    rw [depF, depF_app, ih, show dStep d t = d + 1 from by unfold dStep; rw [if_pos h1], depF, depF, show dStep (d + 1) u = d from by unfold dStep; rw [rp_not_lp h2, h2]; simp]
  | term x T h => exact depF_run (rterm_noBr h)
/-- The last word between stands where it is found, and none is behind it. -/
theorem last_at {word : List UInt8} {k : Nat} {x : Q} {A B : List Tok} {t : Tok} (hx : G k x A) (h : lastW word (A ++ t :: B) 0 = A.length) : isW t 1 word = true ∧ lastF word B 0 A.length (A.length + 1) = A.length := by
  unfold lastW at h
  rw [lastF_app, G_dep hx, Int.zero_add] at h
  have ha : lastF word A 0 (-1) 0 < (A.length : Int) := by
    rcases lastB word A 0 (-1) 0 with e | e <;> omega
  generalize lastF word A 0 (-1) 0 = a at *
  rw [lastF] at h
  by_cases c1 : isLp t = true
  · rw [if_pos c1] at h
    rcases lastB word B (0 + 1) a (A.length + 1) with e | e <;> omega
  · rw [if_neg c1] at h
    by_cases c2 : isRp t = true
    · rw [if_pos c2] at h
      rcases lastB word B (0 - 1) a (A.length + 1) with e | e <;> omega
    · rw [if_neg c2] at h
      by_cases c3 : isW t 1 word = true
      · rw [if_pos ⟨rfl, c3⟩] at h
        exact ⟨c3, h⟩
      · rw [if_neg (fun hh => c3 hh.2)] at h
        rcases lastB word B 0 a (A.length + 1) with e | e <;> omega
theorem last_free (word : List UInt8) : ∀ (T : List Tok) (d a k a' k' : Int), a < k → lastF word T d a k = a → lastF word T d a' k' = a'
  | [], d, a, k, a', k', hk, h => rfl
  | t :: T, d, a, k, a', k', hk, h => by
    have ih := fun d => last_free word T d a (k + 1) a' (k' + 1) (by omega)
    rw [lastF] at h ⊢
    by_cases c1 : isLp t = true
    · rw [if_pos c1] at h ⊢; exact ih _ h
    · rw [if_neg c1] at h ⊢
      by_cases c2 : isRp t = true
      · rw [if_pos c2] at h ⊢; exact ih _ h
      · rw [if_neg c2] at h ⊢
        by_cases c3 : d = 0 ∧ isW t 1 word = true
        · rw [if_pos c3] at h
          rcases lastB word T d k (k + 1) with e | e <;> omega
        · rw [if_neg c3] at h ⊢; exact ih _ h
theorem split_at_ (T : List Tok) (m : Nat) (h : m < T.length) : T = T.take m ++ T[m] :: T.drop (m + 1) := by
  rw [← List.drop_eq_getElem_cons h, List.take_append_drop]
theorem last_split {word : List UInt8} {T : List Tok} {k : Nat} {x : Q} (h0 : 0 ≤ lastW word T 0) (hx : G k x (T.take (lastW word T 0).toNat)) :
    ∃ t, T = T.take (lastW word T 0).toNat ++ t :: T.drop ((lastW word T 0).toNat + 1) ∧ isW t 1 word = true ∧ lastW word (T.drop ((lastW word T 0).toNat + 1)) 0 = -1 := by
  have hb : lastW word T 0 = -1 ∨ (0 ≤ lastW word T 0 ∧ lastW word T 0 < T.length) := by
    rcases lastB word T 0 (-1) 0 with h | h
    · exact .inl h
    · exact .inr (by unfold lastW; omega)
  obtain ⟨m, hm⟩ : ∃ m : Nat, lastW word T 0 = (m : Int) := ⟨(lastW word T 0).toNat, by omega⟩
  rw [hm, Int.toNat_natCast] at hx ⊢
  have hlt : m < T.length := by omega
  have hs := split_at_ T m hlt
  have hl : (T.take m).length = m := by rw [List.length_take]; omega
  have h1 : lastW word (T.take m ++ T[m] :: T.drop (m + 1)) 0 = (T.take m).length := by rw [← hs, hm, hl]
  obtain ⟨a, b⟩ := last_at hx h1
  rw [hl] at b
  exact ⟨T[m], hs, a, last_free word _ 0 m (m + 1) (-1) 0 (by omega) b⟩
/-- What the reference's parser finds is a question of the grammar, at the level that its words between tell. -/
theorem part_G : ∀ (f : Nat) (T : List Tok) (q : Q), partP f T = some q → G 0 q T ∧ (lastW orW T 0 = -1 → G 1 q T) ∧ (lastW orW T 0 = -1 → lastW andW T 0 = -1 → G 2 q T)
  | 0, T, q, h => by simp [partP] at h
  | f + 1, T, q, h => by
    have ih := part_G f
    rw [partP] at h
    by_cases hT : T = []
    · rw [if_pos hT] at h; simp at h
    · rw [if_neg hT] at h
      dsimp only at h
      split at h
      · rename_i c
        split at h
        · simp at h
        · rename_i x hx
          obtain ⟨y, hy, rfl⟩ := Option.map_eq_some_iff.1 h
          have gx := (ih _ _ hx).1
          obtain ⟨t, e, hw, hn⟩ := last_split c gx
          have gy := (ih _ _ hy).2.1 hn
          refine ⟨?_, fun h => by omega, fun h => by omega⟩
          have := G.or_ x y _ _ t gx gy hw
          rw [← e] at this
          exact this
      · rename_i c0
        split at h
        · rename_i c
          split at h
          · simp at h
          · rename_i x hx
            obtain ⟨y, hy, rfl⟩ := Option.map_eq_some_iff.1 h
            have gx := (ih _ _ hx).1
            obtain ⟨t, e, hw, hn⟩ := last_split c gx
            have hor : lastW orW T 0 = -1 := by
              rcases lastB orW T 0 (-1) 0 with h | h
              · exact h
              · exact absurd h.1 c0
            obtain ⟨m, hm⟩ : ∃ m, m = (lastW andW T 0).toNat := ⟨_, rfl⟩
            rw [← hm] at e hn gx hx hy
            have hor2 := hor
            rw [e] at hor2
            unfold lastW at hor2
            rw [lastF_app, G_dep gx, Int.zero_add] at hor2
            have ha : lastW orW (T.take m) 0 = -1 := by
              rcases lastB orW (t :: T.drop (m + 1)) 0 (lastF orW (T.take m) 0 (-1) 0) (T.take m).length with h | h
              · rw [hor2] at h; exact h.symm
              · rw [hor2] at h; omega
            have ha2 : lastF orW (T.take m) 0 (-1) 0 = -1 := ha
            rw [ha2, lastF_br (noBr_kind (by have := (isW_iff _ _ _).1 hw; omega)), if_neg (by rw [not_word hw (by decide)]; simp)] at hor2
            have hB : lastW orW (T.drop (m + 1)) 0 = -1 := last_free orW _ 0 (-1) _ (-1) 0 (by omega) hor2
            have g1 := G.and_ x y _ _ t ((ih _ _ hx).2.1 ha) ((ih _ _ hy).2.2 hB hn) hw
            rw [← e] at g1
            exact ⟨.up0 _ _ g1, fun _ => g1, fun _ h => by omega⟩
        · rename_i c1
          have hor : lastW orW T 0 = -1 := by
            rcases lastB orW T 0 (-1) 0 with h | h
            · exact h
            · exact absurd h.1 c0
          have hand : lastW andW T 0 = -1 := by
            rcases lastB andW T 0 (-1) 0 with h | h
            · exact h
            · exact absurd h.1 c1
          suffices g2 : G 2 q T from ⟨.up0 _ _ (.up1 _ _ g2), fun _ => .up1 _ _ g2, fun _ _ => g2⟩
          split at h
          · rename_i cn
            obtain ⟨y, hy, rfl⟩ := Option.map_eq_some_iff.1 h
            match T, hT with
            | t :: r, _ =>
              have hw : isW t 1 notW = true := cn
              have hbr : NoBr t := noBr_kind (by have := (isW_iff _ _ _).1 hw; omega)
              unfold lastW at hor hand
              rw [lastF_br hbr, if_neg (by rw [not_word hw (by decide)]; simp)] at hor hand
              exact .not_ y r t ((ih _ _ hy).2.2 (last_free orW _ 0 (-1) _ (-1) 0 (by omega) hor) (last_free andW _ 0 (-1) _ (-1) 0 (by omega) hand)) hw
          · split at h
            · rename_i c
              have gi := (ih _ _ h).1
              match T, hT with
              | t :: r, _ =>
                have hl : isLp t = true := c.1
                obtain ⟨u, hu, hr⟩ := Option.map_eq_some_iff.1 c.2
                rw [List.tail_cons] at gi
                by_cases hr0 : r = []
                · subst hr0
                  exact absurd rfl (G_pos gi)
                · rw [List.getLast?_cons, List.getLast?_eq_some_getLast hr0] at hu
                  have hu2 : r.getLast hr0 = u := by simpa using hu
                  have e : t :: r = t :: (r.dropLast ++ [u]) := by rw [← hu2, List.dropLast_concat_getLast]
                  rw [e]
                  exact .par q _ t u gi hl hr
            · obtain ⟨a, ha, rfl⟩ := Option.map_eq_some_iff.1 h
              exact .term a T ha
end Go.Proofs.YtnhcamkccnaeeaaGreatDoor
namespace Go.Proofs.YtnhcamkccnaeeaaGreatDoor
set_option linter.unusedVariables false

/-- What the lexer's tokens keep: a text has no number, a number no text. -/
def OkT (T : List Tok) : Prop := ∀ t ∈ T, (t.kind = 3 → t.n = 0) ∧ (t.kind = 2 → t.text = [])
theorem OkT.right {A B : List Tok} (h : OkT (A ++ B)) : OkT B := fun t ht => h t (List.mem_append_right _ ht)
theorem OkT.tail {t : Tok} {B : List Tok} (h : OkT (t :: B)) : OkT B := fun x hx => h x (List.mem_cons_of_mem _ hx)
theorem termP_G {T T' : List Tok} {a : Ask} (ho : OkT T) (h : termP T = some (a, T')) : ∃ S, T = S ++ T' ∧ rterm S = some a := by
  unfold termP at h
  by_cases c : atW T 1 hasW = true
  · rw [if_pos c] at h
    match T, h with
    | [], h => cases h
    | [_], h => cases h
    | t :: v :: r, h =>
      dsimp only at h
      by_cases hv : v.kind = 3
      · rw [if_pos hv] at h
        cases h
        refine ⟨[t, v], rfl, ?_⟩
        rw [rterm, if_pos ⟨c, hv⟩, (ho v (by simp)).1 hv]
      · rw [if_neg hv] at h; cases h
  · rw [if_neg c] at h
    match T, h with
    | [], h => cases h
    | [_], h => cases h
    | [_, _], h => cases h
    | t :: m :: v :: r, h =>
      dsimp only at h
      by_cases hc : t.kind = 1 ∧ kindOf t.text ≠ 0 ∧ opOf m ≠ 0 ∧ (v.kind = 3 ∨ v.kind = 2)
      · rw [if_pos hc] at h
        obtain ⟨h1, h2, h3, h4⟩ := hc
        cases h
        refine ⟨[t, m, v], rfl, ?_⟩
        have hn : ¬ ((if t.kind = 1 then kindOf t.text else 0) = 0 ∨ opOf m = 0 ∨ (v.kind ≠ 2 ∧ v.kind ≠ 3)) := by
          rw [if_pos h1]
          rintro (h | h | h)
          · exact h2 h
          · exact h3 h
          · omega
        rw [rterm, if_neg hn]
        by_cases h5 : v.kind = 3
        · rw [if_pos h5, (ho v (by simp)).1 h5]; simp [h5]
        · rw [if_neg h5, (ho v (by simp)).2 (by omega)]; simp [h5]
      · rw [if_neg hc] at h; cases h
def Sound (k : Nat) (one : List Tok → Option (Q × List Tok)) : Prop := ∀ T q T', OkT T → one T = some (q, T') → ∃ S, T = S ++ T' ∧ G k q S

theorem loop_or {one : List Tok → Option (Q × List Tok)} (hs : Sound 1 one) : ∀ (g : Nat) (a : Q) (A T : List Tok) (q : Q) (T' : List Tok), OkT T → G 0 a A → loopP orW 1 one g a T = some (q, T') → ∃ S, T = S ++ T' ∧ G 0 q (A ++ S)
  | 0, a, A, T, q, T', ho, ha, h => by
    rw [loopP] at h
    cases h
    exact ⟨[], rfl, by rw [List.append_nil]; exact ha⟩
  | g + 1, a, A, T, q, T', ho, ha, h => by
    rw [loopP] at h
    by_cases c : atW T 1 orW = true
    · rw [if_pos c] at h
      obtain ⟨t, r, rfl, hw⟩ := atW_cons c
      rw [List.tail_cons] at h
      cases hx : one r with
      | none => rw [hx] at h; cases h
      | some x =>
        obtain ⟨b, R⟩ := x
        rw [hx] at h
        obtain ⟨B, rfl, hb⟩ := hs _ _ _ ho.tail hx
        obtain ⟨S, rfl, hq⟩ := loop_or hs g (.two 1 a b) (A ++ t :: B) R q T' (OkT.right ho.tail) (.or_ a b A B t ha hb hw) h
        refine ⟨t :: (B ++ S), by simp, ?_⟩
        rw [List.append_assoc, List.cons_append] at hq
        exact hq
    · rw [if_neg c] at h
      cases h
      exact ⟨[], rfl, by rw [List.append_nil]; exact ha⟩

theorem loop_and {one : List Tok → Option (Q × List Tok)} (hs : Sound 2 one) : ∀ (g : Nat) (a : Q) (A T : List Tok) (q : Q) (T' : List Tok), OkT T → G 1 a A → loopP andW 2 one g a T = some (q, T') → ∃ S, T = S ++ T' ∧ G 1 q (A ++ S)
  | 0, a, A, T, q, T', ho, ha, h => by
    rw [loopP] at h
    cases h
    exact ⟨[], rfl, by rw [List.append_nil]; exact ha⟩
  | g + 1, a, A, T, q, T', ho, ha, h => by
    rw [loopP] at h
    by_cases c : atW T 1 andW = true
    · rw [if_pos c] at h
      obtain ⟨t, r, rfl, hw⟩ := atW_cons c
      rw [List.tail_cons] at h
      cases hx : one r with
      | none => rw [hx] at h; cases h
      | some x =>
        obtain ⟨b, R⟩ := x
        rw [hx] at h
        obtain ⟨B, rfl, hb⟩ := hs _ _ _ ho.tail hx
        obtain ⟨S, rfl, hq⟩ := loop_and hs g (.two 2 a b) (A ++ t :: B) R q T' (OkT.right ho.tail) (.and_ a b A B t ha hb hw) h
        refine ⟨t :: (B ++ S), by simp, ?_⟩
        rw [List.append_assoc, List.cons_append] at hq
        exact hq
    · rw [if_neg c] at h
      cases h
      exact ⟨[], rfl, by rw [List.append_nil]; exact ha⟩

theorem row_and {one : List Tok → Option (Q × List Tok)} (hs : Sound 2 one) : Sound 1 (rowP andW 2 one) := by
  intro T q T' ho h
  rw [rowP] at h
  cases hx : one T with
  | none => rw [hx] at h; cases h
  | some x =>
    obtain ⟨a, R⟩ := x
    rw [hx] at h
    obtain ⟨A, rfl, ha⟩ := hs _ _ _ ho hx
    obtain ⟨S, rfl, hq⟩ := loop_and hs _ a A R q T' ho.right (.up1 _ _ ha) h
    exact ⟨A ++ S, by rw [List.append_assoc], hq⟩
theorem row_or {one : List Tok → Option (Q × List Tok)} (hs : Sound 1 one) : Sound 0 (rowP orW 1 one) := by
  intro T q T' ho h
  rw [rowP] at h
  cases hx : one T with
  | none => rw [hx] at h; cases h
  | some x =>
    obtain ⟨a, R⟩ := x
    rw [hx] at h
    obtain ⟨A, rfl, ha⟩ := hs _ _ _ ho hx
    obtain ⟨S, rfl, hq⟩ := loop_or hs _ a A R q T' ho.right (.up0 _ _ ha) h
    exact ⟨A ++ S, by rw [List.append_assoc], hq⟩
theorem nots_sound : ∀ f, Sound 2 (notsP f)
  | 0 => by intro T q T' ho h; cases h
  | f + 1 => by
    have ih := nots_sound f
    intro T q T' ho h
    rw [notsP] at h
    by_cases c1 : atW T 1 notW = true
    · rw [if_pos c1] at h
      obtain ⟨t, r, rfl, hw⟩ := atW_cons c1
      rw [List.tail_cons] at h
      cases hx : notsP f r with
      | none => rw [hx] at h; cases h
      | some x =>
        obtain ⟨a, R⟩ := x
        rw [hx] at h
        cases h
        obtain ⟨A, rfl, ha⟩ := ih _ _ _ ho.tail hx
        exact ⟨t :: A, rfl, .not_ a A t ha hw⟩
    · rw [if_neg c1] at h
      by_cases c2 : atW T 4 lpW = true
      · rw [if_pos c2] at h
        obtain ⟨t, r, rfl, hw⟩ := atW_cons c2
        rw [List.tail_cons] at h
        cases hx : rowP orW 1 (rowP andW 2 (notsP f)) r with
        | none => rw [hx] at h; cases h
        | some x =>
          obtain ⟨a, R⟩ := x
          rw [hx] at h
          dsimp only at h
          obtain ⟨A, rfl, ha⟩ := row_or (row_and ih) _ _ _ ho.tail hx
          by_cases c3 : atW R 4 rpW = true
          · rw [if_pos c3] at h
            cases h
            obtain ⟨u, R2, rfl, hu⟩ := atW_cons c3
            exact ⟨t :: (A ++ [u]), by simp, .par _ A t u ha hw hu⟩
          · rw [if_neg c3] at h; cases h
      · rw [if_neg c2] at h
        obtain ⟨x, hx, e⟩ := Option.map_eq_some_iff.1 h
        cases e
        obtain ⟨S, rfl, hS⟩ := termP_G (a := x.1) (T' := x.2) ho hx
        exact ⟨S, rfl, .term x.1 S hS⟩
theorem ors_sound (f : Nat) : Sound 0 (orsP f) := row_or (row_and (nots_sound f))

/-- What stands ahead of a list is found, and the rest is told, behind words between. -/
def Chain (word : List UInt8) (kind : Int) (one : List Tok → Option (Q × List Tok)) (ok : List Tok → Prop) (q : Q) (S : List Tok) : Prop :=
  ∀ R, ok R → ∃ a R', one (S ++ R) = some (a, R') ∧ ∀ g, R'.length ≤ g → ∃ g', R.length ≤ g' ∧ loopP word kind one g a R' = loopP word kind one g' q R
theorem loopP_none {word : List UInt8} {kind : Int} {one : List Tok → Option (Q × List Tok)} (g : Nat) (q : Q) (R : List Tok) (h : atW R 1 word = false) : loopP word kind one g q R = some (q, R) := by
  cases g with
  | zero => rfl
  | succ g => rw [loopP, if_neg (by rw [h]; exact Bool.false_ne_true)]
theorem Chain.row {word : List UInt8} {kind : Int} {one : List Tok → Option (Q × List Tok)} {ok : List Tok → Prop} {q : Q} {S : List Tok} (h : Chain word kind one ok q S) {R : List Tok} (hr : ok R) (hw : atW R 1 word = false) :
    rowP word kind one (S ++ R) = some (q, R) := by
  obtain ⟨a, R', h1, h2⟩ := h R hr
  obtain ⟨g', _, h3⟩ := h2 R'.length (Nat.le_refl _)
  rw [rowP, h1]
  show loopP word kind one R'.length a R' = _
  rw [h3, loopP_none _ _ _ hw]
theorem Chain.one {word : List UInt8} {kind : Int} {one : List Tok → Option (Q × List Tok)} {ok : List Tok → Prop} {q : Q} {S : List Tok} (h : ∀ R, ok R → one (S ++ R) = some (q, R)) : Chain word kind one ok q S :=
  fun R hr => ⟨q, R, h R hr, fun g hg => ⟨g, hg, rfl⟩⟩
theorem Chain.more {word : List UInt8} {kind : Int} {one : List Tok → Option (Q × List Tok)} {ok : List Tok → Prop} {x y : Q} {A B : List Tok} {t : Tok} (h : Chain word kind one ok x A) (hy : ∀ R, ok R → one (B ++ R) = some (y, R))
    (hw : isW t 1 word = true) (hk : ∀ R, ok (t :: R)) : Chain word kind one ok (.two kind x y) (A ++ t :: B) := by
  intro R hr
  obtain ⟨a, R', h1, h2⟩ := h (t :: (B ++ R)) (hk _)
  refine ⟨a, R', by rw [List.append_assoc, List.cons_append, h1], fun g hg => ?_⟩
  obtain ⟨g', h3, h4⟩ := h2 g hg
  rw [List.length_cons, List.length_append] at h3
  obtain ⟨e, rfl⟩ : ∃ e, g' = e + 1 := ⟨g' - 1, by omega⟩
  refine ⟨e, by omega, ?_⟩
  rw [h4, loopP, if_pos (show atW (t :: (B ++ R)) 1 word = true from hw), List.tail_cons, hy R hr]
theorem rterm_termP {S : List Tok} {a : Ask} (h : rterm S = some a) (ho : OkT S) (R : List Tok) : termP (S ++ R) = some (a, R) := by
  match S, h with
  | [t, v], h =>
    rw [rterm] at h
    by_cases c : isW t 1 hasW = true ∧ v.kind = 3
    · rw [if_pos c] at h
      cases h
      show termP (t :: v :: R) = _
      rw [termP, if_pos (show atW (t :: v :: R) 1 hasW = true from c.1)]
      rw [if_pos c.2, (ho v (by simp)).1 c.2]
    · rw [if_neg c] at h; cases h
  | [t, m, v], h =>
    rw [rterm] at h
    by_cases c : (if t.kind = 1 then kindOf t.text else 0) = 0 ∨ opOf m = 0 ∨ (v.kind ≠ 2 ∧ v.kind ≠ 3)
    · rw [if_pos c] at h; cases h
    · rw [if_neg c] at h
      have c1 : t.kind = 1 := by
        by_cases h1 : t.kind = 1
        · exact h1
        · exact absurd (Or.inl (by rw [if_neg h1])) c
      rw [if_pos c1] at c
      have c0 : kindOf t.text ≠ 0 := fun h => c (Or.inl h)
      have c2 : opOf m ≠ 0 := fun h => c (Or.inr (Or.inl h))
      have c3 : v.kind = 3 ∨ v.kind = 2 := by
        by_cases h3 : v.kind = 3
        · exact .inl h3
        · by_cases h2 : v.kind = 2
          · exact .inr h2
          · exact absurd (Or.inr (Or.inr ⟨h2, h3⟩)) c
      have hh : ¬ atW (t :: m :: v :: R) 1 hasW = true := by
        intro hh
        have := ((isW_iff _ _ _).1 hh).2
        rw [this] at c0
        exact c0 (by decide)
      show termP (t :: m :: v :: R) = _
      rw [termP, if_neg hh]
      dsimp only
      rw [if_pos ⟨c1, c0, c2, c3⟩]
      by_cases h3 : v.kind = 3
      · rw [if_pos h3] at h; cases h
        rw [(ho v (by simp)).1 h3]; simp [h3]
      · rw [if_neg h3] at h; cases h
        rw [(ho v (by simp)).2 (by omega)]; simp [h3]
/-- What the program's parser finds at each level. -/
def Finds (k : Nat) (q : Q) (S : List Tok) (f : Nat) : Prop :=
  match k with
  | 0 => Chain orW 1 (rowP andW 2 (notsP f)) (fun R => atW R 1 andW = false) q S
  | 1 => Chain andW 2 (notsP f) (fun _ => True) q S
  | _ => ∀ R, notsP f (S ++ R) = some (q, R)
theorem G_finds {k : Nat} {q : Q} {S : List Tok} (h : G k q S) : ∀ (f : Nat), S.length ≤ f → OkT S → Finds k q S f := by
  induction h with
  | or_ x y A B t hx hy hw ihx ihy =>
    intro f hf ho
    rw [List.length_append, List.length_cons] at hf
    have h1 := ihx f (by omega) (fun t ht => ho t (List.mem_append_left _ ht))
    have h2 := ihy f (by omega) ho.right.tail
    refine Chain.more h1 (fun R hr => Chain.row h2 trivial hr) hw (fun R => ?_)
    show isW t 1 andW = false
    rw [← Bool.not_eq_true]; intro hh
    have e1 := ((isW_iff _ _ _).1 hw).2
    have e2 := ((isW_iff _ _ _).1 hh).2
    rw [e1] at e2; exact absurd e2 (by decide)
  | up0 q T hg ih =>
    intro f hf ho
    exact Chain.one fun R hr => Chain.row (ih f hf ho) trivial hr
  | and_ x y A B t hx hy hw ihx ihy =>
    intro f hf ho
    rw [List.length_append, List.length_cons] at hf
    have h1 := ihx f (by omega) (fun t ht => ho t (List.mem_append_left _ ht))
    have h2 := ihy f (by omega) ho.right.tail
    exact Chain.more h1 (fun R _ => h2 R) hw (fun _ => trivial)
  | up1 q T hg ih =>
    intro f hf ho
    exact Chain.one fun R _ => ih f hf ho R
  | not_ q T t hg hw ih =>
    intro f hf ho R
    rw [List.length_cons] at hf
    obtain ⟨g, rfl⟩ : ∃ g, f = g + 1 := ⟨f - 1, by omega⟩
    rw [List.cons_append, notsP, if_pos (show atW (t :: (T ++ R)) 1 notW = true from hw), List.tail_cons, ih g (by omega) ho.tail R]
  | par q T t u hg hl hr ih =>
    intro f hf ho R
    rw [List.length_cons, List.length_append, List.length_singleton] at hf
    obtain ⟨g, rfl⟩ : ∃ g, f = g + 1 := ⟨f - 1, by omega⟩
    have h1 := ih g (by omega) (fun x hx => ho x (by simp [hx]))
    have ht := (isW_iff _ _ _).1 hl
    have hu := (isW_iff _ _ _).1 hr
    have n1 : ¬ atW (t :: (T ++ (u :: R))) 1 notW = true := by intro hh; have := ((isW_iff _ _ _).1 hh).1; omega
    have e : ∀ w, atW (u :: R) 1 w = false := by
      intro w
      rw [← Bool.not_eq_true]; intro hh; have := ((isW_iff _ _ _).1 hh).1; omega
    have h2 := Chain.row h1 (R := u :: R) (e andW) (e orW)
    rw [List.cons_append, List.append_assoc, List.cons_append, List.nil_append, notsP, if_neg n1, if_pos (show atW (t :: (T ++ (u :: R))) 4 lpW = true from hl), List.tail_cons, h2]
    dsimp only
    rw [if_pos (show atW (u :: R) 4 rpW = true from hr), List.tail_cons]
  | term x T h =>
    intro f hf ho R
    have h0 := G_pos (.term x T h)
    obtain ⟨g, rfl⟩ : ∃ g, f = g + 1 := ⟨f - 1, by have := List.length_pos_iff.2 h0; omega⟩
    have h3 := rterm_noNot h
    obtain ⟨t, r, rfl⟩ : ∃ t r, T = t :: r := by
      cases T with
      | nil => exact absurd rfl h0
      | cons t r => exact ⟨t, r, rfl⟩
    have h4 : ¬ atW (t :: (r ++ R)) 4 lpW = true := by
      intro hh; exact absurd hh (by rw [show atW (t :: (r ++ R)) 4 lpW = isLp t from rfl, (rterm_noBr h t List.mem_cons_self).1]; simp)
    have h5 : ¬ atW (t :: (r ++ R)) 1 notW = true := by
      rw [show atW (t :: (r ++ R)) 1 notW = atW (t :: r) 1 notW from rfl, h3]; simp
    have h6 := rterm_termP h ho R
    rw [List.cons_append] at h6 ⊢
    rw [notsP, if_neg h5, if_neg h4, h6]
    rfl
theorem parseQ_iff {T : List Tok} (ho : OkT T) (q : Q) : parseQ T = some q ↔ G 0 q T := by
  constructor
  · intro h
    unfold parseQ at h
    split at h
    · rename_i x hx
      cases h
      obtain ⟨S, e, hg⟩ := ors_sound _ _ _ _ ho hx
      rw [List.append_nil] at e
      rw [e]; exact hg
    · cases h
  · intro h
    have h1 := G_finds h (T.length + 1) (by omega) ho
    have h2 := Chain.row h1 (R := []) rfl rfl
    rw [List.append_nil] at h2
    unfold parseQ orsP andsP
    rw [h2]
/-- The program's parser and the reference's find the same question. -/
theorem parse_eq {T : List Tok} (ho : OkT T) (f : Nat) (hf : T.length < f) : parseQ T = partP f T := by
  cases h : parseQ T with
  | some q => exact (G_part ((parseQ_iff ho q).1 h) f hf).symm
  | none =>
    cases h2 : partP f T with
    | none => rfl
    | some q =>
      have := (parseQ_iff ho q).2 (part_G f T q h2).1
      rw [this] at h; cases h
theorem parse_open {T : List Tok} (ho : OkT T) (h : closedP T = false) : parseQ T = none := by
  cases h2 : parseQ T with
  | none => rfl
  | some q =>
    have := G_closed ((parseQ_iff ho q).1 h2) [] 0 (by omega)
    rw [List.append_nil] at this
    unfold closedP at h
    rw [this] at h; cases h
end Go.Proofs.YtnhcamkccnaeeaaGreatDoor
