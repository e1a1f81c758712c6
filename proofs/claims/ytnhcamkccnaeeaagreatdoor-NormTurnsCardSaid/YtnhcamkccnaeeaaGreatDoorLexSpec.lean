/-
  What the two lexers compute, in plain Lean: tokens of a list of bytes. No program in sight.
-/
import Derived.Test.YtnhcamkccnaeeaaGreatDoorStr
namespace Go.Proofs.YtnhcamkccnaeeaaGreatDoor
set_option linter.unusedVariables false

/-- A token: its kind, its text, its number, its place. -/
structure Tok where
  kind : Int
  text : List UInt8
  n : Int
  pos : Nat

def smallB (c : UInt8) : Bool := decide ((97 : Int) ≤ (c.toNat : Int)) && decide ((c.toNat : Int) ≤ 122)
def digitB (c : UInt8) : Bool := decide ((48 : Int) ≤ (c.toNat : Int)) && decide ((c.toNat : Int) ≤ 57)
def blankB (c : UInt8) : Bool := ((c.toNat : Int) == 32)

/-- How many bytes of a kind stand ahead. -/
def runL (p : UInt8 → Bool) (l : List UInt8) : Nat := (l.takeWhile p).length

def numOf (d : List UInt8) : Int := d.foldl (fun n c => 10 * n + ((c.toNat : Int) - 48)) 0

/-- The text behind a quote, and how many bytes it takes, the closing quote with it. -/
def quotedL : List UInt8 → Option (List UInt8 × Nat)
  | [] => none
  | c :: r =>
    if c = 34 then some ([], 1)
    else if c = 92 then
      match r with
      | [] => none
      | d :: r' => if d = 34 ∨ d = 92 then (quotedL r').map fun x => (d :: x.1, x.2 + 2) else none
    else (quotedL r).map fun x => (c :: x.1, x.2 + 1)

def marksL : List (List UInt8) := [[33, 61], [60, 61], [62, 61], [40], [41], [61], [60], [62], [126]]
def markL (l : List UInt8) : List UInt8 := (marksL.find? (·.isPrefixOf l)).getD []

def numBad (d : List UInt8) : Bool := decide (15 < d.length) || (decide (1 < d.length) && d.head? == some 48)

/-- The token at the head of a list that begins with no blank; how many bytes it takes. -/
def tokL (l : List UInt8) (at_ : Nat) : Option (Tok × Nat) :=
  if runL smallB l ≠ 0 then some (⟨1, l.takeWhile smallB, 0, at_⟩, runL smallB l)
  else if runL digitB l ≠ 0 then
    if numBad (l.takeWhile digitB) then none else some (⟨2, [], numOf (l.takeWhile digitB), at_⟩, runL digitB l)
  else if l.head? = some 34 then (quotedL l.tail).map fun x => (⟨3, x.1, 0, at_⟩, x.2 + 1)
  else if markL l = [] then none
  else some (⟨4, markL l, 0, at_⟩, (markL l).length)

/-- All tokens; where it ended; whether all was right. -/
def toksF : Nat → Nat → List UInt8 → List Tok × Nat × Bool
  | 0, p, _ => ([], p, true)
  | _ + 1, p, [] => ([], p, true)
  | f + 1, p, c :: r =>
    if blankB c then toksF f (p + 1) r
    else match tokL (c :: r) p with
      | none => ([], p, false)
      | some (t, k) => let x := toksF f (p + k) ((c :: r).drop k); (t :: x.1, x.2)

def toks (l : List UInt8) : List Tok × Nat × Bool := toksF l.length 0 l

theorem takeWhile_len (p : UInt8 → Bool) (l : List UInt8) : runL p l ≤ l.length := by
  unfold runL
  induction l with
  | nil => simp
  | cons a l ih => simp only [List.takeWhile_cons]; split <;> simp <;> omega
theorem takeWhile_take (p : UInt8 → Bool) (l : List UInt8) : l.takeWhile p = l.take (runL p l) := by
  unfold runL
  induction l with
  | nil => simp
  | cons a l ih =>
    simp only [List.takeWhile_cons]
    split
    · simp; exact ih
    · simp
theorem runL_cons (p : UInt8 → Bool) (a : UInt8) (l : List UInt8) : runL p (a :: l) = if p a then runL p l + 1 else 0 := by
  unfold runL
  simp only [List.takeWhile_cons]
  split <;> simp
theorem quotedL_nil : quotedL [] = none := rfl
theorem quotedL_end (r : List UInt8) : quotedL (34 :: r) = some ([], 1) := by rw [quotedL.eq_def]; simp
theorem quotedL_back : quotedL [92] = none := by rw [quotedL.eq_def]; simp
theorem quotedL_esc (d : UInt8) (r : List UInt8) : quotedL (92 :: d :: r) = if d = 34 ∨ d = 92 then (quotedL r).map fun x => (d :: x.1, x.2 + 2) else none := by
  rw [quotedL.eq_def]; simp
theorem quotedL_byte (c : UInt8) (r : List UInt8) (h1 : c ≠ 34) (h2 : c ≠ 92) : quotedL (c :: r) = (quotedL r).map fun x => (c :: x.1, x.2 + 1) := by
  rw [quotedL.eq_def]; simp [h1, h2]
theorem quotedL_len (n : Nat) (l : List UInt8) (hn : l.length ≤ n) (x : List UInt8 × Nat) (h : quotedL l = some x) : 1 ≤ x.2 ∧ x.2 ≤ l.length := by
  induction n generalizing l x with
  | zero =>
    have : l = [] := List.eq_nil_of_length_eq_zero (by omega)
    subst this
    simp [quotedL_nil] at h
  | succ n ih =>
    cases l with
    | nil => simp [quotedL_nil] at h
    | cons c r =>
      by_cases h1 : c = 34
      · subst h1
        rw [quotedL_end] at h
        simp at h; subst h; simp
      · by_cases h2 : c = 92
        · subst h2
          cases r with
          | nil => rw [quotedL_back] at h; simp at h
          | cons d r =>
            rw [quotedL_esc] at h
            split at h
            · simp at h
              obtain ⟨a, b, hq, rfl⟩ := h
              have := ih r (by simp at hn; omega) _ hq
              simp at *; omega
            · simp at h
        · rw [quotedL_byte c r h1 h2] at h
          simp at h
          obtain ⟨a, b, hq, rfl⟩ := h
          have := ih r (by simp at hn; omega) _ hq
          simp at *; omega
theorem markL_mem (l : List UInt8) : markL l = [] ∨ (markL l ∈ marksL ∧ (markL l).isPrefixOf l = true) := by
  unfold markL
  cases h : marksL.find? (·.isPrefixOf l) with
  | none => simp
  | some m => exact .inr ⟨List.mem_of_find?_eq_some h, by simpa using List.find?_some h⟩
theorem markL_len (l : List UInt8) : (markL l).length ≤ l.length ∧ (markL l ≠ [] → 1 ≤ (markL l).length) := by
  rcases markL_mem l with h | ⟨h, hp⟩
  · rw [h]; simp
  · refine ⟨?_, fun h0 => ?_⟩
    · exact (List.isPrefixOf_iff_prefix.1 hp).length_le
    · cases hm : markL l with
      | nil => exact absurd hm h0
      | cons _ _ => simp
theorem tokL_len (l : List UInt8) (p : Nat) (x : Tok × Nat) (h : tokL l p = some x) : 1 ≤ x.2 ∧ x.2 ≤ l.length ∧ x.1.pos = p := by
  unfold tokL at h
  split at h
  · have := takeWhile_len smallB l
    simp at h; subst h; simp; omega
  · split at h
    · split at h
      · cases h
      · have := takeWhile_len digitB l
        simp at h; subst h; simp; omega
    · split at h
      · simp at h
        obtain ⟨a, b, hq, rfl⟩ := h
        have := quotedL_len _ _ (Nat.le_refl _) _ hq
        have ht : l.tail.length = l.length - 1 := by simp
        have : 0 < l.length := by cases l with
          | nil => simp at *
          | cons _ _ => simp
        simp at *; omega
      · split at h
        · cases h
        · rename_i h0
          have := markL_len l
          simp at h; subst h; simp
          exact ⟨this.2 h0, this.1⟩
/-- More steps than bytes change nothing. -/
theorem toksF_more (f g p : Nat) (l : List UInt8) (hf : l.length ≤ f) (hg : l.length ≤ g) : toksF f p l = toksF g p l := by
  induction f generalizing g p l with
  | zero =>
    have : l = [] := List.eq_nil_of_length_eq_zero (by omega)
    subst this
    cases g <;> rfl
  | succ f ih =>
    cases l with
    | nil => cases g <;> rfl
    | cons c r =>
      cases g with
      | zero => simp at hg
      | succ g =>
        simp only [toksF]
        simp at hf hg
        split
        · exact ih g _ r hf hg
        · cases ht : tokL (c :: r) p with
          | none => rfl
          | some x =>
            obtain ⟨t, k⟩ := x
            have := tokL_len _ _ _ ht
            simp at this
            simp only []
            rw [ih g (p + k) ((c :: r).drop k) (by simp; omega) (by simp; omega)]
end Go.Proofs.YtnhcamkccnaeeaaGreatDoor
