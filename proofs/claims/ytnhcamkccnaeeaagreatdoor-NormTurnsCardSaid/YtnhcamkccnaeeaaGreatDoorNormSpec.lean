/-
  What the normal form of a question is, in plain Lean. No program in sight.
-/
import Derived.Test.YtnhcamkccnaeeaaGreatDoorOkQ
namespace Go.Proofs.YtnhcamkccnaeeaaGreatDoor
set_option linter.unusedVariables false

def jointB (a : Ask) : Bool := decide (a.kind = 1) || decide (a.kind = 2)
def belowB (n i : Int) : Bool := decide (0 ≤ n) && decide (n < i)
/-- Is a part as a list's i-th one must be? -/
def shapedB (a : Ask) (i : Int) : Bool :=
  if jointB a = true then belowB a.a i && belowB a.b i && decide (a.a ≠ a.b)
  else if a.kind = 3 then belowB a.a i && decide (a.b = -1)
  else if a.kind = 9 then decide (a.a = -1) && decide (a.b = -1) && decide (a.op = 1) && a.isText
  else decide (4 ≤ a.kind) && decide (a.kind ≤ 8) && decide (a.a = -1) && decide (a.b = -1) && decide (1 ≤ a.op) && decide (a.op ≤ 7)
/-- How often a place is named. -/
def usedC (l : List Ask) (k : Int) : Nat := l.countP (fun a => decide (a.a = k)) + l.countP (fun a => decide (a.b = k))
def shapedL : List Ask → Int → Bool
  | [], _ => true
  | a :: l, i => shapedB a i && shapedL l (i + 1)
def partsB (l : List Ask) : Bool := shapedL l 0 && decide (0 < l.length) && (List.range (l.length - 1)).all fun k => decide (usedC l (k : Int) = 1)

theorem usedC_append (l r : List Ask) (k : Int) : usedC (l ++ r) k = usedC l k + usedC r k := by
  unfold usedC; rw [List.countP_append, List.countP_append]; omega
theorem shapedL_append (l r : List Ask) : ∀ i, shapedL (l ++ r) i = (shapedL l i && shapedL r (i + l.length)) := by
  induction l with
  | nil => intro i; simp [shapedL]
  | cons a l ih =>
    intro i
    rw [List.cons_append, shapedL, ih, shapedL, Bool.and_assoc, List.length_cons]
    congr 3
    push_cast; omega
theorem usedC_one (a : Ask) (k : Int) : usedC [a] k = (if a.a = k then 1 else 0) + (if a.b = k then 1 else 0) := by
  unfold usedC
  simp only [List.countP_cons, List.countP_nil, decide_eq_true_eq, Nat.zero_add]
/-- The parts of a question: each but the last is named once. -/
theorem parts_used : ∀ (q : Q) (p : Nat) (k : Int), q.plain → 0 ≤ k → usedC (q.parts p) k = if (p : Int) ≤ k ∧ k < (p : Int) + (q.size : Int) - 1 then 1 else 0
  | .term a, p, k, h, hk => by
    have hs : ((Q.term a).size : Int) = 1 := rfl
    rw [Q.parts, usedC_one, h.1, h.2, if_neg (by omega), if_neg (by omega)]
  | .neg q, p, k, h, hk => by
    have ih := parts_used q p k h hk
    have hp := q.size_pos
    have hs : ((Q.neg q).size : Int) = (q.size : Int) + 1 := by simp [Q.size]
    rw [Q.parts, usedC_append, ih, usedC_one]
    dsimp only
    rw [if_neg (show ¬ (-1 : Int) = k by omega)]
    by_cases h1 : (p : Int) + (q.size : Int) - 1 = k
    · rw [if_pos h1, if_neg (by omega), if_pos (by omega)]
    · rw [if_neg h1]
      by_cases h2 : (p : Int) ≤ k ∧ k < (p : Int) + (q.size : Int) - 1
      · rw [if_pos h2, if_pos (by omega)]
      · rw [if_neg h2, if_neg (by omega)]
  | .two kk x y, p, k, h, hk => by
    have ihx := parts_used x p k h.1 hk
    have ihy := parts_used y (p + x.size) k h.2 hk
    have hx := x.size_pos
    have hy := y.size_pos
    have hs : ((Q.two kk x y).size : Int) = (x.size : Int) + (y.size : Int) + 1 := by simp [Q.size]
    have hpx : ((p + x.size : Nat) : Int) = (p : Int) + (x.size : Int) := by push_cast; rfl
    rw [Q.parts, usedC_append, usedC_append, ihx, ihy, usedC_one]
    dsimp only
    by_cases h1 : (p : Int) + (x.size : Int) - 1 = k
    · rw [if_neg (show ¬ ((p : Int) ≤ k ∧ k < (p : Int) + (x.size : Int) - 1) by omega), if_neg (show ¬ (((p + x.size : Nat) : Int) ≤ k ∧ k < ((p + x.size : Nat) : Int) + (y.size : Int) - 1) by omega), if_pos h1,
        if_neg (show ¬ (p : Int) + (x.size : Int) + (y.size : Int) - 1 = k by omega), if_pos (by omega)]
    · rw [if_neg h1]
      by_cases h2 : (p : Int) + (x.size : Int) + (y.size : Int) - 1 = k
      · rw [if_pos h2, if_neg (show ¬ ((p : Int) ≤ k ∧ k < (p : Int) + (x.size : Int) - 1) by omega), if_neg (show ¬ (((p + x.size : Nat) : Int) ≤ k ∧ k < ((p + x.size : Nat) : Int) + (y.size : Int) - 1) by omega), if_pos (by omega)]
      · rw [if_neg h2]
        by_cases h3 : (p : Int) ≤ k ∧ k < (p : Int) + (x.size : Int) - 1
        · rw [if_pos h3, if_neg (by omega), if_pos (by omega)]
        · rw [if_neg h3]
          by_cases h4 : ((p + x.size : Nat) : Int) ≤ k ∧ k < ((p + x.size : Nat) : Int) + (y.size : Int) - 1
          · rw [if_pos h4, if_pos (by omega)]
          · rw [if_neg h4, if_neg (by omega)]
theorem parts_shaped : ∀ (q : Q) (p : Nat), okQ q → shapedL (q.parts p) (p : Int) = true
  | .term a, p, h => by
    obtain ⟨h1, h2, h3, -⟩ := h
    rw [Q.parts, shapedL, shapedL, Bool.and_true, shapedB, jointB]
    rcases h1 with ⟨h4, h5, h6⟩ | ⟨h4, h5, h6, h7⟩
    · rw [if_neg (by simp; omega), if_neg (by omega), if_pos h4]
      simp [h2, h3, h5, h6]
    · rw [if_neg (by simp; omega), if_neg (by omega), if_neg (by omega)]
      simp [h2, h3, h4, h5, h6, h7]
  | .neg q, p, h => by
    have ih := parts_shaped q p h
    have hp := q.size_pos
    rw [Q.parts, shapedL_append, ih, Q.parts_len, shapedL, shapedL, shapedB, if_neg (by simp [jointB]), if_pos rfl]
    simp [belowB]; omega
  | .two k x y, p, h => by
    have ihx := parts_shaped x p h.2.1
    have ihy := parts_shaped y (p + x.size) h.2.2
    have hx := x.size_pos
    have hy := y.size_pos
    rw [Q.parts, shapedL_append, ihx, Q.parts_len, shapedL_append, show ((p : Int) + (x.size : Int)) = ((p + x.size : Nat) : Int) by push_cast; rfl, ihy, Q.parts_len, shapedL, shapedL, shapedB, if_pos (by
      rcases h.1 with e | e <;> simp [jointB, e])]
    simp [belowB]; omega
theorem parts_ok (q : Q) (h : okQ q) (hp : q.plain) : partsB (q.parts 0) = true := by
  unfold partsB
  have h1 : shapedL (q.parts 0) 0 = true := parts_shaped q 0 h
  have h2 := q.size_pos
  rw [h1, Q.parts_len]
  simp only [Bool.true_and, Bool.and_eq_true, decide_eq_true_eq, List.all_eq_true, List.mem_range]
  refine ⟨by omega, fun k hk => ?_⟩
  rw [parts_used q 0 k hp (by omega), if_pos (by omega)]

/-! ### Types, what is told, the form -/
def typedB (a : Ask) : Bool :=
  if a.kind = 4 then a.isText && (decide (a.op = 1) || decide (a.op = 2) || decide (a.op = 7))
  else if a.kind = 5 then !a.isText && decide (a.op ≠ 7)
  else if a.kind = 6 then decide (a.op ≠ 7)
  else if a.kind = 7 ∨ a.kind = 8 then !a.isText && (decide (a.op = 1) || decide (a.op = 2))
  else true
/-- What a part is told by: the part, whether it is right. G: is a pattern one? D: a date's number, if it is one. -/
def toldR (G : List UInt8 → Bool) (D : List UInt8 → Option Int) (a : Ask) : Ask × Bool :=
  if a.kind = 4 ∧ a.op = 7 then (a, G a.text)
  else if a.kind = 6 ∧ a.isText = true then (⟨a.kind, a.op, a.a, a.b, (D a.text).getD 0, [], false⟩, (D a.text).isSome)
  else if a.kind = 9 then (a, decide (1 ≤ a.text.length) && decide (a.text.length ≤ 64))
  else (a, true)
/-- The first error of parts. -/
def errsL (G : List UInt8 → Bool) (D : List UInt8 → Option Int) : List Ask → Int
  | [] => 0
  | a :: l => if typedB a = false then 16 else if (toldR G D a).2 = false then 4 else errsL G D l
def turnedI (o : Int) : Int := if o = 1 then 2 else if o = 2 then 1 else if o = 3 then 6 else if o = 4 then 5 else if o = 5 then 4 else if o = 6 then 3 else if o = 7 then 8 else if o = 8 then 7 else 0
/-- A question laid without nots. -/
def layQ (T : Ask → Ask) : Q → Bool → Q
  | .term a, t => .term (if t = true then ⟨(T a).kind, turnedI (T a).op, (T a).a, (T a).b, (T a).n, (T a).text, (T a).isText⟩ else T a)
  | .neg q, t => layQ T q (!t)
  | .two k x y, t => .two (if t = true then 3 - k else k) (layQ T x t) (layQ T y t)
def normL (G : List UInt8 → Bool) (D : List UInt8 → Option Int) (q : Q) : List Ask := (layQ (fun a => (toldR G D a).1) q false).parts 0
theorem errsL_append (G : List UInt8 → Bool) (D : List UInt8 → Option Int) (l r : List Ask) : errsL G D (l ++ r) = if errsL G D l = 0 then errsL G D r else errsL G D l := by
  induction l with
  | nil => rfl
  | cons a l ih =>
    rw [List.cons_append, errsL, ih, errsL]
    split
    · rfl
    · split
      · rfl
      · rfl
/-- The terms of a question in their order. -/
def termsQ : Q → List Ask
  | .term a => [a]
  | .neg q => termsQ q
  | .two _ x y => termsQ x ++ termsQ y
theorem errsL_joint (G : List UInt8 → Bool) (D : List UInt8 → Option Int) (k a b : Int) (hk : k = 1 ∨ k = 2 ∨ k = 3) : errsL G D [⟨k, 0, a, b, 0, [], false⟩] = 0 := by
  have h1 : typedB ⟨k, 0, a, b, 0, [], false⟩ = true := by
    unfold typedB; rw [if_neg (by show ¬ k = 4; omega), if_neg (by show ¬ k = 5; omega), if_neg (by show ¬ k = 6; omega), if_neg (by show ¬ (k = 7 ∨ k = 8); omega)]
  have h2 : (toldR G D ⟨k, 0, a, b, 0, [], false⟩).2 = true := by
    unfold toldR; rw [if_neg (by show ¬ (k = 4 ∧ _); omega), if_neg (by show ¬ (k = 6 ∧ _); omega), if_neg (by show ¬ k = 9; omega)]
  rw [errsL, h1, h2]; rfl
theorem errs_terms (G : List UInt8 → Bool) (D : List UInt8 → Option Int) : ∀ (q : Q) (p : Nat), okQ q → errsL G D (q.parts p) = errsL G D (termsQ q)
  | .term a, p, h => rfl
  | .neg q, p, h => by
    rw [Q.parts, errsL_append, errsL_joint _ _ _ _ _ (.inr (.inr rfl)), errs_terms G D q p h]
    show (if errsL G D (termsQ q) = 0 then 0 else errsL G D (termsQ q)) = errsL G D (termsQ q)
    split
    · rename_i h; exact h.symm
    · rfl
  | .two k x y, p, h => by
    rw [Q.parts, errsL_append, errsL_append, errsL_joint _ _ _ _ _ (by rcases h.1 with e | e <;> simp [e]), errs_terms G D x p h.2.1, errs_terms G D y _ h.2.2, termsQ, errsL_append]
    split
    · split
      · rename_i h; exact h.symm
      · rfl
    · rfl
theorem layQ_not_not (T : Ask → Ask) (q : Q) (t : Bool) : layQ T (.neg (.neg q)) t = layQ T q t := by simp [layQ]
end Go.Proofs.YtnhcamkccnaeeaaGreatDoor
