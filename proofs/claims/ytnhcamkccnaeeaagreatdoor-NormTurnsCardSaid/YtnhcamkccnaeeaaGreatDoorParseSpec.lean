/-
  What the parser of questions computes, in plain Lean: a tree of a list of tokens, and a tree's parts. No program in sight.
-/
import Derived.Test.YtnhcamkccnaeeaaGreatDoorLexSpec
namespace Go.Proofs.YtnhcamkccnaeeaaGreatDoor
set_option linter.unusedVariables false

/-- A part of a question. -/
structure Ask where
  kind : Int
  op : Int
  a : Int
  b : Int
  n : Int
  text : List UInt8
  isText : Bool

/-- A question as a tree: a term, a not, two with a word between (1: or, 2: and). -/
inductive Q where
  | term (k : Ask)
  | neg (q : Q)
  | two (k : Int) (x y : Q)

def Q.size : Q → Nat
  | .term _ => 1
  | .neg q => q.size + 1
  | .two _ x y => x.size + y.size + 1
theorem Q.size_pos (q : Q) : 1 ≤ q.size := by cases q <;> simp [Q.size]
/-- Its parts, each behind its own, from place p on. -/
def Q.parts : Q → Nat → List Ask
  | .term k, _ => [k]
  | .neg q, p => q.parts p ++ [⟨3, 0, (p : Int) + (q.size : Int) - 1, -1, 0, [], false⟩]
  | .two k x y, p => x.parts p ++ (y.parts (p + x.size) ++ [⟨k, 0, (p : Int) + (x.size : Int) - 1, (p : Int) + (x.size : Int) + (y.size : Int) - 1, 0, [], false⟩])
theorem Q.parts_len (q : Q) : ∀ p, (q.parts p).length = q.size := by
  induction q with
  | term k => intro p; rfl
  | neg q ih => intro p; simp [Q.parts, Q.size, ih]
  | two k x y ihx ihy => intro p; simp [Q.parts, Q.size, ihx, ihy]; omega
def Q.depth : Q → Nat
  | .term _ => 1
  | .neg q => q.depth + 1
  | .two _ x y => max x.depth y.depth + 1

def isW (t : Tok) (kind : Int) (text : List UInt8) : Bool := decide (t.kind = kind) && decide (t.text = text)
/-- Is a token of that kind and text ahead? -/
def atW (T : List Tok) (kind : Int) (text : List UInt8) : Bool :=
  match T with
  | [] => false
  | t :: _ => isW t kind text

def notW : List UInt8 := [110, 111, 116]
def andW : List UInt8 := [97, 110, 100]
def orW : List UInt8 := [111, 114]
def hasW : List UInt8 := [104, 97, 115]
def lpW : List UInt8 := [40]
def rpW : List UInt8 := [41]
def nameW : List UInt8 := [110, 97, 109, 101]
def sizeW : List UInt8 := [115, 105, 122, 101]
def dateW : List UInt8 := [100, 97, 116, 101]
def crcW : List UInt8 := [99, 114, 99]
def methodW : List UInt8 := [109, 101, 116, 104, 111, 100]
/-- The kind of a word that is compared. -/
def kindOf (t : List UInt8) : Int :=
  if t = nameW then 4 else if t = sizeW then 5 else if t = dateW then 6 else if t = crcW then 7 else if t = methodW then 8 else 0
def cmpL : List (List UInt8) := [[61], [33, 61], [60], [60, 61], [62], [62, 61], [126]]
/-- The place of a text in a list, counted from k; 0: it is not there. -/
def findK (l : List (List UInt8)) (t : List UInt8) (k : Int) : Int :=
  match l with
  | [] => 0
  | m :: r => if t = m then k else findK r t (k + 1)
def opOf (t : Tok) : Int := if t.kind = 4 then findK cmpL t.text 1 else 0

/-- A term, and what is behind it. -/
def termP (T : List Tok) : Option (Ask × List Tok) :=
  if atW T 1 hasW then
    match T with
    | _ :: v :: r => if v.kind = 3 then some (⟨9, 1, -1, -1, v.n, v.text, true⟩, r) else none
    | _ => none
  else
    match T with
    | t :: m :: v :: r => if t.kind = 1 ∧ kindOf t.text ≠ 0 ∧ opOf m ≠ 0 ∧ (v.kind = 3 ∨ v.kind = 2) then some (⟨kindOf t.text, opOf m, -1, -1, v.n, v.text, decide (v.kind = 3)⟩, r) else none
    | _ => none

/-- More of the kind, with a word between. -/
def loopP (word : List UInt8) (kind : Int) (one : List Tok → Option (Q × List Tok)) : Nat → Q → List Tok → Option (Q × List Tok)
  | 0, a, T => some (a, T)
  | g + 1, a, T =>
    if atW T 1 word then
      match one T.tail with
      | some (b, T') => loopP word kind one g (.two kind a b) T'
      | none => none
    else some (a, T)
def rowP (word : List UInt8) (kind : Int) (one : List Tok → Option (Q × List Tok)) (T : List Tok) : Option (Q × List Tok) :=
  match one T with
  | some (a, T') => loopP word kind one T'.length a T'
  | none => none
def notsP : Nat → List Tok → Option (Q × List Tok)
  | 0, _ => none
  | f + 1, T =>
    if atW T 1 notW then
      match notsP f T.tail with
      | some (q, T') => some (.neg q, T')
      | none => none
    else if atW T 4 lpW then
      match rowP orW 1 (rowP andW 2 (notsP f)) T.tail with
      | some (q, T') => if atW T' 4 rpW then some (q, T'.tail) else none
      | none => none
    else (termP T).map fun x => (.term x.1, x.2)
def andsP (f : Nat) : List Tok → Option (Q × List Tok) := rowP andW 2 (notsP f)
def orsP (f : Nat) : List Tok → Option (Q × List Tok) := rowP orW 1 (andsP f)

/-- 'takes at least a token, and makes no more parts than it takes tokens'. -/
def Takes (one : List Tok → Option (Q × List Tok)) : Prop := ∀ T q T', one T = some (q, T') → T'.length < T.length ∧ q.size ≤ T.length - T'.length
theorem atW_cons {T : List Tok} {k : Int} {w : List UInt8} (h : atW T k w = true) : ∃ t r, T = t :: r ∧ isW t k w = true := by
  cases T with
  | nil => cases h
  | cons t r => exact ⟨t, r, rfl, h⟩
theorem termP_takes (T : List Tok) (x : Ask × List Tok) (h : termP T = some x) : x.2.length + 2 ≤ T.length := by
  unfold termP at h
  split at h
  · split at h
    · split at h
      · simp at h; subst h; simp
      · cases h
    · cases h
  · split at h
    · split at h
      · simp at h; subst h; simp
      · cases h
    · cases h
theorem loopP_takes {word : List UInt8} {kind : Int} {one : List Tok → Option (Q × List Tok)} (ho : Takes one) : ∀ (g : Nat) (a : Q) (T : List Tok) (q : Q) (T' : List Tok),
    loopP word kind one g a T = some (q, T') → T'.length ≤ T.length ∧ q.size ≤ a.size + (T.length - T'.length)
  | 0, a, T, q, T', h => by
    simp [loopP] at h
    obtain ⟨rfl, rfl⟩ := h
    exact ⟨Nat.le_refl _, by omega⟩
  | g + 1, a, T, q, T', h => by
    rw [loopP] at h
    split at h
    · rename_i hw
      obtain ⟨t, r, rfl, _⟩ := atW_cons hw
      split at h
      · rename_i b T1 hb
        have h1 := ho _ _ _ hb
        have h2 := loopP_takes ho g _ _ _ _ h
        simp [Q.size] at h1 h2 ⊢
        omega
      · cases h
    · simp at h
      obtain ⟨rfl, rfl⟩ := h
      exact ⟨Nat.le_refl _, by omega⟩
theorem rowP_takes {word : List UInt8} {kind : Int} {one : List Tok → Option (Q × List Tok)} (ho : Takes one) : Takes (rowP word kind one) := by
  intro T q T' h
  unfold rowP at h
  split at h
  · rename_i a T1 ha
    have h1 := ho _ _ _ ha
    have h2 := loopP_takes ho _ _ _ _ _ h
    omega
  · cases h
theorem notsP_takes : ∀ f, Takes (notsP f)
  | 0 => fun T q T' h => by simp [notsP] at h
  | f + 1 => fun T q T' h => by
    have ih := notsP_takes f
    rw [notsP] at h
    split at h
    · rename_i hw
      obtain ⟨t, r, rfl, _⟩ := atW_cons hw
      split at h
      · rename_i q1 T1 h1
        have := ih _ _ _ h1
        simp at h
        obtain ⟨rfl, rfl⟩ := h
        simp [Q.size] at *
        omega
      · cases h
    · split at h
      · rename_i hw
        obtain ⟨t, r, rfl, _⟩ := atW_cons hw
        split at h
        · rename_i q1 T1 h1
          have h2 := rowP_takes (word := orW) (kind := 1) (rowP_takes (word := andW) (kind := 2) ih) _ _ _ h1
          split at h
          · rename_i hr
            obtain ⟨t', r', rfl, _⟩ := atW_cons hr
            simp at h
            obtain ⟨rfl, rfl⟩ := h
            simp at *
            omega
          · cases h
        · cases h
      · cases ht : termP T with
        | none => rw [ht] at h; simp at h
        | some x =>
          rw [ht] at h
          simp at h
          obtain ⟨rfl, rfl⟩ := h
          have := termP_takes _ _ ht
          simp [Q.size]
          omega
theorem andsP_takes (f : Nat) : Takes (andsP f) := rowP_takes (notsP_takes f)
theorem orsP_takes (f : Nat) : Takes (orsP f) := rowP_takes (andsP_takes f)

/-- How deep the parts of a list are, one behind the other: each from those ahead of it. -/
def deepAt (ds : List Nat) (k : Int) : Nat := if 0 ≤ k ∧ k < ds.length then ds.getD k.toNat 0 else 0
def deepNext (ds : List Nat) (x : Ask) : Nat := max (deepAt ds x.a) (deepAt ds x.b) + 1
def deeps (ds : List Nat) : List Ask → List Nat
  | [] => ds
  | x :: l => deeps (ds ++ [deepNext ds x]) l
def deepL (l : List Ask) : Nat := (deeps [] l).getLastD 0
theorem deeps_append (l r : List Ask) : ∀ ds, deeps ds (l ++ r) = deeps (deeps ds l) r := by
  induction l with
  | nil => intro ds; rfl
  | cons x l ih => intro ds; exact ih _
theorem deeps_len (l : List Ask) : ∀ ds, (deeps ds l).length = ds.length + l.length := by
  induction l with
  | nil => intro ds; rfl
  | cons x l ih => intro ds; rw [deeps, ih]; simp; omega
theorem deepAt_in (ds : List Nat) (k : Nat) (h : k < ds.length) : deepAt ds (k : Int) = ds[k] := by
  unfold deepAt
  rw [if_pos ⟨by omega, by omega⟩]
  simp [List.getD, h]
theorem deepAt_neg (ds : List Nat) (k : Int) (h : k < 0) : deepAt ds k = 0 := by
  unfold deepAt
  rw [if_neg (by omega)]
def Q.plain : Q → Prop
  | .term k => k.a = -1 ∧ k.b = -1
  | .neg q => q.plain
  | .two _ x y => x.plain ∧ y.plain
/-- The parts of a tree: what was there stays, as many more are told, the last one tells how deep the tree is. -/
theorem deeps_tree : ∀ (q : Q) (ds : List Nat), q.plain → ∃ es, deeps ds (q.parts ds.length) = ds ++ es ∧ es.length = q.size ∧ es.getLast? = some q.depth
  | .term k, ds, h => by
    refine ⟨[1], ?_, rfl, rfl⟩
    simp only [Q.parts, deeps, deepNext]
    rw [deepAt_neg _ _ (by rw [h.1]; decide), deepAt_neg _ _ (by rw [h.2]; decide)]
    rfl
  | .neg q, ds, h => by
    obtain ⟨es, h1, h2, h3⟩ := deeps_tree q ds h
    refine ⟨es ++ [q.depth + 1], ?_, by simp [Q.size, h2], by simp [Q.depth]⟩
    have hp := q.size_pos
    rw [Q.parts, deeps_append, h1]
    simp only [deeps, deepNext]
    have e : deepAt (ds ++ es) ((ds.length : Int) + (q.size : Int) - 1) = q.depth := by
      have hk : (ds.length : Int) + (q.size : Int) - 1 = ((ds.length + (q.size - 1) : Nat) : Int) := by omega
      rw [hk, deepAt_in _ _ (by simp; omega)]
      rw [List.getLast?_eq_getElem?, h2] at h3
      rw [List.getElem_append_right (by omega)]
      have : ds.length + (q.size - 1) - ds.length = q.size - 1 := by omega
      simp only [this]
      rw [List.getElem?_eq_getElem (by omega)] at h3
      exact Option.some.inj h3
    rw [e, deepAt_neg _ _ (by decide)]
    simp
  | .two k x y, ds, h => by
    obtain ⟨es, h1, h2, h3⟩ := deeps_tree x ds h.1
    obtain ⟨fs, g1, g2, g3⟩ := deeps_tree y (ds ++ es) h.2
    refine ⟨es ++ fs ++ [max x.depth y.depth + 1], ?_, by simp [Q.size, h2, g2]; omega, by simp [Q.depth]⟩
    have hx := x.size_pos
    have hy := y.size_pos
    rw [List.length_append, h2] at g1
    rw [Q.parts, deeps_append, h1, deeps_append, g1]
    simp only [deeps, deepNext]
    have ex : deepAt (ds ++ es ++ fs) ((ds.length : Int) + (x.size : Int) - 1) = x.depth := by
      have hk : (ds.length : Int) + (x.size : Int) - 1 = ((ds.length + (x.size - 1) : Nat) : Int) := by omega
      rw [hk, deepAt_in _ _ (by simp; omega)]
      rw [List.getLast?_eq_getElem?, h2, List.getElem?_eq_getElem (by omega)] at h3
      rw [List.getElem_append_left (by simp; omega), List.getElem_append_right (by omega)]
      have : ds.length + (x.size - 1) - ds.length = x.size - 1 := by omega
      simp only [this]
      exact Option.some.inj h3
    have ey : deepAt (ds ++ es ++ fs) ((ds.length : Int) + (x.size : Int) + (y.size : Int) - 1) = y.depth := by
      have hk : (ds.length : Int) + (x.size : Int) + (y.size : Int) - 1 = ((ds.length + x.size + (y.size - 1) : Nat) : Int) := by omega
      rw [hk, deepAt_in _ _ (by simp; omega)]
      rw [List.getLast?_eq_getElem?, g2, List.getElem?_eq_getElem (by omega)] at g3
      rw [List.getElem_append_right (by simp; omega)]
      have : ds.length + x.size + (y.size - 1) - (ds ++ es).length = y.size - 1 := by simp; omega
      simp only [this]
      exact Option.some.inj g3
    rw [ex, ey]
    simp
theorem deepL_tree (q : Q) (h : q.plain) : deepL (q.parts 0) = q.depth := by
  obtain ⟨es, h1, _, h3⟩ := deeps_tree q [] h
  unfold deepL
  rw [show (q.parts 0) = q.parts ([] : List Nat).length from rfl, h1, List.nil_append]
  cases es with
  | nil => simp at h3
  | cons e es => rw [List.getLastD_eq_getLast?, h3]; rfl
def isPat (x : Ask) : Bool := decide (x.kind = 9) || decide (x.op = 7)
def patsL (l : List Ask) : Nat := l.countP isPat

/-- What Parse answers of tokens: a question; the error; its parts. -/
def parseQ (T : List Tok) : Option Q :=
  match orsP (T.length + 1) T with
  | some (q, []) => some q
  | _ => none
def parseE (T : List Tok) : Int :=
  match parseQ T with
  | none => 19
  | some q => if 16 < q.depth then 11 else if 8 < patsL (q.parts 0) then 17 else 0
def parseL (T : List Tok) : List Ask :=
  match parseQ T with
  | none => []
  | some q => if 16 < q.depth then [] else if 8 < patsL (q.parts 0) then [] else q.parts 0

/-- Terms have no parts. -/
def Plain (one : List Tok → Option (Q × List Tok)) : Prop := ∀ T q T', one T = some (q, T') → q.plain
theorem termP_plain (T : List Tok) (x : Ask × List Tok) (h : termP T = some x) : x.1.a = -1 ∧ x.1.b = -1 := by
  unfold termP at h
  split at h
  · split at h
    · split at h
      · simp at h; subst h; exact ⟨rfl, rfl⟩
      · cases h
    · cases h
  · split at h
    · split at h
      · simp at h; subst h; exact ⟨rfl, rfl⟩
      · cases h
    · cases h
theorem loopP_plain {word : List UInt8} {kind : Int} {one : List Tok → Option (Q × List Tok)} (ho : Plain one) : ∀ (g : Nat) (a : Q) (T : List Tok) (q : Q) (T' : List Tok),
    a.plain → loopP word kind one g a T = some (q, T') → q.plain
  | 0, a, T, q, T', ha, h => by
    simp [loopP] at h
    obtain ⟨rfl, rfl⟩ := h
    exact ha
  | g + 1, a, T, q, T', ha, h => by
    rw [loopP] at h
    split at h
    · split at h
      · rename_i b T1 hb
        exact loopP_plain ho g (.two kind a b) _ _ _ ⟨ha, ho _ _ _ hb⟩ h
      · cases h
    · simp at h
      obtain ⟨rfl, rfl⟩ := h
      exact ha
theorem rowP_plain {word : List UInt8} {kind : Int} {one : List Tok → Option (Q × List Tok)} (ho : Plain one) : Plain (rowP word kind one) := by
  intro T q T' h
  unfold rowP at h
  split at h
  · rename_i a T1 ha
    exact loopP_plain ho _ _ _ _ _ (ho _ _ _ ha) h
  · cases h
theorem notsP_plain : ∀ f, Plain (notsP f)
  | 0 => fun T q T' h => by simp [notsP] at h
  | f + 1 => fun T q T' h => by
    have ih := notsP_plain f
    rw [notsP] at h
    split at h
    · split at h
      · rename_i q1 T1 h1
        have := ih _ _ _ h1
        simp at h
        obtain ⟨rfl, rfl⟩ := h
        exact this
      · cases h
    · split at h
      · split at h
        · rename_i q1 T1 h1
          have h2 := rowP_plain (word := orW) (kind := 1) (rowP_plain (word := andW) (kind := 2) ih) _ _ _ h1
          split at h
          · simp at h
            obtain ⟨rfl, rfl⟩ := h
            exact h2
          · cases h
        · cases h
      · cases ht : termP T with
        | none => rw [ht] at h; simp at h
        | some x =>
          rw [ht] at h
          simp at h
          obtain ⟨rfl, rfl⟩ := h
          exact termP_plain _ _ ht
theorem orsP_plain (f : Nat) : Plain (orsP f) := rowP_plain (rowP_plain (notsP_plain f))
theorem parseQ_plain (T : List Tok) (q : Q) (h : parseQ T = some q) : q.plain := by
  unfold parseQ at h
  split at h
  · rename_i q1 h1
    simp at h
    subst h
    exact orsP_plain _ _ _ _ h1
  · cases h
end Go.Proofs.YtnhcamkccnaeeaaGreatDoor
