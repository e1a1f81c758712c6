/-
  What a pattern of names is; what a date's text is: in plain Lean. No program in sight.
-/
import Derived.Test.YtnhcamkccnaeeaaGreatDoorStr
import Derived.Lib.ValidLaws
import Derived.Laws.IdiomStrings
namespace Go.Proofs.YtnhcamkccnaeeaaGreatDoor
open Go.RowKit
set_option linter.unusedVariables false

/-! ### Patterns -/
inductive Prt where
  | self (c : Int)
  | one
  | stars (deep : Bool)
  | cls (no : Bool) (l : List (Int × Int))
def isR (c : Int) (l : List Int) : Bool := l.head? == some c
def plainR : List Int → Option (Int × List Int)
  | [] => none
  | c :: r => if c = 92 then (match r with | [] => none | d :: s => some (d, s)) else some (c, r)
/-- Is a class's next part one of two runes? -/
def spanR (r : List Int) : Bool := decide (1 < r.length) && isR 45 r && !isR 93 r.tail
/-- One part of a class. -/
def pairR (l : List Int) : Option ((Int × Int) × List Int) :=
  match plainR l with
  | none => none
  | some (a, r) =>
    if spanR r = true then
      match plainR r.tail with
      | none => none
      | some (b, s) => if b < a then none else some ((a, b), s)
    else some ((a, a), r)
def classR : Nat → List (Int × Int) → List Int → Option (List (Int × Int) × List Int)
  | 0, _, _ => none
  | f + 1, acc, l =>
    if (!acc.isEmpty && isR 93 l) = true then some (acc, l.tail)
    else match pairR l with
      | none => none
      | some (x, r) => classR f (acc ++ [x]) r
def partR (l : List Int) : Option (Prt × List Int) :=
  if isR 63 l = true then some (.one, l.tail)
  else if isR 42 l = true then some (.stars (isR 42 l.tail), if isR 42 l.tail = true then l.tail.tail else l.tail)
  else if isR 91 l = true then
    (classR (l.length + 1) [] (if isR 33 l.tail = true then l.tail.tail else l.tail)).map fun x => (.cls (isR 33 l.tail) x.1, x.2)
  else (plainR l).map fun x => (.self x.1, x.2)
def globR : Nat → List Int → Option (List Prt)
  | 0, _ => none
  | f + 1, l => if l.isEmpty = true then some [] else match partR l with
    | none => none
    | some (p, r) => (globR f r).map (p :: ·)
/-- The runes of a string. -/
def runesG (s : ByteArray) : List Int := (Conv.runesFrom s s.size 0 #[]).toList.map intOf
def globP (s : List UInt8) : Option (List Prt) :=
  if 100 < s.length ∨ Lib.validD s = false then none else globR ((runesG (str s)).length + 1) (runesG (str s))
def globE (s : List UInt8) : Int := if 100 < s.length then 10 else if Lib.validD s = false then 4 else if (globP s).isSome = true then 0 else 4

theorem plainR_len {l : List Int} {c : Int} {r : List Int} (h : plainR l = some (c, r)) : r.length < l.length := by
  match l, h with
  | [], h => cases h
  | a :: t, h =>
    by_cases c92 : a = 92
    · subst c92
      match t, h with
      | [], h => cases h
      | d :: s, h =>
        obtain ⟨rfl, rfl⟩ : d = c ∧ s = r := by simpa [plainR] using h
        simp; omega
    · have e : plainR (a :: t) = some (a, t) := by
        cases t <;> simp [plainR, c92]
      rw [e] at h
      obtain ⟨rfl, rfl⟩ : a = c ∧ t = r := by simpa using h
      simp
theorem pairR_len {l : List Int} {x : Int × Int} {r : List Int} (h : pairR l = some (x, r)) : r.length < l.length := by
  unfold pairR at h
  cases hp : plainR l with
  | none => rw [hp] at h; cases h
  | some y =>
    obtain ⟨a, r1⟩ := y
    have h1 := plainR_len hp
    rw [hp] at h
    simp only [] at h
    split at h
    · cases hq : plainR r1.tail with
      | none => rw [hq] at h; cases h
      | some z =>
        obtain ⟨b, s⟩ := z
        have h2 := plainR_len hq
        have h3 : r1.tail.length ≤ r1.length := by simp
        rw [hq] at h
        simp only [] at h
        split at h
        · cases h
        · cases h; omega
    · cases h; omega
theorem classR_len : ∀ (f : Nat) (acc : List (Int × Int)) (l : List Int) {x : List (Int × Int)} {r : List Int}, classR f acc l = some (x, r) → r.length ≤ l.length
  | 0, _, _, _, _, h => by cases h
  | f + 1, acc, l, x, r, h => by
    rw [classR] at h
    split at h
    · cases h; simp
    · cases hp : pairR l with
      | none => rw [hp] at h; cases h
      | some y =>
        obtain ⟨p, s⟩ := y
        rw [hp] at h
        have h1 := pairR_len hp
        have h2 := classR_len f _ s h
        omega
/-- More fuel changes nothing. -/
theorem classR_fuel : ∀ (f g : Nat) (acc : List (Int × Int)) (l : List Int), l.length < f → l.length < g → classR f acc l = classR g acc l
  | 0, _, _, _, h, _ => absurd h (by omega)
  | _ + 1, 0, _, _, _, h => absurd h (by omega)
  | f + 1, g + 1, acc, l, h1, h2 => by
    rw [classR, classR]
    split
    · rfl
    · cases hp : pairR l with
      | none => rfl
      | some y =>
        obtain ⟨p, s⟩ := y
        have := pairR_len hp
        exact classR_fuel f g _ s (by omega) (by omega)
theorem isR_len {c : Int} {l : List Int} (h : isR c l = true) : l.tail.length < l.length := by
  cases l with
  | nil => simp [isR] at h
  | cons a t => simp
theorem partR_len {l : List Int} {p : Prt} {r : List Int} (h : partR l = some (p, r)) : r.length < l.length := by
  unfold partR at h
  split at h
  · rename_i h1
    have := isR_len h1
    cases h; exact this
  · split at h
    · rename_i h1 h2
      have := isR_len h2
      have h3 : l.tail.tail.length ≤ l.tail.length := by simp
      cases h
      split
      · omega
      · omega
    · split at h
      · rename_i h1 h2 h3
        have := isR_len h3
        obtain ⟨x, hx, e⟩ := Option.map_eq_some_iff.1 h
        cases e
        have h4 := classR_len _ _ _ hx
        have h5 : l.tail.tail.length ≤ l.tail.length := by simp
        split at h4
        · omega
        · omega
      · obtain ⟨x, hx, e⟩ := Option.map_eq_some_iff.1 h
        cases e
        exact plainR_len hx
theorem globR_fuel : ∀ (f g : Nat) (l : List Int), l.length < f → l.length < g → globR f l = globR g l
  | 0, _, _, h, _ => absurd h (by omega)
  | _ + 1, 0, _, _, h => absurd h (by omega)
  | f + 1, g + 1, l, h1, h2 => by
    rw [globR, globR]
    split
    · rfl
    · cases hp : partR l with
      | none => rfl
      | some y =>
        obtain ⟨p, s⟩ := y
        have := partR_len hp
        show (globR f s).map _ = (globR g s).map _
        rw [globR_fuel f g s (by omega) (by omega)]
/-- What has been read, and what is still to come. -/
def globA (acc : List Prt) (l : List Int) : Option (List Prt) := (globR (l.length + 1) l).map (acc ++ ·)
theorem globA_nil (acc : List Prt) : globA acc [] = some acc := by simp [globA, globR]
theorem globA_none (acc : List Prt) {l : List Int} (hl : l ≠ []) (h : partR l = none) : globA acc l = none := by
  rw [globA, globR, h, if_neg (by simpa using hl)]; rfl
theorem globA_step (acc : List Prt) {l r : List Int} {p : Prt} (h : partR l = some (p, r)) : globA acc l = globA (acc ++ [p]) r := by
  have hl := partR_len h
  have hne : l ≠ [] := by rintro rfl; simp at hl
  rw [globA, globR, h, if_neg (by simpa using hne)]
  show ((globR l.length r).map _).map _ = _
  rw [globA, globR_fuel l.length (r.length + 1) r hl (by omega), Option.map_map]
  congr 1
  funext x
  simp
theorem runes_shape (s : ByteArray) : ∀ (f i : Nat) (l : List Int), ∃ r : List Int, Conv.runesFrom s f i (l.map (Value.int .i32)).toArray = ((l ++ r).map (Value.int .i32)).toArray
  | 0, i, l => ⟨[], by simp [Conv.runesFrom]⟩
  | f + 1, i, l => by
    rw [Conv.runesFrom]
    split
    · obtain ⟨r, hr⟩ := runes_shape s f (i + (Utf8.decode s i).2) (l ++ [((Utf8.decode s i).1 : Int)])
      refine ⟨((Utf8.decode s i).1 : Int) :: r, ?_⟩
      have e : (l.map (Value.int .i32)).toArray.push (.int .i32 (Int.ofNat (Utf8.decode s i).1)) = ((l ++ [((Utf8.decode s i).1 : Int)]).map (Value.int .i32)).toArray := by simp
      simp only [e, hr]
      simp
    · exact ⟨[], by simp⟩
theorem runesG_eq (s : ByteArray) : Conv.runesFrom s s.size 0 #[] = ((runesG s).map (Value.int .i32)).toArray := by
  obtain ⟨r, hr⟩ := runes_shape s s.size 0 []
  have e : (([] : List Int).map (Value.int .i32)).toArray = #[] := rfl
  rw [e] at hr
  have h2 : runesG s = r := by
    unfold runesG
    rw [hr]
    simp only [List.nil_append, List.map_map]
    exact (List.map_congr_left (fun x _ => rfl)).trans (List.map_id _)
  rw [h2, hr]; simp
theorem runesG_len (s : ByteArray) : (runesG s).length ≤ s.size := by
  have h := size_runesFrom s s.size 0 #[]
  rw [runesG_eq] at h
  simpa using h

/-! ### Dates -/
def formB : List UInt8 := [100, 100, 100, 100, 45, 100, 100, 45, 100, 100, 32, 100, 100, 58, 100, 100, 58, 100, 100]
structure Mom where
  n : Nat → Int
  k : Nat
/-- The numbers of a date's text, so far. -/
def dstep (f c : UInt8) (m : Mom) : Option Mom :=
  if f = 100 then (if c.toNat < 48 ∨ 57 < c.toNat then none else some ⟨fun j => if j = m.k then 10 * m.n m.k + ((c.toNat : Int) - 48) else m.n j, m.k⟩)
  else if c = f then some ⟨m.n, m.k + 1⟩ else none
def dscan (l : List UInt8) : Nat → Option Mom
  | 0 => some ⟨fun _ => 0, 0⟩
  | i + 1 => (dscan l i).bind (dstep (formB.getD i 0) (l.getD i 0))
end Go.Proofs.YtnhcamkccnaeeaaGreatDoor
