/-
  The head of a pattern begins every name that it matches: plain Lean, no program in sight.
-/
import Derived.Test.YtnnjcedlomfhoaaGreatDoorOHead
import Derived.Test.YtnnjcedlomfhoaaGreatDoorOReadLaw
import Derived.Lib.MapLaws
import Derived.Lib.QuoteLoop
namespace Go.Proofs.YtnnjcedlomfhoaaGreatDoor
open Go.RowKit
set_option linter.unusedVariables false
theorem plainR_sub {l : List Int} {c : Int} {r : List Int} (h : plainR l = some (c, r)) : c ∈ l ∧ ∀ x ∈ r, x ∈ l := by
  match l, h with
  | [], h => cases h
  | a :: t, h =>
    by_cases c92 : a = 92
    · subst c92
      match t, h with
      | [], h => cases h
      | d :: s, h =>
        obtain ⟨rfl, rfl⟩ : d = c ∧ s = r := by simpa [plainR] using h
        exact ⟨.tail _ (.head _), fun x hx => .tail _ (.tail _ hx)⟩
    · have e : plainR (a :: t) = some (a, t) := by
        cases t <;> simp [plainR, c92]
      rw [e] at h
      obtain ⟨rfl, rfl⟩ : a = c ∧ t = r := by simpa using h
      exact ⟨.head _, fun x hx => .tail _ hx⟩
theorem tail_sub (l : List Int) : ∀ x ∈ l.tail, x ∈ l := fun x hx => by
  cases l with
  | nil => cases hx
  | cons a t => exact .tail _ hx
theorem pairR_sub {l : List Int} {x : Int × Int} {r : List Int} (h : pairR l = some (x, r)) : ∀ y ∈ r, y ∈ l := by
  unfold pairR at h
  cases hp : plainR l with
  | none => rw [hp] at h; cases h
  | some z =>
    obtain ⟨a, r1⟩ := z
    obtain ⟨-, h1⟩ := plainR_sub hp
    rw [hp] at h
    simp only [] at h
    split at h
    · cases hq : plainR r1.tail with
      | none => rw [hq] at h; cases h
      | some z =>
        obtain ⟨b, s⟩ := z
        obtain ⟨-, h2⟩ := plainR_sub hq
        rw [hq] at h
        simp only [] at h
        split at h
        · cases h
        · cases h
          exact fun y hy => h1 y (tail_sub _ y (h2 y hy))
    · cases h
      exact h1
theorem classR_sub : ∀ (f : Nat) (acc : List (Int × Int)) (l : List Int) {x : List (Int × Int)} {r : List Int}, classR f acc l = some (x, r) → ∀ y ∈ r, y ∈ l
  | 0, _, _, _, _, h => by cases h
  | f + 1, acc, l, x, r, h => by
    rw [classR] at h
    split at h
    · cases h
      exact tail_sub l
    · cases hp : pairR l with
      | none => rw [hp] at h; cases h
      | some y =>
        obtain ⟨p, s⟩ := y
        rw [hp] at h
        exact fun y hy => pairR_sub hp y (classR_sub f _ s h y hy)
theorem partR_sub {l : List Int} {p : Prt} {r : List Int} (h : partR l = some (p, r)) : (∀ c, p = .self c → c ∈ l) ∧ ∀ y ∈ r, y ∈ l := by
  unfold partR at h
  split at h
  · cases h
    exact ⟨fun c e => (by cases e), tail_sub l⟩
  split at h
  · cases h
    refine ⟨fun c e => (by cases e), ?_⟩
    split
    · exact fun y hy => tail_sub l y (tail_sub _ y hy)
    · exact tail_sub l
  split at h
  · cases hc : classR (l.length + 1) [] (if isR 33 l.tail = true then l.tail.tail else l.tail) with
    | none => rw [hc] at h; cases h
    | some z =>
      obtain ⟨x, s⟩ := z
      rw [hc] at h
      cases h
      refine ⟨fun c e => (by cases e), fun y hy => ?_⟩
      have := classR_sub _ _ _ hc y hy
      split at this
      · exact tail_sub l y (tail_sub _ y this)
      · exact tail_sub l y this
  · cases hp : plainR l with
    | none => rw [hp] at h; cases h
    | some z =>
      obtain ⟨c, s⟩ := z
      obtain ⟨h1, h2⟩ := plainR_sub hp
      rw [hp] at h
      cases h
      exact ⟨fun c' e => by cases e; exact h1, h2⟩
theorem globR_self : ∀ (f : Nat) (l : List Int) (ps : List Prt), globR f l = some ps → ∀ c, Prt.self c ∈ ps → c ∈ l
  | 0, _, _, h => by cases h
  | f + 1, l, ps, h => by
    rw [globR] at h
    split at h
    · cases h
      intro c hc; cases hc
    · cases hp : partR l with
      | none => rw [hp] at h; cases h
      | some z =>
        obtain ⟨p, r⟩ := z
        obtain ⟨h1, h2⟩ := partR_sub hp
        rw [hp] at h
        cases hg : globR f r with
        | none => simp [hg] at h
        | some qs =>
          simp [hg] at h
          subst h
          intro c hc
          rcases List.mem_cons.1 hc with e | hc
          · exact h1 c e.symm
          · exact h2 c (globR_self f r qs hg c hc)
theorem runesD_range : ∀ (f : Nat) (l : List UInt8), ∀ c ∈ runesD f l, 0 ≤ c ∧ c ≤ 1114111
  | 0, l, c, h => by cases h
  | f + 1, l, c, h => by
    rw [runesD] at h
    split at h
    · cases h
    · rcases List.mem_cons.1 h with e | h
      · have := Lib.decodeL_rune l
        omega
      · exact runesD_range f _ c h
theorem globP_self {s : List UInt8} {ps : List Prt} (h : globP s = some ps) : ∀ c, Prt.self c ∈ ps → 0 ≤ c ∧ c ≤ 1114111 := by
  intro c hc
  unfold globP at h
  split at h
  · cases h
  · have := globR_self _ _ _ h c hc
    rw [runesG_D] at this
    exact runesD_range _ _ c this
end Go.Proofs.YtnnjcedlomfhoaaGreatDoor
