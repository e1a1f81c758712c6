/-
  The head of a pattern begins every name that it matches: plain Lean, no program in sight.
-/
import Derived.Test.YtnnjcedlomfhoaaGreatDoorHHead
import Derived.Test.YtnnjcedlomfhoaaGreatDoorHReadLaw
import Derived.Lib.MapLaws
import Derived.Lib.QuoteLoop
namespace Go.Proofs.YtnnjcedlomfhoaaGreatDoor
open Go.RowKit
set_option linter.unusedVariables false
theorem plainR_sub {l : List Int} {c : Int} {r : List Int} (h : plainR l = some (c, r)) : c ∈ l ∧ ∀ x ∈ r, x ∈ l := by
  match l, h with
  | [], h => cases h
  | a :: t, h =>
    by_cases c92 : a = 92
    · subst c92
      match t, h with
      | [], h => cases h
      | d :: s, h =>
        obtain ⟨rfl, rfl⟩ : d = c ∧ s = r := by simpa [plainR] using h
        exact ⟨.tail _ (.head _), fun x hx => .tail _ (.tail _ hx)⟩
    · have e : plainR (a :: t) = some (a, t) := by
        cases t <;> simp [plainR, c92]
      rw [e] at h
      obtain ⟨rfl, rfl⟩ : a = c ∧ t = r := by simpa using h
      exact ⟨.head _, fun x hx => .tail _ hx⟩
theorem tail_sub (l : List Int) : ∀ x ∈ l.tail, x ∈ l := fun x hx => by
  cases l with
  | nil => cases hx
  | cons a t => exact .tail _ hx
theorem pairR_sub {l : List Int} {x : Int × Int} {r : List Int} (h : pairR l = some (x, r)) : ∀ y ∈ r, y ∈ l := by
  unfold pairR at h
  cases hp : plainR l with
  | none => rw [hp] at h; cases h
  | some z =>
    obtain ⟨a, r1⟩ := z
    obtain ⟨-, h1⟩ := plainR_sub hp
    rw [hp] at h
    simp only [] at h
    split at h
    · cases hq : plainR r1.tail with
      | none => rw [hq] at h; cases h
      | some z =>
        obtain ⟨b, s⟩ := z
        obtain ⟨-, h2⟩ := plainR_sub hq
        rw [hq] at h
        simp only [] at h
        split at h
        · cases h
        · cases h
          exact fun y hy => h1 y (tail_sub _ y (h2 y hy))
    · cases h
      exact h1
theorem classR_sub : ∀ (f : Nat) (acc : List (Int × Int)) (l : List Int) {x : List (Int × Int)} {r : List Int}, classR f acc l = some (x, r) → ∀ y ∈ r, y ∈ l
  | 0, _, _, _, _, h => by cases h
  | f + 1, acc, l, x, r, h => by
    rw [classR] at h
    split at h
    · cases h
      exact tail_sub l
    · cases hp : pairR l with
      | none => rw [hp] at h; cases h
      | some y =>
        obtain ⟨p, s⟩ := y
        rw [hp] at h
        exact fun y hy => pairR_sub hp y (classR_sub f _ s h y hy)
theorem partR_sub {l : List Int} {p : Prt} {r : List Int} (h : partR l = some (p, r)) : (∀ c, p = .self c → c ∈ l) ∧ ∀ y ∈ r, y ∈ l := by
  unfold partR at h
  split at h
  · cases h
    exact ⟨fun c e => (by cases e), tail_sub l⟩
  split at h
  · cases h
    refine ⟨fun c e => (by cases e), ?_⟩
    split
    · exact fun y hy => tail_sub l y (tail_sub _ y hy)
    · exact tail_sub l
  split at h
  · cases hc : classR (l.length + 1) [] (if isR 33 l.tail = true then l.tail.tail else l.tail) with
    | none => rw [hc] at h; cases h
    | some z =>
      obtain ⟨x, s⟩ := z
      rw [hc] at h
      cases h
      refine ⟨fun c e => (by cases e), fun y hy => ?_⟩
      have := classR_sub _ _ _ hc y hy
      split at this
      · exact tail_sub l y (tail_sub _ y this)
      · exact tail_sub l y this
  · cases hp : plainR l with
    | none => rw [hp] at h; cases h
    | some z =>
      obtain ⟨c, s⟩ := z
      obtain ⟨h1, h2⟩ := plainR_sub hp
      rw [hp] at h
      cases h
      exact ⟨fun c' e => by cases e; exact h1, h2⟩
theorem globR_self : ∀ (f : Nat) (l : List Int) (ps : List Prt), globR f l = some ps → ∀ c, Prt.self c ∈ ps → c ∈ l
  | 0, _, _, h => by cases h
  | f + 1, l, ps, h => by
    rw [globR] at h
    split at h
    · cases h
      intro c hc; cases hc
    · cases hp : partR l with
      | none => rw [hp] at h; cases h
      | some z =>
        obtain ⟨p, r⟩ := z
        obtain ⟨h1, h2⟩ := partR_sub hp
        rw [hp] at h
        cases hg : globR f r with
        | none => simp [hg] at h
        | some qs =>
          simp [hg] at h
          subst h
          intro c hc
          rcases List.mem_cons.1 hc with e | hc
          · exact h1 c e.symm
          · exact h2 c (globR_self f r qs hg c hc)
theorem runesD_range : ∀ (f : Nat) (l : List UInt8), ∀ c ∈ runesD f l, 0 ≤ c ∧ c ≤ 1114111
  | 0, l, c, h => by cases h
  | f + 1, l, c, h => by
    rw [runesD] at h
    split at h
    · cases h
    · rcases List.mem_cons.1 h with e | h
      · have := Lib.decodeL_rune l
        omega
      · exact runesD_range f _ c h
theorem globP_self {s : List UInt8} {ps : List Prt} (h : globP s = some ps) : ∀ c, Prt.self c ∈ ps → 0 ≤ c ∧ c ≤ 1114111 := by
  intro c hc
  unfold globP at h
  split at h
  · cases h
  · have := globR_self _ _ _ h c hc
    rw [runesG_D] at this
    exact runesD_range _ _ c this
theorem head_match : ∀ (ps : List Prt) (f g : Nat) (l : List UInt8), l.length ≤ f → l.length ≤ g → Lib.validGoD g l = true → matchP ps (runesD f l) = true → headB ps <+: l ∧ (headAll ps = true → l = headB ps)
  | [], f, g, l, hf, hg, hv, hm => by
    refine ⟨List.nil_prefix, fun _ => ?_⟩
    rw [matchP] at hm
    cases f with
    | zero => exact List.eq_nil_of_length_eq_zero (by omega)
    | succ f =>
      rw [runesD] at hm
      split at hm
      · assumption
      · cases hm
  | .self c :: ps, f, g, l, hf, hg, hv, hm => by
    cases f with
    | zero => simp [runesD, matchP, isStar] at hm
    | succ f =>
      rw [runesD] at hm
      by_cases hne : l = []
      · rw [if_pos hne] at hm
        simp [matchP, isStar] at hm
      · rw [if_neg hne] at hm
        have hl : 1 ≤ l.length := by cases l with
          | nil => exact absurd rfl hne
          | cons a t => simp
        obtain ⟨g, rfl⟩ : ∃ g', g = g' + 1 := ⟨g - 1, by omega⟩
        rw [Lib.validGoD, if_neg hne] at hv
        by_cases hb : (Lib.decodeL l).1 = 65533 ∧ (Lib.decodeL l).2 = 1
        · rw [if_pos hb] at hv; cases hv
        rw [if_neg hb] at hv
        rw [matchP] at hm
        simp [isStar, fitP] at hm
        obtain ⟨e, hm⟩ := hm
        have hw := Lib.decodeL_width l
        obtain ⟨h1, h2⟩ := head_match ps f g (l.drop (Lib.decodeL l).2) (by rw [List.length_drop]; omega) (by rw [List.length_drop]; omega) hv hm
        have he := Lib.encode_decode l hne hb
        rw [← e] at he
        rw [headB, headAll, he]
        obtain ⟨t, ht⟩ := h1
        refine ⟨⟨t, ?_⟩, fun ha => ?_⟩
        · rw [List.append_assoc, ht, List.take_append_drop]
        · rw [← h2 ha, List.take_append_drop]
  | .one :: ps, f, g, l, hf, hg, hv, hm => ⟨List.nil_prefix, fun h => by cases h⟩
  | .stars d :: ps, f, g, l, hf, hg, hv, hm => ⟨List.nil_prefix, fun h => by cases h⟩
  | .cls no x :: ps, f, g, l, hf, hg, hv, hm => ⟨List.nil_prefix, fun h => by cases h⟩
theorem head_law (ps : List Prt) (l : List UInt8) (hv : Lib.validD l = true) (hm : matchP ps (runesG (str l)) = true) : headB ps <+: l ∧ (headAll ps = true → l = headB ps) := by
  rw [runesG_D, str_toList, str_size] at hm
  exact head_match ps l.length l.length l (Nat.le_refl _) (Nat.le_refl _) hv hm
end Go.Proofs.YtnnjcedlomfhoaaGreatDoor
