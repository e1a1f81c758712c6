/-
  The walk of the law PlanOrs.
-/
import Derived.Test.YtnnjcedlomfhoaaGreatDoorHLawPlanCheaper
namespace Go.Proofs.YtnnjcedlomfhoaaGreatDoor
open Go.RowKit
set_option linter.unusedVariables false
def shortS (s : SpanV) : Prop := s.from_.length ≤ 1000 ∧ s.to_.length ≤ 1000
def shortP (p : PlanV) : Prop := ∀ s ∈ p.spans, shortS s
theorem whole_short : shortP wholeP := fun s h => by simp [wholeP] at h
theorem aboveB_short (l : List UInt8) (h : l.length ≤ 1000) : (aboveB l).length ≤ 1000 := by
  have h1 : ∀ l : List UInt8, (aboveR l).length ≤ l.length := by
    intro l
    induction l with
    | nil => exact Nat.le_refl _
    | cons b r ih =>
      rw [aboveR]
      split
      · rw [List.length_cons]; omega
      · simp
  have := h1 l.reverse
  unfold aboveB
  rw [List.length_reverse] at this ⊢
  omega
theorem begins_short (b : List UInt8) (c : Cost) (h : b.length ≤ 1000) : shortP (beginsP b c) := fun s hs => by
  have e : s = ⟨0, b, aboveB b⟩ := by simpa [beginsP] using hs
  subst e
  exact ⟨h, aboveB_short b h⟩
theorem numbers_short (b f t : Int) (c : Cost) : shortP (numbersP b f t c) := fun s hs => by
  unfold numbersP at hs
  split at hs
  · simp at hs
  · simp only [List.mem_singleton] at hs
    subst hs
    refine ⟨by simp [numsB, numB], ?_⟩
    dsimp only
    split
    · simp [numsB, numB]
    · exact Nat.zero_le _
theorem compared_short (b o n : Int) : shortP (comparedP b o n) := by
  unfold comparedP
  split
  · exact numbers_short _ _ _ _
  split
  · exact numbers_short _ _ _ _
  split
  · exact numbers_short _ _ _ _
  split
  · exact numbers_short _ _ _ _
  split
  · exact numbers_short _ _ _ _
  · exact whole_short
theorem txt_short (l : List UInt8) : (l.flatMap txtF).length ≤ 2 * l.length := by
  induction l with
  | nil => simp
  | cons x l ih =>
    rw [List.flatMap_cons, List.length_append, List.length_cons]
    have : (txtF x).length ≤ 2 := by unfold txtF; split <;> simp
    omega
theorem named_short (x : Ask) (h : x.text.length ≤ 400) : shortP (namedP x) := by
  unfold namedP
  have h1 := txt_short x.text
  split
  · split
    · exact whole_short
    · rename_i ps hp
      have h2 : (headB ps).length ≤ 400 := by have := headB_len ps; have := globP_len hp; omega
      have h3 := txt_short (headB ps)
      split
      · exact begins_short _ _ (by unfold textB; rw [List.length_append]; simp only [List.length_cons, List.length_nil]; omega)
      · split
        · exact whole_short
        · exact begins_short _ _ (by omega)
  · split
    · exact begins_short _ _ (by unfold textB; rw [List.length_append]; simp only [List.length_cons, List.length_nil]; omega)
    · exact whole_short
theorem term_short (x : Ask) (h : x.text.length ≤ 400) : shortP (planTP x) := by
  unfold planTP
  split
  · exact named_short x h
  split
  · exact compared_short _ _ _
  split
  · exact compared_short _ _ _
  split
  · exact compared_short _ _ _
  · exact whole_short
theorem planQ_short : ∀ (q : Q) (p : Nat), (∀ a ∈ q.parts p, a.text.length ≤ 400) → shortP (planQ q)
  | .term a, p, h => term_short a (h a (by simp [Q.parts]))
  | .neg q, p, h => whole_short
  | .two k x y, p, h => by
    have h1 := planQ_short x p (fun a ha => h a (by rw [Q.parts]; exact List.mem_append_left _ ha))
    have h2 := planQ_short y (p + x.size) (fun a ha => h a (by rw [Q.parts]; exact List.mem_append_right _ (List.mem_append_left _ ha)))
    rw [planQ]
    unfold joinP
    split
    · split
      · exact h2
      · exact h1
    · split
      · exact whole_short
      · intro s hs
        rcases List.mem_append.1 hs with hs | hs
        · exact h1 s hs
        · exact h2 s hs
theorem formQ_short {l : List UInt8} {x : Q} (h : formQ l = some x) : ∀ a ∈ x.parts 0, a.text.length ≤ 400 := by
  obtain ⟨q, hq, -, -, rfl⟩ := formQ_some h
  exact lay_text q false 0 (textQ_ok hq)
end Go.Proofs.YtnnjcedlomfhoaaGreatDoor
