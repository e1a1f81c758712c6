/-
  The plan of a question in normal form, part by part. No walk.
-/
import Derived.Test.YtnnjcedlomfhoaaGreatDoorHPlanH
namespace Go.Proofs.YtnnjcedlomfhoaaGreatDoor
open Go.RowKit
set_option linter.unusedVariables false
def planQ : Q → PlanV
  | .term a => planTP a
  | .neg _ => wholeP
  | .two k x y => joinP k (planQ x) (planQ y)
def planAt (ps : List PlanV) (k : Int) : PlanV := ps.getD k.toNat wholeP
def plNext (ps : List PlanV) (x : Ask) : PlanV := if jointB x = true then joinP x.kind (planAt ps x.a) (planAt ps x.b) else planTP x
def pls (ps : List PlanV) : List Ask → List PlanV
  | [] => ps
  | x :: l => pls (ps ++ [plNext ps x]) l
theorem pls_append (l r : List Ask) : ∀ ps, pls ps (l ++ r) = pls (pls ps l) r := by
  induction l with
  | nil => intro ps; rfl
  | cons x l ih => intro ps; exact ih _
theorem pls_len (l : List Ask) : ∀ ps, (pls ps l).length = ps.length + l.length := by
  induction l with
  | nil => intro ps; rfl
  | cons x l ih => intro ps; rw [pls, ih]; simp; omega
theorem pls_next (l : List Ask) (k : Nat) (h : k < l.length) : pls [] (l.take (k + 1)) = pls [] (l.take k) ++ [plNext (pls [] (l.take k)) l[k]] := by
  rw [List.take_succ_eq_append_getElem h, pls_append]; rfl
theorem pls_prefix (l : List Ask) : ∀ ps, ∃ es, pls ps l = ps ++ es := by
  induction l with
  | nil => intro ps; exact ⟨[], by simp [pls]⟩
  | cons x l ih =>
    intro ps
    obtain ⟨es, h⟩ := ih (ps ++ [plNext ps x])
    exact ⟨plNext ps x :: es, by rw [pls, h, List.append_assoc]; rfl⟩
theorem planAt_in (ps : List PlanV) (k : Nat) (z : Int) (hz : z = (k : Int)) (h : k < ps.length) : planAt ps z = ps[k] := by
  subst hz
  unfold planAt
  rw [Int.toNat_natCast, List.getD_eq_getElem?_getD, List.getElem?_eq_getElem h]; rfl
/-- A plan of no more than so many spans, whose cost is a number. -/
def fineP (n : Nat) (p : PlanV) : Prop := p.spans.length ≤ n ∧ p.cost.ok
theorem fineP.mono {n m : Nat} {p : PlanV} (h : fineP n p) (hm : n ≤ m) : fineP m p := ⟨by have := h.1; omega, h.2⟩
theorem whole_fine : fineP 1 wholeP := ⟨by simp [wholeP], cEach_ok⟩
theorem begins_fine (b : List UInt8) (c : Cost) (h : c.ok) : fineP 1 (beginsP b c) := ⟨by simp [beginsP], h⟩
theorem compared_fine (b o n : Int) : fineP 1 (comparedP b o n) := ⟨(comparedP_ok b o n).2, (comparedP_ok b o n).1⟩
theorem join_fine {k : Int} {n m : Nat} {p q : PlanV} (hp : fineP n p) (hq : fineP m q) : fineP (n + m + 1) (joinP k p q) := by
  unfold joinP
  split
  · split
    · exact hq.mono (by omega)
    · exact hp.mono (by omega)
  · split
    · exact whole_fine.mono (by omega)
    · have := hp.1
      have := hq.1
      exact ⟨by simp; omega, (Cost.plus_ok hp.2 hq.2).1⟩
theorem named_fine (x : Ask) : fineP 1 (namedP x) := by
  unfold namedP
  split
  · split
    · exact whole_fine
    · split
      · exact begins_fine _ _ cOne_ok
      · split
        · exact whole_fine
        · exact begins_fine _ _ cSome_ok
  · split
    · exact begins_fine _ _ cOne_ok
    · exact whole_fine
theorem term_fine (x : Ask) : fineP 1 (planTP x) := by
  unfold planTP
  split
  · exact named_fine x
  split
  · exact compared_fine _ _ _
  split
  · exact compared_fine _ _ _
  split
  · exact compared_fine _ _ _
  · exact whole_fine
theorem planQ_fine : ∀ q : Q, fineP q.size (planQ q)
  | .term a => term_fine a
  | .neg q => whole_fine.mono (Q.size_pos _)
  | .two k x y => join_fine (planQ_fine x) (planQ_fine y)
theorem pls_tree : ∀ (q : Q) (ps : List PlanV), flatQ q → ∃ es, pls ps (q.parts ps.length) = ps ++ es ∧ es.length = q.size ∧ es.getLast? = some (planQ q) ∧ ∀ p ∈ es, fineP q.size p
  | .term a, ps, h => by
    refine ⟨[planTP a], ?_, rfl, rfl, fun p hp => ?_⟩
    · have hj : jointB a = false := h
      show pls ps [a] = _
      rw [pls, pls, plNext, if_neg (by rw [hj]; decide)]
    · rw [List.mem_singleton] at hp
      subst hp
      exact term_fine a
  | .neg q, ps, h => h.elim
  | .two k x y, ps, h => by
    obtain ⟨es, h1, h2, h3, h4⟩ := pls_tree x ps h.2.1
    obtain ⟨fs, g1, g2, g3, g4⟩ := pls_tree y (ps ++ es) h.2.2
    refine ⟨es ++ fs ++ [planQ (.two k x y)], ?_, by simp [Q.size, h2, g2]; omega, by simp, ?_⟩
    · have hx := x.size_pos
      have hy := y.size_pos
      rw [List.length_append, h2] at g1
      rw [Q.parts, pls_append, h1, pls_append, g1, pls, pls, plNext, if_pos (by rcases h.1 with e | e <;> simp [jointB, e])]
      dsimp only
      have ex : planAt (ps ++ es ++ fs) ((ps.length : Int) + (x.size : Int) - 1) = planQ x := by
        rw [planAt_in _ (ps.length + (x.size - 1)) _ (by omega) (by simp; omega)]
        rw [List.getLast?_eq_getElem?, h2, List.getElem?_eq_getElem (by omega)] at h3
        rw [List.getElem_append_left (by simp; omega), List.getElem_append_right (by omega)]
        have : ps.length + (x.size - 1) - ps.length = x.size - 1 := by omega
        simp only [this]
        exact Option.some.inj h3
      have ey : planAt (ps ++ es ++ fs) ((ps.length : Int) + (x.size : Int) + (y.size : Int) - 1) = planQ y := by
        rw [planAt_in _ (ps.length + x.size + (y.size - 1)) _ (by omega) (by simp; omega)]
        rw [List.getLast?_eq_getElem?, g2, List.getElem?_eq_getElem (by omega)] at g3
        rw [List.getElem_append_right (by simp; omega)]
        have : ps.length + x.size + (y.size - 1) - (ps ++ es).length = y.size - 1 := by simp; omega
        simp only [this]
        exact Option.some.inj g3
      rw [ex, ey, planQ]
      simp [List.append_assoc]
    · intro p hp
      have hs : (Q.two k x y).size = x.size + y.size + 1 := rfl
      rw [List.mem_append, List.mem_append, List.mem_singleton] at hp
      rcases hp with (hp | hp) | rfl
      · exact (h4 p hp).mono (by omega)
      · exact (g4 p hp).mono (by omega)
      · exact planQ_fine _
theorem pls_last (q : Q) (h : flatQ q) : (pls [] (q.parts 0)).length = q.size ∧ (pls [] (q.parts 0)).getD (q.size - 1) wholeP = planQ q ∧ ∀ p ∈ pls [] (q.parts 0), fineP q.size p := by
  obtain ⟨es, h1, h2, h3, h4⟩ := pls_tree q [] h
  rw [show q.parts 0 = q.parts ([] : List PlanV).length from rfl, h1, List.nil_append]
  refine ⟨h2, ?_, h4⟩
  rw [List.getD_eq_getElem?_getD]
  rw [List.getLast?_eq_getElem?, h2] at h3
  rw [h3]; rfl
theorem pls_take_fine (q : Q) (h : flatQ q) (k : Nat) : ∀ p ∈ pls [] ((q.parts 0).take k), fineP q.size p := by
  intro p hp
  obtain ⟨es, he⟩ := pls_prefix ((q.parts 0).drop k) (pls [] ((q.parts 0).take k))
  rw [← pls_append, List.take_append_drop] at he
  exact (pls_last q h).2.2 p (by rw [he]; exact List.mem_append_left _ hp)
end Go.Proofs.YtnnjcedlomfhoaaGreatDoor
