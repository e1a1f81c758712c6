/-
  An array of two ints that came in by value: opened, and shut again.
-/
import Derived.Test.YtnbfblikpoblgaaDoorRow
import Derived.OpenShut
import Derived.Laws.IdiomArrays
namespace Go.Proofs.YtnbfblikpoblgaaDoor
open Go.ChangeShapes Go.WideShapes Go.ChangeAt Go.RowKit
set_option linter.unusedVariables false
section
variable {H : Type} {enc : TypeId × Value → H} {P : Program} {w : World} {base : Nat} {spare : Nat → Bool} {held : Bool}
theorem list2 {α : Type} (l : List α) (h : (⟨l⟩ : Array α).size = 2) : ∃ a b, l = [a, b] := by
  match l, h with
  | [a, b], _ => exact ⟨a, b, rfl⟩
theorem open_two {t e : TypeId} {b0 : Nat} {r : Reach} {v : Value} {d : DataW H} {ps : List MemPlace} (ht : P.underlying t = some (.array 2 e)) (hce : P.cellsOf e = 1) (hct : P.cellsOf t = 2) (he : P.underlying e = some (.int .i64))
    (hv : Value.okWide P w r b0 t v) (hd : DataW.Trod enc P w base spare held t v d ps) :
    ∃ x0 x1, v = .agg #[.int .i64 x0, .int .i64 x1] ∧ d = .agg [.lit (.int .i64 x0), .lit (.int .i64 x1)] ∧ ps = [] ∧ (Lit.int .i64 x0).wf = true ∧ (Lit.int .i64 x1).wf = true := by
  obtain ⟨cs, rfl, hsz, _⟩ : ∃ cs, v = .agg cs ∧ cs.size = P.cellsOf t ∧ Row.okWide P w r b0 t cs := by simpa [Value.okWide, ht] using hv
  rw [hct] at hsz
  obtain ⟨l⟩ := cs
  obtain ⟨c0, c1, rfl⟩ := list2 l hsz
  obtain ⟨fuel, hf⟩ := hd
  cases fuel with
  | zero => simp [DataW.trod] at hf
  | succ n =>
    unfold DataW.trod at hf
    rw [ht] at hf
    have r2 : List.range 2 = [0, 1] := rfl
    simp [r2, hce, Value.cells] at hf
    obtain ⟨_, hf⟩ := hf
    cases h0 : DataW.trod enc P w base spare held n e [c0] with
    | none => simp [h0] at hf
    | some y0 =>
      cases h1 : DataW.trod enc P w base spare held n e [c1] with
      | none => simp [h0, h1] at hf
      | some y1 =>
        simp [h0, h1] at hf
        obtain ⟨x0, e0, rfl, w0⟩ := DataW.trod_int he h0
        obtain ⟨x1, e1, rfl, w1⟩ := DataW.trod_int he h1
        simp at e0 e1
        subst e0 e1
        obtain ⟨rfl, rfl⟩ := hf
        exact ⟨x0, x1, rfl, rfl, rfl, w0, w1⟩
theorem shut_two {t e : TypeId} {x0 x1 : Int} (ht : P.underlying t = some (.array 2 e)) (hce : P.cellsOf e = 1) (hct : P.cellsOf t = 2) (he : P.underlying e = some (.int .i64))
    (w0 : (Lit.int .i64 x0).wf = true) (w1 : (Lit.int .i64 x1).wf = true) :
    DataW.Trod enc P w base spare held t (.agg #[.int .i64 x0, .int .i64 x1]) (.agg [.lit (.int .i64 x0), .lit (.int .i64 x1)]) [] :=
  ⟨2, by simp [DataW.trod, Value.cells, ht, he, hct, hce, w0, w1, show List.range 2 = [0, 1] from rfl]⟩
end
end Go.Proofs.YtnbfblikpoblgaaDoor
