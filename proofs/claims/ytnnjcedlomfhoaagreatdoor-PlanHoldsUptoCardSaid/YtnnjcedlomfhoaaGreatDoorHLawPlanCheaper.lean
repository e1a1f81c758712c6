/-
  The walk of the law PlanCheaper.
-/
import Derived.Test.YtnnjcedlomfhoaaGreatDoorHPlanW
namespace Go.Proofs.YtnnjcedlomfhoaaGreatDoor
open Go.RowKit
set_option linter.unusedVariables false
theorem eq_nil (A : Option Addr) (n c : Nat) (w : World) : (binOp .eql 23 (.slice A n c) (.slice none 0 0)).run Tryz.prog w = .ok (.bool A.isNone) w := by
  simp only [binOp]
  simp [run_equal_slice_nil w _ _ A n c Tryz.underlying23]
/-- Three plans in blocks of their own. -/
def pcs (A : Option Addr) (n k : Nat) (p : PlanV) : Array Value := #[.slice A n k, .bool p.all, .complex .f64 p.cost.re p.cost.im]
structure P3 (w : World) (g : Nat) (c1 c2 c3 : Array Value) : Prop where
  b1 : Blk w g 28 c1
  b2 : Blk w (g + 1) 28 c2
  b3 : Blk w (g + 2) 28 c3
theorem P3.below {w w' : World} {g : Nat} {c1 c2 c3 : Array Value} (h : P3 w g c1 c2 c3) (hb : Below w.heap.size w w') : P3 w' g c1 c2 c3 := ⟨h.b1.below hb h.b1.lt, h.b2.below hb h.b2.lt, h.b3.below hb h.b3.lt⟩
theorem P3.cells {w : World} {g : Nat} {A1 A2 A3 : Option Addr} {n1 k1 n2 k2 n3 k3 : Nat} {p1 p2 p3 : PlanV} (h : P3 w g (pcs A1 n1 k1 p1) (pcs A2 n2 k2 p2) (pcs A3 n3 k3 p3)) :
    w.cell? ⟨g, 0, none⟩ = some (.slice A1 n1 k1) ∧ w.cell? ⟨g, 1, none⟩ = some (.bool p1.all) ∧ w.cell? ⟨g, 2, none⟩ = some (.complex .f64 p1.cost.re p1.cost.im) ∧
    w.cell? ⟨g + 1, 0, none⟩ = some (.slice A2 n2 k2) ∧ w.cell? ⟨g + 1, 1, none⟩ = some (.bool p2.all) ∧ w.cell? ⟨g + 1, 2, none⟩ = some (.complex .f64 p2.cost.re p2.cost.im) ∧
    w.cell? ⟨g + 2, 0, none⟩ = some (.slice A3 n3 k3) ∧ w.cell? ⟨g + 2, 1, none⟩ = some (.bool p3.all) ∧ w.cell? ⟨g + 2, 2, none⟩ = some (.complex .f64 p3.cost.re p3.cost.im) :=
  ⟨h.b1.cell 0, h.b1.cell 1, h.b1.cell 2, h.b2.cell 0, h.b2.cell 1, h.b2.cell 2, h.b3.cell 0, h.b3.cell 1, h.b3.cell 2⟩
end Go.Proofs.YtnnjcedlomfhoaaGreatDoor
