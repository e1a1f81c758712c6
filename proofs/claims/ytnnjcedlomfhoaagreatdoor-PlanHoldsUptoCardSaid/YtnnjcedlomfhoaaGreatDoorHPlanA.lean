/-
  Plans as values; contracts of plan.whole, plan.Cheaper.
-/
import Derived.Test.YtnnjcedlomfhoaaGreatDoorHA
import Derived.Test.YtnnjcedlomfhoaaGreatDoorHGlobE
namespace Go.Proofs.YtnnjcedlomfhoaaGreatDoor
open Go.RowKit
set_option linter.unusedVariables false
/-- A plan's value: where its spans lie, whether it is all, what it costs. -/
def planV (v : Value) (all : Bool) (c : Cost) : Value := .agg #[v, .bool all, .complex .f64 c.re c.im]
theorem run_store_complex (a : Addr) (re im : Nat) (m : Mode) (w : World) : (store a (.complex .f64 re im) m).run Tryz.prog w = stored Tryz.prog w a (.complex .f64 re im) m := run_store Tryz.prog w a _ m rfl
set_option maxRecDepth 100000 in
theorem whole_any (w : World) : Calls Tryz.prog 19 #[] w fun e w' => e = .returned (planV (.slice none 0 0) true cEach) ∧ Below w.heap.size w w' := by
  have hsc := run_store_complex
  go_enter Tryz.func19, Tryz.ntmps19
  go_wp2_with fail
  refine bodyPost_ret (v := planV (.slice none 0 0) true cEach) (by simp [results, Tryz.results19, go_sem, planV, cEach]) rfl ⟨rfl, ?_⟩
  exact (Below.refl _ _).alloc (Nat.le_refl _) _
set_option maxRecDepth 100000 in
theorem cheaper_any (w : World) (A : Option Addr) (n k : Nat) (a : Bool) (c : Cost) (B : Option Addr) (m d : Nat) (b : Bool) (e : Cost) :
    Calls Tryz.prog 9 #[planV (.slice A n k) a c, planV (.slice B m d) b e] w fun en w' => en = .returned (.bool (c.cheaper e)) ∧ Below w.heap.size w w' := by
  obtain ⟨r, hr⟩ : ∃ r, r = c.cheaper e := ⟨_, rfl⟩
  rw [← hr]
  unfold Cost.cheaper ordW at hr
  unfold planV
  by_cases h1 : (FloatKind.f64.format.order c.re e.re != some Ordering.eq) = true
  · have hf : Hid ((FloatKind.f64.format.order c.re e.re == some Ordering.lt) = r) := by
      rw [Hid, hr, if_pos (by simpa [bne] using h1)]
    clear hr
    go_enter Tryz.func9, Tryz.ntmps9
    go_wp2_with fail
    go_ret
    exact ⟨by rw [← hf.out]; first | done | rfl, ((Below.refl _ _).alloc (Nat.le_refl _) _).alloc (by simp) _⟩
  · have h2 : (FloatKind.f64.format.order c.re e.re != some Ordering.eq) = false := by simpa using h1
    have hf : Hid ((FloatKind.f64.format.order c.im e.im == some Ordering.lt) = r) := by
      rw [Hid, hr, if_neg (by simpa [bne] using h2)]
    clear hr h1
    go_enter Tryz.func9, Tryz.ntmps9
    go_wp2_with fail
    go_ret
    exact ⟨by rw [← hf.out]; first | done | rfl, ((Below.refl _ _).alloc (Nat.le_refl _) _).alloc (by simp) _⟩
end Go.Proofs.YtnnjcedlomfhoaaGreatDoor
