/-
  The example of layer 26 holds: the contract of inquestlaw26.wakes.
-/
import Derived.Test.YtnnjcedlomfhoaaGreatDoorHPlanN
namespace Go.Proofs.YtnnjcedlomfhoaaGreatDoor
open Go.RowKit
set_option linter.unusedVariables false
def ex26 : List UInt8 := [110, 97, 109, 101, 32, 61, 32, 34, 97, 34, 32, 97, 110, 100, 32, 115, 105, 122, 101, 32, 62, 32, 53]
def ex26Q : Q := .two 2 (.term ⟨4, 1, -1, -1, 0, [97], true⟩) (.term ⟨5, 5, -1, -1, 5, [], false⟩)
theorem ex26_T : textQ ex26 = some ex26Q := by kernel_rfl
theorem ex26_E : parsedE ex26 = 0 := by kernel_rfl
theorem ex26_F : formQ ex26 = some ex26Q := by
  unfold formQ
  rw [ex26_T]
  dsimp only
  have h : errsL globG dosP (ex26Q.parts 0) = 0 := rfl
  rw [if_pos ⟨ex26_E, h⟩]
  rfl
theorem ex26_P : planQ ex26Q = beginsP (textB [97]) cOne := by
  have h1 : planTP ⟨4, 1, -1, -1, 0, [97], true⟩ = beginsP (textB [97]) cOne := rfl
  have h2 : (planTP ⟨5, 5, -1, -1, 5, [], false⟩).cost = cLots := by
    simp only [planTP, comparedP, numbersP]
    rfl
  have h3 : cLots.cheaper cOne = false := by kernel_rfl
  show joinP 2 (planTP ⟨4, 1, -1, -1, 0, [97], true⟩) (planTP ⟨5, 5, -1, -1, 5, [], false⟩) = _
  rw [joinP, if_pos rfl, h1]
  show (if (planTP _).cost.cheaper cOne = true then _ else _) = _
  rw [h2, h3, if_neg Bool.false_ne_true]
theorem plan_box (w : World) (v : Value) (b : Bool) (c : Cost) : Blk (w.alloc (.cells #[v, .bool b, .complex .f64 c.re c.im] 28)) w.heap.size 28 #[v, .bool b, .complex .f64 c.re c.im] := Blk.new w 28 _
set_option maxRecDepth 100000 in
set_option maxHeartbeats 4000000 in
theorem wakes26_any (w : World) (hA : Tabs26 w) : Calls Tryz.prog 6 #[] w fun e w' => e = .returned (.bool true) ∧ Below w.heap.size w w' := by
  have hA' := hide hA
  have hsc := run_store_complex
  clear hA
  go_enter Tryz.func6, Tryz.ntmps6
  go_wp2_with fail
  refine (form_any w hA'.out.2.1 hA'.out.2.2 ⟨#[110, 97, 109, 101, 32, 61, 32, 34, 97, 34, 32, 97, 110, 100, 32, 115, 105, 122, 101, 32, 62, 32, 53]⟩ (by decide)).mono ?_
  rintro e w1 ⟨A0, n0, c, rfl, h1, hb1⟩
  rw [show (ByteArray.mk #[110, 97, 109, 101, 32, 61, 32, 34, 97, 34, 32, 97, 110, 100, 32, 115, 105, 122, 101, 32, 62, 32, 53]).data.toList = ex26 from rfl, ex26_F] at h1
  rcases h1 with ⟨h1, -⟩ | ⟨q, ad, h1, rfl, rfl, hR⟩
  · cases h1
  cases h1
  have hM1 := hA'.out.1.below hb1
  have hU1 := hA'.out.2.1.below hb1
  have hb1' := hide hb1
  have hP := hide (pnew_any w1 (some ad) 3 c ex26Q hR ⟨.inr rfl, rfl, rfl⟩ (by decide) (by intro a ha; rcases ha with _ | ⟨_, _ | ⟨_, _ | ⟨_, h⟩⟩⟩ <;> first | decide | cases h) hM1 hU1)
  clear hb1 hR hM1 hU1 hA'
  rw [show ex26Q.size = 3 from rfl]
  go_wp2_with fail
  refine hP.out.mono ?_
  rintro e w2 ⟨⟨A, n, k, rfl, hnk, hS⟩, hb2⟩
  rw [ex26_P] at hS ⊢
  have hn : n = 1 := hS.1
  subst hn
  obtain ⟨bd, fA, fn, fc, tA, tn, tc, rfl, hbl, d0, d1, d2, -, -⟩ := hS.elem (k := 0) (by decide) (by decide)
  have hX := plan_box w2 (.slice (some bd) 1 k) false cOne
  have hbX := (Below.refl w2.heap.size w2).alloc (Nat.le_refl _) (.cells #[.slice (some bd) 1 k, .bool false, .complex .f64 cOne.re cOne.im] 28)
  have hbw := hb1'.out.trans ((hb2.trans (hbX.mono hb2.size)).mono hb1'.out.size)
  rw [show bd.add (0 * 3) = bd from by simp [Addr.add]] at hbl d0 d1 d2
  have e0 := (hbX.cell (p := bd) hbl).trans d0
  replace hbw := hide hbw
  rw [show (beginsP (textB [97]) cOne).all = false from rfl, show (beginsP (textB [97]) cOne).cost = cOne from rfl]
  rw [cOne] at hX hbX hbw e0 ⊢
  clear hS d0 d1 d2 hP hb1' hb2 hbX
  go_upto_region 2 with (fail)
  obtain ⟨w3, hw3⟩ : ∃ y, y = w2.alloc (.cells #[.slice (some bd) 1 k, .bool false, .complex .f64 4607182418800017408 4607182418800017408] 28) := ⟨_, rfl⟩
  rw [← hw3] at hX hbw e0 ⊢
  clear hw3
  have x0 : w3.cell? ⟨w2.heap.size, 0, none⟩ = some (.slice (some bd) 1 k) := hX.cell 0
  have x1 : w3.cell? ⟨w2.heap.size, 1, none⟩ = some (.bool false) := hX.cell 1
  have x2 : w3.cell? ⟨w2.heap.size, 2, none⟩ = some (.complex .f64 4607182418800017408 4607182418800017408) := hX.cell 2
  replace e0 : w3.cell? bd = some (.int .i64 0) := e0
  clear hX
  go_wp2_with fail
  go_ret
  exact ⟨rfl, hbw.out⟩
end Go.Proofs.YtnnjcedlomfhoaaGreatDoor
