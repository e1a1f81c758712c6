/-
  Contracts of plan.compared, plan.begins.
-/
import Derived.Test.YtnnjcedlomfhoaaGreatDoorHPlanB
namespace Go.Proofs.YtnnjcedlomfhoaaGreatDoor
open Go.RowKit
set_option linter.unusedVariables false
theorem plan_back {w w2 : World} {g : Nat} {A : Option Addr} {n : Nat} {l : List SpanV} {cs : Array Value} (hB : Blk w2 g 28 cs) (hS : SpansAt w2 A n l) (hb : Below w.heap.size w w2) (hg : w.heap.size ≤ g) (u0 u1 u2 : Value) :
    SpansAt (((w2.setCell ⟨g, 0, none⟩ u0).setCell ⟨g, 1, none⟩ u1).setCell ⟨g, 2, none⟩ u2) A n l ∧
    Below w.heap.size w (((w2.setCell ⟨g, 0, none⟩ u0).setCell ⟨g, 1, none⟩ u1).setCell ⟨g, 2, none⟩ u2) := by
  have hB1 := hB.set_ 0 u0
  have hB2 := hB1.set_ 1 u1
  exact ⟨((hS.set_ (i := 0) hB (by decide) (by decide) u0).set_ (i := 1) hB1 (by decide) (by decide) u1).set_ (i := 2) hB2 (by decide) (by decide) u2,
    below_set (below_set (below_set hb hg (i := 0) u0) hg (i := 1) u1) hg (i := 2) u2⟩
theorem whole_ret (w : World) : Calls Tryz.prog 19 #[] w (PlanRet w wholeP) := by
  refine (whole_any w).mono ?_
  rintro e w' ⟨rfl, hb⟩
  exact ⟨⟨none, 0, 0, rfl, Nat.le_refl _, SpansAt.nil _⟩, hb⟩
set_option maxRecDepth 100000 in
set_option maxHeartbeats 4000000 in
theorem compared_any (w : World) (by_ op n : Int) :
    Calls Tryz.prog 39 #[.int .i64 by_, .int .i64 op, .int .i64 n] w (PlanRet w (comparedP by_ op n)) := by
  obtain ⟨p, hp⟩ : ∃ p, p = comparedP by_ op n := ⟨_, rfl⟩
  rw [← hp]
  unfold comparedP at hp
  have hsc := run_store_complex
  obtain ⟨N, hN⟩ : ∃ N, N = min (max n (-1)) 281474976710656 := ⟨_, rfl⟩
  have hN1 : -1 ≤ N ∧ N ≤ 281474976710656 := by omega
  rw [← hN] at hp
  replace hp := hide hp
  replace hN := hide hN
  have hB0 := Blk.new w 28 #[.slice none 0 0, .bool false, .complex .f64 0 0]
  have hb0 := (Below.refl w.heap.size w).alloc (Nat.le_refl _) (.cells #[.slice none 0 0, .bool false, .complex .f64 0 0] 28)
  go_enter Tryz.func39, Tryz.ntmps39
  go_upto_region 2 with (fail)
  rw [← hN.out]
  obtain ⟨w1, hw1⟩ : ∃ y, y = w.alloc (.cells #[.slice none 0 0, .bool false, .complex .f64 0 0] 28) := ⟨_, rfl⟩
  rw [← hw1] at hB0 hb0 ⊢
  clear hw1
  have hw1 : IntKind.i64.wrap (N - 1) = N - 1 := IntWalk.i64_in _ (by omega)
  have hw2 : IntKind.i64.wrap (N + 1) = N + 1 := IntWalk.i64_in _ (by omega)
  by_cases h1 : op = 1
  · have hpe : Hid (p = numbersP by_ N N cSum) := by rw [Hid, hp.out, if_pos h1]
    have hC := hide (numbers_any w1 by_ N N cSum (by omega) (by omega))
    clear hp
    go_wp2_with fail
    refine hC.out.mono ?_
    rintro e w2 ⟨⟨A, n2, k2, rfl, hnk, hS⟩, hb⟩
    have hB2 := hB0.below hb hB0.lt
    have hbw := hb0.trans (hb.mono hb0.size)
    obtain ⟨q, hq⟩ : ∃ q, q = numbersP by_ N N cSum := ⟨_, rfl⟩
    rw [← hq] at hS hpe ⊢
    obtain ⟨hS2, hbF⟩ := plan_back hB2 hS hbw (Nat.le_refl _) (.slice A n2 k2) (.bool q.all) (.complex .f64 q.cost.re q.cost.im)
    have r0 : w2.cell? ⟨w.heap.size, 0, none⟩ = some (.slice none 0 0) := hB2.cell 0
    have r1 : w2.cell? ⟨w.heap.size, 1, none⟩ = some (.bool false) := hB2.cell 1
    have r2 : w2.cell? ⟨w.heap.size, 2, none⟩ = some (.complex .f64 0 0) := hB2.cell 2
    have f0 := hB2.frozen 0
    have f1 := hB2.frozen 1
    have f2 := hB2.frozen 2
    replace hS2 := hide hS2
    replace hbF := hide hbF
    replace hq := hide hq
    clear hB2 hS hbw hb hB0 hb0 hC
    go_wp2_with fail
    refine bodyPost_ret (v := .agg #[.slice A n2 k2, .bool q.all, .complex .f64 q.cost.re q.cost.im]) (by simp [results, Tryz.results39, go_sem, r0, r1, r2]) rfl ?_
    rw [hpe.out]
    exact ⟨⟨_, _, _, rfl, hnk, hS2.out⟩, hbF.out⟩
  by_cases h3 : op = 3
  · have hpe : Hid (p = numbersP by_ 0 (N - 1) cLots) := by rw [Hid, hp.out, if_neg h1, if_pos h3]
    have hC := hide (numbers_any w1 by_ 0 (N - 1) cLots (by omega) (by omega))
    clear hp
    go_wp2_with fail
    refine hC.out.mono ?_
    rintro e w2 ⟨⟨A, n2, k2, rfl, hnk, hS⟩, hb⟩
    have hB2 := hB0.below hb hB0.lt
    have hbw := hb0.trans (hb.mono hb0.size)
    obtain ⟨q, hq⟩ : ∃ q, q = numbersP by_ 0 (N - 1) cLots := ⟨_, rfl⟩
    rw [← hq] at hS hpe ⊢
    obtain ⟨hS2, hbF⟩ := plan_back hB2 hS hbw (Nat.le_refl _) (.slice A n2 k2) (.bool q.all) (.complex .f64 q.cost.re q.cost.im)
    have r0 : w2.cell? ⟨w.heap.size, 0, none⟩ = some (.slice none 0 0) := hB2.cell 0
    have r1 : w2.cell? ⟨w.heap.size, 1, none⟩ = some (.bool false) := hB2.cell 1
    have r2 : w2.cell? ⟨w.heap.size, 2, none⟩ = some (.complex .f64 0 0) := hB2.cell 2
    have f0 := hB2.frozen 0
    have f1 := hB2.frozen 1
    have f2 := hB2.frozen 2
    replace hS2 := hide hS2
    replace hbF := hide hbF
    replace hq := hide hq
    clear hB2 hS hbw hb hB0 hb0 hC
    go_wp2_with fail
    refine bodyPost_ret (v := .agg #[.slice A n2 k2, .bool q.all, .complex .f64 q.cost.re q.cost.im]) (by simp [results, Tryz.results39, go_sem, r0, r1, r2]) rfl ?_
    rw [hpe.out]
    exact ⟨⟨_, _, _, rfl, hnk, hS2.out⟩, hbF.out⟩
  by_cases h4 : op = 4
  · have hpe : Hid (p = numbersP by_ 0 N cLots) := by rw [Hid, hp.out, if_neg h1, if_neg h3, if_pos h4]
    have hC := hide (numbers_any w1 by_ 0 N cLots (by omega) (by omega))
    clear hp
    go_wp2_with fail
    refine hC.out.mono ?_
    rintro e w2 ⟨⟨A, n2, k2, rfl, hnk, hS⟩, hb⟩
    have hB2 := hB0.below hb hB0.lt
    have hbw := hb0.trans (hb.mono hb0.size)
    obtain ⟨q, hq⟩ : ∃ q, q = numbersP by_ 0 N cLots := ⟨_, rfl⟩
    rw [← hq] at hS hpe ⊢
    obtain ⟨hS2, hbF⟩ := plan_back hB2 hS hbw (Nat.le_refl _) (.slice A n2 k2) (.bool q.all) (.complex .f64 q.cost.re q.cost.im)
    have r0 : w2.cell? ⟨w.heap.size, 0, none⟩ = some (.slice none 0 0) := hB2.cell 0
    have r1 : w2.cell? ⟨w.heap.size, 1, none⟩ = some (.bool false) := hB2.cell 1
    have r2 : w2.cell? ⟨w.heap.size, 2, none⟩ = some (.complex .f64 0 0) := hB2.cell 2
    have f0 := hB2.frozen 0
    have f1 := hB2.frozen 1
    have f2 := hB2.frozen 2
    replace hS2 := hide hS2
    replace hbF := hide hbF
    replace hq := hide hq
    clear hB2 hS hbw hb hB0 hb0 hC
    go_wp2_with fail
    refine bodyPost_ret (v := .agg #[.slice A n2 k2, .bool q.all, .complex .f64 q.cost.re q.cost.im]) (by simp [results, Tryz.results39, go_sem, r0, r1, r2]) rfl ?_
    rw [hpe.out]
    exact ⟨⟨_, _, _, rfl, hnk, hS2.out⟩, hbF.out⟩
  by_cases h5 : op = 5
  · have hpe : Hid (p = numbersP by_ (N + 1) 281474976710655 cLots) := by rw [Hid, hp.out, if_neg h1, if_neg h3, if_neg h4, if_pos h5]
    have hC := hide (numbers_any w1 by_ (N + 1) 281474976710655 cLots (by omega) (by omega))
    clear hp
    go_wp2_with fail
    refine hC.out.mono ?_
    rintro e w2 ⟨⟨A, n2, k2, rfl, hnk, hS⟩, hb⟩
    have hB2 := hB0.below hb hB0.lt
    have hbw := hb0.trans (hb.mono hb0.size)
    obtain ⟨q, hq⟩ : ∃ q, q = numbersP by_ (N + 1) 281474976710655 cLots := ⟨_, rfl⟩
    rw [← hq] at hS hpe ⊢
    obtain ⟨hS2, hbF⟩ := plan_back hB2 hS hbw (Nat.le_refl _) (.slice A n2 k2) (.bool q.all) (.complex .f64 q.cost.re q.cost.im)
    have r0 : w2.cell? ⟨w.heap.size, 0, none⟩ = some (.slice none 0 0) := hB2.cell 0
    have r1 : w2.cell? ⟨w.heap.size, 1, none⟩ = some (.bool false) := hB2.cell 1
    have r2 : w2.cell? ⟨w.heap.size, 2, none⟩ = some (.complex .f64 0 0) := hB2.cell 2
    have f0 := hB2.frozen 0
    have f1 := hB2.frozen 1
    have f2 := hB2.frozen 2
    replace hS2 := hide hS2
    replace hbF := hide hbF
    replace hq := hide hq
    clear hB2 hS hbw hb hB0 hb0 hC
    go_wp2_with fail
    refine bodyPost_ret (v := .agg #[.slice A n2 k2, .bool q.all, .complex .f64 q.cost.re q.cost.im]) (by simp [results, Tryz.results39, go_sem, r0, r1, r2]) rfl ?_
    rw [hpe.out]
    exact ⟨⟨_, _, _, rfl, hnk, hS2.out⟩, hbF.out⟩
  by_cases h6 : op = 6
  · have hpe : Hid (p = numbersP by_ N 281474976710655 cLots) := by rw [Hid, hp.out, if_neg h1, if_neg h3, if_neg h4, if_neg h5, if_pos h6]
    have hC := hide (numbers_any w1 by_ N 281474976710655 cLots (by omega) (by omega))
    clear hp
    go_wp2_with fail
    refine hC.out.mono ?_
    rintro e w2 ⟨⟨A, n2, k2, rfl, hnk, hS⟩, hb⟩
    have hB2 := hB0.below hb hB0.lt
    have hbw := hb0.trans (hb.mono hb0.size)
    obtain ⟨q, hq⟩ : ∃ q, q = numbersP by_ N 281474976710655 cLots := ⟨_, rfl⟩
    rw [← hq] at hS hpe ⊢
    obtain ⟨hS2, hbF⟩ := plan_back hB2 hS hbw (Nat.le_refl _) (.slice A n2 k2) (.bool q.all) (.complex .f64 q.cost.re q.cost.im)
    have r0 : w2.cell? ⟨w.heap.size, 0, none⟩ = some (.slice none 0 0) := hB2.cell 0
    have r1 : w2.cell? ⟨w.heap.size, 1, none⟩ = some (.bool false) := hB2.cell 1
    have r2 : w2.cell? ⟨w.heap.size, 2, none⟩ = some (.complex .f64 0 0) := hB2.cell 2
    have f0 := hB2.frozen 0
    have f1 := hB2.frozen 1
    have f2 := hB2.frozen 2
    replace hS2 := hide hS2
    replace hbF := hide hbF
    replace hq := hide hq
    clear hB2 hS hbw hb hB0 hb0 hC
    go_wp2_with fail
    refine bodyPost_ret (v := .agg #[.slice A n2 k2, .bool q.all, .complex .f64 q.cost.re q.cost.im]) (by simp [results, Tryz.results39, go_sem, r0, r1, r2]) rfl ?_
    rw [hpe.out]
    exact ⟨⟨_, _, _, rfl, hnk, hS2.out⟩, hbF.out⟩
  · have hpe : Hid (p = wholeP) := by rw [Hid, hp.out, if_neg h1, if_neg h3, if_neg h4, if_neg h5, if_neg h6]
    have hC := hide (whole_ret w1)
    clear hp
    go_wp2_with fail
    refine hC.out.mono ?_
    rintro e w2 ⟨⟨A, n2, k2, rfl, hnk, hS⟩, hb⟩
    have hB2 := hB0.below hb hB0.lt
    have hbw := hb0.trans (hb.mono hb0.size)
    obtain ⟨q, hq⟩ : ∃ q, q = wholeP := ⟨_, rfl⟩
    rw [← hq] at hS hpe ⊢
    obtain ⟨hS2, hbF⟩ := plan_back hB2 hS hbw (Nat.le_refl _) (.slice A n2 k2) (.bool q.all) (.complex .f64 q.cost.re q.cost.im)
    have r0 : w2.cell? ⟨w.heap.size, 0, none⟩ = some (.slice none 0 0) := hB2.cell 0
    have r1 : w2.cell? ⟨w.heap.size, 1, none⟩ = some (.bool false) := hB2.cell 1
    have r2 : w2.cell? ⟨w.heap.size, 2, none⟩ = some (.complex .f64 0 0) := hB2.cell 2
    have f0 := hB2.frozen 0
    have f1 := hB2.frozen 1
    have f2 := hB2.frozen 2
    replace hS2 := hide hS2
    replace hbF := hide hbF
    replace hq := hide hq
    clear hB2 hS hbw hb hB0 hb0 hC
    go_wp2_with fail
    refine bodyPost_ret (v := .agg #[.slice A n2 k2, .bool q.all, .complex .f64 q.cost.re q.cost.im]) (by simp [results, Tryz.results39, go_sem, r0, r1, r2]) rfl ?_
    rw [hpe.out]
    exact ⟨⟨_, _, _, rfl, hnk, hS2.out⟩, hbF.out⟩
set_option maxRecDepth 100000 in
set_option maxHeartbeats 4000000 in
theorem begins_any (w : World) (A : Option Addr) (n k : Nat) (l : List UInt8) (c : Cost) (ha : RBT w A n l) (hn : n ≤ 100000) :
    Calls Tryz.prog 59 #[.slice A n k, .complex .f64 c.re c.im] w (PlanRet w (beginsP l c)) := by
  have hsc := run_store_complex
  have hB0 := Blk.new w 28 #[.slice none 0 0, .bool false, .complex .f64 0 0]
  have hb0 := (Below.refl w.heap.size w).alloc (Nat.le_refl _) (.cells #[.slice none 0 0, .bool false, .complex .f64 0 0] 28)
  have ha0 := hide (ha.below hb0)
  clear ha
  go_enter Tryz.func59, Tryz.ntmps59
  go_upto_region 1 with (fail)
  obtain ⟨w1, hw1⟩ : ∃ y, y = w.alloc (.cells #[.slice none 0 0, .bool false, .complex .f64 0 0] 28) := ⟨_, rfl⟩
  rw [← hw1] at hB0 hb0 ha0 ⊢
  clear hw1
  have hC := hide (above_any A n k l w1 ha0.out.1 hn)
  go_wp2_with fail
  refine hC.out.mono ?_
  rintro e w2 ⟨v2, rfl, ho, hb⟩
  have hB2 := hB0.below hb hB0.lt
  have hbw := hb0.trans (hb.mono hb0.size)
  have ha2 := ha0.out.below hb
  obtain ⟨A2, c2, rfl, hR2, hc2⟩ := ho.formT
  obtain ⟨T, hT⟩ : ∃ T, T = aboveB l := ⟨_, rfl⟩
  rw [← hT] at hR2 hc2 ⊢
  obtain ⟨n2, hn2⟩ : ∃ n, n = T.length := ⟨_, rfl⟩
  rw [← hn2] at hR2 hc2 ⊢
  have hpe : Hid (beginsP l c = ⟨[⟨0, l, T⟩], false, c⟩) := by rw [Hid, hT, beginsP]
  replace hT := hide hT
  replace hn2 := hide hn2
  obtain ⟨hS, hbF⟩ := plan_done ⟨0, l, T⟩ k c2 hB2 ha2 hR2 hbw (Nat.le_refl _) (.slice (some ⟨w2.heap.size, 0, none⟩) 1 1) (.bool false) (.complex .f64 c.re c.im)
  have r0 : w2.cell? ⟨w.heap.size, 0, none⟩ = some (.slice none 0 0) := hB2.cell 0
  have r1 : w2.cell? ⟨w.heap.size, 1, none⟩ = some (.bool false) := hB2.cell 1
  have r2 : w2.cell? ⟨w.heap.size, 2, none⟩ = some (.complex .f64 0 0) := hB2.cell 2
  have f0 := hB2.frozen 0
  have f1 := hB2.frozen 1
  have f2 := hB2.frozen 2
  have hlt := hB2.lt
  replace hS := hide hS
  replace hbF := hide hbF
  clear hB2 hbw hb hB0 hb0 hC ha2 hR2 ho ha0
  go_wp2_with fail
  refine bodyPost_ret (v := .agg #[.slice (some ⟨w2.heap.size, 0, none⟩) 1 1, .bool false, .complex .f64 c.re c.im]) (by simp [results, Tryz.results59, go_sem, r0, r1, r2, hlt]) rfl ?_
  rw [hpe.out]
  exact ⟨⟨_, _, _, rfl, Nat.le_refl _, hS.out⟩, hbF.out⟩
end Go.Proofs.YtnnjcedlomfhoaaGreatDoor
