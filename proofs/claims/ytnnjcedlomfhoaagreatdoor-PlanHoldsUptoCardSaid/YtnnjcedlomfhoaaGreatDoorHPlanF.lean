/-
  Contracts of plan.named and plan.term.
-/
import Derived.Test.YtnnjcedlomfhoaaGreatDoorHPlanE
namespace Go.Proofs.YtnnjcedlomfhoaaGreatDoor
open Go.RowKit
set_option linter.unusedVariables false
set_option maxRecDepth 100000 in
set_option maxHeartbeats 4000000 in
theorem namedElse_any (w : World) (x : Ask) (h1 : ¬ x.op = 1) (h7 : ¬ x.op = 7) :
    Calls Tryz.prog 38 #[askV x] w (PlanRet w (namedP x)) := by
  have hpe : Hid (namedP x = wholeP) := by rw [Hid, namedP, if_neg h7, if_neg h1]
  rw [hpe.out]
  clear hpe
  have hsc := run_store_complex
  have hA0 := ask_box w x
  have hbA := (Below.refl w.heap.size w).alloc (Nat.le_refl _) (.cells #[.int .i64 x.kind, .int .i64 x.op, .int .i64 x.a, .int .i64 x.b, .int .i64 x.n, .string (str x.text), .bool x.isText] 54)
  unfold askV
  obtain ⟨kind, op, a, b, nn, text, isText⟩ := x
  dsimp only at *
  have hA1 := hA0.alloc (.cells #[.slice none 0 0, .bool false, .complex .f64 0 0] 28)
  have hB0 := Blk.new (w.alloc (.cells #[.int .i64 kind, .int .i64 op, .int .i64 a, .int .i64 b, .int .i64 nn, .string (str text), .bool isText] 54)) 28 #[.slice none 0 0, .bool false, .complex .f64 0 0]
  have hb0 := hbA.alloc hbA.size (.cells #[.slice none 0 0, .bool false, .complex .f64 0 0] 28)
  go_enter Tryz.func38, Tryz.ntmps38
  go_upto_region 1 with (fail)
  obtain ⟨w1, hw1⟩ : ∃ y, y = (w.alloc (.cells #[.int .i64 kind, .int .i64 op, .int .i64 a, .int .i64 b, .int .i64 nn, .string (str text), .bool isText] 54)).alloc (.cells #[.slice none 0 0, .bool false, .complex .f64 0 0] 28) := ⟨_, rfl⟩
  rw [← hw1] at hA1 hB0 hb0 ⊢
  have hg : (w.alloc (.cells #[.int .i64 kind, .int .i64 op, .int .i64 a, .int .i64 b, .int .i64 nn, .string (str text), .bool isText] 54)).heap.size = w.heap.size + 1 := by simp
  rw [hg] at hB0
  have p1 : w1.cell? ⟨w.heap.size, 1, none⟩ = some (.int .i64 op) := hA1.cell 1
  have p5 : w1.cell? ⟨w.heap.size, 5, none⟩ = some (.string (str text)) := hA1.cell 5
  clear hw1 hA0 hbA hg hA1
  replace hB0 := hide hB0
  replace hb0 := hide hb0
  go_quiet (fail)
  obtain ⟨w2, hw2⟩ : ∃ y, y = w1.drewN nq := ⟨_, rfl⟩
  have hb12 : Below w1.heap.size w1 w2 := by rw [hw2]; exact below_drewN (Below.refl _ _) nq
  rw [← hw2]
  have hB2 := hide (hB0.out.below hb12 hB0.out.lt)
  have hbw2 := hide (hb0.out.trans (hb12.mono hb0.out.size))
  have p1' : w2.cell? ⟨w.heap.size, 1, none⟩ = some (.int .i64 op) := by rw [hw2]; exact p1
  have hC := hide (whole_ret w2)
  have e1 : (op == 7) = false := by simpa using h7
  have e2 : (op == 1) = false := by simpa using h1
  have e3 : (op != 1) = true := by simpa using h1
  have e4 : (op != 7) = true := by simpa using h7
  replace h1 := hide h1
  replace h7 := hide h7
  clear hw2 hB0 hb0 hb12 p1 p5
  go_wp2_with fail
  refine hC.out.mono ?_
  rintro e w9 ⟨⟨A4, n4, k4, rfl, hnk, hS⟩, hb9⟩
  have hB9 := hB2.out.below hb9 hB2.out.lt
  have hbw9 := hbw2.out.trans (hb9.mono hbw2.out.size)
  obtain ⟨q, hq⟩ : ∃ q, q = wholeP := ⟨_, rfl⟩
  rw [← hq] at hS ⊢
  obtain ⟨hS2, hbF⟩ := plan_back hB9 hS hbw9 (Nat.le_succ _) (.slice A4 n4 k4) (.bool q.all) (.complex .f64 q.cost.re q.cost.im)
  have r0 : w9.cell? ⟨w.heap.size + 1, 0, none⟩ = some (.slice none 0 0) := hB9.cell 0
  have r1 : w9.cell? ⟨w.heap.size + 1, 1, none⟩ = some (.bool false) := hB9.cell 1
  have r2 : w9.cell? ⟨w.heap.size + 1, 2, none⟩ = some (.complex .f64 0 0) := hB9.cell 2
  have f0 := hB9.frozen 0
  have f1 := hB9.frozen 1
  have f2 := hB9.frozen 2
  replace hS2 := hide hS2
  replace hbF := hide hbF
  replace hq := hide hq
  clear hB9 hS hbw9 hb9 hB2 hbw2 hC
  go_wp2_with fail
  refine bodyPost_ret (v := .agg #[.slice A4 n4 k4, .bool q.all, .complex .f64 q.cost.re q.cost.im]) (by simp [results, Tryz.results38, go_sem, r0, r1, r2]) rfl ?_
  rw [← hq.out]
  exact ⟨⟨_, _, _, rfl, hnk, hS2.out⟩, hbF.out⟩
theorem planNamed_any (w : World) (x : Ask) (hM : MaxL w) (hU : Utf8T w) (hl : x.text.length ≤ 1000) : Calls Tryz.prog 38 #[askV x] w (PlanRet w (namedP x)) := by
  by_cases h7 : x.op = 7
  · exact namedLike_any w x hM hU h7 hl
  by_cases h1 : x.op = 1
  · exact namedEq_any w x hM h1 hl
  exact namedElse_any w x h1 h7
def planTP (x : Ask) : PlanV :=
  if x.kind = 4 then namedP x
  else if x.kind = 5 then comparedP 1 x.op x.n
  else if x.kind = 6 then comparedP 2 x.op x.n
  else if x.kind = 7 ∧ x.op = 1 then comparedP 3 x.op x.n
  else wholeP
set_option maxRecDepth 100000 in
set_option maxHeartbeats 4000000 in
theorem planTerm_any (w : World) (x : Ask) (hM : MaxL w) (hU : Utf8T w) (hl : x.text.length ≤ 1000) :
    Calls Tryz.prog 18 #[askV x] w (PlanRet w (planTP x)) := by
  obtain ⟨P, hP⟩ : ∃ P, P = planTP x := ⟨_, rfl⟩
  rw [← hP]
  rw [planTP] at hP
  replace hP := hide hP
  have hsc := run_store_complex
  have hA0 := ask_box w x
  have hbA := (Below.refl w.heap.size w).alloc (Nat.le_refl _) (.cells #[.int .i64 x.kind, .int .i64 x.op, .int .i64 x.a, .int .i64 x.b, .int .i64 x.n, .string (str x.text), .bool x.isText] 54)
  have hNm := hide (fun w' (h : MaxL w') (h2 : Utf8T w') => planNamed_any w' x h h2 hl)
  unfold askV at hNm
  unfold askV
  obtain ⟨kind, op, a, b, nn, text, isText⟩ := x
  dsimp only at *
  have hA1 := hA0.alloc (.cells #[.slice none 0 0, .bool false, .complex .f64 0 0] 28)
  have hB0 := Blk.new (w.alloc (.cells #[.int .i64 kind, .int .i64 op, .int .i64 a, .int .i64 b, .int .i64 nn, .string (str text), .bool isText] 54)) 28 #[.slice none 0 0, .bool false, .complex .f64 0 0]
  have hb0 := hbA.alloc hbA.size (.cells #[.slice none 0 0, .bool false, .complex .f64 0 0] 28)
  go_enter Tryz.func18, Tryz.ntmps18
  go_upto_region 1 with (fail)
  obtain ⟨w1, hw1⟩ : ∃ y, y = (w.alloc (.cells #[.int .i64 kind, .int .i64 op, .int .i64 a, .int .i64 b, .int .i64 nn, .string (str text), .bool isText] 54)).alloc (.cells #[.slice none 0 0, .bool false, .complex .f64 0 0] 28) := ⟨_, rfl⟩
  rw [← hw1] at hA1 hB0 hb0 ⊢
  have hg : (w.alloc (.cells #[.int .i64 kind, .int .i64 op, .int .i64 a, .int .i64 b, .int .i64 nn, .string (str text), .bool isText] 54)).heap.size = w.heap.size + 1 := by simp
  rw [hg] at hB0
  have hM1 := hide (hM.below hb0)
  have hU1 := hide (hU.below hb0)
  have p0 : w1.cell? ⟨w.heap.size, 0, none⟩ = some (.int .i64 kind) := hA1.cell 0
  have p1 : w1.cell? ⟨w.heap.size, 1, none⟩ = some (.int .i64 op) := hA1.cell 1
  have p2 : w1.cell? ⟨w.heap.size, 2, none⟩ = some (.int .i64 a) := hA1.cell 2
  have p3 : w1.cell? ⟨w.heap.size, 3, none⟩ = some (.int .i64 b) := hA1.cell 3
  have p4 : w1.cell? ⟨w.heap.size, 4, none⟩ = some (.int .i64 nn) := hA1.cell 4
  have p5 : w1.cell? ⟨w.heap.size, 5, none⟩ = some (.string (str text)) := hA1.cell 5
  have p6 : w1.cell? ⟨w.heap.size, 6, none⟩ = some (.bool isText) := hA1.cell 6
  have hB0' := hide hB0
  have hb0' := hide hb0
  clear hw1 hA0 hbA hM hU hg hA1 hB0 hb0
  by_cases k4 : kind = 4
  · have hpe : Hid (P = namedP ⟨kind, op, a, b, nn, text, isText⟩) := by rw [Hid, hP.out, if_pos k4]
    have hC := hide (hNm.out w1 hM1.out hU1.out)
    clear hP hM1 hU1 hNm
    subst k4
    go_wp2_with fail
    refine hC.out.mono ?_
    rintro e w9 ⟨⟨A4, n4, k4, rfl, hnk, hS⟩, hb9⟩
    have hB9 := hB0'.out.below hb9 hB0'.out.lt
    have hbw9 := hb0'.out.trans (hb9.mono hb0'.out.size)
    obtain ⟨q, hq⟩ : ∃ q, q = namedP ⟨4, op, a, b, nn, text, isText⟩ := ⟨_, rfl⟩
    rw [← hq] at hS ⊢
    obtain ⟨hS2, hbF⟩ := plan_back hB9 hS hbw9 (Nat.le_succ _) (.slice A4 n4 k4) (.bool q.all) (.complex .f64 q.cost.re q.cost.im)
    have r0 : w9.cell? ⟨w.heap.size + 1, 0, none⟩ = some (.slice none 0 0) := hB9.cell 0
    have r1 : w9.cell? ⟨w.heap.size + 1, 1, none⟩ = some (.bool false) := hB9.cell 1
    have r2 : w9.cell? ⟨w.heap.size + 1, 2, none⟩ = some (.complex .f64 0 0) := hB9.cell 2
    have f0 := hB9.frozen 0
    have f1 := hB9.frozen 1
    have f2 := hB9.frozen 2
    replace hS2 := hide hS2
    replace hbF := hide hbF
    replace hq := hide hq
    clear hB9 hS hbw9 hb9 hB0' hb0' hC
    go_wp2_with fail
    refine bodyPost_ret (v := .agg #[.slice A4 n4 k4, .bool q.all, .complex .f64 q.cost.re q.cost.im]) (by simp [results, Tryz.results18, go_sem, r0, r1, r2]) rfl ?_
    rw [hpe.out, ← hq.out]
    exact ⟨⟨_, _, _, rfl, hnk, hS2.out⟩, hbF.out⟩
  by_cases k5 : kind = 5
  · have hpe : Hid (P = comparedP 1 op nn) := by rw [Hid, hP.out, if_neg k4, if_pos k5]
    have hC := hide (compared_any w1 1 op nn)
    clear hP hM1 hU1 hNm
    subst k5
    clear k4
    go_wp2_with fail
    refine hC.out.mono ?_
    rintro e w9 ⟨⟨A4, n4, k4, rfl, hnk, hS⟩, hb9⟩
    have hB9 := hB0'.out.below hb9 hB0'.out.lt
    have hbw9 := hb0'.out.trans (hb9.mono hb0'.out.size)
    obtain ⟨q, hq⟩ : ∃ q, q = comparedP 1 op nn := ⟨_, rfl⟩
    rw [← hq] at hS ⊢
    obtain ⟨hS2, hbF⟩ := plan_back hB9 hS hbw9 (Nat.le_succ _) (.slice A4 n4 k4) (.bool q.all) (.complex .f64 q.cost.re q.cost.im)
    have r0 : w9.cell? ⟨w.heap.size + 1, 0, none⟩ = some (.slice none 0 0) := hB9.cell 0
    have r1 : w9.cell? ⟨w.heap.size + 1, 1, none⟩ = some (.bool false) := hB9.cell 1
    have r2 : w9.cell? ⟨w.heap.size + 1, 2, none⟩ = some (.complex .f64 0 0) := hB9.cell 2
    have f0 := hB9.frozen 0
    have f1 := hB9.frozen 1
    have f2 := hB9.frozen 2
    replace hS2 := hide hS2
    replace hbF := hide hbF
    replace hq := hide hq
    clear hB9 hS hbw9 hb9 hB0' hb0' hC
    go_wp2_with fail
    refine bodyPost_ret (v := .agg #[.slice A4 n4 k4, .bool q.all, .complex .f64 q.cost.re q.cost.im]) (by simp [results, Tryz.results18, go_sem, r0, r1, r2]) rfl ?_
    rw [hpe.out, ← hq.out]
    exact ⟨⟨_, _, _, rfl, hnk, hS2.out⟩, hbF.out⟩
  by_cases k6 : kind = 6
  · have hpe : Hid (P = comparedP 2 op nn) := by rw [Hid, hP.out, if_neg k4, if_neg k5, if_pos k6]
    have hC := hide (compared_any w1 2 op nn)
    clear hP hM1 hU1 hNm
    subst k6
    clear k4 k5
    go_wp2_with fail
    refine hC.out.mono ?_
    rintro e w9 ⟨⟨A4, n4, k4, rfl, hnk, hS⟩, hb9⟩
    have hB9 := hB0'.out.below hb9 hB0'.out.lt
    have hbw9 := hb0'.out.trans (hb9.mono hb0'.out.size)
    obtain ⟨q, hq⟩ : ∃ q, q = comparedP 2 op nn := ⟨_, rfl⟩
    rw [← hq] at hS ⊢
    obtain ⟨hS2, hbF⟩ := plan_back hB9 hS hbw9 (Nat.le_succ _) (.slice A4 n4 k4) (.bool q.all) (.complex .f64 q.cost.re q.cost.im)
    have r0 : w9.cell? ⟨w.heap.size + 1, 0, none⟩ = some (.slice none 0 0) := hB9.cell 0
    have r1 : w9.cell? ⟨w.heap.size + 1, 1, none⟩ = some (.bool false) := hB9.cell 1
    have r2 : w9.cell? ⟨w.heap.size + 1, 2, none⟩ = some (.complex .f64 0 0) := hB9.cell 2
    have f0 := hB9.frozen 0
    have f1 := hB9.frozen 1
    have f2 := hB9.frozen 2
    replace hS2 := hide hS2
    replace hbF := hide hbF
    replace hq := hide hq
    clear hB9 hS hbw9 hb9 hB0' hb0' hC
    go_wp2_with fail
    refine bodyPost_ret (v := .agg #[.slice A4 n4 k4, .bool q.all, .complex .f64 q.cost.re q.cost.im]) (by simp [results, Tryz.results18, go_sem, r0, r1, r2]) rfl ?_
    rw [hpe.out, ← hq.out]
    exact ⟨⟨_, _, _, rfl, hnk, hS2.out⟩, hbF.out⟩
  by_cases k7 : kind = 7
  · by_cases o1 : op = 1
    · have hpe : Hid (P = comparedP 3 1 nn) := by rw [Hid, hP.out, if_neg k4, if_neg k5, if_neg k6, if_pos ⟨k7, o1⟩, o1]
      have hC := hide (compared_any w1 3 1 nn)
      clear hP hM1 hU1 hNm
      subst k7 o1
      clear k4 k5 k6
      go_wp2_with fail
      refine hC.out.mono ?_
      rintro e w9 ⟨⟨A4, n4, k4, rfl, hnk, hS⟩, hb9⟩
      have hB9 := hB0'.out.below hb9 hB0'.out.lt
      have hbw9 := hb0'.out.trans (hb9.mono hb0'.out.size)
      obtain ⟨q, hq⟩ : ∃ q, q = comparedP 3 1 nn := ⟨_, rfl⟩
      rw [← hq] at hS ⊢
      obtain ⟨hS2, hbF⟩ := plan_back hB9 hS hbw9 (Nat.le_succ _) (.slice A4 n4 k4) (.bool q.all) (.complex .f64 q.cost.re q.cost.im)
      have r0 : w9.cell? ⟨w.heap.size + 1, 0, none⟩ = some (.slice none 0 0) := hB9.cell 0
      have r1 : w9.cell? ⟨w.heap.size + 1, 1, none⟩ = some (.bool false) := hB9.cell 1
      have r2 : w9.cell? ⟨w.heap.size + 1, 2, none⟩ = some (.complex .f64 0 0) := hB9.cell 2
      have f0 := hB9.frozen 0
      have f1 := hB9.frozen 1
      have f2 := hB9.frozen 2
      replace hS2 := hide hS2
      replace hbF := hide hbF
      replace hq := hide hq
      clear hB9 hS hbw9 hb9 hB0' hb0' hC
      go_wp2_with fail
      refine bodyPost_ret (v := .agg #[.slice A4 n4 k4, .bool q.all, .complex .f64 q.cost.re q.cost.im]) (by simp [results, Tryz.results18, go_sem, r0, r1, r2]) rfl ?_
      rw [hpe.out, ← hq.out]
      exact ⟨⟨_, _, _, rfl, hnk, hS2.out⟩, hbF.out⟩
    have hpe : Hid (P = wholeP) := by rw [Hid, hP.out, if_neg k4, if_neg k5, if_neg k6, if_neg (fun c => o1 c.2)]
    have hC := hide (whole_ret w1)
    clear hP hM1 hU1 hNm
    subst k7
    have e1 : (op == 1) = false := by simpa using o1
    clear k4 k5 k6 o1
    go_wp2_with fail
    refine hC.out.mono ?_
    rintro e w9 ⟨⟨A4, n4, k4, rfl, hnk, hS⟩, hb9⟩
    have hB9 := hB0'.out.below hb9 hB0'.out.lt
    have hbw9 := hb0'.out.trans (hb9.mono hb0'.out.size)
    obtain ⟨q, hq⟩ : ∃ q, q = wholeP := ⟨_, rfl⟩
    rw [← hq] at hS ⊢
    obtain ⟨hS2, hbF⟩ := plan_back hB9 hS hbw9 (Nat.le_succ _) (.slice A4 n4 k4) (.bool q.all) (.complex .f64 q.cost.re q.cost.im)
    have r0 : w9.cell? ⟨w.heap.size + 1, 0, none⟩ = some (.slice none 0 0) := hB9.cell 0
    have r1 : w9.cell? ⟨w.heap.size + 1, 1, none⟩ = some (.bool false) := hB9.cell 1
    have r2 : w9.cell? ⟨w.heap.size + 1, 2, none⟩ = some (.complex .f64 0 0) := hB9.cell 2
    have f0 := hB9.frozen 0
    have f1 := hB9.frozen 1
    have f2 := hB9.frozen 2
    replace hS2 := hide hS2
    replace hbF := hide hbF
    replace hq := hide hq
    clear hB9 hS hbw9 hb9 hB0' hb0' hC
    go_wp2_with fail
    refine bodyPost_ret (v := .agg #[.slice A4 n4 k4, .bool q.all, .complex .f64 q.cost.re q.cost.im]) (by simp [results, Tryz.results18, go_sem, r0, r1, r2]) rfl ?_
    rw [hpe.out, ← hq.out]
    exact ⟨⟨_, _, _, rfl, hnk, hS2.out⟩, hbF.out⟩
  have hpe : Hid (P = wholeP) := by rw [Hid, hP.out, if_neg k4, if_neg k5, if_neg k6, if_neg (fun c => k7 c.1)]
  have hC := hide (whole_ret w1)
  clear hP hM1 hU1 hNm
  have e4 : (kind == 4) = false := by simpa using k4
  have e5 : (kind == 5) = false := by simpa using k5
  have e6 : (kind == 6) = false := by simpa using k6
  have e7 : (kind == 7) = false := by simpa using k7
  clear k4 k5 k6 k7
  go_wp2_with fail
  refine hC.out.mono ?_
  rintro e w9 ⟨⟨A4, n4, k4, rfl, hnk, hS⟩, hb9⟩
  have hB9 := hB0'.out.below hb9 hB0'.out.lt
  have hbw9 := hb0'.out.trans (hb9.mono hb0'.out.size)
  obtain ⟨q, hq⟩ : ∃ q, q = wholeP := ⟨_, rfl⟩
  rw [← hq] at hS ⊢
  obtain ⟨hS2, hbF⟩ := plan_back hB9 hS hbw9 (Nat.le_succ _) (.slice A4 n4 k4) (.bool q.all) (.complex .f64 q.cost.re q.cost.im)
  have r0 : w9.cell? ⟨w.heap.size + 1, 0, none⟩ = some (.slice none 0 0) := hB9.cell 0
  have r1 : w9.cell? ⟨w.heap.size + 1, 1, none⟩ = some (.bool false) := hB9.cell 1
  have r2 : w9.cell? ⟨w.heap.size + 1, 2, none⟩ = some (.complex .f64 0 0) := hB9.cell 2
  have f0 := hB9.frozen 0
  have f1 := hB9.frozen 1
  have f2 := hB9.frozen 2
  replace hS2 := hide hS2
  replace hbF := hide hbF
  replace hq := hide hq
  clear hB9 hS hbw9 hb9 hB0' hb0' hC
  go_wp2_with fail
  refine bodyPost_ret (v := .agg #[.slice A4 n4 k4, .bool q.all, .complex .f64 q.cost.re q.cost.im]) (by simp [results, Tryz.results18, go_sem, r0, r1, r2]) rfl ?_
  rw [hpe.out, ← hq.out]
  exact ⟨⟨_, _, _, rfl, hnk, hS2.out⟩, hbF.out⟩
end Go.Proofs.YtnnjcedlomfhoaaGreatDoor
