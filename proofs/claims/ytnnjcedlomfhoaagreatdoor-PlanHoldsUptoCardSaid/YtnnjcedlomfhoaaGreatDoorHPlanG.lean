/-
  Contract of plan.join.
-/
import Derived.Test.YtnnjcedlomfhoaaGreatDoorHPlanF
import Derived.Deep.RegionHeld3
import Derived.ArgAppend
import Derived.Laws.ComplexArith
namespace Go.Proofs.YtnnjcedlomfhoaaGreatDoor
open Go.RowKit
set_option linter.unusedVariables false
def joinP (kd : Int) (p q : PlanV) : PlanV :=
  if kd = 2 then (if q.cost.cheaper p.cost = true then q else p)
  else if (p.all || q.all) = true then wholeP
  else ⟨p.spans ++ q.spans, false, p.cost.plus q.cost⟩
theorem join_boxes (w : World) (p q : PlanV) (A B : Option Addr) (n k m d : Nat) :
    Blk (((w.alloc (.cells #[.slice A n k, .bool p.all, .complex .f64 p.cost.re p.cost.im] 28)).alloc (.cells #[.slice B m d, .bool q.all, .complex .f64 q.cost.re q.cost.im] 28)).alloc (.cells #[.slice none 0 0, .bool false, .complex .f64 0 0] 28)) w.heap.size 28 #[.slice A n k, .bool p.all, .complex .f64 p.cost.re p.cost.im] ∧ Blk (((w.alloc (.cells #[.slice A n k, .bool p.all, .complex .f64 p.cost.re p.cost.im] 28)).alloc (.cells #[.slice B m d, .bool q.all, .complex .f64 q.cost.re q.cost.im] 28)).alloc (.cells #[.slice none 0 0, .bool false, .complex .f64 0 0] 28)) (w.heap.size + 1) 28 #[.slice B m d, .bool q.all, .complex .f64 q.cost.re q.cost.im] ∧ Blk (((w.alloc (.cells #[.slice A n k, .bool p.all, .complex .f64 p.cost.re p.cost.im] 28)).alloc (.cells #[.slice B m d, .bool q.all, .complex .f64 q.cost.re q.cost.im] 28)).alloc (.cells #[.slice none 0 0, .bool false, .complex .f64 0 0] 28)) (w.heap.size + 2) 28 #[.slice none 0 0, .bool false, .complex .f64 0 0] ∧ Below w.heap.size w (((w.alloc (.cells #[.slice A n k, .bool p.all, .complex .f64 p.cost.re p.cost.im] 28)).alloc (.cells #[.slice B m d, .bool q.all, .complex .f64 q.cost.re q.cost.im] 28)).alloc (.cells #[.slice none 0 0, .bool false, .complex .f64 0 0] 28)) := by
  have h1 := Blk.new w 28 #[.slice A n k, .bool p.all, .complex .f64 p.cost.re p.cost.im]
  have h2 := Blk.new (w.alloc (.cells #[.slice A n k, .bool p.all, .complex .f64 p.cost.re p.cost.im] 28)) 28 #[.slice B m d, .bool q.all, .complex .f64 q.cost.re q.cost.im]
  have h3 := Blk.new ((w.alloc (.cells #[.slice A n k, .bool p.all, .complex .f64 p.cost.re p.cost.im] 28)).alloc (.cells #[.slice B m d, .bool q.all, .complex .f64 q.cost.re q.cost.im] 28)) 28 #[.slice none 0 0, .bool false, .complex .f64 0 0]
  have e2 : (w.alloc (.cells #[.slice A n k, .bool p.all, .complex .f64 p.cost.re p.cost.im] 28)).heap.size = w.heap.size + 1 := by simp
  have e3 : ((w.alloc (.cells #[.slice A n k, .bool p.all, .complex .f64 p.cost.re p.cost.im] 28)).alloc (.cells #[.slice B m d, .bool q.all, .complex .f64 q.cost.re q.cost.im] 28)).heap.size = w.heap.size + 2 := by simp
  rw [e2] at h2
  rw [e3] at h3
  have b1 := (Below.refl w.heap.size w).alloc (Nat.le_refl _) (.cells #[.slice A n k, .bool p.all, .complex .f64 p.cost.re p.cost.im] 28)
  exact ⟨(h1.alloc _).alloc _, h2.alloc _, h3, (b1.alloc b1.size _).alloc (b1.alloc b1.size (.cells #[.slice B m d, .bool q.all, .complex .f64 q.cost.re q.cost.im] 28)).size _⟩
set_option maxRecDepth 100000 in
set_option maxHeartbeats 4000000 in
theorem joinAnd_any (w : World) (p q : PlanV) (A B : Option Addr) (n k m d : Nat) (hp : SpansAt w A n p.spans) (hq : SpansAt w B m q.spans) (hnk : n ≤ k) (hmd : m ≤ d) :
    Calls Tryz.prog 20 #[.int .i64 2, .agg #[.slice A n k, .bool p.all, .complex .f64 p.cost.re p.cost.im], .agg #[.slice B m d, .bool q.all, .complex .f64 q.cost.re q.cost.im]] w (PlanRet w (joinP 2 p q)) := by
  obtain ⟨P, hP⟩ : ∃ P, P = joinP 2 p q := ⟨_, rfl⟩
  rw [← hP]
  rw [joinP, if_pos rfl] at hP
  replace hP := hide hP
  have hsc := run_store_complex
  obtain ⟨hA1, hB1, hC1, hb1⟩ := join_boxes w p q A B n k m d
  go_enter Tryz.func20, Tryz.ntmps20
  go_upto_region 1 with (fail)
  obtain ⟨w1, hw1⟩ : ∃ y, y = ((w.alloc (.cells #[.slice A n k, .bool p.all, .complex .f64 p.cost.re p.cost.im] 28)).alloc (.cells #[.slice B m d, .bool q.all, .complex .f64 q.cost.re q.cost.im] 28)).alloc (.cells #[.slice none 0 0, .bool false, .complex .f64 0 0] 28) := ⟨_, rfl⟩
  rw [← hw1] at hA1 hB1 hC1 hb1 ⊢
  clear hw1
  have hp1 := hide (hp.below hb1)
  have hq1 := hide (hq.below hb1)
  have a0 : w1.cell? ⟨w.heap.size, 0, none⟩ = some (.slice A n k) := hA1.cell 0
  have a1 : w1.cell? ⟨w.heap.size, 1, none⟩ = some (.bool p.all) := hA1.cell 1
  have a2 : w1.cell? ⟨w.heap.size, 2, none⟩ = some (.complex .f64 p.cost.re p.cost.im) := hA1.cell 2
  have b0 : w1.cell? ⟨w.heap.size + 1, 0, none⟩ = some (.slice B m d) := hB1.cell 0
  have b1 : w1.cell? ⟨w.heap.size + 1, 1, none⟩ = some (.bool q.all) := hB1.cell 1
  have b2 : w1.cell? ⟨w.heap.size + 1, 2, none⟩ = some (.complex .f64 q.cost.re q.cost.im) := hB1.cell 2
  clear hp hq
  have hCh := cheaper_any w1 B m d q.all q.cost A n k p.all p.cost
  unfold planV at hCh
  replace hCh := hide hCh
  replace hC1 := hide hC1
  replace hb1 := hide hb1
  clear hA1 hB1
  obtain ⟨c, hc⟩ : ∃ c, c = q.cost.cheaper p.cost := ⟨_, rfl⟩
  rw [← hc] at hP hCh
  clear hc
  go_wp2_with fail
  refine hCh.out.mono ?_
  rintro e w2 ⟨rfl, hb12⟩
  have hC2 := hC1.out.below hb12 hC1.out.lt
  have hlt := hC1.out.lt
  have hb2 := hb1.out.trans (hb12.mono hb1.out.size)
  have hp2 := hide (hp1.out.below hb12)
  have hq2 := hide (hq1.out.below hb12)
  replace a0 := (hb12.cell (p := ⟨w.heap.size, 0, none⟩) (by show w.heap.size < _; omega)).trans a0
  replace a1 := (hb12.cell (p := ⟨w.heap.size, 1, none⟩) (by show w.heap.size < _; omega)).trans a1
  replace a2 := (hb12.cell (p := ⟨w.heap.size, 2, none⟩) (by show w.heap.size < _; omega)).trans a2
  replace b0 := (hb12.cell (p := ⟨w.heap.size + 1, 0, none⟩) (by show w.heap.size + 1 < _; omega)).trans b0
  replace b1 := (hb12.cell (p := ⟨w.heap.size + 1, 1, none⟩) (by show w.heap.size + 1 < _; omega)).trans b1
  replace b2 := (hb12.cell (p := ⟨w.heap.size + 1, 2, none⟩) (by show w.heap.size + 1 < _; omega)).trans b2
  have r0 : w2.cell? ⟨w.heap.size + 2, 0, none⟩ = some (.slice none 0 0) := hC2.cell 0
  have r1 : w2.cell? ⟨w.heap.size + 2, 1, none⟩ = some (.bool false) := hC2.cell 1
  have r2 : w2.cell? ⟨w.heap.size + 2, 2, none⟩ = some (.complex .f64 0 0) := hC2.cell 2
  have f0 := hC2.frozen 0
  have f1 := hC2.frozen 1
  have f2 := hC2.frozen 2
  clear hCh hC1 hb1 hb12 hp1 hq1
  cases c with
  | true =>
    rw [if_pos rfl] at hP
    obtain ⟨hS2, hbF⟩ := plan_back hC2 hq2.out hb2 (Nat.le_add_right _ 2) (.slice B m d) (.bool q.all) (.complex .f64 q.cost.re q.cost.im)
    replace hS2 := hide hS2
    replace hbF := hide hbF
    clear hC2 hb2
    go_wp2_with fail
    refine bodyPost_ret (v := .agg #[.slice B m d, .bool q.all, .complex .f64 q.cost.re q.cost.im]) (by simp [results, Tryz.results20, go_sem, r0, r1, r2]) rfl ?_
    rw [hP.out]
    exact ⟨⟨_, _, _, rfl, hmd, hS2.out⟩, hbF.out⟩
  | false =>
    rw [if_neg Bool.false_ne_true] at hP
    obtain ⟨hS2, hbF⟩ := plan_back hC2 hp2.out hb2 (Nat.le_add_right _ 2) (.slice A n k) (.bool p.all) (.complex .f64 p.cost.re p.cost.im)
    replace hS2 := hide hS2
    replace hbF := hide hbF
    clear hC2 hb2
    go_wp2_with fail
    refine bodyPost_ret (v := .agg #[.slice A n k, .bool p.all, .complex .f64 p.cost.re p.cost.im]) (by simp [results, Tryz.results20, go_sem, r0, r1, r2]) rfl ?_
    rw [hP.out]
    exact ⟨⟨_, _, _, rfl, hnk, hS2.out⟩, hbF.out⟩
set_option maxRecDepth 100000 in
set_option maxHeartbeats 4000000 in
theorem joinAll_any (w : World) (kd : Int) (hk : ¬ kd = 2) (p q : PlanV) (A B : Option Addr) (n k m d : Nat) (hp : SpansAt w A n p.spans) (hq : SpansAt w B m q.spans) (hall : (p.all || q.all) = true) :
    Calls Tryz.prog 20 #[.int .i64 kd, .agg #[.slice A n k, .bool p.all, .complex .f64 p.cost.re p.cost.im], .agg #[.slice B m d, .bool q.all, .complex .f64 q.cost.re q.cost.im]] w (PlanRet w (joinP kd p q)) := by
  obtain ⟨P, hP⟩ : ∃ P, P = joinP kd p q := ⟨_, rfl⟩
  rw [← hP]
  rw [joinP, if_neg hk, if_pos hall] at hP
  replace hP := hide hP
  have hsc := run_store_complex
  obtain ⟨hA1, hB1, hC1, hb1⟩ := join_boxes w p q A B n k m d
  go_enter Tryz.func20, Tryz.ntmps20
  go_upto_region 1 with (fail)
  obtain ⟨w1, hw1⟩ : ∃ y, y = ((w.alloc (.cells #[.slice A n k, .bool p.all, .complex .f64 p.cost.re p.cost.im] 28)).alloc (.cells #[.slice B m d, .bool q.all, .complex .f64 q.cost.re q.cost.im] 28)).alloc (.cells #[.slice none 0 0, .bool false, .complex .f64 0 0] 28) := ⟨_, rfl⟩
  rw [← hw1] at hA1 hB1 hC1 hb1 ⊢
  clear hw1
  have hp1 := hide (hp.below hb1)
  have hq1 := hide (hq.below hb1)
  have a0 : w1.cell? ⟨w.heap.size, 0, none⟩ = some (.slice A n k) := hA1.cell 0
  have a1 : w1.cell? ⟨w.heap.size, 1, none⟩ = some (.bool p.all) := hA1.cell 1
  have a2 : w1.cell? ⟨w.heap.size, 2, none⟩ = some (.complex .f64 p.cost.re p.cost.im) := hA1.cell 2
  have b0 : w1.cell? ⟨w.heap.size + 1, 0, none⟩ = some (.slice B m d) := hB1.cell 0
  have b1 : w1.cell? ⟨w.heap.size + 1, 1, none⟩ = some (.bool q.all) := hB1.cell 1
  have b2 : w1.cell? ⟨w.heap.size + 1, 2, none⟩ = some (.complex .f64 q.cost.re q.cost.im) := hB1.cell 2
  clear hp hq
  have e2 : (kd == 2) = false := by simpa using hk
  replace hk := hide hk
  obtain ⟨pa, hpa⟩ : ∃ pa, pa = p.all := ⟨_, rfl⟩
  obtain ⟨qa, hqa⟩ : ∃ qa, qa = q.all := ⟨_, rfl⟩
  rw [← hpa, ← hqa] at hall
  rw [← hpa] at a1 ⊢
  rw [← hqa] at b1 ⊢
  have hC := hide (whole_ret w1)
  have hC1' := hide hC1
  have hb1' := hide hb1
  clear hA1 hB1 hC1 hb1 hpa hqa hp1 hq1
  cases pa with
  | true =>
    clear hall
    go_wp2_with fail
    refine hC.out.mono ?_
    rintro e w9 ⟨⟨A4, n4, k4, rfl, hnk, hS⟩, hb9⟩
    have hB9 := hC1'.out.below hb9 hC1'.out.lt
    have hbw9 := hb1'.out.trans (hb9.mono hb1'.out.size)
    obtain ⟨r, hq⟩ : ∃ r, r = wholeP := ⟨_, rfl⟩
    rw [← hq] at hS ⊢
    obtain ⟨hS2, hbF⟩ := plan_back hB9 hS hbw9 (Nat.le_add_right _ 2) (.slice A4 n4 k4) (.bool r.all) (.complex .f64 r.cost.re r.cost.im)
    have r0 : w9.cell? ⟨w.heap.size + 2, 0, none⟩ = some (.slice none 0 0) := hB9.cell 0
    have r1 : w9.cell? ⟨w.heap.size + 2, 1, none⟩ = some (.bool false) := hB9.cell 1
    have r2 : w9.cell? ⟨w.heap.size + 2, 2, none⟩ = some (.complex .f64 0 0) := hB9.cell 2
    have f0 := hB9.frozen 0
    have f1 := hB9.frozen 1
    have f2 := hB9.frozen 2
    replace hS2 := hide hS2
    replace hbF := hide hbF
    replace hq := hide hq
    clear hB9 hS hbw9 hb9 hC1' hb1' hC
    go_wp2_with fail
    refine bodyPost_ret (v := .agg #[.slice A4 n4 k4, .bool r.all, .complex .f64 r.cost.re r.cost.im]) (by simp [results, Tryz.results20, go_sem, r0, r1, r2]) rfl ?_
    rw [hP.out, ← hq.out]
    exact ⟨⟨_, _, _, rfl, hnk, hS2.out⟩, hbF.out⟩
  | false =>
    rw [Bool.false_or] at hall
    subst hall
    go_wp2_with fail
    refine hC.out.mono ?_
    rintro e w9 ⟨⟨A4, n4, k4, rfl, hnk, hS⟩, hb9⟩
    have hB9 := hC1'.out.below hb9 hC1'.out.lt
    have hbw9 := hb1'.out.trans (hb9.mono hb1'.out.size)
    obtain ⟨r, hq⟩ : ∃ r, r = wholeP := ⟨_, rfl⟩
    rw [← hq] at hS ⊢
    obtain ⟨hS2, hbF⟩ := plan_back hB9 hS hbw9 (Nat.le_add_right _ 2) (.slice A4 n4 k4) (.bool r.all) (.complex .f64 r.cost.re r.cost.im)
    have r0 : w9.cell? ⟨w.heap.size + 2, 0, none⟩ = some (.slice none 0 0) := hB9.cell 0
    have r1 : w9.cell? ⟨w.heap.size + 2, 1, none⟩ = some (.bool false) := hB9.cell 1
    have r2 : w9.cell? ⟨w.heap.size + 2, 2, none⟩ = some (.complex .f64 0 0) := hB9.cell 2
    have f0 := hB9.frozen 0
    have f1 := hB9.frozen 1
    have f2 := hB9.frozen 2
    replace hS2 := hide hS2
    replace hbF := hide hbF
    replace hq := hide hq
    clear hB9 hS hbw9 hb9 hC1' hb1' hC
    go_wp2_with fail
    refine bodyPost_ret (v := .agg #[.slice A4 n4 k4, .bool r.all, .complex .f64 r.cost.re r.cost.im]) (by simp [results, Tryz.results20, go_sem, r0, r1, r2]) rfl ?_
    rw [hP.out, ← hq.out]
    exact ⟨⟨_, _, _, rfl, hnk, hS2.out⟩, hbF.out⟩
end Go.Proofs.YtnnjcedlomfhoaaGreatDoor
