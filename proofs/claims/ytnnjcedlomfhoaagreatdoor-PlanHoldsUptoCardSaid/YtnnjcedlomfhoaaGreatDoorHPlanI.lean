/-
  Contract of plan.join at an or.
-/
import Derived.Test.YtnnjcedlomfhoaaGreatDoorHPlanH
import Derived.Lib.AppendZeros
namespace Go.Proofs.YtnnjcedlomfhoaaGreatDoor
open Go.RowKit
set_option linter.unusedVariables false
set_option maxRecDepth 100000 in
set_option maxHeartbeats 4000000 in
theorem joinOr_any (w : World) (kd : Int) (hk : ¬ kd = 2) (p q : PlanV) (hpo : p.cost.ok) (hqo : q.cost.ok) (A B : Option Addr) (n k m d : Nat) (hp : SpansAt w A n p.spans) (hq : SpansAt w B m q.spans) (hnk : n ≤ k) (hmd : m ≤ d) (hn : n ≤ 1000) (hm : m ≤ 1000) (hpa : p.all = false) (hqa : q.all = false) :
    Calls Tryz.prog 20 #[.int .i64 kd, .agg #[.slice A n k, .bool p.all, .complex .f64 p.cost.re p.cost.im], .agg #[.slice B m d, .bool q.all, .complex .f64 q.cost.re q.cost.im]] w (PlanRet w (joinP kd p q)) := by
  obtain ⟨P, hP⟩ : ∃ P, P = joinP kd p q := ⟨_, rfl⟩
  rw [← hP]
  rw [joinP, if_neg hk, if_neg (by rw [hpa, hqa]; exact Bool.false_ne_true)] at hP
  replace hP := hide hP
  replace hpa := hide hpa
  replace hqa := hide hqa
  have hsc := run_store_complex
  obtain ⟨hA1, hB1, hC1, hb1⟩ := join_boxes w p q A B n k m d
  go_enter Tryz.func20, Tryz.ntmps20
  go_upto_region 1 with (fail)
  obtain ⟨w1, hw1⟩ : ∃ y, y = ((w.alloc (.cells #[.slice A n k, .bool p.all, .complex .f64 p.cost.re p.cost.im] 28)).alloc (.cells #[.slice B m d, .bool q.all, .complex .f64 q.cost.re q.cost.im] 28)).alloc (.cells #[.slice none 0 0, .bool false, .complex .f64 0 0] 28) := ⟨_, rfl⟩
  rw [← hw1] at hA1 hB1 hC1 hb1 ⊢
  clear hw1
  have hp1 := hide (hp.below hb1)
  have hq1 := hide (hq.below hb1)
  have a0 : w1.cell? ⟨w.heap.size, 0, none⟩ = some (.slice A n k) := hA1.cell 0
  have a1 : w1.cell? ⟨w.heap.size, 1, none⟩ = some (.bool p.all) := hA1.cell 1
  have a2 : w1.cell? ⟨w.heap.size, 2, none⟩ = some (.complex .f64 p.cost.re p.cost.im) := hA1.cell 2
  have b0 : w1.cell? ⟨w.heap.size + 1, 0, none⟩ = some (.slice B m d) := hB1.cell 0
  have b1 : w1.cell? ⟨w.heap.size + 1, 1, none⟩ = some (.bool q.all) := hB1.cell 1
  have b2 : w1.cell? ⟨w.heap.size + 1, 2, none⟩ = some (.complex .f64 q.cost.re q.cost.im) := hB1.cell 2
  clear hp hq
  have e2 : (kd == 2) = false := by simpa using hk
  replace hk := hide hk
  rw [hpa.out] at a1 ⊢
  rw [hqa.out] at b1 ⊢
  obtain ⟨hsok, hsum⟩ := Cost.plus_ok hpo hqo
  have hcs := fun t w => run_complex_sum (P := Tryz.prog) w .add (Or.inl rfl) t .f64 _ _ _ _ _ _ hsum
  replace hA1 := hide hA1
  replace hB1 := hide hB1
  replace hC1 := hide hC1
  replace hb1 := hide hb1
  replace hsum := hide hsum
  clear hpa hqa
  go_upto_region 7 with (fail)
  obtain ⟨A', k', w2, hrun, hnk', hS, hb12⟩ := append_spans w1.drew (hp1.out.below (Below.refl _ _).drew) (hq1.out.below (Below.refl _ _).drew) (d := d) hn hm
  have hnk2 : (n : Int) ≤ (k : Int) := by omega
  have hlt := hC1.out.lt
  have hb12' : Below w1.heap.size w1 w2 := (Below.refl w1.heap.size w1).drew.trans hb12
  have hC2 := hC1.out.below hb12' hlt
  have a0' := (hb12'.cell (p := ⟨w.heap.size, 0, none⟩) (by show w.heap.size < _; omega)).trans a0
  have a2' := (hb12'.cell (p := ⟨w.heap.size, 2, none⟩) (by show w.heap.size < _; omega)).trans a2
  have b0' := (hb12'.cell (p := ⟨w.heap.size + 1, 0, none⟩) (by show w.heap.size + 1 < _; omega)).trans b0
  have b2' := (hb12'.cell (p := ⟨w.heap.size + 1, 2, none⟩) (by show w.heap.size + 1 < _; omega)).trans b2
  have r0 : w2.cell? ⟨w.heap.size + 2, 0, none⟩ = some (.slice none 0 0) := hC2.cell 0
  have r1 : w2.cell? ⟨w.heap.size + 2, 1, none⟩ = some (.bool false) := hC2.cell 1
  have r2 : w2.cell? ⟨w.heap.size + 2, 2, none⟩ = some (.complex .f64 0 0) := hC2.cell 2
  have f0 := hC2.frozen 0
  have f1 := hC2.frozen 1
  have f2 := hC2.frozen 2
  replace hC2 := hide hC2
  replace hS := hide hS
  have hb2 := hide (hb1.out.trans (hb12'.mono hb1.out.size))
  clear hb12'
  replace hb12 := hide hb12
  go_region_held3 (fun w' => w'.cell? ⟨w.heap.size, 0, none⟩ = some (.slice A n k) ∧ w'.cell? ⟨w.heap.size, 2, none⟩ = some (.complex .f64 p.cost.re p.cost.im) ∧ w'.cell? ⟨w.heap.size + 1, 0, none⟩ = some (.slice B m d) ∧ w'.cell? ⟨w.heap.size + 1, 2, none⟩ = some (.complex .f64 q.cost.re q.cost.im)) (first | (exact ⟨by assumption, by assumption, by assumption, by assumption⟩) | (refine ⟨?_, ?_, ?_, ?_⟩ <;> (repeat rw [World.cell?_setCell_other _ _ _ _ (by simp)]) <;> assumption))
    ((rw [if_pos (by rfl)]; refine Lib.wp_append_run _ _ _ _ _ rfl _ _ rfl rfl _ _ hrun ?_))
  obtain ⟨hS2, hbF⟩ := plan_back hC2.out hS.out hb2.out (Nat.le_add_right _ 2) (.slice A' (n + m) k') (.bool false) (.complex .f64 (p.cost.plus q.cost).re (p.cost.plus q.cost).im)
  replace hS2 := hide hS2
  replace hbF := hide hbF
  go_wp2_with fail
  refine bodyPost_ret (v := .agg #[.slice A' (n + m) k', .bool false, .complex .f64 (p.cost.plus q.cost).re (p.cost.plus q.cost).im]) (by simp [results, Tryz.results20, go_sem, r0, r1, r2]) rfl ?_
  rw [hP.out]
  exact ⟨⟨_, _, _, rfl, hnk', hS2.out⟩, hbF.out⟩
end Go.Proofs.YtnnjcedlomfhoaaGreatDoor
