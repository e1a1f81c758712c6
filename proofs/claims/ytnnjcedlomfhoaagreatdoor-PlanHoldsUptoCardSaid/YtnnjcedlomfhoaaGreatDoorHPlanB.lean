/-
  Contracts of plan.numbers, plan.compared, plan.begins.
-/
import Derived.Test.YtnnjcedlomfhoaaGreatDoorHPlanSpec
import Derived.Test.YtnnjcedlomfhoaaGreatDoorHPlanA
namespace Go.Proofs.YtnnjcedlomfhoaaGreatDoor
open Go.RowKit
set_option linter.unusedVariables false
theorem one_int (w : World) (b : Int) (t : TypeId) : RI (w.alloc (.cells #[.int .i64 b] t)) (w.alloc (.cells #[.int .i64 b] t)).heap.size (some ⟨w.heap.size, 0, none⟩) 1 [b] := by
  refine ⟨by simp [iv], fun _ => ⟨_, rfl, by simp, fun j u hj => ?_⟩⟩
  match j, hj with
  | 0, hj => simp [iv] at hj; subst hj; simp [Addr.add]
/-- The last step: the plan stored into the result's block, a span laid as a row of one. -/
theorem plan_done {w w5 : World} {g : Nat} (s : SpanV) {fA tA : Option Addr} {fn tn : Nat} (fc tc : Nat) {cs : Array Value} (hB : Blk w5 g 28 cs) (hr1 : RBT w5 fA fn s.from_) (hr2 : RBT w5 tA tn s.to_) (hb : Below w.heap.size w w5) (hg : w.heap.size ≤ g) (u0 u1 u2 : Value) :
    SpansAt ((((w5.setCell ⟨g, 0, none⟩ u0).setCell ⟨g, 1, none⟩ u1).setCell ⟨g, 2, none⟩ u2).alloc (.cells #[.int .i64 s.by_, .slice fA fn fc, .slice tA tn tc] 34)) (some ⟨w5.heap.size, 0, none⟩) 1 [s] ∧
    Below w.heap.size w ((((w5.setCell ⟨g, 0, none⟩ u0).setCell ⟨g, 1, none⟩ u1).setCell ⟨g, 2, none⟩ u2).alloc (.cells #[.int .i64 s.by_, .slice fA fn fc, .slice tA tn tc] 34)) := by
  have hB1 := hB.set_ 0 u0
  have hB2 := hB1.set_ 1 u1
  have r1 := ((hr1.set_ (i := 0) hB (by decide) u0).set_ (i := 1) hB1 (by decide) u1).set_ (i := 2) hB2 (by decide) u2
  have r2 := ((hr2.set_ (i := 0) hB (by decide) u0).set_ (i := 1) hB1 (by decide) u1).set_ (i := 2) hB2 (by decide) u2
  have hbs := below_set (below_set (below_set hb hg (i := 0) u0) hg (i := 1) u1) hg (i := 2) u2
  have hz : (((w5.setCell ⟨g, 0, none⟩ u0).setCell ⟨g, 1, none⟩ u1).setCell ⟨g, 2, none⟩ u2).heap.size = w5.heap.size := by simp
  obtain ⟨w6, hw6⟩ : ∃ y, y = (((w5.setCell ⟨g, 0, none⟩ u0).setCell ⟨g, 1, none⟩ u1).setCell ⟨g, 2, none⟩ u2) := ⟨_, rfl⟩
  rw [← hw6] at r1 r2 hbs hz ⊢
  have hb7 := (Below.refl w6.heap.size w6).alloc (Nat.le_refl _) (.cells #[.int .i64 s.by_, .slice fA fn fc, .slice tA tn tc] 34)
  have hN := Blk.new w6 34 #[.int .i64 s.by_, .slice fA fn fc, .slice tA tn tc]
  rw [hz] at hN
  exact ⟨SpansAt.one hN (r1.below hb7) (r2.below hb7), hbs.alloc hbs.size _⟩
set_option maxRecDepth 100000 in
set_option maxHeartbeats 4000000 in
theorem numbers_any (w : World) (by_ fr tt : Int) (c : Cost) (h1 : -10 ≤ fr ∧ fr ≤ 281474976710660) (h2 : -10 ≤ tt ∧ tt ≤ 281474976710660) :
    Calls Tryz.prog 62 #[.int .i64 by_, .int .i64 fr, .int .i64 tt, .complex .f64 c.re c.im] w (PlanRet w (numbersP by_ fr tt c)) := by
  obtain ⟨p, hp⟩ : ∃ p, p = numbersP by_ fr tt c := ⟨_, rfl⟩
  rw [← hp]
  unfold numbersP at hp
  have hsc := run_store_complex
  obtain ⟨F, hF⟩ : ∃ F, F = max fr 0 := ⟨_, rfl⟩
  obtain ⟨T, hT⟩ : ∃ T, T = min tt 281474976710655 := ⟨_, rfl⟩
  have hF1 : 0 ≤ F ∧ F ≤ 281474976710660 := by omega
  have hT1 : -10 ≤ T ∧ T ≤ 281474976710655 := by omega
  rw [← hF, ← hT] at hp
  replace hp := hide hp
  replace hF := hide hF
  replace hT := hide hT
  have hB0 := Blk.new w 28 #[.slice none 0 0, .bool false, .complex .f64 0 0]
  have hb0 := (Below.refl w.heap.size w).alloc (Nat.le_refl _) (.cells #[.slice none 0 0, .bool false, .complex .f64 0 0] 28)
  go_enter Tryz.func62, Tryz.ntmps62
  go_upto_region 2 with (fail)
  rw [← hF.out, ← hT.out]
  obtain ⟨w1, hw1⟩ : ∃ y, y = w.alloc (.cells #[.slice none 0 0, .bool false, .complex .f64 0 0] 28) := ⟨_, rfl⟩
  rw [← hw1] at hB0 hb0 ⊢
  have hz1 : Hid (w1.heap.size = w.heap.size + 1) := by rw [Hid, hw1]; simp
  clear hw1
  have q0 : w1.cell? ⟨w.heap.size, 0, none⟩ = some (.slice none 0 0) := hB0.cell 0
  have q1 : w1.cell? ⟨w.heap.size, 1, none⟩ = some (.bool false) := hB0.cell 1
  have q2 : w1.cell? ⟨w.heap.size, 2, none⟩ = some (.complex .f64 0 0) := hB0.cell 2
  have f0 := hB0.frozen 0
  have f1 := hB0.frozen 1
  have f2 := hB0.frozen 2
  by_cases hlt : T < F
  · have hpe : Hid (p = ⟨[], false, c0⟩) := by rw [Hid, hp.out, if_pos hlt]
    go_wp2_with fail
    refine bodyPost_ret (v := .agg #[.slice none 0 0, .bool false, .complex .f64 0 0]) (by simp [results, Tryz.results62, go_sem, q0, q1, q2]) rfl ?_
    rw [hpe.out]
    refine ⟨⟨none, 0, 0, rfl, Nat.le_refl _, SpansAt.nil _⟩, ?_⟩
    exact below_set (below_set (below_set hb0 (Nat.le_refl _) _) (Nat.le_refl _) _) (Nat.le_refl _) _
  · have hN1 := num_any none (some ⟨w1.heap.size, 0, none⟩) 0 1 0 1 [] [F] (w1.alloc (.cells #[.int .i64 F] 3)) (RB.nil _ _) (one_int w1 F 3) (by omega) (by omega)
    rw [List.nil_append] at hN1
    have hb1 := hb0.alloc (by have := hb0.size; exact this) (.cells #[.int .i64 F] 3)
    have hB1 := hB0.alloc (.cells #[.int .i64 F] 3)
    replace hN1 := hide hN1
    replace hB0 := hide hB0
    replace hb0 := hide hb0
    replace hb1 := hide hb1
    replace hB1 := hide hB1
    go_wp2_with fail
    refine hN1.out.mono ?_
    rintro e w2 ⟨v2, rfl, ho2, hb2⟩
    have hB2 := hB1.out.below hb2 hB1.out.lt
    have hbw2 := hb1.out.trans (hb2.mono hb1.out.size)
    obtain ⟨A2, c2, rfl, hR2, hc2⟩ := ho2.formT
    obtain ⟨n2, hn2⟩ : ∃ n, n = (numsB [F]).length := ⟨_, rfl⟩
    rw [← hn2] at hR2 hc2 ⊢
    have hX3 := Blk.new w2 34 #[.int .i64 by_, .slice A2 n2 c2, .slice none 0 0]
    have hb3 := (Below.refl w2.heap.size w2).alloc (Nat.le_refl _) (.cells #[.int .i64 by_, .slice A2 n2 c2, .slice none 0 0] 34)
    clear ho2 hb2 hN1 hB1 hb1 q0 q1 q2 f0 f1 f2 hB0 hb0 hz1
    replace hn2 := hide hn2
    replace hB2 := hide hB2
    replace hR2 := hide hR2
    replace hbw2 := hide hbw2
    go_upto_region 5 with (fail)
    obtain ⟨w3, hw3⟩ : ∃ y, y = w2.alloc (.cells #[.int .i64 by_, .slice A2 n2 c2, .slice none 0 0] 34) := ⟨_, rfl⟩
    rw [← hw3] at hX3 hb3 ⊢
    clear hw3
    have hB3 := hB2.out.below hb3 hB2.out.lt
    have hR3 := hR2.out.below hb3
    have hbw3 := hbw2.out.trans (hb3.mono hbw2.out.size)
    have hlt3 := hX3.lt
    have hltB3 := hB3.lt
    have hle : w.heap.size ≤ w2.heap.size := hbw2.out.size
    clear hB2 hR2 hbw2 hb3
    by_cases hm : T < 281474976710655
    · have hpe : Hid (p = ⟨[⟨by_, numsB [F], numsB [T + 1]⟩], false, c⟩) := by rw [Hid, hp.out, if_neg (by omega), if_pos hm]
      have hN4 := num_any none (some ⟨w3.heap.size, 0, none⟩) 0 1 0 1 [] [T + 1] (w3.alloc (.cells #[.int .i64 (T + 1)] 3)) (RB.nil _ _) (one_int w3 (T + 1) 3) (by omega) (by omega)
      rw [List.nil_append] at hN4
      have hwr : IntKind.i64.wrap (T + 1) = T + 1 := IntWalk.i64_in _ (by omega)
      have hb4 := (Below.refl w3.heap.size w3).alloc (Nat.le_refl _) (.cells #[.int .i64 (T + 1)] 3)
      replace hN4 := hide hN4
      replace hX3 := hide hX3
      replace hB3 := hide hB3
      replace hR3 := hide hR3
      replace hbw3 := hide hbw3
      replace hb4 := hide hb4
      go_wp2_with fail
      refine hN4.out.mono ?_
      rintro e w4 ⟨v4, rfl, ho4, hb5⟩
      have hb35 := hb4.out.trans (hb5.mono (by simp))
      have hX5 := hX3.out.below hb35 hlt3
      have hB5 := hB3.out.below hb35 hltB3
      have hR5 := hR3.out.below hb35
      have hbw5 := hbw3.out.trans (hb35.mono hbw3.out.size)
      obtain ⟨A4, c4, rfl, hR4, hc4⟩ := ho4.formT
      obtain ⟨n4, hn4⟩ : ∃ n, n = (numsB [T + 1]).length := ⟨_, rfl⟩
      rw [← hn4] at hR4 hc4 ⊢
      have x0 : w4.cell? ⟨w2.heap.size, 0, none⟩ = some (.int .i64 by_) := hX5.cell 0
      have x1 : w4.cell? ⟨w2.heap.size, 1, none⟩ = some (.slice A2 n2 c2) := hX5.cell 1
      have x2 : w4.cell? ⟨w2.heap.size, 2, none⟩ = some (.slice none 0 0) := hX5.cell 2
      have g2 := hX5.frozen 2
      have hX6 := hX5.set_ 2 (.slice A4 n4 c4)
      have hB6 := hB5.far (p := ⟨w2.heap.size, 2, none⟩) (hB5.ne_ hX5 (by decide)) (.slice A4 n4 c4)
      have hR6 := hR5.set_ (i := 2) hX5 (by decide) (.slice A4 n4 c4)
      have hR46 := hR4.set_ (i := 2) hX5 (by decide) (.slice A4 n4 c4)
      have hbw6 := below_set hbw5 hle (i := 2) (.slice A4 n4 c4)
      replace hX6 := hide hX6
      replace hn4 := hide hn4
      clear ho4 hb5 hN4 hX3 hB3 hR3 hbw3 hb4 hb35 hX5 hB5 hR5 hR4 hbw5
      go_upto_region 7 with (fail)
      obtain ⟨w5, hw5⟩ : ∃ y, y = w4.setCell ⟨w2.heap.size, 2, none⟩ (.slice A4 n4 c4) := ⟨_, rfl⟩
      rw [← hw5] at hX6 hB6 hR6 hR46 hbw6 ⊢
      clear hw5
      obtain ⟨hS, hbF⟩ := plan_done ⟨by_, numsB [F], numsB [T + 1]⟩ c2 c4 hB6 hR6 hR46 hbw6 (Nat.le_refl _) (.slice (some ⟨w5.heap.size, 0, none⟩) 1 1) (.bool false) (.complex .f64 c.re c.im)
      have y0 : w5.cell? ⟨w2.heap.size, 0, none⟩ = some (.int .i64 by_) := hX6.out.cell 0
      have y1 : w5.cell? ⟨w2.heap.size, 1, none⟩ = some (.slice A2 n2 c2) := hX6.out.cell 1
      have y2 : w5.cell? ⟨w2.heap.size, 2, none⟩ = some (.slice A4 n4 c4) := hX6.out.cell 2
      have r0 : w5.cell? ⟨w.heap.size, 0, none⟩ = some (.slice none 0 0) := hB6.cell 0
      have r1 : w5.cell? ⟨w.heap.size, 1, none⟩ = some (.bool false) := hB6.cell 1
      have r2 : w5.cell? ⟨w.heap.size, 2, none⟩ = some (.complex .f64 0 0) := hB6.cell 2
      have f0 := hB6.frozen 0
      have f1 := hB6.frozen 1
      have f2 := hB6.frozen 2
      have hlt := hB6.lt
      replace hS := hide hS
      replace hbF := hide hbF
      clear hX6 hB6 hR6 hR46 hbw6 x0 x1 x2 g2
      go_wp2_with fail
      refine bodyPost_ret (v := .agg #[.slice (some ⟨w5.heap.size, 0, none⟩) 1 1, .bool false, .complex .f64 c.re c.im]) (by simp [results, Tryz.results62, go_sem, r0, r1, r2, hlt]) rfl ?_
      rw [hpe.out]
      exact ⟨⟨_, 1, 1, rfl, Nat.le_refl _, hS.out⟩, hbF.out⟩
    · have hpe : Hid (p = ⟨[⟨by_, numsB [F], []⟩], false, c⟩) := by rw [Hid, hp.out, if_neg (by omega), if_neg hm]
      obtain ⟨hS, hbF⟩ := plan_done ⟨by_, numsB [F], []⟩ c2 0 hB3 hR3 (RBT.nil w3) hbw3 (Nat.le_refl _) (.slice (some ⟨w3.heap.size, 0, none⟩) 1 1) (.bool false) (.complex .f64 c.re c.im)
      have y0 : w3.cell? ⟨w2.heap.size, 0, none⟩ = some (.int .i64 by_) := hX3.cell 0
      have y1 : w3.cell? ⟨w2.heap.size, 1, none⟩ = some (.slice A2 n2 c2) := hX3.cell 1
      have y2 : w3.cell? ⟨w2.heap.size, 2, none⟩ = some (.slice none 0 0) := hX3.cell 2
      have r0 : w3.cell? ⟨w.heap.size, 0, none⟩ = some (.slice none 0 0) := hB3.cell 0
      have r1 : w3.cell? ⟨w.heap.size, 1, none⟩ = some (.bool false) := hB3.cell 1
      have r2 : w3.cell? ⟨w.heap.size, 2, none⟩ = some (.complex .f64 0 0) := hB3.cell 2
      have f0 := hB3.frozen 0
      have f1 := hB3.frozen 1
      have f2 := hB3.frozen 2
      replace hS := hide hS
      replace hbF := hide hbF
      clear hX3 hB3 hR3 hbw3
      go_wp2_with fail
      refine bodyPost_ret (v := .agg #[.slice (some ⟨w3.heap.size, 0, none⟩) 1 1, .bool false, .complex .f64 c.re c.im]) (by simp [results, Tryz.results62, go_sem, r0, r1, r2, hltB3]) rfl ?_
      rw [hpe.out]
      exact ⟨⟨_, 1, 1, rfl, Nat.le_refl _, hS.out⟩, hbF.out⟩
end Go.Proofs.YtnnjcedlomfhoaaGreatDoor
