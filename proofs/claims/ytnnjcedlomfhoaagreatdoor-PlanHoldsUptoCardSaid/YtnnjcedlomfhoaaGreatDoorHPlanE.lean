/-
  Contract of plan.named, of a pattern; of plan.named whole.
-/
import Derived.Test.YtnnjcedlomfhoaaGreatDoorHPlanD
namespace Go.Proofs.YtnnjcedlomfhoaaGreatDoor
open Go.RowKit
set_option linter.unusedVariables false
theorem headB_len : ∀ ps : List Prt, (headB ps).length ≤ 4 * ps.length
  | [] => by simp [headB]
  | .self c :: r => by
    have := headB_len r
    have := enc_len c
    rw [headB, List.length_append, List.length_cons]; omega
  | .one :: r => by simp [headB]
  | .stars d :: r => by simp [headB]
  | .cls no l :: r => by simp [headB]
set_option maxRecDepth 100000 in
theorem head_nil (w : World) : Calls Tryz.prog 58 #[.pointer none] w fun e w' => e = .returned (.tuple #[.string (str []), .bool false]) ∧ w = w' := by
  go_enter Tryz.func58, Tryz.ntmps58
  go_wp2_with fail
  go_ret2
  exact ⟨rfl, rfl⟩
set_option maxRecDepth 100000 in
set_option maxHeartbeats 4000000 in
theorem namedLike_any (w : World) (x : Ask) (hM : MaxL w) (hU : Utf8T w) (h7 : x.op = 7) (hl : x.text.length ≤ 1000) :
    Calls Tryz.prog 38 #[askV x] w (PlanRet w (namedP x)) := by
  obtain ⟨P, hP⟩ : ∃ P, P = namedP x := ⟨_, rfl⟩
  rw [← hP]
  rw [namedP, if_pos h7] at hP
  replace hP := hide hP
  have hsc := run_store_complex
  have hA0 := ask_box w x
  have hbA := (Below.refl w.heap.size w).alloc (Nat.le_refl _) (.cells #[.int .i64 x.kind, .int .i64 x.op, .int .i64 x.a, .int .i64 x.b, .int .i64 x.n, .string (str x.text), .bool x.isText] 54)
  unfold askV
  obtain ⟨kind, op, a, b, nn, text, isText⟩ := x
  dsimp only at *
  subst h7
  have hA1 := hA0.alloc (.cells #[.slice none 0 0, .bool false, .complex .f64 0 0] 28)
  have hB0 := Blk.new (w.alloc (.cells #[.int .i64 kind, .int .i64 7, .int .i64 a, .int .i64 b, .int .i64 nn, .string (str text), .bool isText] 54)) 28 #[.slice none 0 0, .bool false, .complex .f64 0 0]
  have hb0 := hbA.alloc hbA.size (.cells #[.slice none 0 0, .bool false, .complex .f64 0 0] 28)
  go_enter Tryz.func38, Tryz.ntmps38
  go_upto_region 1 with (fail)
  obtain ⟨w1, hw1⟩ : ∃ y, y = (w.alloc (.cells #[.int .i64 kind, .int .i64 7, .int .i64 a, .int .i64 b, .int .i64 nn, .string (str text), .bool isText] 54)).alloc (.cells #[.slice none 0 0, .bool false, .complex .f64 0 0] 28) := ⟨_, rfl⟩
  rw [← hw1] at hA1 hB0 hb0 ⊢
  have hg : (w.alloc (.cells #[.int .i64 kind, .int .i64 7, .int .i64 a, .int .i64 b, .int .i64 nn, .string (str text), .bool isText] 54)).heap.size = w.heap.size + 1 := by simp
  rw [hg] at hB0
  have hM1 := hM.below hb0
  have hb0' := hb0
  have p1 : w1.cell? ⟨w.heap.size, 1, none⟩ = some (.int .i64 7) := hA1.cell 1
  have p5 : w1.cell? ⟨w.heap.size, 5, none⟩ = some (.string (str text)) := hA1.cell 5
  have hU1 := hide (hU.below hb0')
  clear hw1 hU hA0 hbA hM hg hA1
  replace hB0 := hide hB0
  replace hb0 := hide hb0
  replace hM1 := hide hM1
  go_quiet (fail)
  obtain ⟨w2, hw2⟩ : ∃ y, y = w1.drewN nq := ⟨_, rfl⟩
  have hb12 : Below w1.heap.size w1 w2 := by rw [hw2]; exact below_drewN (Below.refl _ _) nq
  have p5' : w2.cell? ⟨w.heap.size, 5, none⟩ = some (.string (str text)) := by rw [hw2]; exact p5
  rw [← hw2]
  have hB2 := hide (hB0.out.below hb12 hB0.out.lt)
  have hbw2 := hide (hb0.out.trans (hb12.mono hb0.out.size))
  have p1' : w2.cell? ⟨w.heap.size, 1, none⟩ = some (.int .i64 7) := by rw [hw2]; exact p1
  have hG := hide (gnew_any w2 (str text) (hU1.out.below hb12))
  have hM2 := hide (hM1.out.below hb12)
  rw [str_toList] at hG
  clear hw2 hB0 hb0 hM1 hU1 hb12 p1 p5
  go_wp2_with fail
  refine hG.out.mono ?_
  rintro e w3 ⟨hb3, hcase⟩
  have hB3 := hide (hB2.out.below hb3 hB2.out.lt)
  have hbw3 := hide (hbw2.out.trans (hb3.mono hbw2.out.size))
  have hM3 := hide (hM2.out.below hb3)
  have hlt2 : w.heap.size < w2.heap.size := by have := hB2.out.lt; omega
  have p13 : w3.cell? ⟨w.heap.size, 1, none⟩ = some (.int .i64 7) := (hb3.cell (p := ⟨w.heap.size, 1, none⟩) hlt2).trans p1'
  clear hG hB2 hbw2 hM2 hb3 p1' p5'
  rcases hcase with ⟨ps, g, hps, rfl, hgl, hGl⟩ | ⟨hn, rfl⟩
  · have hH := hide (head_any w3 g ps hGl (globP_len hps) (fun c hc => by have := globP_self hps c hc; omega))
    have hHl : (headB ps).length ≤ 400 := by have := headB_len ps; have := globP_len hps; omega
    have hP := hP.out
    rw [hps] at hP
    dsimp only at hP
    clear hGl hps
    replace hP := hide hP
    go_wp2_with fail
    refine hH.out.mono ?_
    rintro e w4 ⟨rfl, hb4⟩
    have hB4 := hide (hB3.out.below hb4 hB3.out.lt)
    have hbw4 := hide (hbw3.out.trans (hb4.mono hbw3.out.size))
    have hM4 := hide (hM3.out.below hb4)
    have hlt3 : w.heap.size < w3.heap.size := by have := hB3.out.lt; omega
    have p14 : w4.cell? ⟨w.heap.size, 1, none⟩ = some (.int .i64 7) := (hb4.cell (p := ⟨w.heap.size, 1, none⟩) hlt3).trans p13
    clear hH hB3 hbw3 hM3 hb4 p13
    generalize headB ps = H at *
    generalize headAll ps = L at *
    cases L with
    | true =>
      have hpe : Hid (P = beginsP (textB H) cOne) := by rw [Hid, hP.out, if_pos rfl]
      clear hP
      have hT2 := hide (textOne_any w4 hM4.out H 9 (by omega))
      have hbT := hide ((Below.refl w4.heap.size w4).alloc (Nat.le_refl _) (.cells #[.string (str H)] 9))
      clear hM4
      go_wp2_with fail
      refine hT2.out.mono ?_
      rintro e w5 ⟨v3, rfl, ho3, hb5⟩
      have hb45 := hbT.out.trans (hb5.mono hbT.out.size)
      have hB5 := hide (hB4.out.below hb45 hB4.out.lt)
      have hbw5 := hide (hbw4.out.trans (hb45.mono hbw4.out.size))
      obtain ⟨A3, c3, rfl, hR3, hc3⟩ := ho3.formT
      have htl := text_len H
      obtain ⟨n3, hn3⟩ : ∃ n, n = (textB H).length := ⟨_, rfl⟩
      rw [← hn3] at hR3 hc3 ⊢
      have hC := hide (begins_any w5 A3 n3 c3 (textB H) cOne hR3 (by omega))
      clear hT2 ho3 hb5 hb45 hbT hB4 hbw4 hR3 htl
      replace hn3 := hide hn3
      rw [cOne] at hC
      go_wp2_with fail
      refine hC.out.mono ?_
      rintro e w9 ⟨⟨A4, n4, k4, rfl, hnk, hS⟩, hb9⟩
      have hB9 := hB5.out.below hb9 hB5.out.lt
      have hbw9 := hbw5.out.trans (hb9.mono hbw5.out.size)
      obtain ⟨q, hq⟩ : ∃ q, q = beginsP (textB H) cOne := ⟨_, rfl⟩
      rw [show (⟨4607182418800017408, 4607182418800017408⟩ : Cost) = cOne from rfl] at hS ⊢
      rw [← hq] at hS ⊢
      obtain ⟨hS2, hbF⟩ := plan_back hB9 hS hbw9 (Nat.le_succ _) (.slice A4 n4 k4) (.bool q.all) (.complex .f64 q.cost.re q.cost.im)
      have r0 : w9.cell? ⟨w.heap.size + 1, 0, none⟩ = some (.slice none 0 0) := hB9.cell 0
      have r1 : w9.cell? ⟨w.heap.size + 1, 1, none⟩ = some (.bool false) := hB9.cell 1
      have r2 : w9.cell? ⟨w.heap.size + 1, 2, none⟩ = some (.complex .f64 0 0) := hB9.cell 2
      have f0 := hB9.frozen 0
      have f1 := hB9.frozen 1
      have f2 := hB9.frozen 2
      replace hS2 := hide hS2
      replace hbF := hide hbF
      replace hq := hide hq
      clear hB9 hS hbw9 hb9 hB5 hbw5 hC
      go_wp2_with fail
      refine bodyPost_ret (v := .agg #[.slice A4 n4 k4, .bool q.all, .complex .f64 q.cost.re q.cost.im]) (by simp [results, Tryz.results38, go_sem, r0, r1, r2]) rfl ?_
      rw [hpe.out, ← hq.out]
      exact ⟨⟨_, _, _, rfl, hnk, hS2.out⟩, hbF.out⟩
    | false =>
      replace hP := hP.out
      rw [if_neg Bool.false_ne_true] at hP
      replace hP := hide hP
      cases H with
      | nil =>
        have hpe : Hid (P = wholeP) := by rw [Hid, hP.out, if_pos rfl]
        have hC := hide (whole_ret w4)
        have hemp : (str []).toList.isEmpty = true := by rw [str_bytes]; rfl
        clear hP
        go_wp2_with fail
        refine hC.out.mono ?_
        rintro e w9 ⟨⟨A4, n4, k4, rfl, hnk, hS⟩, hb9⟩
        have hB9 := hB4.out.below hb9 hB4.out.lt
        have hbw9 := hbw4.out.trans (hb9.mono hbw4.out.size)
        obtain ⟨q, hq⟩ : ∃ q, q = wholeP := ⟨_, rfl⟩
        rw [← hq] at hS ⊢
        obtain ⟨hS2, hbF⟩ := plan_back hB9 hS hbw9 (Nat.le_succ _) (.slice A4 n4 k4) (.bool q.all) (.complex .f64 q.cost.re q.cost.im)
        have r0 : w9.cell? ⟨w.heap.size + 1, 0, none⟩ = some (.slice none 0 0) := hB9.cell 0
        have r1 : w9.cell? ⟨w.heap.size + 1, 1, none⟩ = some (.bool false) := hB9.cell 1
        have r2 : w9.cell? ⟨w.heap.size + 1, 2, none⟩ = some (.complex .f64 0 0) := hB9.cell 2
        have f0 := hB9.frozen 0
        have f1 := hB9.frozen 1
        have f2 := hB9.frozen 2
        replace hS2 := hide hS2
        replace hbF := hide hbF
        replace hq := hide hq
        clear hB9 hS hbw9 hb9 hB4 hbw4 hC
        go_wp2_with fail
        refine bodyPost_ret (v := .agg #[.slice A4 n4 k4, .bool q.all, .complex .f64 q.cost.re q.cost.im]) (by simp [results, Tryz.results38, go_sem, r0, r1, r2]) rfl ?_
        rw [hpe.out, ← hq.out]
        exact ⟨⟨_, _, _, rfl, hnk, hS2.out⟩, hbF.out⟩
      | cons c H' =>
        have hpe : Hid (P = beginsP ((c :: H').flatMap txtF) cSome) := by rw [Hid, hP.out, if_neg (by simp)]
        clear hP
        generalize hHH : c :: H' = HH at *
        have hemp : (str HH).toList.isEmpty = false := by rw [str_bytes, ← hHH]; rfl
        obtain ⟨hml1, ml, hml⟩ := hM4.out
        have hrp := hide ((replaceAll_one 0 [0, 255] (str HH).data.toList rfl).trans (by rw [txt_rep, str_toList]))
        have hc1 : Lib.countB (str HH) ⟨#[0]⟩ ≤ (str HH).size + 1 := by rw [← data_len]; exact Lib.count_le _ _
        have hsz := str_size HH
        have hRp := hide (Tryz.strings_ReplaceAll (str HH) ⟨#[0]⟩ ⟨#[0, 255]⟩ ml w4 (by omega) hml (by decide) (by show (str HH).size + _ * 2 ≤ _; omega))
        clear hc1 hsz hml hml1
        go_wp2_with fail
        refine hRp.out.mono ?_
        rintro e w5 ⟨rfl, hb5⟩
        rw [show (ByteArray.mk (Lib.replaceAll (str HH).data.toList (ByteArray.mk #[0]).data.toList (ByteArray.mk #[0, 255]).data.toList).toArray) = str (HH.flatMap txtF) from congrArg str hrp.out]
        have hzl : (HH.flatMap txtF).length ≤ 800 := by
          have := rep_len 0 [0, 255] (by decide) HH
          rw [txt_rep] at this
          omega
        obtain ⟨Z, hZ⟩ : ∃ Z, Z = HH.flatMap txtF := ⟨_, rfl⟩
        rw [← hZ] at hzl hpe ⊢
        replace hZ := hide hZ
        obtain ⟨K, C, hcv, hKC⟩ := bytes_convT (str Z)
        rw [str_size] at hcv hKC
        rw [str_toList] at hKC
        obtain ⟨nz, hnz⟩ : ∃ n, n = Z.length := ⟨_, rfl⟩
        rw [← hnz] at hcv hKC hzl
        replace hnz := hide hnz
        have hb56 := hb5.trans (((Below.refl w5.heap.size w5).drew.alloc (by simp) (C w5)).mono hb5.size)
        have hB5 := hide (hB4.out.below hb56 hB4.out.lt)
        have hbw5 := hide (hbw4.out.trans (hb56.mono hbw4.out.size))
        have hC := begins_any (w5.drew.alloc (C w5)) (some ⟨w5.heap.size, 0, none⟩) nz (K w5) Z cSome (hKC w5) (by omega)
        rw [cSome] at hC
        replace hC := hide hC
        clear hKC hb56 hb5 hB4 hbw4 hRp hrp hM4
        go_wp2_with fail
        refine hC.out.mono ?_
        rintro e w9 ⟨⟨A4, n4, k4, rfl, hnk, hS⟩, hb9⟩
        have hB9 := hB5.out.below hb9 hB5.out.lt
        have hbw9 := hbw5.out.trans (hb9.mono hbw5.out.size)
        obtain ⟨q, hq⟩ : ∃ q, q = beginsP Z cSome := ⟨_, rfl⟩
        rw [show (⟨4620693217682128896, 4607182418800017408⟩ : Cost) = cSome from rfl] at hS ⊢
        rw [← hq] at hS ⊢
        obtain ⟨hS2, hbF⟩ := plan_back hB9 hS hbw9 (Nat.le_succ _) (.slice A4 n4 k4) (.bool q.all) (.complex .f64 q.cost.re q.cost.im)
        have r0 : w9.cell? ⟨w.heap.size + 1, 0, none⟩ = some (.slice none 0 0) := hB9.cell 0
        have r1 : w9.cell? ⟨w.heap.size + 1, 1, none⟩ = some (.bool false) := hB9.cell 1
        have r2 : w9.cell? ⟨w.heap.size + 1, 2, none⟩ = some (.complex .f64 0 0) := hB9.cell 2
        have f0 := hB9.frozen 0
        have f1 := hB9.frozen 1
        have f2 := hB9.frozen 2
        replace hS2 := hide hS2
        replace hbF := hide hbF
        replace hq := hide hq
        clear hB9 hS hbw9 hb9 hB5 hbw5 hC
        go_wp2_with fail
        refine bodyPost_ret (v := .agg #[.slice A4 n4 k4, .bool q.all, .complex .f64 q.cost.re q.cost.im]) (by simp [results, Tryz.results38, go_sem, r0, r1, r2]) rfl ?_
        rw [hpe.out, ← hq.out]
        exact ⟨⟨_, _, _, rfl, hnk, hS2.out⟩, hbF.out⟩
  · have hpe : Hid (P = wholeP) := by rw [Hid, hP.out, hn]
    clear hP hn
    go_wp2_with fail
    refine (head_nil w3).mono ?_
    rintro e w4 ⟨rfl, rfl⟩
    have hC := hide (whole_ret w3)
    have hemp : (str []).toList.isEmpty = true := by rw [str_bytes]; rfl
    go_wp2_with fail
    refine hC.out.mono ?_
    rintro e w9 ⟨⟨A4, n4, k4, rfl, hnk, hS⟩, hb9⟩
    have hB9 := hB3.out.below hb9 hB3.out.lt
    have hbw9 := hbw3.out.trans (hb9.mono hbw3.out.size)
    obtain ⟨q, hq⟩ : ∃ q, q = wholeP := ⟨_, rfl⟩
    rw [← hq] at hS ⊢
    obtain ⟨hS2, hbF⟩ := plan_back hB9 hS hbw9 (Nat.le_succ _) (.slice A4 n4 k4) (.bool q.all) (.complex .f64 q.cost.re q.cost.im)
    have r0 : w9.cell? ⟨w.heap.size + 1, 0, none⟩ = some (.slice none 0 0) := hB9.cell 0
    have r1 : w9.cell? ⟨w.heap.size + 1, 1, none⟩ = some (.bool false) := hB9.cell 1
    have r2 : w9.cell? ⟨w.heap.size + 1, 2, none⟩ = some (.complex .f64 0 0) := hB9.cell 2
    have f0 := hB9.frozen 0
    have f1 := hB9.frozen 1
    have f2 := hB9.frozen 2
    replace hS2 := hide hS2
    replace hbF := hide hbF
    replace hq := hide hq
    clear hB9 hS hbw9 hb9 hB3 hbw3 hC
    go_wp2_with fail
    refine bodyPost_ret (v := .agg #[.slice A4 n4 k4, .bool q.all, .complex .f64 q.cost.re q.cost.im]) (by simp [results, Tryz.results38, go_sem, r0, r1, r2]) rfl ?_
    rw [hpe.out, ← hq.out]
    exact ⟨⟨_, _, _, rfl, hnk, hS2.out⟩, hbF.out⟩
end Go.Proofs.YtnnjcedlomfhoaaGreatDoor
