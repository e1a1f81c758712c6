/-
  The walk of the law PlanOrs.
-/
import Derived.Test.YtnnjcedlomfhoaaGreatDoorOLawPlanCheaper
namespace Go.Proofs.YtnnjcedlomfhoaaGreatDoor
open Go.RowKit
set_option linter.unusedVariables false
def orT (a b : List UInt8) : List UInt8 := [40] ++ a ++ [41, 32, 111, 114, 32, 40] ++ b ++ [41]
def shortS (s : SpanV) : Prop := s.from_.length ≤ 1000 ∧ s.to_.length ≤ 1000
def shortP (p : PlanV) : Prop := ∀ s ∈ p.spans, shortS s
theorem whole_short : shortP wholeP := fun s h => by simp [wholeP] at h
theorem aboveB_short (l : List UInt8) (h : l.length ≤ 1000) : (aboveB l).length ≤ 1000 := by
  have h1 : ∀ l : List UInt8, (aboveR l).length ≤ l.length := by
    intro l
    induction l with
    | nil => exact Nat.le_refl _
    | cons b r ih =>
      rw [aboveR]
      split
      · rw [List.length_cons]; omega
      · simp
  have := h1 l.reverse
  unfold aboveB
  rw [List.length_reverse] at this ⊢
  omega
theorem begins_short (b : List UInt8) (c : Cost) (h : b.length ≤ 1000) : shortP (beginsP b c) := fun s hs => by
  have e : s = ⟨0, b, aboveB b⟩ := by simpa [beginsP] using hs
  subst e
  exact ⟨h, aboveB_short b h⟩
theorem numbers_short (b f t : Int) (c : Cost) : shortP (numbersP b f t c) := fun s hs => by
  unfold numbersP at hs
  split at hs
  · simp at hs
  · simp only [List.mem_singleton] at hs
    subst hs
    refine ⟨by simp [numsB, numB], ?_⟩
    dsimp only
    split
    · simp [numsB, numB]
    · exact Nat.zero_le _
theorem compared_short (b o n : Int) : shortP (comparedP b o n) := by
  unfold comparedP
  split
  · exact numbers_short _ _ _ _
  split
  · exact numbers_short _ _ _ _
  split
  · exact numbers_short _ _ _ _
  split
  · exact numbers_short _ _ _ _
  split
  · exact numbers_short _ _ _ _
  · exact whole_short
theorem txt_short (l : List UInt8) : (l.flatMap txtF).length ≤ 2 * l.length := by
  induction l with
  | nil => simp
  | cons x l ih =>
    rw [List.flatMap_cons, List.length_append, List.length_cons]
    have : (txtF x).length ≤ 2 := by unfold txtF; split <;> simp
    omega
theorem named_short (x : Ask) (h : x.text.length ≤ 400) : shortP (namedP x) := by
  unfold namedP
  have h1 := txt_short x.text
  split
  · split
    · exact whole_short
    · rename_i ps hp
      have h2 : (headB ps).length ≤ 400 := by have := headB_len ps; have := globP_len hp; omega
      have h3 := txt_short (headB ps)
      split
      · exact begins_short _ _ (by unfold textB; rw [List.length_append]; simp only [List.length_cons, List.length_nil]; omega)
      · split
        · exact whole_short
        · exact begins_short _ _ (by omega)
  · split
    · exact begins_short _ _ (by unfold textB; rw [List.length_append]; simp only [List.length_cons, List.length_nil]; omega)
    · exact whole_short
theorem term_short (x : Ask) (h : x.text.length ≤ 400) : shortP (planTP x) := by
  unfold planTP
  split
  · exact named_short x h
  split
  · exact compared_short _ _ _
  split
  · exact compared_short _ _ _
  split
  · exact compared_short _ _ _
  · exact whole_short
theorem planQ_short : ∀ (q : Q) (p : Nat), (∀ a ∈ q.parts p, a.text.length ≤ 400) → shortP (planQ q)
  | .term a, p, h => term_short a (h a (by simp [Q.parts]))
  | .neg q, p, h => whole_short
  | .two k x y, p, h => by
    have h1 := planQ_short x p (fun a ha => h a (by rw [Q.parts]; exact List.mem_append_left _ ha))
    have h2 := planQ_short y (p + x.size) (fun a ha => h a (by rw [Q.parts]; exact List.mem_append_right _ (List.mem_append_left _ ha)))
    rw [planQ]
    unfold joinP
    split
    · split
      · exact h2
      · exact h1
    · split
      · exact whole_short
      · intro s hs
        rcases List.mem_append.1 hs with hs | hs
        · exact h1 s hs
        · exact h2 s hs
theorem formQ_short {l : List UInt8} {x : Q} (h : formQ l = some x) : ∀ a ∈ x.parts 0, a.text.length ≤ 400 := by
  obtain ⟨q, hq, -, -, rfl⟩ := formQ_some h
  exact lay_text q false 0 (textQ_ok hq)
set_option maxRecDepth 100000 in
set_option maxHeartbeats 8000000 in
theorem planOrs_walk (w : World) (hA : Tabs26 w) (a : ByteArray) (ha : a.size ≤ reachBytes) (b : ByteArray) (hb : b.size ≤ reachBytes) :
    Calls Tryz.prog 4 #[.string a, .string b] w fun e w' => e = .returned (.bool true) ∧ Below w.heap.size w w' := by
  unfold reachBytes at ha hb
  have hsc := run_store_complex
  have hnil := eq_nil
  have hA' := hide hA
  clear hA
  go_enter Tryz.func4, Tryz.ntmps4
  go_wp2_with fail
  refine (wakes26_any w hA'.out).mono ?_
  rintro e w1 ⟨rfl, hb1⟩
  have hA1 := hide (hA'.out.below hb1)
  have hsz1 := hb1.size
  replace hb1 := hide hb1
  clear hA'
  by_cases h300 : a.size + b.size ≤ 300
  · have n300 : decide ((300 : Int) < (a.size : Int) + (b.size : Int)) = false := by simp; omega
    clear ha hb
    have hda := hide (data_len a)
    have hdb := hide (data_len b)
    have hcat : Hid (ByteArray.mk #[40] ++ a ++ ByteArray.mk #[41, 32, 111, 114, 32, 40] ++ b ++ ByteArray.mk #[41] = str (orT a.data.toList b.data.toList)) := by
      show str [40] ++ a ++ str [41, 32, 111, 114, 32, 40] ++ b ++ str [41] = _
      conv => lhs; rw [← str_eta' a, ← str_eta' b]
      simp only [str_append, orT]
    have hjl : (str (orT a.data.toList b.data.toList)).size ≤ 1000 := by
      rw [str_size]
      simp [orT]
      omega
    replace hjl := hide hjl
    go_wp2_with fail
    refine (form_any w1 hA1.out.2.1 hA1.out.2.2 a (by omega)).mono ?_
    rintro e w2 ⟨A1, n1, c1, rfl, hF1, hb2⟩
    have hA2 := hide (hA1.out.below hb2)
    have hbw2 := hide (hb1.out.trans (hb2.mono hsz1))
    have hsz2 := hbw2.out.size
    replace hF1 := hide hF1
    clear hb1 hA1 hb2
    go_wp2_with fail
    refine (form_any w2 hA2.out.2.1 hA2.out.2.2 b (by omega)).mono ?_
    rintro e w3 ⟨A2, n2, c2, rfl, hF2, hb3⟩
    have hA3 := hide (hA2.out.below hb3)
    have hbw3 := hide (hbw2.out.trans (hb3.mono hsz2))
    have hsz3 := hbw3.out.size
    replace hF1 := hide (hF1.out.below hb3)
    replace hF2 := hide hF2
    clear hbw2 hA2 hb3 hsz1 hsz2
    go_wp2_with fail
    rw [hcat.out]
    refine (form_any w3 hA3.out.2.1 hA3.out.2.2 (str (orT a.data.toList b.data.toList)) (by have := hjl.out; omega)).mono ?_
    rintro e w4 ⟨A3, n3, c3, rfl, hF3, hb4⟩
    rw [str_toList] at hF3
    have hA4 := hA3.out.below hb4
    have hbw4 := hbw3.out.trans (hb4.mono hsz3)
    have hsz4 := hbw4.size
    replace hF1 := hF1.out.below hb4
    replace hF2 := hF2.out.below hb4
    clear hbw3 hA3 hb4 hsz3 hcat hjl
    rcases hF1 with ⟨-, rfl⟩ | ⟨q1, ad1, hq1, rfl, rfl, hR1⟩
    · clear hF2 hF3 hA4
      go_wp2_with fail
      go_ret
      exact ⟨rfl, hbw4⟩
    rcases hF2 with ⟨-, rfl⟩ | ⟨q2, ad2, hq2, rfl, rfl, hR2⟩
    · clear hF3 hA4 hR1
      go_wp2_with fail
      go_ret
      exact ⟨rfl, hbw4⟩
    rcases hF3 with ⟨-, rfl⟩ | ⟨q3, ad3, hq3, rfl, rfl, hR3⟩
    · clear hA4 hR1 hR2
      go_wp2_with fail
      go_ret
      exact ⟨rfl, hbw4⟩
    obtain ⟨g1, g2, g3⟩ := formQ_fine hq1
    obtain ⟨i1, i2, i3⟩ := formQ_fine hq2
    obtain ⟨j1, j2, j3⟩ := formQ_fine hq3
    have g3' := formQ_short hq1
    have i3' := formQ_short hq2
    obtain rfl := formQ_or hq1 hq2 (by rw [hda.out, hdb.out]; exact h300) hq3
    have hpl : Hid (planQ (.two 1 q1 q2) = if ((planQ q1).all || (planQ q2).all) = true then wholeP else ⟨(planQ q1).spans ++ (planQ q2).spans, false, (planQ q1).cost.plus (planQ q2).cost⟩) := by
      rw [Hid, planQ, joinP, if_neg (by decide)]
    have fl1 := (planQ_fine q1).1
    have fl2 := (planQ_fine q2).1
    have sh1 := hide (planQ_short q1 0 g3')
    have sh2 := hide (planQ_short q2 0 i3')
    replace fl1 : (planQ q1).spans.length ≤ 400 := by omega
    replace fl2 : (planQ q2).spans.length ≤ 400 := by omega
    have ok1 := (planQ_fine q1).2
    have ok2 := (planQ_fine q2).2
    have hsz2 : (Q.two 1 q1 q2).size = q1.size + q2.size + 1 := rfl
    obtain ⟨m1, hm1⟩ : ∃ m, m = q1.size := ⟨_, rfl⟩
    obtain ⟨m2, hm2⟩ : ∃ m, m = q2.size := ⟨_, rfl⟩
    obtain ⟨m3, hm3⟩ : ∃ m, m = (Q.two 1 q1 q2).size := ⟨_, rfl⟩
    have hN1 := hide (pnew_any w4 (some ad1) m1 c1 q1 (by rw [hm1]; exact hR1) g1 (by omega) g3 hA4.1 hA4.2.1)
    have hN2 := hide (fun (wx : World) (hb : Below w4.heap.size w4 wx) => pnew_any wx (some ad2) m2 c2 q2 (by rw [hm2]; exact (hR2.below hb).more hb.size) i1 (by omega) i3 (hA4.1.below hb) (hA4.2.1.below hb))
    have hN3 := hide (fun (wx : World) (hb : Below w4.heap.size w4 wx) => pnew_any wx (some ad3) m3 c3 (.two 1 q1 q2) (by rw [hm3]; exact (hR3.below hb).more hb.size) j1 (by omega) j3 (hA4.1.below hb) (hA4.2.1.below hb))
    rw [← hm1, ← hm2, ← hm3]
    generalize planQ (.two 1 q1 q2) = p3 at *
    generalize planQ q1 = p1 at *
    generalize planQ q2 = p2 at *
    replace hbw4 := hide hbw4
    clear hR1 hR2 hR3 hA4 hm1 hm2 hm3 hsz2 g1 g2 g3 i1 i2 i3 j1 j2 j3 hq1 hq2 hq3
    go_wp2_with fail
    refine hN1.out.mono ?_
    rintro e w5 ⟨⟨A1, n1, k1, rfl, hnk1, hS1⟩, hb5⟩
    replace hN2 := hide (hN2.out w5 hb5)
    replace hb5 := hide hb5
    replace hS1 := hide hS1
    clear hN1
    go_wp2_with fail
    refine hN2.out.mono ?_
    rintro e w6 ⟨⟨A2, n2, k2, rfl, hnk2, hS2⟩, hb6⟩
    have hb46 := hb5.out.trans (hb6.mono hb5.out.size)
    replace hN3 := hide (hN3.out w6 hb46)
    replace hS1 := hide (hS1.out.below hb6)
    replace hb46 := hide hb46
    replace hS2 := hide hS2
    clear hN2 hb5 hb6
    go_wp2_with fail
    refine hN3.out.mono ?_
    rintro e w7 ⟨⟨A3, n3, k3, rfl, hnk3, hS3⟩, hb7⟩
    have hbw7 := hide (hbw4.out.trans ((hb46.out.trans (hb7.mono hb46.out.size)).mono hsz4))
    replace hS1 := hide (hS1.out.below hb7)
    replace hS2 := hide (hS2.out.below hb7)
    replace hS3 := hide hS3
    clear hN3 hb46 hb7 hbw4
    go_upto_region 9 with (fail)
    obtain ⟨hP3, hb8⟩ := P3.mk' w7 (pcs A1 n1 k1 p1) (pcs A2 n2 k2 p2) (pcs A3 n3 k3 p3)
    have hbw := hide (hbw7.out.trans (hb8.mono hbw7.out.size))
    obtain ⟨w8, hw8⟩ : ∃ y, y = ((w7.alloc (.cells #[.slice A1 n1 k1, .bool p1.all, .complex .f64 p1.cost.re p1.cost.im] 28)).alloc (.cells #[.slice A2 n2 k2, .bool p2.all, .complex .f64 p2.cost.re p2.cost.im] 28)).alloc (.cells #[.slice A3 n3 k3, .bool p3.all, .complex .f64 p3.cost.re p3.cost.im] 28) := ⟨_, rfl⟩
    rw [show ((w7.alloc (.cells (pcs A1 n1 k1 p1) 28)).alloc (.cells (pcs A2 n2 k2 p2) 28)).alloc (.cells (pcs A3 n3 k3 p3) 28) = w8 from hw8.symm] at hP3 hbw hb8
    replace hS1 := hide (hS1.out.below hb8)
    replace hS2 := hide (hS2.out.below hb8)
    replace hS3 := hide (hS3.out.below hb8)
    rw [← hw8]
    clear hw8 hb8 hbw7 hda hdb hsz4
    obtain ⟨x0, x1, x2, y0, y1, y2, z0, z1, z2⟩ := hP3.cells
    obtain ⟨hsok, hsum⟩ := Cost.plus_ok ok1 ok2
    have hcs := fun t w => run_complex_sum (P := Tryz.prog) w .add (Or.inl rfl) t .f64 _ _ _ _ _ _ hsum
    obtain ⟨pa, hpa⟩ : ∃ pa, pa = p1.all := ⟨_, rfl⟩
    obtain ⟨qa, hqa⟩ : ∃ qa, qa = p2.all := ⟨_, rfl⟩
    rw [← hpa] at x1 hpl
    rw [← hqa] at y1 hpl
    have hn1 := hS1.out.1
    have hn2 := hS2.out.1
    have hn3 := hS3.out.1
    by_cases hall : (pa || qa) = true
    · have hp3 : p3 = wholeP := by rw [hpl.out, if_pos hall]
      subst hp3
      have hn0 : n3 = 0 := hn3
      subst hn0
      replace z1 : w8.cell? ⟨w7.heap.size + 2, 1, none⟩ = some (.bool true) := z1
      replace z2 : w8.cell? ⟨w7.heap.size + 2, 2, none⟩ = some (.complex .f64 4652007308841189376 0) := z2
      clear hpl hS1 hS2 hS3 hsum hcs hsok ok1 ok2 fl1 fl2 sh1 sh2 hn1 hn2 hn3 hpa hqa hP3
      have o1 : (FloatKind.f64.format.order 4652007308841189376 4652007308841189376 == some .eq) = true := by kernel_rfl
      have o2 : (FloatKind.f64.format.order 0 0 == some .eq) = true := by kernel_rfl
      cases pa with
      | true =>
        clear hall
        go_wp2_with fail
        go_ret
        exact ⟨by simp, hbw.out⟩
      | false =>
        rw [Bool.false_or] at hall
        subst hall
        go_wp2_with fail
        go_ret
        exact ⟨by simp, hbw.out⟩
    · have hall2 : pa = false ∧ qa = false := by simpa using hall
      obtain ⟨rfl, rfl⟩ := hall2
      have hp3 : p3 = ⟨p1.spans ++ p2.spans, false, p1.cost.plus p2.cost⟩ := by rw [hpl.out, if_neg hall]
      have hsp : Hid (p3.spans = p1.spans ++ p2.spans) := by rw [Hid, hp3]
      have hca : p3.all = false := by rw [hp3]
      have hcc : p1.cost.plus p2.cost = p3.cost := by rw [hp3]
      rw [hcc] at hsok hsum hcs
      have hs3 := Cost.same_self hsok
      unfold Cost.same ordW at hs3
      have o1 : (FloatKind.f64.format.order p3.cost.re p3.cost.re == some .eq) = true := by revert hs3; cases (FloatKind.f64.format.order p3.cost.re p3.cost.re == some .eq) <;> simp
      have o2 : (FloatKind.f64.format.order p3.cost.im p3.cost.im == some .eq) = true := by revert hs3; cases (FloatKind.f64.format.order p3.cost.im p3.cost.im == some .eq) <;> simp
      rw [hca] at z1
      have hn33 : (n3 : Int) = (n1 : Int) + (n2 : Int) := by rw [hn3, hn1, hn2, hsp.out, List.length_append]; push_cast; rfl
      have hb1k : n1 ≤ 400 := by omega
      have hb2k : n2 ≤ 400 := by omega
      have hln : (n3 != n1 + n2) = false := by simp; omega
      have hlnI : ((n3 : Int) != (n1 : Int) + (n2 : Int)) = false := by simp; omega
      have hlenA := hide (show p1.spans.length = n1 from hn1.symm)
      have hlenB := hide (show p2.spans.length = n2 from hn2.symm)
      have hlenC := hide (show p3.spans.length = n3 from hn3.symm)
      have hP3' := hide hP3
      have sh3 : Hid (shortP p3) := fun s hs => by rw [hsp.out] at hs; exact (List.mem_append.1 hs).elim (sh1.out s) (sh2.out s)
      clear hpl hsum hs3 hp3 hall hcc ok1 ok2 hpa hqa hca hsok hn1 hn2 hn3 hP3 fl1 fl2
      go_wp2_with fail
      clear x0 x1 x2 y0 y1 y2 z0 z1 z2 hcs o1 o2 hln hlnI
      go_loopw [96] (fun v96 wr => ∃ k : Nat, v96 = .int .i64 k ∧ k ≤ n3 ∧ Below w8.heap.size w8 wr) (fun v96 _ => n3 - (intOf v96).toNat)
      case atStart => exact ⟨0, rfl, by omega, Below.refl _ _⟩
      case round =>
        obtain ⟨k, rfl, hk, hbr⟩ := hrel
        have hsz := hbr.size
        by_cases h1 : k < n3
        · have h1' : (k : Int) < (n3 : Int) := by omega
          have hk3 : k < p3.spans.length := by rw [hlenC.out]; exact h1
          obtain ⟨d3, fA, fn, fc, tA, tn, tc, rfl, hdb, c0, c1, c2, hRf, hRt⟩ := (hS3.out.below hbr).elem h1 hk3
          have hX := Blk.new wr 34 #[.int .i64 (p3.spans[k]).by_, .slice fA fn fc, .slice tA tn tc]
          have hbX := (Below.refl wr.heap.size wr).alloc (Nat.le_refl _) (.cells #[.int .i64 (p3.spans[k]).by_, .slice fA fn fc, .slice tA tn tc] 34)
          go_upto_region 16 with (fail)
          obtain ⟨wa, hwa⟩ : ∃ y, y = wr.alloc (.cells #[.int .i64 (p3.spans[k]).by_, .slice fA fn fc, .slice tA tn tc] 34) := ⟨_, rfl⟩
          have hza : wa.heap.size = wr.heap.size + 1 := by rw [hwa]; simp
          rw [← hwa] at hX hbX ⊢
          have hY := Blk.new wa 34 #[.int .i64 0, .slice none 0 0, .slice none 0 0]
          have hXb := hX.alloc (.cells #[.int .i64 0, .slice none 0 0, .slice none 0 0] 34)
          have hbY := hbX.alloc hbX.size (.cells #[.int .i64 0, .slice none 0 0, .slice none 0 0] 34)
          rw [hza] at hY
          clear hwa c0 c1 c2
          go_upto_region 17 with (fail)
          obtain ⟨wb, hwb⟩ : ∃ y, y = wa.alloc (.cells #[.int .i64 0, .slice none 0 0, .slice none 0 0] 34) := ⟨_, rfl⟩
          rw [← hwb] at hY hXb hbY ⊢
          have hbb := hbr.trans (hbY.mono hsz)
          obtain ⟨x0, -, -, y0, -, -, z0, -, -⟩ := (hP3'.out.below hbb).cells
          have hsh := hide (sh3.out _ (List.getElem_mem hk3))
          have t0 : wb.cell? ⟨wr.heap.size + 1, 0, none⟩ = some (.int .i64 0) := hY.cell 0
          have t1 : wb.cell? ⟨wr.heap.size + 1, 1, none⟩ = some (.slice none 0 0) := hY.cell 1
          have t2 : wb.cell? ⟨wr.heap.size + 1, 2, none⟩ = some (.slice none 0 0) := hY.cell 2
          have f0 := hY.frozen 0
          have f1 := hY.frozen 1
          have f2 := hY.frozen 2
          clear hwb hX hbX hza hbb
          by_cases hk1 : k < n1
          · skip
            have hk1' : (k : Int) < (n1 : Int) := by omega
            have hkp : k < p1.spans.length := by rw [hlenA.out]; exact hk1
            have hs13 : Hid (p3.spans[k] = p1.spans[k]) := by
              rw [Hid]
              have := hsp.out
              simp only [this]
              exact List.getElem_append_left hkp
            obtain ⟨d1, gA, gn, gc, uA, un, uc, rfl, hdb1, e0, e1, e2, hRg, hRu⟩ := (hS1.out.below hbr).elem hk1 hkp
            rw [← hs13.out] at e0 hRg hRu
            replace e0 := (hbY.cell (p := d1.add (k * 3)) hdb1).trans e0
            replace e1 := (hbY.cell (p := ⟨(d1.add (k * 3)).block, (d1.add (k * 3)).off + 1, none⟩) hdb1).trans e1
            replace e2 := (hbY.cell (p := ⟨(d1.add (k * 3)).block, (d1.add (k * 3)).off + 2, none⟩) hdb1).trans e2
            generalize p3.spans[k] = sp at *
            have hb3 : Below wr.heap.size wr (((wb.setCell ⟨wr.heap.size + 1, 0, none⟩ (.int .i64 sp.by_)).setCell ⟨wr.heap.size + 1, 1, none⟩ (.slice gA gn gc)).setCell ⟨wr.heap.size + 1, 2, none⟩ (.slice uA un uc)) :=
              below_set (below_set (below_set hbY (Nat.le_add_right _ 1) _) (Nat.le_add_right _ 1) _) (Nat.le_add_right _ 1) _
            have hYc := ((hY.set_ 0 (.int .i64 sp.by_)).set_ 1 (.slice gA gn gc)).set_ 2 (.slice uA un uc)
            have hXc := ((hXb.far (p := ⟨wr.heap.size + 1, 0, none⟩) (by simp) (.int .i64 sp.by_)).far (p := ⟨wr.heap.size + 1, 1, none⟩) (by simp) (.slice gA gn gc)).far (p := ⟨wr.heap.size + 1, 2, none⟩) (by simp) (.slice uA un uc)
            replace hb3 := hide hb3
            replace hYc := hide hYc
            replace hXc := hide hXc
            clear hY hXb hbY
            go_upto_region 20 with (fail)
            obtain ⟨wc, hwc⟩ : ∃ y, y = ((wb.setCell ⟨wr.heap.size + 1, 0, none⟩ (.int .i64 sp.by_)).setCell ⟨wr.heap.size + 1, 1, none⟩ (.slice gA gn gc)).setCell ⟨wr.heap.size + 1, 2, none⟩ (.slice uA un uc) := ⟨_, rfl⟩
            rw [← hwc] at hYc hXc hb3 ⊢
            clear hwc x0 y0 z0 t0 t1 t2 f0 f1 f2 e0 e1 e2
            have r0 : wc.cell? ⟨wr.heap.size, 0, none⟩ = some (.int .i64 sp.by_) := hXc.out.cell 0
            have r1 : wc.cell? ⟨wr.heap.size, 1, none⟩ = some (.slice fA fn fc) := hXc.out.cell 1
            have r2 : wc.cell? ⟨wr.heap.size, 2, none⟩ = some (.slice tA tn tc) := hXc.out.cell 2
            have s0 : wc.cell? ⟨wr.heap.size + 1, 0, none⟩ = some (.int .i64 sp.by_) := hYc.out.cell 0
            have s1 : wc.cell? ⟨wr.heap.size + 1, 1, none⟩ = some (.slice gA gn gc) := hYc.out.cell 1
            have s2 : wc.cell? ⟨wr.heap.size + 1, 2, none⟩ = some (.slice uA un uc) := hYc.out.cell 2
            have hfl : fn = sp.from_.length ∧ gn = sp.from_.length ∧ tn = sp.to_.length ∧ un = sp.to_.length := ⟨hRf.1.len.symm, hRg.1.len.symm, hRt.1.len.symm, hRu.1.len.symm⟩
            have hQf := hRf.below hb3.out
            have hQg := hRg.below hb3.out
            have hQt := hRt.below hb3.out
            have hQu := hRu.below hb3.out
            have hbc := hbr.trans (hb3.out.mono hsz)
            have hsf := hsh.out
            have hM1 := hide (same_any _ _ _ _ fc gc _ _ wc hQf.1 hQg.1 (by have := hsf.1; omega) (by have := hsf.1; omega))
            have hM2 := hide (fun (wx : World) (hb : Below wc.heap.size wc wx) => same_any _ _ _ _ tc uc _ _ wx (hQt.below hb).1 (hQu.below hb).1 (by have := hsf.2; omega) (by have := hsf.2; omega))
            replace hXc := hide hXc.out
            replace hYc := hide hYc.out
            replace hbc := hide hbc
            clear hb3 hRf hRg hRt hRu hQf hQg hQt hQu hsf hfl
            go_wp2_with fail
            refine hM1.out.mono ?_
            rintro e w9 ⟨rfl, hq9⟩
            first | rw [decide_eq_true rfl] | rw [decide_eq_true trivial]
            have hb9 := hq9.below wc.heap.size
            have r2 : w9.cell? ⟨wr.heap.size, 2, none⟩ = some (.slice tA tn tc) := (hb9.cell (p := ⟨wr.heap.size, 2, none⟩) hXc.out.lt).trans r2
            have s2 : w9.cell? ⟨wr.heap.size + 1, 2, none⟩ = some (.slice uA un uc) := (hb9.cell (p := ⟨wr.heap.size + 1, 2, none⟩) hYc.out.lt).trans s2
            replace hM2 := hide (hM2.out w9 hb9)
            have hbd := hbc.out.trans (hq9.below w8.heap.size)
            clear hM1 hq9 hb9 hXc hYc hbc r0 r1 s0 s1
            replace hbd := hide hbd
            go_wp2_with fail
            refine hM2.out.mono ?_
            rintro e w10 ⟨rfl, hq10⟩
            first | rw [decide_eq_true rfl] | rw [decide_eq_true trivial]
            have hbe := hbd.out.trans (hq10.below w8.heap.size)
            clear hM2 hq10 hbd r2 s2
            go_wp2_with fail
            go_roundw
            case rel => exact ⟨k + 1, by go_num, by omega, hbe⟩
            case measure => simp [intOf]; omega
          · skip
            have hk1' : ¬ (k : Int) < (n1 : Int) := by omega
            obtain ⟨j, hj⟩ : ∃ j, k = n1 + j := ⟨k - n1, by omega⟩
            have hj2 : j < n2 := by omega
            have hjI : (j : Int) < (n2 : Int) := by omega
            have hkj : (k : Int) - (n1 : Int) = (j : Int) := by omega
            have hkp : j < p2.spans.length := by rw [hlenB.out]; exact hj2
            have hs13 : Hid (p3.spans[k] = p2.spans[j]) := by
              rw [Hid]
              have e := hsp.out
              have hl := hlenA.out
              simp only [e]
              rw [List.getElem_append_right (by omega)]
              have : k - p1.spans.length = j := by omega
              simp only [this]
            obtain ⟨d1, gA, gn, gc, uA, un, uc, rfl, hdb1, e0, e1, e2, hRg, hRu⟩ := (hS2.out.below hbr).elem hj2 hkp
            rw [← hs13.out] at e0 hRg hRu
            replace e0 := (hbY.cell (p := d1.add (j * 3)) hdb1).trans e0
            replace e1 := (hbY.cell (p := ⟨(d1.add (j * 3)).block, (d1.add (j * 3)).off + 1, none⟩) hdb1).trans e1
            replace e2 := (hbY.cell (p := ⟨(d1.add (j * 3)).block, (d1.add (j * 3)).off + 2, none⟩) hdb1).trans e2
            have hkw : IntKind.i64.wrap ((k : Int) - (n1 : Int)) = (j : Int) := by rw [hkj]; exact IntWalk.i64_in _ (by omega)
            replace hj := hide hj
            generalize p3.spans[k] = sp at *
            have hb3 : Below wr.heap.size wr (((wb.setCell ⟨wr.heap.size + 1, 0, none⟩ (.int .i64 sp.by_)).setCell ⟨wr.heap.size + 1, 1, none⟩ (.slice gA gn gc)).setCell ⟨wr.heap.size + 1, 2, none⟩ (.slice uA un uc)) :=
              below_set (below_set (below_set hbY (Nat.le_add_right _ 1) _) (Nat.le_add_right _ 1) _) (Nat.le_add_right _ 1) _
            have hYc := ((hY.set_ 0 (.int .i64 sp.by_)).set_ 1 (.slice gA gn gc)).set_ 2 (.slice uA un uc)
            have hXc := ((hXb.far (p := ⟨wr.heap.size + 1, 0, none⟩) (by simp) (.int .i64 sp.by_)).far (p := ⟨wr.heap.size + 1, 1, none⟩) (by simp) (.slice gA gn gc)).far (p := ⟨wr.heap.size + 1, 2, none⟩) (by simp) (.slice uA un uc)
            replace hb3 := hide hb3
            replace hYc := hide hYc
            replace hXc := hide hXc
            clear hY hXb hbY
            go_upto_region 20 with (fail)
            obtain ⟨wc, hwc⟩ : ∃ y, y = ((wb.setCell ⟨wr.heap.size + 1, 0, none⟩ (.int .i64 sp.by_)).setCell ⟨wr.heap.size + 1, 1, none⟩ (.slice gA gn gc)).setCell ⟨wr.heap.size + 1, 2, none⟩ (.slice uA un uc) := ⟨_, rfl⟩
            rw [← hwc] at hYc hXc hb3 ⊢
            clear hwc x0 y0 z0 t0 t1 t2 f0 f1 f2 e0 e1 e2
            have r0 : wc.cell? ⟨wr.heap.size, 0, none⟩ = some (.int .i64 sp.by_) := hXc.out.cell 0
            have r1 : wc.cell? ⟨wr.heap.size, 1, none⟩ = some (.slice fA fn fc) := hXc.out.cell 1
            have r2 : wc.cell? ⟨wr.heap.size, 2, none⟩ = some (.slice tA tn tc) := hXc.out.cell 2
            have s0 : wc.cell? ⟨wr.heap.size + 1, 0, none⟩ = some (.int .i64 sp.by_) := hYc.out.cell 0
            have s1 : wc.cell? ⟨wr.heap.size + 1, 1, none⟩ = some (.slice gA gn gc) := hYc.out.cell 1
            have s2 : wc.cell? ⟨wr.heap.size + 1, 2, none⟩ = some (.slice uA un uc) := hYc.out.cell 2
            have hfl : fn = sp.from_.length ∧ gn = sp.from_.length ∧ tn = sp.to_.length ∧ un = sp.to_.length := ⟨hRf.1.len.symm, hRg.1.len.symm, hRt.1.len.symm, hRu.1.len.symm⟩
            have hQf := hRf.below hb3.out
            have hQg := hRg.below hb3.out
            have hQt := hRt.below hb3.out
            have hQu := hRu.below hb3.out
            have hbc := hbr.trans (hb3.out.mono hsz)
            have hsf := hsh.out
            have hM1 := hide (same_any _ _ _ _ fc gc _ _ wc hQf.1 hQg.1 (by have := hsf.1; omega) (by have := hsf.1; omega))
            have hM2 := hide (fun (wx : World) (hb : Below wc.heap.size wc wx) => same_any _ _ _ _ tc uc _ _ wx (hQt.below hb).1 (hQu.below hb).1 (by have := hsf.2; omega) (by have := hsf.2; omega))
            replace hXc := hide hXc.out
            replace hYc := hide hYc.out
            replace hbc := hide hbc
            clear hb3 hRf hRg hRt hRu hQf hQg hQt hQu hsf hfl
            go_wp2_with fail
            refine hM1.out.mono ?_
            rintro e w9 ⟨rfl, hq9⟩
            first | rw [decide_eq_true rfl] | rw [decide_eq_true trivial]
            have hb9 := hq9.below wc.heap.size
            have r2 : w9.cell? ⟨wr.heap.size, 2, none⟩ = some (.slice tA tn tc) := (hb9.cell (p := ⟨wr.heap.size, 2, none⟩) hXc.out.lt).trans r2
            have s2 : w9.cell? ⟨wr.heap.size + 1, 2, none⟩ = some (.slice uA un uc) := (hb9.cell (p := ⟨wr.heap.size + 1, 2, none⟩) hYc.out.lt).trans s2
            replace hM2 := hide (hM2.out w9 hb9)
            have hbd := hbc.out.trans (hq9.below w8.heap.size)
            clear hM1 hq9 hb9 hXc hYc hbc r0 r1 s0 s1
            replace hbd := hide hbd
            go_wp2_with fail
            refine hM2.out.mono ?_
            rintro e w10 ⟨rfl, hq10⟩
            first | rw [decide_eq_true rfl] | rw [decide_eq_true trivial]
            have hbe := hbd.out.trans (hq10.below w8.heap.size)
            clear hM2 hq10 hbd r2 s2
            go_wp2_with fail
            go_roundw
            case rel => exact ⟨k + 1, by go_num, by omega, hbe⟩
            case measure => simp [intOf]; omega
        · have e : k = n3 := by omega
          have h1' : ¬ (k : Int) < (n3 : Int) := by omega
          replace hbr := hide (hbw.out.trans (hbr.mono hbw.out.size))
          go_wp2_with fail
          go_ret
          exact ⟨rfl, hbr.out⟩
  · have n300 : decide ((300 : Int) < (a.size : Int) + (b.size : Int)) = true := by simp; omega
    go_wp2_with fail
    go_ret
    exact ⟨rfl, hb1.out⟩
end Go.Proofs.YtnnjcedlomfhoaaGreatDoor
