/-
  The walk of the law PlanCheaper.
-/
import Derived.Test.YtnnjcedlomfhoaaGreatDoorCPlanW
namespace Go.Proofs.YtnnjcedlomfhoaaGreatDoor
open Go.RowKit
set_option linter.unusedVariables false
theorem eq_nil (A : Option Addr) (n c : Nat) (w : World) : (binOp .eql 23 (.slice A n c) (.slice none 0 0)).run Tryz.prog w = .ok (.bool A.isNone) w := by
  simp only [binOp]
  simp [run_equal_slice_nil w _ _ A n c Tryz.underlying23]
/-- Three plans in blocks of their own. -/
def pcs (A : Option Addr) (n k : Nat) (p : PlanV) : Array Value := #[.slice A n k, .bool p.all, .complex .f64 p.cost.re p.cost.im]
structure P3 (w : World) (g : Nat) (c1 c2 c3 : Array Value) : Prop where
  b1 : Blk w g 28 c1
  b2 : Blk w (g + 1) 28 c2
  b3 : Blk w (g + 2) 28 c3
theorem P3.below {w w' : World} {g : Nat} {c1 c2 c3 : Array Value} (h : P3 w g c1 c2 c3) (hb : Below w.heap.size w w') : P3 w' g c1 c2 c3 := ⟨h.b1.below hb h.b1.lt, h.b2.below hb h.b2.lt, h.b3.below hb h.b3.lt⟩
theorem P3.mk' (w : World) (c1 c2 c3 : Array Value) : P3 (((w.alloc (.cells c1 28)).alloc (.cells c2 28)).alloc (.cells c3 28)) w.heap.size c1 c2 c3 ∧ Below w.heap.size w (((w.alloc (.cells c1 28)).alloc (.cells c2 28)).alloc (.cells c3 28)) := by
  have h1 := Blk.new w 28 c1
  have h2 := Blk.new (w.alloc (.cells c1 28)) 28 c2
  have h3 := Blk.new ((w.alloc (.cells c1 28)).alloc (.cells c2 28)) 28 c3
  have e2 : (w.alloc (.cells c1 28)).heap.size = w.heap.size + 1 := by simp
  have e3 : ((w.alloc (.cells c1 28)).alloc (.cells c2 28)).heap.size = w.heap.size + 2 := by simp
  rw [e2] at h2
  rw [e3] at h3
  have b1 := (Below.refl w.heap.size w).alloc (Nat.le_refl _) (.cells c1 28)
  exact ⟨⟨(h1.alloc _).alloc _, h2.alloc _, h3⟩, (b1.alloc b1.size _).alloc (b1.alloc b1.size (.cells c2 28)).size _⟩
theorem P3.cells {w : World} {g : Nat} {A1 A2 A3 : Option Addr} {n1 k1 n2 k2 n3 k3 : Nat} {p1 p2 p3 : PlanV} (h : P3 w g (pcs A1 n1 k1 p1) (pcs A2 n2 k2 p2) (pcs A3 n3 k3 p3)) :
    w.cell? ⟨g, 0, none⟩ = some (.slice A1 n1 k1) ∧ w.cell? ⟨g, 1, none⟩ = some (.bool p1.all) ∧ w.cell? ⟨g, 2, none⟩ = some (.complex .f64 p1.cost.re p1.cost.im) ∧
    w.cell? ⟨g + 1, 0, none⟩ = some (.slice A2 n2 k2) ∧ w.cell? ⟨g + 1, 1, none⟩ = some (.bool p2.all) ∧ w.cell? ⟨g + 1, 2, none⟩ = some (.complex .f64 p2.cost.re p2.cost.im) ∧
    w.cell? ⟨g + 2, 0, none⟩ = some (.slice A3 n3 k3) ∧ w.cell? ⟨g + 2, 1, none⟩ = some (.bool p3.all) ∧ w.cell? ⟨g + 2, 2, none⟩ = some (.complex .f64 p3.cost.re p3.cost.im) :=
  ⟨h.b1.cell 0, h.b1.cell 1, h.b1.cell 2, h.b2.cell 0, h.b2.cell 1, h.b2.cell 2, h.b3.cell 0, h.b3.cell 1, h.b3.cell 2⟩
def andT (a b : List UInt8) : List UInt8 := [40] ++ a ++ [41, 32, 97, 110, 100, 32, 40] ++ b ++ [41]
theorem str_eta' (s : ByteArray) : str s.data.toList = s := rfl
set_option maxRecDepth 100000 in
set_option maxHeartbeats 8000000 in
theorem planCheaper_walk (w : World) (hA : Tabs26 w) (a : ByteArray) (ha : a.size ≤ reachBytes) (b : ByteArray) (hb : b.size ≤ reachBytes) :
    Calls Tryz.prog 3 #[.string a, .string b] w fun e w' => e = .returned (.bool true) ∧ Below w.heap.size w w' := by
  unfold reachBytes at ha hb
  have hsc := run_store_complex
  have hnil := eq_nil
  have hA' := hide hA
  clear hA
  go_enter Tryz.func3, Tryz.ntmps3
  go_wp2_with fail
  refine (wakes26_any w hA'.out).mono ?_
  rintro e w1 ⟨rfl, hb1⟩
  have hA1 := hide (hA'.out.below hb1)
  have hsz1 := hb1.size
  replace hb1 := hide hb1
  clear hA'
  by_cases h300 : a.size + b.size ≤ 300
  · have n300 : decide ((300 : Int) < (a.size : Int) + (b.size : Int)) = false := by simp; omega
    clear ha hb
    have hda := hide (data_len a)
    have hdb := hide (data_len b)
    have hcat : Hid (ByteArray.mk #[40] ++ a ++ ByteArray.mk #[41, 32, 97, 110, 100, 32, 40] ++ b ++ ByteArray.mk #[41] = str (andT a.data.toList b.data.toList)) := by
      show str [40] ++ a ++ str [41, 32, 97, 110, 100, 32, 40] ++ b ++ str [41] = _
      conv => lhs; rw [← str_eta' a, ← str_eta' b]
      simp only [str_append, andT]
    have hjl : (str (andT a.data.toList b.data.toList)).size ≤ 1000 := by
      rw [str_size]
      simp [andT]
      omega
    replace hjl := hide hjl
    go_wp2_with fail
    refine (form_any w1 hA1.out.2.1 hA1.out.2.2 a (by omega)).mono ?_
    rintro e w2 ⟨A1, n1, c1, rfl, hF1, hb2⟩
    have hA2 := hide (hA1.out.below hb2)
    have hbw2 := hide (hb1.out.trans (hb2.mono hsz1))
    have hsz2 := hbw2.out.size
    replace hF1 := hide hF1
    clear hb1 hA1 hb2
    go_wp2_with fail
    refine (form_any w2 hA2.out.2.1 hA2.out.2.2 b (by omega)).mono ?_
    rintro e w3 ⟨A2, n2, c2, rfl, hF2, hb3⟩
    have hA3 := hide (hA2.out.below hb3)
    have hbw3 := hide (hbw2.out.trans (hb3.mono hsz2))
    have hsz3 := hbw3.out.size
    replace hF1 := hide (hF1.out.below hb3)
    replace hF2 := hide hF2
    clear hbw2 hA2 hb3 hsz1 hsz2
    go_wp2_with fail
    rw [hcat.out]
    refine (form_any w3 hA3.out.2.1 hA3.out.2.2 (str (andT a.data.toList b.data.toList)) (by have := hjl.out; omega)).mono ?_
    rintro e w4 ⟨A3, n3, c3, rfl, hF3, hb4⟩
    rw [str_toList] at hF3
    have hA4 := hA3.out.below hb4
    have hbw4 := hbw3.out.trans (hb4.mono hsz3)
    have hsz4 := hbw4.size
    replace hF1 := hF1.out.below hb4
    replace hF2 := hF2.out.below hb4
    clear hbw3 hA3 hb4 hsz3 hcat hjl
    rcases hF1 with ⟨-, rfl⟩ | ⟨q1, ad1, hq1, rfl, rfl, hR1⟩
    · clear hF2 hF3 hA4
      go_wp2_with fail
      go_ret
      exact ⟨rfl, hbw4⟩
    rcases hF2 with ⟨-, rfl⟩ | ⟨q2, ad2, hq2, rfl, rfl, hR2⟩
    · clear hF3 hA4 hR1
      go_wp2_with fail
      go_ret
      exact ⟨rfl, hbw4⟩
    rcases hF3 with ⟨-, rfl⟩ | ⟨q3, ad3, hq3, rfl, rfl, hR3⟩
    · clear hA4 hR1 hR2
      go_wp2_with fail
      go_ret
      exact ⟨rfl, hbw4⟩
    obtain ⟨g1, g2, g3⟩ := formQ_fine hq1
    obtain ⟨i1, i2, i3⟩ := formQ_fine hq2
    obtain ⟨j1, j2, j3⟩ := formQ_fine hq3
    obtain rfl := formQ_and hq1 hq2 (by rw [hda.out, hdb.out]; exact h300) hq3
    have hpl : Hid (planQ (.two 2 q1 q2) = if (planQ q2).cost.cheaper (planQ q1).cost = true then planQ q2 else planQ q1) := by
      rw [Hid, planQ, joinP, if_pos rfl]
    have ok1 := (planQ_fine q1).2
    have ok2 := (planQ_fine q2).2
    have hsz2 : (Q.two 2 q1 q2).size = q1.size + q2.size + 1 := rfl
    obtain ⟨m1, hm1⟩ : ∃ m, m = q1.size := ⟨_, rfl⟩
    obtain ⟨m2, hm2⟩ : ∃ m, m = q2.size := ⟨_, rfl⟩
    obtain ⟨m3, hm3⟩ : ∃ m, m = (Q.two 2 q1 q2).size := ⟨_, rfl⟩
    have hN1 := hide (pnew_any w4 (some ad1) m1 c1 q1 (by rw [hm1]; exact hR1) g1 (by omega) g3 hA4.1 hA4.2.1)
    have hN2 := hide (fun (wx : World) (hb : Below w4.heap.size w4 wx) => pnew_any wx (some ad2) m2 c2 q2 (by rw [hm2]; exact (hR2.below hb).more hb.size) i1 (by omega) i3 (hA4.1.below hb) (hA4.2.1.below hb))
    have hN3 := hide (fun (wx : World) (hb : Below w4.heap.size w4 wx) => pnew_any wx (some ad3) m3 c3 (.two 2 q1 q2) (by rw [hm3]; exact (hR3.below hb).more hb.size) j1 (by omega) j3 (hA4.1.below hb) (hA4.2.1.below hb))
    rw [← hm1, ← hm2, ← hm3]
    generalize planQ (.two 2 q1 q2) = p3 at *
    generalize planQ q1 = p1 at *
    generalize planQ q2 = p2 at *
    replace hbw4 := hide hbw4
    clear hR1 hR2 hR3 hA4 hm1 hm2 hm3 hsz2 g1 g2 g3 i1 i2 i3 j1 j2 j3 hq1 hq2 hq3
    go_wp2_with fail
    refine hN1.out.mono ?_
    rintro e w5 ⟨⟨A1, n1, k1, rfl, hnk1, hS1⟩, hb5⟩
    replace hN2 := hide (hN2.out w5 hb5)
    replace hb5 := hide hb5
    replace hS1 := hide hS1
    clear hN1
    go_wp2_with fail
    refine hN2.out.mono ?_
    rintro e w6 ⟨⟨A2, n2, k2, rfl, hnk2, hS2⟩, hb6⟩
    have hb46 := hb5.out.trans (hb6.mono hb5.out.size)
    replace hN3 := hide (hN3.out w6 hb46)
    replace hS1 := hide (hS1.out.below hb6)
    replace hb46 := hide hb46
    replace hS2 := hide hS2
    clear hN2 hb5 hb6
    go_wp2_with fail
    refine hN3.out.mono ?_
    rintro e w7 ⟨⟨A3, n3, k3, rfl, hnk3, hS3⟩, hb7⟩
    have hbw7 := hide (hbw4.out.trans ((hb46.out.trans (hb7.mono hb46.out.size)).mono hsz4))
    replace hS1 := hide (hS1.out.below hb7)
    replace hS2 := hide (hS2.out.below hb7)
    replace hS3 := hide hS3
    clear hN3 hb46 hb7 hbw4
    go_upto_region 9 with (fail)
    obtain ⟨hP3, hb8⟩ := P3.mk' w7 (pcs A1 n1 k1 p1) (pcs A2 n2 k2 p2) (pcs A3 n3 k3 p3)
    have hbw := hide (hbw7.out.trans (hb8.mono hbw7.out.size))
    obtain ⟨w8, hw8⟩ : ∃ y, y = ((w7.alloc (.cells #[.slice A1 n1 k1, .bool p1.all, .complex .f64 p1.cost.re p1.cost.im] 28)).alloc (.cells #[.slice A2 n2 k2, .bool p2.all, .complex .f64 p2.cost.re p2.cost.im] 28)).alloc (.cells #[.slice A3 n3 k3, .bool p3.all, .complex .f64 p3.cost.re p3.cost.im] 28) := ⟨_, rfl⟩
    rw [show ((w7.alloc (.cells (pcs A1 n1 k1 p1) 28)).alloc (.cells (pcs A2 n2 k2 p2) 28)).alloc (.cells (pcs A3 n3 k3 p3) 28) = w8 from hw8.symm] at hP3 hbw
    rw [← hw8]
    clear hw8 hb8 hbw7 hda hdb hsz4
    obtain ⟨x0, x1, x2, y0, y1, y2, z0, z1, z2⟩ := hP3.cells
    have hnb := Cost.not_both ok1 ok2
    have hc11 := hide (Cost.not_self ok1)
    have hs2 := Cost.same_self ok2
    have hs1 := Cost.same_self ok1
    unfold Cost.same ordW at hs1 hs2
    have o1 : (FloatKind.f64.format.order p2.cost.re p2.cost.re == some .eq) = true := by revert hs2; cases (FloatKind.f64.format.order p2.cost.re p2.cost.re == some .eq) <;> simp
    have o2 : (FloatKind.f64.format.order p2.cost.im p2.cost.im == some .eq) = true := by revert hs2; cases (FloatKind.f64.format.order p2.cost.im p2.cost.im == some .eq) <;> simp
    have o3 : (FloatKind.f64.format.order p1.cost.re p1.cost.re == some .eq) = true := by revert hs1; cases (FloatKind.f64.format.order p1.cost.re p1.cost.re == some .eq) <;> simp
    have o4 : (FloatKind.f64.format.order p1.cost.im p1.cost.im == some .eq) = true := by revert hs1; cases (FloatKind.f64.format.order p1.cost.im p1.cost.im == some .eq) <;> simp
    clear hs1 hs2 ok1 ok2
    obtain ⟨c12, hc12⟩ : ∃ c, p1.cost.cheaper p2.cost = c := ⟨_, rfl⟩
    obtain ⟨c21, hc21⟩ : ∃ c, p2.cost.cheaper p1.cost = c := ⟨_, rfl⟩
    rw [hc12, hc21] at hnb
    rw [hc21] at hpl
    replace hc12 := hide hc12
    replace hc21 := hide hc21
    go_wp2_with fail
    refine (cheaper_any w8 A1 n1 k1 p1.all p1.cost A2 n2 k2 p2.all p2.cost).mono ?_
    rintro e w9 ⟨rfl, hbx⟩
    rw [hc12.out]
    replace hP3 := hP3.below hbx
    replace hbw := hide (hbw.out.trans (hbx.mono hbw.out.size))
    clear x0 x1 x2 y0 y1 y2 z0 z1 z2 hbx
    obtain ⟨x0, x1, x2, y0, y1, y2, z0, z1, z2⟩ := hP3.cells
    cases c12 with
    | true =>
      rw [Bool.true_and] at hnb
      subst hnb
      go_wp2_with fail
      refine (cheaper_any w9 A2 n2 k2 p2.all p2.cost A1 n1 k1 p1.all p1.cost).mono ?_
      rintro e w10 ⟨rfl, hbx⟩
      rw [hc21.out]
      replace hP3 := hP3.below hbx
      replace hbw := hide (hbw.out.trans (hbx.mono hbw.out.size))
      clear x0 x1 x2 y0 y1 y2 z0 z1 z2 hbx
      obtain ⟨x0, x1, x2, y0, y1, y2, z0, z1, z2⟩ := hP3.cells
      go_wp2_with fail
      refine (cheaper_any w10 A1 n1 k1 p1.all p1.cost A1 n1 k1 p1.all p1.cost).mono ?_
      rintro e w11 ⟨rfl, hbx⟩
      rw [hc11.out]
      replace hP3 := hP3.below hbx
      replace hbw := hide (hbw.out.trans (hbx.mono hbw.out.size))
      clear x0 x1 x2 y0 y1 y2 z0 z1 z2 hbx
      obtain ⟨x0, x1, x2, y0, y1, y2, z0, z1, z2⟩ := hP3.cells
      go_wp2_with fail
      refine (cheaper_any w11 A2 n2 k2 p2.all p2.cost A1 n1 k1 p1.all p1.cost).mono ?_
      rintro e w12 ⟨rfl, hbx⟩
      rw [hc21.out]
      replace hP3 := hP3.below hbx
      replace hbw := hide (hbw.out.trans (hbx.mono hbw.out.size))
      clear x0 x1 x2 y0 y1 y2 z0 z1 z2 hbx
      obtain ⟨x0, x1, x2, y0, y1, y2, z0, z1, z2⟩ := hP3.cells
      obtain rfl : p3 = p1 := by rw [hpl.out, if_neg Bool.false_ne_true]
      have e31 : n3 = n1 := by rw [hS3.out.1, hS1.out.1]
      subst e31
      clear hS1 hS2 hS3
      go_wp2_with fail
      go_ret
      exact ⟨by simp, hbw.out⟩
    | false =>
      clear hnb
      go_wp2_with fail
      refine (cheaper_any w9 A1 n1 k1 p1.all p1.cost A1 n1 k1 p1.all p1.cost).mono ?_
      rintro e w10 ⟨rfl, hbx⟩
      rw [hc11.out]
      replace hP3 := hP3.below hbx
      replace hbw := hide (hbw.out.trans (hbx.mono hbw.out.size))
      clear x0 x1 x2 y0 y1 y2 z0 z1 z2 hbx
      obtain ⟨x0, x1, x2, y0, y1, y2, z0, z1, z2⟩ := hP3.cells
      go_wp2_with fail
      refine (cheaper_any w10 A2 n2 k2 p2.all p2.cost A1 n1 k1 p1.all p1.cost).mono ?_
      rintro e w11 ⟨rfl, hbx⟩
      rw [hc21.out]
      replace hP3 := hP3.below hbx
      replace hbw := hide (hbw.out.trans (hbx.mono hbw.out.size))
      clear x0 x1 x2 y0 y1 y2 z0 z1 z2 hbx
      obtain ⟨x0, x1, x2, y0, y1, y2, z0, z1, z2⟩ := hP3.cells
      cases c21 with
      | true =>
        obtain rfl : p3 = p2 := by rw [hpl.out, if_pos rfl]
        have e32 : n3 = n2 := by rw [hS3.out.1, hS2.out.1]
        subst e32
        clear hS1 hS2 hS3
        go_wp2_with fail
        go_ret
        exact ⟨by simp, hbw.out⟩
      | false =>
        obtain rfl : p3 = p1 := by rw [hpl.out, if_neg Bool.false_ne_true]
        have e31 : n3 = n1 := by rw [hS3.out.1, hS1.out.1]
        subst e31
        clear hS1 hS2 hS3
        go_wp2_with fail
        go_ret
        exact ⟨by simp, hbw.out⟩
  · have n300 : decide ((300 : Int) < (a.size : Int) + (b.size : Int)) = true := by simp; omega
    go_wp2_with fail
    go_ret
    exact ⟨rfl, hb1.out⟩
end Go.Proofs.YtnnjcedlomfhoaaGreatDoor
