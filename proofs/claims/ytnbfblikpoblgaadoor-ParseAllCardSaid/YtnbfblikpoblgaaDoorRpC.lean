/-
  The reference's parser: contracts of kind and op.
-/
import Derived.Test.YtnbfblikpoblgaaDoorRpA
import Derived.Test.YtnbfblikpoblgaaDoorParC
namespace Go.Proofs.YtnbfblikpoblgaaDoor
open Go.RowKit
set_option linter.unusedVariables false
def wordL : List (List UInt8) := [nameW, sizeW, dateW, crcW, methodW]
theorem of_isW {t : Tok} {k : Int} {s : List UInt8} (h : isW t k s = true) : t.kind = k ∧ t.text = s := by
  simpa [isW] using h
def kindT (t : Tok) : Int := if t.kind = 1 then kindOf t.text else 0
theorem kindOf_findK (t : Tok) : kindT t = if t.kind = 1 then findK wordL t.text 4 else 0 := rfl

set_option maxRecDepth 100000 in
set_option maxHeartbeats 1000000 in
theorem rkind_any (w : World) (t : Tok) : Calls Tryd.prog 74 #[tokV t] w fun e w' => e = .returned (.int .i64 (kindT t)) ∧ Below w.heap.size w w' := by
  unfold tokV
  go_enter Tryd.func74, Tryd.ntmps74
  go_wp2_with fail
  obtain ⟨w1, hw1⟩ : ∃ x, x = ((w.alloc (.cells #[.int .i64 t.kind, .string (str t.text), .int .i64 t.n, .int .i64 (t.pos : Int)] 45)).alloc (.cells (wordL.map fun l => Value.string ⟨l.toArray⟩).toArray 9)) := ⟨_, rfl⟩
  have hbl : Below w.heap.size w w1 := by
    rw [hw1]
    exact ((Below.refl _ _).alloc (Nat.le_refl _) _).alloc (by simp) _
  have hc : ∀ k (hk : k < wordL.length), w1.cell? ⟨w.heap.size + 1, k, none⟩ = some (.string (str wordL[k])) := by
    intro k hk
    rw [hw1]
    have := cell_of_row _ _ k _ 9 (0, 0) (heap_alloc_new (w.alloc (.cells #[.int .i64 t.kind, .string (str t.text), .int .i64 t.n, .int .i64 (t.pos : Int)] 45)) (.cells (wordL.map fun l => Value.string ⟨l.toArray⟩).toArray 9))
    rw [show (w.alloc (.cells #[.int .i64 t.kind, .string (str t.text), .int .i64 t.n, .int .i64 (t.pos : Int)] 45)).heap.size = w.heap.size + 1 from by simp] at this
    rw [this]
    simp [hk, str]
  have ht0 : w1.cell? ⟨w.heap.size, 0, none⟩ = some (.int .i64 t.kind) := by rw [hw1]; simp
  have ht1 : w1.cell? ⟨w.heap.size, 1, none⟩ = some (.string (str t.text)) := by rw [hw1]; simp
  have ht2 : w1.cell? ⟨w.heap.size, 2, none⟩ = some (.int .i64 t.n) := by rw [hw1]; simp
  have ht3 : w1.cell? ⟨w.heap.size, 3, none⟩ = some (.int .i64 (t.pos : Int)) := by rw [hw1]; simp
  have hs1 : w1.heap.size = w.heap.size + 2 := by rw [hw1]; simp
  try rw [show (w.alloc (.cells #[.int .i64 t.kind, .string (str t.text), .int .i64 t.n, .int .i64 (t.pos : Int)] 45)).heap.size = w.heap.size + 1 from by simp]
  rw [show (#[Value.string ⟨#[110, 97, 109, 101]⟩, Value.string ⟨#[115, 105, 122, 101]⟩, Value.string ⟨#[100, 97, 116, 101]⟩, Value.string ⟨#[99, 114, 99]⟩, Value.string ⟨#[109, 101, 116, 104, 111, 100]⟩] : Array Value) = (wordL.map fun l => Value.string ⟨l.toArray⟩).toArray from rfl, ← hw1]
  clear hw1
  replace hc := hide hc
  go_wp2_with fail
  go_loopw [4] (fun i wr => ∃ k : Nat, k ≤ 5 ∧ i = .int .i64 k ∧ Below w1.heap.size w1 wr ∧ Hid (t.kind = 1 → ∀ i (hi : i < k) (h7 : i < wordL.length), wordL[i] ≠ t.text)) (fun i _ => 5 - (intOf i).toNat)
  case atStart => exact ⟨0, by omega, rfl, Below.refl _ _, fun _ i hi => absurd hi (by omega)⟩
  case round =>
    obtain ⟨k, hk, rfl, hbr, HN⟩ := hrel
    have hszr := hbr.size
    by_cases h1 : k < 5
    · have hL : k < wordL.length := h1
      have hck := (hbr.cell (p := ⟨w.heap.size + 1, k, none⟩) (by simp; omega)).trans (hc.out k hL)
      have p0 := (hbr.cell (p := ⟨w.heap.size, 0, none⟩) (by simp; omega)).trans ht0
      have p1 := (hbr.cell (p := ⟨w.heap.size, 1, none⟩) (by simp; omega)).trans ht1
      have p2 := (hbr.cell (p := ⟨w.heap.size, 2, none⟩) (by simp; omega)).trans ht2
      have p3 := (hbr.cell (p := ⟨w.heap.size, 3, none⟩) (by simp; omega)).trans ht3
      have HW : Hid (∀ wx, Calls Tryd.prog 54 #[tokV t, .int .i64 1, .string (str (wordL[k]'hL))] wx fun e w' => e = .returned (.bool (isW t 1 (wordL[k]'hL))) ∧ Below wx.heap.size wx w') := by
        intro wx
        have := ris_any wx t 1 (str (wordL[k]'hL))
        rw [str_toList] at this
        exact this
      have HB : Hid (isW t 1 (wordL[k]'hL) = true → (kindT t) = 4 + (k : Int)) := by
        intro h
        obtain ⟨e1, e2⟩ := of_isW h
        rw [kindOf_findK, if_pos e1, findK_at t.text wordL k hL 4 e2.symm (fun i hi => HN.out e1 i hi (by have : wordL.length = 5 := rfl; omega))]
      have HN2 : Hid (isW t 1 (wordL[k]'hL) = false → t.kind = 1 → ∀ i (hi : i < k + 1) (h7 : i < wordL.length), wordL[i] ≠ t.text) := by
        intro h e i hi h7
        by_cases hik : i = k
        · subst hik
          intro e2
          rw [isW_both e e2.symm] at h
          exact absurd h (by simp)
        · exact HN.out e i (by omega) h7
      clear HN ht0 ht1 ht2 ht3 hc
      generalize (wordL[k]'hL) = s at *
      unfold tokV at HW
      go_wp2_with fail
      go_cut [17] (fun v wx => v = .bool (isW t 1 s) ∧ Below w1.heap.size w1 wx)
      case first =>
        go_region_with (first | (go_at_call 54; refine (HW.out _).mono ?_; rintro e w2 ⟨rfl, hb2⟩))
        all_goals
          go_wp2_with fail
          go_meet
          refine ⟨rfl, ?_⟩
          first | exact hbr.trans (hb2.mono hszr) | exact hbr.trans (((below_drewN (Below.refl _ _) 1).trans hb2).mono hszr) | exact below_drewN (hbr.trans (hb2.mono hszr)) 1
      obtain ⟨rfl, hbx⟩ := hcut
      by_cases ew : isW t 1 s = true
      · have hr := hide (HB.out ew)
        rw [ew]
        clear HB HN2 ew HW
        go_wp2_with fail
        go_ret
        exact ⟨ret_int (by rw [hr.out]; omega), hbl.trans (hbx.mono (by omega))⟩
      · rw [Bool.not_eq_true] at ew
        have HN3 := hide (HN2.out ew)
        rw [ew]
        clear HB HN2 ew HW
        go_wp2_with fail
        go_roundw
        case rel => exact ⟨k + 1, by omega, by go_num, hbx, HN3.out⟩
        case measure => simp [intOf]; omega
    · have hr : Hid ((kindT t) = 0) := by
        show _ = _
        by_cases e1 : t.kind = 1
        · rw [kindOf_findK, if_pos e1, findK_none t.text wordL 4 (fun i hi => HN.out e1 i (by have : wordL.length = 5 := rfl; omega) hi)]
        · rw [kindOf_findK, if_neg e1]
      clear HN
      go_wp2_with fail
      go_ret
      exact ⟨ret_int hr.out.symm, hbl.trans (hbr.mono (by omega))⟩

set_option maxRecDepth 100000 in
set_option maxHeartbeats 1000000 in
theorem rop_any (w : World) (t : Tok) : Calls Tryd.prog 75 #[tokV t] w fun e w' => e = .returned (.int .i64 (opOf t)) ∧ Below w.heap.size w w' := by
  unfold tokV
  go_enter Tryd.func75, Tryd.ntmps75
  go_wp2_with fail
  obtain ⟨w1, hw1⟩ : ∃ x, x = ((w.alloc (.cells #[.int .i64 t.kind, .string (str t.text), .int .i64 t.n, .int .i64 (t.pos : Int)] 45)).alloc (.cells (cmpL.map fun l => Value.string ⟨l.toArray⟩).toArray 9)) := ⟨_, rfl⟩
  have hbl : Below w.heap.size w w1 := by
    rw [hw1]
    exact ((Below.refl _ _).alloc (Nat.le_refl _) _).alloc (by simp) _
  have hc : ∀ k (hk : k < cmpL.length), w1.cell? ⟨w.heap.size + 1, k, none⟩ = some (.string (str cmpL[k])) := by
    intro k hk
    rw [hw1]
    have := cell_of_row _ _ k _ 9 (0, 0) (heap_alloc_new (w.alloc (.cells #[.int .i64 t.kind, .string (str t.text), .int .i64 t.n, .int .i64 (t.pos : Int)] 45)) (.cells (cmpL.map fun l => Value.string ⟨l.toArray⟩).toArray 9))
    rw [show (w.alloc (.cells #[.int .i64 t.kind, .string (str t.text), .int .i64 t.n, .int .i64 (t.pos : Int)] 45)).heap.size = w.heap.size + 1 from by simp] at this
    rw [this]
    simp [hk, str]
  have ht0 : w1.cell? ⟨w.heap.size, 0, none⟩ = some (.int .i64 t.kind) := by rw [hw1]; simp
  have ht1 : w1.cell? ⟨w.heap.size, 1, none⟩ = some (.string (str t.text)) := by rw [hw1]; simp
  have ht2 : w1.cell? ⟨w.heap.size, 2, none⟩ = some (.int .i64 t.n) := by rw [hw1]; simp
  have ht3 : w1.cell? ⟨w.heap.size, 3, none⟩ = some (.int .i64 (t.pos : Int)) := by rw [hw1]; simp
  have hs1 : w1.heap.size = w.heap.size + 2 := by rw [hw1]; simp
  try rw [show (w.alloc (.cells #[.int .i64 t.kind, .string (str t.text), .int .i64 t.n, .int .i64 (t.pos : Int)] 45)).heap.size = w.heap.size + 1 from by simp]
  rw [show (#[Value.string ⟨#[61]⟩, Value.string ⟨#[33, 61]⟩, Value.string ⟨#[60]⟩, Value.string ⟨#[60, 61]⟩, Value.string ⟨#[62]⟩, Value.string ⟨#[62, 61]⟩, Value.string ⟨#[126]⟩] : Array Value) = (cmpL.map fun l => Value.string ⟨l.toArray⟩).toArray from rfl, ← hw1]
  clear hw1
  replace hc := hide hc
  go_wp2_with fail
  go_loopw [4] (fun i wr => ∃ k : Nat, k ≤ 7 ∧ i = .int .i64 k ∧ Below w1.heap.size w1 wr ∧ Hid (t.kind = 4 → ∀ i (hi : i < k) (h7 : i < cmpL.length), cmpL[i] ≠ t.text)) (fun i _ => 7 - (intOf i).toNat)
  case atStart => exact ⟨0, by omega, rfl, Below.refl _ _, fun _ i hi => absurd hi (by omega)⟩
  case round =>
    obtain ⟨k, hk, rfl, hbr, HN⟩ := hrel
    have hszr := hbr.size
    by_cases h1 : k < 7
    · have hL : k < cmpL.length := h1
      have hck := (hbr.cell (p := ⟨w.heap.size + 1, k, none⟩) (by simp; omega)).trans (hc.out k hL)
      have p0 := (hbr.cell (p := ⟨w.heap.size, 0, none⟩) (by simp; omega)).trans ht0
      have p1 := (hbr.cell (p := ⟨w.heap.size, 1, none⟩) (by simp; omega)).trans ht1
      have p2 := (hbr.cell (p := ⟨w.heap.size, 2, none⟩) (by simp; omega)).trans ht2
      have p3 := (hbr.cell (p := ⟨w.heap.size, 3, none⟩) (by simp; omega)).trans ht3
      have HW : Hid (∀ wx, Calls Tryd.prog 54 #[tokV t, .int .i64 4, .string (str (cmpL[k]'hL))] wx fun e w' => e = .returned (.bool (isW t 4 (cmpL[k]'hL))) ∧ Below wx.heap.size wx w') := by
        intro wx
        have := ris_any wx t 4 (str (cmpL[k]'hL))
        rw [str_toList] at this
        exact this
      have HB : Hid (isW t 4 (cmpL[k]'hL) = true → (opOf t) = 1 + (k : Int)) := by
        intro h
        obtain ⟨e1, e2⟩ := of_isW h
        rw [opOf, if_pos e1, findK_at t.text cmpL k hL 1 e2.symm (fun i hi => HN.out e1 i hi (by have : cmpL.length = 7 := rfl; omega))]
      have HN2 : Hid (isW t 4 (cmpL[k]'hL) = false → t.kind = 4 → ∀ i (hi : i < k + 1) (h7 : i < cmpL.length), cmpL[i] ≠ t.text) := by
        intro h e i hi h7
        by_cases hik : i = k
        · subst hik
          intro e2
          rw [isW_both e e2.symm] at h
          exact absurd h (by simp)
        · exact HN.out e i (by omega) h7
      clear HN ht0 ht1 ht2 ht3 hc
      generalize (cmpL[k]'hL) = s at *
      unfold tokV at HW
      go_wp2_with fail
      go_cut [17] (fun v wx => v = .bool (isW t 4 s) ∧ Below w1.heap.size w1 wx)
      case first =>
        go_region_with (first | (go_at_call 54; refine (HW.out _).mono ?_; rintro e w2 ⟨rfl, hb2⟩))
        all_goals
          go_wp2_with fail
          go_meet
          refine ⟨rfl, ?_⟩
          first | exact hbr.trans (hb2.mono hszr) | exact hbr.trans (((below_drewN (Below.refl _ _) 1).trans hb2).mono hszr) | exact below_drewN (hbr.trans (hb2.mono hszr)) 1
      obtain ⟨rfl, hbx⟩ := hcut
      by_cases ew : isW t 4 s = true
      · have hr := hide (HB.out ew)
        rw [ew]
        clear HB HN2 ew HW
        go_wp2_with fail
        go_ret
        exact ⟨ret_int (by rw [hr.out]; omega), hbl.trans (hbx.mono (by omega))⟩
      · rw [Bool.not_eq_true] at ew
        have HN3 := hide (HN2.out ew)
        rw [ew]
        clear HB HN2 ew HW
        go_wp2_with fail
        go_roundw
        case rel => exact ⟨k + 1, by omega, by go_num, hbx, HN3.out⟩
        case measure => simp [intOf]; omega
    · have hr : Hid ((opOf t) = 0) := by
        show _ = _
        by_cases e1 : t.kind = 4
        · rw [opOf, if_pos e1, findK_none t.text cmpL 1 (fun i hi => HN.out e1 i (by have : cmpL.length = 7 := rfl; omega) hi)]
        · rw [opOf, if_neg e1]
      clear HN
      go_wp2_with fail
      go_ret
      exact ⟨ret_int hr.out.symm, hbl.trans (hbr.mono (by omega))⟩
end Go.Proofs.YtnbfblikpoblgaaDoor
