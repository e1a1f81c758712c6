/-
  Contracts of cat.in, may, pack, order.
-/
import Derived.Test.YtiffnfgmkkoaeaaGreatDoorBnMay
import Derived.Test.YtiffnfgmkkoaeaaGreatDoorBnText
import Derived.Test.YtiffnfgmkkoaeaaGreatDoorBnGr13
namespace Go.Proofs.YtiffnfgmkkoaeaaGreatDoor
open Go.RowKit
set_option linter.unusedVariables false
def inP (most : Int) (zs : List Int) : Bool := zs.all fun z => decide (0 ≤ z) && decide (z ≤ most)
theorem inP_bad {most : Int} {zs : List Int} {k : Nat} {z : Int} (h : zs[k]? = some z) (hz : z < 0 ∨ most < z) : inP most zs = false := by
  unfold inP
  rw [List.all_eq_false]
  refine ⟨z, List.mem_of_getElem? h, ?_⟩
  rcases hz with h9 | h9
  · rw [decide_eq_false (by omega : ¬ 0 ≤ z)]; simp
  · rw [decide_eq_false (by omega : ¬ z ≤ most)]; simp
set_option maxRecDepth 100000 in
theorem in_any (w : World) (B : Option Addr) (n c : Nat) (zs : List Int) (hb : RI w w.heap.size B n zs) (hn : n ≤ 1000) (most : Int) :
    Calls Tryz.prog 29 #[.int .i64 most, .slice B n c] w fun e w' => e = .returned (.bool (inP most zs)) ∧ w = w' := by
  have hlen := hide hb.len
  replace hb := hide hb
  go_enter Tryz.func29, Tryz.ntmps29
  go_wp2_with fail
  go_loopw [9] (fun v wx => ∃ k : Nat, k ≤ n ∧ v = .int .i64 (k : Int) ∧ Hid (∀ j z, j < k → zs[j]? = some z → 0 ≤ z ∧ z ≤ most) ∧ wx = w) (fun v _ => n - (intOf v).toNat)
  case atStart => exact ⟨0, by omega, rfl, hide fun j z hj => absurd hj (by omega), rfl⟩
  case round =>
    obtain ⟨k, hk, rfl, hall, hwx⟩ := hrel
    subst hwx
    by_cases h1 : k < n
    · have hz1 : k < zs.length := by have := hlen.out; omega
      obtain ⟨bd, rfl, hbb, cb⟩ := hb.out.elem h1 hz1
      obtain ⟨z, hz⟩ : ∃ z, z = zs[k] := ⟨_, rfl⟩
      have hzz : Hid (zs[k]? = some z) := hide (by rw [hz]; exact List.getElem?_eq_getElem hz1)
      rw [← hz] at cb
      replace hz := hide hz
      replace hall : Hid _ := hall
      have h1I : (k : Int) < (n : Int) := by omega
      have hk0 : (0 : Int) ≤ (k : Int) := by omega
      by_cases q1 : z < 0
      · have hr : Hid (inP most zs = false) := hide (inP_bad hzz.out (.inl q1))
        go_wp2_with fail
        go_ret
        exact ⟨by rw [hr.out]; rfl, rfl⟩
      · by_cases q2 : most < z
        · have hr : Hid (inP most zs = false) := hide (inP_bad hzz.out (.inr q2))
          go_wp2_with fail
          go_ret
          exact ⟨by rw [hr.out]; rfl, rfl⟩
        · have hall2 : Hid (∀ j z, j < k + 1 → zs[j]? = some z → 0 ≤ z ∧ z ≤ most) := hide fun j z' hj hz' => by
            rcases Nat.lt_or_ge j k with h9 | h9
            · exact hall.out j z' h9 hz'
            · have : j = k := by omega
              subst this
              rw [hzz.out] at hz'
              injection hz' with hz'
              subst hz'
              omega
          go_wp2_with fail
          go_roundw
          case rel => exact ⟨k + 1, by omega, by congr 1, hall2, by first | rfl | trivial⟩
          case measure => simp [intOf]; omega
    · have hr : Hid (inP most zs = true) := hide (by
        unfold inP
        rw [List.all_eq_true]
        intro z hz
        obtain ⟨j, hj⟩ := List.mem_iff_getElem?.1 hz
        have hjl := (List.getElem?_eq_some_iff.1 hj).1
        have := hall.out j z (by have := hlen.out; omega) hj
        rw [decide_eq_true this.1, decide_eq_true this.2]; rfl)
      have h1I : ¬ (k : Int) < (n : Int) := by omega
      go_wp2_with fail
      go_ret
      exact ⟨by rw [hr.out]; rfl, rfl⟩
/-- Numbers that have just been laid, written out. -/
theorem RI.lits (w : World) (zs : List Int) (t : TypeId) (n : Nat) (hn : zs.length = n) : RI (w.alloc (.cells (iv zs).toArray t)) (w.alloc (.cells (iv zs).toArray t)).heap.size (some ⟨w.heap.size, 0, none⟩) n zs := by
  refine ⟨by simp [iv, hn], fun _ => ⟨_, rfl, by simp, fun j u hj => ?_⟩⟩
  rw [show (⟨w.heap.size, 0, none⟩ : Addr).add j = ⟨w.heap.size, j, none⟩ from by unfold Addr.add; split <;> simp_all]
  rw [cell_of_row (w.alloc (.cells (iv zs).toArray t)) w.heap.size j (iv zs).toArray t (0, 0) (heap_alloc_new w _)]
  simpa using hj
theorem RN.lits (w : World) (ns : List Nat) (t : TypeId) (n : Nat) (hn : ns.length = n) : RN (w.alloc (.cells (ns.map encI).toArray t)) (w.alloc (.cells (ns.map encI).toArray t)).heap.size (some ⟨w.heap.size, 0, none⟩) n ns := by
  refine ⟨by simp [hn], fun _ => ⟨_, rfl, by simp, fun j u hj => ?_⟩⟩
  rw [show (⟨w.heap.size, 0, none⟩ : Addr).add j = ⟨w.heap.size, j, none⟩ from by unfold Addr.add; split <;> simp_all]
  rw [cell_of_row (w.alloc (.cells (ns.map encI).toArray t)) w.heap.size j (ns.map encI).toArray t (0, 0) (heap_alloc_new w _)]
  simpa using hj
theorem RS.lit1 (w : World) (s : ByteArray) (t : TypeId) : RS (w.alloc (.cells #[.string s] t)) (w.alloc (.cells #[.string s] t)).heap.size (some ⟨w.heap.size, 0, none⟩) 1 [s] := by
  refine ⟨by simp, fun _ => ⟨_, rfl, by simp, fun j u hj => ?_⟩⟩
  match j, hj with
  | 0, hj => simp at hj; subst hj; simp [Addr.add]
/-- A file. -/
structure FileC where
  name : List UInt8
  meth : Int
  dos : Int
  crc : Int
  csize : Int
  size : Int
  at_ : Int
def fileCs (f : FileC) : Array Value := #[.string (str f.name), .int .i64 f.meth, .int .i64 f.dos, .int .u32 f.crc, .int .i64 f.csize, .int .i64 f.size, .int .i64 f.at_]
def mayF (f : FileC) : Bool := mayP (str f.name) && (f.meth == 0 || f.meth == 8) && inP 4294967295 [f.dos, f.csize, f.at_] && inP 281474976710655 [f.size]
set_option maxRecDepth 100000 in
set_option maxHeartbeats 1000000 in
theorem cmay_any (w : World) (f : FileC) (hT : Utf8M w) : Calls Tryz.prog 33 #[.agg #[.string (str f.name), .int .i64 f.meth, .int .i64 f.dos, .int .u32 f.crc, .int .i64 f.csize, .int .i64 f.size, .int .i64 f.at_]] w fun e w' => e = .returned (.bool (mayF f)) ∧ Below w.heap.size w w' := by
  obtain ⟨o, ho⟩ : ∃ o, o = Obj.cells (fileCs f) 37 := ⟨_, rfl⟩
  have hB0 := (Below.refl w.heap.size w).alloc (Nat.le_refl _) o
  have hT0 : Utf8M (w.alloc o) := hT.below ((Below.refl w.heap.size w).alloc (Nat.le_refl _) o)
  have hb0 : Blk (w.alloc o) w.heap.size 37 (fileCs f) := by rw [ho]; exact Blk.new w 37 _
  have hnm := hide (may_any (str f.name) (w.alloc o) hT0)
  obtain ⟨B1, hB1⟩ : ∃ B1, B1 = mayP (str f.name) := ⟨_, rfl⟩
  obtain ⟨B3, hB3⟩ : ∃ B3, B3 = inP 4294967295 [f.dos, f.csize, f.at_] := ⟨_, rfl⟩
  obtain ⟨B4, hB4⟩ : ∃ B4, B4 = inP 281474976710655 [f.size] := ⟨_, rfl⟩
  have hin3 : Hid (∀ (wx : World) (mo : Int), Calls Tryz.prog 29 #[.int .i64 mo, .slice (some ⟨wx.heap.size, 0, none⟩) 3 3] (wx.alloc (.cells #[.int .i64 f.dos, .int .i64 f.csize, .int .i64 f.at_] 3)) fun e w' => e = .returned (.bool (inP mo [f.dos, f.csize, f.at_])) ∧ wx.alloc (.cells #[.int .i64 f.dos, .int .i64 f.csize, .int .i64 f.at_] 3) = w') := hide fun wx mo =>
    in_any _ _ 3 3 [f.dos, f.csize, f.at_] (RI.lits wx [f.dos, f.csize, f.at_] 3 3 rfl) (by omega) _
  have hin4 : Hid (∀ (wx : World) (o1 : Obj) (mo : Int), Calls Tryz.prog 29 #[.int .i64 mo, .slice (some ⟨wx.heap.size + 1, 0, none⟩) 1 1] ((wx.alloc o1).alloc (.cells #[.int .i64 f.size] 3)) fun e w' => e = .returned (.bool (inP mo [f.size])) ∧ (wx.alloc o1).alloc (.cells #[.int .i64 f.size] 3) = w') := hide fun wx o1 mo => by
    have e9 : (wx.alloc o1).heap.size = wx.heap.size + 1 := World.size_alloc _ _
    rw [← e9]
    exact in_any _ _ 1 1 [f.size] (RI.lits (wx.alloc o1) [f.size] 3 1 rfl) (by omega) _
  have hmay : Hid (mayF f = (B1 && (f.meth == 0 || f.meth == 8) && B3 && B4)) := hide (by unfold mayF; rw [hB1, hB3, hB4])
  rw [← hB1] at hnm
  replace hB1 := hide hB1
  replace hB3 := hide hB3
  replace hB4 := hide hB4
  replace hT := hide hT
  replace hT0 := hide hT0
  obtain ⟨nm, meth, dos, crc, csize, size, at_⟩ := f
  simp only at *
  unfold fileCs at ho hb0
  simp only at ho hb0
  have c0 := hb0.cell 0
  subst ho
  replace hb0 := hide hb0
  replace hB0 := hide hB0
  have hend : Hid (∀ (v : Bool) (W : World), v = mayF ⟨nm, meth, dos, crc, csize, size, at_⟩ → Below w.heap.size w W → (Ending.returned (.bool v) = .returned (.bool (mayF ⟨nm, meth, dos, crc, csize, size, at_⟩)) ∧ Below w.heap.size w W)) := hide fun v W hv hB => ⟨by rw [hv], hB⟩
  obtain ⟨mb, hmb⟩ : ∃ mb, mb = (meth == 0 || meth == 8) := ⟨_, rfl⟩
  rw [← hmb] at hmay
  have hcase : Hid (mb = true ∧ meth = 0 ∨ mb = true ∧ meth = 8 ∨ mb = false ∧ (meth == 0) = false ∧ (meth == 8) = false) := hide (by
    by_cases q0 : meth = 0
    · exact .inl ⟨by rw [hmb, q0]; rfl, q0⟩
    · by_cases q8 : meth = 8
      · exact .inr (.inl ⟨by rw [hmb, q8]; rfl, q8⟩)
      · have e0 := (beq_eq_false_iff_ne (a := meth) (b := 0)).2 q0
        have e8 := (beq_eq_false_iff_ne (a := meth) (b := 8)).2 q8
        exact .inr (.inr ⟨by rw [hmb, e0, e8]; rfl, e0, e8⟩))
  clear hmb
  rcases hcase.out with ⟨rfl, rfl⟩ | ⟨rfl, rfl⟩ | ⟨rfl, q0, q8⟩
  all_goals
    clear hcase
    go_enter Tryz.func33, Tryz.ntmps33
    go_wp2_with fail
    go_at_call 65
    refine hnm.out.mono ?_
    rintro e w1 ⟨rfl, hb1⟩
    have hbk := hb0.out.below hb1 (Blk.lt hb0.out)
    have d1 := hbk.cell 1
    have d2 := hbk.cell 2
    have d4 := hbk.cell 4
    have d5 := hbk.cell 5
    have d6 := hbk.cell 6
    have hB01 := hide (hB0.out.trans (hb1.mono (by simp)))
    have hbk2 := hbk.alloc (.cells #[.int .i64 dos, .int .i64 csize, .int .i64 at_] 3)
    have g5 := hbk2.cell 5
    have hB02 := hide (hB01.out.alloc hB01.out.size (.cells #[.int .i64 dos, .int .i64 csize, .int .i64 at_] 3))
    have hB03 := hide (hB02.out.alloc hB02.out.size (.cells #[.int .i64 size] 3))
    replace hbk := hide hbk
    replace hbk2 := hide hbk2
    replace hb1 := hide hb1
    clear hnm
    cases B1 with
    | false =>
      go_wp2_with fail
      go_ret
      exact hend.out _ _ (by rw [hmay.out]; simp) hB01.out
    | true =>
      go_wp2_with fail
      first
      | (go_ret; exact hend.out _ _ (by rw [hmay.out]; simp) hB01.out)
      | (go_at_call 29
         refine (hin3.out _ _).mono ?_
         rintro e w2 ⟨rfl, rfl⟩
         rw [← hB3.out]
         clear hin3
         cases B3 with
         | false =>
           go_wp2_with fail
           go_ret
           exact hend.out _ _ (by rw [hmay.out]; simp) hB02.out
         | true =>
           go_wp2_with fail
           go_at_call 29
           refine (hin4.out _ _ _).mono ?_
           rintro e w3 ⟨rfl, rfl⟩
           rw [← hB4.out]
           clear hin4
           go_wp2_with fail
           go_ret
           exact hend.out _ _ (by rw [hmay.out]; simp) hB03.out)
end Go.Proofs.YtiffnfgmkkoaeaaGreatDoor
