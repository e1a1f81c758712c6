/-
  Contract of name.May.
-/
import Derived.Test.YtiffnfgmkkoaeaaGreatDoorBnGr5
import Derived.Test.YtiffnfgmkkoaeaaGreatDoorBnGr2
import Derived.Test.YtiffnfgmkkoaeaaGreatDoorShelfV
import Derived.Lib.ValidLaws
import Derived.Laws.RangeAny
import Derived.Laws.RangeString
namespace Go.Proofs.YtiffnfgmkkoaeaaGreatDoor
open Go.RowKit
set_option linter.unusedVariables false
/-- The library's two tables of UTF-8. -/
def Utf8M (w : World) : Prop := Lib.Utf8Tabs 1 2 w ∧ 1 < w.heap.size ∧ 2 < w.heap.size
theorem Utf8M.below {w w' : World} (h : Utf8M w) (hb : Below w.heap.size w w') : Utf8M w' := by
  obtain ⟨⟨h1, h2⟩, h3, h4⟩ := h
  refine ⟨⟨fun c hc => (hb.cell (p := ⟨1, c, none⟩) h3).trans (h1 c hc), fun i hi => ⟨(hb.cell (p := ⟨2, 2 * i, none⟩) h4).trans (h2 i hi).1, (hb.cell (p := ⟨2, 2 * i + 1, none⟩) h4).trans (h2 i hi).2⟩⟩, ?_, ?_⟩
  · exact Nat.lt_of_lt_of_le h3 hb.size
  · exact Nat.lt_of_lt_of_le h4 hb.size
def badRune (c : Nat) : Bool := decide (c < 32) || c == 127
/-- No letter from a place on is one that may not be. -/
def runesOk (s : ByteArray) : Nat → Nat → Bool
  | 0, _ => true
  | f + 1, pos => if pos < s.size then (if badRune (Utf8.decode s pos).1 = true then false else runesOk s f (pos + (Utf8.decode s pos).2)) else true
def mayP (s : ByteArray) : Bool := decide (1 ≤ s.size) && decide (s.size ≤ 40) && Lib.validD s.data.toList && runesOk s s.size 0
theorem may_width (s : ByteArray) (pos : Nat) (h : pos < s.size) : 1 ≤ (Utf8.decode s pos).2 := by
  by_cases ha : (s[pos]'h).toNat < 128
  · rw [decode_ascii s pos h ha]
    exact Nat.le_refl _
  · exact (decode_high s pos h (by omega)).2
theorem runesOk_end (s : ByteArray) (f pos : Nat) (h : ¬ pos < s.size) : runesOk s f pos = true := by
  cases f with
  | zero => rfl
  | succ f => simp [runesOk, h]
set_option maxRecDepth 100000 in
set_option maxHeartbeats 1000000 in
theorem may_any (s : ByteArray) (w : World) (hT : Utf8M w) : Calls Tryz.prog 65 #[.string s] w fun e w' => e = .returned (.bool (mayP s)) ∧ Below w.heap.size w w' := by
  by_cases h0 : s.size = 0
  · have he : s = ⟨#[]⟩ := by
      have h1 : s.data.toList = [] := List.eq_nil_of_length_eq_zero (by rw [data_len]; exact h0)
      have h2 : s.data = #[] := by rw [← Array.toList_inj]; exact h1
      cases s; simp at h2; rw [h2]
    subst he
    clear hT
    go_enter Tryz.func65, Tryz.ntmps65
    go_wp2_with fail
    go_ret
    exact ⟨rfl, Below.refl _ _⟩
  · have hse : s.toList.isEmpty = false := by
      rw [ByteArray.toList_eq, List.isEmpty_eq_false_iff]
      intro e
      have h9 := data_len s
      rw [e] at h9
      exact h0 h9.symm
    have hse2 : ¬ s.toList = [] := by
      intro e; rw [e] at hse; cases hse
    by_cases h1 : 40 < s.size
    · have hr : Hid (mayP s = false) := hide (by unfold mayP; rw [decide_eq_false (by omega : ¬ s.size ≤ 40)]; simp)
      have h1I : (40 : Int) < (s.size : Int) := by omega
      clear hT
      go_enter Tryz.func65, Tryz.ntmps65
      go_wp2_with fail
      go_ret
      exact ⟨by rw [hr.out]; rfl, Below.refl _ _⟩
    · have h1I : ¬ (40 : Int) < (s.size : Int) := by omega
      have cV : Hid (Calls Tryz.prog 112 #[.string s] w fun e w' => e = .returned (.bool (Lib.validD s.data.toList)) ∧ Below w.heap.size w w') := hide (Any.utf8_ValidString Tryz.laysValid s w (by omega) hT.1)
      have hm0 : Hid (mayP s = (Lib.validD s.data.toList && runesOk s s.size 0)) := hide (by unfold mayP; rw [decide_eq_true (by omega : 1 ≤ s.size), decide_eq_true (by omega : s.size ≤ 40)]; simp)
      replace hT := hide hT
      go_enter Tryz.func65, Tryz.ntmps65
      go_wp2_with (first | (go_at_call 112; refine cV.out.mono ?_; rintro e w1 ⟨rfl, hb1⟩; replace hb1 := hide hb1; obtain ⟨vv, hvv⟩ : ∃ vv, vv = Lib.validD s.data.toList := ⟨_, rfl⟩; rw [← hvv]; replace hvv := hide hvv; cases vv))
      · have hr : mayP s = false := by rw [hm0.out, ← hvv.out]; rfl
        go_wp2_with fail
        go_ret
        exact ⟨by rw [hr]; rfl, hb1.out⟩
      · have hr : Hid (mayP s = runesOk s s.size 0) := hide (by rw [hm0.out, ← hvv.out]; rfl)
        go_wp2_with fail
        go_loopw [4] (fun _ w' => ∃ (pos b : Nat), w' = w1.iter s pos ∧ Hid (runesOk s b pos = runesOk s s.size 0) ∧ s.size ≤ pos + b) (fun _ w' => s.size - w'.iterPos w1.heap.size)
        case atStart => exact ⟨0, s.size, rfl, hide rfl, by omega⟩
        case round =>
          obtain ⟨pos, b, rfl, hc, hb⟩ := hrel
          by_cases hp : pos < s.size
          · have hnx : ∀ ty, (Instr.next (.pointer (some ⟨w1.heap.size, 0, none⟩)) true ty).run Tryz.prog (w1.iter s pos) = _ := fun ty => run_next_any w1 s pos ty hp
            have hwd := may_width s pos hp
            obtain ⟨b', rfl⟩ : ∃ b', b = b' + 1 := ⟨b - 1, by omega⟩
            have hc2 : (if badRune (Utf8.decode s pos).1 = true then false else runesOk s b' (pos + (Utf8.decode s pos).2)) = runesOk s s.size 0 := by
              rw [← hc.out]; conv => rhs; unfold runesOk
              rw [if_pos hp]
            obtain ⟨rc, hrc⟩ : ∃ rc, rc = (Utf8.decode s pos).1 := ⟨_, rfl⟩
            obtain ⟨rw_, hrw⟩ : ∃ rw_, rw_ = (Utf8.decode s pos).2 := ⟨_, rfl⟩
            rw [← hrc, ← hrw] at hc2
            rw [← hrw] at hwd
            rw [← hrc, ← hrw] at hnx
            replace hrc := hide hrc
            replace hrw := hide hrw
            replace hc2 := hide hc2
            clear hc
            have hbl : Hid (∀ p, Below w.heap.size w (w1.iter s p)) := hide fun p => hb1.out.alloc hb1.out.size _
            by_cases q1 : rc < 32
            · have q1I : (rc : Int) < 32 := by omega
              have hfin : Hid (mayP s = false) := hide (by rw [hr.out, ← hc2.out, if_pos (by unfold badRune; rw [decide_eq_true q1]; rfl)])
              clear q1
              go_wp2_with fail
              go_ret
              exact ⟨by rw [hfin.out]; rfl, hbl.out _⟩
            · have q1I : ¬ (rc : Int) < 32 := by omega
              by_cases q2 : rc = 127
              · have hfin : Hid (mayP s = false) := hide (by rw [hr.out, ← hc2.out, if_pos (by unfold badRune; rw [q2]; rfl)])
                have q2I : ((rc : Int) == 127) = true := by rw [beq_iff_eq]; omega
                replace q2 := hide q2
                go_wp2_with fail
                go_ret
                exact ⟨by rw [hfin.out]; rfl, hbl.out _⟩
              · have q2I : ((rc : Int) == 127) = false := by rw [beq_eq_false_iff_ne]; omega
                have hc3 : Hid (runesOk s b' (pos + rw_) = runesOk s s.size 0) := hide (by
                  rw [← hc2.out, if_neg]
                  unfold badRune
                  rw [decide_eq_false q1, (beq_eq_false_iff_ne (a := rc) (b := 127)).2 q2]
                  decide)
                replace q2 := hide q2
                go_wp2_with fail
                go_roundw
                case rel => exact ⟨pos + rw_, b', rfl, hc3, by omega⟩
                case measure =>
                  rw [World.iterPos_iter, World.iterPos_iter]
                  omega
          · have hnx : ∀ ty, (Instr.next (.pointer (some ⟨w1.heap.size, 0, none⟩)) true ty).run Tryz.prog (w1.iter s pos) = _ := fun ty => run_next_end w1 s pos ty hp
            have hfin : Hid (mayP s = true ∧ Below w.heap.size w (w1.iter s pos)) := hide ⟨by rw [hr.out, ← hc.out, runesOk_end s b pos hp], hb1.out.alloc hb1.out.size _⟩
            go_wp2_with fail
            go_ret
            exact ⟨by rw [hfin.out.1]; rfl, hfin.out.2⟩
end Go.Proofs.YtiffnfgmkkoaeaaGreatDoor
