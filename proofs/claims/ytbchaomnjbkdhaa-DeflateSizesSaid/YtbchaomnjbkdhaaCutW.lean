/-
  Contract of deflate.cut.
-/
import Derived.Test.YtbchaomnjbkdhaaCountW
import Derived.Test.YtbchaomnjbkdhaaDynSpec
namespace Go.Proofs.Ytbchaomnjbkdhaa
open Go.RowKit
set_option linter.unusedVariables false

theorem OE.cut {α : Type} {enc : α → Value} {e : TypeId} {w : World} {base g n c : Nat} {l : List α} (h : OE enc e w base (.slice (some ⟨g, 0, none⟩) n c) n l) (k : Nat) (hk : k ≤ n) : OE enc e w base (.slice (some ⟨g, 0, none⟩) k c) k (l.take k) := by
  have hl := h.len
  obtain ⟨h1, h2⟩ := h
  rcases h2 with ⟨h3, _⟩ | ⟨g', cap', cur, hv, hg, hh, hn, hc, hs, ht⟩
  · cases h3
  · cases hv
    refine ⟨by simp; omega, .inr ⟨g, c, cur, rfl, hg, hh, by omega, hc, hs, ?_⟩⟩
    rw [List.map_take, ← ht, List.take_take]
    congr 1
    omega
def CutRet (w : World) (base g c : Nat) (l : List Nat) (e : Ending) (w' : World) : Prop := e = .returned (.slice (some ⟨g, 0, none⟩) l.length c) ∧ ON w base (.slice (some ⟨g, 0, none⟩) l.length c) l.length l ∧ w' = w
set_option maxRecDepth 100000 in
set_option maxHeartbeats 2000000 in
theorem cut_any (w : World) (base g n c least : Nat) (M : Int) (hM : M = (least : Int)) (l : List Nat) (h : ON w base (.slice (some ⟨g, 0, none⟩) n c) n l) (hn : n ≤ 1000) (hl1 : 1 ≤ least) (hl2 : least ≤ 1000) :
    Calls Try.prog 19 #[.slice (some ⟨g, 0, none⟩) n c, .int .i64 M] w (CutRet w base g c (cutL least l.length l)) := by
  subst hM
  replace h := hide h
  go_enter Try.func19, Try.ntmps19
  go_wp2_with fail
  obtain ⟨wa, hwa⟩ : ∃ wa, wa = w := ⟨_, rfl⟩
  have h1 : Hid (ON wa base (.slice (some ⟨g, 0, none⟩) n c) n l) := by rw [hwa]; exact h.out
  rw [← hwa]
  clear h
  replace hwa := hide hwa
  go_loopw [0] (fun v0 wr => ∃ (m : Nat) (l' : List Nat), v0 = .slice (some ⟨g, 0, none⟩) m c ∧ m ≤ 1000 ∧ Hid (ON wa base (.slice (some ⟨g, 0, none⟩) m c) m l') ∧ Hid (cutL least l.length l = cutL least l'.length l') ∧ wr = wa) (fun v0 _ => lenV v0)
  case atStart => exact ⟨n, l, rfl, hn, h1, rfl, rfl⟩
  case round =>
    clear h1
    obtain ⟨m, l', rfl, hm, hO, hc, rfl⟩ := hrel
    have hlm := hO.out.len
    by_cases c1 : least < m
    · have cm := hO.out.getD (k := m - 1) (by omega)
      have e1 : decide ((least : Int) < (m : Int)) = true := by simp; omega
      have e1' : (least : Int) < (m : Int) := by omega
      have hsub : (m : Int) - 1 = ((m - 1 : Nat) : Int) := by omega
      have hge : (0 : Int) ≤ ((m - 1 : Nat) : Int) := by omega
      have hlt : ((m - 1 : Nat) : Int) < (m : Int) := by omega
      have hle : ((m - 1 : Nat) : Int) ≤ (c : Int) := by
        rcases hO.out.parts with ⟨h0, _⟩ | ⟨g', c', h0, _, h1, _⟩
        · cases h0
        · cases h0; omega
      by_cases c2 : l'.getD (m - 1) 0 = 0
      · rw [c2] at cm
        have hO2 := hide (OE.cut hO.out (m - 1) (by omega))
        have hc2 : Hid (cutL least l.length l = cutL least (l'.take (m - 1)).length (l'.take (m - 1))) := by
          rw [Hid, hc.out, hlm]
          obtain ⟨f, rfl⟩ : ∃ f, m = f + 1 := ⟨m - 1, by omega⟩
          rw [cutL, if_pos ⟨by omega, by rw [hlm]; exact c2⟩, hlm, List.length_take, hlm, Nat.add_sub_cancel, Nat.min_eq_left (by omega)]
        replace hlm := hide hlm
        replace c2 := hide c2
        generalize hm1 : m - 1 = m1 at *
        go_wp2_with fail
        go_roundw
        case rel => exact ⟨m1, l'.take m1, by go_num, by omega, hO2, hc2, (by first | rfl | trivial)⟩
        case measure => simp only [lenV]; omega
      · have hne : (((l'.getD (m - 1) 0 : Nat) : Int) == 0) = false := by rw [beq_eq_false_iff_ne]; omega
        have hc2 : Hid (cutL least l.length l = l') := by
          rw [Hid, hc.out, hlm]
          obtain ⟨f, rfl⟩ : ∃ f, m = f + 1 := ⟨m - 1, by omega⟩
          rw [cutL, if_neg (fun h => c2 (by rw [← hlm]; exact h.2))]
        obtain ⟨V, hV⟩ : ∃ V, V = l'.getD (m - 1) 0 := ⟨_, rfl⟩
        rw [← hV] at cm hne c2
        replace hV := hide hV
        replace hlm := hide hlm
        generalize hm1 : m - 1 = m1 at *
        go_wp2_with fail
        go_ret
        refine ⟨?_, ?_, hwa.out⟩
        · rw [hc2.out, hlm.out]; rfl
        · rw [hc2.out, hlm.out, ← hwa.out]; exact hO.out
    · have e1 : decide ((least : Int) < (m : Int)) = false := by simp; omega
      have e1' : ¬ (least : Int) < (m : Int) := by omega
      have e1'' : (m : Int) ≤ (least : Int) := by omega
      have hc2 : Hid (cutL least l.length l = l') := by
        rw [Hid, hc.out]
        cases hl : l'.length with
        | zero => rfl
        | succ f => rw [cutL, if_neg (fun h => c1 (by omega))]
      replace hlm := hide hlm
      go_wp2_with fail
      go_ret
      refine ⟨?_, ?_, hwa.out⟩
      · rw [hc2.out, hlm.out]; rfl
      · rw [hc2.out, hlm.out, ← hwa.out]; exact hO.out
end Go.Proofs.Ytbchaomnjbkdhaa
