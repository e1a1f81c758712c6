/-
  Contract of parse.Parse at texts of any length.
-/
import Derived.Test.YtnhcamkccnaeeaaGreatDoorParI
namespace Go.Proofs.YtnhcamkccnaeeaaGreatDoor
open Go.RowKit
set_option linter.unusedVariables false
theorem tokens_long (s : ByteArray) (w : World) (h : 400 < s.size) : Calls Tryz.prog 53 #[.string s] w (TRet w [] 0 10) := by
  have h4 : ¬ s.size ≤ 400 := by omega
  clear h
  go_enter Tryz.func53, Tryz.ntmps53
  go_wp2_with fail
  go_step3
  go_wp2_with fail
  rw [Exit.noGoto_ret]
  go_ret3
  exact TRet.mk (p' := 0) (OT.nil _ _) rfl rfl rfl (Below.refl _ _)
theorem parse_all (s : ByteArray) (w : World) (hA : Asp w) (hgb : 4 < w.heap.size) :
    Calls Tryz.prog 29 #[.string s] w (PRet w (parsedL s.data.toList) (parsedE s.data.toList)) := by
  by_cases h : s.size ≤ 1000000
  · exact parse_any s w h hA hgb
  · have h4 : 400 < s.data.toList.length := by rw [data_len]; omega
    have hE : lexE s.data.toList = 10 := by rw [lexE, if_pos h4]
    have hl : Hid (parsedL s.data.toList = []) := by rw [Hid, parsedL, hE]; rfl
    have he : Hid (parsedE s.data.toList = 10) := by rw [Hid, parsedE, hE]; rfl
    clear h4 hE
    have h5 : 400 < s.size := by omega
    clear h
    go_enter Tryz.func29, Tryz.ntmps29
    go_wp2_with fail
    refine (tokens_long s w h5).mono ?_
    rintro e w1 ⟨v, rfl, ho, hb1⟩
    clear ho
    go_wp2_with fail
    go_ret2
    exact PRet.mk (OA.nil _ _) hl.out he.out hb1
end Go.Proofs.YtnhcamkccnaeeaaGreatDoor
