/-
  Contract of deflate.items at any bytes; of count and cut.
-/
import Derived.Test.YtbchaomnjbkdhaaGreatEItemsW
import Derived.Test.YtbchaomnjbkdhaaGreatELengthsW
namespace Go.Proofs.YtbchaomnjbkdhaaGreat
open Go.RowKit
set_option linter.unusedVariables false
theorem RB.lit {w : World} {B n : Nat} {A : Option Addr} {b : List UInt8} (h : RB w B A n b) (h0 : 0 < n) : ∃ ab ao, A = some ⟨ab, ao, none⟩ := by
  have hl := h.len
  obtain ⟨ad, rfl, _, hc⟩ := h.elem h0 (by omega)
  obtain ⟨bl, off, sp⟩ := ad
  have e0 : (Addr.mk bl off sp).add 0 = ⟨bl, off, sp⟩ := rfl
  rw [e0] at hc
  cases sp with
  | none => exact ⟨bl, off, rfl⟩
  | some s =>
    exfalso
    unfold World.cell? at hc
    split at hc
    · simp at hc
    · cases hc
set_option maxRecDepth 100000 in
set_option maxHeartbeats 2000000 in
theorem items_none (w : World) (A : Option Addr) (c : Nat) : Calls Tryz.prog 33 #[.slice A 0 c] w (ItRet w []) := by
  have hmm := @run_makeMap Tryz.prog
  have hB := (Blk.new w 22 #[.slice A 0 c])
  have cB : ((((w.alloc (.cells #[.slice A 0 c] 22)).alloc (.map #[] 0)).alloc (.cells #[.map (some (w.heap.size + 1))] 110))).cell? ⟨w.heap.size, 0, none⟩ = some (.slice A 0 c) := ((hB.alloc _).alloc _).cell 0
  have hb : Hid (Below w.heap.size w ((((w.alloc (.cells #[.slice A 0 c] 22)).alloc (.map #[] 0)).alloc (.cells #[.map (some (w.heap.size + 1))] 110)))) := (((Below.refl _ _).alloc (Nat.le_refl _) _).alloc (by simp) _).alloc (by simp; omega) _
  replace hB := hide hB
  go_enter Tryz.func33, Tryz.ntmps33
  go_wp2_with fail
  generalize ((w.alloc (.cells #[.slice A 0 c] 22)).alloc (.map #[] 0)).alloc (.cells #[.map (some (w.heap.size + 1))] 110) = wa at *
  go_loopw [3, 6] (fun v3 v6 wr => v3 = .slice none 0 0 ∧ v6 = .int .i64 0 ∧ wr = wa) (fun _ _ _ => 0)
  case atStart => exact ⟨rfl, rfl, rfl⟩
  case round =>
    obtain ⟨rfl, rfl, rfl⟩ := hrel
    go_wp2_with fail
    go_ret
    exact ⟨none, 0, rfl, ⟨rfl, fun h => by simp at h⟩, hb.out⟩
theorem items_any (w : World) (A : Option Addr) (n c : Nat) (b : List UInt8) (hb : RB w w.heap.size A n b) (hn : n ≤ 1000000) (hnc : n ≤ c) : Calls Tryz.prog 33 #[.slice A n c] w (ItRet w (itemsL b)) := by
  by_cases h0 : n = 0
  · subst h0
    have : b = [] := List.eq_nil_of_length_eq_zero hb.len
    subst this
    exact items_none w A c
  · obtain ⟨ab, ao, rfl⟩ := hb.lit (by omega)
    exact items_some w ab ao n c b hb (by omega) hn hnc
end Go.Proofs.YtbchaomnjbkdhaaGreat
