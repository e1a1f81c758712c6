/-
  Contract of deflate.Pack where it stores.
-/
import Derived.Test.YtbchaomnjbkdhaaGreatEB
namespace Go.Proofs.YtbchaomnjbkdhaaGreat
open Go.RowKit
set_option linter.unusedVariables false
set_option maxRecDepth 100000 in
theorem bbytes_any (w : World) (g : Nat) (l : List UInt8) (h : WB w g l) (hl : l.length ≤ 100000000) :
    Calls Tryz.prog 15 #[.pointer (some ⟨g, 0, none⟩)] w (RetB w l) := by
  obtain ⟨v, hB, hO, hk⟩ := h
  have c0 := hB.cell 0
  have hlt := hB.lt
  obtain ⟨vA, vc, hv, hR, -, -, -⟩ := hO.form
  subst hv
  replace hR := hide hR
  replace hk := hide hk
  clear hB hO
  go_enter Tryz.func15, Tryz.ntmps15
  go_wp2_with (at_builtin; refine wpList_app_b rfl (.const (.slice none 0 0)) (.tmp 8) rfl w.heap.size _ 0 [] (OB.nil w _) rfl w.heap.size vA _ vc l rfl hR.out (by simp; omega) (Nat.le_refl _) ?_; intro v2 w2 ho2 hb2 hg2 _)
  go_ret
  rw [Nat.zero_add, List.nil_append] at ho2
  exact RetB.mk ho2 hb2
set_option maxRecDepth 100000 in
theorem bwrite_any (w : World) : Calls Tryz.prog 11 #[] w fun e w' => e = .returned (.pointer (some ⟨w.heap.size, 0, none⟩)) ∧ WB w' w.heap.size [] ∧ Below w.heap.size w w' := by
  go_enter Tryz.func11, Tryz.ntmps11
  go_wp2_with fail
  go_ret
  exact ⟨rfl, ⟨.slice none 0 0, Blk.new _ _ _, OB.nil _ _, rfl⟩, (Below.refl _ _).alloc (Nat.le_refl _) _⟩
/-- Packed by storing. -/
def PackRet (W : World) (l : List UInt8) (e : Ending) (w' : World) : Prop := ∃ v, e = .returned (.tuple #[v, .int .i64 0]) ∧ OB w' W.heap.size v l.length l ∧ Below W.heap.size W w'
set_option maxRecDepth 100000 in
set_option maxHeartbeats 1000000 in
theorem pack_any (w : World) (A : Option Addr) (n c : Nat) (b : List UInt8) (hb : RB w w.heap.size A n b) (hnc : n ≤ c) (hn : n ≤ 1000000) :
    Calls Tryz.prog 6 #[.slice A n c, .int .i64 0] w (PackRet w (storedS (n + 1) b)) := by
  have hlen := hb.len
  replace hb := hide hb
  replace hlen := hide hlen
  go_enter Tryz.func6, Tryz.ntmps6
  go_wp2_with fail
  refine (bwrite_any w).mono ?_
  rintro e w1 ⟨rfl, hW1, hb1⟩
  replace hW1 := hide hW1
  have hix : ∀ wx, (Instr.index 41 (.agg #[.func (Fn.func 12) #[] #[], .func (Fn.func 13) #[] #[], .func (Fn.func 14) #[] #[]]) (.int .i64 0)).run Tryz.prog wx = .ok (.func (Fn.func 12) #[] #[]) wx := fun _ => by kernel_rfl
  go_wp2_with fail
  refine (stored_any w1 w.heap.size A n c b hW1.out (hb.out.below hb1) hnc hn).mono ?_
  rintro e w2 ⟨rfl, hW2, hb2⟩
  have hsl := storedS_len (n + 1) b
  have hb12 := hb1.trans hb2
  rw [hlen.out] at hsl
  generalize storedS (n + 1) b = L at *
  replace hW2 := hide hW2
  clear hW1 hix hb1 hb2
  go_wp2_with fail
  refine (bbytes_any w2 w.heap.size L hW2.out (by omega)).mono ?_
  rintro e w3 ⟨v3, rfl, ho3, hb3⟩
  have hb13 := hb12.trans (hb3.mono hb12.size)
  replace ho3 := hide (ho3.more hb12.size)
  clear hb3 hW2
  go_wp2_with fail
  go_ret2
  exact ⟨v3, rfl, ho3.out, hb13⟩
end Go.Proofs.YtbchaomnjbkdhaaGreat
