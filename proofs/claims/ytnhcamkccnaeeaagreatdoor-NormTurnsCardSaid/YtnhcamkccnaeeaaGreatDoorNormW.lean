/-
  The example of layer 25 holds: the contract of inquestlaw25.wakes.
-/
import Derived.Test.YtnhcamkccnaeeaaGreatDoorNormH
import Derived.Test.YtnhcamkccnaeeaaGreatDoorParL
namespace Go.Proofs.YtnhcamkccnaeeaaGreatDoor
open Go.RowKit
set_option linter.unusedVariables false

def exC : List UInt8 := [110, 111, 116, 32, 40, 115, 105, 122, 101, 32, 60, 32, 53, 32, 111, 114, 32, 104, 97, 115, 32, 34, 120, 34, 41]
def exQ : Q := .neg (.two 1 (.term ⟨5, 3, -1, -1, 5, [], false⟩) (.term ⟨9, 1, -1, -1, 0, [120], true⟩))
theorem exC_L : parsedL exC = exQ.parts 0 := by kernel_rfl
theorem exC_E : parsedE exC = 0 := by kernel_rfl
theorem exQ_E : normErr globG dosP exQ = 0 := by
  unfold normErr
  rw [if_neg (by decide), errs_terms globG dosP exQ 0 (by
    refine ⟨.inl rfl, ⟨.inr (by decide), rfl, rfl, ?_, ?_, by decide, by decide, by decide⟩, ⟨.inl ⟨rfl, rfl, rfl⟩, rfl, rfl, ?_, ?_, by decide, by decide, by decide⟩⟩ <;> intro h <;> first | rfl | cases h)]
  rfl
theorem exQ_ok : okQ exQ := by
  refine ⟨.inl rfl, ⟨.inr (by decide), rfl, rfl, ?_, ?_, by decide, by decide, by decide⟩, ⟨.inl ⟨rfl, rfl, rfl⟩, rfl, rfl, ?_, ?_, by decide, by decide, by decide⟩⟩ <;> intro h <;> first | rfl | cases h
theorem exQ_R : normRes globG dosP exQ = [⟨5, 6, -1, -1, 5, [], false⟩, ⟨9, 2, -1, -1, 0, [120], true⟩, ⟨2, 0, 0, 1, 0, [], false⟩] := by
  rw [normRes, if_pos exQ_E]
  rfl
/-- What the walks of this layer lean on. -/
def Tabs (w : World) : Prop := Asp w ∧ 4 < w.heap.size ∧ Utf8T w ∧ TurnT w
theorem Tabs.below {w w' : World} (h : Tabs w) (hb : Below w.heap.size w w') : Tabs w' :=
  ⟨asp_below h.1 hb h.2.1, Nat.lt_of_lt_of_le h.2.1 hb.size, h.2.2.1.below hb, h.2.2.2.below hb h.2.2.2.2⟩
set_option maxRecDepth 100000 in
set_option maxHeartbeats 2000000 in
theorem wakes25_any (w : World) (hA : Tabs w) : Calls Tryz.prog 14 #[] w fun e w' => e = .returned (.bool true) ∧ Below w.heap.size w w' := by
  have hA' := hide hA
  clear hA
  go_enter Tryz.func14, Tryz.ntmps14
  go_wp2_with fail
  refine (parse_all ⟨#[110, 111, 116, 32, 40, 115, 105, 122, 101, 32, 60, 32, 53, 32, 111, 114, 32, 104, 97, 115, 32, 34, 120, 34, 41]⟩ w hA'.out.1 hA'.out.2.1).mono ?_
  rintro e w1 ⟨v, rfl, ho, hb1⟩
  rw [show (ByteArray.mk #[110, 111, 116, 32, 40, 115, 105, 122, 101, 32, 60, 32, 53, 32, 111, 114, 32, 104, 97, 115, 32, 34, 120, 34, 41]).data.toList = exC from rfl] at *
  rw [exC_L] at ho
  rw [exC_E]
  have hA1 := hide (hA'.out.below hb1)
  have hsz := hb1.size
  obtain ⟨lA, lc, rfl, hRA, -, -, -⟩ := ho.form
  replace hRA := hide hRA
  clear ho
  go_wp2_with fail
  refine (norm_any w1 lA _ lc exQ hRA.out exQ_ok ⟨⟨rfl, rfl⟩, ⟨rfl, rfl⟩⟩ (by decide) hA1.out.2.2.1 hA1.out.2.2.2).mono ?_
  rintro e w2 ⟨v2, rfl, ho2, hb2⟩
  rw [exQ_R] at ho2
  rw [exQ_E]
  have hbw := hb1.trans (hb2.mono hsz)
  rcases ho2.parts with ⟨_, h0, _⟩ | ⟨g, cap, rfl, _, _, _, hgl⟩
  · exact absurd h0 (by decide)
  have p1 : w2.cell? ⟨g, 1, none⟩ = some (.int .i64 6) := ho2.cell (k := 0) (j := 1) (by decide) (by decide) (by decide)
  have p8 : w2.cell? ⟨g, 8, none⟩ = some (.int .i64 2) := ho2.cell (k := 1) (j := 1) (by decide) (by decide) (by decide)
  have p14 : w2.cell? ⟨g, 14, none⟩ = some (.int .i64 2) := ho2.cell (k := 2) (j := 0) (by decide) (by decide) (by decide)
  clear ho2 hb2 hA1 hA' hb1 hRA
  go_wp2_with fail
  go_ret
  exact ⟨rfl, hbw⟩
end Go.Proofs.YtnhcamkccnaeeaaGreatDoor
