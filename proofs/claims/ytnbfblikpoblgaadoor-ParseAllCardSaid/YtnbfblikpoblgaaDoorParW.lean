/-
  The example of layer 24 holds: the contract of inquestlaw24.wakes.
-/
import Derived.Test.YtnbfblikpoblgaaDoorParI
namespace Go.Proofs.YtnbfblikpoblgaaDoor
open Go.RowKit
set_option linter.unusedVariables false

def exA : List UInt8 := [110, 111, 116, 32, 115, 105, 122, 101, 32, 62, 32, 53]
def exB : List UInt8 := [115, 105, 122, 101, 32, 53]
theorem exA_L : parsedL exA = [⟨5, 5, -1, -1, 5, [], false⟩, ⟨3, 0, 0, -1, 0, [], false⟩] := by kernel_rfl
theorem exA_E : parsedE exA = 0 := by kernel_rfl
theorem exB_L : parsedL exB = [] := by kernel_rfl
theorem exB_E : parsedE exB = 19 := by kernel_rfl

set_option maxRecDepth 100000 in
set_option maxHeartbeats 1000000 in
theorem wakes24_any (w : World) (hA : Asp w) (hgb : 0 < w.heap.size) : Calls Tryd.prog 23 #[] w fun e w' => e = .returned (.bool true) ∧ Below w.heap.size w w' := by
  have hA' := hide hA
  clear hA
  go_enter Tryd.func23, Tryd.ntmps23
  go_wp2_with fail
  refine (parse_any ⟨#[110, 111, 116, 32, 115, 105, 122, 101, 32, 62, 32, 53]⟩ w (by decide) hA'.out hgb).mono ?_
  rintro e w1 ⟨v, rfl, ho, hb1⟩
  rw [show (ByteArray.mk #[110, 111, 116, 32, 115, 105, 122, 101, 32, 62, 32, 53]).data.toList = exA from rfl] at *
  rw [exA_L] at ho
  rw [exA_E]
  have hA1 := asp_below hA'.out hb1 hgb
  have hsz := hb1.size
  rcases ho.parts with ⟨_, h0, _⟩ | ⟨g, cap, rfl, _, _, _, hgl⟩
  · exact absurd h0 (by decide)
  have p1 : w1.cell? ⟨g, 1, none⟩ = some (.int .i64 5) := ho.cell (k := 0) (j := 1) (by decide) (by decide) (by decide)
  have p7 : w1.cell? ⟨g, 7, none⟩ = some (.int .i64 3) := ho.cell (k := 1) (j := 0) (by decide) (by decide) (by decide)
  have p9 : w1.cell? ⟨g, 9, none⟩ = some (.int .i64 0) := ho.cell (k := 1) (j := 2) (by decide) (by decide) (by decide)
  clear ho
  replace hA1 := hide hA1
  go_wp2_with fail
  refine (parse_any ⟨#[115, 105, 122, 101, 32, 53]⟩ w1 (by decide) hA1.out (by omega)).mono ?_
  rintro e w2 ⟨v2, rfl, ho2, hb2⟩
  rw [show (ByteArray.mk #[115, 105, 122, 101, 32, 53]).data.toList = exB from rfl] at *
  rw [exB_E]
  have hbw := hb1.trans (hb2.mono hsz)
  have p1' := (hb2.cell (p := ⟨g, 1, none⟩) hgl).trans p1
  have p7' := (hb2.cell (p := ⟨g, 7, none⟩) hgl).trans p7
  have p9' := (hb2.cell (p := ⟨g, 9, none⟩) hgl).trans p9
  obtain ⟨A2, c2, rfl, -, -, -, -⟩ := ho2.form
  clear p1 p7 p9 ho2 hb2 hA1 hA' hb1
  go_wp2_with fail
  go_ret
  exact ⟨rfl, hbw⟩
end Go.Proofs.YtnbfblikpoblgaaDoor
