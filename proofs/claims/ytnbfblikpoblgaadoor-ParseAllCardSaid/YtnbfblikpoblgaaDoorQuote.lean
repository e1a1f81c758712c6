/-
  Contract of lex.Quote.
-/
import Derived.Test.YtnbfblikpoblgaaDoorShelf
import Derived.Test.YtnbfblikpoblgaaDoorQuoteLaw
namespace Go.Proofs.YtnbfblikpoblgaaDoor
open Go.RowKit
set_option linter.unusedVariables false

theorem rep_len (c : UInt8) (new : List UInt8) (h : new.length ≤ 2) (s : List UInt8) : (s.flatMap (repF c new)).length ≤ 2 * s.length := by
  induction s with
  | nil => simp
  | cons b r ih =>
    have : (repF c new b).length ≤ 2 := by unfold repF; split <;> simp [h]
    rw [List.flatMap_cons, List.length_append, List.length_cons]; omega
theorem quote_any (s : ByteArray) (m : Int) (w : World) (hs : s.size ≤ 1000000) (hg : 2 < w.heap.size) (hm : w.cell? ⟨2, 0, none⟩ = some (.int .i64 m)) :
    Calls Tryd.prog 21 #[.string s] w fun e w' => e = .returned (.string (str (34 :: (escL s.data.toList ++ [34])))) ∧ Below w.heap.size w w' := by
  have hlen := data_len s
  have hc1 : Lib.countB s ⟨#[92]⟩ ≤ s.size + 1 := by rw [← hlen]; exact Lib.count_le _ _
  obtain ⟨r1, hr1⟩ : ∃ r, r = str (Lib.replaceAll s.data.toList [92] [92, 92]) := ⟨_, rfl⟩
  have hl1 : r1.data.toList = Lib.replaceAll s.data.toList [92] [92, 92] := by rw [hr1, str_toList]
  have hz1 : r1.size ≤ 2000000 := by
    rw [← data_len, hl1, replaceAll_one _ _ _ rfl]
    have := rep_len 92 [92, 92] (by decide) s.data.toList
    omega
  have hc2 : Lib.countB r1 ⟨#[34]⟩ ≤ r1.size + 1 := by rw [← data_len r1]; exact Lib.count_le _ _
  have he := hide (esc_two s.data.toList)
  rw [← hl1] at he
  replace hlen := hide hlen
  replace hl1 := hide hl1
  go_enter Tryd.func21, Tryd.ntmps21
  go_wp2_with fail
  refine (Tryd.strings_ReplaceAll s ⟨#[92]⟩ ⟨#[92, 92]⟩ m w (by omega) hm (by decide) (by show s.size + _ * 2 ≤ _; omega)).mono ?_
  rintro e w1 ⟨rfl, hb1⟩
  rw [show (ByteArray.mk (Lib.replaceAll s.data.toList (ByteArray.mk #[92]).data.toList (ByteArray.mk #[92, 92]).data.toList).toArray) = r1 from hr1.symm]
  replace hr1 := hide hr1
  have hm1 : w1.cell? ⟨2, 0, none⟩ = some (.int .i64 m) := (hb1.cell (p := ⟨2, 0, none⟩) hg).trans hm
  have hsz := hb1.size
  go_wp2_with fail
  refine (Tryd.strings_ReplaceAll r1 ⟨#[34]⟩ ⟨#[92, 34]⟩ m w1 (by omega) hm1 (by decide) (by show r1.size + _ * 2 ≤ _; omega)).mono ?_
  rintro e w2 ⟨rfl, hb2⟩
  rw [show (ByteArray.mk (Lib.replaceAll r1.data.toList (ByteArray.mk #[34]).data.toList (ByteArray.mk #[92, 34]).data.toList).toArray) = str (escL s.data.toList) from congrArg str he.out]
  have hz2 : (str (escL s.data.toList)).size ≤ 2000000 := by
    rw [str_size]; have := escL_len s.data.toList; have := hlen.out; omega
  go_wp2_with fail
  go_ret
  refine ⟨?_, hb1.trans (hb2.mono hsz)⟩
  have e : (⟨#[34]⟩ ++ str (escL s.data.toList) ++ ⟨#[34]⟩ : ByteArray) = str (34 :: (escL s.data.toList ++ [34])) := by
    rw [show (ByteArray.mk #[34]) = str [34] from rfl, str_append, str_append]; rfl
  show Ending.returned (.string (⟨#[34]⟩ ++ str (escL s.data.toList) ++ ⟨#[34]⟩)) = _
  rw [e]
end Go.Proofs.YtnbfblikpoblgaaDoor
