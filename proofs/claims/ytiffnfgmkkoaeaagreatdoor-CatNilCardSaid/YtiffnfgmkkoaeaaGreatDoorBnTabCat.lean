/-
  From the row's condition on the listed tables to what the walk of CatNil leans on.
-/
import Derived.Test.YtiffnfgmkkoaeaaGreatDoorRows
import Derived.Test.YtiffnfgmkkoaeaaGreatDoorBnLawCatNil
import Derived.Test.YtiffnfgmkkoaeaaGreatDoorBnRow
import Derived.Test.YtiffnfgmkkoaeaaGreatDoorBnDoor
import Derived.Lib.LaidU8T
namespace Go.Proofs.YtiffnfgmkkoaeaaGreatDoor
open Go.RowKit
set_option linter.unusedVariables false
theorem u8_extraC : U8Extra Tryz.prog Tryz.laysValid_ren where
  n3 := by kernel_rfl
  n4 := by kernel_rfl
  y3 := by kernel_rfl
  y4 := by kernel_rfl
  c5 := by kernel_rfl
  c119 := by kernel_rfl
  c138 := by kernel_rfl
theorem lt_of_cell {w : World} {g o : Nat} {v : Value} (h : w.cell? ⟨g, o, none⟩ = some v) : g < w.heap.size := by
  obtain ⟨x, hx, _⟩ := cells_of_cell h
  rcases Nat.lt_or_ge g w.heap.size with h9 | h9
  · exact h9
  · rw [Array.getElem?_eq_none h9] at hx; cases hx
theorem utf8M_of {W : World} (l : List (String × DataW Unit)) (hh : (l.all fun x => x.2.handleName?.isNone) = true) (h : laidMetH Tryz.prog l W)
    (m3 : ("unicode/utf8.first", Rows.laid_unicode_utf8_first) ∈ l) (m4 : ("unicode/utf8.acceptRanges", Rows.laid_unicode_utf8_acceptRanges) ∈ l) : Utf8M W := by
  rw [MakeChecks.laidMetH_plain _ _ _ hh] at h
  have r3 := Lib.laidMet.reads h m3
  have r4 := Lib.laidMet.reads h m4
  have e3 : (Rows.laid_unicode_utf8_first : DataW Unit) = Lib.firstData := by kernel_rfl
  have e4 : (Rows.laid_unicode_utf8_acceptRanges : DataW Unit) = Lib.acceptData := by kernel_rfl
  rw [e3] at r3
  rw [e4] at r4
  have u := utf8Tabs_of_readsT (U8Types.of196 Tryz.laysValid) u8_extraC r3 r4
  have u' : Lib.Utf8Tabs 1 2 W := u
  exact ⟨u', lt_of_cell (u'.1 0 (by decide)), lt_of_cell (u'.2 0 (by decide)).1⟩
theorem catNil_true (m : Int) (W : World) (hg : 0 < W.heap.size) (hm : W.cell? ⟨0, 0, none⟩ = some (.int .i64 m)) (hL : laidMetH Tryz.prog Rows.catNilRow.laid W) (s : ByteArray) {P : Prop} (hs : P) :
    Calls Tryz.prog 3 #[.string s] W fun e w' => e = .returned (.bool true) ∧ Below W.heap.size W w' :=
  catNil_walk W (utf8M_of Rows.catNilRow.laid (by kernel_rfl) hL (.tail _ (.head _)) (.head _)) ⟨hg, m, hm⟩ s
end Go.Proofs.YtiffnfgmkkoaeaaGreatDoor
