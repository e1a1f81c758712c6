/-
  From a row's condition on the listed tables to what the walks of layer 25 lean on.
-/
import Derived.Test.YtnhcamkccnaeeaaGreatDoorRows
import Derived.Test.YtnhcamkccnaeeaaGreatDoorNormW
import Derived.Test.YtnhcamkccnaeeaaGreatDoorRow
import Derived.Test.YtnhcamkccnaeeaaGreatDoorAsp
import Derived.Lib.LaidU8T
namespace Go.Proofs.YtnhcamkccnaeeaaGreatDoor
set_option linter.unusedVariables false

def turnTab : List Int := [0, 2, 1, 6, 5, 4, 3, 8, 7]
theorem turnTab_at : ∀ o : Nat, o < 9 → turnTab[o]? = some (turnedI (o : Int)) := by
  intro o ho
  match o, ho with
  | 0, _ => rfl
  | 1, _ => rfl
  | 2, _ => rfl
  | 3, _ => rfl
  | 4, _ => rfl
  | 5, _ => rfl
  | 6, _ => rfl
  | 7, _ => rfl
  | 8, _ => rfl
theorem tabIs_of_reads {P : Program} {W : World} {name : String} {k : IntKind} {zs : List Int} {g : Nat} {t e : TypeId} {n : Nat}
    (hg : P.globalNamed name = some g) (hty : (P.globals[g]?).map (·.type) = some t) (ht : P.underlying t = some (.array n e)) (he : P.underlying e = some (.int k)) (hce : P.cellsOf e = 1) (hct : P.cellsOf t = n)
    (h : Lib.VarReads P W name (Lib.tabData k zs)) : Lib.TabIs P W name k zs := by
  obtain ⟨g', t', cs, fuel, p, hg', ht', hvar, hd⟩ := h
  obtain rfl := Option.some.inj (hg.symm.trans hg')
  obtain rfl := Option.some.inj (hty.symm.trans ht')
  unfold Lib.TabIs
  rw [hvar, ← Lib.cells_of_tab ht he hce hct hd]
theorem u8_extra : U8Extra Tryz.prog Tryz.laysValid_ren where
  n3 := by kernel_rfl
  n4 := by kernel_rfl
  y3 := by kernel_rfl
  y4 := by kernel_rfl
  c5 := by kernel_rfl
  c119 := by kernel_rfl
  c138 := by kernel_rfl
theorem tabs_of {W : World} (l : List (String × DataW Unit)) (hh : (l.all fun x => x.2.handleName?.isNone) = true) (h : laidMetH Tryz.prog l W)
    (m1 : ("strings.asciiSpace", Rows.laid_strings_asciiSpace) ∈ l) (m2 : ("inquest/norm.turned", Rows.laid_inquest_norm_turned) ∈ l) (m3 : ("unicode/utf8.first", Rows.laid_unicode_utf8_first) ∈ l) (m4 : ("unicode/utf8.acceptRanges", Rows.laid_unicode_utf8_acceptRanges) ∈ l) : Tabs W := by
  rw [MakeChecks.laidMetH_plain _ _ _ hh] at h
  have r1 := Lib.laidMet.reads h m1
  have r2 := Lib.laidMet.reads h m2
  have r3 := Lib.laidMet.reads h m3
  have r4 := Lib.laidMet.reads h m4
  have e1 : (Rows.laid_strings_asciiSpace : DataW Unit) = Lib.tabData .u8 Lib.asciiSpaceTab := by kernel_rfl
  have e2 : (Rows.laid_inquest_norm_turned : DataW Unit) = Lib.tabData .i64 turnTab := by kernel_rfl
  have e3 : (Rows.laid_unicode_utf8_first : DataW Unit) = Lib.firstData := by kernel_rfl
  have e4 : (Rows.laid_unicode_utf8_acceptRanges : DataW Unit) = Lib.acceptData := by kernel_rfl
  rw [e1] at r1
  rw [e2] at r2
  rw [e3] at r3
  rw [e4] at r4
  have t1 := tabIs_of_reads (g := 4) (t := (Tryz.prog.globals[4]?.map (·.type)).get (by kernel_rfl)) (e := 5) (n := 256) (by kernel_rfl) (by kernel_rfl) (by kernel_rfl) Tryz.underlying5 (by kernel_rfl) (by kernel_rfl) r1
  have t2 := tabIs_of_reads (g := 0) (t := (Tryz.prog.globals[0]?.map (·.type)).get (by kernel_rfl)) (e := 3) (n := 9) (by kernel_rfl) (by kernel_rfl) (by kernel_rfl) Tryz.underlying3 (by kernel_rfl) (by kernel_rfl) r2
  have u := utf8Tabs_of_readsT (U8Types.of196 Tryz.laysValid) u8_extra r3 r4
  have u' : Lib.Utf8Tabs 1 2 W := u
  refine ⟨t1, tabIs_lt (by kernel_rfl) t1, ⟨u', cell_block_lt (u'.1 0 (by decide)), cell_block_lt (u'.2 0 (by decide)).1⟩, fun o ho => ?_, tabIs_lt (by kernel_rfl) t2⟩
  unfold Lib.TabIs at t2
  rw [World.var?_cell (g := 0) (by kernel_rfl) t2 o]
  simp [turnTab_at o ho]
end Go.Proofs.YtnhcamkccnaeeaaGreatDoor
