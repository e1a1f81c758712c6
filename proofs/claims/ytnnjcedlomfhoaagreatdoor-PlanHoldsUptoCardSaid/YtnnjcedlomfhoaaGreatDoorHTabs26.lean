/-
  From a row's condition on the listed tables, and the world's shape, to what the walks of layer 26 lean on.
-/
import Derived.Test.YtnnjcedlomfhoaaGreatDoorRows
import Derived.Test.YtnnjcedlomfhoaaGreatDoorHA
import Derived.Test.YtnnjcedlomfhoaaGreatDoorHPlanN
import Derived.MakeChecks
import Derived.Lib.LaidTab
import Derived.Lib.LaidU8T
namespace Go.Proofs.YtnnjcedlomfhoaaGreatDoor
set_option linter.unusedVariables false
def turnTab26 : List Int := [0, 2, 1, 6, 5, 4, 3, 8, 7]
theorem turnTab26_at : ∀ o : Nat, o < 9 → turnTab26[o]? = some (turnedI (o : Int)) := by
  intro o ho
  match o, ho with
  | 0, _ => rfl
  | 1, _ => rfl
  | 2, _ => rfl
  | 3, _ => rfl
  | 4, _ => rfl
  | 5, _ => rfl
  | 6, _ => rfl
  | 7, _ => rfl
  | 8, _ => rfl
theorem tabLt26 {P : Program} {W : World} {name : String} {k : IntKind} {zs : List Int} {g : Nat} (hg : P.globalNamed name = some g) (h : Lib.TabIs P W name k zs) : g < W.heap.size := by
  unfold Lib.TabIs World.var? at h
  rw [hg, Option.bind_some] at h
  rcases Nat.lt_or_ge g W.heap.size with hlt | hge
  · exact hlt
  · rw [Array.getElem?_eq_none hge] at h; cases h
theorem tabReads26 {P : Program} {W : World} {name : String} {k : IntKind} {zs : List Int} {g : Nat} {t e : TypeId} {n : Nat}
    (hg : P.globalNamed name = some g) (hty : (P.globals[g]?).map (·.type) = some t) (ht : P.underlying t = some (.array n e)) (he : P.underlying e = some (.int k)) (hce : P.cellsOf e = 1) (hct : P.cellsOf t = n)
    (h : Lib.VarReads P W name (Lib.tabData k zs)) : Lib.TabIs P W name k zs := by
  obtain ⟨g', t', cs, fuel, p, hg', ht', hvar, hd⟩ := h
  obtain rfl := Option.some.inj (hg.symm.trans hg')
  obtain rfl := Option.some.inj (hty.symm.trans ht')
  unfold Lib.TabIs
  rw [hvar, ← Lib.cells_of_tab ht he hce hct hd]
theorem u8_extra26 : U8Extra Tryz.prog Tryz.laysValid_ren where
  n3 := by kernel_rfl
  n4 := by kernel_rfl
  y3 := by kernel_rfl
  y4 := by kernel_rfl
  c5 := by kernel_rfl
  c119 := by kernel_rfl
  c138 := by kernel_rfl
theorem maxL_of {W : World} (hsh : W.ShapedOpen Tryz.prog) : MaxL W := by
  obtain ⟨mm, hmm⟩ := Tryz.laysM155.s1_3 W hsh
  replace hmm : W.cell? ⟨3, 0, none⟩ = some (.int .i64 mm) := hmm
  exact ⟨cell_block_lt hmm, mm, hmm⟩
theorem tabs26_of {W : World} (hsh : W.ShapedOpen Tryz.prog) (h : laidMetH Tryz.prog [("unicode/utf8.acceptRanges", Rows.laid_unicode_utf8_acceptRanges), ("inquest/norm.turned", Rows.laid_inquest_norm_turned), ("unicode/utf8.first", Rows.laid_unicode_utf8_first)] W) : Tabs26 W := by
  rw [MakeChecks.laidMetH_plain _ _ _ (by kernel_rfl)] at h
  have r2 := Lib.laidMet.reads h (.tail _ (.head _))
  have r3 := Lib.laidMet.reads h (.tail _ (.tail _ (.head _)))
  have r4 := Lib.laidMet.reads h (.head _)
  have e2 : (Rows.laid_inquest_norm_turned : DataW Unit) = Lib.tabData .i64 turnTab26 := by kernel_rfl
  have e3 : (Rows.laid_unicode_utf8_first : DataW Unit) = Lib.firstData := by kernel_rfl
  have e4 : (Rows.laid_unicode_utf8_acceptRanges : DataW Unit) = Lib.acceptData := by kernel_rfl
  rw [e2] at r2
  rw [e3] at r3
  rw [e4] at r4
  have t2 := tabReads26 (g := 0) (t := (Tryz.prog.globals[0]?.map (·.type)).get (by kernel_rfl)) (e := 3) (n := 9) (by kernel_rfl) (by kernel_rfl) (by kernel_rfl) Tryz.underlying3 (by kernel_rfl) (by kernel_rfl) r2
  have u := utf8Tabs_of_readsT (U8Types.of196 Tryz.laysValid) u8_extra26 r3 r4
  have u' : Lib.Utf8Tabs 1 2 W := u
  refine ⟨maxL_of hsh, ⟨u', cell_block_lt (u'.1 0 (by decide)), cell_block_lt (u'.2 0 (by decide)).1⟩, fun o ho => ?_, tabLt26 (by kernel_rfl) t2⟩
  unfold Lib.TabIs at t2
  rw [World.var?_cell (g := 0) (by kernel_rfl) t2 o]
  simp [turnTab26_at o ho]
end Go.Proofs.YtnnjcedlomfhoaaGreatDoor
