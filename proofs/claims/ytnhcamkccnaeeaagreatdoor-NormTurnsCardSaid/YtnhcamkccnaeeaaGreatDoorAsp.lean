/-
  From a row's condition on the library's tables to the facts that the walks take.
-/
import Derived.Test.YtnhcamkccnaeeaaGreatDoorRows
import Derived.Test.YtnhcamkccnaeeaaGreatDoorParC
import Derived.MakeChecks
import Derived.Lib.LaidTab
namespace Go.Proofs.YtnhcamkccnaeeaaGreatDoor
set_option linter.unusedVariables false

theorem laidVars_drop {P : Program} {W : World} (l : List (String × DataW Unit)) : ∀ (pre : List (String × DataW Unit)) (ps : List MemPlace), DataW.LaidVars P W (pre ++ l) ps → ∃ q, DataW.LaidVars P W l q
  | [], ps, h => ⟨ps, h⟩
  | (n, d) :: r, ps, h => by
    obtain ⟨g, t, cs, fuel, p, q, _, _, _, _, hr, _⟩ := h
    exact laidVars_drop l r q hr
theorem tabIs_of_vars {P : Program} {W : World} {name : String} {k : IntKind} {zs : List Int} {rest : List (String × DataW Unit)} {g : Nat} {t e : TypeId} {n : Nat} {ps : List MemPlace}
    (hg : P.globalNamed name = some g) (hty : (P.globals[g]?).map (·.type) = some t) (ht : P.underlying t = some (.array n e)) (he : P.underlying e = some (.int k)) (hce : P.cellsOf e = 1) (hct : P.cellsOf t = n)
    (h : DataW.LaidVars P W ((name, Lib.tabData k zs) :: rest) ps) : Lib.TabIs P W name k zs := by
  obtain ⟨g', t', cs, fuel, p, q, hg', ht', hvar, hd, _, _⟩ := h
  obtain rfl := Option.some.inj (hg.symm.trans hg')
  obtain rfl := Option.some.inj (hty.symm.trans ht')
  unfold Lib.TabIs
  rw [hvar, ← Lib.cells_of_tab ht he hce hct hd]
theorem tabIs_lt {P : Program} {W : World} {name : String} {k : IntKind} {zs : List Int} {g : Nat} (hg : P.globalNamed name = some g) (h : Lib.TabIs P W name k zs) : g < W.heap.size := by
  unfold Lib.TabIs World.var? at h
  rw [hg, Option.bind_some] at h
  rcases Nat.lt_or_ge g W.heap.size with hlt | hge
  · exact hlt
  · rw [Array.getElem?_eq_none hge] at h; cases h
theorem asp_of {W : World} (pre post : List (String × DataW Unit)) (hh : ((pre ++ ("strings.asciiSpace", Rows.laid_strings_asciiSpace) :: post).all fun x => x.2.handleName?.isNone) = true)
    (h : laidMetH Tryz.prog (pre ++ ("strings.asciiSpace", Rows.laid_strings_asciiSpace) :: post) W) : Asp W ∧ 4 < W.heap.size := by
  rw [MakeChecks.laidMetH_plain _ _ _ hh] at h
  obtain ⟨ps, hv, _⟩ := h
  obtain ⟨q, hq⟩ := laidVars_drop _ pre ps hv
  have e : (Rows.laid_strings_asciiSpace : DataW Unit) = Lib.tabData .u8 Lib.asciiSpaceTab := by kernel_rfl
  rw [e] at hq
  have ht := tabIs_of_vars (g := 4) (t := (Tryz.prog.globals[4]?.map (·.type)).get (by kernel_rfl)) (e := 5) (n := 256) (by kernel_rfl) (by kernel_rfl) (by kernel_rfl) Tryz.underlying5 (by kernel_rfl) (by kernel_rfl) hq
  exact ⟨ht, tabIs_lt (by kernel_rfl) ht⟩
end Go.Proofs.YtnhcamkccnaeeaaGreatDoor
