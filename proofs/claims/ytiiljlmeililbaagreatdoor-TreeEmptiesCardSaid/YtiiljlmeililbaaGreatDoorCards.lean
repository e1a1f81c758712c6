/-
  DERIVED. GIVEN WITH THE SEED: THE CARDS: each row of YtiiljlmeililbaaGreatDoorRows.lean that lists a variable, with what it lists TIED to the program's text (the seventh form; the later family's looks); each row that meets fmt, with fmt's text TOLD by the authors' own Lean function (tested against real Go, not proved from fmt's source: count such statements apart). THE CARD IS WHAT COUNTS. Prove the row's statement (the work); the ties are given (YtiiljlmeililbaaGreatDoorTie.lean); close each card by the builder's one call (the guide's Derived/Test/ToyasCard.lean, 'card_holds'). Laid BY PROGRAM, IN A SANDBOX (cutbox-door.mjs). By AI agents, Wed Nov 11 2026. No macro, syntax, notation, axiom, sorry.
-/
import Derived.Test.YtiiljlmeililbaaGreatDoorRows
import GoSem.ClaimSeven
namespace Go.Proofs.YtiiljlmeililbaaGreatDoor
namespace Rows

/-- THE TIED CARD OF 'inquestlaw19.TreeSeeks'. -/
def treeSeeksCard : Claim7 := { stood := { row := treeSeeksRow, standIns := [], harness := (true, "a3cb1620076bb4ae45fe8b18f037ff198f4de7fba8a29e11e8daf191dbc9b6b7"), looks := false }, kinds := [], alts := [], laidByText := true, laidKinds := [.data, .pinned], laidTests := true, laidLooks := .later }
def TreeSeeksCardSaid : Prop := Claim7.holds Tryz.pinned (.plain (OpenSpec.ofChange treeSeeksSpec)) treeSeeksCard

/-- THE TIED CARD OF 'inquestlaw19.TreeOrders'. -/
def treeOrdersCard : Claim7 := { stood := { row := treeOrdersRow, standIns := [], harness := (true, "a3cb1620076bb4ae45fe8b18f037ff198f4de7fba8a29e11e8daf191dbc9b6b7"), looks := false }, kinds := [], alts := [], laidByText := true, laidKinds := [.data, .pinned], laidTests := true, laidLooks := .later }
def TreeOrdersCardSaid : Prop := Claim7.holds Tryz.pinned (.plain (OpenSpec.ofChange treeOrdersSpec)) treeOrdersCard

/-- THE TIED CARD OF 'inquestlaw19.TreeEmpties'. -/
def treeEmptiesCard : Claim7 := { stood := { row := treeEmptiesRow, standIns := [], harness := (true, "a3cb1620076bb4ae45fe8b18f037ff198f4de7fba8a29e11e8daf191dbc9b6b7"), looks := false }, kinds := [], alts := [], laidByText := true, laidKinds := [.data, .pinned], laidTests := true, laidLooks := .later }
def TreeEmptiesCardSaid : Prop := Claim7.holds Tryz.pinned (.plain (OpenSpec.ofChange treeEmptiesSpec)) treeEmptiesCard

/-- THE SECOND FORM's CARD OF 'inquestlaw19.TreeSeeks'. -/
def treeSeeksUptoCard : Claim7 := { stood := { row := treeSeeksUptoRow, standIns := [], harness := (true, "a3cb1620076bb4ae45fe8b18f037ff198f4de7fba8a29e11e8daf191dbc9b6b7"), looks := false }, kinds := [], alts := [], laidByText := true, laidKinds := [.data, .pinned], laidTests := true, laidLooks := .later }
def TreeSeeksUptoCardSaid : Prop := Claim7.holds Tryz.pinned (.plain (OpenSpec.upto treeSeeksSpec)) treeSeeksUptoCard

/-- THE SECOND FORM's CARD OF 'inquestlaw19.TreeOrders'. -/
def treeOrdersUptoCard : Claim7 := { stood := { row := treeOrdersUptoRow, standIns := [], harness := (true, "a3cb1620076bb4ae45fe8b18f037ff198f4de7fba8a29e11e8daf191dbc9b6b7"), looks := false }, kinds := [], alts := [], laidByText := true, laidKinds := [.data, .pinned], laidTests := true, laidLooks := .later }
def TreeOrdersUptoCardSaid : Prop := Claim7.holds Tryz.pinned (.plain (OpenSpec.upto treeOrdersSpec)) treeOrdersUptoCard

/-- THE SECOND FORM's CARD OF 'inquestlaw19.TreeEmpties'. -/
def treeEmptiesUptoCard : Claim7 := { stood := { row := treeEmptiesUptoRow, standIns := [], harness := (true, "a3cb1620076bb4ae45fe8b18f037ff198f4de7fba8a29e11e8daf191dbc9b6b7"), looks := false }, kinds := [], alts := [], laidByText := true, laidKinds := [.data, .pinned], laidTests := true, laidLooks := .later }
def TreeEmptiesUptoCardSaid : Prop := Claim7.holds Tryz.pinned (.plain (OpenSpec.upto treeEmptiesSpec)) treeEmptiesUptoCard
end Rows
end Go.Proofs.YtiiljlmeililbaaGreatDoor
