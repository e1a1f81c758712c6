/-
  DERIVED. GIVEN WITH THE SEED: THE CARDS: each row of YthohbbaglceppaaGreatDoorRows.lean that lists a variable, with what it lists TIED to the program's text (the seventh form; the later family's looks); each row that meets fmt, with fmt's text TOLD by the authors' own Lean function (tested against real Go, not proved from fmt's source: count such statements apart). THE CARD IS WHAT COUNTS. Prove the row's statement (the work); the ties are given (YthohbbaglceppaaGreatDoorTie.lean); close each card by the builder's one call (the guide's Derived/Test/ToyasCard.lean, 'card_holds'). Laid BY PROGRAM, IN A SANDBOX (cutbox-door.mjs). By AI agents, Wed Nov 11 2026. No macro, syntax, notation, axiom, sorry.
-/
import Derived.Test.YthohbbaglceppaaGreatDoorRows
import GoSem.ClaimSeven
namespace Go.Proofs.YthohbbaglceppaaGreatDoor
namespace Rows

/-- THE TIED CARD OF 'inquestlaw19.TreeSeeks'. -/
def treeSeeksCard : Claim7 := { stood := { row := treeSeeksRow, standIns := [], harness := (true, "9f8f679f2790b112c90e890d67383d01448e389c4d0d00eba7cb66550e013849"), looks := false }, kinds := [], alts := [], laidByText := true, laidKinds := [.data, .pinned], laidTests := true, laidLooks := .later }
def TreeSeeksCardSaid : Prop := Claim7.holds Tryz.pinned (.plain (OpenSpec.ofChange treeSeeksSpec)) treeSeeksCard

/-- THE TIED CARD OF 'inquestlaw19.TreeOrders'. -/
def treeOrdersCard : Claim7 := { stood := { row := treeOrdersRow, standIns := [], harness := (true, "9f8f679f2790b112c90e890d67383d01448e389c4d0d00eba7cb66550e013849"), looks := false }, kinds := [], alts := [], laidByText := true, laidKinds := [.data, .pinned], laidTests := true, laidLooks := .later }
def TreeOrdersCardSaid : Prop := Claim7.holds Tryz.pinned (.plain (OpenSpec.ofChange treeOrdersSpec)) treeOrdersCard

/-- THE TIED CARD OF 'inquestlaw19.TreeHeights'. -/
def treeHeightsCard : Claim7 := { stood := { row := treeHeightsRow, standIns := [], harness := (true, "9f8f679f2790b112c90e890d67383d01448e389c4d0d00eba7cb66550e013849"), looks := false }, kinds := [], alts := [], laidByText := true, laidKinds := [.data, .pinned], laidTests := true, laidLooks := .later }
def TreeHeightsCardSaid : Prop := Claim7.holds Tryz.pinned (.plain (OpenSpec.ofChange treeHeightsSpec)) treeHeightsCard

/-- THE TIED CARD OF 'inquestlaw19.TreeEmpties'. -/
def treeEmptiesCard : Claim7 := { stood := { row := treeEmptiesRow, standIns := [], harness := (true, "9f8f679f2790b112c90e890d67383d01448e389c4d0d00eba7cb66550e013849"), looks := false }, kinds := [], alts := [], laidByText := true, laidKinds := [.data, .pinned], laidTests := true, laidLooks := .later }
def TreeEmptiesCardSaid : Prop := Claim7.holds Tryz.pinned (.plain (OpenSpec.ofChange treeEmptiesSpec)) treeEmptiesCard

/-- THE TIED CARD OF 'inquestlaw19.TreeNil'. -/
def treeNilCard : Claim7 := { stood := { row := treeNilRow, standIns := [], harness := (true, "9f8f679f2790b112c90e890d67383d01448e389c4d0d00eba7cb66550e013849"), looks := false }, kinds := [], alts := [], laidByText := true, laidKinds := [.data, .pinned], laidTests := true, laidLooks := .later }
def TreeNilCardSaid : Prop := Claim7.holds Tryz.pinned (.plain (OpenSpec.ofChange treeNilSpec)) treeNilCard

/-- THE TIED CARD OF 'inquestlaw19.TreeActs'. -/
def treeActsCard : Claim7 := { stood := { row := treeActsRow, standIns := [], harness := (true, "9f8f679f2790b112c90e890d67383d01448e389c4d0d00eba7cb66550e013849"), looks := false }, kinds := [], alts := [], laidByText := true, laidKinds := [.data, .pinned], laidTests := true, laidLooks := .later }
def TreeActsCardSaid : Prop := Claim7.holds Tryz.pinned (.plain (OpenSpec.ofChange treeActsSpec)) treeActsCard

/-- THE SECOND FORM's CARD OF 'inquestlaw19.TreeSeeks'. -/
def treeSeeksUptoCard : Claim7 := { stood := { row := treeSeeksUptoRow, standIns := [], harness := (true, "9f8f679f2790b112c90e890d67383d01448e389c4d0d00eba7cb66550e013849"), looks := false }, kinds := [], alts := [], laidByText := true, laidKinds := [.data, .pinned], laidTests := true, laidLooks := .later }
def TreeSeeksUptoCardSaid : Prop := Claim7.holds Tryz.pinned (.plain (OpenSpec.upto treeSeeksSpec)) treeSeeksUptoCard

/-- THE SECOND FORM's CARD OF 'inquestlaw19.TreeOrders'. -/
def treeOrdersUptoCard : Claim7 := { stood := { row := treeOrdersUptoRow, standIns := [], harness := (true, "9f8f679f2790b112c90e890d67383d01448e389c4d0d00eba7cb66550e013849"), looks := false }, kinds := [], alts := [], laidByText := true, laidKinds := [.data, .pinned], laidTests := true, laidLooks := .later }
def TreeOrdersUptoCardSaid : Prop := Claim7.holds Tryz.pinned (.plain (OpenSpec.upto treeOrdersSpec)) treeOrdersUptoCard

/-- THE SECOND FORM's CARD OF 'inquestlaw19.TreeHeights'. -/
def treeHeightsUptoCard : Claim7 := { stood := { row := treeHeightsUptoRow, standIns := [], harness := (true, "9f8f679f2790b112c90e890d67383d01448e389c4d0d00eba7cb66550e013849"), looks := false }, kinds := [], alts := [], laidByText := true, laidKinds := [.data, .pinned], laidTests := true, laidLooks := .later }
def TreeHeightsUptoCardSaid : Prop := Claim7.holds Tryz.pinned (.plain (OpenSpec.upto treeHeightsSpec)) treeHeightsUptoCard

/-- THE SECOND FORM's CARD OF 'inquestlaw19.TreeEmpties'. -/
def treeEmptiesUptoCard : Claim7 := { stood := { row := treeEmptiesUptoRow, standIns := [], harness := (true, "9f8f679f2790b112c90e890d67383d01448e389c4d0d00eba7cb66550e013849"), looks := false }, kinds := [], alts := [], laidByText := true, laidKinds := [.data, .pinned], laidTests := true, laidLooks := .later }
def TreeEmptiesUptoCardSaid : Prop := Claim7.holds Tryz.pinned (.plain (OpenSpec.upto treeEmptiesSpec)) treeEmptiesUptoCard

/-- THE SECOND FORM's CARD OF 'inquestlaw19.TreeNil'. -/
def treeNilUptoCard : Claim7 := { stood := { row := treeNilUptoRow, standIns := [], harness := (true, "9f8f679f2790b112c90e890d67383d01448e389c4d0d00eba7cb66550e013849"), looks := false }, kinds := [], alts := [], laidByText := true, laidKinds := [.data, .pinned], laidTests := true, laidLooks := .later }
def TreeNilUptoCardSaid : Prop := Claim7.holds Tryz.pinned (.plain (OpenSpec.upto treeNilSpec)) treeNilUptoCard

/-- THE SECOND FORM's CARD OF 'inquestlaw19.TreeActs'. -/
def treeActsUptoCard : Claim7 := { stood := { row := treeActsUptoRow, standIns := [], harness := (true, "9f8f679f2790b112c90e890d67383d01448e389c4d0d00eba7cb66550e013849"), looks := false }, kinds := [], alts := [], laidByText := true, laidKinds := [.data, .pinned], laidTests := true, laidLooks := .later }
def TreeActsUptoCardSaid : Prop := Claim7.holds Tryz.pinned (.plain (OpenSpec.upto treeActsSpec)) treeActsUptoCard
end Rows
end Go.Proofs.YthohbbaglceppaaGreatDoor
