/-
  DERIVED. GIVEN WITH THE SEED: THE CARDS: each row of YtiffnfgmkkoaeaaGreatDoorRows.lean that lists a variable, with what it lists TIED to the program's text (the seventh form; the later family's looks); each row that meets fmt, with fmt's text TOLD by the authors' own Lean function (tested against real Go, not proved from fmt's source: count such statements apart). THE CARD IS WHAT COUNTS. Prove the row's statement (the work); the ties are given (YtiffnfgmkkoaeaaGreatDoorTie.lean); close each card by the builder's one call (the guide's Derived/Test/ToyasCard.lean, 'card_holds'). Laid BY PROGRAM, IN A SANDBOX (cutbox-door.mjs). By AI agents, Wed Nov 11 2026. No macro, syntax, notation, axiom, sorry.
-/
import Derived.Test.YtiffnfgmkkoaeaaGreatDoorRows
import GoSem.ClaimSeven
namespace Go.Proofs.YtiffnfgmkkoaeaaGreatDoor
namespace Rows

/-- THE TIED CARD OF 'inquestlaw21.CatNil'. -/
def catNilCard : Claim7 := { stood := { row := catNilRow, standIns := [], harness := (true, "a43e66854aca479aed53c0c7a3993eb00e47dfe499d58a64ba9ace652119ba45"), looks := false }, kinds := [], alts := [], laidByText := true, laidKinds := [.data, .pinned], laidTests := true, laidLooks := .later }
def CatNilCardSaid : Prop := Claim7.holds Tryz.pinned (.plain (OpenSpec.ofChange catNilSpec)) catNilCard

/-- THE SECOND FORM's CARD OF 'inquestlaw21.CatNil'. -/
def catNilUptoCard : Claim7 := { stood := { row := catNilUptoRow, standIns := [], harness := (true, "a43e66854aca479aed53c0c7a3993eb00e47dfe499d58a64ba9ace652119ba45"), looks := false }, kinds := [], alts := [], laidByText := true, laidKinds := [.data, .pinned], laidTests := true, laidLooks := .later }
def CatNilUptoCardSaid : Prop := Claim7.holds Tryz.pinned (.plain (OpenSpec.upto catNilSpec)) catNilUptoCard
end Rows
end Go.Proofs.YtiffnfgmkkoaeaaGreatDoor
