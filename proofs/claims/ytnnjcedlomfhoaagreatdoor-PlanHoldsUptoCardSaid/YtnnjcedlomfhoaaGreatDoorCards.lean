/-
  DERIVED. GIVEN WITH THE SEED: THE CARDS: each row of YtnnjcedlomfhoaaGreatDoorRows.lean that lists a variable, with what it lists TIED to the program's text (the seventh form; the later family's looks); each row that meets fmt, with fmt's text TOLD by the authors' own Lean function (tested against real Go, not proved from fmt's source: count such statements apart). THE CARD IS WHAT COUNTS. Prove the row's statement (the work); the ties are given (YtnnjcedlomfhoaaGreatDoorTie.lean); close each card by the builder's one call (the guide's Derived/Test/ToyasCard.lean, 'card_holds'). Laid BY PROGRAM, IN A SANDBOX (cutbox-door.mjs). By AI agents, Wed Nov 11 2026. No macro, syntax, notation, axiom, sorry.
-/
import Derived.Test.YtnnjcedlomfhoaaGreatDoorRows
import GoSem.ClaimSeven
namespace Go.Proofs.YtnnjcedlomfhoaaGreatDoor
namespace Rows

/-- THE TIED CARD OF 'inquestlaw26.PlanCheaper'. -/
def planCheaperCard : Claim7 := { stood := { row := planCheaperRow, standIns := [], harness := (true, "25e32b6df1b62bbc308fd2e204c482b8b84a0ef5fbc25bdba1dd1386ca7ed2c7"), looks := true }, kinds := [], alts := [], laidByText := true, laidKinds := [.data, .data, .pinned], laidTests := true, laidLooks := .later }
def PlanCheaperCardSaid : Prop := Claim7.holds Tryz.pinned (.plain (OpenSpec.ofChange planCheaperSpec)) planCheaperCard

/-- THE TIED CARD OF 'inquestlaw26.PlanOrs'. -/
def planOrsCard : Claim7 := { stood := { row := planOrsRow, standIns := [], harness := (true, "25e32b6df1b62bbc308fd2e204c482b8b84a0ef5fbc25bdba1dd1386ca7ed2c7"), looks := true }, kinds := [], alts := [], laidByText := true, laidKinds := [.data, .data, .pinned], laidTests := true, laidLooks := .later }
def PlanOrsCardSaid : Prop := Claim7.holds Tryz.pinned (.plain (OpenSpec.ofChange planOrsSpec)) planOrsCard

/-- THE TIED CARD OF 'inquestlaw26.PlanHolds'. -/
def planHoldsCard : Claim7 := { stood := { row := planHoldsRow, standIns := [], harness := (true, "25e32b6df1b62bbc308fd2e204c482b8b84a0ef5fbc25bdba1dd1386ca7ed2c7"), looks := true }, kinds := [], alts := [], laidByText := true, laidKinds := [.data, .data, .pinned], laidTests := true, laidLooks := .later }
def PlanHoldsCardSaid : Prop := Claim7.holds Tryz.pinned (.plain (OpenSpec.ofChange planHoldsSpec)) planHoldsCard

/-- THE SECOND FORM's CARD OF 'inquestlaw26.PlanCheaper'. -/
def planCheaperUptoCard : Claim7 := { stood := { row := planCheaperUptoRow, standIns := [], harness := (true, "25e32b6df1b62bbc308fd2e204c482b8b84a0ef5fbc25bdba1dd1386ca7ed2c7"), looks := true }, kinds := [], alts := [], laidByText := true, laidKinds := [.data, .data, .pinned], laidTests := true, laidLooks := .later }
def PlanCheaperUptoCardSaid : Prop := Claim7.holds Tryz.pinned (.plain (OpenSpec.upto planCheaperSpec)) planCheaperUptoCard

/-- THE SECOND FORM's CARD OF 'inquestlaw26.PlanOrs'. -/
def planOrsUptoCard : Claim7 := { stood := { row := planOrsUptoRow, standIns := [], harness := (true, "25e32b6df1b62bbc308fd2e204c482b8b84a0ef5fbc25bdba1dd1386ca7ed2c7"), looks := true }, kinds := [], alts := [], laidByText := true, laidKinds := [.data, .data, .pinned], laidTests := true, laidLooks := .later }
def PlanOrsUptoCardSaid : Prop := Claim7.holds Tryz.pinned (.plain (OpenSpec.upto planOrsSpec)) planOrsUptoCard

/-- THE SECOND FORM's CARD OF 'inquestlaw26.PlanHolds'. -/
def planHoldsUptoCard : Claim7 := { stood := { row := planHoldsUptoRow, standIns := [], harness := (true, "25e32b6df1b62bbc308fd2e204c482b8b84a0ef5fbc25bdba1dd1386ca7ed2c7"), looks := true }, kinds := [], alts := [], laidByText := true, laidKinds := [.data, .data, .pinned], laidTests := true, laidLooks := .later }
def PlanHoldsUptoCardSaid : Prop := Claim7.holds Tryz.pinned (.plain (OpenSpec.upto planHoldsSpec)) planHoldsUptoCard
end Rows
end Go.Proofs.YtnnjcedlomfhoaaGreatDoor
