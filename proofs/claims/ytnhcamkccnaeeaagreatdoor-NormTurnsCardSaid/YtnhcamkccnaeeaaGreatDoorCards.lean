/-
  DERIVED. GIVEN WITH THE SEED: THE CARDS: each row of YtnhcamkccnaeeaaGreatDoorRows.lean that lists a variable, with what it lists TIED to the program's text (the seventh form; the later family's looks); each row that meets fmt, with fmt's text TOLD by the authors' own Lean function (tested against real Go, not proved from fmt's source: count such statements apart). THE CARD IS WHAT COUNTS. Prove the row's statement (the work); the ties are given (YtnhcamkccnaeeaaGreatDoorTie.lean); close each card by the builder's one call (the guide's Derived/Test/ToyasCard.lean, 'card_holds'). Laid BY PROGRAM, IN A SANDBOX (cutbox-door.mjs). By AI agents, Wed Nov 11 2026. No macro, syntax, notation, axiom, sorry.
-/
import Derived.Test.YtnhcamkccnaeeaaGreatDoorRows
import GoSem.ClaimSeven
namespace Go.Proofs.YtnhcamkccnaeeaaGreatDoor
namespace Rows

/-- THE TIED CARD OF 'inquestlaw26.PlanCheaper'. -/
def planCheaperCard : Claim7 := { stood := { row := planCheaperRow, standIns := [], harness := (true, "460275c0e72a50faca127a69743d14249f9f3a906c24cd5e2c80a587de033544"), looks := true }, kinds := [], alts := [], laidByText := true, laidKinds := [.data, .data, .pinned], laidTests := true, laidLooks := .later }
def PlanCheaperCardSaid : Prop := Claim7.holds Tryz.pinned (.plain (OpenSpec.ofChange planCheaperSpec)) planCheaperCard

/-- THE TIED CARD OF 'inquestlaw26.PlanOrs'. -/
def planOrsCard : Claim7 := { stood := { row := planOrsRow, standIns := [], harness := (true, "460275c0e72a50faca127a69743d14249f9f3a906c24cd5e2c80a587de033544"), looks := true }, kinds := [], alts := [], laidByText := true, laidKinds := [.data, .data, .pinned], laidTests := true, laidLooks := .later }
def PlanOrsCardSaid : Prop := Claim7.holds Tryz.pinned (.plain (OpenSpec.ofChange planOrsSpec)) planOrsCard

/-- THE TIED CARD OF 'inquestlaw25.NormHolds'. -/
def normHoldsCard : Claim7 := { stood := { row := normHoldsRow, standIns := [], harness := (true, "460275c0e72a50faca127a69743d14249f9f3a906c24cd5e2c80a587de033544"), looks := true }, kinds := [], alts := [], laidByText := true, laidKinds := [.data, .listed, .data, .data, .pinned], laidTests := true, laidLooks := .later }
def NormHoldsCardSaid : Prop := Claim7.holds Tryz.pinned (.plain (OpenSpec.ofChange normHoldsSpec)) normHoldsCard

/-- THE TIED CARD OF 'inquestlaw25.NormTurns'. -/
def normTurnsCard : Claim7 := { stood := { row := normTurnsRow, standIns := [], harness := (true, "460275c0e72a50faca127a69743d14249f9f3a906c24cd5e2c80a587de033544"), looks := true }, kinds := [], alts := [], laidByText := true, laidKinds := [.data, .listed, .data, .data, .pinned], laidTests := true, laidLooks := .later }
def NormTurnsCardSaid : Prop := Claim7.holds Tryz.pinned (.plain (OpenSpec.ofChange normTurnsSpec)) normTurnsCard

/-- THE TIED CARD OF 'inquestlaw25.NormTexts'. -/
def normTextsCard : Claim7 := { stood := { row := normTextsRow, standIns := [], harness := (true, "460275c0e72a50faca127a69743d14249f9f3a906c24cd5e2c80a587de033544"), looks := true }, kinds := [], alts := [], laidByText := true, laidKinds := [.data, .listed, .data, .data, .pinned], laidTests := true, laidLooks := .later }
def NormTextsCardSaid : Prop := Claim7.holds Tryz.pinned (.plain (OpenSpec.ofChange normTextsSpec)) normTextsCard

/-- THE TIED CARD OF 'inquestlaw26.PlanHolds'. -/
def planHoldsCard : Claim7 := { stood := { row := planHoldsRow, standIns := [], harness := (true, "460275c0e72a50faca127a69743d14249f9f3a906c24cd5e2c80a587de033544"), looks := true }, kinds := [], alts := [], laidByText := true, laidKinds := [.data, .data, .pinned], laidTests := true, laidLooks := .later }
def PlanHoldsCardSaid : Prop := Claim7.holds Tryz.pinned (.plain (OpenSpec.ofChange planHoldsSpec)) planHoldsCard

/-- THE SECOND FORM's CARD OF 'inquestlaw26.PlanCheaper'. -/
def planCheaperUptoCard : Claim7 := { stood := { row := planCheaperUptoRow, standIns := [], harness := (true, "460275c0e72a50faca127a69743d14249f9f3a906c24cd5e2c80a587de033544"), looks := true }, kinds := [], alts := [], laidByText := true, laidKinds := [.data, .data, .pinned], laidTests := true, laidLooks := .later }
def PlanCheaperUptoCardSaid : Prop := Claim7.holds Tryz.pinned (.plain (OpenSpec.upto planCheaperSpec)) planCheaperUptoCard

/-- THE SECOND FORM's CARD OF 'inquestlaw26.PlanOrs'. -/
def planOrsUptoCard : Claim7 := { stood := { row := planOrsUptoRow, standIns := [], harness := (true, "460275c0e72a50faca127a69743d14249f9f3a906c24cd5e2c80a587de033544"), looks := true }, kinds := [], alts := [], laidByText := true, laidKinds := [.data, .data, .pinned], laidTests := true, laidLooks := .later }
def PlanOrsUptoCardSaid : Prop := Claim7.holds Tryz.pinned (.plain (OpenSpec.upto planOrsSpec)) planOrsUptoCard

/-- THE SECOND FORM's CARD OF 'inquestlaw25.NormHolds'. -/
def normHoldsUptoCard : Claim7 := { stood := { row := normHoldsUptoRow, standIns := [], harness := (true, "460275c0e72a50faca127a69743d14249f9f3a906c24cd5e2c80a587de033544"), looks := true }, kinds := [], alts := [], laidByText := true, laidKinds := [.data, .listed, .data, .data, .pinned], laidTests := true, laidLooks := .later }
def NormHoldsUptoCardSaid : Prop := Claim7.holds Tryz.pinned (.plain (OpenSpec.upto normHoldsSpec)) normHoldsUptoCard

/-- THE SECOND FORM's CARD OF 'inquestlaw25.NormTurns'. -/
def normTurnsUptoCard : Claim7 := { stood := { row := normTurnsUptoRow, standIns := [], harness := (true, "460275c0e72a50faca127a69743d14249f9f3a906c24cd5e2c80a587de033544"), looks := true }, kinds := [], alts := [], laidByText := true, laidKinds := [.data, .listed, .data, .data, .pinned], laidTests := true, laidLooks := .later }
def NormTurnsUptoCardSaid : Prop := Claim7.holds Tryz.pinned (.plain (OpenSpec.upto normTurnsSpec)) normTurnsUptoCard

/-- THE SECOND FORM's CARD OF 'inquestlaw25.NormTexts'. -/
def normTextsUptoCard : Claim7 := { stood := { row := normTextsUptoRow, standIns := [], harness := (true, "460275c0e72a50faca127a69743d14249f9f3a906c24cd5e2c80a587de033544"), looks := true }, kinds := [], alts := [], laidByText := true, laidKinds := [.data, .listed, .data, .data, .pinned], laidTests := true, laidLooks := .later }
def NormTextsUptoCardSaid : Prop := Claim7.holds Tryz.pinned (.plain (OpenSpec.upto normTextsSpec)) normTextsUptoCard

/-- THE SECOND FORM's CARD OF 'inquestlaw26.PlanHolds'. -/
def planHoldsUptoCard : Claim7 := { stood := { row := planHoldsUptoRow, standIns := [], harness := (true, "460275c0e72a50faca127a69743d14249f9f3a906c24cd5e2c80a587de033544"), looks := true }, kinds := [], alts := [], laidByText := true, laidKinds := [.data, .data, .pinned], laidTests := true, laidLooks := .later }
def PlanHoldsUptoCardSaid : Prop := Claim7.holds Tryz.pinned (.plain (OpenSpec.upto planHoldsSpec)) planHoldsUptoCard
end Rows
end Go.Proofs.YtnhcamkccnaeeaaGreatDoor
