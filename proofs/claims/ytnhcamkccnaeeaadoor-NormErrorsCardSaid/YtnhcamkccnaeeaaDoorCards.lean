/-
  DERIVED. GIVEN WITH THE SEED: THE CARDS: each row of YtnhcamkccnaeeaaDoorRows.lean that lists a variable, with what it lists TIED to the program's text (the seventh form; the later family's looks); each row that meets fmt, with fmt's text TOLD by the authors' own Lean function (tested against real Go, not proved from fmt's source: count such statements apart). THE CARD IS WHAT COUNTS. Prove the row's statement (the work); the ties are given (YtnhcamkccnaeeaaDoorTie.lean); close each card by the builder's one call (the guide's Derived/Test/ToyasCard.lean, 'card_holds'). Laid BY PROGRAM, IN A SANDBOX (cutbox-door.mjs). By AI agents, Wed Nov 11 2026. No macro, syntax, notation, axiom, sorry.
-/
import Derived.Test.YtnhcamkccnaeeaaDoorRows
import GoSem.ClaimSeven
namespace Go.Proofs.YtnhcamkccnaeeaaDoor
namespace Rows

/-- THE TIED CARD OF 'inquestlaw25.NormErrors'. -/
def normErrorsCard : Claim7 := { stood := { row := normErrorsRow, standIns := [], harness := (true, "c08659fecb9be4e2d584004fcf8876bd564e5b1c8e0038a2c497b44ae67524cd"), looks := false }, kinds := [], alts := [], laidByText := true, laidKinds := [.data, .listed, .data, .data, .pinned], laidTests := true, laidLooks := .later }
def NormErrorsCardSaid : Prop := Claim7.holds Tryd.pinned (.plain (OpenSpec.ofChange normErrorsSpec)) normErrorsCard

/-- THE TIED CARD OF 'inquestlaw25.NormTwice'. -/
def normTwiceCard : Claim7 := { stood := { row := normTwiceRow, standIns := [], harness := (true, "c08659fecb9be4e2d584004fcf8876bd564e5b1c8e0038a2c497b44ae67524cd"), looks := false }, kinds := [], alts := [], laidByText := true, laidKinds := [.data, .listed, .data, .data, .pinned], laidTests := true, laidLooks := .later }
def NormTwiceCardSaid : Prop := Claim7.holds Tryd.pinned (.plain (OpenSpec.ofChange normTwiceSpec)) normTwiceCard

/-- THE SECOND FORM's CARD OF 'inquestlaw25.NormErrors'. -/
def normErrorsUptoCard : Claim7 := { stood := { row := normErrorsUptoRow, standIns := [], harness := (true, "c08659fecb9be4e2d584004fcf8876bd564e5b1c8e0038a2c497b44ae67524cd"), looks := false }, kinds := [], alts := [], laidByText := true, laidKinds := [.data, .listed, .data, .data, .pinned], laidTests := true, laidLooks := .later }
def NormErrorsUptoCardSaid : Prop := Claim7.holds Tryd.pinned (.plain (OpenSpec.upto normErrorsSpec)) normErrorsUptoCard

/-- THE SECOND FORM's CARD OF 'inquestlaw25.NormTwice'. -/
def normTwiceUptoCard : Claim7 := { stood := { row := normTwiceUptoRow, standIns := [], harness := (true, "c08659fecb9be4e2d584004fcf8876bd564e5b1c8e0038a2c497b44ae67524cd"), looks := false }, kinds := [], alts := [], laidByText := true, laidKinds := [.data, .listed, .data, .data, .pinned], laidTests := true, laidLooks := .later }
def NormTwiceUptoCardSaid : Prop := Claim7.holds Tryd.pinned (.plain (OpenSpec.upto normTwiceSpec)) normTwiceUptoCard
end Rows
end Go.Proofs.YtnhcamkccnaeeaaDoor
