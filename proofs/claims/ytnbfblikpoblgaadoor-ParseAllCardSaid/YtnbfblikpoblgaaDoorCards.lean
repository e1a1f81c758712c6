/-
  DERIVED. GIVEN WITH THE SEED: THE CARDS: each row of YtnbfblikpoblgaaDoorRows.lean that lists a variable, with what it lists TIED to the program's text (the seventh form; the later family's looks); each row that meets fmt, with fmt's text TOLD by the authors' own Lean function (tested against real Go, not proved from fmt's source: count such statements apart). THE CARD IS WHAT COUNTS. Prove the row's statement (the work); the ties are given (YtnbfblikpoblgaaDoorTie.lean); close each card by the builder's one call (the guide's Derived/Test/ToyasCard.lean, 'card_holds'). Laid BY PROGRAM, IN A SANDBOX (cutbox-door.mjs). By AI agents, Wed Nov 11 2026. No macro, syntax, notation, axiom, sorry.
-/
import Derived.Test.YtnbfblikpoblgaaDoorRows
import GoSem.ClaimSeven
namespace Go.Proofs.YtnbfblikpoblgaaDoor
namespace Rows

/-- THE TIED CARD OF 'inquestlaw20.KeyOrder'. -/
def keyOrderCard : Claim7 := { stood := { row := keyOrderRow, standIns := [], harness := (true, "a0dc57b12a3d8b540aff289035c37c73d9411c194414e5741d97237772a42905"), looks := false }, kinds := [], alts := [], laidByText := true, laidKinds := [.data, .pinned], laidTests := true, laidLooks := .later }
def KeyOrderCardSaid : Prop := Claim7.holds Tryd.pinned (.plain (OpenSpec.ofChange keyOrderSpec)) keyOrderCard

/-- THE TIED CARD OF 'inquestlaw20.KeyPuts'. -/
def keyPutsCard : Claim7 := { stood := { row := keyPutsRow, standIns := [], harness := (true, "a0dc57b12a3d8b540aff289035c37c73d9411c194414e5741d97237772a42905"), looks := false }, kinds := [], alts := [], laidByText := true, laidKinds := [.data, .pinned], laidTests := true, laidLooks := .later }
def KeyPutsCardSaid : Prop := Claim7.holds Tryd.pinned (.plain (OpenSpec.ofChange keyPutsSpec)) keyPutsCard

/-- THE TIED CARD OF 'inquestlaw23.LexQuotes'. -/
def lexQuotesCard : Claim7 := { stood := { row := lexQuotesRow, standIns := [], harness := (true, "a0dc57b12a3d8b540aff289035c37c73d9411c194414e5741d97237772a42905"), looks := false }, kinds := [], alts := [], laidByText := true, laidKinds := [.data, .pinned], laidTests := true, laidLooks := .later }
def LexQuotesCardSaid : Prop := Claim7.holds Tryd.pinned (.plain (OpenSpec.ofChange lexQuotesSpec)) lexQuotesCard

/-- THE TIED CARD OF 'inquestlaw24.ParseJoins'. -/
def parseJoinsCard : Claim7 := { stood := { row := parseJoinsRow, standIns := [], harness := (true, "a0dc57b12a3d8b540aff289035c37c73d9411c194414e5741d97237772a42905"), looks := false }, kinds := [], alts := [], laidByText := true, laidKinds := [.listed, .data], laidTests := true, laidLooks := .later }
def ParseJoinsCardSaid : Prop := Claim7.holds Tryd.pinned (.plain (OpenSpec.ofChange parseJoinsSpec)) parseJoinsCard

/-- THE TIED CARD OF 'inquestlaw24.ParseDeep'. -/
def parseDeepCard : Claim7 := { stood := { row := parseDeepRow, standIns := [], harness := (true, "a0dc57b12a3d8b540aff289035c37c73d9411c194414e5741d97237772a42905"), looks := false }, kinds := [], alts := [], laidByText := true, laidKinds := [.listed, .data], laidTests := true, laidLooks := .later }
def ParseDeepCardSaid : Prop := Claim7.holds Tryd.pinned (.plain (OpenSpec.ofChange parseDeepSpec)) parseDeepCard

/-- THE TIED CARD OF 'inquestlaw24.ParseMore'. -/
def parseMoreCard : Claim7 := { stood := { row := parseMoreRow, standIns := [], harness := (true, "a0dc57b12a3d8b540aff289035c37c73d9411c194414e5741d97237772a42905"), looks := false }, kinds := [], alts := [], laidByText := true, laidKinds := [.listed, .data], laidTests := true, laidLooks := .later }
def ParseMoreCardSaid : Prop := Claim7.holds Tryd.pinned (.plain (OpenSpec.ofChange parseMoreSpec)) parseMoreCard

/-- THE TIED CARD OF 'inquestlaw24.ParseAll'. -/
def parseAllCard : Claim7 := { stood := { row := parseAllRow, standIns := [], harness := (true, "a0dc57b12a3d8b540aff289035c37c73d9411c194414e5741d97237772a42905"), looks := false }, kinds := [], alts := [], laidByText := true, laidKinds := [.data, .data, .data, .data, .listed, .data, .pinned], laidTests := true, laidLooks := .later }
def ParseAllCardSaid : Prop := Claim7.holds Tryd.pinned (.plain (OpenSpec.ofChange parseAllSpec)) parseAllCard

/-- THE SECOND FORM's CARD OF 'inquestlaw20.KeyOrder'. -/
def keyOrderUptoCard : Claim7 := { stood := { row := keyOrderUptoRow, standIns := [], harness := (true, "a0dc57b12a3d8b540aff289035c37c73d9411c194414e5741d97237772a42905"), looks := false }, kinds := [], alts := [], laidByText := true, laidKinds := [.data, .pinned], laidTests := true, laidLooks := .later }
def KeyOrderUptoCardSaid : Prop := Claim7.holds Tryd.pinned (.plain (OpenSpec.upto keyOrderSpec)) keyOrderUptoCard

/-- THE SECOND FORM's CARD OF 'inquestlaw20.KeyPuts'. -/
def keyPutsUptoCard : Claim7 := { stood := { row := keyPutsUptoRow, standIns := [], harness := (true, "a0dc57b12a3d8b540aff289035c37c73d9411c194414e5741d97237772a42905"), looks := false }, kinds := [], alts := [], laidByText := true, laidKinds := [.data, .pinned], laidTests := true, laidLooks := .later }
def KeyPutsUptoCardSaid : Prop := Claim7.holds Tryd.pinned (.plain (OpenSpec.upto keyPutsSpec)) keyPutsUptoCard

/-- THE SECOND FORM's CARD OF 'inquestlaw23.LexQuotes'. -/
def lexQuotesUptoCard : Claim7 := { stood := { row := lexQuotesUptoRow, standIns := [], harness := (true, "a0dc57b12a3d8b540aff289035c37c73d9411c194414e5741d97237772a42905"), looks := false }, kinds := [], alts := [], laidByText := true, laidKinds := [.data, .pinned], laidTests := true, laidLooks := .later }
def LexQuotesUptoCardSaid : Prop := Claim7.holds Tryd.pinned (.plain (OpenSpec.upto lexQuotesSpec)) lexQuotesUptoCard

/-- THE SECOND FORM's CARD OF 'inquestlaw24.ParseJoins'. -/
def parseJoinsUptoCard : Claim7 := { stood := { row := parseJoinsUptoRow, standIns := [], harness := (true, "a0dc57b12a3d8b540aff289035c37c73d9411c194414e5741d97237772a42905"), looks := false }, kinds := [], alts := [], laidByText := true, laidKinds := [.listed, .data], laidTests := true, laidLooks := .later }
def ParseJoinsUptoCardSaid : Prop := Claim7.holds Tryd.pinned (.plain (OpenSpec.upto parseJoinsSpec)) parseJoinsUptoCard

/-- THE SECOND FORM's CARD OF 'inquestlaw24.ParseDeep'. -/
def parseDeepUptoCard : Claim7 := { stood := { row := parseDeepUptoRow, standIns := [], harness := (true, "a0dc57b12a3d8b540aff289035c37c73d9411c194414e5741d97237772a42905"), looks := false }, kinds := [], alts := [], laidByText := true, laidKinds := [.listed, .data], laidTests := true, laidLooks := .later }
def ParseDeepUptoCardSaid : Prop := Claim7.holds Tryd.pinned (.plain (OpenSpec.upto parseDeepSpec)) parseDeepUptoCard

/-- THE SECOND FORM's CARD OF 'inquestlaw24.ParseMore'. -/
def parseMoreUptoCard : Claim7 := { stood := { row := parseMoreUptoRow, standIns := [], harness := (true, "a0dc57b12a3d8b540aff289035c37c73d9411c194414e5741d97237772a42905"), looks := false }, kinds := [], alts := [], laidByText := true, laidKinds := [.listed, .data], laidTests := true, laidLooks := .later }
def ParseMoreUptoCardSaid : Prop := Claim7.holds Tryd.pinned (.plain (OpenSpec.upto parseMoreSpec)) parseMoreUptoCard

/-- THE SECOND FORM's CARD OF 'inquestlaw24.ParseAll'. -/
def parseAllUptoCard : Claim7 := { stood := { row := parseAllUptoRow, standIns := [], harness := (true, "a0dc57b12a3d8b540aff289035c37c73d9411c194414e5741d97237772a42905"), looks := false }, kinds := [], alts := [], laidByText := true, laidKinds := [.data, .data, .data, .data, .listed, .data, .pinned], laidTests := true, laidLooks := .later }
def ParseAllUptoCardSaid : Prop := Claim7.holds Tryd.pinned (.plain (OpenSpec.upto parseAllSpec)) parseAllUptoCard
end Rows
end Go.Proofs.YtnbfblikpoblgaaDoor
