/-
  DERIVED. GIVEN WITH THE SEED: THE CARDS: each row of YtajdeapdgbnahaaGreatDoorRows.lean that lists a variable, with what it lists TIED to the program's text (the seventh form; the later family's looks); each row that meets fmt, with fmt's text TOLD by the authors' own Lean function (tested against real Go, not proved from fmt's source: count such statements apart). THE CARD IS WHAT COUNTS. Prove the row's statement (the work); the ties are given (YtajdeapdgbnahaaGreatDoorTie.lean); close each card by the builder's one call (the guide's Derived/Test/ToyasCard.lean, 'card_holds'). Laid BY PROGRAM, IN A SANDBOX (cutbox-door.mjs). By AI agents, Wed Nov 11 2026. No macro, syntax, notation, axiom, sorry.
-/
import Derived.Test.YtajdeapdgbnahaaGreatDoorRows
import GoSem.ClaimSeven
namespace Go.Proofs.YtajdeapdgbnahaaGreatDoor
namespace Rows

/-- THE TIED CARD OF 'inquestlaw21.CatOrders'. -/
def catOrdersCard : Claim7 := { stood := { row := catOrdersRow, standIns := [], harness := (true, "6446e3de3744282c54665f4f381352ae4b70c6b27645fb7beafbdc10801514b2"), looks := false }, kinds := [], alts := [], laidByText := true, laidKinds := [.data, .pinned], laidTests := true, laidLooks := .later }
def CatOrdersCardSaid : Prop := Claim7.holds Tryz.pinned (.plain (OpenSpec.ofChange catOrdersSpec)) catOrdersCard

/-- THE TIED CARD OF 'inquestlaw21.CatTwice'. -/
def catTwiceCard : Claim7 := { stood := { row := catTwiceRow, standIns := [], harness := (true, "6446e3de3744282c54665f4f381352ae4b70c6b27645fb7beafbdc10801514b2"), looks := false }, kinds := [], alts := [], laidByText := true, laidKinds := [.data, .pinned], laidTests := true, laidLooks := .later }
def CatTwiceCardSaid : Prop := Claim7.holds Tryz.pinned (.plain (OpenSpec.ofChange catTwiceSpec)) catTwiceCard

/-- THE SECOND FORM's CARD OF 'inquestlaw21.CatOrders'. -/
def catOrdersUptoCard : Claim7 := { stood := { row := catOrdersUptoRow, standIns := [], harness := (true, "6446e3de3744282c54665f4f381352ae4b70c6b27645fb7beafbdc10801514b2"), looks := false }, kinds := [], alts := [], laidByText := true, laidKinds := [.data, .pinned], laidTests := true, laidLooks := .later }
def CatOrdersUptoCardSaid : Prop := Claim7.holds Tryz.pinned (.plain (OpenSpec.upto catOrdersSpec)) catOrdersUptoCard

/-- THE SECOND FORM's CARD OF 'inquestlaw21.CatTwice'. -/
def catTwiceUptoCard : Claim7 := { stood := { row := catTwiceUptoRow, standIns := [], harness := (true, "6446e3de3744282c54665f4f381352ae4b70c6b27645fb7beafbdc10801514b2"), looks := false }, kinds := [], alts := [], laidByText := true, laidKinds := [.data, .pinned], laidTests := true, laidLooks := .later }
def CatTwiceUptoCardSaid : Prop := Claim7.holds Tryz.pinned (.plain (OpenSpec.upto catTwiceSpec)) catTwiceUptoCard
end Rows
end Go.Proofs.YtajdeapdgbnahaaGreatDoor
