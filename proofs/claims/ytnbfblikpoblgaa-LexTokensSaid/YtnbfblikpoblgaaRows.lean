/-
  No cell of these rows narrows 'for every input' (looked for: loops, veiled, ifaces, maps, wideKeys, modest, calm, conditions, laid).
  DERIVED. THE GIVEN ROWS OF THIS SEAT. 5 by the template 'for every input the law returns true; each argument reads behind the call as it read before'; 0 by the template 'total and deterministic' (their statements: YtnbfblikpoblgaaTotals.lean).
  GIVEN WITH THE SEED: the statements are not yours to turn. If you find one false, say at which input.
  Laid BY PROGRAM, IN A SANDBOX (cutbox-rows.mjs): the forced cells as the released guide's own fill.sh prints them over the translation ad59d4a05f65ad66… (all of the seat's roots in one cut). By AI agents, Wed Nov 11 2026. No macro, syntax, notation, axiom, sorry.
-/
import Derived.Test.YtnbfblikpoblgaaChecked
import GoSem.Claim
import GoSem.ClaimJoined
import GoSem.ClaimMapViews
import Derived.JoinedTies
import Derived.KernelRfl
namespace Go.Proofs.Ytnbfblikpoblgaa
/- THE CELL 'sum', in the pinned program and in every row, IS THE sha256 OF THE DUMP (.gsa) THAT YtnbfblikpoblgaaProg.lean LOADS. Nothing in Lean hashes anything: it is a label: what it is worth is what the hold of that sum in a sandbox is worth. -/
noncomputable def Try.pinned : Pinned := { name := "ytnbfblikpoblgaa", sum := "ad59d4a05f65ad660f14afcf0a9de3614284421831f0bc3f7afe2b6b70d7b5ef", checked := Try.checked }
namespace Rows
def none {H : Type} : Left H := { results := [], args := [] }

/-- 'inquestlaw20.KeyNums': WHATEVER THE INPUT: true; the input reads as it did. -/
def keyNumsSpec : ChangeSpec := { name := "keyNums", fn := fun _ => fun
  | [d1, d2] => { results := [.lit (.bool true)], args := [d1, d2] }
  | _ => none }
def keyNumsRow : OpenClaim := { program := "ytnbfblikpoblgaa", sum := "ad59d4a05f65ad660f14afcf0a9de3614284421831f0bc3f7afe2b6b70d7b5ef", func := "inquest/inquestlaw20.KeyNums", spec := "keyNums", apart := false }
def KeyNumsSaid : Prop := keyNumsRow.holds Try.pinned (OpenSpec.ofChange keyNumsSpec)

/-- ITS FALSE NEIGHBOUR: 'it returns false'. Refute it at one input. -/
def keyNumsWrong : ChangeSpec := { name := "keyNums", fn := fun _ => fun
  | [d1, d2] => { results := [.lit (.bool false)], args := [d1, d2] }
  | _ => none }
def KeyNumsWrongFalsely : Prop := keyNumsRow.holds Try.pinned (OpenSpec.ofChange keyNumsWrong)

/-- 'inquestlaw20.KeyAbove': WHATEVER THE INPUT: true; the input reads as it did. -/
def keyAboveSpec : ChangeSpec := { name := "keyAbove", fn := fun _ => fun
  | [d1, d2, d3] => { results := [.lit (.bool true)], args := [d1, d2, d3] }
  | _ => none }
def keyAboveRow : OpenClaim := { program := "ytnbfblikpoblgaa", sum := "ad59d4a05f65ad660f14afcf0a9de3614284421831f0bc3f7afe2b6b70d7b5ef", func := "inquest/inquestlaw20.KeyAbove", spec := "keyAbove", apart := false }
def KeyAboveSaid : Prop := keyAboveRow.holds Try.pinned (OpenSpec.ofChange keyAboveSpec)

/-- ITS FALSE NEIGHBOUR: 'it returns false'. Refute it at one input. -/
def keyAboveWrong : ChangeSpec := { name := "keyAbove", fn := fun _ => fun
  | [d1, d2, d3] => { results := [.lit (.bool false)], args := [d1, d2, d3] }
  | _ => none }
def KeyAboveWrongFalsely : Prop := keyAboveRow.holds Try.pinned (OpenSpec.ofChange keyAboveWrong)

/-- 'inquestlaw23.LexTokens': WHATEVER THE INPUT: true; the input reads as it did. -/
def lexTokensSpec : ChangeSpec := { name := "lexTokens", fn := fun _ => fun
  | [d] => { results := [.lit (.bool true)], args := [d] }
  | _ => none }
def lexTokensRow : OpenClaim := { program := "ytnbfblikpoblgaa", sum := "ad59d4a05f65ad660f14afcf0a9de3614284421831f0bc3f7afe2b6b70d7b5ef", func := "inquest/inquestlaw23.LexTokens", spec := "lexTokens", inPlace := ["internal/abi.NoEscape"], unfollowed := true, recurses := true, apart := false }
def LexTokensSaid : Prop := lexTokensRow.holds Try.pinned (OpenSpec.ofChange lexTokensSpec)

/-- ITS FALSE NEIGHBOUR: 'it returns false'. Refute it at one input. -/
def lexTokensWrong : ChangeSpec := { name := "lexTokens", fn := fun _ => fun
  | [d] => { results := [.lit (.bool false)], args := [d] }
  | _ => none }
def LexTokensWrongFalsely : Prop := lexTokensRow.holds Try.pinned (OpenSpec.ofChange lexTokensWrong)

/-- 'inquestlaw23.LexJoins': WHATEVER THE INPUT: true; the input reads as it did. -/
def lexJoinsSpec : ChangeSpec := { name := "lexJoins", fn := fun _ => fun
  | [d1, d2] => { results := [.lit (.bool true)], args := [d1, d2] }
  | _ => none }
def lexJoinsRow : OpenClaim := { program := "ytnbfblikpoblgaa", sum := "ad59d4a05f65ad660f14afcf0a9de3614284421831f0bc3f7afe2b6b70d7b5ef", func := "inquest/inquestlaw23.LexJoins", spec := "lexJoins", inPlace := ["internal/abi.NoEscape"], unfollowed := true, recurses := true, apart := false }
def LexJoinsSaid : Prop := lexJoinsRow.holds Try.pinned (OpenSpec.ofChange lexJoinsSpec)

/-- ITS FALSE NEIGHBOUR: 'it returns false'. Refute it at one input. -/
def lexJoinsWrong : ChangeSpec := { name := "lexJoins", fn := fun _ => fun
  | [d1, d2] => { results := [.lit (.bool false)], args := [d1, d2] }
  | _ => none }
def LexJoinsWrongFalsely : Prop := lexJoinsRow.holds Try.pinned (OpenSpec.ofChange lexJoinsWrong)

/-- 'inquestlaw23.LexBlanks': WHATEVER THE INPUT: true; the input reads as it did. -/
def lexBlanksSpec : ChangeSpec := { name := "lexBlanks", fn := fun _ => fun
  | [d1, d2, d3] => { results := [.lit (.bool true)], args := [d1, d2, d3] }
  | _ => none }
def lexBlanksRow : OpenClaim := { program := "ytnbfblikpoblgaa", sum := "ad59d4a05f65ad660f14afcf0a9de3614284421831f0bc3f7afe2b6b70d7b5ef", func := "inquest/inquestlaw23.LexBlanks", spec := "lexBlanks", inPlace := ["internal/abi.NoEscape"], unfollowed := true, recurses := true, apart := false }
def LexBlanksSaid : Prop := lexBlanksRow.holds Try.pinned (OpenSpec.ofChange lexBlanksSpec)

/-- ITS FALSE NEIGHBOUR: 'it returns false'. Refute it at one input. -/
def lexBlanksWrong : ChangeSpec := { name := "lexBlanks", fn := fun _ => fun
  | [d1, d2, d3] => { results := [.lit (.bool false)], args := [d1, d2, d3] }
  | _ => none }
def LexBlanksWrongFalsely : Prop := lexBlanksRow.holds Try.pinned (OpenSpec.ofChange lexBlanksWrong)

/- THE SECOND FORM. 'bulk': how many values and letters a reading holds, each counted each time it is reached (what is shared counts as often as it is met; a slice's spare places count too). A statement '..UptoSaid' is the law's where the arguments, and the package variables that the reading takes, are together of bulk at most 1048576: NARROWER than '..Said'. Prove '..Said' where nothing that the law and all that it calls make is longer than what came in: it says more and counts as full. Else prove '..UptoSaid'. A law counts once. -/
mutual
def uptoBulk {H : Type} : DataW H → Nat
  | .lit (.string bytes) => bytes.length + 1
  | .lit _ => 1
  | .nil => 1
  | .ptr d => uptoBulk d + 1
  | .slice elems spare => uptoBulkAll elems + uptoBulkAll spare + 1
  | .agg parts => uptoBulkAll parts + 1
  | .iface _ d => uptoBulk d + 1
  | .map entries => uptoBulkEntries entries + 1
  | .held _ => 1
def uptoBulkAll {H : Type} : List (DataW H) → Nat
  | [] => 0
  | d :: r => uptoBulk d + uptoBulkAll r
def uptoBulkEntries {H : Type} : List (Lit × DataW H) → Nat
  | [] => 0
  | x :: r => uptoBulkEntry x + uptoBulkEntries r
def uptoBulkEntry {H : Type} : Lit × DataW H → Nat
  | (.string bytes, d) => bytes.length + uptoBulk d + 1
  | (_, d) => uptoBulk d + 1
 end
def uptoSmall : (H : Type) → List (DataW H) → Bool := fun _ ds => decide (uptoBulkAll ds ≤ 1048576)
def OpenSpec.upto (s : _root_.Go.ChangeSpec) : _root_.Go.OpenSpec := { _root_.Go.OpenSpec.ofChange s with cond := some uptoSmall }

/-- 'inquestlaw20.KeyNums', WHERE WHAT IT READS IS OF BULK AT MOST 1048576: true; the input reads as it did. -/
def keyNumsUptoRow : OpenClaim := { program := "ytnbfblikpoblgaa", sum := "ad59d4a05f65ad660f14afcf0a9de3614284421831f0bc3f7afe2b6b70d7b5ef", func := "inquest/inquestlaw20.KeyNums", spec := "keyNums", apart := false, narrowed := true }
def KeyNumsUptoSaid : Prop := keyNumsUptoRow.holds Try.pinned (OpenSpec.upto keyNumsSpec)

/-- 'inquestlaw20.KeyAbove', WHERE WHAT IT READS IS OF BULK AT MOST 1048576: true; the input reads as it did. -/
def keyAboveUptoRow : OpenClaim := { program := "ytnbfblikpoblgaa", sum := "ad59d4a05f65ad660f14afcf0a9de3614284421831f0bc3f7afe2b6b70d7b5ef", func := "inquest/inquestlaw20.KeyAbove", spec := "keyAbove", apart := false, narrowed := true }
def KeyAboveUptoSaid : Prop := keyAboveUptoRow.holds Try.pinned (OpenSpec.upto keyAboveSpec)

/-- 'inquestlaw23.LexTokens', WHERE WHAT IT READS IS OF BULK AT MOST 1048576: true; the input reads as it did. -/
def lexTokensUptoRow : OpenClaim := { program := "ytnbfblikpoblgaa", sum := "ad59d4a05f65ad660f14afcf0a9de3614284421831f0bc3f7afe2b6b70d7b5ef", func := "inquest/inquestlaw23.LexTokens", spec := "lexTokens", inPlace := ["internal/abi.NoEscape"], unfollowed := true, recurses := true, apart := false, narrowed := true }
def LexTokensUptoSaid : Prop := lexTokensUptoRow.holds Try.pinned (OpenSpec.upto lexTokensSpec)

/-- 'inquestlaw23.LexJoins', WHERE WHAT IT READS IS OF BULK AT MOST 1048576: true; the input reads as it did. -/
def lexJoinsUptoRow : OpenClaim := { program := "ytnbfblikpoblgaa", sum := "ad59d4a05f65ad660f14afcf0a9de3614284421831f0bc3f7afe2b6b70d7b5ef", func := "inquest/inquestlaw23.LexJoins", spec := "lexJoins", inPlace := ["internal/abi.NoEscape"], unfollowed := true, recurses := true, apart := false, narrowed := true }
def LexJoinsUptoSaid : Prop := lexJoinsUptoRow.holds Try.pinned (OpenSpec.upto lexJoinsSpec)

/-- 'inquestlaw23.LexBlanks', WHERE WHAT IT READS IS OF BULK AT MOST 1048576: true; the input reads as it did. -/
def lexBlanksUptoRow : OpenClaim := { program := "ytnbfblikpoblgaa", sum := "ad59d4a05f65ad660f14afcf0a9de3614284421831f0bc3f7afe2b6b70d7b5ef", func := "inquest/inquestlaw23.LexBlanks", spec := "lexBlanks", inPlace := ["internal/abi.NoEscape"], unfollowed := true, recurses := true, apart := false, narrowed := true }
def LexBlanksUptoSaid : Prop := lexBlanksUptoRow.holds Try.pinned (OpenSpec.upto lexBlanksSpec)

end Rows
end Go.Proofs.Ytnbfblikpoblgaa
