/-
  What the reference's parser computes, in plain Lean: by the last word between, at the least depth. No program in sight.
-/
import Derived.Test.YtnhcamkccnaeeaaGreatDoorParseSpec
namespace Go.Proofs.YtnhcamkccnaeeaaGreatDoor
set_option linter.unusedVariables false

def isLp (t : Tok) : Bool := isW t 4 lpW
def isRp (t : Tok) : Bool := isW t 4 rpW
/-- How deep it stands behind a token. -/
def dStep (d : Int) (t : Tok) : Int := if isLp t = true then d + 1 else if isRp t = true then d - 1 else d
/-- The scan for the last word at depth 0: depth, the place so far, the place that is next. -/
def lastF (word : List UInt8) : List Tok → Int → Int → Int → Int
  | [], _, at_, _ => at_
  | t :: T, d, at_, i =>
    if isLp t = true then lastF word T (d + 1) at_ (i + 1)
    else if isRp t = true then lastF word T (d - 1) at_ (i + 1)
    else lastF word T d (if d = 0 ∧ isW t 1 word = true then i else at_) (i + 1)
/-- The place of the last one in a list, counted from k; -1: there is none. -/
def lastW (word : List UInt8) (T : List Tok) (k : Int) : Int := lastF word T 0 (-1) k
def closedF : List Tok → Int → Bool
  | [], d => decide (d = 0)
  | t :: T, d => if dStep d t < 0 then false else closedF T (dStep d t)
def closedP (T : List Tok) : Bool := closedF T 0
/-- The reference's term: all of a list. -/
def rterm (T : List Tok) : Option Ask :=
  match T with
  | [t, v] => if isW t 1 hasW = true ∧ v.kind = 3 then some ⟨9, 1, -1, -1, 0, v.text, true⟩ else none
  | [t, m, v] =>
    if (if t.kind = 1 then kindOf t.text else 0) = 0 ∨ opOf m = 0 ∨ (v.kind ≠ 2 ∧ v.kind ≠ 3) then none
    else if v.kind = 3 then some ⟨kindOf t.text, opOf m, -1, -1, 0, v.text, true⟩ else some ⟨kindOf t.text, opOf m, -1, -1, v.n, [], false⟩
  | _ => none
/-- The question of a list of tokens. -/
def partP : Nat → List Tok → Option Q
  | 0, _ => none
  | f + 1, T =>
    if T = [] then none
    else
      let o := lastW orW T 0
      let a := lastW andW T 0
      if 0 ≤ o then
        match partP f (T.take o.toNat) with
        | none => none
        | some x => (partP f (T.drop (o.toNat + 1))).map fun y => .two 1 x y
      else if 0 ≤ a then
        match partP f (T.take a.toNat) with
        | none => none
        | some x => (partP f (T.drop (a.toNat + 1))).map fun y => .two 2 x y
      else if atW T 1 notW = true then (partP f T.tail).map Q.neg
      else if atW T 4 lpW = true ∧ (T.getLast?.map isRp) = some true then partP f T.tail.dropLast
      else (rterm T).map Q.term
end Go.Proofs.YtnhcamkccnaeeaaGreatDoor
