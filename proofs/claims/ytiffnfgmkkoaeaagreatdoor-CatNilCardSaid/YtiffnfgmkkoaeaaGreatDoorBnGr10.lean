/-
  Contracts of the string builder's copyCheck, WriteByte and String at a builder that the call itself made (after the kit's shelf, whose own copyCheck does not fit this program's text).
-/
import Derived.Test.YtiffnfgmkkoaeaaGreatDoorBnGr5
import Derived.Test.YtiffnfgmkkoaeaaGreatDoorShelf
import Derived.Lib.Builder
import Derived.Test.YtiffnfgmkkoaeaaGreatDoorBnLexD
import Derived.Test.YtiffnfgmkkoaeaaGreatDoorBnGr0
namespace Go.Proofs.YtiffnfgmkkoaeaaGreatDoor
open Go.RowKit
set_option linter.unusedVariables false
/-- The call's own builder, from block B on, holds the bytes l. -/
def Bld (B b : Nat) (l : List UInt8) (w : World) : Prop := Lib.IsBuilder 101 5 B b (Lib.byteCells l) w
theorem Bld.fresh (w : World) : Bld w.heap.size w.heap.size [] (w.alloc (.cells #[.pointer none, .slice none 0 0] 101)) := Lib.fresh_isBuilder _ _ w
end Go.Proofs.YtiffnfgmkkoaeaaGreatDoor
namespace Go.Proofs.YtiffnfgmkkoaeaaGreatDoor
open Go.RowKit
set_option linter.unusedVariables false
/-- What quoted answers at a place, as two values. -/
def quotedT (l : List UInt8) : List UInt8 := match quotedL l with | some x => x.1 | none => []
def quotedE (p : Nat) (l : List UInt8) : Int := match quotedL l with | some x => (p : Int) + (x.2 : Int) | none => -1
/-- 'the answer from place p0 is that of what has been read, t, and what stands at place k'. -/
def QRel (L : List UInt8) (p0 k : Nat) (t : List UInt8) : Prop := p0 ≤ k ∧ quotedL (L.drop p0) = (quotedL (L.drop k)).map fun x => (t ++ x.1, (k - p0) + x.2)
theorem QRel.none_ {L : List UInt8} {p0 k : Nat} {t : List UInt8} (h : QRel L p0 k t) (hq : quotedL (L.drop k) = none) : quotedT (L.drop p0) = [] ∧ quotedE p0 (L.drop p0) = -1 := by
  have := h.2
  rw [hq] at this
  simp at this
  simp [quotedT, quotedE, this]
/-- The post: a text and a place. -/
def QRet (W : World) (t : List UInt8) (n : Int) (e : Ending) (w' : World) : Prop := e = .returned (.tuple #[.string (str t), .int .i64 n]) ∧ Below W.heap.size W w'
theorem QRet.mk {W w' : World} {t t' : List UInt8} {n n' : Int} (ht : t' = t) (hn : n' = n) (hb : Below W.heap.size W w') : QRet W t n (.returned (.tuple #[.string (str t'), .int .i64 n'])) w' := by
  subst ht hn; exact ⟨rfl, hb⟩
end Go.Proofs.YtiffnfgmkkoaeaaGreatDoor
namespace Go.Proofs.YtiffnfgmkkoaeaaGreatDoor
open Go.RowKit
set_option linter.unusedVariables false
/-- A token's four cells; the cells of tokens. -/
def tv (t : Tok) : List Value := [.int .i64 t.kind, .string (str t.text), .int .i64 t.n, .int .i64 (t.pos : Int)]
def tvs (l : List Tok) : List Value := l.flatMap tv
theorem tvs_length (l : List Tok) : (tvs l).length = l.length * 4 := by
  induction l with
  | nil => rfl
  | cons a l ih => simp only [tvs, List.flatMap_cons, List.length_append, List.length_cons] at *; rw [ih]; simp [tv]; omega
theorem tvs_get (l : List Tok) (k j : Nat) (hk : k < l.length) (hj : j < 4) : (tvs l)[k * 4 + j]? = (tv l[k])[j]? := by
  induction l generalizing k with
  | nil => simp at hk
  | cons a l ih =>
    have e : tvs (a :: l) = tv a ++ tvs l := by simp [tvs]
    rw [e]
    cases k with
    | zero => rw [List.getElem?_append_left (by simp [tv]; omega)]; simp
    | succ k =>
      rw [List.getElem?_append_right (by simp [tv]; omega)]
      have : (k + 1) * 4 + j - (tv a).length = k * 4 + j := by simp [tv]; omega
      rw [this, ih k (by simpa using hk)]
      simp
def RT (w : World) (B : Nat) (A : Option Addr) (n : Nat) (l : List Tok) : Prop := Reads w B 4 A n (tvs l)
section
variable {w w' : World} {base B n : Nat} {v : Value} {l : List Tok} {A : Option Addr}
theorem RT.len (h : RT w B A n l) : l.length = n := by have := h.1; rw [tvs_length] at this; omega
theorem RT.below (h : RT w B A n l) (hb : Below B w w') : RT w' B A n l := Reads.below h hb
theorem RT.more {B' : Nat} (h : RT w B A n l) (hB : B ≤ B') : RT w B' A n l := Reads.more h hB
theorem RT.elem (h : RT w B A n l) {k : Nat} (hk : k < n) (hl : k < l.length) : ∃ ad, A = some ad ∧ ad.block < B ∧
    w.cell? (ad.add (k * 4)) = some (.int .i64 l[k].kind) ∧ w.cell? (ad.add (k * 4 + 1)) = some (.string (str l[k].text)) ∧
    w.cell? (ad.add (k * 4 + 2)) = some (.int .i64 l[k].n) ∧ w.cell? (ad.add (k * 4 + 3)) = some (.int .i64 (l[k].pos : Int)) := by
  obtain ⟨ad, e, hb, hc⟩ := h.2 (by omega)
  refine ⟨ad, e, hb, hc _ _ ?_, hc _ _ ?_, hc _ _ ?_, hc _ _ ?_⟩
  · have := tvs_get l k 0 hl (by omega); rw [Nat.add_zero] at this; rw [this]; rfl
  · rw [tvs_get l k 1 hl (by omega)]; rfl
  · rw [tvs_get l k 2 hl (by omega)]; rfl
  · rw [tvs_get l k 3 hl (by omega)]; rfl
end
section
variable {ops : Array Oper} {rest : List Oper} {o : Oper} {a : Act} {Q : Exit → Act → World → Prop}
end
end Go.Proofs.YtiffnfgmkkoaeaaGreatDoor
namespace Go.Proofs.YtiffnfgmkkoaeaaGreatDoor
set_option linter.unusedVariables false
end Go.Proofs.YtiffnfgmkkoaeaaGreatDoor
