/-
  What the plan of a question is, in plain Lean; how plans lie in memory. No walk.
-/
import Derived.Test.YtnnjcedlomfhoaaGreatDoorHA
import Derived.Test.YtnnjcedlomfhoaaGreatDoorHGlobE
import Derived.Test.YtnnjcedlomfhoaaGreatDoorHB
namespace Go.Proofs.YtnnjcedlomfhoaaGreatDoor
open Go.RowKit
set_option linter.unusedVariables false
structure SpanV where
  by_ : Int
  from_ : List UInt8
  to_ : List UInt8
structure PlanV where
  spans : List SpanV
  all : Bool
  cost : Cost
def wholeP : PlanV := ⟨[], true, cEach⟩
def beginsP (b : List UInt8) (c : Cost) : PlanV := ⟨[⟨0, b, aboveB b⟩], false, c⟩
def numbersP (by_ fr tt : Int) (c : Cost) : PlanV :=
  if min tt 281474976710655 < max fr 0 then ⟨[], false, c0⟩
  else ⟨[⟨by_, numsB [max fr 0], if min tt 281474976710655 < 281474976710655 then numsB [min tt 281474976710655 + 1] else []⟩], false, c⟩
def comparedP (by_ op n : Int) : PlanV :=
  if op = 1 then numbersP by_ (min (max n (-1)) 281474976710656) (min (max n (-1)) 281474976710656) cSum
  else if op = 3 then numbersP by_ 0 (min (max n (-1)) 281474976710656 - 1) cLots
  else if op = 4 then numbersP by_ 0 (min (max n (-1)) 281474976710656) cLots
  else if op = 5 then numbersP by_ (min (max n (-1)) 281474976710656 + 1) 281474976710655 cLots
  else if op = 6 then numbersP by_ (min (max n (-1)) 281474976710656) 281474976710655 cLots
  else wholeP
def PlanV.ok (p : PlanV) : Prop := p.cost.ok
theorem numbersP_ok (by_ fr tt : Int) (c : Cost) (h : c.ok) : (numbersP by_ fr tt c).ok ∧ (numbersP by_ fr tt c).spans.length ≤ 1 := by
  unfold numbersP
  split
  · exact ⟨c0_ok, by simp⟩
  · exact ⟨h, by simp⟩
theorem comparedP_ok (by_ op n : Int) : (comparedP by_ op n).ok ∧ (comparedP by_ op n).spans.length ≤ 1 := by
  unfold comparedP
  split
  · exact numbersP_ok _ _ _ _ cSum_ok
  split
  · exact numbersP_ok _ _ _ _ cLots_ok
  split
  · exact numbersP_ok _ _ _ _ cLots_ok
  split
  · exact numbersP_ok _ _ _ _ cLots_ok
  split
  · exact numbersP_ok _ _ _ _ cLots_ok
  · exact ⟨cEach_ok, by simp [wholeP]⟩
/-- The block of a slice holds elements of one type. -/
def TB (w : World) (t : TypeId) (A : Option Addr) : Prop := ∀ ad, A = some ad → ∃ cs fr, w.heap[ad.block]? = some (.cells cs t fr)
theorem TB.none_ (w : World) (t : TypeId) : TB w t none := fun ad h => by cases h
theorem TB.blk {w : World} {g i : Nat} {t : TypeId} {cs : Array Value} (h : Blk w g t cs) : TB w t (some ⟨g, i, none⟩) := fun ad e => by cases e; exact ⟨cs, (0, 0), h⟩
theorem TB.lt {w : World} {t : TypeId} {ad : Addr} (h : TB w t (some ad)) : ad.block < w.heap.size := by
  obtain ⟨cs, fr, e⟩ := h ad rfl
  exact (Array.getElem?_eq_some_iff.1 e).1
theorem TB.below {w w' : World} {t : TypeId} {A : Option Addr} (h : TB w t A) (hb : Below w.heap.size w w') : TB w' t A := fun ad e => by
  obtain ⟨cs, fr, e1⟩ := h ad e
  exact ⟨cs, fr, (hb.block _ (Array.getElem?_eq_some_iff.1 e1).1).trans e1⟩
theorem TB.ne {w : World} {t t' : TypeId} {ad : Addr} {g : Nat} {cs : Array Value} (h : TB w t (some ad)) (hB : Blk w g t' cs) (ht : t ≠ t') : g ≠ ad.block := by
  rintro rfl
  obtain ⟨cs', fr, e⟩ := h ad rfl
  unfold Blk at hB
  rw [hB] at e
  injection e with e
  injection e with _ e
  exact ht e.symm
theorem TB.set_ {w : World} {t t' : TypeId} {A : Option Addr} {g i : Nat} {cs : Array Value} (h : TB w t A) (hB : Blk w g t' cs) (ht : t ≠ t') (u : Value) : TB (w.setCell ⟨g, i, none⟩ u) t A := fun ad e => by
  subst e
  have hne := h.ne hB ht
  obtain ⟨cs', fr, e⟩ := h ad rfl
  exact ⟨cs', fr, (Below.heap_setCell w ⟨g, i, none⟩ u ad.block (Ne.symm hne)).trans e⟩
theorem reads_set {w : World} {B size n : Nat} {t t' : TypeId} {A : Option Addr} {xs : List Value} {g i : Nat} {cs : Array Value} (h : Reads w B size A n xs) (hT : TB w t A) (hB : Blk w g t' cs) (ht : t ≠ t') (u : Value) : Reads (w.setCell ⟨g, i, none⟩ u) B size A n xs := by
  refine ⟨h.1, fun hn => ?_⟩
  obtain ⟨ad, e, hb, hc⟩ := h.2 hn
  subst e
  have hne := hT.ne hB ht
  refine ⟨ad, rfl, hb, fun j v hj => ?_⟩
  rw [World.cell?_setCell_other _ _ _ _ (fun e => hne (by have e2 := congrArg Addr.block e; rw [block_of_add] at e2; exact e2))]
  exact hc j v hj
/-- Bytes in memory, with their type. -/
def RBT (w : World) (A : Option Addr) (n : Nat) (l : List UInt8) : Prop := RB w w.heap.size A n l ∧ TB w 5 A
theorem RBT.below {w w' : World} {A : Option Addr} {n : Nat} {l : List UInt8} (h : RBT w A n l) (hb : Below w.heap.size w w') : RBT w' A n l := ⟨(h.1.below hb).more hb.size, h.2.below hb⟩
theorem RBT.set_ {w : World} {t' : TypeId} {A : Option Addr} {n g i : Nat} {l : List UInt8} {cs : Array Value} (h : RBT w A n l) (hB : Blk w g t' cs) (ht : 5 ≠ t') (u : Value) : RBT (w.setCell ⟨g, i, none⟩ u) A n l := by
  refine ⟨?_, h.2.set_ hB ht u⟩
  have := reads_set (i := i) h.1 h.2 hB ht u
  rw [RB]
  rw [show (w.setCell ⟨g, i, none⟩ u).heap.size = w.heap.size from by simp]
  exact this
theorem RBT.nil (w : World) : RBT w none 0 [] := ⟨RB.nil _ _, TB.none_ _ _⟩
theorem OB.formT {w : World} {base n : Nat} {v : Value} {l : List UInt8} (h : OB w base v n l) : ∃ A c, v = .slice A n c ∧ RBT w A n l ∧ n ≤ c := by
  obtain ⟨A, c, e, hr, -, hc, -⟩ := h.form
  refine ⟨A, c, e, ⟨hr, ?_⟩, hc⟩
  rcases h.2 with ⟨e2, -⟩ | ⟨g, cap, cur, e2, -, hh, -⟩
  · rw [e2] at e
    injection e with e
    subst e
    exact TB.none_ _ _
  · rw [e2] at e
    injection e with e
    subst e
    exact fun ad e3 => by cases e3; exact ⟨cur, (0, 0), hh⟩
def SpanR (w : World) (cs : List Value) (s : SpanV) : Prop := ∃ fA fn fc tA tn tc, cs = [.int .i64 s.by_, .slice fA fn fc, .slice tA tn tc] ∧ RBT w fA fn s.from_ ∧ RBT w tA tn s.to_
def SpansAt (w : World) (A : Option Addr) (n : Nat) (l : List SpanV) : Prop := n = l.length ∧ TB w 34 A ∧ ∃ vs : List (List Value), vs.length = l.length ∧ Reads w w.heap.size 3 A n vs.flatten ∧ ∀ (k : Nat) (cs : List Value) (s : SpanV), vs[k]? = some cs → l[k]? = some s → SpanR w cs s
theorem SpanR.below {w w' : World} {cs : List Value} {s : SpanV} (h : SpanR w cs s) (hb : Below w.heap.size w w') : SpanR w' cs s := by
  obtain ⟨fA, fn, fc, tA, tn, tc, e, h1, h2⟩ := h
  exact ⟨fA, fn, fc, tA, tn, tc, e, h1.below hb, h2.below hb⟩
theorem SpansAt.below {w w' : World} {A : Option Addr} {n : Nat} {l : List SpanV} (h : SpansAt w A n l) (hb : Below w.heap.size w w') : SpansAt w' A n l := by
  obtain ⟨h0, hT, vs, h1, h2, h3⟩ := h
  exact ⟨h0, hT.below hb, vs, h1, Reads.more (Reads.below h2 hb) hb.size, fun k cs s e1 e2 => (h3 k cs s e1 e2).below hb⟩
theorem SpansAt.set_ {w : World} {t' : TypeId} {A : Option Addr} {n g i : Nat} {l : List SpanV} {cs : Array Value} (h : SpansAt w A n l) (hB : Blk w g t' cs) (h5 : 5 ≠ t') (ht : 34 ≠ t') (u : Value) : SpansAt (w.setCell ⟨g, i, none⟩ u) A n l := by
  obtain ⟨h0, hT, vs, h1, h2, h3⟩ := h
  refine ⟨h0, hT.set_ hB ht u, vs, h1, ?_, fun k cs' s e1 e2 => ?_⟩
  · have := reads_set (i := i) h2 hT hB ht u
    rw [show (w.setCell ⟨g, i, none⟩ u).heap.size = w.heap.size from by simp]
    exact this
  · obtain ⟨fA, fn, fc, tA, tn, tc, e, g1, g2⟩ := h3 k cs' s e1 e2
    exact ⟨fA, fn, fc, tA, tn, tc, e, g1.set_ hB h5 u, g2.set_ hB h5 u⟩
theorem SpansAt.nil (w : World) : SpansAt w none 0 [] := ⟨rfl, TB.none_ _ _, [], rfl, ⟨by simp, fun h => absurd h (by decide)⟩, fun k cs s h => by simp at h⟩
theorem SpansAt.one {w : World} {g : Nat} {s : SpanV} {fA tA : Option Addr} {fn fc tn tc : Nat} (h : Blk w g 34 #[.int .i64 s.by_, .slice fA fn fc, .slice tA tn tc]) (h1 : RBT w fA fn s.from_) (h2 : RBT w tA tn s.to_) :
    SpansAt w (some ⟨g, 0, none⟩) 1 [s] := by
  refine ⟨rfl, TB.blk h, [[.int .i64 s.by_, .slice fA fn fc, .slice tA tn tc]], rfl, ⟨by simp, fun _ => ⟨_, rfl, h.lt, fun j u hj => ?_⟩⟩, fun k cs s' e1 e2 => ?_⟩
  · rw [show (⟨g, 0, none⟩ : Addr).add j = ⟨g, j, none⟩ from by unfold Addr.add; split <;> simp_all, h.cell]
    simpa using hj
  · cases k with
    | zero =>
      simp at e1 e2
      subst e1 e2
      exact ⟨fA, fn, fc, tA, tn, tc, rfl, h1, h2⟩
    | succ k => simp at e1
def PlanRet (w : World) (p : PlanV) (e : Ending) (w' : World) : Prop :=
  (∃ A n k, e = .returned (.agg #[.slice A n k, .bool p.all, .complex .f64 p.cost.re p.cost.im]) ∧ n ≤ k ∧ SpansAt w' A n p.spans) ∧ Below w.heap.size w w'
end Go.Proofs.YtnnjcedlomfhoaaGreatDoor
