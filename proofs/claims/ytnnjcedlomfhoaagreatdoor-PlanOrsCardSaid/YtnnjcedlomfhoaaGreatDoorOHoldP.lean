/-
  Which names a pattern matches, in plain Lean: by definition; from the front, place by place. No program in sight.
  Patterns: contracts of fits (of each kind of part), of the marks behind stars, of Match.
  The document's patterns (inquestref13): contracts of fits, of Match.
  What holds of an entry: of a term, of a question, of its normal form. The normal form holds just if the question does. No walk.
  What holds: contracts of the comparisons, of has, of terms.
  What holds: contracts of terms, of the program, of the document.
  What holds: contract of the document's terms.
  What holds: contracts of inquestref25.Holds, at a question's place of its parts; of norm.Holds, at the parts of a tree without nots.
  What holds: contract of norm.Holds at the parts of a tree without nots.
-/
import Derived.Test.YtnnjcedlomfhoaaGreatDoorOA
import Derived.Test.YtnnjcedlomfhoaaGreatDoorOGlobE
import Derived.Test.YtnnjcedlomfhoaaGreatDoorOReadLaw
import Derived.Test.YtnnjcedlomfhoaaGreatDoorORGlobC
import Derived.Test.YtnnjcedlomfhoaaGreatDoorORErr
import Derived.Deep.RegionHeld3
import Derived.Lib.FieldsU
namespace Go.Proofs.YtnnjcedlomfhoaaGreatDoor
set_option linter.unusedVariables false
end Go.Proofs.YtnnjcedlomfhoaaGreatDoor
namespace Go.Proofs.YtnnjcedlomfhoaaGreatDoor
open Go.RowKit
set_option linter.unusedVariables false
theorem addr_block (ad : Addr) (k : Nat) : (ad.add k).block = ad.block := by unfold Addr.add; split <;> rfl
theorem OR.at_ {w : World} {q : Nat} {v : Value} {l : List Int} (h : OR w q v l) : ∃ A c, v = .slice A l.length c ∧ l.length ≤ maxLen ∧ ∀ k (hk : k < l.length), ∃ ad, A = some ad ∧ ad.block < w.heap.size ∧ w.cell? (ad.add k) = some (.int .i32 l[k]) := by
  obtain ⟨A, c, hv, hR, h1, h2⟩ := h.form
  refine ⟨A, c, hv, by omega, fun k hk => ?_⟩
  obtain ⟨ad, u, e, hb, hx, hc⟩ := Reads.at_ hR hk
  unfold rv at hx
  rw [List.getElem?_map, List.getElem?_eq_getElem hk] at hx
  injection hx with hx
  subst hx
  exact ⟨ad, e, hb, hc⟩
theorem GlobAt.below {w w' : World} {g : Nat} {ps : List Prt} (h : GlobAt w g ps) (hb : Below w.heap.size w w') : GlobAt w' g ps := by
  obtain ⟨v, vs, h1, h2, h3⟩ := h
  exact ⟨v, vs, h1.below hb h1.lt, ownsRow_keep h2 (fun k _ hk => hb.block k hk), h3.keep fun q u l _ ho => ho.below hb (Nat.le_refl _)⟩
/-- A pattern in memory: its row's address, its parts. -/
theorem GlobAt.form {w : World} {g : Nat} {ps : List Prt} (h : GlobAt w g ps) : ∃ A c, w.cell? ⟨g, 0, none⟩ = some (.slice A ps.length c) ∧ g < w.heap.size ∧
    ∀ k (hk : k < ps.length), ∃ ad u, A = some ad ∧ ad.block < w.heap.size ∧ w.cell? (ad.add k) = some u ∧ PrtV w g u ps[k] := by
  obtain ⟨v, vs, h1, h2, h3⟩ := h
  have hl := h3.1
  have key : ∃ A c, v = .slice A vs.length c := by
    rcases h2.2 with ⟨e, h0⟩ | ⟨g', cap, cur, e, _⟩
    · exact ⟨none, 0, by rw [e]; simp at h0; rw [h0]; rfl⟩
    · exact ⟨_, _, e⟩
  obtain ⟨A, c, rfl⟩ := key
  have hR := Reads.of_own h2
  refine ⟨A, c, by rw [← hl]; exact h1.cell 0, h1.lt, fun k hk => ?_⟩
  obtain ⟨ad, u, e, hb, hx, hc⟩ := Reads.at_ hR (show k < vs.length by omega)
  exact ⟨ad, u, e, hb, hc, h3.2 k u _ hx (List.getElem?_eq_getElem hk)⟩
theorem globR_len : ∀ (f : Nat) (l : List Int) {ps : List Prt}, globR f l = some ps → ps.length ≤ l.length
  | 0, _, _, h => by cases h
  | f + 1, l, ps, h => by
    rw [globR] at h
    split at h
    · cases h; simp
    · cases hp : partR l with
      | none => rw [hp] at h; cases h
      | some y =>
        obtain ⟨p, r⟩ := y
        rw [hp] at h
        obtain ⟨x, hx, e⟩ := Option.map_eq_some_iff.1 h
        subst e
        have h1 := partR_len hp
        have h2 := globR_len f r hx
        simp; omega
theorem globP_len {s : List UInt8} {ps : List Prt} (h : globP s = some ps) : ps.length ≤ 100 := by
  unfold globP at h
  split at h
  · cases h
  · rename_i h0
    have h1 := globR_len _ _ h
    have h2 := runesG_len (str s)
    rw [str_size] at h2
    have : ¬ 100 < s.length := fun c => h0 (.inl c)
    omega
end Go.Proofs.YtnnjcedlomfhoaaGreatDoor
namespace Go.Proofs.YtnnjcedlomfhoaaGreatDoor
open Go.RowKit
set_option linter.unusedVariables false
/-- A pattern's row in memory. -/
def GlobR (w : World) (base : Nat) (v : Value) (ps : List Prt) : Prop := ∃ vs : List (List Value), w.ownsRow base 126 5 v ps.length vs.flatten ∧ RowR w base vs ps
theorem GlobR.below {w w' : World} {b : Nat} {v : Value} {ps : List Prt} (h : GlobR w b v ps) (hb : Below w.heap.size w w') : GlobR w' b v ps := by
  obtain ⟨vs, h1, h2⟩ := h
  refine ⟨vs, op_keep h1 fun k hk => hb.block k (op_blk h1 hk).2.1, h2.keep fun u n l ho => ownI_keep ho fun k _ hk => hb.block k hk⟩
theorem flatten5 : ∀ (vs : List (List Value)) (k j : Nat), (∀ cs ∈ vs, cs.length = 5) → j < 5 → vs.flatten[k * 5 + j]? = (vs[k]?).bind (·[j]?)
  | [], k, j, _, _ => by simp
  | c :: vs, 0, j, h, hj => by
    have hc := h c (.head _)
    rw [List.flatten_cons, List.getElem?_append_left (by omega)]
    simp
  | c :: vs, k + 1, j, h, hj => by
    have hc := h c (.head _)
    rw [List.flatten_cons, List.getElem?_append_right (by omega), hc, show (k + 1) * 5 + j - 5 = k * 5 + j from by omega, flatten5 vs k j (fun c' h' => h c' (.tail _ h')) hj]
    simp
/-- A part's five cells, at an address. -/
def CellsAt (w : World) (p : Addr) (c0 c1 c2 c3 c4 : Value) : Prop :=
  w.cell? p = some c0 ∧ w.cell? ⟨p.block, p.off + 1, none⟩ = some c1 ∧ w.cell? ⟨p.block, p.off + 2, none⟩ = some c2 ∧ w.cell? ⟨p.block, p.off + 3, none⟩ = some c3 ∧ w.cell? ⟨p.block, p.off + 4, none⟩ = some c4
theorem len5 {l : List Value} (h : l.length = 5) : ∃ a b c d e, l = [a, b, c, d, e] := by
  match l, h with
  | [a, b, c, d, e], _ => exact ⟨a, b, c, d, e, rfl⟩
theorem GlobR.form {w : World} {b : Nat} {v : Value} {ps : List Prt} (h : GlobR w b v ps) : ∃ A c, v = .slice A ps.length c ∧
    ∀ k (hk : k < ps.length), ∃ ad c0 c1 c2 c3 c4, A = some ad ∧ ad.block < w.heap.size ∧ CellsAt w (ad.add (k * 5)) c0 c1 c2 c3 c4 ∧ PrtR w b [c0, c1, c2, c3, c4] ps[k] := by
  obtain ⟨vs, h1, h2⟩ := h
  have hl := h2.1
  have key : ∃ A c, v = .slice A ps.length c := by
    rcases h1.2 with ⟨e, h0⟩ | ⟨g', cap, cur, e, _⟩
    · refine ⟨none, 0, ?_⟩
      rw [e]
      have : ps.length = 0 := by
        rcases Nat.eq_zero_or_pos ps.length with h | h
        · exact h
        · omega
      rw [this]
    · exact ⟨_, _, e⟩
  obtain ⟨A, c, rfl⟩ := key
  have hR := Reads.of_own h1
  refine ⟨A, c, rfl, fun k hk => ?_⟩
  obtain ⟨ad, e, hb, hc⟩ := hR.2 (by omega)
  have h5 : ∀ cs ∈ vs, cs.length = 5 := by
    intro cs hcs
    obtain ⟨j, hj, rfl⟩ := List.getElem_of_mem hcs
    exact (h2.2 j vs[j] (ps[j]'(by omega)) (List.getElem?_eq_getElem hj) (List.getElem?_eq_getElem (by omega))).1
  have hkv : k < vs.length := by omega
  have hp := (h2.2 k vs[k] ps[k] (List.getElem?_eq_getElem hkv) (List.getElem?_eq_getElem hk)).2
  obtain ⟨c0, c1, c2, c3, c4, hcs⟩ := len5 (h5 _ (List.getElem_mem hkv))
  have hx : ∀ j u, j < 5 → [c0, c1, c2, c3, c4][j]? = some u → w.cell? (ad.add (k * 5 + j)) = some u := by
    intro j u hj hu
    refine hc _ u ?_
    rw [flatten5 vs k j h5 hj, List.getElem?_eq_getElem hkv, hcs]
    exact hu
  have k0 := hx 0 _ (by omega) rfl
  have k1 := hx 1 _ (by omega) rfl
  have k2 := hx 2 _ (by omega) rfl
  have k3 := hx 3 _ (by omega) rfl
  have k4 := hx 4 _ (by omega) rfl
  rw [← add_of_add, add_pos _ _ (by decide)] at k1 k2 k3 k4
  rw [hcs] at hp
  exact ⟨ad, c0, c1, c2, c3, c4, e, hb, ⟨k0, k1, k2, k3, k4⟩, hp⟩
theorem OI.at_ {w : World} {b n : Nat} {v : Value} {l : List Int} (h : OI w b v n l) {A : Option Addr} {m c : Nat} (hv : v = .slice A m c) : ∀ k (hk : k < l.length), k < n → ∃ ad, A = some ad ∧ ad.block < w.heap.size ∧ w.cell? (ad.add k) = some (.int .i64 l[k]) := by
  intro k hk hkn
  have hR : ∃ A' m' c', v = .slice A' m' c' ∧ Reads w w.heap.size 1 A' n (iv l) := by
    rcases h.2 with ⟨e, h0⟩ | ⟨g', cap, cur, e, _⟩
    · subst e; exact ⟨_, _, _, rfl, Reads.of_own (by rw [h0] at h ⊢; exact h)⟩
    · subst e; exact ⟨_, _, _, rfl, Reads.of_own h⟩
  obtain ⟨A', m', c', e, hR⟩ := hR
  rw [hv] at e
  injection e with e1 e2 e3
  subst e1
  exact RI.elem hR hkn hk
def FitRet (w : World) (b : Bool) (e : Ending) (w' : World) : Prop := e = .returned (.bool b) ∧ Below w.heap.size w w'
end Go.Proofs.YtnnjcedlomfhoaaGreatDoor
namespace Go.Proofs.YtnnjcedlomfhoaaGreatDoor
set_option linter.unusedVariables false
structure FileV where
  name : List UInt8
  method : Int
  dos : Int
  crc : Int
  x4 : Int
  size : Int
  x6 : Int
section
variable (f : FileV) (found : List (List UInt8))
end
/-- A tree without nots: joints are or and and, terms no joints. -/
def flatQ : Q → Prop
  | .term a => jointB a = false
  | .neg _ => False
  | .two k x y => (k = 1 ∨ k = 2) ∧ flatQ x ∧ flatQ y
end Go.Proofs.YtnnjcedlomfhoaaGreatDoor
namespace Go.Proofs.YtnnjcedlomfhoaaGreatDoor
open Go.RowKit
set_option linter.unusedVariables false
abbrev BoolRet := FitRet
theorem BoolRet.mk {w w' : World} {b b' : Bool} (h : b' = b) (hb : Below w.heap.size w w') : BoolRet w b (.returned (.bool b')) w' := ⟨by rw [h], hb⟩
theorem ask_box (w : World) (x : Ask) : Blk (w.alloc (.cells #[.int .i64 x.kind, .int .i64 x.op, .int .i64 x.a, .int .i64 x.b, .int .i64 x.n, .string (str x.text), .bool x.isText] 54)) w.heap.size 54 #[.int .i64 x.kind, .int .i64 x.op, .int .i64 x.a, .int .i64 x.b, .int .i64 x.n, .string (str x.text), .bool x.isText] := Blk.new w 54 _
end Go.Proofs.YtnnjcedlomfhoaaGreatDoor
namespace Go.Proofs.YtnnjcedlomfhoaaGreatDoor
open Go.RowKit
set_option linter.unusedVariables false
end Go.Proofs.YtnnjcedlomfhoaaGreatDoor
namespace Go.Proofs.YtnnjcedlomfhoaaGreatDoor
open Go.RowKit
set_option linter.unusedVariables false
end Go.Proofs.YtnnjcedlomfhoaaGreatDoor
namespace Go.Proofs.YtnnjcedlomfhoaaGreatDoor
open Go.RowKit
set_option linter.unusedVariables false
end Go.Proofs.YtnnjcedlomfhoaaGreatDoor
namespace Go.Proofs.YtnnjcedlomfhoaaGreatDoor
open Go.RowKit
set_option linter.unusedVariables false
/-- The places of joints lie below. -/
def jpL : List Ask → Int → Prop
  | [], _ => True
  | x :: l, i => (jointB x = true → 0 ≤ x.a ∧ x.a < i ∧ 0 ≤ x.b ∧ x.b < i) ∧ jpL l (i + 1)
theorem jpL_append (l r : List Ask) : ∀ i, jpL l i → jpL r (i + l.length) → jpL (l ++ r) i := by
  induction l with
  | nil => intro i _ h; simpa using h
  | cons x l ih =>
    intro i h1 h2
    refine ⟨h1.1, ih _ h1.2 ?_⟩
    rw [List.length_cons] at h2
    rw [show i + 1 + (l.length : Int) = i + ((l.length + 1 : Nat) : Int) from by push_cast; omega]
    exact h2
theorem jpL_at : ∀ (l : List Ask) (i : Int), jpL l i → ∀ (k : Nat) (h : k < l.length), jointB l[k] = true → 0 ≤ l[k].a ∧ l[k].a < i + k ∧ 0 ≤ l[k].b ∧ l[k].b < i + k
  | [], _, _, k, h => absurd h (by simp)
  | x :: l, i, hs, 0, h => by simpa using hs.1
  | x :: l, i, hs, k + 1, h => by
    have := jpL_at l (i + 1) hs.2 k (by simpa using h)
    simp only [List.getElem_cons_succ]
    rw [show i + ((k + 1 : Nat) : Int) = i + 1 + (k : Int) from by push_cast; omega]
    exact this
theorem parts_jp : ∀ (q : Q) (p : Nat), flatQ q → jpL (q.parts p) p
  | .term a, p, h => by
    have h2 : jointB a = false := h
    show jpL [a] p
    exact ⟨fun hj => absurd hj (by rw [h2]; decide), trivial⟩
  | .neg q, p, h => h.elim
  | .two k x y, p, h => by
    have hx := x.size_pos
    have hy := y.size_pos
    have h1 := parts_jp x p h.2.1
    have h2 := parts_jp y (p + x.size) h.2.2
    rw [Q.parts]
    refine jpL_append _ _ _ h1 (jpL_append _ _ _ ?_ ⟨fun _ => ?_, trivial⟩)
    · rw [Q.parts_len]; simpa using h2
    · rw [Q.parts_len, Q.parts_len]
      dsimp only
      omega
end Go.Proofs.YtnnjcedlomfhoaaGreatDoor
