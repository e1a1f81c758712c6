/-
  What is told of a slice of parts that came in: it is read as a list of parts.
-/
import Derived.Test.YtnhcamkccnaeeaaGreatDoorRow
import Derived.Test.YtnhcamkccnaeeaaGreatDoorParH
import Derived.Deep.Slices
import Derived.Deep.Fields
import Derived.ChangeArms
import Derived.DataReads
namespace Go.Proofs.YtnhcamkccnaeeaaGreatDoor
open Go.ChangeShapes Go.WideShapes Go.ChangeAt Go.RowKit Go.Deep
set_option linter.unusedVariables false

theorem take_one {α : Type} {l : List α} {j : Nat} (h : j < l.length) : (l.drop j).take 1 = [l[j]] := by
  rw [List.drop_eq_getElem_cons h]; rfl
/-- A row of structs of one-cell fields: each field of each element is read by itself. -/
theorem row_fields {H : Type} {enc : TypeId × Value → H} {P : Program} {w : World} {base : Nat} {spare : Nat → Bool} {held : Bool} {t e : TypeId} {fs : Array Field} {fuel : Nat} {A : Option Addr} {len cap : Nat} {x : DataW H × List MemPlace}
    (ht : P.underlying t = some (.slice e)) (he : P.underlying e = some (.struct fs)) (hone : oneCellFields P fs = true) (hC : P.cellsOf e = fs.size) (h : DataW.trod enc P w base spare held fuel t [.slice A len cap] = some x) :
    (A = none ∧ len = 0 ∧ cap = 0) ∨ ∃ a, A = some a ∧ len ≤ cap ∧ cap ≤ maxLen ∧ ∀ i, i < len → ∃ cs : List Value, cs.length = fs.size ∧ (∀ j, j < fs.size → w.cell? (a.add (i * fs.size + j)) = cs[j]?) ∧
      ∀ (j : Nat) (f : Field) (hj : j < cs.length), fs[j]? = some f → ∃ n y, DataW.trod enc P w base spare held n f.type [cs[j]] = some y := by
  rcases open_slice ht h with ⟨h0, -⟩ | ⟨a, l, c, m, n, D, Pl, hcs, -, hl, hm, hmm, -, hi⟩
  · left
    injection h0 with h0 _
    injection h0 with h1 h2 h3
    exact ⟨h1, h2, h3⟩
  · right
    injection hcs with h0 _
    injection h0 with h1 h2 h3
    subst h1 h2 h3
    refine ⟨a, rfl, hl, hm, fun i hil => ?_⟩
    have him : i < m := by rw [hmm]; split <;> omega
    obtain ⟨cs, hc, htr⟩ := hi i him
    rw [hC] at hc
    obtain ⟨-, hlc, hat⟩ := World.cells?_some hc
    obtain ⟨xs, n', -, -, -, hxl, hf⟩ := DataW.trod_struct he htr
    refine ⟨cs, hlc, fun j hj => ?_, fun j f hj hfj => ?_⟩
    · rw [← add_of_add]; exact hat j hj
    · obtain ⟨ho, hk⟩ := hone_of hone j f hfj
      have h1 := hf j f hfj
      rw [ho, hk, take_one hj] at h1
      have hx : xs[j]? = some (xs[j]'(by omega)) := List.getElem?_eq_getElem (by omega)
      exact ⟨n', _, h1.trans hx⟩
/-- A list of what is there at each place. -/
theorem list_of {α : Type} (R : Nat → α → Prop) : ∀ n : Nat, (∀ i, i < n → ∃ x, R i x) → ∃ l : List α, l.length = n ∧ ∀ i (h : i < l.length), R i l[i]
  | 0, _ => ⟨[], rfl, fun i h => absurd h (by simp)⟩
  | n + 1, h => by
    obtain ⟨l, hl, hr⟩ := list_of R n (fun i hi => h i (by omega))
    obtain ⟨x, hx⟩ := h n (by omega)
    refine ⟨l ++ [x], by simp [hl], fun i hi => ?_⟩
    by_cases h1 : i < l.length
    · rw [List.getElem_append_left h1]; exact hr i h1
    · have e : i = n := by simp at hi; omega
      subst e
      rw [List.getElem_append_right (by omega)]
      simpa [hl] using hx
theorem ask_fields {H : Type} {enc : TypeId × Value → H} {w : World} {base : Nat} {spare : Nat → Bool} {held : Bool} {fuel : Nat} {A : Option Addr} {len cap : Nat} {x : DataW H × List MemPlace}
    (h : DataW.trod enc Tryz.prog w base spare held fuel 23 [.slice A len cap] = some x) : ∃ l : List Ask, RA w w.heap.size A len l ∧ len ≤ cap ∧ cap ≤ maxLen := by
  rcases row_fields Tryz.underlying23 Tryz.underlying54 (by kernel_rfl) (by kernel_rfl) h with ⟨rfl, rfl, rfl⟩ | ⟨a, rfl, hl, hm, hi⟩
  · exact ⟨[], ⟨by simp [avs], fun h => absurd h (by decide)⟩, Nat.le_refl _, Nat.zero_le _⟩
  · obtain ⟨l, hll, hr⟩ := list_of (fun i (y : Ask) => ∀ j u, j < 7 → (av y)[j]? = some u → w.cell? (a.add (i * 7 + j)) = some u) len (fun i hil => by
      obtain ⟨cs, hc, hat, hf⟩ := hi i hil
      have hc7 : cs.length = 7 := hc
      obtain ⟨n0, y0, t0⟩ := hf 0 _ (by omega) rfl
      obtain ⟨n1, y1, t1⟩ := hf 1 _ (by omega) rfl
      obtain ⟨n2, y2, t2⟩ := hf 2 _ (by omega) rfl
      obtain ⟨n3, y3, t3⟩ := hf 3 _ (by omega) rfl
      obtain ⟨n4, y4, t4⟩ := hf 4 _ (by omega) rfl
      obtain ⟨n5, y5, t5⟩ := hf 5 _ (by omega) rfl
      obtain ⟨n6, y6, t6⟩ := hf 6 _ (by omega) rfl
      obtain ⟨z0, e0, -⟩ := DataW.trod_int Tryz.underlying3 t0
      obtain ⟨z1, e1, -⟩ := DataW.trod_int Tryz.underlying3 t1
      obtain ⟨z2, e2, -⟩ := DataW.trod_int Tryz.underlying3 t2
      obtain ⟨z3, e3, -⟩ := DataW.trod_int Tryz.underlying3 t3
      obtain ⟨z4, e4, -⟩ := DataW.trod_int Tryz.underlying3 t4
      obtain ⟨s5, e5, -⟩ := DataW.trod_string Tryz.underlying9 t5
      obtain ⟨b6, e6, -⟩ := DataW.trod_bool Tryz.underlying4 t6
      injection e0 with e0 _
      injection e1 with e1 _
      injection e2 with e2 _
      injection e3 with e3 _
      injection e4 with e4 _
      injection e5 with e5 _
      injection e6 with e6 _
      refine ⟨⟨z0, z1, z2, z3, z4, s5.data.toList, b6⟩, fun j u hj hu => ?_⟩
      have hat7 : ∀ j, j < 7 → w.cell? (a.add (i * 7 + j)) = cs[j]? := hat
      rw [hat7 j hj, List.getElem?_eq_getElem (by omega), ← hu]
      match j, hj with
      | 0, _ => rw [e0]; rfl
      | 1, _ => rw [e1]; rfl
      | 2, _ => rw [e2]; rfl
      | 3, _ => rw [e3]; rfl
      | 4, _ => rw [e4]; rfl
      | 5, _ => rw [e5]; rfl
      | 6, _ => rw [e6]; rfl)
    refine ⟨l, ⟨by rw [avs_length, hll], fun h0 => ⟨a, rfl, ?_, fun j u hu => ?_⟩⟩, hl, hm⟩
    · have h1 := hr 0 (by omega) 0 _ (by omega) rfl
      have := cell_block_lt h1
      rwa [block_of_add] at this
    · have hjl : j < (avs l).length := (List.getElem?_eq_some_iff.1 hu).1
      rw [avs_length] at hjl
      have hk : j / 7 < l.length := by omega
      have e : j = j / 7 * 7 + j % 7 := by omega
      rw [e] at hu ⊢
      rw [avs_get l (j / 7) (j % 7) hk (by omega)] at hu
      exact hr (j / 7) hk (j % 7) u (by omega) hu
end Go.Proofs.YtnhcamkccnaeeaaGreatDoor
