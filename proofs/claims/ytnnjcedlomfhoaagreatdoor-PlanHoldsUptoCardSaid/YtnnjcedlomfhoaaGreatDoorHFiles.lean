/-
  What is told of arguments that came in: an entry by value, texts; read as such.
-/
import Derived.Test.YtnnjcedlomfhoaaGreatDoorHAsks
import Derived.Test.YtnnjcedlomfhoaaGreatDoorHHoldP
import Derived.Deep.Strs
namespace Go.Proofs.YtnnjcedlomfhoaaGreatDoor
open Go.ChangeShapes Go.WideShapes Go.ChangeAt Go.RowKit Go.Deep
set_option linter.unusedVariables false
theorem cons_of {α : Type} {n : Nat} {l : List α} (h : l.length = n + 1) : ∃ a t, l = a :: t ∧ t.length = n := by
  cases l with
  | nil => simp at h
  | cons a t => exact ⟨a, t, rfl, by simpa using h⟩
theorem list7 {α : Type} (l : List α) (h : l.length = 7) : ∃ a b c d e f g, l = [a, b, c, d, e, f, g] := by
  obtain ⟨a, l1, rfl, h1⟩ := cons_of h
  obtain ⟨b, l2, rfl, h2⟩ := cons_of h1
  obtain ⟨c, l3, rfl, h3⟩ := cons_of h2
  obtain ⟨d, l4, rfl, h4⟩ := cons_of h3
  obtain ⟨e, l5, rfl, h5⟩ := cons_of h4
  obtain ⟨f, l6, rfl, h6⟩ := cons_of h5
  obtain ⟨g, l7, rfl, h7⟩ := cons_of h6
  obtain rfl : l7 = [] := List.eq_nil_of_length_eq_zero h7
  exact ⟨a, b, c, d, e, f, g, rfl⟩
theorem str_fields {H : Type} {enc : TypeId × Value → H} {w : World} {base : Nat} {spare : Nat → Bool} {held : Bool} {fuel : Nat} {A : Option Addr} {len cap : Nat} {x : DataW H × List MemPlace}
    (h : DataW.trod enc Tryz.prog w base spare held fuel 37 [.slice A len cap] = some x) : ∃ l : List (List UInt8), RSL w w.heap.size A len l := by
  rcases open_strs Tryz.underlying37 Tryz.underlying9 (by kernel_rfl) h with ⟨h0, -⟩ | ⟨a, l, c, m, Sx, hcs, -, hl, -, hmm, -, hi⟩
  · injection h0 with h0 _
    injection h0 with h1 h2 h3
    subst h1 h2 h3
    exact ⟨[], by simp [sv], fun h => absurd h (by decide)⟩
  · injection hcs with h0 _
    injection h0 with h1 h2 h3
    subst h1 h2 h3
    have him : ∀ i, i < len → i < m := fun i hil => by rw [hmm]; split <;> omega
    obtain ⟨l, hll, hr⟩ := list_of (fun i (t : List UInt8) => w.cell? (a.add i) = some (.string (str t))) len (fun i hil => ⟨(Sx i).data.toList, (hi i (him i hil)).1⟩)
    refine ⟨l, by simp [sv, hll], fun h0 => ⟨a, rfl, ?_, fun j u hu => ?_⟩⟩
    · have h1 := hr 0 (by omega)
      have := cell_block_lt h1
      rwa [block_of_add] at this
    · unfold sv at hu
      rw [List.getElem?_map] at hu
      obtain ⟨t, ht, rfl⟩ := Option.map_eq_some_iff.1 hu
      obtain ⟨hj, rfl⟩ := List.getElem?_eq_some_iff.1 ht
      exact hr j hj
end Go.Proofs.YtnnjcedlomfhoaaGreatDoor
