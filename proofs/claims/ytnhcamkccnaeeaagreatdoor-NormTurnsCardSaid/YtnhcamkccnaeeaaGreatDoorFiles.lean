/-
  What is told of arguments that came in: an entry by value, texts; read as such.
-/
import Derived.Test.YtnhcamkccnaeeaaGreatDoorAsks
import Derived.Test.YtnhcamkccnaeeaaGreatDoorHoldP
import Derived.Deep.Strs
namespace Go.Proofs.YtnhcamkccnaeeaaGreatDoor
open Go.ChangeShapes Go.WideShapes Go.ChangeAt Go.RowKit Go.Deep
set_option linter.unusedVariables false

theorem cons_of {α : Type} {n : Nat} {l : List α} (h : l.length = n + 1) : ∃ a t, l = a :: t ∧ t.length = n := by
  cases l with
  | nil => simp at h
  | cons a t => exact ⟨a, t, rfl, by simpa using h⟩
theorem list7 {α : Type} (l : List α) (h : l.length = 7) : ∃ a b c d e f g, l = [a, b, c, d, e, f, g] := by
  obtain ⟨a, l1, rfl, h1⟩ := cons_of h
  obtain ⟨b, l2, rfl, h2⟩ := cons_of h1
  obtain ⟨c, l3, rfl, h3⟩ := cons_of h2
  obtain ⟨d, l4, rfl, h4⟩ := cons_of h3
  obtain ⟨e, l5, rfl, h5⟩ := cons_of h4
  obtain ⟨f, l6, rfl, h6⟩ := cons_of h5
  obtain ⟨g, l7, rfl, h7⟩ := cons_of h6
  obtain rfl : l7 = [] := List.eq_nil_of_length_eq_zero h7
  exact ⟨a, b, c, d, e, f, g, rfl⟩
set_option maxRecDepth 100000 in
theorem file_fields {H : Type} {enc : TypeId × Value → H} {w : World} {base b0 : Nat} {r : Reach} {spare : Nat → Bool} {held : Bool} {v : Value} {d : DataW H} {p : List MemPlace}
    (hv : Value.okWide Tryz.prog w r b0 38 v) (h : DataW.Trod enc Tryz.prog w base spare held 38 v d p) : ∃ f : FileV, v = fileV f ∧ 0 ≤ f.crc ∧ f.crc ≤ 4294967295 := by
  obtain ⟨⟨l⟩, rfl, hsz⟩ := okWide_struct Tryz.underlying38 hv
  have h7 : Tryz.prog.cellsOf 38 = 7 := by kernel_rfl
  have hl7 : l.length = 7 := by rw [← h7, ← hsz]; rfl
  obtain ⟨c0, c1, c2, c3, c4, c5, c6, rfl⟩ := list7 l hl7
  obtain ⟨fuel, hf⟩ := h
  obtain ⟨xs, n, -, -, -, hxl, hg⟩ := DataW.trod_struct Tryz.underlying38 hf
  obtain ⟨y0, y1, y2, y3, y4, y5, y6, rfl⟩ := list7 xs hxl
  have hc : (Value.agg ⟨[c0, c1, c2, c3, c4, c5, c6]⟩).cells.toList = [c0, c1, c2, c3, c4, c5, c6] := by simp [Value.cells]
  rw [hc] at hg
  have t0 : DataW.trod enc Tryz.prog w base spare held n 9 [c0] = some y0 := hg 0 _ rfl
  have t1 : DataW.trod enc Tryz.prog w base spare held n 3 [c1] = some y1 := hg 1 _ rfl
  have t2 : DataW.trod enc Tryz.prog w base spare held n 3 [c2] = some y2 := hg 2 _ rfl
  have t3 : DataW.trod enc Tryz.prog w base spare held n _ [c3] = some y3 := hg 3 _ rfl
  have t4 : DataW.trod enc Tryz.prog w base spare held n 3 [c4] = some y4 := hg 4 _ rfl
  have t5 : DataW.trod enc Tryz.prog w base spare held n 3 [c5] = some y5 := hg 5 _ rfl
  have t6 : DataW.trod enc Tryz.prog w base spare held n 3 [c6] = some y6 := hg 6 _ rfl
  obtain ⟨s0, e0, -⟩ := DataW.trod_string Tryz.underlying9 t0
  obtain ⟨z1, e1, -⟩ := DataW.trod_int Tryz.underlying3 t1
  obtain ⟨z2, e2, -⟩ := DataW.trod_int Tryz.underlying3 t2
  obtain ⟨z3, e3, -, w3⟩ := DataW.trod_int (k := .u32) (by kernel_rfl) t3
  obtain ⟨z4, e4, -⟩ := DataW.trod_int Tryz.underlying3 t4
  obtain ⟨z5, e5, -⟩ := DataW.trod_int Tryz.underlying3 t5
  obtain ⟨z6, e6, -⟩ := DataW.trod_int Tryz.underlying3 t6
  injection e0 with e0 _
  injection e1 with e1 _
  injection e2 with e2 _
  injection e3 with e3 _
  injection e4 with e4 _
  injection e5 with e5 _
  injection e6 with e6 _
  subst e0 e1 e2 e3 e4 e5 e6
  refine ⟨⟨s0.data.toList, z1, z2, z3, z4, z5, z6⟩, rfl, ?_, ?_⟩
  · simp [Lit.wf, IntKind.min, IntKind.max, IntKind.signed, IntKind.bits] at w3
    show 0 ≤ z3; omega
  · simp [Lit.wf, IntKind.min, IntKind.max, IntKind.signed, IntKind.bits] at w3
    show z3 ≤ 4294967295; omega
theorem str_fields {H : Type} {enc : TypeId × Value → H} {w : World} {base : Nat} {spare : Nat → Bool} {held : Bool} {fuel : Nat} {A : Option Addr} {len cap : Nat} {x : DataW H × List MemPlace}
    (h : DataW.trod enc Tryz.prog w base spare held fuel 39 [.slice A len cap] = some x) : ∃ l : List (List UInt8), RSL w w.heap.size A len l := by
  rcases open_strs Tryz.underlying39 Tryz.underlying9 (by kernel_rfl) h with ⟨h0, -⟩ | ⟨a, l, c, m, Sx, hcs, -, hl, -, hmm, -, hi⟩
  · injection h0 with h0 _
    injection h0 with h1 h2 h3
    subst h1 h2 h3
    exact ⟨[], by simp [sv], fun h => absurd h (by decide)⟩
  · injection hcs with h0 _
    injection h0 with h1 h2 h3
    subst h1 h2 h3
    have him : ∀ i, i < len → i < m := fun i hil => by rw [hmm]; split <;> omega
    obtain ⟨l, hll, hr⟩ := list_of (fun i (t : List UInt8) => w.cell? (a.add i) = some (.string (str t))) len (fun i hil => ⟨(Sx i).data.toList, (hi i (him i hil)).1⟩)
    refine ⟨l, by simp [sv, hll], fun h0 => ⟨a, rfl, ?_, fun j u hu => ?_⟩⟩
    · have h1 := hr 0 (by omega)
      have := cell_block_lt h1
      rwa [block_of_add] at this
    · unfold sv at hu
      rw [List.getElem?_map] at hu
      obtain ⟨t, ht, rfl⟩ := Option.map_eq_some_iff.1 hu
      obtain ⟨hj, rfl⟩ := List.getElem?_eq_some_iff.1 ht
      exact hr j hj
end Go.Proofs.YtnhcamkccnaeeaaGreatDoor
