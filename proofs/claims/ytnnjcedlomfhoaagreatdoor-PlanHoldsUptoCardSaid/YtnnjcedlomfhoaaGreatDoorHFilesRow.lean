/-
  A slice of entries that came in: each is read as an entry; its name is no longer than the whole reading's bulk.
-/
import Derived.Test.YtnnjcedlomfhoaaGreatDoorRows
import Derived.Test.YtnnjcedlomfhoaaGreatDoorHFiles
import Derived.Test.YtnnjcedlomfhoaaGreatDoorHLawPlanHolds
namespace Go.Proofs.YtnnjcedlomfhoaaGreatDoor
open Go.ChangeShapes Go.WideShapes Go.ChangeAt Go.RowKit Go.Deep
set_option linter.unusedVariables false
theorem bulk_part {H : Type} {d : DataW H} {l : List (DataW H)} (h : d ∈ l) : Rows.uptoBulk d ≤ Rows.uptoBulkAll l := by
  induction l with
  | nil => cases h
  | cons x r ih =>
    simp only [Rows.uptoBulkAll]
    cases List.mem_cons.1 h with
    | inl e => subst e; omega
    | inr e => have := ih e; omega
theorem bulk_slice {H : Type} {d : DataW H} {l r : List (DataW H)} (h : d ∈ l) : Rows.uptoBulk d ≤ Rows.uptoBulk (.slice l r) := by
  have := bulk_part h
  simp only [Rows.uptoBulk]
  omega
theorem bulk_first {H : Type} (s : List UInt8) (l : List (DataW H)) : s.length ≤ Rows.uptoBulk (.agg (.lit (.string s) :: l)) := by
  simp only [Rows.uptoBulk, Rows.uptoBulkAll]
  omega
set_option maxRecDepth 100000 in
theorem files_row {H : Type} {enc : TypeId × Value → H} {w : World} {base : Nat} {spare : Nat → Bool} {held : Bool} {fuel : Nat} {A : Option Addr} {len cap : Nat} {x : DataW H × List MemPlace}
    (h : DataW.trod enc Tryz.prog w base spare held fuel 36 [.slice A len cap] = some x) (hb : Rows.uptoBulk x.1 ≤ 1048576) : FilesAt w A len := by
  rcases open_slice Tryz.underlying36 h with ⟨h0, -⟩ | ⟨a, l, c, m, n, D, Pl, hcs, -, hl, -, hmm, rfl, hi⟩
  · injection h0 with h0 _
    injection h0 with h1 h2 h3
    subst h1 h2 h3
    exact fun i hi => absurd hi (by omega)
  · injection hcs with h0 _
    injection h0 with h1 h2 h3
    subst h1 h2 h3
    intro i hil
    have him : i < m := by rw [hmm]; split <;> omega
    obtain ⟨cs, hc, htr⟩ := hi i him
    have h7 : Tryz.prog.cellsOf 40 = 7 := by kernel_rfl
    rw [h7] at hc
    obtain ⟨-, hlc, hat⟩ := World.cells?_some hc
    obtain ⟨c0, c1, c2, c3, c4, c5, c6, rfl⟩ := list7 cs hlc
    obtain ⟨xs, n', -, hx, -, hxl, hg⟩ := DataW.trod_struct Tryz.underlying40 htr
    obtain ⟨y0, y1, y2, y3, y4, y5, y6, rfl⟩ := list7 xs hxl
    have t0 : DataW.trod enc Tryz.prog w base spare held n' 9 [c0] = some y0 := hg 0 _ rfl
    have t1 : DataW.trod enc Tryz.prog w base spare held n' 3 [c1] = some y1 := hg 1 _ rfl
    have t2 : DataW.trod enc Tryz.prog w base spare held n' 3 [c2] = some y2 := hg 2 _ rfl
    have t3 : DataW.trod enc Tryz.prog w base spare held n' _ [c3] = some y3 := hg 3 _ rfl
    have t4 : DataW.trod enc Tryz.prog w base spare held n' 3 [c4] = some y4 := hg 4 _ rfl
    have t5 : DataW.trod enc Tryz.prog w base spare held n' 3 [c5] = some y5 := hg 5 _ rfl
    have t6 : DataW.trod enc Tryz.prog w base spare held n' 3 [c6] = some y6 := hg 6 _ rfl
    obtain ⟨s0, e0, ey, -⟩ := DataW.trod_string Tryz.underlying9 t0
    obtain ⟨z1, e1, -⟩ := DataW.trod_int Tryz.underlying3 t1
    obtain ⟨z2, e2, -⟩ := DataW.trod_int Tryz.underlying3 t2
    obtain ⟨z3, e3, -, w3⟩ := DataW.trod_int (k := .u32) (by kernel_rfl) t3
    obtain ⟨z4, e4, -⟩ := DataW.trod_int Tryz.underlying3 t4
    obtain ⟨z5, e5, -⟩ := DataW.trod_int Tryz.underlying3 t5
    obtain ⟨z6, e6, -⟩ := DataW.trod_int Tryz.underlying3 t6
    injection e0 with e0 _
    injection e1 with e1 _
    injection e2 with e2 _
    injection e3 with e3 _
    injection e4 with e4 _
    injection e5 with e5 _
    injection e6 with e6 _
    subst e0 e1 e2 e3 e4 e5 e6
    have hD : D i = .agg (.lit (.string s0.data.toList) :: [y1, y2, y3, y4, y5, y6].map (·.1)) := by
      have := congrArg (·.1) hx
      rw [ey] at this
      exact this
    have hbn : s0.data.toList.length ≤ 1048576 := by
      have h1 := bulk_first s0.data.toList ([y1, y2, y3, y4, y5, y6].map (·.1))
      rw [← hD] at h1
      have h2 : Rows.uptoBulk (D i) ≤ Rows.uptoBulk (DataW.slice ((List.range len).map D) ((List.range (m - len)).map fun j => D (len + j))) :=
        bulk_slice (List.mem_map.2 ⟨i, List.mem_range.2 hil, rfl⟩)
      have h3 : Rows.uptoBulk (DataW.slice ((List.range len).map D) ((List.range (m - len)).map fun j => D (len + j))) ≤ 1048576 := hb
      omega
    have a0 : w.cell? (a.add (i * 7)) = some (.string s0) := by
      have := hat 0 (by decide)
      rw [show (a.add (i * 7)).add 0 = a.add (i * 7) from if_pos rfl] at this
      exact this
    have an : ∀ (j : Nat) (v : Value), j ≠ 0 → j < 7 → ([Value.string s0, .int .i64 z1, .int .i64 z2, .int .u32 z3, .int .i64 z4, .int .i64 z5, .int .i64 z6] : List Value)[j]? = some v → w.cell? ⟨(a.add (i * 7)).block, (a.add (i * 7)).off + j, none⟩ = some v := by
      intro j v h0 hj hv
      have := hat j hj
      rw [add_pos _ _ h0] at this
      rw [this]; exact hv
    simp [Lit.wf, IntKind.min, IntKind.max, IntKind.signed, IntKind.bits] at w3
    refine ⟨a, ⟨s0.data.toList, z1, z2, z3, z4, z5, z6⟩, rfl, cell_block_lt a0, ⟨a0, an 1 _ (by decide) (by decide) rfl, an 2 _ (by decide) (by decide) rfl, an 3 _ (by decide) (by decide) rfl, an 4 _ (by decide) (by decide) rfl, an 5 _ (by decide) (by decide) rfl, an 6 _ (by decide) (by decide) rfl⟩, ⟨?_, ?_⟩, hbn⟩
    · show 0 ≤ z3; omega
    · show z3 ≤ 4294967295; omega
end Go.Proofs.YtnnjcedlomfhoaaGreatDoor
