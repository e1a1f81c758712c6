/-
  The walk of inquestlaw21.CatNil: it returns true for every input.
-/
import Derived.Test.YtiffnfgmkkoaeaaGreatDoorBnGr44
namespace Go.Proofs.YtiffnfgmkkoaeaaGreatDoor
open Go.RowKit Go.Maps
set_option linter.unusedVariables false
set_option maxRecDepth 100000 in
theorem archives_nil (w : World) : Calls Tryz.prog 5 #[.pointer none] w fun e w' => e = .returned (.tuple #[.slice none 0 0, .int .i64 2]) ∧ Below w.heap.size w w' := by
  go_enter Tryz.func5, Tryz.ntmps5
  go_wp2_with fail
  go_ret2
  exact ⟨rfl, Below.refl _ _⟩
set_option maxRecDepth 100000 in
theorem entries_nil (w : World) (cs : Array Value) : Calls Tryz.prog 7 #[.pointer none, .agg cs] w fun e w' => e = .returned (.tuple #[.slice none 0 0, .int .i64 2]) ∧ Below w.heap.size w w' := by
  go_enter Tryz.func7, Tryz.ntmps7
  go_wp2_with fail
  go_ret2
  exact ⟨rfl, by first | exact Below.refl _ _ | exact (Below.refl _ _).alloc (Nat.le_refl _) _⟩
set_option maxRecDepth 100000 in
theorem range_nil (w : World) : Calls Tryz.prog 9 #[.pointer none, .int .i64 0, .slice none 0 0, .slice none 0 0] w fun e w' => e = .returned (.tuple #[.slice none 0 0, .int .i64 2]) ∧ Below w.heap.size w w' := by
  go_enter Tryz.func9, Tryz.ntmps9
  go_wp2_with fail
  go_ret2
  exact ⟨rfl, by first | exact Below.refl _ _ | exact (Below.refl _ _).alloc (Nat.le_refl _) _⟩
set_option maxRecDepth 100000 in
theorem add_nil (w : World) (v : Value) : Calls Tryz.prog 11 #[.pointer none, v, .int .i64 0, .int .i64 0, .slice none 0 0, .int .i64 0] w fun e w' => e = .returned (.int .i64 2) ∧ Below w.heap.size w w' := by
  go_enter Tryz.func11, Tryz.ntmps11
  go_wp2_with fail
  go_ret
  exact ⟨rfl, Below.refl _ _⟩
set_option maxRecDepth 100000 in
theorem commit_nil (w : World) : Calls Tryz.prog 13 #[.pointer none] w fun e w' => e = .returned (.int .i64 2) ∧ Below w.heap.size w w' := by
  go_enter Tryz.func13, Tryz.ntmps13
  go_wp2_with fail
  go_ret
  exact ⟨rfl, Below.refl _ _⟩
set_option maxRecDepth 100000 in
theorem abort_nil (w : World) : Calls Tryz.prog 14 #[.pointer none] w fun e w' => e = .returned (.int .i64 2) ∧ Below w.heap.size w w' := by
  go_enter Tryz.func14, Tryz.ntmps14
  go_wp2_with fail
  go_ret
  exact ⟨rfl, Below.refl _ _⟩
set_option maxRecDepth 100000 in
theorem reads_nil (w : World) : Calls Tryz.prog 16 #[.pointer none] w fun e w' => e = .returned (.int .i64 0) ∧ Below w.heap.size w w' := by
  go_enter Tryz.func16, Tryz.ntmps16
  go_wp2_with fail
  go_ret
  exact ⟨rfl, Below.refl _ _⟩
set_option maxRecDepth 100000 in
theorem check_nil2 (w : World) : Calls Tryz.prog 15 #[.pointer none] w fun e w' => e = .returned (.int .i64 2) ∧ Below w.heap.size w w' := by
  go_enter Tryz.func15, Tryz.ntmps15
  go_wp2_with fail
  refine (archives_nil w).mono ?_
  rintro e w1 ⟨rfl, hB⟩
  replace hB := hide hB
  go_wp2_with fail
  go_ret
  exact ⟨rfl, hB.out⟩
set_option maxRecDepth 100000 in
theorem find_nil (w : World) (v : Value) : Calls Tryz.prog 6 #[.pointer none, v] w fun e w' => e = .returned (.tuple #[.agg #[.string ⟨#[]⟩, .int .i64 0, .int .i64 0, .int .i64 0, .int .i64 0, .int .i64 0], .bool false, .int .i64 2]) ∧ Below w.heap.size w w' := by
  go_enter Tryz.func6, Tryz.ntmps6
  go_wp2_with fail
  obtain ⟨Wf, hWf⟩ : ∃ Wf, Wf = w.alloc (.cells #[.string ⟨#[]⟩, .int .i64 0, .int .i64 0, .int .i64 0, .int .i64 0, .int .i64 0] 29) := ⟨_, rfl⟩
  have hbf : Blk Wf w.heap.size 29 #[.string ⟨#[]⟩, .int .i64 0, .int .i64 0, .int .i64 0, .int .i64 0, .int .i64 0] := by rw [hWf]; exact Blk.new w 29 _
  have hB : Below w.heap.size w Wf := by rw [hWf]; exact (Below.refl _ _).alloc (Nat.le_refl _) _
  rw [← hWf]
  have j0 : Wf.cell? ⟨w.heap.size, 0, none⟩ = some (.string ⟨#[]⟩) := hbf.cell 0
  have j1 : Wf.cell? ⟨w.heap.size, 1, none⟩ = some (.int .i64 0) := hbf.cell 1
  have j2 : Wf.cell? ⟨w.heap.size, 2, none⟩ = some (.int .i64 0) := hbf.cell 2
  have j3 : Wf.cell? ⟨w.heap.size, 3, none⟩ = some (.int .i64 0) := hbf.cell 3
  have j4 : Wf.cell? ⟨w.heap.size, 4, none⟩ = some (.int .i64 0) := hbf.cell 4
  have j5 : Wf.cell? ⟨w.heap.size, 5, none⟩ = some (.int .i64 0) := hbf.cell 5
  refine bodyPost_ret (v := .tuple #[.agg #[.string ⟨#[]⟩, .int .i64 0, .int .i64 0, .int .i64 0, .int .i64 0, .int .i64 0], .bool false, .int .i64 2]) ?_ rfl ⟨rfl, hB⟩
  simp [results, Tryz.results6, go_sem, j0, j1, j2, j3, j4, j5]
set_option maxRecDepth 100000 in
theorem entry_nil (w : World) : Calls Tryz.prog 8 #[.pointer none, .int .i64 1, .int .i64 0] w fun e w' => e = .returned (.tuple #[.agg #[.string ⟨#[]⟩, .int .i64 0, .string ⟨#[]⟩, .int .i64 0, .int .i64 0, .int .u32 0, .int .i64 0, .int .i64 0, .int .i64 0], .int .i64 2]) ∧ Below w.heap.size w w' := by
  go_enter Tryz.func8, Tryz.ntmps8
  go_wp2_with fail
  obtain ⟨Wf, hWf⟩ : ∃ Wf, Wf = w.alloc (.cells #[.string ⟨#[]⟩, .int .i64 0, .string ⟨#[]⟩, .int .i64 0, .int .i64 0, .int .u32 0, .int .i64 0, .int .i64 0, .int .i64 0] 39) := ⟨_, rfl⟩
  have hbf : Blk Wf w.heap.size 39 #[.string ⟨#[]⟩, .int .i64 0, .string ⟨#[]⟩, .int .i64 0, .int .i64 0, .int .u32 0, .int .i64 0, .int .i64 0, .int .i64 0] := by rw [hWf]; exact Blk.new w 39 _
  have hB : Below w.heap.size w Wf := by rw [hWf]; exact (Below.refl _ _).alloc (Nat.le_refl _) _
  rw [← hWf]
  have j0 : Wf.cell? ⟨w.heap.size, 0, none⟩ = some (.string ⟨#[]⟩) := hbf.cell 0
  have j1 : Wf.cell? ⟨w.heap.size, 1, none⟩ = some (.int .i64 0) := hbf.cell 1
  have j2 : Wf.cell? ⟨w.heap.size, 2, none⟩ = some (.string ⟨#[]⟩) := hbf.cell 2
  have j3 : Wf.cell? ⟨w.heap.size, 3, none⟩ = some (.int .i64 0) := hbf.cell 3
  have j4 : Wf.cell? ⟨w.heap.size, 4, none⟩ = some (.int .i64 0) := hbf.cell 4
  have j5 : Wf.cell? ⟨w.heap.size, 5, none⟩ = some (.int .u32 0) := hbf.cell 5
  have j6 : Wf.cell? ⟨w.heap.size, 6, none⟩ = some (.int .i64 0) := hbf.cell 6
  have j7 : Wf.cell? ⟨w.heap.size, 7, none⟩ = some (.int .i64 0) := hbf.cell 7
  have j8 : Wf.cell? ⟨w.heap.size, 8, none⟩ = some (.int .i64 0) := hbf.cell 8
  refine bodyPost_ret (v := .tuple #[.agg #[.string ⟨#[]⟩, .int .i64 0, .string ⟨#[]⟩, .int .i64 0, .int .i64 0, .int .u32 0, .int .i64 0, .int .i64 0, .int .i64 0], .int .i64 2]) ?_ rfl ⟨rfl, hB⟩
  simp [results, Tryz.results8, go_sem, j0, j1, j2, j3, j4, j5, j6, j7, j8]
set_option maxRecDepth 100000 in
theorem popen_nil (w : World) (v : Value) : Calls Tryz.prog 31 #[.pointer none, v] w fun e w' => e = .returned (.tuple #[.pointer none, .int .i64 2]) ∧ Below w.heap.size w w' := by
  go_enter Tryz.func31, Tryz.ntmps31
  go_wp2_with fail
  go_ret2
  exact ⟨rfl, by first | exact Below.refl _ _ | exact (Below.refl _ _).alloc (Nat.le_refl _) _⟩
set_option maxRecDepth 100000 in
theorem copen_nil (w : World) : Calls Tryz.prog 10 #[.pointer none] w fun e w' => e = .returned (.tuple #[.pointer none, .int .i64 2]) ∧ Below w.heap.size w w' := by
  go_enter Tryz.func10, Tryz.ntmps10
  go_wp2_with fail
  refine (popen_nil w _).mono ?_
  rintro e w1 ⟨rfl, hB⟩
  replace hB := hide hB
  go_wp2_with fail
  go_ret2
  exact ⟨rfl, hB.out⟩
set_option maxRecDepth 100000 in
theorem remove_nil (w : World) (v : Value) : Calls Tryz.prog 12 #[.pointer none, v] w fun e w' => e = .returned (.int .i64 2) ∧ Below w.heap.size w w' := by
  go_enter Tryz.func12, Tryz.ntmps12
  go_wp2_with fail
  refine (find_nil w _).mono ?_
  rintro e w1 ⟨rfl, hB⟩
  have hB1 := hide (hB.alloc hB.size (.cells #[.string ⟨#[]⟩, .int .i64 0, .int .i64 0, .int .i64 0, .int .i64 0, .int .i64 0] 29))
  replace hB := hide hB
  go_wp2_with fail
  go_ret
  exact ⟨rfl, hB1.out⟩
set_option maxRecDepth 100000 in
set_option maxHeartbeats 1000000 in
theorem catNil_walk (w : World) (hT : Utf8M w) (hml : MlAt w) (s : ByteArray) : Calls Tryz.prog 3 #[.string s] w fun e w' => e = .returned (.bool true) ∧ Below w.heap.size w w' := by
  have hwk := hide (cwakes_any w hT hml)
  replace hT := hide hT
  replace hml := hide hml
  go_enter Tryz.func3, Tryz.ntmps3
  go_wp2_with fail
  refine hwk.out.mono ?_
  rintro e w1 ⟨rfl, b1⟩
  replace b1 := hide b1
  clear hwk
  go_wp2_with fail
  refine (archives_nil w1).mono ?_
  rintro e w2 ⟨rfl, b2⟩
  replace b2 := hide (b1.out.trans (b2.mono b1.out.size))
  clear b1
  go_wp2_with fail
  refine (find_nil w2 _).mono ?_
  rintro e w3 ⟨rfl, b3⟩
  replace b3 := hide (b2.out.trans (b3.mono b2.out.size))
  replace b3 := hide (b3.out.alloc b3.out.size (.cells #[.string ⟨#[]⟩, .int .i64 0, .int .i64 0, .int .i64 0, .int .i64 0, .int .i64 0] 29))
  clear b2
  obtain ⟨v3, hv3⟩ : ∃ v3, v3 = w3.alloc (.cells #[.string ⟨#[]⟩, .int .i64 0, .int .i64 0, .int .i64 0, .int .i64 0, .int .i64 0] 29) := ⟨_, rfl⟩
  go_wp2_with fail
  rw [← hv3] at b3 ⊢
  refine (entries_nil v3 _).mono ?_
  rintro e w4 ⟨rfl, b4⟩
  replace b4 := hide (b3.out.trans (b4.mono b3.out.size))
  clear b3 hv3
  go_wp2_with fail
  refine (entry_nil w4).mono ?_
  rintro e w5 ⟨rfl, b5⟩
  replace b5 := hide (b4.out.trans (b5.mono b4.out.size))
  replace b5 := hide (b5.out.alloc b5.out.size (.cells #[.string ⟨#[]⟩, .int .i64 0, .string ⟨#[]⟩, .int .i64 0, .int .i64 0, .int .u32 0, .int .i64 0, .int .i64 0, .int .i64 0] 39))
  clear b4
  go_wp2_with fail
  refine (range_nil _).mono ?_
  rintro e w6 ⟨rfl, b6⟩
  replace b6 := hide (b5.out.trans (b6.mono b5.out.size))
  clear b5
  go_wp2_with fail
  refine (copen_nil w6).mono ?_
  rintro e w7 ⟨rfl, b7⟩
  replace b7 := hide (b6.out.trans (b7.mono b6.out.size))
  clear b6
  go_wp2_with fail
  refine (add_nil w7 _).mono ?_
  rintro e w8 ⟨rfl, b8⟩
  replace b8 := hide (b7.out.trans (b8.mono b7.out.size))
  clear b7
  go_wp2_with fail
  refine (remove_nil w8 _).mono ?_
  rintro e w9 ⟨rfl, b9⟩
  replace b9 := hide (b8.out.trans (b9.mono b8.out.size))
  clear b8
  go_wp2_with fail
  refine (commit_nil w9).mono ?_
  rintro e w10 ⟨rfl, b10⟩
  replace b10 := hide (b9.out.trans (b10.mono b9.out.size))
  clear b9
  go_wp2_with fail
  refine (abort_nil w10).mono ?_
  rintro e w11 ⟨rfl, b11⟩
  replace b11 := hide (b10.out.trans (b11.mono b10.out.size))
  clear b10
  go_wp2_with fail
  refine (check_nil2 w11).mono ?_
  rintro e w12 ⟨rfl, b12⟩
  replace b12 := hide (b11.out.trans (b12.mono b11.out.size))
  clear b11
  go_wp2_with fail
  refine (reads_nil w12).mono ?_
  rintro e w13 ⟨rfl, b13⟩
  replace b13 := hide (b12.out.trans (b13.mono b12.out.size))
  clear b12
  go_wp2_with fail
  go_ret
  exact ⟨rfl, b13.out⟩
end Go.Proofs.YtiffnfgmkkoaeaaGreatDoor
