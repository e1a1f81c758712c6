/-
  Contract of plan.named (a name's term).
-/
import Derived.Test.YtnnjcedlomfhoaaGreatDoorHPlanC
import Derived.Test.YtnnjcedlomfhoaaGreatDoorHHeadLaw
import Derived.Test.YtnnjcedlomfhoaaGreatDoorHB
import Derived.BigQuiet
namespace Go.Proofs.YtnnjcedlomfhoaaGreatDoor
open Go.RowKit
set_option linter.unusedVariables false
def namedP (x : Ask) : PlanV :=
  if x.op = 7 then
    match globP x.text with
    | none => wholeP
    | some ps => if headAll ps = true then beginsP (textB (headB ps)) cOne else if headB ps = [] then wholeP else beginsP ((headB ps).flatMap txtF) cSome
  else if x.op = 1 then beginsP (textB x.text) cOne
  else wholeP
def MaxL (w : World) : Prop := 3 < w.heap.size ∧ ∃ m, w.cell? ⟨3, 0, none⟩ = some (.int .i64 m)
theorem MaxL.below {w w' : World} (h : MaxL w) (hb : Below w.heap.size w w') : MaxL w' := by
  obtain ⟨h1, m, h2⟩ := h
  exact ⟨Nat.lt_of_lt_of_le h1 hb.size, m, (hb.cell (p := ⟨3, 0, none⟩) h1).trans h2⟩
theorem bytes_convT (s : ByteArray) : ∃ (K : World → Nat) (C : World → Obj), (∀ w, (convert 9 32 (.string s)).run Tryz.prog w = .ok (.slice (some ⟨w.heap.size, 0, none⟩) s.size (K w)) (w.drew.alloc (C w))) ∧
    ∀ w : World, RBT (w.drew.alloc (C w)) (some ⟨w.heap.size, 0, none⟩) s.size s.data.toList := by
  refine ⟨fun w => grownCap w s.size 0 5, fun w => Obj.cells (bytesRow s (grownCap w s.size 0 5)) 5 ((bytesRow s (grownCap w s.size 0 5)).size, (bytesRow s (grownCap w s.size 0 5)).size + 1), fun w => run_bytes_of_string w 9 32 5 s Tryz.underlying9 Tryz.underlying32 Tryz.underlying5, fun w => ?_⟩
  have hh : (w.drew.alloc (Obj.cells (bytesRow s (grownCap w s.size 0 5)) 5 ((bytesRow s (grownCap w s.size 0 5)).size, (bytesRow s (grownCap w s.size 0 5)).size + 1))).heap[w.heap.size]? = some (.cells (bytesRow s (grownCap w s.size 0 5)) 5 ((bytesRow s (grownCap w s.size 0 5)).size, (bytesRow s (grownCap w s.size 0 5)).size + 1)) := heap_alloc_new _ _
  refine ⟨⟨by simp [bv], fun _ => ⟨_, rfl, by simp, fun j u hj => ?_⟩⟩, fun ad e => by cases e; exact ⟨_, _, hh⟩⟩
  rw [show (⟨w.heap.size, 0, none⟩ : Addr).add j = ⟨w.heap.size, j, none⟩ from by unfold Addr.add; split <;> simp_all, cell_of_row _ _ _ _ _ _ hh]
  have hj2 := (List.getElem?_eq_some_iff.1 hj).1
  simp [bv] at hj2
  unfold bytesRow
  rw [Array.getElem?_append_left (by simpa using hj2)]
  simpa [bv] using hj
/-- key.Text of one text, nothing ahead. -/
theorem textOne_any (w : World) (hM : MaxL w) (h : List UInt8) (t : TypeId) (hl : h.length ≤ 1000) :
    Calls Tryz.prog 60 #[.slice none 0 0, .slice (some ⟨w.heap.size, 0, none⟩) 1 1] (w.alloc (.cells #[.string (str h)] t)) (RetB (w.alloc (.cells #[.string (str h)] t)) (textB h)) := by
  obtain ⟨h1, m, h2⟩ := hM
  have hb := (Below.refl w.heap.size w).alloc (Nat.le_refl _) (.cells #[.string (str h)] t)
  have hRS : RS (w.alloc (.cells #[.string (str h)] t)) (w.alloc (.cells #[.string (str h)] t)).heap.size (some ⟨w.heap.size, 0, none⟩) 1 [str h] := ⟨by simp, fun _ => ⟨_, rfl, by simp, fun j u hj => by
    match j, hj with
    | 0, hj => simp at hj; subst hj; simp [Addr.add]⟩⟩
  have := text_any2 none (some ⟨w.heap.size, 0, none⟩) 0 1 0 1 [] [str h] m (w.alloc (.cells #[.string (str h)] t)) (RB.nil _ _) hRS (by omega) (by omega) (by simp [str_size]; omega) (Nat.lt_of_lt_of_le h1 hb.size) ((hb.cell (p := ⟨3, 0, none⟩) h1).trans h2)
  have e : ([] : List UInt8) ++ textsB [str h] = textB h := by simp [textsB, str_toList]
  rw [e] at this
  exact this
set_option maxRecDepth 100000 in
set_option maxHeartbeats 4000000 in
theorem namedEq_any (w : World) (x : Ask) (hM : MaxL w) (h1 : x.op = 1) (hl : x.text.length ≤ 1000) :
    Calls Tryz.prog 38 #[askV x] w (PlanRet w (namedP x)) := by
  have hpe : Hid (namedP x = beginsP (textB x.text) cOne) := by rw [Hid, namedP, if_neg (by omega), if_pos h1]
  have hsc := run_store_complex
  have hA0 := ask_box w x
  have hbA := (Below.refl w.heap.size w).alloc (Nat.le_refl _) (.cells #[.int .i64 x.kind, .int .i64 x.op, .int .i64 x.a, .int .i64 x.b, .int .i64 x.n, .string (str x.text), .bool x.isText] 54)
  rw [hpe.out]
  clear hpe
  unfold askV
  obtain ⟨kind, op, a, b, nn, text, isText⟩ := x
  dsimp only at *
  subst h1
  have hA1 := hA0.alloc (.cells #[.slice none 0 0, .bool false, .complex .f64 0 0] 28)
  have hB0 := Blk.new (w.alloc (.cells #[.int .i64 kind, .int .i64 1, .int .i64 a, .int .i64 b, .int .i64 nn, .string (str text), .bool isText] 54)) 28 #[.slice none 0 0, .bool false, .complex .f64 0 0]
  have hb0 := hbA.alloc hbA.size (.cells #[.slice none 0 0, .bool false, .complex .f64 0 0] 28)
  go_enter Tryz.func38, Tryz.ntmps38
  go_upto_region 1 with (fail)
  obtain ⟨w1, hw1⟩ : ∃ y, y = (w.alloc (.cells #[.int .i64 kind, .int .i64 1, .int .i64 a, .int .i64 b, .int .i64 nn, .string (str text), .bool isText] 54)).alloc (.cells #[.slice none 0 0, .bool false, .complex .f64 0 0] 28) := ⟨_, rfl⟩
  rw [← hw1] at hA1 hB0 hb0 ⊢
  have hg : (w.alloc (.cells #[.int .i64 kind, .int .i64 1, .int .i64 a, .int .i64 b, .int .i64 nn, .string (str text), .bool isText] 54)).heap.size = w.heap.size + 1 := by simp
  rw [hg] at hB0
  have hM1 := hM.below hb0
  have p1 : w1.cell? ⟨w.heap.size, 1, none⟩ = some (.int .i64 1) := hA1.cell 1
  have p5 : w1.cell? ⟨w.heap.size, 5, none⟩ = some (.string (str text)) := hA1.cell 5
  clear hw1 hA0 hbA hM hg hA1
  replace hB0 := hide hB0
  replace hb0 := hide hb0
  replace hM1 := hide hM1
  go_quiet (fail)
  obtain ⟨w2, hw2⟩ : ∃ y, y = w1.drewN nq := ⟨_, rfl⟩
  have hb12 : Below w1.heap.size w1 w2 := by rw [hw2]; exact below_drewN (Below.refl _ _) nq
  rw [← hw2]
  have hB2 := hide (hB0.out.below hb12 hB0.out.lt)
  have hbw2 := hide (hb0.out.trans (hb12.mono hb0.out.size))
  have p1' : w2.cell? ⟨w.heap.size, 1, none⟩ = some (.int .i64 1) := by rw [hw2]; exact p1
  have hT2 := hide (textOne_any w2 (hM1.out.below hb12) text 9 hl)
  have hbT := hide ((Below.refl w2.heap.size w2).alloc (Nat.le_refl _) (.cells #[.string (str text)] 9))
  clear hw2 hB0 hb0 hM1 hb12 p1 p5
  go_wp2_with fail
  refine hT2.out.mono ?_
  rintro e w3 ⟨v3, rfl, ho3, hb3⟩
  have hb23 := hbT.out.trans (hb3.mono hbT.out.size)
  have hB3 := hide (hB2.out.below hb23 hB2.out.lt)
  have hbw3 := hide (hbw2.out.trans (hb23.mono hbw2.out.size))
  obtain ⟨A3, c3, rfl, hR3, hc3⟩ := ho3.formT
  have htl := text_len text
  obtain ⟨n3, hn3⟩ : ∃ n, n = (textB text).length := ⟨_, rfl⟩
  rw [← hn3] at hR3 hc3 ⊢
  have hC := hide (begins_any w3 A3 n3 c3 (textB text) cOne hR3 (by omega))
  clear hT2 ho3 hb3 hb23 hbT hB2 hbw2 hR3 htl
  replace hn3 := hide hn3
  rw [cOne] at hC
  go_wp2_with fail
  refine hC.out.mono ?_
  rintro e w4 ⟨⟨A4, n4, k4, rfl, hnk, hS⟩, hb4⟩
  have hB4 := hB3.out.below hb4 hB3.out.lt
  have hbw4 := hbw3.out.trans (hb4.mono hbw3.out.size)
  obtain ⟨q, hq⟩ : ∃ q, q = beginsP (textB text) cOne := ⟨_, rfl⟩
  rw [show (⟨4607182418800017408, 4607182418800017408⟩ : Cost) = cOne from rfl] at hS ⊢
  rw [← hq] at hS ⊢
  obtain ⟨hS2, hbF⟩ := plan_back hB4 hS hbw4 (Nat.le_succ _) (.slice A4 n4 k4) (.bool q.all) (.complex .f64 q.cost.re q.cost.im)
  have r0 : w4.cell? ⟨w.heap.size + 1, 0, none⟩ = some (.slice none 0 0) := hB4.cell 0
  have r1 : w4.cell? ⟨w.heap.size + 1, 1, none⟩ = some (.bool false) := hB4.cell 1
  have r2 : w4.cell? ⟨w.heap.size + 1, 2, none⟩ = some (.complex .f64 0 0) := hB4.cell 2
  have f0 := hB4.frozen 0
  have f1 := hB4.frozen 1
  have f2 := hB4.frozen 2
  replace hS2 := hide hS2
  replace hbF := hide hbF
  replace hq := hide hq
  clear hB4 hS hbw4 hb4 hB3 hbw3 hC
  go_wp2_with fail
  refine bodyPost_ret (v := .agg #[.slice A4 n4 k4, .bool q.all, .complex .f64 q.cost.re q.cost.im]) (by simp [results, Tryz.results38, go_sem, r0, r1, r2]) rfl ?_
  rw [← hq.out]
  exact ⟨⟨_, _, _, rfl, hnk, hS2.out⟩, hbF.out⟩
end Go.Proofs.YtnnjcedlomfhoaaGreatDoor
