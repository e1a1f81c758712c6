/-
  A tree in memory; contracts of tree.New, load, save, make.
-/
import Derived.Test.YtiffnfgmkkoaeaaGreatDoorBnGr20
import Derived.Test.YtiffnfgmkkoaeaaGreatDoorBnPgB
import Derived.Test.YtiffnfgmkkoaeaaGreatDoorBnGr19
namespace Go.Proofs.YtiffnfgmkkoaeaaGreatDoor
open Go.RowKit Go.Maps
set_option linter.unusedVariables false
/-- A tree: its pager, its root's number; the caller's block. -/
structure TreeAt (w : World) (F : Nat → Prop) (gt gp k : Nat) : Prop where
  blk : Blk w gt 110 #[.pointer (some ⟨gp, 0, none⟩), .int .i64 (k : Int)]
  out : ¬ F gt
theorem TreeAt.ev {w w' : World} {F F' : Nat → Prop} {gt gp k : Nat} (h : TreeAt w F gt gp k) (he : Ev F w F' w') : TreeAt w' F' gt gp k := ⟨he.blk h.blk h.out, he.new h.out (Blk.lt h.blk)⟩
set_option maxRecDepth 100000 in
theorem tnew_any (w : World) (gp k : Nat) (hk : k < 8) : Calls Tryz.prog 32 #[.pointer (some ⟨gp, 0, none⟩), .int .i64 (k : Int)] w fun e w' => e = .returned (.tuple #[.pointer (some ⟨w.heap.size, 0, none⟩), .int .i64 0]) ∧ w' = w.alloc (.cells #[.pointer (some ⟨gp, 0, none⟩), .int .i64 (k : Int)] 110) := by
  have hkI : (k : Int) < 8 := by omega
  have hk0 : (0 : Int) ≤ (k : Int) := by omega
  go_enter Tryz.func32, Tryz.ntmps32
  go_wp2_with fail
  go_ret2
  exact ⟨rfl, rfl⟩
/-- What load returns. -/
def LoadEnd (F : Nat → Prop) (w : World) (gp : Nat) (st : PgS) (n : NodeP) (e : Ending) (w' : World) : Prop :=
  ∃ F' cv kv B0, e = .returned (.tuple #[.agg #[.bool n.leaf, cv, kv], .int .i64 0]) ∧ PgAt w' F' gp st ∧ Ev F w F' w' ∧ (∀ j, F' j → j < B0) ∧ w.heap.size ≤ B0 ∧ NodeOwn w' B0 cv kv n
set_option maxRecDepth 100000 in
set_option maxHeartbeats 1000000 in
theorem load_gen (w : World) (F : Nat → Prop) (gt gp k : Nat) (st : PgS) (h : PgAt w F gp st) (ht : TreeAt w F gt gp k) (no : Nat) (n : NodeP) (hl : LoadR st no n) :
    Calls Tryz.prog 52 #[.pointer (some ⟨gt, 0, none⟩), .int .i64 (no : Int)] w (LoadEnd F w gp st n) := by
  have hgt := Blk.lt ht.blk
  have hB0 := (Below.refl w.heap.size w).alloc (Nat.le_refl _) (.cells #[.bool false, .slice none 0 0, .slice none 0 0] 115)
  have hP1 := h.alloc (.cells #[.bool false, .slice none 0 0, .slice none 0 0] 115)
  have hS1 := Blk.new w 115 #[.bool false, .slice none 0 0, .slice none 0 0]
  have t0 : w.cell? ⟨gt, 0, none⟩ = some (.pointer (some ⟨gp, 0, none⟩)) := ht.blk.cell 0
  have hrd := hide (read_any _ F gp st hP1 no hl.1)
  have hFw := h.lt
  obtain ⟨hright, z, hpage⟩ := hl.2
  obtain ⟨lf, hlf⟩ : ∃ lf, lf = n.leaf := ⟨_, rfl⟩
  unfold LoadEnd
  rw [← hlf]
  replace h := hide h
  replace ht := hide ht
  replace hl := hide hl
  replace hP1 := hide hP1
  replace hS1 := hide hS1
  replace hB0 := hide hB0
  replace hpage := hide hpage
  replace hright := hide hright
  replace hFw := hide hFw
  replace hlf := hide hlf
  go_enter Tryz.func52, Tryz.ntmps52
  go_wp2_with fail
  refine hrd.out.mono ?_
  rintro e w2 ⟨F2, A2, c2, rfl, hc2, hP2, hE2, hM2⟩
  have hrb := hM2.rb
  rw [hpage.out] at hrb
  have hgg := hide (get_any w2 A2 508 c2 n z hright.out hrb hc2 (by omega))
  have hnF : ¬ F w.heap.size := fun hf => by have := hFw.out _ hf; omega
  have hS2 := hide (hE2.blk hS1.out hnF)
  replace hP2 := hide hP2
  replace hE2 := hide hE2
  replace hM2 := hide hM2
  replace hrb := hide hrb
  go_wp2_with fail
  refine hgg.out.mono ?_
  rintro e w3 ⟨cv, kv, rfl, hO3, hB3⟩
  rw [← hlf.out]
  have hS3 := hS2.out.below hB3 (Blk.lt hS2.out)
  have f0 := hS3.frozen 0
  have f1 := hS3.frozen 1
  have f2 := hS3.frozen 2
  have o0 := hS3.cell 0
  have o1 := hS3.cell 1
  have o2 := hS3.cell 2
  have hsl : ∀ {e : TypeId} {size m : Nat} {v : Value} {xs : List Value} {B : Nat}, w3.ownsRow B e size v m xs → ∃ A c, v = .slice A m c := by
    intro e size m v xs B h
    rcases h.2 with ⟨rfl, rfl⟩ | ⟨g, cap, cur, rfl, _⟩
    · exact ⟨none, 0, rfl⟩
    · exact ⟨_, _, rfl⟩
  obtain ⟨rows, _, hro, _⟩ := hO3.rows
  obtain ⟨Ac, cc, rfl⟩ := hsl hro
  obtain ⟨Ak, ck, rfl⟩ := hsl hO3.kids
  have hE3 := hE2.out.below hB3
  have hEw : Ev F w F2 w3 := (((Ev.refl F w).alloc_ (.cells #[.bool false, .slice none 0 0, .slice none 0 0] 115)).trans hE3)
  have hfin : Hid (∀ W, W = (((w3.setCell ⟨w.heap.size, 0, none⟩ (.bool lf)).setCell ⟨w.heap.size, 1, none⟩ (.slice Ac n.cells.length cc)).setCell ⟨w.heap.size, 2, none⟩ (.slice Ak n.kids.length ck)) → ∃ F' cv kv B0, Ending.returned (.tuple #[.agg #[.bool lf, .slice Ac n.cells.length cc, .slice Ak n.kids.length ck], .int .i64 0]) = Ending.returned (.tuple #[.agg #[.bool lf, cv, kv], .int .i64 0]) ∧ PgAt W F' gp st ∧ Ev F w F' W ∧ (∀ j, F' j → j < B0) ∧ w.heap.size ≤ B0 ∧ NodeOwn W B0 cv kv n) := hide (by
    rintro W rfl
    have hn2 : ¬ F2 w.heap.size := hE2.out.new hnF (by simp)
    have hO : Only (fun j => j = w.heap.size) w3 _ := (((Only.refl (fun j => j = w.heap.size) w3).setCell (p := ⟨w.heap.size, 0, none⟩) (fun _ => rfl) (.bool lf)).setCell (p := ⟨w.heap.size, 1, none⟩) (fun _ => rfl) (.slice Ac n.cells.length cc)).setCell (p := ⟨w.heap.size, 2, none⟩) (fun _ => rfl) (.slice Ak n.kids.length ck)
    refine ⟨F2, _, _, w2.heap.size, rfl, ?_, ?_, hP2.out.lt, ?_, hO3.only hO fun j hj => by subst hj; exact ⟨_, _, hS3, by decide, by decide, by decide⟩⟩
    · exact (((hP2.out.below hB3).set_ (p := ⟨w.heap.size, 0, none⟩) hn2 _).set_ (p := ⟨w.heap.size, 1, none⟩) hn2 _).set_ (p := ⟨w.heap.size, 2, none⟩) hn2 _
    · exact ⟨hEw.only.trans hO (fun i hi e => by omega), hEw.grow⟩
    · have := hE2.out.size; simp at this; omega)
  have hbf := ((hS3.set_ 0 (.bool lf)).set_ 1 (.slice Ac n.cells.length cc)).set_ 2 (.slice Ak n.kids.length ck)
  replace hS3 := hide hS3
  replace hO3 := hide hO3
  replace hB3 := hide hB3
  replace hE3 := hide hE3
  replace hEw := hide hEw
  replace hro := hide hro
  replace hbf := hide hbf
  clear hgg hrd
  go_wp2_with fail
  refine bodyPost_ret (v := .tuple #[.agg #[.bool lf, .slice Ac n.cells.length cc, .slice Ak n.kids.length ck], .int .i64 0]) ?_ rfl (hfin.out _ rfl)
  have hbf := hbf.out
  obtain ⟨Wf, hWf⟩ : ∃ Wf, Wf = (((w3.setCell ⟨w.heap.size, 0, none⟩ (.bool lf)).setCell ⟨w.heap.size, 1, none⟩ (.slice Ac n.cells.length cc)).setCell ⟨w.heap.size, 2, none⟩ (.slice Ak n.kids.length ck)) := ⟨_, rfl⟩
  rw [← hWf] at hbf ⊢
  have j0 : Wf.cell? ⟨w.heap.size, 0, none⟩ = some (.bool lf) := hbf.cell 0
  have j1 : Wf.cell? ⟨w.heap.size, 1, none⟩ = some (.slice Ac n.cells.length cc) := hbf.cell 1
  have j2 : Wf.cell? ⟨w.heap.size, 2, none⟩ = some (.slice Ak n.kids.length ck) := hbf.cell 2
  simp [results, Tryz.results52, go_sem, j0, j1, j2]
theorem NodeM.old {G : Nat → Prop} {w : World} {v : Value} {n : NodeP} (h : NodeM G w v n) (hG : ∀ k, G k → k < w.heap.size) : NodeM (Old w) w v n := h.mono hG
set_option maxRecDepth 100000 in
theorem save_any (w : World) (F : Nat → Prop) (gt gp k : Nat) (st : PgS) (h : PgAt w F gp st) (ht : TreeAt w F gt gp k) (no : Nat) (n : NodeP) (v : Value) (hn : NodeM (Mine F w) w v n) (hc : CanSave st no n) :
    Calls Tryz.prog 115 #[.pointer (some ⟨gt, 0, none⟩), .int .i64 (no : Int), v] w (PgEnd F w gp (saveS st no n) (.int .i64 0)) := by
  obtain ⟨A, c, B, d, rfl⟩ := hn.box
  obtain ⟨lf, hlf⟩ : ∃ lf, lf = n.leaf := ⟨_, rfl⟩
  obtain ⟨M, hM⟩ : ∃ M, M = n.cells.length := ⟨_, rfl⟩
  obtain ⟨K, hK⟩ : ∃ K, K = n.kids.length := ⟨_, rfl⟩
  rw [← hlf, ← hM, ← hK] at hn ⊢
  have hB0 := (Below.refl w.heap.size w).alloc (Nat.le_refl _) (.cells #[.bool lf, .slice A M c, .slice B K d] 115)
  have hnp := hide (nput_any _ _ n ((hn.old fun k hk => hk.1).below hB0) hc.2.1 hc.2.2)
  have t0 : w.cell? ⟨gt, 0, none⟩ = some (.pointer (some ⟨gp, 0, none⟩)) := ht.blk.cell 0
  have hgt := Blk.lt ht.blk
  have hP1 := h.alloc (.cells #[.bool lf, .slice A M c, .slice B K d] 115)
  have hzp : (packP n).length ≤ 508 := by rw [packP_len]; exact hc.2.2
  replace h := hide h
  replace ht := hide ht
  replace hn := hide hn
  replace hlf := hide hlf
  replace hM := hide hM
  replace hK := hide hK
  replace hP1 := hide hP1
  replace hB0 := hide hB0
  replace hc := hide hc
  go_enter Tryz.func115, Tryz.ntmps115
  go_wp2_with fail
  refine hnp.out.mono ?_
  rintro e w2 ⟨v2, rfl, hO2, hB2⟩
  have hP2 := hP1.out.below hB2
  have hB2w := hB0.out.trans (hB2.mono hB0.out.size)
  obtain ⟨L, hL⟩ : ∃ L, L = (packP n).length := ⟨_, rfl⟩
  rw [← hL] at hO2 hzp
  obtain ⟨A2, c2, rfl, hr2, _⟩ := hO2.form
  have hwr := hide (write_any w2 F gp st hP2 no hc.out.1 A2 L c2 (packP n) hr2 hzp)
  have y0 : w2.cell? ⟨gt, 0, none⟩ = some (.pointer (some ⟨gp, 0, none⟩)) := (hB2w.cell (p := ⟨gt, 0, none⟩) hgt).trans t0
  replace hL := hide hL
  replace hO2 := hide hO2
  replace hB2 := hide hB2
  replace hP2 := hide hP2
  replace hr2 := hide hr2
  replace hB2w := hide hB2w
  go_wp2_with fail
  refine hwr.out.mono ?_
  rintro e w3 ⟨rfl, F', hP', hE'⟩
  replace hP' := hide hP'
  replace hE' := hide hE'
  go_wp2_with fail
  go_ret
  exact ⟨rfl, F', hP'.out, (Ev.of_below hB2w.out).trans hE'.out⟩
set_option maxRecDepth 100000 in
theorem make_any (w : World) (F : Nat → Prop) (gt gp k : Nat) (st : PgS) (h : PgAt w F gp st) (ht : TreeAt w F gt gp k) (n : NodeP) (v : Value) (hn : NodeM (Mine F w) w v n) (ha : CanAlloc st) (hf : st.free < st.many) (hc : CanSave (allocS st) (allocN st) n) :
    Calls Tryz.prog 68 #[.pointer (some ⟨gt, 0, none⟩), v] w (PgEnd F w gp (saveS (allocS st) (allocN st) n) (.tuple #[.int .i64 (allocN st : Int), .int .i64 0])) := by
  obtain ⟨A, c, B, d, rfl⟩ := hn.box
  obtain ⟨lf, hlf⟩ : ∃ lf, lf = n.leaf := ⟨_, rfl⟩
  obtain ⟨M, hM⟩ : ∃ M, M = n.cells.length := ⟨_, rfl⟩
  obtain ⟨K, hK⟩ : ∃ K, K = n.kids.length := ⟨_, rfl⟩
  rw [← hlf, ← hM, ← hK] at hn ⊢
  have hE0 : Ev F w F (w.alloc (.cells #[.bool lf, .slice A M c, .slice B K d] 115)) := (Ev.refl F w).alloc_ _
  have hb0 := Blk.new w 115 #[.bool lf, .slice A M c, .slice B K d]
  have hFw := h.lt
  have hnF : ¬ F w.heap.size := fun hf => by have := hFw _ hf; omega
  have t0 : w.cell? ⟨gt, 0, none⟩ = some (.pointer (some ⟨gp, 0, none⟩)) := ht.blk.cell 0
  have hgt := Blk.lt ht.blk
  have hP1 := h.alloc (.cells #[.bool lf, .slice A M c, .slice B K d] 115)
  have hal := hide (alloc_any _ F gp st hP1 ha hf)
  have ht1 := ht.ev hE0
  have hn1 := hn.ev hE0
  obtain ⟨no, hno⟩ : ∃ no, no = allocN st := ⟨_, rfl⟩
  unfold AllocEnd at hal
  rw [← hno] at hc hal ⊢
  replace h := hide h
  replace ht := hide ht
  replace hn := hide hn
  replace hlf := hide hlf
  replace hM := hide hM
  replace hK := hide hK
  replace hP1 := hide hP1
  replace hE0 := hide hE0
  replace hc := hide hc
  replace hno := hide hno
  replace hb0 := hide hb0
  replace ht1 := hide ht1
  replace hn1 := hide hn1
  replace hFw := hide hFw
  go_enter Tryz.func68, Tryz.ntmps68
  go_wp2_with fail
  refine hal.out.mono ?_
  rintro e w2 ⟨rfl, F2, hP2, hE2⟩
  have hb2 := hE2.blk hb0.out hnF
  have c0 := hb2.cell 0
  have c1 := hb2.cell 1
  have c2 := hb2.cell 2
  have hsv := hide (save_any w2 F2 gt gp k (allocS st) hP2 (ht1.out.ev hE2) no n _ (hn1.out.ev hE2) hc.out)
  replace hP2 := hide hP2
  replace hE2 := hide hE2
  replace hb2 := hide hb2
  go_wp2_with fail
  refine hsv.out.mono ?_
  rintro e w3 ⟨rfl, F', hP', hE'⟩
  replace hP' := hide hP'
  replace hE' := hide hE'
  go_wp2_with fail
  go_ret2
  exact ⟨rfl, F', hP'.out, (hE0.out.trans hE2.out).trans hE'.out⟩
end Go.Proofs.YtiffnfgmkkoaeaaGreatDoor
