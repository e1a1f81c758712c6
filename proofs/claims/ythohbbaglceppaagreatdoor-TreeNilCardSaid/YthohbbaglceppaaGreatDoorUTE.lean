/-
  Contract of tree.change at a leaf, with Put's closure.
-/
import Derived.Test.YthohbbaglceppaaGreatDoorUTB
namespace Go.Proofs.YthohbbaglceppaaGreatDoor
open Go.RowKit
set_option linter.unusedVariables false
theorem NodeOwn.moreB {w : World} {B B' : Nat} {cv kv : Value} {n : NodeP} (h : NodeOwn w B cv kv n) (hb : B' ≤ B) : NodeOwn w B' cv kv n := by
  obtain ⟨rows, h1, h2, h3⟩ := h.rows
  exact ⟨⟨rows, h1, own_moreB h2 hb, fun k vs c e1 e2 => (h3 k vs c e1 e2).mono fun j hj => ⟨Nat.le_trans hb hj.1, hj.2⟩⟩, own_moreB h.kids hb⟩
/-- What a closure of Put or Delete does to a leaf. -/
def OpC (f : FuncId) (x y : Value) (w : World) (F : Nat → Prop) (gp : Nat) (st : PgS) (n : NodeP) (i : Nat) (is : Bool) (st1 : PgS) (n1 : NodeP) : Prop :=
  ∀ w1 F1 gn B cv kv, PgAt w1 F1 gp st → Ev F w F1 w1 → NodeW F1 w1 B cv kv n → Blk w1 gn 101 #[.bool n.leaf, cv, kv] → ¬ F1 gn → w.heap.size ≤ gn → w.heap.size ≤ B → B ≤ w1.heap.size →
    Calls Tryz.prog f #[.pointer (some ⟨gn, 0, none⟩), .int .i64 (i : Int), .bool is, x, y] w1 (OpEnd F1 w1 gp gn w.heap.size st1 n1)
def LayC (w : World) (F : Nat → Prop) (gt gp k no : Nat) (st : PgS) (n : NodeP) (st' : PgS) (l : Option (List UInt8 × Nat)) : Prop :=
  ∀ w1 F1 v, PgAt w1 F1 gp st → TreeAt w1 F1 gt gp k → NodeM (Mine F1 w1) w1 v n → Calls Tryz.prog 90 #[.pointer (some ⟨gt, 0, none⟩), .int .i64 (no : Int), v] w1 (LayEnd F1 w1 gp no st' l)
set_option maxRecDepth 100000 in
set_option maxHeartbeats 2000000 in
theorem change_leaf (w : World) (F : Nat → Prop) (gt gp k : Nat) (st : PgS) (h : PgAt w F gp st) (ht : TreeAt w F gt gp k) (no : Nat) (n : NodeP) (hl : LoadR st no n) (hleaf : n.leaf = true) (kA : Option Addr) (kc : Nat) (key : List UInt8) (hk : MB F w kA key.length key)
    (gc gt2 : Nat) (st1 st2 : PgS) (n1 : NodeP) (l : Option (List UInt8 × Nat)) (hop : OpC 52 (.pointer (some ⟨gc, 0, none⟩)) (.pointer (some ⟨gt2, 0, none⟩)) w F gp st n (findP n key).1 (findP n key).2 st1 n1) (hlay : LayC w F gt gp k no st1 n1 st2 l) :
    Calls Tryz.prog 51 #[.pointer (some ⟨gt, 0, none⟩), .int .i64 (no : Int), .slice kA key.length kc, .func (.func 52) #[] #[.pointer (some ⟨gc, 0, none⟩), .pointer (some ⟨gt2, 0, none⟩)]] w (LayEnd F w gp no st2 l) := by
  have hld := hide (load_any w F gt gp k st h ht no n hl hleaf)
  have hgt := Blk.lt ht.blk
  have hrise := hl.2.1.rise
  have hmany := hl.2.1.many
  obtain ⟨L, hL⟩ : ∃ L, L = key.length := ⟨_, rfl⟩
  rw [← hL] at hk ⊢
  replace h := hide h
  replace ht := hide ht
  replace hl := hide hl
  replace hk := hide hk
  replace hop : Hid _ := hide hop
  replace hlay : Hid _ := hide hlay
  replace hL := hide hL
  replace hrise := hide hrise
  replace hmany := hide hmany
  obtain ⟨lf, hlf⟩ : ∃ lf, lf = n.leaf := ⟨_, rfl⟩
  have hlt : lf = true := hlf.trans hleaf
  subst hlt
  replace hlf := hide hlf
  replace hleaf := hide hleaf
  go_enter Tryz.func51, Tryz.ntmps51
  go_wp2_with fail
  go_at_call 56
  refine hld.out.mono ?_
  rintro e w1 ⟨F1, cv, kv, B0, rfl, hP1, hE1, hF1, hwB, hO1⟩
  rw [← hlf.out]
  have hO1' := hO1.moreB (Nat.min_le_left B0 w1.heap.size)
  obtain ⟨Bm, hBm⟩ : ∃ Bm, Bm = min B0 w1.heap.size := ⟨_, rfl⟩
  rw [← hBm] at hO1'
  have hFm : ∀ j, F1 j → j < Bm := fun j hj => by have := hF1 j hj; have := hP1.lt j hj; omega
  have hwm : w.heap.size ≤ Bm := by have := hE1.size; omega
  have hms : Bm ≤ w1.heap.size := by omega
  have hW1 := hO1'.toW hFm
  obtain ⟨A1, c1, rfl⟩ := own_form hW1.kids
  obtain ⟨A2, c2, rfl⟩ := own_form hW1.rows.choose_spec.2.1
  obtain ⟨N, hN⟩ : ∃ N, N = n.cells.length := ⟨_, rfl⟩
  obtain ⟨K, hK⟩ : ∃ K, K = n.kids.length := ⟨_, rfl⟩
  rw [← hN, ← hK] at hW1 ⊢
  replace hN := hide hN
  replace hK := hide hK
  replace hO1 := hide hO1
  replace hO1' := hide hO1'
  replace hF1 := hide hF1
  replace hFm := hide hFm
  replace hBm := hide hBm
  replace hP1 := hide hP1
  replace hE1 := hide hE1
  replace hW1 := hide hW1
  go_wp2_with fail
  have hnF1 : ¬ F1 w1.heap.size := fun hf => by have := hP1.out.lt _ hf; omega
  have hbn := Blk.new w1 101 #[.bool true, .slice A2 N c2, .slice A1 K c1]
  have hE1a : Ev F w F1 (w1.alloc (.cells #[.bool true, .slice A2 N c2, .slice A1 K c1] 101)) := hE1.out.alloc_ _
  have hfd := hide (find_any (w1.alloc (.cells #[.bool true, .slice A2 N c2, .slice A1 K c1] 101)) (.agg #[.bool true, .slice A2 N c2, .slice A1 K c1]) n (by
    have h9 := (hW1.out.nodeM.ev ((Ev.refl F1 w1).alloc_ (.cells #[.bool true, .slice A2 N c2, .slice A1 K c1] 101))).old fun k hk => hk.1
    rw [← hlf.out] at h9
    exact h9) hrise.out (by have := hmany.out; omega) kA kc key (by have h9 := (hk.out.ev hE1a).rb; rw [hL.out] at h9; exact h9))
  rw [← hL.out] at hfd
  obtain ⟨I, hI⟩ : ∃ I, I = (findP n key).1 := ⟨_, rfl⟩
  obtain ⟨S, hS⟩ : ∃ S, S = (findP n key).2 := ⟨_, rfl⟩
  rw [← hI, ← hS] at hfd hop
  replace hI := hide hI
  replace hS := hide hS
  go_at_call 57
  refine hfd.out.mono ?_
  rintro e w2 ⟨rfl, hB2⟩
  have hb2 := hbn.below hB2 (by simp)
  have hP2 := (hP1.out.alloc (.cells #[.bool true, .slice A2 N c2, .slice A1 K c1] 101)).below hB2
  have hE2 := hE1a.below hB2
  have hW2 : NodeW F1 w2 Bm (.slice A2 N c2) (.slice A1 K c1) n := hW1.out.only (((Only.refl (fun _ => False) w1).alloc _).trans (Only.of_below hB2) (fun _ _ h => h)) (fun _ h => h.elim)
  have hs2 := hE2.size
  have hop2 := hide (hop.out w2 F1 w1.heap.size Bm (.slice A2 N c2) (.slice A1 K c1) hP2 hE2 hW2 (by rw [← hlf.out]; exact hb2) hnF1 hE1.out.size hwm (by have := hB2.size; simp at this; omega))
  have d0 := hb2.cell 0
  have d1 := hb2.cell 1
  have d2 := hb2.cell 2
  replace hb2 := hide hb2
  replace hbn := hide hbn
  replace hB2 := hide hB2
  replace hP2 := hide hP2
  replace hE1a := hide hE1a
  replace hE2 := hide hE2
  replace hW2 := hide hW2
  replace hnF1 := hide hnF1
  go_wp2_with fail
  go_at_call 52
  refine hop2.out.mono ?_
  rintro e w3 ⟨rfl, F3, B3, cv3, kv3, hP3, hO3, hG3, hW3, hb3⟩
  have hE3 : Ev F w F3 w3 := ⟨hE2.out.only.trans hO3 fun i hi hT => by
      rcases hT with hT | hT
      · rcases hE2.out.grow i hT with h9 | h9
        · exact h9
        · omega
      · omega, fun j hj => by
      rcases hG3 j hj with h9 | h9
      · exact hE2.out.grow j h9
      · exact .inr (by omega)⟩
  have hly := hide (hlay.out w3 F3 _ hP3 (ht.out.ev hE3) hW3.nodeM)
  obtain ⟨A3, c3, rfl⟩ := own_form hW3.rows.choose_spec.2.1
  obtain ⟨A4, c4, rfl⟩ := own_form hW3.kids
  obtain ⟨N3, hN3⟩ : ∃ N3, N3 = n1.cells.length := ⟨_, rfl⟩
  obtain ⟨K3, hK3⟩ : ∃ K3, K3 = n1.kids.length := ⟨_, rfl⟩
  obtain ⟨lf3, hlf3⟩ : ∃ lf3, lf3 = n1.leaf := ⟨_, rfl⟩
  rw [← hN3, ← hK3, ← hlf3] at hly hb3
  have q0 := hb3.cell 0
  have q1 := hb3.cell 1
  have q2 := hb3.cell 2
  have hs3 := hE3.size
  replace hN3 := hide hN3
  replace hK3 := hide hK3
  replace hlf3 := hide hlf3
  replace hb3 := hide hb3
  replace hP3 := hide hP3
  replace hO3 := hide hO3
  replace hG3 := hide hG3
  replace hW3 := hide hW3
  replace hE3 := hide hE3
  go_wp2_with fail
  go_at_call 90
  refine hly.out.mono ?_
  rintro e w4 ⟨F4, gl, m, rfl, hP4, hE4, hgl, hnl, hpc⟩
  have hdone : Hid (LayEnd F w gp no st2 l (.returned (.tuple #[.slice (some ⟨gl, 0, none⟩) m m, .int .i64 0])) w4) := hide ⟨F4, gl, m, rfl, hP4, hE3.out.trans hE4, by omega, hnl, hpc⟩
  replace hP4 := hide hP4
  replace hE4 := hide hE4
  replace hpc : Hid _ := hide hpc
  go_wp2_with fail
  go_ret2
  exact hdone.out
end Go.Proofs.YthohbbaglceppaaGreatDoor
namespace Go.Proofs.YthohbbaglceppaaGreatDoor
open Go.RowKit
set_option linter.unusedVariables false
set_option maxRecDepth 100000 in
set_option maxHeartbeats 2000000 in
theorem top_stays (w : World) (F : Nat → Prop) (gt gp k : Nat) (st : PgS) (h : PgAt w F gp st) (ht : TreeAt w F gt gp k) (gl no : Nat) (n : NodeP) (hb : Blk w gl 144 #[.slice none 0 0, .int .i64 (no : Int)]) (hnl : ¬ F gl) (hl : LoadR st no n) (hleaf : n.leaf = true) (hne : n.cells ≠ []) :
    Calls Tryz.prog 55 #[.pointer (some ⟨gt, 0, none⟩), .slice (some ⟨gl, 0, none⟩) 1 1] w (PgEnd F w gp st (.int .i64 0)) := by
  have hld := hide (load_any w F gt gp k st h ht no n hl hleaf)
  have hgl := Blk.lt hb
  have p0 := hb.cell 0
  have p1 : w.cell? ⟨gl, 1, none⟩ = some (.int .i64 (no : Int)) := hb.cell 1
  obtain ⟨N, hN⟩ : ∃ N, N = n.cells.length := ⟨_, rfl⟩
  have hN0 : (0 : Int) < (N : Int) := by
    have : n.cells.length ≠ 0 := fun e => hne (List.eq_nil_of_length_eq_zero e)
    omega
  have hNd : decide ((0 : Int) < (N : Int)) = true := decide_eq_true hN0
  have hNn : decide (0 < N) = true := decide_eq_true (by omega)
  obtain ⟨K, hK⟩ : ∃ K, K = n.kids.length := ⟨_, rfl⟩
  obtain ⟨lf, hlf⟩ : ∃ lf, lf = n.leaf := ⟨_, rfl⟩
  replace h := hide h
  replace ht := hide ht
  replace hl := hide hl
  replace hleaf := hide hleaf
  replace hne := hide hne
  replace hb := hide hb
  replace hK := hide hK
  replace hN := hide hN
  replace hlf := hide hlf
  go_enter Tryz.func55, Tryz.ntmps55
  go_wp2_with fail
  go_at_call 56
  refine hld.out.mono ?_
  rintro e w1 ⟨F1, cv, kv, B0, rfl, hP1, hE1, hF1, hwB, hO1⟩
  obtain ⟨A1, c1, rfl⟩ := own_form hO1.kids
  obtain ⟨A2, c2, rfl⟩ := own_form hO1.rows.choose_spec.2.1
  rw [← hN.out, ← hK.out, ← hlf.out]
  have hdone : Hid (∀ W, Below w1.heap.size w1 W → PgEnd F w gp st (.int .i64 0) (.returned (.int .i64 0)) W) := hide fun W hB => ⟨rfl, F1, hP1.below hB, hE1.below hB⟩
  have hB1 := (Below.refl w1.heap.size w1).alloc (Nat.le_refl _) (.cells #[.bool lf, .slice A2 N c2, .slice A1 K c1] 101)
  have hbn := Blk.new w1 101 #[.bool lf, .slice A2 N c2, .slice A1 K c1]
  have d0 := hbn.cell 0
  have d1 := hbn.cell 1
  have d2 := hbn.cell 2
  replace hbn := hide hbn
  replace hB1 := hide hB1
  replace hO1 := hide hO1
  replace hF1 := hide hF1
  replace hP1 := hide hP1
  replace hE1 := hide hE1
  go_wp2_with fail
  go_ret
  exact hdone.out _ hB1.out
end Go.Proofs.YthohbbaglceppaaGreatDoor
namespace Go.Proofs.YthohbbaglceppaaGreatDoor
open Go.RowKit
set_option linter.unusedVariables false
set_option maxRecDepth 100000 in
set_option maxHeartbeats 2000000 in
theorem put_first (w : World) (F : Nat → Prop) (gt gp k : Nat) (st : PgS) (h : PgAt w F gp st) (ht : TreeAt w F gt gp k) (hk8 : k < 8) (key b : List UInt8) (kA vA : Option Addr) (kc vc : Nat) (hk : MB F w kA key.length key) (hv : MB F w vA b.length b)
    (h1 : 1 ≤ key.length) (h2 : key.length ≤ 120) (h3 : b.length ≤ 64) (h0 : st.roots k = 0) (ha : CanAlloc st) (hf : st.free < st.many) (hs : CanSave (allocS st) (allocN st) ⟨true, [⟨key, b, 0, 0⟩], []⟩) (hn : allocN st < (allocS st).many) :
    Calls Tryz.prog 14 #[.pointer (some ⟨gt, 0, none⟩), .slice kA key.length kc, .slice vA b.length vc] w (PgEnd F w gp (setRootS (saveS (allocS st) (allocN st) ⟨true, [⟨key, b, 0, 0⟩], []⟩) k (allocN st)) (.int .i64 0)) := by
  obtain ⟨L, hL⟩ : ∃ L, L = key.length := ⟨_, rfl⟩
  obtain ⟨M, hM⟩ : ∃ M, M = b.length := ⟨_, rfl⟩
  rw [← hL] at hk h1 h2 ⊢
  rw [← hM] at hv h3 ⊢
  have l1 : decide ((L : Int) < 1) = false := decide_eq_false (by omega)
  have l2 : decide (120 < (L : Int)) = false := decide_eq_false (by omega)
  have l2n : decide (120 < L) = false := decide_eq_false (by omega)
  have l3 : decide (20000 < (M : Int)) = false := decide_eq_false (by omega)
  have l3n : decide (20000 < M) = false := decide_eq_false (by omega)
  have hL0 : ¬ L = 0 := by omega
  have hE0 : Ev F w F (w.alloc (.cells #[.pointer (some ⟨gt, 0, none⟩)] 30)) := (Ev.refl F w).alloc_ _
  have hb0 := Blk.new w 30 #[.pointer (some ⟨gt, 0, none⟩)]
  have hP0 := h.alloc (.cells #[.pointer (some ⟨gt, 0, none⟩)] 30)
  have hcl := hide (cell_short (w.alloc (.cells #[.pointer (some ⟨gt, 0, none⟩)] 30)) gt kA vA L M kc vc key b (hk.ev hE0).rb (hv.ev hE0).rb (by omega) h3)
  have c0 : (w.alloc (.cells #[.pointer (some ⟨gt, 0, none⟩)] 30)).cell? ⟨w.heap.size, 0, none⟩ = some (.pointer (some ⟨gt, 0, none⟩)) := hb0.cell 0
  have hgt := Blk.lt ht.blk
  have hnF : ¬ F w.heap.size := fun hf => by have := h.lt _ hf; omega
  replace h := hide h
  replace ht := hide ht
  replace hk := hide hk
  replace hv := hide hv
  replace hL := hide hL
  replace hM := hide hM
  replace hE0 := hide hE0
  replace hb0 := hide hb0
  replace hP0 := hide hP0
  replace h1 := hide h1
  replace h2 := hide h2
  replace h3 := hide h3
  replace h0 := hide h0
  replace ha := hide ha
  replace hf := hide hf
  replace hs := hide hs
  replace hn := hide hn
  go_enter Tryz.func14, Tryz.ntmps14
  go_wp2_with fail
  go_at_call 48
  refine hcl.out.mono ?_
  rintro e w2 ⟨x0, x1, he, hcv, hB2⟩
  replace he : e = .returned (.tuple #[.agg #[x0, x1, .int .i64 0, .int .i64 0], .int .i64 0]) := he
  subst he
  have hcv2 : CellV (G5 (w.heap.size + 1) w2) w2 [x0, x1, .int .i64 0, .int .i64 0] ⟨key, b, 0, 0⟩ := by simpa using hcv
  obtain ⟨A0, y0, A1, y1, hx0, hx1⟩ : ∃ A0 y0 A1 y1, x0 = .slice A0 L y0 ∧ x1 = .slice A1 M y1 := by
    obtain ⟨A0, y0, A1, y1, e9, _⟩ := hcv2
    injection e9 with e0 e9; injection e9 with e1 e9
    exact ⟨A0, y0, A1, y1, by rw [hL.out]; exact e0, by rw [hM.out]; exact e1⟩
  subst hx0; subst hx1
  have hb2 := hb0.out.below hB2 (by simp)
  have hE2 := hE0.out.below hB2
  have hP2 := hP0.out.below hB2
  have hs2 := hE2.size
  have hs2' : w.heap.size < w2.heap.size := by have := hB2.size; simp at this; omega
  obtain ⟨o, ho⟩ : ∃ o, o = Obj.cells #[.slice A0 L y0, .slice A1 M y1, .int .i64 0, .int .i64 0] 95 (0, 0) := ⟨_, rfl⟩
  have hE3 : Ev F w F (w2.alloc o) := hE2.alloc_ o
  have ht3 := ht.out.ev hE3
  have hP3 := hP2.alloc o
  have hb3 := hb2.alloc o
  have hc3 : Blk (w2.alloc o) w2.heap.size 95 #[.slice A0 L y0, .slice A1 M y1, .int .i64 0, .int .i64 0] := by rw [ho]; exact Blk.new _ _ _
  have hrt := hide (fun q => root_any ((w2.alloc o).drewN q) F gp st (hP3.drewN q) k hk8)
  rw [h0.out] at hrt
  have t0 : (w2.alloc o).cell? ⟨w.heap.size, 0, none⟩ = some (.pointer (some ⟨gt, 0, none⟩)) := hb3.cell 0
  have t1 : (w2.alloc o).cell? ⟨gt, 0, none⟩ = some (.pointer (some ⟨gp, 0, none⟩)) := ht3.blk.cell 0
  have t2 : (w2.alloc o).cell? ⟨gt, 1, none⟩ = some (.int .i64 (k : Int)) := ht3.blk.cell 1
  have t4 := hc3.cell 0
  have t5 := hc3.cell 1
  have t6 := hc3.cell 2
  have t7 := hc3.cell 3
  subst ho
  replace hcv := hide hcv
  replace hcv2 := hide hcv2
  replace hB2 := hide hB2
  replace hb2 := hide hb2
  replace hE2 := hide hE2
  replace hP2 := hide hP2
  replace hE3 := hide hE3
  replace ht3 := hide ht3
  replace hP3 := hide hP3
  replace hb3 := hide hb3
  replace hc3 := hide hc3
  clear hcl
  go_wp2_with fail
  go_quiet (first | (go_at_call 28; exact quiet_left (hrt.out _)))
  obtain ⟨w5, hw5⟩ : ∃ w5, w5 = (w2.alloc (.cells #[.slice A0 L y0, .slice A1 M y1, .int .i64 0, .int .i64 0] 95)).drewN nq := ⟨_, rfl⟩
  rw [← hw5]
  have hE5 : Ev F w F w5 := by rw [hw5]; exact hE3.out.drewN nq
  have hP5 : PgAt w5 F gp st := by rw [hw5]; exact hP3.out.drewN nq
  have hs5 : w5.heap.size = w2.heap.size + 1 := by rw [hw5]; simp [World.drewN]
  have t0 : w5.cell? ⟨w.heap.size, 0, none⟩ = some (.pointer (some ⟨gt, 0, none⟩)) := by rw [hw5]; exact t0
  have r0 : w5.cell? ⟨w2.heap.size, 0, none⟩ = some (.slice A0 L y0) := by rw [hw5]; exact t4
  have r1 : w5.cell? ⟨w2.heap.size, 1, none⟩ = some (.slice A1 M y1) := by rw [hw5]; exact t5
  have r2 : w5.cell? ⟨w2.heap.size, 2, none⟩ = some (.int .i64 0) := by rw [hw5]; exact t6
  have r3 : w5.cell? ⟨w2.heap.size, 3, none⟩ = some (.int .i64 0) := by rw [hw5]; exact t7
  have hE6 : Ev F w F (w5.alloc (.cells #[.slice A0 L y0, .slice A1 M y1, .int .i64 0, .int .i64 0] 95)) := hE5.alloc_ _
  have hb6 := Blk.new w5 95 #[.slice A0 L y0, .slice A1 M y1, .int .i64 0, .int .i64 0]
  have hFlt := h.out.lt
  have hn6 : NodeM (Mine F (w5.alloc (.cells #[.slice A0 L y0, .slice A1 M y1, .int .i64 0, .int .i64 0] 95))) (w5.alloc (.cells #[.slice A0 L y0, .slice A1 M y1, .int .i64 0, .int .i64 0] 95)) (.agg #[.bool true, .slice (some ⟨w5.heap.size, 0, none⟩) 1 1, .slice none 0 0]) ⟨true, [⟨key, b, 0, 0⟩], []⟩ := by
    refine ⟨some ⟨w5.heap.size, 0, none⟩, 1, none, 0, rfl, Nat.le_refl _, Nat.le_refl _, ⟨[[.slice A0 L y0, .slice A1 M y1, .int .i64 0, .int .i64 0]], rfl, ⟨rfl, fun _ => ⟨_, rfl, ⟨by simp, fun hf => by have h9 : w5.heap.size < w.heap.size := hFlt _ hf; omega⟩, fun j u hu => ?_⟩⟩, fun q vs c e1 e2 => ?_⟩, Rd.none_⟩
    · rw [Addr.add_lit, Nat.zero_add, hb6.cell]
      simpa using hu
    · obtain rfl : q = 0 := by
        have := (List.getElem?_eq_some_iff.1 e1).1
        simp at this; exact this
      simp at e1 e2
      subst e1; subst e2
      refine hcv2.out.keep fun q hq => ?_
      obtain ⟨q1, cs, q2⟩ := hq
      have q3 : Blk (w5.alloc (.cells #[.slice A0 L y0, .slice A1 M y1, .int .i64 0, .int .i64 0] 95)) q 5 cs := by
        rw [hw5]; exact ((q2.alloc _).drewN nq).alloc _
      exact ⟨⟨Blk.lt q3, fun hf => by have := hFlt _ hf; omega⟩, Eq.trans q3 q2.symm⟩
  have hmk := hide (make_any _ F gt gp k st (hP5.alloc (.cells #[.slice A0 L y0, .slice A1 M y1, .int .i64 0, .int .i64 0] 95)) (ht.out.ev hE6) ⟨true, [⟨key, b, 0, 0⟩], []⟩ _ hn6 ha.out hf.out hs.out)
  have hb6t : (w5.alloc (.cells #[.slice A0 L y0, .slice A1 M y1, .int .i64 0, .int .i64 0] 95)).cell? ⟨w.heap.size, 0, none⟩ = some (.pointer (some ⟨gt, 0, none⟩)) := by
    rw [World.cell?_alloc_lt _ _ _ (by show w.heap.size < w5.heap.size; omega)]; exact t0
  obtain ⟨no, hno⟩ : ∃ no, no = allocN st := ⟨_, rfl⟩
  obtain ⟨st1, hst1⟩ : ∃ st1, st1 = saveS (allocS st) no ⟨true, [⟨key, b, 0, 0⟩], []⟩ := ⟨_, rfl⟩
  rw [← hno, ← hst1] at hmk ⊢
  have hnm : Hid (no < st1.many) := hide (by rw [hst1, hno]; exact hn.out)
  replace hno := hide hno
  replace hst1 := hide hst1
  replace hw5 := hide hw5
  replace hs5 := hide hs5
  replace hE5 := hide hE5
  replace hP5 := hide hP5
  replace hE6 := hide hE6
  replace hb6 := hide hb6
  replace hFlt := hide hFlt
  replace hn6 := hide hn6
  go_wp2_with fail
  go_at_call 49
  refine hmk.out.mono ?_
  rintro e w7 ⟨rfl, F7, hP7, hE7⟩
  have ht7 := ht.out.ev (hE6.out.trans hE7)
  have u0 : w7.cell? ⟨w.heap.size, 0, none⟩ = some (.pointer (some ⟨gt, 0, none⟩)) := (hE7.cell (p := ⟨w.heap.size, 0, none⟩) ⟨by have := hs5.out; show w.heap.size < (w5.alloc _).heap.size; simp; omega, hnF⟩).trans hb6t
  have u1 : w7.cell? ⟨gt, 0, none⟩ = some (.pointer (some ⟨gp, 0, none⟩)) := ht7.blk.cell 0
  have u2 : w7.cell? ⟨gt, 1, none⟩ = some (.int .i64 (k : Int)) := ht7.blk.cell 1
  have hsr := hide (setRoot_any w7.drew F7 gp st1 hP7.drew k no hk8 hnm.out)
  have hE7w := hide ((hE6.out.trans hE7).drew)
  replace ht7 := hide ht7
  replace hP7 := hide hP7
  replace hE7 := hide hE7
  have hfold : Hid (∀ w8, PgEnd F w gp (setRootS st1 k no) (.int .i64 0) (.returned (.int .i64 0)) w8 → PgEnd F w gp (setRootS (saveS (allocS st) (allocN st) ⟨true, [⟨key, b, 0, 0⟩], []⟩) k (allocN st)) (.int .i64 0) (.returned (.int .i64 0)) w8) := hide fun w8 h9 => by
    rw [hst1.out, hno.out] at h9; exact h9
  clear hmk hrt
  go_wp2_with fail
  go_region_law (go_simp; go_at_call 50; refine hsr.out.mono ?_; rintro e w8 ⟨rfl, F8, hP8, hE8⟩; (have hdone := hfold.out w8 ⟨rfl, F8, hP8, hE7w.out.trans hE8⟩); replace hdone := hide hdone; replace hP8 := hide hP8; replace hE8 := hide hE8)
  all_goals
    go_wp2_with fail
    go_ret
    exact hdone.out
end Go.Proofs.YthohbbaglceppaaGreatDoor
namespace Go.Proofs.YthohbbaglceppaaGreatDoor
open Go.RowKit
set_option linter.unusedVariables false
theorem findP_le (n : NodeP) (key : List UInt8) (h : (findP n key).2 = false) : (findP n key).1 ≤ n.cells.length := by
  unfold findP at h ⊢
  by_cases h9 : keyAt n.cells (findI n.cells key) key = true
  · rw [if_pos h9] at h; cases h
  · rw [if_neg h9]
    exact List.Sublist.length_le (List.takeWhile_sublist _)
theorem CellV.evB {F F' : Nat → Prop} {w w' : World} {vs : List Value} {c : CellP} (h : CellV (byteOf F w) w vs c) (he : Ev F w F' w') : CellV (byteOf F' w') w' vs c :=
  h.keep fun k hk => by
    obtain ⟨h1, cs, h2⟩ := hk
    have := he.block h1
    exact ⟨⟨he.mine h1, cs, Eq.trans this h2⟩, this⟩
set_option maxRecDepth 100000 in
set_option maxHeartbeats 2000000 in
theorem put_more (w : World) (F : Nat → Prop) (gt gp k : Nat) (st : PgS) (h : PgAt w F gp st) (ht : TreeAt w F gt gp k) (hk8 : k < 8) (key b : List UInt8) (kA vA : Option Addr) (kc vc : Nat) (hk : MB F w kA key.length key) (hv : MB F w vA b.length b)
    (h1 : 1 ≤ key.length) (h2 : key.length ≤ 120) (h3 : b.length ≤ 64) (no : Nat) (h0 : st.roots k = no) (hno : no ≠ 0) (n n1 : NodeP) (hl : LoadR st no n) (hleaf : n.leaf = true) (hnew : (findP n key).2 = false) (hn1 : n1 = ⟨n.leaf, insAt n.cells (findP n key).1 ⟨key, b, 0, 0⟩, n.kids⟩) (hs : CanSave st no n1) :
    Calls Tryz.prog 14 #[.pointer (some ⟨gt, 0, none⟩), .slice kA key.length kc, .slice vA b.length vc] w (PgEnd F w gp (saveS st no n1) (.int .i64 0)) := by
  have hnoI : ((no : Int) == 0) = false := by rw [beq_eq_false_iff_ne]; omega
  obtain ⟨L, hL⟩ : ∃ L, L = key.length := ⟨_, rfl⟩
  obtain ⟨M, hM⟩ : ∃ M, M = b.length := ⟨_, rfl⟩
  rw [← hL] at hk h1 h2 ⊢
  rw [← hM] at hv h3 ⊢
  have l1 : decide ((L : Int) < 1) = false := decide_eq_false (by omega)
  have l2 : decide (120 < (L : Int)) = false := decide_eq_false (by omega)
  have l2n : decide (120 < L) = false := decide_eq_false (by omega)
  have l3 : decide (20000 < (M : Int)) = false := decide_eq_false (by omega)
  have l3n : decide (20000 < M) = false := decide_eq_false (by omega)
  have hL0 : ¬ L = 0 := by omega
  have hE0 : Ev F w F (w.alloc (.cells #[.pointer (some ⟨gt, 0, none⟩)] 30)) := (Ev.refl F w).alloc_ _
  have hb0 := Blk.new w 30 #[.pointer (some ⟨gt, 0, none⟩)]
  have hP0 := h.alloc (.cells #[.pointer (some ⟨gt, 0, none⟩)] 30)
  have hcl := hide (cell_short (w.alloc (.cells #[.pointer (some ⟨gt, 0, none⟩)] 30)) gt kA vA L M kc vc key b (hk.ev hE0).rb (hv.ev hE0).rb (by omega) h3)
  have c0 : (w.alloc (.cells #[.pointer (some ⟨gt, 0, none⟩)] 30)).cell? ⟨w.heap.size, 0, none⟩ = some (.pointer (some ⟨gt, 0, none⟩)) := hb0.cell 0
  have hgt := Blk.lt ht.blk
  have hnF : ¬ F w.heap.size := fun hf => by have := h.lt _ hf; omega
  replace h := hide h
  replace ht := hide ht
  replace hk := hide hk
  replace hv := hide hv
  replace hL := hide hL
  replace hM := hide hM
  replace hE0 := hide hE0
  replace hb0 := hide hb0
  replace hP0 := hide hP0
  replace h1 := hide h1
  replace h2 := hide h2
  replace h3 := hide h3
  replace h0 := hide h0
  replace hs := hide hs
  replace hl := hide hl
  replace hleaf := hide hleaf
  replace hnew := hide hnew
  replace hn1 := hide hn1
  replace hno := hide hno
  go_enter Tryz.func14, Tryz.ntmps14
  go_wp2_with fail
  go_at_call 48
  refine hcl.out.mono ?_
  rintro e w2 ⟨x0, x1, he, hcv, hB2⟩
  replace he : e = .returned (.tuple #[.agg #[x0, x1, .int .i64 0, .int .i64 0], .int .i64 0]) := he
  subst he
  have hcv2 : CellV (G5 (w.heap.size + 1) w2) w2 [x0, x1, .int .i64 0, .int .i64 0] ⟨key, b, 0, 0⟩ := by simpa using hcv
  obtain ⟨A0, y0, A1, y1, hx0, hx1⟩ : ∃ A0 y0 A1 y1, x0 = .slice A0 L y0 ∧ x1 = .slice A1 M y1 := by
    obtain ⟨A0, y0, A1, y1, e9, _⟩ := hcv2
    injection e9 with e0 e9; injection e9 with e1 e9
    exact ⟨A0, y0, A1, y1, by rw [hL.out]; exact e0, by rw [hM.out]; exact e1⟩
  subst hx0; subst hx1
  have hb2 := hb0.out.below hB2 (by simp)
  have hE2 := hE0.out.below hB2
  have hP2 := hP0.out.below hB2
  have hs2 := hE2.size
  have hs2' : w.heap.size < w2.heap.size := by have := hB2.size; simp at this; omega
  obtain ⟨o, ho⟩ : ∃ o, o = Obj.cells #[.slice A0 L y0, .slice A1 M y1, .int .i64 0, .int .i64 0] 95 (0, 0) := ⟨_, rfl⟩
  have hE3 : Ev F w F (w2.alloc o) := hE2.alloc_ o
  have ht3 := ht.out.ev hE3
  have hP3 := hP2.alloc o
  have hb3 := hb2.alloc o
  have hc3 : Blk (w2.alloc o) w2.heap.size 95 #[.slice A0 L y0, .slice A1 M y1, .int .i64 0, .int .i64 0] := by rw [ho]; exact Blk.new _ _ _
  have hrt := hide (fun q => root_any ((w2.alloc o).drewN q) F gp st (hP3.drewN q) k hk8)
  rw [h0.out] at hrt
  have t0 : (w2.alloc o).cell? ⟨w.heap.size, 0, none⟩ = some (.pointer (some ⟨gt, 0, none⟩)) := hb3.cell 0
  have t1 : (w2.alloc o).cell? ⟨gt, 0, none⟩ = some (.pointer (some ⟨gp, 0, none⟩)) := ht3.blk.cell 0
  have t2 : (w2.alloc o).cell? ⟨gt, 1, none⟩ = some (.int .i64 (k : Int)) := ht3.blk.cell 1
  have t4 := hc3.cell 0
  have t5 := hc3.cell 1
  have t6 := hc3.cell 2
  have t7 := hc3.cell 3
  subst ho
  replace hcv := hide hcv
  replace hcv2 := hide hcv2
  replace hB2 := hide hB2
  replace hb2 := hide hb2
  replace hE2 := hide hE2
  replace hP2 := hide hP2
  replace hE3 := hide hE3
  replace ht3 := hide ht3
  replace hP3 := hide hP3
  replace hb3 := hide hb3
  replace hc3 := hide hc3
  clear hcl
  go_wp2_with fail
  go_quiet (first | (go_at_call 28; exact quiet_left (hrt.out _)))
  obtain ⟨w5, hw5⟩ : ∃ w5, w5 = (w2.alloc (.cells #[.slice A0 L y0, .slice A1 M y1, .int .i64 0, .int .i64 0] 95)).drewN nq := ⟨_, rfl⟩
  rw [← hw5]
  have hE5 : Ev F w F w5 := by rw [hw5]; exact hE3.out.drewN nq
  have hP5 : PgAt w5 F gp st := by rw [hw5]; exact hP3.out.drewN nq
  have hs5 : w5.heap.size = w2.heap.size + 1 := by rw [hw5]; simp [World.drewN]
  have t0 : w5.cell? ⟨w.heap.size, 0, none⟩ = some (.pointer (some ⟨gt, 0, none⟩)) := by rw [hw5]; exact t0
  have r0 : w5.cell? ⟨w2.heap.size, 0, none⟩ = some (.slice A0 L y0) := by rw [hw5]; exact t4
  have r1 : w5.cell? ⟨w2.heap.size, 1, none⟩ = some (.slice A1 M y1) := by rw [hw5]; exact t5
  have r2 : w5.cell? ⟨w2.heap.size, 2, none⟩ = some (.int .i64 0) := by rw [hw5]; exact t6
  have r3 : w5.cell? ⟨w2.heap.size, 3, none⟩ = some (.int .i64 0) := by rw [hw5]; exact t7
  have ht5 := ht.out.ev hE5
  have hgcF : ¬ F w2.heap.size := fun hf => by have := h.out.lt _ hf; omega
  have hFlt := h.out.lt
  have hc5 : Blk w5 w2.heap.size 95 #[.slice A0 L y0, .slice A1 M y1, .int .i64 0, .int .i64 0] := by rw [hw5]; exact hc3.out.drewN nq
  have hcv5 : CellV (byteOf F w5) w5 [.slice A0 L y0, .slice A1 M y1, .int .i64 0, .int .i64 0] ⟨key, b, 0, 0⟩ := hcv2.out.keep fun q hq => by
    obtain ⟨q1, cs, q2⟩ := hq
    have q3 : Blk w5 q 5 cs := by rw [hw5]; exact (q2.alloc _).drewN nq
    exact ⟨⟨⟨Blk.lt q3, fun hf => by have := hFlt _ hf; omega⟩, cs, q3⟩, Eq.trans q3 q2.symm⟩
  have hlenn : n.cells.length ≤ 100000 := by have := hl.out.2.1.many; omega
  have hop : OpC 52 (.pointer (some ⟨w2.heap.size, 0, none⟩)) (.pointer (some ⟨w.heap.size, 0, none⟩)) w5 F gp st n (findP n key).1 (findP n key).2 st n1 := by
    intro w1 F1 gn B cv kv q1 q2 q3 q4 q5 q6 q7 q8
    rw [hnew.out, hn1.out]
    exact put1_new w1 F1 gp st q1 gn w2.heap.size w.heap.size B w5.heap.size (findP n key).1 cv kv n ⟨key, b, 0, 0⟩ _ _ _ _ q3 q4 (q2.blk hc5 hgcF) (hcv5.evB q2) (findP_le n key hnew.out) hlenn q6 q7 q8 q5
  have hly : LayC w5 F gt gp k no st n1 (saveS st no n1) none := fun w1 F1 v q1 q2 q3 => lay_fits w1 F1 gt gp k st q1 q2 no n1 v q3 hs.out
  have hk5 := hk.out.ev hE5
  rw [hL.out] at hk5
  have hch := hide (change_leaf w5 F gt gp k st hP5 ht5 no n hl.out hleaf.out kA kc key hk5 w2.heap.size w.heap.size st (saveS st no n1) n1 none hop hly)
  rw [← hL.out] at hch
  clear hop hly hk5
  replace hw5 := hide hw5
  replace hs5 := hide hs5
  replace hE5 := hide hE5
  replace hP5 := hide hP5
  replace ht5 := hide ht5
  replace hc5 := hide hc5
  replace hcv5 := hide hcv5
  replace hFlt := hide hFlt
  replace hgcF := hide hgcF
  clear hrt
  go_wp2_with fail
  go_at_call 51
  refine hch.out.mono ?_
  rintro e w8 ⟨F8, gl, m, rfl, hP8, hE8, hgl, hnl, rfl, hb8⟩
  have hE8w := hE5.out.trans hE8
  have u0 : w8.cell? ⟨w.heap.size, 0, none⟩ = some (.pointer (some ⟨gt, 0, none⟩)) := (hE8.cell (p := ⟨w.heap.size, 0, none⟩) ⟨by have := hs5.out; show w.heap.size < w5.heap.size; omega, hnF⟩).trans t0
  have htp := hide (top_stays w8 F8 gt gp k (saveS st no n1) hP8 (ht.out.ev hE8w) gl no n1 hb8 hnl (load_saved hs.out) (by rw [hn1.out]; exact hleaf.out) (by rw [hn1.out]; unfold insAt; simp))
  replace hE8w := hide hE8w
  replace hE8 := hide hE8
  replace hP8 := hide hP8
  replace hb8 := hide hb8
  go_wp2_with fail
  go_at_call 55
  refine htp.out.mono ?_
  rintro e w9 ⟨rfl, F9, hP9, hE9⟩
  have hdone : Hid (PgEnd F w gp (saveS st no n1) (.int .i64 0) (.returned (.int .i64 0)) w9) := hide ⟨rfl, F9, hP9, hE8w.out.trans hE9⟩
  replace hP9 := hide hP9
  replace hE9 := hide hE9
  go_wp2_with fail
  go_ret
  exact hdone.out
end Go.Proofs.YthohbbaglceppaaGreatDoor
