/-
  Contract of slices.Insert of one cell into a row of cells of the call's own.
-/
import Derived.Test.YtiffnfgmkkoaeaaGreatDoorBnGr20
import Derived.Shelf.Spec.SlicesInsert
import Derived.Shelf.Spec.SlicesInsertGrow
import Derived.Lib.AppendZerosOnto
import Derived.Test.YtiffnfgmkkoaeaaGreatDoorBnTrA
namespace Go.Proofs.YtiffnfgmkkoaeaaGreatDoor
open Go.RowKit
set_option linter.unusedVariables false
end Go.Proofs.YtiffnfgmkkoaeaaGreatDoor
namespace Go.Proofs.YtiffnfgmkkoaeaaGreatDoor
open Go.RowKit
set_option linter.unusedVariables false
end Go.Proofs.YtiffnfgmkkoaeaaGreatDoor
namespace Go.Proofs.YtiffnfgmkkoaeaaGreatDoor
open Go.RowKit
set_option linter.unusedVariables false
def byteOf (F : Nat → Prop) (w : World) (k : Nat) : Prop := Mine F w k ∧ ∃ cs, Blk w k 5 cs
def CellsW (F : Nat → Prop) (w : World) (rows : List (List Value)) (cs : List CellP) : Prop := ∀ (k : Nat) (vs : List Value) (c : CellP), rows[k]? = some vs → cs[k]? = some c → CellV (byteOf F w) w vs c
structure NodeW (F : Nat → Prop) (w : World) (B : Nat) (cv kv : Value) (n : NodeP) : Prop where
  rows : ∃ rows : List (List Value), rows.length = n.cells.length ∧ w.ownsRow B 123 4 cv n.cells.length rows.flatten ∧ CellsW F w rows n.cells
  kids : w.ownsRow B 3 1 kv n.kids.length (n.kids.map encI)
  above : ∀ j, F j → j < B
section
variable {F F' S : Nat → Prop} {w w' : World} {B : Nat} {cv kv : Value} {n : NodeP} {rows : List (List Value)} {cs : List CellP}
theorem NodeOwn.toW (h : NodeOwn w B cv kv n) (hF : ∀ j, F j → j < B) : NodeW F w B cv kv n := by
  obtain ⟨rows, h1, h2, h3⟩ := h.rows
  exact ⟨⟨rows, h1, h2, fun k vs c e1 e2 => (h3 k vs c e1 e2).mono fun j hj => ⟨⟨Blk.lt hj.2.choose_spec, fun hf => by have := hF j hf; have := hj.1; omega⟩, hj.2⟩⟩, h.kids, hF⟩
theorem CellV.keepW {vs : List Value} {c : CellP} (h : CellV (byteOf F w) w vs c) (hO : Only S w w') (hS : ∀ k cs, S k → ¬ Blk w k 5 cs) : CellV (byteOf F w') w' vs c :=
  h.keep fun j hj => by
    obtain ⟨⟨h1, h2⟩, bs, hb⟩ := hj
    have hb' : Blk w' j 5 bs := hO.blk hb fun hs => hS _ _ hs hb
    exact ⟨⟨⟨Blk.lt hb', h2⟩, bs, hb'⟩, Eq.trans hb' hb.symm⟩
theorem CellsW.keepW (h : CellsW F w rows cs) (hO : Only S w w') (hS : ∀ k cs, S k → ¬ Blk w k 5 cs) : CellsW F w' rows cs := fun k vs c e1 e2 => (h k vs c e1 e2).keepW hO hS
theorem CellsW.one (h : CellsW F w rows cs) (hl : rows.length = cs.length) : ∀ u ∈ rows.flatten, u.oneCell' = true := by
  intro u hu
  obtain ⟨vs, hvs, huv⟩ := List.mem_flatten.1 hu
  obtain ⟨k, hk, e⟩ := List.getElem_of_mem hvs
  obtain ⟨kA, kc, vA, vc, e2, _⟩ := h k vs cs[k] (by rw [List.getElem?_eq_getElem hk, e]) (List.getElem?_eq_getElem (by omega))
  subst e2
  simp at huv
  rcases huv with rfl | rfl | rfl | rfl <;> rfl
theorem flatten_take4 : ∀ (rows : List (List Value)) (i : Nat), (∀ r ∈ rows, r.length = 4) → (rows.take i).flatten = rows.flatten.take (i * 4) ∧ (rows.drop i).flatten = rows.flatten.drop (i * 4)
  | [], i, _ => by simp
  | r :: t, 0, _ => by simp
  | r :: t, i + 1, h => by
    have hr : r.length = 4 := h r (.head _)
    obtain ⟨h1, h2⟩ := flatten_take4 t i fun x hx => h x (.tail _ hx)
    have e : (i + 1) * 4 = r.length + i * 4 := by omega
    constructor
    · rw [List.take_succ_cons, List.flatten_cons, List.flatten_cons, h1, e, List.take_length_add_append]
    · rw [List.drop_succ_cons, List.flatten_cons, h2, e, List.drop_length_add_append]
theorem NodeW.only (h : NodeW F w B cv kv n) (hO : Only S w w') (hS : ∀ k, S k → ∃ t cs, Blk w k t cs ∧ t ≠ 5 ∧ t ≠ 123 ∧ t ≠ 3) : NodeW F w' B cv kv n := by
  obtain ⟨rows, h1, h2, h3⟩ := h.rows
  refine ⟨⟨rows, h1, hO.row h2 fun k hk hs => ?_, h3.keepW hO fun k cs hk hb => ?_⟩, hO.row h.kids fun k hk hs => ?_, h.above⟩
  · obtain ⟨t, cs', hb', _, ht, _⟩ := hS k hs
    exact own_blk_ne h2 hb' (Ne.symm ht) hk
  · obtain ⟨t, cs', hb', ht, _⟩ := hS k hk
    exact Blk.ne_ hb hb' (Ne.symm ht) rfl
  · obtain ⟨t, cs', hb', _, _, ht⟩ := hS k hs
    exact own_blk_ne h.kids hb' (Ne.symm ht) hk
theorem NodeW.nodeM (h : NodeW F w B cv kv n) : NodeM (Mine F w) w (.agg #[.bool n.leaf, cv, kv]) n := by
  obtain ⟨rows, h1, h2, h3⟩ := h.rows
  have hk := h.kids
  have hsl : ∀ {e : TypeId} {size m : Nat} {v : Value} {xs : List Value}, w.ownsRow B e size v m xs → ∃ A c, v = .slice A m c ∧ m ≤ c := by
    intro e size m v xs h
    rcases h.2 with ⟨rfl, rfl⟩ | ⟨g, cap, cur, rfl, _, _, h3, _⟩
    · exact ⟨none, 0, rfl, Nat.le_refl _⟩
    · exact ⟨_, _, rfl, h3⟩
  obtain ⟨A, c, rfl, hc⟩ := hsl h2
  obtain ⟨A', d, rfl, hd⟩ := hsl hk
  have hG : ∀ k, B ≤ k → k < w.heap.size → Mine F w k := fun k hb hl => ⟨hl, fun hf => by have := h.above k hf; omega⟩
  exact ⟨A, c, A', d, rfl, hc, hd, ⟨rows, h1, Rd.of_own h2 hG, fun k vs x e1 e2 => (h3 k vs x e1 e2).mono fun j hj => hj.1⟩, Rd.of_own hk hG⟩
end
end Go.Proofs.YtiffnfgmkkoaeaaGreatDoor
namespace Go.Proofs.YtiffnfgmkkoaeaaGreatDoor
open Go.RowKit
set_option linter.unusedVariables false
theorem own_lt {w : World} {B size m k : Nat} {e : TypeId} {v : Value} {xs : List Value} (h : w.ownsRow B e size v m xs) (hk : v.ownBlock = some k) : B ≤ k ∧ k < w.heap.size := by
  rcases h.2 with ⟨e, _⟩ | ⟨g, cap, cur, e, hg, hh, _⟩
  · rw [e] at hk; simp [Value.ownBlock] at hk
  · rw [e] at hk
    have : g = k := by simpa [Value.ownBlock] using hk
    subst this
    exact ⟨hg, Blk.lt (show Blk w g _ cur from hh)⟩
theorem own_form {w : World} {B size m : Nat} {e : TypeId} {v : Value} {xs : List Value} (h : w.ownsRow B e size v m xs) : ∃ A c, v = .slice A m c := by
  rcases h.2 with ⟨rfl, h0⟩ | ⟨g, cap, cur, rfl, _⟩
  · rw [h0]; exact ⟨none, 0, rfl⟩
  · exact ⟨_, _, rfl⟩
end Go.Proofs.YtiffnfgmkkoaeaaGreatDoor
namespace Go.Proofs.YtiffnfgmkkoaeaaGreatDoor
open Go.RowKit
set_option linter.unusedVariables false
end Go.Proofs.YtiffnfgmkkoaeaaGreatDoor
namespace Go.Proofs.YtiffnfgmkkoaeaaGreatDoor
open Go.RowKit
set_option linter.unusedVariables false
set_option maxHeartbeats 400000 in
theorem tclone_any (A : Option Addr) (n c : Nat) (xs : List UInt8) (w : World) (ha : RB w w.heap.size A n xs) (hn : n ≤ 140737488351232) :
    Calls Tryz.prog 55 #[.slice A n c] w (RetB w xs) := by
  have hnil := fun wx => Lib.run_eql_slice_nil (P := Tryz.prog) wx 62 5 A n c 0 0 Tryz.underlying62
  rcases A with _ | ad
  · have hn0 : n = 0 := by
      rcases Nat.eq_zero_or_pos n with h0 | h0
      · exact h0
      · obtain ⟨ad, h, _⟩ := ha.2 h0; cases h
    subst hn0
    have hx : xs = [] := List.eq_nil_of_length_eq_zero ha.len
    subst hx
    clear ha
    go_enter Tryz.func55, Tryz.ntmps55
    go_wp2
    go_ret
    exact RetB.mk (OB.nil _ _) (Below.refl _ _)
  · have HA := hide ha
    clear ha
    go_enter Tryz.func55, Tryz.ntmps55
    go_wp2_with (at_builtin; refine wpList_app_b rfl (.tmp 5) (.tmp 6) rfl w.heap.size _ 0 [] (OB.empty w (Nat.le_refl _)) rfl w.heap.size (some ad) n c xs rfl (HA.out.alloc (Nat.le_refl _) _) (by omega) (by simp) ?_; intro v1 w1 hown1 hb1 hg1 hat1)
    go_ret
    exact RetB.mk hown1 (((Below.refl _ _).alloc (Nat.le_refl _) _).trans hb1)
def CellEnd (w : World) (c : CellP) (e : Ending) (w' : World) : Prop :=
  ∃ x0 x1, e = .returned (.tuple #[.agg #[x0, x1, .int .i64 (c.over : Int), .int .i64 (c.long : Int)], .int .i64 0]) ∧ CellV (G5 w.heap.size w') w' [x0, x1, .int .i64 (c.over : Int), .int .i64 (c.long : Int)] c ∧ Below w.heap.size w w'
theorem G5.below {B : Nat} {w w' : World} (hb : Below w.heap.size w w') {k : Nat} (h : G5 B w k) : G5 B w' k ∧ w'.heap[k]? = w.heap[k]? := by
  obtain ⟨h1, cs, h2⟩ := h
  have := hb.block k (Blk.lt h2)
  exact ⟨⟨h1, cs, this.trans h2⟩, this⟩
set_option maxRecDepth 100000 in
set_option maxHeartbeats 1000000 in
theorem cell_short (w : World) (gt : Nat) (kA vA : Option Addr) (L M kc vc : Nat) (key b : List UInt8) (hk : RB w w.heap.size kA L key) (hv : RB w w.heap.size vA M b) (hL : L ≤ 1000000) (hM : M ≤ 64) :
    Calls Tryz.prog 67 #[.pointer (some ⟨gt, 0, none⟩), .slice kA L kc, .slice vA M vc] w (CellEnd w ⟨key, b, 0, 0⟩) := by
  have hMI : (M : Int) ≤ 64 := by omega
  have hlk : Hid (key.length = L) := hide hk.len
  have hlb : Hid (b.length = M) := hide hv.len
  have hB0 := (Below.refl w.heap.size w).alloc (Nat.le_refl _) (.cells #[.slice none 0 0, .slice none 0 0, .int .i64 0, .int .i64 0] 123)
  have hb0 := Blk.new w 123 #[.slice none 0 0, .slice none 0 0, .int .i64 0, .int .i64 0]
  have hcl := hide (tclone_any kA L kc key (w.alloc (.cells #[.slice none 0 0, .slice none 0 0, .int .i64 0, .int .i64 0] 123)) (hk.allocs _) (by omega))
  replace hk := hide hk
  replace hv := hide hv
  replace hB0 := hide hB0
  replace hb0 := hide hb0
  go_enter Tryz.func67, Tryz.ntmps67
  go_wp2_with fail
  go_at_call 55
  refine hcl.out.mono ?_
  rintro e w2 ⟨v2, rfl, hO2, hB2⟩
  rw [hlk.out] at hO2
  obtain ⟨A2, c2, rfl, hr2, _, hc2, _⟩ := hO2.form
  have hb2 := hb0.out.below hB2 (Blk.lt hb0.out)
  replace hO2 := hide hO2
  replace hB2 := hide hB2
  replace hr2 := hide hr2
  replace hc2 := hide hc2
  have z0 := hb2.cell 0
  have z1 := hb2.cell 1
  have z2 := hb2.cell 2
  have z3 := hb2.cell 3
  replace hb2 := hide hb2
  go_wp2_with fail
  have hBw2 : Below w.heap.size w w2 := hB0.out.trans (hB2.out.mono (by simp))
  have hlt : w.heap.size < w2.heap.size := by have := hB2.out.size; simp at this; omega
  have hne : ¬ w2.heap.size = w.heap.size := by omega
  have hne2 : ¬ w.heap.size = w2.heap.size := by omega
  have hcl2 := hide (tclone_any vA M vc b (w2.alloc (.cells #[.slice A2 L c2, .slice none 0 0, .int .i64 0, .int .i64 0] 123)) (((RB.below hv.out hBw2).more hBw2.size).allocs _) (by omega))
  replace hBw2 := hide hBw2
  refine hcl2.out.mono ?_
  rintro e w4 ⟨v4, rfl, hO4, hB4⟩
  rw [hlb.out] at hO4
  obtain ⟨A4, c4, rfl, hr4, _, hc4, _⟩ := hO4.form
  have hbx := (Blk.new w2 123 #[.slice A2 L c2, .slice none 0 0, .int .i64 0, .int .i64 0]).below hB4 (by simp)
  have hbz := (hb2.out.alloc (.cells #[.slice A2 L c2, .slice none 0 0, .int .i64 0, .int .i64 0] 123)).below hB4 (by simp; omega)
  have hBw4 : Below w.heap.size w w4 := (hBw2.out.trans ((Below.refl w.heap.size w2).alloc (by omega) (.cells #[.slice A2 L c2, .slice none 0 0, .int .i64 0, .int .i64 0] 123))).trans (hB4.mono (by simp; omega))
  have hfin : Hid (∀ W, Only (fun k => k = w.heap.size ∨ k = w2.heap.size) w4 W → CellEnd w ⟨key, b, 0, 0⟩ (.returned (.tuple #[.agg #[.slice A2 L c2, .slice A4 M c4, .int .i64 0, .int .i64 0], .int .i64 0])) W) := hide (by
    intro W hO
    have hT : ∀ j, (∃ cs, Blk w4 j 5 cs) → W.heap[j]? = w4.heap[j]? := fun j hj => by
      obtain ⟨cs, hj⟩ := hj
      refine hO.block j (Blk.lt hj) ?_
      rintro (rfl | rfl)
      · exact Blk.ne_ hj hbz (by decide) rfl
      · exact Blk.ne_ hj hbx (by decide) rfl
    have h2 : Rd (G5 w.heap.size w2) w2 1 A2 L (bv key) := by
      have := hO2.out.rd5
      exact Rd.keep this fun k hk => ⟨⟨by have := hk.1; simp at this; omega, hk.2⟩, rfl⟩
    have h2' : Rd (G5 w.heap.size w4) w4 1 A2 L (bv key) := h2.keep fun k hk => by
      obtain ⟨q1, cs, q2⟩ := hk
      have q3 := (q2.alloc (.cells #[.slice A2 L c2, .slice none 0 0, .int .i64 0, .int .i64 0] 123)).below hB4 (by have := Blk.lt q2; simp; omega)
      exact ⟨⟨q1, cs, q3⟩, Eq.trans q3 q2.symm⟩
    have h4 : Rd (G5 w.heap.size w4) w4 1 A4 M (bv b) := by
      have := hO4.rd5
      exact Rd.keep this fun k hk => ⟨⟨by have := hk.1; simp at this; omega, hk.2⟩, rfl⟩
    have hk : ∀ k, G5 w.heap.size w4 k → G5 w.heap.size W k ∧ W.heap[k]? = w4.heap[k]? := fun k hk => by
      have := hT k hk.2
      exact ⟨⟨hk.1, hk.2.choose, this.trans hk.2.choose_spec⟩, this⟩
    refine ⟨.slice A2 L c2, .slice A4 M c4, rfl, ⟨A2, c2, A4, c4, ?_, ?_, ?_, ?_, ?_⟩, ?_⟩
    · show [Value.slice A2 L c2, Value.slice A4 M c4, _, _] = [Value.slice A2 key.length c2, Value.slice A4 b.length c4, _, _]
      rw [hlk.out, hlb.out]
    · show key.length ≤ c2
      rw [hlk.out]; exact hc2.out
    · show b.length ≤ c4
      rw [hlb.out]; exact hc4
    · show Rd _ W 1 A2 key.length _
      rw [hlk.out]; exact h2'.keep hk
    · show Rd _ W 1 A4 b.length _
      rw [hlb.out]; exact h4.keep hk
    · exact hBw4.trans (hO.below (fun k hk => by rcases hk with rfl | rfl <;> omega) hBw4.size))
  have x0 := hbx.cell 0
  have x1 := hbx.cell 1
  have x2 := hbx.cell 2
  have x3 := hbx.cell 3
  have f1 := hbx.frozen 1
  have y0 := hbz.cell 0
  have y1 := hbz.cell 1
  have y2 := hbz.cell 2
  have y3 := hbz.cell 3
  have g0 := hbz.frozen 0
  have g1 := hbz.frozen 1
  have g2 := hbz.frozen 2
  have g3 := hbz.frozen 3
  replace hbx := hide hbx
  replace hbz := hide hbz
  replace hO4 := hide hO4
  replace hB4 := hide hB4
  replace hr4 := hide hr4
  replace hc4 := hide hc4
  replace hBw4 := hide hBw4
  go_wp2_with fail
  have hO : Only (fun k => k = w.heap.size ∨ k = w2.heap.size) w4 (((((w4.setCell ⟨w2.heap.size, 1, none⟩ (.slice A4 M c4)).setCell ⟨w.heap.size, 0, none⟩ (.slice A2 L c2)).setCell ⟨w.heap.size, 1, none⟩ (.slice A4 M c4)).setCell ⟨w.heap.size, 2, none⟩ (.int .i64 0)).setCell ⟨w.heap.size, 3, none⟩ (.int .i64 0)) :=
    (((((Only.refl _ w4).setCell (p := ⟨w2.heap.size, 1, none⟩) (fun _ => Or.inr rfl) _).setCell (p := ⟨w.heap.size, 0, none⟩) (fun _ => Or.inl rfl) _).setCell (p := ⟨w.heap.size, 1, none⟩) (fun _ => Or.inl rfl) _).setCell (p := ⟨w.heap.size, 2, none⟩) (fun _ => Or.inl rfl) _).setCell (p := ⟨w.heap.size, 3, none⟩) (fun _ => Or.inl rfl) _
  refine bodyPost_ret (v := .tuple #[.agg #[.slice A2 L c2, .slice A4 M c4, .int .i64 0, .int .i64 0], .int .i64 0]) ?_ rfl (hfin.out _ hO)
  have hz := Blk.far hbz.out (p := ⟨w2.heap.size, 1, none⟩) hne2 (.slice A4 M c4)
  have hbf := (((hz.set_ 0 (.slice A2 L c2)).set_ 1 (.slice A4 M c4)).set_ 2 (.int .i64 0)).set_ 3 (.int .i64 0)
  obtain ⟨Wf, hWf⟩ : ∃ Wf, Wf = (((((w4.setCell ⟨w2.heap.size, 1, none⟩ (.slice A4 M c4)).setCell ⟨w.heap.size, 0, none⟩ (.slice A2 L c2)).setCell ⟨w.heap.size, 1, none⟩ (.slice A4 M c4)).setCell ⟨w.heap.size, 2, none⟩ (.int .i64 0)).setCell ⟨w.heap.size, 3, none⟩ (.int .i64 0)) := ⟨_, rfl⟩
  rw [← hWf] at hbf ⊢
  have j0 : Wf.cell? ⟨w.heap.size, 0, none⟩ = some (.slice A2 L c2) := hbf.cell 0
  have j1 : Wf.cell? ⟨w.heap.size, 1, none⟩ = some (.slice A4 M c4) := hbf.cell 1
  have j2 : Wf.cell? ⟨w.heap.size, 2, none⟩ = some (.int .i64 0) := hbf.cell 2
  have j3 : Wf.cell? ⟨w.heap.size, 3, none⟩ = some (.int .i64 0) := hbf.cell 3
  simp [results, Tryz.results67, go_sem, j0, j1, j2, j3]
end Go.Proofs.YtiffnfgmkkoaeaaGreatDoor
namespace Go.Proofs.YtiffnfgmkkoaeaaGreatDoor
open Go.RowKit
set_option linter.unusedVariables false
end Go.Proofs.YtiffnfgmkkoaeaaGreatDoor
namespace Go.Proofs.YtiffnfgmkkoaeaaGreatDoor
open Go.RowKit
set_option linter.unusedVariables false
end Go.Proofs.YtiffnfgmkkoaeaaGreatDoor
namespace Go.Proofs.YtiffnfgmkkoaeaaGreatDoor
open Go.RowKit
set_option linter.unusedVariables false
set_option maxRecDepth 100000 in
set_option maxHeartbeats 2000000 in
theorem put_first (w : World) (F : Nat → Prop) (gt gp k : Nat) (st : PgS) (h : PgAt w F gp st) (ht : TreeAt w F gt gp k) (hk8 : k < 8) (key b : List UInt8) (kA vA : Option Addr) (kc vc : Nat) (hk : MB F w kA key.length key) (hv : MB F w vA b.length b)
    (h1 : 1 ≤ key.length) (h2 : key.length ≤ 120) (h3 : b.length ≤ 64) (h0 : st.roots k = 0) (ha : CanAlloc st) (hf : st.free < st.many) (hs : CanSave (allocS st) (allocN st) ⟨true, [⟨key, b, 0, 0⟩], []⟩) (hn : allocN st < (allocS st).many) :
    Calls Tryz.prog 35 #[.pointer (some ⟨gt, 0, none⟩), .slice kA key.length kc, .slice vA b.length vc] w (PgEnd F w gp (setRootS (saveS (allocS st) (allocN st) ⟨true, [⟨key, b, 0, 0⟩], []⟩) k (allocN st)) (.int .i64 0)) := by
  obtain ⟨L, hL⟩ : ∃ L, L = key.length := ⟨_, rfl⟩
  obtain ⟨M, hM⟩ : ∃ M, M = b.length := ⟨_, rfl⟩
  rw [← hL] at hk h1 h2 ⊢
  rw [← hM] at hv h3 ⊢
  have l1 : decide ((L : Int) < 1) = false := decide_eq_false (by omega)
  have l2 : decide (120 < (L : Int)) = false := decide_eq_false (by omega)
  have l2n : decide (120 < L) = false := decide_eq_false (by omega)
  have l3 : decide (20000 < (M : Int)) = false := decide_eq_false (by omega)
  have l3n : decide (20000 < M) = false := decide_eq_false (by omega)
  have hL0 : ¬ L = 0 := by omega
  have hE0 : Ev F w F (w.alloc (.cells #[.pointer (some ⟨gt, 0, none⟩)] 57)) := (Ev.refl F w).alloc_ _
  have hb0 := Blk.new w 57 #[.pointer (some ⟨gt, 0, none⟩)]
  have hP0 := h.alloc (.cells #[.pointer (some ⟨gt, 0, none⟩)] 57)
  have hcl := hide (cell_short (w.alloc (.cells #[.pointer (some ⟨gt, 0, none⟩)] 57)) gt kA vA L M kc vc key b (hk.ev hE0).rb (hv.ev hE0).rb (by omega) h3)
  have c0 : (w.alloc (.cells #[.pointer (some ⟨gt, 0, none⟩)] 57)).cell? ⟨w.heap.size, 0, none⟩ = some (.pointer (some ⟨gt, 0, none⟩)) := hb0.cell 0
  have hgt := Blk.lt ht.blk
  have hnF : ¬ F w.heap.size := fun hf => by have := h.lt _ hf; omega
  replace h := hide h
  replace ht := hide ht
  replace hk := hide hk
  replace hv := hide hv
  replace hL := hide hL
  replace hM := hide hM
  replace hE0 := hide hE0
  replace hb0 := hide hb0
  replace hP0 := hide hP0
  replace h1 := hide h1
  replace h2 := hide h2
  replace h3 := hide h3
  replace h0 := hide h0
  replace ha := hide ha
  replace hf := hide hf
  replace hs := hide hs
  replace hn := hide hn
  go_enter Tryz.func35, Tryz.ntmps35
  go_wp2_with fail
  go_at_call 67
  refine hcl.out.mono ?_
  rintro e w2 ⟨x0, x1, he, hcv, hB2⟩
  replace he : e = .returned (.tuple #[.agg #[x0, x1, .int .i64 0, .int .i64 0], .int .i64 0]) := he
  subst he
  have hcv2 : CellV (G5 (w.heap.size + 1) w2) w2 [x0, x1, .int .i64 0, .int .i64 0] ⟨key, b, 0, 0⟩ := by simpa using hcv
  obtain ⟨A0, y0, A1, y1, hx0, hx1⟩ : ∃ A0 y0 A1 y1, x0 = .slice A0 L y0 ∧ x1 = .slice A1 M y1 := by
    obtain ⟨A0, y0, A1, y1, e9, _⟩ := hcv2
    injection e9 with e0 e9; injection e9 with e1 e9
    exact ⟨A0, y0, A1, y1, by rw [hL.out]; exact e0, by rw [hM.out]; exact e1⟩
  subst hx0; subst hx1
  have hb2 := hb0.out.below hB2 (by simp)
  have hE2 := hE0.out.below hB2
  have hP2 := hP0.out.below hB2
  have hs2 := hE2.size
  have hs2' : w.heap.size < w2.heap.size := by have := hB2.size; simp at this; omega
  obtain ⟨o, ho⟩ : ∃ o, o = Obj.cells #[.slice A0 L y0, .slice A1 M y1, .int .i64 0, .int .i64 0] 123 (0, 0) := ⟨_, rfl⟩
  have hE3 : Ev F w F (w2.alloc o) := hE2.alloc_ o
  have ht3 := ht.out.ev hE3
  have hP3 := hP2.alloc o
  have hb3 := hb2.alloc o
  have hc3 : Blk (w2.alloc o) w2.heap.size 123 #[.slice A0 L y0, .slice A1 M y1, .int .i64 0, .int .i64 0] := by rw [ho]; exact Blk.new _ _ _
  have hrt := hide (fun q => root_any ((w2.alloc o).drewN q) F gp st (hP3.drewN q) k hk8)
  rw [h0.out] at hrt
  have t0 : (w2.alloc o).cell? ⟨w.heap.size, 0, none⟩ = some (.pointer (some ⟨gt, 0, none⟩)) := hb3.cell 0
  have t1 : (w2.alloc o).cell? ⟨gt, 0, none⟩ = some (.pointer (some ⟨gp, 0, none⟩)) := ht3.blk.cell 0
  have t2 : (w2.alloc o).cell? ⟨gt, 1, none⟩ = some (.int .i64 (k : Int)) := ht3.blk.cell 1
  have t4 := hc3.cell 0
  have t5 := hc3.cell 1
  have t6 := hc3.cell 2
  have t7 := hc3.cell 3
  subst ho
  replace hcv := hide hcv
  replace hcv2 := hide hcv2
  replace hB2 := hide hB2
  replace hb2 := hide hb2
  replace hE2 := hide hE2
  replace hP2 := hide hP2
  replace hE3 := hide hE3
  replace ht3 := hide ht3
  replace hP3 := hide hP3
  replace hb3 := hide hb3
  replace hc3 := hide hc3
  clear hcl
  go_wp2_with fail
  go_quiet (first | (go_at_call 51; exact quiet_left (hrt.out _)))
  obtain ⟨w5, hw5⟩ : ∃ w5, w5 = (w2.alloc (.cells #[.slice A0 L y0, .slice A1 M y1, .int .i64 0, .int .i64 0] 123)).drewN nq := ⟨_, rfl⟩
  rw [← hw5]
  have hE5 : Ev F w F w5 := by rw [hw5]; exact hE3.out.drewN nq
  have hP5 : PgAt w5 F gp st := by rw [hw5]; exact hP3.out.drewN nq
  have hs5 : w5.heap.size = w2.heap.size + 1 := by rw [hw5]; simp [World.drewN]
  have t0 : w5.cell? ⟨w.heap.size, 0, none⟩ = some (.pointer (some ⟨gt, 0, none⟩)) := by rw [hw5]; exact t0
  have r0 : w5.cell? ⟨w2.heap.size, 0, none⟩ = some (.slice A0 L y0) := by rw [hw5]; exact t4
  have r1 : w5.cell? ⟨w2.heap.size, 1, none⟩ = some (.slice A1 M y1) := by rw [hw5]; exact t5
  have r2 : w5.cell? ⟨w2.heap.size, 2, none⟩ = some (.int .i64 0) := by rw [hw5]; exact t6
  have r3 : w5.cell? ⟨w2.heap.size, 3, none⟩ = some (.int .i64 0) := by rw [hw5]; exact t7
  have hE6 : Ev F w F (w5.alloc (.cells #[.slice A0 L y0, .slice A1 M y1, .int .i64 0, .int .i64 0] 123)) := hE5.alloc_ _
  have hb6 := Blk.new w5 123 #[.slice A0 L y0, .slice A1 M y1, .int .i64 0, .int .i64 0]
  have hFlt := h.out.lt
  have hn6 : NodeM (Mine F (w5.alloc (.cells #[.slice A0 L y0, .slice A1 M y1, .int .i64 0, .int .i64 0] 123))) (w5.alloc (.cells #[.slice A0 L y0, .slice A1 M y1, .int .i64 0, .int .i64 0] 123)) (.agg #[.bool true, .slice (some ⟨w5.heap.size, 0, none⟩) 1 1, .slice none 0 0]) ⟨true, [⟨key, b, 0, 0⟩], []⟩ := by
    refine ⟨some ⟨w5.heap.size, 0, none⟩, 1, none, 0, rfl, Nat.le_refl _, Nat.le_refl _, ⟨[[.slice A0 L y0, .slice A1 M y1, .int .i64 0, .int .i64 0]], rfl, ⟨rfl, fun _ => ⟨_, rfl, ⟨by simp, fun hf => by have h9 : w5.heap.size < w.heap.size := hFlt _ hf; omega⟩, fun j u hu => ?_⟩⟩, fun q vs c e1 e2 => ?_⟩, Rd.none_⟩
    · rw [Addr.add_lit, Nat.zero_add, hb6.cell]
      simpa using hu
    · obtain rfl : q = 0 := by
        have := (List.getElem?_eq_some_iff.1 e1).1
        simp at this; exact this
      simp at e1 e2
      subst e1; subst e2
      refine hcv2.out.keep fun q hq => ?_
      obtain ⟨q1, cs, q2⟩ := hq
      have q3 : Blk (w5.alloc (.cells #[.slice A0 L y0, .slice A1 M y1, .int .i64 0, .int .i64 0] 123)) q 5 cs := by
        rw [hw5]; exact ((q2.alloc _).drewN nq).alloc _
      exact ⟨⟨Blk.lt q3, fun hf => by have := hFlt _ hf; omega⟩, Eq.trans q3 q2.symm⟩
  have hmk := hide (make_any _ F gt gp k st (hP5.alloc (.cells #[.slice A0 L y0, .slice A1 M y1, .int .i64 0, .int .i64 0] 123)) (ht.out.ev hE6) ⟨true, [⟨key, b, 0, 0⟩], []⟩ _ hn6 ha.out hf.out hs.out)
  have hb6t : (w5.alloc (.cells #[.slice A0 L y0, .slice A1 M y1, .int .i64 0, .int .i64 0] 123)).cell? ⟨w.heap.size, 0, none⟩ = some (.pointer (some ⟨gt, 0, none⟩)) := by
    rw [World.cell?_alloc_lt _ _ _ (by show w.heap.size < w5.heap.size; omega)]; exact t0
  obtain ⟨no, hno⟩ : ∃ no, no = allocN st := ⟨_, rfl⟩
  obtain ⟨st1, hst1⟩ : ∃ st1, st1 = saveS (allocS st) no ⟨true, [⟨key, b, 0, 0⟩], []⟩ := ⟨_, rfl⟩
  rw [← hno, ← hst1] at hmk ⊢
  have hnm : Hid (no < st1.many) := hide (by rw [hst1, hno]; exact hn.out)
  replace hno := hide hno
  replace hst1 := hide hst1
  replace hw5 := hide hw5
  replace hs5 := hide hs5
  replace hE5 := hide hE5
  replace hP5 := hide hP5
  replace hE6 := hide hE6
  replace hb6 := hide hb6
  replace hFlt := hide hFlt
  replace hn6 := hide hn6
  go_wp2_with fail
  go_at_call 68
  refine hmk.out.mono ?_
  rintro e w7 ⟨rfl, F7, hP7, hE7⟩
  have ht7 := ht.out.ev (hE6.out.trans hE7)
  have u0 : w7.cell? ⟨w.heap.size, 0, none⟩ = some (.pointer (some ⟨gt, 0, none⟩)) := (hE7.cell (p := ⟨w.heap.size, 0, none⟩) ⟨by have := hs5.out; show w.heap.size < (w5.alloc _).heap.size; simp; omega, hnF⟩).trans hb6t
  have u1 : w7.cell? ⟨gt, 0, none⟩ = some (.pointer (some ⟨gp, 0, none⟩)) := ht7.blk.cell 0
  have u2 : w7.cell? ⟨gt, 1, none⟩ = some (.int .i64 (k : Int)) := ht7.blk.cell 1
  have hsr := hide (setRoot_any w7.drew F7 gp st1 hP7.drew k no hk8 hnm.out)
  have hE7w := hide ((hE6.out.trans hE7).drew)
  replace ht7 := hide ht7
  replace hP7 := hide hP7
  replace hE7 := hide hE7
  have hfold : Hid (∀ w8, PgEnd F w gp (setRootS st1 k no) (.int .i64 0) (.returned (.int .i64 0)) w8 → PgEnd F w gp (setRootS (saveS (allocS st) (allocN st) ⟨true, [⟨key, b, 0, 0⟩], []⟩) k (allocN st)) (.int .i64 0) (.returned (.int .i64 0)) w8) := hide fun w8 h9 => by
    rw [hst1.out, hno.out] at h9; exact h9
  clear hmk hrt
  go_wp2_with fail
  go_region_law (go_simp; go_at_call 69; refine hsr.out.mono ?_; rintro e w8 ⟨rfl, F8, hP8, hE8⟩; (have hdone := hfold.out w8 ⟨rfl, F8, hP8, hE7w.out.trans hE8⟩); replace hdone := hide hdone; replace hP8 := hide hP8; replace hE8 := hide hE8)
  all_goals
    go_wp2_with fail
    go_ret
    exact hdone.out
end Go.Proofs.YtiffnfgmkkoaeaaGreatDoor
namespace Go.Proofs.YtiffnfgmkkoaeaaGreatDoor
open Go.RowKit
set_option linter.unusedVariables false
end Go.Proofs.YtiffnfgmkkoaeaaGreatDoor
