/-
  The pager in memory; contracts of up, has, Root, SetRoot.
-/
import Derived.Test.YthohbbaglceppaaGreatDoorUIMap
import Derived.Test.YthohbbaglceppaaGreatDoorUN
namespace Go.Proofs.YthohbbaglceppaaGreatDoor
open Go.RowKit Go.Maps
set_option linter.unusedVariables false
/-- The cells of a pager: what it has now, the map of changed pages; the rest is left open (U). -/
def pgC (gm : Nat) (st : PgS) (U : Nat → Value) : Array Value :=
  #[U 0, U 1, .int .i64 (st.many : Int), .int .i64 (st.free : Int), .int .i64 (st.roots 0 : Int), .int .i64 (st.roots 1 : Int), .int .i64 (st.roots 2 : Int), .int .i64 (st.roots 3 : Int), .int .i64 (st.roots 4 : Int), .int .i64 (st.roots 5 : Int), .int .i64 (st.roots 6 : Int), .int .i64 (st.roots 7 : Int),
    U 12, U 13, U 14, U 15, U 16, U 17, U 18, U 19, U 20, U 21, .map (some gm), U 23, U 24, U 25, .bool false]
theorem OB.same {w w' : World} {base n g c : Nat} {l : List UInt8} (h : OB w base (.slice (some ⟨g, 0, none⟩) n c) n l) (hk : w'.heap[g]? = w.heap[g]?) : OB w' base (.slice (some ⟨g, 0, none⟩) n c) n l := by
  obtain ⟨h1, h2⟩ := h
  refine ⟨h1, ?_⟩
  rcases h2 with ⟨h0, _⟩ | ⟨g', cap, cur, hv, hg, hh, r⟩
  · cases h0
  · cases hv
    exact Or.inr ⟨g, _, cur, rfl, hg, hk.trans hh, r⟩
/-- The pager in memory: all pages but one (x) stand in the map of changed ones. -/
structure PgX (x : Nat) (w : World) (F : Nat → Prop) (gp : Nat) (st : PgS) : Prop where
  one : 1 ≤ st.many
  most : st.many ≤ 65536
  lt : ∀ k, F k → k < w.heap.size
  own : F gp
  mem : ∃ gm U m, Blk w gp 85 (pgC gm st U) ∧ F gm ∧ IMap w gm 65536 m ∧ ∀ no, st.has no → no ≠ x → ∃ g c, m no = some (.slice (some ⟨g, 0, none⟩) 508 c) ∧ F g ∧ OB w 0 (.slice (some ⟨g, 0, none⟩) 508 c) 508 (st.page no)
def PgAt (w : World) (F : Nat → Prop) (gp : Nat) (st : PgS) : Prop := PgX 0 w F gp st
section
variable {w w' : World} {F : Nat → Prop} {gp x : Nat} {st : PgS}
theorem PgX.keep (h : PgX x w F gp st) (hk : ∀ k, F k → w'.heap[k]? = w.heap[k]?) (hs : w.heap.size ≤ w'.heap.size) : PgX x w' F gp st := by
  obtain ⟨gm, U, m, hb, hg, hm, hp⟩ := h.mem
  refine ⟨h.one, h.most, fun k hk' => Nat.lt_of_lt_of_le (h.lt k hk') hs, h.own, gm, U, m, (hk gp h.own).trans hb, hg, hm.keep (hk gm hg), fun no hn hx => ?_⟩
  obtain ⟨g, c, h1, h2, h3⟩ := hp no hn hx
  exact ⟨g, c, h1, h2, h3.same (hk g h2)⟩
theorem PgAt.keep (h : PgAt w F gp st) (hk : ∀ k, F k → w'.heap[k]? = w.heap[k]?) (hs : w.heap.size ≤ w'.heap.size) : PgAt w' F gp st := PgX.keep h hk hs
theorem PgAt.below (h : PgAt w F gp st) (hb : Below w.heap.size w w') : PgAt w' F gp st := h.keep (fun k hk => hb.block k (h.lt k hk)) hb.size
theorem PgAt.drewN (h : PgAt w F gp st) (n : Nat) : PgAt (w.drewN n) F gp st := h.keep (fun _ _ => rfl) (Nat.le_refl _)
theorem PgAt.drew (h : PgAt w F gp st) : PgAt w.drew F gp st := h.keep (fun _ _ => rfl) (Nat.le_refl _)
theorem PgAt.alloc (h : PgAt w F gp st) (o : Obj) : PgAt (w.alloc o) F gp st := h.keep (fun k hk => Below.heap_alloc w o k (h.lt k hk)) (by simp)
theorem PgAt.set_ (h : PgAt w F gp st) {p : Addr} (hp : ¬ F p.block) (u : Value) : PgAt (w.setCell p u) F gp st := h.keep (fun k hk => Below.heap_setCell w p u k (fun e => hp (by rw [← e]; exact hk))) (by simp [World.setCell])
theorem PgAt.grown (h : PgAt w F gp st) {row : Option Nat} (hg : w.grownBy w' row) (hr : ∀ k, row = some k → ¬ F k) : PgAt w' F gp st := h.keep (fun k hk => hg.block k (h.lt k hk) (fun e => hr k e.symm hk)) hg.size
theorem PgAt.len (h : PgAt w F gp st) {no : Nat} (hn : st.has no) : (st.page no).length = 508 := by
  obtain ⟨gm, U, m, hb, hg, hm, hp⟩ := h.mem
  obtain ⟨g, c, h1, h2, h3⟩ := hp no hn (fun e => by have := hn.1; omega)
  exact h3.len
end
set_option maxRecDepth 100000 in
theorem up_any (x : Nat) (w : World) (F : Nat → Prop) (gp : Nat) (st : PgS) (h : PgX x w F gp st) : Calls Tryz.prog 63 #[.pointer (some ⟨gp, 0, none⟩)] w fun e w' => e = .returned (.int .i64 0) ∧ w = w' := by
  obtain ⟨gm, U, m, hb, _⟩ := h.mem
  have c26 : w.cell? ⟨gp, 26, none⟩ = some (.bool false) := hb.cell 26
  clear hb
  replace h := hide h
  go_enter Tryz.func63, Tryz.ntmps63
  go_wp2_with fail
  go_ret
  exact ⟨rfl, rfl⟩
set_option maxRecDepth 100000 in
theorem has_any (x : Nat) (w : World) (F : Nat → Prop) (gp : Nat) (st : PgS) (h : PgX x w F gp st) (no least : Int) (h0 : least ≤ no) (h1 : no < (st.many : Int)) :
    Calls Tryz.prog 89 #[.pointer (some ⟨gp, 0, none⟩), .int .i64 no, .int .i64 least] w fun e w' => e = .returned (.int .i64 0) ∧ w = w' := by
  obtain ⟨gm, U, m, hb, _⟩ := h.mem
  have c2 : w.cell? ⟨gp, 2, none⟩ = some (.int .i64 (st.many : Int)) := hb.cell 2
  have hu := hide (up_any x w F gp st h)
  clear hb
  replace h := hide h
  go_enter Tryz.func89, Tryz.ntmps89
  go_wp2_with fail
  refine hu.out.mono ?_
  rintro e w1 ⟨rfl, rfl⟩
  go_wp2_with fail
  go_ret
  exact ⟨rfl, rfl⟩
theorem pgC_root (gm : Nat) (st : PgS) (U : Nat → Value) (k : Nat) (hk : k < 8) : (pgC gm st U)[4 + k]? = some (.int .i64 (st.roots k : Int)) := by
  match k, hk with
  | 0, _ | 1, _ | 2, _ | 3, _ | 4, _ | 5, _ | 6, _ | 7, _ => rfl
set_option maxRecDepth 100000 in
theorem root_any (w : World) (F : Nat → Prop) (gp : Nat) (st : PgS) (h : PgAt w F gp st) (k : Nat) (hk : k < 8) :
    Calls Tryz.prog 28 #[.pointer (some ⟨gp, 0, none⟩), .int .i64 (k : Int)] w fun e w' => e = .returned (.int .i64 (st.roots k : Int)) ∧ w = w' := by
  obtain ⟨gm, U, m, hb, _⟩ := h.mem
  have ck : w.cell? ⟨gp, 4 + k, none⟩ = some (.int .i64 (st.roots k : Int)) := (hb.cell (4 + k)).trans (pgC_root gm st U k hk)
  have hu := hide (up_any 0 w F gp st h)
  have hkI : (k : Int) < 8 := by omega
  clear hb
  replace h := hide h
  go_enter Tryz.func28, Tryz.ntmps28
  go_wp2_with fail
  refine hu.out.mono ?_
  rintro e w1 ⟨rfl, rfl⟩
  go_wp2_with fail
  go_ret
  exact ⟨rfl, rfl⟩
theorem pgC_set (gm : Nat) (st : PgS) (U : Nat → Value) (k no : Nat) (hk : k < 8) : (pgC gm st U).setIfInBounds (4 + k) (.int .i64 (no : Int)) = pgC gm (setRootS st k no) U := by
  match k, hk with
  | 0, _ | 1, _ | 2, _ | 3, _ | 4, _ | 5, _ | 6, _ | 7, _ => rfl
/-- What a call of the pager's leaves. -/
def PgEnd (F : Nat → Prop) (w : World) (gp : Nat) (st' : PgS) (r : Value) (e : Ending) (w' : World) : Prop := e = .returned r ∧ ∃ F', PgAt w' F' gp st' ∧ Ev F w F' w'
theorem PgAt.setroot {w : World} {F : Nat → Prop} {gp : Nat} {st : PgS} (h : PgAt w F gp st) (k no : Nat) (hk : k < 8) : PgAt (w.setCell ⟨gp, 4 + k, none⟩ (.int .i64 (no : Int))) F gp (setRootS st k no) := by
  obtain ⟨gm, U, m, hb, hg, hm, hp⟩ := h.mem
  have hne := hm.ne hb
  refine ⟨h.one, h.most, fun j hj => by have := h.lt j hj; simpa [World.setCell] using this, h.own, gm, U, m, ?_, hg, hm.keep (Below.heap_setCell w _ _ _ hne), fun j hj hx => ?_⟩
  · have := hb.set_ (4 + k) (.int .i64 (no : Int))
    rw [pgC_set gm st U k no hk] at this
    exact this
  · obtain ⟨g, c, h1, h2, h3⟩ := hp j hj hx
    exact ⟨g, c, h1, h2, h3.same (Below.heap_setCell w _ _ _ (fun e => own_blk_ne h3 hb (by decide) (by rw [e]; rfl)))⟩
set_option maxRecDepth 100000 in
theorem setRoot_any (w : World) (F : Nat → Prop) (gp : Nat) (st : PgS) (h : PgAt w F gp st) (k no : Nat) (hk : k < 8) (hn : no < st.many) :
    Calls Tryz.prog 50 #[.pointer (some ⟨gp, 0, none⟩), .int .i64 (k : Int), .int .i64 (no : Int)] w (PgEnd F w gp (setRootS st k no) (.int .i64 0)) := by
  have hh := hide (has_any 0 w F gp st h no 0 (by omega) (by omega))
  have hfin : Hid (PgAt (w.setCell ⟨gp, 4 + k, none⟩ (.int .i64 (no : Int))) F gp (setRootS st k no) ∧ Ev F w F (w.setCell ⟨gp, 4 + k, none⟩ (.int .i64 (no : Int)))) :=
    ⟨h.setroot k no hk, (Ev.refl F w).set_ (p := ⟨gp, 4 + k, none⟩) h.own _⟩
  obtain ⟨gm, U, m, hb, _⟩ := h.mem
  have ck : w.cell? ⟨gp, 4 + k, none⟩ = some (.int .i64 (st.roots k : Int)) := (hb.cell (4 + k)).trans (pgC_root gm st U k hk)
  have fk := hb.frozen (4 + k)
  have hkI : (k : Int) < 8 := by omega
  clear hb
  replace h := hide h
  go_enter Tryz.func50, Tryz.ntmps50
  go_wp2_with fail
  refine hh.out.mono ?_
  rintro e w1 ⟨rfl, rfl⟩
  go_wp2_with fail
  go_ret
  exact ⟨rfl, F, hfin.out⟩
end Go.Proofs.YthohbbaglceppaaGreatDoor
