/-
  A node that is being changed: its rows are the call's own, its cells' bytes the caller's. Contract of Put's closure at a new key.
-/
import Derived.Test.YthohbbaglceppaaGreatDoorUTrA
import Derived.Test.YthohbbaglceppaaGreatDoorUI
namespace Go.Proofs.YthohbbaglceppaaGreatDoor
open Go.RowKit
set_option linter.unusedVariables false
def byteOf (F : Nat → Prop) (w : World) (k : Nat) : Prop := Mine F w k ∧ ∃ cs, Blk w k 5 cs
def CellsW (F : Nat → Prop) (w : World) (rows : List (List Value)) (cs : List CellP) : Prop := ∀ (k : Nat) (vs : List Value) (c : CellP), rows[k]? = some vs → cs[k]? = some c → CellV (byteOf F w) w vs c
structure NodeW (F : Nat → Prop) (w : World) (B : Nat) (cv kv : Value) (n : NodeP) : Prop where
  rows : ∃ rows : List (List Value), rows.length = n.cells.length ∧ w.ownsRow B 95 4 cv n.cells.length rows.flatten ∧ CellsW F w rows n.cells
  kids : w.ownsRow B 3 1 kv n.kids.length (n.kids.map encI)
  above : ∀ j, F j → j < B
section
variable {F F' S : Nat → Prop} {w w' : World} {B : Nat} {cv kv : Value} {n : NodeP} {rows : List (List Value)} {cs : List CellP}
theorem NodeOwn.toW (h : NodeOwn w B cv kv n) (hF : ∀ j, F j → j < B) : NodeW F w B cv kv n := by
  obtain ⟨rows, h1, h2, h3⟩ := h.rows
  exact ⟨⟨rows, h1, h2, fun k vs c e1 e2 => (h3 k vs c e1 e2).mono fun j hj => ⟨⟨Blk.lt hj.2.choose_spec, fun hf => by have := hF j hf; have := hj.1; omega⟩, hj.2⟩⟩, h.kids, hF⟩
theorem CellV.keepW {vs : List Value} {c : CellP} (h : CellV (byteOf F w) w vs c) (hO : Only S w w') (hS : ∀ k cs, S k → ¬ Blk w k 5 cs) : CellV (byteOf F w') w' vs c :=
  h.keep fun j hj => by
    obtain ⟨⟨h1, h2⟩, bs, hb⟩ := hj
    have hb' : Blk w' j 5 bs := hO.blk hb fun hs => hS _ _ hs hb
    exact ⟨⟨⟨Blk.lt hb', h2⟩, bs, hb'⟩, Eq.trans hb' hb.symm⟩
theorem CellsW.keepW (h : CellsW F w rows cs) (hO : Only S w w') (hS : ∀ k cs, S k → ¬ Blk w k 5 cs) : CellsW F w' rows cs := fun k vs c e1 e2 => (h k vs c e1 e2).keepW hO hS
theorem CellsW.one (h : CellsW F w rows cs) (hl : rows.length = cs.length) : ∀ u ∈ rows.flatten, u.oneCell' = true := by
  intro u hu
  obtain ⟨vs, hvs, huv⟩ := List.mem_flatten.1 hu
  obtain ⟨k, hk, e⟩ := List.getElem_of_mem hvs
  obtain ⟨kA, kc, vA, vc, e2, _⟩ := h k vs cs[k] (by rw [List.getElem?_eq_getElem hk, e]) (List.getElem?_eq_getElem (by omega))
  subst e2
  simp at huv
  rcases huv with rfl | rfl | rfl | rfl <;> rfl
theorem CellsW.four (h : CellsW F w rows cs) (hl : rows.length = cs.length) : ∀ r ∈ rows, r.length = 4 := by
  intro r hr
  obtain ⟨k, hk, e⟩ := List.getElem_of_mem hr
  obtain ⟨kA, kc, vA, vc, e2, _⟩ := h k r cs[k] (by rw [List.getElem?_eq_getElem hk, e]) (List.getElem?_eq_getElem (by omega))
  rw [e2]; rfl
theorem flatten_take4 : ∀ (rows : List (List Value)) (i : Nat), (∀ r ∈ rows, r.length = 4) → (rows.take i).flatten = rows.flatten.take (i * 4) ∧ (rows.drop i).flatten = rows.flatten.drop (i * 4)
  | [], i, _ => by simp
  | r :: t, 0, _ => by simp
  | r :: t, i + 1, h => by
    have hr : r.length = 4 := h r (.head _)
    obtain ⟨h1, h2⟩ := flatten_take4 t i fun x hx => h x (.tail _ hx)
    have e : (i + 1) * 4 = r.length + i * 4 := by omega
    constructor
    · rw [List.take_succ_cons, List.flatten_cons, List.flatten_cons, h1, e, List.take_length_add_append]
    · rw [List.drop_succ_cons, List.flatten_cons, h2, e, List.drop_length_add_append]
theorem ins_flat (rows : List (List Value)) (i : Nat) (vs : List Value) (h4 : ∀ r ∈ rows, r.length = 4) : (insAt rows i vs).flatten = insCells rows.flatten i vs := by
  obtain ⟨h1, h2⟩ := flatten_take4 rows i h4
  unfold insAt insCells
  rw [List.flatten_append, List.flatten_cons, h1, h2]
theorem insAt_at {α : Type} (l : List α) (i : Nat) (x : α) (hi : i ≤ l.length) (k : Nat) : (insAt l i x)[k]? = if k < i then l[k]? else if k = i then some x else l[k - 1]? := by
  unfold insAt
  have hl : (l.take i).length = i := by rw [List.length_take]; omega
  by_cases h1 : k < i
  · rw [if_pos h1, List.getElem?_append_left (by omega), List.getElem?_take, if_pos h1]
  · rw [if_neg h1, List.getElem?_append_right (by omega), hl]
    by_cases h2 : k = i
    · rw [if_pos h2, h2, Nat.sub_self]; rfl
    · rw [if_neg h2, show k - i = (k - i - 1) + 1 from by omega, List.getElem?_cons_succ, List.getElem?_drop, show i + (k - i - 1) = k - 1 from by omega]
theorem insAt_len {α : Type} (l : List α) (i : Nat) (x : α) (hi : i ≤ l.length) : (insAt l i x).length = l.length + 1 := by
  unfold insAt; simp; omega
theorem CellsW.ins (h : CellsW F w rows cs) (hl : rows.length = cs.length) {vs : List Value} {c : CellP} (hv : CellV (byteOf F w) w vs c) {i : Nat} (hi : i ≤ cs.length) : CellsW F w (insAt rows i vs) (insAt cs i c) := by
  intro k vs' c' e1 e2
  rw [insAt_at _ _ _ (by omega)] at e1
  rw [insAt_at _ _ _ hi] at e2
  split at e1
  · rename_i hk
    rw [if_pos hk] at e2
    exact h k vs' c' e1 e2
  · rename_i hk
    rw [if_neg hk] at e2
    split at e1
    · rename_i hk2
      rw [if_pos hk2] at e2
      injection e1 with e1; injection e2 with e2
      subst e1; subst e2; exact hv
    · rename_i hk2
      rw [if_neg hk2] at e2
      exact h _ vs' c' e1 e2
theorem NodeW.only (h : NodeW F w B cv kv n) (hO : Only S w w') (hS : ∀ k, S k → ∃ t cs, Blk w k t cs ∧ t ≠ 5 ∧ t ≠ 95 ∧ t ≠ 3) : NodeW F w' B cv kv n := by
  obtain ⟨rows, h1, h2, h3⟩ := h.rows
  refine ⟨⟨rows, h1, hO.row h2 fun k hk hs => ?_, h3.keepW hO fun k cs hk hb => ?_⟩, hO.row h.kids fun k hk hs => ?_, h.above⟩
  · obtain ⟨t, cs', hb', _, ht, _⟩ := hS k hs
    exact own_blk_ne h2 hb' (Ne.symm ht) hk
  · obtain ⟨t, cs', hb', ht, _⟩ := hS k hk
    exact Blk.ne_ hb hb' (Ne.symm ht) rfl
  · obtain ⟨t, cs', hb', _, _, ht⟩ := hS k hs
    exact own_blk_ne h.kids hb' (Ne.symm ht) hk
theorem NodeW.nodeM (h : NodeW F w B cv kv n) : NodeM (Mine F w) w (.agg #[.bool n.leaf, cv, kv]) n := by
  obtain ⟨rows, h1, h2, h3⟩ := h.rows
  have hk := h.kids
  have hsl : ∀ {e : TypeId} {size m : Nat} {v : Value} {xs : List Value}, w.ownsRow B e size v m xs → ∃ A c, v = .slice A m c ∧ m ≤ c := by
    intro e size m v xs h
    rcases h.2 with ⟨rfl, rfl⟩ | ⟨g, cap, cur, rfl, _, _, h3, _⟩
    · exact ⟨none, 0, rfl, Nat.le_refl _⟩
    · exact ⟨_, _, rfl, h3⟩
  obtain ⟨A, c, rfl, hc⟩ := hsl h2
  obtain ⟨A', d, rfl, hd⟩ := hsl hk
  have hG : ∀ k, B ≤ k → k < w.heap.size → Mine F w k := fun k hb hl => ⟨hl, fun hf => by have := h.above k hf; omega⟩
  exact ⟨A, c, A', d, rfl, hc, hd, ⟨rows, h1, Rd.of_own h2 hG, fun k vs x e1 e2 => (h3 k vs x e1 e2).mono fun j hj => hj.1⟩, Rd.of_own hk hG⟩
/-- Behind Insert. -/
theorem NodeW.ins (h : NodeW F w B cv kv n) {cv' : Value} {i : Nat} {c : CellP} {vs : List Value} (hg : w.grownBy w' cv.ownBlock) (hi : i ≤ n.cells.length) (rows : List (List Value)) (h1 : rows.length = n.cells.length)
    (h2 : w.ownsRow B 95 4 cv n.cells.length rows.flatten) (h3 : CellsW F w rows n.cells) (hv : CellV (byteOf F w) w vs c) (hown : w'.ownsRow B 95 4 cv' (n.cells.length + 1) (insCells rows.flatten i vs)) :
    NodeW F w' B cv' kv ⟨n.leaf, insAt n.cells i c, n.kids⟩ := by
  have hO : Only (fun j => cv.ownBlock = some j) w w' := (Only.refl _ w).grown hg (fun k hk _ => hk)
  refine ⟨⟨insAt rows i vs, by rw [insAt_len _ _ _ (by omega), insAt_len _ _ _ hi, h1], ?_, (h3.ins h1 hv hi).keepW hO fun k cs hk hb => own_blk_ne h2 hb (by decide) hk⟩, hO.row h.kids fun k hk => own_ne h.kids h2 (by decide) k hk, h.above⟩
  show w'.ownsRow B 95 4 cv' (insAt n.cells i c).length _
  rw [insAt_len _ _ _ hi, ins_flat _ _ _ (h3.four h1)]
  exact hown
end
end Go.Proofs.YthohbbaglceppaaGreatDoor
