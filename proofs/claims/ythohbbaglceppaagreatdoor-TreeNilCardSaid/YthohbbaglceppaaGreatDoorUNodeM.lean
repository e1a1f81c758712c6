/-
  Nodes in memory; contracts of node.child, node.cell, node.Right.
-/
import Derived.Test.YthohbbaglceppaaGreatDoorUMine
import Derived.Test.YthohbbaglceppaaGreatDoorUCmp
import Derived.Test.YthohbbaglceppaaGreatDoorUA
namespace Go.Proofs.YthohbbaglceppaaGreatDoor
open Go.RowKit
set_option linter.unusedVariables false
/-- The cells of a cell, as they lie. -/
def CellV (G : Nat → Prop) (w : World) (vs : List Value) (c : CellP) : Prop :=
  ∃ kA kc vA vc, vs = [.slice kA c.key.length kc, .slice vA c.val.length vc, .int .i64 (c.over : Int), .int .i64 (c.long : Int)] ∧ c.key.length ≤ kc ∧ c.val.length ≤ vc ∧
    Rd G w 1 kA c.key.length (bv c.key) ∧ Rd G w 1 vA c.val.length (bv c.val)
def CellsM (G : Nat → Prop) (w : World) (A : Option Addr) (cs : List CellP) : Prop :=
  ∃ rows : List (List Value), rows.length = cs.length ∧ Rd G w 4 A cs.length rows.flatten ∧ ∀ (k : Nat) (vs : List Value) (c : CellP), rows[k]? = some vs → cs[k]? = some c → CellV G w vs c
/-- A node in memory. -/
def NodeM (G : Nat → Prop) (w : World) (v : Value) (n : NodeP) : Prop :=
  ∃ A c B d, v = .agg #[.bool n.leaf, .slice A n.cells.length c, .slice B n.kids.length d] ∧ n.cells.length ≤ c ∧ n.kids.length ≤ d ∧ CellsM G w A n.cells ∧ Rd G w 1 B n.kids.length (n.kids.map encI)
section
variable {G G' F F' : Nat → Prop} {w w' : World} {A : Option Addr} {cs : List CellP} {vs : List Value} {c : CellP} {n : NodeP} {v : Value}
theorem CellV.keep (h : CellV G w vs c) (hk : ∀ k, G k → G' k ∧ w'.heap[k]? = w.heap[k]?) : CellV G' w' vs c := by
  obtain ⟨kA, kc, vA, vc, e, h1, h2, h3, h4⟩ := h
  exact ⟨kA, kc, vA, vc, e, h1, h2, h3.keep hk, h4.keep hk⟩
theorem CellsM.keep (h : CellsM G w A cs) (hk : ∀ k, G k → G' k ∧ w'.heap[k]? = w.heap[k]?) : CellsM G' w' A cs := by
  obtain ⟨rows, h1, h2, h3⟩ := h
  exact ⟨rows, h1, h2.keep hk, fun k vs c e1 e2 => (h3 k vs c e1 e2).keep hk⟩
theorem NodeM.keep (h : NodeM G w v n) (hk : ∀ k, G k → G' k ∧ w'.heap[k]? = w.heap[k]?) : NodeM G' w' v n := by
  obtain ⟨A, c, B, d, e, h1, h2, h3, h4⟩ := h
  exact ⟨A, c, B, d, e, h1, h2, h3.keep hk, h4.keep hk⟩
theorem NodeM.ev (h : NodeM (Mine F w) w v n) (he : Ev F w F' w') : NodeM (Mine F' w') w' v n := h.keep fun k hk => ⟨he.mine hk, he.block hk⟩
theorem NodeM.mono (h : NodeM G w v n) (hk : ∀ k, G k → G' k) : NodeM G' w v n := h.keep fun k hG => ⟨hk k hG, rfl⟩
theorem CellsM.mono (h : CellsM G w A cs) (hk : ∀ k, G k → G' k) : CellsM G' w A cs := h.keep fun k hG => ⟨hk k hG, rfl⟩
theorem CellV.mono (h : CellV G w vs c) (hk : ∀ k, G k → G' k) : CellV G' w vs c := h.keep fun k hG => ⟨hk k hG, rfl⟩
theorem flatten_at4 {rows : List (List Value)} (h4 : ∀ r ∈ rows, r.length = 4) : ∀ (k j : Nat) (vs : List Value) (u : Value), rows[k]? = some vs → vs[j]? = some u → rows.flatten[k * 4 + j]? = some u := by
  induction rows with
  | nil => intro k j vs u h; simp at h
  | cons r t ih =>
    intro k j vs u h hu
    have hr : r.length = 4 := h4 r (.head _)
    cases k with
    | zero =>
      simp at h
      subst h
      have hj := (List.getElem?_eq_some_iff.1 hu).1
      rw [List.flatten_cons, List.getElem?_append_left (by omega), Nat.zero_mul, Nat.zero_add]
      exact hu
    | succ k =>
      rw [List.getElem?_cons_succ] at h
      rw [List.flatten_cons, List.getElem?_append_right (by omega), hr, show (k + 1) * 4 + j - 4 = k * 4 + j from by omega]
      exact ih (fun r hr => h4 r (.tail _ hr)) k j vs u h hu
/-- A cell of a row of cells: where it lies, what it has. -/
structure CellHere (G : Nat → Prop) (w : World) (p : Addr) (c : CellP) (kA vA : Option Addr) (kc vc : Nat) : Prop where
  c0 : w.cell? p = some (.slice kA c.key.length kc)
  c1 : w.cell? ⟨p.block, p.off + 1, none⟩ = some (.slice vA c.val.length vc)
  c2 : w.cell? ⟨p.block, p.off + 2, none⟩ = some (.int .i64 (c.over : Int))
  c3 : w.cell? ⟨p.block, p.off + 3, none⟩ = some (.int .i64 (c.long : Int))
  kle : c.key.length ≤ kc
  vle : c.val.length ≤ vc
  key : Rd G w 1 kA c.key.length (bv c.key)
  val : Rd G w 1 vA c.val.length (bv c.val)
  blk : G p.block
theorem addr_pos (p : Addr) (j : Nat) (h : j ≠ 0) : p.add j = ⟨p.block, p.off + j, none⟩ := by
  unfold Addr.add; rw [if_neg h]
theorem CellsM.rows4 {rows : List (List Value)} (h1 : rows.length = cs.length) (h3 : ∀ (k : Nat) (vs : List Value) (c : CellP), rows[k]? = some vs → cs[k]? = some c → CellV G w vs c) : ∀ r ∈ rows, r.length = 4 := by
  intro r hr
  obtain ⟨k, hk, e⟩ := List.getElem_of_mem hr
  obtain ⟨kA, kc, vA, vc, e2, _⟩ := h3 k r cs[k] (by rw [List.getElem?_eq_getElem hk, e]) (List.getElem?_eq_getElem (by omega))
  rw [e2]; rfl
theorem CellsM.at_ (h : CellsM G w A cs) (k : Nat) (hk : k < cs.length) : ∃ ad kA vA kc vc, A = some ad ∧ CellHere G w (ad.add (k * 4)) cs[k] kA vA kc vc := by
  obtain ⟨rows, h1, h2, h3⟩ := h
  have h4 := CellsM.rows4 h1 h3
  have hkr : k < rows.length := by omega
  obtain ⟨kA, kc, vA, vc, e, g1, g2, g3, g4⟩ := h3 k rows[k] cs[k] (List.getElem?_eq_getElem hkr) (List.getElem?_eq_getElem hk)
  obtain ⟨ad, eA, hb, hc⟩ := h2.2 (by omega)
  have hrow : ∀ j u, rows[k][j]? = some u → w.cell? ((ad.add (k * 4)).add j) = some u := by
    intro j u hu
    rw [add_of_add]
    exact hc _ u (flatten_at4 h4 k j _ u (List.getElem?_eq_getElem hkr) hu)
  refine ⟨ad, kA, vA, kc, vc, eA, ?_, ?_, ?_, ?_, g1, g2, g3, g4, by rw [block_of_add]; exact hb⟩
  · have := hrow 0 (.slice kA cs[k].key.length kc) (by rw [e]; rfl)
    simpa [Addr.add] using this
  · have := hrow 1 (.slice vA cs[k].val.length vc) (by rw [e]; rfl)
    rwa [addr_pos _ 1 (by decide)] at this
  · have := hrow 2 (.int .i64 (cs[k].over : Int)) (by rw [e]; rfl)
    rwa [addr_pos _ 2 (by decide)] at this
  · have := hrow 3 (.int .i64 (cs[k].long : Int)) (by rw [e]; rfl)
    rwa [addr_pos _ 3 (by decide)] at this
end
set_option maxRecDepth 100000 in
theorem child_any (w : World) (k : Nat) (hk : childN k) : Calls Tryz.prog 154 #[.int .i64 (k : Int)] w fun e w' => e = .returned (.bool true) ∧ w = w' := by
  have h1 : (1 : Int) ≤ (k : Int) := by have := hk.1; omega
  have h2 : (k : Int) < 16777216 := by have := hk.2; omega
  go_enter Tryz.func154, Tryz.ntmps154
  go_wp2_with fail
  go_ret
  exact ⟨rfl, rfl⟩
set_option maxRecDepth 100000 in
theorem ncell_any (w : World) (c : CellP) (hc : CellOk c) (kA vA : Option Addr) (kl kc vc : Nat) :
    Calls Tryz.prog 151 #[.agg #[.slice kA kl kc, .slice vA c.val.length vc, .int .i64 (c.over : Int), .int .i64 (c.long : Int)]] w fun e w' => e = .returned (.bool true) ∧ Below w.heap.size w w' := by
  have hB := (Below.refl w.heap.size w).alloc (Nat.le_refl _) (.cells #[.slice kA kl kc, .slice vA c.val.length vc, .int .i64 (c.over : Int), .int .i64 (c.long : Int)] 95)
  have hb := Blk.new w 95 #[.slice kA kl kc, .slice vA c.val.length vc, .int .i64 (c.over : Int), .int .i64 (c.long : Int)]
  rcases hc with ⟨h1, h2, h3⟩ | ⟨h1, h2, h3, h4⟩
  · have hI : (c.val.length : Int) ≤ 64 := by omega
    rw [h1, h2] at hb hB ⊢
    replace h1 := hide h1
    replace h2 := hide h2
    replace hb := hide hb
    replace hB := hide hB
    go_enter Tryz.func151, Tryz.ntmps151
    go_wp2_with fail
    go_ret
    exact ⟨rfl, hB.out⟩
  · have hch := hide (fun wz => child_any wz c.over h1)
    have hne : ((c.over : Int) == 0) = false := by rw [beq_eq_false_iff_ne]; have := h1.1; omega
    have hl1 : (64 : Int) < (c.long : Int) := by omega
    have hl2 : (c.long : Int) ≤ 20000 := by omega
    have hv0 : c.val.length = 0 := by rw [h4]; rfl
    rw [hv0] at hb hB ⊢
    replace h4 := hide h4
    replace hv0 := hide hv0
    replace hb := hide hb
    replace hB := hide hB
    go_enter Tryz.func151, Tryz.ntmps151
    go_wp2_with (first | (go_at_call 154; refine (hch.out _).mono ?_; rintro e w2 ⟨rfl, rfl⟩))
    go_ret
    exact ⟨rfl, hB.out⟩
end Go.Proofs.YthohbbaglceppaaGreatDoor
