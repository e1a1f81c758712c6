/-
  A node that a call has made: its rows are the call's own. What node.Get keeps on its way.
-/
import Derived.Test.YthohbbaglceppaaGreatDoorUNodeG
import Derived.Test.YthohbbaglceppaaGreatDoorUTrim
import Derived.Test.YthohbbaglceppaaGreatDoorUNodeF
namespace Go.Proofs.YthohbbaglceppaaGreatDoor
open Go.RowKit
set_option linter.unusedVariables false
/-- A block of bytes from B on. -/
def G5 (B : Nat) (w : World) (k : Nat) : Prop := B ≤ k ∧ ∃ cs, Blk w k 5 cs
def CellsV (B : Nat) (w : World) (rows : List (List Value)) (cs : List CellP) : Prop := ∀ (k : Nat) (vs : List Value) (c : CellP), rows[k]? = some vs → cs[k]? = some c → CellV (G5 B w) w vs c
/-- A node that a call has made. -/
structure NodeOwn (w : World) (B : Nat) (cv kv : Value) (n : NodeP) : Prop where
  rows : ∃ rows : List (List Value), rows.length = n.cells.length ∧ w.ownsRow B 95 4 cv n.cells.length rows.flatten ∧ CellsV B w rows n.cells
  kids : w.ownsRow B 3 1 kv n.kids.length (n.kids.map encI)
theorem NodeOwn.nodeM {w : World} {B : Nat} {cv kv : Value} {n : NodeP} (h : NodeOwn w B cv kv n) {G : Nat → Prop} (hG : ∀ k, B ≤ k → k < w.heap.size → G k) : NodeM G w (.agg #[.bool n.leaf, cv, kv]) n := by
  obtain ⟨rows, h1, h2, h3⟩ := h.rows
  have hk := h.kids
  have hsl : ∀ {e : TypeId} {size m : Nat} {v : Value} {xs : List Value}, w.ownsRow B e size v m xs → ∃ A c, v = .slice A m c ∧ m ≤ c := by
    intro e size m v xs h
    rcases h.2 with ⟨rfl, rfl⟩ | ⟨g, cap, cur, rfl, _, _, h3, _⟩
    · exact ⟨none, 0, rfl, Nat.le_refl _⟩
    · exact ⟨_, _, rfl, h3⟩
  obtain ⟨A, c, rfl, hc⟩ := hsl h2
  obtain ⟨A', d, rfl, hd⟩ := hsl hk
  exact ⟨A, c, A', d, rfl, hc, hd, ⟨rows, h1, Rd.of_own h2 hG, fun k vs x e1 e2 => (h3 k vs x e1 e2).mono fun j hj => hG j hj.1 (Blk.lt hj.2.choose_spec)⟩, Rd.of_own hk hG⟩
theorem CellsV.keepT {B : Nat} {w w' : World} {rows : List (List Value)} {cs : List CellP} (h : CellsV B w rows cs) (hk : KeepT 5 w w') : CellsV B w' rows cs := fun k vs c e1 e2 =>
  (h k vs c e1 e2).keep fun j hj => ⟨⟨hj.1, hj.2.choose, hk _ _ hj.2.choose_spec⟩, (hk _ _ hj.2.choose_spec).trans hj.2.choose_spec.symm⟩
theorem CellsV.snoc {B : Nat} {w : World} {rows : List (List Value)} {cs : List CellP} (h : CellsV B w rows cs) {vs : List Value} {c : CellP} (hi : cs[rows.length]? = some c) (hv : CellV (G5 B w) w vs c) : CellsV B w (rows ++ [vs]) cs := fun k vs' c' e1 e2 => by
  rcases Nat.lt_trichotomy k rows.length with hk | hk | hk
  · rw [List.getElem?_append_left hk] at e1
    exact h k vs' c' e1 e2
  · subst hk
    rw [List.getElem?_append_right (Nat.le_refl _)] at e1
    simp at e1
    rw [hi] at e2
    injection e2 with e2
    subst e1; subst e2; exact hv
  · rw [List.getElem?_append_right (by omega)] at e1
    have : k - rows.length = (k - rows.length - 1) + 1 := by omega
    rw [this] at e1
    simp at e1
/-- A row of bytes of the call's own is in such blocks. -/
theorem OB.rd5 {w : World} {B n c : Nat} {A : Option Addr} {l : List UInt8} (h : OB w B (.slice A n c) n l) : Rd (G5 B w) w 1 A n (bv l) := by
  refine ⟨h.1, fun hn => ?_⟩
  rcases h.2 with ⟨e, h0⟩ | ⟨g, cap, cur, hv, hg, hh, h3, h4, h5, ht⟩
  · omega
  · cases hv
    refine ⟨_, rfl, ⟨hg, cur, hh⟩, fun j u hu => ?_⟩
    exact World.ownsRow.cells h rfl j u hu
/-- What node.Get keeps: the result's cell, the reader, the node that grows. -/
structure GI (w : World) (gr gn : Nat) (A : Option Addr) (N c : Nat) (b : List UInt8) (n : NodeP) (i kn p : Nat) (cv kv : Value) (wx : World) : Prop where
  res : Blk wx w.heap.size 101 #[.bool false, .slice none 0 0, .slice none 0 0]
  rdr : Rdr wx gr A N c b p
  nod : Blk wx gn 101 #[.bool n.leaf, cv, kv]
  bel : Below w.heap.size w wx
  rows : ∃ rows : List (List Value), rows.length = i ∧ wx.ownsRow gn 95 4 cv i rows.flatten ∧ CellsV w.heap.size wx rows n.cells
  kids : wx.ownsRow gn 3 1 kv kn ((n.kids.take kn).map encI)
  lr : w.heap.size < gr
  rn : gr < gn
section
variable {w wx wy : World} {gr gn N c i kn p q : Nat} {A : Option Addr} {b : List UInt8} {n : NodeP} {cv kv : Value}
theorem own_not_blk {e t : TypeId} {size m g : Nat} {v : Value} {xs : List Value} {B : Nat} {cs : Array Value} (h : wx.ownsRow B e size v m xs) (hb : Blk wx g t cs) (hne : e ≠ t) : ∀ k, v.ownBlock = some k → k ≠ g := fun k hk e => own_blk_ne h hb hne (by rw [hk, e])
theorem GI.only (h : GI w gr gn A N c b n i kn p cv kv wx) (hO : Only (fun j => j = gr) wx wy) (hr : Rdr wy gr A N c b q) : GI w gr gn A N c b n i kn q cv kv wy := by
  obtain ⟨rows, h1, h2, h3⟩ := h.rows
  have hlr := h.lr
  have hrn := h.rn
  have hT : KeepT 5 wx wy := hO.keepT fun k cs hk hb => by subst hk; exact Blk.ne_ hb h.rdr.blk (by decide) rfl
  exact ⟨hO.blk h.res (by omega), hr, hO.blk h.nod (by omega), h.bel.trans (hO.below (B := w.heap.size) (fun k hk => by omega) h.bel.size), ⟨rows, h1, hO.row h2 (own_not_blk h2 h.rdr.blk (by decide)), h3.keepT hT⟩, hO.row h.kids (own_not_blk h.kids h.rdr.blk (by decide)), hlr, hrn⟩
theorem GI.alloc (h : GI w gr gn A N c b n i kn p cv kv wx) (o : Obj) : GI w gr gn A N c b n i kn p cv kv (wx.alloc o) :=
  h.only ((Only.refl _ wx).alloc o) (h.rdr.only ((Only.refl (fun _ => False) wx).alloc o) (fun h => h) (fun _ _ h => h))
theorem GI.drew (h : GI w gr gn A N c b n i kn p cv kv wx) : GI w gr gn A N c b n i kn p cv kv wx.drew :=
  h.only (Only.refl _ wx).drew (h.rdr.only (Only.refl (fun _ => False) wx).drew (fun h => h) (fun _ _ h => h))
theorem GI.nodB (h : GI w gr gn A N c b n i kn p cv kv wx) : w.heap.size < gn := Nat.lt_trans h.lr h.rn
theorem own_base {e : TypeId} {size m : Nat} {v : Value} {xs : List Value} {B : Nat} (h : wx.ownsRow B e size v m xs) : ∀ k, v.ownBlock = some k → B ≤ k := fun k hk => by
  rcases h.2 with ⟨e, _⟩ | ⟨g, cap, cur, e, hg, _⟩
  · rw [e] at hk; simp [Value.ownBlock] at hk
  · rw [e] at hk; simp [Value.ownBlock] at hk; omega
theorem own_ne {e e' : TypeId} {size size' m m' : Nat} {v v' : Value} {xs xs' : List Value} {B B' : Nat} (h : wx.ownsRow B e size v m xs) (h' : wx.ownsRow B' e' size' v' m' xs') (hne : e ≠ e') : ∀ k, v.ownBlock = some k → v'.ownBlock ≠ some k := fun k hk he => by
  rcases h'.2 with ⟨e2, _⟩ | ⟨g, cap, cur, e2, _, hh, _⟩
  · rw [e2] at he; simp [Value.ownBlock] at he
  · rw [e2] at he
    have : g = k := by simpa [Value.ownBlock] using he
    subst this
    exact own_blk_ne h (show Blk wx g e' cur from hh) hne hk
theorem own_moreB {e : TypeId} {size m : Nat} {v : Value} {xs : List Value} {B B' : Nat} (h : wx.ownsRow B e size v m xs) (hb : B' ≤ B) : wx.ownsRow B' e size v m xs := by
  obtain ⟨h1, h2⟩ := h
  refine ⟨h1, ?_⟩
  rcases h2 with h2 | ⟨g, cap, cur, hv, hg, r⟩
  · exact Or.inl h2
  · exact Or.inr ⟨g, cap, cur, hv, by omega, r⟩
/-- The kids grow: behind append and the store. -/
theorem GI.kid (h : GI w gr gn A N c b n i kn p cv kv wx) {kv' : Value} {kn' : Nat} (hg : wx.grownBy wy kv.ownBlock) (ho : wy.ownsRow gn 3 1 kv' kn' ((n.kids.take kn').map encI)) :
    GI w gr gn A N c b n i kn' p cv kv' (wy.setCell ⟨gn, 2, none⟩ kv') := by
  obtain ⟨rows, h1, h2, h3⟩ := h.rows
  have hgn := h.nod
  have hlr := h.lr
  have hrn := h.rn
  have hkb := own_base h.kids
  have hkn := own_not_blk h.kids h.nod (by decide)
  have hkc : ∀ k, kv.ownBlock = some k → ∀ cs, ¬ Blk wx k 5 cs := fun k hk cs hb => own_blk_ne h.kids hb (by decide) hk
  have hkcv := own_ne h2 h.kids (by decide)
  have hnod2 : Blk wy gn 101 #[.bool n.leaf, cv, kv] := hgn.grown hg (fun e => hkn gn e.symm rfl)
  have hO1 : Only (fun j => kv.ownBlock = some j) wx wy := (Only.refl _ wx).grown hg (fun k hk _ => hk)
  have hO2 : Only (fun j => j = gn) wy (wy.setCell ⟨gn, 2, none⟩ kv') := (Only.refl (fun j => j = gn) wy).setCell (p := ⟨gn, 2, none⟩) (fun _ => rfl) kv'
  have hrdr1 : Rdr wy gr A N c b p := h.rdr.only hO1 (fun e => by have := hkb gr e; omega) (fun k hk e => by have := hkb k e; omega)
  have hT1 : KeepT 5 wx wy := hO1.keepT fun k cs hk hb => hkc k hk cs hb
  have hT2 : KeepT 5 wy (wy.setCell ⟨gn, 2, none⟩ kv') := hO2.keepT fun k cs hk hb => by subst hk; exact Blk.ne_ hb hnod2 (by decide) rfl
  have hown2 := hO1.row h2 (fun k hk => hkcv k hk)
  refine ⟨hO2.blk (hO1.blk h.res (fun e => by have := hkb _ e; omega)) (by omega), hrdr1.only hO2 (by omega) (fun k hk e => by omega), ?_, h.bel.trans ((hO1.below (B := w.heap.size) (fun k hk => by have := hkb k hk; omega) h.bel.size).trans (hO2.below (B := w.heap.size) (fun k hk => by omega) (Nat.le_trans h.bel.size hO1.size))), ⟨rows, h1, hO2.row hown2 (own_not_blk hown2 hnod2 (by decide)), (h3.keepT hT1).keepT hT2⟩, hO2.row ho (own_not_blk ho hnod2 (by decide)), hlr, hrn⟩
  exact hnod2.set_ 2 kv'
/-- The cells grow. -/
theorem GI.cell (h : GI w gr gn A N c b n i kn p cv kv wx) {cv' : Value} {vs : List Value} {x : CellP} (hg : wx.grownBy wy cv.ownBlock) (hx : n.cells[i]? = some x) (hvs : CellV (G5 w.heap.size wx) wx vs x)
    (rows : List (List Value)) (h1 : rows.length = i) (h2 : wx.ownsRow gn 95 4 cv i rows.flatten) (h3 : CellsV w.heap.size wx rows n.cells)
    (hown2 : wy.ownsRow gn 95 4 cv' (i + 1) (rows.flatten ++ vs)) :
    GI w gr gn A N c b n (i + 1) kn p cv' kv (wy.setCell ⟨gn, 1, none⟩ cv') := by
  have hgn := h.nod
  have hlr := h.lr
  have hrn := h.rn
  have hkb := own_base h2
  have hkn := own_not_blk h2 h.nod (by decide)
  have hkc : ∀ k, cv.ownBlock = some k → ∀ cs, ¬ Blk wx k 5 cs := fun k hk cs hb => own_blk_ne h2 hb (by decide) hk
  have hkcv := own_ne h.kids h2 (by decide)
  have hnod2 : Blk wy gn 101 #[.bool n.leaf, cv, kv] := hgn.grown hg (fun e => hkn gn e.symm rfl)
  have hO1 : Only (fun j => cv.ownBlock = some j) wx wy := (Only.refl _ wx).grown hg (fun k hk _ => hk)
  have hO2 : Only (fun j => j = gn) wy (wy.setCell ⟨gn, 1, none⟩ cv') := (Only.refl (fun j => j = gn) wy).setCell (p := ⟨gn, 1, none⟩) (fun _ => rfl) cv'
  have hrdr1 : Rdr wy gr A N c b p := h.rdr.only hO1 (fun e => by have := hkb gr e; omega) (fun k hk e => by have := hkb k e; omega)
  have hT1 : KeepT 5 wx wy := hO1.keepT fun k cs hk hb => hkc k hk cs hb
  have hT2 : KeepT 5 wy (wy.setCell ⟨gn, 1, none⟩ cv') := hO2.keepT fun k cs hk hb => by subst hk; exact Blk.ne_ hb hnod2 (by decide) rfl
  have hkid2 := hO1.row h.kids (fun k hk => hkcv k hk)
  have hsn : CellsV w.heap.size wx (rows ++ [vs]) n.cells := h3.snoc (by rw [h1]; exact hx) hvs
  refine ⟨hO2.blk (hO1.blk h.res (fun e => by have := hkb _ e; omega)) (by omega), hrdr1.only hO2 (by omega) (fun k hk e => by omega), ?_, h.bel.trans ((hO1.below (B := w.heap.size) (fun k hk => by have := hkb k hk; omega) h.bel.size).trans (hO2.below (B := w.heap.size) (fun k hk => by omega) (Nat.le_trans h.bel.size hO1.size))), ⟨rows ++ [vs], by simp [h1], ?_, (hsn.keepT hT1).keepT hT2⟩, hO2.row hkid2 (own_not_blk hkid2 hnod2 (by decide)), hlr, hrn⟩
  · exact hnod2.set_ 1 cv'
  · rw [show (rows ++ [vs]).flatten = rows.flatten ++ vs from by simp]
    exact hO2.row hown2 (own_not_blk hown2 hnod2 (by decide))
theorem NodeOwn.only {B : Nat} (h : NodeOwn wx B cv kv n) {S : Nat → Prop} (hO : Only S wx wy) (hS : ∀ k, S k → ∃ t cs, Blk wx k t cs ∧ t ≠ 5 ∧ t ≠ 95 ∧ t ≠ 3) : NodeOwn wy B cv kv n := by
  obtain ⟨rows, h1, h2, h3⟩ := h.rows
  have hT : KeepT 5 wx wy := hO.keepT fun k cs hk hb => by
    obtain ⟨t, cs', hb', ht, _⟩ := hS k hk
    exact Blk.ne_ hb hb' (Ne.symm ht) rfl
  refine ⟨⟨rows, h1, hO.row h2 fun k hk hs => ?_, h3.keepT hT⟩, hO.row h.kids fun k hk hs => ?_⟩
  · obtain ⟨t, cs', hb', _, ht, _⟩ := hS k hs
    exact own_blk_ne h2 hb' (Ne.symm ht) hk
  · obtain ⟨t, cs', hb', _, _, ht⟩ := hS k hs
    exact own_blk_ne h.kids hb' (Ne.symm ht) hk
theorem GI.own (h : GI w gr gn A N c b n i kn p cv kv wx) (hi : i = n.cells.length) (hk : kn = n.kids.length) : NodeOwn wx w.heap.size cv kv n := by
  obtain ⟨rows, h1, h2, h3⟩ := h.rows
  have hb := h.nodB
  subst hi; subst hk
  refine ⟨⟨rows, h1, own_moreB h2 (by omega), h3⟩, ?_⟩
  have := own_moreB (B' := w.heap.size) h.kids (by omega)
  rw [List.take_length] at this
  exact this
end
end Go.Proofs.YthohbbaglceppaaGreatDoor
