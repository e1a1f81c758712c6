/-
  Heaps of symbols in memory; a row of pointers to them that begins anywhere in its block.
-/
import Derived.Test.YtbchaomnjbkdhaaGreatEInts
import Derived.Test.YtbchaomnjbkdhaaGreatEB
namespace Go.Proofs.YtbchaomnjbkdhaaGreat
open Go.RowKit Go.Sort
set_option linter.unusedVariables false
section
variable {t : TypeId} {w w' w'' : World}
theorem KeepT.put {α : Type} [Inhabited α] {enc : α → Value} {b off : Nat} {d : Array α} {t' : TypeId} {cs' : Array Value} (h : KeepT t w w') (hp : Blk w' b t' cs') (ht : t ≠ t') : KeepT t w (putRow enc w' b off d) := by
  intro g cs hb
  have h1 := h g cs hb
  have hne := Blk.ne_ h1 hp ht
  unfold Blk at h1 ⊢
  rw [← h1]
  simp [putRow, mapBlock, Array.getElem?_modify, show b ≠ g from fun e => hne e.symm]
end
/-- A heap of symbols stands at a block. -/
def HpAt (w : World) : Hp → Nat → Prop
  | .leaf c s, g => Blk w g 128 #[.int .i64 (c : Int), .int .i64 (s : Int), .pointer none, .pointer none]
  | .node c a b, g => ∃ ga gb, Blk w g 128 #[.int .i64 (c : Int), .int .i64 0, .pointer (some ⟨ga, 0, none⟩), .pointer (some ⟨gb, 0, none⟩)] ∧ HpAt w a ga ∧ HpAt w b gb
theorem HpAt.keep {w w' : World} (hk : KeepT 128 w w') : ∀ {h : Hp} {g : Nat}, HpAt w h g → HpAt w' h g
  | .leaf c s, g, h => hk g _ h
  | .node c a b, g, ⟨ga, gb, h1, h2, h3⟩ => ⟨ga, gb, hk g _ h1, HpAt.keep hk h2, HpAt.keep hk h3⟩
theorem HpAt.blk {w : World} {h : Hp} {g : Nat} (hh : HpAt w h g) : ∃ u1 u2 u3, Blk w g 128 #[.int .i64 (h.cnt : Int), u1, u2, u3] := by
  cases h with
  | leaf c s => exact ⟨_, _, _, hh⟩
  | node c a b => obtain ⟨ga, gb, h1, _⟩ := hh; exact ⟨_, _, _, h1⟩
theorem HpAt.lt {w : World} {h : Hp} {g : Nat} (hh : HpAt w h g) : g < w.heap.size := by obtain ⟨_, _, _, hb⟩ := hh.blk; exact hb.lt
/-- A row of elements of one cell that begins anywhere in its block, in a block of the call's own. -/
def RowAt {α : Type} (enc : α → Value) (e : TypeId) (w : World) (base : Nat) (g off cap : Nat) (l : List α) : Prop :=
  base ≤ g ∧ l.length ≤ cap ∧ cap ≤ maxLen ∧ ∃ cur, Blk w g e cur ∧ off + cap ≤ cur.size ∧ ∀ j x, l[j]? = some x → cur[off + j]? = some (enc x)
section
variable {α : Type} {enc : α → Value} {e : TypeId} {w w' : World} {base g off cap : Nat} {l : List α}
theorem RowAt.lt (h : RowAt enc e w base g off cap l) : g < w.heap.size := by obtain ⟨_, _, _, cur, hb, _⟩ := h; exact hb.lt
theorem RowAt.of_own {n : Nat} (h : OE enc e w base (.slice (some ⟨g, 0, none⟩) n cap) n l) : RowAt enc e w base g 0 cap l := by
  obtain ⟨h1, h2⟩ := h
  rcases h2 with ⟨h3, _⟩ | ⟨g', cap', cur, hv, hg, hh, hn, hc, hs, ht⟩
  · cases h3
  · cases hv
    have hl : l.length = n := by simpa using h1
    refine ⟨hg, by omega, hc, cur, hh, by omega, fun j x hj => ?_⟩
    have hjl : j < l.length := by
      rcases Nat.lt_or_ge j l.length with h | h
      · exact h
      · rw [List.getElem?_eq_none h] at hj; cases hj
    have : (cur.toList.take (n * 1))[j]? = some (enc x) := by rw [ht, List.getElem?_map, hj]; rfl
    rw [List.getElem?_take, if_pos (by omega), Array.getElem?_toList] at this
    rwa [Nat.zero_add]
theorem RowAt.holds [Inhabited α] (h : RowAt enc e w base g off cap l) : Holds enc w g off l.toArray := by
  obtain ⟨_, _, _, cur, hb, hs, hc⟩ := h
  intro j hj
  have hj2 : j < l.length := by simpa using hj
  refine ⟨?_, hb.frozen _⟩
  rw [hb.cell, hc j _ (List.getElem?_eq_getElem hj2), getElem!_pos _ j hj]
  simp
theorem RowAt.cell (h : RowAt enc e w base g off cap l) {j : Nat} (hj : j < l.length) : w.cell? ⟨g, off + j, none⟩ = some (enc l[j]) := by
  obtain ⟨_, _, _, cur, hb, hs, hc⟩ := h
  rw [hb.cell, hc j _ (List.getElem?_eq_getElem hj)]
theorem RowAt.froz (h : RowAt enc e w base g off cap l) (j : Nat) : w.frozen? ⟨g, j, none⟩ = false := by
  obtain ⟨_, _, _, cur, hb, _⟩ := h
  exact hb.frozen _
theorem RowAt.blk (h : RowAt enc e w base g off cap l) : ∃ cur, Blk w g e cur := by
  obtain ⟨_, _, _, cur, hb, _⟩ := h; exact ⟨cur, hb⟩
theorem RowAt.drop (h : RowAt enc e w base g off cap l) (k : Nat) (hk : k ≤ l.length) : RowAt enc e w base g (off + k) (cap - k) (l.drop k) := by
  obtain ⟨h1, h2, h3, cur, hb, hs, hc⟩ := h
  refine ⟨h1, by rw [List.length_drop]; omega, by omega, cur, hb, by omega, fun j x hj => ?_⟩
  rw [List.getElem?_drop] at hj
  rw [← hc _ x hj]; congr 1; omega
theorem RowAt.keep (h : RowAt enc e w base g off cap l) (hk : KeepT e w w') : RowAt enc e w' base g off cap l := by
  obtain ⟨h1, h2, h3, cur, hb, hs, hc⟩ := h
  exact ⟨h1, h2, h3, cur, hk _ _ hb, hs, hc⟩
theorem RowAt.alloc (h : RowAt enc e w base g off cap l) (o : Obj) : RowAt enc e (w.alloc o) base g off cap l := h.keep ((KeepT.refl _ _).alloc o)
theorem RowAt.drewN (h : RowAt enc e w base g off cap l) (n : Nat) : RowAt enc e (w.drewN n) base g off cap l := h
theorem RowAt.more {b' : Nat} (h : RowAt enc e w base g off cap l) (hb : b' ≤ base) : RowAt enc e w b' g off cap l := by
  obtain ⟨h1, h2⟩ := h; exact ⟨by omega, h2⟩
/-- The row behind its first k elements, as a slice tells it. -/
theorem RowAt.cut (h : RowAt enc e w base g off cap l) (k : Nat) (hk : k ≤ l.length) : RowAt enc e w base g (if cap = k then off else off + k) (cap - k) (l.drop k) := by
  have hd := h.drop k hk
  by_cases hc : cap = k
  · rw [if_pos hc]
    obtain ⟨h1, h2, h3, cur, hb, hs, _⟩ := h
    have hn : l.drop k = [] := List.drop_eq_nil_of_le (by omega)
    rw [hn]
    exact ⟨h1, Nat.zero_le _, by omega, cur, hb, by omega, fun j x hj => by simp at hj⟩
  · rw [if_neg hc]; exact hd
theorem RowAt.put [Inhabited α] (h : RowAt enc e w base g off cap l) (d : Array α) (hd : d.size = l.length) : RowAt enc e (putRow enc w g off d) base g off cap d.toList := by
  obtain ⟨h1, h2, h3, cur, hb, hs, hc⟩ := h
  refine ⟨h1, by simpa using (by omega : d.size ≤ cap), h3, putCells enc off d cur, ?_, by simpa [putCells] using hs, fun j x hj => ?_⟩
  · unfold Blk at hb ⊢
    simp [putRow, mapBlock, Array.getElem?_modify, hb, onCells]
  · have hjd : j < d.size := by
      rcases Nat.lt_or_ge j d.size with h | h
      · exact h
      · rw [List.getElem?_eq_none (by simpa using h)] at hj; cases hj
    rw [Array.getElem?_toList, Array.getElem?_eq_getElem hjd] at hj
    cases hj
    simp only [putCells, Array.getElem?_mapIdx, Array.getElem?_eq_getElem (show off + j < cur.size by omega), Option.map_some]
    rw [if_pos (by omega)]
    simp [getElem!_pos, hjd]
end
/-- append(row, x): the pointer to a heap. -/
theorem RowAt.app_room {α : Type} {enc : α → Value} {e : TypeId} {w : World} {base g off cap : Nat} {l : List α} (h : RowAt enc e w base g off cap l) (x : α) (hr : l.length + 1 ≤ cap) :
    RowAt enc e (w.setCell ⟨g, off + l.length, none⟩ (enc x)) base g off cap (l ++ [x]) := by
  obtain ⟨h1, h2, h3, cur, hb, hs, hc⟩ := h
  refine ⟨h1, by simpa using hr, h3, _, hb.set_ _ _, by simpa using hs, fun j y hj => ?_⟩
  rw [Array.getElem?_setIfInBounds]
  by_cases hjl : j = l.length
  · subst hjl
    rw [List.getElem?_append_right (Nat.le_refl _), Nat.sub_self] at hj
    have hxy : x = y := by simpa using hj
    subst hxy
    rw [if_pos rfl, if_pos (by omega)]
  · have hjl2 : j < l.length := by
      rcases Nat.lt_or_ge j (l ++ [x]).length with h | h
      · simp at h; omega
      · rw [List.getElem?_eq_none h] at hj; cases hj
    rw [List.getElem?_append_left hjl2] at hj
    rw [if_neg (by omega)]
    exact hc j y hj
/-- append(row, x), one pointer, wherever the row begins in its block: what runs. -/
theorem run_app_h {w : World} {t : TypeId} (x : Hp × Nat) (base g off cap n : Nat) (l : List (Hp × Nat)) (hown : RowAt encH 112 w base g off cap l) (hn : n = l.length) (c : Nat) (hlen : n + 1 ≤ 10000000) (hbase : base ≤ w.heap.size) (ty : TypeId) :
    ∃ g' off' cap' w', (Builtin.append_ #[126, 126] ty #[.slice (some ⟨g, off, none⟩) n cap, .slice (some ⟨w.heap.size, 0, none⟩) 1 c]).run Tryz.prog (w.alloc (.cells #[encH x] t)) = .ok (.slice (some ⟨g', off', none⟩) (n + 1) cap') w' ∧
      RowAt encH 112 w' base g' off' cap' (l ++ [x]) ∧ KeepT 128 w w' ∧ Below base w w' ∧ ∀ b j, b < w.heap.size → (b ≠ g ∨ j < off + n ∨ cap < n + 1) → w'.cell? ⟨b, j, none⟩ = w.cell? ⟨b, j, none⟩ := by
  subst hn
  obtain ⟨i0, hi0, hz0, hz1, hz2⟩ := info_parts ptr_info
  have hnew : Reads (w.alloc (.cells #[encH x] t)) (w.heap.size + 1) 1 (some ⟨w.heap.size, 0, none⟩) 1 [encH x] := reads_one w _ t
  obtain ⟨ad, hA, _, hcells⟩ := hnew.2 (by omega)
  cases hA
  have hR := hown.alloc (.cells #[encH x] t)
  obtain ⟨hb1, hb2, hb3, cur, hblk, hbs, hbc⟩ := hR
  have holds : ∀ j u, (l.map encH)[j]? = some u → (w.alloc (.cells #[encH x] t)).cell? ⟨g, off + j, none⟩ = some u := by
    intro j u hj
    rw [List.getElem?_map] at hj
    cases hx : l[j]? with
    | none => rw [hx] at hj; cases hj
    | some z =>
      rw [hx] at hj
      cases hj
      rw [hblk.cell]; exact hbc j z hx
  by_cases hr : l.length + 1 ≤ cap
  · have hrun := run_append_room_cells (P := Tryz.prog) (w.alloc (.cells #[encH x] t)) 126 ty 112 i0 Tryz.underlying126 hi0 g off l.length cap ⟨w.heap.size, 0, none⟩ 1 c [encH x] (by rw [hz1]; rfl) hcells (by intro u hu; simp at hu; subst hu; rfl) hr
      (fun j hj => by
        have : j = 0 := by simpa using hj
        subst this
        rw [hblk.cell, hz1, Nat.mul_one, Array.getElem?_eq_getElem (by omega)]; rfl)
      (fun j hj => hblk.frozen _)
    rw [hz1, Nat.mul_one] at hrun
    refine ⟨g, off, cap, _, hrun, (hown.alloc _).app_room x hr, ?_, ?_, fun b j hb hj => ?_⟩
    · exact ((KeepT.refl _ _).alloc _).set_ (p := ⟨g, _, none⟩) hblk (by decide) _
    · exact ((Below.refl _ _).alloc hbase _).setCell (p := ⟨g, _, none⟩) hown.1 _
    · have e1 := World.cell?_setCell_other (w.alloc (.cells #[encH x] t)) ⟨g, off + l.length, none⟩ ⟨b, j, none⟩ (encH x) (fun e => by injection e with e1 e2; omega)
      exact e1.trans (World.cell?_alloc_lt w _ ⟨b, j, none⟩ hb)
  · obtain ⟨v', w', hrun, h1, h2⟩ := run_append_arg_grows (P := Tryz.prog) (w.alloc (.cells #[encH x] t)) 126 ty 112 i0 _ 1 8 Tryz.underlying126 hi0 hz0 hz1 hz2 rfl (by omega) ⟨g, off, none⟩ l.length cap (l.map encH) (by simp) (fun j u hj => by rw [Addr.add_lit]; exact holds j u hj) ⟨w.heap.size, 0, none⟩ 1 c [encH x] rfl hcells (by omega) (by simp only [maxLen]; omega) (by omega)
    rcases h1.form (by omega) with ⟨g', cap', rfl, hg', _⟩
    have e2 : l.map encH ++ [encH x] = (l ++ [x]).map encH := by simp
    rw [e2] at h1
    have hR2 : RowAt encH 112 w' _ g' 0 cap' (l ++ [x]) := RowAt.of_own (n := l.length + 1) h1
    refine ⟨g', 0, cap', w', hrun, hR2.more (by simp; omega), ?_, ?_, fun b j hb hj => ?_⟩
    · exact ((KeepT.refl _ _).alloc _).grown h2 (fun k cs hk => by cases hk)
    · exact ((Below.refl _ _).alloc hbase _).trans ((Below.refl _ _).grown h2 (by simp; omega) fun k hk => by cases hk)
    · have e1 := World.cell?_of_block (a := ⟨b, j, none⟩) (h2.block b (by simp; omega) (by simp))
      exact e1.trans (World.cell?_alloc_lt w _ ⟨b, j, none⟩ hb)
section
variable {ops : Array Oper} {rest : List Oper} {o : Oper} {a : Act} {Q : Exit → Act → World → Prop}
/-- append(v, x), one pointer. -/
theorem wpList_app_p {w : World} {t : TypeId} (x : Hp × Nat) (hgd : o.guard = none) (s y : Operand) (ho : o.op = .call { callee := .builtin .append, args := #[s, y], argTypes := #[126, 126] })
    (base : Nat) (v : Value) (n : Nat) (l : List (Hp × Nat)) (hown : OE encH 112 w base v n l) (hs : a.eval s = v) (c : Nat) (hy : a.eval y = .slice (some ⟨w.heap.size, 0, none⟩) 1 c) (hlen : n + 1 ≤ 10000000) (hbase : base ≤ w.heap.size)
    (h : ∀ v' w', OE encH 112 w' base v' (n + 1) (l ++ [x]) → Below base w w' → KeepT 128 w w' → wpList Tryz.prog ops Q rest (a.put o.dst v') w') :
    wpList Tryz.prog ops Q (o :: rest) a (w.alloc (.cells #[encH x] t)) := by
  obtain ⟨i0, hi0, hz0, hz1, hz2⟩ := info_parts ptr_info
  refine wpList_append_any _ hgd s y _ ho base 112 i0 _ 1 8 Tryz.underlying126 hi0 hz0 hz1 hz2 rfl (by omega) v n (l.map encH) hs (World.ownsRow.alloc hown _) _ _ 1 c [encH x] hy (reads_one w _ t) (by intro u hu; simp at hu; subst hu; rfl)
    (by simp only [maxLen]; omega) (by omega) (by simp; omega) fun v' w' h1 h2 h3 => ?_
  have e : l.map encH ++ [encH x] = (l ++ [x]).map encH := by simp
  rw [e] at h1
  refine h v' w' h1 (((Below.refl _ _).alloc hbase _).trans ((Below.refl _ _).grown h2 (by simp; omega) fun k hk => (OE.lt hown k hk).1)) ?_
  exact ((KeepT.refl _ _).alloc _).grown_own h2 (World.ownsRow.alloc hown _) (by decide)
end
theorem below_put {α : Type} [Inhabited α] {enc : α → Value} {B : Nat} {w0 w : World} {g off : Nat} {d : Array α} (h : Below B w0 w) (hg : B ≤ g) : Below B w0 (putRow enc w g off d) :=
  ⟨h.os, h.tape, h.output, by simpa [putRow, mapBlock] using h.size, fun k hk => by
    rw [← h.block k hk]
    simp [putRow, mapBlock, Array.getElem?_modify, show g ≠ k by omega]⟩
end Go.Proofs.YtbchaomnjbkdhaaGreat
