/-
  Rows of ints that hold natural numbers: what came in, what a call owns; append, store, make. Rows of pointers to heaps.
-/
import Derived.Test.YtbchaomnjbkdhaaGreatESortI
import Derived.Test.YtbchaomnjbkdhaaGreatESortH
import Derived.Lib.OwnBridge
namespace Go.Proofs.YtbchaomnjbkdhaaGreat
open Go.RowKit Go.Sort
set_option linter.unusedVariables false
/-- A slice of ints reads as a list of natural numbers. -/
def RN (w : World) (B : Nat) (A : Option Addr) (n : Nat) (l : List Nat) : Prop := Reads w B 1 A n (l.map encI)
/-- The call owns the row of elements of one cell. -/
def OE {α : Type} (enc : α → Value) (e : TypeId) (w : World) (base : Nat) (v : Value) (n : Nat) (l : List α) : Prop := w.ownsRow base e 1 v n (l.map enc)
def ON (w : World) (base : Nat) (v : Value) (n : Nat) (l : List Nat) : Prop := OE encI 3 w base v n l
section
variable {w w' : World} {B B' base n : Nat} {A : Option Addr} {v : Value} {l : List Nat}
theorem RN.len (h : RN w B A n l) : l.length = n := by have := h.1; simpa using this
theorem RN.elem (h : RN w B A n l) {k : Nat} (hk : k < n) : ∃ ad, A = some ad ∧ ad.block < B ∧ w.cell? (ad.add k) = some (.int .i64 ((l.getD k 0 : Nat) : Int)) := by
  obtain ⟨ad, u, e, hb, hx, hc⟩ := Reads.at_ h hk
  have hl : k < l.length := by have := h.len; omega
  rw [List.getElem?_map, List.getElem?_eq_getElem hl] at hx
  injection hx with hx
  refine ⟨ad, e, hb, ?_⟩
  rw [hc, ← hx, List.getD_eq_getElem?_getD, List.getElem?_eq_getElem hl]
  rfl
theorem RN.below (h : RN w B A n l) (hb : Below B w w') : RN w' B A n l := Reads.below h hb
theorem RN.more (h : RN w B A n l) (hB : B ≤ B') : RN w B' A n l := Reads.more h hB
theorem RN.drewN (h : RN w B A n l) (k : Nat) : RN (w.drewN k) B A n l := h
theorem RN.alloc (h : RN w B A n l) (hB : B ≤ w.heap.size) (o : Obj) : RN (w.alloc o) B A n l := Reads.alloc h hB o
theorem RN.nil (w : World) (B : Nat) : RN w B none 0 [] := ⟨by simp, fun h => absurd h (by omega)⟩
end
section
variable {α : Type} {enc : α → Value} {e : TypeId} {w w' : World} {B base n : Nat} {v : Value} {l : List α}
theorem OE.nil (w : World) (base : Nat) : OE enc e w base (.slice none 0 0) 0 ([] : List α) := ⟨by simp, .inl ⟨rfl, rfl⟩⟩
theorem OE.len (h : OE enc e w base v n l) : l.length = n := by have := h.1; simpa using this
theorem OE.reads (h : OE enc e w base v n l) : ∃ A c, v = .slice A n c ∧ Reads w w.heap.size 1 A n (l.map enc) ∧ (A = none → n = 0) ∧ n ≤ c ∧ c ≤ maxLen := by
  have h2 := h.2
  rcases h2 with ⟨rfl, h3⟩ | ⟨g, cap, cur, rfl, _, _, h3, h4, _⟩
  · have h4 : (0 : Nat) = n ∨ n = 0 := by
      first | exact .inr (by simpa using h3) | exact .inr h3
    have hn : n = 0 := by omega
    subst hn
    exact ⟨none, 0, rfl, Reads.of_own h, fun _ => rfl, Nat.le_refl _, Nat.zero_le _⟩
  · exact ⟨_, _, rfl, Reads.of_own h, (fun e => by cases e), h3, h4⟩
theorem OE.below (h : OE enc e w base v n l) (hb : Below B w w') (hs : w.heap.size ≤ B) : OE enc e w' base v n l := by
  obtain ⟨h1, h2⟩ := h
  refine ⟨h1, ?_⟩
  rcases h2 with h2 | ⟨g, cap, cur, hv, hg, hh, r⟩
  · exact Or.inl h2
  · have hlt : g < w.heap.size := by
      rcases Nat.lt_or_ge g w.heap.size with hlt | hge
      · exact hlt
      · rw [Array.getElem?_eq_none hge] at hh; cases hh
    exact Or.inr ⟨g, cap, cur, hv, hg, by rw [hb.block g (by omega)]; exact hh, r⟩
theorem OE.more {b' : Nat} (h : OE enc e w base v n l) (hb : b' ≤ base) : OE enc e w b' v n l := by
  obtain ⟨h1, h2⟩ := h
  refine ⟨h1, ?_⟩
  rcases h2 with h2 | ⟨g, cap, cur, hv, hg, hh, r⟩
  · exact Or.inl h2
  · exact Or.inr ⟨g, cap, cur, hv, by omega, hh, r⟩
theorem OE.alloc (h : OE enc e w base v n l) (o : Obj) : OE enc e (w.alloc o) base v n l := World.ownsRow.alloc h o
theorem OE.drewN (h : OE enc e w base v n l) (k : Nat) : OE enc e (w.drewN k) base v n l := h
theorem OE.lt (h : OE enc e w base v n l) (k : Nat) (hk : v.ownBlock = some k) : base ≤ k ∧ k < w.heap.size := World.ownsRow.lt h k hk
theorem OE.kept {row : Option Nat} (h : OE enc e w base v n l) (hg : w.grownBy w' row) (hne : v.ownBlock = none ∨ v.ownBlock ≠ row) : OE enc e w' base v n l := World.ownsRow.kept h hg hne
/-- nil, or the head of a block. -/
theorem OE.parts (h : OE enc e w base v n l) : (v = .slice none 0 0 ∧ n = 0 ∧ l = []) ∨ ∃ g cap, v = .slice (some ⟨g, 0, none⟩) n cap ∧ base ≤ g ∧ n ≤ cap ∧ cap ≤ maxLen := by
  have hl := h.len
  rcases h.2 with ⟨rfl, h2⟩ | ⟨g, cap, cur, rfl, hg, _, h3, h4, _⟩
  · have hn : n = 0 := by first | exact (by simpa using h2) | exact h2
    exact .inl ⟨rfl, hn, List.eq_nil_of_length_eq_zero (by omega)⟩
  · exact .inr ⟨g, cap, rfl, hg, h3, h4⟩
theorem OE.cell {g cap k : Nat} (h : OE enc e w base (.slice (some ⟨g, 0, none⟩) n cap) n l) (hk : k < l.length) : w.cell? ⟨g, k, none⟩ = some (enc l[k]) := by
  have hl := h.len
  rw [World.ownsRow.cellAt h k (by omega), List.getElem?_map, List.getElem?_eq_getElem hk]; rfl
theorem OE.froz {g cap k : Nat} (h : OE enc e w base (.slice (some ⟨g, 0, none⟩) n cap) n l) : w.frozen? ⟨g, k, none⟩ = false := World.ownsRow.frozenAt h k
theorem OE.stored {g cap : Nat} (h : OE enc e w base (.slice (some ⟨g, 0, none⟩) n cap) n l) (j : Nat) (x : α) : OE enc e (w.setCell ⟨g, j, none⟩ (enc x)) base (.slice (some ⟨g, 0, none⟩) n cap) n (l.set j x) := by
  have := (World.ownsRow.stored h j (enc x)).1
  unfold OE
  rw [show (l.set j x).map enc = (l.map enc).set j (enc x) from List.map_set]
  exact this
theorem OE.other (h : OE enc e w base v n l) {p : Addr} (hp : v.ownBlock ≠ some p.block) (u : Value) : OE enc e (w.setCell p u) base v n l := by
  obtain ⟨h1, h2⟩ := h
  refine ⟨h1, ?_⟩
  rcases h2 with h2 | ⟨g, cap, cur, rfl, hg, hh, r⟩
  · exact Or.inl h2
  · refine Or.inr ⟨g, cap, cur, rfl, hg, ?_, r⟩
    have hne : g ≠ p.block := fun e => hp (by rw [← e]; rfl)
    exact (Below.heap_setCell w p u g hne).trans hh
end
section
variable {w w' : World} {B base n : Nat} {v : Value} {l : List Nat}
theorem ON.rn (h : ON w base v n l) : ∃ A c, v = .slice A n c ∧ RN w w.heap.size A n l ∧ (A = none → n = 0) ∧ n ≤ c ∧ c ≤ maxLen := OE.reads h
end
theorem int_info : (Tryz.prog.info? 3).map (fun i => (i.zero, i.size, i.bytes)) = some (some (.int .i64 0), 1, 8) := by kernel_rfl
theorem ptr_info : (Tryz.prog.info? 112).map (fun i => (i.zero, i.size, i.bytes)) = some (some (.pointer none), 1, 8) := by kernel_rfl
/-- A block of one cell reads as a list of one. -/
theorem reads_one (w : World) (u : Value) (t : TypeId) : Reads (w.alloc (.cells #[u] t)) (w.heap.size + 1) 1 (some ⟨w.heap.size, 0, none⟩) 1 [u] := by
  refine ⟨by simp, fun _ => ⟨_, rfl, by simp, fun j x hj => ?_⟩⟩
  match j, hj with
  | 0, hj =>
    have hx : u = x := by simpa using hj
    subst hx
    exact Blk.cell (Blk.new w t #[u]) 0
section
variable {ops : Array Oper} {rest : List Oper} {o : Oper} {a : Act} {Q : Exit → Act → World → Prop}
/-- append(v, x), one int. -/
theorem wpList_app_i {w : World} {t : TypeId} (x : Nat) {x' : Int} (hx' : x' = (x : Int)) (hgd : o.guard = none) (s y : Operand) (ho : o.op = .call { callee := .builtin .append, args := #[s, y], argTypes := #[49, 49] })
    (base : Nat) (v : Value) (n : Nat) (l : List Nat) (hown : ON w base v n l) (hs : a.eval s = v) (c : Nat) (hy : a.eval y = .slice (some ⟨w.heap.size, 0, none⟩) 1 c) (hlen : n + 1 ≤ 10000000) (hbase : base ≤ w.heap.size)
    (h : ∀ v' w', ON w' base v' (n + 1) (l ++ [x]) → Below base w w' → w.grownBy w' v.ownBlock → (v'.ownBlock = v.ownBlock ∨ (∃ k, v'.ownBlock = some k ∧ w.heap.size ≤ k)) → wpList Tryz.prog ops Q rest (a.put o.dst v') w') :
    wpList Tryz.prog ops Q (o :: rest) a (w.alloc (.cells #[.int .i64 x'] t)) := by
  subst hx'
  obtain ⟨i0, hi0, hz0, hz1, hz2⟩ := info_parts int_info
  refine wpList_append_any _ hgd s y _ ho base 3 i0 _ 1 8 Tryz.underlying49 hi0 hz0 hz1 hz2 rfl (by omega) v n (l.map encI) hs (World.ownsRow.alloc hown _) _ _ 1 c [.int .i64 (x : Int)] hy (reads_one w _ t) (by intro u hu; simp at hu; subst hu; rfl)
    (by simp only [maxLen]; omega) (by omega) (by simp; omega) fun v' w' h1 h2 h3 => ?_
  have e : l.map encI ++ [.int .i64 (x : Int)] = (l ++ [x]).map encI := by simp [encI]
  rw [e] at h1
  have hb1 : Below base w (w.alloc (.cells #[.int .i64 (x : Int)] t)) := (Below.refl _ _).alloc hbase _
  refine h v' w' h1 ?_ ⟨h2.os, h2.tape, h2.output, ?_, fun k hk hne => ?_⟩ ?_
  · exact hb1.trans ((Below.refl _ _).grown h2 (by simp; omega) fun k hk => (OE.lt hown k hk).1)
  · have := h2.size; simp at this; omega
  · rw [h2.block k (by simp; omega) hne]
    exact Below.heap_alloc _ _ _ hk
  · rcases h3 with h3 | h3
    · exact .inl h3
    · exact .inr ⟨_, h3, by simp⟩
end
end Go.Proofs.YtbchaomnjbkdhaaGreat
