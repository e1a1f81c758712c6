/-
  Rows of bytes that a call owns, over this seat's program: append in three shapes.
-/
import Derived.Test.YtbchaomnjbkdhaaChecked
import Derived.Test.YtbchaomnjbkdhaaBase
import Derived.WalkSpells
namespace Go.Proofs.Ytbchaomnjbkdhaa
open Go.RowKit
set_option linter.unusedVariables false

theorem byte_info : (Try.prog.info? 5).map (fun i => (i.zero, i.size, i.bytes)) = some (some (.int .u8 0), 1, 1) := by kernel_rfl

/-- The call owns the row of bytes: nil, or at the head of a block from 'base' on. -/
def OB (w : World) (base : Nat) (v : Value) (n : Nat) (l : List UInt8) : Prop := w.ownsRow base 5 1 v n (bv l)
section
variable {w w' : World} {base n : Nat} {v : Value} {l : List UInt8}
theorem OB.nil (w : World) (base : Nat) : OB w base (.slice none 0 0) 0 [] := ⟨by simp [bv], .inl ⟨rfl, rfl⟩⟩
theorem OB.empty (w : World) {base : Nat} (h : base ≤ w.heap.size) : OB (w.alloc (.cells #[] 5)) base (.slice (some ⟨w.heap.size, 0, none⟩) 0 0) 0 [] :=
  ⟨by simp [bv], .inr ⟨w.heap.size, 0, #[], rfl, h, heap_alloc_new w _, Nat.le_refl _, Nat.zero_le _, rfl, rfl⟩⟩
theorem OB.len (h : OB w base v n l) : l.length = n := by have := h.1; simpa [bv] using this
theorem OB.form (h : OB w base v n l) : ∃ A c, v = .slice A n c ∧ RB w w.heap.size A n l ∧ (A = none → n = 0) ∧ n ≤ c ∧ c ≤ maxLen := by
  have h2 := h.2
  rcases h2 with ⟨rfl, rfl⟩ | ⟨g, cap, cur, rfl, _, _, h3, h4, _⟩
  · exact ⟨none, 0, rfl, Reads.of_own h, fun _ => rfl, Nat.le_refl _, Nat.zero_le _⟩
  · exact ⟨_, _, rfl, Reads.of_own h, (fun e => by cases e), h3, h4⟩
theorem OB.below {B : Nat} (h : OB w base v n l) (hb : Below B w w') (hs : w.heap.size ≤ B) : OB w' base v n l := by
  obtain ⟨h1, h2⟩ := h
  refine ⟨h1, ?_⟩
  rcases h2 with h2 | ⟨g, cap, cur, hv, hg, hh, r⟩
  · exact Or.inl h2
  · have hlt : g < w.heap.size := by
      rcases Nat.lt_or_ge g w.heap.size with hlt | hge
      · exact hlt
      · rw [Array.getElem?_eq_none hge] at hh; cases hh
    exact Or.inr ⟨g, cap, cur, hv, hg, by rw [hb.block g (by omega)]; exact hh, r⟩
theorem OB.more {b' : Nat} (h : OB w base v n l) (hb : b' ≤ base) : OB w b' v n l := by
  obtain ⟨h1, h2⟩ := h
  refine ⟨h1, ?_⟩
  rcases h2 with h2 | ⟨g, cap, cur, hv, hg, hh, r⟩
  · exact Or.inl h2
  · exact Or.inr ⟨g, cap, cur, hv, by omega, hh, r⟩
theorem OB.alloc (h : OB w base v n l) (o : Obj) : OB (w.alloc o) base v n l := World.ownsRow.alloc h o
theorem OB.drew (h : OB w base v n l) : OB w.drew base v n l := h
theorem OB.drewN (h : OB w base v n l) (k : Nat) : OB (w.drewN k) base v n l := h
theorem OB.block_lt (h : OB w base v n l) (k : Nat) (hk : v.ownBlock = some k) : base ≤ k := by
  rcases h.2 with ⟨rfl, rfl⟩ | ⟨g, cap, cur, rfl, hg, _⟩
  · simp [Value.ownBlock] at hk
  · simp [Value.ownBlock] at hk; omega
theorem OB.cut {g cap k : Nat} (h : OB w base (.slice (some ⟨g, 0, none⟩) n cap) n l) (hk : k ≤ n) : OB w base (.slice (some ⟨g, 0, none⟩) k cap) k (l.take k) := by
  obtain ⟨h1, h2⟩ := h
  rcases h2 with ⟨h0, _⟩ | ⟨g', cap', cur, hv, hg, hh, hn, hcap, hsz, htake⟩
  · cases h0
  · cases hv
    refine ⟨?_, .inr ⟨g, cap, cur, rfl, hg, hh, by omega, hcap, hsz, ?_⟩⟩
    · rw [bv_length] at h1 ⊢
      rw [List.length_take]; omega
    · have h3 : (cur.toList.take (n * 1)).take (k * 1) = (bv l).take (k * 1) := by rw [htake]
      rw [List.take_take, Nat.min_eq_left (by omega)] at h3
      rw [h3, bv, bv, List.map_take, Nat.mul_one]
theorem OB.cell {g cap k : Nat} (h : OB w base (.slice (some ⟨g, 0, none⟩) n cap) n l) (hk : k < n) (hl : k < l.length) : w.cell? ⟨g, k, none⟩ = some (.int .u8 ((l[k]).toNat : Int)) := by
  rw [World.ownsRow.cellAt h k (by omega), bv_get hl]
theorem OB.froz {g cap k : Nat} (h : OB w base (.slice (some ⟨g, 0, none⟩) n cap) n l) : w.frozen? ⟨g, k, none⟩ = false := World.ownsRow.frozenAt h k
theorem OB.stored {g cap : Nat} (h : OB w base (.slice (some ⟨g, 0, none⟩) n cap) n l) (j : Nat) (b : UInt8) :
    OB (w.setCell ⟨g, j, none⟩ (.int .u8 (b.toNat : Int))) base (.slice (some ⟨g, 0, none⟩) n cap) n (l.set j b) := by
  have := (World.ownsRow.stored h j (.int .u8 (b.toNat : Int))).1
  unfold OB
  rw [show bv (l.set j b) = (bv l).set j (.int .u8 (b.toNat : Int)) from by simp [bv, List.map_set]]
  exact this
theorem OB.base_le {g cap : Nat} (h : OB w base (.slice (some ⟨g, 0, none⟩) n cap) n l) : base ≤ g := h.block_lt g rfl
/-- nil, or the head of a block. -/
theorem OB.parts (h : OB w base v n l) : (v = .slice none 0 0 ∧ n = 0 ∧ l = []) ∨ ∃ g cap, v = .slice (some ⟨g, 0, none⟩) n cap ∧ n ≤ cap ∧ cap ≤ maxLen := by
  rcases h.2 with ⟨rfl, rfl⟩ | ⟨g, cap, cur, rfl, _, _, h3, h4, _⟩
  · exact .inl ⟨rfl, rfl, List.eq_nil_of_length_eq_zero h.len⟩
  · exact .inr ⟨g, cap, rfl, h3, h4⟩
end

theorem RB.one_new (w : World) (b : UInt8) (t : TypeId) : RB (w.alloc (.cells #[.int .u8 (b.toNat : Int)] t)) (w.heap.size + 1) (some ⟨w.heap.size, 0, none⟩) 1 [b] := by
  refine ⟨by simp [bv], fun _ => ⟨_, rfl, by simp, fun j u hj => ?_⟩⟩
  match j, hj with
  | 0, hj => simp [bv] at hj; subst hj; simp [Addr.add]

/-- The call returns a row of bytes of its own; what was there is as it was. -/
def RetB (W : World) (l : List UInt8) (e : Ending) (w' : World) : Prop := ∃ v, e = .returned v ∧ OB w' W.heap.size v l.length l ∧ Below W.heap.size W w'
theorem RetB.mk {W w' : World} {l : List UInt8} {v : Value} {n : Nat} (h : OB w' W.heap.size v n l) (hb : Below W.heap.size W w') : RetB W l (.returned v) w' :=
  ⟨v, rfl, by rw [h.len]; exact h, hb⟩
theorem RetB.mk2 {W w' : World} {l l' : List UInt8} {v : Value} {n : Nat} (h : OB w' W.heap.size v n l') (e : l = l') (hb : Below W.heap.size W w') : RetB W l (.returned v) w' := by
  subst e
  exact RetB.mk h hb

section
variable {ops : Array Oper} {rest : List Oper} {o : Oper} {a : Act} {Q : Exit → Act → World → Prop}
/-- append(v, x...) -/
theorem wpList_app_b {w : World} (hgd : o.guard = none) (s x : Operand) (ho : o.op = .call { callee := .builtin .append, args := #[s, x], argTypes := #[22, 22] })
    (base : Nat) (v : Value) (n : Nat) (l : List UInt8) (hown : OB w base v n l) (hs : a.eval s = v)
    (B : Nat) (A : Option Addr) (m c : Nat) (news : List UInt8) (hx : a.eval x = .slice A m c) (hr : RB w B A m news)
    (hlen : n + m ≤ 140737488351232) (hbase : base ≤ w.heap.size)
    (h : ∀ v' w', OB w' base v' (n + m) (l ++ news) → Below base w w' → w.grownBy w' v.ownBlock → (v'.ownBlock = v.ownBlock ∨ v'.ownBlock = some w.heap.size) → wpList Try.prog ops Q rest (a.put o.dst v') w') :
    wpList Try.prog ops Q (o :: rest) a w := by
  obtain ⟨i0, hi0, hz0, hz1, hz2⟩ := info_parts byte_info
  refine wpList_append_any w hgd s x _ ho base 5 i0 _ 1 1 Try.underlying22 hi0 hz0 hz1 hz2 rfl (by omega) v n (bv l) hs hown B A m c (bv news) hx hr (bv_one _)
    (by simp only [maxLen]; omega) (by omega) hbase fun v' w' h1 h2 h3 => ?_
  rw [← bv_append] at h1
  exact h v' w' h1 ((Below.refl _ _).grown h2 hbase fun k hk => hown.block_lt k hk) h2 h3
/-- append(v, x), one byte. -/
theorem wpList_app_1 {w : World} {x' : Int} {t : TypeId} (b : UInt8) (hbx : x' = (b.toNat : Int)) (hgd : o.guard = none) (s x : Operand) (ho : o.op = .call { callee := .builtin .append, args := #[s, x], argTypes := #[22, 22] })
    (base : Nat) (v : Value) (n : Nat) (l : List UInt8) (hown : OB w base v n l) (hs : a.eval s = v) (c : Nat)
    (hx : a.eval x = .slice (some ⟨w.heap.size, 0, none⟩) 1 c)
    (hlen : n + 1 ≤ 140737488351232) (hbase : base ≤ w.heap.size)
    (h : ∀ v' w', OB w' base v' (n + 1) (l ++ [b]) → Below base w w' → w.grownBy w' v.ownBlock → wpList Try.prog ops Q rest (a.put o.dst v') w') :
    wpList Try.prog ops Q (o :: rest) a (w.alloc (.cells #[.int .u8 x'] t)) := by
  subst hbx
  refine wpList_app_b hgd s x ho base v n l (hown.alloc _) hs _ _ 1 c [b] hx (RB.one_new w b t) hlen (by simp; omega) fun v' w' h1 h2 h3 h4 => ?_
  refine h v' w' h1 ?_ ⟨h3.os, h3.tape, h3.output, ?_, fun k hk hne => ?_⟩
  · exact ((Below.refl _ _).alloc hbase _).trans h2
  · have := h3.size; simp at this; omega
  · rw [h3.block k (by simp; omega) hne]
    exact Below.heap_alloc _ _ _ hk
end
end Go.Proofs.Ytbchaomnjbkdhaa
