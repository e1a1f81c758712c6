/-
  Rows of tokens that a call owns; the lexer's state at the head of a round.
-/
import Derived.Test.YtnhcamkccnaeeaaGreatDoorLexA
import Derived.Test.YtnhcamkccnaeeaaGreatDoorLexB
import Derived.Test.YtnhcamkccnaeeaaGreatDoorLexC
import Derived.Test.YtnhcamkccnaeeaaGreatDoorLexD
import Derived.Test.YtnhcamkccnaeeaaGreatDoorScope
namespace Go.Proofs.YtnhcamkccnaeeaaGreatDoor
open Go.RowKit
set_option linter.unusedVariables false

/-- A token's four cells; the cells of tokens. -/
def tv (t : Tok) : List Value := [.int .i64 t.kind, .string (str t.text), .int .i64 t.n, .int .i64 (t.pos : Int)]
def tvs (l : List Tok) : List Value := l.flatMap tv
theorem tvs_length (l : List Tok) : (tvs l).length = l.length * 4 := by
  induction l with
  | nil => rfl
  | cons a l ih => simp only [tvs, List.flatMap_cons, List.length_append, List.length_cons] at *; rw [ih]; simp [tv]; omega
theorem tvs_append (a b : List Tok) : tvs (a ++ b) = tvs a ++ tvs b := by simp [tvs]
theorem tvs_get (l : List Tok) (k j : Nat) (hk : k < l.length) (hj : j < 4) : (tvs l)[k * 4 + j]? = (tv l[k])[j]? := by
  induction l generalizing k with
  | nil => simp at hk
  | cons a l ih =>
    have e : tvs (a :: l) = tv a ++ tvs l := by simp [tvs]
    rw [e]
    cases k with
    | zero => rw [List.getElem?_append_left (by simp [tv]; omega)]; simp
    | succ k =>
      rw [List.getElem?_append_right (by simp [tv]; omega)]
      have : (k + 1) * 4 + j - (tv a).length = k * 4 + j := by simp [tv]; omega
      rw [this, ih k (by simpa using hk)]
      simp
theorem tv_one (t : Tok) : ∀ u ∈ tv t, u.oneCell' = true := by
  intro u hu
  simp [tv] at hu
  rcases hu with rfl | rfl | rfl | rfl <;> rfl
def OT (w : World) (base : Nat) (v : Value) (n : Nat) (l : List Tok) : Prop := w.ownsRow base 104 4 v n (tvs l)
def RT (w : World) (B : Nat) (A : Option Addr) (n : Nat) (l : List Tok) : Prop := Reads w B 4 A n (tvs l)
section
variable {w w' : World} {base B n : Nat} {v : Value} {l : List Tok} {A : Option Addr}
theorem OT.nil (w : World) (base : Nat) : OT w base (.slice none 0 0) 0 [] := ⟨by simp [tvs], .inl ⟨rfl, rfl⟩⟩
theorem OT.len (h : OT w base v n l) : l.length = n := by have := h.1; rw [tvs_length] at this; omega
theorem OT.form (h : OT w base v n l) : ∃ A c, v = .slice A n c ∧ RT w w.heap.size A n l ∧ (A = none → n = 0) ∧ n ≤ c ∧ c ≤ maxLen := by
  have h2 := h.2
  rcases h2 with ⟨rfl, rfl⟩ | ⟨g, cap, cur, rfl, _, _, h3, h4, _⟩
  · exact ⟨none, 0, rfl, Reads.of_own h, fun _ => rfl, Nat.le_refl _, Nat.zero_le _⟩
  · exact ⟨_, _, rfl, Reads.of_own h, (fun e => by cases e), h3, h4⟩
theorem OT.parts (h : OT w base v n l) : (v = .slice none 0 0 ∧ n = 0 ∧ l = []) ∨ ∃ g cap, v = .slice (some ⟨g, 0, none⟩) n cap ∧ n ≤ cap ∧ cap ≤ maxLen ∧ base ≤ g ∧ g < w.heap.size := by
  have hl := h.1
  rcases h.2 with ⟨rfl, rfl⟩ | ⟨g, cap, cur, rfl, hb, hh, h3, h4, _⟩
  · exact .inl ⟨rfl, rfl, by rw [tvs_length] at hl; exact List.eq_nil_of_length_eq_zero (by omega)⟩
  · refine .inr ⟨g, cap, rfl, h3, h4, hb, ?_⟩
    rcases Nat.lt_or_ge g w.heap.size with hlt | hge
    · exact hlt
    · rw [Array.getElem?_eq_none hge] at hh; cases hh
theorem OT.cell {g cap k j : Nat} (h : OT w base (.slice (some ⟨g, 0, none⟩) n cap) n l) (hk : k < n) (hl : k < l.length) (hj : j < 4) : w.cell? ⟨g, k * 4 + j, none⟩ = (tv l[k])[j]? := by
  rw [World.ownsRow.cellAt h (k * 4 + j) (by omega), tvs_get l k j hl hj]
theorem OT.below {B : Nat} (h : OT w base v n l) (hb : Below B w w') (hs : w.heap.size ≤ B) : OT w' base v n l := by
  obtain ⟨h1, h2⟩ := h
  refine ⟨h1, ?_⟩
  rcases h2 with h2 | ⟨g, cap, cur, hv, hg, hh, r⟩
  · exact Or.inl h2
  · have hlt : g < w.heap.size := by
      rcases Nat.lt_or_ge g w.heap.size with hlt | hge
      · exact hlt
      · rw [Array.getElem?_eq_none hge] at hh; cases hh
    exact Or.inr ⟨g, cap, cur, hv, hg, by rw [hb.block g (by omega)]; exact hh, r⟩
theorem OT.alloc (h : OT w base v n l) (o : Obj) : OT (w.alloc o) base v n l := World.ownsRow.alloc h o
theorem OT.drewN (h : OT w base v n l) (k : Nat) : OT (w.drewN k) base v n l := h
theorem OT.block_lt (h : OT w base v n l) (k : Nat) (hk : v.ownBlock = some k) : base ≤ k := by
  rcases h.2 with ⟨rfl, rfl⟩ | ⟨g, cap, cur, rfl, hg, _⟩
  · simp [Value.ownBlock] at hk
  · simp [Value.ownBlock] at hk; omega
/-- A store into another block. -/
theorem OT.setOther (h : OT w base v n l) {p : Addr} (hp : p.block < base) (u : Value) : OT (w.setCell p u) base v n l := ownsRow_setCell_below h hp u
theorem RT.len (h : RT w B A n l) : l.length = n := by have := h.1; rw [tvs_length] at this; omega
theorem RT.below (h : RT w B A n l) (hb : Below B w w') : RT w' B A n l := Reads.below h hb
theorem RT.more {B' : Nat} (h : RT w B A n l) (hB : B ≤ B') : RT w B' A n l := Reads.more h hB
theorem RT.elem (h : RT w B A n l) {k : Nat} (hk : k < n) (hl : k < l.length) : ∃ ad, A = some ad ∧ ad.block < B ∧
    w.cell? (ad.add (k * 4)) = some (.int .i64 l[k].kind) ∧ w.cell? (ad.add (k * 4 + 1)) = some (.string (str l[k].text)) ∧
    w.cell? (ad.add (k * 4 + 2)) = some (.int .i64 l[k].n) ∧ w.cell? (ad.add (k * 4 + 3)) = some (.int .i64 (l[k].pos : Int)) := by
  obtain ⟨ad, e, hb, hc⟩ := h.2 (by omega)
  refine ⟨ad, e, hb, hc _ _ ?_, hc _ _ ?_, hc _ _ ?_, hc _ _ ?_⟩
  · have := tvs_get l k 0 hl (by omega); rw [Nat.add_zero] at this; rw [this]; rfl
  · rw [tvs_get l k 1 hl (by omega)]; rfl
  · rw [tvs_get l k 2 hl (by omega)]; rfl
  · rw [tvs_get l k 3 hl (by omega)]; rfl
end
theorem tok_info : (Tryz.prog.info? 104).map (fun i => (i.zero, i.size, i.bytes)) = some (some (.agg #[.int .i64 0, .string ⟨#[]⟩, .int .i64 0, .int .i64 0]), 4, 40) := by kernel_rfl

section
variable {ops : Array Oper} {rest : List Oper} {o : Oper} {a : Act} {Q : Exit → Act → World → Prop}
/-- append(v, t), one token that lies in a new block. -/
theorem wpList_app_t {w : World} {x0 x2 x3 : Int} {x1 : ByteArray} {ty : TypeId} (t : Tok) (e0 : x0 = t.kind) (e1 : x1 = str t.text) (e2 : x2 = t.n) (e3 : x3 = (t.pos : Int)) (hgd : o.guard = none) (s x : Operand)
    (ho : o.op = .call { callee := .builtin .append, args := #[s, x], argTypes := #[71, 71] })
    (base : Nat) (v : Value) (n : Nat) (l : List Tok) (hown : OT w base v n l) (hs : a.eval s = v) (c : Nat)
    (hx : a.eval x = .slice (some ⟨w.heap.size, 0, none⟩) 1 c)
    (hlen : n + 1 ≤ 1000000000) (hbase : base ≤ w.heap.size)
    (h : ∀ v' w', OT w' base v' (n + 1) (l ++ [t]) → Below base w w' → w.grownBy w' v.ownBlock → wpList Tryz.prog ops Q rest (a.put o.dst v') w') :
    wpList Tryz.prog ops Q (o :: rest) a (w.alloc (.cells #[.int .i64 x0, .string x1, .int .i64 x2, .int .i64 x3] ty)) := by
  subst e0 e1 e2 e3
  obtain ⟨i0, hi0, hz0, hz1, hz2⟩ := info_parts tok_info
  refine wpList_append_own _ hgd s x _ ho base 104 i0 _ 4 40 Tryz.underlying71 hi0 hz0 hz1 hz2 rfl (by omega) v n (tvs l) hs (hown.alloc _) ⟨w.heap.size, 0, none⟩ 1 c (tv t) hx rfl
    (fun j u hj => ?_) (tv_one t) (by simp only [maxLen]; omega) (by omega) (by simp; omega) fun v' w' h1 h2 _ => ?_
  · rw [show (⟨w.heap.size, 0, none⟩ : Addr).add j = ⟨w.heap.size, j, none⟩ from by unfold Addr.add; split <;> simp_all]
    have := cell_of_row (w.alloc (.cells (tv t).toArray ty)) w.heap.size j (tv t).toArray ty (0, 0) (heap_alloc_new w _)
    exact this.trans (by simpa using hj)
  · have e : tvs l ++ tv t = tvs (l ++ [t]) := by rw [tvs_append]; simp [tvs]
    rw [e] at h1
    refine h v' w' h1 ?_ ⟨h2.os, h2.tape, h2.output, ?_, fun k hk hne => ?_⟩
    · exact ((Below.refl _ _).alloc hbase _).trans ((Below.refl _ _).grown h2 (by simp; omega) (fun k hk => hown.block_lt k hk))
    · have := h2.size; simp at this; omega
    · rw [h2.block k (by simp; omega) hne]
      exact Below.heap_alloc _ _ _ hk
end

/-- The lexer stands at place p; the tokens of what is behind are done. -/
def TRel (L : List UInt8) (p : Nat) (done : List Tok) : Prop :=
  p ≤ L.length ∧ (toks L).1 = done ++ (toksF L.length p (L.drop p)).1 ∧ (toks L).2 = (toksF L.length p (L.drop p)).2
theorem TRel.start (L : List UInt8) : TRel L 0 [] := ⟨Nat.zero_le _, rfl, rfl⟩
theorem toksF_blank (f p : Nat) (l : List UInt8) (hf : l.length ≤ f) : toksF f p l = toksF f (p + runL blankB l) (l.drop (runL blankB l)) := by
  induction l generalizing f p with
  | nil => simp [runL]
  | cons c r ih =>
    cases f with
    | zero => simp at hf
    | succ f =>
      rw [runL_cons]
      by_cases hc : blankB c = true
      · have hf' : r.length ≤ f := by simpa using hf
        rw [if_pos hc, List.drop_succ_cons, show p + (runL blankB r + 1) = p + 1 + runL blankB r from by omega]
        rw [toksF_more (f + 1) f (p + 1 + runL blankB r) (r.drop (runL blankB r)) (by simp; omega) (by simp; omega)]
        rw [← ih f (p + 1) hf']
        simp [toksF, hc]
      · rw [if_neg hc]; simp
theorem TRel.blank {L : List UInt8} {p : Nat} {done : List Tok} (h : TRel L p done) : TRel L (p + runL blankB (L.drop p)) done := by
  obtain ⟨h1, h2, h3⟩ := h
  have hr := takeWhile_len blankB (L.drop p)
  simp at hr
  have e := toksF_blank L.length p (L.drop p) (by simp)
  rw [List.drop_drop] at e
  rw [e] at h2 h3
  exact ⟨by omega, h2, h3⟩
theorem toksF_nil (f p : Nat) : toksF f p [] = ([], p, true) := by cases f <;> rfl
theorem TRel.stop {L : List UInt8} {p : Nat} {done : List Tok} (h : TRel L p done) (hp : p = L.length) : toks L = (done, p, true) := by
  obtain ⟨h1, h2, h3⟩ := h
  rw [List.drop_of_length_le (by omega), toksF_nil] at h2 h3
  have : toks L = ((toks L).1, (toks L).2) := rfl
  rw [this, h2, h3]; simp
theorem toksF_step (f p : Nat) (l : List UInt8) (hf : l.length ≤ f) (h0 : runL blankB l = 0) (hl : l ≠ []) :
    toksF f p l = match tokL l p with
      | none => ([], p, false)
      | some x => (x.1 :: (toksF f (p + x.2) (l.drop x.2)).1, (toksF f (p + x.2) (l.drop x.2)).2) := by
  cases l with
  | nil => exact absurd rfl hl
  | cons c r =>
    cases f with
    | zero => simp at hf
    | succ f =>
      have hc : blankB c = false := by
        rw [runL_cons] at h0
        by_cases hc : blankB c = true
        · rw [if_pos hc] at h0; omega
        · simpa using hc
      rw [toksF]
      simp only [hc, Bool.false_eq_true, if_false]
      cases ht : tokL (c :: r) p with
      | none => rfl
      | some x =>
        obtain ⟨t, k⟩ := x
        have hk := tokL_len _ _ _ ht
        simp at hk hf
        simp only []
        rw [toksF_more (f + 1) f (p + k) ((c :: r).drop k) (by simp; omega) (by simp; omega)]
theorem TRel.token {L : List UInt8} {p : Nat} {done : List Tok} {t : Tok} {k : Nat} (h : TRel L p done) (hp : p < L.length) (h0 : runL blankB (L.drop p) = 0) (ht : tokL (L.drop p) p = some (t, k)) : TRel L (p + k) (done ++ [t]) := by
  obtain ⟨h1, h2, h3⟩ := h
  have hk := tokL_len _ _ _ ht
  simp at hk
  have hne : L.drop p ≠ [] := by intro e; have := congrArg List.length e; simp at this; omega
  have e := toksF_step L.length p (L.drop p) (by simp) h0 hne
  rw [ht] at e
  simp only [List.drop_drop] at e
  rw [e] at h2 h3
  exact ⟨by omega, by rw [h2]; simp, h3⟩
theorem TRel.bad {L : List UInt8} {p : Nat} {done : List Tok} (h : TRel L p done) (hp : p < L.length) (h0 : runL blankB (L.drop p) = 0) (ht : tokL (L.drop p) p = none) : toks L = (done, p, false) := by
  obtain ⟨h1, h2, h3⟩ := h
  have hne : L.drop p ≠ [] := by intro e; have := congrArg List.length e; simp at this; omega
  have e := toksF_step L.length p (L.drop p) (by simp) h0 hne
  rw [ht] at e
  rw [e] at h2 h3
  have : toks L = ((toks L).1, (toks L).2) := rfl
  rw [this, h2, h3]; simp
/-- What Tokens answers. -/
def lexL (l : List UInt8) : List Tok := if 400 < l.length then [] else if (toks l).2.2 then (toks l).1 else []
def lexAt (l : List UInt8) : Nat := if 400 < l.length then 0 else (toks l).2.1
def lexE (l : List UInt8) : Int := if 400 < l.length then 10 else if (toks l).2.2 then 0 else 19
/-- A list of tokens of the call's own, a place, an error. -/
def TRet (W : World) (l : List Tok) (p : Nat) (e : Int) (en : Ending) (w' : World) : Prop :=
  ∃ v, en = .returned (.tuple #[v, .int .i64 (p : Int), .int .i64 e]) ∧ OT w' W.heap.size v l.length l ∧ Below W.heap.size W w'
theorem TRet.mk {W w' : World} {l l' : List Tok} {p p' : Nat} {e e' : Int} {v : Value} {n : Nat} (h : OT w' W.heap.size v n l') (hl : l = l') (hp : p = p') (he : e = e') (hb : Below W.heap.size W w') :
    TRet W l p e (.returned (.tuple #[v, .int .i64 (p' : Int), .int .i64 e'])) w' := by
  subst hl hp he
  exact ⟨v, rfl, by rw [h.len]; exact h, hb⟩
theorem takeWhile_all (q : UInt8 → Bool) (l : List UInt8) : ∀ x ∈ l.takeWhile q, q x = true := by
  induction l with
  | nil => simp
  | cons a l ih =>
    intro x hx
    rw [List.takeWhile_cons] at hx
    split at hx
    · rename_i h
      simp at hx
      rcases hx with rfl | hx
      · exact h
      · exact ih x hx
    · simp at hx
theorem drop_head (L : List UInt8) (p : Nat) (h : p < L.length) : L.drop p = L[p] :: L.drop (p + 1) := List.drop_eq_getElem_cons h
theorem runL_head (q : UInt8 → Bool) (L : List UInt8) (p : Nat) (h : p < L.length) : (runL q (L.drop p) = 0) = (q L[p] = false) := by
  rw [drop_head L p h, runL_cons]
  by_cases hq : q L[p] = true
  · simp [hq]
  · simp [hq]
theorem extract_run (s : ByteArray) (q : UInt8 → Bool) (p : Nat) : s.extract p (p + runL q (s.data.toList.drop p)) = str ((s.data.toList.drop p).takeWhile q) := by
  rw [str_extract, takeWhile_take, show p + runL q (s.data.toList.drop p) - p = runL q (s.data.toList.drop p) from by omega]
theorem runL_rest (q : UInt8 → Bool) (l : List UInt8) : runL q (l.drop (runL q l)) = 0 := by
  induction l with
  | nil => rfl
  | cons a l ih =>
    rw [runL_cons]
    by_cases h : q a = true
    · rw [if_pos h, List.drop_succ_cons]; exact ih
    · rw [if_neg h, List.drop_zero, runL_cons, if_neg h]
theorem below_set {B g i : Nat} {a w : World} (h : Below B a w) (hg : B ≤ g) (u : Value) : Below B a (w.setCell ⟨g, i, none⟩ u) := h.setCell (p := ⟨g, i, none⟩) hg u
end Go.Proofs.YtnhcamkccnaeeaaGreatDoor
