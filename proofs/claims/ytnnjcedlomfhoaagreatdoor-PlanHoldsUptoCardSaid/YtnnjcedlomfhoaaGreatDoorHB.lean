/-
  Contracts of layer 23's small functions: small, digit, the blank's closure, run, number.
-/
import Derived.Test.YtnnjcedlomfhoaaGreatDoorHA
import Derived.Test.YtnnjcedlomfhoaaGreatDoorShelf
import Derived.Lib.Builder
import Derived.Deep.RegionLaw
import Derived.Maps.OwnOps
import Derived.Maps.Keyed
import Derived.Lib.SmallJoins
import Derived.Lib.ItoaMem
import Derived.BigRegion
import Derived.Maps.Own
import Derived.Lib.Replace
import Derived.Lib.IndexBytes
import Derived.Lib.AppendStr
namespace Go.Proofs.YtnnjcedlomfhoaaGreatDoor
open Go.RowKit
set_option linter.unusedVariables false
theorem runL_drop (p : UInt8 → Bool) (l : List UInt8) (k : Nat) (h : k < l.length) : runL p (l.drop k) = if p l[k] then runL p (l.drop (k + 1)) + 1 else 0 := by
  rw [List.drop_eq_getElem_cons h, runL_cons]
end Go.Proofs.YtnnjcedlomfhoaaGreatDoor
namespace Go.Proofs.YtnnjcedlomfhoaaGreatDoor
open Go.RowKit
set_option linter.unusedVariables false
theorem numOf_snoc (d : List UInt8) (c : UInt8) : numOf (d ++ [c]) = 10 * numOf d + ((c.toNat : Int) - 48) := by simp [numOf]
theorem numOf_take (d : List UInt8) (k : Nat) (h : k < d.length) : numOf (d.take (k + 1)) = 10 * numOf (d.take k) + ((d[k].toNat : Int) - 48) := by
  rw [List.take_succ_eq_append_getElem h, numOf_snoc]
theorem digit_bounds {c : UInt8} (h : digitB c = true) : 48 ≤ (c.toNat : Int) ∧ (c.toNat : Int) ≤ 57 := by
  simpa [digitB] using h
theorem numOf_bounds (d : List UInt8) (h : ∀ c ∈ d, digitB c = true) (k : Nat) (hk : k ≤ d.length) : 0 ≤ numOf (d.take k) ∧ numOf (d.take k) + 1 ≤ 10 ^ k := by
  induction k with
  | zero => simp [numOf]
  | succ k ih =>
    have := ih (by omega)
    rw [numOf_take d k (by omega), Int.pow_succ]
    have hb := digit_bounds (h d[k] (List.getElem_mem _))
    omega
theorem u8_eq_iff (a : UInt8) (n : Nat) (hn : n < 256) : ((a.toNat : Int) == (n : Int)) = (a == UInt8.ofNat n) := by
  rw [Bool.eq_iff_iff, beq_iff_eq, beq_iff_eq]
  have h : (UInt8.ofNat n).toNat = n := by rw [UInt8.toNat_ofNat']; omega
  constructor
  · intro e; apply UInt8.toNat_inj.1; omega
  · intro e; rw [e, h]
theorem head_is (l : List UInt8) (h : 0 < l.length) : (l.head? == some 48) = ((l[0].toNat : Int) == 48) := by
  cases l with
  | nil => simp at h
  | cons a l =>
    simp only [List.head?_cons, List.getElem_cons_zero]
    rw [show (48 : Int) = ((48 : Nat) : Int) from rfl, u8_eq_iff a 48 (by omega)]
    rfl
end Go.Proofs.YtnnjcedlomfhoaaGreatDoor
namespace Go.Proofs.YtnnjcedlomfhoaaGreatDoor
open Go.RowKit
set_option linter.unusedVariables false
theorem builder_size : (Tryz.prog.info? 152).map (·.size) = some 2 := by kernel_rfl
theorem builder_lies : liesAt Tryz.prog Tryz.prog.depth 152 (2 / Tryz.prog.cellsOf 152) 0 152 1 = true := by kernel_rfl
set_option maxRecDepth 100000 in
set_option maxHeartbeats 1000000 in
theorem copyCheck_used (b : Nat) (w : World) (h0 : w.cell? ⟨b, 0, none⟩ = some (.pointer (some ⟨b, 0, none⟩))) :
    Calls Tryz.prog 93 #[.pointer (some ⟨b, 0, none⟩)] w fun e w' => e = .returned (.tuple #[]) ∧ w = w' := by
  obtain ⟨j, hj, _⟩ := Option.map_eq_some_iff.1 builder_size
  go_enter Tryz.func93, Tryz.ntmps93
  go_wp2
  rw [Lib.run_neq_ptr_same w _ Tryz.underlying150 hj]
  go_wp2
  go_end0
  exact ⟨rfl, rfl⟩
set_option maxRecDepth 100000 in
set_option maxHeartbeats 1000000 in
theorem copyCheck_fresh (b : Nat) (w : World) (h0 : w.cell? ⟨b, 0, none⟩ = some (.pointer none)) (hsh : w.shape? b = some (152, 2)) (hfz : w.frozen? ⟨b, 0, none⟩ = false) :
    Calls Tryz.prog 93 #[.pointer (some ⟨b, 0, none⟩)] w fun e w' => e = .returned (.tuple #[]) ∧ w.setCell ⟨b, 0, none⟩ (.pointer (some ⟨b, 0, none⟩)) = w' := by
  obtain ⟨j, hj, hjs⟩ := Option.map_eq_some_iff.1 builder_size
  go_enter Tryz.func93, Tryz.ntmps93
  go_wp2
  rw [Lib.run_to_unsafe w ⟨b, 0, none⟩ Tryz.underlying150 Tryz.underlying189 hj (by rw [hjs]; decide) hsh (Nat.zero_lt_succ 1)]
  simp only [Result.andThen]
  rw [Oper.upon_value]
  go_wp2
  rw [run_callFunc_extern Tryz.func103 (by kernel_rfl) (by kernel_rfl) (by kernel_rfl) (e := Extern.AbiNoEscape.same) (by kernel_rfl)]
  rw [Lib.run_noEscape]
  simp only [Result.andThen]
  rw [Oper.upon_value]
  go_wp2
  rw [Lib.run_from_unsafe w ⟨b, 0, none⟩ Tryz.underlying189 Tryz.underlying150 hj hsh builder_lies]
  simp only [Result.andThen]
  rw [Oper.upon_value]
  go_wp2
  go_end0
  exact ⟨rfl, rfl⟩
/-- The call's own builder, from block B on, holds the bytes l. -/
def Bld (B b : Nat) (l : List UInt8) (w : World) : Prop := Lib.IsBuilder 152 5 B b (Lib.byteCells l) w
theorem Bld.fresh (w : World) : Bld w.heap.size w.heap.size [] (w.alloc (.cells #[.pointer none, .slice none 0 0] 152)) := Lib.fresh_isBuilder _ _ w
end Go.Proofs.YtnnjcedlomfhoaaGreatDoor
namespace Go.Proofs.YtnnjcedlomfhoaaGreatDoor
open Go.RowKit
set_option linter.unusedVariables false
/-- What quoted answers at a place, as two values. -/
def quotedT (l : List UInt8) : List UInt8 := match quotedL l with | some x => x.1 | none => []
def quotedE (p : Nat) (l : List UInt8) : Int := match quotedL l with | some x => (p : Int) + (x.2 : Int) | none => -1
/-- 'the answer from place p0 is that of what has been read, t, and what stands at place k'. -/
def QRel (L : List UInt8) (p0 k : Nat) (t : List UInt8) : Prop := p0 ≤ k ∧ quotedL (L.drop p0) = (quotedL (L.drop k)).map fun x => (t ++ x.1, (k - p0) + x.2)
theorem QRel.start (L : List UInt8) (p0 : Nat) : QRel L p0 p0 [] := ⟨Nat.le_refl _, by cases quotedL (L.drop p0) <;> simp⟩
theorem QRel.none_ {L : List UInt8} {p0 k : Nat} {t : List UInt8} (h : QRel L p0 k t) (hq : quotedL (L.drop k) = none) : quotedT (L.drop p0) = [] ∧ quotedE p0 (L.drop p0) = -1 := by
  have := h.2
  rw [hq] at this
  simp at this
  simp [quotedT, quotedE, this]
theorem QRel.stop {L : List UInt8} {p0 k : Nat} {t : List UInt8} (h : QRel L p0 k t) (hk : k < L.length) (hq : L[k] = 34) : quotedT (L.drop p0) = t ∧ quotedE p0 (L.drop p0) = (k : Int) + 1 := by
  have h2 := h.2
  rw [List.drop_eq_getElem_cons hk, hq, quotedL_end] at h2
  simp at h2
  simp [quotedT, quotedE, h2]
  have := h.1
  omega
theorem QRel.byte {L : List UInt8} {p0 k : Nat} {t : List UInt8} (h : QRel L p0 k t) (hk : k < L.length) (h1 : L[k] ≠ 34) (h2 : L[k] ≠ 92) : QRel L p0 (k + 1) (t ++ [L[k]]) := by
  obtain ⟨hle, he⟩ := h
  refine ⟨by omega, ?_⟩
  rw [he, List.drop_eq_getElem_cons hk, quotedL_byte _ _ h1 h2]
  cases quotedL (L.drop (k + 1)) with
  | none => simp
  | some x => simp; omega
theorem QRel.esc {L : List UInt8} {p0 k : Nat} {t : List UInt8} (h : QRel L p0 k t) (hk : k + 1 < L.length) (h1 : L[k] = 92) (h2 : L[k + 1] = 34 ∨ L[k + 1] = 92) : QRel L p0 (k + 2) (t ++ [L[k + 1]]) := by
  obtain ⟨hle, he⟩ := h
  refine ⟨by omega, ?_⟩
  rw [he, List.drop_eq_getElem_cons (show k < L.length by omega), List.drop_eq_getElem_cons hk, h1, quotedL_esc, if_pos h2]
  cases quotedL (L.drop (k + 1 + 1)) with
  | none => simp
  | some x => simp; omega
theorem q_esc_bad {L : List UInt8} {k : Nat} (hk : k + 1 < L.length) (h1 : L[k] = 92) (h2 : ¬ (L[k + 1] = 34 ∨ L[k + 1] = 92)) : quotedL (L.drop k) = none := by
  rw [List.drop_eq_getElem_cons (show k < L.length by omega), List.drop_eq_getElem_cons hk, h1, quotedL_esc, if_neg h2]
theorem q_esc_end {L : List UInt8} {k : Nat} (hk : k + 1 = L.length) (h1 : L[k] = 92) : quotedL (L.drop k) = none := by
  rw [List.drop_eq_getElem_cons (show k < L.length by omega), List.drop_of_length_le (show L.length ≤ k + 1 by omega), h1, quotedL_back]
/-- The post: a text and a place. -/
def QRet (W : World) (t : List UInt8) (n : Int) (e : Ending) (w' : World) : Prop := e = .returned (.tuple #[.string (str t), .int .i64 n]) ∧ Below W.heap.size W w'
theorem QRet.mk {W w' : World} {t t' : List UInt8} {n n' : Int} (ht : t' = t) (hn : n' = n) (hb : Below W.heap.size W w') : QRet W t n (.returned (.tuple #[.string (str t'), .int .i64 n'])) w' := by
  subst ht hn; exact ⟨rfl, hb⟩
theorem u8_34 {c : UInt8} : c = 34 ↔ (c.toNat : Int) = 34 := ⟨fun e => by rw [e]; rfl, fun e => UInt8.toNat_inj.1 (by have : (34 : UInt8).toNat = 34 := rfl; omega)⟩
theorem u8_92 {c : UInt8} : c = 92 ↔ (c.toNat : Int) = 92 := ⟨fun e => by rw [e]; rfl, fun e => UInt8.toNat_inj.1 (by have : (92 : UInt8).toNat = 92 := rfl; omega)⟩
end Go.Proofs.YtnnjcedlomfhoaaGreatDoor
namespace Go.Proofs.YtnnjcedlomfhoaaGreatDoor
open Go.RowKit
set_option linter.unusedVariables false
def markFrom (k : Nat) (l : List UInt8) : List UInt8 := ((marksL.drop k).find? (·.isPrefixOf l)).getD []
def markN (k : Nat) : List UInt8 := marksL.getD k []
theorem markFrom_hit {k : Nat} {l : List UInt8} (hk : k < 9) (h : (markN k).isPrefixOf l = true) : markFrom k l = markN k := by
  have hd : marksL.drop k = markN k :: marksL.drop (k + 1) := by
    rw [List.drop_eq_getElem_cons (show k < marksL.length from hk)]
    simp [markN, List.getD, show k < marksL.length from hk]
  unfold markFrom
  rw [hd, List.find?_cons, h]
  rfl
theorem markFrom_miss {k : Nat} {l : List UInt8} (hk : k < 9) (h : (markN k).isPrefixOf l = false) : markFrom k l = markFrom (k + 1) l := by
  have hd : marksL.drop k = markN k :: marksL.drop (k + 1) := by
    rw [List.drop_eq_getElem_cons (show k < marksL.length from hk)]
    simp [markN, List.getD, show k < marksL.length from hk]
  unfold markFrom
  rw [hd, List.find?_cons, h]
end Go.Proofs.YtnnjcedlomfhoaaGreatDoor
namespace Go.Proofs.YtnnjcedlomfhoaaGreatDoor
open Go.RowKit
set_option linter.unusedVariables false
/-- A token's four cells; the cells of tokens. -/
def tv (t : Tok) : List Value := [.int .i64 t.kind, .string (str t.text), .int .i64 t.n, .int .i64 (t.pos : Int)]
def tvs (l : List Tok) : List Value := l.flatMap tv
theorem tvs_length (l : List Tok) : (tvs l).length = l.length * 4 := by
  induction l with
  | nil => rfl
  | cons a l ih => simp only [tvs, List.flatMap_cons, List.length_append, List.length_cons] at *; rw [ih]; simp [tv]; omega
theorem tvs_append (a b : List Tok) : tvs (a ++ b) = tvs a ++ tvs b := by simp [tvs]
theorem tvs_get (l : List Tok) (k j : Nat) (hk : k < l.length) (hj : j < 4) : (tvs l)[k * 4 + j]? = (tv l[k])[j]? := by
  induction l generalizing k with
  | nil => simp at hk
  | cons a l ih =>
    have e : tvs (a :: l) = tv a ++ tvs l := by simp [tvs]
    rw [e]
    cases k with
    | zero => rw [List.getElem?_append_left (by simp [tv]; omega)]; simp
    | succ k =>
      rw [List.getElem?_append_right (by simp [tv]; omega)]
      have : (k + 1) * 4 + j - (tv a).length = k * 4 + j := by simp [tv]; omega
      rw [this, ih k (by simpa using hk)]
      simp
theorem tv_one (t : Tok) : ∀ u ∈ tv t, u.oneCell' = true := by
  intro u hu
  simp [tv] at hu
  rcases hu with rfl | rfl | rfl | rfl <;> rfl
def OT (w : World) (base : Nat) (v : Value) (n : Nat) (l : List Tok) : Prop := w.ownsRow base 92 4 v n (tvs l)
def RT (w : World) (B : Nat) (A : Option Addr) (n : Nat) (l : List Tok) : Prop := Reads w B 4 A n (tvs l)
section
variable {w w' : World} {base B n : Nat} {v : Value} {l : List Tok} {A : Option Addr}
theorem OT.nil (w : World) (base : Nat) : OT w base (.slice none 0 0) 0 [] := ⟨by simp [tvs], .inl ⟨rfl, rfl⟩⟩
theorem OT.len (h : OT w base v n l) : l.length = n := by have := h.1; rw [tvs_length] at this; omega
theorem OT.form (h : OT w base v n l) : ∃ A c, v = .slice A n c ∧ RT w w.heap.size A n l ∧ (A = none → n = 0) ∧ n ≤ c ∧ c ≤ maxLen := by
  have h2 := h.2
  rcases h2 with ⟨rfl, rfl⟩ | ⟨g, cap, cur, rfl, _, _, h3, h4, _⟩
  · exact ⟨none, 0, rfl, Reads.of_own h, fun _ => rfl, Nat.le_refl _, Nat.zero_le _⟩
  · exact ⟨_, _, rfl, Reads.of_own h, (fun e => by cases e), h3, h4⟩
theorem OT.parts (h : OT w base v n l) : (v = .slice none 0 0 ∧ n = 0 ∧ l = []) ∨ ∃ g cap, v = .slice (some ⟨g, 0, none⟩) n cap ∧ n ≤ cap ∧ cap ≤ maxLen ∧ base ≤ g ∧ g < w.heap.size := by
  have hl := h.1
  rcases h.2 with ⟨rfl, rfl⟩ | ⟨g, cap, cur, rfl, hb, hh, h3, h4, _⟩
  · exact .inl ⟨rfl, rfl, by rw [tvs_length] at hl; exact List.eq_nil_of_length_eq_zero (by omega)⟩
  · refine .inr ⟨g, cap, rfl, h3, h4, hb, ?_⟩
    rcases Nat.lt_or_ge g w.heap.size with hlt | hge
    · exact hlt
    · rw [Array.getElem?_eq_none hge] at hh; cases hh
theorem OT.cell {g cap k j : Nat} (h : OT w base (.slice (some ⟨g, 0, none⟩) n cap) n l) (hk : k < n) (hl : k < l.length) (hj : j < 4) : w.cell? ⟨g, k * 4 + j, none⟩ = (tv l[k])[j]? := by
  rw [World.ownsRow.cellAt h (k * 4 + j) (by omega), tvs_get l k j hl hj]
theorem OT.below {B : Nat} (h : OT w base v n l) (hb : Below B w w') (hs : w.heap.size ≤ B) : OT w' base v n l := by
  obtain ⟨h1, h2⟩ := h
  refine ⟨h1, ?_⟩
  rcases h2 with h2 | ⟨g, cap, cur, hv, hg, hh, r⟩
  · exact Or.inl h2
  · have hlt : g < w.heap.size := by
      rcases Nat.lt_or_ge g w.heap.size with hlt | hge
      · exact hlt
      · rw [Array.getElem?_eq_none hge] at hh; cases hh
    exact Or.inr ⟨g, cap, cur, hv, hg, by rw [hb.block g (by omega)]; exact hh, r⟩
theorem OT.alloc (h : OT w base v n l) (o : Obj) : OT (w.alloc o) base v n l := World.ownsRow.alloc h o
theorem OT.drewN (h : OT w base v n l) (k : Nat) : OT (w.drewN k) base v n l := h
theorem OT.block_lt (h : OT w base v n l) (k : Nat) (hk : v.ownBlock = some k) : base ≤ k := by
  rcases h.2 with ⟨rfl, rfl⟩ | ⟨g, cap, cur, rfl, hg, _⟩
  · simp [Value.ownBlock] at hk
  · simp [Value.ownBlock] at hk; omega
/-- A store into another block. -/
theorem OT.setOther (h : OT w base v n l) {p : Addr} (hp : p.block < base) (u : Value) : OT (w.setCell p u) base v n l := ownsRow_setCell_below h hp u
theorem RT.len (h : RT w B A n l) : l.length = n := by have := h.1; rw [tvs_length] at this; omega
theorem RT.below (h : RT w B A n l) (hb : Below B w w') : RT w' B A n l := Reads.below h hb
theorem RT.more {B' : Nat} (h : RT w B A n l) (hB : B ≤ B') : RT w B' A n l := Reads.more h hB
theorem RT.elem (h : RT w B A n l) {k : Nat} (hk : k < n) (hl : k < l.length) : ∃ ad, A = some ad ∧ ad.block < B ∧
    w.cell? (ad.add (k * 4)) = some (.int .i64 l[k].kind) ∧ w.cell? (ad.add (k * 4 + 1)) = some (.string (str l[k].text)) ∧
    w.cell? (ad.add (k * 4 + 2)) = some (.int .i64 l[k].n) ∧ w.cell? (ad.add (k * 4 + 3)) = some (.int .i64 (l[k].pos : Int)) := by
  obtain ⟨ad, e, hb, hc⟩ := h.2 (by omega)
  refine ⟨ad, e, hb, hc _ _ ?_, hc _ _ ?_, hc _ _ ?_, hc _ _ ?_⟩
  · have := tvs_get l k 0 hl (by omega); rw [Nat.add_zero] at this; rw [this]; rfl
  · rw [tvs_get l k 1 hl (by omega)]; rfl
  · rw [tvs_get l k 2 hl (by omega)]; rfl
  · rw [tvs_get l k 3 hl (by omega)]; rfl
end
theorem tok_info : (Tryz.prog.info? 92).map (fun i => (i.zero, i.size, i.bytes)) = some (some (.agg #[.int .i64 0, .string ⟨#[]⟩, .int .i64 0, .int .i64 0]), 4, 40) := by kernel_rfl
section
variable {ops : Array Oper} {rest : List Oper} {o : Oper} {a : Act} {Q : Exit → Act → World → Prop}
/-- append(v, t), one token that lies in a new block. -/
theorem wpList_app_t {w : World} {x0 x2 x3 : Int} {x1 : ByteArray} {ty : TypeId} (t : Tok) (e0 : x0 = t.kind) (e1 : x1 = str t.text) (e2 : x2 = t.n) (e3 : x3 = (t.pos : Int)) (hgd : o.guard = none) (s x : Operand)
    (ho : o.op = .call { callee := .builtin .append, args := #[s, x], argTypes := #[66, 66] })
    (base : Nat) (v : Value) (n : Nat) (l : List Tok) (hown : OT w base v n l) (hs : a.eval s = v) (c : Nat)
    (hx : a.eval x = .slice (some ⟨w.heap.size, 0, none⟩) 1 c)
    (hlen : n + 1 ≤ 1000000000) (hbase : base ≤ w.heap.size)
    (h : ∀ v' w', OT w' base v' (n + 1) (l ++ [t]) → Below base w w' → w.grownBy w' v.ownBlock → wpList Tryz.prog ops Q rest (a.put o.dst v') w') :
    wpList Tryz.prog ops Q (o :: rest) a (w.alloc (.cells #[.int .i64 x0, .string x1, .int .i64 x2, .int .i64 x3] ty)) := by
  subst e0 e1 e2 e3
  obtain ⟨i0, hi0, hz0, hz1, hz2⟩ := info_parts tok_info
  refine wpList_append_own _ hgd s x _ ho base 92 i0 _ 4 40 Tryz.underlying66 hi0 hz0 hz1 hz2 rfl (by omega) v n (tvs l) hs (hown.alloc _) ⟨w.heap.size, 0, none⟩ 1 c (tv t) hx rfl
    (fun j u hj => ?_) (tv_one t) (by simp only [maxLen]; omega) (by omega) (by simp; omega) fun v' w' h1 h2 _ => ?_
  · rw [show (⟨w.heap.size, 0, none⟩ : Addr).add j = ⟨w.heap.size, j, none⟩ from by unfold Addr.add; split <;> simp_all]
    have := cell_of_row (w.alloc (.cells (tv t).toArray ty)) w.heap.size j (tv t).toArray ty (0, 0) (heap_alloc_new w _)
    exact this.trans (by simpa using hj)
  · have e : tvs l ++ tv t = tvs (l ++ [t]) := by rw [tvs_append]; simp [tvs]
    rw [e] at h1
    refine h v' w' h1 ?_ ⟨h2.os, h2.tape, h2.output, ?_, fun k hk hne => ?_⟩
    · exact ((Below.refl _ _).alloc hbase _).trans ((Below.refl _ _).grown h2 (by simp; omega) (fun k hk => hown.block_lt k hk))
    · have := h2.size; simp at this; omega
    · rw [h2.block k (by simp; omega) hne]
      exact Below.heap_alloc _ _ _ hk
end
/-- The lexer stands at place p; the tokens of what is behind are done. -/
def TRel (L : List UInt8) (p : Nat) (done : List Tok) : Prop :=
  p ≤ L.length ∧ (toks L).1 = done ++ (toksF L.length p (L.drop p)).1 ∧ (toks L).2 = (toksF L.length p (L.drop p)).2
theorem TRel.start (L : List UInt8) : TRel L 0 [] := ⟨Nat.zero_le _, rfl, rfl⟩
theorem toksF_blank (f p : Nat) (l : List UInt8) (hf : l.length ≤ f) : toksF f p l = toksF f (p + runL blankB l) (l.drop (runL blankB l)) := by
  induction l generalizing f p with
  | nil => simp [runL]
  | cons c r ih =>
    cases f with
    | zero => simp at hf
    | succ f =>
      rw [runL_cons]
      by_cases hc : blankB c = true
      · have hf' : r.length ≤ f := by simpa using hf
        rw [if_pos hc, List.drop_succ_cons, show p + (runL blankB r + 1) = p + 1 + runL blankB r from by omega]
        rw [toksF_more (f + 1) f (p + 1 + runL blankB r) (r.drop (runL blankB r)) (by simp; omega) (by simp; omega)]
        rw [← ih f (p + 1) hf']
        simp [toksF, hc]
      · rw [if_neg hc]; simp
theorem toksF_nil (f p : Nat) : toksF f p [] = ([], p, true) := by cases f <;> rfl
theorem TRel.stop {L : List UInt8} {p : Nat} {done : List Tok} (h : TRel L p done) (hp : p = L.length) : toks L = (done, p, true) := by
  obtain ⟨h1, h2, h3⟩ := h
  rw [List.drop_of_length_le (by omega), toksF_nil] at h2 h3
  have : toks L = ((toks L).1, (toks L).2) := rfl
  rw [this, h2, h3]; simp
theorem toksF_step (f p : Nat) (l : List UInt8) (hf : l.length ≤ f) (h0 : runL blankB l = 0) (hl : l ≠ []) :
    toksF f p l = match tokL l p with
      | none => ([], p, false)
      | some x => (x.1 :: (toksF f (p + x.2) (l.drop x.2)).1, (toksF f (p + x.2) (l.drop x.2)).2) := by
  cases l with
  | nil => exact absurd rfl hl
  | cons c r =>
    cases f with
    | zero => simp at hf
    | succ f =>
      have hc : blankB c = false := by
        rw [runL_cons] at h0
        by_cases hc : blankB c = true
        · rw [if_pos hc] at h0; omega
        · simpa using hc
      rw [toksF]
      simp only [hc, Bool.false_eq_true, if_false]
      cases ht : tokL (c :: r) p with
      | none => rfl
      | some x =>
        obtain ⟨t, k⟩ := x
        have hk := tokL_len _ _ _ ht
        simp at hk hf
        simp only []
        rw [toksF_more (f + 1) f (p + k) ((c :: r).drop k) (by simp; omega) (by simp; omega)]
theorem TRel.token {L : List UInt8} {p : Nat} {done : List Tok} {t : Tok} {k : Nat} (h : TRel L p done) (hp : p < L.length) (h0 : runL blankB (L.drop p) = 0) (ht : tokL (L.drop p) p = some (t, k)) : TRel L (p + k) (done ++ [t]) := by
  obtain ⟨h1, h2, h3⟩ := h
  have hk := tokL_len _ _ _ ht
  simp at hk
  have hne : L.drop p ≠ [] := by intro e; have := congrArg List.length e; simp at this; omega
  have e := toksF_step L.length p (L.drop p) (by simp) h0 hne
  rw [ht] at e
  simp only [List.drop_drop] at e
  rw [e] at h2 h3
  exact ⟨by omega, by rw [h2]; simp, h3⟩
theorem TRel.bad {L : List UInt8} {p : Nat} {done : List Tok} (h : TRel L p done) (hp : p < L.length) (h0 : runL blankB (L.drop p) = 0) (ht : tokL (L.drop p) p = none) : toks L = (done, p, false) := by
  obtain ⟨h1, h2, h3⟩ := h
  have hne : L.drop p ≠ [] := by intro e; have := congrArg List.length e; simp at this; omega
  have e := toksF_step L.length p (L.drop p) (by simp) h0 hne
  rw [ht] at e
  rw [e] at h2 h3
  have : toks L = ((toks L).1, (toks L).2) := rfl
  rw [this, h2, h3]; simp
/-- What Tokens answers. -/
def lexL (l : List UInt8) : List Tok := if 400 < l.length then [] else if (toks l).2.2 then (toks l).1 else []
def lexAt (l : List UInt8) : Nat := if 400 < l.length then 0 else (toks l).2.1
def lexE (l : List UInt8) : Int := if 400 < l.length then 10 else if (toks l).2.2 then 0 else 19
/-- A list of tokens of the call's own, a place, an error. -/
def TRet (W : World) (l : List Tok) (p : Nat) (e : Int) (en : Ending) (w' : World) : Prop :=
  ∃ v, en = .returned (.tuple #[v, .int .i64 (p : Int), .int .i64 e]) ∧ OT w' W.heap.size v l.length l ∧ Below W.heap.size W w'
theorem TRet.mk {W w' : World} {l l' : List Tok} {p p' : Nat} {e e' : Int} {v : Value} {n : Nat} (h : OT w' W.heap.size v n l') (hl : l = l') (hp : p = p') (he : e = e') (hb : Below W.heap.size W w') :
    TRet W l p e (.returned (.tuple #[v, .int .i64 (p' : Int), .int .i64 e'])) w' := by
  subst hl hp he
  exact ⟨v, rfl, by rw [h.len]; exact h, hb⟩
theorem takeWhile_all (q : UInt8 → Bool) (l : List UInt8) : ∀ x ∈ l.takeWhile q, q x = true := by
  induction l with
  | nil => simp
  | cons a l ih =>
    intro x hx
    rw [List.takeWhile_cons] at hx
    split at hx
    · rename_i h
      simp at hx
      rcases hx with rfl | hx
      · exact h
      · exact ih x hx
    · simp at hx
theorem drop_head (L : List UInt8) (p : Nat) (h : p < L.length) : L.drop p = L[p] :: L.drop (p + 1) := List.drop_eq_getElem_cons h
theorem runL_head (q : UInt8 → Bool) (L : List UInt8) (p : Nat) (h : p < L.length) : (runL q (L.drop p) = 0) = (q L[p] = false) := by
  rw [drop_head L p h, runL_cons]
  by_cases hq : q L[p] = true
  · simp [hq]
  · simp [hq]
theorem extract_run (s : ByteArray) (q : UInt8 → Bool) (p : Nat) : s.extract p (p + runL q (s.data.toList.drop p)) = str ((s.data.toList.drop p).takeWhile q) := by
  rw [str_extract, takeWhile_take, show p + runL q (s.data.toList.drop p) - p = runL q (s.data.toList.drop p) from by omega]
theorem runL_rest (q : UInt8 → Bool) (l : List UInt8) : runL q (l.drop (runL q l)) = 0 := by
  induction l with
  | nil => rfl
  | cons a l ih =>
    rw [runL_cons]
    by_cases h : q a = true
    · rw [if_pos h, List.drop_succ_cons]; exact ih
    · rw [if_neg h, List.drop_zero, runL_cons, if_neg h]
theorem below_set {B g i : Nat} {a w : World} (h : Below B a w) (hg : B ≤ g) (u : Value) : Below B a (w.setCell ⟨g, i, none⟩ u) := h.setCell (p := ⟨g, i, none⟩) hg u
end Go.Proofs.YtnnjcedlomfhoaaGreatDoor
namespace Go.Proofs.YtnnjcedlomfhoaaGreatDoor
set_option linter.unusedVariables false
end Go.Proofs.YtnnjcedlomfhoaaGreatDoor
namespace Go.Proofs.YtnnjcedlomfhoaaGreatDoor
open Go.RowKit
set_option linter.unusedVariables false
section
variable {w : World} {g : Nat} {t : TypeId} {a b c d : Value}
theorem OT.drew {base n : Nat} {v : Value} {l : List Tok} (h : OT w base v n l) : OT w.drew base v n l := h
end
theorem OT.setAt {w : World} {base n g i : Nat} {v : Value} {l : List Tok} (h : OT w base v n l) (hg : g < base) (u : Value) : OT (w.setCell ⟨g, i, none⟩ u) base v n l := h.setOther (p := ⟨g, i, none⟩) hg u
/-- What the switch leaves: a token in the block, its end in slot 7. -/
def SwOut (L : List UInt8) (w0 : World) (p1 : Nat) (ov : Value) (done : List Tok) (v7 : Value) (wx : World) : Prop :=
  ∃ (t : Tok) (k : Nat), tokL (L.drop p1) p1 = some (t, k) ∧ v7 = .int .i64 ((p1 + k : Nat) : Int) ∧
    Blk wx w0.heap.size 92 #[.int .i64 t.kind, .string (str t.text), .int .i64 t.n, .int .i64 (t.pos : Int)] ∧ OT wx (w0.heap.size + 1) ov done.length done ∧ Below w0.heap.size w0 wx
theorem SwOut.mk {L : List UInt8} {w0 wx : World} {p1 : Nat} {ov v7 x0 x1 x2 x3 : Value} {done : List Tok} {t : Tok} {k : Nat} (h : tokL (L.drop p1) p1 = some (t, k)) (h7 : v7 = .int .i64 ((p1 + k : Nat) : Int))
    (hb : Blk wx w0.heap.size 92 #[x0, x1, x2, x3]) (e0 : x0 = .int .i64 t.kind) (e1 : x1 = .string (str t.text)) (e2 : x2 = .int .i64 t.n) (e3 : x3 = .int .i64 (t.pos : Int))
    (ho : OT wx (w0.heap.size + 1) ov done.length done) (hw : Below w0.heap.size w0 wx) : SwOut L w0 p1 ov done v7 wx := by
  subst e0 e1 e2 e3
  exact ⟨t, k, h, h7, hb, ho, hw⟩
/-- The state at the label 'next'. -/
def TokJ (s : ByteArray) (w0 : World) (a : Act) (w : World) : Prop :=
  ∃ (p : Nat) (v : Value) (done : List Tok) (c0 : Int) (c1 : ByteArray) (c2 c3 : Int) (U : Nat → Value),
    a = { tmps := #[.string s, undef, .slice none 0 0, .int .i64 0, .int .i64 0, v, .int .i64 (p : Int), U 7, .pointer (some ⟨w0.heap.size, 0, none⟩), U 9, U 10, U 11, U 12, U 13, U 14, U 15, U 16, U 17, U 18, U 19, U 20, U 21, U 22, U 23, U 24, U 25, U 26, U 27, U 28, U 29, U 30, U 31, U 32, U 33, U 34, U 35, U 36, U 37, U 38, U 39, U 40, U 41, U 42, U 43, U 44, U 45, U 46, U 47, U 48, U 49, U 50, U 51, U 52, U 53, U 54, U 55, U 56, U 57, U 58, U 59, U 60, U 61, U 62, U 63, U 64, U 65, U 66, U 67, U 68, U 69, U 70, U 71, U 72, U 73, U 74, U 75, U 76, U 77, U 78, U 79, U 80, U 81, U 82, U 83, U 84, U 85, U 86, U 87], defers := [] } ∧
    TRel s.data.toList p done ∧ OT w (w0.heap.size + 1) v done.length done ∧ done.length ≤ p ∧ Blk w w0.heap.size 92 #[.int .i64 c0, .string c1, .int .i64 c2, .int .i64 c3] ∧ Below w0.heap.size w0 w
/-- The state at the label 'bad'. -/
def TokD (s : ByteArray) (w0 : World) (a : Act) (w : World) : Prop :=
  ∃ (p : Nat) (done : List Tok) (U : Nat → Value),
    a = { tmps := #[.string s, undef, U 2, U 3, U 4, U 5, .int .i64 (p : Int), U 7, U 8, U 9, U 10, U 11, U 12, U 13, U 14, U 15, U 16, U 17, U 18, U 19, U 20, U 21, U 22, U 23, U 24, U 25, U 26, U 27, U 28, U 29, U 30, U 31, U 32, U 33, U 34, U 35, U 36, U 37, U 38, U 39, U 40, U 41, U 42, U 43, U 44, U 45, U 46, U 47, U 48, U 49, U 50, U 51, U 52, U 53, U 54, U 55, U 56, U 57, U 58, U 59, U 60, U 61, U 62, U 63, U 64, U 65, U 66, U 67, U 68, U 69, U 70, U 71, U 72, U 73, U 74, U 75, U 76, U 77, U 78, U 79, U 80, U 81, U 82, U 83, U 84, U 85, U 86, U 87], defers := [] } ∧
    toks s.data.toList = (done, p, false) ∧ Below w0.heap.size w0 w
theorem OT.more {w : World} {b b' n : Nat} {v : Value} {l : List Tok} (h : OT w b v n l) (hb : b' ≤ b) : OT w b' v n l := by
  obtain ⟨h1, h2⟩ := h
  refine ⟨h1, ?_⟩
  rcases h2 with h2 | ⟨g, cap, cur, hv, hg, hh, r⟩
  · exact Or.inl h2
  · exact Or.inr ⟨g, cap, cur, hv, by omega, hh, r⟩
theorem TokJ.mk {s : ByteArray} {w0 w : World} {p : Nat} {v : Value} {done : List Tok} {c0 : Int} {c1 : ByteArray} {c2 c3 : Int} {u7 u9 u10 u11 u12 u13 u14 u15 u16 u17 u18 u19 u20 u21 u22 u23 u24 u25 u26 u27 u28 u29 u30 u31 u32 u33 u34 u35 u36 u37 u38 u39 u40 u41 u42 u43 u44 u45 u46 u47 u48 u49 u50 u51 u52 u53 u54 u55 u56 u57 u58 u59 u60 u61 u62 u63 u64 u65 u66 u67 u68 u69 u70 u71 u72 u73 u74 u75 u76 u77 u78 u79 u80 u81 u82 u83 u84 u85 u86 u87 : Value}
    (h1 : TRel s.data.toList p done) (h2 : OT w (w0.heap.size + 1) v done.length done) (h3 : done.length ≤ p) (h4 : Blk w w0.heap.size 92 #[.int .i64 c0, .string c1, .int .i64 c2, .int .i64 c3]) (h5 : Below w0.heap.size w0 w) :
    TokJ s w0 { tmps := #[.string s, undef, .slice none 0 0, .int .i64 0, .int .i64 0, v, .int .i64 (p : Int), u7, .pointer (some ⟨w0.heap.size, 0, none⟩), u9, u10, u11, u12, u13, u14, u15, u16, u17, u18, u19, u20, u21, u22, u23, u24, u25, u26, u27, u28, u29, u30, u31, u32, u33, u34, u35, u36, u37, u38, u39, u40, u41, u42, u43, u44, u45, u46, u47, u48, u49, u50, u51, u52, u53, u54, u55, u56, u57, u58, u59, u60, u61, u62, u63, u64, u65, u66, u67, u68, u69, u70, u71, u72, u73, u74, u75, u76, u77, u78, u79, u80, u81, u82, u83, u84, u85, u86, u87], defers := [] } w :=
  ⟨p, v, done, c0, c1, c2, c3, fun n => (#[undef, undef, undef, undef, undef, undef, undef, u7, undef, u9, u10, u11, u12, u13, u14, u15, u16, u17, u18, u19, u20, u21, u22, u23, u24, u25, u26, u27, u28, u29, u30, u31, u32, u33, u34, u35, u36, u37, u38, u39, u40, u41, u42, u43, u44, u45, u46, u47, u48, u49, u50, u51, u52, u53, u54, u55, u56, u57, u58, u59, u60, u61, u62, u63, u64, u65, u66, u67, u68, u69, u70, u71, u72, u73, u74, u75, u76, u77, u78, u79, u80, u81, u82, u83, u84, u85, u86, u87] : Array Value).getD n undef, rfl, h1, h2, h3, h4, h5⟩
theorem TokD.mk {s : ByteArray} {w0 w : World} {p : Nat} {done : List Tok} {u2 u3 u4 u5 u7 u8 u9 u10 u11 u12 u13 u14 u15 u16 u17 u18 u19 u20 u21 u22 u23 u24 u25 u26 u27 u28 u29 u30 u31 u32 u33 u34 u35 u36 u37 u38 u39 u40 u41 u42 u43 u44 u45 u46 u47 u48 u49 u50 u51 u52 u53 u54 u55 u56 u57 u58 u59 u60 u61 u62 u63 u64 u65 u66 u67 u68 u69 u70 u71 u72 u73 u74 u75 u76 u77 u78 u79 u80 u81 u82 u83 u84 u85 u86 u87 : Value}
    (h1 : toks s.data.toList = (done, p, false)) (h5 : Below w0.heap.size w0 w) :
    TokD s w0 { tmps := #[.string s, undef, u2, u3, u4, u5, .int .i64 (p : Int), u7, u8, u9, u10, u11, u12, u13, u14, u15, u16, u17, u18, u19, u20, u21, u22, u23, u24, u25, u26, u27, u28, u29, u30, u31, u32, u33, u34, u35, u36, u37, u38, u39, u40, u41, u42, u43, u44, u45, u46, u47, u48, u49, u50, u51, u52, u53, u54, u55, u56, u57, u58, u59, u60, u61, u62, u63, u64, u65, u66, u67, u68, u69, u70, u71, u72, u73, u74, u75, u76, u77, u78, u79, u80, u81, u82, u83, u84, u85, u86, u87], defers := [] } w :=
  ⟨p, done, fun n => (#[undef, undef, u2, u3, u4, u5, undef, u7, u8, u9, u10, u11, u12, u13, u14, u15, u16, u17, u18, u19, u20, u21, u22, u23, u24, u25, u26, u27, u28, u29, u30, u31, u32, u33, u34, u35, u36, u37, u38, u39, u40, u41, u42, u43, u44, u45, u46, u47, u48, u49, u50, u51, u52, u53, u54, u55, u56, u57, u58, u59, u60, u61, u62, u63, u64, u65, u66, u67, u68, u69, u70, u71, u72, u73, u74, u75, u76, u77, u78, u79, u80, u81, u82, u83, u84, u85, u86, u87] : Array Value).getD n undef, rfl, h1, h5⟩
end Go.Proofs.YtnnjcedlomfhoaaGreatDoor
namespace Go.Proofs.YtnnjcedlomfhoaaGreatDoor
open Go.RowKit
set_option linter.unusedVariables false
/-- A row of tokens that some call has made reads as a list. -/
def RO (w : World) (B : Nat) (A : Option Addr) (n : Nat) (l : List Tok) : Prop :=
  l.length = n ∧ (0 < n → ∃ g, A = some ⟨g, 0, none⟩ ∧ g < B ∧ ∀ (k j : Nat) (hk : k < l.length), j < 4 → w.cell? ⟨g, k * 4 + j, none⟩ = (tv l[k])[j]?)
section
variable {w w' : World} {base B B' n : Nat} {v : Value} {l : List Tok} {A : Option Addr}
theorem OT.reads (h : OT w base v n l) : ∃ A c, v = .slice A n c ∧ RO w w.heap.size A n l ∧ n ≤ c ∧ c ≤ maxLen := by
  rcases h.parts with ⟨rfl, rfl, rfl⟩ | ⟨g, cap, rfl, h1, h2, h3, h4⟩
  · exact ⟨none, 0, rfl, ⟨rfl, fun h => absurd h (by omega)⟩, Nat.le_refl _, Nat.zero_le _⟩
  · exact ⟨_, _, rfl, ⟨h.len, fun _ => ⟨g, rfl, h4, fun k j hk hj => h.cell (by have := h.len; omega) hk hj⟩⟩, h1, h2⟩
theorem RO.keep (h : RO w B A n l) (hk : ∀ p : Addr, p.block < B → w'.cell? p = w.cell? p) : RO w' B A n l :=
  ⟨h.1, fun hn => by
    obtain ⟨g, e, hg, hc⟩ := h.2 hn
    exact ⟨g, e, hg, fun k j h1 h2 => (hk ⟨g, k * 4 + j, none⟩ hg).trans (hc k j h1 h2)⟩⟩
theorem RO.more (h : RO w B A n l) (hB : B ≤ B') : RO w B' A n l :=
  ⟨h.1, fun hn => by
    obtain ⟨g, e, hg, hc⟩ := h.2 hn
    exact ⟨g, e, by omega, hc⟩⟩
theorem RO.below (h : RO w B A n l) (hb : Below B w w') : RO w' B A n l := h.keep fun _ hp => hb.cell hp
theorem RO.elem (h : RO w B A n l) {k : Nat} (hk : k < n) (hl : k < l.length) : ∃ g, A = some ⟨g, 0, none⟩ ∧ g < B ∧
    w.cell? ⟨g, k * 4, none⟩ = some (.int .i64 l[k].kind) ∧ w.cell? ⟨g, k * 4 + 1, none⟩ = some (.string (str l[k].text)) ∧
    w.cell? ⟨g, k * 4 + 2, none⟩ = some (.int .i64 l[k].n) ∧ w.cell? ⟨g, k * 4 + 3, none⟩ = some (.int .i64 (l[k].pos : Int)) := by
  obtain ⟨g, e, hg, hc⟩ := h.2 (by omega)
  exact ⟨g, e, hg, hc k 0 hl (by omega), hc k 1 hl (by omega), hc k 2 hl (by omega), hc k 3 hl (by omega)⟩
end
end Go.Proofs.YtnnjcedlomfhoaaGreatDoor
namespace Go.Proofs.YtnnjcedlomfhoaaGreatDoor
open Go.RowKit
set_option linter.unusedVariables false
/-- A part's seven cells; the cells of parts. -/
def av (x : Ask) : List Value := [.int .i64 x.kind, .int .i64 x.op, .int .i64 x.a, .int .i64 x.b, .int .i64 x.n, .string (str x.text), .bool x.isText]
def avs (l : List Ask) : List Value := l.flatMap av
theorem avs_length (l : List Ask) : (avs l).length = l.length * 7 := by
  induction l with
  | nil => rfl
  | cons a l ih => simp only [avs, List.flatMap_cons, List.length_append, List.length_cons] at *; rw [ih]; simp [av]; omega
theorem avs_append (a b : List Ask) : avs (a ++ b) = avs a ++ avs b := by simp [avs]
theorem avs_get (l : List Ask) (k j : Nat) (hk : k < l.length) (hj : j < 7) : (avs l)[k * 7 + j]? = (av l[k])[j]? := by
  induction l generalizing k with
  | nil => simp at hk
  | cons a l ih =>
    have e : avs (a :: l) = av a ++ avs l := by simp [avs]
    rw [e]
    cases k with
    | zero => rw [List.getElem?_append_left (by simp [av]; omega)]; simp
    | succ k =>
      rw [List.getElem?_append_right (by simp [av]; omega)]
      have : (k + 1) * 7 + j - (av a).length = k * 7 + j := by simp [av]; omega
      rw [this, ih k (by simpa using hk)]
      simp
theorem av_one (t : Ask) : ∀ u ∈ av t, u.oneCell' = true := by
  intro u hu
  simp [av] at hu
  rcases hu with rfl | rfl | rfl | rfl | rfl | rfl | rfl <;> rfl
def OA (w : World) (base : Nat) (v : Value) (n : Nat) (l : List Ask) : Prop := w.ownsRow base 54 7 v n (avs l)
def RA (w : World) (B : Nat) (A : Option Addr) (n : Nat) (l : List Ask) : Prop := Reads w B 7 A n (avs l)
section
variable {w w' : World} {base B n : Nat} {v : Value} {l : List Ask} {A : Option Addr}
theorem OA.nil (w : World) (base : Nat) : OA w base (.slice none 0 0) 0 [] := ⟨by simp [avs], .inl ⟨rfl, rfl⟩⟩
theorem OA.len (h : OA w base v n l) : l.length = n := by have := h.1; rw [avs_length] at this; omega
theorem OA.form (h : OA w base v n l) : ∃ A c, v = .slice A n c ∧ RA w w.heap.size A n l ∧ (A = none → n = 0) ∧ n ≤ c ∧ c ≤ maxLen := by
  have h2 := h.2
  rcases h2 with ⟨rfl, rfl⟩ | ⟨g, cap, cur, rfl, _, _, h3, h4, _⟩
  · exact ⟨none, 0, rfl, Reads.of_own h, fun _ => rfl, Nat.le_refl _, Nat.zero_le _⟩
  · exact ⟨_, _, rfl, Reads.of_own h, (fun e => by cases e), h3, h4⟩
theorem OA.parts (h : OA w base v n l) : (v = .slice none 0 0 ∧ n = 0 ∧ l = []) ∨ ∃ g cap, v = .slice (some ⟨g, 0, none⟩) n cap ∧ n ≤ cap ∧ cap ≤ maxLen ∧ base ≤ g ∧ g < w.heap.size := by
  have hl := h.1
  rcases h.2 with ⟨rfl, rfl⟩ | ⟨g, cap, cur, rfl, hb, hh, h3, h4, _⟩
  · exact .inl ⟨rfl, rfl, by rw [avs_length] at hl; exact List.eq_nil_of_length_eq_zero (by omega)⟩
  · refine .inr ⟨g, cap, rfl, h3, h4, hb, ?_⟩
    rcases Nat.lt_or_ge g w.heap.size with hlt | hge
    · exact hlt
    · rw [Array.getElem?_eq_none hge] at hh; cases hh
theorem OA.cell {g cap k j : Nat} (h : OA w base (.slice (some ⟨g, 0, none⟩) n cap) n l) (hk : k < n) (hl : k < l.length) (hj : j < 7) : w.cell? ⟨g, k * 7 + j, none⟩ = (av l[k])[j]? := by
  rw [World.ownsRow.cellAt h (k * 7 + j) (by omega), avs_get l k j hl hj]
theorem OA.below {B : Nat} (h : OA w base v n l) (hb : Below B w w') (hs : w.heap.size ≤ B) : OA w' base v n l := by
  obtain ⟨h1, h2⟩ := h
  refine ⟨h1, ?_⟩
  rcases h2 with h2 | ⟨g, cap, cur, hv, hg, hh, r⟩
  · exact Or.inl h2
  · have hlt : g < w.heap.size := by
      rcases Nat.lt_or_ge g w.heap.size with hlt | hge
      · exact hlt
      · rw [Array.getElem?_eq_none hge] at hh; cases hh
    exact Or.inr ⟨g, cap, cur, hv, hg, by rw [hb.block g (by omega)]; exact hh, r⟩
theorem OA.alloc (h : OA w base v n l) (o : Obj) : OA (w.alloc o) base v n l := World.ownsRow.alloc h o
theorem OA.drewN (h : OA w base v n l) (k : Nat) : OA (w.drewN k) base v n l := h
theorem OA.block_lt (h : OA w base v n l) (k : Nat) (hk : v.ownBlock = some k) : base ≤ k := by
  rcases h.2 with ⟨rfl, rfl⟩ | ⟨g, cap, cur, rfl, hg, _⟩
  · simp [Value.ownBlock] at hk
  · simp [Value.ownBlock] at hk; omega
theorem OA.setOther (h : OA w base v n l) {p : Addr} (hp : p.block < base) (u : Value) : OA (w.setCell p u) base v n l := ownsRow_setCell_below h hp u
theorem OA.far (h : OA w base v n l) {g i : Nat} (hg : v.ownBlock ≠ some g) (u : Value) : OA (w.setCell ⟨g, i, none⟩ u) base v n l := by
  obtain ⟨h1, h2⟩ := h
  refine ⟨h1, ?_⟩
  rcases h2 with h2 | ⟨g', cap, cur, hv, hg', hh, r⟩
  · exact Or.inl h2
  · subst hv
    refine Or.inr ⟨g', cap, cur, rfl, hg', ?_, r⟩
    rw [Below.heap_setCell w ⟨g, i, none⟩ u g' (fun e => hg (by simp [Value.ownBlock, e]))]
    exact hh
theorem OA.own_lt (h : OA w base v n l) (k : Nat) (hk : v.ownBlock = some k) : k < w.heap.size := by
  rcases h.2 with ⟨rfl, rfl⟩ | ⟨g, cap, cur, rfl, _, hh, _⟩
  · simp [Value.ownBlock] at hk
  · simp [Value.ownBlock] at hk
    subst hk
    rcases Nat.lt_or_ge g w.heap.size with hlt | hge
    · exact hlt
    · rw [Array.getElem?_eq_none hge] at hh; cases hh
theorem OA.more {b' : Nat} (h : OA w base v n l) (hb : b' ≤ base) : OA w b' v n l := by
  obtain ⟨h1, h2⟩ := h
  refine ⟨h1, ?_⟩
  rcases h2 with h2 | ⟨g, cap, cur, hv, hg, hh, r⟩
  · exact Or.inl h2
  · exact Or.inr ⟨g, cap, cur, hv, by omega, hh, r⟩
theorem RA.len (h : RA w B A n l) : l.length = n := by have := h.1; rw [avs_length] at this; omega
theorem RA.below (h : RA w B A n l) (hb : Below B w w') : RA w' B A n l := Reads.below h hb
theorem RA.more {B' : Nat} (h : RA w B A n l) (hB : B ≤ B') : RA w B' A n l := Reads.more h hB
end
theorem ask_info : (Tryz.prog.info? 54).map (fun i => (i.zero, i.size, i.bytes)) = some (some (.agg #[.int .i64 0, .int .i64 0, .int .i64 0, .int .i64 0, .int .i64 0, .string ⟨#[]⟩, .bool false]), 7, 64) := by kernel_rfl
def kindsD : DataW Unit := (((((DataW.map []).put (.string nameW) (.lit (.int .i64 4))).put (.string sizeW) (.lit (.int .i64 5))).put (.string dateW) (.lit (.int .i64 6))).put (.string crcW) (.lit (.int .i64 7))).put (.string methodW) (.lit (.int .i64 8))
/-- Block km is the map of the words' kinds. -/
def KM (w : World) (km : Nat) : Prop := w.ownsMap Tryz.prog 9 (plainElem (H := Unit) Tryz.prog 3) km 5 kindsD
theorem KM.keep {w w' : World} {km : Nat} (h : KM w km) (e : w'.heap[km]? = w.heap[km]?) : KM w' km := by
  obtain ⟨es, clock, h1, h2⟩ := h
  exact ⟨es, clock, e.trans h1, h2⟩
theorem isW_kind {t : Tok} {k : Int} {s : List UInt8} (h : t.kind ≠ k) : isW t k s = false := by simp [isW, h]
theorem isW_text {t : Tok} {k : Int} {s : List UInt8} (h : t.text ≠ s) : isW t k s = false := by simp [isW, h]
theorem isW_both {t : Tok} {k : Int} {s : List UInt8} (h : t.kind = k) (h2 : t.text = s) : isW t k s = true := by simp [isW, h, h2]
theorem str_neq (a : List UInt8) (s : ByteArray) (h : a ≠ s.data.toList) : ((str a).toList == s.toList) = false := by
  rw [str_bytes, ByteArray.toList_eq, beq_eq_false_iff_ne]; exact h
theorem str_eqq (a : List UInt8) (s : ByteArray) (h : a = s.data.toList) : ((str a).toList == s.toList) = true := by
  rw [str_bytes, ByteArray.toList_eq, h]; simp
theorem RT.head {w : World} {B : Nat} {A : Option Addr} {t : Tok} {r : List Tok} (h : RT w B A (t :: r).length (t :: r)) : ∃ ad, A = some ad ∧ ad.block < B ∧
    w.cell? ad = some (.int .i64 t.kind) ∧ w.cell? ⟨ad.block, ad.off + 1, none⟩ = some (.string (str t.text)) ∧ w.cell? ⟨ad.block, ad.off + 2, none⟩ = some (.int .i64 t.n) ∧ w.cell? ⟨ad.block, ad.off + 3, none⟩ = some (.int .i64 (t.pos : Int)) := by
  obtain ⟨ad, e, hb, h0, h1, h2, h3⟩ := h.elem (k := 0) (by simp) (by simp)
  simp [Addr.add] at h0 h1 h2 h3
  exact ⟨ad, e, hb, h0, h1, h2, h3⟩
theorem RT.none_ (w : World) (B : Nat) (A : Option Addr) : RT w B A 0 [] := ⟨by simp [tvs], fun h => absurd h (by omega)⟩
theorem RT.tail {w : World} {B : Nat} {ad : Addr} {t : Tok} {r : List Tok} (h : RT w B (some ad) (t :: r).length (t :: r)) : RT w B (some ⟨ad.block, ad.off + 4, none⟩) r.length r := by
  refine ⟨by rw [tvs_length], fun hn => ?_⟩
  obtain ⟨ad', e, hb, hc⟩ := h.2 (by simp)
  obtain rfl := Option.some.inj e
  refine ⟨_, rfl, hb, fun j u hu => ?_⟩
  have := hc (4 + j) u (by rw [show tvs (t :: r) = tv t ++ tvs r from by simp [tvs], List.getElem?_append_right (by simp [tv])]; simpa [tv] using hu)
  rw [← this]
  congr 1
  unfold Addr.add
  rw [if_neg (by omega : ¬ 4 + j = 0)]
  split
  · rename_i hj; subst hj; rfl
  · rw [Nat.add_assoc]
end Go.Proofs.YtnnjcedlomfhoaaGreatDoor
namespace Go.Proofs.YtnnjcedlomfhoaaGreatDoor
open Go.RowKit
set_option linter.unusedVariables false
/-- The values of a token. -/
def tokV (t : Tok) : Value := .agg #[.int .i64 t.kind, .string (str t.text), .int .i64 t.n, .int .i64 (t.pos : Int)]
section
variable {ops : Array Oper} {o : Oper} {a : Act} {Q : Exit → Act → World → Prop}
/-- append(v, x), one part that lies in a new block, as a step of a region. -/
theorem step_app_a {K : Act → World → Prop} {E : Prop} {w : World} (x : Ask) (hgd : o.guard = none) (s y : Operand)
    (ho : o.op = .call { callee := .builtin .append, args := #[s, y], argTypes := #[23, 23] })
    (base : Nat) (v : Value) (n : Nat) (l : List Ask) (hown : OA w base v n l) (hs : a.eval s = v) (g c : Nat) (hg : g < w.heap.size)
    (hx : a.eval y = .slice (some ⟨g, 0, none⟩) 1 c) (hc : Blk w g 54 (av x).toArray)
    (hlen : n + 1 ≤ 1000000000) (hbase : base ≤ w.heap.size)
    (h : ∀ v' w', OA w' base v' (n + 1) (l ++ [x]) → Below base w w' → w.grownBy w' v.ownBlock → K (a.put o.dst v') w') :
    if Region.wanted o (yielded ops a.tmps) = true then Oper.wp Tryz.prog o a w K Q else E := by
  obtain ⟨i0, hi0, hz0, hz1, hz2⟩ := info_parts ask_info
  refine step_append_any w hgd s y 23 ho base 54 i0 _ 7 64 Tryz.underlying23 hi0 hz0 hz1 hz2 rfl (by omega) v n (avs l) hs hown (g + 1) (some ⟨g, 0, none⟩) 1 c (av x) hx
    ⟨rfl, fun _ => ⟨_, rfl, Nat.lt_succ_self _, fun j u hj => ?_⟩⟩ (av_one x) (by simp only [maxLen]; omega) (by omega) hbase fun v' w' h1 h2 h3 => ?_
  · rw [show (⟨g, 0, none⟩ : Addr).add j = ⟨g, j, none⟩ from by unfold Addr.add; split <;> simp_all, hc.cell]
    simpa using hj
  · have e : avs l ++ av x = avs (l ++ [x]) := by rw [avs_append]; simp [avs]
    rw [e] at h1
    exact h v' w' h1 ((Below.refl _ _).grown h2 hbase fun k hk => hown.block_lt k hk) h2
end
end Go.Proofs.YtnnjcedlomfhoaaGreatDoor
namespace Go.Proofs.YtnnjcedlomfhoaaGreatDoor
open Go.RowKit
set_option linter.unusedVariables false
theorem findK_at (t : List UInt8) : ∀ (l : List (List UInt8)) (k : Nat) (hk : k < l.length) (j : Int), l[k] = t → (∀ i (hi : i < k), l[i] ≠ t) → findK l t j = j + k
  | m :: r, 0, _, j, h, _ => by
    simp at h
    rw [findK, if_pos h.symm]; simp
  | m :: r, k + 1, hk, j, h, hn => by
    have h0 := hn 0 (by omega)
    simp at h0
    rw [findK, if_neg (Ne.symm h0), findK_at t r k (by simpa using hk) (j + 1) (by simpa using h) (fun i hi => by have := hn (i + 1) (by omega); simpa using this)]
    omega
theorem findK_none (t : List UInt8) : ∀ (l : List (List UInt8)) (j : Int), (∀ i (hi : i < l.length), l[i] ≠ t) → findK l t j = 0
  | [], _, _ => rfl
  | m :: r, j, hn => by
    have h0 := hn 0 (by simp)
    simp at h0
    rw [findK, if_neg (Ne.symm h0), findK_none t r (j + 1) (fun i hi => by have := hn (i + 1) (by simpa using hi); simpa using this)]
end Go.Proofs.YtnnjcedlomfhoaaGreatDoor
namespace Go.Proofs.YtnnjcedlomfhoaaGreatDoor
open Go.RowKit
set_option linter.unusedVariables false
def tok0 : Tok := ⟨0, [], 0, 0⟩
def hd0 (T : List Tok) : Tok := T.headD tok0
end Go.Proofs.YtnnjcedlomfhoaaGreatDoor
namespace Go.Proofs.YtnnjcedlomfhoaaGreatDoor
open Go.RowKit
set_option linter.unusedVariables false
end Go.Proofs.YtnnjcedlomfhoaaGreatDoor
namespace Go.Proofs.YtnnjcedlomfhoaaGreatDoor
open Go.RowKit
set_option linter.unusedVariables false
end Go.Proofs.YtnnjcedlomfhoaaGreatDoor
namespace Go.Proofs.YtnnjcedlomfhoaaGreatDoor
open Go.RowKit
set_option linter.unusedVariables false
end Go.Proofs.YtnnjcedlomfhoaaGreatDoor
namespace Go.Proofs.YtnnjcedlomfhoaaGreatDoor
open Go.RowKit
set_option linter.unusedVariables false
/-- A part lies at an address. -/
def AskAt (w : World) (p : Addr) (x : Ask) : Prop :=
  w.cell? p = some (.int .i64 x.kind) ∧ w.cell? ⟨p.block, p.off + 1, none⟩ = some (.int .i64 x.op) ∧ w.cell? ⟨p.block, p.off + 2, none⟩ = some (.int .i64 x.a) ∧ w.cell? ⟨p.block, p.off + 3, none⟩ = some (.int .i64 x.b) ∧
  w.cell? ⟨p.block, p.off + 4, none⟩ = some (.int .i64 x.n) ∧ w.cell? ⟨p.block, p.off + 5, none⟩ = some (.string (str x.text)) ∧ w.cell? ⟨p.block, p.off + 6, none⟩ = some (.bool x.isText)
theorem add_pos (p : Addr) (j : Nat) (h : j ≠ 0) : p.add j = ⟨p.block, p.off + j, none⟩ := by
  unfold Addr.add; rw [if_neg h]
theorem RA.elem {w : World} {B n : Nat} {A : Option Addr} {l : List Ask} (h : RA w B A n l) {k : Nat} (hk : k < n) (hl : k < l.length) : ∃ ad, A = some ad ∧ (ad.add (k * 7)).block < B ∧ AskAt w (ad.add (k * 7)) l[k] := by
  obtain ⟨ad, e, hb, hc⟩ := h.2 (by omega)
  have hc2 : ∀ j u, j < 7 → (av l[k])[j]? = some u → w.cell? (ad.add (k * 7 + j)) = some u := fun j u hj hu => hc _ u (by rw [avs_get l k j hl hj]; exact hu)
  have h0 := hc2 0 _ (by omega) rfl
  have h1 := hc2 1 _ (by omega) rfl
  have h2 := hc2 2 _ (by omega) rfl
  have h3 := hc2 3 _ (by omega) rfl
  have h4 := hc2 4 _ (by omega) rfl
  have h5 := hc2 5 _ (by omega) rfl
  have h6 := hc2 6 _ (by omega) rfl
  rw [← add_of_add, add_pos _ _ (by decide)] at h1 h2 h3 h4 h5 h6
  exact ⟨ad, e, by rw [block_of_add]; exact hb, h0, h1, h2, h3, h4, h5, h6⟩
theorem pats_next (l : List Ask) (k : Nat) (h : k < l.length) : patsL (l.take (k + 1)) = patsL (l.take k) + if isPat l[k] = true then 1 else 0 := by
  unfold patsL
  rw [List.take_succ_eq_append_getElem h, List.countP_append]
  simp [List.countP_cons]
/-- The cells of the depths: those that are told, one that is being told, the rest. -/
def dc (ds : List Nat) (m r : Nat) : Array Value := (ds.map (fun d : Nat => Value.int .i64 (d : Int)) ++ (Value.int .i64 (m : Int) :: List.replicate r (Value.int .i64 0))).toArray
def dz (ds : List Nat) (r : Nat) : Array Value := (ds.map (fun d : Nat => Value.int .i64 (d : Int)) ++ List.replicate r (Value.int .i64 0)).toArray
theorem dz_dc (ds : List Nat) (r : Nat) : dz ds (r + 1) = dc ds 0 r := rfl
theorem dc_dz (ds : List Nat) (m r : Nat) : dc ds m r = dz (ds ++ [m]) r := by simp [dc, dz]
theorem dc_at (ds : List Nat) (m r : Nat) : (dc ds m r)[ds.length]? = some (.int .i64 (m : Int)) := by simp [dc]
theorem dc_lt (ds : List Nat) (m r k : Nat) (h : k < ds.length) : (dc ds m r)[k]? = some (.int .i64 ((ds[k] : Nat) : Int)) := by
  simp [dc, List.getElem?_append_left, h]
theorem dc_set (ds : List Nat) (m m' r : Nat) : (dc ds m r).setIfInBounds ds.length (.int .i64 (m' : Int)) = dc ds m' r := by
  simp [dc]
theorem dz_at (ds : List Nat) (r k : Nat) (h : k < ds.length) : (dz ds r)[k]? = some (.int .i64 ((ds[k] : Nat) : Int)) := by
  simp [dz, List.getElem?_append_left, h]
theorem made_dz (n : Nat) : madeCells (Value.int .i64 0).cells (n * 1) = dz [] n := by
  unfold madeCells dz
  apply Array.ext
  · simp
  · intro i h1 h2
    simp [Value.cells, Nat.mod_one]
theorem int_info : (Tryz.prog.info? 3).map (fun i => (i.zero, i.size, i.bytes)) = some (some (.int .i64 0), 1, 8) := by kernel_rfl
theorem make_ints (n : Nat) (hn : n ≤ 100000) (w : World) : (Instr.makeSlice 83 (.int .i64 (n : Int)) (.int .i64 (n : Int))).run Tryz.prog w = .ok (.slice (some ⟨w.heap.size, 0, none⟩) n n) (w.alloc (.cells (dz [] n) 3)) := by
  obtain ⟨i0, hi, hz0, hz1, hz2⟩ := info_parts int_info
  rw [run_make_rowN 83 3 i0 (.int .i64 0) Tryz.underlying83 hi hz0 .i64 .i64 n n (Nat.le_refl _) (by rw [hz2]; omega) (by omega) w, hz1, made_dz]
theorem idx2_0 (x y : Int) (w : World) : (Instr.index 105 (.agg #[.int .i64 x, .int .i64 y]) (.int .i64 ((0 : Nat) : Int))).run Tryz.prog w = .ok (.int .i64 x) w := by kernel_rfl
theorem idx2_1 (x y : Int) (w : World) : (Instr.index 105 (.agg #[.int .i64 x, .int .i64 y]) (.int .i64 ((1 : Nat) : Int))).run Tryz.prog w = .ok (.int .i64 y) w := by kernel_rfl
def inM (ds : List Nat) (x y : Int) (j : Nat) : Nat := if j = 0 then 0 else if j = 1 then deepAt ds x else max (deepAt ds x) (deepAt ds y)
theorem deepAt_out (ds : List Nat) (k : Int) (h : ¬ (0 ≤ k ∧ k < ds.length)) : deepAt ds k = 0 := by
  unfold deepAt; rw [if_neg h]
theorem deeps_next (l : List Ask) (k : Nat) (h : k < l.length) : deeps [] (l.take (k + 1)) = deeps [] (l.take k) ++ [deepNext (deeps [] (l.take k)) l[k]] := by
  rw [List.take_succ_eq_append_getElem h, deeps_append]; rfl
theorem deepAt_le (ds : List Nat) (k : Int) (b : Nat) (h : ∀ d ∈ ds, d ≤ b) : deepAt ds k ≤ b := by
  unfold deepAt
  split
  · rename_i hk
    have h2 : k.toNat < ds.length := by omega
    simp only [List.getD, List.getElem?_eq_getElem h2, Option.getD_some]
    exact h _ (List.getElem_mem _)
  · omega
theorem deeps_le (l : List Ask) : ∀ (ds : List Nat), (∀ d ∈ ds, d ≤ ds.length) → ∀ d ∈ deeps ds l, d ≤ (deeps ds l).length := by
  induction l with
  | nil => intro ds h; exact h
  | cons x l ih =>
    intro ds h
    refine ih _ fun d hd => ?_
    rw [List.length_append, List.length_singleton]
    rcases List.mem_append.1 hd with hd | hd
    · have := h d hd; omega
    · simp at hd
      subst hd
      have h1 := deepAt_le ds x.a ds.length h
      have h2 := deepAt_le ds x.b ds.length h
      unfold deepNext; omega
set_option maxRecDepth 100000 in
set_option maxHeartbeats 2000000 in
theorem deep_any (w : World) (A : Option Addr) (n c : Nat) (l : List Ask) (h : RA w w.heap.size A n l) (hn : n ≤ 100000) :
    Calls Tryz.prog 33 #[.slice A n c] w fun e w' => e = .returned (.int .i64 (deepL l : Int)) ∧ Below w.heap.size w w' := by
  have hlen := hide h.len
  replace h := hide h
  have hmk := make_ints n hn
  go_enter Tryz.func33, Tryz.ntmps33
  go_wp2_with fail
  clear hmk
  go_loopw [13] (fun i wr => ∃ k : Nat, k ≤ n ∧ i = .int .i64 k ∧ Blk wr w.heap.size 3 (dz (deeps [] (l.take k)) (n - k)) ∧ Below w.heap.size w wr) (fun i _ => n - (intOf i).toNat)
  case atStart => exact ⟨0, by omega, rfl, Blk.new w 3 (dz [] n), (Below.refl _ _).alloc (Nat.le_refl _) _⟩
  case round =>
    obtain ⟨k, hk, rfl, hB, hbl⟩ := hrel
    have hsz := hB.lt
    have hdl : (deeps [] (l.take k)).length = k := by rw [deeps_len]; simp; have := hlen.out; omega
    have hdb := deeps_le (l.take k) [] (fun _ h => by cases h)
    rw [hdl] at hdb
    by_cases h1 : k < n
    · have hkl : k < l.length := by have := hlen.out; omega
      obtain ⟨ad, rfl, hab, c0, c1, c2, c3, c4, c5, c6⟩ := (h.out.below hbl).elem h1 hkl
      have hs := hide (deeps_next l k hkl)
      generalize l[k] = x at *
      generalize deeps [] (l.take k) = ds at *
      have hab2 : (ad.add (k * 7)).block < wr.heap.size := by omega
      obtain ⟨r, hr⟩ : ∃ r, n - k = r + 1 := ⟨n - k - 1, by omega⟩
      rw [hr, dz_dc] at hB
      replace hB := hide hB
      replace hdl := hide hdl
      replace hdb := hide hdb
      replace hr := hide hr
      go_wp2_with fail
      obtain ⟨xa, hxa⟩ : ∃ a, a = x.a := ⟨_, rfl⟩
      obtain ⟨xb, hxb⟩ : ∃ a, a = x.b := ⟨_, rfl⟩
      rw [← hxa, ← hxb]
      replace hxa := hide hxa
      replace hxb := hide hxb
      have hB0 := hide (hB.out.alloc (.cells #[.int .i64 x.kind, .int .i64 x.op, .int .i64 xa, .int .i64 xb, .int .i64 x.n, .string (str x.text), .bool x.isText] 54))
      have hbl0 := hbl.alloc (by omega) (.cells #[.int .i64 x.kind, .int .i64 x.op, .int .i64 xa, .int .i64 xb, .int .i64 x.n, .string (str x.text), .bool x.isText] 54)
      obtain ⟨wo, hwo⟩ : ∃ o, o = wr.alloc (.cells #[.int .i64 x.kind, .int .i64 x.op, .int .i64 xa, .int .i64 xb, .int .i64 x.n, .string (str x.text), .bool x.isText] 54) := ⟨_, rfl⟩
      rw [← hwo]
      rw [← hwo] at hB0 hbl0
      clear hwo hB hbl c0 c1 c2 c3 c4 c5 c6 hab2
      go_loopw [23] (fun j wi => ∃ i : Nat, i ≤ 2 ∧ j = .int .i64 i ∧ Blk wi w.heap.size 3 (dc ds (inM ds xa xb i) r) ∧ Below w.heap.size w wi) (fun j _ => 2 - (intOf j).toNat)
      case atStart => exact ⟨0, by omega, rfl, hB0.out, hbl0⟩
      case round =>
        clear hB0 hbl0
        obtain ⟨i, hi, rfl, hB, hbl⟩ := hrel
        by_cases h2 : i < 2
        · obtain ⟨K, hK, hM⟩ : ∃ K : Int, (∀ w, (Instr.index 105 (.agg #[.int .i64 xa, .int .i64 xb]) (.int .i64 (i : Int))).run Tryz.prog w = .ok (.int .i64 K) w) ∧ Hid (inM ds xa xb (i + 1) = max (inM ds xa xb i) (deepAt ds K)) := by
            match i, h2 with
            | 0, _ => exact ⟨xa, idx2_0 xa xb, by simp [Hid, inM]⟩
            | 1, _ => exact ⟨xb, idx2_1 xa xb, by simp [Hid, inM]⟩
          have hfz := hB.frozen k
          have hck := hB.cell k
          rw [← hdl.out] at hck
          rw [dc_at, hdl.out] at hck
          by_cases k0 : 0 ≤ K
          · by_cases k1 : K < k
            · obtain ⟨kk, rfl⟩ := Int.eq_ofNat_of_zero_le k0
              have hkk : kk < ds.length := by rw [hdl.out]; omega
              have hcj := hB.cell kk
              rw [dc_lt ds _ r kk hkk] at hcj
              have hdA := deepAt_in ds kk hkk
              have hdle := deepAt_le ds (kk : Int) k hdb.out
              have hMle : inM ds xa xb i ≤ 100000 := by
                have h3 := deepAt_le ds xa k hdb.out
                have h4 := deepAt_le ds xb k hdb.out
                unfold inM
                split
                · omega
                · split <;> omega
              rw [← hdA] at hcj
              replace hB := hide hB
              clear hdA
              generalize deepAt ds (kk : Int) = dk at *
              generalize inM ds xa xb i = mm at *
              go_wp2_with fail
              go_region
              go_wp2_with fail
              go_roundw
              case rel =>
                refine ⟨i + 1, by omega, by go_num, ?_, (below_set hbl (Nat.le_refl _) _).drew⟩
                rw [show max (mm : Int) (dk : Int) = ((max mm dk : Nat) : Int) from by omega, hM.out, ← dc_set ds mm (max mm dk) r, hdl.out]
                exact (hB.out.set_ k _).drew
              case measure => simp [intOf]; omega
            · have hMs : Hid (inM ds xa xb (i + 1) = inM ds xa xb i) := by rw [Hid, hM.out, deepAt_out ds K (by rw [hdl.out]; omega)]; simp
              replace hB := hide hB
              clear hM
              go_wp2_with fail
              go_roundw
              case rel => exact ⟨i + 1, by omega, by go_num, by rw [hMs.out]; exact hB.out, hbl⟩
              case measure => simp [intOf]; omega
          · have hMs : Hid (inM ds xa xb (i + 1) = inM ds xa xb i) := by rw [Hid, hM.out, deepAt_out ds K (by omega)]; simp
            replace hB := hide hB
            clear hM
            go_wp2_with fail
            go_roundw
            case rel => exact ⟨i + 1, by omega, by go_num, by rw [hMs.out]; exact hB.out, hbl⟩
            case measure => simp [intOf]; omega
        · have hi2 : i = 2 := by omega
          subst hi2
          have hfz := hB.frozen k
          have hck := hB.cell k
          rw [← hdl.out] at hck
          rw [dc_at, hdl.out] at hck
          have hMle : inM ds xa xb 2 ≤ 100000 := by
            have h3 := deepAt_le ds xa k hdb.out
            have h4 := deepAt_le ds xb k hdb.out
            show max _ _ ≤ _
            omega
          have hnx : Hid (deepNext ds x = inM ds xa xb 2 + 1) := by rw [Hid, hxa.out, hxb.out]; rfl
          replace hB := hide hB
          generalize inM ds xa xb 2 = mm at *
          go_wp2_with fail
          go_roundw
          case rel =>
            refine ⟨k + 1, by omega, by go_num, ?_, below_set hbl (Nat.le_refl _) _⟩
            rw [hs.out, hnx.out, show n - (k + 1) = r from by have := hr.out; omega, ← dc_dz, ← dc_set ds mm (mm + 1) r, hdl.out]
            exact hB.out.set_ k _
          case measure => simp [intOf]; omega
    · have hkn : k = n := by omega
      subst hkn
      have htk : l.take k = l := by rw [List.take_of_length_le (by have := hlen.out; omega)]
      rw [htk] at hB hdl
      by_cases hz : k = 0
      · subst hz
        have hr : Hid (deepL l = 0) := by
          have : l = [] := List.eq_nil_of_length_eq_zero hlen.out
          subst this; rfl
        clear hB hdl hdb
        go_wp2_with fail
        go_ret
        exact ⟨ret_int (by rw [hr.out]; rfl), hbl⟩
      · have hck := hB.cell (k - 1)
        rw [dz_at _ _ (k - 1) (by omega)] at hck
        have hr : Hid (deepL l = (deeps [] l)[k - 1]'(by omega)) := by
          show _ = _
          unfold deepL
          rw [List.getLastD_eq_getLast?, List.getLast?_eq_getElem?]
          have e : (deeps [] l).length - 1 = k - 1 := by rw [hdl]
          simp only [e]
          rw [List.getElem?_eq_getElem (by omega)]; rfl
        rw [← hr.out] at hck
        clear hB hdl hdb hr
        go_wp2_with fail
        go_ret
        exact ⟨rfl, hbl⟩
end Go.Proofs.YtnnjcedlomfhoaaGreatDoor
namespace Go.Proofs.YtnnjcedlomfhoaaGreatDoor
open Go.RowKit
set_option linter.unusedVariables false
theorem quotedL_text (n : Nat) (l : List UInt8) (hn : l.length ≤ n) (x : List UInt8 × Nat) (h : quotedL l = some x) : x.1.length ≤ l.length := by
  induction n generalizing l x with
  | zero =>
    have : l = [] := List.eq_nil_of_length_eq_zero (by omega)
    subst this
    simp [quotedL_nil] at h
  | succ n ih =>
    cases l with
    | nil => simp [quotedL_nil] at h
    | cons c r =>
      by_cases h1 : c = 34
      · subst h1
        rw [quotedL_end] at h
        simp at h; subst h; simp
      · by_cases h2 : c = 92
        · subst h2
          cases r with
          | nil => rw [quotedL_back] at h; simp at h
          | cons d r =>
            rw [quotedL_esc] at h
            split at h
            · simp at h
              obtain ⟨a, b, hq, rfl⟩ := h
              have := ih r (by simp at hn; omega) _ hq
              simp at *; omega
            · simp at h
        · rw [quotedL_byte c r h1 h2] at h
          simp at h
          obtain ⟨a, b, hq, rfl⟩ := h
          have := ih r (by simp at hn; omega) _ hq
          simp at *; omega
theorem tokL_text (l : List UInt8) (p : Nat) (x : Tok × Nat) (h : tokL l p = some x) : x.1.text.length ≤ l.length := by
  unfold tokL at h
  split at h
  · simp at h; subst h
    exact takeWhile_len smallB l
  · split at h
    · split at h
      · cases h
      · simp at h; subst h; simp
    · split at h
      · simp at h
        obtain ⟨a, b, hq, rfl⟩ := h
        have := quotedL_text _ _ (Nat.le_refl _) _ hq
        simp at *; omega
      · split at h
        · cases h
        · simp at h; subst h
          exact (markL_len l).1
theorem toksF_text (f p : Nat) (l : List UInt8) : (toksF f p l).1.length ≤ l.length ∧ ∀ t ∈ (toksF f p l).1, t.text.length ≤ l.length := by
  induction f generalizing p l with
  | zero => simp [toksF]
  | succ f ih =>
    cases l with
    | nil => simp [toksF]
    | cons c r =>
      rw [toksF]
      split
      · have := ih (p + 1) r
        refine ⟨by simp; omega, fun t ht => ?_⟩
        have := this.2 t ht
        simp; omega
      · cases ht : tokL (c :: r) p with
        | none => simp
        | some x =>
          obtain ⟨t, k⟩ := x
          have hk := tokL_len _ _ _ ht
          have hx := tokL_text _ _ _ ht
          have h2 := ih (p + k) ((c :: r).drop k)
          simp only [List.length_drop] at h2
          refine ⟨by simp at *; omega, fun t' ht' => ?_⟩
          simp only [List.mem_cons] at ht'
          rcases ht' with rfl | ht'
          · exact hx
          · have := h2.2 t' ht'; omega
theorem lexT_len (L : List UInt8) : (lexL L).length ≤ 400 ∧ ∀ t ∈ lexL L, t.text.length ≤ 400 := by
  unfold lexL
  split
  · simp
  · split
    · have := toksF_text L.length 0 L
      refine ⟨?_, fun t ht => ?_⟩
      · show (toksF L.length 0 L).1.length ≤ _; omega
      · have := this.2 t ht; omega
    · simp
/-- What Parse answers of a text. -/
def parsedL (L : List UInt8) : List Ask := if lexE L = 0 then parseL (lexL L) else []
def parsedE (L : List UInt8) : Int := if lexE L = 0 then parseE (lexL L) else lexE L
def PRet (W : World) (l : List Ask) (e : Int) (en : Ending) (w' : World) : Prop :=
  ∃ v, en = .returned (.tuple #[v, .int .i64 e]) ∧ OA w' W.heap.size v l.length l ∧ Below W.heap.size W w'
theorem PRet.mk {W w' : World} {l l' : List Ask} {e e' : Int} {v : Value} {n : Nat} (h : OA w' W.heap.size v n l') (hl : l = l') (he : e = e') (hb : Below W.heap.size W w') :
    PRet W l e (.returned (.tuple #[v, .int .i64 e'])) w' := by
  subst hl he
  exact ⟨v, rfl, by rw [h.len]; exact h, hb⟩
end Go.Proofs.YtnnjcedlomfhoaaGreatDoor
namespace Go.Proofs.YtnnjcedlomfhoaaGreatDoor
set_option linter.unusedVariables false
/-- Tokens without their places, and whether all was right. -/
def sF (f p : Nat) (l : List UInt8) : List Tok × Bool := ((toksF f p l).1.map strip, (toksF f p l).2.2)
def sL (l : List UInt8) : List Tok × Bool := sF l.length 0 l
/-- What the lexer answers, by its stripped tokens. -/
theorem lex_sL (l : List UInt8) (h : l.length ≤ 400) : (lexE l = 0 ↔ (sL l).2 = true) ∧ ((sL l).2 = true → (lexL l).map strip = (sL l).1) := by
  have e : sL l = ((toks l).1.map strip, (toks l).2.2) := rfl
  have h4 : ¬ 400 < l.length := by omega
  simp only [lexE, lexL, if_neg h4, e]
  cases (toks l).2.2 <;> simp
end Go.Proofs.YtnnjcedlomfhoaaGreatDoor
namespace Go.Proofs.YtnnjcedlomfhoaaGreatDoor
set_option linter.unusedVariables false
/-- The question of a text. -/
def textQ (l : List UInt8) : Option Q := if l.length ≤ 400 ∧ (sL l).2 = true then parseQ (sL l).1 else none
theorem textQ_len {l : List UInt8} {q : Q} (h : textQ l = some q) : l.length ≤ 400 ∧ (sL l).2 = true ∧ parseQ (sL l).1 = some q := by
  unfold textQ at h
  split at h
  · rename_i h1; exact ⟨h1.1, h1.2, h⟩
  · cases h
theorem textQ_mk {l : List UInt8} {q : Q} (h1 : l.length ≤ 400) (h2 : (sL l).2 = true) (h3 : parseQ (sL l).1 = some q) : textQ l = some q := by
  unfold textQ; rw [if_pos ⟨h1, h2⟩, h3]
/-- What is parsed without an error is a question, no deeper than may be. -/
theorem of_parsed {l : List UInt8} (h : parsedE l = 0) : ∃ q, textQ l = some q ∧ parsedL l = q.parts 0 ∧ q.depth ≤ 16 ∧ patsL (q.parts 0) ≤ 8 ∧ q.plain := by
  unfold parsedE at h
  split at h
  · rename_i h0
    have hl : l.length ≤ 400 := by
      rcases Nat.lt_or_ge 400 l.length with h1 | h1
      · rw [lexE, if_pos h1] at h0; cases h0
      · exact h1
    obtain ⟨h4, h5⟩ := lex_sL l hl
    have h2 := h4.1 h0
    unfold parseE at h
    cases hq : parseQ (lexL l) with
    | none => rw [hq] at h; simp at h
    | some q =>
      rw [hq] at h
      simp only [] at h
      have hd : ¬ 16 < q.depth := by intro hd; rw [if_pos hd] at h; simp at h
      rw [if_neg hd] at h
      have hp : ¬ 8 < patsL (q.parts 0) := by intro hp; rw [if_pos hp] at h; simp at h
      refine ⟨q, textQ_mk hl h2 (by rw [← h5 h2, parseQ_strip, hq]), ?_, by omega, by omega, parseQ_plain _ _ hq⟩
      unfold parsedL parseL
      rw [if_pos h0, hq]
      simp only [if_neg hd, if_neg hp]
  · rename_i h0
    exact absurd h h0
end Go.Proofs.YtnnjcedlomfhoaaGreatDoor
namespace Go.Proofs.YtnnjcedlomfhoaaGreatDoor
set_option linter.unusedVariables false
/-- What the terms of a question of the lexer's tokens are. -/
def okA (a : Ask) : Prop :=
  ((a.kind = 9 ∧ a.op = 1 ∧ a.isText = true) ∨ (4 ≤ a.kind ∧ a.kind ≤ 8 ∧ 1 ≤ a.op ∧ a.op ≤ 7)) ∧ a.a = -1 ∧ a.b = -1 ∧ (a.isText = true → a.n = 0) ∧ (a.isText = false → a.text = []) ∧ 0 ≤ a.n ∧ a.n < 1000000000000000 ∧ a.text.length ≤ 400
def okQ : Q → Prop
  | .term a => okA a
  | .neg q => okQ q
  | .two k x y => (k = 1 ∨ k = 2) ∧ okQ x ∧ okQ y
def TokOk (T : List Tok) : Prop := ∀ t ∈ T, (t.kind = 3 → t.n = 0) ∧ (t.kind = 2 → t.text = []) ∧ 0 ≤ t.n ∧ t.n < 1000000000000000 ∧ t.text.length ≤ 400
theorem kindOf_range (t : List UInt8) (h : kindOf t ≠ 0) : 4 ≤ kindOf t ∧ kindOf t ≤ 8 := by
  unfold kindOf at h ⊢
  split
  · decide
  split
  · decide
  split
  · decide
  split
  · decide
  split
  · decide
  · simp_all
theorem findK_range (t : List UInt8) : ∀ (l : List (List UInt8)) (k : Int), findK l t k ≠ 0 → k ≤ findK l t k ∧ findK l t k < k + l.length
  | [], k, h => absurd rfl h
  | m :: r, k, h => by
    rw [findK] at h ⊢
    split
    · simp; omega
    · rename_i h1
      rw [if_neg h1] at h
      have := findK_range t r (k + 1) h
      simp; omega
theorem opOf_range (t : Tok) (h : opOf t ≠ 0) : 1 ≤ opOf t ∧ opOf t ≤ 7 := by
  unfold opOf at h ⊢
  split
  · rename_i h1
    rw [if_pos h1] at h
    have := findK_range t.text cmpL 1 h
    have hl : cmpL.length = 7 := rfl
    omega
  · rename_i h1
    rw [if_neg h1] at h; exact absurd rfl h
theorem rterm_ok {T : List Tok} {a : Ask} (h : rterm T = some a) (ho : TokOk T) : okA a := by
  match T, h with
  | [t, v], h =>
    rw [rterm] at h
    by_cases c : isW t 1 hasW = true ∧ v.kind = 3
    · rw [if_pos c] at h
      cases h
      have hv := ho v (by simp)
      exact ⟨.inl ⟨rfl, rfl, rfl⟩, rfl, rfl, fun _ => rfl, (fun h => by cases h), by show (0 : Int) ≤ 0; omega, by show (0 : Int) < _; omega, hv.2.2.2.2⟩
    · rw [if_neg c] at h; cases h
  | [t, m, v], h =>
    rw [rterm] at h
    by_cases c : (if t.kind = 1 then kindOf t.text else 0) = 0 ∨ opOf m = 0 ∨ (v.kind ≠ 2 ∧ v.kind ≠ 3)
    · rw [if_pos c] at h; cases h
    · rw [if_neg c] at h
      have hv := ho v (by simp)
      have c0 : kindOf t.text ≠ 0 := by
        intro h
        refine c (Or.inl ?_)
        split
        · exact h
        · rfl
      have c2 : opOf m ≠ 0 := fun h => c (Or.inr (Or.inl h))
      have r1 := kindOf_range _ c0
      have r2 := opOf_range _ c2
      split at h
      · cases h
        exact ⟨.inr ⟨r1.1, r1.2, r2.1, r2.2⟩, rfl, rfl, fun _ => rfl, (fun h => by cases h), by show (0 : Int) ≤ 0; omega, by show (0 : Int) < _; omega, hv.2.2.2.2⟩
      · cases h
        exact ⟨.inr ⟨r1.1, r1.2, r2.1, r2.2⟩, rfl, rfl, (fun h => by cases h), fun _ => rfl, hv.2.2.1, hv.2.2.2.1, by show (0 : Nat) ≤ 400; omega⟩
theorem G_ok {k : Nat} {q : Q} {T : List Tok} (h : G k q T) : TokOk T → okQ q := by
  induction h with
  | or_ x y A B t _ _ _ ihx ihy => exact fun ho => ⟨.inl rfl, ihx fun t h => ho t (by simp [h]), ihy fun t h => ho t (by simp [h])⟩
  | up0 q T _ ih => exact ih
  | and_ x y A B t _ _ _ ihx ihy => exact fun ho => ⟨.inr rfl, ihx fun t h => ho t (by simp [h]), ihy fun t h => ho t (by simp [h])⟩
  | up1 q T _ ih => exact ih
  | not_ q T t _ _ ih => exact fun ho => ih fun t h => ho t (by simp [h])
  | par q T t u _ _ _ ih => exact fun ho => ih fun t h => ho t (by simp [h])
  | term a T h => exact fun ho => rterm_ok h ho
theorem tokL_ok (l : List UInt8) (p : Nat) (x : Tok × Nat) (h : tokL l p = some x) : (x.1.kind = 3 → x.1.n = 0) ∧ (x.1.kind = 2 → x.1.text = []) := by
  unfold tokL at h
  split at h
  · simp at h; subst h; simp
  · split at h
    · split at h
      · cases h
      · simp at h; subst h; simp
    · split at h
      · simp at h
        obtain ⟨a, b, hq, rfl⟩ := h
        simp
      · split at h
        · cases h
        · simp at h; subst h; simp
theorem toksF_ok (f p : Nat) (l : List UInt8) : OkT (toksF f p l).1 := by
  induction f generalizing p l with
  | zero => intro t ht; simp [toksF] at ht
  | succ f ih =>
    cases l with
    | nil => intro t ht; simp [toksF] at ht
    | cons c r =>
      rw [toksF]
      split
      · exact ih _ _
      · cases ht : tokL (c :: r) p with
        | none => intro t h; simp at h
        | some x =>
          obtain ⟨t, k⟩ := x
          intro t' h
          simp only [List.mem_cons] at h
          rcases h with rfl | h
          · exact tokL_ok _ _ _ ht
          · exact ih _ _ _ h
theorem lexL_ok (l : List UInt8) : OkT (lexL l) := by
  unfold lexL
  split
  · intro t h; simp at h
  · split
    · exact toksF_ok _ _ _
    · intro t h; simp at h
theorem rterm_len {T : List Tok} {a : Ask} (h : rterm T = some a) : 1 ≤ T.length := by
  match T, h with
  | [_, _], _ => simp
  | [_, _, _], _ => simp
theorem G_size {k : Nat} {q : Q} {T : List Tok} (h : G k q T) : q.size ≤ T.length := by
  induction h with
  | or_ x y A B t _ _ _ ihx ihy => simp [Q.size]; omega
  | up0 q T _ ih => exact ih
  | and_ x y A B t _ _ _ ihx ihy => simp [Q.size]; omega
  | up1 q T _ ih => exact ih
  | not_ q T t _ _ ih => simp [Q.size]; omega
  | par q T t u _ _ _ ih => simp; omega
  | term a T h => exact rterm_len h
theorem takeWhile_digits (p : UInt8 → Bool) : ∀ l : List UInt8, ∀ c ∈ l.takeWhile p, p c = true
  | [], c, h => by simp at h
  | a :: l, c, h => by
    rw [List.takeWhile_cons] at h
    split at h
    · rename_i ha
      rcases List.mem_cons.1 h with rfl | h
      · exact ha
      · exact takeWhile_digits p l c h
    · simp at h
theorem tokL_good (l : List UInt8) (p : Nat) (x : Tok × Nat) (h : tokL l p = some x) : 0 ≤ x.1.n ∧ x.1.n < 1000000000000000 := by
  unfold tokL at h
  split at h
  · cases h; exact ⟨by show (0 : Int) ≤ 0; omega, by show (0 : Int) < _; omega⟩
  · split at h
    · split at h
      · cases h
      · rename_i hb
        cases h
        have hd := takeWhile_digits digitB l
        generalize l.takeWhile digitB = d at *
        have h15 : d.length ≤ 15 := by
          unfold numBad at hb
          simp at hb
          omega
        have := numOf_bounds d hd d.length (Nat.le_refl _)
        rw [List.take_length] at this
        have h2 : (10 : Int) ^ d.length ≤ 10 ^ 15 := by
          have : (10 : Nat) ^ d.length ≤ 10 ^ 15 := Nat.pow_le_pow_right (by omega) h15
          exact_mod_cast this
        have h3 : (10 : Int) ^ 15 = 1000000000000000 := by decide
        show 0 ≤ numOf d ∧ numOf d < _
        omega
    · split at h
      · obtain ⟨y, _, e⟩ := Option.map_eq_some_iff.1 h
        rw [← e]
        exact ⟨by show (0 : Int) ≤ 0; omega, by show (0 : Int) < _; omega⟩
      · split at h
        · cases h
        · cases h; exact ⟨by show (0 : Int) ≤ 0; omega, by show (0 : Int) < _; omega⟩
theorem toksF_good (f p : Nat) (l : List UInt8) : ∀ t ∈ (toksF f p l).1, 0 ≤ t.n ∧ t.n < 1000000000000000 := by
  induction f generalizing p l with
  | zero => intro t ht; simp [toksF] at ht
  | succ f ih =>
    cases l with
    | nil => intro t ht; simp [toksF] at ht
    | cons c r =>
      rw [toksF]
      split
      · exact ih _ _
      · cases ht : tokL (c :: r) p with
        | none => intro t h; simp at h
        | some x =>
          obtain ⟨t, k⟩ := x
          intro t' h
          simp only [List.mem_cons] at h
          rcases h with rfl | h
          · exact tokL_good _ _ _ ht
          · exact ih _ _ _ h
theorem sL_ok (l : List UInt8) (hl : l.length ≤ 400) : TokOk (sL l).1 := by
  intro t ht
  have ht' : t ∈ (toksF l.length 0 l).1.map strip := ht
  obtain ⟨u, hu, rfl⟩ := List.mem_map.1 ht'
  have h1 := toksF_ok _ _ _ u hu
  have h2 := toksF_good _ _ _ u hu
  have h3 := (toksF_text l.length 0 l).2 u hu
  exact ⟨h1.1, h1.2, h2.1, h2.2, by show u.text.length ≤ 400; omega⟩
theorem TokOk.okT {T : List Tok} (h : TokOk T) : OkT T := fun t ht => ⟨(h t ht).1, (h t ht).2.1⟩
theorem textQ_ok {l : List UInt8} {q : Q} (h : textQ l = some q) : okQ q := by
  obtain ⟨h1, h2, h3⟩ := textQ_len h
  have ho := sL_ok l h1
  exact G_ok ((parseQ_iff ho.okT q).1 h3) ho
theorem textQ_size {l : List UInt8} {q : Q} (h : textQ l = some q) : q.size ≤ 400 := by
  obtain ⟨h1, h2, h3⟩ := textQ_len h
  have ho := sL_ok l h1
  have h4 := G_size ((parseQ_iff ho.okT q).1 h3)
  have h5 : (sL l).1.length = (toksF l.length 0 l).1.length := by show ((toksF l.length 0 l).1.map strip).length = _; simp
  have := (toksF_text l.length 0 l).1
  omega
end Go.Proofs.YtnnjcedlomfhoaaGreatDoor
namespace Go.Proofs.YtnnjcedlomfhoaaGreatDoor
set_option linter.unusedVariables false
def jointB (a : Ask) : Bool := decide (a.kind = 1) || decide (a.kind = 2)
def belowB (n i : Int) : Bool := decide (0 ≤ n) && decide (n < i)
/-- Is a part as a list's i-th one must be? -/
def shapedB (a : Ask) (i : Int) : Bool :=
  if jointB a = true then belowB a.a i && belowB a.b i && decide (a.a ≠ a.b)
  else if a.kind = 3 then belowB a.a i && decide (a.b = -1)
  else if a.kind = 9 then decide (a.a = -1) && decide (a.b = -1) && decide (a.op = 1) && a.isText
  else decide (4 ≤ a.kind) && decide (a.kind ≤ 8) && decide (a.a = -1) && decide (a.b = -1) && decide (1 ≤ a.op) && decide (a.op ≤ 7)
/-- How often a place is named. -/
def usedC (l : List Ask) (k : Int) : Nat := l.countP (fun a => decide (a.a = k)) + l.countP (fun a => decide (a.b = k))
def shapedL : List Ask → Int → Bool
  | [], _ => true
  | a :: l, i => shapedB a i && shapedL l (i + 1)
def partsB (l : List Ask) : Bool := shapedL l 0 && decide (0 < l.length) && (List.range (l.length - 1)).all fun k => decide (usedC l (k : Int) = 1)
theorem usedC_append (l r : List Ask) (k : Int) : usedC (l ++ r) k = usedC l k + usedC r k := by
  unfold usedC; rw [List.countP_append, List.countP_append]; omega
theorem shapedL_append (l r : List Ask) : ∀ i, shapedL (l ++ r) i = (shapedL l i && shapedL r (i + l.length)) := by
  induction l with
  | nil => intro i; simp [shapedL]
  | cons a l ih =>
    intro i
    rw [List.cons_append, shapedL, ih, shapedL, Bool.and_assoc, List.length_cons]
    congr 3
    push_cast; omega
theorem usedC_one (a : Ask) (k : Int) : usedC [a] k = (if a.a = k then 1 else 0) + (if a.b = k then 1 else 0) := by
  unfold usedC
  simp only [List.countP_cons, List.countP_nil, decide_eq_true_eq, Nat.zero_add]
/-- The parts of a question: each but the last is named once. -/
theorem parts_used : ∀ (q : Q) (p : Nat) (k : Int), q.plain → 0 ≤ k → usedC (q.parts p) k = if (p : Int) ≤ k ∧ k < (p : Int) + (q.size : Int) - 1 then 1 else 0
  | .term a, p, k, h, hk => by
    have hs : ((Q.term a).size : Int) = 1 := rfl
    rw [Q.parts, usedC_one, h.1, h.2, if_neg (by omega), if_neg (by omega)]
  | .neg q, p, k, h, hk => by
    have ih := parts_used q p k h hk
    have hp := q.size_pos
    have hs : ((Q.neg q).size : Int) = (q.size : Int) + 1 := by simp [Q.size]
    rw [Q.parts, usedC_append, ih, usedC_one]
    dsimp only
    rw [if_neg (show ¬ (-1 : Int) = k by omega)]
    by_cases h1 : (p : Int) + (q.size : Int) - 1 = k
    · rw [if_pos h1, if_neg (by omega), if_pos (by omega)]
    · rw [if_neg h1]
      by_cases h2 : (p : Int) ≤ k ∧ k < (p : Int) + (q.size : Int) - 1
      · rw [if_pos h2, if_pos (by omega)]
      · rw [if_neg h2, if_neg (by omega)]
  | .two kk x y, p, k, h, hk => by
    have ihx := parts_used x p k h.1 hk
    have ihy := parts_used y (p + x.size) k h.2 hk
    have hx := x.size_pos
    have hy := y.size_pos
    have hs : ((Q.two kk x y).size : Int) = (x.size : Int) + (y.size : Int) + 1 := by simp [Q.size]
    have hpx : ((p + x.size : Nat) : Int) = (p : Int) + (x.size : Int) := by push_cast; rfl
    rw [Q.parts, usedC_append, usedC_append, ihx, ihy, usedC_one]
    dsimp only
    by_cases h1 : (p : Int) + (x.size : Int) - 1 = k
    · rw [if_neg (show ¬ ((p : Int) ≤ k ∧ k < (p : Int) + (x.size : Int) - 1) by omega), if_neg (show ¬ (((p + x.size : Nat) : Int) ≤ k ∧ k < ((p + x.size : Nat) : Int) + (y.size : Int) - 1) by omega), if_pos h1,
        if_neg (show ¬ (p : Int) + (x.size : Int) + (y.size : Int) - 1 = k by omega), if_pos (by omega)]
    · rw [if_neg h1]
      by_cases h2 : (p : Int) + (x.size : Int) + (y.size : Int) - 1 = k
      · rw [if_pos h2, if_neg (show ¬ ((p : Int) ≤ k ∧ k < (p : Int) + (x.size : Int) - 1) by omega), if_neg (show ¬ (((p + x.size : Nat) : Int) ≤ k ∧ k < ((p + x.size : Nat) : Int) + (y.size : Int) - 1) by omega), if_pos (by omega)]
      · rw [if_neg h2]
        by_cases h3 : (p : Int) ≤ k ∧ k < (p : Int) + (x.size : Int) - 1
        · rw [if_pos h3, if_neg (by omega), if_pos (by omega)]
        · rw [if_neg h3]
          by_cases h4 : ((p + x.size : Nat) : Int) ≤ k ∧ k < ((p + x.size : Nat) : Int) + (y.size : Int) - 1
          · rw [if_pos h4, if_pos (by omega)]
          · rw [if_neg h4, if_neg (by omega)]
theorem parts_shaped : ∀ (q : Q) (p : Nat), okQ q → shapedL (q.parts p) (p : Int) = true
  | .term a, p, h => by
    obtain ⟨h1, h2, h3, -⟩ := h
    rw [Q.parts, shapedL, shapedL, Bool.and_true, shapedB, jointB]
    rcases h1 with ⟨h4, h5, h6⟩ | ⟨h4, h5, h6, h7⟩
    · rw [if_neg (by simp; omega), if_neg (by omega), if_pos h4]
      simp [h2, h3, h5, h6]
    · rw [if_neg (by simp; omega), if_neg (by omega), if_neg (by omega)]
      simp [h2, h3, h4, h5, h6, h7]
  | .neg q, p, h => by
    have ih := parts_shaped q p h
    have hp := q.size_pos
    rw [Q.parts, shapedL_append, ih, Q.parts_len, shapedL, shapedL, shapedB, if_neg (by simp [jointB]), if_pos rfl]
    simp [belowB]; omega
  | .two k x y, p, h => by
    have ihx := parts_shaped x p h.2.1
    have ihy := parts_shaped y (p + x.size) h.2.2
    have hx := x.size_pos
    have hy := y.size_pos
    rw [Q.parts, shapedL_append, ihx, Q.parts_len, shapedL_append, show ((p : Int) + (x.size : Int)) = ((p + x.size : Nat) : Int) by push_cast; rfl, ihy, Q.parts_len, shapedL, shapedL, shapedB, if_pos (by
      rcases h.1 with e | e <;> simp [jointB, e])]
    simp [belowB]; omega
theorem parts_ok (q : Q) (h : okQ q) (hp : q.plain) : partsB (q.parts 0) = true := by
  unfold partsB
  have h1 : shapedL (q.parts 0) 0 = true := parts_shaped q 0 h
  have h2 := q.size_pos
  rw [h1, Q.parts_len]
  simp only [Bool.true_and, Bool.and_eq_true, decide_eq_true_eq, List.all_eq_true, List.mem_range]
  refine ⟨by omega, fun k hk => ?_⟩
  rw [parts_used q 0 k hp (by omega), if_pos (by omega)]
def typedB (a : Ask) : Bool :=
  if a.kind = 4 then a.isText && (decide (a.op = 1) || decide (a.op = 2) || decide (a.op = 7))
  else if a.kind = 5 then !a.isText && decide (a.op ≠ 7)
  else if a.kind = 6 then decide (a.op ≠ 7)
  else if a.kind = 7 ∨ a.kind = 8 then !a.isText && (decide (a.op = 1) || decide (a.op = 2))
  else true
/-- What a part is told by: the part, whether it is right. G: is a pattern one? D: a date's number, if it is one. -/
def toldR (G : List UInt8 → Bool) (D : List UInt8 → Option Int) (a : Ask) : Ask × Bool :=
  if a.kind = 4 ∧ a.op = 7 then (a, G a.text)
  else if a.kind = 6 ∧ a.isText = true then (⟨a.kind, a.op, a.a, a.b, (D a.text).getD 0, [], false⟩, (D a.text).isSome)
  else if a.kind = 9 then (a, decide (1 ≤ a.text.length) && decide (a.text.length ≤ 64))
  else (a, true)
/-- The first error of parts. -/
def errsL (G : List UInt8 → Bool) (D : List UInt8 → Option Int) : List Ask → Int
  | [] => 0
  | a :: l => if typedB a = false then 16 else if (toldR G D a).2 = false then 4 else errsL G D l
def turnedI (o : Int) : Int := if o = 1 then 2 else if o = 2 then 1 else if o = 3 then 6 else if o = 4 then 5 else if o = 5 then 4 else if o = 6 then 3 else if o = 7 then 8 else if o = 8 then 7 else 0
/-- A question laid without nots. -/
def layQ (T : Ask → Ask) : Q → Bool → Q
  | .term a, t => .term (if t = true then ⟨(T a).kind, turnedI (T a).op, (T a).a, (T a).b, (T a).n, (T a).text, (T a).isText⟩ else T a)
  | .neg q, t => layQ T q (!t)
  | .two k x y, t => .two (if t = true then 3 - k else k) (layQ T x t) (layQ T y t)
def normL (G : List UInt8 → Bool) (D : List UInt8 → Option Int) (q : Q) : List Ask := (layQ (fun a => (toldR G D a).1) q false).parts 0
theorem errsL_append (G : List UInt8 → Bool) (D : List UInt8 → Option Int) (l r : List Ask) : errsL G D (l ++ r) = if errsL G D l = 0 then errsL G D r else errsL G D l := by
  induction l with
  | nil => rfl
  | cons a l ih =>
    rw [List.cons_append, errsL, ih, errsL]
    split
    · rfl
    · split
      · rfl
      · rfl
end Go.Proofs.YtnnjcedlomfhoaaGreatDoor
namespace Go.Proofs.YtnnjcedlomfhoaaGreatDoor
set_option linter.unusedVariables false
def repF (c : UInt8) (new : List UInt8) (x : UInt8) : List UInt8 := if x = c then new else [x]
theorem flatMap_none (c : UInt8) (new : List UInt8) : ∀ s : List UInt8, s.count c = 0 → s.flatMap (repF c new) = s
  | [], _ => rfl
  | b :: l, h => by
    by_cases hb : b = c
    · subst hb; simp at h
    · rw [List.count_cons_of_ne hb] at h
      rw [List.flatMap_cons, flatMap_none c new l h, repF, if_neg hb]; rfl
theorem replaceK_one (c : UInt8) (new : List UInt8) : ∀ (s : List UInt8) (k : Nat), s.count c ≤ k → Lib.replaceK [c] new k s = s.flatMap (repF c new)
  | s, 0, h => by rw [flatMap_none c new s (by omega)]; rfl
  | [], k + 1, _ => by rw [Lib.replaceK, Lib.index_one]; rfl
  | b :: l, k + 1, h => by
    by_cases hb : b = c
    · subst hb
      have hi : Lib.index (b :: l) [b] = ((0 : Nat) : Int) := by rw [Lib.index_one, Lib.indexByte]; simp
      rw [Lib.replaceK_hit _ _ _ _ 0 hi, List.flatMap_cons, repF, if_pos rfl]
      have hk : l.count b ≤ k := by rw [List.count_cons_self] at h; omega
      have := replaceK_one b new l k hk
      simpa using this
    · rw [List.count_cons_of_ne hb] at h
      have ih := replaceK_one c new l (k + 1) h
      rw [List.flatMap_cons, repF, if_neg hb, ← ih]
      have hb' : (b == c) = false := by simpa using hb
      rcases Lib.index_spec l [c] with ⟨hm, _⟩ | ⟨i, hi, _⟩
      · have h1 : Lib.index (b :: l) [c] = -1 := by
          rw [Lib.index_one, Lib.indexByte, hb', ← Lib.index_one, hm]; rfl
        rw [Lib.replaceK, Lib.replaceK, h1, hm]; rfl
      · have h1 : Lib.index (b :: l) [c] = ((i + 1 : Nat) : Int) := by
          rw [Lib.index_one, Lib.indexByte, hb', ← Lib.index_one, hi]
          have : ((i : Int) == -1) = false := by rw [beq_eq_false_iff_ne]; omega
          simp [this]
        rw [Lib.replaceK_hit _ _ _ _ _ h1, Lib.replaceK_hit _ _ _ _ _ hi]
        simp
theorem replaceAll_one (c : UInt8) (new s : List UInt8) (h : ([c] == new) = false) : Lib.replaceAll s [c] new = s.flatMap (repF c new) := by
  rw [Lib.replaceAll, Lib.replace, if_neg (by rw [h]; exact Bool.false_ne_true)]
  refine replaceK_one c new s _ ?_
  rw [Lib.replaceNum, if_pos (Or.inl (by decide)), Lib.count_one]
  exact Nat.le_refl _
end Go.Proofs.YtnnjcedlomfhoaaGreatDoor
namespace Go.Proofs.YtnnjcedlomfhoaaGreatDoor
open Go.RowKit
set_option linter.unusedVariables false
theorem rep_len (c : UInt8) (new : List UInt8) (h : new.length ≤ 2) (s : List UInt8) : (s.flatMap (repF c new)).length ≤ 2 * s.length := by
  induction s with
  | nil => simp
  | cons b r ih =>
    have : (repF c new b).length ≤ 2 := by unfold repF; split <;> simp [h]
    rw [List.flatMap_cons, List.length_append, List.length_cons]; omega
end Go.Proofs.YtnnjcedlomfhoaaGreatDoor
namespace Go.Proofs.YtnnjcedlomfhoaaGreatDoor
open Go.RowKit
set_option linter.unusedVariables false
def RS (w : World) (B : Nat) (A : Option Addr) (n : Nat) (l : List ByteArray) : Prop := Reads w B 1 A n (l.map Value.string)
section
variable {w w' : World} {B B' n : Nat} {A : Option Addr} {l : List ByteArray}
theorem RS.len (h : RS w B A n l) : l.length = n := by have := h.1; simpa using this
theorem RS.elem (h : RS w B A n l) {k : Nat} (hk : k < n) (hl : k < l.length) : ∃ ad, A = some ad ∧ ad.block < B ∧ w.cell? (ad.add k) = some (.string l[k]) := by
  obtain ⟨ad, u, e, hb, hx, hc⟩ := Reads.at_ h hk
  rw [List.getElem?_map, List.getElem?_eq_getElem hl] at hx
  injection hx with hx
  subst hx
  exact ⟨ad, e, hb, hc⟩
theorem RS.more {B' : Nat} (h : RS w B A n l) (hB : B ≤ B') : RS w B' A n l := Reads.more h hB
theorem RS.below (h : RS w B A n l) (hb : Below B w w') : RS w' B A n l := Reads.below h hb
end
def textsB (ts : List ByteArray) : List UInt8 := ts.flatMap fun t => textB t.data.toList
theorem textsB_snoc (ts : List ByteArray) (k : Nat) (h : k < ts.length) : textsB (ts.take (k + 1)) = textsB (ts.take k) ++ textB ts[k].data.toList := by
  unfold textsB
  rw [List.take_succ_eq_append_getElem h, List.flatMap_append]
  simp
theorem txt_rep (s : List UInt8) : s.flatMap (repF 0 [0, 255]) = s.flatMap txtF := rfl
theorem text_len (s : List UInt8) : (textB s).length ≤ 2 * s.length + 2 := by
  have := rep_len 0 [0, 255] (by decide) s
  rw [txt_rep] at this
  rw [textB, List.length_append]; simp only [List.length_cons, List.length_nil]; omega
section
variable {ops : Array Oper} {rest : List Oper} {o : Oper} {a : Act} {Q : Exit → Act → World → Prop}
/-- append(v, s...), a string. -/
theorem wpList_app_s {w : World} (hgd : o.guard = none) (s x : Operand) (ho : o.op = .call { callee := .builtin .append, args := #[s, x], argTypes := #[32, 9] })
    (base : Nat) (v : Value) (n : Nat) (l : List UInt8) (hown : OB w base v n l) (hs : a.eval s = v) (z : ByteArray) (hx : a.eval x = .string z)
    (hlen : n + z.size ≤ 140737488351232) (hbase : base ≤ w.heap.size)
    (h : ∀ v' w', OB w' base v' (n + z.size) (l ++ z.data.toList) → Below base w w' → wpList Tryz.prog ops Q rest (a.put o.dst v') w') :
    wpList Tryz.prog ops Q (o :: rest) a w := by
  obtain ⟨i0, hi0, hz0, hz1, hz2⟩ := info_parts byte_info
  refine Lib.wpList_append_own_string w hgd s x _ _ ho base 5 i0 Tryz.underlying32 Tryz.underlying9 hi0 hz0 hz1 hz2 v n (bv l) hs hown z hx
    (by simp only [maxLen]; omega) (by omega) hbase fun v' w' h1 h2 h3 => ?_
  rw [show Lib.strCells z = bv z.data.toList from rfl, ← bv_append] at h1
  exact h v' w' h1 ((Below.refl _ _).grown h2 hbase fun k hk => hown.block_lt k hk)
end
set_option maxHeartbeats 1000000 in
theorem text_any2 (A B : Option Addr) (n r c d : Nat) (xs : List UInt8) (ts : List ByteArray) (m : Int) (w : World) (ha : RB w w.heap.size A n xs) (hb : RS w w.heap.size B r ts)
    (hn : n ≤ 100000) (hr : r ≤ 1000) (hs : ∀ t ∈ ts, t.size ≤ 1000) (hg : 3 < w.heap.size) (hm : w.cell? ⟨3, 0, none⟩ = some (.int .i64 m)) :
    Calls Tryz.prog 60 #[.slice A n c, .slice B r d] w (RetB w (xs ++ textsB ts)) := by
  have hnl := hide ha.len
  have hzl := hide hb.len
  have HA := hide ha
  have HB := hide hb
  clear ha hb
  go_enter Tryz.func60, Tryz.ntmps60
  go_wp2_with fail
  refine (bclone_any _ _ _ _ _ HA.out (by omega)).mono ?_
  rintro e w1 ⟨v1, rfl, hown1, hb1⟩
  rw [hnl.out] at hown1
  replace hown1 := hide hown1
  go_wp2_with fail
  go_loopw [5, 12] (fun v i wr => ∃ k : Nat, k ≤ r ∧ i = .int .i64 (k : Int) ∧ Hid (OB wr w.heap.size v (xs ++ textsB (ts.take k)).length (xs ++ textsB (ts.take k)) ∧ (xs ++ textsB (ts.take k)).length ≤ n + 2002 * k) ∧ Below w.heap.size w wr) (fun _ i _ => r - (intOf i).toNat)
  case atStart =>
    refine ⟨0, by omega, rfl, ?_, hb1⟩
    have : xs ++ textsB (ts.take 0) = xs := by simp [textsB]
    rw [this, hnl.out]
    exact ⟨hown1.out, by omega⟩
  case round =>
    obtain ⟨k, hk, rfl, HO, hbl⟩ := hrel
    by_cases h1 : k < r
    · have hz1 : k < ts.length := by have := hzl.out; omega
      obtain ⟨bd, rfl, hbb, cb⟩ := (HB.out.below hbl).elem h1 hz1
      have hsk := hs ts[k] (List.getElem_mem _)
      have HS := hide (textsB_snoc ts k hz1)
      have hml : wr.cell? ⟨3, 0, none⟩ = some (.int .i64 m) := (hbl.cell (p := ⟨3, 0, none⟩) hg).trans hm
      have hsz := hbl.size
      generalize ts[k] = tk at *
      obtain ⟨HO1, HO2⟩ := HO.out
      replace HO1 := hide HO1
      clear HO
      have hc1 : Lib.countB tk ⟨#[0]⟩ ≤ tk.size + 1 := by rw [← data_len]; exact Lib.count_le _ _
      have hrp := hide ((replaceAll_one 0 [0, 255] tk.data.toList rfl).trans (txt_rep tk.data.toList))
      go_wp2_with fail
      refine (Tryz.strings_ReplaceAll tk ⟨#[0]⟩ ⟨#[0, 255]⟩ m wr (by omega) hml (by decide) (by show tk.size + _ * 2 ≤ _; omega)).mono ?_
      rintro e w2 ⟨rfl, hb2⟩
      rw [show (ByteArray.mk (Lib.replaceAll tk.data.toList (ByteArray.mk #[0]).data.toList (ByteArray.mk #[0, 255]).data.toList).toArray) = str (tk.data.toList.flatMap txtF) from congrArg str hrp.out]
      have hzr : (str (tk.data.toList.flatMap txtF)).size ≤ 2000 := by
        rw [str_size]
        have := rep_len 0 [0, 255] (by decide) tk.data.toList
        rw [txt_rep] at this
        have := data_len tk
        omega
      have HO3 := HO1.out.below hb2 (Nat.le_refl _)
      have hbl2 := hbl.trans (hb2.mono hsz)
      have hsz2 := hbl2.size
      have hstr := hide (str_toList (tk.data.toList.flatMap txtF))
      have hcat : Hid (tk.data.toList.flatMap txtF ++ [0, 1] = textB tk.data.toList) := rfl
      clear HO1 hrp hc1 hb2 hbl hml
      have hpl : (xs ++ textsB (ts.take k)).length ≤ 2102000 := by omega
      generalize hP : xs ++ textsB (ts.take k) = P at *
      replace hP := hide hP
      generalize str (tk.data.toList.flatMap txtF) = z at *
      replace HO3 := hide HO3
      go_wp2_with (at_builtin; refine wpList_app_s ?_ (.tmp 16) (.tmp 18) ?_ w.heap.size u5 P.length P HO3.out ?_ z ?_ ?_ ?_ ?_)
      rfl
      rfl
      rfl
      rfl
      omega
      exact hsz2
      intro v4 w4 ho4 hb4
      have hbl4 := hbl2.trans hb4
      have hsz4 := hbl4.size
      replace ho4 := hide ho4
      clear HO3 hbl2 hb4
      go_wp2_with (at_builtin; refine wpList_app_s ?_ (.tmp 20) (.const (.string ⟨#[0, 1]⟩)) ?_ w.heap.size v4 (P.length + z.size) (P ++ z.data.toList) ho4.out ?_ ⟨#[0, 1]⟩ ?_ ?_ ?_ ?_)
      rfl
      rfl
      rfl
      rfl
      show P.length + z.size + 2 ≤ _; omega
      exact hsz4
      intro v5 w5 ho5 hb5
      have hbl5 := hbl4.trans hb5
      rw [hstr.out] at ho5
      try simp only [List.append_assoc] at ho5
      rw [hcat.out, ← hP.out, List.append_assoc, ← HS.out] at ho5
      replace ho5 := hide ho5
      clear ho4 hbl4 hb5
      go_wp2_with fail
      go_roundw
      case rel =>
        have hlen5 := ho5.out.len
        refine ⟨k + 1, by omega, by go_num, ⟨by rw [hlen5]; exact ho5.out, ?_⟩, hbl5⟩
        have h5 := congrArg List.length HS.out
        have h6 := congrArg List.length hP.out
        have h7 := text_len tk.data.toList
        have h8 := data_len tk
        simp only [List.length_append] at h5 h6 ⊢
        omega
      case measure => simp [intOf]; omega
    · have hkr : k = r := by omega
      subst hkr
      have hall : ts.take k = ts := by rw [List.take_of_length_le (by have := hzl.out; omega)]
      rw [hall] at HO
      clear hall
      go_wp2_with fail
      go_ret
      exact RetB.mk HO.out.1 hbl
end Go.Proofs.YtnnjcedlomfhoaaGreatDoor
