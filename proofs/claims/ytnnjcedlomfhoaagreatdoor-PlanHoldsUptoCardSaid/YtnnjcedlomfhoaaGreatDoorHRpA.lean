/-
  The reference's parser: its state in memory; contracts of is, bad, put, last.
-/
import Derived.Test.YtnnjcedlomfhoaaGreatDoorHB
import Derived.Test.YtnnjcedlomfhoaaGreatDoorHA
namespace Go.Proofs.YtnnjcedlomfhoaaGreatDoor
open Go.RowKit
set_option linter.unusedVariables false
/-- The reference's state stands behind a pointer to block b: all tokens, parts so far, whether all was right. -/
def RSt (w : World) (b : Nat) (v : Value) (T : List Tok) (out : List Ask) (well : Bool) : Prop :=
  ∃ A c, Blk w b 72 #[.slice A T.length c, v, .bool well] ∧ RT w b A T.length T ∧ T.length ≤ c ∧ c ≤ maxLen ∧ OA w (b + 1) v out.length out
section
variable {w w' : World} {b : Nat} {v : Value} {T : List Tok} {out : List Ask} {well : Bool}
theorem RSt.lt (h : RSt w b v T out well) : b < w.heap.size := by
  obtain ⟨A, c, hB, _⟩ := h
  exact hB.lt
theorem RSt.newer (h : RSt w b v T out well) (hb : Below w.heap.size w w') : RSt w' b v T out well := by
  have hlt := h.lt
  obtain ⟨A, c, hB, hT, hc1, hc2, hO⟩ := h
  exact ⟨A, c, hB.below hb hlt, hT.below (hb.mono (by omega)), hc1, hc2, hO.below hb (Nat.le_refl _)⟩
theorem RSt.mark (h : RSt w b v T out well) (m : Bool) : RSt (w.setCell ⟨b, 2, none⟩ (.bool m)) b v T out m := by
  obtain ⟨A, c, hB, hT, hc1, hc2, hO⟩ := h
  exact ⟨A, c, hB.set_ 2 _, Reads.setCell hT (Nat.le_refl _) _, hc1, hc2, hO.setOther (Nat.lt_succ_self _) _⟩
theorem RSt.well_ (h : RSt w b v T out well) : w.cell? ⟨b, 2, none⟩ = some (.bool well) ∧ w.frozen? ⟨b, 2, none⟩ = false := by
  obtain ⟨A, c, hB, _⟩ := h
  exact ⟨hB.cell 2, hB.frozen 2⟩
/-- A token lies at an address. -/
def TokAt (w : World) (p : Addr) (x : Tok) : Prop :=
  w.cell? p = some (.int .i64 x.kind) ∧ w.cell? ⟨p.block, p.off + 1, none⟩ = some (.string (str x.text)) ∧ w.cell? ⟨p.block, p.off + 2, none⟩ = some (.int .i64 x.n) ∧ w.cell? ⟨p.block, p.off + 3, none⟩ = some (.int .i64 (x.pos : Int))
theorem add_pos' (p : Addr) (j : Nat) (h : j ≠ 0) : p.add j = ⟨p.block, p.off + j, none⟩ := by
  unfold Addr.add; rw [if_neg h]
theorem RSt.toks (h : RSt w b v T out well) : ∃ A c, w.cell? ⟨b, 0, none⟩ = some (.slice A T.length c) ∧ ∀ k (hk : k < T.length), ∃ ad, A = some ad ∧ (ad.add (k * 4)).block < b ∧ TokAt w (ad.add (k * 4)) T[k] := by
  obtain ⟨A, c, hB, hT, hc1, hc2, hO⟩ := h
  refine ⟨A, c, hB.cell 0, fun k hk => ?_⟩
  obtain ⟨ad, e, hb, h0, h1, h2, h3⟩ := hT.elem hk hk
  rw [← add_of_add, add_pos' _ _ (by decide)] at h1 h2 h3
  exact ⟨ad, e, by rw [block_of_add]; exact hb, h0, h1, h2, h3⟩
end
set_option maxRecDepth 100000 in
theorem ris_any (w : World) (t : Tok) (k : Int) (s : ByteArray) :
    Calls Tryz.prog 46 #[tokV t, .int .i64 k, .string s] w fun e w' => e = .returned (.bool (isW t k s.data.toList)) ∧ Below w.heap.size w w' := by
  unfold tokV
  by_cases e1 : t.kind = k
  · have n1 : (t.kind == k) = true := by simp [e1]
    by_cases e2 : t.text = s.data.toList
    · have hr : Hid (isW t k s.data.toList = true) := isW_both e1 e2
      have n2 := str_eqq _ _ e2
      rw [hr.out]
      clear e1 e2
      go_enter Tryz.func46, Tryz.ntmps46
      go_wp2_with fail
      go_ret
      exact ⟨rfl, (Below.refl _ _).alloc (Nat.le_refl _) _⟩
    · have hr : Hid (isW t k s.data.toList = false) := isW_text e2
      have n2 := str_neq _ _ e2
      rw [hr.out]
      clear e1 e2
      go_enter Tryz.func46, Tryz.ntmps46
      go_wp2_with fail
      go_ret
      exact ⟨rfl, (Below.refl _ _).alloc (Nat.le_refl _) _⟩
  · have n1 : (t.kind == k) = false := by simp [e1]
    have hr : Hid (isW t k s.data.toList = false) := isW_kind e1
    rw [hr.out]
    clear e1
    go_enter Tryz.func46, Tryz.ntmps46
    go_wp2_with fail
    go_ret
    exact ⟨rfl, (Below.refl _ _).alloc (Nat.le_refl _) _⟩
set_option maxRecDepth 100000 in
theorem bad_any (w : World) (b : Nat) (v : Value) (T : List Tok) (out : List Ask) (well : Bool) (h : RSt w b v T out well) :
    Calls Tryz.prog 47 #[.pointer (some ⟨b, 0, none⟩)] w fun e w' => e = .returned (.int .i64 (-1)) ∧ RSt w' b v T out false ∧ Below b w w' := by
  obtain ⟨qw, fw⟩ := h.well_
  replace h := hide h
  go_enter Tryz.func47, Tryz.ntmps47
  go_wp2_with fail
  go_ret
  exact ⟨rfl, h.out.mark _, below_set (Below.refl _ _) (Nat.le_refl _) _⟩
set_option maxRecDepth 100000 in
set_option maxHeartbeats 2000000 in
theorem rput_any (w : World) (b : Nat) (v : Value) (T : List Tok) (out : List Ask) (well : Bool) (x : Ask) (h : RSt w b v T out well) (hl : out.length ≤ 100000) :
    Calls Tryz.prog 49 #[.pointer (some ⟨b, 0, none⟩), .agg #[.int .i64 x.kind, .int .i64 x.op, .int .i64 x.a, .int .i64 x.b, .int .i64 x.n, .string (str x.text), .bool x.isText]] w
      fun e w' => e = .returned (.int .i64 (out.length : Int)) ∧ (∃ v', RSt w' b v' T (out ++ [x]) well) ∧ Below b w w' := by
  have hlt := h.lt
  obtain ⟨A, c, hB, hT, hc1, hc2, hO⟩ := h
  have c1 := hB.cell 1
  have f1 := hB.frozen 1
  replace hB := hide hB
  replace hO := hide hO
  replace hT := hide hT
  go_enter Tryz.func49, Tryz.ntmps49
  have hOx := hide (hO.out.alloc (.cells #[.int .i64 x.kind, .int .i64 x.op, .int .i64 x.a, .int .i64 x.b, .int .i64 x.n, .string (str x.text), .bool x.isText] 54))
  go_wp2_with fail
  have hbs : b + 1 ≤ ((w.alloc (.cells #[.int .i64 x.kind, .int .i64 x.op, .int .i64 x.a, .int .i64 x.b, .int .i64 x.n, .string (str x.text), .bool x.isText] 54)).alloc (.cells #[.int .i64 x.kind, .int .i64 x.op, .int .i64 x.a, .int .i64 x.b, .int .i64 x.n, .string (str x.text), .bool x.isText] 54)).heap.size := by simp; omega
  have hln : out.length + 1 ≤ 1000000000 := by omega
  have hcb : Hid (Blk ((w.alloc (.cells #[.int .i64 x.kind, .int .i64 x.op, .int .i64 x.a, .int .i64 x.b, .int .i64 x.n, .string (str x.text), .bool x.isText] 54)).alloc (.cells #[.int .i64 x.kind, .int .i64 x.op, .int .i64 x.a, .int .i64 x.b, .int .i64 x.n, .string (str x.text), .bool x.isText] 54)) (w.heap.size + 1) 54 (av x).toArray) := by
    have := Blk.new (w.alloc (.cells #[.int .i64 x.kind, .int .i64 x.op, .int .i64 x.a, .int .i64 x.b, .int .i64 x.n, .string (str x.text), .bool x.isText] 54)) 54 #[.int .i64 x.kind, .int .i64 x.op, .int .i64 x.a, .int .i64 x.b, .int .i64 x.n, .string (str x.text), .bool x.isText]
    rw [show (w.alloc (.cells #[.int .i64 x.kind, .int .i64 x.op, .int .i64 x.a, .int .i64 x.b, .int .i64 x.n, .string (str x.text), .bool x.isText] 54)).heap.size = w.heap.size + 1 from by simp] at this
    exact this
  have hBx := hide ((hB.out.alloc (.cells #[.int .i64 x.kind, .int .i64 x.op, .int .i64 x.a, .int .i64 x.b, .int .i64 x.n, .string (str x.text), .bool x.isText] 54)).alloc (.cells #[.int .i64 x.kind, .int .i64 x.op, .int .i64 x.a, .int .i64 x.b, .int .i64 x.n, .string (str x.text), .bool x.isText] 54))
  have hWb := hide ((((Below.refl b w).alloc (by omega) (.cells #[.int .i64 x.kind, .int .i64 x.op, .int .i64 x.a, .int .i64 x.b, .int .i64 x.n, .string (str x.text), .bool x.isText] 54)).alloc (by simp; omega) (.cells #[.int .i64 x.kind, .int .i64 x.op, .int .i64 x.a, .int .i64 x.b, .int .i64 x.n, .string (str x.text), .bool x.isText] 54)).drew)
  go_region_law (refine step_app_a x rfl (.tmp 9) (.tmp 11) rfl (b + 1) v out.length out (hOx.out.alloc _) rfl (w.heap.size + 1) 1 (by simp) rfl hcb.out hln hbs ?_; intro v2 w2 ho2 hb2 hg2; clear hg2; obtain ⟨vA, vc, rfl, -, -, -, -⟩ := ho2.form; replace ho2 := hide ho2; have hB2 := hide (hBx.out.drew.below hb2 (Nat.lt_succ_self _)); have hf2 := hB2.out.frozen 1; have hd2 := hB2.out.cell 1)
  all_goals
    have hbw := hWb.out.trans (hb2.mono (Nat.le_succ b))
    clear hBx hcb hbs hOx hWb hb2
    go_wp2_with fail
    go_ret
    refine ⟨ret_int (by simp), ?_, ?_⟩
    · refine ⟨.slice vA (out.length + 1) vc, A, c, hB2.out.set_ 1 _, ?_, hc1, hc2, ?_⟩
      · exact Reads.setCell (hT.out.below hbw) (Nat.le_refl _) _
      · rw [List.length_append]
        exact ho2.out.setOther (Nat.lt_succ_self _) _
    · exact below_set hbw (Nat.le_refl _) _
end Go.Proofs.YtnnjcedlomfhoaaGreatDoor
