/-
  A cursor in memory; contract of tree.Seek.
-/
import Derived.Test.YtiffnfgmkkoaeaaGreatDoorBnGr26
namespace Go.Proofs.YtiffnfgmkkoaeaaGreatDoor
open Go.RowKit
set_option linter.unusedVariables false
def StepV (G : Nat → Prop) (w : World) (vs : List Value) (s : NodeP × Nat) : Prop :=
  ∃ A c B d, vs = [.bool s.1.leaf, .slice A s.1.cells.length c, .slice B s.1.kids.length d, .int .i64 (s.2 : Int)] ∧ NodeM G w (.agg #[.bool s.1.leaf, .slice A s.1.cells.length c, .slice B s.1.kids.length d]) s.1
def FC (F C : Nat → Prop) (k : Nat) : Prop := F k ∨ C k
/-- A cursor; C: its own blocks. -/
structure CurAt (F C : Nat → Prop) (w : World) (gc gt : Nat) (way : List (NodeP × Nat)) (from_ : List UInt8) (tgt : Int) (er : Int) : Prop where
  mem : ∃ wv fA fc, Blk w gc 156 #[.pointer (some ⟨gt, 0, none⟩), wv, .slice fA from_.length fc, .int .i64 tgt, .int .i64 er] ∧ MB (FC F C) w fA from_.length from_ ∧
    (∀ k, wv.ownBlock = some k → C k) ∧ ∃ rows : List (List Value), rows.length = way.length ∧ w.ownsRow 0 196 4 wv way.length rows.flatten ∧ ∀ (k : Nat) (vs : List Value) (s : NodeP × Nat), rows[k]? = some vs → way[k]? = some s → StepV (Mine (FC F C) w) w vs s
  own : C gc
  apart : ∀ k, C k → ¬ F k
  lt : ∀ k, C k → k < w.heap.size
section
variable {F F' C : Nat → Prop} {w w' : World} {gc gt : Nat} {way : List (NodeP × Nat)} {from_ : List UInt8} {tgt er : Int}
theorem StepV.ev {vs : List Value} {s : NodeP × Nat} (h : StepV (Mine F w) w vs s) (he : Ev F w F' w') : StepV (Mine F' w') w' vs s := by
  obtain ⟨A, c, B, d, e, hn⟩ := h
  exact ⟨A, c, B, d, e, hn.ev he⟩
theorem CurAt.ev (h : CurAt F C w gc gt way from_ tgt er) (he : Ev F w F' w') : CurAt F' C w' gc gt way from_ tgt er := by
  obtain ⟨wv, fA, fc, hb, hm, ho, rows, h1, h2, h3⟩ := h.mem
  have he2 : Ev (FC F C) w (FC F' C) w' := he.add C
  refine ⟨⟨wv, fA, fc, he.blk hb (h.apart _ h.own), hm.ev he2, ho, rows, h1, he.only.row h2 (fun k hk => h.apart k (ho k hk)), fun k vs s e1 e2 => (h3 k vs s e1 e2).ev he2⟩, h.own, fun k hk => he.new (h.apart k hk) (h.lt k hk), fun k hk => Nat.lt_of_lt_of_le (h.lt k hk) he.size⟩
end
end Go.Proofs.YtiffnfgmkkoaeaaGreatDoor
namespace Go.Proofs.YtiffnfgmkkoaeaaGreatDoor
open Go.RowKit
set_option linter.unusedVariables false
theorem step_info : (Tryz.prog.info? 196).map (fun i => (i.zero, i.size, i.bytes)) = some (some (.agg #[.bool false, .slice none 0 0, .slice none 0 0, .int .i64 0]), 4, 64) := by kernel_rfl
theorem run_app_step (w : World) (base : Nat) (v : Value) (m : Nat) (xs : List Value) (hown : w.ownsRow base 196 4 v m xs) (g : Nat) (x0 x1 x2 x3 : Value) (h1 : ∀ u ∈ [x0, x1, x2, x3], u.oneCell' = true) (hb : Blk w g 196 #[x0, x1, x2, x3]) (ty : TypeId) (hlen : m + 1 ≤ 1000000) (hbase : base ≤ w.heap.size) :
    ∃ v' w', (Builtin.append_ #[154, 154] ty #[v, .slice (some ⟨g, 0, none⟩) 1 1]).run Tryz.prog w = .ok v' w' ∧ w'.ownsRow base 196 4 v' (m + 1) (xs ++ [x0, x1, x2, x3]) ∧ w.grownBy w' v.ownBlock ∧ (v'.ownBlock = v.ownBlock ∨ v'.ownBlock = some w.heap.size) := by
  obtain ⟨i0, hi0, hz0, hz1, hz2⟩ := info_parts step_info
  exact run_append_any (P := Tryz.prog) w base 154 ty 196 i0 _ 4 64 Tryz.underlying154 hi0 hz0 hz1 hz2 rfl (by omega) v m xs hown w.heap.size (some ⟨g, 0, none⟩) 1 1 [x0, x1, x2, x3] ⟨rfl, fun _ => ⟨_, rfl, hb.lt, fun j u hu => by
      have e : (Addr.mk g 0 none).add j = ⟨g, j, none⟩ := by
        unfold Addr.add
        by_cases h0 : j = 0
        · subst h0; rfl
        · rw [if_neg h0]; simp
      rw [e, hb.cell]
      simpa using hu⟩⟩ h1 (by simp only [maxLen]; omega) (by omega) hbase
/-- One step more behind a cursor's way. -/
theorem cur_push {F C : Nat → Prop} {w w5 : World} {gc gt : Nat} {way : List (NodeP × Nat)} {from_ : List UInt8} {tgt er : Int} {wv v5 : Value} {fA : Option Addr} {fc : Nat} {rows : List (List Value)} {vs : List Value} {s : NodeP × Nat}
    (hbc : Blk w gc 156 #[.pointer (some ⟨gt, 0, none⟩), wv, .slice fA from_.length fc, .int .i64 tgt, .int .i64 er]) (hm : MB (FC F C) w fA from_.length from_) (ho : ∀ k, wv.ownBlock = some k → C k) (h1 : rows.length = way.length) (h2 : w.ownsRow 0 196 4 wv way.length rows.flatten)
    (h3 : ∀ (k : Nat) (vs : List Value) (s : NodeP × Nat), rows[k]? = some vs → way[k]? = some s → StepV (Mine (FC F C) w) w vs s) (own : C gc) (apart : ∀ k, C k → ¬ F k) (lt : ∀ k, C k → k < w.heap.size) (hF : ∀ k, F k → k < w.heap.size) (hs : StepV (Mine (FC F C) w) w vs s)
    (hg : w.grownBy w5 wv.ownBlock) (hown : w5.ownsRow 0 196 4 v5 (way.length + 1) (rows.flatten ++ vs)) (hv : v5.ownBlock = wv.ownBlock ∨ v5.ownBlock = some w.heap.size) :
    CurAt F (fun k => C k ∨ v5.ownBlock = some k) (w5.setCell ⟨gc, 1, none⟩ v5) gc gt (way ++ [s]) from_ tgt er ∧ Ev (FC F C) w (FC F (fun k => C k ∨ v5.ownBlock = some k)) (w5.setCell ⟨gc, 1, none⟩ v5) := by
  have hnew : ∀ k, v5.ownBlock = some k → C k ∨ k = w.heap.size := fun k hk => by
    rcases hv with e | e
    · exact .inl (ho k (by rw [← e]; exact hk))
    · rw [e] at hk; injection hk with hk; exact .inr hk.symm
  have hO : Only (FC F C) w (w5.setCell ⟨gc, 1, none⟩ v5) := ((Only.refl (FC F C) w).grown hg (fun k hk _ => .inr (ho k hk))).setCell (p := ⟨gc, 1, none⟩) (fun _ => .inr own) v5
  have hE : Ev (FC F C) w (FC F (fun k => C k ∨ v5.ownBlock = some k)) (w5.setCell ⟨gc, 1, none⟩ v5) := ⟨hO, fun k hk => by
    rcases hk with hk | hk | hk
    · exact .inl (.inl hk)
    · exact .inl (.inr hk)
    · rcases hnew k hk with h9 | h9
      · exact .inl (.inr h9)
      · exact .inr (by omega)⟩
  have hgc : some gc ≠ wv.ownBlock := fun e => own_blk_ne h2 hbc (by decide) e.symm
  have hb5 := (hbc.grown hg hgc).set_ 1 v5
  have hO2 : Only (fun k => k = gc) w5 (w5.setCell ⟨gc, 1, none⟩ v5) := (Only.refl (fun k => k = gc) w5).setCell (p := ⟨gc, 1, none⟩) (fun _ => rfl) v5
  have hs5 : w5.heap.size ≤ (w5.setCell ⟨gc, 1, none⟩ v5).heap.size := hO2.size
  refine ⟨⟨⟨v5, fA, fc, hb5, hm.ev hE, fun k hk => .inr hk, rows ++ [vs], by simp [h1], ?_, fun k vs' s' e1 e2 => ?_⟩, .inl own, fun k hk hf => ?_, fun k hk => ?_⟩, hE⟩
  · rw [List.length_append, List.flatten_append]
    simp only [List.flatten_cons, List.flatten_nil, List.append_nil, List.length_cons, List.length_nil, Nat.zero_add]
    exact hO2.row hown (own_not_blk hown (hbc.grown hg hgc) (by decide))
  · by_cases hk : k < rows.length
    · rw [List.getElem?_append_left hk] at e1
      rw [List.getElem?_append_left (by omega)] at e2
      exact (h3 k vs' s' e1 e2).ev hE
    · have hk2 : k = rows.length := by
        have := (List.getElem?_eq_some_iff.1 e1).1
        simp at this; omega
      subst hk2
      rw [List.getElem?_append_right (Nat.le_refl _), Nat.sub_self] at e1
      rw [h1, List.getElem?_append_right (Nat.le_refl _), Nat.sub_self] at e2
      simp at e1 e2
      subst e1; subst e2
      exact hs.ev hE
  · rcases hk with hk | hk
    · exact apart k hk hf
    · rcases hnew k hk with h9 | h9
      · exact apart k h9 hf
      · have := hF k hf; omega
  · rcases hk with hk | hk
    · have h8 := lt k hk; have h9 := hg.size; omega
    · have := (own_lt hown hk).2; omega
/-- What down leaves. -/
def DownEnd (F C : Nat → Prop) (w : World) (gp : Nat) (st : PgS) (gc gt : Nat) (way : List (NodeP × Nat)) (from_ : List UInt8) (tgt er : Int) (e : Ending) (w' : World) : Prop :=
  e = .returned (.int .i64 0) ∧ ∃ F' C', PgAt w' F' gp st ∧ CurAt F' C' w' gc gt way from_ tgt er ∧ Ev (FC F C) w (FC F' C') w' ∧ (∀ k, C k → C' k) ∧ ∀ (g : Nat) (t : TypeId) (cs : Array Value), Blk w g t cs → ¬ F g → t ≠ 156 → t ≠ 196 → Blk w' g t cs
end Go.Proofs.YtiffnfgmkkoaeaaGreatDoor
namespace Go.Proofs.YtiffnfgmkkoaeaaGreatDoor
open Go.RowKit
set_option linter.unusedVariables false
set_option maxRecDepth 100000 in
theorem value_short (w : World) (gt : Nat) (kA vA : Option Addr) (kl vl kc vc lg : Nat) :
    Calls Tryz.prog 54 #[.pointer (some ⟨gt, 0, none⟩), .agg #[.slice kA kl kc, .slice vA vl vc, .int .i64 0, .int .i64 (lg : Int)]] w fun e w' => e = .returned (.tuple #[.slice vA vl vc, .int .i64 0]) ∧ Below w.heap.size w w' := by
  have hB1 := (Below.refl w.heap.size w).alloc (Nat.le_refl _) (.cells #[.slice kA kl kc, .slice vA vl vc, .int .i64 0, .int .i64 (lg : Int)] 123)
  replace hB1 := hide hB1
  go_enter Tryz.func54, Tryz.ntmps54
  go_wp2_with fail
  go_ret2
  exact ⟨rfl, hB1.out⟩
section
variable {F C : Nat → Prop} {w : World} {gc gt : Nat} {way : List (NodeP × Nat)} {from_ : List UInt8} {tgt er : Int}
theorem cur_tgt (h : CurAt F C w gc gt way from_ tgt er) (t' : Int) : CurAt F C (w.setCell ⟨gc, 3, none⟩ (.int .i64 t')) gc gt way from_ t' er ∧ Ev (FC F C) w (FC F C) (w.setCell ⟨gc, 3, none⟩ (.int .i64 t')) := by
  obtain ⟨wv, fA, fc, hb, hm, ho, rows, h1, h2, h3⟩ := h.mem
  have hE : Ev (FC F C) w (FC F C) (w.setCell ⟨gc, 3, none⟩ (.int .i64 t')) := (Ev.refl _ w).set_ (p := ⟨gc, 3, none⟩) (.inr h.own) _
  have hO : Only (fun k => k = gc) w (w.setCell ⟨gc, 3, none⟩ (.int .i64 t')) := (Only.refl (fun k => k = gc) w).setCell (p := ⟨gc, 3, none⟩) (fun _ => rfl) _
  exact ⟨⟨⟨wv, fA, fc, hb.set_ 3 _, hm.ev hE, ho, rows, h1, hO.row h2 (own_not_blk h2 hb (by decide)), fun k vs s e1 e2 => (h3 k vs s e1 e2).ev hE⟩, h.own, h.apart, fun k hk => Nat.lt_of_lt_of_le (h.lt k hk) hE.size⟩, hE⟩
theorem cur_err (h : CurAt F C w gc gt way from_ tgt er) (t' : Int) : CurAt F C (w.setCell ⟨gc, 4, none⟩ (.int .i64 t')) gc gt way from_ tgt t' ∧ Ev (FC F C) w (FC F C) (w.setCell ⟨gc, 4, none⟩ (.int .i64 t')) := by
  obtain ⟨wv, fA, fc, hb, hm, ho, rows, h1, h2, h3⟩ := h.mem
  have hE : Ev (FC F C) w (FC F C) (w.setCell ⟨gc, 4, none⟩ (.int .i64 t')) := (Ev.refl _ w).set_ (p := ⟨gc, 4, none⟩) (.inr h.own) _
  have hO : Only (fun k => k = gc) w (w.setCell ⟨gc, 4, none⟩ (.int .i64 t')) := (Only.refl (fun k => k = gc) w).setCell (p := ⟨gc, 4, none⟩) (fun _ => rfl) _
  exact ⟨⟨⟨wv, fA, fc, hb.set_ 4 _, hm.ev hE, ho, rows, h1, hO.row h2 (own_not_blk h2 hb (by decide)), fun k vs s e1 e2 => (h3 k vs s e1 e2).ev hE⟩, h.own, h.apart, fun k hk => Nat.lt_of_lt_of_le (h.lt k hk) hE.size⟩, hE⟩
end
end Go.Proofs.YtiffnfgmkkoaeaaGreatDoor
namespace Go.Proofs.YtiffnfgmkkoaeaaGreatDoor
open Go.RowKit
set_option linter.unusedVariables false
theorem own_cells4 {w : World} {B m : Nat} {e : TypeId} {v : Value} {xs : List Value} (h : w.ownsRow B e 4 v m xs) (hm : 0 < m) : ∃ g cap cur, v = .slice (some ⟨g, 0, none⟩) m cap ∧ Blk w g e cur ∧ m ≤ cap ∧ cap ≤ maxLen ∧ cur.size = cap * 4 ∧ cur.toList.take (m * 4) = xs ∧ B ≤ g := by
  rcases h.2 with ⟨e1, h0⟩ | ⟨g, cap, cur, e1, hg, hh, h3, h4, h5, h6⟩
  · omega
  · exact ⟨g, cap, cur, e1, hh, h3, h4, h5, h6, hg⟩
theorem cur_last {F C : Nat → Prop} {w : World} {gc gt : Nat} {way : List (NodeP × Nat)} {from_ : List UInt8} {tgt er : Int} {n : NodeP} {i : Nat} (h : CurAt F C w gc gt (way ++ [(n, i)]) from_ tgt er) :
    ∃ g cap cur A c B d, Blk w g 196 cur ∧ C g ∧ way.length + 1 ≤ cap ∧ cap ≤ maxLen ∧ w.cell? ⟨gc, 1, none⟩ = some (.slice (some ⟨g, 0, none⟩) (way.length + 1) cap) ∧
      w.cell? ⟨g, way.length * 4, none⟩ = some (.bool n.leaf) ∧ w.cell? ⟨g, way.length * 4 + 1, none⟩ = some (.slice A n.cells.length c) ∧ w.cell? ⟨g, way.length * 4 + 2, none⟩ = some (.slice B n.kids.length d) ∧ w.cell? ⟨g, way.length * 4 + 3, none⟩ = some (.int .i64 (i : Int)) ∧
      NodeM (Mine (FC F C) w) w (.agg #[.bool n.leaf, .slice A n.cells.length c, .slice B n.kids.length d]) n ∧
      ∀ j : Nat, CurAt F C (w.setCell ⟨g, way.length * 4 + 3, none⟩ (.int .i64 (j : Int))) gc gt (way ++ [(n, j)]) from_ tgt er ∧ Ev (FC F C) w (FC F C) (w.setCell ⟨g, way.length * 4 + 3, none⟩ (.int .i64 (j : Int))) := by
  obtain ⟨wv, fA, fc, hb, hm, ho, rows, h1, h2, h3⟩ := h.mem
  obtain ⟨g, cap, cur, rfl, hbg, hcap, hcm, hcs, htk, _⟩ := own_cells4 h2 (by simp)
  have hlen : (way ++ [(n, i)]).length = way.length + 1 := by simp
  rw [hlen] at h1 h2 hcap htk
  have hCg : C g := ho g rfl
  obtain ⟨pre, vs, hpv⟩ : ∃ pre vs, rows = pre ++ [vs] := by
    have : rows ≠ [] := fun e => by rw [e] at h1; simp at h1
    exact ⟨rows.dropLast, rows.getLast this, (List.dropLast_concat_getLast this).symm⟩
  subst hpv
  have hpl : pre.length = way.length := by simp at h1; exact h1
  obtain ⟨A, c, B, d, hvs, hnm⟩ := h3 way.length vs (n, i) (by rw [← hpl]; simp) (by simp)
  subst hvs
  have h4 : ∀ r ∈ pre, r.length = 4 := by
    intro r hr
    obtain ⟨q, hq, e⟩ := List.getElem_of_mem hr
    have hq2 : q < way.length := by omega
    obtain ⟨A', c', B', d', e2, _⟩ := h3 q r way[q] (by rw [List.getElem?_append_left hq, List.getElem?_eq_getElem hq, e]) (by rw [List.getElem?_append_left hq2, List.getElem?_eq_getElem hq2])
    rw [e2]; rfl
  have hpf : pre.flatten.length = way.length * 4 := by
    have := (flatten_take4 pre pre.length h4).2
    rw [List.drop_length] at this
    have h9 : ∀ (l : List (List Value)), (∀ r ∈ l, r.length = 4) → l.flatten.length = l.length * 4 := by
      intro l
      induction l with
      | nil => intro _; rfl
      | cons a t ih => intro hl; rw [List.flatten_cons, List.length_append, ih fun r hr => hl r (.tail _ hr), hl a (.head _), List.length_cons]; omega
    rw [h9 pre h4, hpl]
  have hcell : ∀ j u, [Value.bool n.leaf, .slice A n.cells.length c, .slice B n.kids.length d, .int .i64 (i : Int)][j]? = some u → w.cell? ⟨g, way.length * 4 + j, none⟩ = some u := by
    intro j u hu
    have hj := (List.getElem?_eq_some_iff.1 hu).1
    simp at hj
    rw [hbg.cell]
    have h9 : cur.toList[way.length * 4 + j]? = some u := by
      have e1 : (cur.toList.take ((way.length + 1) * 4))[way.length * 4 + j]? = some u := by
        rw [htk, List.flatten_append, List.getElem?_append_right (by omega), hpf, Nat.add_sub_cancel_left]
        simpa using hu
      rw [List.getElem?_take, if_pos (by omega)] at e1
      exact e1
    simpa using h9
  refine ⟨g, cap, cur, A, c, B, d, hbg, hCg, hcap, hcm, by have := hb.cell 1; rw [hlen] at this; exact this, hcell 0 _ rfl, hcell 1 _ rfl, hcell 2 _ rfl, hcell 3 _ rfl, hnm, fun j => ?_⟩
  have hE : Ev (FC F C) w (FC F C) (w.setCell ⟨g, way.length * 4 + 3, none⟩ (.int .i64 (j : Int))) := (Ev.refl _ w).set_ (p := ⟨g, way.length * 4 + 3, none⟩) (.inr hCg) _
  have hgne : gc ≠ g := Blk.ne_ hb hbg (by decide)
  have hbs := hbg.set_ (way.length * 4 + 3) (.int .i64 (j : Int))
  have hl2 : (way ++ [(n, j)]).length = way.length + 1 := by simp
  refine ⟨⟨⟨_, fA, fc, hb.far (p := ⟨g, way.length * 4 + 3, none⟩) hgne _, hm.ev hE, ho, pre ++ [[.bool n.leaf, .slice A n.cells.length c, .slice B n.kids.length d, .int .i64 (j : Int)]], by rw [hl2]; simp [hpl], ?_, fun q vs' s e1 e2 => ?_⟩, h.own, h.apart, fun k hk => Nat.lt_of_lt_of_le (h.lt k hk) hE.size⟩, hE⟩
  · rw [hl2, hlen]
    refine ⟨by simp [hpf]; omega, .inr ⟨g, cap, _, rfl, Nat.zero_le _, hbs, hcap, hcm, by simp [hcs], ?_⟩⟩
    have e1 : (cur.setIfInBounds (way.length * 4 + 3) (.int .i64 (j : Int))).toList.take ((way.length + 1) * 4) = (cur.toList.take ((way.length + 1) * 4)).set (way.length * 4 + 3) (.int .i64 (j : Int)) := by
      rw [Array.toList_setIfInBounds, List.take_set]
    rw [e1, htk, List.flatten_append, List.flatten_append, List.set_append_right _ _ (by omega), hpf, Nat.add_sub_cancel_left]
    rfl
  · by_cases hq : q < pre.length
    · rw [List.getElem?_append_left hq] at e1
      rw [List.getElem?_append_left (by omega)] at e2
      exact (h3 q vs' s (by rw [List.getElem?_append_left hq]; exact e1) (by rw [List.getElem?_append_left (by omega)]; exact e2)).ev hE
    · have hq2 : q = pre.length := by
        have := (List.getElem?_eq_some_iff.1 e1).1
        simp at this; omega
      subst hq2
      rw [List.getElem?_append_right (Nat.le_refl _), Nat.sub_self] at e1
      rw [hpl, List.getElem?_append_right (Nat.le_refl _), Nat.sub_self] at e2
      simp at e1 e2
      subst e1; subst e2
      exact ⟨A, c, B, d, rfl, hnm.ev hE⟩
end Go.Proofs.YtiffnfgmkkoaeaaGreatDoor
namespace Go.Proofs.YtiffnfgmkkoaeaaGreatDoor
open Go.RowKit
set_option linter.unusedVariables false
theorem cur_wide {F C : Nat → Prop} {w : World} {gc gt : Nat} {way : List (NodeP × Nat)} {from_ : List UInt8} {tgt er : Int} (h : CurAt F C w gc gt way from_ tgt er) (hF : ∀ k, F k → k < w.heap.size) (o : Obj) :
    CurAt F (plus C w.heap.size) (w.alloc o) gc gt way from_ tgt er ∧ Ev (FC F C) w (FC F (plus C w.heap.size)) (w.alloc o) := by
  have hE : Ev (FC F C) w (FC F (plus C w.heap.size)) (w.alloc o) := ((Ev.refl (FC F C) w).alloc o).mono (fun k hk => by
    rcases hk with hk | hk | hk
    · exact .inl (.inl hk)
    · exact .inl (.inr hk)
    · exact .inr hk)
  obtain ⟨wv, fA, fc, hb, hm, ho, rows, h1, h2, h3⟩ := h.mem
  refine ⟨⟨⟨wv, fA, fc, hb.alloc o, hm.ev hE, fun k hk => .inl (ho k hk), rows, h1, ((Only.refl (fun _ => False) w).alloc o).row h2 (fun _ _ h => h), fun k vs s e1 e2 => (h3 k vs s e1 e2).ev hE⟩, .inl h.own, fun k hk hf => hk.elim (fun hk => h.apart k hk hf) (fun e => by have := hF k hf; omega), fun k hk => ?_⟩, hE⟩
  have hz : (w.alloc o).heap.size = w.heap.size + 1 := World.size_alloc _ _
  rcases hk with hk | hk
  · have := h.lt k hk; omega
  · omega
theorem cur_side {F C : Nat → Prop} {w w' : World} {gc gt R : Nat} {way : List (NodeP × Nat)} {from_ : List UInt8} {tgt er : Int} {cs : Array Value} (h : CurAt F C w gc gt way from_ tgt er) (hb : Blk w R 123 cs) (hC : C R) (hO : Only (fun j => j = R) w w') :
    CurAt F C w' gc gt way from_ tgt er ∧ Ev (FC F C) w (FC F C) w' := by
  have hE : Ev (FC F C) w (FC F C) w' := ⟨hO.mono fun j _ e => .inr (by rw [e]; exact hC), fun k hk => .inl hk⟩
  obtain ⟨wv, fA, fc, hbc, hm, ho, rows, h1, h2, h3⟩ := h.mem
  exact ⟨⟨⟨wv, fA, fc, hO.blk hbc (Blk.ne_ hbc hb (by decide)), hm.ev hE, ho, rows, h1, hO.row h2 (fun k hk e => own_blk_ne h2 hb (by decide) (by rw [hk, e])), fun k vs s e1 e2 => (h3 k vs s e1 e2).ev hE⟩, h.own, h.apart, fun k hk => Nat.lt_of_lt_of_le (h.lt k hk) hE.size⟩, hE⟩
end Go.Proofs.YtiffnfgmkkoaeaaGreatDoor
namespace Go.Proofs.YtiffnfgmkkoaeaaGreatDoor
open Go.RowKit
set_option linter.unusedVariables false
/-- The pages of a value, gone through; S: what the closure does to the pages. -/
inductive GoR (S : PgS → Nat → PgS) : PgS → Nat → Nat → List (Nat × List UInt8) → PgS → Prop
  | nil (st : PgS) (no : Nat) : GoR S st no 0 [] st
  | cons (st st' : PgS) (no long : Nat) (l : List (Nat × List UInt8)) (h0 : 0 < long) (hn : st.has no) (hf : st.free < st.many) (hr : GoR S (S st no) (numL ((st.page no).take 3)) (long - 505) l st') :
      GoR S st no long ((no, ((st.page no).drop 3).take (min long 505)) :: l) st'
theorem GoR.head {S : PgS → Nat → PgS} {st st' : PgS} {no long : Nat} {l : List (Nat × List UInt8)} (h : GoR S st no long l st') (h0 : 0 < long) :
    ∃ r, l = (no, ((st.page no).drop 3).take (min long 505)) :: r ∧ st.has no ∧ st.free < st.many ∧ GoR S (S st no) (numL ((st.page no).take 3)) (long - 505) r st' := by
  cases h with
  | nil => omega
  | cons _ _ _ _ r h0 hn hf hr => exact ⟨r, rfl, hn, hf, hr⟩
theorem GoR.done {S : PgS → Nat → PgS} {st st' : PgS} {no : Nat} {l : List (Nat × List UInt8)} (h : GoR S st no 0 l st') : l = [] ∧ st = st' := by
  cases h with
  | nil => exact ⟨rfl, rfl⟩
  | cons _ _ _ _ r h0 hn hf hr => omega
theorem GoR.len {S : PgS → Nat → PgS} {st st' : PgS} {no long : Nat} {l : List (Nat × List UInt8)} (h : GoR S st no long l st') : l.length ≤ long := by
  induction h with
  | nil => exact Nat.le_refl _
  | cons _ _ _ _ r h0 hn hf hr ih => rw [List.length_cons]; omega
/-- What a closure of chain keeps (J) and does; D: its own blocks. -/
structure ChainC (S : PgS → Nat → PgS) (f : FuncId) (caps : Array Value) (gp : Nat) (J : List (Nat × List UInt8) → (Nat → Prop) → (Nat → Prop) → World → Prop) : Prop where
  fn : ∀ args wx, (callFunc f args).run Tryz.prog wx = .ok (.enter f args) wx
  keep : ∀ d D F F' w w', J d D F w → Ev F w F' w' → J d D F' w'
  step : ∀ d D F w st no b A c, J d D F w → PgAt w F gp st → st.has no → st.free < st.many → RB w w.heap.size A b.length b → b.length ≤ c → b.length ≤ 505 → d.length ≤ 100000 →
    Calls Tryz.prog f (#[.int .i64 (no : Int), .slice A b.length c] ++ caps) w fun e w' => e = .returned (.int .i64 0) ∧ ∃ F' D', PgAt w' F' gp (S st no) ∧ J (d ++ [(no, b)]) D' F' w' ∧ Ev (FC F D) w (FC F' D') w'
def ChainEnd (F D : Nat → Prop) (w : World) (gp : Nat) (J : List (Nat × List UInt8) → (Nat → Prop) → (Nat → Prop) → World → Prop) (l : List (Nat × List UInt8)) (st' : PgS) (e : Ending) (w' : World) : Prop :=
  e = .returned (.int .i64 0) ∧ ∃ F' D', PgAt w' F' gp st' ∧ J l D' F' w' ∧ Ev (FC F D) w (FC F' D') w'
def ChSt (S : PgS → Nat → PgS) (F D : Nat → Prop) (w : World) (gt gp k : Nat) (J : List (Nat × List UInt8) → (Nat → Prop) → (Nat → Prop) → World → Prop) (l : List (Nat × List UInt8)) (st' : PgS) (no : Nat) (x : Int) (wx : World) : Prop :=
  ∃ F' D' st1 d r, l = d ++ r ∧ GoR S st1 no x.toNat r st' ∧ PgAt wx F' gp st1 ∧ J d D' F' wx ∧ Ev (FC F D) w (FC F' D') wx ∧ TreeAt wx (FC F' D') gt gp k
set_option maxRecDepth 100000 in
set_option maxHeartbeats 2000000 in
theorem chain_any (S : PgS → Nat → PgS) (f : FuncId) (caps : Array Value) (gp : Nat) (J : List (Nat × List UInt8) → (Nat → Prop) → (Nat → Prop) → World → Prop) (hC : ChainC S f caps gp J) (w : World) (F D : Nat → Prop) (gt k : Nat) (st st' : PgS) (h : PgAt w F gp st) (ht : TreeAt w (FC F D) gt gp k)
    (no0 long : Nat) (l : List (Nat × List UInt8)) (hg : GoR S st no0 long l st') (hJ : J [] D F w) (hlong : long ≤ 100000) :
    Calls Tryz.prog 100 #[.pointer (some ⟨gt, 0, none⟩), .int .i64 (no0 : Int), .int .i64 (long : Int), .func (.func f) #[] caps] w (ChainEnd F D w gp J l st') := by
  have hst : Hid (ChSt S F D w gt gp k J l st' no0 (long : Int) w) := hide ⟨F, D, st, [], l, rfl, by simpa using hg, h, hJ, Ev.refl _ w, ht⟩
  have hll := hide (Nat.le_trans hg.len hlong)
  replace h := hide h
  replace ht := hide ht
  replace hg := hide hg
  replace hJ : Hid _ := hide hJ
  replace hC := hide hC
  go_enter Tryz.func100, Tryz.ntmps100
  go_wp2_with fail
  go_loopw [1, 2] (fun v1 v2 wx => ∃ (no : Nat) (x : Int), v1 = .int .i64 (no : Int) ∧ v2 = .int .i64 x ∧ -505 ≤ x ∧ x ≤ 100000 ∧ Hid (ChSt S F D w gt gp k J l st' no x wx)) (fun _ v2 _ => (intOf v2).toNat)
  case atStart => exact ⟨no0, long, rfl, rfl, by omega, by omega, hst⟩
  case round =>
    obtain ⟨no, x, rfl, rfl, hx0, hx1, hG⟩ := hrel
    obtain ⟨Fa, Da, st1, d, r, hdr, hgo, hP, hJa, hE, htr⟩ := hG.out
    by_cases hpos : 0 < x
    · obtain ⟨r', hr', hhas, hfree, hgo'⟩ := hgo.head (by omega)
      have hrd := hide (read_any wr Fa gp st1 hP no hhas)
      have t0 : wr.cell? ⟨gt, 0, none⟩ = some (.pointer (some ⟨gp, 0, none⟩)) := htr.blk.cell 0
      have htF : TreeAt wr Fa gt gp k := ⟨htr.blk, fun hf => htr.out (.inl hf)⟩
      have hlenp := hP.len hhas
      replace hP := hide hP
      replace hJa : Hid _ := hide hJa
      replace hE := hide hE
      replace htr := hide htr
      replace htF := hide htF
      replace hgo := hide hgo
      replace hgo' := hide hgo'
      replace hr' := hide hr'
      replace hdr := hide hdr
      replace hlenp := hide hlenp
      clear hG hst
      go_wp2_with fail
      go_at_call 95
      refine hrd.out.mono ?_
      rintro e w1 ⟨F1, A, c, rfl, hc, hP1, hE1, hm1⟩
      obtain ⟨ad, rfl, _, _⟩ := hm1.2 (by omega)
      have hwg := hide (wget_any w1 (some ad) 508 c 0 3 (st1.page no) hm1.rb hc (by omega) (by omega) (by omega) (by omega))
      rw [List.drop_zero] at hwg
      obtain ⟨nx, hnx⟩ : ∃ nx, nx = numL ((st1.page no).take 3) := ⟨_, rfl⟩
      rw [← hnx] at hwg
      replace hP1 := hide hP1
      replace hE1 := hide hE1
      replace hm1 := hide hm1
      replace hnx := hide hnx
      replace hc := hide hc
      go_wp2_with fail
      go_at_call 50
      refine hwg.out.mono ?_
      rintro e w2 ⟨rfl, hB2⟩
      obtain ⟨m, hm⟩ : ∃ m : Nat, m = min x.toNat 505 := ⟨_, rfl⟩
      have hmI : min x 505 = (m : Int) := by omega
      have hm5 : m ≤ 505 := by omega
      have hE2 : Ev Fa wr F1 w2 := hE1.out.below hB2
      have hP2 : PgAt w2 F1 gp st1 := hP1.out.below hB2
      have hJ2 : J d Da F1 w2 := hC.out.keep d Da Fa F1 wr w2 hJa.out hE2
      have hm2 : MB F1 w2 (some ad) 508 (st1.page no) := hm1.out.ev (Ev.of_below hB2)
      have hrb : RB w2 w2.heap.size (some (ad.add 3)) m (((st1.page no).drop 3).take m) := by
        have h1 := (hm2.cut (k := 3) (cap := c) (by omega) (by have := hc.out; omega)).take (k := m) (by omega)
        rw [if_neg (by have := hc.out; omega)] at h1
        exact h1.rb
      have hbl : (((st1.page no).drop 3).take m).length = m := by
        rw [List.length_take, List.length_drop, hlenp.out]; omega
      have hcl : Hid (Calls Tryz.prog f (#[.int .i64 (no : Int), .slice (some (ad.add 3)) m (c - 3)] ++ caps) w2 fun e w' => e = .returned (.int .i64 0) ∧ ∃ F' D', PgAt w' F' gp (S st1 no) ∧ J (d ++ [(no, ((st1.page no).drop 3).take m)]) D' F' w' ∧ Ev (FC F1 Da) w2 (FC F' D') w') := hide (by
        have h9 := hC.out.step d Da F1 w2 st1 no (((st1.page no).drop 3).take m) (some (ad.add 3)) (c - 3) hJ2 hP2 hhas hfree (by rw [hbl]; exact hrb) (by rw [hbl]; have := hc.out; omega) (by rw [hbl]; exact hm5) (by have h8 := hll.out; rw [hdr.out, List.length_append] at h8; omega)
        rw [hbl] at h9
        exact h9)
      replace hB2 := hide hB2
      replace hE2 := hide hE2
      replace hP2 := hide hP2
      replace hJ2 : Hid _ := hide hJ2
      replace hm2 := hide hm2
      replace hrb := hide hrb
      replace hbl := hide hbl
      replace hm := hide hm
      replace hhas := hide hhas
      replace hfree := hide hfree
      have hcI : (508 : Int) ≤ (c : Int) := by have := hc.out; omega
      have hcN : 508 ≤ c := hc.out
      have hm3 : 3 + m - 3 = m := by omega
      have hfn := fun args => hC.out.fn args w2
      clear hrd hwg
      go_wp2_with fail
      refine hcl.out.mono ?_
      rintro e w3 ⟨rfl, F3, D3, hP3, hJ3, hE3⟩
      have hrel : Hid (ChSt S F D w gt gp k J l st' nx (x - 505) w3) := hide (by
        have e1 : (x - 505).toNat = x.toNat - 505 := by omega
        refine ⟨F3, D3, S st1 no, d ++ [(no, ((st1.page no).drop 3).take m)], r', ?_, ?_, hP3, hJ3, ?_, htr.out.ev ((hE2.out.add Da).trans hE3)⟩
        · rw [hdr.out, hr'.out, ← hm.out]; simp
        · rw [e1, hnx.out]; exact hgo'.out
        · exact hE.out.trans ((hE2.out.add Da).trans hE3))
      have hw5 : wrap64 (x - 505) = x - 505 := by unfold wrap64; omega
      have hw5' : IntKind.i64.wrap (x - 505) = x - 505 := IntWalk.i64_in _ (by omega)
      replace hP3 := hide hP3
      replace hJ3 : Hid _ := hide hJ3
      replace hE3 := hide hE3
      clear hcl hfn
      go_wp2_with fail
      go_roundw
      case rel => exact ⟨nx, x - 505, rfl, rfl, by omega, by omega, hrel⟩
      case measure => simp [intOf]; omega
    · have hx : x.toNat = 0 := by omega
      rw [hx] at hgo
      obtain ⟨rfl, rfl⟩ := hgo.done
      have hdone : Hid (ChainEnd F D w gp J l st1 (.returned (.int .i64 0)) wr) := hide (by
        rw [List.append_nil] at hdr
        subst hdr
        exact ⟨rfl, Fa, Da, hP, hJa, hE⟩)
      replace hP := hide hP
      replace hJa : Hid _ := hide hJa
      replace hE := hide hE
      replace htr := hide htr
      replace hgo := hide hgo
      replace hdr := hide hdr
      clear hG hst
      go_wp2_with fail
      go_ret
      exact hdone.out
end Go.Proofs.YtiffnfgmkkoaeaaGreatDoor
namespace Go.Proofs.YtiffnfgmkkoaeaaGreatDoor
open Go.RowKit
set_option linter.unusedVariables false
theorem cellv_here {G : Nat → Prop} {w : World} {c : CellP} {kA vA : Option Addr} {kc vc : Nat} {x y : Value} (h : CellV G w [.slice kA c.key.length kc, .slice vA c.val.length vc, x, y] c) :
    c.key.length ≤ kc ∧ c.val.length ≤ vc ∧ Rd G w 1 kA c.key.length (bv c.key) ∧ Rd G w 1 vA c.val.length (bv c.val) := by
  obtain ⟨kA', kc', vA', vc', e, h1, h2, h3, h4⟩ := h
  injection e with e1 e
  injection e with e2 _
  injection e1 with a1 _ a3
  injection e2 with b1 _ b3
  subst a1; subst a3; subst b1; subst b3
  exact ⟨h1, h2, h3, h4⟩
end Go.Proofs.YtiffnfgmkkoaeaaGreatDoor
