/-
  Contract of tree.value where nothing is outside.
-/
import Derived.Test.YthohbbaglceppaaGreatDoorUCurB
namespace Go.Proofs.YthohbbaglceppaaGreatDoor
open Go.RowKit
set_option linter.unusedVariables false
set_option maxRecDepth 100000 in
theorem value_short (w : World) (gt : Nat) (kA vA : Option Addr) (kl vl kc vc lg : Nat) :
    Calls Tryz.prog 58 #[.pointer (some ⟨gt, 0, none⟩), .agg #[.slice kA kl kc, .slice vA vl vc, .int .i64 0, .int .i64 (lg : Int)]] w fun e w' => e = .returned (.tuple #[.slice vA vl vc, .int .i64 0]) ∧ Below w.heap.size w w' := by
  have hB1 := (Below.refl w.heap.size w).alloc (Nat.le_refl _) (.cells #[.slice kA kl kc, .slice vA vl vc, .int .i64 0, .int .i64 (lg : Int)] 95)
  replace hB1 := hide hB1
  go_enter Tryz.func58, Tryz.ntmps58
  go_wp2_with fail
  go_ret2
  exact ⟨rfl, hB1.out⟩
section
variable {F C : Nat → Prop} {w : World} {gc gt : Nat} {way : List (NodeP × Nat)} {from_ : List UInt8} {tgt er : Int}
theorem cur_tgt (h : CurAt F C w gc gt way from_ tgt er) (t' : Int) : CurAt F C (w.setCell ⟨gc, 3, none⟩ (.int .i64 t')) gc gt way from_ t' er ∧ Ev (FC F C) w (FC F C) (w.setCell ⟨gc, 3, none⟩ (.int .i64 t')) := by
  obtain ⟨wv, fA, fc, hb, hm, ho, rows, h1, h2, h3⟩ := h.mem
  have hE : Ev (FC F C) w (FC F C) (w.setCell ⟨gc, 3, none⟩ (.int .i64 t')) := (Ev.refl _ w).set_ (p := ⟨gc, 3, none⟩) (.inr h.own) _
  have hO : Only (fun k => k = gc) w (w.setCell ⟨gc, 3, none⟩ (.int .i64 t')) := (Only.refl (fun k => k = gc) w).setCell (p := ⟨gc, 3, none⟩) (fun _ => rfl) _
  exact ⟨⟨⟨wv, fA, fc, hb.set_ 3 _, hm.ev hE, ho, rows, h1, hO.row h2 (own_not_blk h2 hb (by decide)), fun k vs s e1 e2 => (h3 k vs s e1 e2).ev hE⟩, h.own, h.apart, fun k hk => Nat.lt_of_lt_of_le (h.lt k hk) hE.size⟩, hE⟩
theorem cur_err (h : CurAt F C w gc gt way from_ tgt er) (t' : Int) : CurAt F C (w.setCell ⟨gc, 4, none⟩ (.int .i64 t')) gc gt way from_ tgt t' ∧ Ev (FC F C) w (FC F C) (w.setCell ⟨gc, 4, none⟩ (.int .i64 t')) := by
  obtain ⟨wv, fA, fc, hb, hm, ho, rows, h1, h2, h3⟩ := h.mem
  have hE : Ev (FC F C) w (FC F C) (w.setCell ⟨gc, 4, none⟩ (.int .i64 t')) := (Ev.refl _ w).set_ (p := ⟨gc, 4, none⟩) (.inr h.own) _
  have hO : Only (fun k => k = gc) w (w.setCell ⟨gc, 4, none⟩ (.int .i64 t')) := (Only.refl (fun k => k = gc) w).setCell (p := ⟨gc, 4, none⟩) (fun _ => rfl) _
  exact ⟨⟨⟨wv, fA, fc, hb.set_ 4 _, hm.ev hE, ho, rows, h1, hO.row h2 (own_not_blk h2 hb (by decide)), fun k vs s e1 e2 => (h3 k vs s e1 e2).ev hE⟩, h.own, h.apart, fun k hk => Nat.lt_of_lt_of_le (h.lt k hk) hE.size⟩, hE⟩
end
end Go.Proofs.YthohbbaglceppaaGreatDoor
namespace Go.Proofs.YthohbbaglceppaaGreatDoor
open Go.RowKit
set_option linter.unusedVariables false
theorem own_cells4 {w : World} {B m : Nat} {e : TypeId} {v : Value} {xs : List Value} (h : w.ownsRow B e 4 v m xs) (hm : 0 < m) : ∃ g cap cur, v = .slice (some ⟨g, 0, none⟩) m cap ∧ Blk w g e cur ∧ m ≤ cap ∧ cap ≤ maxLen ∧ cur.size = cap * 4 ∧ cur.toList.take (m * 4) = xs ∧ B ≤ g := by
  rcases h.2 with ⟨e1, h0⟩ | ⟨g, cap, cur, e1, hg, hh, h3, h4, h5, h6⟩
  · omega
  · exact ⟨g, cap, cur, e1, hh, h3, h4, h5, h6, hg⟩
theorem cur_last {F C : Nat → Prop} {w : World} {gc gt : Nat} {way : List (NodeP × Nat)} {from_ : List UInt8} {tgt er : Int} {n : NodeP} {i : Nat} (h : CurAt F C w gc gt (way ++ [(n, i)]) from_ tgt er) :
    ∃ g cap cur A c B d, Blk w g 169 cur ∧ C g ∧ way.length + 1 ≤ cap ∧ cap ≤ maxLen ∧ w.cell? ⟨gc, 1, none⟩ = some (.slice (some ⟨g, 0, none⟩) (way.length + 1) cap) ∧
      w.cell? ⟨g, way.length * 4, none⟩ = some (.bool n.leaf) ∧ w.cell? ⟨g, way.length * 4 + 1, none⟩ = some (.slice A n.cells.length c) ∧ w.cell? ⟨g, way.length * 4 + 2, none⟩ = some (.slice B n.kids.length d) ∧ w.cell? ⟨g, way.length * 4 + 3, none⟩ = some (.int .i64 (i : Int)) ∧
      NodeM (Mine (FC F C) w) w (.agg #[.bool n.leaf, .slice A n.cells.length c, .slice B n.kids.length d]) n ∧
      ∀ j : Nat, CurAt F C (w.setCell ⟨g, way.length * 4 + 3, none⟩ (.int .i64 (j : Int))) gc gt (way ++ [(n, j)]) from_ tgt er ∧ Ev (FC F C) w (FC F C) (w.setCell ⟨g, way.length * 4 + 3, none⟩ (.int .i64 (j : Int))) := by
  obtain ⟨wv, fA, fc, hb, hm, ho, rows, h1, h2, h3⟩ := h.mem
  obtain ⟨g, cap, cur, rfl, hbg, hcap, hcm, hcs, htk, _⟩ := own_cells4 h2 (by simp)
  have hlen : (way ++ [(n, i)]).length = way.length + 1 := by simp
  rw [hlen] at h1 h2 hcap htk
  have hCg : C g := ho g rfl
  obtain ⟨pre, vs, hpv⟩ : ∃ pre vs, rows = pre ++ [vs] := by
    have : rows ≠ [] := fun e => by rw [e] at h1; simp at h1
    exact ⟨rows.dropLast, rows.getLast this, (List.dropLast_concat_getLast this).symm⟩
  subst hpv
  have hpl : pre.length = way.length := by simp at h1; exact h1
  obtain ⟨A, c, B, d, hvs, hnm⟩ := h3 way.length vs (n, i) (by rw [← hpl]; simp) (by simp)
  subst hvs
  have h4 : ∀ r ∈ pre, r.length = 4 := by
    intro r hr
    obtain ⟨q, hq, e⟩ := List.getElem_of_mem hr
    have hq2 : q < way.length := by omega
    obtain ⟨A', c', B', d', e2, _⟩ := h3 q r way[q] (by rw [List.getElem?_append_left hq, List.getElem?_eq_getElem hq, e]) (by rw [List.getElem?_append_left hq2, List.getElem?_eq_getElem hq2])
    rw [e2]; rfl
  have hpf : pre.flatten.length = way.length * 4 := by
    have := (flatten_take4 pre pre.length h4).2
    rw [List.drop_length] at this
    have h9 : ∀ (l : List (List Value)), (∀ r ∈ l, r.length = 4) → l.flatten.length = l.length * 4 := by
      intro l
      induction l with
      | nil => intro _; rfl
      | cons a t ih => intro hl; rw [List.flatten_cons, List.length_append, ih fun r hr => hl r (.tail _ hr), hl a (.head _), List.length_cons]; omega
    rw [h9 pre h4, hpl]
  have hcell : ∀ j u, [Value.bool n.leaf, .slice A n.cells.length c, .slice B n.kids.length d, .int .i64 (i : Int)][j]? = some u → w.cell? ⟨g, way.length * 4 + j, none⟩ = some u := by
    intro j u hu
    have hj := (List.getElem?_eq_some_iff.1 hu).1
    simp at hj
    rw [hbg.cell]
    have h9 : cur.toList[way.length * 4 + j]? = some u := by
      have e1 : (cur.toList.take ((way.length + 1) * 4))[way.length * 4 + j]? = some u := by
        rw [htk, List.flatten_append, List.getElem?_append_right (by omega), hpf, Nat.add_sub_cancel_left]
        simpa using hu
      rw [List.getElem?_take, if_pos (by omega)] at e1
      exact e1
    simpa using h9
  refine ⟨g, cap, cur, A, c, B, d, hbg, hCg, hcap, hcm, by have := hb.cell 1; rw [hlen] at this; exact this, hcell 0 _ rfl, hcell 1 _ rfl, hcell 2 _ rfl, hcell 3 _ rfl, hnm, fun j => ?_⟩
  have hE : Ev (FC F C) w (FC F C) (w.setCell ⟨g, way.length * 4 + 3, none⟩ (.int .i64 (j : Int))) := (Ev.refl _ w).set_ (p := ⟨g, way.length * 4 + 3, none⟩) (.inr hCg) _
  have hgne : gc ≠ g := Blk.ne_ hb hbg (by decide)
  have hbs := hbg.set_ (way.length * 4 + 3) (.int .i64 (j : Int))
  have hl2 : (way ++ [(n, j)]).length = way.length + 1 := by simp
  refine ⟨⟨⟨_, fA, fc, hb.far (p := ⟨g, way.length * 4 + 3, none⟩) hgne _, hm.ev hE, ho, pre ++ [[.bool n.leaf, .slice A n.cells.length c, .slice B n.kids.length d, .int .i64 (j : Int)]], by rw [hl2]; simp [hpl], ?_, fun q vs' s e1 e2 => ?_⟩, h.own, h.apart, fun k hk => Nat.lt_of_lt_of_le (h.lt k hk) hE.size⟩, hE⟩
  · rw [hl2, hlen]
    refine ⟨by simp [hpf]; omega, .inr ⟨g, cap, _, rfl, Nat.zero_le _, hbs, hcap, hcm, by simp [hcs], ?_⟩⟩
    have e1 : (cur.setIfInBounds (way.length * 4 + 3) (.int .i64 (j : Int))).toList.take ((way.length + 1) * 4) = (cur.toList.take ((way.length + 1) * 4)).set (way.length * 4 + 3) (.int .i64 (j : Int)) := by
      rw [Array.toList_setIfInBounds, List.take_set]
    rw [e1, htk, List.flatten_append, List.flatten_append, List.set_append_right _ _ (by omega), hpf, Nat.add_sub_cancel_left]
    rfl
  · by_cases hq : q < pre.length
    · rw [List.getElem?_append_left hq] at e1
      rw [List.getElem?_append_left (by omega)] at e2
      exact (h3 q vs' s (by rw [List.getElem?_append_left hq]; exact e1) (by rw [List.getElem?_append_left (by omega)]; exact e2)).ev hE
    · have hq2 : q = pre.length := by
        have := (List.getElem?_eq_some_iff.1 e1).1
        simp at this; omega
      subst hq2
      rw [List.getElem?_append_right (Nat.le_refl _), Nat.sub_self] at e1
      rw [hpl, List.getElem?_append_right (Nat.le_refl _), Nat.sub_self] at e2
      simp at e1 e2
      subst e1; subst e2
      exact ⟨A, c, B, d, rfl, hnm.ev hE⟩
end Go.Proofs.YthohbbaglceppaaGreatDoor
namespace Go.Proofs.YthohbbaglceppaaGreatDoor
open Go.RowKit
set_option linter.unusedVariables false
/-- What next leaves where there is a cell. -/
def NextEnd (F C : Nat → Prop) (w : World) (gp : Nat) (st : PgS) (gc gt : Nat) (way : List (NodeP × Nat)) (from_ : List UInt8) (er : Int) (c : CellP) (e : Ending) (w' : World) : Prop :=
  ∃ F' C' kA kc vA vc, e = .returned (.tuple #[.agg #[.slice kA c.key.length kc, .slice vA c.val.length vc, .int .i64 (c.over : Int), .int .i64 (c.long : Int)], .int .i64 0]) ∧
    CellV (Mine (FC F' C') w') w' [.slice kA c.key.length kc, .slice vA c.val.length vc, .int .i64 (c.over : Int), .int .i64 (c.long : Int)] c ∧
    PgAt w' F' gp st ∧ CurAt F' C' w' gc gt way from_ (-1) er ∧ Ev (FC F C) w (FC F' C') w'
theorem cur_wide {F C : Nat → Prop} {w : World} {gc gt : Nat} {way : List (NodeP × Nat)} {from_ : List UInt8} {tgt er : Int} (h : CurAt F C w gc gt way from_ tgt er) (hF : ∀ k, F k → k < w.heap.size) (o : Obj) :
    CurAt F (plus C w.heap.size) (w.alloc o) gc gt way from_ tgt er ∧ Ev (FC F C) w (FC F (plus C w.heap.size)) (w.alloc o) := by
  have hE : Ev (FC F C) w (FC F (plus C w.heap.size)) (w.alloc o) := ((Ev.refl (FC F C) w).alloc o).mono (fun k hk => by
    rcases hk with hk | hk | hk
    · exact .inl (.inl hk)
    · exact .inl (.inr hk)
    · exact .inr hk)
  obtain ⟨wv, fA, fc, hb, hm, ho, rows, h1, h2, h3⟩ := h.mem
  refine ⟨⟨⟨wv, fA, fc, hb.alloc o, hm.ev hE, fun k hk => .inl (ho k hk), rows, h1, ((Only.refl (fun _ => False) w).alloc o).row h2 (fun _ _ h => h), fun k vs s e1 e2 => (h3 k vs s e1 e2).ev hE⟩, .inl h.own, fun k hk hf => hk.elim (fun hk => h.apart k hk hf) (fun e => by have := hF k hf; omega), fun k hk => ?_⟩, hE⟩
  have hz : (w.alloc o).heap.size = w.heap.size + 1 := World.size_alloc _ _
  rcases hk with hk | hk
  · have := h.lt k hk; omega
  · omega
theorem cur_side {F C : Nat → Prop} {w w' : World} {gc gt R : Nat} {way : List (NodeP × Nat)} {from_ : List UInt8} {tgt er : Int} {cs : Array Value} (h : CurAt F C w gc gt way from_ tgt er) (hb : Blk w R 95 cs) (hC : C R) (hO : Only (fun j => j = R) w w') :
    CurAt F C w' gc gt way from_ tgt er ∧ Ev (FC F C) w (FC F C) w' := by
  have hE : Ev (FC F C) w (FC F C) w' := ⟨hO.mono fun j _ e => .inr (by rw [e]; exact hC), fun k hk => .inl hk⟩
  obtain ⟨wv, fA, fc, hbc, hm, ho, rows, h1, h2, h3⟩ := h.mem
  exact ⟨⟨⟨wv, fA, fc, hO.blk hbc (Blk.ne_ hbc hb (by decide)), hm.ev hE, ho, rows, h1, hO.row h2 (fun k hk e => own_blk_ne h2 hb (by decide) (by rw [hk, e])), fun k vs s e1 e2 => (h3 k vs s e1 e2).ev hE⟩, h.own, h.apart, fun k hk => Nat.lt_of_lt_of_le (h.lt k hk) hE.size⟩, hE⟩
set_option maxRecDepth 100000 in
set_option maxHeartbeats 2000000 in
theorem next_first (w : World) (F C : Nat → Prop) (gc gt gp k : Nat) (st : PgS) (h : PgAt w F gp st) (ht : TreeAt w (FC F C) gt gp k) (from_ : List UInt8) (no : Nat) (er : Int) (hc : CurAt F C w gc gt [] from_ (no : Int) er) (hno : 0 < no) (n : NodeP) (hl : LoadR st no n) (hleaf : n.leaf = true) (i : Nat) (hi : i = (findP n from_).1) (c : CellP) (hcc : n.cells[i]? = some c) :
    Calls Tryz.prog 75 #[.pointer (some ⟨gc, 0, none⟩)] w (NextEnd F C w gp st gc gt [(n, i + 1)] from_ er c) := by
  obtain ⟨hc1, hE1⟩ := cur_wide hc h.lt (.cells #[.slice none 0 0, .slice none 0 0, .int .i64 0, .int .i64 0] 95)
  obtain ⟨hc2, hE2⟩ := cur_tgt hc1 (-1)
  have hP2 : PgAt ((w.alloc (.cells #[.slice none 0 0, .slice none 0 0, .int .i64 0, .int .i64 0] 95)).setCell ⟨gc, 3, none⟩ (.int .i64 (-1))) F gp st := (h.alloc _).set_ (p := ⟨gc, 3, none⟩) (hc.apart _ hc.own) _
  have hE12 := hE1.trans hE2
  have hdn := hide (down_leaf _ F (plus C w.heap.size) gc gt gp k st hP2 (ht.ev hE12) [] from_ (-1) er hc2 no n hl hleaf (by simp))
  obtain ⟨wv, fA, fc, hb, _⟩ := hc1.mem
  have k3 : (w.alloc (.cells #[.slice none 0 0, .slice none 0 0, .int .i64 0, .int .i64 0] 95)).cell? ⟨gc, 3, none⟩ = some (.int .i64 (no : Int)) := hb.cell 3
  have z3 := hb.frozen 3
  have hnoI : (0 : Int) < (no : Int) := by omega
  have hmany := hl.2.1.many
  have hno0 : (0 : Int) ≤ (no : Int) := by omega
  have hbz := Blk.new w 95 #[.slice none 0 0, .slice none 0 0, .int .i64 0, .int .i64 0]
  replace h := hide h
  replace ht := hide ht
  replace hc := hide hc
  replace hl := hide hl
  replace hleaf := hide hleaf
  replace hi := hide hi
  replace hcc := hide hcc
  replace hE1 := hide hE1
  replace hc1 := hide hc1
  replace hc2 := hide hc2
  replace hE2 := hide hE2
  replace hE12 := hide hE12
  replace hP2 := hide hP2
  replace hb := hide hb
  replace hbz := hide hbz
  go_enter Tryz.func75, Tryz.ntmps75
  go_wp2_with fail
  refine hdn.out.mono ?_
  rintro e w3 ⟨rfl, F3, C3, hP3, hc3, hE3, hC3, hT3⟩
  have hRg0 : w.heap.size ≠ gc := fun e => by have := hc.out.lt _ hc.out.own; omega
  have hbR3 := hT3 _ _ _ (hbz.out.far (p := ⟨gc, 3, none⟩) hRg0 (.int .i64 (-1))) (fun hf => by have := h.out.lt _ hf; omega) (by decide) (by decide)
  have hCR : C3 w.heap.size := hC3 _ (.inr rfl)
  rw [← hi.out] at hc3
  obtain ⟨g, cap, cur, A, cA, B, cB, hbg, hCg, hcap, hcm, k1, s0, s1, s2, s3, hnm, hset⟩ := cur_last hc3
  simp only [List.length_nil, Nat.zero_mul, Nat.zero_add] at hcap k1 s0 s1 s2 s3 hset
  have hbz3 : ∀ j, w3.cell? ⟨w.heap.size, j, none⟩ = (#[Value.slice none 0 0, .slice none 0 0, .int .i64 0, .int .i64 0])[j]? ∧ w3.frozen? ⟨w.heap.size, j, none⟩ = false := fun j => ⟨hbR3.cell j, hbR3.frozen j⟩
  have y0 := (hbz3 0).1
  have y1 := (hbz3 1).1
  have y2 := (hbz3 2).1
  have y3 := (hbz3 3).1
  have f0 := (hbz3 0).2
  have f1 := (hbz3 1).2
  have f2 := (hbz3 2).2
  have f3 := (hbz3 3).2
  have fg := hbg.frozen 3
  clear hbz3
  obtain ⟨ad, kA, vA, kc, vc, rfl, hh⟩ : ∃ ad kA vA kc vc, A = some ad ∧ CellHere (Mine (FC F3 C3) w3) w3 (ad.add (i * 4)) c kA vA kc vc := by
    obtain ⟨A9, c9, B9, d9, e9, _, _, hcs, _⟩ := hnm
    have hil : i < n.cells.length := (List.getElem?_eq_some_iff.1 hcc.out).1
    obtain ⟨ad, kA, vA, kc, vc, e1, hh⟩ := hcs.at_ i hil
    have e2 : n.cells[i] = c := (List.getElem?_eq_some_iff.1 hcc.out).2
    rw [e2] at hh
    injection e9 with e9
    simp at e9
    exact ⟨ad, kA, vA, kc, vc, e9.1.1.trans e1, hh⟩
  obtain ⟨N, hN⟩ : ∃ N, N = n.cells.length := ⟨_, rfl⟩
  obtain ⟨K, hK⟩ : ∃ K, K = n.kids.length := ⟨_, rfl⟩
  have hiN : i < n.cells.length := (List.getElem?_eq_some_iff.1 hcc.out).1
  rw [← hN] at hnm s1 hiN
  rw [← hK] at hnm s2
  rw [hleaf.out] at s0 hnm
  have hiI : (i : Int) < (N : Int) := by omega
  have hiD : decide ((i : Int) < (N : Int)) = true := decide_eq_true hiI
  have hiDn : decide (i < N) = true := decide_eq_true hiN
  replace hN := hide hN
  replace hK := hide hK
  replace hP3 := hide hP3
  replace hc3 := hide hc3
  replace hE3 := hide hE3
  replace hbg := hide hbg
  replace hbR3 := hide hbR3
  replace hC3 := hide hC3
  replace hT3 : Hid _ := hide hT3
  replace hCg := hide hCg
  replace hnm := hide hnm
  replace hset : Hid _ := hide hset
  go_wp2_with fail
  go_loopw [7] (fun _ wx => wx = w3) (fun _ _ => 0)
  case atStart => exact rfl
  case round =>
    have hwx := hrel
    subst hwx
    go_wp2_with fail
    go_quiet (fail)
    go_upto_region 14 with (fail)
    obtain ⟨W4, hW4⟩ : ∃ W4, W4 = (wr.drewN nq).setCell ⟨g, 3, none⟩ (.int .i64 (wrap64 ((i : Int) + 1))) := ⟨_, rfl⟩
    rw [← hW4]
    have hwz : wrap64 ((i : Int) + 1) = ((i + 1 : Nat) : Int) := by
      have h9 := hmany
      rw [hN.out] at hiN
      unfold wrap64
      omega
    rw [hwz] at hW4
    obtain ⟨hs1, hs2⟩ := hset.out (i + 1)
    have hD : Ev F3 (wr.setCell ⟨g, 3, none⟩ (.int .i64 ((i + 1 : Nat) : Int))) F3 W4 := by
      have q := (Ev.refl F3 (wr.setCell ⟨g, 3, none⟩ (.int .i64 ((i + 1 : Nat) : Int)))).drewN nq
      rw [hW4]; exact q
    have hcu4 := hs1.ev hD
    have hE4 : Ev (FC F3 C3) wr (FC F3 C3) W4 := hs2.trans (hD.add C3)
    have hgF : ¬ F3 g := hc3.out.apart _ hCg.out
    have hP4 : PgAt W4 F3 gp st := by rw [hW4]; exact (hP3.out.drewN nq).set_ (p := ⟨g, 3, none⟩) hgF _
    have hRg : w.heap.size ≠ g := Blk.ne_ hbR3.out hbg.out (by decide)
    have hcs1 : W4.cell? ⟨g, 1, none⟩ = some (.slice (some ad) N cA) := by rw [hW4, World.cell?_setCell_other _ _ _ _ (by simp)]; exact s1
    have hO4 : ∀ b, b ≠ g → W4.heap[b]? = wr.heap[b]? := fun b hb => by rw [hW4]; exact Below.heap_setCell _ ⟨g, 3, none⟩ _ b hb
    have hcell : ∀ b o, b ≠ g → W4.cell? ⟨b, o, none⟩ = wr.cell? ⟨b, o, none⟩ := fun b o hb => World.cell?_of_block (hO4 b hb)
    have hbk := hh.blk
    have hbg4 : (ad.add (i * 4)).block ≠ g := fun e => hbk.2 (by rw [e]; exact .inr hCg.out)
    have hh4 : CellHere (Mine (FC F3 C3) W4) W4 (ad.add (i * 4)) c kA vA kc vc := ⟨(World.cell?_of_block (hO4 _ hbg4)).trans hh.c0, (hcell _ _ hbg4).trans hh.c1, (hcell _ _ hbg4).trans hh.c2, (hcell _ _ hbg4).trans hh.c3, hh.kle, hh.vle, hh.key.ev hE4, hh.val.ev hE4, hE4.mine hbk⟩
    have x0 := hh4.c0
    have x1 := hh4.c1
    have x2 := hh4.c2
    have x3 := hh4.c3
    have hbR4 : Blk W4 w.heap.size 95 #[.slice none 0 0, .slice none 0 0, .int .i64 0, .int .i64 0] := (hO4 _ hRg).trans hbR3.out
    have hfin : Hid (∀ W, W = (((W4.setCell ⟨w.heap.size, 0, none⟩ (.slice kA c.key.length kc)).setCell ⟨w.heap.size, 1, none⟩ (.slice vA c.val.length vc)).setCell ⟨w.heap.size, 2, none⟩ (.int .i64 (c.over : Int))).setCell ⟨w.heap.size, 3, none⟩ (.int .i64 (c.long : Int)) →
        NextEnd F C w gp st gc gt [(n, i + 1)] from_ er c (.returned (.tuple #[.agg #[.slice kA c.key.length kc, .slice vA c.val.length vc, .int .i64 (c.over : Int), .int .i64 (c.long : Int)], .int .i64 0])) W) := by
      refine hide fun W hW => ?_
      have hO : Only (fun j => j = w.heap.size) W4 W := by rw [hW]; exact ((((Only.refl (fun j => j = w.heap.size) W4).setCell (p := ⟨w.heap.size, 0, none⟩) (fun _ => rfl) _).setCell (p := ⟨w.heap.size, 1, none⟩) (fun _ => rfl) _).setCell (p := ⟨w.heap.size, 2, none⟩) (fun _ => rfl) _).setCell (p := ⟨w.heap.size, 3, none⟩) (fun _ => rfl) _
      obtain ⟨k1, k2⟩ := cur_side hcu4 hbR4 hCR hO
      have k3 : PgAt W F3 gp st := hP4.keep (fun j hj => hO.block j (hP4.lt _ hj) (fun e => hc3.out.apart _ hCR (by rw [← e]; exact hj))) hO.size
      exact ⟨F3, C3, kA, kc, vA, vc, rfl, ⟨kA, kc, vA, vc, rfl, hh4.kle, hh4.vle, hh4.key.ev k2, hh4.val.ev k2⟩, k3, k1, hE12.out.trans (hE3.out.trans (hE4.trans k2))⟩
    have y0 : W4.cell? ⟨w.heap.size, 0, none⟩ = some (.slice none 0 0) := hbR4.cell 0
    have y1 : W4.cell? ⟨w.heap.size, 1, none⟩ = some (.slice none 0 0) := hbR4.cell 1
    have y2 : W4.cell? ⟨w.heap.size, 2, none⟩ = some (.int .i64 0) := hbR4.cell 2
    have y3 : W4.cell? ⟨w.heap.size, 3, none⟩ = some (.int .i64 0) := hbR4.cell 3
    have f0 := hbR4.frozen 0
    have f1 := hbR4.frozen 1
    have f2 := hbR4.frozen 2
    have f3 := hbR4.frozen 3
    have hbf := (((hbR4.set_ 0 (.slice kA c.key.length kc)).set_ 1 (.slice vA c.val.length vc)).set_ 2 (.int .i64 (c.over : Int))).set_ 3 (.int .i64 (c.long : Int))
    replace hbf := hide hbf
    replace hbR4 := hide hbR4
    replace hh4 := hide hh4
    replace hh := hide hh
    replace hP4 := hide hP4
    replace hE4 := hide hE4
    replace hcu4 := hide hcu4
    replace hs1 := hide hs1
    replace hs2 := hide hs2
    replace hD := hide hD
    replace hO4 := hide hO4
    replace hcell := hide hcell
    replace hbk := hide hbk
    replace hW4 := hide hW4
    clear s0 s1 s2 s3 k1 fg hwz
    go_wp2_with fail
    refine bodyPost_ret (v := .tuple #[.agg #[.slice kA c.key.length kc, .slice vA c.val.length vc, .int .i64 (c.over : Int), .int .i64 (c.long : Int)], .int .i64 0]) ?_ rfl (hfin.out _ rfl)
    have hbf := hbf.out
    obtain ⟨Wf, hWf⟩ : ∃ Wf, Wf = (((W4.setCell ⟨w.heap.size, 0, none⟩ (.slice kA c.key.length kc)).setCell ⟨w.heap.size, 1, none⟩ (.slice vA c.val.length vc)).setCell ⟨w.heap.size, 2, none⟩ (.int .i64 (c.over : Int))).setCell ⟨w.heap.size, 3, none⟩ (.int .i64 (c.long : Int)) := ⟨_, rfl⟩
    rw [← hWf] at hbf ⊢
    have j0 : Wf.cell? ⟨w.heap.size, 0, none⟩ = some (.slice kA c.key.length kc) := hbf.cell 0
    have j1 : Wf.cell? ⟨w.heap.size, 1, none⟩ = some (.slice vA c.val.length vc) := hbf.cell 1
    have j2 : Wf.cell? ⟨w.heap.size, 2, none⟩ = some (.int .i64 (c.over : Int)) := hbf.cell 2
    have j3 : Wf.cell? ⟨w.heap.size, 3, none⟩ = some (.int .i64 (c.long : Int)) := hbf.cell 3
    simp [results, Tryz.results75, go_sem, j0, j1, j2, j3]
end Go.Proofs.YthohbbaglceppaaGreatDoor
namespace Go.Proofs.YthohbbaglceppaaGreatDoor
open Go.RowKit
set_option linter.unusedVariables false
theorem cellv_here {G : Nat → Prop} {w : World} {c : CellP} {kA vA : Option Addr} {kc vc : Nat} {x y : Value} (h : CellV G w [.slice kA c.key.length kc, .slice vA c.val.length vc, x, y] c) :
    c.key.length ≤ kc ∧ c.val.length ≤ vc ∧ Rd G w 1 kA c.key.length (bv c.key) ∧ Rd G w 1 vA c.val.length (bv c.val) := by
  obtain ⟨kA', kc', vA', vc', e, h1, h2, h3, h4⟩ := h
  injection e with e1 e
  injection e with e2 _
  injection e1 with a1 _ a3
  injection e2 with b1 _ b3
  subst a1; subst a3; subst b1; subst b3
  exact ⟨h1, h2, h3, h4⟩
/-- What Next leaves where there is a cell. -/
def NxEnd (F C : Nat → Prop) (w : World) (gp : Nat) (st : PgS) (gc gt : Nat) (way : List (NodeP × Nat)) (from_ : List UInt8) (c : CellP) (e : Ending) (w' : World) : Prop :=
  ∃ F' C' kA kc vA vc, e = .returned (.tuple #[.slice kA c.key.length kc, .slice vA c.val.length vc, .int .i64 0]) ∧ RB w' w'.heap.size kA c.key.length c.key ∧ RB w' w'.heap.size vA c.val.length c.val ∧ c.key.length ≤ kc ∧ c.val.length ≤ vc ∧
    PgAt w' F' gp st ∧ CurAt F' C' w' gc gt way from_ (-1) 0 ∧ Ev (FC F C) w (FC F' C') w'
set_option maxRecDepth 100000 in
set_option maxHeartbeats 2000000 in
theorem cnext_first (w : World) (F C : Nat → Prop) (gc gt gp k : Nat) (st : PgS) (h : PgAt w F gp st) (ht : TreeAt w (FC F C) gt gp k) (from_ : List UInt8) (no : Nat) (hc : CurAt F C w gc gt [] from_ (no : Int) 0) (hno : 0 < no) (n : NodeP) (hl : LoadR st no n) (hleaf : n.leaf = true) (i : Nat) (hi : i = (findP n from_).1) (c : CellP) (hcc : n.cells[i]? = some c) (hov : c.over = 0) (hkl : c.key.length ≤ 100000) (hvl : c.val.length ≤ 100000) :
    Calls Tryz.prog 31 #[.pointer (some ⟨gc, 0, none⟩)] w (NxEnd F C w gp st gc gt [(n, i + 1)] from_ c) := by
  have hn := hide (next_first w F C gc gt gp k st h ht from_ no 0 hc hno n hl hleaf i hi c hcc)
  obtain ⟨wv0, fA0, fc0, hb0, _⟩ := hc.mem
  have a4 : w.cell? ⟨gc, 4, none⟩ = some (.int .i64 0) := hb0.cell 4
  replace h := hide h
  replace ht := hide ht
  replace hc := hide hc
  replace hl := hide hl
  replace hleaf := hide hleaf
  replace hi := hide hi
  replace hcc := hide hcc
  replace hb0 := hide hb0
  go_enter Tryz.func31, Tryz.ntmps31
  go_wp2_with fail
  refine hn.out.mono ?_
  rintro e w3 ⟨F3, C3, kA, kc, vA, vc, rfl, hcv, hP3, hc3, hE3⟩
  rw [hov]
  obtain ⟨v1, v2, v3, v4⟩ := cellv_here hcv
  obtain ⟨L, hL⟩ : ∃ L, L = c.key.length := ⟨_, rfl⟩
  obtain ⟨M, hM⟩ : ∃ M, M = c.val.length := ⟨_, rfl⟩
  rw [← hL] at v1 v3 hkl
  rw [← hM] at v2 v4 hvl
  rw [← hL, ← hM]
  have hE4 : Ev F3 w3 F3 (w3.alloc (.cells #[.slice kA L kc, .slice vA M vc, .int .i64 0, .int .i64 (c.long : Int)] 95)) := (Ev.refl F3 w3).alloc_ _
  have hc4 := hc3.ev hE4
  have hP4 := hP3.alloc (.cells #[.slice kA L kc, .slice vA M vc, .int .i64 0, .int .i64 (c.long : Int)] 95)
  have hbc4 := Blk.new w3 95 #[.slice kA L kc, .slice vA M vc, .int .i64 0, .int .i64 (c.long : Int)]
  obtain ⟨W4, hW4⟩ : ∃ W4, W4 = w3.alloc (.cells #[.slice kA L kc, .slice vA M vc, .int .i64 0, .int .i64 (c.long : Int)] 95) := ⟨_, rfl⟩
  obtain ⟨R, hR⟩ : ∃ R, R = w3.heap.size := ⟨_, rfl⟩
  rw [← hW4] at hE4 hc4 hP4 hbc4
  rw [← hR] at hbc4
  have h4a := hE4.add C3
  have u3 := v3.ev h4a
  have u4 := v4.ev h4a
  obtain ⟨hc5, hE5⟩ := cur_err hc4 0
  have hRg : R ≠ gc := fun e => by
    have h9 := hc3.lt _ hc3.own
    omega
  obtain ⟨wv4, fA4, fc4, hb4, _⟩ := hc4.mem
  have z4 : W4.cell? ⟨gc, 4, none⟩ = some (.int .i64 0) := hb4.cell 4
  have y4 := hb4.frozen 4
  obtain ⟨wv5, fA5, fc5, hb5, _⟩ := hc5.mem
  have hP5 : PgAt (W4.setCell ⟨gc, 4, none⟩ (.int .i64 0)) F3 gp st := hP4.set_ (p := ⟨gc, 4, none⟩) (hc4.apart _ hc4.own) _
  have hbc5 := hbc4.far (p := ⟨gc, 4, none⟩) hRg (.int .i64 0)
  obtain ⟨W5, hW5⟩ : ∃ W5, W5 = W4.setCell ⟨gc, 4, none⟩ (.int .i64 0) := ⟨_, rfl⟩
  rw [← hW5] at hc5 hE5 hb5 hP5 hbc5
  have t3 := u3.ev hE5
  have t4 := u4.ev hE5
  have b0 : W5.cell? ⟨gc, 0, none⟩ = some (.pointer (some ⟨gt, 0, none⟩)) := hb5.cell 0
  have r0 : W5.cell? ⟨R, 0, none⟩ = some (.slice kA L kc) := hbc5.cell 0
  have r1 : W5.cell? ⟨R, 1, none⟩ = some (.slice vA M vc) := hbc5.cell 1
  have r2 : W5.cell? ⟨R, 2, none⟩ = some (.int .i64 0) := hbc5.cell 2
  have r3 : W5.cell? ⟨R, 3, none⟩ = some (.int .i64 (c.long : Int)) := hbc5.cell 3
  have hval := hide (value_short W5.drew gt kA vA L M kc vc c.long)
  replace hL := hide hL
  replace hM := hide hM
  replace hcv := hide hcv
  replace hP3 := hide hP3
  replace hc3 := hide hc3
  replace hE3 := hide hE3
  replace v3 := hide v3
  replace v4 := hide v4
  replace u3 := hide u3
  replace u4 := hide u4
  replace t3 := hide t3
  replace t4 := hide t4
  replace hE4 := hide hE4
  replace hc4 := hide hc4
  replace hP4 := hide hP4
  replace hbc4 := hide hbc4
  replace h4a := hide h4a
  replace hc5 := hide hc5
  replace hE5 := hide hE5
  replace hb4 := hide hb4
  replace hb5 := hide hb5
  replace hP5 := hide hP5
  replace hbc5 := hide hbc5
  clear hn
  replace hW4 := hide hW4
  replace hW5 := hide hW5
  replace hR := hide hR
  go_upto_region 6 with (fail)
  rw [← hW4.out, ← hR.out]
  go_upto_region 9 with (fail)
  rw [← hW5.out]
  go_region_held3 (fun w' => w'.cell? ⟨gc, 0, none⟩ = some (.pointer (some ⟨gt, 0, none⟩)) ∧ w'.cell? ⟨R, 0, none⟩ = some (.slice kA L kc) ∧ w'.cell? ⟨R, 1, none⟩ = some (.slice vA M vc) ∧ w'.cell? ⟨R, 2, none⟩ = some (.int .i64 0) ∧ w'.cell? ⟨R, 3, none⟩ = some (.int .i64 (c.long : Int))) (first | exact ⟨b0, r0, r1, r2, r3⟩ | exact hS6) (first
    | (go_at_call 58; refine hval.out.mono ?_; rintro e w6 ⟨rfl, hB6⟩; have hS6 := (show w6.cell? ⟨gc, 0, none⟩ = some (.pointer (some ⟨gt, 0, none⟩)) ∧ w6.cell? ⟨R, 0, none⟩ = some (.slice kA L kc) ∧ w6.cell? ⟨R, 1, none⟩ = some (.slice vA M vc) ∧ w6.cell? ⟨R, 2, none⟩ = some (.int .i64 0) ∧ w6.cell? ⟨R, 3, none⟩ = some (.int .i64 (c.long : Int)) from ⟨(hB6.cell (World.block_lt_of_cell? W5 _ b0)).trans b0, (hB6.cell (World.block_lt_of_cell? W5 _ r0)).trans r0, (hB6.cell (World.block_lt_of_cell? W5 _ r1)).trans r1, (hB6.cell (World.block_lt_of_cell? W5 _ r2)).trans r2, (hB6.cell (World.block_lt_of_cell? W5 _ r3)).trans r3⟩); replace hB6 := hide hB6))
  have hE6 : Ev F3 W5 F3 w6 := ((Ev.refl F3 W5).drew).below hB6.out
  have hE6' := hE6.add C3
  have hc6 := hc5.out.ev hE6
  have hP6 : PgAt w6 F3 gp st := hP5.out.drew.below hB6.out
  have hbc6 : Blk w6 R 95 #[.slice kA L kc, .slice vA M vc, .int .i64 0, .int .i64 (c.long : Int)] := (show Blk W5.drew R 95 _ from hbc5.out).below hB6.out hbc5.out.lt
  have s3 := t3.out.ev hE6'
  have s4 := t4.out.ev hE6'
  obtain ⟨hc7, hE7⟩ := cur_err hc6 0
  obtain ⟨wv6, fA6, fc6, hb6, _⟩ := hc6.mem
  have z6 : w6.cell? ⟨gc, 4, none⟩ = some (.int .i64 0) := hb6.cell 4
  have y6 := hb6.frozen 4
  have hP7 : PgAt (w6.setCell ⟨gc, 4, none⟩ (.int .i64 0)) F3 gp st := hP6.set_ (p := ⟨gc, 4, none⟩) (hc6.apart _ hc6.own) _
  have hbc7 := hbc6.far (p := ⟨gc, 4, none⟩) hRg (.int .i64 0)
  have hev7 : Ev (FC F C) w (FC F3 C3) (w6.setCell ⟨gc, 4, none⟩ (.int .i64 0)) := hE3.out.trans ((hE4.out.add C3).trans (hE5.out.trans (hE6'.trans hE7)))
  have q3 := s3.ev hE7
  have q4 := s4.ev hE7
  obtain ⟨W7, hW7⟩ : ∃ W7, W7 = w6.setCell ⟨gc, 4, none⟩ (.int .i64 0) := ⟨_, rfl⟩
  rw [← hW7] at hc7 hE7 hP7 hbc7 hev7 q3 q4
  have n0 : W7.cell? ⟨R, 0, none⟩ = some (.slice kA L kc) := hbc7.cell 0
  have rk : RB W7 W7.heap.size kA L c.key := by have := q3.readsM; rw [hL.out] at this ⊢; exact this
  have rv : RB W7 W7.heap.size vA M c.val := by have := q4.readsM; rw [hM.out] at this ⊢; exact this
  have hk1 := hide (tclone_any kA L kc c.key W7 rk (by omega))
  have hk2 : Hid (∀ w8, Below W7.heap.size W7 w8 → Calls Tryz.prog 76 #[.slice vA M vc] w8 (RetB w8 c.val)) := hide fun w8 hB => tclone_any vA M vc c.val w8 ((rv.below hB).more hB.size) (by omega)
  replace hE6 := hide hE6
  replace hE6' := hide hE6'
  replace hc6 := hide hc6
  replace hP6 := hide hP6
  replace hbc6 := hide hbc6
  replace s3 := hide s3
  replace s4 := hide s4
  replace hc7 := hide hc7
  replace hE7 := hide hE7
  replace hb6 := hide hb6
  replace hP7 := hide hP7
  replace hbc7 := hide hbc7
  replace hev7 := hide hev7
  replace q3 := hide q3
  replace q4 := hide q4
  replace rk := hide rk
  replace rv := hide rv
  replace hW7 := hide hW7
  clear r0 r1 r2 r3 b0 z4 y4
  go_upto_region 13 with (fail)
  rw [← hW7.out]
  go_wp2_with fail
  refine hk1.out.mono ?_
  rintro e w8 ⟨v8, rfl, hO8, hB8⟩
  obtain ⟨A8, c8, rfl, hR8, _, hl8, _⟩ := hO8.form
  have hk3 := hide (hk2.out w8 hB8)
  replace hO8 := hide hO8
  replace hR8 := hide hR8
  replace hB8 := hide hB8
  go_wp2_with fail
  refine hk3.out.mono ?_
  rintro e w9 ⟨v9, rfl, hO9, hB9⟩
  obtain ⟨A9, c9, rfl, hR9, _, hl9, _⟩ := hO9.form
  have hB79 : Below W7.heap.size W7 w9 := hB8.out.trans (hB9.mono hB8.out.size)
  have hfin : Hid (NxEnd F C w gp st gc gt [(n, i + 1)] from_ c (.returned (.tuple #[.slice A8 c.key.length c8, .slice A9 c.val.length c9, .int .i64 0])) w9) := by
    exact hide ⟨F3, C3, A8, c8, A9, c9, rfl, (hR8.out.below hB9).more hB9.size, hR9, hl8, hl9, hP7.out.below hB79, hc7.out.ev (Ev.of_below hB79), hev7.out.below hB79⟩
  replace hO9 := hide hO9
  replace hR9 := hide hR9
  replace hB9 := hide hB9
  replace hB79 := hide hB79
  go_wp2_with fail
  go_ret3
  exact hfin.out
end Go.Proofs.YthohbbaglceppaaGreatDoor
