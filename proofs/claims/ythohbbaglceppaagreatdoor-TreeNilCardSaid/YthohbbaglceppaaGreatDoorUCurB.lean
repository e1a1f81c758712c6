/-
  Contract of Cursor.down at a leaf.
-/
import Derived.Test.YthohbbaglceppaaGreatDoorUCurA
namespace Go.Proofs.YthohbbaglceppaaGreatDoor
open Go.RowKit
set_option linter.unusedVariables false
theorem step_info : (Tryz.prog.info? 169).map (fun i => (i.zero, i.size, i.bytes)) = some (some (.agg #[.bool false, .slice none 0 0, .slice none 0 0, .int .i64 0]), 4, 64) := by kernel_rfl
theorem run_app_step (w : World) (base : Nat) (v : Value) (m : Nat) (xs : List Value) (hown : w.ownsRow base 169 4 v m xs) (g : Nat) (x0 x1 x2 x3 : Value) (h1 : ∀ u ∈ [x0, x1, x2, x3], u.oneCell' = true) (hb : Blk w g 169 #[x0, x1, x2, x3]) (ty : TypeId) (hlen : m + 1 ≤ 1000000) (hbase : base ≤ w.heap.size) :
    ∃ v' w', (Builtin.append_ #[126, 126] ty #[v, .slice (some ⟨g, 0, none⟩) 1 1]).run Tryz.prog w = .ok v' w' ∧ w'.ownsRow base 169 4 v' (m + 1) (xs ++ [x0, x1, x2, x3]) ∧ w.grownBy w' v.ownBlock ∧ (v'.ownBlock = v.ownBlock ∨ v'.ownBlock = some w.heap.size) := by
  obtain ⟨i0, hi0, hz0, hz1, hz2⟩ := info_parts step_info
  exact run_append_any (P := Tryz.prog) w base 126 ty 169 i0 _ 4 64 Tryz.underlying126 hi0 hz0 hz1 hz2 rfl (by omega) v m xs hown w.heap.size (some ⟨g, 0, none⟩) 1 1 [x0, x1, x2, x3] ⟨rfl, fun _ => ⟨_, rfl, hb.lt, fun j u hu => by
      have e : (Addr.mk g 0 none).add j = ⟨g, j, none⟩ := by
        unfold Addr.add
        by_cases h0 : j = 0
        · subst h0; rfl
        · rw [if_neg h0]; simp
      rw [e, hb.cell]
      simpa using hu⟩⟩ h1 (by simp only [maxLen]; omega) (by omega) hbase
/-- One step more behind a cursor's way. -/
theorem cur_push {F C : Nat → Prop} {w w5 : World} {gc gt : Nat} {way : List (NodeP × Nat)} {from_ : List UInt8} {tgt er : Int} {wv v5 : Value} {fA : Option Addr} {fc : Nat} {rows : List (List Value)} {vs : List Value} {s : NodeP × Nat}
    (hbc : Blk w gc 128 #[.pointer (some ⟨gt, 0, none⟩), wv, .slice fA from_.length fc, .int .i64 tgt, .int .i64 er]) (hm : MB (FC F C) w fA from_.length from_) (ho : ∀ k, wv.ownBlock = some k → C k) (h1 : rows.length = way.length) (h2 : w.ownsRow 0 169 4 wv way.length rows.flatten)
    (h3 : ∀ (k : Nat) (vs : List Value) (s : NodeP × Nat), rows[k]? = some vs → way[k]? = some s → StepV (Mine (FC F C) w) w vs s) (own : C gc) (apart : ∀ k, C k → ¬ F k) (lt : ∀ k, C k → k < w.heap.size) (hF : ∀ k, F k → k < w.heap.size) (hs : StepV (Mine (FC F C) w) w vs s)
    (hg : w.grownBy w5 wv.ownBlock) (hown : w5.ownsRow 0 169 4 v5 (way.length + 1) (rows.flatten ++ vs)) (hv : v5.ownBlock = wv.ownBlock ∨ v5.ownBlock = some w.heap.size) :
    CurAt F (fun k => C k ∨ v5.ownBlock = some k) (w5.setCell ⟨gc, 1, none⟩ v5) gc gt (way ++ [s]) from_ tgt er ∧ Ev (FC F C) w (FC F (fun k => C k ∨ v5.ownBlock = some k)) (w5.setCell ⟨gc, 1, none⟩ v5) := by
  have hnew : ∀ k, v5.ownBlock = some k → C k ∨ k = w.heap.size := fun k hk => by
    rcases hv with e | e
    · exact .inl (ho k (by rw [← e]; exact hk))
    · rw [e] at hk; injection hk with hk; exact .inr hk.symm
  have hO : Only (FC F C) w (w5.setCell ⟨gc, 1, none⟩ v5) := ((Only.refl (FC F C) w).grown hg (fun k hk _ => .inr (ho k hk))).setCell (p := ⟨gc, 1, none⟩) (fun _ => .inr own) v5
  have hE : Ev (FC F C) w (FC F (fun k => C k ∨ v5.ownBlock = some k)) (w5.setCell ⟨gc, 1, none⟩ v5) := ⟨hO, fun k hk => by
    rcases hk with hk | hk | hk
    · exact .inl (.inl hk)
    · exact .inl (.inr hk)
    · rcases hnew k hk with h9 | h9
      · exact .inl (.inr h9)
      · exact .inr (by omega)⟩
  have hgc : some gc ≠ wv.ownBlock := fun e => own_blk_ne h2 hbc (by decide) e.symm
  have hb5 := (hbc.grown hg hgc).set_ 1 v5
  have hO2 : Only (fun k => k = gc) w5 (w5.setCell ⟨gc, 1, none⟩ v5) := (Only.refl (fun k => k = gc) w5).setCell (p := ⟨gc, 1, none⟩) (fun _ => rfl) v5
  have hs5 : w5.heap.size ≤ (w5.setCell ⟨gc, 1, none⟩ v5).heap.size := hO2.size
  refine ⟨⟨⟨v5, fA, fc, hb5, hm.ev hE, fun k hk => .inr hk, rows ++ [vs], by simp [h1], ?_, fun k vs' s' e1 e2 => ?_⟩, .inl own, fun k hk hf => ?_, fun k hk => ?_⟩, hE⟩
  · rw [List.length_append, List.flatten_append]
    simp only [List.flatten_cons, List.flatten_nil, List.append_nil, List.length_cons, List.length_nil, Nat.zero_add]
    exact hO2.row hown (own_not_blk hown (hbc.grown hg hgc) (by decide))
  · by_cases hk : k < rows.length
    · rw [List.getElem?_append_left hk] at e1
      rw [List.getElem?_append_left (by omega)] at e2
      exact (h3 k vs' s' e1 e2).ev hE
    · have hk2 : k = rows.length := by
        have := (List.getElem?_eq_some_iff.1 e1).1
        simp at this; omega
      subst hk2
      rw [List.getElem?_append_right (Nat.le_refl _), Nat.sub_self] at e1
      rw [h1, List.getElem?_append_right (Nat.le_refl _), Nat.sub_self] at e2
      simp at e1 e2
      subst e1; subst e2
      exact hs.ev hE
  · rcases hk with hk | hk
    · exact apart k hk hf
    · rcases hnew k hk with h9 | h9
      · exact apart k h9 hf
      · have := hF k hf; omega
  · rcases hk with hk | hk
    · have h8 := lt k hk; have h9 := hg.size; omega
    · have := (own_lt hown hk).2; omega
/-- What down leaves. -/
def DownEnd (F C : Nat → Prop) (w : World) (gp : Nat) (st : PgS) (gc gt : Nat) (way : List (NodeP × Nat)) (from_ : List UInt8) (tgt er : Int) (e : Ending) (w' : World) : Prop :=
  e = .returned (.int .i64 0) ∧ ∃ F' C', PgAt w' F' gp st ∧ CurAt F' C' w' gc gt way from_ tgt er ∧ Ev (FC F C) w (FC F' C') w' ∧ (∀ k, C k → C' k) ∧ ∀ (g : Nat) (t : TypeId) (cs : Array Value), Blk w g t cs → ¬ F g → t ≠ 128 → t ≠ 169 → Blk w' g t cs
set_option maxRecDepth 100000 in
set_option maxHeartbeats 2000000 in
theorem down_leaf (w : World) (F C : Nat → Prop) (gc gt gp k : Nat) (st : PgS) (h : PgAt w F gp st) (ht : TreeAt w (FC F C) gt gp k) (way : List (NodeP × Nat)) (from_ : List UInt8) (tgt er : Int) (hc : CurAt F C w gc gt way from_ tgt er) (no : Nat) (n : NodeP) (hl : LoadR st no n) (hleaf : n.leaf = true) (hway : way.length ≤ 1000) :
    Calls Tryz.prog 126 #[.pointer (some ⟨gc, 0, none⟩), .int .i64 (no : Int), .bool false] w (DownEnd F C w gp st gc gt (way ++ [(n, (findP n from_).1)]) from_ tgt er) := by
  have htF : TreeAt w F gt gp k := ⟨ht.blk, fun hf => ht.out (.inl hf)⟩
  have hld := hide (load_any w F gt gp k st h htF no n hl hleaf)
  obtain ⟨wv, fA, fc, hbc, hmc, hoc, rows, hr1, hr2, hr3⟩ := hc.mem
  have q0 : w.cell? ⟨gc, 0, none⟩ = some (.pointer (some ⟨gt, 0, none⟩)) := hbc.cell 0
  have hgc := Blk.lt hbc
  have hgcF : ¬ F gc := hc.apart _ hc.own
  have hrise := hl.2.1.rise
  have hmany := hl.2.1.many
  obtain ⟨L, hL⟩ : ∃ L, L = from_.length := ⟨_, rfl⟩
  obtain ⟨P, hP⟩ : ∃ P, P = way.length := ⟨_, rfl⟩
  rw [← hL] at hbc hmc
  rw [← hP] at hr1 hr2
  obtain ⟨wA, wc, rfl⟩ := own_form hr2
  replace h := hide h
  replace ht := hide ht
  replace htF := hide htF
  replace hc := hide hc
  replace hl := hide hl
  replace hbc := hide hbc
  replace hmc := hide hmc
  replace hoc := hide hoc
  replace hr1 := hide hr1
  replace hr2 := hide hr2
  replace hr3 := hide hr3
  replace hL := hide hL
  replace hP := hide hP
  replace hrise := hide hrise
  replace hmany := hide hmany
  replace hgcF := hide hgcF
  obtain ⟨lf, hlf⟩ : ∃ lf, lf = n.leaf := ⟨_, rfl⟩
  have hlt : lf = true := hlf.trans hleaf
  subst hlt
  replace hlf := hide hlf
  replace hleaf := hide hleaf
  go_enter Tryz.func126, Tryz.ntmps126
  go_wp2_with fail
  go_loopw [1] (fun v1 wx => v1 = .int .i64 (no : Int) ∧ wx = w) (fun _ _ => 0)
  case atStart => exact ⟨rfl, rfl⟩
  case round =>
    obtain ⟨rfl, hwx⟩ := hrel
    subst hwx
    go_wp2_with fail
    go_at_call 56
    refine hld.out.mono ?_
    rintro e w1 ⟨F1, cv, kv, B0, rfl, hP1, hE1, hF1, hwB, hO1⟩
    rw [← hlf.out]
    have hn1 : NodeM (Mine (FC F1 C) w1) w1 (.agg #[.bool n.leaf, cv, kv]) n := (hO1.toW (F := FC F1 C) (fun j hj => by
      rcases hj with hj | hj
      · exact hF1 j hj
      · have := hc.out.lt j hj; omega)).nodeM
    obtain ⟨A1, c1, rfl⟩ := own_form hO1.kids
    obtain ⟨A2, c2, rfl⟩ := own_form hO1.rows.choose_spec.2.1
    obtain ⟨N, hN⟩ : ∃ N, N = n.cells.length := ⟨_, rfl⟩
    obtain ⟨K, hK⟩ : ∃ K, K = n.kids.length := ⟨_, rfl⟩
    rw [← hN, ← hK, ← hlf.out] at hn1
    rw [← hN, ← hK]
    have hnF1 : ¬ F1 w1.heap.size := fun hf => by have := hP1.lt _ hf; omega
    have hbn := Blk.new w1 101 #[.bool true, .slice A2 N c2, .slice A1 K c1]
    have hE2 : Ev F wr F1 (w1.alloc (.cells #[.bool true, .slice A2 N c2, .slice A1 K c1] 101)) := hE1.alloc_ _
    have hcu := hc.out.ev hE2
    have hbc2 : Blk (w1.alloc (.cells #[.bool true, .slice A2 N c2, .slice A1 K c1] 101)) gc 128 #[.pointer (some ⟨gt, 0, none⟩), .slice wA P wc, .slice fA L fc, .int .i64 tgt, .int .i64 er] := hE2.blk hbc.out hgcF.out
    have hP2 := hP1.alloc (.cells #[.bool true, .slice A2 N c2, .slice A1 K c1] 101)
    have hfd := hide (find_any (w1.alloc (.cells #[.bool true, .slice A2 N c2, .slice A1 K c1] 101)).drew (.agg #[.bool true, .slice A2 N c2, .slice A1 K c1]) n ((hn1.ev ((Ev.refl (FC F1 C) w1).alloc_ (.cells #[.bool true, .slice A2 N c2, .slice A1 K c1] 101)).drew).old fun k hk => hk.1) hrise.out (by have := hmany.out; omega) fA fc from_ (by have h9 := (hmc.out.ev (hE2.drew.add C)).rb; rw [hL.out] at h9; exact h9))
    rw [← hL.out] at hfd
    obtain ⟨I, hI⟩ : ∃ I, I = (findP n from_).1 := ⟨_, rfl⟩
    obtain ⟨S, hS⟩ : ∃ S, S = (findP n from_).2 := ⟨_, rfl⟩
    rw [← hI, ← hS] at hfd
    have m0 := hbn.cell 0
    have m1 := hbn.cell 1
    have m2 := hbn.cell 2
    have b1 := hbc2.cell 1
    have b2 := hbc2.cell 2
    replace hN := hide hN
    replace hK := hide hK
    replace hI := hide hI
    replace hS := hide hS
    replace hn1 := hide hn1
    replace hO1 := hide hO1
    replace hF1 := hide hF1
    replace hP1 := hide hP1
    replace hE1 := hide hE1
    replace hP2 := hide hP2
    replace hE2 := hide hE2
    replace hbn := hide hbn
    replace hbc2 := hide hbc2
    replace hcu := hide hcu
    replace hnF1 := hide hnF1
    go_wp2_with fail
    go_region_law (go_simp; go_at_call 57; refine hfd.out.mono ?_; rintro e w3 ⟨rfl, hB3⟩; have hb3 := hbn.out.drew.below hB3 (Blk.lt hbn.out); have o0 := hb3.cell 0; have o1 := hb3.cell 1; have o2 := hb3.cell 2; have hg3 := hbc2.out.drew.below hB3 (Blk.lt hbc2.out); have j1 := hg3.cell 1; have fz := hg3.frozen 1; replace hb3 := hide hb3; replace hg3 := hide hg3; replace hB3 := hide hB3)
    all_goals
      have hE3 : Ev F wr F1 w3 := hE2.out.drew.below hB3.out
      have hP3 : PgAt w3 F1 gp st := hP2.out.drew.below hB3.out
      have hrow3 := hE3.only.row hr2.out (fun k hk => hc.out.apart k (hoc.out k hk))
      have hb4 := Blk.new w3 169 #[.bool true, .slice A2 N c2, .slice A1 K c1, .int .i64 (I : Int)]
      have hrow4 : ((w3.alloc (.cells #[.bool true, .slice A2 N c2, .slice A1 K c1, .int .i64 (I : Int)] 169)).drew).ownsRow 0 169 4 (.slice wA P wc) P rows.flatten := (((Only.refl (fun _ => False) w3).alloc _).drew).row hrow3 (fun _ _ h => h)
      obtain ⟨v5, w5, hrun, hown5, hg5, hv5⟩ := run_app_step _ 0 _ P rows.flatten hrow4 w3.heap.size (.bool true) (.slice A2 N c2) (.slice A1 K c1) (.int .i64 (I : Int)) (by intro u hu; simp at hu; rcases hu with rfl | rfl | rfl | rfl <;> rfl) (show Blk (w3.alloc _).drew w3.heap.size 169 _ from hb4) 126 (by have := hP.out; omega) (Nat.zero_le _)
      have hE4 := (hE3.alloc_ (.cells #[.bool true, .slice A2 N c2, .slice A1 K c1, .int .i64 (I : Int)] 169)).drew
      have hP4 := (hP3.alloc (.cells #[.bool true, .slice A2 N c2, .slice A1 K c1, .int .i64 (I : Int)] 169)).drew
      have hpush := cur_push (s := (n, I)) (vs := [.bool true, .slice A2 N c2, .slice A1 K c1, .int .i64 (I : Int)]) (way := way) (from_ := from_) (by rw [← hL.out]; exact hE4.blk hbc.out hgcF.out) (by rw [← hL.out]; exact hmc.out.ev (hE4.add C)) hoc.out (by rw [← hP.out]; exact hr1.out) (by rw [← hP.out]; exact hrow4) (fun k vs s e1 e2 => (hr3.out k vs s e1 e2).ev (hE4.add C)) hc.out.own (hc.out.ev hE4).apart (hc.out.ev hE4).lt hP4.lt ⟨A2, c2, A1, c1, by show [Value.bool true, .slice A2 N c2, .slice A1 K c1, .int .i64 (I : Int)] = [.bool n.leaf, .slice A2 n.cells.length c2, .slice A1 n.kids.length c1, .int .i64 (I : Int)]; rw [← hN.out, ← hK.out, ← hlf.out], by
        have h9 := hn1.out.ev ((((Ev.refl (FC F1 C) w1).alloc_ (.cells #[.bool true, .slice A2 N c2, .slice A1 K c1] 101)).drew.below hB3.out).alloc_ (.cells #[.bool true, .slice A2 N c2, .slice A1 K c1, .int .i64 (I : Int)] 169)).drew
        show NodeM _ _ (.agg #[.bool n.leaf, .slice A2 n.cells.length c2, .slice A1 n.kids.length c1]) n
        rw [← hlf.out, ← hN.out, ← hK.out]
        exact h9⟩ hg5 (by rw [← hP.out]; exact hown5) hv5
      have hdone : Hid (DownEnd F C wr gp st gc gt (way ++ [(n, (findP n from_).1)]) from_ tgt er (.returned (.int .i64 0)) (w5.setCell ⟨gc, 1, none⟩ v5)) := hide (by
        rw [← hI.out]
        refine ⟨rfl, F1, _, ?_, hpush.1, (hE4.add C).trans hpush.2, fun k hk => .inl hk, fun g t cs hb hnf ht1 ht2 => ((hE4.blk hb hnf).grown hg5 (fun e => own_blk_ne hrow4 (hE4.blk hb hnf) ht2.symm e.symm)).far (p := ⟨gc, 1, none⟩) (Blk.ne_ hb hbc.out ht1) v5⟩
        exact (hP4.grown hg5 (fun k hk => (hc.out.ev hE4).apart k (hoc.out k hk))).set_ (p := ⟨gc, 1, none⟩) ((hc.out.ev hE4).apart gc hc.out.own) v5)
      clear hpush
      replace hE4 := hide hE4
      replace hP4 := hide hP4
      have j1' : (w3.alloc (.cells #[.bool true, .slice A2 N c2, .slice A1 K c1, .int .i64 (I : Int)] 169)).cell? ⟨gc, 1, none⟩ = some (.slice wA P wc) := (hg3.out.alloc _).cell 1
      have p0 := (hb3.out.alloc (.cells #[.bool true, .slice A2 N c2, .slice A1 K c1, .int .i64 (I : Int)] 169)).cell 0
      have p1 := (hb3.out.alloc (.cells #[.bool true, .slice A2 N c2, .slice A1 K c1, .int .i64 (I : Int)] 169)).cell 1
      have p2 := (hb3.out.alloc (.cells #[.bool true, .slice A2 N c2, .slice A1 K c1, .int .i64 (I : Int)] 169)).cell 2
      have hg6 : Blk w5 gc 128 #[.pointer (some ⟨gt, 0, none⟩), .slice wA P wc, .slice fA L fc, .int .i64 tgt, .int .i64 er] := (show Blk (w3.alloc (.cells #[.bool true, .slice A2 N c2, .slice A1 K c1, .int .i64 (I : Int)] 169)).drew gc 128 _ from hg3.out.alloc _).grown hg5 (fun e => own_blk_ne hrow3 hg3.out (by decide) e.symm)
      obtain ⟨A5, c5, rfl⟩ := own_form hown5
      have z1 := hg6.cell 1
      have z2 := hg6.frozen 1
      replace hE3 := hide hE3
      replace hP3 := hide hP3
      replace hrow3 := hide hrow3
      replace hrow4 := hide hrow4
      replace hb4 := hide hb4
      replace hg6 := hide hg6
      replace hown5 := hide hown5
      replace hg5 := hide hg5
      replace hv5 := hide hv5
      go_wp2_with fail
      go_region_law (refine Lib.wp_append_run _ (.tmp 39) (.tmp 43) 126 126 rfl _ _ rfl rfl _ _ hrun ?_)
    all_goals
      go_wp2_with fail
      first | exact hdone.out | (go_ret; exact hdone.out)
end Go.Proofs.YthohbbaglceppaaGreatDoor
