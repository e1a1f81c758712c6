/-
  Contract of Cursor.down by first children.
-/
import Derived.Test.YtiffnfgmkkoaeaaGreatDoorBnGr28
import Derived.Test.YtiffnfgmkkoaeaaGreatDoorBnGr27
namespace Go.Proofs.YtiffnfgmkkoaeaaGreatDoor
open Go.RowKit
set_option linter.unusedVariables false
/-- Where the way down stands. -/
def DnRelF (F C : Nat → Prop) (w : World) (gp : Nat) (st : PgS) (gc gt : Nat) (way l : List (NodeP × Nat)) (from_ : List UInt8) (tgt er : Int) (no : Nat) (wx : World) : Prop :=
  ∃ (done rest : List (NodeP × Nat)) (F' C' : Nat → Prop), l = done ++ rest ∧ WayF st no rest ∧ PgAt wx F' gp st ∧ CurAt F' C' wx gc gt (way ++ done) from_ tgt er ∧ Ev (FC F C) w (FC F' C') wx ∧ (∀ k, C k → C' k) ∧
    ∀ (g : Nat) (t : TypeId) (cs : Array Value), Blk w g t cs → ¬ F g → t ≠ 156 → t ≠ 196 → Blk wx g t cs
set_option maxRecDepth 100000 in
set_option maxHeartbeats 4000000 in
theorem down_first (w : World) (F C : Nat → Prop) (gc gt gp k : Nat) (st : PgS) (h : PgAt w F gp st) (ht : TreeAt w (FC F C) gt gp k) (way l : List (NodeP × Nat)) (from_ : List UInt8) (tgt er : Int) (hc : CurAt F C w gc gt way from_ tgt er) (no0 : Nat) (hw : WayF st no0 l) (hway : way.length + l.length ≤ 1000) :
    Calls Tryz.prog 140 #[.pointer (some ⟨gc, 0, none⟩), .int .i64 (no0 : Int), .bool true] w (DownEnd F C w gp st gc gt (way ++ l) from_ tgt er) := by
  have hst : Hid (DnRelF F C w gp st gc gt way l from_ tgt er no0 w) := hide ⟨[], l, F, C, rfl, hw, h, by rw [List.append_nil]; exact hc, Ev.refl _ w, fun k hk => hk, fun g t cs hb _ _ _ => hb⟩
  replace h := hide h
  replace ht := hide ht
  replace hc := hide hc
  replace hw := hide hw
  go_enter Tryz.func140, Tryz.ntmps140
  go_wp2_with fail
  go_loopw [1] (fun v1 wx => ∃ no : Nat, v1 = .int .i64 (no : Int) ∧ Hid (DnRelF F C w gp st gc gt way l from_ tgt er no wx)) (fun _ wx => way.length + l.length - lenCur wx gc)
  case atStart => exact ⟨no0, rfl, hst⟩
  case round =>
    obtain ⟨no, rfl, hG⟩ := hrel
    obtain ⟨done, rest, Fa, Ca, hdl, hwl, h0, hc0, hE0, hsub, hty⟩ := hG.out
    obtain ⟨n, hl, hcs⟩ := hwl.head
    obtain ⟨wy, hwy⟩ : ∃ wy, wy = way ++ done := ⟨_, rfl⟩
    rw [← hwy] at hc0
    have hlen : wy.length + rest.length = way.length + l.length := by rw [hwy, hdl]; simp; omega
    have hrest : 1 ≤ rest.length := by
      rcases hcs with ⟨_, e⟩ | ⟨_, _, _, e, _⟩ <;> rw [e] <;> simp
    have ht0 := ht.out.ev hE0
    have htF : TreeAt wr Fa gt gp k := ⟨ht0.blk, fun hf => ht0.out (.inl hf)⟩
    have hld := hide (load_gen wr Fa gt gp k st h0 htF no n hl)
    have hcc := hc0
    obtain ⟨wv, fA, fc, hbc, hmc, hoc, rows, hr1, hr2, hr3⟩ := hc0.mem
    have q0 : wr.cell? ⟨gc, 0, none⟩ = some (.pointer (some ⟨gt, 0, none⟩)) := hbc.cell 0
    have hgc := Blk.lt hbc
    have hgcF : ¬ Fa gc := hc0.apart _ hc0.own
    have hrise := hl.2.1.rise
    have hmany := hl.2.1.many
    obtain ⟨L, hL⟩ : ∃ L, L = from_.length := ⟨_, rfl⟩
    obtain ⟨P, hP⟩ : ∃ P, P = wy.length := ⟨_, rfl⟩
    rw [← hL] at hbc hmc
    rw [← hP] at hr1 hr2
    obtain ⟨wA, wc, rfl⟩ := own_form hr2
    have hc := hide hc0
    have hPb : P + 1 ≤ 1000 := by omega
    obtain ⟨lf, hlf⟩ : ∃ lf, lf = n.leaf := ⟨_, rfl⟩
    replace h0 := hide h0
    replace hc0 := hide hc0
    replace hcc := hide hcc
    replace ht0 := hide ht0
    replace htF := hide htF
    replace hl := hide hl
    replace hbc := hide hbc
    replace hmc := hide hmc
    replace hoc := hide hoc
    replace hr1 := hide hr1
    replace hr2 := hide hr2
    replace hr3 := hide hr3
    replace hL := hide hL
    replace hP := hide hP
    replace hrise := hide hrise
    replace hmany := hide hmany
    replace hgcF := hide hgcF
    replace hlf := hide hlf
    replace hcs := hide hcs
    replace hdl := hide hdl
    replace hwl := hide hwl
    replace hE0 := hide hE0
    replace hsub := hide hsub
    replace hty : Hid _ := hide hty
    replace hwy := hide hwy
    replace hlen := hide hlen
    replace hrest := hide hrest
    go_wp2_with fail
    go_at_call 52
    refine hld.out.mono ?_
    rintro e w1 ⟨F1, cv, kv, B0, rfl, hP1, hE1, hF1, hwB, hO1⟩
    rw [← hlf.out]
    have hn1 : NodeM (Mine (FC F1 Ca) w1) w1 (.agg #[.bool n.leaf, cv, kv]) n := (hO1.toW (F := FC F1 Ca) (fun j hj => by
      rcases hj with hj | hj
      · exact hF1 j hj
      · have := hc.out.lt j hj; omega)).nodeM
    obtain ⟨A1, c1, rfl⟩ := own_form hO1.kids
    obtain ⟨A2, c2, rfl⟩ := own_form hO1.rows.choose_spec.2.1
    obtain ⟨N, hN⟩ : ∃ N, N = n.cells.length := ⟨_, rfl⟩
    obtain ⟨K, hK⟩ : ∃ K, K = n.kids.length := ⟨_, rfl⟩
    rw [← hN, ← hK, ← hlf.out] at hn1
    rw [← hN, ← hK]
    have hnF1 : ¬ F1 w1.heap.size := fun hf => by have := hP1.lt _ hf; omega
    have hbn := Blk.new w1 115 #[.bool lf, .slice A2 N c2, .slice A1 K c1]
    have hE2 : Ev Fa wr F1 (w1.alloc (.cells #[.bool lf, .slice A2 N c2, .slice A1 K c1] 115)) := hE1.alloc_ _
    have hcu := hc.out.ev hE2
    have hbc2 : Blk (w1.alloc (.cells #[.bool lf, .slice A2 N c2, .slice A1 K c1] 115)) gc 156 #[.pointer (some ⟨gt, 0, none⟩), .slice wA P wc, .slice fA L fc, .int .i64 tgt, .int .i64 er] := hE2.blk hbc.out hgcF.out
    have hP2 := hP1.alloc (.cells #[.bool lf, .slice A2 N c2, .slice A1 K c1] 115)
    have m0 := hbn.cell 0
    have m1 := hbn.cell 1
    have m2 := hbn.cell 2
    have b1 := hbc2.cell 1
    have b2 := hbc2.cell 2
    replace hN := hide hN
    replace hK := hide hK
    replace hn1 := hide hn1
    replace hO1 := hide hO1
    replace hF1 := hide hF1
    replace hP1 := hide hP1
    replace hE1 := hide hE1
    replace hP2 := hide hP2
    replace hE2 := hide hE2
    replace hbn := hide hbn
    replace hbc2 := hide hbc2
    replace hcu := hide hcu
    replace hnF1 := hide hnF1
    obtain ⟨w3, hw3⟩ : ∃ w3, w3 = w1.alloc (.cells #[.bool lf, .slice A2 N c2, .slice A1 K c1] 115) := ⟨_, rfl⟩
    have hB3 : Hid (Below (w1.alloc (.cells #[.bool lf, .slice A2 N c2, .slice A1 K c1] 115)).heap.size (w1.alloc (.cells #[.bool lf, .slice A2 N c2, .slice A1 K c1] 115)) w3) := hide (by rw [hw3]; exact Below.refl _ _)
    have hb3 : Hid (Blk w3 w1.heap.size 115 #[.bool lf, .slice A2 N c2, .slice A1 K c1]) := hide (by rw [hw3]; exact hbn.out)
    have hg3 : Hid (Blk w3 gc 156 #[.pointer (some ⟨gt, 0, none⟩), .slice wA P wc, .slice fA L fc, .int .i64 tgt, .int .i64 er]) := hide (by rw [hw3]; exact hbc2.out)
    have o0 := hb3.out.cell 0
    have o1 := hb3.out.cell 1
    have o2 := hb3.out.cell 2
    have j1 := hg3.out.cell 1
    have fz := hg3.out.frozen 1
    replace hw3 := hide hw3
    cases lf with
    | true =>
      have hE3 : Ev Fa wr F1 w3 := hE2.out.below hB3.out
      have hP3 : PgAt w3 F1 gp st := hP2.out.below hB3.out
      have hrow3 := hE3.only.row hr2.out (fun k hk => hc.out.apart k (hoc.out k hk))
      have hb4 := Blk.new w3 196 #[.bool true, .slice A2 N c2, .slice A1 K c1, .int .i64 0]
      have hrow4 : ((w3.alloc (.cells #[.bool true, .slice A2 N c2, .slice A1 K c1, .int .i64 0] 196)).drew).ownsRow 0 196 4 (.slice wA P wc) P rows.flatten := (((Only.refl (fun _ => False) w3).alloc _).drew).row hrow3 (fun _ _ h => h)
      obtain ⟨v5, w5, hrun, hown5, hg5, hv5⟩ := run_app_step _ 0 _ P rows.flatten hrow4 w3.heap.size (.bool true) (.slice A2 N c2) (.slice A1 K c1) (.int .i64 0) (by intro u hu; simp at hu; rcases hu with rfl | rfl | rfl | rfl <;> rfl) (show Blk (w3.alloc _).drew w3.heap.size 196 _ from hb4) 154 (by have := hP.out; omega) (Nat.zero_le _)
      have hE4 := (hE3.alloc_ (.cells #[.bool true, .slice A2 N c2, .slice A1 K c1, .int .i64 0] 196)).drew
      have hP4 := (hP3.alloc (.cells #[.bool true, .slice A2 N c2, .slice A1 K c1, .int .i64 0] 196)).drew
      have hpush := cur_push (s := (n, 0)) (vs := [.bool true, .slice A2 N c2, .slice A1 K c1, .int .i64 0]) (way := wy) (from_ := from_) (by rw [← hL.out]; exact hE4.blk hbc.out hgcF.out) (by rw [← hL.out]; exact hmc.out.ev (hE4.add Ca)) hoc.out (by rw [← hP.out]; exact hr1.out) (by rw [← hP.out]; exact hrow4) (fun k vs s e1 e2 => (hr3.out k vs s e1 e2).ev (hE4.add Ca)) hc.out.own (hc.out.ev hE4).apart (hc.out.ev hE4).lt hP4.lt ⟨A2, c2, A1, c1, by show [Value.bool true, .slice A2 N c2, .slice A1 K c1, .int .i64 0] = [.bool n.leaf, .slice A2 n.cells.length c2, .slice A1 n.kids.length c1, .int .i64 0]; rw [← hN.out, ← hK.out, ← hlf.out], by
        have h9 := hn1.out.ev ((((Ev.refl (FC F1 Ca) w1).alloc_ (.cells #[.bool true, .slice A2 N c2, .slice A1 K c1] 115)).below hB3.out).alloc_ (.cells #[.bool true, .slice A2 N c2, .slice A1 K c1, .int .i64 0] 196)).drew
        show NodeM _ _ (.agg #[.bool n.leaf, .slice A2 n.cells.length c2, .slice A1 n.kids.length c1]) n
        rw [← hlf.out, ← hN.out, ← hK.out]
        exact h9⟩ hg5 (by rw [← hP.out]; exact hown5) hv5
      have hpg5 := (hP4.grown hg5 (fun k hk => (hc.out.ev hE4).apart k (hoc.out k hk))).set_ (p := ⟨gc, 1, none⟩) ((hc.out.ev hE4).apart gc hc.out.own) v5
      have hev5 : Ev (FC F C) w (FC F1 _) (w5.setCell ⟨gc, 1, none⟩ v5) := hE0.out.trans ((hE4.add Ca).trans hpush.2)
      have hty5 : ∀ (g : Nat) (t : TypeId) (cs : Array Value), Blk w g t cs → ¬ F g → t ≠ 156 → t ≠ 196 → Blk (w5.setCell ⟨gc, 1, none⟩ v5) g t cs := fun g t cs hb hnf ht1 ht2 => by
        have hbw := hty.out g t cs hb hnf ht1 ht2
        have hnFa : ¬ Fa g := fun hf => by
          by_cases hCg : C g
          · exact hc.out.apart g (hsub.out g hCg) hf
          · rcases hE0.out.grow g (.inl hf) with h9 | h9
            · rcases h9 with h9 | h9
              · exact hnf h9
              · exact hCg h9
            · have := hb.lt; omega
        exact ((hE4.blk hbw hnFa).grown hg5 (fun e => own_blk_ne hrow4 (hE4.blk hbw hnFa) ht2.symm e.symm)).far (p := ⟨gc, 1, none⟩) (Blk.ne_ hbw hbc.out ht1) v5
      have hrs : rest = [(n, 0)] := by
        rcases hcs.out with ⟨_, e⟩ | ⟨hf, _⟩
        · exact e
        · exact absurd (hlf.out.trans hf) (by simp)
      have hdone : Hid (DownEnd F C w gp st gc gt (way ++ l) from_ tgt er (.returned (.int .i64 0)) (w5.setCell ⟨gc, 1, none⟩ v5)) := hide (by
        have hwl2 : wy ++ [(n, 0)] = way ++ l := by rw [hwy.out, hdl.out, hrs, List.append_assoc]
        refine ⟨rfl, F1, _, hpg5, ?_, hev5, fun k hk => .inl (hsub.out k hk), hty5⟩
        rw [← hwl2]; exact hpush.1)
      replace hpg5 := hide hpg5
      replace hev5 := hide hev5
      replace hty5 : Hid _ := hide hty5
      replace hrs := hide hrs
      clear hpush
      replace hE4 := hide hE4
      replace hP4 := hide hP4
      have j1' : (w3.alloc (.cells #[.bool true, .slice A2 N c2, .slice A1 K c1, .int .i64 0] 196)).cell? ⟨gc, 1, none⟩ = some (.slice wA P wc) := (hg3.out.alloc _).cell 1
      have p0 := (hb3.out.alloc (.cells #[.bool true, .slice A2 N c2, .slice A1 K c1, .int .i64 0] 196)).cell 0
      have p1 := (hb3.out.alloc (.cells #[.bool true, .slice A2 N c2, .slice A1 K c1, .int .i64 0] 196)).cell 1
      have p2 := (hb3.out.alloc (.cells #[.bool true, .slice A2 N c2, .slice A1 K c1, .int .i64 0] 196)).cell 2
      have hg6 : Blk w5 gc 156 #[.pointer (some ⟨gt, 0, none⟩), .slice wA P wc, .slice fA L fc, .int .i64 tgt, .int .i64 er] := (show Blk (w3.alloc (.cells #[.bool true, .slice A2 N c2, .slice A1 K c1, .int .i64 0] 196)).drew gc 156 _ from hg3.out.alloc _).grown hg5 (fun e => own_blk_ne hrow3 hg3.out (by decide) e.symm)
      obtain ⟨A5, c5, rfl⟩ := own_form hown5
      have z1 := hg6.cell 1
      have z2 := hg6.frozen 1
      replace hE3 := hide hE3
      replace hP3 := hide hP3
      replace hrow3 := hide hrow3
      replace hrow4 := hide hrow4
      replace hb4 := hide hb4
      replace hg6 := hide hg6
      replace hown5 := hide hown5
      replace hg5 := hide hg5
      replace hv5 := hide hv5
      go_upto_region 8 with (fail)
      rw [← hw3.out]
      go_region_law (refine Lib.wp_append_run _ (.tmp 39) (.tmp 43) 154 154 rfl _ _ rfl rfl _ _ hrun ?_)
      all_goals
        go_wp2_with fail
        first | exact hdone.out | (go_ret; exact hdone.out)
    | false =>
      have hE3 : Ev Fa wr F1 w3 := hE2.out.below hB3.out
      have hP3 : PgAt w3 F1 gp st := hP2.out.below hB3.out
      have hrow3 := hE3.only.row hr2.out (fun k hk => hc.out.apart k (hoc.out k hk))
      have hb4 := Blk.new w3 196 #[.bool false, .slice A2 N c2, .slice A1 K c1, .int .i64 1]
      have hrow4 : ((w3.alloc (.cells #[.bool false, .slice A2 N c2, .slice A1 K c1, .int .i64 1] 196)).drew).ownsRow 0 196 4 (.slice wA P wc) P rows.flatten := (((Only.refl (fun _ => False) w3).alloc _).drew).row hrow3 (fun _ _ h => h)
      obtain ⟨v5, w5, hrun, hown5, hg5, hv5⟩ := run_app_step _ 0 _ P rows.flatten hrow4 w3.heap.size (.bool false) (.slice A2 N c2) (.slice A1 K c1) (.int .i64 1) (by intro u hu; simp at hu; rcases hu with rfl | rfl | rfl | rfl <;> rfl) (show Blk (w3.alloc _).drew w3.heap.size 196 _ from hb4) 154 (by have := hP.out; omega) (Nat.zero_le _)
      have hE4 := (hE3.alloc_ (.cells #[.bool false, .slice A2 N c2, .slice A1 K c1, .int .i64 1] 196)).drew
      have hP4 := (hP3.alloc (.cells #[.bool false, .slice A2 N c2, .slice A1 K c1, .int .i64 1] 196)).drew
      have hpush := cur_push (s := (n, 1)) (vs := [.bool false, .slice A2 N c2, .slice A1 K c1, .int .i64 1]) (way := wy) (from_ := from_) (by rw [← hL.out]; exact hE4.blk hbc.out hgcF.out) (by rw [← hL.out]; exact hmc.out.ev (hE4.add Ca)) hoc.out (by rw [← hP.out]; exact hr1.out) (by rw [← hP.out]; exact hrow4) (fun k vs s e1 e2 => (hr3.out k vs s e1 e2).ev (hE4.add Ca)) hc.out.own (hc.out.ev hE4).apart (hc.out.ev hE4).lt hP4.lt ⟨A2, c2, A1, c1, by show [Value.bool false, .slice A2 N c2, .slice A1 K c1, .int .i64 1] = [.bool n.leaf, .slice A2 n.cells.length c2, .slice A1 n.kids.length c1, .int .i64 1]; rw [← hN.out, ← hK.out, ← hlf.out], by
        have h9 := hn1.out.ev ((((Ev.refl (FC F1 Ca) w1).alloc_ (.cells #[.bool false, .slice A2 N c2, .slice A1 K c1] 115)).below hB3.out).alloc_ (.cells #[.bool false, .slice A2 N c2, .slice A1 K c1, .int .i64 1] 196)).drew
        show NodeM _ _ (.agg #[.bool n.leaf, .slice A2 n.cells.length c2, .slice A1 n.kids.length c1]) n
        rw [← hlf.out, ← hN.out, ← hK.out]
        exact h9⟩ hg5 (by rw [← hP.out]; exact hown5) hv5
      have hpg5 := (hP4.grown hg5 (fun k hk => (hc.out.ev hE4).apart k (hoc.out k hk))).set_ (p := ⟨gc, 1, none⟩) ((hc.out.ev hE4).apart gc hc.out.own) v5
      have hev5 : Ev (FC F C) w (FC F1 _) (w5.setCell ⟨gc, 1, none⟩ v5) := hE0.out.trans ((hE4.add Ca).trans hpush.2)
      have hty5 : ∀ (g : Nat) (t : TypeId) (cs : Array Value), Blk w g t cs → ¬ F g → t ≠ 156 → t ≠ 196 → Blk (w5.setCell ⟨gc, 1, none⟩ v5) g t cs := fun g t cs hb hnf ht1 ht2 => by
        have hbw := hty.out g t cs hb hnf ht1 ht2
        have hnFa : ¬ Fa g := fun hf => by
          by_cases hCg : C g
          · exact hc.out.apart g (hsub.out g hCg) hf
          · rcases hE0.out.grow g (.inl hf) with h9 | h9
            · rcases h9 with h9 | h9
              · exact hnf h9
              · exact hCg h9
            · have := hb.lt; omega
        exact ((hE4.blk hbw hnFa).grown hg5 (fun e => own_blk_ne hrow4 (hE4.blk hbw hnFa) ht2.symm e.symm)).far (p := ⟨gc, 1, none⟩) (Blk.ne_ hbw hbc.out ht1) v5
      obtain ⟨kid, r, hrs, hkid, hdk⟩ : ∃ kid r, rest = (n, 1) :: r ∧ n.kids[0]? = some kid ∧ WayF st kid r := by
        rcases hcs.out with ⟨hf, _⟩ | ⟨_, h9⟩
        · exact absurd (hlf.out.trans hf) (by simp)
        · exact h9
      have hnF := (hn1.out.ev ((((Ev.refl (FC F1 Ca) w1).alloc_ (.cells #[.bool false, .slice A2 N c2, .slice A1 K c1] 115)).below hB3.out).alloc_ (.cells #[.bool false, .slice A2 N c2, .slice A1 K c1, .int .i64 1] 196)).drew).ev hpush.2
      obtain ⟨A8, c8, B8, d8, e8, _, _, _, hks8⟩ := hnF
      injection e8 with e8
      simp at e8
      have hKl : 0 < n.kids.length := (List.getElem?_eq_some_iff.1 hkid).1
      obtain ⟨ad, hA, _, hcell⟩ := hks8.2 (by omega)
      have hA1 : A1 = some ad := by
        have h9 := e8.2.2.1
        exact h9.trans hA
      have kx := hcell 0 _ (show (n.kids.map encI)[0]? = some (.int .i64 (kid : Int)) by rw [List.getElem?_map, hkid]; rfl)
      have kx0 : (w5.setCell ⟨gc, 1, none⟩ v5).cell? ad = some (.int .i64 (kid : Int)) := kx
      clear e8 hcell hks8 hA
      have hb4d : Blk (w3.alloc (.cells #[.bool false, .slice A2 N c2, .slice A1 K c1, .int .i64 1] 196)).drew w1.heap.size 115 #[.bool false, .slice A2 N c2, .slice A1 K c1] := hb3.out.alloc _
      have hbF := (hb4d.grown hg5 (fun e => own_blk_ne hrow4 hb4d (by decide) e.symm)).far (p := ⟨gc, 1, none⟩) (Blk.ne_ hb3.out hg3.out (by decide)) v5
      have kb := hbF.cell 2
      have hIKI : (0 : Int) < (K : Int) := by have := hK.out; omega
      replace hA1 := hide hA1
      have hwI : IntKind.i64.wrap 1 = 1 := wrap_small 1 (by omega) (by omega)
      have hrel : Hid (DnRelF F C w gp st gc gt way l from_ tgt er kid (w5.setCell ⟨gc, 1, none⟩ v5)) := hide (by
        refine ⟨done ++ [(n, 1)], r, F1, _, by rw [hdl.out, hrs]; simp, hdk, hpg5, ?_, hev5, fun k hk => .inl (hsub.out k hk), hty5⟩
        rw [← List.append_assoc, ← hwy.out]; exact hpush.1)
      have hmeas : Hid (way.length + l.length - lenCur (w5.setCell ⟨gc, 1, none⟩ v5) gc < way.length + l.length - lenCur wr gc) := hide (by
        have e1 : lenCur wr gc = P := by unfold lenCur; rw [hbc.out.cell 1]; rfl
        obtain ⟨wv6, fA6, fc6, hb6, _, _, rows6, hr6, ho6, _⟩ := hpush.1.mem
        obtain ⟨A6, c6, rfl⟩ := own_form ho6
        have e2 : lenCur (w5.setCell ⟨gc, 1, none⟩ v5) gc = P + 1 := by unfold lenCur; rw [hb6.cell 1]; show (wy ++ [(n, 1)]).length = _; rw [hP.out]; simp
        have := hlen.out
        have := hrest.out
        have := hP.out
        rw [e1, e2]; omega)
      replace hpg5 := hide hpg5
      replace hev5 := hide hev5
      replace hty5 : Hid _ := hide hty5
      replace hrs := hide hrs
      replace hkid := hide hkid
      replace hdk := hide hdk
      replace hbF := hide hbF
      replace hb4d := hide hb4d
      clear hKl
      clear hpush
      replace hE4 := hide hE4
      replace hP4 := hide hP4
      have j1' : (w3.alloc (.cells #[.bool false, .slice A2 N c2, .slice A1 K c1, .int .i64 1] 196)).cell? ⟨gc, 1, none⟩ = some (.slice wA P wc) := (hg3.out.alloc _).cell 1
      have p0 := (hb3.out.alloc (.cells #[.bool false, .slice A2 N c2, .slice A1 K c1, .int .i64 1] 196)).cell 0
      have p1 := (hb3.out.alloc (.cells #[.bool false, .slice A2 N c2, .slice A1 K c1, .int .i64 1] 196)).cell 1
      have p2 := (hb3.out.alloc (.cells #[.bool false, .slice A2 N c2, .slice A1 K c1, .int .i64 1] 196)).cell 2
      have hg6 : Blk w5 gc 156 #[.pointer (some ⟨gt, 0, none⟩), .slice wA P wc, .slice fA L fc, .int .i64 tgt, .int .i64 er] := (show Blk (w3.alloc (.cells #[.bool false, .slice A2 N c2, .slice A1 K c1, .int .i64 1] 196)).drew gc 156 _ from hg3.out.alloc _).grown hg5 (fun e => own_blk_ne hrow3 hg3.out (by decide) e.symm)
      obtain ⟨A5, c5, rfl⟩ := own_form hown5
      have z1 := hg6.cell 1
      have z2 := hg6.frozen 1
      replace hE3 := hide hE3
      replace hP3 := hide hP3
      replace hrow3 := hide hrow3
      replace hrow4 := hide hrow4
      replace hb4 := hide hb4
      replace hg6 := hide hg6
      replace hown5 := hide hown5
      replace hg5 := hide hg5
      replace hv5 := hide hv5
      go_upto_region 10 with (fail)
      rw [← hw3.out]
      go_region_law (refine Lib.wp_append_run _ (.tmp 51) (.tmp 56) 154 154 rfl _ _ rfl rfl _ _ hrun ?_)
      all_goals
        have hA1 := hA1.out
        subst hA1
        go_wp2_with fail
        go_roundw
        case rel => exact ⟨kid, rfl, hrel⟩
        case measure => exact hmeas.out
end Go.Proofs.YtiffnfgmkkoaeaaGreatDoor
namespace Go.Proofs.YtiffnfgmkkoaeaaGreatDoor
open Go.RowKit
set_option linter.unusedVariables false
def sameS (st : PgS) (_ : Nat) : PgS := st
/-- What value's closure keeps: the bytes so far. -/
def ValJ (B0 g : Nat) (d : List (Nat × List UInt8)) (D F : Nat → Prop) (w : World) : Prop :=
  ∃ v, Blk w g 62 #[v] ∧ OB w B0 v (d.flatMap (·.2)).length (d.flatMap (·.2)) ∧ (∀ k, D k → k = g ∨ v.ownBlock = some k) ∧ (D g ∧ ∀ k, v.ownBlock = some k → D k) ∧ (∀ k, D k → ¬ F k ∧ k < w.heap.size) ∧ (d.flatMap (·.2)).length ≤ 505 * d.length ∧ B0 ≤ w.heap.size
set_option maxRecDepth 100000 in
theorem value1_any (B0 g : Nat) (w : World) (F D : Nat → Prop) (d : List (Nat × List UInt8)) (hJ : ValJ B0 g d D F w) (gp : Nat) (st : PgS) (h : PgAt w F gp st) (no : Nat) (b : List UInt8) (A : Option Addr) (c : Nat) (hr : RB w w.heap.size A b.length b) (hb : b.length ≤ 505) (hd : d.length ≤ 100000) :
    Calls Tryz.prog 101 #[.int .i64 (no : Int), .slice A b.length c, .pointer (some ⟨g, 0, none⟩)] w fun e w' => e = .returned (.int .i64 0) ∧ ∃ F' D', PgAt w' F' gp st ∧ ValJ B0 g (d ++ [(no, b)]) D' F' w' ∧ Ev (FC F D) w (FC F' D') w' := by
  obtain ⟨v, hbg, hO, hD, ⟨hDg, hDv⟩, hDF, hlen, hB0⟩ := hJ
  obtain ⟨vA, vc, rfl, _, _, _, _⟩ := hO.form
  have c0 := hbg.cell 0
  have f0 := hbg.frozen 0
  obtain ⟨M, hM⟩ : ∃ M, M = (d.flatMap (·.2)).length := ⟨_, rfl⟩
  obtain ⟨xs, hxs⟩ : ∃ xs, xs = d.flatMap (·.2) := ⟨_, rfl⟩
  obtain ⟨N, hN⟩ : ∃ N, N = b.length := ⟨_, rfl⟩
  rw [← hM] at hO hlen c0 hbg hD hDv
  rw [← hxs] at hO hM
  rw [← hN] at hr hb ⊢
  have hfin : Hid (∀ v2 w2, OB w2 B0 v2 (M + N) (xs ++ b) → w.grownBy w2 (Value.slice vA M vc).ownBlock → (v2.ownBlock = (Value.slice vA M vc).ownBlock ∨ v2.ownBlock = some w.heap.size) → ∃ F' D', PgAt (w2.setCell ⟨g, 0, none⟩ v2) F' gp st ∧ ValJ B0 g (d ++ [(no, b)]) D' F' (w2.setCell ⟨g, 0, none⟩ v2) ∧ Ev (FC F D) w (FC F' D') (w2.setCell ⟨g, 0, none⟩ v2)) := hide (by
    intro v2 w2 hO2 hg2 hv2
    have hne : (Value.slice vA M vc).ownBlock ≠ some g := fun e => own_blk_ne hO hbg (by decide) e
    have hb2 := (hbg.grown hg2 (fun e => hne e.symm)).set_ 0 v2
    have hOn : Only (FC F D) w (w2.setCell ⟨g, 0, none⟩ v2) := ((Only.refl (FC F D) w).grown hg2 (fun k hk _ => .inr (hDv k hk))).setCell (p := ⟨g, 0, none⟩) (fun _ => .inr hDg) v2
    have hnew : ∀ k, v2.ownBlock = some k → D k ∨ k = w.heap.size := fun k hk => by
      rcases hv2 with e | e
      · exact .inl (hDv k (by rw [← e]; exact hk))
      · rw [e] at hk; injection hk with hk; exact .inr hk.symm
    refine ⟨F, fun k => k = g ∨ v2.ownBlock = some k, ?_, ⟨v2, hb2, ?_, fun k hk => hk, ⟨.inl rfl, fun k hk => .inr hk⟩, fun k hk => ?_, ?_, Nat.le_trans hB0 hOn.size⟩, hOn, fun k hk => ?_⟩
    · exact (h.grown hg2 (fun k hk hf => (hDF k (hDv k hk)).1 hf)).set_ (p := ⟨g, 0, none⟩) (hDF g hDg).1 v2
    · have e1 : (d ++ [(no, b)]).flatMap (·.2) = xs ++ b := by rw [List.flatMap_append, ← hxs]; simp
      rw [e1, List.length_append, ← hM, ← hN]
      exact ((Only.refl (fun k => k = g) w2).setCell (p := ⟨g, 0, none⟩) (fun _ => rfl) v2).row hO2 (own_not_blk hO2 (hbg.grown hg2 (fun e => hne e.symm)) (by decide))
    · rcases hk with rfl | hk
      · exact ⟨(hDF k hDg).1, Nat.lt_of_lt_of_le (hDF k hDg).2 hOn.size⟩
      · refine ⟨fun hf => ?_, ?_⟩
        · rcases hnew k hk with h9 | h9
          · exact (hDF k h9).1 hf
          · have := h.lt k hf; omega
        · have := (own_lt hO2 hk).2
          simpa [World.setCell] using this
    · have e1 : (d ++ [(no, b)]).flatMap (·.2) = xs ++ b := by rw [List.flatMap_append, ← hxs]; simp
      rw [e1, List.length_append, List.length_append, ← hM, ← hN]
      simp only [List.length_cons, List.length_nil]
      omega
    · rcases hk with hk | hk | hk
      · exact .inl (.inl hk)
      · exact .inl (.inr (by rw [hk]; exact hDg))
      · rcases hnew k hk with h9 | h9
        · exact .inl (.inr h9)
        · exact .inr (by omega))
  have hx := hide (hO.more (Nat.zero_le B0))
  replace hO := hide hO
  replace hbg := hide hbg
  replace h := hide h
  replace hM := hide hM
  replace hN := hide hN
  replace hxs := hide hxs
  replace hr := hide hr
  replace hD := hide hD
  replace hDv := hide hDv
  replace hDF := hide hDF
  go_enter Tryz.func101, Tryz.ntmps101
  go_wp2_with (at_builtin; refine wpList_app_b rfl (.tmp 6) (.tmp 7) rfl B0 _ M xs hO.out rfl w.heap.size A N c b rfl hr.out (by omega) hB0 ?_; intro v2 w2 hO2 hB2 hg2 hv2; obtain ⟨A2, c2, rfl, _, _, _, _⟩ := hO2.form; have hdone := hide (hfin.out _ w2 hO2 hg2 hv2); have hb2 := hbg.out.grown hg2 (fun e => own_blk_ne hO.out hbg.out (by decide) e.symm); have z0 := hb2.cell 0; have z1 := hb2.frozen 0; replace hb2 := hide hb2; replace hO2 := hide hO2; replace hB2 := hide hB2; replace hg2 := hide hg2)
  go_ret
  obtain ⟨F9, D9, p1, p2, p3⟩ := hdone.out
  exact ⟨rfl, F9, p1, D9, p2, p3⟩
theorem value1_fn : ∀ args wx, (callFunc 101 args).run Tryz.prog wx = .ok (.enter 101 args) wx := fun args wx => by
  have h := Tryz.func101
  simp [callFunc, Sem.run_bind, go_sem, h, Tryz.f101]
theorem value1_chain (B0 g gp : Nat) : ChainC sameS 101 #[.pointer (some ⟨g, 0, none⟩)] gp (ValJ B0 g) where
  fn := value1_fn
  keep d D F F' w w' hJ he := by
    obtain ⟨v, hb, hO, hD, hD2, hDF, hl, hB⟩ := hJ
    have hk : ∀ k, D k → w'.heap[k]? = w.heap[k]? := fun k hk => he.block ⟨(hDF k hk).2, (hDF k hk).1⟩
    exact ⟨v, (hk g hD2.1).trans hb, he.only.row hO (fun k hk => (hDF k (hD2.2 k hk)).1), hD, hD2, fun k hk => ⟨he.new (hDF k hk).1 (hDF k hk).2, Nat.lt_of_lt_of_le (hDF k hk).2 he.size⟩, hl, Nat.le_trans hB he.size⟩
  step d D F w st no b A c hJ h hn hf hr hc hb hd := value1_any B0 g w F D d hJ gp st h no b A c hr hb hd
/-- What value returns. -/
def ValueEnd (F X : Nat → Prop) (w : World) (gp : Nat) (st : PgS) (b : List UInt8) (e : Ending) (w' : World) : Prop :=
  ∃ F' vA vc, e = .returned (.tuple #[.slice vA b.length vc, .int .i64 0]) ∧ PgAt w' F' gp st ∧ Ev F w F' w' ∧ MB (FC F' X) w' vA b.length b ∧ b.length ≤ vc
/-- A cell's value. -/
def ValueG (st : PgS) (c : CellP) (b : List UInt8) : Prop := (c.over = 0 ∧ b = c.val) ∨ (c.over ≠ 0 ∧ c.long ≤ 20000 ∧ ∃ l, GoR sameS st c.over c.long l st ∧ b = l.flatMap (·.2))
set_option maxRecDepth 100000 in
theorem value_any (w : World) (F X : Nat → Prop) (hX : ∀ k, X k → k < w.heap.size) (gt gp k : Nat) (st : PgS) (h : PgAt w F gp st) (ht : TreeAt w F gt gp k) (c : CellP) (b : List UInt8) (hv : ValueG st c b) (kA vA : Option Addr) (kl kc vc : Nat) (hr : c.over = 0 → MB (FC F X) w vA c.val.length c.val) (hvc : c.val.length ≤ vc) :
    Calls Tryz.prog 54 #[.pointer (some ⟨gt, 0, none⟩), .agg #[.slice kA kl kc, .slice vA c.val.length vc, .int .i64 (c.over : Int), .int .i64 (c.long : Int)]] w (ValueEnd F X w gp st b) := by
  rcases hv with ⟨h0, rfl⟩ | ⟨h0, hl, l, hg, rfl⟩
  · rw [h0]
    refine (value_short w gt kA vA kl c.val.length kc vc c.long).mono ?_
    rintro e w' ⟨rfl, hB⟩
    exact ⟨F, vA, vc, rfl, h.below hB, Ev.of_below hB, (hr h0).ev ((Ev.of_below hB).add X), hvc⟩
  · obtain ⟨V, hV⟩ : ∃ V, V = c.val.length := ⟨_, rfl⟩
    obtain ⟨o1, ho1⟩ : ∃ o1, o1 = Obj.cells #[.slice kA kl kc, .slice vA V vc, .int .i64 (c.over : Int), .int .i64 (c.long : Int)] 123 := ⟨_, rfl⟩
    obtain ⟨g, hg0⟩ : ∃ g, g = w.heap.size + 1 := ⟨_, rfl⟩
    obtain ⟨w2, hw2⟩ : ∃ w2, w2 = (w.alloc o1).alloc (.cells #[.slice none 0 0] 62) := ⟨_, rfl⟩
    have hE2 : Ev F w F w2 := by rw [hw2]; exact ((Ev.refl F w).alloc_ o1).alloc_ _
    have hb1 : Blk w2 w.heap.size 123 #[.slice kA kl kc, .slice vA V vc, .int .i64 (c.over : Int), .int .i64 (c.long : Int)] := by rw [hw2, ho1]; exact (Blk.new w 123 _).alloc _
    have hbg : Blk w2 g 62 #[.slice none 0 0] := by
      have q := Blk.new (w.alloc o1) 62 #[.slice none 0 0]
      rw [World.size_alloc] at q
      rw [hw2, hg0]; exact q
    have hz2 : w2.heap.size = w.heap.size + 2 := by rw [hw2]; simp
    have hFlt := h.lt
    have hJ : ValJ w2.heap.size g [] (fun k => k = g) F w2 := ⟨_, hbg, OB.nil _ _, fun k hk => .inl hk, ⟨rfl, fun k hk => by simp [Value.ownBlock] at hk⟩, fun k hk => by subst hk; exact ⟨fun hf => by have := hFlt _ hf; omega, by omega⟩, by simp, Nat.le_refl _⟩
    have hgt := Blk.lt ht.blk
    have hgtg : gt ≠ g := by omega
    have ht2 : TreeAt w2 (FC F (fun k => k = g)) gt gp k := ⟨(ht.ev hE2).blk, fun hf => hf.elim (ht.ev hE2).out (fun e => hgtg e)⟩
    have hP2 : PgAt w2 F gp st := by rw [hw2]; exact (h.alloc _).alloc _
    have hch := hide (chain_any sameS 101 #[.pointer (some ⟨g, 0, none⟩)] gp (ValJ w2.heap.size g) (value1_chain w2.heap.size g gp) w2 F (fun k => k = g) gt k st st hP2 ht2 c.over c.long l hg hJ (by omega))
    have hov : ((c.over : Int) == 0) = false := by rw [beq_eq_false_iff_ne]; omega
    obtain ⟨ov, hovn⟩ : ∃ ov, ov = c.over := ⟨_, rfl⟩
    obtain ⟨lg, hlg⟩ : ∃ lg, lg = c.long := ⟨_, rfl⟩
    rw [← hovn, ← hlg] at hch hb1 ho1
    rw [← hovn] at hov
    rw [← hovn, ← hlg, ← hV]
    have d2 := hb1.cell 2
    have d3 := hb1.cell 3
    subst ho1
    have hw2a : w2 = (w.alloc (.cells #[.slice kA kl kc, .slice vA V vc, .int .i64 (ov : Int), .int .i64 (lg : Int)] 123)).alloc (.cells #[.slice none 0 0] 62) := hw2
    have e2 : ((w.alloc (.cells #[.slice kA kl kc, .slice vA V vc, .int .i64 (ov : Int), .int .i64 (lg : Int)] 123)).alloc (.cells #[.slice none 0 0] 62)).cell? ⟨w.heap.size, 2, none⟩ = some (.int .i64 (ov : Int)) := by rw [← hw2a]; exact d2
    have e3 : ((w.alloc (.cells #[.slice kA kl kc, .slice vA V vc, .int .i64 (ov : Int), .int .i64 (lg : Int)] 123)).alloc (.cells #[.slice none 0 0] 62)).cell? ⟨w.heap.size, 3, none⟩ = some (.int .i64 (lg : Int)) := by rw [← hw2a]; exact d3
    clear hw2a
    replace h := hide h
    replace ht := hide ht
    replace hw2 := hide hw2
    replace hg0 := hide hg0
    replace hE2 := hide hE2
    replace hb1 := hide hb1
    replace hbg := hide hbg
    replace hz2 := hide hz2
    replace hJ := hide hJ
    replace ht2 := hide ht2
    replace hP2 := hide hP2
    replace hV := hide hV
    replace hovn := hide hovn
    replace hlg := hide hlg
    replace hFlt := hide hFlt
    clear hr hvc h0
    go_enter Tryz.func54, Tryz.ntmps54
    go_upto_region 4 with (fail)
    rw [← hg0.out, ← hw2.out]
    go_wp2_with fail
    go_at_call 100
    refine hch.out.mono ?_
    rintro e w3 ⟨rfl, F3, D3, hP3, hJ3, hE3⟩
    obtain ⟨v, hb3, hO3, hD3, ⟨hDg, hDv⟩, hDF3, hl3, hB3⟩ := hJ3
    obtain ⟨A3, c3, rfl, _, _, hc3, _⟩ := hO3.form
    have z0 := hb3.cell 0
    have hEw : Ev F w F3 w3 := ⟨hE2.out.only.trans hE3.only (fun j hj hT => by
        rcases hT with hT | hT
        · exact hT
        · have h8 : j = g := hT
          have := hg0.out
          omega), fun j hj => by
        rcases hE3.grow j (.inl hj) with hT | hT
        · rcases hT with hT | hT
          · exact .inl hT
          · have h8 : j = g := hT
            have := hg0.out
            exact .inr (by omega)
        · have := hz2.out
          exact .inr (by omega)⟩
    have hmb : MB (FC F3 X) w3 A3 (l.flatMap (·.2)).length (l.flatMap (·.2)) := by
      refine ⟨hO3.1, fun hn => ?_⟩
      obtain ⟨g4, cap, hv4, hb4, hlt⟩ := World.ownsRow.form hO3 hn
      have hA : A3 = some ⟨g4, 0, none⟩ := by injection hv4
      subst hA
      have hb9 := hb4
      have hz9 := hz2.out
      exact ⟨_, rfl, ⟨hlt, fun hf => hf.elim (hDF3 g4 (hDv g4 rfl)).1 (fun hx => by have := hX g4 hx; omega)⟩, World.ownsRow.cells hO3 (g := g4) rfl⟩
    have hdone : Hid (ValueEnd F X w gp st (l.flatMap (·.2)) (.returned (.tuple #[.slice A3 (l.flatMap (·.2)).length c3, .int .i64 0])) w3) := hide ⟨F3, A3, c3, rfl, hP3, hEw, hmb, hc3⟩
    obtain ⟨L, hL⟩ : ∃ L, L = (l.flatMap (·.2)).length := ⟨_, rfl⟩
    rw [← hL] at hdone z0
    obtain ⟨Q, hQ⟩ : ∃ Q, Q = ValueEnd F X w gp st (l.flatMap (·.2)) := ⟨_, rfl⟩
    rw [← hQ] at hdone
    replace hQ := hide hQ
    replace hL := hide hL
    replace hEw := hide hEw
    replace hmb := hide hmb
    replace hb3 := hide hb3
    replace hO3 := hide hO3
    replace hD3 := hide hD3
    replace hDv := hide hDv
    replace hDF3 := hide hDF3
    replace hl3 := hide hl3
    replace hc3 := hide hc3
    replace hP3 := hide hP3
    replace hE3 := hide hE3
    go_wp2_with fail
    go_ret2
    have h9 := hdone.out
    rw [hQ.out] at h9
    exact h9
end Go.Proofs.YtiffnfgmkkoaeaaGreatDoor
