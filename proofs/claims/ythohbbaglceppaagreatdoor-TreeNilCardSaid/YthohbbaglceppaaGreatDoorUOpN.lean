/-
  Contract of the pager's commit on a new store.
-/
import Derived.Test.YthohbbaglceppaaGreatDoorUL
namespace Go.Proofs.YthohbbaglceppaaGreatDoor
open Go.RowKit Go.Maps
set_option linter.unusedVariables false
/-- What commit leaves on a new store. -/
def CmRet (w : World) (H0 gf bm gp gm gc rd : Nat) (nm : List UInt8) (a : PgS) (row : Value) (xg : Nat) (e : Ending) (w' : World) : Prop :=
  e = .returned (.int .i64 0) ∧ Blk w' xg 24 #[ptrV gp] ∧ Blk w' gp 85 (pgF gf nm a a gm gc row rd) ∧ IMap w' gm 65536 (fun _ => none) ∧ Fr H0 gf bm w w'
theorem FSt.imap_step {w w' : World} {H0 gf bm most stamp gd kd nd gl kl nl gm : Nat} {da la : List UInt8} {vd vl : Value} (h : FSt w H0 gf bm most stamp da la gd kd nd gl kl nl vd vl) (hO : Only (fun j => j = gm) w w') {N : Nat} {m : Nat → Option Value} (hm : IMap w gm N m) (hne : gm ≠ bm) :
    FSt w' H0 gf bm most stamp da la gd kd nd gl kl nl vd vl :=
  h.keep hO (fun j hj ⟨cs, hc⟩ => by
    subst hj
    rcases hc with hc | hc | hc
    · exact hm.ne hc rfl
    · exact hm.ne hc rfl
    · exact hm.ne hc rfl) (fun e => hne e.symm)
theorem Fr.imap_step {w w' : World} {H0 gf bm gm : Nat} (hO : Only (fun j => j = gm) w w') (hg : H0 ≤ gm) : Fr H0 gf bm w w' := hO.mono fun j _ e => .inr (.inr (by rw [e]; exact hg))
theorem Fr.below {w w' : World} {H0 gf bm : Nat} (hb : Below w.heap.size w w') : Fr H0 gf bm w w' := Only.of_below hb
theorem blk_bit {w w' : World} {gp gm : Nat} {t : TypeId} {cs : Array Value} (h : Blk w gp t cs) (hO : Only (fun j => j = gm) w w') (hne : gp ≠ gm) : Blk w' gp t cs := hO.blk h hne
/-- The cells of a head. -/
def hdV (a : PgS) : List Value := [.int .i64 (a.many : Int), .int .i64 (a.free : Int), .int .i64 (a.roots 0 : Int), .int .i64 (a.roots 1 : Int), .int .i64 (a.roots 2 : Int), .int .i64 (a.roots 3 : Int), .int .i64 (a.roots 4 : Int), .int .i64 (a.roots 5 : Int), .int .i64 (a.roots 6 : Int), .int .i64 (a.roots 7 : Int)]
theorem hdV_set {gp gf gm gc rd : Nat} {nm : List UInt8} {row : Value} (w : World) (a b : PgS) (h : Blk w gp 85 (pgF gf nm a b gm gc row rd)) : Blk (w.setCells gp 12 (hdV a)) gp 85 (pgF gf nm a a gm gc row rd) := by
  have e : (((((((((((pgF gf nm a b gm gc row rd).setIfInBounds 12 (.int .i64 (a.many : Int))).setIfInBounds 13 (.int .i64 (a.free : Int))).setIfInBounds 14 (.int .i64 (a.roots 0 : Int))).setIfInBounds 15 (.int .i64 (a.roots 1 : Int))).setIfInBounds 16 (.int .i64 (a.roots 2 : Int))).setIfInBounds 17 (.int .i64 (a.roots 3 : Int))).setIfInBounds 18 (.int .i64 (a.roots 4 : Int))).setIfInBounds 19 (.int .i64 (a.roots 5 : Int))).setIfInBounds 20 (.int .i64 (a.roots 6 : Int))).setIfInBounds 21 (.int .i64 (a.roots 7 : Int))) = pgF gf nm a a gm gc row rd := by kernel_rfl
  rw [← e]
  generalize pgF gf nm a b gm gc row rd = P at *
  exact (((((((((h.set_ 12 _).set_ 13 _).set_ 14 _).set_ 15 _).set_ 16 _).set_ 17 _).set_ 18 _).set_ 19 _).set_ 20 _).set_ 21 _
set_option maxRecDepth 100000 in
set_option maxHeartbeats 4000000 in
theorem commit_new (w : World) (H0 gf bm most stamp gd gl gp gm gc rd xg : Nat) (nm : List UInt8) (a b : PgS) (row vd vl : Value) (hpg : Blk w gp 85 (pgF gf nm a b gm gc row rd)) (hm : IMap w gm 65536 (fun _ => none)) (h : FSt w H0 gf bm most stamp (dbN nm) (logN nm) gd 0 0 gl 0 0 vd vl)
    (h1 : a.many = 1) (h2 : a.free ≤ 65536) (h3 : ∀ k, a.roots k ≤ 65536) (hgp : H0 ≤ gp) (hgm : H0 ≤ gm) (hbm : gm ≠ bm) (hmost : most ≤ 65536) (hm17 : 17 ≤ most) (hst : stamp ≤ 1000) (hnm : nm.length ≤ 20) (hx : Blk w xg 24 #[ptrV gp]) :
    Calls Tryz.prog 65 #[.pointer (some ⟨gp, 0, none⟩)] w (CmRet w H0 gf bm gp gm gc rd nm a row xg) := by
  have hnx1 : xg ≠ gm := fun e => hm.ne hx e.symm
  have hnx2 : xg ≠ gp := fun e => by subst e; exact Blk.ne_ hx hpg (by decide) rfl
  obtain ⟨p0, hp0⟩ : ∃ p0, p0 = sealP 0 (headL a ++ zeroB (508 - (headL a).length)) := ⟨_, rfl⟩
  have hp0l : p0.length = 512 := by rw [hp0]; simp [sealP, headL_len, zeroB, leB_len]
  have hne : gp ≠ gm := fun e => hm.ne hpg e.symm
  obtain ⟨W1, hW1⟩ : ∃ W1, W1 = w.alloc (.cells #[ptrV gp] 24) := ⟨_, rfl⟩
  obtain ⟨cp, hcp⟩ : ∃ cp, cp = w.heap.size := ⟨_, rfl⟩
  have hB1 : Below w.heap.size w W1 := by rw [hW1]; exact (Below.refl w.heap.size w).alloc (Nat.le_refl _) _
  have hbp1 : Blk W1 cp 24 #[ptrV gp] := by rw [hW1, hcp]; exact Blk.new w 24 _
  have hpg1 := hpg.below hB1 hpg.lt
  have hm1 := hm.keep (hB1.block gm hm.lt)
  have hS1 := h.below hB1
  have hx1 := hx.below hB1 hx.lt
  have hwr := hide (writes_new W1 gp gf gm gc rd nm a b row hpg1 hm1 (by omega) h2 h3)
  rw [← hp0] at hwr
  have e24 : W1.cell? ⟨cp, 0, none⟩ = some (.pointer (some ⟨gp, 0, none⟩)) := hbp1.cell 0
  replace hpg := hide hpg
  replace hm := hide hm
  replace h := hide h
  replace hp0 := hide hp0
  replace h3 := hide h3
  replace hB1 := hide hB1
  replace hbp1 := hide hbp1
  replace hpg1 := hide hpg1
  replace hm1 := hide hm1
  replace hx1 := hide hx1
  replace hx := hide hx
  replace hS1 := hide hS1
  go_enter Tryz.func65, Tryz.ntmps65
  go_upto_region 1 with (fail)
  rw [show Value.pointer (some ⟨gp, 0, none⟩) = ptrV gp from rfl, ← hW1, ← hcp]
  replace hW1 := hide hW1
  replace hcp := hide hcp
  go_wp2_with fail
  refine hwr.out.mono ?_
  rintro e w2 ⟨gw, gs, cw, rfl, q0, q1, hps2, hm2, hO2, hgs, hgw, csw, hbw⟩
  have hne1 : cp ≠ gm := fun e => hm1.out.ne hbp1.out e.symm
  have hpg2 := blk_bit hpg1.out hO2 hne
  have hbp2 := blk_bit hbp1.out hO2 hne1
  have hx2 := hide (blk_bit hx1.out hO2 hnx1)
  have hS2 := hS1.out.imap_step hO2 hm1.out hbm
  have hF2 : Fr H0 gf bm w w2 := (Fr.below hB1.out).trans (Fr.imap_step hO2 hgm)
  have x0 : csw[0]? = some (.int .i64 0) := (hbw.cell 0).symm.trans q0
  have x1 : csw[1]? = some (.slice (some ⟨gs, 0, none⟩) 512 512) := (hbw.cell 1).symm.trans q1
  obtain ⟨W3, hW3⟩ : ∃ W3, W3 = w2.alloc (.cells #[.slice (some ⟨gw, 0, none⟩) 1 cw] 133) := ⟨_, rfl⟩
  obtain ⟨cl, hcl⟩ : ∃ cl, cl = w2.heap.size := ⟨_, rfl⟩
  have hB3 : Below w2.heap.size w2 W3 := by rw [hW3]; exact (Below.refl w2.heap.size w2).alloc (Nat.le_refl _) _
  have hbl3 : Blk W3 cl 133 #[.slice (some ⟨gw, 0, none⟩) 1 cw] := by rw [hW3, hcl]; exact Blk.new w2 133 _
  have y0 := (hB3.cell (p := ⟨gw, 0, none⟩) hbw.lt).trans q0
  have y1 := (hB3.cell (p := ⟨gw, 1, none⟩) hbw.lt).trans q1
  have hps3 := hps2.below hB3 hps2.lt
  have hwp := hide (walput_one W3 gw gs cw p0 y0 y1 hps3 hp0l)
  have z0 : W3.cell? ⟨cl, 0, none⟩ = some (.slice (some ⟨gw, 0, none⟩) 1 cw) := hbl3.cell 0
  replace hps2 := hide hps2
  replace hm2 := hide hm2
  replace hO2 := hide hO2
  replace hbw := hide hbw
  replace hpg2 := hide hpg2
  replace hbp2 := hide hbp2
  replace hS2 := hide hS2
  replace hF2 : Hid _ := hide hF2
  replace hB3 := hide hB3
  replace hbl3 := hide hbl3
  replace hps3 := hide hps3
  clear q0 q1 y0 y1
  go_upto_region 2 with (fail)
  rw [← hW3, ← hcl]
  replace hW3 := hide hW3
  replace hcl := hide hcl
  go_wp2_with fail
  refine hwp.out.mono ?_
  rintro e w4 ⟨A, c2, rfl, hO4, hB4⟩
  rcases hO4.parts with ⟨_, h0, _⟩ | ⟨gb, cap, e9, hc1, hc2⟩
  · omega
  injection e9 with e9 _ e10
  subst e9; subst e10
  obtain ⟨W5, hW5⟩ : ∃ W5, W5 = w4.alloc (.cells #[.slice (some ⟨gb, 0, none⟩) 528 c2] 37) := ⟨_, rfl⟩
  obtain ⟨cb, hcb⟩ : ∃ cb, cb = w4.heap.size := ⟨_, rfl⟩
  have hB5 : Below w4.heap.size w4 W5 := by rw [hW5]; exact (Below.refl w4.heap.size w4).alloc (Nat.le_refl _) _
  have hbb5 : Blk W5 cb 37 #[.slice (some ⟨gb, 0, none⟩) 528 c2] := by rw [hW5, hcb]; exact Blk.new w4 37 _
  have hB25 : Below w2.heap.size w2 W5 := hB3.out.trans ((hB4.mono hB3.out.size).trans (hB5.mono (by have := hB3.out.size; have := hB4.size; omega)))
  have hO5 : OB W5 0 (.slice (some ⟨gb, 0, none⟩) 528 c2) 528 (walL p0) := by rw [hW5]; exact (hO4.more (Nat.zero_le _)).alloc _
  have hB35 : Below W3.heap.size W3 W5 := hB4.trans (hB5.mono hB4.size)
  obtain ⟨N, hN⟩ : ∃ N : CoN, N = ⟨H0, gf, bm, gp, gm, gc, nm, a, b, row, rd, cp, cb, cl, gw, cw, gs, gb, c2, p0, xg⟩ := ⟨_, rfl⟩
  have hpg5 := hpg2.out.below hB25 hpg2.out.lt
  have hbp5 := hbp2.out.below hB25 hbp2.out.lt
  have hS5 := hS2.out.below hB25
  have hPer : Per N W5 := by
    rw [hN]
    exact ⟨hpg5, hm2.out.keep (hB25.block gm hm2.out.lt), hbp5, hbb5, hbl3.out.below hB35 hbl3.out.lt, ⟨csw, hbw.out.below hB25 hbw.out.lt, x0, x1⟩, hps3.out.below hB35 hps3.out.lt, hO5, hp0l, hnm, hx2.out.below hB25 hx2.out.lt⟩
  have hSto : Sto N w most stamp 0 0 0 0 W5 := ⟨hPer, by rw [hN]; exact hF2.out.trans (Fr.below hB25), gd, gl, vd, vl, by rw [hN]; exact hS5⟩
  have a1 : W5.cell? ⟨cp, 0, none⟩ = some (.pointer (some ⟨gp, 0, none⟩)) := hbp5.cell 0
  have a2 : W5.cell? ⟨gp, 0, none⟩ = some (.pointer (some ⟨gf, 0, none⟩)) := hpg5.cell 0
  have a3 : W5.cell? ⟨gp, 1, none⟩ = some (.string (str nm)) := hpg5.cell 1
  have a4 : W5.cell? ⟨gp, 2, none⟩ = some (.int .i64 1) := by have := hpg5.cell 2; simpa [pgF, h1] using this
  have a5 : W5.cell? ⟨cb, 0, none⟩ = some (.slice (some ⟨gb, 0, none⟩) 528 c2) := hbb5.cell 0
  have hdb := hide (db_any W5.drew gp nm a3 hnm)
  have hfl := hide (flen_some W5.drew 0 gf bm most stamp gd 0 0 (dbN nm) (logN nm) (dbN nm) (some gd) (some gl) (hS5.drewN 1).fs (.inl ⟨rfl, rfl⟩) (by simp [dbN]; omega) vd (hS5.drewN 1).fd)
  have hk1 : Hid (∀ w, Calls Tryz.prog 108 #[.int .i64 532] w fun e w' => e = .returned (.int .i64 9) ∧ w = w') := hide fun w => sectors_any w 532 (by omega)
  have hk2 : Hid (∀ w, Calls Tryz.prog 108 #[.int .i64 512] w fun e w' => e = .returned (.int .i64 8) ∧ w = w') := hide fun w => sectors_any w 512 (by omega)
  have hk3 : Hid (∀ w, Calls Tryz.prog 108 #[.int .i64 0] w fun e w' => e = .returned (.int .i64 0) ∧ w = w') := hide fun w => sectors_any w 0 (by omega)
  have hroom := hide (room_any W5.drew.drew 0 gf bm most stamp gd gl 0 0 0 0 (dbN nm) (logN nm) vd vl (hS5.drewN 2).fs (hS5.drewN 2).fd (hS5.drewN 2).fl hmost (Nat.zero_le _))
  replace hN := hide hN
  replace hPer := hide hPer
  replace hSto := hide hSto
  replace hB5 := hide hB5
  replace hbb5 := hide hbb5
  replace hB25 := hide hB25
  replace hO5 := hide hO5
  replace hB35 := hide hB35
  replace hO4 := hide hO4
  replace hB4 := hide hB4
  replace hpg5 := hide hpg5
  replace hbp5 := hide hbp5
  replace hS5 := hide hS5
  go_upto_region 5 with (fail)
  rw [← hW5, ← hcb]
  replace hW5 := hide hW5
  replace hcb := hide hcb
  clear hwr hwp
  go_region_held3 (fun w' => w'.cell? ⟨cp, 0, none⟩ = some (.pointer (some ⟨gp, 0, none⟩)) ∧ w'.cell? ⟨gp, 0, none⟩ = some (.pointer (some ⟨gf, 0, none⟩))) (first | exact ⟨a1, a2⟩) (first
    | (go_at_call 77; refine hfl.out.mono ?_; rintro e w6 ⟨rfl, rfl⟩)
    | (go_at_call 43; refine hdb.out.mono ?_; rintro e w6 ⟨rfl, rfl⟩))
  clear hdb hfl
  go_upto_region 6 with (fail)
  go_cut [54] (fun v54 wx => v54 = .bool false ∧ Hid (Below W5.heap.size W5 wx))
  case first =>
    go_region_held3 (fun w' => w'.cell? ⟨cb, 0, none⟩ = some (.slice (some ⟨gb, 0, none⟩) 528 c2) ∧ w'.cell? ⟨cp, 0, none⟩ = some (.pointer (some ⟨gp, 0, none⟩)) ∧ w'.cell? ⟨gp, 2, none⟩ = some (.int .i64 1) ∧ w'.cell? ⟨gp, 0, none⟩ = some (.pointer (some ⟨gf, 0, none⟩))) (first | exact ⟨a5, a1, a4, a2⟩ | exact hS3) (first
      | (go_at_call 109; refine hroom.out.mono ?_; rintro e w7 ⟨rfl, hB7⟩; have hS3 := (show w7.cell? ⟨cb, 0, none⟩ = some (.slice (some ⟨gb, 0, none⟩) 528 c2) ∧ w7.cell? ⟨cp, 0, none⟩ = some (.pointer (some ⟨gp, 0, none⟩)) ∧ w7.cell? ⟨gp, 2, none⟩ = some (.int .i64 1) ∧ w7.cell? ⟨gp, 0, none⟩ = some (.pointer (some ⟨gf, 0, none⟩)) from ⟨(hB7.cell (World.block_lt_of_cell? W5 _ a5)).trans a5, (hB7.cell (World.block_lt_of_cell? W5 _ a1)).trans a1, (hB7.cell (World.block_lt_of_cell? W5 _ a4)).trans a4, (hB7.cell (World.block_lt_of_cell? W5 _ a2)).trans a2⟩); replace hB7 := hide hB7)
      | (go_at_call 108; refine (hk1.out _).mono ?_; rintro e w6 ⟨rfl, rfl⟩)
      | (go_at_call 108; refine (hk2.out _).mono ?_; rintro e w6 ⟨rfl, rfl⟩)
      | (go_at_call 108; refine (hk3.out _).mono ?_; rintro e w6 ⟨rfl, rfl⟩))
    all_goals
      go_wp2_with fail
      go_meet
      case rel => first | exact ⟨rfl, hide (((Below.refl W5.heap.size W5).drew.drew).trans hB7.out)⟩ | (refine ⟨?_, hide (((Below.refl W5.heap.size W5).drew.drew).trans hB7.out)⟩; show Value.bool (decide ((most : Int) < 17)) = _; rw [decide_eq_false (by omega)])
  obtain ⟨rfl, hB8⟩ := hcut
  have hSt0 : Hid (CoStg N w most stamp 0 wc) := by
    obtain ⟨p1, p2, p3⟩ := hSto.out
    obtain ⟨gd, gl, vd, vl, p4⟩ := p3
    exact hide ⟨p1.fso (FsO.of_below hB8.out), p2.trans (Only.of_below hB8.out), gd, gl, vd, vl, p4.below hB8.out⟩
  have T1 : Hid (∀ wx, CoStg N w most stamp 0 wx → Calls Tryz.prog 110 #[.pointer (some ⟨cp, 0, none⟩), .pointer (some ⟨cb, 0, none⟩)] wx (StgRet N w most stamp 1)) := hide fun wx hx => by
    have := st1 hx hmost hm17 hst
    have e := hN.out
    rw [show N.cp = cp by rw [e], show N.cb = cb by rw [e]] at this
    exact this
  have T2 : Hid (∀ wx, CoStg N w most stamp 1 wx → Calls Tryz.prog 112 #[.pointer (some ⟨cp, 0, none⟩)] wx (StgRet N w most stamp 2)) := hide fun wx hx => by
    have := st2 hx
    have e := hN.out
    rw [show N.cp = cp by rw [e]] at this
    exact this
  have T3 : Hid (∀ wx, CoStg N w most stamp 2 wx → Calls Tryz.prog 114 #[.pointer (some ⟨cp, 0, none⟩), .pointer (some ⟨cb, 0, none⟩)] wx (StgRet N w most stamp 3)) := hide fun wx hx => by
    have := st3 hx hmost hm17 hst
    have e := hN.out
    rw [show N.cp = cp by rw [e], show N.cb = cb by rw [e]] at this
    exact this
  have T4 : Hid (∀ wx, CoStg N w most stamp 3 wx → Calls Tryz.prog 115 #[.pointer (some ⟨cp, 0, none⟩)] wx (StgRet N w most stamp 4)) := hide fun wx hx => by
    have := st4 hx
    have e := hN.out
    rw [show N.cp = cp by rw [e]] at this
    exact this
  have T5 : Hid (∀ wx, CoStg N w most stamp 4 wx → Calls Tryz.prog 116 #[.pointer (some ⟨cp, 0, none⟩), .pointer (some ⟨cl, 0, none⟩)] wx (StgRet N w most stamp 5)) := hide fun wx hx => by
    have := st5 hx hmost hm17 hst
    have e := hN.out
    rw [show N.cp = cp by rw [e], show N.cl = cl by rw [e]] at this
    exact this
  have T6 : Hid (∀ wx, CoStg N w most stamp 5 wx → Calls Tryz.prog 117 #[.pointer (some ⟨cp, 0, none⟩)] wx (StgRet N w most stamp 6)) := hide fun wx hx => by
    have := st6 hx hst
    have e := hN.out
    rw [show N.cp = cp by rw [e]] at this
    exact this
  clear hx hx1 hx2 hpg hm h hp0 h3 hB1 hbp1 hpg1 hm1 hS1 hW1 hcp hps2 hm2 hO2 hbw hpg2 hbp2 hS2 hF2 hB3 hbl3 hps3 hW3 hcl a1 a2 a3 a4 a5 hk1 hk2 hk3 hroom hO4 hB4 hB5 hbb5 hB25 hO5 hB35 hpg5 hbp5 hS5 hW5 hcb hPer hSto e24 z0 x0 x1 hB8
  go_upto_region 8 with (fail)
  go_wp2_with fail
  go_loopw [62] (fun v62 wx => ∃ i : Nat, v62 = .int .i64 (i : Int) ∧ i ≤ 6 ∧ Hid (CoStg N w most stamp i wx)) (fun v62 _ => 6 - (intOf v62).toNat)
  case atStart => exact ⟨0, rfl, by omega, hSt0⟩
  case round =>
    obtain ⟨i, rfl, hi, hsg⟩ := hrel
    have h7 : i = 0 ∨ i = 1 ∨ i = 2 ∨ i = 3 ∨ i = 4 ∨ i = 5 ∨ i = 6 := by omega
    rcases h7 with rfl | rfl | rfl | rfl | rfl | rfl | rfl
    · have hT := hide (T1.out _ hsg.out)
      have hix : ∀ wx, (Instr.index 158 (.agg #[.func (Fn.func 110) #[] #[.pointer (some ⟨cp, 0, none⟩), .pointer (some ⟨cb, 0, none⟩)], .func (Fn.func 112) #[] #[.pointer (some ⟨cp, 0, none⟩)], .func (Fn.func 114) #[] #[.pointer (some ⟨cp, 0, none⟩), .pointer (some ⟨cb, 0, none⟩)], .func (Fn.func 115) #[] #[.pointer (some ⟨cp, 0, none⟩)], .func (Fn.func 116) #[] #[.pointer (some ⟨cp, 0, none⟩), .pointer (some ⟨cl, 0, none⟩)], .func (Fn.func 117) #[] #[.pointer (some ⟨cp, 0, none⟩)]]) (.int .i64 0)).run Tryz.prog wx = .ok (.func (Fn.func 110) #[] #[.pointer (some ⟨cp, 0, none⟩), .pointer (some ⟨cb, 0, none⟩)]) wx := fun _ => by kernel_rfl
      clear T1 T2 T3 T4 T5 T6 hsg hSt0 hN hi
      go_wp2_with fail
      refine hT.out.mono ?_
      rintro e w9 ⟨rfl, h9⟩
      clear hT hix
      go_wp2_with fail
      go_roundw
      case rel => exact ⟨1, rfl, by omega, h9⟩
      case measure => simp [intOf]
    · have hT := hide (T2.out _ hsg.out)
      have hix : ∀ wx, (Instr.index 158 (.agg #[.func (Fn.func 110) #[] #[.pointer (some ⟨cp, 0, none⟩), .pointer (some ⟨cb, 0, none⟩)], .func (Fn.func 112) #[] #[.pointer (some ⟨cp, 0, none⟩)], .func (Fn.func 114) #[] #[.pointer (some ⟨cp, 0, none⟩), .pointer (some ⟨cb, 0, none⟩)], .func (Fn.func 115) #[] #[.pointer (some ⟨cp, 0, none⟩)], .func (Fn.func 116) #[] #[.pointer (some ⟨cp, 0, none⟩), .pointer (some ⟨cl, 0, none⟩)], .func (Fn.func 117) #[] #[.pointer (some ⟨cp, 0, none⟩)]]) (.int .i64 1)).run Tryz.prog wx = .ok (.func (Fn.func 112) #[] #[.pointer (some ⟨cp, 0, none⟩)]) wx := fun _ => by kernel_rfl
      clear T1 T2 T3 T4 T5 T6 hsg hSt0 hN hi
      go_wp2_with fail
      refine hT.out.mono ?_
      rintro e w9 ⟨rfl, h9⟩
      clear hT hix
      go_wp2_with fail
      go_roundw
      case rel => exact ⟨2, rfl, by omega, h9⟩
      case measure => simp [intOf]
    · have hT := hide (T3.out _ hsg.out)
      have hix : ∀ wx, (Instr.index 158 (.agg #[.func (Fn.func 110) #[] #[.pointer (some ⟨cp, 0, none⟩), .pointer (some ⟨cb, 0, none⟩)], .func (Fn.func 112) #[] #[.pointer (some ⟨cp, 0, none⟩)], .func (Fn.func 114) #[] #[.pointer (some ⟨cp, 0, none⟩), .pointer (some ⟨cb, 0, none⟩)], .func (Fn.func 115) #[] #[.pointer (some ⟨cp, 0, none⟩)], .func (Fn.func 116) #[] #[.pointer (some ⟨cp, 0, none⟩), .pointer (some ⟨cl, 0, none⟩)], .func (Fn.func 117) #[] #[.pointer (some ⟨cp, 0, none⟩)]]) (.int .i64 2)).run Tryz.prog wx = .ok (.func (Fn.func 114) #[] #[.pointer (some ⟨cp, 0, none⟩), .pointer (some ⟨cb, 0, none⟩)]) wx := fun _ => by kernel_rfl
      clear T1 T2 T3 T4 T5 T6 hsg hSt0 hN hi
      go_wp2_with fail
      refine hT.out.mono ?_
      rintro e w9 ⟨rfl, h9⟩
      clear hT hix
      go_wp2_with fail
      go_roundw
      case rel => exact ⟨3, rfl, by omega, h9⟩
      case measure => simp [intOf]
    · have hT := hide (T4.out _ hsg.out)
      have hix : ∀ wx, (Instr.index 158 (.agg #[.func (Fn.func 110) #[] #[.pointer (some ⟨cp, 0, none⟩), .pointer (some ⟨cb, 0, none⟩)], .func (Fn.func 112) #[] #[.pointer (some ⟨cp, 0, none⟩)], .func (Fn.func 114) #[] #[.pointer (some ⟨cp, 0, none⟩), .pointer (some ⟨cb, 0, none⟩)], .func (Fn.func 115) #[] #[.pointer (some ⟨cp, 0, none⟩)], .func (Fn.func 116) #[] #[.pointer (some ⟨cp, 0, none⟩), .pointer (some ⟨cl, 0, none⟩)], .func (Fn.func 117) #[] #[.pointer (some ⟨cp, 0, none⟩)]]) (.int .i64 3)).run Tryz.prog wx = .ok (.func (Fn.func 115) #[] #[.pointer (some ⟨cp, 0, none⟩)]) wx := fun _ => by kernel_rfl
      clear T1 T2 T3 T4 T5 T6 hsg hSt0 hN hi
      go_wp2_with fail
      refine hT.out.mono ?_
      rintro e w9 ⟨rfl, h9⟩
      clear hT hix
      go_wp2_with fail
      go_roundw
      case rel => exact ⟨4, rfl, by omega, h9⟩
      case measure => simp [intOf]
    · have hT := hide (T5.out _ hsg.out)
      have hix : ∀ wx, (Instr.index 158 (.agg #[.func (Fn.func 110) #[] #[.pointer (some ⟨cp, 0, none⟩), .pointer (some ⟨cb, 0, none⟩)], .func (Fn.func 112) #[] #[.pointer (some ⟨cp, 0, none⟩)], .func (Fn.func 114) #[] #[.pointer (some ⟨cp, 0, none⟩), .pointer (some ⟨cb, 0, none⟩)], .func (Fn.func 115) #[] #[.pointer (some ⟨cp, 0, none⟩)], .func (Fn.func 116) #[] #[.pointer (some ⟨cp, 0, none⟩), .pointer (some ⟨cl, 0, none⟩)], .func (Fn.func 117) #[] #[.pointer (some ⟨cp, 0, none⟩)]]) (.int .i64 4)).run Tryz.prog wx = .ok (.func (Fn.func 116) #[] #[.pointer (some ⟨cp, 0, none⟩), .pointer (some ⟨cl, 0, none⟩)]) wx := fun _ => by kernel_rfl
      clear T1 T2 T3 T4 T5 T6 hsg hSt0 hN hi
      go_wp2_with fail
      refine hT.out.mono ?_
      rintro e w9 ⟨rfl, h9⟩
      clear hT hix
      go_wp2_with fail
      go_roundw
      case rel => exact ⟨5, rfl, by omega, h9⟩
      case measure => simp [intOf]
    · have hT := hide (T6.out _ hsg.out)
      have hix : ∀ wx, (Instr.index 158 (.agg #[.func (Fn.func 110) #[] #[.pointer (some ⟨cp, 0, none⟩), .pointer (some ⟨cb, 0, none⟩)], .func (Fn.func 112) #[] #[.pointer (some ⟨cp, 0, none⟩)], .func (Fn.func 114) #[] #[.pointer (some ⟨cp, 0, none⟩), .pointer (some ⟨cb, 0, none⟩)], .func (Fn.func 115) #[] #[.pointer (some ⟨cp, 0, none⟩)], .func (Fn.func 116) #[] #[.pointer (some ⟨cp, 0, none⟩), .pointer (some ⟨cl, 0, none⟩)], .func (Fn.func 117) #[] #[.pointer (some ⟨cp, 0, none⟩)]]) (.int .i64 5)).run Tryz.prog wx = .ok (.func (Fn.func 117) #[] #[.pointer (some ⟨cp, 0, none⟩)]) wx := fun _ => by kernel_rfl
      clear T1 T2 T3 T4 T5 T6 hsg hSt0 hN hi
      go_wp2_with fail
      refine hT.out.mono ?_
      rintro e w9 ⟨rfl, h9⟩
      clear hT hix
      go_wp2_with fail
      go_roundw
      case rel => exact ⟨6, rfl, by omega, h9⟩
      case measure => simp [intOf]
    · obtain ⟨w9, hw9⟩ : ∃ w9, w9 = wr := ⟨_, rfl⟩
      subst hw9
      obtain ⟨hP, hFr⟩ := hsg.out
      have e := hN.out
      have hpgr : Blk w9 gp 85 (pgF gf nm a b gm gc row rd) := by have := hP.pg; rw [e] at this; exact this
      have hmr : IMap w9 gm 65536 (fun _ => none) := by have := hP.mp; rw [e] at this; exact this
      have hbpr : Blk w9 cp 24 #[ptrV gp] := by have := hP.bp; rw [e] at this; exact this
      have hxr : Hid (Blk w9 xg 24 #[ptrV gp]) := by have := hP.ex; rw [e] at this; exact hide this
      have hFrr : Hid (Fr H0 gf bm w w9) := by rw [e] at hFr; exact hide hFr
      have hN1 : N.gp = gp := by rw [e]
      clear T1 T2 T3 T4 T5 T6 hsg hSt0 hN hi e hP hFr
      have hmr2 := hide hmr
      obtain ⟨nn, D, hown, hKeys⟩ := hmr
      obtain ⟨w10, hrg, hR, hg1, hz1⟩ := hown.range (Go.Maps.int_keyed Tryz.underlying3) Tryz.underlying80
      have hB1 : Below w9.heap.size w9 w10 := (Below.refl _ w9).grown hg1 (Nat.le_refl _) (by simp)
      have e1 : w9.cell? ⟨cp, 0, none⟩ = some (.pointer (some ⟨gp, 0, none⟩)) := hbpr.cell 0
      have e2 : w9.cell? ⟨gp, 22, none⟩ = some (.map (some gm)) := hpgr.cell 22
      have hpg10 := hpgr.below hB1 hpgr.lt
      have hbp10 := hbpr.below hB1 hbpr.lt
      have hm10 := hmr2.out.keep (hB1.block gm hmr2.out.lt)
      replace hpgr := hide hpgr
      replace hbpr := hide hbpr
      replace hown := hide hown
      replace hKeys := hide hKeys
      replace hR := hide hR
      replace hg1 := hide hg1
      replace hz1 := hide hz1
      replace hB1 := hide hB1
      replace hpg10 := hide hpg10
      replace hbp10 := hide hbp10
      replace hm10 := hide hm10
      go_wp2_with fail
      go_loopw [] (fun wx => wx = w10) (fun _ => 0)
      case atStart => rfl
      case round =>
        subst hrel
        rcases hR.out.next (Go.Maps.int_keyed Tryz.underlying3) 0 with ⟨h0, hall, hrun⟩ | ⟨key, v, k, y, w2, cnt', hkey, hleft, _⟩
        · have hnx : ∀ ty, (Instr.next (.pointer (some ⟨w9.heap.size, 0, none⟩)) false ty).run Tryz.prog _ = _ := fun _ => hrun
          replace hall := hide hall
          clear hrun
          have e4 : wr.cell? ⟨gp, 22, none⟩ = some (.map (some gm)) := hpg10.out.cell 22
          have e3 : wr.cell? ⟨cp, 0, none⟩ = some (.pointer (some ⟨gp, 0, none⟩)) := hbp10.out.cell 0
          obtain ⟨w11, hcl, hm11, hg11⟩ := IMap.clear hm10.out 0
          have hO11 : Only (fun j => j = gm) wr w11 := (Only.refl _ wr).grown hg11 (fun k hk _ => by injection hk with hk; exact hk.symm)
          have hpg11 := hO11.blk hpg10.out hne
          have hx11 := hide (hO11.blk (hxr.out.below hB1.out hxr.out.lt) hnx1)
          have hbp11 := hO11.blk hbp10.out (fun e => hne1 e)
          have hF11 : Hid (Fr H0 gf bm w w11) := hide ((hFrr.out.trans (Only.of_below hB1.out)).trans (Fr.imap_step hO11 hgm))
          have q0 : w11.cell? ⟨cp, 0, none⟩ = some (.pointer (some ⟨gp, 0, none⟩)) := hbp11.cell 0
          have g2 : w11.cell? ⟨gp, 2, none⟩ = some (.int .i64 (a.many : Int)) := hpg11.cell 2
          have g3 : w11.cell? ⟨gp, 3, none⟩ = some (.int .i64 (a.free : Int)) := hpg11.cell 3
          have g4 : w11.cell? ⟨gp, 4, none⟩ = some (.int .i64 (a.roots 0 : Int)) := hpg11.cell 4
          have g5 : w11.cell? ⟨gp, 5, none⟩ = some (.int .i64 (a.roots 1 : Int)) := hpg11.cell 5
          have g6 : w11.cell? ⟨gp, 6, none⟩ = some (.int .i64 (a.roots 2 : Int)) := hpg11.cell 6
          have g7 : w11.cell? ⟨gp, 7, none⟩ = some (.int .i64 (a.roots 3 : Int)) := hpg11.cell 7
          have g8 : w11.cell? ⟨gp, 8, none⟩ = some (.int .i64 (a.roots 4 : Int)) := hpg11.cell 8
          have g9 : w11.cell? ⟨gp, 9, none⟩ = some (.int .i64 (a.roots 5 : Int)) := hpg11.cell 9
          have g10 : w11.cell? ⟨gp, 10, none⟩ = some (.int .i64 (a.roots 6 : Int)) := hpg11.cell 10
          have g11 : w11.cell? ⟨gp, 11, none⟩ = some (.int .i64 (a.roots 7 : Int)) := hpg11.cell 11
          have g12 : w11.cell? ⟨gp, 12, none⟩ = some (.int .i64 (b.many : Int)) := hpg11.cell 12
          have g13 : w11.cell? ⟨gp, 13, none⟩ = some (.int .i64 (b.free : Int)) := hpg11.cell 13
          have g14 : w11.cell? ⟨gp, 14, none⟩ = some (.int .i64 (b.roots 0 : Int)) := hpg11.cell 14
          have g15 : w11.cell? ⟨gp, 15, none⟩ = some (.int .i64 (b.roots 1 : Int)) := hpg11.cell 15
          have g16 : w11.cell? ⟨gp, 16, none⟩ = some (.int .i64 (b.roots 2 : Int)) := hpg11.cell 16
          have g17 : w11.cell? ⟨gp, 17, none⟩ = some (.int .i64 (b.roots 3 : Int)) := hpg11.cell 17
          have g18 : w11.cell? ⟨gp, 18, none⟩ = some (.int .i64 (b.roots 4 : Int)) := hpg11.cell 18
          have g19 : w11.cell? ⟨gp, 19, none⟩ = some (.int .i64 (b.roots 5 : Int)) := hpg11.cell 19
          have g20 : w11.cell? ⟨gp, 20, none⟩ = some (.int .i64 (b.roots 6 : Int)) := hpg11.cell 20
          have g21 : w11.cell? ⟨gp, 21, none⟩ = some (.int .i64 (b.roots 7 : Int)) := hpg11.cell 21
          have f12 : w11.frozen? ⟨gp, 12, none⟩ = false := hpg11.frozen 12
          have f13 : w11.frozen? ⟨gp, 13, none⟩ = false := hpg11.frozen 13
          have f14 : w11.frozen? ⟨gp, 14, none⟩ = false := hpg11.frozen 14
          have f15 : w11.frozen? ⟨gp, 15, none⟩ = false := hpg11.frozen 15
          have f16 : w11.frozen? ⟨gp, 16, none⟩ = false := hpg11.frozen 16
          have f17 : w11.frozen? ⟨gp, 17, none⟩ = false := hpg11.frozen 17
          have f18 : w11.frozen? ⟨gp, 18, none⟩ = false := hpg11.frozen 18
          have f19 : w11.frozen? ⟨gp, 19, none⟩ = false := hpg11.frozen 19
          have f20 : w11.frozen? ⟨gp, 20, none⟩ = false := hpg11.frozen 20
          have f21 : w11.frozen? ⟨gp, 21, none⟩ = false := hpg11.frozen 21
          have hu := Tryz.underlying83
          have hend : Hid (∀ W, W = w11.setCells gp 12 (hdV a) → CmRet w H0 gf bm gp gm gc rd nm a row xg (.returned (.int .i64 0)) W.drew) := by
            refine hide fun W hW => ?_
            have k1 : Blk W gp 85 (pgF gf nm a a gm gc row rd) := by rw [hW]; exact hdV_set w11 a b hpg11
            have k2 : Only (fun j => j = gp) w11 W := by rw [hW]; exact setCells_only (hdV a) 12 w11 (Only.refl (fun j => j = gp) w11)
            have k3 : IMap W gm 65536 (fun _ => none) := hm11.keep (k2.block gm hm11.lt (fun e => hne e.symm))
            have k4 : Fr H0 gf bm w11 W := k2.mono fun j _ e => .inr (.inr (by rw [e]; exact hgp))
            have k5 : Blk W xg 24 #[ptrV gp] := k2.blk hx11.out hnx2
            exact ⟨rfl, k5, k1, k3, hF11.out.trans k4.drew⟩
          replace h1 := hide h1
          replace hm11 := hide hm11
          replace hg11 := hide hg11
          replace hO11 := hide hO11
          replace hpg11 := hide hpg11
          replace hbp11 := hide hbp11
          clear e1 e2 hrg
          go_wp2_with fail
          go_region
          all_goals
            go_wp2_with fail
            go_ret
            exact hend.out _ (by simp only [hdV, World.setCells])
        · exact absurd hleft (by rw [keys_none hKeys.out]; simp)
end Go.Proofs.YthohbbaglceppaaGreatDoor
