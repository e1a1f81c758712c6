/-
  The reader of a node's bytes: contracts of num, cut, cell; of bytes.Trim at noughts.
-/
import Derived.Test.YthohbbaglceppaaGreatDoorUNodeP
import Derived.Test.YthohbbaglceppaaGreatDoorUA
namespace Go.Proofs.YthohbbaglceppaaGreatDoor
open Go.RowKit
set_option linter.unusedVariables false
theorem OB.far {w : World} {base n : Nat} {v : Value} {l : List UInt8} (h : OB w base v n l) {p : Addr} (hp : v.ownBlock ≠ some p.block) (u : Value) : OB (w.setCell p u) base v n l := by
  obtain ⟨h1, h2⟩ := h
  refine ⟨h1, ?_⟩
  rcases h2 with h2 | ⟨g, cap, cur, rfl, hg, hh, r⟩
  · exact Or.inl h2
  · exact Or.inr ⟨g, cap, cur, rfl, hg, (Below.heap_setCell w p u g (fun e => hp (by rw [← e]; rfl))).trans hh, r⟩
/-- A reader: the bytes, in a block ahead of its own; where it is. -/
structure Rdr (w : World) (gr : Nat) (A : Option Addr) (N c : Nat) (b : List UInt8) (at_ : Nat) : Prop where
  blk : Blk w gr 200 #[.slice A N c, .int .i64 (at_ : Int), .bool true]
  rb : RB w gr A N b
  nc : N ≤ c
  small : N ≤ 10000000
/-- What a read leaves. -/
def RdLeft (w : World) (gr : Nat) (A : Option Addr) (N c : Nat) (b : List UInt8) (at_ : Nat) (w' : World) : Prop := Rdr w' gr A N c b at_ ∧ Only (fun j => j = gr) w w'
theorem Rdr.moved {w w' : World} {gr N c at_ at2 : Nat} {A : Option Addr} {b : List UInt8} (h : Rdr w gr A N c b at_) (hb : Below w.heap.size w w') :
    RdLeft w gr A N c b at2 ((w'.setCell ⟨gr, 1, none⟩ (.int .i64 (at2 : Int))).setCell ⟨gr, 2, none⟩ (.bool true)) := by
  have h1 := h.blk.below hb (Blk.lt h.blk)
  have h2 := (h1.set_ 1 (.int .i64 (at2 : Int))).set_ 2 (.bool true)
  have hlt := Blk.lt h.blk
  refine ⟨⟨h2, ?_, h.nc, h.small⟩, (((Only.of_below (S := fun j => j = gr) hb).setCell (p := ⟨gr, 1, none⟩) (fun _ => rfl) _).setCell (p := ⟨gr, 2, none⟩) (fun _ => rfl) _)⟩
  exact ((h.rb.below (hb.mono (Nat.le_of_lt hlt))).setCell (p := ⟨gr, 1, none⟩) (Nat.le_refl _) _).setCell (p := ⟨gr, 2, none⟩) (Nat.le_refl _) _
set_option maxRecDepth 100000 in
theorem num_any (w : World) (gr N c at_ k : Nat) (A : Option Addr) (b : List UInt8) (h : Rdr w gr A N c b at_) (hk1 : 1 ≤ k) (hk : k ≤ 4) (hak : at_ + k ≤ N) (kk : Int) (hkk : kk = (k : Int)) :
    Calls Tryz.prog 147 #[.pointer (some ⟨gr, 0, none⟩), .int .i64 kk] w fun e w' => e = .returned (.int .i64 ((numL ((b.drop at_).take k) : Nat) : Int)) ∧ RdLeft w gr A N c b (at_ + k) w' := by
  subst hkk
  have c0 : w.cell? ⟨gr, 0, none⟩ = some (.slice A N c) := h.blk.cell 0
  have c1 : w.cell? ⟨gr, 1, none⟩ = some (.int .i64 (at_ : Int)) := h.blk.cell 1
  have hlt := Blk.lt h.blk
  have hwg : Hid (∀ wz, Below w.heap.size w wz → Calls Tryz.prog 70 #[.slice A N c, .int .i64 (at_ : Int), .int .i64 (k : Int)] wz (NumRet (numL ((b.drop at_).take k)) 0 wz)) := hide fun wz hb =>
    wget_any wz A N c at_ k b ((h.rb.below (hb.mono (Nat.le_of_lt hlt))).more (by have := hb.size; omega)) h.nc h.small hak hk1 hk
  obtain ⟨X, hX⟩ : ∃ X, X = numL ((b.drop at_).take k) := ⟨_, rfl⟩
  obtain ⟨T, hT⟩ : ∃ T, T = at_ + k := ⟨_, rfl⟩
  rw [← hX, ← hT]
  rw [← hX] at hwg
  have hTI : (at_ : Int) + (k : Int) = (T : Int) := by omega
  have hTb : (T : Int) ≤ 10000000 := by have := h.small; omega
  have hkeep : Hid (∀ wz, Below w.heap.size w wz → (wz.cell? ⟨gr, 0, none⟩ = some (.slice A N c) ∧ wz.cell? ⟨gr, 1, none⟩ = some (.int .i64 (at_ : Int)))) := hide fun wz hz => ⟨(hz.cell (p := ⟨gr, 0, none⟩) hlt).trans c0, (hz.cell (p := ⟨gr, 1, none⟩) hlt).trans c1⟩
  have hmv := hide (fun w' hb => h.moved (at2 := T) (w' := w') hb)
  have hB := hide h.blk
  replace hX := hide hX
  replace hT := hide hT
  replace h := hide h
  go_enter Tryz.func147, Tryz.ntmps147
  go_upto_region 1 with (fail)
  go_region_held3 (fun w' => w'.cell? ⟨gr, 0, none⟩ = some (.slice A N c) ∧ w'.cell? ⟨gr, 1, none⟩ = some (.int .i64 (at_ : Int))) (first | exact ⟨c0, c1⟩ | exact hkeep.out _ hbA | exact hkeep.out _ (below_drewN hbA _)) ((go_at_call 70; refine (hwg.out _ ((Below.refl _ w).drew)).mono ?_; rintro e w2 ⟨rfl, hb2⟩; have hbA : Below w.heap.size w w2 := (Below.refl _ w).drew.trans hb2; replace hb2 := hide hb2))
  all_goals
    have hb3 := hB.out.below hbA hlt
    have d1 := hb3.cell 1
    have f1 := hb3.frozen 1
    have d2 := hb3.cell 2
    have f2 := hb3.frozen 2
    have hfin := hide (hmv.out _ hbA)
    replace hb3 := hide hb3
    replace hbA := hide hbA
    go_wp2_with fail
    go_ret
    exact ⟨rfl, hfin.out⟩
/-- What cut returns. -/
def RCutRet (w : World) (gr : Nat) (A : Option Addr) (N c : Nat) (b : List UInt8) (at_ k : Nat) (e : Ending) (w' : World) : Prop := ∃ v, e = .returned v ∧ OB w' w.heap.size v k ((b.drop at_).take k) ∧ RdLeft w gr A N c b (at_ + k) w'
set_option maxRecDepth 100000 in
theorem cut_any (w : World) (gr N c at_ k : Nat) (A : Option Addr) (b : List UInt8) (h : Rdr w gr A N c b at_) (hak : at_ + k ≤ N) :
    Calls Tryz.prog 148 #[.pointer (some ⟨gr, 0, none⟩), .int .i64 (k : Int)] w (RCutRet w gr A N c b at_ k) := by
  have c0 : w.cell? ⟨gr, 0, none⟩ = some (.slice A N c) := h.blk.cell 0
  have c1 : w.cell? ⟨gr, 1, none⟩ = some (.int .i64 (at_ : Int)) := h.blk.cell 1
  have hlt := Blk.lt h.blk
  have hwg : Hid (∀ wz, Below w.heap.size w wz → Calls Tryz.prog 122 #[.slice A N c, .int .i64 (at_ : Int), .int .i64 (k : Int)] wz (CutRet wz k ((b.drop at_).take k))) := hide fun wz hb =>
    wcut_any wz A N c at_ k b ((h.rb.below (hb.mono (Nat.le_of_lt hlt))).more (by have := hb.size; omega)) h.nc h.small hak
  obtain ⟨X, hX⟩ : ∃ X, X = (b.drop at_).take k := ⟨_, rfl⟩
  obtain ⟨T, hT⟩ : ∃ T, T = at_ + k := ⟨_, rfl⟩
  unfold RCutRet
  rw [← hX, ← hT]
  rw [← hX] at hwg
  have hTI : (at_ : Int) + (k : Int) = (T : Int) := by omega
  have hTb : (T : Int) ≤ 10000000 := by have := h.small; omega
  have hkeep : Hid (∀ wz, Below w.heap.size w wz → (wz.cell? ⟨gr, 0, none⟩ = some (.slice A N c) ∧ wz.cell? ⟨gr, 1, none⟩ = some (.int .i64 (at_ : Int)))) := hide fun wz hz => ⟨(hz.cell (p := ⟨gr, 0, none⟩) hlt).trans c0, (hz.cell (p := ⟨gr, 1, none⟩) hlt).trans c1⟩
  have hmv := hide (fun w' hb => h.moved (at2 := T) (w' := w') hb)
  have hB := hide h.blk
  replace hX := hide hX
  replace hT := hide hT
  replace h := hide h
  go_enter Tryz.func148, Tryz.ntmps148
  go_upto_region 1 with (fail)
  go_region_held3 (fun w' => w'.cell? ⟨gr, 0, none⟩ = some (.slice A N c) ∧ w'.cell? ⟨gr, 1, none⟩ = some (.int .i64 (at_ : Int))) (first | exact ⟨c0, c1⟩ | exact hkeep.out _ hbA | exact hkeep.out _ (below_drewN hbA _)) ((go_at_call 122; refine (hwg.out _ ((Below.refl _ w).drew)).mono ?_; rintro e w2 ⟨v2, rfl, hO2, hb2⟩; have hbA : Below w.heap.size w w2 := (Below.refl _ w).drew.trans hb2; replace hb2 := hide hb2; replace hO2 := hide hO2))
  all_goals
    have hb3 := hB.out.below hbA hlt
    have d1 := hb3.cell 1
    have f1 := hb3.frozen 1
    have d2 := hb3.cell 2
    have f2 := hb3.frozen 2
    have hfin := hide (hmv.out _ hbA)
    have hOf : Hid (OB ((w2.setCell ⟨gr, 1, none⟩ (.int .i64 (T : Int))).setCell ⟨gr, 2, none⟩ (.bool true)) w.heap.size v2 k X) := hide (by
      have hO := hO2.out
      have hne := own_blk_ne hO hb3 (by decide)
      exact OB.far (OB.far hO hne _) hne _)
    replace hb3 := hide hb3
    replace hbA := hide hbA
    go_wp2_with fail
    go_ret
    exact ⟨v2, rfl, hOf.out, hfin.out⟩
/-- What a leaf's cell has behind its key. -/
def tailB (c : CellP) : List UInt8 := if c.over = 0 then leB 2 c.val.length ++ c.val else leB 2 c.long ++ leB 3 c.over
theorem tailB_len (c : CellP) : (tailB c).length = if c.over = 0 then 2 + c.val.length else 5 := by
  unfold tailB; split <;> simp [leB_len]
/-- What stands at a place. -/
theorem at_app {b x y : List UInt8} {at_ : Nat} (h : (b.drop at_).take (x ++ y).length = x ++ y) : (b.drop at_).take x.length = x ∧ (b.drop (at_ + x.length)).take y.length = y := by
  have hl : (x ++ y).length ≤ (b.drop at_).length := by rw [← h]; rw [List.length_take]; omega
  constructor
  · have h2 := congrArg (List.take x.length) h
    rw [List.take_take, List.take_left] at h2
    rw [Nat.min_eq_left (by simp)] at h2
    exact h2
  · have h2 := congrArg (List.drop x.length) h
    rw [List.drop_left, List.drop_take, List.drop_drop] at h2
    rw [List.length_append, Nat.add_sub_cancel_left] at h2
    exact h2
theorem Rdr.only {w w' : World} {gr N c at_ : Nat} {A : Option Addr} {b : List UInt8} {S : Nat → Prop} (h : Rdr w gr A N c b at_) (hO : Only S w w') (h1 : ¬ S gr) (h2 : ∀ k, k < gr → ¬ S k) : Rdr w' gr A N c b at_ :=
  ⟨hO.blk h.blk h1, h.rb.keep fun p hp => World.cell?_of_block (hO.block p.block (by have := Blk.lt h.blk; omega) (h2 _ hp)), h.nc, h.small⟩
theorem Rdr.set_ {w : World} {gr N c at_ g i : Nat} {A : Option Addr} {b : List UInt8} (h : Rdr w gr A N c b at_) (hg : gr < g) (u : Value) : Rdr (w.setCell ⟨g, i, none⟩ u) gr A N c b at_ :=
  ⟨h.blk.far (by exact Nat.ne_of_lt hg) _, h.rb.setCell (p := ⟨g, i, none⟩) (Nat.le_of_lt hg) _, h.nc, h.small⟩
/-- What cell leaves. -/
def RCellRet (w : World) (gr gc : Nat) (A : Option Addr) (N c : Nat) (b : List UInt8) (at_ : Nat) (kv : Value) (x : CellP) (e : Ending) (w' : World) : Prop :=
  e = .returned (.tuple #[]) ∧ Rdr w' gr A N c b (at_ + (tailB x).length) ∧ Only (fun j => j = gr ∨ j = gc) w w' ∧ ∃ vv, Blk w' gc 95 #[kv, vv, .int .i64 (x.over : Int), .int .i64 (x.long : Int)] ∧ OB w' w.heap.size vv x.val.length x.val
set_option maxRecDepth 100000 in
theorem rcell_any (w : World) (gr gc N c at_ : Nat) (A : Option Addr) (b : List UInt8) (h : Rdr w gr A N c b at_) (kv : Value) (hgc : gr < gc) (hc : Blk w gc 95 #[kv, .slice none 0 0, .int .i64 0, .int .i64 0]) (x : CellP) (hx : CellOk x)
    (ht : (b.drop at_).take (tailB x).length = tailB x) (hN : at_ + (tailB x).length ≤ N) :
    Calls Tryz.prog 149 #[.pointer (some ⟨gr, 0, none⟩), .pointer (some ⟨gc, 0, none⟩)] w (RCellRet w gr gc A N c b at_ kv x) := by
  have htl := tailB_len x
  have hltc := Blk.lt hc
  rcases hx with ⟨h1, h2, h3⟩ | ⟨h1, h2, h3, h4⟩
  · have e : tailB x = leB 2 x.val.length ++ x.val := by unfold tailB; rw [if_pos h1]
    rw [if_pos h1] at htl
    rw [e] at ht
    obtain ⟨t1, t2⟩ := at_app ht
    rw [leB_len] at t1 t2
    have hn := num_any w gr N c at_ 2 A b h (by omega) (by omega) (by omega) 2 rfl
    rw [t1, numL_leB, Nat.mod_eq_of_lt (by omega)] at hn
    obtain ⟨VL, hVL⟩ : ∃ VL, VL = x.val.length := ⟨_, rfl⟩
    rw [← hVL] at hn h3
    have hVI : (VL : Int) ≤ 64 := by omega
    have hcu : Hid (∀ wz, RdLeft w gr A N c b (at_ + 2) wz → Calls Tryz.prog 148 #[.pointer (some ⟨gr, 0, none⟩), .int .i64 (VL : Int)] wz (RCutRet wz gr A N c b (at_ + 2) VL)) := hide fun wz hz => cut_any wz gr N c (at_ + 2) VL A b hz.1 (by rw [hVL]; omega)
    unfold RCellRet
    rw [h1, h2, htl, ← hVL]
    replace hn := hide hn
    replace hVL := hide hVL
    replace h := hide h
    replace hc := hide hc
    replace ht := hide ht
    replace t1 := hide t1
    replace t2 := hide t2
    replace e := hide e
    replace htl := hide htl
    replace h1 := hide h1
    replace h2 := hide h2
    go_enter Tryz.func149, Tryz.ntmps149
    go_wp2_with fail
    refine hn.out.mono ?_
    rintro e w2 ⟨rfl, hL2⟩
    have hcu2 := hide (hcu.out w2 hL2)
    have hc2 := hide (hL2.2.blk hc.out (Nat.ne_of_gt hgc))
    have hO2 := hide hL2.2
    have hs2 := hL2.2.size
    replace hL2 := hide hL2
    go_wp2_with fail
    refine hcu2.out.mono ?_
    rintro e w3 ⟨v3, rfl, hO3, hL3⟩
    obtain ⟨A3, c3, hv3, _⟩ := hO3.form
    subst hv3
    have hc3 := hL3.2.blk hc2.out (Nat.ne_of_gt hgc)
    have f1 := hc3.frozen 1
    have d1 := hc3.cell 1
    have hR3 := hide (hL3.1.set_ (g := gc) (i := 1) hgc (.slice A3 VL c3))
    have hO4 : Hid (Only (fun j => j = gr ∨ j = gc) w (w3.setCell ⟨gc, 1, none⟩ (.slice A3 VL c3))) := hide (((hO2.out.mono (S := fun j => j = gr ∨ j = gc) (fun _ _ h => .inl h)).trans hL3.2 (fun i _ h => .inl h)).setCell (p := ⟨gc, 1, none⟩) (fun _ => .inr rfl) _)
    have hc4 := hide (hc3.set_ 1 (.slice A3 VL c3))
    have hob : Hid (OB (w3.setCell ⟨gc, 1, none⟩ (.slice A3 VL c3)) w.heap.size (.slice A3 VL c3) VL x.val) := hide (by
      have := t2.out
      rw [← hVL.out] at this
      rw [this] at hO3
      exact (OB.far hO3 (own_blk_ne hO3 hc3 (by decide)) _).more hs2)
    replace hc3 := hide hc3
    replace hO3 := hide hO3
    replace hL3 := hide hL3
    go_wp2_with fail
    go_end0
    exact ⟨rfl, by rw [← Nat.add_assoc]; exact hR3.out, hO4.out, .slice A3 VL c3, hc4.out, hob.out⟩
  · have h1n : x.over ≠ 0 := by have := h1.1; omega
    have e : tailB x = leB 2 x.long ++ leB 3 x.over := by unfold tailB; rw [if_neg h1n]
    rw [if_neg h1n] at htl
    rw [e] at ht
    obtain ⟨t1, t2⟩ := at_app ht
    rw [leB_len] at t1 t2
    rw [leB_len] at t2
    have hn := num_any w gr N c at_ 2 A b h (by omega) (by omega) (by omega) 2 rfl
    rw [t1, numL_leB, Nat.mod_eq_of_lt (by omega)] at hn
    have hn3 : Hid (∀ wz, RdLeft w gr A N c b (at_ + 2) wz → Calls Tryz.prog 147 #[.pointer (some ⟨gr, 0, none⟩), .int .i64 3] wz fun e w' => e = .returned (.int .i64 (x.over : Int)) ∧ RdLeft wz gr A N c b (at_ + 2 + 3) w') := hide fun wz hz => by
      have h := num_any wz gr N c (at_ + 2) 3 A b hz.1 (by omega) (by omega) (by omega) 3 rfl
      rw [t2, numL_leB, Nat.mod_eq_of_lt (by have := h1.2; omega)] at h
      exact h
    have hLI : (64 : Int) < (x.long : Int) := by omega
    have hv0 : x.val = [] := h4
    unfold RCellRet
    rw [htl, hv0]
    obtain ⟨OV, hOV⟩ : ∃ OV, OV = x.over := ⟨_, rfl⟩
    obtain ⟨LG, hLG⟩ : ∃ LG, LG = x.long := ⟨_, rfl⟩
    rw [← hOV, ← hLG]
    rw [← hOV] at hn3
    rw [← hLG] at hn hLI
    replace hn := hide hn
    replace h := hide h
    replace hc := hide hc
    replace ht := hide ht
    replace t1 := hide t1
    replace t2 := hide t2
    replace e := hide e
    replace htl := hide htl
    replace hOV := hide hOV
    replace hLG := hide hLG
    replace hv0 := hide hv0
    replace h4 := hide h4
    go_enter Tryz.func149, Tryz.ntmps149
    go_wp2_with fail
    refine hn.out.mono ?_
    rintro e w2 ⟨rfl, hL2⟩
    have hcu2 := hide (hn3.out w2 hL2)
    have hc2 := hide (hL2.2.blk hc.out (Nat.ne_of_gt hgc))
    have hO2 := hide hL2.2
    replace hL2 := hide hL2
    go_wp2_with fail
    refine hcu2.out.mono ?_
    rintro e w3 ⟨rfl, hL3⟩
    have hc3 := hL3.2.blk hc2.out (Nat.ne_of_gt hgc)
    have f2 := hc3.frozen 2
    have d2 := hc3.cell 2
    have f3 := hc3.frozen 3
    have d3 := hc3.cell 3
    have hR3 := hide ((hL3.1.set_ (g := gc) (i := 3) hgc (.int .i64 (LG : Int))).set_ (g := gc) (i := 2) hgc (.int .i64 (OV : Int)))
    have hO4 : Hid (Only (fun j => j = gr ∨ j = gc) w ((w3.setCell ⟨gc, 3, none⟩ (.int .i64 (LG : Int))).setCell ⟨gc, 2, none⟩ (.int .i64 (OV : Int)))) := hide ((((hO2.out.mono (S := fun j => j = gr ∨ j = gc) (fun _ _ h => .inl h)).trans hL3.2 (fun i _ h => .inl h)).setCell (p := ⟨gc, 3, none⟩) (fun _ => .inr rfl) _).setCell (p := ⟨gc, 2, none⟩) (fun _ => .inr rfl) _)
    have hc4 := hide ((hc3.set_ 3 (.int .i64 (LG : Int))).set_ 2 (.int .i64 (OV : Int)))
    replace hc3 := hide hc3
    replace hL3 := hide hL3
    go_wp2_with fail
    go_end0
    exact ⟨rfl, hR3.out, hO4.out, .slice none 0 0, hc4.out, OB.nil _ _⟩
end Go.Proofs.YthohbbaglceppaaGreatDoor
