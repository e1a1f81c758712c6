/-
  Contract of vfs.Sync: what each sector is lasts; the contents left open.
-/
import Derived.Test.YthohbbaglceppaaGreatDoorUVP
import Derived.Deep.MidRow
import Derived.Deep.RegionHeld3
import Derived.BigRegion
import Derived.Deep.RegionLaw
namespace Go.Proofs.YthohbbaglceppaaGreatDoor
open Go.RowKit Go.Maps
set_option linter.unusedVariables false
/-- What Sync leaves. -/
def SyRet (w : World) (B gf bm most stamp : Nat) (da la : List UInt8) (fd fl : Option Nat) (g k n : Nat) (v : Value) (e : Ending) (w' : World) : Prop :=
  e = .returned (.int .i64 0) ∧ FSAt w' B gf bm most stamp da la fd fl ∧ FileX w' B g k n v ∧ Only (fun j => v.ownBlock = some j) w w'
/-- Behind some sectors. -/
def SyRel (w : World) (g k n st gs cap : Nat) (wx : World) : Prop :=
  Blk wx g 175 #[.slice (some ⟨gs, 0, none⟩) k cap, .int .i64 (n : Int), .int .i64 (st : Int)] ∧ Only (fun j => j = gs) w wx ∧ ∃ cur : List Value, wx.heap[gs]? = some (.cells cur.toArray 181 (0, 0)) ∧ cur.length = cap * 129 ∧ OneL (cur.take (k * 129))
theorem sec_size : (Tryz.prog.info? 179).map (·.size) = some 64 := by kernel_rfl
theorem setCells_blk {g : Nat} {t : TypeId} : ∀ (vs : List Value) (o : Nat) (w : World) (cur : Array Value), Blk w g t cur →
    ∃ cur', Blk (w.setCells g o vs) g t cur' ∧ cur'.size = cur.size ∧ ∀ (j : Nat) (u : Value), cur'[j]? = some u → u ∈ vs ∨ cur[j]? = some u
  | [], o, w, cur, h => ⟨cur, h, rfl, fun _ _ h => .inr h⟩
  | v :: r, o, w, cur, h => by
    obtain ⟨cur', h1, h2, h3⟩ := setCells_blk r (o + 1) _ _ (h.set_ o v)
    refine ⟨cur', h1, by rw [h2]; simp, fun j u hj => ?_⟩
    rcases h3 j u hj with h4 | h4
    · exact .inl (.tail _ h4)
    · rw [Array.getElem?_setIfInBounds] at h4
      split at h4
      · split at h4
        · injection h4 with h4; subst h4; exact .inl (.head _)
        · cases h4
      · exact .inr h4
theorem setCells_only {g : Nat} {a : World} : ∀ (vs : List Value) (o : Nat) (w : World), Only (fun j => j = g) a w → Only (fun j => j = g) a (w.setCells g o vs)
  | [], _, _, h => h
  | v :: r, o, w, h => setCells_only r (o + 1) _ (h.setCell (p := ⟨g, o, none⟩) (fun _ => rfl) v)
/-- What a round leans on. -/
theorem sy_row {w' : World} {g gs i : Nat} {cs : List Value} {u : Value} (hne : g ≠ gs) (hcs : cs.length = 64)
    (h : w'.cell? ⟨g, 0, none⟩ = some u ∧ w'.rangeAt gs (i * 129) cs ∧ w'.there gs (i * 129 + 64) 64 ∧ (w'.cell? ⟨gs, i * 129 + 128, none⟩).isSome = true ∧ w'.frozen? ⟨gs, i * 129 + 128, none⟩ = false) :
    (w'.setCells gs (i * 129 + 64) cs).cell? ⟨g, 0, none⟩ = some u ∧ (w'.setCells gs (i * 129 + 64) cs).rangeAt gs (i * 129) cs ∧ (w'.setCells gs (i * 129 + 64) cs).there gs (i * 129 + 64) 64 ∧ ((w'.setCells gs (i * 129 + 64) cs).cell? ⟨gs, i * 129 + 128, none⟩).isSome = true ∧ (w'.setCells gs (i * 129 + 64) cs).frozen? ⟨gs, i * 129 + 128, none⟩ = false :=
  ⟨by rw [World.cell?_setCells_out gs cs _ w' ⟨g, 0, none⟩ (fun hb _ => absurd hb hne)]; exact h.1, World.rangeAt_setCells_apart h.2.1 _ _ _ (.inr (.inl (by omega))), World.there_setCells h.2.2.1 _ _ _, World.isSome_setCells gs cs _ w' _ h.2.2.2.1, by rw [World.frozen?_setCells]; exact h.2.2.2.2⟩
theorem sy_flag {w' : World} {g gs i : Nat} {cs : List Value} {u : Value} (hne : g ≠ gs) (hcs : cs.length = 64)
    (h : w'.cell? ⟨g, 0, none⟩ = some u ∧ w'.rangeAt gs (i * 129) cs ∧ w'.there gs (i * 129 + 64) 64 ∧ (w'.cell? ⟨gs, i * 129 + 128, none⟩).isSome = true ∧ w'.frozen? ⟨gs, i * 129 + 128, none⟩ = false) :
    (w'.setCell ⟨gs, i * 129 + 128, none⟩ (.bool false)).cell? ⟨g, 0, none⟩ = some u ∧ (w'.setCell ⟨gs, i * 129 + 128, none⟩ (.bool false)).rangeAt gs (i * 129) cs ∧ (w'.setCell ⟨gs, i * 129 + 128, none⟩ (.bool false)).there gs (i * 129 + 64) 64 ∧ ((w'.setCell ⟨gs, i * 129 + 128, none⟩ (.bool false)).cell? ⟨gs, i * 129 + 128, none⟩).isSome = true ∧ (w'.setCell ⟨gs, i * 129 + 128, none⟩ (.bool false)).frozen? ⟨gs, i * 129 + 128, none⟩ = false :=
  ⟨(World.cell?_setCells_out gs [.bool false] (i * 129 + 128) w' ⟨g, 0, none⟩ (fun hb _ => absurd hb hne)).trans h.1, World.rangeAt_setCells_apart (vs := [.bool false]) h.2.1 gs (i * 129 + 128) (.inr (.inl (by omega))), World.there_setCells (vs := [.bool false]) h.2.2.1 gs (i * 129 + 128), World.isSome_setCells gs [.bool false] (i * 129 + 128) w' _ h.2.2.2.1, (World.frozen?_setCells gs [.bool false] (i * 129 + 128) w' ⟨gs, i * 129 + 128, none⟩).trans h.2.2.2.2⟩
set_option maxRecDepth 100000 in
set_option maxHeartbeats 2000000 in
theorem sync_any (w : World) (B gf bm most stamp g k n : Nat) (da la nm : List UInt8) (fd fl : Option Nat) (v : Value) (h : FSAt w B gf bm most stamp da la fd fl) (hn : Names nm da la fd fl (some g)) (hnl : nm.length ≤ 24) (hf : FileX w B g k n v) (hk : k ≤ 100000) :
    Calls Tryz.prog 113 #[.pointer (some ⟨gf, 0, none⟩), .string (str nm)] w (SyRet w B gf bm most stamp da la fd fl g k n v) := by
  have ha := hide (fat_some w B gf bm most stamp g da la nm fd fl h hn (by omega))
  have hbu := hide (burn_any w B gf bm most stamp da la fd fl h)
  obtain ⟨st, hb⟩ := hf.st
  obtain ⟨xs, hr, hone⟩ := hf.row
  obtain ⟨ov, capv, hv⟩ := ownsRow_slice hr
  have c0 := hb.cell 0
  rw [hv] at c0
  have hrel0 : 0 < k → ∃ gs, v = .slice (some ⟨gs, 0, none⟩) k capv ∧ Hid (SyRel w g k n st gs capv w) ∧ k ≤ capv ∧ g ≠ gs ∧ B ≤ gs := fun h0 => by
    rcases hr.2 with ⟨_, hz⟩ | ⟨gs, cap, cur, e, hgs, hh, hkc, hcm, hcs, ht⟩
    · omega
    · rw [hv] at e
      injection e with e1 e2 e3
      subst e1; subst e3
      refine ⟨gs, hv, hide ⟨by rw [hv] at hb; exact hb, Only.refl _ w, cur.toList, by simpa using hh, by simpa using hcs, by rw [ht]; exact hone⟩, hkc, fun e => hf.gvs (by rw [hv, e]; rfl), hgs⟩
  have hone' := hide hone
  clear hone
  replace h := hide h
  replace hb := hide hb
  replace hr := hide hr
  replace hf := hide hf
  replace hn := hide hn
  rcases Nat.eq_zero_or_pos k with h0 | h0
  · subst h0
    clear hrel0
    replace hv := hide hv
    go_enter Tryz.func113, Tryz.ntmps113
    go_wp2_with fail
    refine ha.out.mono ?_
    rintro e w1 ⟨rfl, rfl⟩
    go_wp2_with fail
    refine hbu.out.mono ?_
    rintro e w2 ⟨rfl, rfl⟩
    go_wp2_with fail
    go_loopw [7, 27] (fun _ v27 wx => v27 = .int .i64 0 ∧ wx = w) (fun _ _ _ => 0)
    case atStart => exact ⟨rfl, rfl⟩
    case round =>
      obtain ⟨rfl, rfl⟩ := hrel
      go_wp2_with fail
      go_ret
      exact ⟨rfl, h.out, hf.out, Only.refl _ _⟩
  · obtain ⟨gs, rfl, hS0, hkc, hne, hgs⟩ := hrel0 h0
    injection hv with e1
    subst e1
    replace hgs := hide hgs
    have hst : Hid (∀ w' : World, ∀ i : Nat, (w'.cell? ⟨gs, i, none⟩).isSome = true → w'.frozen? ⟨gs, i, none⟩ = false → (Instr.storeAt 4 (.pointer (some ⟨gs, i, none⟩)) (.bool false)).run Tryz.prog w' = .ok () (w'.setCell ⟨gs, i, none⟩ (.bool false))) := hide fun w' i h1 h2 => by
      have h3 := run_storeVar_mid (P := Tryz.prog) w' gs i 4 #[.bool false] (fun j hj => by
        have hj0 : j = 0 := by simpa using hj
        subst hj0; exact ⟨h1, h2⟩) (by kernel_rfl) (by simp [Value.oneCell'])
      simp only [Instr.storeAt, Instr.sureAddr, Sem.run_bind, Sem.run_pure, Result.andThen_ok]
      exact h3
    go_enter Tryz.func113, Tryz.ntmps113
    go_wp2_with fail
    refine ha.out.mono ?_
    rintro e w1 ⟨rfl, rfl⟩
    go_wp2_with fail
    refine hbu.out.mono ?_
    rintro e w2 ⟨rfl, rfl⟩
    go_wp2_with fail
    go_loopw [7, 27] (fun _ v27 wx => ∃ i : Nat, v27 = .int .i64 (i : Int) ∧ i ≤ k ∧ Hid (SyRel w g k n st gs capv wx)) (fun _ v27 _ => k - (intOf v27).toNat)
    case atStart => exact ⟨0, rfl, by omega, hS0⟩
    case round =>
      obtain ⟨i, rfl, hik, hR⟩ := hrel
      rcases Nat.lt_or_ge i k with hlt | hge
      · have hikI : (i : Int) < (k : Int) := by omega
        have hik0 : (0 : Int) ≤ (i : Int) := by omega
        obtain ⟨hbx, hOx, cur, hcx, hcl, hco⟩ := hR.out
        have d0 := hbx.cell 0
        have hkc129 : k * 129 ≤ capv * 129 := Nat.mul_le_mul_right _ hkc
        have hi129 : i * 129 + 129 ≤ k * 129 := by omega
        obtain ⟨cs, hcs⟩ : ∃ cs, cs = (cur.drop (i * 129)).take 64 := ⟨_, rfl⟩
        have hcs64 : cs.length = 64 := by rw [hcs, List.length_take, List.length_drop]; omega
        have hcs1 : ∀ u ∈ cs, u.oneCell' = true := fun u hu => by
          obtain ⟨j, hj⟩ := List.mem_iff_getElem?.1 hu
          rw [hcs, List.getElem?_take] at hj
          split at hj
          · rw [List.getElem?_drop] at hj
            exact hco (i * 129 + j) u (by rw [List.getElem?_take, if_pos (by omega)]; exact hj)
          · cases hj
        have hra : wr.rangeAt gs (i * 129) cs := fun j u hj => by
          rw [cell_of_row wr gs (i * 129 + j) _ _ (0, 0) hcx]
          rw [hcs, List.getElem?_take] at hj
          split at hj
          · rw [List.getElem?_drop] at hj; simpa using hj
          · cases hj
        have hce : ∀ j, j < capv * 129 → (wr.cell? ⟨gs, j, none⟩).isSome = true ∧ wr.frozen? ⟨gs, j, none⟩ = false := fun j hj => by
          refine ⟨?_, Blk.frozen (show Blk wr gs _ _ from hcx) j⟩
          rw [cell_of_row wr gs j _ _ (0, 0) hcx]
          simp; omega
        have hth : wr.there gs (i * 129 + 64) 64 := fun j hj => hce _ (by omega)
        have hfl := hce (i * 129 + 128) (by omega)
        have hS : wr.cell? ⟨g, 0, none⟩ = some (.slice (some ⟨gs, 0, none⟩) k capv) ∧ wr.rangeAt gs (i * 129) cs ∧ wr.there gs (i * 129 + 64) 64 ∧ (wr.cell? ⟨gs, i * 129 + 128, none⟩).isSome = true ∧ wr.frozen? ⟨gs, i * 129 + 128, none⟩ = false := ⟨d0, hra, hth, hfl.1, hfl.2⟩
        obtain ⟨q0, q1, q2, q3, q4⟩ := hS
        obtain ⟨fl, hfl2⟩ : ∃ fl : World → Value, ∀ w' : World, (w'.cell? ⟨gs, i * 129 + 128, none⟩).isSome = true → w'.cell? ⟨gs, i * 129 + 128, none⟩ = some (fl w') :=
          ⟨fun w' => (w'.cell? ⟨gs, i * 129 + 128, none⟩).getD undef, fun w' h => by obtain ⟨u, hu⟩ := Option.isSome_iff_exists.1 h; show _ = some ((w'.cell? ⟨gs, i * 129 + 128, none⟩).getD undef); rw [hu]; rfl⟩
        have hkr : Hid (∀ w' : World, (w'.cell? ⟨g, 0, none⟩ = some (.slice (some ⟨gs, 0, none⟩) k capv) ∧ w'.rangeAt gs (i * 129) cs ∧ w'.there gs (i * 129 + 64) 64 ∧ w'.cell? ⟨gs, i * 129 + 128, none⟩ = some (fl w') ∧ w'.frozen? ⟨gs, i * 129 + 128, none⟩ = false) →
            ((w'.setCells gs (i * 129 + 64) cs).cell? ⟨g, 0, none⟩ = some (.slice (some ⟨gs, 0, none⟩) k capv) ∧ (w'.setCells gs (i * 129 + 64) cs).rangeAt gs (i * 129) cs ∧ (w'.setCells gs (i * 129 + 64) cs).there gs (i * 129 + 64) 64 ∧ (w'.setCells gs (i * 129 + 64) cs).cell? ⟨gs, i * 129 + 128, none⟩ = some (fl (w'.setCells gs (i * 129 + 64) cs)) ∧ (w'.setCells gs (i * 129 + 64) cs).frozen? ⟨gs, i * 129 + 128, none⟩ = false)) := hide fun w' h => by
          have h2 := sy_row hne hcs64 ⟨h.1, h.2.1, h.2.2.1, by rw [h.2.2.2.1]; rfl, h.2.2.2.2⟩
          exact ⟨h2.1, h2.2.1, h2.2.2.1, hfl2 _ h2.2.2.2.1, h2.2.2.2.2⟩
        have hkf : Hid (∀ w' : World, (w'.cell? ⟨g, 0, none⟩ = some (.slice (some ⟨gs, 0, none⟩) k capv) ∧ w'.rangeAt gs (i * 129) cs ∧ w'.there gs (i * 129 + 64) 64 ∧ w'.cell? ⟨gs, i * 129 + 128, none⟩ = some (fl w') ∧ w'.frozen? ⟨gs, i * 129 + 128, none⟩ = false) →
            ((w'.setCell ⟨gs, i * 129 + 128, none⟩ (.bool false)).cell? ⟨g, 0, none⟩ = some (.slice (some ⟨gs, 0, none⟩) k capv) ∧ (w'.setCell ⟨gs, i * 129 + 128, none⟩ (.bool false)).rangeAt gs (i * 129) cs ∧ (w'.setCell ⟨gs, i * 129 + 128, none⟩ (.bool false)).there gs (i * 129 + 64) 64 ∧ (w'.setCell ⟨gs, i * 129 + 128, none⟩ (.bool false)).cell? ⟨gs, i * 129 + 128, none⟩ = some (fl (w'.setCell ⟨gs, i * 129 + 128, none⟩ (.bool false))) ∧ (w'.setCell ⟨gs, i * 129 + 128, none⟩ (.bool false)).frozen? ⟨gs, i * 129 + 128, none⟩ = false)) := hide fun w' h => by
          have h2 := sy_flag hne hcs64 ⟨h.1, h.2.1, h.2.2.1, by rw [h.2.2.2.1]; rfl, h.2.2.2.2⟩
          exact ⟨h2.1, h2.2.1, h2.2.2.1, hfl2 _ h2.2.2.2.1, h2.2.2.2.2⟩
        have hS : Hid (∀ nq, (wr.drewN nq).cell? ⟨g, 0, none⟩ = some (.slice (some ⟨gs, 0, none⟩) k capv) ∧ (wr.drewN nq).rangeAt gs (i * 129) cs ∧ (wr.drewN nq).there gs (i * 129 + 64) 64 ∧ (wr.drewN nq).cell? ⟨gs, i * 129 + 128, none⟩ = some (fl (wr.drewN nq)) ∧ (wr.drewN nq).frozen? ⟨gs, i * 129 + 128, none⟩ = false) := hide fun nq => ⟨q0, q1, q2, hfl2 _ q3, q4⟩
        have hu := Tryz.underlying179
        have hi64 : (Tryz.prog.info? 179).map (·.size) = some cs.length := by rw [hcs64]; exact sec_size
        replace hfl2 := hide hfl2
        clear q1 q2 q3 q4 hst
        replace hbx := hide hbx
        replace hOx := hide hOx
        replace hcx := hide hcx
        replace hcs := hide hcs
        replace hco := hide hco
        replace hR := hide hR.out
        clear hce hra hth hfl
        go_wp2_with fail
        go_region_held3 (fun w' => w'.cell? ⟨g, 0, none⟩ = some (.slice (some ⟨gs, 0, none⟩) k capv) ∧ w'.rangeAt gs (i * 129) cs ∧ w'.there gs (i * 129 + 64) 64 ∧ w'.cell? ⟨gs, i * 129 + 128, none⟩ = some (fl w') ∧ w'.frozen? ⟨gs, i * 129 + 128, none⟩ = false) (first | exact hS.out 0 | exact hS.out 1 | exact hkr.out _ (by assumption) | exact hkf.out _ (by assumption) | exact hkr.out _ ⟨by assumption, by assumption, by assumption, by assumption, by assumption⟩ | exact hkf.out _ ⟨by assumption, by assumption, by assumption, by assumption, by assumption⟩) (fail)
        have hrelN : Hid (SyRel w g k n st gs capv ((wr.drew.setCells gs (i * 129 + 64) cs).setCell ⟨gs, i * 129 + 128, none⟩ (.bool false))) := by
          have hO := (setCells_only cs (i * 129 + 64) wr.drew hOx.out.drew).setCell (p := ⟨gs, i * 129 + 128, none⟩) (fun _ => rfl) (.bool false)
          obtain ⟨cur2, h1, h2, h3⟩ := setCells_blk cs (i * 129 + 64) wr.drew cur.toArray (show Blk wr.drew gs 181 cur.toArray from hcx.out)
          have h4 := h1.set_ (i * 129 + 128) (.bool false)
          refine hide ⟨(((setCells_only cs (i * 129 + 64) wr.drew ((Only.refl (fun j => j = gs) wr).drew)).setCell (p := ⟨gs, i * 129 + 128, none⟩) (fun _ => rfl) (.bool false))).blk hbx.out hne, hO, (cur2.setIfInBounds (i * 129 + 128) (.bool false)).toList, by rw [Array.toArray_toList]; exact h4, by simp [h2, hcl], fun j u hj => ?_⟩
          rw [List.getElem?_take] at hj
          split at hj
          · rename_i hjk
            rw [Array.getElem?_toList, Array.getElem?_setIfInBounds] at hj
            split at hj
            · split at hj
              · injection hj with hj; rw [← hj]; rfl
              · cases hj
            · rcases h3 j u hj with h5 | h5
              · exact hcs1 u h5
              · exact hco.out j u (by rw [List.getElem?_take, if_pos hjk]; simpa using h5)
          · cases hj
        go_wp2_with fail
        go_roundw
        case rel => exact ⟨i + 1, by simp, by omega, hrelN⟩
        case measure => simp [intOf]; omega
      · have hki : i = k := by omega
        subst hki
        obtain ⟨hbx, hOx, cur, hcx, hcl, hco⟩ := hR.out
        have hfin : Hid (SyRet w B gf bm most stamp da la fd fl g i n (.slice (some ⟨gs, 0, none⟩) i capv) (.returned (.int .i64 0)) wr) := by
          have hOv : Only (fun j => (Value.slice (some ⟨gs, 0, none⟩) i capv).ownBlock = some j) w wr := hOx.mono fun j _ e => by rw [e]; rfl
          have hgz := hf.out.ngf h.out
          refine hide ⟨rfl, h.out.only hOx (fun e => hgz.2 (by rw [← e]; rfl)) (fun e => ?_), ⟨⟨st, hbx⟩, ⟨cur.take (i * 129), ⟨by rw [List.length_take, hcl]; exact Nat.min_eq_left (Nat.mul_le_mul_right _ hkc), .inr ⟨gs, capv, cur.toArray, rfl, hgs.out, hcx, hkc, ?_, by simpa using hcl, by simp⟩⟩, hco⟩, hf.out.gB⟩, hOv⟩
          · rcases hr.out.2 with ⟨e2, _⟩ | ⟨g2, c2, cu2, e2, _, hh2, _⟩
            · cases e2
            · have e3 : g2 = gs := by injection e2 with e2; injection e2 with e2; injection e2 with e2; exact e2.symm
              subst e3
              exact h.out.bmNe (show Blk w g2 _ _ from hh2) e
          · rcases hr.out.2 with ⟨e2, _⟩ | ⟨g2, c2, cu2, e2, _, hh2, _, hm, _⟩
            · cases e2
            · injection e2 with _ _ e4
              rw [e4]; exact hm
        have hii : ¬ (i : Int) < (i : Int) := by omega
        replace hbx := hide hbx
        replace hOx := hide hOx
        replace hcx := hide hcx
        replace hcl := hide hcl
        replace hco := hide hco
        go_wp2_with fail
        go_ret
        exact hfin.out
end Go.Proofs.YthohbbaglceppaaGreatDoor
namespace Go.Proofs.YthohbbaglceppaaGreatDoor
open Go.RowKit Go.Maps
set_option linter.unusedVariables false
/-- What changed leaves of the store: its cells, that of the file. -/
theorem changed_raw (w : World) (gf bm most stamp g : Nat) (u1 u2 : Value) (st : Nat) (h : Blk w gf 91 #[.int .i64 (most : Int), .int .i64 (stamp : Int), .int .i64 (-1), .bool false, .map (some bm)]) (hb : Blk w g 175 #[u1, u2, .int .i64 (st : Int)]) (hs : stamp ≤ 1000000) :
    Calls Tryz.prog 130 #[.pointer (some ⟨gf, 0, none⟩), .pointer (some ⟨g, 0, none⟩)] w fun e w' => e = .returned (.int .i64 0) ∧ Only (fun j => j = gf ∨ j = g) w w' := by
  have hne : gf ≠ g := Blk.ne_ h hb (by decide)
  have c1 := h.cell 1
  have q1 := h.frozen 1
  have d2 := hb.cell 2
  have r2 := hb.frozen 2
  obtain ⟨S1, hS1⟩ : ∃ S1, S1 = stamp + 1 := ⟨_, rfl⟩
  have hI : (stamp : Int) + 1 = (S1 : Int) := by omega
  have hbz := hb.far (p := ⟨gf, 1, none⟩) (fun e => hne e.symm) (.int .i64 (S1 : Int))
  have e2 := hbz.cell 2
  have t2 := hbz.frozen 2
  have hO1 : Only (fun j => j = gf ∨ j = g) w (w.setCell ⟨gf, 1, none⟩ (.int .i64 (S1 : Int))) := (Only.refl _ w).setCell (p := ⟨gf, 1, none⟩) (fun _ => .inl rfl) _
  have hO2 := hide (hO1.setCell (p := ⟨g, 2, none⟩) (fun _ => .inr rfl) (.int .i64 (S1 : Int)))
  have c1' := (h.set_ 1 (.int .i64 (S1 : Int))).cell 1
  replace h := hide h
  replace hb := hide hb
  replace hS1 := hide hS1
  replace hbz := hide hbz
  replace hO1 := hide hO1
  go_enter Tryz.func130, Tryz.ntmps130
  go_wp2_with fail
  go_ret
  exact ⟨rfl, hO2.out⟩
set_option maxRecDepth 100000 in
set_option maxHeartbeats 2000000 in
theorem cut0_any (w : World) (B gf bm most stamp g k n : Nat) (da la nm : List UInt8) (fd fl : Option Nat) (v : Value) (h : FSAt w B gf bm most stamp da la fd fl) (hn : Names nm da la fd fl (some g)) (hnl : nm.length ≤ 24) (hf : FileX w B g k n v) (hs : stamp ≤ 1000000) :
    Calls Tryz.prog 83 #[.pointer (some ⟨gf, 0, none⟩), .string (str nm), .int .i64 0] w fun e w' => e = .returned (.int .i64 0) ∧ Only (fun j => j = gf ∨ j = g) w w' := by
  have ha := hide (fat_some w B gf bm most stamp g da la nm fd fl h hn (by omega))
  have hbu := hide (burn_any w B gf bm most stamp da la fd fl h)
  have hnd := hide (fun wz => need_any wz 0 (by omega))
  obtain ⟨st, hb⟩ := hf.st
  obtain ⟨xs, hr, hone⟩ := hf.row
  obtain ⟨ov, capv, rfl⟩ := ownsRow_slice hr
  have c0 := hb.cell 0
  have c1 := hb.cell 1
  have f0 := hb.frozen 0
  have f1 := hb.frozen 1
  have hne : gf ≠ g := (hf.ngf h).1
  have hst := h.st
  replace h := hide h
  replace hb := hide hb
  replace hr := hide hr
  replace hf := hide hf
  replace hn := hide hn
  replace hone := hide hone
  replace hst := hide hst
  have hgb := (hb.out.set_ 1 (.int .i64 0)).set_ 0 (.slice ov 0 0)
  have hfb := (hst.out.far (p := ⟨g, 1, none⟩) hne (.int .i64 0)).far (p := ⟨g, 0, none⟩) hne (.slice ov 0 0)
  have hO : Only (fun j => j = gf ∨ j = g) w ((w.setCell ⟨g, 1, none⟩ (.int .i64 0)).setCell ⟨g, 0, none⟩ (.slice ov 0 0)) := ((Only.refl _ w).setCell (p := ⟨g, 1, none⟩) (fun _ => .inr rfl) _).setCell (p := ⟨g, 0, none⟩) (fun _ => .inr rfl) _
  have hch := hide (changed_raw (((w.setCell ⟨g, 1, none⟩ (.int .i64 0)).setCell ⟨g, 0, none⟩ (.slice ov 0 0)).drew) gf bm most stamp g _ _ st hfb.drew hgb.drew hs)
  replace hO := hide hO.drew
  replace hgb := hide hgb
  replace hfb := hide hfb
  go_enter Tryz.func83, Tryz.ntmps83
  go_upto_region 8 with (first | (go_at_call 127; refine ha.out.mono ?_; rintro e w1 ⟨rfl, rfl⟩) | (go_at_call 129; refine hbu.out.mono ?_; rintro e w2 ⟨rfl, rfl⟩))
  go_region_with (go_at_call 133; refine (hnd.out _).mono ?_; rintro e w3 ⟨rfl, rfl⟩)
  all_goals
    go_wp2_with fail
    refine hch.out.mono ?_
    rintro e w4 ⟨rfl, h4⟩
    replace h4 := hide h4
    go_wp2_with fail
    go_ret
    exact ⟨rfl, hO.out.trans h4.out fun _ _ h => h⟩
end Go.Proofs.YthohbbaglceppaaGreatDoor
