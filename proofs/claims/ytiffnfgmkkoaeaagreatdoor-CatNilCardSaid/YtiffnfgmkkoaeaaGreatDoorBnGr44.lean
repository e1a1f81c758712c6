/-
  Contracts of cat.Open on a new store, of Get at an empty tree, of Find and next where there is nothing.
-/
import Derived.Test.YtiffnfgmkkoaeaaGreatDoorBnCatD
import Derived.Test.YtiffnfgmkkoaeaaGreatDoorBnGr30
import Derived.Test.YtiffnfgmkkoaeaaGreatDoorBnGr42
import Derived.Test.YtiffnfgmkkoaeaaGreatDoorBnPutB
import Derived.Test.YtiffnfgmkkoaeaaGreatDoorBnGr26
import Derived.Test.YtiffnfgmkkoaeaaGreatDoorBnWkB
namespace Go.Proofs.YtiffnfgmkkoaeaaGreatDoor
open Go.RowKit Go.Maps
set_option linter.unusedVariables false
def catN : List UInt8 := [99, 97, 116]
theorem cat_d : NameOk (dbN catN) := ⟨by decide, by decide, by decide⟩
theorem cat_l : NameOk (logN catN) := ⟨by decide, by decide, by decide⟩
def tvK (ts : Nat → Nat) (k j : Nat) : Value := if j < k then .pointer (some ⟨ts j, 0, none⟩) else .pointer none
def catK (gp : Nat) (ts : Nat → Nat) (k : Nat) : Array Value := #[.pointer (some ⟨gp, 0, none⟩), tvK ts k 0, tvK ts k 1, tvK ts k 2, tvK ts k 3, tvK ts k 4, tvK ts k 5, tvK ts k 6]
theorem catK_set (gp : Nat) (ts : Nat → Nat) (k t : Nat) (hk : k < 7) : (catK gp ts k).setIfInBounds (1 + k) (.pointer (some ⟨t, 0, none⟩)) = catK gp (fun j => if j = k then t else ts j) (k + 1) := by
  match k, hk with
  | 0, _ | 1, _ | 2, _ | 3, _ | 4, _ | 5, _ | 6, _ => rfl
/-- Where Open stands. -/
def OpSt (w : World) (gc gp : Nat) (F : Nat → Prop) (k : Nat) (wx : World) : Prop :=
  ∃ ts : Nat → Nat, Blk wx gc 61 (catK gp ts k) ∧ (∀ j, j < k → Blk wx (ts j) 110 #[.pointer (some ⟨gp, 0, none⟩), .int .i64 (j : Int)] ∧ ¬ F (ts j)) ∧ Below w.heap.size w wx
/-- What Open leaves. -/
def CatNew (w : World) (gf bm : Nat) (e : Ending) (w' : World) : Prop :=
  ∃ gc gp F ts, e = .returned (.tuple #[.pointer (some ⟨gc, 0, none⟩), .int .i64 0]) ∧ CatAt w' F gc gp ts ∧ PgAt w' F gp hd1 ∧ Only (fun k => k = gf ∨ k = bm) w w' ∧ (∀ k, F k → w.heap.size ≤ k) ∧ w.heap.size ≤ gc
set_option maxRecDepth 100000 in
set_option maxHeartbeats 1000000 in
theorem copen_new (w : World) (gf bm most stamp : Nat) (h : FSAt w 0 gf bm most stamp (dbN catN) (logN catN) none none) (hmost : most ≤ 65536) (hm17 : 17 ≤ most) (hst : stamp ≤ 100) :
    Calls Tryz.prog 10 #[.pointer (some ⟨gf, 0, none⟩)] w (CatNew w gf bm) := by
  have hop := hide (open_new w gf bm most stamp catN h cat_d cat_l (by decide) (by decide) hmost hm17 hst)
  replace h := hide h
  clear hmost hm17 hst
  go_enter Tryz.func10, Tryz.ntmps10
  go_wp2_with fail
  refine hop.out.mono ?_
  rintro e w2 ⟨gp, gm, gx, rfl, g1, g2, hbp, him, hFr⟩
  have hP2 := pg_at hbp him
  obtain ⟨F, hF⟩ : ∃ F : Nat → Prop, F = (fun k => k = gp ∨ k = gm) := ⟨_, rfl⟩
  rw [← hF] at hP2
  have hFB : ∀ k, F k → w.heap.size ≤ k := fun k hk => by
    rw [hF] at hk
    rcases hk with rfl | rfl <;> omega
  have hFlt := hP2.lt
  obtain ⟨gc, hgc⟩ : ∃ gc, gc = w2.heap.size := ⟨_, rfl⟩
  obtain ⟨w3, hw3⟩ : ∃ w3, w3 = w2.alloc (.cells #[.pointer (some ⟨gp, 0, none⟩), .pointer none, .pointer none, .pointer none, .pointer none, .pointer none, .pointer none, .pointer none] 61) := ⟨_, rfl⟩
  have hst3 : Hid (OpSt w2 gc gp F 0 w3) := hide ⟨fun _ => 0, by rw [hw3, hgc]; exact Blk.new w2 61 _, fun j hj => absurd hj (by omega), by rw [hw3]; exact (Below.refl _ w2).alloc (Nat.le_refl _) _⟩
  have hfin : Hid (∀ W, OpSt w2 gc gp F 7 W → CatNew w gf bm (.returned (.tuple #[.pointer (some ⟨gc, 0, none⟩), .int .i64 0])) W) := hide (by
    rintro W ⟨ts, q1, q2, q3⟩
    have hgF : ¬ F gc := fun hx => by have := hFlt _ hx; omega
    have hPW : PgAt W F gp hd1 := hP2.below q3
    refine ⟨gc, gp, F, ts, rfl, ⟨q1, hgF, fun k hk => ⟨(q2 k hk).1, (q2 k hk).2⟩⟩, hPW, ?_, hFB, by have := hFr.size; omega⟩
    have k1 : Only (fun k => k = gf ∨ k = bm) w w2 := (Only.refl _ w).trans hFr (fun k hk hx => by
      rcases hx with hx | hx | hx
      · exact .inl hx
      · exact .inr hx
      · omega)
    exact k1.trans (Only.of_below (S := fun k => k = gf ∨ k = bm) q3) (fun _ _ hx => hx))
  replace hbp := hide hbp
  replace him := hide him
  replace hFr := hide hFr
  replace hP2 := hide hP2
  replace hF := hide hF
  replace hFB := hide hFB
  replace hFlt := hide hFlt
  replace hgc := hide hgc
  replace hw3 := hide hw3
  clear hop
  go_upto_region 5 with (fail)
  rw [← hw3.out, ← hgc.out]
  go_wp2_with fail
  go_loopw [19] (fun v wx => ∃ k : Nat, k ≤ 7 ∧ v = .int .i64 (k : Int) ∧ Hid (OpSt w2 gc gp F k wx)) (fun v _ => 7 - (intOf v).toNat)
  case atStart => exact ⟨0, by omega, rfl, hst3⟩
  case round =>
    obtain ⟨k, hk, rfl, hG⟩ := hrel
    clear hst3
    by_cases h7 : k < 7
    · obtain ⟨ts, q1, q2, q3⟩ := hG.out
      have htn := hide (tnew_any wr.drew gp k (by omega))
      have hkI : (k : Int) < 7 := by omega
      have hk0 : (0 : Int) ≤ (k : Int) := by omega
      obtain ⟨o, ho⟩ : ∃ o, o = Obj.cells #[.pointer (some ⟨gp, 0, none⟩), .int .i64 (k : Int)] 110 := ⟨_, rfl⟩
      have qa := q1.alloc o
      have fz : (wr.alloc o).frozen? ⟨gc, 1 + k, none⟩ = false := qa.frozen (1 + k)
      obtain ⟨vz, cz⟩ : ∃ v, (wr.alloc o).cell? ⟨gc, 1 + k, none⟩ = some v := by
        rw [qa.cell]
        match k, h7 with
        | 0, _ | 1, _ | 2, _ | 3, _ | 4, _ | 5, _ | 6, _ => exact ⟨_, rfl⟩
      have hrel2 : Hid (∀ W, W = ((wr.alloc o).setCell ⟨gc, 1 + k, none⟩ (.pointer (some ⟨wr.heap.size, 0, none⟩))).drew → OpSt w2 gc gp F (k + 1) W) := hide fun W hW => by
        have hO : Only (fun j => j = gc) (wr.alloc o) W := by
          rw [hW]; exact ((Only.refl (fun j => j = gc) (wr.alloc o)).setCell (p := ⟨gc, 1 + k, none⟩) (fun _ => rfl) _).drew
        have hBa : Below w2.heap.size w2 (wr.alloc o) := q3.alloc q3.size o
        have hgcl : gc < wr.heap.size := q1.lt
        refine ⟨fun j => if j = k then wr.heap.size else ts j, ?_, fun j hj => ?_, hBa.trans (hO.below (fun j hj => by rw [hj, hgc.out]; exact Nat.le_refl _) hBa.size)⟩
        · rw [hW, ← catK_set gp ts k wr.heap.size h7]
          exact (qa.set_ (1 + k) _).drew
        · by_cases e : j = k
          · subst e
            simp only [if_true]
            refine ⟨hO.blk (by rw [ho]; exact Blk.new wr 110 _) (by omega), fun hx => ?_⟩
            have h1 := hFlt.out _ hx
            have h2 := q3.size
            omega
          · simp only [if_neg e]
            have q := q2 j (by omega)
            exact ⟨hO.blk (q.1.alloc o) (Blk.ne_ q.1 q1 (by decide)), q.2⟩
      subst ho
      replace q1 := hide q1
      replace q2 := hide q2
      replace q3 := hide q3
      replace qa := hide qa
      clear hG
      go_wp2_with fail
      go_region_law (first
        | (go_simp; go_at_call 32; refine htn.out.mono ?_; rintro e w4 ⟨rfl, rfl⟩))
      all_goals
        go_wp2_with fail
        go_roundw
        case rel => exact ⟨k + 1, by omega, by congr 1, hide (hrel2.out _ rfl)⟩
        case measure => simp [intOf]; omega
    · obtain rfl : k = 7 := by omega
      have hdone := hide (hfin.out _ hG.out)
      go_wp2_with fail
      go_ret2
      exact hdone.out
end Go.Proofs.YtiffnfgmkkoaeaaGreatDoor
namespace Go.Proofs.YtiffnfgmkkoaeaaGreatDoor
open Go.RowKit Go.Maps
set_option linter.unusedVariables false
/-- What a Get of a key that there isn't does, wherever it is called. -/
def GetNo (st : PgS) (k : Nat) (key : List UInt8) : Prop :=
  ∀ (w : World) (F : Nat → Prop) (gt gp : Nat) (kA : Option Addr) (kc : Nat), PgAt w F gp st → TreeAt w F gt gp k → MB F w kA key.length key →
    Calls Tryz.prog 22 #[.pointer (some ⟨gt, 0, none⟩), .slice kA key.length kc] w fun e w' => e = .returned (.tuple #[.slice none 0 0, .bool false, .int .i64 0]) ∧ ∃ F', PgAt w' F' gp st ∧ Ev F w F' w'
def NoEnd (F : Nat → Prop) (w : World) (gp : Nat) (st : PgS) (e : Ending) (w' : World) : Prop := e = .returned (.tuple #[.slice none 0 0, .bool false, .int .i64 0]) ∧ ∃ F', PgAt w' F' gp st ∧ Ev F w F' w'
set_option maxRecDepth 100000 in
set_option maxHeartbeats 1000000 in
theorem tget_none (st : PgS) (k : Nat) (hk8 : k < 8) (key : List UInt8) (h0 : st.roots k = 0) : GetNo st k key := by
  intro w F gt gp kA kc h ht hkm
  show Calls Tryz.prog 22 _ w (NoEnd F w gp st)
  obtain ⟨L, hL⟩ : ∃ L, L = key.length := ⟨_, rfl⟩
  rw [← hL]
  have t1 : w.cell? ⟨gt, 0, none⟩ = some (.pointer (some ⟨gp, 0, none⟩)) := ht.blk.cell 0
  have t2 : w.cell? ⟨gt, 1, none⟩ = some (.int .i64 (k : Int)) := ht.blk.cell 1
  obtain ⟨R, hR⟩ : ∃ R, R = st.roots k := ⟨_, rfl⟩
  have hrt : Hid (Calls Tryz.prog 51 #[.pointer (some ⟨gp, 0, none⟩), .int .i64 (k : Int)] w.drew fun e w' => e = .returned (.int .i64 (R : Int)) ∧ w.drew = w') := hide (by rw [hR]; exact root_any w.drew F gp st h.drew k hk8)
  have hdone : Hid (NoEnd F w gp st (.returned (.tuple #[.slice none 0 0, .bool false, .int .i64 0])) w.drew) := hide ⟨rfl, F, h.drew, (Ev.refl F w).drew⟩
  have hR0 : Hid (R = 0) := hide (hR.trans h0)
  replace h := hide h
  replace ht := hide ht
  replace hkm := hide hkm
  replace hL := hide hL
  replace hR := hide hR
  clear h0
  go_enter Tryz.func22, Tryz.ntmps22
  go_wp2_with fail
  go_region_held3 (fun w' => w'.cell? ⟨gt, 0, none⟩ = some (.pointer (some ⟨gp, 0, none⟩)) ∧ w'.cell? ⟨gt, 1, none⟩ = some (.int .i64 (k : Int))) (first | exact ⟨t1, t2⟩) (first | (go_at_call 51; refine hrt.out.mono ?_; rintro e w3 ⟨rfl, rfl⟩))
  obtain ⟨W, hW⟩ : ∃ W, W = w.drew := ⟨_, rfl⟩
  rw [← hW] at hdone ⊢
  replace hW := hide hW
  have hRI : (R : Int) = 0 := by rw [hR0.out]; rfl
  rw [hRI]
  clear t1 t2 hrt hRI hR0
  go_wp2_with fail
  go_loopw [7] (fun v wx => v = .int .i64 0 ∧ wx = W) (fun _ _ => 0)
  case atStart => exact ⟨rfl, rfl⟩
  case round =>
    obtain ⟨rfl, hwx⟩ := hrel
    subst hwx
    go_wp2_with fail
    go_ret3
    exact hdone.out
def zA : Array Value := #[.string ⟨#[]⟩, .int .i64 0, .int .i64 0, .int .i64 0, .int .i64 0, .int .i64 0]
def FindNo (F : Nat → Prop) (w : World) (gp : Nat) (st : PgS) (e : Ending) (w' : World) : Prop := e = .returned (.tuple #[.agg #[.string ⟨#[]⟩, .int .i64 0, .int .i64 0, .int .i64 0, .int .i64 0, .int .i64 0], .bool false, .int .i64 0]) ∧ ∃ F', PgAt w' F' gp st ∧ Ev F w F' w'
set_option maxRecDepth 100000 in
set_option maxHeartbeats 1000000 in
theorem cfind_no (w : World) (F : Nat → Prop) (gc gp : Nat) (ts : Nat → Nat) (st : PgS) (h : PgAt w F gp st) (hc : CatAt w F gc gp ts) (hml : MlAt w) (path : List UInt8) (hp : path.length ≤ 1000) (hno : GetNo st 0 (textsB [str path])) :
    Calls Tryz.prog 6 #[.pointer (some ⟨gc, 0, none⟩), .string (str path)] w (FindNo F w gp st) := by
  obtain ⟨w1, hw1⟩ : ∃ w1, w1 = w.alloc (.cells zA 29) := ⟨_, rfl⟩
  have hB1 : Below w.heap.size w w1 := by rw [hw1]; exact (Below.refl _ w).alloc (Nat.le_refl _) _
  have hE1 : Ev F w F w1 := Ev.of_below hB1
  have hz : Blk w1 w.heap.size 29 zA := by rw [hw1]; exact Blk.new w 29 _
  have hP1 : PgAt w1 F gp st := h.below hB1
  have hc1 := hc.ev hE1
  have ct : w1.cell? ⟨gc, 1, none⟩ = some (.pointer (some ⟨ts 0, 0, none⟩)) := hc1.blk.cell 1
  obtain ⟨h1, m, h2⟩ := (hml.below hB1).below ((Below.refl w1.heap.size w1).alloc (Nat.le_refl _) (.cells #[.string (str path)] 9))
  have ht : Hid (∃ KK, KK = textsB [str path] ∧ Calls Tryz.prog 23 #[.slice none 0 0, .slice (some ⟨w1.heap.size, 0, none⟩) 1 1] (w1.alloc (.cells #[.string (str path)] 9)).drew (RetB (w1.alloc (.cells #[.string (str path)] 9)).drew KK)) := hide (by
    have q := text_any2 none _ 0 1 0 1 [] [str path] m (w1.alloc (.cells #[.string (str path)] 9)).drew (RB.nil _ _) (RS.lit1 w1 (str path) 9) (by omega) (by omega) (by intro t ht; simp at ht; rw [ht, str_size]; omega) h1 h2
    rw [List.nil_append] at q
    exact ⟨_, rfl, q⟩)
  obtain ⟨KK, hKK, hte⟩ := ht.out
  rw [← hKK] at hno
  have hFlt := hide hP1.lt
  have hRF : ¬ F w.heap.size := fun hx => by have := h.lt _ hx; omega
  have hcg : Hid (∀ w' F', Ev F w1 F' w' → w'.cell? ⟨gc, 1, none⟩ = some (.pointer (some ⟨ts 0, 0, none⟩))) := hide fun W F' hE => (hc1.ev hE).blk.cell 1
  have hw1a : Hid (w1 = w.alloc (.cells #[.string ⟨#[]⟩, .int .i64 0, .int .i64 0, .int .i64 0, .int .i64 0, .int .i64 0] 29)) := hide hw1
  replace h := hide h
  replace hc := hide hc
  replace hml := hide hml
  replace hw1 := hide hw1
  replace hB1 := hide hB1
  replace hE1 := hide hE1
  replace hz := hide hz
  replace hP1 := hide hP1
  replace hc1 := hide hc1
  replace hKK := hide hKK
  replace hRF := hide hRF
  clear h2 ht
  go_enter Tryz.func6, Tryz.ntmps6
  go_upto_region 3 with (fail)
  rw [← hw1a.out]
  go_region_held3 (fun w' => w'.cell? ⟨gc, 1, none⟩ = some (.pointer (some ⟨ts 0, 0, none⟩))) (first | exact ct | exact hcg.out _ F (Ev.of_below hB12.out) | exact hcg.out _ _ hE13.out | go_keep) (first
    | (go_at_call 23; refine hte.mono ?_; rintro e w2 ⟨v2, rfl, hO2, hB2⟩; obtain ⟨kA, kc, rfl, _, _, _, _⟩ := hO2.form; have hB12 : Hid (Below w1.heap.size w1 w2) := hide (Below.trans (by first | (with_reducible exact ((Below.refl _ w1).alloc (Nat.le_refl _) _).drew)) (hB2.mono (by simp))); have hkey : Hid (MB F w2 kA KK.length KK) := hide (MB.made hO2 (fun k hk => by have := hFlt.out k hk; simp; omega)); replace hO2 := hide hO2; replace hB2 := hide hB2)
    | (go_at_call 22; refine (hno w2 F (ts 0) gp kA kc (hP1.out.below hB12.out) ((hc1.out.tree 0 (by omega)).ev (Ev.of_below hB12.out)) hkey.out).mono ?_; rintro e w3 ⟨rfl, F3, hP3, hE3⟩; have hE13 : Hid (Ev F w1 F3 w3) := hide ((Ev.of_below hB12.out).trans hE3); replace hP3 := hide hP3; replace hE3 := hide hE3))
  all_goals
    have hz3 := hE13.out.blk hz.out hRF.out
    have y0 : w3.cell? ⟨w.heap.size, 0, none⟩ = some (.string ⟨#[]⟩) := hz3.cell 0
    have y1 : w3.cell? ⟨w.heap.size, 1, none⟩ = some (.int .i64 0) := hz3.cell 1
    have y2 : w3.cell? ⟨w.heap.size, 2, none⟩ = some (.int .i64 0) := hz3.cell 2
    have y3 : w3.cell? ⟨w.heap.size, 3, none⟩ = some (.int .i64 0) := hz3.cell 3
    have y4 : w3.cell? ⟨w.heap.size, 4, none⟩ = some (.int .i64 0) := hz3.cell 4
    have y5 : w3.cell? ⟨w.heap.size, 5, none⟩ = some (.int .i64 0) := hz3.cell 5
    have f0 := hz3.frozen 0
    have f1 := hz3.frozen 1
    have f2 := hz3.frozen 2
    have f3 := hz3.frozen 3
    have f4 := hz3.frozen 4
    have f5 := hz3.frozen 5
    have hz3' := hide hz3
    clear hz3
    have hfin : Hid (∀ W, Only (fun j => j = w.heap.size) w3 W → FindNo F w gp st (.returned (.tuple #[.agg #[.string ⟨#[]⟩, .int .i64 0, .int .i64 0, .int .i64 0, .int .i64 0, .int .i64 0], .bool false, .int .i64 0])) W) := hide fun W hO => by
      have hnF3 : ¬ F3 w.heap.size := hE13.out.new hRF.out hz.out.lt
      refine ⟨rfl, F3, hP3.out.keep (fun j hj => hO.block j (hP3.out.lt j hj) (fun e => hnF3 (by rw [← e]; exact hj))) hO.size, ?_⟩
      have h13 := hE1.out.trans hE13.out
      exact ⟨h13.only.trans hO (fun j hj e => absurd hj (by omega)), h13.grow⟩
    go_wp2_with fail
    have hO : Only (fun j => j = w.heap.size) w3 ((((((w3.setCell ⟨w.heap.size, 0, none⟩ (.string ⟨#[]⟩)).setCell ⟨w.heap.size, 1, none⟩ (.int .i64 0)).setCell ⟨w.heap.size, 2, none⟩ (.int .i64 0)).setCell ⟨w.heap.size, 3, none⟩ (.int .i64 0)).setCell ⟨w.heap.size, 4, none⟩ (.int .i64 0)).setCell ⟨w.heap.size, 5, none⟩ (.int .i64 0)) :=
      ((((((Only.refl (fun j => j = w.heap.size) w3).setCell (p := ⟨w.heap.size, 0, none⟩) (fun _ => rfl) _).setCell (p := ⟨w.heap.size, 1, none⟩) (fun _ => rfl) _).setCell (p := ⟨w.heap.size, 2, none⟩) (fun _ => rfl) _).setCell (p := ⟨w.heap.size, 3, none⟩) (fun _ => rfl) _).setCell (p := ⟨w.heap.size, 4, none⟩) (fun _ => rfl) _).setCell (p := ⟨w.heap.size, 5, none⟩) (fun _ => rfl) _
    have hbf := (((((hz3'.out.set_ 0 (.string ⟨#[]⟩)).set_ 1 (.int .i64 0)).set_ 2 (.int .i64 0)).set_ 3 (.int .i64 0)).set_ 4 (.int .i64 0)).set_ 5 (.int .i64 0)
    refine bodyPost_ret (v := .tuple #[.agg #[.string ⟨#[]⟩, .int .i64 0, .int .i64 0, .int .i64 0, .int .i64 0, .int .i64 0], .bool false, .int .i64 0]) ?_ rfl (hfin.out _ hO)
    obtain ⟨Wf, hWf⟩ : ∃ Wf, Wf = ((((((w3.setCell ⟨w.heap.size, 0, none⟩ (.string ⟨#[]⟩)).setCell ⟨w.heap.size, 1, none⟩ (.int .i64 0)).setCell ⟨w.heap.size, 2, none⟩ (.int .i64 0)).setCell ⟨w.heap.size, 3, none⟩ (.int .i64 0)).setCell ⟨w.heap.size, 4, none⟩ (.int .i64 0)).setCell ⟨w.heap.size, 5, none⟩ (.int .i64 0)) := ⟨_, rfl⟩
    rw [← hWf] at hbf ⊢
    have j0 : Wf.cell? ⟨w.heap.size, 0, none⟩ = some (.string ⟨#[]⟩) := hbf.cell 0
    have j1 : Wf.cell? ⟨w.heap.size, 1, none⟩ = some (.int .i64 0) := hbf.cell 1
    have j2 : Wf.cell? ⟨w.heap.size, 2, none⟩ = some (.int .i64 0) := hbf.cell 2
    have j3 : Wf.cell? ⟨w.heap.size, 3, none⟩ = some (.int .i64 0) := hbf.cell 3
    have j4 : Wf.cell? ⟨w.heap.size, 4, none⟩ = some (.int .i64 0) := hbf.cell 4
    have j5 : Wf.cell? ⟨w.heap.size, 5, none⟩ = some (.int .i64 0) := hbf.cell 5
    simp [results, Tryz.results6, go_sem, j0, j1, j2, j3, j4, j5]
/-- What next leaves. -/
def IdEnd (F : Nat → Prop) (w : World) (gp : Nat) (st : PgS) (id : Nat) (e : Ending) (w' : World) : Prop := e = .returned (.tuple #[.int .i64 (id : Int), .int .i64 0]) ∧ ∃ F', PgAt w' F' gp st ∧ Ev F w F' w'
theorem next1_fn : ∀ args wx, (callFunc 66 args).run Tryz.prog wx = .ok (.enter 66 args) wx := fun args wx => by
  have h := Tryz.func66
  simp [callFunc, Sem.run_bind, go_sem, h, Tryz.f66]
/-- A variable of the caller's, as it was. -/
def VarJ (g : Nat) (t : TypeId) (v : Value) (d : List (List UInt8 × List UInt8)) (D : Nat → Prop) (w : World) : Prop := d = [] ∧ Blk w g t #[v] ∧ (D g ∧ ∀ k, D k → k = g)
theorem var_each (f : FuncId) (caps : Array Value) (hfn : ∀ args wx, (callFunc f args).run Tryz.prog wx = .ok (.enter f args) wx) (g : Nat) (t : TypeId) (v : Value) (h1 : t ≠ 156) (h2 : t ≠ 196) : EachC f caps (fun _ => False) (VarJ g t v) where
  fn := hfn
  good d D w hJ k hk := by
    have := hJ.2.2.2 k hk
    subst this
    exact ⟨t, _, hJ.2.1, h1, h2⟩
  keep d D w w' hJ hk hs := ⟨hJ.1, Eq.trans (hk g hJ.2.2.1) hJ.2.1, hJ.2.2⟩
  step d D w key b kA vA kc vc _ hok := hok.elim
theorem blk_new_w (w : World) (t : TypeId) (cs : Array Value) (g : Nat) (w1 : World) (hg : g = w.heap.size) (hw : w1 = w.alloc (.cells cs t)) : Blk w1 g t cs := by rw [hw, hg]; exact Blk.new w t cs
/-- What each does to a caller's variable and an empty tree. -/
theorem ev_each {F F' C' : Nat → Prop} {w w1 w' : World} {g : Nat} (hg : g = w.heap.size) (he : Ev F w F w1) (h : Ev (FC F (fun j => j = g)) w1 (FC F' C') w') : Ev F w F' w' :=
  ⟨he.only.trans h.only (fun j hj hx => hx.elim id (fun e => by have h9 : j = g := e; omega)), fun j hj => by
    rcases h.grow j (.inl hj) with hx | hx
    · rcases hx with hx | hx
      · exact .inl hx
      · have h9 : j = g := hx
        exact .inr (by omega)
    · have := he.size; exact .inr (by omega)⟩
set_option maxRecDepth 100000 in
set_option maxHeartbeats 1000000 in
theorem cnextid_no (w : World) (F : Nat → Prop) (gc gp : Nat) (ts : Nat → Nat) (st : PgS) (h : PgAt w F gp st) (hc : CatAt w F gc gp ts) (h0 : st.roots 2 = 0) :
    Calls Tryz.prog 34 #[.pointer (some ⟨gc, 0, none⟩)] w (IdEnd F w gp st 1) := by
  obtain ⟨g, hg⟩ : ∃ g, g = w.heap.size := ⟨_, rfl⟩
  obtain ⟨w1, hw1⟩ : ∃ w1, w1 = w.alloc (.cells #[.int .i64 0] 3) := ⟨_, rfl⟩
  have hbg : Blk w1 g 3 #[.int .i64 0] := blk_new_w w _ _ g w1 hg hw1
  have hE1 : Ev F w F w1 := by rw [hw1]; exact (Ev.refl F w).alloc_ _
  have hP1 : PgAt w1 F gp st := by rw [hw1]; exact h.alloc _
  have hc1 := hc.ev hE1
  have hgF : ¬ F g := fun hx => by have := h.lt _ hx; omega
  have ht1 : TreeAt w1 (FC F (fun j => j = g)) (ts 2) gp 2 := ⟨(hc1.tree 2 (by omega)).blk, fun hx => hx.elim (hc1.tree 2 (by omega)).out (fun e => by
    have h9 : ts 2 = g := e
    have := Blk.lt (hc.tree 2 (by omega)).blk
    omega)⟩
  have hea := hide (each_any 66 #[.pointer (some ⟨g, 0, none⟩)] (VarJ g 3 (.int .i64 0)) (fun _ => False) (var_each 66 _ next1_fn g 3 _ (by decide) (by decide)) w1 F (fun j => j = g) (ts 2) gp 2 st hP1 ht1 (by omega) [] [] none none 0 0 (MB.nil _) (by simp) (MB.nil _) ⟨rfl, hbg, rfl, fun _ hk => hk⟩ (fun j hj hx => hgF (by rw [← hj]; exact hx)) [] [] (.inr (.inl ⟨by rw [h0]; rfl, rfl, rfl⟩)) .nil (fun q hq => by cases hq) (by simp))
  have ct : w1.cell? ⟨gc, 3, none⟩ = some (.pointer (some ⟨ts 2, 0, none⟩)) := hc1.blk.cell 3
  have ctw : (w.alloc (.cells #[.int .i64 0] 3)).cell? ⟨gc, 3, none⟩ = some (.pointer (some ⟨ts 2, 0, none⟩)) := by rw [← hw1]; exact ct
  replace h := hide h
  replace hc := hide hc
  replace hbg := hide hbg
  replace hE1 := hide hE1
  replace hP1 := hide hP1
  replace hc1 := hide hc1
  replace hgF := hide hgF
  replace ht1 := hide ht1
  replace hg := hide hg
  replace hw1 := hide hw1
  clear h0
  go_enter Tryz.func34, Tryz.ntmps34
  go_upto_region 2 with (fail)
  rw [← hw1.out, ← hg.out]
  go_wp2_with fail
  go_at_call 18
  refine hea.out.mono ?_
  rintro e w3 ⟨rfl, F3, C3, D3, hP3, hJ3, hD3, hE3⟩
  have z0 : w3.cell? ⟨g, 0, none⟩ = some (.int .i64 0) := hJ3.2.1.cell 0
  have hdone : Hid (IdEnd F w gp st 1 (.returned (.tuple #[.int .i64 1, .int .i64 0])) w3) := hide ⟨rfl, F3, hP3, ev_each hg.out hE1.out hE3⟩
  replace hP3 := hide hP3
  replace hJ3 : Hid _ := hide hJ3
  replace hD3 := hide hD3
  replace hE3 := hide hE3
  clear hea
  go_wp2_with fail
  go_ret2
  exact hdone.out
end Go.Proofs.YtiffnfgmkkoaeaaGreatDoor
namespace Go.Proofs.YtiffnfgmkkoaeaaGreatDoor
open Go.RowKit Go.Maps
set_option linter.unusedVariables false
/-- Files in memory. -/
def FilesAt (G : Nat → Prop) (w : World) (A : Option Addr) (fs : List FileN) : Prop :=
  ∀ i f, fs[i]? = some f → ∃ ad, A = some ad ∧ G ad.block ∧ w.cell? (ad.add (i * 7)) = some (.string (str f.name)) ∧ w.cell? ⟨(ad.add (i * 7)).block, (ad.add (i * 7)).off + 1, none⟩ = some (.int .i64 (f.meth : Int)) ∧ w.cell? ⟨(ad.add (i * 7)).block, (ad.add (i * 7)).off + 2, none⟩ = some (.int .i64 (f.dos : Int)) ∧
    w.cell? ⟨(ad.add (i * 7)).block, (ad.add (i * 7)).off + 3, none⟩ = some (.int .u32 (f.crc : Int)) ∧ w.cell? ⟨(ad.add (i * 7)).block, (ad.add (i * 7)).off + 4, none⟩ = some (.int .i64 (f.csize : Int)) ∧ w.cell? ⟨(ad.add (i * 7)).block, (ad.add (i * 7)).off + 5, none⟩ = some (.int .i64 (f.size : Int)) ∧ w.cell? ⟨(ad.add (i * 7)).block, (ad.add (i * 7)).off + 6, none⟩ = some (.int .i64 (f.at_ : Int))
theorem FilesAt.ev {F F' : Nat → Prop} {w w' : World} {A : Option Addr} {fs : List FileN} (h : FilesAt (Mine F w) w A fs) (he : Ev F w F' w') : FilesAt (Mine F' w') w' A fs := fun i f hf => by
  obtain ⟨ad, e, hb, h0, h1, h2, h3, h4, h5, h6⟩ := h i f hf
  have hbl : (ad.add (i * 7)).block = ad.block := block_of_add _ _
  have hk : ∀ p : Addr, p.block = ad.block → w'.cell? p = w.cell? p := fun p hp => World.cell?_of_block (by rw [hp]; exact he.block hb)
  exact ⟨ad, e, he.mine hb, (hk _ hbl).trans h0, (hk ⟨(ad.add (i * 7)).block, (ad.add (i * 7)).off + 1, none⟩ hbl).trans h1, (hk ⟨(ad.add (i * 7)).block, (ad.add (i * 7)).off + 2, none⟩ hbl).trans h2, (hk ⟨(ad.add (i * 7)).block, (ad.add (i * 7)).off + 3, none⟩ hbl).trans h3, (hk ⟨(ad.add (i * 7)).block, (ad.add (i * 7)).off + 4, none⟩ hbl).trans h4, (hk ⟨(ad.add (i * 7)).block, (ad.add (i * 7)).off + 5, none⟩ hbl).trans h5, (hk ⟨(ad.add (i * 7)).block, (ad.add (i * 7)).off + 6, none⟩ hbl).trans h6⟩
/-- key.Text at one text of a block of its own. -/
theorem text_blk (wx : World) (g : Nat) (s : ByteArray) (hg : Blk wx g 9 #[.string s]) (hs : s.size ≤ 1000) (hm : MlAt wx) :
    Calls Tryz.prog 23 #[.slice none 0 0, .slice (some ⟨g, 0, none⟩) 1 1] wx (RetB wx (textsB [s])) := by
  obtain ⟨h1, m, h2⟩ := hm
  have q := text_any2 none _ 0 1 0 1 [] [s] m wx (RB.nil _ _) (RS.of_blk hg) (by omega) (by omega) (by intro t ht; simp at ht; rw [ht]; exact hs) h1 h2
  rw [List.nil_append] at q
  exact q
/-- The conversion, under a name of its own. -/
def convP : Op := Op.convert 9 62 (Operand.tmp 122)
/-- []byte(s). -/
theorem conv_str (s : ByteArray) : ∃ (K : World → Nat) (C : World → Obj), (∀ w, (convert 9 62 (.string s)).run Tryz.prog w = .ok (.slice (some ⟨w.heap.size, 0, none⟩) s.size (K w)) (w.drew.alloc (C w))) ∧
    ∀ (w w' : World) (g : Nat), w'.heap[g]? = some (C w) → ∀ (j : Nat) (u : Value), (bv s.data.toList)[j]? = some u → w'.cell? ⟨g, j, none⟩ = some u := by
  refine ⟨fun w => grownCap w s.size 0 5, fun w => Obj.cells (bytesRow s (grownCap w s.size 0 5)) 5 ((bytesRow s (grownCap w s.size 0 5)).size, (bytesRow s (grownCap w s.size 0 5)).size + 1), fun w => run_bytes_of_string w 9 62 5 s Tryz.underlying9 Tryz.underlying62 Tryz.underlying5, fun w w' g hh j u hj => ?_⟩
  rw [cell_of_row _ _ _ _ _ _ hh]
  have hj2 := (List.getElem?_eq_some_iff.1 hj).1
  simp [bv] at hj2
  unfold bytesRow
  rw [Array.getElem?_append_left (by simpa using hj2)]
  simpa [bv] using hj
theorem MB.conv {F : Nat → Prop} {w w' : World} {g : Nat} {l : List UInt8} {o : Obj} (hc : ∀ (w' : World) (g : Nat), w'.heap[g]? = some o → ∀ (j : Nat) (u : Value), (bv l)[j]? = some u → w'.cell? ⟨g, j, none⟩ = some u) (h : w'.heap[g]? = some o) (hF : ¬ F g) : MB F w' (some ⟨g, 0, none⟩) l.length l := by
  refine ⟨by simp [bv], fun _ => ⟨_, rfl, ⟨(Array.getElem?_eq_some_iff.1 h).1, hF⟩, fun j u hj => ?_⟩⟩
  rw [show (⟨g, 0, none⟩ : Addr).add j = ⟨g, j, none⟩ from by unfold Addr.add; split <;> simp_all]
  exact hc w' g h j u hj
/-- The number of the archive that is added. -/
def IdC (st : PgS) (id : Nat) : Prop := ∀ (w : World) (F : Nat → Prop) (gc gp : Nat) (ts : Nat → Nat), PgAt w F gp st → CatAt w F gc gp ts → Calls Tryz.prog 34 #[.pointer (some ⟨gc, 0, none⟩)] w (IdEnd F w gp st id)
theorem MlAt.mine {F : Nat → Prop} {w : World} (h : MlAt w) (hn : ¬ F 0) : Mine F w 0 := by
  exact ⟨h.1, hn⟩
/-- All files are entered. -/
inductive Entered (id : Nat) : PgS → Nat → List FileN → PgS → Prop
  | nil (st : PgS) (no : Nat) : Entered id st no [] st
  | cons (st st' : PgS) (S : Nat → PgS) (no : Nat) (f : FileN) (r : List FileN) (P0 : PutC st 1 (numsB [(id : Int), (no : Int)]) (packF f) (S 0)) (P : ∀ b, b < 4 → PutC (S b) (3 + b) (orderKey b f ++ numsB [(id : Int), (no : Int)]) [] (S (b + 1))) (hr : Entered id (S 4) (no + 1) r st') : Entered id st no (f :: r) st'
def AddEnd (F : Nat → Prop) (w : World) (gp : Nat) (st' : PgS) (e : Ending) (w' : World) : Prop := PgEnd F w gp st' (.int .i64 0) e w'
theorem orderKey_len (f : FileN) (hf : f.ok) (b : Nat) : (orderKey b f).length ≤ 100000 := by
  unfold orderKey
  have h1 := numsB_len [(f.size : Int)]
  have h2 := numsB_len [(f.dos : Int)]
  have h3 := numsB_len [(f.crc : Int)]
  have h4 : (textsB [str f.name]).length ≤ 2 * f.name.length + 2 := by
    have := text_len f.name
    simp only [textsB, List.flatMap_cons, List.flatMap_nil, List.append_nil, str_toList]
    exact this
  have h5 := hf.name
  simp only [List.length_cons, List.length_nil] at h1 h2 h3
  split
  · omega
  · split
    · omega
    · split <;> omega
set_option maxRecDepth 100000 in
set_option maxHeartbeats 4000000 in
theorem cadd_any (w : World) (F : Nat → Prop) (gc gp : Nat) (ts : Nat → Nat) (st st1 st2 st3 : PgS) (h : PgAt w F gp st) (hc : CatAt w F gc gp ts) (hT : Utf8M w) (hml : MlAt w) (hmF : ¬ F 0) (path : List UInt8) (stamp long id : Nat) (fA : Option Addr) (n fc : Nat) (fs : List FileN)
    (hp1 : 1 ≤ path.length) (hp2 : path.length ≤ 24) (hs : stamp ≤ 281474976710655) (hlg : long ≤ 281474976710655) (hfs : FilesAt (Mine F w) w fA fs) (hn : fs.length = n) (hn2 : n ≤ 1000) (hok : ∀ f ∈ fs, f.ok ∧ mayF f.c = true)
    (hno : GetNo st 0 (textsB [str path])) (hid : IdC st id) (P1 : PutC st 0 (textsB [str path]) (leBs 6 [stamp, long, id, n, 0]) st1) (P2 : PutC st1 2 (numsB [(id : Int)]) path st2) (hid2 : id < 281474976710656) (hen : Entered id st2 0 fs st3) :
    Calls Tryz.prog 11 #[.pointer (some ⟨gc, 0, none⟩), .string (str path), .int .i64 (stamp : Int), .int .i64 (long : Int), .slice fA n fc, .int .i64 0] w (AddEnd F w gp st3) := by
  have hi1 : Hid (∀ wx : World, Calls Tryz.prog 29 #[.int .i64 281474976710655, .slice (some ⟨wx.heap.size, 0, none⟩) 2 2] (wx.alloc (.cells #[.int .i64 (stamp : Int), .int .i64 (long : Int)] 3)) fun e w' => e = .returned (.bool true) ∧ wx.alloc (.cells #[.int .i64 (stamp : Int), .int .i64 (long : Int)] 3) = w') := hide fun wx => by
    have q := in_any _ _ 2 2 [(stamp : Int), (long : Int)] (RI.lits wx [(stamp : Int), (long : Int)] 3 2 rfl) (by omega) 281474976710655
    rw [show inP 281474976710655 [(stamp : Int), (long : Int)] = true by
      unfold inP
      simp
      omega] at q
    exact q
  have hi2 : Hid (∀ (wx : World) (o1 : Obj), Calls Tryz.prog 29 #[.int .i64 255, .slice (some ⟨wx.heap.size + 1, 0, none⟩) 1 1] ((wx.alloc o1).alloc (.cells #[.int .i64 0] 3)) fun e w' => e = .returned (.bool true) ∧ (wx.alloc o1).alloc (.cells #[.int .i64 0] 3) = w') := hide fun wx o1 => by
    have e9 : (wx.alloc o1).heap.size = wx.heap.size + 1 := World.size_alloc _ _
    rw [← e9]
    exact in_any _ _ 1 1 [0] (RI.lits (wx.alloc o1) [0] 3 1 rfl) (by omega) 255
  have hps : (str path).size = path.length := str_size path
  obtain ⟨PL, hPL⟩ : ∃ PL, PL = path.length := ⟨_, rfl⟩
  rw [← hPL] at hp1 hp2 hps
  have hp1I : (1 : Int) ≤ (PL : Int) := by omega
  have hp2I : (PL : Int) ≤ 24 := by omega
  replace h := hide h
  replace hc := hide hc
  replace hT := hide hT
  replace hml := hide hml
  replace hmF := hide hmF
  replace hs := hide hs
  replace hlg := hide hlg
  replace hfs : Hid _ := hide hfs
  replace hn := hide hn
  replace hok := hide hok
  replace hno := hide hno
  replace hid := hide hid
  replace P1 := hide P1
  replace P2 := hide P2
  replace hid2 := hide hid2
  replace hen := hide hen
  replace hPL := hide hPL
  go_enter Tryz.func11, Tryz.ntmps11
  go_wp2_with fail
  go_at_call 29
  refine (hi1.out _).mono ?_
  rintro e w2 ⟨rfl, rfl⟩
  go_wp2_with fail
  go_at_call 29
  refine (hi2.out _ _).mono ?_
  rintro e w3 ⟨rfl, rfl⟩
  clear hi1 hi2
  obtain ⟨w3, hw3⟩ : ∃ w3, w3 = (w.alloc (.cells #[.int .i64 (stamp : Int), .int .i64 (long : Int)] 3)).alloc (.cells #[.int .i64 0] 3) := ⟨_, rfl⟩
  rw [← hw3]
  have hB3 : Hid (Below w.heap.size w w3) := hide (by rw [hw3]; exact below_two w _ _)
  replace hw3 := hide hw3
  go_wp2_with fail
  go_loopw [13, 57] (fun v13 v57 wx => ∃ k : Nat, k ≤ n ∧ v13 = .bool true ∧ v57 = .int .i64 (k : Int) ∧ Hid (Below w.heap.size w wx)) (fun _ v57 _ => n - (intOf v57).toNat)
  case atStart => exact ⟨0, by omega, rfl, rfl, hB3⟩
  case round =>
    obtain ⟨k, hk, rfl, rfl, hBr⟩ := hrel
    by_cases hkn : k < n
    · have hkI : (k : Int) < (n : Int) := by omega
      have hk0 : (0 : Int) ≤ (k : Int) := by omega
      have hkl : k < fs.length := by have := hn.out; omega
      obtain ⟨f, hf⟩ : ∃ f, fs[k]? = some f := ⟨_, List.getElem?_eq_getElem hkl⟩
      obtain ⟨hfo, hfm⟩ := hok.out f (List.mem_of_getElem? hf)
      obtain ⟨ad, rfl, _, c0, c1, c2, c3, c4, c5, c6⟩ := (hfs.out.ev (Ev.of_below hBr.out)) k f hf
      have hTr := hT.out.below hBr.out
      have hcm := hide (cmay_any (wr.alloc (.cells (fileN f) 37)) f.c (hTr.below ((Below.refl _ wr).alloc (Nat.le_refl _) _)))
      rw [hfm] at hcm
      have hB4 := hide (hBr.out.alloc hBr.out.size (.cells (fileN f) 37))
      obtain ⟨nm, me, ds, cr, cs, si, at_⟩ := f
      simp only [fileN, FileN.c] at *
      replace hfo := hide hfo
      replace hf := hide hf
      replace hTr := hide hTr
      clear hkl
      go_wp2_with fail
      go_at_call 33
      refine hcm.out.mono ?_
      rintro e w5 ⟨rfl, hB5⟩
      have hB6 : Hid (Below w.heap.size w w5) := hide (hB4.out.trans (hB5.mono hB4.out.size))
      replace hB5 := hide hB5
      clear hcm c0 c1 c2 c3 c4 c5 c6
      go_wp2_with fail
      go_roundw
      case rel => exact ⟨k + 1, by omega, rfl, by congr 1, hB6⟩
      case measure => simp [intOf]; omega
    · obtain rfl : k = n := by omega
      have hE0 := hide (Ev.of_below (F := F) hBr.out)
      have hP0 : PgAt wr F gp st := h.out.below hBr.out
      have hc0 := hc.out.ev hE0.out
      have hml0 := hml.out.below hBr.out
      have hfi := hide (cfind_no wr F gc gp ts st hP0 hc0 hml0 path (by rw [← hPL.out]; omega) hno.out)
      have hkI : ¬ 1000 < (k : Int) := by omega
      have hkI2 : (k : Int) ≤ 1000 := by omega
      replace hP0 := hide hP0
      replace hc0 := hide hc0
      replace hml0 := hide hml0
      clear hkn hB3
      go_wp2_with fail
      go_at_call 6
      refine hfi.out.mono ?_
      rintro e w4 ⟨rfl, F4, hP4, hE4⟩
      obtain ⟨o5, ho5⟩ : ∃ o5, o5 = Obj.cells #[.string ⟨#[]⟩, .int .i64 0, .int .i64 0, .int .i64 0, .int .i64 0, .int .i64 0] 29 := ⟨_, rfl⟩
      have hE5 : Ev F w F4 (w4.alloc o5) := (hE0.out.trans hE4).alloc_ _
      have hP5 := hP4.alloc o5
      have hni := hide (hid.out (w4.alloc o5) F4 gc gp ts hP5 (hc.out.ev hE5))
      subst ho5
      replace hP4 := hide hP4
      replace hE4 := hide hE4
      replace hE5 := hide hE5
      replace hP5 := hide hP5
      clear hfi
      go_wp2_with fail
      go_at_call 34
      refine hni.out.mono ?_
      rintro e w6 ⟨rfl, F6, hP6, hE6⟩
      have hE06 := hide (hE5.out.trans hE6)
      have hc6 := hide (hc.out.ev hE06.out)
      have hm6 := hide (hml.out.ev hE06.out hmF.out)
      have ct : w6.cell? ⟨gc, 1, none⟩ = some (.pointer (some ⟨ts 0, 0, none⟩)) := hc6.out.blk.cell 1
      have hFlt := hide hP6.lt
      have hkp : Hid (∀ w' F', Ev F6 w6 F' w' → w'.cell? ⟨gc, 1, none⟩ = some (.pointer (some ⟨ts 0, 0, none⟩))) := hide fun W F' hE => (hc6.out.ev hE).blk.cell 1
      replace hP6 := hide hP6
      replace hE6 := hide hE6
      clear hni
      obtain ⟨KK, hKK⟩ : ∃ KK, KK = textsB [str path] := ⟨_, rfl⟩
      obtain ⟨VB, hVB⟩ : ∃ VB, VB = leBs 6 [stamp, long, id, k, 0] := ⟨_, rfl⟩
      have hVL : Hid (VB.length = 30) := hide (by rw [hVB, leBs_len]; rfl)
      have P1' := P1.out
      rw [← hKK, ← hVB] at P1'
      unfold PutC at P1'
      rw [hVL.out] at P1'
      replace P1' := hide P1'
      have hnx : Hid (∀ x ∈ [stamp, long, id, k, 0], x < 9223372036854775808) := hide (by
        have e1 := hs.out
        have e2 := hlg.out
        have e3 := hid2.out
        intro x hx
        simp at hx
        rcases hx with rfl | rfl | rfl | rfl | rfl <;> omega)
      replace hKK := hide hKK
      replace hVB := hide hVB
      go_upto_region 21 with (fail)
      go_cut [20] (fun v20 wx => v20 = .int .i64 0 ∧ Hid (∃ F7, PgAt wx F7 gp st1 ∧ Ev F6 w6 F7 wx))
      case first =>
        go_region_held3 (fun w' => w'.cell? ⟨gc, 1, none⟩ = some (.pointer (some ⟨ts 0, 0, none⟩))) (first | exact ct | (exact hkp.out _ _ hE67.out) | (exact hkp.out _ F6 (Ev.of_below (by first | (with_reducible exact hbW.out) | (with_reducible exact hbT.out) | (with_reducible exact hbW.out.alloc hbW.out.size _) | (with_reducible exact hbT.out.alloc hbT.out.size _)))) | go_keep) (first
          | (go_at_call 23; (fail_if_success (clear hbT)); refine (text_blk _ _ (str path) (by first | (with_reducible exact Blk.new _ _ _) | (with_reducible exact (Blk.new _ _ _).drew) | (with_reducible exact ((Blk.new _ _ _).alloc _).drew) | (with_reducible exact (blk_second _ _ _ _).drew) | (with_reducible exact (Blk.new _ _ _).drew.below hBw.out (by simp <;> omega)) | (with_reducible exact ((Blk.new _ _ _).alloc _).drew.below hBw.out (by simp <;> omega)) | (with_reducible exact (blk_second _ _ _ _).drew.below hBw.out (by simp <;> omega))) (by rw [hps]; omega) (hm6.out.below (by first | (with_reducible exact (Below.refl _ w6).drew) | (with_reducible exact ((Below.refl _ w6).alloc (Nat.le_refl _) _).drew) | (with_reducible exact (below_two w6 _ _).drew) | (with_reducible exact hbW.out) | (with_reducible exact hbW.out.alloc hbW.out.size _)))).mono ?_; rintro e wt ⟨vt, rfl, hOt, hBt⟩; rw [← hKK.out] at hOt; have hbT : Hid (Below w6.heap.size w6 wt) := hide (Below.trans (by first | (with_reducible exact (Below.refl _ w6).drew) | (with_reducible exact ((Below.refl _ w6).alloc (Nat.le_refl _) _).drew) | (with_reducible exact (below_two w6 _ _).drew) | (with_reducible exact hbW.out) | (with_reducible exact hbW.out.alloc hbW.out.size _)) (hBt.mono (by first | (have := hbW.out.size; simp <;> omega) | (simp <;> omega)))); obtain ⟨kA, kc, rfl, _, _, hkc, _⟩ := hOt.form; have hkey : Hid (MB F6 wt kA KK.length KK) := hide (MB.made hOt (fun k hk => by have := hFlt.out k hk; first | (have := hbW.out.size; simp <;> omega) | (simp <;> omega))); (try (have hval2 := hide (hval.out.ev (Ev.of_below (F := F6) (by first | (with_reducible exact hBt) | (with_reducible exact ((Below.refl _ ww).alloc (Nat.le_refl _) _).trans (hBt.mono (by simp)))))))); replace hOt := hide hOt; replace hBt := hide hBt)
          | (go_at_call 36; (fail_if_success (clear hbW)); refine (wput_blk _ none 0 0 6 _ [] 3 [stamp, long, id, k, 0] (RB.nil _ _) #[.int .i64 (stamp : Int), .int .i64 (long : Int), .int .i64 (id : Int), .int .i64 (k : Int), .int .i64 0] (by first | (with_reducible exact Blk.new _ _ _) | (with_reducible exact (Blk.new _ _ _).drew) | (with_reducible exact ((Blk.new _ _ _).alloc _).drew) | (with_reducible exact (blk_second _ _ _ _).drew) | (with_reducible exact (Blk.new _ _ _).drew.below hBt.out (by simp <;> omega)) | (with_reducible exact ((Blk.new _ _ _).alloc _).drew.below hBt.out (by simp <;> omega)) | (with_reducible exact (blk_second _ _ _ _).drew.below hBt.out (by simp <;> omega))) rfl (by omega) (by simp) (by omega) (by omega) hnx.out).mono ?_; rintro e ww ⟨vw, rfl, hOw, hBw⟩; rw [List.nil_append, ← hVB.out, hVL.out] at hOw; have hbW : Hid (Below w6.heap.size w6 ww) := hide (Below.trans (by first | (with_reducible exact (Below.refl _ w6).drew) | (with_reducible exact ((Below.refl _ w6).alloc (Nat.le_refl _) _).drew) | (with_reducible exact (below_two w6 _ _).drew) | (with_reducible exact hbT.out) | (with_reducible exact hbT.out.alloc hbT.out.size _)) (hBw.mono (by first | (have := hbT.out.size; simp <;> omega) | (simp <;> omega)))); obtain ⟨vA, vc, rfl, _, _, hvc, _⟩ := hOw.form; have hval : Hid (MB F6 ww vA 30 VB) := hide (MB.made hOw (fun k hk => by have := hFlt.out k hk; first | (have := hbT.out.size; simp <;> omega) | (simp <;> omega))); (try (have hkey2 := hide (hkey.out.ev (Ev.of_below (F := F6) (by first | (with_reducible exact hBw) | (with_reducible exact ((Below.refl _ wt).alloc (Nat.le_refl _) _).trans (hBw.mono (by simp)))))))); replace hOw := hide hOw; replace hBw := hide hBw)
          | (go_at_call 35; refine (P1'.out _ F6 (ts 0) gp kA vA kc vc (by first | (with_reducible exact hP6.out.below hbW.out) | (with_reducible exact hP6.out.below hbT.out)) (by first | (with_reducible exact (hc6.out.tree 0 (by omega)).ev (Ev.of_below hbW.out)) | (with_reducible exact (hc6.out.tree 0 (by omega)).ev (Ev.of_below hbT.out))) (by first | (with_reducible exact hkey2.out) | (with_reducible exact hkey.out)) (by first | (with_reducible exact hval2.out) | (with_reducible exact hval.out))).mono ?_; rintro e w7 ⟨rfl, F7, hP7, hE7⟩; have hE67 : Hid (Ev F6 w6 F7 w7) := hide (by first | (with_reducible exact (Ev.of_below hbW.out).trans hE7) | (with_reducible exact (Ev.of_below hbT.out).trans hE7)); replace hP7 := hide hP7; replace hE7 := hide hE7))
        all_goals
          have hrel7 : Hid (∃ F7, PgAt w7 F7 gp st1 ∧ Ev F6 w6 F7 w7) := hide ⟨F7, hP7.out, hE67.out⟩
          go_wp2_with fail
          go_meet
          case rel => exact ⟨rfl, hrel7⟩
      obtain ⟨rfl, hG7⟩ := hcut
      obtain ⟨F7, hP7, hE67⟩ := hG7.out
      have hE07 := hide (hE06.out.trans hE67)
      have hc7 := hide (hc.out.ev hE07.out)
      have ct7 : wc.cell? ⟨gc, 3, none⟩ = some (.pointer (some ⟨ts 2, 0, none⟩)) := hc7.out.blk.cell 3
      have hFlt7 := hide hP7.lt
      have hkp7 : Hid (∀ w' F', Ev F7 wc F' w' → w'.cell? ⟨gc, 3, none⟩ = some (.pointer (some ⟨ts 2, 0, none⟩))) := hide fun W F' hE => (hc7.out.ev hE).blk.cell 3
      obtain ⟨w7, hw7⟩ : ∃ w7, w7 = wc := ⟨_, rfl⟩
      rw [← hw7] at hP7 hE67 hE07 hc7 ct7 hFlt7 hkp7 ⊢
      replace hw7 := hide hw7
      replace hP7 := hide hP7
      replace hE67 := hide hE67
      clear hG7 ct hkp
      obtain ⟨K, C, hcv, hcb⟩ := conv_str (str path)
      rw [hps] at hcv
      rw [str_toList] at hcb
      replace hcb := hide hcb
      obtain ⟨NB, hNB⟩ : ∃ NB, NB = numsB [(id : Int)] := ⟨_, rfl⟩
      have hNL : Hid (NB.length = 6) := hide (by rw [hNB]; exact numsB_len _)
      have P2' := P2.out
      rw [← hNB] at P2'
      unfold PutC at P2'
      rw [hNL.out, ← hPL.out] at P2'
      replace P2' := hide P2'
      replace hNB := hide hNB
      go_upto_region 24 with (fail)
      have hco : convP = Op.convert 9 62 (Operand.tmp 122) := rfl
      rw [← hco]
      go_cut [21] (fun v21 wx => v21 = .int .i64 0 ∧ Hid (∃ F8, PgAt wx F8 gp st2 ∧ Ev F7 w7 F8 wx))
      case first =>
        go_region_held3 (fun w' => w'.cell? ⟨gc, 3, none⟩ = some (.pointer (some ⟨ts 2, 0, none⟩))) (first | (with_reducible exact ct7) | (with_reducible exact hkp7.out _ _ hE78.out) | (with_reducible exact hkp7.out _ F7 (Ev.of_below (by first | (with_reducible exact hbN.out) | (with_reducible exact hbN.out.alloc hbN.out.size _) | (with_reducible exact (hbN.out.alloc hbN.out.size _).drew) | (with_reducible exact (Below.refl _ w7).drew) | (with_reducible exact ((Below.refl _ w7).alloc (Nat.le_refl _) _).drew) | (with_reducible exact (below_two w7 _ _).drew) | (with_reducible exact ((Below.refl _ w7).alloc (Nat.le_refl _) _).drew.drew) | (with_reducible exact (below_two w7 _ _).drew.drew) | (with_reducible exact ((Below.refl _ w7).drew.alloc (Nat.le_refl _) _)) | (with_reducible exact ((Below.refl _ w7).drew.drew.alloc (Nat.le_refl _) _))))) | go_keep) (first
          | (go_at_call 24; refine (knum_blk _ none 0 0 _ [] 3 [(id : Int)] #[.int .i64 (id : Int)] (RB.nil _ _) (by first | (with_reducible exact (Blk.new _ _ _).drew) | (with_reducible exact Blk.new _ _ _) | (with_reducible exact ((Blk.new _ _ _).alloc _).drew) | (with_reducible exact (blk_second _ _ _ _).drew) | (with_reducible exact (Blk.new _ _ _).drew.drew) | (with_reducible exact ((Blk.new _ _ _).alloc _).drew.drew) | (with_reducible exact (blk_second _ _ _ _).drew.drew)) rfl (by omega) (by simp)).mono ?_; rintro e wn ⟨vn, rfl, hOn, hBn⟩; rw [List.nil_append, ← hNB.out, hNL.out] at hOn; have hbN : Hid (Below w7.heap.size w7 wn) := hide (Below.trans (by first | (with_reducible exact (Below.refl _ w7).drew) | (with_reducible exact ((Below.refl _ w7).alloc (Nat.le_refl _) _).drew) | (with_reducible exact (below_two w7 _ _).drew) | (with_reducible exact ((Below.refl _ w7).alloc (Nat.le_refl _) _).drew.drew) | (with_reducible exact (below_two w7 _ _).drew.drew) | (with_reducible exact ((Below.refl _ w7).drew.alloc (Nat.le_refl _) _)) | (with_reducible exact ((Below.refl _ w7).drew.drew.alloc (Nat.le_refl _) _))) (hBn.mono (by simp <;> omega))); obtain ⟨nA, nc, rfl, _, _, hnc, _⟩ := hOn.form; have hkey : Hid (MB F7 wn nA 6 NB) := hide (MB.made hOn (fun k hk => by have := hFlt7.out k hk; simp <;> omega)); replace hOn := hide hOn; replace hBn := hide hBn)
          | (go_at_call 35; have hB8 : Hid (Below w7.heap.size w7 (wn.alloc (C wn)).drew) := hide (hbN.out.alloc hbN.out.size _).drew; have hmb : MB F7 (wn.alloc (C wn)).drew (some ⟨wn.heap.size, 0, none⟩) PL path := (by rw [hPL.out]; exact MB.conv (w := w7) (hcb.out wn) (show (wn.heap.push (C wn))[wn.heap.size]? = some (C wn) by simp) (fun hx => by have := hFlt7.out _ hx; have := hbN.out.size; omega)); have hq := fun cc => P2'.out _ F7 (ts 2) gp nA (some ⟨wn.heap.size, 0, none⟩) nc cc (hP7.out.below hB8.out) ((hc7.out.tree 2 (by omega)).ev (Ev.of_below hB8.out)) (hkey.out.ev (Ev.of_below (F := F7) ((Below.refl _ wn).alloc (Nat.le_refl _) _).drew)) hmb; (with_reducible refine (hq _).mono ?_); rintro e w8 ⟨rfl, F8, hP8, hE8⟩; have hE78 : Hid (Ev F7 w7 F8 w8) := hide ((Ev.of_below hB8.out).trans hE8); replace hP8 := hide hP8; replace hE8 := hide hE8) | (go_at_call 35; have hB8 : Hid (Below w7.heap.size w7 wn) := hbN; have hmb : MB F7 wn (some ⟨w7.heap.size + 1, 0, none⟩) PL path := (by rw [hPL.out]; refine (MB.conv (w := w7) (hcb.out (w7.alloc (.cells #[.int .i64 (id : Int)] 3)).drew) ?_ (fun hx => by have := hFlt7.out _ hx; omega)).ev (Ev.of_below (F := F7) hBn.out); (show ((w7.heap.push _).push _)[w7.heap.size + 1]? = _; (have e := @Array.getElem?_push_size _ (w7.heap.push (.cells #[.int .i64 (id : Int)] 3)) (C (w7.alloc (.cells #[.int .i64 (id : Int)] 3)).drew); rw [Array.size_push] at e; exact e))); have hq := fun cc => P2'.out _ F7 (ts 2) gp nA (some ⟨w7.heap.size + 1, 0, none⟩) nc cc (hP7.out.below hB8.out) ((hc7.out.tree 2 (by omega)).ev (Ev.of_below hB8.out)) hkey.out hmb; (with_reducible refine (hq _).mono ?_); rintro e w8 ⟨rfl, F8, hP8, hE8⟩; have hE78 : Hid (Ev F7 w7 F8 w8) := hide ((Ev.of_below hB8.out).trans hE8); replace hP8 := hide hP8; replace hE8 := hide hE8) | (go_at_call 35; have hB8 : Hid (Below w7.heap.size w7 wn) := hbN; have hmb : MB F7 wn (some ⟨w7.heap.size, 0, none⟩) PL path := (by rw [hPL.out]; refine (MB.conv (w := w7) (hcb.out w7.drew) ?_ (fun hx => by have := hFlt7.out _ hx; omega)).ev (Ev.of_below (F := F7) hBn.out); (show ((w7.heap.push _).push _)[w7.heap.size]? = _; simp [Array.getElem?_push])); have hq := fun cc => P2'.out _ F7 (ts 2) gp nA (some ⟨w7.heap.size, 0, none⟩) nc cc (hP7.out.below hB8.out) ((hc7.out.tree 2 (by omega)).ev (Ev.of_below hB8.out)) hkey.out hmb; (with_reducible refine (hq _).mono ?_); rintro e w8 ⟨rfl, F8, hP8, hE8⟩; have hE78 : Hid (Ev F7 w7 F8 w8) := hide ((Ev.of_below hB8.out).trans hE8); replace hP8 := hide hP8; replace hE8 := hide hE8))
        all_goals
          have hrel8 : Hid (∃ F8, PgAt w8 F8 gp st2 ∧ Ev F7 w7 F8 w8) := hide ⟨F8, hP8.out, hE78.out⟩
          go_wp2_with fail
          go_meet
          case rel => exact ⟨rfl, hrel8⟩
      obtain ⟨rfl, hG8⟩ := hcut
      obtain ⟨F8, hP8, hE78⟩ := hG8.out
      have hst : Hid (∃ F9, PgAt wc F9 gp st2 ∧ Ev F w F9 wc ∧ Entered id st2 0 (fs.drop 0) st3) := hide ⟨F8, hP8, hE07.out.trans hE78, hen.out⟩
      obtain ⟨w8, hw8⟩ : ∃ w8, w8 = wc := ⟨_, rfl⟩
      rw [← hw8] at hst ⊢
      replace hw8 := hide hw8
      clear hG8 hE78 hP8 ct7 hkp7 hcb hcv P2' P1' hE67
      go_wp2_with fail
      go_loopw [130] (fun v wx => ∃ (j : Nat) (sx : PgS), j ≤ k ∧ v = .int .i64 (j : Int) ∧ Hid (∃ F9, PgAt wx F9 gp sx ∧ Ev F w F9 wx ∧ Entered id sx j (fs.drop j) st3)) (fun v _ => k - (intOf v).toNat)
      case atStart => exact ⟨0, st2, by omega, rfl, hst⟩
      case round =>
        obtain ⟨j, sx, hj, rfl, hG⟩ := hrel
        obtain ⟨F9, hP9, hE9, hr9⟩ := hG.out
        by_cases hjn : j < k
        · have hjI : (j : Int) < (k : Int) := by omega
          have hj0 : (0 : Int) ≤ (j : Int) := by omega
          have hjl : j < fs.length := by have := hn.out; omega
          obtain ⟨f, hf⟩ : ∃ f, fs[j]? = some f := ⟨_, List.getElem?_eq_getElem hjl⟩
          obtain ⟨hfo, hfm⟩ := hok.out f (List.mem_of_getElem? hf)
          have hdr : fs.drop j = f :: fs.drop (j + 1) := by
            rw [List.drop_eq_getElem_cons hjl]
            rw [List.getElem?_eq_getElem hjl] at hf
            rw [Option.some.inj hf]
          obtain ⟨ad, rfl, _, c0, c1, c2, c3, c4, c5, c6⟩ := (hfs.out.ev hE9) j f hf
          rw [hdr] at hr9
          cases hr9 with
          | cons _ _ S _ _ _ P0 P hr =>
            have hmr := (hml.out.mine hmF.out)
            have hen9 := hide (enter_any (wr.alloc (.cells (fileN f) 37)) F9 gc gp ts sx S (hP9.alloc _) (hc.out.ev (hE9.alloc_ _)) (hml.out.ev (hE9.alloc_ _) hmF.out) (hE9.mine hmr).2 f hfo id j P0 P (fun b _ => orderKey_len f hfo b))
            have hEa := hide (hE9.alloc_ (.cells (fileN f) 37))
            obtain ⟨nm, me, ds, cr, cs, si, at_⟩ := f
            simp only [fileN, FileN.c] at *
            replace hr := hide hr
            replace hP9 := hide hP9
            replace hE9 := hide hE9
            replace hf := hide hf
            replace hdr := hide hdr
            replace hfo := hide hfo
            replace hmr := hide hmr
            clear hjl P0 P
            go_wp2_with fail
            go_at_call 37
            refine hen9.out.mono ?_
            rintro e w5 ⟨rfl, F5, hP5, hE5⟩
            have hG5 : Hid (∃ F9, PgAt w5 F9 gp (S 4) ∧ Ev F w F9 w5 ∧ Entered id (S 4) (j + 1) (fs.drop (j + 1)) st3) := hide ⟨F5, hP5, hEa.out.trans hE5, hr.out⟩
            clear hen9 c0 c1 c2 c3 c4 c5 c6 hP5 hE5
            go_wp2_with fail
            go_roundw
            case rel => exact ⟨j + 1, S 4, by omega, by congr 1, hG5⟩
            case measure => simp [intOf]; omega
        · obtain rfl : j = k := by omega
          have hdn : fs.drop j = [] := List.drop_eq_nil_of_le (by have := hn.out; omega)
          rw [hdn] at hr9
          cases hr9
          have hfin : Hid (AddEnd F w gp st3 (.returned (.int .i64 0)) wr) := hide ⟨rfl, F9, hP9, hE9⟩
          clear hP9 hE9 hG hst
          go_wp2_with fail
          go_ret
          exact hfin.out
end Go.Proofs.YtiffnfgmkkoaeaaGreatDoor
namespace Go.Proofs.YtiffnfgmkkoaeaaGreatDoor
open Go.RowKit Go.Maps
set_option linter.unusedVariables false
theorem pair_info : (Tryz.prog.info? 55).map (fun i => (i.zero, i.size, i.bytes)) = some (some (.agg #[.int .i64 0, .int .i64 0]), 2, 16) := by kernel_rfl
theorem run_app_pair (w : World) (base : Nat) (v : Value) (m : Nat) (xs : List Value) (hown : w.ownsRow base 55 2 v m xs) (g : Nat) (x0 x1 : Value) (h1 : ∀ u ∈ [x0, x1], u.oneCell' = true) (hb : Blk w g 55 #[x0, x1]) (ty : TypeId) (hlen : m + 1 ≤ 1000000) (hbase : base ≤ w.heap.size) :
    ∃ v' w', (Builtin.append_ #[42, 42] ty #[v, .slice (some ⟨g, 0, none⟩) 1 1]).run Tryz.prog w = .ok v' w' ∧ w'.ownsRow base 55 2 v' (m + 1) (xs ++ [x0, x1]) ∧ w.grownBy w' v.ownBlock ∧ (v'.ownBlock = v.ownBlock ∨ v'.ownBlock = some w.heap.size) := by
  obtain ⟨i0, hi0, hz0, hz1, hz2⟩ := info_parts pair_info
  exact run_append_any (P := Tryz.prog) w base 42 ty 55 i0 _ 2 16 Tryz.underlying42 hi0 hz0 hz1 hz2 rfl (by omega) v m xs hown w.heap.size (some ⟨g, 0, none⟩) 1 1 [x0, x1] ⟨rfl, fun _ => ⟨_, rfl, hb.lt, fun j u hu => by
      have e : (Addr.mk g 0 none).add j = ⟨g, j, none⟩ := by
        unfold Addr.add
        by_cases h0 : j = 0
        · subst h0; rfl
        · rw [if_neg h0]; simp
      rw [e, hb.cell]
      simpa using hu⟩⟩ h1 (by simp only [maxLen]; omega) (by omega) hbase
def idB (key : List UInt8) : List UInt8 := (key.drop (key.length - 12)).take 6
def noB (key : List UInt8) : List UInt8 := key.drop (key.length - 12 + 6)
def pairV (key : List UInt8) : List Value := [.int .i64 (val (idB key) : Int), .int .i64 (val (noB key) : Int)]
/-- What one call of the closure leaves. -/
def PairEnd (w : World) (g : Nat) (v : Value) (m : Nat) (xs : List Value) (key : List UInt8) (e : Ending) (w' : World) : Prop :=
  e = .returned (.int .i64 0) ∧ ∃ v', Blk w' g 42 #[v'] ∧ w'.ownsRow 0 55 2 v' (m + 1) (xs ++ pairV key) ∧ Only (fun k => k = g ∨ v.ownBlock = some k) w w' ∧ (v'.ownBlock = v.ownBlock ∨ ∃ j, v'.ownBlock = some j ∧ w.heap.size ≤ j)
set_option maxRecDepth 100000 in
set_option maxHeartbeats 1000000 in
theorem range1_any (w : World) (g : Nat) (v : Value) (m : Nat) (xs : List Value) (hb : Blk w g 42 #[v]) (hown : w.ownsRow 0 55 2 v m xs) (hm : m ≤ 900000) (kA vA : Option Addr) (n kc vn vc : Nat) (key : List UInt8) (hk : RB w w.heap.size kA n key) (hn : n ≤ 100000) (h12 : 12 ≤ n) (hkc : n ≤ kc) (hkc2 : kc ≤ maxLen) :
    Calls Tryz.prog 30 #[.slice kA n kc, .slice vA vn vc, .pointer (some ⟨g, 0, none⟩)] w (PairEnd w g v m xs key) := by
  obtain ⟨P, hP⟩ : ∃ P, n = P + 12 := ⟨n - 12, by omega⟩
  have hkl : key.length = n := hk.len
  have e1 : key.drop P = idB key ++ noB key := by
    unfold idB noB
    rw [show key.length - 12 = P by omega]
    rw [← List.drop_drop]
    exact (List.take_append_drop 6 _).symm
  have e2 : key.drop (P + 6) = noB key ++ [] := by
    unfold noB
    rw [show key.length - 12 = P by omega, List.append_nil]
  have l1 : (idB key).length = 6 := by unfold idB; rw [List.length_take, List.length_drop]; omega
  have l2 : (noB key).length = 6 := by unfold noB; rw [List.length_drop]; omega
  have hg1 := hide (getNum_any kA n kc P key _ _ w hk (by omega) hkc hkc2 (by omega) e1 l1)
  have hg2 := hide (getNum_any kA n kc (P + 6) key _ _ w hk (by omega) hkc hkc2 (by omega) e2 l2)
  obtain ⟨I1, hI1⟩ : ∃ I1, I1 = val (idB key) := ⟨_, rfl⟩
  obtain ⟨I2, hI2⟩ : ∃ I2, I2 = val (noB key) := ⟨_, rfl⟩
  rw [← hI1] at hg1
  rw [← hI2] at hg2
  have hb4 := Blk.new w 55 #[.int .i64 (I1 : Int), .int .i64 (I2 : Int)]
  have hrow4 : ((w.alloc (.cells #[.int .i64 (I1 : Int), .int .i64 (I2 : Int)] 55))).ownsRow 0 55 2 v m xs := ((Only.refl (fun _ => False) w).alloc _).row hown (fun _ _ h => h)
  obtain ⟨v5, w5, hrun, hown5, hg5, hv5⟩ := run_app_pair _ 0 _ m xs hrow4 w.heap.size (.int .i64 (I1 : Int)) (.int .i64 (I2 : Int)) (by intro u hu; simp at hu; rcases hu with rfl | rfl <;> rfl) (show Blk (w.alloc _) w.heap.size 55 _ from hb4) 42 (by omega) (Nat.zero_le _)
  have hgv : some g ≠ v.ownBlock := fun e => own_blk_ne hown hb (by decide) e.symm
  have hb5 : Blk w5 g 42 #[v] := ((show Blk (w.alloc (.cells #[.int .i64 (I1 : Int), .int .i64 (I2 : Int)] 55)) g 42 _ from hb.alloc _)).grown hg5 hgv
  have hsub : IntKind.i64.wrap ((n : Int) - 12) = (P : Int) := by rw [wrap_small _ (by omega) (by omega)]; omega
  have ho5 := (Only.refl (fun _ => False) w).alloc (.cells #[.int .i64 (I1 : Int), .int .i64 (I2 : Int)] 55)
  have hdone : Hid (PairEnd w g v m xs key (.returned (.int .i64 0)) (w5.setCell ⟨g, 0, none⟩ v5)) := hide (by
    have hO5 : Only (fun k => k = g ∨ v.ownBlock = some k) w w5 := (((Only.refl _ w).alloc _).grown hg5 (fun k hk _ => .inr hk))
    have hO6 : Only (fun k => k = g ∨ v.ownBlock = some k) w (w5.setCell ⟨g, 0, none⟩ v5) := hO5.setCell (p := ⟨g, 0, none⟩) (fun _ => .inl rfl) v5
    have hO2 : Only (fun k => k = g) w5 (w5.setCell ⟨g, 0, none⟩ v5) := (Only.refl (fun k => k = g) w5).setCell (p := ⟨g, 0, none⟩) (fun _ => rfl) v5
    refine ⟨rfl, v5, hb5.set_ 0 v5, ?_, hO6, ?_⟩
    · unfold pairV
      rw [← hI1, ← hI2]
      exact hO2.row hown5 (own_not_blk hown5 hb5 (by decide))
    · rcases hv5 with e | e
      · exact .inl e
      · exact .inr ⟨_, e, by simp <;> omega⟩)
  obtain ⟨A5, c5, rfl⟩ := own_form hown5
  obtain ⟨A4, c4, rfl⟩ := own_form hown
  have z0 := hb.cell 0
  have z1 := (hb.alloc (.cells #[.int .i64 (I1 : Int), .int .i64 (I2 : Int)] 55)).cell 0
  have z2 := hb5.cell 0
  have z3 := hb5.frozen 0
  replace hb := hide hb
  replace hown := hide hown
  replace hk := hide hk
  replace hkl := hide hkl
  replace e1 := hide e1
  replace e2 := hide e2
  replace l1 := hide l1
  replace l2 := hide l2
  replace hI1 := hide hI1
  replace hI2 := hide hI2
  replace hb4 := hide hb4
  replace hrow4 := hide hrow4
  replace hown5 := hide hown5
  replace hg5 := hide hg5
  replace hv5 := hide hv5
  replace hgv := hide hgv
  replace hb5 := hide hb5
  replace ho5 := hide ho5
  replace hP := hide hP
  clear hkc hkc2 hn h12 hm
  go_enter Tryz.func30, Tryz.ntmps30
  go_wp2_with fail
  go_at_call 27
  refine hg1.out.mono ?_
  rintro e w2 ⟨rfl, rfl⟩
  go_wp2_with fail
  go_at_call 27
  refine hg2.out.mono ?_
  rintro e w2 ⟨rfl, rfl⟩
  clear hg1 hg2 hsub
  go_wp2_with (at_builtin; refine Lib.wpList_append_run _ rfl (.tmp 28) (.tmp 32) 42 42 rfl _ _ rfl rfl _ _ hrun ?_)
  first | exact hdone.out | (go_ret; exact hdone.out)
theorem range1_fn : ∀ args wx, (callFunc 30 args).run Tryz.prog wx = .ok (.enter 30 args) wx := fun args wx => by
  have h := Tryz.func30
  simp [callFunc, Sem.run_bind, go_sem, h, Tryz.f30]
/-- The pairs that were gathered. -/
def PairJ (g : Nat) (d : List (List UInt8 × List UInt8)) (D : Nat → Prop) (w : World) : Prop :=
  ∃ v, Blk w g 42 #[v] ∧ w.ownsRow 0 55 2 v d.length (d.flatMap fun q => pairV q.1) ∧ D g ∧ (∀ k, D k → k = g ∨ v.ownBlock = some k) ∧ ∀ k, v.ownBlock = some k → D k
theorem own_there {w : World} {base : Nat} {e : TypeId} {size n : Nat} {v : Value} {xs : List Value} (h : w.ownsRow base e size v n xs) (k : Nat) (hk : v.ownBlock = some k) : ∃ cs, Blk w k e cs := by
  rcases h.2 with ⟨rfl, _⟩ | ⟨g', cap, cur, rfl, _, hh, _⟩
  · simp [Value.ownBlock] at hk
  · have : g' = k := by simpa [Value.ownBlock] using hk
    subst this
    exact ⟨_, hh⟩
theorem pair_each (g : Nat) : EachC 30 #[.pointer (some ⟨g, 0, none⟩)] (fun q => 12 ≤ q.1.length) (PairJ g) where
  fn := range1_fn
  good d D w hJ k hk := by
    obtain ⟨v, hb, hr, _, h3, _⟩ := hJ
    rcases h3 k hk with rfl | e
    · exact ⟨_, _, hb, by decide, by decide⟩
    · obtain ⟨cs, q⟩ := own_there hr k e
      exact ⟨_, _, q, by decide, by decide⟩
  keep d D w w' hJ hk hs := by
    obtain ⟨v, hb, hr, h2, h3, h4⟩ := hJ
    refine ⟨v, Eq.trans (hk g h2) hb, ⟨hr.1, ?_⟩, h2, h3, h4⟩
    rcases hr.2 with h9 | ⟨g', cap, cur, rfl, hg, hh, r⟩
    · exact .inl h9
    · exact .inr ⟨g', cap, cur, rfl, hg, Eq.trans (hk g' (h4 g' rfl)) hh, r⟩
  step d D w key b kA vA kc vc hd hok hJ hk hv lk lv mk hl := by
    obtain ⟨v, hb, hr, h2, h3, h4⟩ := hJ
    have hrlt : ∀ k, v.ownBlock = some k → k < w.heap.size := fun k hk => by
      obtain ⟨cs, q⟩ := own_there hr k hk
      exact q.lt
    refine (range1_any w g v d.length _ hb hr hd kA vA key.length kc b.length vc key hk hl hok lk mk).mono ?_
    rintro e w' ⟨rfl, v', q1, q2, q3, q4⟩
    refine ⟨rfl, fun k => k = g ∨ v'.ownBlock = some k, ⟨v', q1, ?_, .inl rfl, fun k hk => hk, fun k hk => .inr hk⟩, ⟨q3.mono fun k _ hk => ?_, fun k hk => ?_⟩⟩
    · rw [List.length_append, List.flatMap_append]
      simpa using q2
    · rcases hk with rfl | hk
      · exact h2
      · exact h4 k hk
    · rcases hk with rfl | hk
      · exact .inl h2
      · rcases q4 with e | ⟨j, e, hj⟩
        · exact .inl (h4 k (by rw [← e]; exact hk))
        · rw [e] at hk
          injection hk with hk
          exact .inr (by omega)
/-- What Range leaves. -/
def RangeEnd (F : Nat → Prop) (w : World) (gp : Nat) (st : PgS) (l : List (List UInt8 × List UInt8)) (e : Ending) (w' : World) : Prop :=
  ∃ A c, e = .returned (.tuple #[.slice A l.length c, .int .i64 0]) ∧ ∃ F', PgAt w' F' gp st ∧ Ev F w F' w' ∧ w'.ownsRow 0 55 2 (.slice A l.length c) l.length (l.flatMap fun q => pairV q.1) ∧ ∀ k, (Value.slice A l.length c).ownBlock = some k → ¬ F' k
set_option maxRecDepth 100000 in
set_option maxHeartbeats 1000000 in
theorem crange_any (w : World) (F : Nat → Prop) (gc gp : Nat) (ts : Nat → Nat) (st : PgS) (h : PgAt w F gp st) (hc : CatAt w F gc gp ts) (o : Nat) (ho : o ≤ 3) (from_ to_ : List UInt8) (fA tA : Option Addr) (fl fc tl tc : Nat) (hfe : from_.length = fl) (hte : to_.length = tl) (hf : MB F w fA fl from_) (hfl : fl ≤ 100000) (hto : MB F w tA tl to_)
    (L : List CellP) (kv : List (List UInt8 × List UInt8)) (hL : CurL st from_ [] (st.roots (3 + o) : Int) L) (hV : ValsG st L kv) (hok : ∀ q, q ∈ kv → 12 ≤ q.1.length) (hkv : kv.length ≤ 900000) :
    Calls Tryz.prog 9 #[.pointer (some ⟨gc, 0, none⟩), .int .i64 (o : Int), .slice fA fl fc, .slice tA tl tc] w (RangeEnd F w gp st (kv.takeWhile (belowTo to_))) := by
  obtain ⟨g, hg⟩ : ∃ g, g = w.heap.size := ⟨_, rfl⟩
  obtain ⟨w1, hw1⟩ : ∃ w1, w1 = w.alloc (.cells #[.slice none 0 0] 42) := ⟨_, rfl⟩
  have hbg : Blk w1 g 42 #[.slice none 0 0] := blk_new_w w _ _ g w1 hg hw1
  have hE1 : Ev F w F w1 := by rw [hw1]; exact (Ev.refl F w).alloc_ _
  have hP1 : PgAt w1 F gp st := by rw [hw1]; exact h.alloc _
  have hc1 := hc.ev hE1
  have hgF : ¬ F g := fun hx => by have := h.lt _ hx; omega
  have hD1 : Ev F w (FC F (fun j => j = g)) w1 := ⟨hE1.only, fun j hj => by
    rcases hj with hj | hj
    · exact .inl hj
    · have h9 : j = g := hj
      exact .inr (by omega)⟩
  have ht1 : TreeAt w1 (FC F (fun j => j = g)) (ts (3 + o)) gp (3 + o) := ⟨(hc1.tree (3 + o) (by omega)).blk, fun hx => hx.elim (hc1.tree (3 + o) (by omega)).out (fun e => by
    have h9 : ts (3 + o) = g := e
    have := Blk.lt (hc.tree (3 + o) (by omega)).blk
    omega)⟩
  have hea := hide (each_any 30 #[.pointer (some ⟨g, 0, none⟩)] (PairJ g) (fun q => 12 ≤ q.1.length) (pair_each g) w1 F (fun j => j = g) (ts (3 + o)) gp (3 + o) st hP1 ht1 (by omega) from_ to_ fA tA fc tc (by rw [hfe]; exact hf.ev hE1) (by omega) (by rw [hte]; exact hto.ev hD1) ⟨_, hbg, ⟨rfl, .inl ⟨rfl, rfl⟩⟩, rfl, fun k hk => .inl hk, fun k hk => by simp [Value.ownBlock] at hk⟩ (fun j hj hx => hgF (by rw [← hj]; exact hx)) L kv hL hV hok hkv)
  rw [hfe, hte] at hea
  obtain ⟨gt, hgt⟩ : ∃ gt, gt = ts (3 + o) := ⟨_, rfl⟩
  rw [← hgt] at hea
  have ct : w1.cell? ⟨gc, 1 + (3 + o), none⟩ = some (.pointer (some ⟨gt, 0, none⟩)) := by
    rw [hc1.blk.cell, hgt]
    rcases (by omega : o = 0 ∨ o = 1 ∨ o = 2 ∨ o = 3) with rfl | rfl | rfl | rfl <;> rfl
  have hfin : Hid (∀ F3 C3 D3 w3, PgAt w3 F3 gp st → PairJ g (kv.takeWhile (belowTo to_)) D3 w3 → (∀ k, D3 k → C3 k ∧ ¬ F3 k) → Ev (FC F (fun j => j = g)) w1 (FC F3 C3) w3 → ∃ A c, w3.cell? ⟨g, 0, none⟩ = some (.slice A (kv.takeWhile (belowTo to_)).length c) ∧ RangeEnd F w gp st (kv.takeWhile (belowTo to_)) (.returned (.tuple #[.slice A (kv.takeWhile (belowTo to_)).length c, .int .i64 0])) w3) := hide fun F3 C3 D3 w3 q1 q2 q3 q4 => by
    obtain ⟨v, z1, z2, z3, z4, z5⟩ := q2
    obtain ⟨A, c, rfl⟩ := own_form z2
    refine ⟨A, c, z1.cell 0, A, c, rfl, F3, q1, ev_each hg hE1 q4, z2, fun k hk => (q3 k (z5 k hk)).2⟩
  obtain ⟨KL, hKL⟩ : ∃ KL, KL = (kv.takeWhile (belowTo to_)).length := ⟨_, rfl⟩
  replace h := hide h
  replace hc := hide hc
  replace hbg := hide hbg
  replace hE1 := hide hE1
  replace hD1 := hide hD1
  replace hP1 := hide hP1
  replace hc1 := hide hc1
  replace hgF := hide hgF
  replace ht1 := hide ht1
  replace hg := hide hg
  replace hgt := hide hgt
  replace hf := hide hf
  replace hto := hide hto
  replace hL := hide hL
  replace hV := hide hV
  replace hok : Hid _ := hide hok
  replace hkv := hide hkv
  replace hfe := hide hfe
  replace hte := hide hte
  replace hKL := hide hKL
  have ctw : (w.alloc (.cells #[.slice none 0 0] 42)).cell? ⟨gc, 1 + (3 + o), none⟩ = some (.pointer (some ⟨gt, 0, none⟩)) := by rw [← hw1]; exact ct
  replace hw1 := hide hw1
  have hoI : ¬ 3 < (o : Int) := by omega
  have hoI2 : (o : Int) ≤ 3 := by omega
  have hoI3 : ¬ (o : Int) < 0 := by omega
  clear hfl
  go_enter Tryz.func9, Tryz.ntmps9
  go_upto_region 6 with (fail)
  rw [← hw1.out, ← hg.out]
  go_wp2_with fail
  go_at_call 18
  refine hea.out.mono ?_
  rintro e w3 ⟨rfl, F3, C3, D3, hP3, hJ3, hD3, hE3⟩
  obtain ⟨A, c, z0, hend⟩ := hfin.out F3 C3 D3 w3 hP3 hJ3 hD3 hE3
  rw [← hKL.out] at z0 hend
  replace hend := hide hend
  replace hP3 := hide hP3
  replace hJ3 : Hid _ := hide hJ3
  replace hD3 := hide hD3
  replace hE3 := hide hE3
  clear hea hfin
  go_wp2_with fail
  go_ret2
  exact hend.out
end Go.Proofs.YtiffnfgmkkoaeaaGreatDoor
namespace Go.Proofs.YtiffnfgmkkoaeaaGreatDoor
open Go.RowKit Go.Maps
set_option linter.unusedVariables false
def oneN (key b : List UInt8) : NodeP := ⟨true, [⟨key, b, 0, 0⟩], []⟩
/-- A store whose tree k has got its first cell. -/
def put1 (st : PgS) (k : Nat) (key b : List UInt8) : PgS := setRootS (saveS (allocS st) (allocN st) (oneN key b)) k (allocN st)
theorem oneN_right (key b : List UInt8) (h1 : 1 ≤ key.length) (h2 : key.length ≤ 120) (h3 : b.length ≤ 64) : RightP (oneN key b) where
  kidsLeaf := fun _ => rfl
  kidsIn := fun h => by cases h
  many := by show 1 < 65536; decide
  keys := fun c hc => by
    have : c = ⟨key, b, 0, 0⟩ := by simpa [oneN] using hc
    subst this; exact ⟨h1, h2⟩
  rise := ⟨fun d hd => (by cases hd), trivial⟩
  vals := fun c hc => by
    have : c = ⟨key, b, 0, 0⟩ := by simpa [oneN] using hc
    subst this; exact .inl ⟨rfl, rfl, h3⟩
  kidsOk := fun k hk => by cases hk
theorem oneN_size (key b : List UInt8) (h1 : 1 ≤ key.length) (h2 : key.length ≤ 120) (h3 : b.length ≤ 64) : sizeP (oneN key b) ≤ 508 ∧ 7 ≤ sizeP (oneN key b) := by
  simp [sizeP, oneN, cellsZ, cellZ]
  omega
section
variable {st : PgS} {k : Nat} {key b : List UInt8}
theorem put1_save (hf : st.free = 0) (hm : 1 ≤ st.many) (h1 : 1 ≤ key.length) (h2 : key.length ≤ 120) (h3 : b.length ≤ 64) : CanSave (allocS st) (allocN st) (oneN key b) := by
  refine ⟨?_, oneN_right key b h1 h2 h3, (oneN_size key b h1 h2 h3).1⟩
  unfold allocS allocN
  rw [if_pos hf, if_pos hf]
  exact ⟨hm, Nat.lt_succ_self _⟩
theorem put1_free (hf : st.free = 0) : (put1 st k key b).free = 0 := by
  unfold put1 setRootS saveS writeS PgS.upd allocS
  rw [if_pos hf]
  exact hf
theorem put1_many (hf : st.free = 0) : (put1 st k key b).many = st.many + 1 := by
  unfold put1 setRootS saveS writeS PgS.upd allocS
  rw [if_pos hf]
theorem put1_root (hf : st.free = 0) : (put1 st k key b).roots k = st.many := by
  unfold put1 setRootS allocN
  simp [hf]
theorem put1_other (hf : st.free = 0) (j : Nat) (hj : j ≠ k) : (put1 st k key b).roots j = st.roots j := by
  unfold put1 setRootS saveS writeS PgS.upd allocS
  rw [if_pos hf]
  simp [hj, PgS.upd]
theorem put1_page (hf : st.free = 0) (no : Nat) (hn : no ≠ st.many) : (put1 st k key b).page no = st.page no := by
  unfold put1 setRootS saveS writeS PgS.upd allocS allocN
  rw [if_pos hf, if_pos hf]
  simp [hn, PgS.upd]
theorem put1_load (hf : st.free = 0) (hm : 1 ≤ st.many) (h1 : 1 ≤ key.length) (h2 : key.length ≤ 120) (h3 : b.length ≤ 64) : LoadR (put1 st k key b) st.many (oneN key b) := by
  have h := load_saved (put1_save (key := key) (b := b) hf hm h1 h2 h3)
  have e : allocN st = st.many := by unfold allocN; rw [if_pos hf]
  rw [e] at h
  unfold put1
  rw [e]
  exact h
theorem put1_keep (hf : st.free = 0) {no : Nat} {n : NodeP} (h : LoadR st no n) : LoadR (put1 st k key b) no n := by
  have h2 := h.1.2
  refine ⟨⟨h.1.1, by rw [put1_many hf]; omega⟩, ?_⟩
  rw [put1_page hf no (by omega)]
  exact h.2
theorem put1_C (hk : k < 8) (h0 : st.roots k = 0) (hf : st.free = 0) (hm : 1 ≤ st.many) (hm2 : st.many < 60000) (h1 : 1 ≤ key.length) (h2 : key.length ≤ 120) (h3 : b.length ≤ 64) : PutC st k key b (put1 st k key b) := fun w F gt gp kA vA kc vc hP hT hkm hvm => by
  have e : allocN st = st.many := by unfold allocN; rw [if_pos hf]
  have em : (allocS st).many = st.many + 1 := by unfold allocS; rw [if_pos hf]
  exact put_first w F gt gp k st hP hT hk key b kA vA kc vc hkm hvm h1 h2 h3 h0 (.inl ⟨hf, by omega⟩) (by rw [hf]; exact hm) (put1_save hf hm h1 h2 h3) (by rw [e, em]; omega)
end
def path0 : List UInt8 := [97, 46, 122, 105, 112]
def file0 : FileN := ⟨[120], 0, 0, 0, 0, 0, 0⟩
def s1 : PgS := put1 hd1 0 (textsB [str path0]) (leBs 6 [1, 2, 1, 1, 0])
def s2 : PgS := put1 s1 2 (numsB [1]) path0
def sKey (b : Nat) : List UInt8 := orderKey b file0 ++ numsB [1, 0]
def sN : Nat → PgS
  | 0 => put1 s2 1 (numsB [1, 0]) (packF file0)
  | b + 1 => put1 (sN b) (3 + b) (sKey b) []
theorem sKey_ok : ∀ b, b < 4 → 1 ≤ (sKey b).length ∧ (sKey b).length ≤ 120 := by decide
theorem s1_low : s1.free = 0 ∧ s1.many = 2 ∧ ∀ j, j ≠ 0 → s1.roots j = 0 := ⟨put1_free rfl, put1_many rfl, fun j hj => put1_other rfl j hj⟩
theorem s2_low : s2.free = 0 ∧ s2.many = 3 ∧ ∀ j, j ≠ 0 → j ≠ 2 → s2.roots j = 0 := ⟨put1_free s1_low.1, by rw [s2, put1_many s1_low.1, s1_low.2.1], fun j hj h2 => (put1_other s1_low.1 j h2).trans (s1_low.2.2 j hj)⟩
theorem sN_low : ∀ b, (sN b).free = 0 ∧ (sN b).many = 4 + b ∧ ∀ j, 3 + b ≤ j → (sN b).roots j = 0
  | 0 => ⟨put1_free s2_low.1, by rw [sN, put1_many s2_low.1, s2_low.2.1], fun j hj => (put1_other s2_low.1 j (by omega)).trans (s2_low.2.2 j (by omega) (by omega))⟩
  | b + 1 => by
    obtain ⟨h1, h2, h3⟩ := sN_low b
    exact ⟨put1_free h1, by rw [sN, put1_many h1, h2]; omega, fun j hj => (put1_other h1 j (by omega)).trans (h3 j (by omega))⟩
theorem P1_0 : PutC hd1 0 (textsB [str path0]) (leBs 6 [1, 2, 1, 1, 0]) s1 := put1_C (by omega) rfl rfl (by decide) (by decide) (by decide) (by decide) (by decide)
theorem P2_0 : PutC s1 2 (numsB [1]) path0 s2 := put1_C (by omega) (s1_low.2.2 2 (by omega)) s1_low.1 (by rw [s1_low.2.1]; omega) (by rw [s1_low.2.1]; omega) (by decide) (by decide) (by decide)
theorem entered0 : Entered 1 s2 0 [file0] (sN 4) :=
  .cons s2 (sN 4) sN 0 file0 [] (put1_C (by omega) (s2_low.2.2 1 (by omega) (by omega)) s2_low.1 (by rw [s2_low.2.1]; omega) (by rw [s2_low.2.1]; omega) (by decide) (by decide) (by decide))
    (fun b hb => put1_C (by omega) ((sN_low b).2.2 _ (Nat.le_refl _)) (sN_low b).1 (by rw [(sN_low b).2.1]; omega) (by rw [(sN_low b).2.1]; omega) (sKey_ok b hb).1 (sKey_ok b hb).2 (by decide)) (.nil _ 1)
theorem load0 : LoadR (sN 4) 4 (oneN (sKey 0) []) := by
  have h := put1_load (k := 3 + 0) (key := sKey 0) (b := []) (sN_low 0).1 (by rw [(sN_low 0).2.1]; omega) (sKey_ok 0 (by omega)).1 (sKey_ok 0 (by omega)).2 (by decide)
  rw [(sN_low 0).2.1] at h
  exact put1_keep (sN_low 3).1 (put1_keep (sN_low 2).1 (put1_keep (sN_low 1).1 h))
theorem root0 : (sN 4).roots 3 = 4 := by
  have h : (sN 1).roots (3 + 0) = 4 := (put1_root (sN_low 0).1).trans (sN_low 0).2.1
  exact (put1_other (k := 3 + 3) (sN_low 3).1 3 (by omega)).trans ((put1_other (k := 3 + 2) (sN_low 2).1 3 (by omega)).trans ((put1_other (k := 3 + 1) (sN_low 1).1 3 (by omega)).trans h))
theorem cur0 : CurL (sN 4) [] [] ((sN 4).roots (3 + 0) : Int) [⟨sKey 0, [], 0, 0⟩] := by
  refine .inr (.inr ⟨4, 0, [⟨sKey 0, [], 0, 0⟩], [4], by rw [root0], rfl, by omega, ⟨oneN (sKey 0) [], load0, (oneN_size _ _ (sKey_ok 0 (by omega)).1 (sKey_ok 0 (by omega)).2 (by decide)).2, ⟨rfl, rfl, fun c hc => ?_⟩, rfl⟩, (ge_all fun x hx => by
    obtain rfl := List.mem_singleton.1 hx
    show ltK (sKey 0) [] = false
    decide).symm⟩)
  have : c = ⟨sKey 0, [], 0, 0⟩ := by simpa [oneN] using hc
  subst this
  refine ⟨?_, fun t ht => by cases ht⟩
  show ltK (sKey 0) [] = false
  decide
theorem vals0 : ValsG (sN 4) [⟨sKey 0, [], 0, 0⟩] [(sKey 0, [])] := .cons _ _ _ _ (.inl ⟨rfl, rfl⟩) (by decide) (by decide) .nil
theorem pair0 : ([(sKey 0, ([] : List UInt8))].takeWhile (belowTo [])).flatMap (fun q => pairV q.1) = [.int .i64 1, .int .i64 0] := by
  have h1 : val (idB (sKey 0)) = 1 := by decide
  have h2 : val (noB (sKey 0)) = 0 := by decide
  simp [belowTo, pairV, h1, h2]
end Go.Proofs.YtiffnfgmkkoaeaaGreatDoor
namespace Go.Proofs.YtiffnfgmkkoaeaaGreatDoor
open Go.RowKit Go.Maps
set_option linter.unusedVariables false
theorem pair_eq (a b c d : Int) (w : World) : (Op.equalIn 10000 55 (.agg #[.int .i64 a, .int .i64 b]) (.agg #[.int .i64 c, .int .i64 d])).run Tryz.prog w = .ok (a == c && b == d) w := by
  have u3 := Tryz.underlying3
  have a3 := Tryz.isAgg3
  have z3 := Tryz.sizeOf3
  rw [show (10000 : Nat) = 9999 + 1 from rfl, Op.equalIn]
  simp only [Sem.run_bind, run_underlying Tryz.underlying55, Result.andThen_ok]
  simp only [Std.Legacy.Range.forIn_eq_forIn_range', Std.Legacy.Range.size, Nat.sub_zero, Nat.add_sub_cancel, Nat.div_one, List.range'_succ, List.range'_zero, List.forIn_cons, List.forIn_nil]
  go_simp
  by_cases h1 : a = c <;> by_cases h2 : b = d <;> simp [h1, h2]
theorem files0 {w : World} {F : Nat → Prop} {g : Nat} (hb : Blk w g 37 #[.string ⟨#[120]⟩, .int .i64 0, .int .i64 0, .int .u32 0, .int .i64 0, .int .i64 0, .int .i64 0]) (hF : ¬ F g) : FilesAt (Mine F w) w (some ⟨g, 0, none⟩) [file0] := fun i f hf => by
  have hi : i = 0 := by
    have := (List.getElem?_eq_some_iff.1 hf).1
    simp at this; omega
  subst hi
  obtain rfl : file0 = f := by simpa using hf
  exact ⟨_, rfl, ⟨hb.lt, hF⟩, hb.cell 0, hb.cell 1, hb.cell 2, hb.cell 3, hb.cell 4, hb.cell 5, hb.cell 6⟩
theorem pair_cells {w : World} {A : Option Addr} {c : Nat} {x0 x1 : Value} (h : w.ownsRow 0 55 2 (.slice A 1 c) 1 [x0, x1]) : ∃ g, A = some ⟨g, 0, none⟩ ∧ 1 ≤ c ∧ w.cell? ⟨g, 0, none⟩ = some x0 ∧ w.cell? ⟨g, 1, none⟩ = some x1 := by
  rcases h.2 with ⟨_, h0⟩ | ⟨g, cap, cur, e, _, hh, hn, _, hz, ht⟩
  · cases h0
  · injection e with e1 e2 e3
    subst e1 e3
    have hb : Blk w g 55 cur := hh
    have k0 : cur.toList[0]? = some x0 := by
      have := congrArg (fun l : List Value => l[0]?) ht
      simpa [List.getElem?_take] using this
    have k1 : cur.toList[1]? = some x1 := by
      have := congrArg (fun l : List Value => l[1]?) ht
      simpa [List.getElem?_take] using this
    exact ⟨g, rfl, hn, (hb.cell 0).trans (by simpa using k0), (hb.cell 1).trans (by simpa using k1)⟩
/-- What Range tells of the archive of wakes. -/
def RangeOne (F : Nat → Prop) (w : World) (e : Ending) (w' : World) : Prop := ∃ g c F', e = .returned (.tuple #[.slice (some ⟨g, 0, none⟩) 1 c, .int .i64 0]) ∧ 1 ≤ c ∧ w'.cell? ⟨g, 0, none⟩ = some (.int .i64 1) ∧ w'.cell? ⟨g, 1, none⟩ = some (.int .i64 0) ∧ Ev F w F' w'
theorem range_one (w : World) (F : Nat → Prop) (gc gp : Nat) (ts : Nat → Nat) (h : PgAt w F gp (sN 4)) (hc : CatAt w F gc gp ts) :
    Calls Tryz.prog 9 #[.pointer (some ⟨gc, 0, none⟩), .int .i64 0, .slice none 0 0, .slice none 0 0] w (RangeOne F w) := by
  refine (crange_any w F gc gp ts (sN 4) h hc 0 (by omega) [] [] none none 0 0 0 0 rfl rfl (MB.nil _) (by omega) (MB.nil _) _ _ cur0 vals0 (fun q hq => by
    obtain rfl := List.mem_singleton.1 hq
    decide) (by decide)).mono ?_
  rintro e w' ⟨A, c, rfl, F', hP, hE, hown, _⟩
  rw [pair0] at hown
  have hl : ([(sKey 0, ([] : List UInt8))].takeWhile (belowTo [])).length = 1 := by simp [belowTo]
  rw [hl] at hown ⊢
  obtain ⟨g, rfl, h1, h2, h3⟩ := pair_cells hown
  exact ⟨g, c, F', rfl, h1, h2, h3, hE⟩
set_option maxRecDepth 100000 in
set_option maxHeartbeats 1000000 in
theorem cwakes_any (w : World) (hT : Utf8M w) (hml : MlAt w) : Calls Tryz.prog 4 #[] w fun e w' => e = .returned (.bool true) ∧ Below w.heap.size w w' := by
  have hnew : Hid (Calls Tryz.prog 17 #[.int .i64 5000] w (FNewRet w 5000)) := hide (fnew_any w 5000 (by omega) (by omega))
  replace hT := hide hT
  replace hml := hide hml
  go_enter Tryz.func4, Tryz.ntmps4
  go_wp2_with fail
  refine hnew.out.mono ?_
  rintro e w1 ⟨gf, bm, rfl, hfs, hB1⟩
  have hf0 := hfs (dbN catN) (logN catN) (db_ne catN)
  have hf : FSAt w1 0 gf bm 5000 0 (dbN catN) (logN catN) none none := ⟨hf0.st, hf0.mp, hf0.ne, Nat.zero_le _, Nat.zero_le _⟩
  have hg1 := hf0.gB
  have hg2 := hf0.bB
  have hop := hide (copen_new w1 gf bm 5000 0 hf (by omega) (by omega) (by omega))
  replace hfs := hide hfs
  replace hf0 := hide hf0
  replace hf := hide hf
  replace hB1 := hide hB1
  clear hnew
  go_wp2_with fail
  refine hop.out.mono ?_
  rintro e w2 ⟨gc, gp, F, ts, rfl, hc2, hP2, hO2, hFB, hgc⟩
  have hB2 : Below w.heap.size w w2 := hB1.out.trans (Only.below hO2 (fun k hk => by rcases hk with rfl | rfl <;> omega) hB1.out.size)
  have hFw : ∀ k, F k → w.heap.size ≤ k := fun k hk => Nat.le_trans hB1.out.size (hFB k hk)
  obtain ⟨o3, ho3⟩ : ∃ o3, o3 = Obj.cells #[.string ⟨#[120]⟩, .int .i64 0, .int .i64 0, .int .u32 0, .int .i64 0, .int .i64 0, .int .i64 0] 37 := ⟨_, rfl⟩
  have hE3 : Ev F w2 F (w2.alloc o3) := (Ev.refl F w2).alloc_ _
  have hB3 : Below w.heap.size w (w2.alloc o3) := hB2.alloc hB2.size _
  have hgF : ¬ F w2.heap.size := fun hx => by have := hP2.lt _ hx; omega
  have hfiles : FilesAt (Mine F (w2.alloc o3)) (w2.alloc o3) (some ⟨w2.heap.size, 0, none⟩) [file0] := files0 (by rw [ho3]; exact Blk.new w2 37 _) hgF
  have hmF : ¬ F 0 := fun hx => by have := hFw _ hx; have := hml.out.1; omega
  have hadd := hide (cadd_any (w2.alloc o3) F gc gp ts hd1 s1 s2 (sN 4) (hP2.alloc _) (hc2.ev hE3) (hT.out.below hB3) (hml.out.below hB3) hmF path0 1 2 1 (some ⟨w2.heap.size, 0, none⟩) 1 1 [file0] (by decide) (by decide) (by decide) (by decide) hfiles rfl (by omega)
    (fun f hf => by
      obtain rfl := List.mem_singleton.1 hf
      exact ⟨⟨by decide, by decide, by decide, by decide, by decide, by decide, by decide⟩, by decide⟩) (tget_none hd1 0 (by omega) _ rfl) (fun w F gc gp ts hP hc => cnextid_no w F gc gp ts hd1 hP hc rfl) P1_0 P2_0 (by decide) entered0)
  subst ho3
  replace hc2 := hide hc2
  replace hP2 := hide hP2
  replace hO2 := hide hO2
  replace hFB := hide hFB
  replace hFw := hide hFw
  replace hB2 := hide hB2
  replace hB3 := hide hB3
  replace hE3 := hide hE3
  replace hfiles : Hid _ := hide hfiles
  replace hmF := hide hmF
  replace hgF := hide hgF
  clear hop
  go_wp2_with fail
  refine hadd.out.mono ?_
  rintro e w4 ⟨rfl, F4, hP4, hE4⟩
  have hrg := hide (range_one w4 F4 gc gp ts hP4 (hc2.out.ev (hE3.out.trans hE4)))
  have hB4 := hide (hB3.out.trans (Only.below hE4.only hFw.out hB3.out.size))
  have hF4 : Hid (∀ k, F4 k → w.heap.size ≤ k) := hide fun k hk => by
    rcases hE4.grow k hk with h1 | h1
    · exact hFw.out k h1
    · exact Nat.le_trans hB3.out.size h1
  replace hP4 := hide hP4
  replace hE4 := hide hE4
  clear hadd
  go_wp2_with fail
  refine hrg.out.mono ?_
  rintro e w5 ⟨g, c, F5, rfl, h1, h2, h3, hE5⟩
  have hfin : Hid (Below w.heap.size w w5) := hide (hB4.out.trans (Only.below hE5.only hF4.out hB4.out.size))
  replace hE5 := hide hE5
  clear hrg
  have hpe := pair_eq 1 0 1 0
  go_wp2_with fail
  go_ret
  exact ⟨rfl, hfin.out⟩
end Go.Proofs.YtiffnfgmkkoaeaaGreatDoor
