/-
  Contract of Put's closure at a new key.
-/
import Derived.Test.YthohbbaglceppaaGreatDoorUNodeW
namespace Go.Proofs.YthohbbaglceppaaGreatDoor
open Go.RowKit
set_option linter.unusedVariables false
/-- How a change of a node ends. -/
def OpEnd (F : Nat → Prop) (w : World) (gp gn B0 : Nat) (st1 : PgS) (n1 : NodeP) (e : Ending) (w' : World) : Prop :=
  e = .returned (.int .i64 0) ∧ ∃ F' B cv kv, PgAt w' F' gp st1 ∧ Only (fun k => F k ∨ B0 ≤ k) w w' ∧ (∀ k, F' k → F k ∨ w.heap.size ≤ k) ∧ NodeW F' w' B cv kv n1 ∧ Blk w' gn 101 #[.bool n1.leaf, cv, kv]
theorem own_lt {w : World} {B size m k : Nat} {e : TypeId} {v : Value} {xs : List Value} (h : w.ownsRow B e size v m xs) (hk : v.ownBlock = some k) : B ≤ k ∧ k < w.heap.size := by
  rcases h.2 with ⟨e, _⟩ | ⟨g, cap, cur, e, hg, hh, _⟩
  · rw [e] at hk; simp [Value.ownBlock] at hk
  · rw [e] at hk
    have : g = k := by simpa [Value.ownBlock] using hk
    subst this
    exact ⟨hg, Blk.lt (show Blk w g _ cur from hh)⟩
theorem own_form {w : World} {B size m : Nat} {e : TypeId} {v : Value} {xs : List Value} (h : w.ownsRow B e size v m xs) : ∃ A c, v = .slice A m c := by
  rcases h.2 with ⟨rfl, h0⟩ | ⟨g, cap, cur, rfl, _⟩
  · rw [h0]; exact ⟨none, 0, rfl⟩
  · exact ⟨_, _, rfl⟩
set_option maxRecDepth 100000 in
set_option maxHeartbeats 1000000 in
theorem put1_new (w : World) (F : Nat → Prop) (gp : Nat) (st : PgS) (hP : PgAt w F gp st) (gn gc gt B B0 i : Nat) (cv kv : Value) (n : NodeP) (c : CellP) (x0 x1 x2 x3 : Value) (hn : NodeW F w B cv kv n) (hb : Blk w gn 101 #[.bool n.leaf, cv, kv])
    (hc : Blk w gc 95 #[x0, x1, x2, x3]) (hv : CellV (byteOf F w) w [x0, x1, x2, x3] c) (hi : i ≤ n.cells.length) (hlen : n.cells.length ≤ 100000) (hBn : B0 ≤ gn) (hBB : B0 ≤ B) (hBs : B ≤ w.heap.size) (hFn : ¬ F gn) :
    Calls Tryz.prog 52 #[.pointer (some ⟨gn, 0, none⟩), .int .i64 (i : Int), .bool false, .pointer (some ⟨gc, 0, none⟩), .pointer (some ⟨gt, 0, none⟩)] w (OpEnd F w gp gn B0 st ⟨n.leaf, insAt n.cells i c, n.kids⟩) := by
  obtain ⟨rows, hr1, hr2, hr3⟩ := hn.rows
  have h1x := hr3.one hr1
  have h1 : ∀ u ∈ [x0, x1, x2, x3], u.oneCell' = true := by
    obtain ⟨kA, kc, vA, vc, e, _⟩ := hv
    injection e with e0 e; injection e with e1 e; injection e with e2 e; injection e with e3 e
    subst e0; subst e1; subst e2; subst e3
    intro u hu; simp at hu; rcases hu with rfl | rfl | rfl | rfl <;> rfl
  obtain ⟨o, ho⟩ : ∃ o, o = Obj.cells #[x0, x1, x2, x3] 95 (0, 0) := ⟨_, rfl⟩
  have hgn := Blk.lt hb
  have hgc := Blk.lt hc
  have hO1 : Only (fun _ => False) w (w.alloc o).drew := ((Only.refl _ w).alloc o).drew
  have hr2a := hO1.row hr2 (fun _ _ h => h)
  have hr3a : CellsW F (w.alloc o).drew rows n.cells := hr3.keepW hO1 (fun _ _ h => h.elim)
  have hva := hv.keepW hO1 (fun _ _ h => h.elim)
  have hba : Blk (w.alloc o).drew gn 101 #[.bool n.leaf, cv, kv] := hO1.blk hb (fun h => h)
  have hna : NodeW F (w.alloc o).drew B cv kv n := ⟨⟨rows, hr1, hr2a, hr3a⟩, hO1.row hn.kids (fun _ _ h => h), hn.above⟩
  have hPa : PgAt (w.alloc o).drew F gp st := (hP.alloc o).drew
  have hca : Blk (w.alloc o).drew w.heap.size 95 #[x0, x1, x2, x3] := by rw [ho]; exact Blk.new w 95 #[x0, x1, x2, x3]
  have hins := hide (ins_any (w.alloc o).drew B cv n.cells.length i rows.flatten hr2a hi (by simp [World.drew]; omega) h1x w.heap.size (.inr fun e => by have := (own_lt hr2 e).2; omega) x0 x1 x2 x3 h1 hca hlen)
  have hfin : Hid (∀ v' w3, w3.ownsRow B 95 4 v' (n.cells.length + 1) (insCells rows.flatten i [x0, x1, x2, x3]) → (w.alloc o).drew.grownBy w3 cv.ownBlock → Blk w3 gn 101 #[.bool n.leaf, cv, kv] → OpEnd F w gp gn B0 st ⟨n.leaf, insAt n.cells i c, n.kids⟩ (.returned (.int .i64 0)) (w3.setCell ⟨gn, 1, none⟩ v')) := hide (by
    intro v' w3 hown hg hb3
    have hO2 : Only (fun k => cv.ownBlock = some k) (w.alloc o).drew w3 := (Only.refl _ _).grown hg (fun k hk _ => hk)
    have hO3 : Only (fun k => k = gn) w3 (w3.setCell ⟨gn, 1, none⟩ v') := (Only.refl (fun k => k = gn) w3).setCell (p := ⟨gn, 1, none⟩) (fun _ => rfl) v'
    have hW := hna.ins hg hi rows hr1 hr2a hr3a hva hown
    refine ⟨rfl, F, B, v', kv, ?_, ?_, fun k hk => .inl hk, hW.only hO3 fun k hk => by subst hk; exact ⟨_, _, hb3, by decide, by decide, by decide⟩, hb3.set_ 1 v'⟩
    · exact (hPa.grown hg (fun k hk hf => by have := hn.above k hf; have := (own_lt hr2 hk).1; omega)).set_ hFn v'
    · exact ((hO1.mono (fun _ _ h => h.elim)).trans hO2 (fun k hk h => .inr (by have := (own_lt hr2 h).1; omega))).trans hO3 (fun k hk h => .inr (by subst h; exact hBn)))
  have hbg : Hid (∀ w3, (w.alloc o).drew.grownBy w3 cv.ownBlock → Blk w3 gn 101 #[.bool n.leaf, cv, kv]) := hide fun w3 hg => hba.grown hg fun e => own_blk_ne hr2a hba (by decide) e.symm
  obtain ⟨lf, hlf⟩ : ∃ lf, lf = n.leaf := ⟨_, rfl⟩
  obtain ⟨N, hN⟩ : ∃ N, N = n.cells.length := ⟨_, rfl⟩
  obtain ⟨Q, hQ⟩ : ∃ Q, Q = OpEnd F w gp gn B0 st ⟨n.leaf, insAt n.cells i c, n.kids⟩ := ⟨_, rfl⟩
  rw [← hQ] at hfin ⊢
  replace hQ := hide hQ
  rw [← hN] at hins
  rw [← hlf, ← hN] at hfin
  rw [← hlf] at hbg hb
  have hsl : ∃ A cap, cv = .slice A N cap := by
    rw [hN]
    rcases hr2.2 with ⟨rfl, h0⟩ | ⟨g, cap, cur, rfl, _⟩
    · rw [h0]; exact ⟨none, 0, rfl⟩
    · exact ⟨_, _, rfl⟩
  obtain ⟨A, cap, rfl⟩ := hsl
  obtain ⟨row, hrow⟩ : ∃ row, row = (Value.slice A N cap).ownBlock := ⟨_, rfl⟩
  rw [← hrow] at hins hfin hbg
  have n1 : w.cell? ⟨gn, 1, none⟩ = some (.slice A N cap) := hb.cell 1
  have n1' : (w.alloc o).cell? ⟨gn, 1, none⟩ = some (.slice A N cap) := (hb.alloc o).cell 1
  have c0 : w.cell? ⟨gc, 0, none⟩ = some x0 := hc.cell 0
  have c1 : w.cell? ⟨gc, 1, none⟩ = some x1 := hc.cell 1
  have c2 : w.cell? ⟨gc, 2, none⟩ = some x2 := hc.cell 2
  have c3 : w.cell? ⟨gc, 3, none⟩ = some x3 := hc.cell 3
  subst ho
  replace hP := hide hP
  replace hn := hide hn
  replace hb := hide hb
  replace hc := hide hc
  replace hv := hide hv
  replace hr2 := hide hr2
  replace hr3 := hide hr3
  replace hO1 := hide hO1
  replace hr2a := hide hr2a
  replace hr3a := hide hr3a
  replace hva := hide hva
  replace hba := hide hba
  replace hna := hide hna
  replace hPa := hide hPa
  replace hca := hide hca
  replace hlf := hide hlf
  replace hN := hide hN
  replace hrow := hide hrow
  replace hr1 := hide hr1
  replace hi := hide hi
  replace hlen := hide hlen
  clear h1 h1x
  go_enter Tryz.func52, Tryz.ntmps52
  go_wp2_with fail
  go_region_law (go_simp; go_at_call 53; refine hins.out.mono ?_; rintro e w3 ⟨v', rfl, hown, hg⟩; have hb3 := hbg.out w3 hg; (have hdone := hide (hfin.out v' w3 hown hg hb3)); (obtain ⟨A', cap', rfl⟩ := own_form hown); have m1 := hb3.cell 1; have f1 := hb3.frozen 1; replace hb3 := hide hb3; replace hown := hide hown; replace hg := hide hg)
  all_goals
    go_wp2_with fail
    exact hdone.out
end Go.Proofs.YthohbbaglceppaaGreatDoor
namespace Go.Proofs.YthohbbaglceppaaGreatDoor
open Go.RowKit
set_option linter.unusedVariables false
/-- The pieces that a call returns. -/
def PiecesAt (F : Nat → Prop) (w : World) (gl no : Nat) (m : Nat) (l : Option (List UInt8 × Nat)) : Prop :=
  match l with
  | none => m = 1 ∧ Blk w gl 144 #[.slice none 0 0, .int .i64 (no : Int)]
  | some (key, kno) => m = 2 ∧ ∃ kA kc, Blk w gl 144 #[.slice none 0 0, .int .i64 (no : Int), .slice kA key.length kc, .int .i64 (kno : Int)] ∧ MB F w kA key.length key ∧ key.length ≤ kc
def LayEnd (F : Nat → Prop) (w : World) (gp no : Nat) (st' : PgS) (l : Option (List UInt8 × Nat)) (e : Ending) (w' : World) : Prop :=
  ∃ F' gl m, e = .returned (.tuple #[.slice (some ⟨gl, 0, none⟩) m m, .int .i64 0]) ∧ PgAt w' F' gp st' ∧ Ev F w F' w' ∧ w.heap.size ≤ gl ∧ ¬ F' gl ∧ PiecesAt F' w' gl no m l
set_option maxRecDepth 100000 in
set_option maxHeartbeats 1000000 in
theorem lay_fits (w : World) (F : Nat → Prop) (gt gp k : Nat) (st : PgS) (h : PgAt w F gp st) (ht : TreeAt w F gt gp k) (no : Nat) (n : NodeP) (v : Value) (hn : NodeM (Mine F w) w v n) (hc : CanSave st no n) :
    Calls Tryz.prog 90 #[.pointer (some ⟨gt, 0, none⟩), .int .i64 (no : Int), v] w (LayEnd F w gp no (saveS st no n) none) := by
  obtain ⟨A, c, B, d, rfl⟩ := hn.box
  obtain ⟨lf, hlf⟩ : ∃ lf, lf = n.leaf := ⟨_, rfl⟩
  obtain ⟨M, hM⟩ : ∃ M, M = n.cells.length := ⟨_, rfl⟩
  obtain ⟨K, hK⟩ : ∃ K, K = n.kids.length := ⟨_, rfl⟩
  rw [← hlf, ← hM, ← hK] at hn ⊢
  have hE0 : Ev F w F (w.alloc (.cells #[.bool lf, .slice A M c, .slice B K d] 101)) := (Ev.refl F w).alloc_ _
  have hb0 := Blk.new w 101 #[.bool lf, .slice A M c, .slice B K d]
  have hFw := h.lt
  have hnF : ¬ F w.heap.size := fun hf => by have := hFw _ hf; omega
  have hgt := Blk.lt ht.blk
  have hP1 := h.alloc (.cells #[.bool lf, .slice A M c, .slice B K d] 101)
  have ht1 := ht.ev hE0
  have hn1 := hn.ev hE0
  have hsz := hide (size_any _ _ n (hn1.old fun k hk => hk.1) hc.2.1 (by have := hc.2.2; omega))
  have hszI : Hid ((sizeP n : Int) ≤ 508) := hide (by have := hc.2.2; omega)
  obtain ⟨Z, hZ⟩ : ∃ Z, Z = sizeP n := ⟨_, rfl⟩
  rw [← hZ] at hsz hszI
  have hZI : (Z : Int) ≤ 508 := hszI.out
  replace h := hide h
  replace ht := hide ht
  replace hn := hide hn
  replace hlf := hide hlf
  replace hM := hide hM
  replace hK := hide hK
  replace hZ := hide hZ
  replace hP1 := hide hP1
  replace hE0 := hide hE0
  replace hc := hide hc
  replace hb0 := hide hb0
  replace ht1 := hide ht1
  replace hn1 := hide hn1
  replace hFw := hide hFw
  have c0 := hb0.out.cell 0
  have c1 := hb0.out.cell 1
  have c2 := hb0.out.cell 2
  go_enter Tryz.func90, Tryz.ntmps90
  go_wp2_with (first | (go_at_call 61; refine hsz.out.mono ?_; rintro e w2 ⟨rfl, hB2⟩; have hb2 := hb0.out.below hB2 (Blk.lt hb0.out); have hba := hb2.alloc (.cells #[.slice none 0 0, .int .i64 (no : Int)] 144); have d0 := hb2.cell 0; have d1 := hb2.cell 1; have d2 := hb2.cell 2; have a0 := hba.cell 0; have a1 := hba.cell 1; have a2 := hba.cell 2; replace hB2 := hide hB2; replace hb2 := hide hb2; replace hba := hide hba))
  have hE2 : Ev F w F (w2.alloc (.cells #[.slice none 0 0, .int .i64 (no : Int)] 144)) := (hE0.out.below hB2.out).alloc_ _
  have hsv := hide (save_any _ F gt gp k st ((hP1.out.below hB2.out).alloc _) (ht.out.ev hE2) no n _ (hn.out.ev hE2) hc.out)
  have hg2 : Hid (w.heap.size ≤ w2.heap.size ∧ ¬ F w2.heap.size ∧ Blk (w2.alloc (.cells #[.slice none 0 0, .int .i64 (no : Int)] 144)) w2.heap.size 144 #[.slice none 0 0, .int .i64 (no : Int)]) := hide (by
    have h1 := hE0.out.size
    have h2 := hB2.out.size
    have h3 : w.heap.size ≤ w2.heap.size := by omega
    exact ⟨h3, fun hf => by have := hFw.out _ hf; omega, Blk.new w2 144 _⟩)
  replace hE2 := hide hE2
  go_at_call 88
  refine hsv.out.mono ?_
  rintro e w3 ⟨rfl, F', hP', hE'⟩
  have hdone : Hid (LayEnd F w gp no (saveS st no n) none (.returned (.tuple #[.slice (some ⟨w2.heap.size, 0, none⟩) 1 1, .int .i64 0])) w3) := hide ⟨F', w2.heap.size, 1, rfl, hP', hE2.out.trans hE', hg2.out.1, hE'.new hg2.out.2.1 (by simp), rfl, hE'.blk hg2.out.2.2 hg2.out.2.1⟩
  replace hP' := hide hP'
  replace hE' := hide hE'
  go_wp2_with fail
  go_ret2
  exact hdone.out
end Go.Proofs.YthohbbaglceppaaGreatDoor
namespace Go.Proofs.YthohbbaglceppaaGreatDoor
open Go.RowKit
set_option linter.unusedVariables false
set_option maxHeartbeats 400000 in
theorem tclone_any (A : Option Addr) (n c : Nat) (xs : List UInt8) (w : World) (ha : RB w w.heap.size A n xs) (hn : n ≤ 140737488351232) :
    Calls Tryz.prog 76 #[.slice A n c] w (RetB w xs) := by
  have hnil := fun wx => Lib.run_eql_slice_nil (P := Tryz.prog) wx 37 5 A n c 0 0 Tryz.underlying37
  rcases A with _ | ad
  · have hn0 : n = 0 := by
      rcases Nat.eq_zero_or_pos n with h0 | h0
      · exact h0
      · obtain ⟨ad, h, _⟩ := ha.2 h0; cases h
    subst hn0
    have hx : xs = [] := List.eq_nil_of_length_eq_zero ha.len
    subst hx
    clear ha
    go_enter Tryz.func76, Tryz.ntmps76
    go_wp2
    go_ret
    exact RetB.mk (OB.nil _ _) (Below.refl _ _)
  · have HA := hide ha
    clear ha
    go_enter Tryz.func76, Tryz.ntmps76
    go_wp2_with (at_builtin; refine wpList_app_b rfl (.tmp 5) (.tmp 6) rfl w.heap.size _ 0 [] (OB.empty w (Nat.le_refl _)) rfl w.heap.size (some ad) n c xs rfl (HA.out.alloc (Nat.le_refl _) _) (by omega) (by simp) ?_; intro v1 w1 hown1 hb1 hg1 hat1)
    go_ret
    exact RetB.mk hown1 (((Below.refl _ _).alloc (Nat.le_refl _) _).trans hb1)
def CellEnd (w : World) (c : CellP) (e : Ending) (w' : World) : Prop :=
  ∃ x0 x1, e = .returned (.tuple #[.agg #[x0, x1, .int .i64 (c.over : Int), .int .i64 (c.long : Int)], .int .i64 0]) ∧ CellV (G5 w.heap.size w') w' [x0, x1, .int .i64 (c.over : Int), .int .i64 (c.long : Int)] c ∧ Below w.heap.size w w'
theorem G5.below {B : Nat} {w w' : World} (hb : Below w.heap.size w w') {k : Nat} (h : G5 B w k) : G5 B w' k ∧ w'.heap[k]? = w.heap[k]? := by
  obtain ⟨h1, cs, h2⟩ := h
  have := hb.block k (Blk.lt h2)
  exact ⟨⟨h1, cs, this.trans h2⟩, this⟩
set_option maxRecDepth 100000 in
set_option maxHeartbeats 1000000 in
theorem cell_short (w : World) (gt : Nat) (kA vA : Option Addr) (L M kc vc : Nat) (key b : List UInt8) (hk : RB w w.heap.size kA L key) (hv : RB w w.heap.size vA M b) (hL : L ≤ 1000000) (hM : M ≤ 64) :
    Calls Tryz.prog 48 #[.pointer (some ⟨gt, 0, none⟩), .slice kA L kc, .slice vA M vc] w (CellEnd w ⟨key, b, 0, 0⟩) := by
  have hMI : (M : Int) ≤ 64 := by omega
  have hlk : Hid (key.length = L) := hide hk.len
  have hlb : Hid (b.length = M) := hide hv.len
  have hB0 := (Below.refl w.heap.size w).alloc (Nat.le_refl _) (.cells #[.slice none 0 0, .slice none 0 0, .int .i64 0, .int .i64 0] 95)
  have hb0 := Blk.new w 95 #[.slice none 0 0, .slice none 0 0, .int .i64 0, .int .i64 0]
  have hcl := hide (tclone_any kA L kc key (w.alloc (.cells #[.slice none 0 0, .slice none 0 0, .int .i64 0, .int .i64 0] 95)) (hk.allocs _) (by omega))
  replace hk := hide hk
  replace hv := hide hv
  replace hB0 := hide hB0
  replace hb0 := hide hb0
  go_enter Tryz.func48, Tryz.ntmps48
  go_wp2_with fail
  go_at_call 76
  refine hcl.out.mono ?_
  rintro e w2 ⟨v2, rfl, hO2, hB2⟩
  rw [hlk.out] at hO2
  obtain ⟨A2, c2, rfl, hr2, _, hc2, _⟩ := hO2.form
  have hb2 := hb0.out.below hB2 (Blk.lt hb0.out)
  replace hO2 := hide hO2
  replace hB2 := hide hB2
  replace hr2 := hide hr2
  replace hc2 := hide hc2
  have z0 := hb2.cell 0
  have z1 := hb2.cell 1
  have z2 := hb2.cell 2
  have z3 := hb2.cell 3
  replace hb2 := hide hb2
  go_wp2_with fail
  have hBw2 : Below w.heap.size w w2 := hB0.out.trans (hB2.out.mono (by simp))
  have hlt : w.heap.size < w2.heap.size := by have := hB2.out.size; simp at this; omega
  have hne : ¬ w2.heap.size = w.heap.size := by omega
  have hne2 : ¬ w.heap.size = w2.heap.size := by omega
  have hcl2 := hide (tclone_any vA M vc b (w2.alloc (.cells #[.slice A2 L c2, .slice none 0 0, .int .i64 0, .int .i64 0] 95)) (((RB.below hv.out hBw2).more hBw2.size).allocs _) (by omega))
  replace hBw2 := hide hBw2
  refine hcl2.out.mono ?_
  rintro e w4 ⟨v4, rfl, hO4, hB4⟩
  rw [hlb.out] at hO4
  obtain ⟨A4, c4, rfl, hr4, _, hc4, _⟩ := hO4.form
  have hbx := (Blk.new w2 95 #[.slice A2 L c2, .slice none 0 0, .int .i64 0, .int .i64 0]).below hB4 (by simp)
  have hbz := (hb2.out.alloc (.cells #[.slice A2 L c2, .slice none 0 0, .int .i64 0, .int .i64 0] 95)).below hB4 (by simp; omega)
  have hBw4 : Below w.heap.size w w4 := (hBw2.out.trans ((Below.refl w.heap.size w2).alloc (by omega) (.cells #[.slice A2 L c2, .slice none 0 0, .int .i64 0, .int .i64 0] 95))).trans (hB4.mono (by simp; omega))
  have hfin : Hid (∀ W, Only (fun k => k = w.heap.size ∨ k = w2.heap.size) w4 W → CellEnd w ⟨key, b, 0, 0⟩ (.returned (.tuple #[.agg #[.slice A2 L c2, .slice A4 M c4, .int .i64 0, .int .i64 0], .int .i64 0])) W) := hide (by
    intro W hO
    have hT : ∀ j, (∃ cs, Blk w4 j 5 cs) → W.heap[j]? = w4.heap[j]? := fun j hj => by
      obtain ⟨cs, hj⟩ := hj
      refine hO.block j (Blk.lt hj) ?_
      rintro (rfl | rfl)
      · exact Blk.ne_ hj hbz (by decide) rfl
      · exact Blk.ne_ hj hbx (by decide) rfl
    have h2 : Rd (G5 w.heap.size w2) w2 1 A2 L (bv key) := by
      have := hO2.out.rd5
      exact Rd.keep this fun k hk => ⟨⟨by have := hk.1; simp at this; omega, hk.2⟩, rfl⟩
    have h2' : Rd (G5 w.heap.size w4) w4 1 A2 L (bv key) := h2.keep fun k hk => by
      obtain ⟨q1, cs, q2⟩ := hk
      have q3 := (q2.alloc (.cells #[.slice A2 L c2, .slice none 0 0, .int .i64 0, .int .i64 0] 95)).below hB4 (by have := Blk.lt q2; simp; omega)
      exact ⟨⟨q1, cs, q3⟩, Eq.trans q3 q2.symm⟩
    have h4 : Rd (G5 w.heap.size w4) w4 1 A4 M (bv b) := by
      have := hO4.rd5
      exact Rd.keep this fun k hk => ⟨⟨by have := hk.1; simp at this; omega, hk.2⟩, rfl⟩
    have hk : ∀ k, G5 w.heap.size w4 k → G5 w.heap.size W k ∧ W.heap[k]? = w4.heap[k]? := fun k hk => by
      have := hT k hk.2
      exact ⟨⟨hk.1, hk.2.choose, this.trans hk.2.choose_spec⟩, this⟩
    refine ⟨.slice A2 L c2, .slice A4 M c4, rfl, ⟨A2, c2, A4, c4, ?_, ?_, ?_, ?_, ?_⟩, ?_⟩
    · show [Value.slice A2 L c2, Value.slice A4 M c4, _, _] = [Value.slice A2 key.length c2, Value.slice A4 b.length c4, _, _]
      rw [hlk.out, hlb.out]
    · show key.length ≤ c2
      rw [hlk.out]; exact hc2.out
    · show b.length ≤ c4
      rw [hlb.out]; exact hc4
    · show Rd _ W 1 A2 key.length _
      rw [hlk.out]; exact h2'.keep hk
    · show Rd _ W 1 A4 b.length _
      rw [hlb.out]; exact h4.keep hk
    · exact hBw4.trans (hO.below (fun k hk => by rcases hk with rfl | rfl <;> omega) hBw4.size))
  have x0 := hbx.cell 0
  have x1 := hbx.cell 1
  have x2 := hbx.cell 2
  have x3 := hbx.cell 3
  have f1 := hbx.frozen 1
  have y0 := hbz.cell 0
  have y1 := hbz.cell 1
  have y2 := hbz.cell 2
  have y3 := hbz.cell 3
  have g0 := hbz.frozen 0
  have g1 := hbz.frozen 1
  have g2 := hbz.frozen 2
  have g3 := hbz.frozen 3
  replace hbx := hide hbx
  replace hbz := hide hbz
  replace hO4 := hide hO4
  replace hB4 := hide hB4
  replace hr4 := hide hr4
  replace hc4 := hide hc4
  replace hBw4 := hide hBw4
  go_wp2_with fail
  have hO : Only (fun k => k = w.heap.size ∨ k = w2.heap.size) w4 (((((w4.setCell ⟨w2.heap.size, 1, none⟩ (.slice A4 M c4)).setCell ⟨w.heap.size, 0, none⟩ (.slice A2 L c2)).setCell ⟨w.heap.size, 1, none⟩ (.slice A4 M c4)).setCell ⟨w.heap.size, 2, none⟩ (.int .i64 0)).setCell ⟨w.heap.size, 3, none⟩ (.int .i64 0)) :=
    (((((Only.refl _ w4).setCell (p := ⟨w2.heap.size, 1, none⟩) (fun _ => Or.inr rfl) _).setCell (p := ⟨w.heap.size, 0, none⟩) (fun _ => Or.inl rfl) _).setCell (p := ⟨w.heap.size, 1, none⟩) (fun _ => Or.inl rfl) _).setCell (p := ⟨w.heap.size, 2, none⟩) (fun _ => Or.inl rfl) _).setCell (p := ⟨w.heap.size, 3, none⟩) (fun _ => Or.inl rfl) _
  refine bodyPost_ret (v := .tuple #[.agg #[.slice A2 L c2, .slice A4 M c4, .int .i64 0, .int .i64 0], .int .i64 0]) ?_ rfl (hfin.out _ hO)
  have hz := Blk.far hbz.out (p := ⟨w2.heap.size, 1, none⟩) hne2 (.slice A4 M c4)
  have hbf := (((hz.set_ 0 (.slice A2 L c2)).set_ 1 (.slice A4 M c4)).set_ 2 (.int .i64 0)).set_ 3 (.int .i64 0)
  obtain ⟨Wf, hWf⟩ : ∃ Wf, Wf = (((((w4.setCell ⟨w2.heap.size, 1, none⟩ (.slice A4 M c4)).setCell ⟨w.heap.size, 0, none⟩ (.slice A2 L c2)).setCell ⟨w.heap.size, 1, none⟩ (.slice A4 M c4)).setCell ⟨w.heap.size, 2, none⟩ (.int .i64 0)).setCell ⟨w.heap.size, 3, none⟩ (.int .i64 0)) := ⟨_, rfl⟩
  rw [← hWf] at hbf ⊢
  have j0 : Wf.cell? ⟨w.heap.size, 0, none⟩ = some (.slice A2 L c2) := hbf.cell 0
  have j1 : Wf.cell? ⟨w.heap.size, 1, none⟩ = some (.slice A4 M c4) := hbf.cell 1
  have j2 : Wf.cell? ⟨w.heap.size, 2, none⟩ = some (.int .i64 0) := hbf.cell 2
  have j3 : Wf.cell? ⟨w.heap.size, 3, none⟩ = some (.int .i64 0) := hbf.cell 3
  simp [results, Tryz.results48, go_sem, j0, j1, j2, j3]
end Go.Proofs.YthohbbaglceppaaGreatDoor
