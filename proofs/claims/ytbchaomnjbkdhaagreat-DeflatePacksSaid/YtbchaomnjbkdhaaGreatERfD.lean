/-
  The reference's unpacker in memory; contracts of take, next.
-/
import Derived.Test.YtbchaomnjbkdhaaGreatERfC
import Derived.Test.YtbchaomnjbkdhaaGreatEInfH
namespace Go.Proofs.YtbchaomnjbkdhaaGreat
open Go.RowKit Go.Sort Go.Proofs
set_option linter.unusedVariables false
/-- The reference's state: its bits, how many were taken, what came out; no error. -/
structure StAt (w : World) (B gs : Nat) (vb vo : Value) (L : List Nat) (p : Nat) (out : List UInt8) : Prop where
  st : Blk w gs 52 #[vb, .int .i64 (p : Int), vo, .int .i64 0]
  bi : ON w B vb L.length L
  ou : OB w B vo out.length out
  gB : B ≤ gs
/-- What a call of the state's does: the state and bytes may change, all else stays. -/
structure EffR (B : Nat) (w w' : World) : Prop where
  bel : Below B w w'
  keep : ∀ t, t ≠ 52 → t ≠ 5 → KeepT t w w'
section
variable {w w' w'' : World} {B B' gs : Nat} {vb vo : Value} {L : List Nat} {p : Nat} {out : List UInt8}
theorem EffR.refl (B : Nat) (w : World) : EffR B w w := ⟨Below.refl _ _, fun t _ _ => KeepT.refl t w⟩
theorem EffR.trans (h : EffR B w w') (h' : EffR B w' w'') : EffR B w w'' := ⟨h.bel.trans h'.bel, fun t a b => (h.keep t a b).trans (h'.keep t a b)⟩
theorem EffR.drewN (h : EffR B w w') (n : Nat) : EffR B w (w'.drewN n) := ⟨below_drewN h.bel n, fun t a b => (h.keep t a b).drewN n⟩
theorem EffR.alloc (h : EffR B w w') (hB : B ≤ w.heap.size) (o : Obj) : EffR B w (w'.alloc o) := ⟨h.bel.alloc (Nat.le_trans hB h.bel.size) o, fun t a b => (h.keep t a b).alloc o⟩
theorem EffR.of_below (h : EffR B w w') (hB : B ≤ w.heap.size) (hb : Below w'.heap.size w' w'') : EffR B w w'' :=
  ⟨h.bel.trans (hb.mono (Nat.le_trans hB h.bel.size)), fun t a b => (h.keep t a b).trans fun g cs hk => hk.below hb hk.lt⟩
theorem EffR.size (h : EffR B w w') : w.heap.size ≤ w'.heap.size := h.bel.size
theorem EffR.cs (h : EffR B w w') {base g n c : Nat} {ls : List Nat} (hC : CsAt w base g n c ls) : CsAt w' base g n c ls := hC.keepT (h.keep _ (by decide) (by decide)) (h.keep _ (by decide) (by decide))
theorem EffR.ints (h : EffR B w w') {base n : Nat} {v : Value} {l : List Nat} (hO : ON w base v n l) : ON w' base v n l := OE.keepT hO (h.keep _ (by decide) (by decide))
theorem EffR.blk (h : EffR B w w') {g : Nat} {t : TypeId} {cs : Array Value} (hb : Blk w g t cs) (h1 : t ≠ 52) (h2 : t ≠ 5) : Blk w' g t cs := h.keep t h1 h2 _ _ hb
theorem StAt.only (h : StAt w B gs vb vo L p out) {S : Nat → Prop} (hO : Only S w w') (h1 : ¬ S gs) (h2 : ∀ k, vb.ownBlock = some k → ¬ S k) (h3 : ∀ k, vo.ownBlock = some k → ¬ S k) : StAt w' B gs vb vo L p out :=
  ⟨hO.blk h.st h1, hO.row h.bi h2, hO.row h.ou h3, h.gB⟩
theorem StAt.drewN (h : StAt w B gs vb vo L p out) (n : Nat) : StAt (w.drewN n) B gs vb vo L p out := ⟨h.st, h.bi, h.ou, h.gB⟩
theorem StAt.of_below (h : StAt w B gs vb vo L p out) (hb : Below w.heap.size w w') : StAt w' B gs vb vo L p out :=
  h.only (Only.of_below (S := fun _ => False) hb) (fun h => h) (fun _ _ h => h) (fun _ _ h => h)
theorem StAt.alloc (h : StAt w B gs vb vo L p out) (o : Obj) : StAt (w.alloc o) B gs vb vo L p out := h.of_below ((Below.refl _ _).alloc (Nat.le_refl _) o)
theorem StAt.vbs (h : StAt w B gs vb vo L p out) : vb.ownBlock ≠ some gs := own_blk_ne h.bi h.st (by decide)
theorem StAt.vos (h : StAt w B gs vb vo L p out) : vo.ownBlock ≠ some gs := own_blk_ne h.ou h.st (by decide)
theorem StAt.vbo (h : StAt w B gs vb vo L p out) (k : Nat) (hk : vb.ownBlock = some k) : vo.ownBlock ≠ some k := by
  obtain ⟨cur, hb⟩ := own_blk h.bi hk
  exact own_blk_ne h.ou hb (by decide)
theorem StAt.size (h : StAt w B gs vb vo L p out) : B ≤ w.heap.size := Nat.le_of_lt (Nat.lt_of_le_of_lt h.gB h.st.lt)
/-- So many bits were taken. -/
theorem StAt.move (h : StAt w B gs vb vo L p out) (p' : Nat) : StAt (w.setCell ⟨gs, 1, none⟩ (.int .i64 (p' : Int))) B gs vb vo L p' out := by
  have hO : Only (· = gs) w (w.setCell ⟨gs, 1, none⟩ (.int .i64 (p' : Int))) := (Only.refl (· = gs) w).setCell (p := ⟨gs, 1, none⟩) (fun _ => rfl) _
  exact ⟨h.st.set_ 1 _, hO.row h.bi (fun k hk e => h.vbs (by rw [hk, e])), hO.row h.ou (fun k hk e => h.vos (by rw [hk, e])), h.gB⟩
/-- An error that is none is laid. -/
theorem StAt.err0 (h : StAt w B gs vb vo L p out) : StAt (w.setCell ⟨gs, 3, none⟩ (.int .i64 0)) B gs vb vo L p out := by
  have hO : Only (· = gs) w (w.setCell ⟨gs, 3, none⟩ (.int .i64 0)) := (Only.refl (· = gs) w).setCell (p := ⟨gs, 3, none⟩) (fun _ => rfl) _
  exact ⟨h.st.set_ 3 _, hO.row h.bi (fun k hk e => h.vbs (by rw [hk, e])), hO.row h.ou (fun k hk e => h.vos (by rw [hk, e])), h.gB⟩
theorem StAt.eff (h : StAt w' B gs vb vo L p out) (hE : EffR B w w') (i : Nat) (u : Value) : EffR B w (w'.setCell ⟨gs, i, none⟩ u) :=
  ⟨hE.bel.setCell (p := ⟨gs, i, none⟩) h.gB u, fun t a b => (hE.keep t a b).set_ (p := ⟨gs, i, none⟩) h.st (fun e => a e) u⟩
/-- A store into a block that was not there. -/
theorem EffR.setNew (hE : EffR B w w') (hB : B ≤ w.heap.size) {q : Addr} (hq : w.heap.size ≤ q.block) (u : Value) : EffR B w (w'.setCell q u) :=
  ⟨hE.bel.setCell (p := q) (Nat.le_trans hB hq) u, fun t a b g cs hk => ((hE.keep t a b) g cs hk).far (p := q) (by have := hk.lt; omega) u⟩
theorem StAt.setNew (h : StAt w B gs vb vo L p out) {g i : Nat} {t : TypeId} {cs : Array Value} (hE : Blk w g t cs) (h1 : t ≠ 52) (h3 : t ≠ 5) (hv : vb.ownBlock ≠ some g) (u : Value) : StAt (w.setCell ⟨g, i, none⟩ u) B gs vb vo L p out := by
  refine h.only (S := fun k => k = g) ((Only.refl (· = g) w).setCell (p := ⟨g, i, none⟩) (fun _ => rfl) u) (fun hs => ?_) (fun k hk hs => ?_) (fun k hk hs => ?_)
  · subst hs; exact Blk.ne_ hE h.st h1 rfl
  · subst hs; exact hv hk
  · subst hs; exact own_blk_ne h.ou hE (fun e => h3 e.symm) hk
/-- The bits from a place on. -/
theorem StAt.rn (h : StAt w B gs vb vo L p out) {q n : Nat} (hq : q + n ≤ L.length) (hL : q < L.length) : ∃ g c, vb = .slice (some ⟨g, 0, none⟩) L.length c ∧ L.length ≤ c ∧ c ≤ maxLen ∧ RN w w.heap.size (some ⟨g, q, none⟩) n ((L.drop q).take n) := by
  rcases OE.parts h.bi with ⟨_, h2, _⟩ | ⟨g, cap, rfl, h2, h3, h4⟩
  · omega
  · refine ⟨g, cap, rfl, h3, h4, ?_⟩
    have h5 := (ON.toRN h.bi).drop (k := q) (by omega)
    exact RN.take h5 (by omega)
end
theorem drop_step {L E F : List Nat} {p n : Nat} (h : L.drop p = E ++ F) (hn : E.length = n) : L.drop (p + n) = F := by
  subst hn
  rw [← List.drop_drop, h, List.drop_append_of_le_length (Nat.le_refl _), List.drop_of_length_le (Nat.le_refl _), List.nil_append]
theorem low_step {L F : List Nat} {p n v : Nat} (h : L.drop p = loB n v ++ F) (hv : v < 2 ^ n) : leN ((L.drop p).take n) = v := by
  have e : (loB n v ++ F).take n = loB n v := by
    rw [List.take_append_of_le_length (by rw [loB_len]; exact Nat.le_refl _), List.take_of_length_le (by rw [loB_len]; exact Nat.le_refl _)]
  rw [h, e, leN_loB, Nat.mod_eq_of_lt hv]
theorem drop_len {L E : List Nat} {p : Nat} (h : L.drop p = E) : L.length - p = E.length := by rw [← h, List.length_drop]
/-- What take leaves. -/
def TakeR (w : World) (B gs : Nat) (vb vo : Value) (L : List Nat) (p n : Nat) (out : List UInt8) (e : Ending) (w' : World) : Prop :=
  e = .returned (.int .i64 (leN ((L.drop p).take n) : Int)) ∧ StAt w' B gs vb vo L (p + n) out ∧ EffR B w w'
set_option maxRecDepth 100000 in
set_option maxHeartbeats 1000000 in
theorem take_any (w : World) (B gs : Nat) (vb vo : Value) (L : List Nat) (p n : Nat) (out : List UInt8) (N : Int) (hN : N = (n : Int)) (h : StAt w B gs vb vo L p out) (hp : p + n ≤ L.length) (hpl : p < L.length) (hn : n ≤ 30) (h2 : ∀ b ∈ L, b < 2) (hl : L.length ≤ 100000000) :
    Calls Tryz.prog 22 #[.pointer (some ⟨gs, 0, none⟩), .int .i64 N] w (TakeR w B gs vb vo L p n out) := by
  subst hN
  obtain ⟨g, c, hvb, hc1, hc2, hR⟩ := h.rn hp hpl
  subst hvb
  unfold maxLen at hc2
  have hnum := hide (number_any w (some ⟨g, p, none⟩) n (c - p) _ hR (fun b hb => h2 b (List.mem_of_mem_drop (List.mem_of_mem_take hb))) hn)
  obtain ⟨X, hX⟩ : ∃ X, X = leN ((L.drop p).take n) := ⟨_, rfl⟩
  rw [← hX] at hnum
  have c0 := h.st.cell 0
  have c1 := h.st.cell 1
  have c3 := h.st.cell 3
  have f1 := h.st.frozen 1
  obtain ⟨M, hM⟩ : ∃ M, M = L.length := ⟨_, rfl⟩
  rw [← hM] at hp hpl hl hc1 c0
  replace hX := hide hX
  replace hM := hide hM
  replace h := hide h
  have hcp : ¬ c = p := by omega
  obtain ⟨q, hq⟩ : ∃ q, q = p + n := ⟨_, rfl⟩
  have hwQ : IntKind.i64.wrap ((p : Int) + (n : Int)) = (q : Int) := by rw [IntWalk.i64_in _ (by omega)]; omega
  have hqM : decide (M < q) = false := by rw [decide_eq_false_iff_not]; omega
  have hnum2 : Hid (∀ a, Calls Tryz.prog 49 #[.slice (some ⟨g, p, none⟩) n (c - p)] (w.drewN a) fun e w' => e = .returned (.int .i64 (X : Int)) ∧ w.drewN a = w') := fun a => by
    have hR2 : RN (w.drewN a) (w.drewN a).heap.size (some ⟨g, p, none⟩) n ((L.drop p).take n) := hR
    have := number_any (w.drewN a) (some ⟨g, p, none⟩) n (c - p) _ hR2 (fun b hb => h2 b (List.mem_of_mem_drop (List.mem_of_mem_take hb))) hn
    rw [← hX.out] at this
    exact this
  have hqp : q - p = n := by omega
  have hpq : p ≤ q := by omega
  have hqc : q ≤ c := by omega
  have hpqI : (p : Int) ≤ (q : Int) := by omega
  have hqcI : (q : Int) ≤ (c : Int) := by omega
  have hp0 : (0 : Int) ≤ (p : Int) := by omega
  have hq0 : (0 : Int) ≤ (q : Int) := by omega
  replace hq := hide hq
  clear hR h2 hnum
  go_enter Tryz.func22, Tryz.ntmps22
  go_wp2_with fail
  go_quiet (fail)
  rename Nat => a3
  go_wp2_with fail
  go_quiet (first | (go_at_call 49; exact quiet_left (hnum2.out _)) | (go_at_call 49; exact quiet_add_left (hnum2.out _)))
  have d1 : (w.drewN (a3 + nq)).cell? ⟨gs, 1, none⟩ = some (.int .i64 (p : Int)) := c1
  have g1 : (w.drewN (a3 + nq)).frozen? ⟨gs, 1, none⟩ = false := f1
  have hS := hide ((h.out.drewN (a3 + nq)).move q)
  have hE := hide ((h.out.drewN (a3 + nq)).eff ((EffR.refl B w).drewN (a3 + nq)) 1 (.int .i64 (q : Int)))
  go_wp2_with fail
  go_ret
  have hfin : TakeR w B gs (.slice (some ⟨g, 0, none⟩) L.length c) vo L p n out (.returned (.int .i64 (X : Int))) ((w.drewN (a3 + nq)).setCell ⟨gs, 1, none⟩ (.int .i64 (q : Int))) := ⟨by rw [hX.out], by rw [← hq.out]; exact hS.out, hE.out⟩
  exact hfin
/-- What next leaves. -/
def NextR (w : World) (B gs : Nat) (vb vo : Value) (L : List Nat) (p s k : Nat) (out : List UInt8) (e : Ending) (w' : World) : Prop :=
  e = .returned (.int .i64 (s : Int)) ∧ StAt w' B gs vb vo L (p + k) out ∧ EffR B w w'
def NextC (w wx : World) (B gs : Nat) (vb vo : Value) (L : List Nat) (p s k : Nat) (out : List UInt8) (v6 : Value) : Prop :=
  ∃ g6, v6 = .pointer (some ⟨g6, 0, none⟩) ∧ Blk wx g6 123 #[.int .i64 (s : Int), .int .i64 (k : Int), .int .i64 0] ∧ StAt wx B gs vb vo L p out ∧ EffR B w wx
section
variable {w w1 w2 : World} {B gs : Nat} {vb vo : Value} {L : List Nat} {p s k : Nat} {out : List UInt8}
theorem NextC.a (hB : B ≤ w.heap.size) (h : StAt w1 B gs vb vo L p out) (hE : EffR B w w1) (hX : Below (w1.drewN 1).heap.size (w1.drewN 1) w2) :
    NextC w (w2.alloc (.cells #[.int .i64 (s : Int), .int .i64 (k : Int), .int .i64 0] 123)) B gs vb vo L p s k out (.pointer (some ⟨w2.heap.size, 0, none⟩)) :=
  ⟨_, rfl, Blk.new _ _ _, ((h.drewN 1).of_below hX).alloc _, ((hE.drewN 1).of_below hB hX).alloc hB _⟩
theorem NextC.b (hB : B ≤ w.heap.size) (h : StAt w1 B gs vb vo L p out) (hE : EffR B w w1) (hX : Below ((w1.drewN 1).alloc (.cells #[.int .i64 0, .int .i64 0, .int .i64 0] 123)).heap.size ((w1.drewN 1).alloc (.cells #[.int .i64 0, .int .i64 0, .int .i64 0] 123)) w2) :
    NextC w (((w2.setCell ⟨w1.heap.size, 0, none⟩ (.int .i64 (s : Int))).setCell ⟨w1.heap.size, 1, none⟩ (.int .i64 (k : Int))).setCell ⟨w1.heap.size, 2, none⟩ (.int .i64 0)) B gs vb vo L p s k out (.pointer (some ⟨w1.heap.size, 0, none⟩)) := by
  have hN0 : Blk ((w1.drewN 1).alloc (.cells #[.int .i64 0, .int .i64 0, .int .i64 0] 123)) w1.heap.size 123 #[.int .i64 0, .int .i64 0, .int .i64 0] := Blk.new (w1.drewN 1) _ _
  have hN := hN0.below hX hN0.lt
  have hv : vb.ownBlock ≠ some w1.heap.size := fun e => by have := (OE.lt h.bi _ e).2; omega
  have hq := hE.size
  have hS := ((h.drewN 1).alloc (.cells #[.int .i64 0, .int .i64 0, .int .i64 0] 123)).of_below hX
  have hF := ((hE.drewN 1).alloc hB (.cells #[.int .i64 0, .int .i64 0, .int .i64 0] 123)).of_below hB hX
  have hN1 := hN.set_ 0 (.int .i64 (s : Int))
  have hN2 := hN1.set_ 1 (.int .i64 (k : Int))
  have hN3 := hN2.set_ 2 (.int .i64 0)
  exact ⟨_, rfl, hN3, ((hS.setNew hN (by decide) (by decide) hv _).setNew hN1 (by decide) (by decide) hv _).setNew hN2 (by decide) (by decide) hv _,
    ((hF.setNew hB (q := ⟨w1.heap.size, 0, none⟩) hq _).setNew hB (q := ⟨w1.heap.size, 1, none⟩) hq _).setNew hB (q := ⟨w1.heap.size, 2, none⟩) hq _⟩
end
set_option maxRecDepth 100000 in
set_option maxHeartbeats 2000000 in
theorem nextR_any (w : World) (B gs : Nat) (vb vo : Value) (L : List Nat) (p : Nat) (out : List UInt8) (base g n c f s : Nat) (ls r : List Nat) (h : StAt w B gs vb vo L p out) (hC : CsAt w base g n c ls) (hok : codeOk ls) (hn : n ≤ 320) (hs : s < n) (hs1 : 1 ≤ ls.getD s 0) (he : L.drop p = encS ls s ++ r) (hl : L.length ≤ 100000000) :
    Calls Tryz.prog 51 #[.pointer (some ⟨gs, 0, none⟩), .agg #[.slice (some ⟨g, 0, none⟩) n c, .int .i64 (f : Int)]] w (NextR w B gs vb vo L p s (ls.getD s 0) out) := by
  have hdl := drop_len he
  rw [List.length_append, encS_len] at hdl
  have h15 : ls.getD s 0 ≤ 15 := by
    have htl : s < ls.length := by have := hC.len; omega
    rw [List.getD_eq_getElem?_getD, List.getElem?_eq_getElem htl]
    exact hok.1 _ (List.getElem_mem htl)
  obtain ⟨T, hT⟩ : ∃ T, T = min (p + 15) L.length := ⟨_, rfl⟩
  obtain ⟨q, hq⟩ : ∃ q, q = T - p := ⟨_, rfl⟩
  have hTL : T ≤ L.length := by omega
  have hpT : p + ls.getD s 0 ≤ T := by omega
  have hqe : (L.drop p).take q = encS ls s ++ r.take (q - ls.getD s 0) := by
    rw [he, List.take_append, encS_len, List.take_of_length_le (by rw [encS_len]; omega)]
  obtain ⟨gb, cb, hvb, hc1, hc2, hR⟩ := h.rn (q := p) (n := q) (by omega) (by omega)
  subst hvb
  unfold maxLen at hc2
  have hnx := hide (fun (wz : World) (hz : Below w.heap.size w wz) => next5_any wz base g n c f ls (some ⟨gb, p, none⟩) q (cb - p) s _ _ (hC.below hz) hok hn ((hR.below hz).more hz.size) (by omega) hs hs1 hqe)
  unfold Next5 at hnx
  obtain ⟨K, hK⟩ : ∃ K, K = ls.getD s 0 := ⟨_, rfl⟩
  rw [← hK] at hnx hs1 h15 hpT ⊢
  have hS1 := hide (h.alloc (.cells #[.slice (some ⟨g, 0, none⟩) n c, .int .i64 (f : Int)] 93))
  have hE1 := hide ((EffR.refl B w).alloc h.size (.cells #[.slice (some ⟨g, 0, none⟩) n c, .int .i64 (f : Int)] 93))
  have hx1 := (Blk.new w 93 #[.slice (some ⟨g, 0, none⟩) n c, .int .i64 (f : Int)])
  have hb1 := hide ((Below.refl w.heap.size w).alloc (Nat.le_refl _) (.cells #[.slice (some ⟨g, 0, none⟩) n c, .int .i64 (f : Int)] 93))
  obtain ⟨w1, hw1⟩ : ∃ w1, w1 = w.alloc (.cells #[.slice (some ⟨g, 0, none⟩) n c, .int .i64 (f : Int)] 93) := ⟨_, rfl⟩
  obtain ⟨gx, hgx⟩ : ∃ gx, gx = w.heap.size := ⟨_, rfl⟩
  rw [← hw1] at hS1 hE1 hx1 hb1
  rw [← hgx] at hx1
  have c0 := hS1.out.st.cell 0
  have c1 := hS1.out.st.cell 1
  have c3 := hS1.out.st.cell 3
  have x0 := hx1.cell 0
  have x1 := hx1.cell 1
  obtain ⟨M, hM⟩ : ∃ M, M = L.length := ⟨_, rfl⟩
  rw [← hM] at hTL hT hl hc1 c0
  have hsz := hide h.size
  have hw1s := hide hb1.out.size
  replace h := hide h
  replace hM := hide hM
  replace hK := hide hK
  replace hx1 := hide hx1
  replace hw1 := hide hw1
  replace hgx := hide hgx
  clear he hqe hdl hR hC hok
  have hcp : ¬ cb = p := by omega
  have hqp : T - p = q := by omega
  have hpT2 : p ≤ T := by omega
  have hTc : T ≤ cb := by omega
  have hpTI : (p : Int) ≤ (T : Int) := by omega
  have hTcI : (T : Int) ≤ (cb : Int) := by omega
  have hp0 : (0 : Int) ≤ (p : Int) := by omega
  have hT0 : (0 : Int) ≤ (T : Int) := by omega
  have hcase : (T = p + 15 ∧ T ≤ M) ∨ (T = M ∧ M < p + 15) := by omega
  replace hT := hide hT
  replace hq := hide hq
  go_enter Tryz.func51, Tryz.ntmps51
  go_upto_region 1 with (fail)
  rw [← hw1.out, ← hgx.out]
  have hw1b : Below w.heap.size w w1 := hb1.out
  have hnA : Hid (Calls Tryz.prog 73 #[.agg #[.slice (some ⟨g, 0, none⟩) n c, .int .i64 (f : Int)], .slice (some ⟨gb, p, none⟩) q (cb - p)] (w1.drewN 1) fun e w' => e = .returned (.agg #[.int .i64 (s : Int), .int .i64 (K : Int), .int .i64 0]) ∧ Below (w1.drewN 1).heap.size (w1.drewN 1) w') := hnx.out _ (below_drewN hw1b 1)
  have hnB : Hid (Calls Tryz.prog 73 #[.agg #[.slice (some ⟨g, 0, none⟩) n c, .int .i64 (f : Int)], .slice (some ⟨gb, p, none⟩) q (cb - p)] ((w1.drewN 1).alloc (.cells #[.int .i64 0, .int .i64 0, .int .i64 0] 123)) fun e w' => e = .returned (.agg #[.int .i64 (s : Int), .int .i64 (K : Int), .int .i64 0]) ∧ Below ((w1.drewN 1).alloc (.cells #[.int .i64 0, .int .i64 0, .int .i64 0] 123)).heap.size ((w1.drewN 1).alloc (.cells #[.int .i64 0, .int .i64 0, .int .i64 0] 123)) w') := hnx.out _ ((below_drewN hw1b 1).alloc hw1s.out _)
  have hNw : Blk ((w1.drewN 1).alloc (.cells #[.int .i64 0, .int .i64 0, .int .i64 0] 123)) w1.heap.size 123 #[.int .i64 0, .int .i64 0, .int .i64 0] := Blk.new (w1.drewN 1) _ _
  replace hNw := hide hNw
  have hxa := hx1.out.alloc (.cells #[.int .i64 0, .int .i64 0, .int .i64 0] 123)
  have hsa := hS1.out.st.alloc (.cells #[.int .i64 0, .int .i64 0, .int .i64 0] 123)
  have c0a : (w1.alloc (.cells #[.int .i64 0, .int .i64 0, .int .i64 0] 123)).cell? ⟨gs, 0, none⟩ = some (.slice (some ⟨gb, 0, none⟩) M cb) := by rw [hM.out]; exact hsa.cell 0
  have c1a := hsa.cell 1
  have x0a := hxa.cell 0
  have x1a := hxa.cell 1
  replace hxa := hide hxa
  replace hsa := hide hsa
  have hkeep : Hid (∀ wz, Below w1.heap.size w1 wz → (wz.cell? ⟨gs, 0, none⟩ = some (.slice (some ⟨gb, 0, none⟩) M cb) ∧ wz.cell? ⟨gs, 1, none⟩ = some (.int .i64 (p : Int)) ∧ wz.cell? ⟨gx, 0, none⟩ = some (.slice (some ⟨g, 0, none⟩) n c) ∧ wz.cell? ⟨gx, 1, none⟩ = some (.int .i64 (f : Int)))) := fun wz hz =>
    ⟨(hz.cell (p := ⟨gs, 0, none⟩) hS1.out.st.lt).trans c0, (hz.cell (p := ⟨gs, 1, none⟩) hS1.out.st.lt).trans c1, (hz.cell (p := ⟨gx, 0, none⟩) hx1.out.lt).trans x0, (hz.cell (p := ⟨gx, 1, none⟩) hx1.out.lt).trans x1⟩
  rcases hcase with ⟨h1, h2⟩ | ⟨h1, h2⟩
  · have hI : (p : Int) + 15 = (T : Int) := by omega
    have hD : decide (M < T) = false := by rw [decide_eq_false_iff_not]; omega
    have hD2 : ¬ (M : Int) < (T : Int) := by omega
    replace h1 := hide h1
    go_upto_region 6 with (fail)
    go_cut [6] (fun v6 wx => NextC w wx B gs (.slice (some ⟨gb, 0, none⟩) L.length cb) vo L p s K out v6)
    case first =>
      go_region_held3 (fun w' => w'.cell? ⟨gs, 0, none⟩ = some (.slice (some ⟨gb, 0, none⟩) M cb) ∧ w'.cell? ⟨gs, 1, none⟩ = some (.int .i64 (p : Int)) ∧ w'.cell? ⟨gx, 0, none⟩ = some (.slice (some ⟨g, 0, none⟩) n c) ∧ w'.cell? ⟨gx, 1, none⟩ = some (.int .i64 (f : Int))) (first | exact ⟨c0, c1, x0, x1⟩ | exact ⟨c0a, c1a, x0a, x1a⟩ | exact hkeep.out _ hbA | exact hkeep.out _ (hbA.alloc hbA.size _) | exact hkeep.out _ (((hbA.setCell (p := ⟨w1.heap.size, 0, none⟩) (Nat.le_refl _) _).setCell (p := ⟨w1.heap.size, 1, none⟩) (Nat.le_refl _) _).setCell (p := ⟨w1.heap.size, 2, none⟩) (Nat.le_refl _) _)) ((go_at_call 73; first
        | (refine hnA.out.mono ?_; rintro e w2 ⟨rfl, hX⟩; have hbA : Below w1.heap.size w1 w2 := (below_drewN (Below.refl _ w1) 1).trans hX; replace hX := hide hX)
        | (refine hnB.out.mono ?_; rintro e w2 ⟨rfl, hX⟩; have hbA : Below w1.heap.size w1 w2 := ((below_drewN (Below.refl _ w1) 1).alloc (Nat.le_refl _) _).trans (hX.mono (by simp)); have hN2 := hNw.out.below hX hNw.out.lt; have y0 := hN2.cell 0; have y1 := hN2.cell 1; have y2 := hN2.cell 2; have z0 := hN2.frozen 0; have z1 := hN2.frozen 1; have z2 := hN2.frozen 2; replace hN2 := hide hN2; replace hX := hide hX)))
      all_goals go_wp2_with fail
      all_goals go_meet
      all_goals
        first
        | exact NextC.a hsz.out hS1.out hE1.out hX.out
        | exact NextC.b hsz.out hS1.out hE1.out hX.out
    case rest =>
      obtain ⟨g6, rfl, hG, hS2, hE2⟩ := hcut
      clear hnA hnB hNw hxa hsa c0a c1a x0a x1a hkeep x0 x1 c0 c1 c3
      have y0 := hG.cell 0
      have y1 := hG.cell 1
      have y2 := hG.cell 2
      have t1 := hS2.st.cell 1
      have t3 := hS2.st.cell 3
      have f1 := hS2.st.frozen 1
      have f3 := hS2.st.frozen 3
      have hS3 := hS2.err0
      have hE3 := hS2.eff hE2 3 (.int .i64 0)
      have hG3 := hG.far (p := ⟨gs, 3, none⟩) (Blk.ne_ hG hS2.st (by decide)) (.int .i64 0)
      have u1 := hS3.st.cell 1
      have q1 := hS3.st.frozen 1
      have v0 := hG3.cell 0
      have v1 := hG3.cell 1
      replace hG := hide hG
      replace hS2 := hide hS2
      replace hE2 := hide hE2
      replace hS3 := hide hS3
      replace hE3 := hide hE3
      replace hG3 := hide hG3
      go_upto_region 8 with (fail)
      obtain ⟨w4, hw4⟩ : ∃ w4, w4 = wc.setCell ⟨gs, 3, none⟩ (.int .i64 0) := ⟨_, rfl⟩
      rw [← hw4] at hS3 hE3 hG3 u1 q1 v0 v1 ⊢
      clear hw4 y0 y1 y2 t1 t3 f1 f3 hS2 hE2 hG
      obtain ⟨Q, hQ⟩ : ∃ Q, Q = p + K := ⟨_, rfl⟩
      have hwk : IntKind.i64.wrap ((p : Int) + (K : Int)) = (Q : Int) := by rw [IntWalk.i64_in _ (by omega)]; omega
      replace hQ := hide hQ
      go_still_tail 9, (by kernel_rfl)
      change wpList _ _ _ _ _ w4.drew
      have hS4 : Hid (StAt w4.drew B gs (.slice (some ⟨gb, 0, none⟩) L.length cb) vo L p out) := hS3.out.drewN 1
      have hE4 : Hid (EffR B w w4.drew) := hE3.out.drewN 1
      have hG4 : Hid (Blk w4.drew g6 123 #[.int .i64 (s : Int), .int .i64 (K : Int), .int .i64 0]) := hG3.out.drewN 1
      clear v0 v1 u1 q1
      generalize w4.drew = w5 at *
      have hG5 := hide (hG4.out.far (p := ⟨gs, 1, none⟩) (Blk.ne_ hG4.out hS4.out.st (by decide)) (.int .i64 (Q : Int)))
      have hS5 := hide (hS4.out.move Q)
      have hE5 := hide (hS4.out.eff hE4.out 1 (.int .i64 (Q : Int)))
      have v5 := hG5.out.cell 0
      have q1 := hS4.out.st.frozen 1
      have u1 := hS4.out.st.cell 1
      go_wp2_with fail
      go_ret
      exact ⟨rfl, by rw [← hQ.out]; exact hS5.out, hE5.out⟩
  · subst h1
    obtain ⟨U, hU⟩ : ∃ U, U = p + 15 := ⟨_, rfl⟩
    have hI : (p : Int) + 15 = (U : Int) := by omega
    have hD : decide (T < U) = true := by rw [decide_eq_true_iff]; omega
    have hD2 : (T : Int) < (U : Int) := by omega
    replace hU := hide hU
    go_upto_region 6 with (fail)
    go_cut [6] (fun v6 wx => NextC w wx B gs (.slice (some ⟨gb, 0, none⟩) L.length cb) vo L p s K out v6)
    case first =>
      go_region_held3 (fun w' => w'.cell? ⟨gs, 0, none⟩ = some (.slice (some ⟨gb, 0, none⟩) T cb) ∧ w'.cell? ⟨gs, 1, none⟩ = some (.int .i64 (p : Int)) ∧ w'.cell? ⟨gx, 0, none⟩ = some (.slice (some ⟨g, 0, none⟩) n c) ∧ w'.cell? ⟨gx, 1, none⟩ = some (.int .i64 (f : Int))) (first | exact ⟨c0, c1, x0, x1⟩ | exact ⟨c0a, c1a, x0a, x1a⟩ | exact hkeep.out _ hbA | exact hkeep.out _ (hbA.alloc hbA.size _) | exact hkeep.out _ (((hbA.setCell (p := ⟨w1.heap.size, 0, none⟩) (Nat.le_refl _) _).setCell (p := ⟨w1.heap.size, 1, none⟩) (Nat.le_refl _) _).setCell (p := ⟨w1.heap.size, 2, none⟩) (Nat.le_refl _) _)) ((go_at_call 73; first
        | (refine hnA.out.mono ?_; rintro e w2 ⟨rfl, hX⟩; have hbA : Below w1.heap.size w1 w2 := (below_drewN (Below.refl _ w1) 1).trans hX; replace hX := hide hX)
        | (refine hnB.out.mono ?_; rintro e w2 ⟨rfl, hX⟩; have hbA : Below w1.heap.size w1 w2 := ((below_drewN (Below.refl _ w1) 1).alloc (Nat.le_refl _) _).trans (hX.mono (by simp)); have hN2 := hNw.out.below hX hNw.out.lt; have y0 := hN2.cell 0; have y1 := hN2.cell 1; have y2 := hN2.cell 2; have z0 := hN2.frozen 0; have z1 := hN2.frozen 1; have z2 := hN2.frozen 2; replace hN2 := hide hN2; replace hX := hide hX)))
      all_goals go_wp2_with fail
      all_goals go_meet
      all_goals
        first
        | exact NextC.a hsz.out hS1.out hE1.out hX.out
        | exact NextC.b hsz.out hS1.out hE1.out hX.out
    case rest =>
      obtain ⟨g6, rfl, hG, hS2, hE2⟩ := hcut
      clear hnA hnB hNw hxa hsa c0a c1a x0a x1a hkeep x0 x1 c0 c1 c3
      have y0 := hG.cell 0
      have y1 := hG.cell 1
      have y2 := hG.cell 2
      have t1 := hS2.st.cell 1
      have t3 := hS2.st.cell 3
      have f1 := hS2.st.frozen 1
      have f3 := hS2.st.frozen 3
      have hS3 := hS2.err0
      have hE3 := hS2.eff hE2 3 (.int .i64 0)
      have hG3 := hG.far (p := ⟨gs, 3, none⟩) (Blk.ne_ hG hS2.st (by decide)) (.int .i64 0)
      have u1 := hS3.st.cell 1
      have q1 := hS3.st.frozen 1
      have v0 := hG3.cell 0
      have v1 := hG3.cell 1
      replace hG := hide hG
      replace hS2 := hide hS2
      replace hE2 := hide hE2
      replace hS3 := hide hS3
      replace hE3 := hide hE3
      replace hG3 := hide hG3
      go_upto_region 8 with (fail)
      obtain ⟨w4, hw4⟩ : ∃ w4, w4 = wc.setCell ⟨gs, 3, none⟩ (.int .i64 0) := ⟨_, rfl⟩
      rw [← hw4] at hS3 hE3 hG3 u1 q1 v0 v1 ⊢
      clear hw4 y0 y1 y2 t1 t3 f1 f3 hS2 hE2 hG
      obtain ⟨Q, hQ⟩ : ∃ Q, Q = p + K := ⟨_, rfl⟩
      have hwk : IntKind.i64.wrap ((p : Int) + (K : Int)) = (Q : Int) := by rw [IntWalk.i64_in _ (by omega)]; omega
      replace hQ := hide hQ
      go_still_tail 9, (by kernel_rfl)
      change wpList _ _ _ _ _ w4.drew
      have hS4 : Hid (StAt w4.drew B gs (.slice (some ⟨gb, 0, none⟩) L.length cb) vo L p out) := hS3.out.drewN 1
      have hE4 : Hid (EffR B w w4.drew) := hE3.out.drewN 1
      have hG4 : Hid (Blk w4.drew g6 123 #[.int .i64 (s : Int), .int .i64 (K : Int), .int .i64 0]) := hG3.out.drewN 1
      clear v0 v1 u1 q1
      generalize w4.drew = w5 at *
      have hG5 := hide (hG4.out.far (p := ⟨gs, 1, none⟩) (Blk.ne_ hG4.out hS4.out.st (by decide)) (.int .i64 (Q : Int)))
      have hS5 := hide (hS4.out.move Q)
      have hE5 := hide (hS4.out.eff hE4.out 1 (.int .i64 (Q : Int)))
      have v5 := hG5.out.cell 0
      have q1 := hS4.out.st.frozen 1
      have u1 := hS4.out.st.cell 1
      go_wp2_with fail
      go_ret
      exact ⟨rfl, by rw [← hQ.out]; exact hS5.out, hE5.out⟩
end Go.Proofs.YtbchaomnjbkdhaaGreat
