/-
  Contract of plan.New.
-/
import Derived.Test.YtnnjcedlomfhoaaGreatDoorHPlanI
import Derived.Test.YtnnjcedlomfhoaaGreatDoorHPlanQ
import Derived.Test.YtnnjcedlomfhoaaGreatDoorHForm
namespace Go.Proofs.YtnnjcedlomfhoaaGreatDoor
open Go.RowKit
set_option linter.unusedVariables false
/-- What the walks of layer 26 lean on. -/
def Tabs26 (w : World) : Prop := MaxL w ∧ Utf8T w ∧ TurnT w
theorem Tabs26.below {w w' : World} (h : Tabs26 w) (hb : Below w.heap.size w w') : Tabs26 w' := ⟨h.1.below hb, h.2.1.below hb, h.2.2.below hb h.2.2.2⟩
theorem join_any (w : World) (kd : Int) (p q : PlanV) (hp' : fineP 1000 p) (hq' : fineP 1000 q) (A B : Option Addr) (n k m d : Nat) (hp : SpansAt w A n p.spans) (hq : SpansAt w B m q.spans) (hnk : n ≤ k) (hmd : m ≤ d) :
    Calls Tryz.prog 20 #[.int .i64 kd, .agg #[.slice A n k, .bool p.all, .complex .f64 p.cost.re p.cost.im], .agg #[.slice B m d, .bool q.all, .complex .f64 q.cost.re q.cost.im]] w (PlanRet w (joinP kd p q)) := by
  by_cases hk : kd = 2
  · subst hk
    exact joinAnd_any w p q A B n k m d hp hq hnk hmd
  cases ha : (p.all || q.all) with
  | true => exact joinAll_any w kd hk p q A B n k m d hp hq ha
  | false =>
    have ha' : p.all = false ∧ q.all = false := by simpa using ha
    exact joinOr_any w kd hk p q hp'.2 hq'.2 A B n k m d hp hq hnk hmd (by rw [hp.1]; exact hp'.1) (by rw [hq.1]; exact hq'.1) ha'.1 ha'.2
def PlansR (w : World) (n : Nat) (ps : List PlanV) (cs : Array Value) : Prop :=
  cs.size = 3 * n ∧ ∀ i, i < ps.length → ∃ A m c, cs[i * 3]? = some (.slice A m c) ∧ cs[i * 3 + 1]? = some (.bool (ps.getD i wholeP).all) ∧ cs[i * 3 + 2]? = some (.complex .f64 (ps.getD i wholeP).cost.re (ps.getD i wholeP).cost.im) ∧ m ≤ c ∧ SpansAt w A m (ps.getD i wholeP).spans
theorem PlansR.below {w w' : World} {n : Nat} {ps : List PlanV} {cs : Array Value} (h : PlansR w n ps cs) (hb : Below w.heap.size w w') : PlansR w' n ps cs :=
  ⟨h.1, fun i hi => by
    obtain ⟨A, m, c, h1, h2, h3, h4, h5⟩ := h.2 i hi
    exact ⟨A, m, c, h1, h2, h3, h4, h5.below hb⟩⟩
theorem set3_size (cs : Array Value) (i : Nat) (u0 u1 u2 : Value) : (((cs.setIfInBounds i u0).setIfInBounds (i + 1) u1).setIfInBounds (i + 2) u2).size = cs.size := by simp
theorem set3_other (cs : Array Value) (i j : Nat) (u0 u1 u2 : Value) (h0 : j ≠ i) (h1 : j ≠ i + 1) (h2 : j ≠ i + 2) : (((cs.setIfInBounds i u0).setIfInBounds (i + 1) u1).setIfInBounds (i + 2) u2)[j]? = cs[j]? := by
  rw [Array.getElem?_setIfInBounds_ne (by omega), Array.getElem?_setIfInBounds_ne (by omega), Array.getElem?_setIfInBounds_ne (by omega)]
theorem set3_at (cs : Array Value) (i : Nat) (u0 u1 u2 : Value) (h : i + 2 < cs.size) :
    (((cs.setIfInBounds i u0).setIfInBounds (i + 1) u1).setIfInBounds (i + 2) u2)[i]? = some u0 ∧ (((cs.setIfInBounds i u0).setIfInBounds (i + 1) u1).setIfInBounds (i + 2) u2)[i + 1]? = some u1 ∧ (((cs.setIfInBounds i u0).setIfInBounds (i + 1) u1).setIfInBounds (i + 2) u2)[i + 2]? = some u2 := by
  refine ⟨?_, ?_, ?_⟩
  · rw [Array.getElem?_setIfInBounds_ne (by omega), Array.getElem?_setIfInBounds_ne (by omega), Array.getElem?_setIfInBounds_self_of_lt (by omega)]
  · rw [Array.getElem?_setIfInBounds_ne (by omega), Array.getElem?_setIfInBounds_self_of_lt (by simp; omega)]
  · rw [Array.getElem?_setIfInBounds_self_of_lt (by simp; omega)]
/-- One plan more. -/
theorem PlansR.step {w : World} {g n k : Nat} {ps : List PlanV} {cs : Array Value} {p : PlanV} {A : Option Addr} {m c : Nat} (h : PlansR w n ps cs) (hB : Blk w g 28 cs) (hk : ps.length = k) (hkn : k < n) (hS : SpansAt w A m p.spans) (hmc : m ≤ c) :
    Blk (((w.setCell ⟨g, k * 3, none⟩ (.slice A m c)).setCell ⟨g, k * 3 + 1, none⟩ (.bool p.all)).setCell ⟨g, k * 3 + 2, none⟩ (.complex .f64 p.cost.re p.cost.im)) g 28 (((cs.setIfInBounds (k * 3) (.slice A m c)).setIfInBounds (k * 3 + 1) (.bool p.all)).setIfInBounds (k * 3 + 2) (.complex .f64 p.cost.re p.cost.im)) ∧
    PlansR (((w.setCell ⟨g, k * 3, none⟩ (.slice A m c)).setCell ⟨g, k * 3 + 1, none⟩ (.bool p.all)).setCell ⟨g, k * 3 + 2, none⟩ (.complex .f64 p.cost.re p.cost.im)) n (ps ++ [p]) (((cs.setIfInBounds (k * 3) (.slice A m c)).setIfInBounds (k * 3 + 1) (.bool p.all)).setIfInBounds (k * 3 + 2) (.complex .f64 p.cost.re p.cost.im)) := by
  have hB1 := hB.set_ (k * 3) (.slice A m c)
  have hB2 := hB1.set_ (k * 3 + 1) (.bool p.all)
  have hs : ∀ {A' : Option Addr} {m' : Nat} {l : List SpanV}, SpansAt w A' m' l → SpansAt (((w.setCell ⟨g, k * 3, none⟩ (.slice A m c)).setCell ⟨g, k * 3 + 1, none⟩ (.bool p.all)).setCell ⟨g, k * 3 + 2, none⟩ (.complex .f64 p.cost.re p.cost.im)) A' m' l :=
    fun hS => ((hS.set_ (i := k * 3) hB (by decide) (by decide) _).set_ (i := k * 3 + 1) hB1 (by decide) (by decide) _).set_ (i := k * 3 + 2) hB2 (by decide) (by decide) _
  refine ⟨hB2.set_ (k * 3 + 2) _, ?_, fun i hi => ?_⟩
  · rw [set3_size]; exact h.1
  · have hsz := h.1
    by_cases hik : i = k
    · subst hik
      obtain ⟨e0, e1, e2⟩ := set3_at cs (i * 3) (.slice A m c) (.bool p.all) (.complex .f64 p.cost.re p.cost.im) (by omega)
      have eg : (ps ++ [p]).getD i wholeP = p := by rw [List.getD_eq_getElem?_getD, List.getElem?_append_right (by omega), hk, Nat.sub_self]; rfl
      rw [eg]
      exact ⟨A, m, c, e0, e1, e2, hmc, hs hS⟩
    · rw [List.length_append, List.length_singleton] at hi
      obtain ⟨A', m', c', h1, h2, h3, h4, h5⟩ := h.2 i (by omega)
      have eg : (ps ++ [p]).getD i wholeP = ps.getD i wholeP := by rw [List.getD_eq_getElem?_getD, List.getD_eq_getElem?_getD, List.getElem?_append_left (by omega)]
      rw [eg, set3_other _ _ _ _ _ _ (by omega) (by omega) (by omega), set3_other _ _ _ _ _ _ (by omega) (by omega) (by omega), set3_other _ _ _ _ _ _ (by omega) (by omega) (by omega)]
      exact ⟨A', m', c', h1, h2, h3, h4, hs h5⟩
theorem flat3_get : ∀ (vs : List (List Value)) (k : Nat) (cs : List Value) (j : Nat), (∀ (i : Nat) (c : List Value), vs[i]? = some c → c.length = 3) → vs[k]? = some cs → j < 3 → vs.flatten[k * 3 + j]? = cs[j]?
  | [], k, cs, j, _, h, _ => by simp at h
  | v :: vs, 0, cs, j, h3, h, hj => by
    have e : v = cs := by simpa using h
    subst e
    have hl := h3 0 v rfl
    rw [List.flatten_cons, Nat.zero_mul, Nat.zero_add, List.getElem?_append_left (by omega)]
  | v :: vs, k + 1, cs, j, h3, h, hj => by
    have hl := h3 0 v rfl
    rw [List.flatten_cons, List.getElem?_append_right (by omega), hl, show (k + 1) * 3 + j - 3 = k * 3 + j by omega]
    exact flat3_get vs k cs j (fun i c hc => h3 (i + 1) c (by simpa using hc)) (by simpa using h) hj
theorem SpansAt.elem {w : World} {A : Option Addr} {n k : Nat} {l : List SpanV} (h : SpansAt w A n l) (hk : k < n) (hl : k < l.length) :
    ∃ ad fA fn fc tA tn tc, A = some ad ∧ (ad.add (k * 3)).block < w.heap.size ∧ w.cell? (ad.add (k * 3)) = some (.int .i64 (l[k]).by_) ∧ w.cell? ⟨(ad.add (k * 3)).block, (ad.add (k * 3)).off + 1, none⟩ = some (.slice fA fn fc) ∧ w.cell? ⟨(ad.add (k * 3)).block, (ad.add (k * 3)).off + 2, none⟩ = some (.slice tA tn tc) ∧ RBT w fA fn (l[k]).from_ ∧ RBT w tA tn (l[k]).to_ := by
  obtain ⟨h0, hT, vs, h1, h2, h3⟩ := h
  have hv : vs[k]? = some vs[k] := List.getElem?_eq_getElem (by omega)
  obtain ⟨fA, fn, fc, tA, tn, tc, e, r1, r2⟩ := h3 k _ _ hv (List.getElem?_eq_getElem hl)
  rw [e] at hv
  have hall : ∀ (i : Nat) (c : List Value), vs[i]? = some c → c.length = 3 := fun i c hc => by
    have hi := (List.getElem?_eq_some_iff.1 hc).1
    obtain ⟨_, _, _, _, _, _, e', -, -⟩ := h3 i c _ hc (List.getElem?_eq_getElem (by omega))
    rw [e']; rfl
  obtain ⟨ad, rfl, hab, hc⟩ := h2.2 (by omega)
  have g0 := hc (k * 3 + 0) _ ((flat3_get vs k _ 0 hall hv (by decide)).trans rfl)
  have g1 := hc (k * 3 + 1) _ ((flat3_get vs k _ 1 hall hv (by decide)).trans rfl)
  have g2 := hc (k * 3 + 2) _ ((flat3_get vs k _ 2 hall hv (by decide)).trans rfl)
  rw [← add_of_add, add_pos _ _ (by decide)] at g1 g2
  exact ⟨ad, fA, fn, fc, tA, tn, tc, rfl, by rw [block_of_add]; exact hab, g0, g1, g2, r1, r2⟩
theorem plan_info : (Tryz.prog.info? 28).map (fun i => (i.zero, i.size, i.bytes)) = some (some (.agg #[.slice none 0 0, .bool false, .complex .f64 0 0]), 3, 48) := by kernel_rfl
def zp (n : Nat) : Array Value := madeCells (Value.agg #[.slice none 0 0, .bool false, .complex .f64 0 0]).cells (n * 3)
theorem make_plans (n : Nat) (hn : n ≤ 100000) (w : World) : (Instr.makeSlice 52 (.int .i64 (n : Int)) (.int .i64 (n : Int))).run Tryz.prog w = .ok (.slice (some ⟨w.heap.size, 0, none⟩) n n) (w.alloc (.cells (zp n) 28)) := by
  obtain ⟨i0, hi, he⟩ := Option.map_eq_some_iff.1 plan_info
  have hz0 : i0.zero = some (.agg #[.slice none 0 0, .bool false, .complex .f64 0 0]) := congrArg (·.1) he
  have hz1 : i0.size = 3 := congrArg (·.2.1) he
  have hz2 : i0.bytes = 48 := congrArg (·.2.2) he
  rw [run_make_rowN 52 28 i0 _ Tryz.underlying52 hi hz0 .i64 .i64 n n (Nat.le_refl _) (by rw [hz2]; omega) (by omega) w, hz1]
  rfl
theorem zp_plans (w : World) (n : Nat) : PlansR w n [] (zp n) := ⟨by rw [zp, size_madeCells]; omega, fun i hi => absurd hi (by simp)⟩
set_option maxRecDepth 100000 in
set_option maxHeartbeats 8000000 in
theorem pnew_any (w : World) (A : Option Addr) (n c : Nat) (q : Q) (h : RA w w.heap.size A n (q.parts 0)) (hq : flatQ q) (hn : n ≤ 1000) (htx : ∀ a ∈ q.parts 0, a.text.length ≤ 1000) (hM : MaxL w) (hU : Utf8T w) :
    Calls Tryz.prog 8 #[.slice A n c] w (PlanRet w (planQ q)) := by
  have hq1 := q.size_pos
  have hns : n = q.size := by have := h.len; rw [q.parts_len] at this; omega
  obtain ⟨hpl, hlast, hpf⟩ := pls_last q hq
  have hfine := hide (pls_take_fine q hq)
  rw [← hns] at hlast hfine hpl
  replace hpl := hide hpl
  have hlastF := hide (planQ_fine q)
  replace hlast := hide hlast
  have hjp := hide (parts_jp q 0 hq)
  obtain ⟨r, hr⟩ : ∃ r, r = planQ q := ⟨_, rfl⟩
  rw [← hr] at hlast hlastF ⊢
  clear hr hpf
  obtain ⟨l, hl⟩ : ∃ l, l = q.parts 0 := ⟨_, rfl⟩
  rw [← hl] at h hlast hjp hfine hpl htx
  have hlen := hide h.len
  have hn1 : 1 ≤ n := by omega
  clear hl hns hq1 hq hlastF
  replace h := hide h
  replace htx := hide htx
  replace hM := hide hM
  replace hU := hide hU
  have hmk := make_plans n (by omega)
  have hsc := run_store_complex
  go_enter Tryz.func8, Tryz.ntmps8
  go_upto_region 1 with (fail)
  obtain ⟨w1, hw1⟩ : ∃ y, y = w.alloc (.cells #[.slice none 0 0, .bool false, .complex .f64 0 0] 28) := ⟨_, rfl⟩
  have hB0 := Blk.new w 28 #[.slice none 0 0, .bool false, .complex .f64 0 0]
  have hb0 := (Below.refl w.heap.size w).alloc (Nat.le_refl _) (.cells #[.slice none 0 0, .bool false, .complex .f64 0 0] 28)
  have hz1 : w1.heap.size = w.heap.size + 1 := by rw [hw1]; simp
  rw [← hw1] at hB0 hb0 ⊢
  have hB1 := Blk.new w1 28 (zp n)
  rw [hz1] at hB1
  have hB01 := hB0.alloc (.cells (zp n) 28)
  have hb1 := hb0.alloc (by omega) (.cells (zp n) 28)
  have hmk1 := hmk w1
  rw [hz1] at hmk1
  obtain ⟨w2, hw2⟩ : ∃ y, y = w1.alloc (.cells (zp n) 28) := ⟨_, rfl⟩
  rw [← hw2] at hB1 hB01 hb1 hmk1
  have hP0 := zp_plans w2 n
  replace hB1 := hide hB1
  replace hB01 := hide hB01
  replace hb1 := hide hb1
  replace hP0 := hide hP0
  clear hw1 hw2 hB0 hb0 hz1 hmk
  generalize zp n = cs0 at *
  go_wp2_with fail
  go_loopw [11] (fun v11 wr => ∃ (k : Nat) (cs : Array Value), v11 = .int .i64 k ∧ k ≤ n ∧ Blk wr (w.heap.size + 1) 28 cs ∧ PlansR wr n (pls [] (l.take k)) cs ∧ Blk wr w.heap.size 28 #[.slice none 0 0, .bool false, .complex .f64 0 0] ∧ Below w.heap.size w wr) (fun v11 _ => n - (intOf v11).toNat)
  case atStart => exact ⟨0, cs0, rfl, by omega, hB1.out, hP0.out, hB01.out, hb1.out⟩
  case round =>
    clear hB1 hB01 hb1 hP0
    obtain ⟨k, cs, rfl, hk, hB, hP, hR, hbw⟩ := hrel
    have hel : (pls [] (l.take k)).length = k := by rw [pls_len]; simp; have := hlen.out; omega
    by_cases h1 : k < n
    · have hkn' : k < n := h1
      have h1' : (k : Int) < (n : Int) := by omega
      have hkl : k < l.length := by have := hlen.out; omega
      obtain ⟨ad, rfl, hab, c0, c1, c2, c3, c4, c5, c6⟩ := (h.out.below hbw).elem h1 hkl
      have hnx := hide (pls_next l k hkl)
      have hjk := jpL_at l 0 hjp.out k hkl
      have hxt := htx.out l[k] (List.getElem_mem hkl)
      rw [Int.zero_add] at hjk
      have hfk := hide (hfine.out k)
      generalize l[k] = x at *
      generalize pls [] (l.take k) = ps at *
      have hszr := hbw.size
      have hRl := hR.lt
      have hBl := hB.lt
      have hX := ask_box wr x
      have hba := (Below.refl wr.heap.size wr).alloc (Nat.le_refl _) (.cells #[.int .i64 x.kind, .int .i64 x.op, .int .i64 x.a, .int .i64 x.b, .int .i64 x.n, .string (str x.text), .bool x.isText] 54)
      have hBx := hB.alloc (.cells #[.int .i64 x.kind, .int .i64 x.op, .int .i64 x.a, .int .i64 x.b, .int .i64 x.n, .string (str x.text), .bool x.isText] 54)
      have hRx := hR.alloc (.cells #[.int .i64 x.kind, .int .i64 x.op, .int .i64 x.a, .int .i64 x.b, .int .i64 x.n, .string (str x.text), .bool x.isText] 54)
      have hPx := hP.below hba
      have hbx := hbw.alloc hszr (.cells #[.int .i64 x.kind, .int .i64 x.op, .int .i64 x.a, .int .i64 x.b, .int .i64 x.n, .string (str x.text), .bool x.isText] 54)
      replace hB := hide hB
      replace hR := hide hR
      replace hbw := hide hbw
      replace hP := hide hP
      replace hba := hide hba
      go_upto_region 6 with (fail)
      obtain ⟨wa, hwa⟩ : ∃ y, y = wr.alloc (.cells #[.int .i64 x.kind, .int .i64 x.op, .int .i64 x.a, .int .i64 x.b, .int .i64 x.n, .string (str x.text), .bool x.isText] 54) := ⟨_, rfl⟩
      rw [← hwa] at hX hBx hRx hPx hbx ⊢
      clear hwa c0 c1 c2 c3 c4 c5 c6 hB hR hbw hP hba
      have p0 : wa.cell? ⟨wr.heap.size, 0, none⟩ = some (.int .i64 x.kind) := hX.cell 0
      have p1 : wa.cell? ⟨wr.heap.size, 1, none⟩ = some (.int .i64 x.op) := hX.cell 1
      have p2 : wa.cell? ⟨wr.heap.size, 2, none⟩ = some (.int .i64 x.a) := hX.cell 2
      have p3 : wa.cell? ⟨wr.heap.size, 3, none⟩ = some (.int .i64 x.b) := hX.cell 3
      have p4 : wa.cell? ⟨wr.heap.size, 4, none⟩ = some (.int .i64 x.n) := hX.cell 4
      have p5 : wa.cell? ⟨wr.heap.size, 5, none⟩ = some (.string (str x.text)) := hX.cell 5
      have p6 : wa.cell? ⟨wr.heap.size, 6, none⟩ = some (.bool x.isText) := hX.cell 6
      have hMa := hM.out.below hbx
      have hUa := hU.out.below hbx
      cases hj : jointB x with
      | false =>
        have hk12 : (x.kind != 1) = true ∧ (x.kind != 2) = true := by simpa [jointB] using hj
        obtain ⟨hk1, hk2⟩ := hk12
        have hev : Hid (plNext ps x = planTP x) := by rw [Hid, plNext, if_neg (by rw [hj]; decide)]
        have hT := planTerm_any wa x hMa hUa hxt
        unfold askV at hT
        replace hT := hide hT
        replace hX := hide hX
        replace hBx := hide hBx
        replace hRx := hide hRx
        replace hPx := hide hPx
        replace hbx := hide hbx
        clear hj hjk hMa hUa
        go_wp2_with fail
        refine hT.out.mono ?_
        rintro e w4 ⟨⟨A4, n4, k4, rfl, hnk4, hS4⟩, hb4⟩
        have hB4 := hBx.out.below hb4 hBx.out.lt
        have hR4 := hRx.out.below hb4 hRx.out.lt
        have hP4 := hPx.out.below hb4
        have hbw4 := hbx.out.trans (hb4.mono hbx.out.size)
        obtain ⟨p, hp⟩ : ∃ p, p = planTP x := ⟨_, rfl⟩
        rw [← hp] at hS4 hev ⊢
        obtain ⟨hBn, hPn⟩ := hP4.step hB4 hel hkn' hS4 hnk4
        have hcs := hP4.1
        obtain ⟨u0, hu0⟩ : ∃ u, cs[k * 3]? = some u := ⟨_, Array.getElem?_eq_getElem (by omega)⟩
        obtain ⟨u1, hu1⟩ : ∃ u, cs[k * 3 + 1]? = some u := ⟨_, Array.getElem?_eq_getElem (by omega)⟩
        obtain ⟨u2, hu2⟩ : ∃ u, cs[k * 3 + 2]? = some u := ⟨_, Array.getElem?_eq_getElem (by omega)⟩
        have r0 : w4.cell? ⟨w.heap.size + 1, k * 3, none⟩ = some u0 := (hB4.cell _).trans hu0
        have r1 : w4.cell? ⟨w.heap.size + 1, k * 3 + 1, none⟩ = some u1 := (hB4.cell _).trans hu1
        have r2 : w4.cell? ⟨w.heap.size + 1, k * 3 + 2, none⟩ = some u2 := (hB4.cell _).trans hu2
        have f0 := hB4.frozen (k * 3)
        have f1 := hB4.frozen (k * 3 + 1)
        have f2 := hB4.frozen (k * 3 + 2)
        replace hBn := hide hBn
        replace hPn := hide hPn
        replace hR4 := hide hR4
        replace hbw4 := hide hbw4
        replace hp := hide hp
        clear hB4 hP4 hS4 hb4 hT hX hBx hRx hPx hbx hu0 hu1 hu2 hcs p0 p1 p2 p3 p4 p5 p6 hk1 hk2 hxt
        go_wp2_with fail
        go_roundw
        case rel => exact ⟨k + 1, _, by go_num, by omega, hBn.out, by rw [hnx.out, hev.out]; exact hPn.out, ((hR4.out.far (p := ⟨w.heap.size + 1, k * 3, none⟩) (by simp) _).far (p := ⟨w.heap.size + 1, k * 3 + 1, none⟩) (by simp) _).far (p := ⟨w.heap.size + 1, k * 3 + 2, none⟩) (by simp) _, below_set (below_set (below_set hbw4.out (by omega) _) (by omega) _) (by omega) _⟩
        case measure => simp [intOf]; omega
      | true =>
        obtain ⟨ja, jb, jc, jd⟩ := hjk hj
        obtain ⟨pa, hpa⟩ := Int.eq_ofNat_of_zero_le ja
        obtain ⟨pb, hpb⟩ := Int.eq_ofNat_of_zero_le jc
        have hpak : pa < k := by omega
        have hpbk : pb < k := by omega
        have hpap : pa < ps.length := by omega
        have hpbp : pb < ps.length := by omega
        have hev : Hid (plNext ps x = joinP x.kind (ps.getD pa wholeP) (ps.getD pb wholeP)) := by
          rw [Hid, plNext, if_pos hj, planAt, planAt, hpa, hpb, Int.toNat_natCast, Int.toNat_natCast]
        have hfa := (hfk.out (ps.getD pa wholeP) (by rw [List.getD_eq_getElem?_getD, List.getElem?_eq_getElem hpap]; exact List.getElem_mem hpap)).mono hn
        have hfb := (hfk.out (ps.getD pb wholeP) (by rw [List.getD_eq_getElem?_getD, List.getElem?_eq_getElem hpbp]; exact List.getElem_mem hpbp)).mono hn
        rw [hpa] at p2
        rw [hpb] at p3
        have hk12 : x.kind = 1 ∨ x.kind = 2 := by simpa [jointB] using hj
        obtain ⟨A1, m1, c1, ea0, ea1, ea2, hmc1, hS1⟩ := hPx.2 pa hpap
        obtain ⟨A2, m2, c2, eb0, eb1, eb2, hmc2, hS2⟩ := hPx.2 pb hpbp
        generalize ps.getD pa wholeP = qa at *
        generalize ps.getD pb wholeP = qb at *
        have a0 : wa.cell? ⟨w.heap.size + 1, pa * 3, none⟩ = some (.slice A1 m1 c1) := (hBx.cell _).trans ea0
        have a1 : wa.cell? ⟨w.heap.size + 1, pa * 3 + 1, none⟩ = some (.bool qa.all) := (hBx.cell _).trans ea1
        have a2 : wa.cell? ⟨w.heap.size + 1, pa * 3 + 2, none⟩ = some (.complex .f64 qa.cost.re qa.cost.im) := (hBx.cell _).trans ea2
        have b0 : wa.cell? ⟨w.heap.size + 1, pb * 3, none⟩ = some (.slice A2 m2 c2) := (hBx.cell _).trans eb0
        have b1 : wa.cell? ⟨w.heap.size + 1, pb * 3 + 1, none⟩ = some (.bool qb.all) := (hBx.cell _).trans eb1
        have b2 : wa.cell? ⟨w.heap.size + 1, pb * 3 + 2, none⟩ = some (.complex .f64 qb.cost.re qb.cost.im) := (hBx.cell _).trans eb2
        have hcs := hPx.1
        obtain ⟨u0, hu0⟩ : ∃ u, cs[k * 3]? = some u := ⟨_, Array.getElem?_eq_getElem (by omega)⟩
        obtain ⟨u1, hu1⟩ : ∃ u, cs[k * 3 + 1]? = some u := ⟨_, Array.getElem?_eq_getElem (by omega)⟩
        obtain ⟨u2, hu2⟩ : ∃ u, cs[k * 3 + 2]? = some u := ⟨_, Array.getElem?_eq_getElem (by omega)⟩
        have hpak' : (pa : Int) < (k : Int) := by omega
        have hpbk' : (pb : Int) < (k : Int) := by omega
        have hpan' : (pa : Int) < (n : Int) := by omega
        have hpbn' : (pb : Int) < (n : Int) := by omega
        replace hX := hide hX
        replace hBx := hide hBx
        replace hRx := hide hRx
        replace hPx := hide hPx
        replace hbx := hide hbx
        replace hcs := hide hcs
        clear hj hjk ja jb jc jd hpa hpb hMa hUa hxt hfk ea0 ea1 ea2 eb0 eb1 eb2 p1 p4 p5 p6
        have hJ := hide (join_any wa.drew x.kind qa qb hfa hfb A1 A2 m1 c1 m2 c2 (hS1.below (Below.refl _ _).drew) (hS2.below (Below.refl _ _).drew) hmc1 hmc2)
        have hlast3 : Hid (∀ w4, Below wa.heap.size wa.drew w4 → Below wa.heap.size wa w4) := fun w4 h => (Below.refl wa.heap.size wa).drew.trans h
        clear hS1 hS2 hfa hfb
        have hlw := hbx.out.size
        have hk4 : ∀ w4, Below wa.heap.size wa.drew w4 → w4.cell? ⟨wr.heap.size, 0, none⟩ = some (.int .i64 x.kind) ∧ w4.cell? ⟨wr.heap.size, 2, none⟩ = some (.int .i64 pa) ∧ w4.cell? ⟨wr.heap.size, 3, none⟩ = some (.int .i64 pb) ∧
            w4.cell? ⟨w.heap.size + 1, pa * 3, none⟩ = some (.slice A1 m1 c1) ∧ w4.cell? ⟨w.heap.size + 1, pa * 3 + 1, none⟩ = some (.bool qa.all) ∧ w4.cell? ⟨w.heap.size + 1, pa * 3 + 2, none⟩ = some (.complex .f64 qa.cost.re qa.cost.im) ∧
            w4.cell? ⟨w.heap.size + 1, pb * 3, none⟩ = some (.slice A2 m2 c2) ∧ w4.cell? ⟨w.heap.size + 1, pb * 3 + 1, none⟩ = some (.bool qb.all) ∧ w4.cell? ⟨w.heap.size + 1, pb * 3 + 2, none⟩ = some (.complex .f64 qb.cost.re qb.cost.im) ∧
            w4.cell? ⟨w.heap.size + 1, k * 3, none⟩ = some u0 ∧ w4.cell? ⟨w.heap.size + 1, k * 3 + 1, none⟩ = some u1 ∧ w4.cell? ⟨w.heap.size + 1, k * 3 + 2, none⟩ = some u2 ∧
            w4.frozen? ⟨w.heap.size + 1, k * 3, none⟩ = false ∧ w4.frozen? ⟨w.heap.size + 1, k * 3 + 1, none⟩ = false ∧ w4.frozen? ⟨w.heap.size + 1, k * 3 + 2, none⟩ = false ∧
            Blk w4 w.heap.size 28 #[.slice none 0 0, .bool false, .complex .f64 0 0] ∧ PlansR w4 n ps cs ∧ Blk w4 (w.heap.size + 1) 28 cs ∧ Below w.heap.size w w4 := by
          intro w4 hb0
          have hb := hlast3.out w4 hb0
          have hl1 := hX.out.lt
          have hl2 := hBx.out.lt
          have hB4 := hBx.out.below hb hl2
          have hc : ∀ (g i : Nat) (v : Value), g < wa.heap.size → wa.cell? ⟨g, i, none⟩ = some v → w4.cell? ⟨g, i, none⟩ = some v := fun g i v hg h => (hb.cell (p := ⟨g, i, none⟩) hg).trans h
          exact ⟨hc _ _ _ hl1 p0, hc _ _ _ hl1 p2, hc _ _ _ hl1 p3, hc _ _ _ hl2 a0, hc _ _ _ hl2 a1, hc _ _ _ hl2 a2, hc _ _ _ hl2 b0, hc _ _ _ hl2 b1, hc _ _ _ hl2 b2, (hB4.cell _).trans hu0, (hB4.cell _).trans hu1, (hB4.cell _).trans hu2,
            hB4.frozen _, hB4.frozen _, hB4.frozen _, hRx.out.below hb hRx.out.lt, hPx.out.below hb, hB4, hbx.out.trans (hb.mono hlw)⟩
        replace hk4 := hide hk4
        clear hX hBx hRx hPx hbx hcs hlast3 hu0 hu1 hu2
        have ne1 : ∀ i, i < 3 → pa * 3 ≠ k * 3 + i ∧ pa * 3 + 1 ≠ k * 3 + i ∧ pa * 3 + 2 ≠ k * 3 + i ∧ pb * 3 ≠ k * 3 + i ∧ pb * 3 + 1 ≠ k * 3 + i ∧ pb * 3 + 2 ≠ k * 3 + i := by intro i hi; omega
        replace ne1 := hide ne1
        have hja : Hid (¬ (pa : Int) < 0 ∧ ¬ (pb : Int) < 0) := ⟨by omega, by omega⟩
        rcases hk12 with e | e
        · rw [e] at p0 hJ hev hk4
          replace e := hide e
          go_upto_region 5 with (fail)
          go_region_held3 (fun w' => w'.cell? ⟨wr.heap.size, 0, none⟩ = some (.int .i64 1) ∧ w'.cell? ⟨wr.heap.size, 2, none⟩ = some (.int .i64 pa) ∧ w'.cell? ⟨wr.heap.size, 3, none⟩ = some (.int .i64 pb) ∧ w'.cell? ⟨w.heap.size + 1, pa * 3, none⟩ = some (.slice A1 m1 c1) ∧ w'.cell? ⟨w.heap.size + 1, pa * 3 + 1, none⟩ = some (.bool qa.all) ∧ w'.cell? ⟨w.heap.size + 1, pa * 3 + 2, none⟩ = some (.complex .f64 qa.cost.re qa.cost.im) ∧ w'.cell? ⟨w.heap.size + 1, pb * 3, none⟩ = some (.slice A2 m2 c2) ∧ w'.cell? ⟨w.heap.size + 1, pb * 3 + 1, none⟩ = some (.bool qb.all) ∧ w'.cell? ⟨w.heap.size + 1, pb * 3 + 2, none⟩ = some (.complex .f64 qb.cost.re qb.cost.im))
            (first | exact ⟨by assumption, by assumption, by assumption, by assumption, by assumption, by assumption, by assumption, by assumption, by assumption⟩ | (refine ⟨?_, ?_, ?_, ?_, ?_, ?_, ?_, ?_, ?_⟩ <;> (repeat rw [World.cell?_setCell_other _ _ _ _ (by first | (simp; done) | (simp; omega))]) <;> assumption))
            ((go_at_call 20; refine hJ.out.mono ?_; rintro e9 w4 ⟨⟨A4, n4, k4, rfl, hnk4, hS4⟩, hb4⟩; obtain ⟨d1, d2, d3, d4, d5, d6, d7, d8, d9, r0, r1, r2, f0, f1, f2, hR4, hP4, hB4, hbw4⟩ := hk4.out w4 hb4; replace hS4 := hide hS4; replace hR4 := hide hR4; replace hP4 := hide hP4; replace hB4 := hide hB4; replace hbw4 := hide hbw4; clear hb4))
          all_goals
            generalize joinP 1 qa qb = p at *
            obtain ⟨hBn, hPn⟩ := hP4.out.step hB4.out hel hkn' hS4.out hnk4
            replace hBn := hide hBn
            replace hPn := hide hPn
            clear hB4 hP4 hS4 hJ hk4
            go_wp2_with fail
            go_roundw
            case rel => exact ⟨k + 1, _, by go_num, by omega, hBn.out, by rw [hnx.out, hev.out]; exact hPn.out, ((hR4.out.far (p := ⟨w.heap.size + 1, k * 3, none⟩) (by simp) _).far (p := ⟨w.heap.size + 1, k * 3 + 1, none⟩) (by simp) _).far (p := ⟨w.heap.size + 1, k * 3 + 2, none⟩) (by simp) _, below_set (below_set (below_set hbw4.out (by omega) _) (by omega) _) (by omega) _⟩
            case measure => simp [intOf]; omega
        · rw [e] at p0 hJ hev hk4
          replace e := hide e
          go_upto_region 5 with (fail)
          go_region_held3 (fun w' => w'.cell? ⟨wr.heap.size, 0, none⟩ = some (.int .i64 2) ∧ w'.cell? ⟨wr.heap.size, 2, none⟩ = some (.int .i64 pa) ∧ w'.cell? ⟨wr.heap.size, 3, none⟩ = some (.int .i64 pb) ∧ w'.cell? ⟨w.heap.size + 1, pa * 3, none⟩ = some (.slice A1 m1 c1) ∧ w'.cell? ⟨w.heap.size + 1, pa * 3 + 1, none⟩ = some (.bool qa.all) ∧ w'.cell? ⟨w.heap.size + 1, pa * 3 + 2, none⟩ = some (.complex .f64 qa.cost.re qa.cost.im) ∧ w'.cell? ⟨w.heap.size + 1, pb * 3, none⟩ = some (.slice A2 m2 c2) ∧ w'.cell? ⟨w.heap.size + 1, pb * 3 + 1, none⟩ = some (.bool qb.all) ∧ w'.cell? ⟨w.heap.size + 1, pb * 3 + 2, none⟩ = some (.complex .f64 qb.cost.re qb.cost.im))
            (first | exact ⟨by assumption, by assumption, by assumption, by assumption, by assumption, by assumption, by assumption, by assumption, by assumption⟩ | (refine ⟨?_, ?_, ?_, ?_, ?_, ?_, ?_, ?_, ?_⟩ <;> (repeat rw [World.cell?_setCell_other _ _ _ _ (by first | (simp; done) | (simp; omega))]) <;> assumption))
            ((go_at_call 20; refine hJ.out.mono ?_; rintro e9 w4 ⟨⟨A4, n4, k4, rfl, hnk4, hS4⟩, hb4⟩; obtain ⟨d1, d2, d3, d4, d5, d6, d7, d8, d9, r0, r1, r2, f0, f1, f2, hR4, hP4, hB4, hbw4⟩ := hk4.out w4 hb4; replace hS4 := hide hS4; replace hR4 := hide hR4; replace hP4 := hide hP4; replace hB4 := hide hB4; replace hbw4 := hide hbw4; clear hb4))
          all_goals
            generalize joinP 2 qa qb = p at *
            obtain ⟨hBn, hPn⟩ := hP4.out.step hB4.out hel hkn' hS4.out hnk4
            replace hBn := hide hBn
            replace hPn := hide hPn
            clear hB4 hP4 hS4 hJ hk4
            go_wp2_with fail
            go_roundw
            case rel => exact ⟨k + 1, _, by go_num, by omega, hBn.out, by rw [hnx.out, hev.out]; exact hPn.out, ((hR4.out.far (p := ⟨w.heap.size + 1, k * 3, none⟩) (by simp) _).far (p := ⟨w.heap.size + 1, k * 3 + 1, none⟩) (by simp) _).far (p := ⟨w.heap.size + 1, k * 3 + 2, none⟩) (by simp) _, below_set (below_set (below_set hbw4.out (by omega) _) (by omega) _) (by omega) _⟩
            case measure => simp [intOf]; omega
    · have h1' : ¬ (k : Int) < (n : Int) := by omega
      have e : k = n := by omega
      subst e
      have htk : l.take k = l := List.take_of_length_le (by have := hlen.out; omega)
      rw [htk] at hP hel
      obtain ⟨A1, m1, c1, e0, e1, e2, hmc, hS⟩ := hP.2 (k - 1) (by omega)
      rw [hlast.out] at e1 e2 hS
      have t0 : wr.cell? ⟨w.heap.size + 1, (k - 1) * 3, none⟩ = some (.slice A1 m1 c1) := (hB.cell _).trans e0
      have t1 : wr.cell? ⟨w.heap.size + 1, (k - 1) * 3 + 1, none⟩ = some (.bool r.all) := (hB.cell _).trans e1
      have t2 : wr.cell? ⟨w.heap.size + 1, (k - 1) * 3 + 2, none⟩ = some (.complex .f64 r.cost.re r.cost.im) := (hB.cell _).trans e2
      obtain ⟨hS2, hbF⟩ := plan_back hR hS hbw (Nat.le_refl _) (.slice A1 m1 c1) (.bool r.all) (.complex .f64 r.cost.re r.cost.im)
      have r0 : wr.cell? ⟨w.heap.size, 0, none⟩ = some (.slice none 0 0) := hR.cell 0
      have r1 : wr.cell? ⟨w.heap.size, 1, none⟩ = some (.bool false) := hR.cell 1
      have r2 : wr.cell? ⟨w.heap.size, 2, none⟩ = some (.complex .f64 0 0) := hR.cell 2
      have f0 := hR.frozen 0
      have f1 := hR.frozen 1
      have f2 := hR.frozen 2
      have hk1 : (1 : Int) ≤ (k : Int) := by omega
      have hkk : ((k : Int) - 1).toNat = k - 1 := by omega
      have hk0 : ((k : Int) == 0) = false := by simp; omega
      replace hS2 := hide hS2
      replace hbF := hide hbF
      clear hB hR hP hS hbw hel e0 e1 e2 htk
      go_wp2_with fail
      refine bodyPost_ret (v := .agg #[.slice A1 m1 c1, .bool r.all, .complex .f64 r.cost.re r.cost.im]) (by simp [results, Tryz.results8, go_sem, r0, r1, r2]) rfl ?_
      exact ⟨⟨_, _, _, rfl, hmc, hS2.out⟩, hbF.out⟩
end Go.Proofs.YtnnjcedlomfhoaaGreatDoor
