/-
  The walk of the law NormHolds.
  The walk of the law NormTurns.
-/
import Derived.Test.YtnhcamkccnaeeaaGreatDoorNormW
import Derived.Test.YtnhcamkccnaeeaaGreatDoorRpH
import Derived.Test.YtnhcamkccnaeeaaGreatDoorLawNormTexts
import Derived.Test.YtnhcamkccnaeeaaGreatDoorHoldP
namespace Go.Proofs.YtnhcamkccnaeeaaGreatDoor
open Go.RowKit
set_option linter.unusedVariables false

/-! ### Plain: what a normal form is like -/
def allL (P : Ask → Int → Prop) : List Ask → Int → Prop
  | [], _ => True
  | x :: l, i => P x i ∧ allL P l (i + 1)
theorem allL_append (P : Ask → Int → Prop) (l r : List Ask) : ∀ i, allL P l i → allL P r (i + l.length) → allL P (l ++ r) i := by
  induction l with
  | nil => intro i _ h; simpa using h
  | cons x l ih =>
    intro i h1 h2
    refine ⟨h1.1, ih _ h1.2 ?_⟩
    rw [List.length_cons] at h2
    rw [show i + 1 + (l.length : Int) = i + ((l.length + 1 : Nat) : Int) from by push_cast; omega]
    exact h2
theorem allL_at (P : Ask → Int → Prop) : ∀ (l : List Ask) (i : Int), allL P l i → ∀ (k : Nat) (h : k < l.length), P l[k] (i + k)
  | [], _, _, k, h => absurd h (by simp)
  | x :: l, i, hs, 0, h => by simpa using hs.1
  | x :: l, i, hs, k + 1, h => by
    have := allL_at P l (i + 1) hs.2 k (by simpa using h)
    simp only [List.getElem_cons_succ]
    rw [show i + ((k + 1 : Nat) : Int) = i + 1 + (k : Int) from by push_cast; omega]
    exact this
/-- A part of a normal form: no not, no date told as a text, its places below. -/
def nfP (x : Ask) (i : Int) : Prop := x.kind ≠ 3 ∧ ¬ (x.kind = 6 ∧ x.isText = true) ∧ x.a < i ∧ x.b < i
theorem told1_date (a : Ask) : ¬ ((told1 a).kind = 6 ∧ (told1 a).isText = true) := by
  unfold told1 toldR
  split
  · rename_i h; rintro ⟨h1, -⟩; rw [h.1] at h1; exact absurd h1 (by decide)
  · split
    · rintro ⟨-, h⟩; cases h
    · rename_i h1 h2
      split
      · rename_i h9; rintro ⟨h6, -⟩; exact absurd (h6.symm.trans h9) (by decide)
      · exact fun h => h2 h
theorem told1_abs (a : Ask) : (told1 a).a = a.a ∧ (told1 a).b = a.b ∧ (told1 a).kind = a.kind := by
  unfold told1 toldR
  split
  · exact ⟨rfl, rfl, rfl⟩
  · split
    · exact ⟨rfl, rfl, rfl⟩
    · split <;> exact ⟨rfl, rfl, rfl⟩
theorem nf_lay : ∀ (q : Q) (t : Bool) (p : Nat), okQ q → allL nfP ((layQ told1 q t).parts p) p
  | .term a, t, p, h => by
    obtain ⟨h1, h2, h3, -⟩ := h
    obtain ⟨e1, e2, e3⟩ := told1_abs a
    have hd := told1_date a
    have hk : a.kind ≠ 3 := by rcases h1 with ⟨e, -⟩ | ⟨e, -⟩ <;> omega
    cases t
    · show allL nfP [told1 a] p
      refine ⟨⟨by rw [e3]; exact hk, hd, ?_, ?_⟩, trivial⟩
      · rw [e1, h2]; omega
      · rw [e2, h3]; omega
    · show allL nfP [⟨(told1 a).kind, turnedI (told1 a).op, (told1 a).a, (told1 a).b, (told1 a).n, (told1 a).text, (told1 a).isText⟩] p
      refine ⟨⟨by show (told1 a).kind ≠ 3; rw [e3]; exact hk, hd, ?_, ?_⟩, trivial⟩
      · show (told1 a).a < _; rw [e1, h2]; omega
      · show (told1 a).b < _; rw [e2, h3]; omega
  | .neg q, t, p, h => nf_lay q (!t) p h
  | .two k x y, t, p, h => by
    have hx := (layQ told1 x t).size_pos
    have hy := (layQ told1 y t).size_pos
    rw [layQ, Q.parts]
    refine allL_append nfP _ _ _ (nf_lay x t p h.2.1) (allL_append nfP _ _ _ ?_ ⟨⟨?_, ?_, ?_, ?_⟩, trivial⟩)
    · rw [Q.parts_len]
      have := nf_lay y t (p + (layQ told1 x t).size) h.2.2
      simpa using this
    · show (if t = true then 3 - k else k) ≠ 3
      rcases h.1 with e | e <;> split <;> omega
    · rintro ⟨-, h9⟩; cases h9
    · rw [Q.parts_len, Q.parts_len]; dsimp only; omega
    · rw [Q.parts_len, Q.parts_len]; dsimp only; omega
theorem flat_lay : ∀ (q : Q) (t : Bool), okQ q → flatQ (layQ told1 q t)
  | .term a, t, h => by
    obtain ⟨h1, -⟩ := h
    obtain ⟨-, -, e3⟩ := told1_abs a
    have hk : 4 ≤ a.kind := by rcases h1 with ⟨e, -⟩ | ⟨e, -⟩ <;> omega
    have hj : ∀ x : Ask, x.kind = a.kind → jointB x = false := by intro x hx; simp [jointB, hx]; omega
    cases t
    · exact hj _ e3
    · exact hj _ e3
  | .neg q, t, h => flat_lay q (!t) h
  | .two k x y, t, h => ⟨by rcases h.1 with e | e <;> cases t <;> simp [e], flat_lay x t h.2.1, flat_lay y t h.2.2⟩

/-! ### The walk -/
theorem run_rune_is (A : Option Addr) (n c : Nat) (b : Bool) (w : World) : (Instr.field 42 (.agg #[.slice A n c, .bool b]) 1).run Tryz.prog w = .ok (.bool b) w := by kernel_rfl
theorem read_is (w : World) (A : Option Addr) (n c : Nat) (l : List UInt8) (h : RB w w.heap.size A n l) (hn : n ≤ 100000) (hc : n ≤ c) :
    Calls Tryz.prog 15 #[.slice A n c] w fun e w' => (∃ A' n' c', e = .returned (.agg #[.slice A' n' c', .bool (Lib.validD l)])) ∧ Below w.heap.size w w' := by
  refine (read_any w A n c l h hn hc).mono ?_
  rintro e w' ⟨hb, hr⟩
  rw [readA_law] at hr
  refine ⟨?_, hb⟩
  rcases hr with ⟨rs, v, h1, rfl, h2⟩ | ⟨h1, rfl⟩
  · obtain ⟨A', c', rfl, -, -, -⟩ := own_form h2
    have hv : Lib.validD l = true := by
      cases h : Lib.validD l
      · rw [h] at h1; cases h1
      · rfl
    exact ⟨_, _, _, by rw [hv]⟩
  · have hv : Lib.validD l = false := by
      cases h : Lib.validD l
      · rfl
      · rw [h] at h1; cases h1
    exact ⟨_, _, _, by rw [hv]⟩
theorem file_cells {w : World} {g : Nat} {f : FileV} (h : Blk w g 38 #[.string (str f.name), .int .i64 f.method, .int .i64 f.dos, .int .u32 f.crc, .int .i64 f.x4, .int .i64 f.size, .int .i64 f.x6]) :
    w.cell? ⟨g, 0, none⟩ = some (.string (str f.name)) ∧ w.cell? ⟨g, 1, none⟩ = some (.int .i64 f.method) ∧ w.cell? ⟨g, 2, none⟩ = some (.int .i64 f.dos) ∧ w.cell? ⟨g, 3, none⟩ = some (.int .u32 f.crc) ∧ w.cell? ⟨g, 4, none⟩ = some (.int .i64 f.x4) ∧
    w.cell? ⟨g, 5, none⟩ = some (.int .i64 f.size) ∧ w.cell? ⟨g, 6, none⟩ = some (.int .i64 f.x6) :=
  ⟨h.cell 0, h.cell 1, h.cell 2, h.cell 3, h.cell 4, h.cell 5, h.cell 6⟩
/-- Behind the test of sizes. -/
def GreatOk (w : World) (most : Nat) (f : FileV) (s : ByteArray) (m : Nat) (v : Value) (wx : World) : Prop :=
  Below w.heap.size w wx ∧ ∃ b : Bool, v = .bool b ∧ (b = false → s.size ≤ most ∧ f.name.length ≤ 100 ∧ m ≤ 20 ∧ Lib.validD f.name = true)
theorem GreatOk.yes {w wx : World} {most : Nat} {f : FileV} {s : ByteArray} {m : Nat} (hb : Below w.heap.size w wx) : GreatOk w most f s m (.bool true) wx := ⟨hb, true, rfl, fun h => by cases h⟩
set_option maxRecDepth 100000 in
set_option maxHeartbeats 8000000 in
theorem normHolds_walk (w : World) (hA : Tabs w) (s : ByteArray) (f : FileV) (B : Option Addr) (m d : Nat) (found : List (List UInt8)) (hL : RSL w w.heap.size B m found) (hc : 0 ≤ f.crc ∧ f.crc ≤ 4294967295) :
    Calls Tryz.prog 5 #[.string s, fileV f, .slice B m d] w fun e w' => e = .returned (.bool true) ∧ Below w.heap.size w w' := by
  have hdl := hide (data_len s)
  have hF0 := file_box w f
  have hb0 := (Below.refl w.heap.size w).alloc (Nat.le_refl _) (.cells #[.string (str f.name), .int .i64 f.method, .int .i64 f.dos, .int .u32 f.crc, .int .i64 f.x4, .int .i64 f.size, .int .i64 f.x6] 38)
  obtain ⟨w0, hw0⟩ : ∃ y, y = w.alloc (.cells #[.string (str f.name), .int .i64 f.method, .int .i64 f.dos, .int .u32 f.crc, .int .i64 f.x4, .int .i64 f.size, .int .i64 f.x6] 38) := ⟨_, rfl⟩
  rw [← hw0] at hF0 hb0
  have hA0 := hA.below hb0
  replace hw0 := hide hw0
  replace hL := hide hL
  replace hc := hide hc
  clear hA
  unfold fileV
  go_enter Tryz.func5, Tryz.ntmps5
  go_upto_region 1 with (fail)
  rw [← hw0.out]
  go_wp2_with fail
  refine (wakes25_any w0 hA0).mono ?_
  rintro e w1 ⟨rfl, hb1⟩
  have hA1 := hide (hA0.below hb1)
  have hF1 := hF0.below hb1 hF0.lt
  have hbw1 := hide (hb0.trans (hb1.mono hb0.size))
  have hflt := hF1.lt
  obtain ⟨p0, p1, p2, p3, p4, p5, p6⟩ := file_cells hF1
  replace hF1 := hide hF1
  clear hA0 hF0 hb0 hb1
  obtain ⟨K, C, hcv, hKC⟩ := bytes_conv (str f.name)
  rw [str_toList, str_size] at hKC
  rw [str_size] at hcv
  replace hKC := hide hKC
  have hfi := run_rune_is
  have hfs : Hid ((str f.name).size = f.name.length) := str_size f.name
  go_upto_region 3 with (fail)
  go_cut [35] (fun v35 wx => GreatOk w1 500 f s m v35 wx)
  case first =>
    by_cases h5 : (500 : Int) < (s.size : Int)
    · go_wp2_with fail
      go_meet
      exact GreatOk.yes (Below.refl _ _)
    · by_cases h6 : (100 : Int) < ((str f.name).size : Int)
      · go_wp2_with fail
        go_meet
        exact GreatOk.yes (Below.refl _ _)
      · by_cases h7 : (20 : Int) < (m : Int)
        · go_wp2_with fail
          go_meet
          exact GreatOk.yes (Below.refl _ _)
        · have hnl : f.name.length ≤ 100 := by have := hfs.out; omega
          have hrd := hide (read_is ((w1.alloc (C w1)).drew) (some ⟨w1.heap.size, 0, none⟩) f.name.length (K w1) f.name ((show RB ((w1.alloc (C w1)).drew) (w1.heap.size + 1) (some ⟨w1.heap.size, 0, none⟩) f.name.length f.name from (hKC.out w1).2).more (by simp)) (by omega) (hKC.out w1).1)
          go_wp2_with fail
          refine hrd.out.mono ?_
          rintro e w2 ⟨⟨A', n', c', rfl⟩, hb2⟩
          have hs5 : s.size ≤ 500 := by omega
          have hm20 : m ≤ 20 := by omega
          have hbw : Below w1.heap.size w1 w2 := (((Below.refl w1.heap.size w1).alloc (Nat.le_refl _) (C w1)).drew).trans (hb2.mono (by simp))
          have hg : Hid (GreatOk w1 500 f s m (.bool (!Lib.validD f.name)) w2) := ⟨hbw, _, rfl, fun h => ⟨hs5, hnl, hm20, by simpa using h⟩⟩
          clear hrd hb2 hbw
          generalize Lib.validD f.name = vb at *
          go_wp2_with fail
          go_meet
          exact hg.out
  case rest =>
    obtain ⟨hbc, b, rfl, hok⟩ := hcut
    have hA2 := hide (hA1.out.below hbc)
    have hF2 := hF1.out.below hbc hflt
    have hbw2 := hbw1.out.trans (hbc.mono hbw1.out.size)
    have hflt2 := hF2.lt
    clear p0 p1 p2 p3 p4 p5 p6 hA1 hbw1 hbc hKC hcv hfs hF1
    cases b with
    | true =>
      go_wp2_with fail
      go_ret
      exact ⟨rfl, hbw2⟩
    | false =>
      obtain ⟨h500, hn100, hm20, hvalid⟩ := hok rfl
      clear hok
      go_wp2_with fail
      refine (rparse_any s wc (by omega)).mono ?_
      rintro e w2 ⟨v2, rfl, ho2, hb2⟩
      have hszc := hbw2.size
      have hbw3 := hbw2.trans (hb2.mono hszc)
      have hF3 := hF2.below hb2 hflt2
      have hA3 := hA2.out.below hb2
      clear hb2 hA2 hF2 hbw2 hszc hflt2
      obtain ⟨l, hl⟩ : ∃ l, l = s.data.toList := ⟨_, rfl⟩
      rw [← hl] at ho2 ⊢
      clear hl
      obtain ⟨A2, c2, rfl, hR2, -, -, -⟩ := ho2.form
      obtain ⟨n2, hn2⟩ : ∃ n, n = (parsedL l).length := ⟨_, rfl⟩
      rw [← hn2] at hR2 ⊢
      replace hn2 := hide hn2
      obtain ⟨e2, he2⟩ : ∃ e, e = parsedE l := ⟨_, rfl⟩
      rw [← he2]
      have hX := hide (pd_cells2 w2 (.slice A2 n2 c2) e2)
      have hb4 := (Below.refl w2.heap.size w2).alloc (Nat.le_refl _) (.cells #[.slice A2 n2 c2, .int .i64 e2] 45)
      have hF4 := hF3.alloc (.cells #[.slice A2 n2 c2, .int .i64 e2] 45)
      have hA4 := hide (hA3.below hb4)
      have hR4 := hide ((hR2.below hb4).more hb4.size)
      have hbw4 := hbw3.trans (hb4.mono hbw3.size)
      clear ho2 hR2 hA3 hb4
      by_cases hE : parsedE l = 0
      · obtain ⟨q, hq, hpl, hdep, hpat, hplain⟩ := of_parsed hE
        have hok := textQ_ok hq
        have hqs := textQ_size hq
        rw [hE] at he2
        subst he2
        rw [hpl] at hR4 hn2
        have k2 : n2 = q.size := by rw [hn2.out, Q.parts_len]
        have hn400 : n2 ≤ 400 := by omega
        have hq1 := q.size_pos
        have hn1 : 1 ≤ n2 := by omega
        replace k2 := hide k2
        have hER : errsR (q.parts 0) = errsL globG dosP (q.parts 0) := errsR_told _ (okQ_ops q 0 hok)
        clear hE hq hpl hpat hn2
        go_upto_region 6 with (fail)
        obtain ⟨w3, hw3⟩ : ∃ x, x = w2.alloc (.cells #[.slice A2 n2 c2, .int .i64 0] 45) := ⟨_, rfl⟩
        rw [← hw3] at hX hA4 hR4 hbw4 hF4 ⊢
        clear hw3 hF3
        have x0 : w3.cell? ⟨w2.heap.size, 0, none⟩ = some (.slice A2 n2 c2) := hX.out.cell 0
        have x1 : w3.cell? ⟨w2.heap.size, 1, none⟩ = some (.int .i64 0) := hX.out.cell 1
        have hxlt := hX.out.lt
        have hsz4 := hbw4.size
        replace hF4 := hide hF4
        go_wp2_with fail
        refine (rerrs_any w3 A2 n2 c2 (q.parts 0) hR4.out (by omega)).mono ?_
        rintro e w4 ⟨rfl, hb5⟩
        have hX5 := hX.out.below hb5 hxlt
        have hA5 := hA4.out.below hb5
        have hF5 := hF4.out.below hb5 hF4.out.lt
        have hR5 := (hR4.out.below hb5).more hb5.size
        have hbw5 := hbw4.trans (hb5.mono hsz4)
        have hsz5 := hbw5.size
        have hlt5 := hX5.lt
        clear hX hA4 hR4 hbw4 x0 x1 hb5 hsz4 hxlt hF4
        by_cases hEE : errsR (q.parts 0) = 0
        · have n0 : (errsR (q.parts 0) != 0) = false := by simp [hEE]
          have he0 : errsL globG dosP (q.parts 0) = 0 := by rw [← hER]; exact hEE
          have hne : normErr globG dosP q = 0 := by
            unfold normErr
            rw [if_neg (by omega)]; exact he0
          have hnr : normRes globG dosP q = normL globG dosP q := by unfold normRes; rw [if_pos hne]
          have hnl := normRes_len q hqs
          rw [hnr] at hnl
          have x0 : w4.cell? ⟨w2.heap.size, 0, none⟩ = some (.slice A2 n2 c2) := hX5.cell 0
          clear hEE hER
          replace hF5 := hide hF5
          go_wp2_with fail
          refine (norm_any w4 A2 n2 c2 q hR5 hok hplain (by omega) hA5.2.2.1 hA5.2.2.2).mono ?_
          rintro e w5 ⟨v5, rfl, ho6, hb6⟩
          rw [hne]
          rw [hnr] at ho6
          have hX6 := hX5.below hb6 hlt5
          have hF6 := hF5.out.below hb6 hF5.out.lt
          have hA6 := hA5.below hb6
          have hR6 := (hR5.below hb6).more hb6.size
          have hbw6 := hbw5.trans (hb6.mono hsz5)
          have x0 : w5.cell? ⟨w2.heap.size, 0, none⟩ = some (.slice A2 n2 c2) := hX6.cell 0
          obtain ⟨p0, p1, p2, p3, p4, p5, p6⟩ := file_cells hF6
          obtain ⟨A5, c5, rfl, hRN, -, -, -⟩ := ho6.form
          obtain ⟨R, hRq⟩ : ∃ R, R = layQ told1 q false := ⟨_, rfl⟩
          have hNL : normL globG dosP q = R.parts 0 := by rw [hRq]; rfl
          rw [hNL] at hRN hnl
          rw [hNL]
          have hflat : flatQ R := by rw [hRq]; exact flat_lay q false hok
          have hnf : Hid (allL nfP (R.parts 0) ((0 : Nat) : Int)) := by rw [Hid, hRq]; exact nf_lay q false 0 hok
          have hval : evN f found R = evR f found q := by
            rw [hRq, hold_law f found q hok he0 false]; simp
          obtain ⟨n5, hn5⟩ : ∃ n, n = (R.parts 0).length := ⟨_, rfl⟩
          rw [← hn5] at hRN hnl ⊢
          have hgood := good_of q hok (by rw [← errs_terms globG dosP q 0 hok]; exact he0)
          have hLr := hL.out
          have hcr := hc.out
          have hN : Hid (∀ wx, Below w5.heap.size w5 wx → Calls Tryz.prog 19 #[.slice A5 n5 c5, fileV f, .slice B m d] wx (BoolRet wx (evR f found q))) := by
            intro wx hb
            rw [← hval]
            have hbx := hbw6.trans (hb.mono hbw6.size)
            exact nholds_any wx A5 n5 c5 R ((hRN.below hb).more hb.size) hflat (by omega) f B m d found ((hLr.below hbx).more hbx.size) (by omega) (hA6.2.2.1.below hb) (by omega) hcr
          have hO : Hid (∀ wx, Below w5.heap.size w5 wx → Calls Tryz.prog 20 #[.slice A2 n2 c2, .int .i64 ((n2 : Int) - 1), fileV f, .slice B m d] wx (BoolRet wx (evR f found q))) := by
            intro wx hb
            have hbx := hbw6.trans (hb.mono hbw6.size)
            have e : ((n2 : Int) - 1) = ((q.size - 1 : Nat) : Int) := by have := k2.out; omega
            rw [e]
            exact rholds_any f found (q.parts 0) n2 c2 m d B (by omega) (by omega) (by omega) hvalid hcr q wx A2 (q.size - 1) hgood (parts_root q) ((hR6.below hb).more hb.size) ((hLr.below hbx).more hbx.size)
          unfold fileV at hN hO
          generalize evR f found q = bv at *
          have hltx := hX6.lt
          have hltf := hF6.lt
          have hS : Hid (∀ wx, Below w5.heap.size w5 wx → wx.cell? ⟨w2.heap.size, 0, none⟩ = some (.slice A2 n2 c2) ∧ wx.cell? ⟨w.heap.size, 0, none⟩ = some (.string (str f.name)) ∧ wx.cell? ⟨w.heap.size, 1, none⟩ = some (.int .i64 f.method) ∧ wx.cell? ⟨w.heap.size, 2, none⟩ = some (.int .i64 f.dos) ∧ wx.cell? ⟨w.heap.size, 3, none⟩ = some (.int .u32 f.crc) ∧ wx.cell? ⟨w.heap.size, 4, none⟩ = some (.int .i64 f.x4) ∧
              wx.cell? ⟨w.heap.size, 5, none⟩ = some (.int .i64 f.size) ∧ wx.cell? ⟨w.heap.size, 6, none⟩ = some (.int .i64 f.x6)) :=
            fun wx hb => ⟨(hb.cell (p := ⟨w2.heap.size, 0, none⟩) hltx).trans x0, file_cells (hF6.below hb hltf)⟩
          have hRN' := hide hRN
          have hbw6' := hide hbw6
          have hNl : Hid ((R.parts 0).length = n5) := hn5.symm
          have hn1' : (1 : Int) ≤ (n2 : Int) := by omega
          have hn2' : (n2 : Int) ≤ 400 := by omega
          have hwr2 : IntKind.i64.wrap ((n2 : Int) - 1) = (n2 : Int) - 1 := IntWalk.i64_in _ (by omega)
          clear hX5 hX6 hA5 hA6 hR5 hR6 hbw5 hb6 ho6 hne hnr hok hplain hdep hqs hn5 hF5 hF6 hRN hbw6 hflat hval hgood hNL hRq he0
          go_upto_region 9 with (fail)
          go_region_held3 (fun w' => w'.cell? ⟨w2.heap.size, 0, none⟩ = some (.slice A2 n2 c2) ∧ w'.cell? ⟨w.heap.size, 0, none⟩ = some (.string (str f.name)) ∧ w'.cell? ⟨w.heap.size, 1, none⟩ = some (.int .i64 f.method) ∧ w'.cell? ⟨w.heap.size, 2, none⟩ = some (.int .i64 f.dos) ∧ w'.cell? ⟨w.heap.size, 3, none⟩ = some (.int .u32 f.crc) ∧ w'.cell? ⟨w.heap.size, 4, none⟩ = some (.int .i64 f.x4) ∧
              w'.cell? ⟨w.heap.size, 5, none⟩ = some (.int .i64 f.size) ∧ w'.cell? ⟨w.heap.size, 6, none⟩ = some (.int .i64 f.x6)) (first | go_keep | (exact ⟨by assumption, by assumption, by assumption, by assumption, by assumption, by assumption, by assumption, by assumption⟩))
            (first
              | (go_at_call 19; refine (hN.out w5.drew (Below.refl _ _).drew).mono ?_; rintro e w6 ⟨rfl, hb7⟩; have hW := (show Below w5.heap.size w5 w6 from (Below.refl _ _).drew.trans hb7); obtain ⟨y0, y1, y2, y3, y4, y5, y6, y7⟩ := hS.out _ hW; replace hW := hide hW; clear hb7)
              | (go_at_call 20; refine (hO.out _ hW.out).mono ?_; rintro e w7 ⟨rfl, hb8⟩; have hW2 := hide (hW.out.trans (hb8.mono hW.out.size)); obtain ⟨z0, z1, z2, z3, z4, z5, z6, z7⟩ := hS.out _ hW2.out; clear hb8))
          all_goals
            have hRN7 := hide ((hRN'.out.below hW2.out).more hW2.out.size)
            have hbw7 := hide (hbw6'.out.trans (hW2.out.mono hbw6'.out.size))
            clear hN hO hS y0 y1 y2 y3 y4 y5 y6 y7 z0 z1 z2 z3 z4 z5 z6 z7
            have hbb : (bv != bv) = false := by cases bv <;> rfl
            go_wp2_with fail
            clear hbb hW hW2
            go_loopw [73] (fun v73 wr => ∃ k : Nat, v73 = .int .i64 k ∧ k ≤ n5 ∧ Below w7.heap.size w7 wr) (fun v73 _ => n5 - (intOf v73).toNat)
            case atStart => exact ⟨0, rfl, by omega, Below.refl _ _⟩
            case round =>
              obtain ⟨k, rfl, hk, hbl⟩ := hrel
              have hszl := hbl.size
              by_cases h1 : k < n5
              · have h1' : (k : Int) < (n5 : Int) := by omega
                have hkl : k < (R.parts 0).length := by have := hNl.out; omega
                obtain ⟨ad, rfl, hab, c0, c1, c2', c3, c4, c5', c6⟩ := (hRN7.out.below hbl).elem h1 hkl
                obtain ⟨g1, g2, g3, g4⟩ := allL_at nfP _ _ hnf.out k hkl
                generalize (R.parts 0)[k] = x at *
                have e3 : (x.kind == 3) = false := by simp [g1]
                have ha : ¬ (k : Int) ≤ x.a := by omega
                have hb : ¬ (k : Int) ≤ x.b := by omega
                have hbA := hide (hbl.alloc hszl (.cells #[.int .i64 x.kind, .int .i64 x.op, .int .i64 x.a, .int .i64 x.b, .int .i64 x.n, .string (str x.text), .bool x.isText] 54))
                have hBx := Blk.new wr 54 #[.int .i64 x.kind, .int .i64 x.op, .int .i64 x.a, .int .i64 x.b, .int .i64 x.n, .string (str x.text), .bool x.isText]
                go_upto_region 14 with (fail)
                obtain ⟨wa, hwa⟩ : ∃ y, y = wr.alloc (.cells #[.int .i64 x.kind, .int .i64 x.op, .int .i64 x.a, .int .i64 x.b, .int .i64 x.n, .string (str x.text), .bool x.isText] 54) := ⟨_, rfl⟩
                rw [← hwa] at hbA hBx ⊢
                clear hwa c0 c1 c2' c3 c4 c5' c6
                have y0 : wa.cell? ⟨wr.heap.size, 0, none⟩ = some (.int .i64 x.kind) := hBx.cell 0
                have y2 : wa.cell? ⟨wr.heap.size, 2, none⟩ = some (.int .i64 x.a) := hBx.cell 2
                have y3 : wa.cell? ⟨wr.heap.size, 3, none⟩ = some (.int .i64 x.b) := hBx.cell 3
                have y6 : wa.cell? ⟨wr.heap.size, 6, none⟩ = some (.bool x.isText) := hBx.cell 6
                clear hBx hbl g1 g3 g4
                by_cases h6 : x.kind = 6
                · have e6 : (x.kind == 6) = true := by simp [h6]
                  have ht : x.isText = false := by
                    cases hx : x.isText
                    · rfl
                    · exact absurd ⟨h6, hx⟩ g2
                  rw [ht] at y6
                  clear h6 g2
                  go_wp2_with fail
                  go_roundw
                  case rel => exact ⟨k + 1, by go_num, by omega, hbA.out⟩
                  case measure => simp [intOf]; omega
                · have e6 : (x.kind == 6) = false := by simp [h6]
                  clear h6 g2
                  go_wp2_with fail
                  go_roundw
                  case rel => exact ⟨k + 1, by go_num, by omega, hbA.out⟩
                  case measure => simp [intOf]; omega
              · have h1' : ¬ (k : Int) < (n5 : Int) := by omega
                go_wp2_with fail
                go_ret
                exact ⟨rfl, hbw7.out.trans (hbl.mono hbw7.out.size)⟩
        · have n0 : (errsR (q.parts 0) != 0) = true := by simp [hEE]
          clear hEE hER hX5 hA5 hR5 hF5
          go_wp2_with fail
          go_ret
          exact ⟨rfl, hbw5⟩
      · have n1 : (e2 != 0) = true := by rw [he2]; simp [hE]
        clear hE he2 hA4 hR4 hF4 hF3
        go_wp2_with fail
        go_ret
        exact ⟨rfl, hbw4⟩
end Go.Proofs.YtnhcamkccnaeeaaGreatDoor
namespace Go.Proofs.YtnhcamkccnaeeaaGreatDoor
open Go.RowKit
set_option linter.unusedVariables false

/-! ### Plain: a question behind a not -/
theorem parseQ_not1 {T : List Tok} {q : Q} (h : parseQ T = some q) : parseQ (notT :: lpT :: (T ++ [rpT])) = some (.neg q) := by
  apply parseQ_of_nots
  rw [notsP, show atW (notT :: lpT :: (T ++ [rpT])) 1 notW = true from rfl]
  simp only [List.tail_cons, if_true, List.length_cons]
  rw [nots_par h [] _ (by simp)]
theorem textQ_not1 {l : List UInt8} {q : Q} (h : textQ l = some q) (hl : l.length + 6 ≤ 400) : textQ ([110, 111, 116, 32, 40] ++ l ++ [41]) = some (.neg q) := by
  obtain ⟨h1, h2, h3⟩ := textQ_len h
  have e : sL ([110, 111, 116, 32, 40] ++ l ++ [41]) = (notT :: lpT :: ((sL l).1 ++ [rpT]), true) := by
    show sL ([110, 111, 116] ++ 32 :: (40 :: (l ++ 41 :: []))) = _
    rw [sL_join _ _ (by decide +kernel), sL_lp, sL_rp l [] h2]; rfl
  exact textQ_mk (by simp; omega) (by rw [e]) (by rw [e]; exact parseQ_not1 h3)
theorem str_not1 (s : ByteArray) : ByteArray.mk #[110, 111, 116, 32, 40] ++ s ++ ByteArray.mk #[41] = str ([110, 111, 116, 32, 40] ++ s.data.toList ++ [41]) := by
  have e1 : ByteArray.mk #[110, 111, 116, 32, 40] = str [110, 111, 116, 32, 40] := rfl
  have e2 : ByteArray.mk #[41] = str [41] := rfl
  rw [e1, e2]
  conv => lhs; rw [← str_eta s]
  rw [str_append, str_append]
theorem lay_size (T : Ask → Ask) : ∀ (q : Q) (t t' : Bool), (layQ T q t).size = (layQ T q t').size
  | .term a, t, t' => rfl
  | .neg q, t, t' => lay_size T q (!t) (!t')
  | .two k x y, t, t' => by
    show (layQ T x t).size + (layQ T y t).size + 1 = (layQ T x t').size + (layQ T y t').size + 1
    rw [lay_size T x t t', lay_size T y t t']
theorem pd_two (w : World) (v v' : Value) (e e' : Int) : Blk ((w.alloc (.cells #[v, .int .i64 e] 45)).alloc (.cells #[v', .int .i64 e'] 45)) w.heap.size 45 #[v, .int .i64 e] ∧ Blk ((w.alloc (.cells #[v, .int .i64 e] 45)).alloc (.cells #[v', .int .i64 e'] 45)) (w.heap.size + 1) 45 #[v', .int .i64 e'] ∧
    Below w.heap.size w ((w.alloc (.cells #[v, .int .i64 e] 45)).alloc (.cells #[v', .int .i64 e'] 45)) := by
  have h := Blk.new (w.alloc (.cells #[v, .int .i64 e] 45)) 45 #[v', .int .i64 e']
  rw [show (w.alloc (.cells #[v, .int .i64 e] 45)).heap.size = w.heap.size + 1 from by simp] at h
  exact ⟨(Blk.new w 45 _).alloc _, h, ((Below.refl _ _).alloc (Nat.le_refl _) _).alloc (by simp) _⟩
set_option maxRecDepth 100000 in
set_option maxHeartbeats 8000000 in
theorem normTurns_walk (w : World) (hA : Tabs w) (s : ByteArray) (f : FileV) (B : Option Addr) (m d : Nat) (found : List (List UInt8)) (hL : RSL w w.heap.size B m found) (hc : 0 ≤ f.crc ∧ f.crc ≤ 4294967295) :
    Calls Tryz.prog 6 #[.string s, fileV f, .slice B m d] w fun e w' => e = .returned (.bool true) ∧ Below w.heap.size w w' := by
  have hdl := hide (data_len s)
  have hF0 := file_box w f
  have hb0 := (Below.refl w.heap.size w).alloc (Nat.le_refl _) (.cells #[.string (str f.name), .int .i64 f.method, .int .i64 f.dos, .int .u32 f.crc, .int .i64 f.x4, .int .i64 f.size, .int .i64 f.x6] 38)
  obtain ⟨w0, hw0⟩ : ∃ y, y = w.alloc (.cells #[.string (str f.name), .int .i64 f.method, .int .i64 f.dos, .int .u32 f.crc, .int .i64 f.x4, .int .i64 f.size, .int .i64 f.x6] 38) := ⟨_, rfl⟩
  rw [← hw0] at hF0 hb0
  have hA0 := hA.below hb0
  replace hw0 := hide hw0
  replace hL := hide hL
  replace hc := hide hc
  clear hA
  unfold fileV
  go_enter Tryz.func6, Tryz.ntmps6
  go_upto_region 1 with (fail)
  rw [← hw0.out]
  go_wp2_with fail
  refine (wakes25_any w0 hA0).mono ?_
  rintro e w1 ⟨rfl, hb1⟩
  have hA1 := hide (hA0.below hb1)
  have hF1 := hF0.below hb1 hF0.lt
  have hbw1 := hide (hb0.trans (hb1.mono hb0.size))
  have hflt := hF1.lt
  obtain ⟨p0, p1, p2, p3, p4, p5, p6⟩ := file_cells hF1
  replace hF1 := hide hF1
  clear hA0 hF0 hb0 hb1
  obtain ⟨K, C, hcv, hKC⟩ := bytes_conv (str f.name)
  rw [str_toList, str_size] at hKC
  rw [str_size] at hcv
  replace hKC := hide hKC
  have hfi := run_rune_is
  have hfs : Hid ((str f.name).size = f.name.length) := str_size f.name
  go_upto_region 3 with (fail)
  go_cut [36] (fun v36 wx => GreatOk w1 300 f s m v36 wx)
  case first =>
    by_cases h5 : (300 : Int) < (s.size : Int)
    · go_wp2_with fail
      go_meet
      exact GreatOk.yes (Below.refl _ _)
    · by_cases h6 : (100 : Int) < ((str f.name).size : Int)
      · go_wp2_with fail
        go_meet
        exact GreatOk.yes (Below.refl _ _)
      · by_cases h7 : (20 : Int) < (m : Int)
        · go_wp2_with fail
          go_meet
          exact GreatOk.yes (Below.refl _ _)
        · have hnl : f.name.length ≤ 100 := by have := hfs.out; omega
          have hrd := hide (read_is ((w1.alloc (C w1)).drew) (some ⟨w1.heap.size, 0, none⟩) f.name.length (K w1) f.name ((show RB ((w1.alloc (C w1)).drew) (w1.heap.size + 1) (some ⟨w1.heap.size, 0, none⟩) f.name.length f.name from (hKC.out w1).2).more (by simp)) (by omega) (hKC.out w1).1)
          go_wp2_with fail
          refine hrd.out.mono ?_
          rintro e w2 ⟨⟨A', n', c', rfl⟩, hb2⟩
          have hs5 : s.size ≤ 300 := by omega
          have hm20 : m ≤ 20 := by omega
          have hbw : Below w1.heap.size w1 w2 := (((Below.refl w1.heap.size w1).alloc (Nat.le_refl _) (C w1)).drew).trans (hb2.mono (by simp))
          have hg : Hid (GreatOk w1 300 f s m (.bool (!Lib.validD f.name)) w2) := ⟨hbw, _, rfl, fun h => ⟨hs5, hnl, hm20, by simpa using h⟩⟩
          clear hrd hb2 hbw
          generalize Lib.validD f.name = vb at *
          go_wp2_with fail
          go_meet
          exact hg.out
  case rest =>
    obtain ⟨hbc, b, rfl, hok⟩ := hcut
    have hA2 := hide (hA1.out.below hbc)
    have hF2 := hF1.out.below hbc hflt
    have hbw2 := hbw1.out.trans (hbc.mono hbw1.out.size)
    have hflt2 := hF2.lt
    clear p0 p1 p2 p3 p4 p5 p6 hA1 hbw1 hbc hKC hcv hfs hF1
    cases b with
    | true =>
      go_wp2_with fail
      go_ret
      exact ⟨rfl, hbw2⟩
    | false =>
      obtain ⟨h500, hn100, hm20, hvalid⟩ := hok rfl
      clear hok
      have hnx := hide (str_not1 s)
      go_wp2_with fail
      refine (rparse_any s wc (by omega)).mono ?_
      rintro e w2 ⟨v2, rfl, ho2, hb2⟩
      have hszc := hbw2.size
      have hbw3 := hbw2.trans (hb2.mono hszc)
      have hF3 := hF2.below hb2 hflt2
      have hA3 := hA2.out.below hb2
      clear hb2 hA2 hF2 hbw2 hszc hflt2
      go_wp2_with fail
      rw [hnx.out]
      have hl300 : s.data.toList.length ≤ 300 := by have := hdl.out; omega
      obtain ⟨l, hl⟩ : ∃ l, l = s.data.toList := ⟨_, rfl⟩
      rw [← hl] at ho2 hl300 ⊢
      obtain ⟨l2, hl2⟩ : ∃ l2, l2 = [110, 111, 116, 32, 40] ++ l ++ [41] := ⟨_, rfl⟩
      rw [← hl2]
      have hl2len : l2.length ≤ 400 := by rw [hl2]; simp; omega
      have hqq : Hid (∀ q, textQ l = some q → textQ l2 = some (.neg q)) := fun q h => by rw [hl2]; exact textQ_not1 h (by omega)
      replace hl2 := hide hl2
      clear hl hnx
      refine (rparse_any (str l2) w2 (by rw [str_size]; omega)).mono ?_
      rintro e w3 ⟨v3, rfl, ho3, hb3⟩
      rw [str_toList] at ho3 ⊢
      have hbw4 := hbw3.trans (hb3.mono hbw3.size)
      have hF4 := hF3.below hb3 hF3.lt
      have hA4 := hA3.below hb3
      have ho2' := ho2.below hb3 (Nat.le_refl _)
      obtain ⟨A2, c2, rfl, hR2, -, -, -⟩ := ho2'.form
      obtain ⟨A3, c3, rfl, hR3, -, -, -⟩ := ho3.form
      obtain ⟨n2, hn2⟩ : ∃ n, n = (parsedL l).length := ⟨_, rfl⟩
      obtain ⟨n3, hn3⟩ : ∃ n, n = (parsedL l2).length := ⟨_, rfl⟩
      rw [← hn2] at hR2 ⊢
      rw [← hn3] at hR3 ⊢
      replace hn2 := hide hn2
      replace hn3 := hide hn3
      obtain ⟨e2, he2⟩ : ∃ e, e = parsedE l := ⟨_, rfl⟩
      obtain ⟨e3, he3⟩ : ∃ e, e = parsedE l2 := ⟨_, rfl⟩
      rw [← he2, ← he3]
      replace he2 := hide he2
      replace he3 := hide he3
      obtain ⟨hX, hY, hb5⟩ := pd_two w3 (.slice A2 n2 c2) (.slice A3 n3 c3) e2 e3
      go_upto_region 6 with (fail)
      obtain ⟨w4, hw4⟩ : ∃ x, x = (w3.alloc (.cells #[.slice A2 n2 c2, .int .i64 e2] 45)).alloc (.cells #[.slice A3 n3 c3, .int .i64 e3] 45) := ⟨_, rfl⟩
      rw [← hw4] at hX hY hb5 ⊢
      clear hw4
      replace he2 := he2.out
      replace he3 := he3.out
      have hbw5 := hbw4.trans (hb5.mono hbw4.size)
      have hF5 := hF4.below hb5 hF4.lt
      have hA5 := hA4.below hb5
      have hR25 := (hR2.below hb5).more hb5.size
      have hR35 := (hR3.below hb5).more hb5.size
      have x0 : w4.cell? ⟨w3.heap.size, 0, none⟩ = some (.slice A2 n2 c2) := hX.cell 0
      have x1 : w4.cell? ⟨w3.heap.size, 1, none⟩ = some (.int .i64 e2) := hX.cell 1
      have y0 : w4.cell? ⟨w3.heap.size + 1, 0, none⟩ = some (.slice A3 n3 c3) := hY.cell 0
      have y1 : w4.cell? ⟨w3.heap.size + 1, 1, none⟩ = some (.int .i64 e3) := hY.cell 1
      replace hX := hide hX
      replace hY := hide hY
      replace hF5 := hide hF5
      replace hA5 := hide hA5
      replace hR25 := hide hR25
      replace hR35 := hide hR35
      replace hbw5 := hide hbw5
      clear ho2 ho2' ho3 hR2 hR3 hF3 hF4 hA3 hA4 hbw3 hbw4 hb3 hb5
      by_cases hE : parsedE l = 0
      · obtain ⟨q, hq, hpl, hdep, hpat, hplain⟩ := of_parsed hE
        have hq2 := hqq.out q hq
        have hok := textQ_ok hq
        have hqs := textQ_size hq
        rw [hE] at he2
        subst he2
        by_cases hE2 : parsedE l2 = 0
        · obtain ⟨qy, hqy, hply, hdepy, hpaty, hplainy⟩ := of_parsed hE2
          obtain rfl : qy = .neg q := by rw [hq2] at hqy; exact (Option.some.inj hqy).symm
          have hqsy := textQ_size hqy
          rw [hE2] at he3
          subst he3
          rw [hpl] at hn2 hR25
          rw [hply] at hn3 hR35
          have k2 : n2 = q.size := by rw [hn2.out, Q.parts_len]
          have k3 : n3 = (Q.neg q).size := by rw [hn3.out, Q.parts_len]
          have hn400 : n2 ≤ 400 := by omega
          have hn400' : n3 ≤ 400 := by omega
          have hER : errsR (q.parts 0) = errsL globG dosP (q.parts 0) := errsR_told _ (okQ_ops q 0 hok)
          have hsz5 := hbw5.out.size
          clear hE hE2 hq hqy hq2 hpl hply hpat hpaty hn2 hn3 k2 k3 hqq
          go_wp2_with fail
          refine (rerrs_any w4 A2 n2 c2 (q.parts 0) hR25.out (by omega)).mono ?_
          rintro e w5 ⟨rfl, hb6⟩
          have hX6 := hX.out.below hb6 hX.out.lt
          have hY6 := hY.out.below hb6 hY.out.lt
          have hF6 := hF5.out.below hb6 hF5.out.lt
          have hA6 := hA5.out.below hb6
          have hR26 := (hR25.out.below hb6).more hb6.size
          have hR36 := (hR35.out.below hb6).more hb6.size
          have hbw6 := hbw5.out.trans (hb6.mono hsz5)
          clear x0 x1 y0 y1 hX hY hF5 hA5 hR25 hR35 hbw5 hb6
          by_cases hEE : errsR (q.parts 0) = 0
          · have n0 : (errsR (q.parts 0) != 0) = false := by simp [hEE]
            have he0 : errsL globG dosP (q.parts 0) = 0 := by rw [← hER]; exact hEE
            have hne : normErr globG dosP q = 0 := by
              unfold normErr
              rw [if_neg (by omega)]; exact he0
            have hney : normErr globG dosP (.neg q) = 0 := by
              unfold normErr
              rw [if_neg (by omega), errs_terms globG dosP (.neg q) 0 hok]
              rw [errs_terms globG dosP q 0 hok] at he0
              exact he0
            have hnr : normRes globG dosP q = (layQ told1 q false).parts 0 := by unfold normRes; rw [if_pos hne]; rfl
            have hnry : normRes globG dosP (.neg q) = (layQ told1 q true).parts 0 := by unfold normRes; rw [if_pos hney]; rfl
            have hnl := normRes_len q hqs
            rw [hnr] at hnl
            have x0 : w5.cell? ⟨w3.heap.size, 0, none⟩ = some (.slice A2 n2 c2) := hX6.cell 0
            clear hEE hER
            replace hF6 := hide hF6
            replace hY6 := hide hY6
            have hokH := hide hok
            have hplH := hide hplain
            have hplyH := hide hplainy
            clear hdep hdepy
            go_wp2_with fail
            refine (norm_any w5 A2 n2 c2 q hR26 hok hplain (by omega) hA6.2.2.1 hA6.2.2.2).mono ?_
            rintro e w6 ⟨v5, rfl, ho6, hb7⟩
            rw [hne]
            rw [hnr] at ho6
            have hY7 := hY6.out.below hb7 hY6.out.lt
            have hF7 := hide (hF6.out.below hb7 hF6.out.lt)
            have hA7 := hA6.below hb7
            have hR37 := (hR36.below hb7).more hb7.size
            have hbw7 := hbw6.trans (hb7.mono hbw6.size)
            have y0 : w6.cell? ⟨w3.heap.size + 1, 0, none⟩ = some (.slice A3 n3 c3) := hY7.cell 0
            obtain ⟨A5, c5, rfl, hRN, -, -, -⟩ := ho6.form
            obtain ⟨n5, hn5⟩ : ∃ n, n = ((layQ told1 q false).parts 0).length := ⟨_, rfl⟩
            rw [← hn5] at hRN hnl ⊢
            clear hX6 hY6 hF6 hA6 hR26 hR36 hbw6 hb7 ho6 x0
            replace hRN := hide hRN
            replace hn5 := hide hn5
            go_wp2_with fail
            refine (norm_any w6 A3 n3 c3 (.neg q) hR37 hok hplainy (by omega) hA7.2.2.1 hA7.2.2.2).mono ?_
            rintro e w7 ⟨v6, rfl, ho7, hb8⟩
            rw [hney]
            rw [hnry] at ho7
            have hF8 := hF7.out.below hb8 hF7.out.lt
            have hA8 := hA7.below hb8
            have hRN8 := (hRN.out.below hb8).more hb8.size
            have hbw8 := hbw7.trans (hb8.mono hbw7.size)
            obtain ⟨A6, c6, rfl, hRM, -, -, -⟩ := ho7.form
            have hn6 : ((layQ told1 q true).parts 0).length = n5 := by rw [hn5.out, Q.parts_len, Q.parts_len]; exact lay_size told1 q true false
            rw [hn6]
            rw [hn6] at hRM
            obtain ⟨p0, p1, p2, p3, p4, p5, p6⟩ := file_cells hF8
            have hv1 : evN f found (layQ told1 q false) = evR f found q := by rw [hold_law f found q hok he0 false]; simp
            have hv2 : evN f found (layQ told1 q true) = !evR f found q := by rw [hold_law f found q hok he0 true]; simp
            have hLr := hL.out
            have hcr := hc.out
            have hN : Hid (∀ wx, Below w7.heap.size w7 wx → Calls Tryz.prog 19 #[.slice A5 n5 c5, fileV f, .slice B m d] wx (BoolRet wx (evR f found q))) := by
              intro wx hb
              rw [← hv1]
              have hbx := hbw8.trans (hb.mono hbw8.size)
              exact nholds_any wx A5 n5 c5 _ ((hRN8.below hb).more hb.size) (flat_lay q false hok) (by omega) f B m d found ((hLr.below hbx).more hbx.size) (by omega) (hA8.2.2.1.below hb) (by omega) hcr
            have hM : Hid (∀ wx, Below w7.heap.size w7 wx → Calls Tryz.prog 19 #[.slice A6 n5 c6, fileV f, .slice B m d] wx (BoolRet wx (!evR f found q))) := by
              intro wx hb
              rw [← hv2]
              have hbx := hbw8.trans (hb.mono hbw8.size)
              exact nholds_any wx A6 n5 c6 _ ((hRM.below hb).more hb.size) (flat_lay q true hok) (by omega) f B m d found ((hLr.below hbx).more hbx.size) (by omega) (hA8.2.2.1.below hb) (by omega) hcr
            unfold fileV at hN hM
            generalize evR f found q = bv at *
            have hltf := hF8.lt
            have hS : Hid (∀ wx, Below w7.heap.size w7 wx → wx.cell? ⟨w.heap.size, 0, none⟩ = some (.string (str f.name)) ∧ wx.cell? ⟨w.heap.size, 1, none⟩ = some (.int .i64 f.method) ∧ wx.cell? ⟨w.heap.size, 2, none⟩ = some (.int .i64 f.dos) ∧ wx.cell? ⟨w.heap.size, 3, none⟩ = some (.int .u32 f.crc) ∧ wx.cell? ⟨w.heap.size, 4, none⟩ = some (.int .i64 f.x4) ∧
                wx.cell? ⟨w.heap.size, 5, none⟩ = some (.int .i64 f.size) ∧ wx.cell? ⟨w.heap.size, 6, none⟩ = some (.int .i64 f.x6)) :=
              fun wx hb => file_cells (hF8.below hb hltf)
            have hbw8' := hide hbw8
            clear hY7 hF7 hF8 hA7 hA8 hR37 hbw7 hb8 ho7 hne hney hnr hnry hok hplain hplainy hokH hplH hplyH hqs hqsy hRN hRN8 hRM hv1 hv2 hbw8 hn6 hn5 he0 y0
            go_upto_region 10 with (fail)
            go_region_held3 (fun w' => w'.cell? ⟨w.heap.size, 0, none⟩ = some (.string (str f.name)) ∧ w'.cell? ⟨w.heap.size, 1, none⟩ = some (.int .i64 f.method) ∧ w'.cell? ⟨w.heap.size, 2, none⟩ = some (.int .i64 f.dos) ∧ w'.cell? ⟨w.heap.size, 3, none⟩ = some (.int .u32 f.crc) ∧ w'.cell? ⟨w.heap.size, 4, none⟩ = some (.int .i64 f.x4) ∧
                w'.cell? ⟨w.heap.size, 5, none⟩ = some (.int .i64 f.size) ∧ w'.cell? ⟨w.heap.size, 6, none⟩ = some (.int .i64 f.x6)) (first | go_keep | (exact ⟨by assumption, by assumption, by assumption, by assumption, by assumption, by assumption, by assumption⟩))
              (first
                | (go_at_call 19; refine (hM.out _ hW.out).mono ?_; rintro e w9 ⟨rfl, hb8⟩; have hW2 := hide (hW.out.trans (hb8.mono hW.out.size)); obtain ⟨z1, z2, z3, z4, z5, z6, z7⟩ := hS.out _ hW2.out; clear hb8)
                | (go_at_call 19; refine (hN.out w7.drew (Below.refl _ _).drew).mono ?_; rintro e w8 ⟨rfl, hb7⟩; have hW := (show Below w7.heap.size w7 w8 from (Below.refl _ _).drew.trans hb7); obtain ⟨r1, r2, r3, r4, r5, r6, r7⟩ := hS.out _ hW; replace hW := hide hW; clear hb7))
            all_goals
              have hbw9 := hide (hbw8'.out.trans (hW2.out.mono hbw8'.out.size))
              clear hN hM hS r1 r2 r3 r4 r5 r6 r7 z1 z2 z3 z4 z5 z6 z7
              go_wp2_with fail
              go_ret
              exact ⟨by cases bv <;> rfl, hbw9.out⟩
          · have n0 : (errsR (q.parts 0) != 0) = true := by simp [hEE]
            clear hEE hER hX6 hY6 hA6 hR26 hR36 hF6
            go_wp2_with fail
            go_ret
            exact ⟨rfl, hbw6⟩
        · have n1 : (e3 != 0) = true := by rw [he3]; simp [hE2]
          clear hE hE2 he3 hX hY hA5 hR25 hR35 hF5 hqq hq hq2 hpl
          go_wp2_with fail
          go_ret
          exact ⟨rfl, hbw5.out⟩
      · have n1 : (e2 != 0) = true := by rw [he2]; simp [hE]
        clear hE he2 he3 hX hY hA5 hR25 hR35 hF5 hqq
        go_wp2_with fail
        go_ret
        exact ⟨rfl, hbw5.out⟩
end Go.Proofs.YtnhcamkccnaeeaaGreatDoor
