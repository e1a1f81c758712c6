/-
  Contract of parse.Text; what the questions of a text are.
  The walk of the law ParseAll.
-/
import Derived.Test.YtnbfblikpoblgaaDoorOneR
import Derived.Test.YtnbfblikpoblgaaDoorRpH
import Derived.Test.YtnbfblikpoblgaaDoorParW
import Derived.Test.YtnbfblikpoblgaaDoorTextQ
import Derived.Test.YtnbfblikpoblgaaDoorSame
import Derived.Test.YtnbfblikpoblgaaDoorParL
namespace Go.Proofs.YtnbfblikpoblgaaDoor
open Go.RowKit
set_option linter.unusedVariables false

set_option maxRecDepth 100000 in
set_option maxHeartbeats 1000000 in
theorem qtext_any (m : Int) (A : Option Addr) (c : Nat) (q : Q) (w : World) (hq : okQ q) (hpl : q.plain) (hd : q.depth ≤ 16) (hw : OneW m A q.size (q.parts 0) w.heap.size w) (hn : q.size ≤ 100000) :
    Calls Tryd.prog 29 #[.slice A q.size c] w fun e w' => e = .returned (.string (str (qTxt q))) ∧ Below w.heap.size w w' := by
  have hdP : Hid (deepL (q.parts 0) = q.depth) := deepL_tree q hpl
  have hone : Hid (∀ wx, Below w.heap.size w wx → Calls Tryd.prog 47 #[.slice A q.size c, .int .i64 ((q.size : Int) - 1)] wx fun e w' => e = .returned (.string (str (qTxt q))) ∧ Below wx.heap.size wx w') := by
    intro wx hb
    exact one_any m A q.size c (q.parts 0) w.heap.size hn q [] [] _ wx hq (by simp) (by simp) (hw.below hb (Nat.le_refl _))
  have hqp := q.size_pos
  replace hw := hide hw
  clear hq hpl
  go_enter Tryd.func29, Tryd.ntmps29
  go_wp2_with fail
  refine (deep_any w A q.size c (q.parts 0) hw.out.1 hn).mono ?_
  rintro e w1 ⟨rfl, hb1⟩
  rw [hdP.out]
  clear hdP hw
  generalize q.depth = dd at *
  go_wp2_with fail
  refine (hone.out w1 hb1).mono ?_
  rintro e w2 ⟨rfl, hb2⟩
  have hbw := hb1.trans (hb2.mono hb1.size)
  obtain ⟨s, hs⟩ : ∃ s, s = str (qTxt q) := ⟨_, rfl⟩
  rw [← hs]
  replace hs := hide hs
  clear hone hb2
  go_wp2_with fail
  go_ret
  exact ⟨by rw [← hs.out]; rfl, hbw⟩

theorem takeWhile_digits (p : UInt8 → Bool) : ∀ l : List UInt8, ∀ c ∈ l.takeWhile p, p c = true
  | [], c, h => by simp at h
  | a :: l, c, h => by
    rw [List.takeWhile_cons] at h
    split at h
    · rename_i ha
      rcases List.mem_cons.1 h with rfl | h
      · exact ha
      · exact takeWhile_digits p l c h
    · simp at h
theorem tokL_good (l : List UInt8) (p : Nat) (x : Tok × Nat) (h : tokL l p = some x) : 0 ≤ x.1.n ∧ x.1.n < 1000000000000000 := by
  unfold tokL at h
  split at h
  · cases h; exact ⟨by show (0 : Int) ≤ 0; omega, by show (0 : Int) < _; omega⟩
  · split at h
    · split at h
      · cases h
      · rename_i hb
        cases h
        have hd := takeWhile_digits digitB l
        generalize l.takeWhile digitB = d at *
        have h15 : d.length ≤ 15 := by
          unfold numBad at hb
          simp at hb
          omega
        have := numOf_bounds d hd d.length (Nat.le_refl _)
        rw [List.take_length] at this
        have h2 : (10 : Int) ^ d.length ≤ 10 ^ 15 := by
          have : (10 : Nat) ^ d.length ≤ 10 ^ 15 := Nat.pow_le_pow_right (by omega) h15
          exact_mod_cast this
        have h3 : (10 : Int) ^ 15 = 1000000000000000 := by decide
        show 0 ≤ numOf d ∧ numOf d < _
        omega
    · split at h
      · obtain ⟨y, _, e⟩ := Option.map_eq_some_iff.1 h
        rw [← e]
        exact ⟨by show (0 : Int) ≤ 0; omega, by show (0 : Int) < _; omega⟩
      · split at h
        · cases h
        · cases h; exact ⟨by show (0 : Int) ≤ 0; omega, by show (0 : Int) < _; omega⟩
theorem toksF_good (f p : Nat) (l : List UInt8) : ∀ t ∈ (toksF f p l).1, 0 ≤ t.n ∧ t.n < 1000000000000000 := by
  induction f generalizing p l with
  | zero => intro t ht; simp [toksF] at ht
  | succ f ih =>
    cases l with
    | nil => intro t ht; simp [toksF] at ht
    | cons c r =>
      rw [toksF]
      split
      · exact ih _ _
      · cases ht : tokL (c :: r) p with
        | none => intro t h; simp at h
        | some x =>
          obtain ⟨t, k⟩ := x
          intro t' h
          simp only [List.mem_cons] at h
          rcases h with rfl | h
          · exact tokL_good _ _ _ ht
          · exact ih _ _ _ h
theorem sL_ok (l : List UInt8) (hl : l.length ≤ 400) : TokOk (sL l).1 := by
  intro t ht
  have ht' : t ∈ (toksF l.length 0 l).1.map strip := ht
  obtain ⟨u, hu, rfl⟩ := List.mem_map.1 ht'
  have h1 := toksF_ok _ _ _ u hu
  have h2 := toksF_good _ _ _ u hu
  have h3 := (toksF_text l.length 0 l).2 u hu
  exact ⟨h1.1, h1.2, h2.1, h2.2, by show u.text.length ≤ 400; omega⟩
theorem TokOk.okT {T : List Tok} (h : TokOk T) : OkT T := fun t ht => ⟨(h t ht).1, (h t ht).2.1⟩
theorem textQ_ok {l : List UInt8} {q : Q} (h : textQ l = some q) : okQ q := by
  obtain ⟨h1, h2, h3⟩ := textQ_len h
  have ho := sL_ok l h1
  exact G_ok ((parseQ_iff ho.okT q).1 h3) ho
theorem textQ_size {l : List UInt8} {q : Q} (h : textQ l = some q) : q.size ≤ 400 := by
  obtain ⟨h1, h2, h3⟩ := textQ_len h
  have ho := sL_ok l h1
  have h4 := G_size ((parseQ_iff ho.okT q).1 h3)
  have h5 : (sL l).1.length = (toksF l.length 0 l).1.length := by show ((toksF l.length 0 l).1.map strip).length = _; simp
  have := (toksF_text l.length 0 l).1
  omega
theorem parsedL_bad {l : List UInt8} (h : parsedE l ≠ 0) : parsedL l = [] := by
  unfold parsedE at h
  unfold parsedL
  split
  · rename_i h0
    rw [if_pos h0] at h
    unfold parseE at h
    unfold parseL
    cases hq : parseQ (lexL l) with
    | none => rfl
    | some q =>
      rw [hq] at h
      dsimp only at h ⊢
      split
      · rfl
      · rename_i h1
        rw [if_neg h1] at h
        split
        · rfl
        · rename_i h2
          rw [if_neg h2] at h; exact absurd rfl h
  · rfl
theorem parsed_long {l : List UInt8} (h : 400 < l.length) : parsedE l = 10 := by
  have e : lexE l = 10 := by rw [lexE, if_pos h]
  unfold parsedE
  rw [if_neg (by rw [e]; decide), e]
end Go.Proofs.YtnbfblikpoblgaaDoor
namespace Go.Proofs.YtnbfblikpoblgaaDoor
open Go.RowKit
set_option linter.unusedVariables false

theorem qE_good {q : Q} (h1 : q.depth ≤ 16) (h2 : patsL (q.parts 0) ≤ 8) : qE q = 0 ∧ qL q = q.parts 0 := by
  unfold qE qL
  rw [if_neg (by omega), if_neg (by omega), if_neg (by omega), if_neg (by omega)]
  exact ⟨rfl, rfl⟩
set_option maxRecDepth 100000 in
set_option maxHeartbeats 4000000 in
theorem parseAll_walk (w : World) (m : Int) (hA : Asp w) (hW : Pow w) (hM : w.cell? ⟨2, 0, none⟩ = some (.int .i64 m)) (hg1 : 0 < w.heap.size) (hg2 : 5 < w.heap.size) (hg3 : 2 < w.heap.size) (s : ByteArray) :
    Calls Tryd.prog 9 #[.string s] w fun e w' => e = .returned (.bool true) ∧ Below w.heap.size w w' := by
  have hA' := hide hA
  have hW' := hide hW
  have hM' := hide hM
  clear hA hW hM
  go_enter Tryd.func9, Tryd.ntmps9
  go_wp2_with fail
  refine (wakes24_any w hA'.out hg1).mono ?_
  rintro e w1 ⟨rfl, hb1⟩
  have hA1 := hide (asp_below hA'.out hb1 hg1)
  have hsz1 := hb1.size
  by_cases h1000 : s.size ≤ 1000
  · go_wp2_with fail
    refine (parse_all s w1 hA1.out (by omega)).mono ?_
    rintro e w2 ⟨v2, rfl, ho2, hb2⟩
    have hbw2 := hb1.trans (hb2.mono hsz1)
    have hsz2 := hbw2.size
    have hA2 := hide (asp_below hA1.out (hb2.mono hsz1) hg1)
    have hll : (parsedL s.data.toList).length ≤ 400 := by
      by_cases hE : parsedE s.data.toList = 0
      · obtain ⟨q, hq, hl, -⟩ := of_parsed hE
        rw [hl, Q.parts_len]
        exact textQ_size hq
      · rw [parsedL_bad hE]; simp
    obtain ⟨lA, lc, rfl, hRA, -, -, -⟩ := ho2.form
    replace hRA := hide hRA
    clear ho2 hb2
    go_wp2_with fail
    refine (rparse_any s w2 (by omega)).mono ?_
    rintro e w3 ⟨v3, rfl, ho3, hb3⟩
    obtain ⟨rA, rc, rfl, hRR, -, -, -⟩ := ho3.form
    have hbw3 := hbw2.trans (hb3.mono hsz2)
    have hsz3 := hbw3.size
    have hRA3 := hide ((hRA.out.below hb3).more hb3.size)
    have hRR3 := hide hRR
    have hA3 := hide (asp_below hA2.out (hb3.mono hsz2) hg1)
    clear ho3 hRR hRA hb3
    obtain ⟨N, hN⟩ : ∃ n, n = (parsedL s.data.toList).length := ⟨_, rfl⟩
    rw [← hN] at hRA3 hRR3 hll ⊢
    obtain ⟨ee, hee⟩ : ∃ n, n = parsedE s.data.toList := ⟨_, rfl⟩
    rw [← hee]
    obtain ⟨w4, hw4⟩ : ∃ x, x = w3.alloc (.cells #[.slice rA N rc, .int .i64 ee] 57) := ⟨_, rfl⟩
    have hb4 : Below w.heap.size w w4 := by rw [hw4]; exact hbw3.alloc hsz3 _
    have hs4 : w4.heap.size = w3.heap.size + 1 := by rw [hw4]; simp
    have hRA4 : Hid (RA w4 w4.heap.size lA N (parsedL s.data.toList)) := by rw [hs4, hw4]; exact (Reads.alloc hRA3.out (Nat.le_refl _) _).more (Nat.le_succ _)
    have hRR4 : Hid (RA w4 w4.heap.size rA N (parsedL s.data.toList)) := by rw [hs4, hw4]; exact (Reads.alloc hRR3.out (Nat.le_refl _) _).more (Nat.le_succ _)
    have hsz4 := hb4.size
    replace hN := hide hN
    replace hee := hide hee
    replace hw4 := hide hw4
    clear hs4 hRA3 hRR3 hA3
    go_wp2_with fail
    rw [← hw4.out]
    refine (sameAsks_any w4 lA rA N lc rc (parsedL s.data.toList) hRA4.out hRR4.out (by omega)).mono ?_
    rintro e w5 ⟨rfl, hb5⟩
    have hbw5 := hb4.trans (hb5.mono hsz4)
    have hRA5 := hide ((hRA4.out.below hb5).more hb5.size)
    have hsz5 := hbw5.size
    clear hb5 hRA4 hRR4 hw4
    by_cases hE : ee = 0
    · obtain ⟨q, hq, hl, hd, hp, hpl⟩ := of_parsed (hee.out.symm.trans hE)
      subst hE
      rw [hl] at hRA5
      have hNq : N = q.size := by rw [hN.out, hl, Q.parts_len]
      have hokq := hide (textQ_ok hq)
      subst hNq
      have hdP : Hid (deepL (q.parts 0) = q.depth) := deepL_tree q hpl
      have hqp := q.size_pos
      replace hpl := hide hpl
      replace hp := hide hp
      replace hq := hide hq
      clear hl hN hee
      go_wp2_with fail
      refine (deep_any w5 lA q.size lc (q.parts 0) hRA5.out (by omega)).mono ?_
      rintro e w6 ⟨rfl, hb6⟩
      rw [hdP.out]
      have hbw6 := hbw5.trans (hb6.mono hsz5)
      have hRA6 := hide ((hRA5.out.below hb6).more hb6.size)
      have hsz6 := hbw6.size
      obtain ⟨dd, hdd⟩ : ∃ d, d = q.depth := ⟨_, rfl⟩
      rw [← hdd] at hd ⊢
      replace hdd := hide hdd
      clear hb6 hRA5
      have HD : Hid (Calls Tryd.prog 28 #[.slice lA q.size lc, .int .i64 ((q.size : Int) - 1)] w6 fun e w' => e = .returned (.int .i64 (dd : Int)) ∧ w6 = w') := by
        rw [Hid, hdd.out]
        exact (rdeep_any w6 _ lA q.size lc (q.parts 0) hRA6.out (by omega) q [] [] _ hpl.out (by simp) (by simp)).mono fun e w' ⟨h1, h2⟩ => ⟨h1, h2.symm⟩
      go_wp2_with fail
      refine HD.out.mono ?_
      rintro e w' ⟨rfl, rfl⟩
      clear HD
      go_wp2_with fail
      refine (deep_any w6 lA q.size lc (q.parts 0) hRA6.out (by omega)).mono ?_
      rintro e w7 ⟨rfl, hb7⟩
      rw [hdP.out, ← hdd.out]
      have hbw7 := hbw6.trans (hb7.mono hsz6)
      have hRA7 := hide ((hRA6.out.below hb7).more hb7.size)
      have hsz7 := hbw7.size
      clear hb7 hRA6
      have hOW : Hid (OneW m lA q.size (q.parts 0) w7.heap.size w7) :=
        ⟨hRA7.out, Nat.le_refl _, asp_below hA'.out hbw7 hg1, pow_below hW'.out hbw7 hg2, (hbw7.cell (p := ⟨2, 0, none⟩) hg3).trans hM'.out, by omega, by omega, by omega⟩
      go_wp2_with fail
      refine (qtext_any m lA lc q w7 hokq.out hpl.out (by have := hdd.out; omega) hOW.out (by omega)).mono ?_
      rintro e w8 ⟨rfl, hb8⟩
      have hbw8 := hbw7.trans (hb8.mono hsz7)
      have hRA8 := hide ((hRA7.out.below hb8).more hb8.size)
      have hA8 := hide (asp_below hA'.out hbw8 hg1)
      have hsz8 := hbw8.size
      have htz : (str (qTxt q)).size ≤ 400000 := by
        rw [str_size]; have := qTxt_len hokq.out; omega
      obtain ⟨t, ht⟩ : ∃ t, t = str (qTxt q) := ⟨_, rfl⟩
      rw [← ht] at htz ⊢
      have htl : Hid (t.data.toList = qTxt q) := by rw [Hid, ht, str_toList]
      have htn : Hid (t.size = (qTxt q).length) := by rw [Hid, ht, str_size]
      clear hb8 hRA7 hOW ht
      go_wp2_with fail
      refine (parse_any t w8 (by omega) hA8.out (by omega)).mono ?_
      rintro e w9 ⟨v9, rfl, ho9, hb9⟩
      have hbw9 := hbw8.trans (hb9.mono hsz8)
      have hRA9 := hide ((hRA8.out.below hb9).more hb9.size)
      have hsz9 := hbw9.size
      rw [htl.out] at ho9 ⊢
      clear hb9 hRA8
      by_cases h400 : 400 < t.size
      · have hpe := parsed_long (l := qTxt q) (by have := htn.out; omega)
        rw [hpe]
        obtain ⟨yA, yc, rfl, -, -, -, -⟩ := ho9.form
        clear ho9 hpe
        go_wp2_with fail
        go_ret
        exact ⟨rfl, hbw9⟩
      · have hq2 := textQ_qTxt hokq.out (by have := htn.out; omega)
        have hpa := parsed_of hq2
        obtain ⟨e1, e2⟩ := qE_good (q := q) (by have := hdd.out; omega) hp.out
        rw [hpa.1, e1]
        rw [hpa.2, e2, Q.parts_len] at ho9
        obtain ⟨yA, yc, rfl, hRY, -, -, -⟩ := ho9.form
        replace hRY := hide hRY
        clear ho9 hpa e1 e2 hq2
        go_wp2_with fail
        refine (sameAsks_any w9 yA lA q.size yc lc (q.parts 0) hRY.out hRA9.out (by omega)).mono ?_
        rintro e w10 ⟨rfl, hb10⟩
        have hbw10 := hbw9.trans (hb10.mono hsz9)
        clear hb10 hRY hRA9
        go_wp2_with fail
        go_ret
        exact ⟨rfl, hbw10⟩
    · have n1 : (ee != 0) = true := by simp [hE]
      clear hE hee hRA5
      go_wp2_with fail
      go_ret
      exact ⟨rfl, hbw5⟩
  · go_wp2_with fail
    go_ret
    exact ⟨rfl, hb1⟩
end Go.Proofs.YtnbfblikpoblgaaDoor
