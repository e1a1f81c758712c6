/-
  Contract of the reference's inquestref06.All at a whole packing.
-/
import Derived.Test.YtbchaomnjbkdhaaGreatEJ
import Derived.Test.YtbchaomnjbkdhaaGreatEP
namespace Go.Proofs.YtbchaomnjbkdhaaGreat
open Go.RowKit Go.Sort Go.Proofs
set_option linter.unusedVariables false
def RAllRet (w : World) (b : List UInt8) (m : Nat) (e : Ending) (w' : World) : Prop :=
  ∃ v, e = .returned (.agg #[v, .int .i64 (((m + 7) / 8 : Nat) : Int), .int .i64 0]) ∧ OB w' w.heap.size v b.length b ∧ Below w.heap.size w w'
/-- The first two numbers of a stream. -/
theorem first_two {l : List UInt8} {K : Nat} (hA : Agr l 0 (loB 1 1 ++ loB 2 K)) (hK : K ≤ 2) (hl : 3 ≤ 8 * l.length) : leN (((bytesB l).drop 0).take 1) = 1 ∧ leN (((bytesB l).drop (0 + 1)).take 2) = K := by
  refine ⟨hA.left.low (by decide) (by omega), ?_⟩
  have h := hA.right
  rw [loB_len] at h
  have e4 : (2 : Nat) ^ 2 = 4 := by decide
  exact h.low (by omega) (by omega)
def RoundR (wx : World) (B gs : Nat) (vb v6 : Value) (L : List Nat) (m : Nat) (b : List UInt8) : Prop :=
  (v6 = .int .i64 0 ∧ StAt wx B gs vb (.slice none 0 0) L 0 []) ∨ (v6 = .int .i64 1 ∧ ∃ vo, StAt wx B gs vb vo L m b)
set_option maxRecDepth 100000 in
set_option maxHeartbeats 4000000 in
theorem rall_any (w : World) (A : Option Addr) (n c : Nat) (l b : List UInt8) (K nn : Nat) (its : List Item) (ls ds : List Nat) (m mh : Nat)
    (hb : RB w w.heap.size A n l) (hC : StepC l b K nn its ls ds m mh) (hbl : b.length ≤ 20000) (hm : m ≤ 8 * l.length) (hl6 : l.length ≤ 1000000) :
    Calls Tryz.prog 8 #[.slice A n c, .int .i64 (b.length : Int)] w (RAllRet w b m) := by
  have hln := hb.len
  have hll := hC.hl
  have hmh : 3 ≤ mh := by rcases hC.head with ⟨_, _, _, h⟩ | ⟨_, h⟩ | ⟨_, _, _, h⟩ <;> omega
  have hmm := hC.mm
  have hK2 : K ≤ 2 := by rcases hC.head with ⟨h, _⟩ | ⟨h, _⟩ | ⟨h, _⟩ <;> omega
  have hk3 : 3 ≤ 8 * l.length := by omega
  have hf2 := first_two hC.agr0 hK2 hk3
  obtain ⟨hf2, hf3⟩ := hf2
  have h2 := hide (bytesB_two l)
  have hLl : Hid ((bytesB l).length = 8 * l.length) := bytesB_len l
  have hGot := (Blk.new w 30 #[.slice none 0 0, .int .i64 0, .int .i64 0])
  have hb1 : Below w.heap.size w (w.alloc (.cells #[.slice none 0 0, .int .i64 0, .int .i64 0] 30)) := (Below.refl _ _).alloc (Nat.le_refl _) _
  obtain ⟨w1, hw1⟩ : ∃ w1, w1 = w.alloc (.cells #[.slice none 0 0, .int .i64 0, .int .i64 0] 30) := ⟨_, rfl⟩
  rw [← hw1] at hGot hb1
  have hbits := hide (bits4_any w1 A n c l ((hb.below hb1).more hb1.size) (by omega))
  obtain ⟨g0, hg0⟩ : ∃ g0, g0 = w.heap.size := ⟨_, rfl⟩
  rw [← hg0] at hGot
  obtain ⟨M, hM⟩ : ∃ M, M = b.length := ⟨_, rfl⟩
  rw [← hM] at hbl ⊢
  replace hM := hide hM
  replace hC := hide hC
  replace hb := hide hb
  replace hf2 := hide hf2
  replace hf3 := hide hf3
  replace hw1 := hide hw1
  replace hg0 := hide hg0
  unfold IntsRet at hbits
  go_enter Tryz.func8, Tryz.ntmps8
  go_wp2_with fail
  rw [← hw1.out, ← hg0.out]
  refine hbits.out.mono ?_
  rintro e w2 ⟨vb, rfl, hBi, hb2⟩
  have hG2 := hGot.below hb2 hGot.lt
  have hB2 := hb1.trans (hb2.mono hb1.size)
  have hws1 : w.heap.size ≤ w1.heap.size := hb1.size
  clear hbits hw1 hb1 hGot
  obtain ⟨Ab, cb, hvb, -⟩ := hBi.rn
  subst hvb
  obtain ⟨LL, hLL⟩ : ∃ LL, LL = (bytesB l).length := ⟨_, rfl⟩
  rw [← hLL] at hBi ⊢
  replace hLL := hide hLL
  go_upto_region 2 with (fail)
  have hSb := (Blk.new w2 52 #[.slice Ab LL cb, .int .i64 0, .slice none 0 0, .int .i64 0])
  have hb3 : Below w2.heap.size w2 (w2.alloc (.cells #[.slice Ab LL cb, .int .i64 0, .slice none 0 0, .int .i64 0] 52)) := (Below.refl _ _).alloc (Nat.le_refl _) _
  have hG3 := hG2.below hb3 hG2.lt
  have hB3 := hB2.trans (hb3.mono hB2.size)
  have hBi3 := OE.below hBi hb3 (Nat.le_refl _)
  generalize w2.alloc (.cells #[.slice Ab LL cb, .int .i64 0, .slice none 0 0, .int .i64 0] 52) = w3 at *
  obtain ⟨gs, hgs⟩ : ∃ gs, gs = w2.heap.size := ⟨_, rfl⟩
  rw [← hgs] at hSb ⊢
  have hgsw : w.heap.size ≤ gs := by rw [hgs]; exact hB2.size
  have hS3 : Hid (StAt w3 w.heap.size gs (.slice Ab LL cb) (.slice none 0 0) (bytesB l) 0 []) := ⟨hSb, by rw [← hLL.out]; exact OE.more hBi3 (hws1), OB.nil _ _, hgsw⟩
  have hE3 : Hid (EffR w.heap.size w w3) := EffR.of_below (EffR.refl _ _) (Nat.le_refl _) hB3
  clear hb2 hb3 hBi hBi3 hB2 hB3 hSb hgs hG2
  replace hG3 := hide hG3
  go_wp2_with fail
  go_loopw [6] (fun v6 wx => RoundR wx w.heap.size gs (.slice Ab LL cb) v6 (bytesB l) m b ∧ Hid (EffR w.heap.size w3 wx)) (fun v6 _ => 1 - (intOf v6).toNat)
  case atStart => exact ⟨.inl ⟨rfl, hS3.out⟩, EffR.refl _ _⟩
  case round =>
    clear hS3
    obtain ⟨hcase, hE⟩ := hrel
    rcases hcase with ⟨rfl, hS⟩ | ⟨rfl, vo, hS⟩
    · have c2 := hS.st.cell 2
      have c3 := hS.st.cell 3
      have ht1 := hide (take_any wr w.heap.size gs _ _ (bytesB l) 0 1 [] 1 rfl hS (by rw [hLl.out]; omega) (by rw [hLl.out]; omega) (by omega) h2.out (by rw [hLl.out]; omega))
      unfold TakeR at ht1
      rw [hf2.out] at ht1
      have hM0 : (0 : Int) ≤ (M : Int) := by omega
      replace hS := hide hS
      go_wp2_with fail
      refine ht1.out.mono ?_
      rintro e w4 ⟨rfl, hS4, hE4⟩
      have ht2 := hide (take_any w4 w.heap.size gs _ _ (bytesB l) (0 + 1) 2 [] 2 rfl hS4 (by rw [hLl.out]; omega) (by rw [hLl.out]; omega) (by omega) h2.out (by rw [hLl.out]; omega))
      unfold TakeR at ht2
      rw [hf3.out] at ht2
      have hF4 := hide (hE.out.trans hE4)
      clear ht1 hS4 hE4 hE hS c2 c3
      go_wp2_with fail
      refine ht2.out.mono ?_
      rintro e w5 ⟨rfl, hS5', hE5⟩
      have hS5 : StAt w5 w.heap.size gs (.slice Ab LL cb) (.slice none 0 0) (bytesB l) 3 [] := hS5'
      have d3 := hS5.st.cell 3
      have hF5 := hide (hF4.out.trans hE5)
      clear ht2 hE5 hF4 hS5'
      have hKc : K = 0 ∨ K = 1 ∨ K = 2 := by omega
      rcases hKc with rfl | rfl | rfl
      · obtain ⟨s1, s2, s3⟩ := hC.out.st rfl
        have hhd : Agr l 8 (loB 16 b.length ++ loB 16 (65535 - b.length)) ∧ b.length ≤ 65535 := by
          rcases hC.out.head with ⟨_, a1, a2, _⟩ | ⟨h, _⟩ | ⟨h, _⟩
          · rw [← s1]; exact ⟨a2, a1⟩
          · cases h
          · cases h
        have hst := hide (storedR_any w5 w.heap.size gs _ l b hS5 hhd.2 hhd.1 s3 (by rw [← s1, ← s2]; exact hm) hll)
        rw [← s1, ← s2, s1, ← hM.out] at hst
        unfold CodR at hst
        replace hS5 := hide hS5
        clear s1 s2 s3 hhd
        go_wp2_with fail
        refine hst.out.mono ?_
        rintro e w6 ⟨rfl, vo', hS6, hE6⟩
        have hfin : RoundR w6 w.heap.size gs (.slice Ab LL cb) (.int .i64 1) (bytesB l) m b := .inr ⟨rfl, vo', hS6⟩
        have hF6 := hide (hF5.out.trans hE6)
        replace hfin := hide hfin
        clear hst hS6 hE6
        go_wp2_with fail
        go_roundw
        case rel => exact ⟨hfin.out, hF6⟩
        case measure => simp [intOf]
      · obtain ⟨rfl, rfl⟩ := hC.out.c1 rfl
        obtain ⟨hCo, hokl, hokd, h256, h1⟩ := hC.out.co (by decide)
        have hmh3 : mh = 3 := by
          rcases hC.out.head with ⟨h, _⟩ | ⟨_, h⟩ | ⟨h, _⟩
          · cases h
          · exact h
          · cases h
        subst hmh3
        have hfl := hide (fixedLits_any w5)
        unfold IntsRet at hfl
        have hl288 : fixedLits.length = 288 := fixed_288
        have hl32 : fixedD32.length = 32 := fixed_32
        replace hS5 := hide hS5
        replace hCo := hide hCo
        replace hokl := hide hokl
        replace hokd := hide hokd
        replace h1 := hide h1
        go_wp2_with fail
        refine hfl.out.mono ?_
        rintro e w6 ⟨v1, rfl, hO1, hb6⟩
        rw [hl288] at hO1
        obtain ⟨A1, k1, rfl, hR1, -⟩ := hO1.rn
        have hfd := hide (fixedDist_any w6)
        unfold IntsRet at hfd
        have hS6 := hide (hS5.out.of_below hb6)
        have hF6 := hide (hF5.out.of_below (by have := hF5.out.size; have := hE3.out.size; omega) hb6)
        replace hR1 := hide hR1
        clear hfl hO1 hb6 d3 hS5
        go_wp2_with fail
        refine hfd.out.mono ?_
        rintro e w7 ⟨v2, rfl, hO2, hb7⟩
        rw [hl32] at hO2
        obtain ⟨A2, k2, rfl, hR2, -⟩ := hO2.rn
        have hS7 := hS6.out.of_below hb7
        have hF7 := hide (hF6.out.of_below (by have := hF5.out.size; have := hE3.out.size; omega) hb7)
        have hcd := hide (codedR_any w7 w.heap.size gs _ _ l b fixedLits fixedD32 m its 3 [] A1 A2 288 32 k1 k2 hS7 hCo.out hm hll ((hR1.out.below hb7).more hb7.size) hR2 hokl.out hokd.out (by omega) (by omega) (by omega) h256 h1.out (by have := hM.out; omega))
        rw [← hM.out] at hcd
        unfold CodR at hcd
        have hldI : (288 : Nat) = 288 := rfl
        clear hfd hO2 hb7 hS6 hF6 hR1 hR2 hldI hl288 hl32 hS7
        go_wp2_with fail
        refine hcd.out.mono ?_
        rintro e w8 ⟨rfl, vo', hS8, hE8⟩
        have hfin : RoundR w8 w.heap.size gs (.slice Ab LL cb) (.int .i64 1) (bytesB l) m b := .inr ⟨rfl, vo', hS8⟩
        have hF8 := hide (hF7.out.trans hE8)
        replace hfin := hide hfin
        clear hcd hS8 hE8
        go_wp2_with fail
        go_roundw
        case rel => exact ⟨hfin.out, hF8⟩
        case measure => simp [intOf]
      · obtain ⟨rfl, rfl⟩ := hC.out.c2 rfl
        obtain ⟨hCo, hokl, hokd, h256, h1⟩ := hC.out.co (by decide)
        have hhd : HeadOk its ∧ Agr l 3 (headB its) ∧ mh = 3 + (headB its).length := by
          rcases hC.out.head with ⟨h, _⟩ | ⟨h, _⟩ | ⟨_, a1, a2, a3⟩
          · cases h
          · cases h
          · exact ⟨a1, a2, a3⟩
        obtain ⟨hH, hA3, hmh2⟩ := hhd
        subst hmh2
        have hlt : 3 + (headB its).length < 8 * l.length := by
          have := hCo.len
          rw [List.length_append, encS_len] at this
          omega
        have hcs := hide (codesR_any w5 w.heap.size gs _ _ l 3 [] its hS5 hH hA3 hlt hll)
        unfold CodesR at hcs
        replace hS5 := hide hS5
        have hH1 := hH.ll2
        have hH2 := hH.dl2
        have hH3 := hH.dl1
        replace hCo := hide hCo
        replace hokl := hide hokl
        replace hokd := hide hokd
        replace h1 := hide h1
        replace hH := hide hH
        replace hA3 := hide hA3
        obtain ⟨HL, hHL⟩ : ∃ HL, HL = (headB its).length := ⟨_, rfl⟩
        rw [← hHL] at hCo hcs hlt
        replace hHL := hide hHL
        go_wp2_with fail
        refine hcs.out.mono ?_
        rintro e w6 ⟨A1, A2, n1, n2, k1, k2, rfl, hR1, hR2, hS6, hE6⟩
        have hb7 : Below w6.heap.size w6 (w6.alloc (.cells #[.slice A1 n1 k1, .slice A2 n2 k2] 58)) := (Below.refl _ _).alloc (Nat.le_refl _) _
        have hn1 := hR1.len
        have hn2 := hR2.len
        have hX7 := (Blk.new w6 58 #[.slice A1 n1 k1, .slice A2 n2 k2])
        have hS7 := hS6.of_below hb7
        have hF7 := hide ((hF5.out.trans hE6).of_below (by have := hF5.out.size; have := hE3.out.size; omega) hb7)
        have hR17 := (hR1.below hb7).more hb7.size
        have hR27 := (hR2.below hb7).more hb7.size
        clear hcs hS5 d3
        go_upto_region 15 with (fail)
        generalize w6.alloc (.cells #[.slice A1 n1 k1, .slice A2 n2 k2] 58) = w7 at *
        obtain ⟨g8, hg8⟩ : ∃ g8, g8 = w6.heap.size := ⟨_, rfl⟩
        rw [← hg8] at hX7 ⊢
        have d3 := hS7.st.cell 3
        have x0 := hX7.cell 0
        have x1 := hX7.cell 1
        have hcd := hide (codedR_any w7 w.heap.size gs _ _ l b (litsL its) (distL its) m its (3 + HL) [] A1 A2 n1 n2 k1 k2 hS7 hCo.out hm hll hR17 hR27 hokl.out hokd.out (by omega) (by omega) (by omega) h256 h1.out (by have := hM.out; omega))
        rw [← hM.out] at hcd
        unfold CodR at hcd
        replace hX7 := hide hX7
        clear hR1 hR2 hS6 hE6 hb7 hn1 hn2 hS7 hR17 hR27 hg8
        go_wp2_with fail
        refine hcd.out.mono ?_
        rintro e w8 ⟨rfl, vo', hS8, hE8⟩
        have hfin : RoundR w8 w.heap.size gs (.slice Ab LL cb) (.int .i64 1) (bytesB l) m b := .inr ⟨rfl, vo', hS8⟩
        have hF8 := hide (hF7.out.trans hE8)
        replace hfin := hide hfin
        clear hcd hS8 hE8 x0 x1 d3
        go_wp2_with fail
        go_roundw
        case rel => exact ⟨hfin.out, hF8⟩
        case measure => simp [intOf]
    · obtain ⟨vA, vc, hvo, -⟩ := hS.ou.form
      subst hvo
      have hbM : b.length = M := hM.out.symm
      have c1 := hS.st.cell 1
      have c2 : wr.cell? ⟨gs, 2, none⟩ = some (.slice vA M vc) := by rw [hS.st.cell 2, ← hbM]; rfl
      have c3 := hS.st.cell 3
      have hG := hE.out.blk hG3.out (by decide) (by decide)
      have hou : Hid (OB wr w.heap.size (.slice vA b.length vc) b.length b) := hS.ou
      have hEF := hide (hE3.out.trans hE.out)
      have hgg : g0 ≠ gs := Blk.ne_ hG hS.st (by decide)
      have hvg : Hid ((Value.slice vA b.length vc).ownBlock ≠ some g0) := own_blk_ne hS.ou hG (by decide)
      obtain ⟨U, hU⟩ : ∃ U, U = m + 7 := ⟨_, rfl⟩
      obtain ⟨D, hD⟩ : ∃ D, D = (m + 7) / 8 := ⟨_, rfl⟩
      have hwU : IntKind.i64.wrap ((m : Int) + 7) = (U : Int) := by rw [IntWalk.i64_in _ (by omega)]; omega
      have hdv : (U : Int).tdiv 8 = (D : Int) := by rw [Int.tdiv_eq_ediv_of_nonneg (by omega)]; omega
      have hdv2 : (U : Int) / 8 = (D : Int) := by omega
      have hwD : IntKind.i64.wrap (D : Int) = (D : Int) := IntWalk.i64_in _ (by omega)
      replace hU := hide hU
      replace hD := hide hD
      replace hbM := hide hbM
      replace hS := hide hS
      replace hG := hide hG
      go_wp2_with fail
      go_still_tail 15, (by kernel_rfl)
      change wpList _ _ _ _ _ wr.drew
      have hG4 : Hid (Blk wr.drew g0 30 #[.slice none 0 0, .int .i64 0, .int .i64 0]) := hG.out
      have hO4 : Hid (OB wr.drew w.heap.size (.slice vA b.length vc) b.length b) := hou.out
      have hE4 : Hid (EffR w.heap.size w wr.drew) := hEF.out.drewN 1
      clear c1 c2 c3 hG hS hou hEF hE
      generalize wr.drew = w4 at *
      have x0 := hG4.out.cell 0
      have x1 := hG4.out.cell 1
      have x2 := hG4.out.cell 2
      have y0 := hG4.out.frozen 0
      have y1 := hG4.out.frozen 1
      have y2 := hG4.out.frozen 2
      go_wp2_with fail
      have z1 := hG4.out.set_ 0 (.slice vA M vc)
      have z2 := z1.set_ 1 (.int .i64 (D : Int))
      have z3 : Blk _ g0 30 #[.slice vA M vc, .int .i64 (D : Int), .int .i64 0] := z2.set_ 2 (.int .i64 0)
      have d0 := z3.cell 0
      have d1 := z3.cell 1
      have d2 := z3.cell 2
      have hgq : w.heap.size ≤ g0 := by have := hg0.out; omega
      have hOn : Only (fun k => k = g0) w4 (((w4.setCell ⟨g0, 0, none⟩ (.slice vA M vc)).setCell ⟨g0, 1, none⟩ (.int .i64 (D : Int))).setCell ⟨g0, 2, none⟩ (.int .i64 0)) :=
        (((Only.refl (fun k => k = g0) w4).setCell (p := ⟨g0, 0, none⟩) (fun _ => rfl) _).setCell (p := ⟨g0, 1, none⟩) (fun _ => rfl) _).setCell (p := ⟨g0, 2, none⟩) (fun _ => rfl) _
      have hOB := hOn.row hO4.out (fun k hk e => hvg.out (by rw [hk, e]))
      rw [hbM.out] at hOB
      refine bodyPost_ret (v := .agg #[.slice vA M vc, .int .i64 (D : Int), .int .i64 0]) (by simp [results, Tryz.results8, go_sem, d0, d1, d2]) rfl ⟨.slice vA M vc, by rw [← hD.out], by rw [hbM.out]; exact hOB, ?_⟩
      exact ((hE4.out.bel.setCell (p := ⟨g0, 0, none⟩) hgq _).setCell (p := ⟨g0, 1, none⟩) hgq _).setCell (p := ⟨g0, 2, none⟩) hgq _
end Go.Proofs.YtbchaomnjbkdhaaGreat
namespace Go.Proofs.YtbchaomnjbkdhaaGreat
open Go.RowKit Go.Sort Go.Proofs
set_option linter.unusedVariables false
theorem packL_le5 (b : List UInt8) (k : Nat) (hb : b.length ≤ 5000) : (packL b k).length ≤ 1000000 := by
  have h1 := fixB_le b
  have h2 := dynB_le b (by omega)
  have h3 := packM_le b k
  unfold packM at h3
  split at h3
  · omega
  · split at h3 <;> omega
theorem StepC.m3 {l b : List UInt8} {K n : Nat} {its : List Item} {ls ds : List Nat} {m mh : Nat} (h : StepC l b K n its ls ds m mh) : 3 ≤ mh := by
  rcases h.head with ⟨_, _, _, h⟩ | ⟨_, h⟩ | ⟨_, _, _, h⟩ <;> omega
set_option maxRecDepth 100000 in
theorem pack_bad (w : World) (A : Option Addr) (n c : Nat) (K : Int) (hK : K < 0 ∨ 2 < K) :
    Calls Tryz.prog 6 #[.slice A n c, .int .i64 K] w fun e w' => e = .returned (.tuple #[.slice none 0 0, .int .i64 1]) ∧ w' = w := by
  rcases hK with h | h
  · go_enter Tryz.func6, Tryz.ntmps6
    go_wp2_with fail
    go_ret2
    exact ⟨rfl, rfl⟩
  · have h0 : ¬ K < 0 := by omega
    go_enter Tryz.func6, Tryz.ntmps6
    go_wp2_with fail
    go_ret2
    exact ⟨rfl, rfl⟩
set_option maxRecDepth 100000 in
set_option maxHeartbeats 4000000 in
theorem deflatePacks_walk (w : World) (A : Option Addr) (n c : Nat) (b : List UInt8) (K : Int) (hb : RB w w.heap.size A n b) (hnm : n ≤ maxLen) :
    Calls Tryz.prog 3 #[.slice A n c, .int .i64 K] w fun e w' => e = .returned (.bool true) ∧ Below w.heap.size w w' := by
  obtain rfl := hb.len
  replace hb := hide hb
  unfold maxLen at hnm
  go_enter Tryz.func3, Tryz.ntmps3
  go_wp2_with fail
  refine (wakes07_any w).mono ?_
  rintro e w1 ⟨rfl, hb1⟩
  have hs1 := hb1.size
  replace hb1 := hide hb1
  by_cases h5 : b.length ≤ 5000
  · have hbs1 : Hid (RB (w1.alloc (.cells #[] 5)) w.heap.size A b.length b) := (hb.out.below hb1.out).alloc hs1 _
    have hem : Hid (OB (w1.alloc (.cells #[] 5)) w.heap.size (.slice (some ⟨w1.heap.size, 0, none⟩) 0 0) 0 []) := (OB.empty w1 hs1)
    have hbw : Hid (Below w.heap.size w (w1.alloc (.cells #[] 5))) := hb1.out.alloc hs1 _
    have hsz2 : Hid (w.heap.size ≤ (w1.alloc (.cells #[] 5)).heap.size) := hbw.out.size
    go_wp2_with (at_builtin; refine wpList_app_b rfl (.tmp 20) (.tmp 21) rfl w.heap.size _ 0 [] hem.out rfl w.heap.size A b.length c b rfl hbs1.out (by omega) hsz2.out ?_; intro v2 w2 ho2 hb2 _ _; have hO2 : Hid (OB w2 w.heap.size v2 b.length b) := (by rw [List.nil_append, Nat.zero_add] at ho2; exact ho2); have hB2 := hide (hbw.out.trans hb2); clear ho2 hb2; obtain ⟨A2, c2, hv2, hR2, -, hc2, -⟩ := hO2.out.form; subst hv2; replace hR2 := hide hR2)
    clear hbs1 hem hbw hsz2 hb1 hs1
    have hbs2 := hB2.out.size
    have hRb2 := hide ((hb.out.below hB2.out).more hbs2)
    by_cases hbad : K < 0 ∨ 2 < K
    · have hpk := hide (pack_bad w2 A2 b.length c2 K hbad)
      rcases hbad with hbad | hbad
      · go_wp2_with fail
        refine hpk.out.mono ?_
        rintro e w3 ⟨rfl, rfl⟩
        go_wp2_with fail
        go_ret
        exact ⟨rfl, hB2.out⟩
      · have hK0 : ¬ K < 0 := by omega
        go_wp2_with fail
        refine hpk.out.mono ?_
        rintro e w3 ⟨rfl, rfl⟩
        go_wp2_with fail
        go_ret
        exact ⟨rfl, hB2.out⟩
    · obtain ⟨k, rfl⟩ : ∃ k : Nat, K = (k : Int) := ⟨K.toNat, by omega⟩
      have hk2 : k ≤ 2 := by omega
      have hkI : ¬ (2 : Int) < (k : Int) := by omega
      have hpk := hide (packs_k k hk2 w2 A2 b.length c2 b hR2.out hc2 (by omega))
      obtain ⟨nn, its, ls, ds, mh, hC⟩ := packC b (by omega) k hk2
      have hml := packM_le b k
      have hpl := packL_le5 b k (by omega)
      obtain ⟨X, hX⟩ : ∃ X, X = packL b k := ⟨_, rfl⟩
      obtain ⟨m, hm⟩ : ∃ m, m = packM b k := ⟨_, rfl⟩
      rw [← hX, ← hm] at hml
      rw [← hX] at hpk hpl
      rw [← hX, ← hm] at hC
      replace hX := hide hX
      replace hm := hide hm
      replace hC := hide hC
      clear hbad
      go_wp2_with fail
      refine hpk.out.mono ?_
      rintro e w3 ⟨vp, rfl, hOp, hB3'⟩
      obtain ⟨Ap, cp, rfl, hRp, -, hcp, -⟩ := hOp.form
      have hB3 := hide (hB2.out.trans (hB3'.mono hbs2))
      have hRb3 := hide ((hb.out.below hB3.out).more hB3.out.size)
      have hRo3 := hide ((hR2.out.below hB3').more hB3'.size)
      have hal := hide (all_any w3 Ap X.length cp X b k nn its ls ds m mh hRp hC.out (by omega))
      replace hRp := hide hRp
      clear hOp hB3' hpk hR2 hRb2 hB2 hbs2 hO2
      have hXl : X.length - (8 * X.length - m) / 8 = X.length := by omega
      have hX1 : (m + 7) / 8 = X.length := by omega
      have hmm3 : 3 ≤ m := by have := hC.out.mm; have := StepC.m3 hC.out; omega
      have hxne : ¬ m ≤ 8 * (X.length - 1) := by omega
      have hX0 : 1 ≤ X.length := by omega
      have hmle := hide hml.1
      replace hXl := hide hXl
      replace hX1 := hide hX1
      replace hxne := hide hxne
      clear hml hmm3
      go_wp2_with fail
      refine hal.out.mono ?_
      rintro e w4 ⟨hb4, ⟨_, v4, rfl, hO4⟩ | ⟨hmm, _⟩⟩
      · rw [hXl.out]
        obtain ⟨A4, c4, rfl, hR4, -, hc4, -⟩ := hO4.form
        have hB4 := hide (hB3.out.trans (hb4.mono hB3.out.size))
        have hRb4 := hide ((hRb3.out.below hb4).more hb4.size)
        have hRo4 := hide ((hRo3.out.below hb4).more hb4.size)
        have hRp4 := hide ((hRp.out.below hb4).more hb4.size)
        have hra := hide (rall_any w4 Ap X.length cp X b k nn its ls ds m mh hRp4.out hC.out (by omega) hmle.out hpl)
        replace hR4 := hide hR4
        clear hO4 hal hb4 hRb3 hRo3 hRp hB3
        go_wp2_with fail
        refine hra.out.mono ?_
        rintro e w5 ⟨v5, rfl, hO5, hb5⟩
        rw [hX1.out]
        obtain ⟨A5, c5, rfl, hR5, -, hc5, -⟩ := hO5.form
        have hB5 := hide (hB4.out.trans (hb5.mono hB4.out.size))
        obtain ⟨w6, hw6⟩ : ∃ w6, w6 = w5.alloc (.cells #[.slice A5 b.length c5, .int .i64 (X.length : Int), .int .i64 0] 30) := ⟨_, rfl⟩
        have hb6 : Below w5.heap.size w5 w6 := by rw [hw6]; exact (Below.refl _ _).alloc (Nat.le_refl _) _
        have hB6 := hide (hB5.out.trans (hb6.mono hB5.out.size))
        have hG6 : Blk w6 w5.heap.size 30 #[.slice A5 b.length c5, .int .i64 (X.length : Int), .int .i64 0] := by rw [hw6]; exact Blk.new _ _ _
        have hb46 := hb5.trans (hb6.mono hb5.size)
        have hRb6 := ((hRb4.out.below hb46).more hb46.size)
        have hRo6 := ((hRo4.out.below hb46).more hb46.size)
        have hRp6 := hide ((hRp4.out.below hb46).more hb46.size)
        have hRx6 := ((hR4.out.below hb46).more hb46.size)
        have hRg6 := ((hR5.below hb6).more hb6.size)
        have hs1 := hide (fun (wz : World) (hz : Below w6.heap.size w6 wz) => sameB_any wz A4 A b.length c4 c b ((hRx6.below hz).more hz.size) ((hRb6.below hz).more hz.size) (by omega))
        have hs2 := hide (fun (wz : World) (hz : Below w6.heap.size w6 wz) => sameB_any wz A5 A b.length c5 c b ((hRg6.below hz).more hz.size) ((hRb6.below hz).more hz.size) (by omega))
        have hs3 := hide (fun (wz : World) (hz : Below w6.heap.size w6 wz) => sameB_any wz A2 A b.length c2 c b ((hRo6.below hz).more hz.size) ((hRb6.below hz).more hz.size) (by omega))
        obtain ⟨gg, hgg⟩ : ∃ gg, gg = w5.heap.size := ⟨_, rfl⟩
        rw [← hgg] at hG6
        have hgl := hG6.lt
        replace hG6 := hide hG6
        replace hgl := hide hgl
        clear hO5 hR5 hb5 hb6 hb46 hRb6 hRo6 hRx6 hRg6 hra hB5 hB4 hRb4 hRo4 hRp4 hR4
        go_upto_region 11 with (fail)
        rw [← hw6, ← hgg]
        clear hw6 hgg
        go_wp2_with fail
        refine (hs1.out w6 (Below.refl _ _)).mono ?_
        rintro e w7 ⟨rfl, hb7⟩
        have hG7 := hG6.out.below hb7 hgl.out
        have d2 := hG7.cell 2
        have d1 := hG7.cell 1
        have d0 := hG7.cell 0
        have hb67 := hide hb7
        clear hb7 hs1
        replace hG7 := hide hG7
        go_wp2_with fail
        refine (hs2.out w7 hb67.out).mono ?_
        rintro e w8 ⟨rfl, hb8⟩
        have hb68 := hide (hb67.out.trans (hb8.mono hb67.out.size))
        clear hb8 hs2 d0 d1 d2
        go_wp2_with fail
        refine (hs3.out w8 hb68.out).mono ?_
        rintro e w9 ⟨rfl, hb9⟩
        have hb69 := hide (hb68.out.trans (hb9.mono hb68.out.size))
        have hB9 := hide (hB6.out.trans (hb69.out.mono hB6.out.size))
        obtain ⟨XL, hXL⟩ : ∃ XL, X.length = XL + 1 := ⟨X.length - 1, by omega⟩
        have hRp9 := ((hRp6.out.below hb69.out).more hb69.out.size).take (k := XL) (by omega)
        have hCp : StepC (X.take XL) b k nn its ls ds m mh := StepC.prefix (r := X.drop XL) (by rw [List.take_append_drop]; exact hC.out)
        have hal2 := hide (all_any w9 Ap XL cp (X.take XL) b k nn its ls ds m mh hRp9 hCp (by omega))
        have hxn : ¬ m ≤ 8 * (X.take XL).length := by
          rw [List.length_take]
          have := hxne.out
          omega
        rw [hXL] at hX0 hcp ⊢
        have hXLb : XL ≤ 1000000 := by omega
        have hXLc : XL ≤ cp := by omega
        have hXLcI : (XL : Int) ≤ (cp : Int) := by omega
        replace hXL := hide hXL
        clear hb9 hb68 hb67 hs3 hRp9 hCp hG6 hG7 hRp6 hC
        go_wp2_with fail
        refine hal2.out.mono ?_
        rintro e wa ⟨hba, ⟨hmm, _⟩ | ⟨_, rfl⟩⟩
        · exact absurd hmm hxn
        · have hBa := hide (hB9.out.trans (hba.mono hB9.out.size))
          clear hba hal2
          go_wp2_with fail
          go_ret
          exact ⟨rfl, hBa.out⟩
      · exact absurd hmle.out hmm
  · go_wp2_with fail
    go_ret
    exact ⟨rfl, hb1.out⟩
end Go.Proofs.YtbchaomnjbkdhaaGreat
