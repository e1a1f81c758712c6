/-
  The parser's methods serve the grammar: nots, ands, ors.
-/
import Derived.Test.YtnbfblikpoblgaaDoorParE
namespace Go.Proofs.YtnbfblikpoblgaaDoor
open Go.RowKit
set_option linter.unusedVariables false

theorem R1_len (T : List Tok) : (R1 T).length ≤ T.length := by
  unfold R1
  split <;> simp
  omega
theorem notsP_not {n : Nat} {T : List Tok} (h : atW T 1 notW = true) : notsP (n + 1) T = match notsP n T.tail with | some (q, T') => some (.neg q, T') | none => none := by
  rw [notsP, if_pos h]
  cases notsP n T.tail <;> rfl
theorem notsP_par {n : Nat} {T : List Tok} (h : atW T 1 notW = false) (h2 : atW T 4 lpW = true) :
    notsP (n + 1) T = match rowP orW 1 (rowP andW 2 (notsP n)) T.tail with | some (q, T') => if atW T' 4 rpW = true then some (q, T'.tail) else none | none => none := by
  rw [notsP, h, h2]
  simp only [Bool.false_eq_true, if_false, if_true]
  cases rowP orW 1 (rowP andW 2 (notsP n)) T.tail <;> rfl
theorem notsP_term {n : Nat} {T : List Tok} (h : atW T 1 notW = false) (h2 : atW T 4 lpW = false) : notsP (n + 1) T = if wellF T = true then some (.term (askF T), (R1 T).tail) else none := by
  rw [notsP, h, h2]
  simp only [Bool.false_eq_true, if_false]
  rw [termP_eq]
  cases wellF T <;> rfl

set_option maxRecDepth 100000 in
set_option maxHeartbeats 2000000 in
theorem nots_serve : ∀ n, Serves 71 (notsP n) n := by
  intro n
  induction n with
  | zero => intro w b v T out h hn; omega
  | succ n ih =>
    have iho := hide (ors_of (rowP_takes (notsP_takes n)) (ands_of (notsP_takes n) ih))
    have ht := hide (notsP_takes n)
    have hto := hide (rowP_takes (word := orW) (kind := 1) (rowP_takes (word := andW) (kind := 2) (notsP_takes n)))
    replace ih := hide ih
    intro w b v T out h hn hl hA hgb
    have HA := hide hA
    have hlt := h.lt
    clear hA
    replace h := hide h
    go_enter Tryd.func71, Tryd.ntmps71
    go_wp2_with fail
    refine (is_any _ b v T out true 1 ⟨#[110, 111, 116]⟩ h.out).mono ?_
    rintro e w1 ⟨rfl, hP1, hb1, -⟩
    rw [show (ByteArray.mk #[110, 111, 116]).data.toList = notW from rfl] at hP1 ⊢
    have hA1 := hide (asp_below HA.out hb1 hgb)
    clear h HA
    by_cases c1 : atW T 1 notW = true
    · have hsp := hide (notsP_not (n := n) c1)
      rw [c1] at hP1 ⊢
      rw [if_pos rfl] at hP1
      obtain ⟨t, r, rfl, -⟩ := atW_cons c1
      rw [List.tail_cons] at hP1 hsp
      rw [List.length_cons] at hn hl
      replace hP1 := hide hP1
      clear c1
      go_wp2_with fail
      refine (ih.out w1 b v r out hP1.out (by omega) (by omega) hA1.out hgb).mono ?_
      intro e w2 h2
      unfold NRet at h2
      cases hres : notsP n r with
      | none =>
        rw [hres] at h2
        obtain ⟨r2, v2, T2, out2, rfl, hP2, l1, l2, hb2⟩ := h2
        have hno : Hid (notsP (n + 1) (t :: r) = none) := by rw [Hid, hsp.out, hres]
        have hbw := hb1.trans hb2
        replace hP2 := hide hP2
        clear hres hsp hP1 hb1 hb2 hA1
        go_wp2_with fail
        refine (put_any _ b v2 T2 out2 false ⟨3, 0, r2, -1, 0, [], false⟩ hP2.out (by omega)).mono ?_
        rintro e w3 ⟨rfl, ⟨v3, hP3⟩, hb3⟩
        have hbw3 := hbw.trans hb3
        replace hP3 := hide hP3
        clear hb3 hbw hP2
        go_wp2_with fail
        go_ret
        exact NRet.no hno.out hP3.out (by simp; omega) (by simp; omega) hbw3
      | some x =>
        obtain ⟨q, T2⟩ := x
        rw [hres] at h2
        obtain ⟨rfl, ⟨v2, hP2⟩, hb2⟩ := h2
        have htk := ht.out _ _ _ hres
        have hyes : Hid (notsP (n + 1) (t :: r) = some (.neg q, T2)) := by rw [Hid, hsp.out, hres]
        have hbw := hb1.trans hb2
        have hlen : Hid ((out ++ q.parts out.length).length = out.length + q.size) := by rw [Hid, List.length_append, Q.parts_len]
        have hparts : Hid (out ++ q.parts out.length ++ [⟨3, 0, (out.length : Int) + (q.size : Int) - 1, -1, 0, [], false⟩] = out ++ (Q.neg q).parts out.length) := by
          show _ = _
          rw [Q.parts, List.append_assoc]
        replace hP2 := hide hP2
        clear hres hsp hP1 hb1 hb2 hA1
        go_wp2_with fail
        refine (put_any _ b v2 T2 _ true ⟨3, 0, _, -1, 0, [], false⟩ hP2.out (by rw [hlen.out]; omega)).mono ?_
        rintro e w3 ⟨rfl, ⟨v3, hP3⟩, hb3⟩
        have hbw3 := hbw.trans hb3
        rw [hparts.out] at hP3
        rw [hlen.out]
        replace hP3 := hide hP3
        clear hb3 hbw hP2 hlen hparts
        go_wp2_with fail
        go_ret
        exact NRet.yes hyes.out (by simp [Q.size]; omega) hP3.out hbw3
    · rw [Bool.not_eq_true] at c1
      rw [c1] at hP1 ⊢
      rw [if_neg (by simp)] at hP1
      replace hP1 := hide hP1
      go_wp2_with fail
      refine (is_any _ b v T out true 4 ⟨#[40]⟩ hP1.out).mono ?_
      rintro e w2 ⟨rfl, hP2, hb2, -⟩
      rw [show (ByteArray.mk #[40]).data.toList = lpW from rfl] at hP2 ⊢
      have hbw2 := hb1.trans hb2
      have hA2 := hide (asp_below hA1.out hb2 hgb)
      clear hP1 hb1 hb2 hA1
      by_cases c2 : atW T 4 lpW = true
      · have hsp := hide (notsP_par (n := n) c1 c2)
        rw [c2] at hP2 ⊢
        rw [if_pos rfl] at hP2
        obtain ⟨t, r, rfl, -⟩ := atW_cons c2
        rw [List.tail_cons] at hP2 hsp
        rw [List.length_cons] at hn hl
        replace hP2 := hide hP2
        clear c1 c2
        go_wp2_with fail
        refine (iho.out w2 b v r out hP2.out (by omega) (by omega) hA2.out hgb).mono ?_
        intro e w3 h3
        unfold NRet at h3
        cases hres : rowP orW 1 (rowP andW 2 (notsP n)) r with
        | none =>
          rw [hres] at h3
          obtain ⟨r2, v3, T3, out3, rfl, hP3, l1, l2, hb3⟩ := h3
          have hno : Hid (notsP (n + 1) (t :: r) = none) := by rw [Hid, hsp.out, hres]
          have hbw3 := hbw2.trans hb3
          obtain ⟨qw, fw⟩ := hP3.well_
          replace hP3 := hide hP3
          clear hres hsp hP2 hb3 hbw2 hA2
          go_wp2_with fail
          go_ret
          exact NRet.no hno.out (hP3.out.mark _) (by simp; omega) (by simp; omega) (below_set hbw3 (Nat.le_refl _) _)
        | some x =>
          obtain ⟨q, T3⟩ := x
          rw [hres] at h3
          obtain ⟨rfl, ⟨v3, hP3⟩, hb3⟩ := h3
          have htk := hto.out _ _ _ hres
          have hbw3 := hbw2.trans hb3
          have hlen : Hid ((out ++ q.parts out.length).length = out.length + q.size) := by rw [Hid, List.length_append, Q.parts_len]
          rw [hres] at hsp
          obtain ⟨qw, fw⟩ := hP3.well_
          replace hP3 := hide hP3
          clear hres hP2 hb3 hbw2 hA2 fw
          go_wp2_with fail
          refine (is_any _ b v3 T3 _ true 4 ⟨#[41]⟩ hP3.out).mono ?_
          rintro e w4 ⟨rfl, hP4, hb4, -⟩
          rw [show (ByteArray.mk #[41]).data.toList = rpW from rfl] at hP4 ⊢
          have hbw4 := hbw3.trans hb4
          clear hP3 hbw3 hb4 qw
          by_cases c3 : atW T3 4 rpW = true
          · have hyes : Hid (notsP (n + 1) (t :: r) = some (q, T3.tail)) := by rw [Hid, hsp.out]; simp only [c3, if_true]
            rw [c3] at hP4 ⊢
            rw [if_pos rfl] at hP4
            obtain ⟨qw, fw⟩ := hP4.well_
            replace hP4 := hide hP4
            clear hsp c3
            go_wp2_with fail
            go_ret
            exact NRet.yes hyes.out rfl (hP4.out.mark _) (below_set hbw4 (Nat.le_refl _) _)
          · rw [Bool.not_eq_true] at c3
            have hno : Hid (notsP (n + 1) (t :: r) = none) := by rw [Hid, hsp.out]; simp [c3]
            rw [c3] at hP4 ⊢
            rw [if_neg (by simp)] at hP4
            obtain ⟨qw, fw⟩ := hP4.well_
            replace hP4 := hide hP4
            clear hsp c3
            go_wp2_with fail
            go_ret
            exact NRet.no hno.out (hP4.out.mark _) (by simp; omega) (by rw [hlen.out]; simp; omega) (below_set hbw4 (Nat.le_refl _) _)
      · rw [Bool.not_eq_true] at c2
        have hsp := hide (notsP_term (n := n) c1 c2)
        rw [c2] at hP2 ⊢
        rw [if_neg (by simp)] at hP2
        replace hP2 := hide hP2
        clear c1 c2
        go_wp2_with fail
        refine (term_any _ b v T out hP2.out (by omega) hA2.out hgb).mono ?_
        rintro e w3 ⟨rfl, ⟨v3, hP3⟩, hb3⟩
        have hbw3 := hbw2.trans hb3
        have hR := R1_len T
        replace hP3 := hide hP3
        clear hP2 hbw2 hb3 hA2
        go_wp2_with fail
        go_ret
        by_cases c3 : wellF T = true
        · have hyes : notsP (n + 1) T = some (.term (askF T), (R1 T).tail) := by rw [hsp.out, if_pos c3]
          have hP4 := hP3.out
          rw [c3] at hP4
          exact NRet.yes hyes (by simp [Q.size]) hP4 hbw3
        · have hno : notsP (n + 1) T = none := by rw [hsp.out, if_neg c3]
          have hP4 := hP3.out
          rw [Bool.not_eq_true] at c3
          rw [c3] at hP4
          exact NRet.no hno hP4 (by simp; omega) (by simp; omega) hbw3
theorem ors_serve (n : Nat) : Serves 42 (orsP n) n := ors_of (rowP_takes (notsP_takes n)) (ands_of (notsP_takes n) (nots_serve n))
end Go.Proofs.YtnbfblikpoblgaaDoor
