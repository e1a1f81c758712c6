/-
  Contract of lex.quoted: the text behind a quote.
-/
import Derived.Test.YtnhcamkccnaeeaaGreatDoorLexSpec
import Derived.Test.YtnhcamkccnaeeaaGreatDoorBuilder
namespace Go.Proofs.YtnhcamkccnaeeaaGreatDoor
open Go.RowKit
set_option linter.unusedVariables false

/-- What quoted answers at a place, as two values. -/
def quotedT (l : List UInt8) : List UInt8 := match quotedL l with | some x => x.1 | none => []
def quotedE (p : Nat) (l : List UInt8) : Int := match quotedL l with | some x => (p : Int) + (x.2 : Int) | none => -1
/-- 'the answer from place p0 is that of what has been read, t, and what stands at place k'. -/
def QRel (L : List UInt8) (p0 k : Nat) (t : List UInt8) : Prop := p0 ≤ k ∧ quotedL (L.drop p0) = (quotedL (L.drop k)).map fun x => (t ++ x.1, (k - p0) + x.2)
theorem QRel.start (L : List UInt8) (p0 : Nat) : QRel L p0 p0 [] := ⟨Nat.le_refl _, by cases quotedL (L.drop p0) <;> simp⟩
theorem QRel.none_ {L : List UInt8} {p0 k : Nat} {t : List UInt8} (h : QRel L p0 k t) (hq : quotedL (L.drop k) = none) : quotedT (L.drop p0) = [] ∧ quotedE p0 (L.drop p0) = -1 := by
  have := h.2
  rw [hq] at this
  simp at this
  simp [quotedT, quotedE, this]
theorem QRel.stop {L : List UInt8} {p0 k : Nat} {t : List UInt8} (h : QRel L p0 k t) (hk : k < L.length) (hq : L[k] = 34) : quotedT (L.drop p0) = t ∧ quotedE p0 (L.drop p0) = (k : Int) + 1 := by
  have h2 := h.2
  rw [List.drop_eq_getElem_cons hk, hq, quotedL_end] at h2
  simp at h2
  simp [quotedT, quotedE, h2]
  have := h.1
  omega
theorem QRel.byte {L : List UInt8} {p0 k : Nat} {t : List UInt8} (h : QRel L p0 k t) (hk : k < L.length) (h1 : L[k] ≠ 34) (h2 : L[k] ≠ 92) : QRel L p0 (k + 1) (t ++ [L[k]]) := by
  obtain ⟨hle, he⟩ := h
  refine ⟨by omega, ?_⟩
  rw [he, List.drop_eq_getElem_cons hk, quotedL_byte _ _ h1 h2]
  cases quotedL (L.drop (k + 1)) with
  | none => simp
  | some x => simp; omega
theorem QRel.esc {L : List UInt8} {p0 k : Nat} {t : List UInt8} (h : QRel L p0 k t) (hk : k + 1 < L.length) (h1 : L[k] = 92) (h2 : L[k + 1] = 34 ∨ L[k + 1] = 92) : QRel L p0 (k + 2) (t ++ [L[k + 1]]) := by
  obtain ⟨hle, he⟩ := h
  refine ⟨by omega, ?_⟩
  rw [he, List.drop_eq_getElem_cons (show k < L.length by omega), List.drop_eq_getElem_cons hk, h1, quotedL_esc, if_pos h2]
  cases quotedL (L.drop (k + 1 + 1)) with
  | none => simp
  | some x => simp; omega
theorem q_esc_bad {L : List UInt8} {k : Nat} (hk : k + 1 < L.length) (h1 : L[k] = 92) (h2 : ¬ (L[k + 1] = 34 ∨ L[k + 1] = 92)) : quotedL (L.drop k) = none := by
  rw [List.drop_eq_getElem_cons (show k < L.length by omega), List.drop_eq_getElem_cons hk, h1, quotedL_esc, if_neg h2]
theorem q_esc_end {L : List UInt8} {k : Nat} (hk : k + 1 = L.length) (h1 : L[k] = 92) : quotedL (L.drop k) = none := by
  rw [List.drop_eq_getElem_cons (show k < L.length by omega), List.drop_of_length_le (show L.length ≤ k + 1 by omega), h1, quotedL_back]

/-- The post: a text and a place. -/
def QRet (W : World) (t : List UInt8) (n : Int) (e : Ending) (w' : World) : Prop := e = .returned (.tuple #[.string (str t), .int .i64 n]) ∧ Below W.heap.size W w'
theorem QRet.mk {W w' : World} {t t' : List UInt8} {n n' : Int} (ht : t' = t) (hn : n' = n) (hb : Below W.heap.size W w') : QRet W t n (.returned (.tuple #[.string (str t'), .int .i64 n'])) w' := by
  subst ht hn; exact ⟨rfl, hb⟩
theorem u8_34 {c : UInt8} : c = 34 ↔ (c.toNat : Int) = 34 := ⟨fun e => by rw [e]; rfl, fun e => UInt8.toNat_inj.1 (by have : (34 : UInt8).toNat = 34 := rfl; omega)⟩
theorem u8_92 {c : UInt8} : c = 92 ↔ (c.toNat : Int) = 92 := ⟨fun e => by rw [e]; rfl, fun e => UInt8.toNat_inj.1 (by have : (92 : UInt8).toNat = 92 := rfl; omega)⟩

set_option maxHeartbeats 1000000 in
theorem quoted_any (s : ByteArray) (p0 : Nat) (w : World) (hs : s.size ≤ 1000000) (hp : p0 ≤ s.size) :
    Calls Tryz.prog 87 #[.string s, .int .i64 (p0 : Int)] w (QRet w (quotedT (s.data.toList.drop p0)) (quotedE p0 (s.data.toList.drop p0))) := by
  have hlen := hide (data_len s)
  go_enter Tryz.func87, Tryz.ntmps87
  have hbf := hide (Bld.fresh w)
  go_wp2_with fail
  go_loopw [1] (fun i wr => ∃ (k : Nat) (t : List UInt8), k ≤ s.size ∧ t.length ≤ k ∧ i = .int .i64 (k : Int) ∧ Hid (QRel s.data.toList p0 k t) ∧ Hid (Bld w.heap.size w.heap.size t wr) ∧ Below w.heap.size w wr) (fun i _ => s.size - (intOf i).toNat)
  case atStart => exact ⟨p0, [], hp, by simp, rfl, QRel.start _ _, hbf, (Below.refl _ _).alloc (Nat.le_refl _) _⟩
  case round =>
    obtain ⟨k, t, hk, htl, rfl, HQ, HB, hb⟩ := hrel
    have hsz := hb.size
    by_cases h1 : k < s.size
    · have hk1 : k < s.data.toList.length := by have := hlen.out; omega
      have hget := hide (str_get s k h1 hk1)
      by_cases c34 : s.data.toList[k] = 34
      · have hstop := hide (HQ.out.stop hk1 c34)
        have e34 : ((s[k].toNat : Int) == 34) = true := by rw [hget.out, c34]; rfl
        clear c34 HQ hget
        go_wp2_with fail
        refine (toString_any _ _ t _ HB.out hsz).mono ?_
        rintro e w2 ⟨rfl, hb2⟩
        have hb3 := hb.trans hb2
        clear HB hb hb2
        go_wp2_with fail
        go_ret2
        exact QRet.mk hstop.out.1.symm hstop.out.2.symm hb3
      · have e34 : ((s[k].toNat : Int) == 34) = false := by rw [hget.out, beq_eq_false_iff_ne]; exact fun e => c34 (u8_34.2 e)
        by_cases c92 : s.data.toList[k] = 92
        · have e92 : ((s[k].toNat : Int) == 92) = true := by rw [hget.out, c92]; rfl
          by_cases hlast : k + 1 = s.size
          · have hstop := hide (HQ.out.none_ (q_esc_end (by have := hlen.out; omega) c92))
            clear c34 c92 HQ hget HB
            go_wp2_with fail
            go_ret2
            exact QRet.mk (t' := []) hstop.out.1.symm hstop.out.2.symm hb
          · have h2 : k + 1 < s.size := by omega
            have hk2 : k + 1 < s.data.toList.length := by have := hlen.out; omega
            have hget2 := hide (str_get s (k + 1) h2 hk2)
            have hne : (((k : Int) + 1) == (s.size : Int)) = false := by rw [beq_eq_false_iff_ne]; omega
            by_cases d34 : s.data.toList[k + 1] = 34
            · have f34 : ((s[k + 1].toNat : Int) != 34) = false := by rw [hget2.out, d34]; rfl
              have HQ2 := hide (HQ.out.esc hk2 c92 (.inl d34))
              rw [← hget2.out] at HQ2
              clear c34 c92 HQ hget hget2 d34
              go_wp2_with fail
              refine (writeByte_any _ _ t _ _ HB.out (by omega) hsz).mono ?_
              rintro e w2 ⟨rfl, HB2, hb2⟩
              have hb3 := hb.trans hb2
              replace HB2 := hide HB2
              clear HB hb hb2
              go_wp2_with fail
              go_roundw
              case rel => exact ⟨k + 2, _, by omega, by simp; omega, by go_num, HQ2, HB2, hb3⟩
              case measure => simp [intOf]; omega
            · have f34 : ((s[k + 1].toNat : Int) != 34) = true := by rw [hget2.out, bne_iff_ne]; exact fun e => d34 (u8_34.2 e)
              by_cases d92 : s.data.toList[k + 1] = 92
              · have f92 : ((s[k + 1].toNat : Int) != 92) = false := by rw [hget2.out, d92]; rfl
                have HQ2 := hide (HQ.out.esc hk2 c92 (.inr d92))
                rw [← hget2.out] at HQ2
                clear c34 c92 HQ hget hget2 d34 d92
                go_wp2_with fail
                refine (writeByte_any _ _ t _ _ HB.out (by omega) hsz).mono ?_
                rintro e w2 ⟨rfl, HB2, hb2⟩
                have hb3 := hb.trans hb2
                replace HB2 := hide HB2
                clear HB hb hb2
                go_wp2_with fail
                go_roundw
                case rel => exact ⟨k + 2, _, by omega, by simp; omega, by go_num, HQ2, HB2, hb3⟩
                case measure => simp [intOf]; omega
              · have f92 : ((s[k + 1].toNat : Int) != 92) = true := by rw [hget2.out, bne_iff_ne]; exact fun e => d92 (u8_92.2 e)
                have hstop := hide (HQ.out.none_ (q_esc_bad hk2 c92 (by intro h; rcases h with h | h; exact d34 h; exact d92 h)))
                clear c34 c92 HQ hget hget2 d34 d92 HB
                go_wp2_with fail
                go_ret2
                exact QRet.mk (t' := []) hstop.out.1.symm hstop.out.2.symm hb
        · have e92 : ((s[k].toNat : Int) == 92) = false := by rw [hget.out, beq_eq_false_iff_ne]; exact fun e => c92 (u8_92.2 e)
          have HQ2 := hide (HQ.out.byte hk1 c34 c92)
          rw [← hget.out] at HQ2
          clear c34 c92 HQ hget
          go_wp2_with fail
          refine (writeByte_any _ _ t _ _ HB.out (by omega) hsz).mono ?_
          rintro e w2 ⟨rfl, HB2, hb2⟩
          have hb3 := hb.trans hb2
          replace HB2 := hide HB2
          clear HB hb hb2
          go_wp2_with fail
          go_roundw
          case rel => exact ⟨k + 1, _, by omega, by simp; omega, by go_num, HQ2, HB2, hb3⟩
          case measure => simp [intOf]; omega
    · have hstop := hide (HQ.out.none_ (by rw [List.drop_of_length_le (by have := hlen.out; omega)]; rfl))
      clear HQ HB
      go_wp2_with fail
      go_ret2
      exact QRet.mk (t' := []) hstop.out.1.symm hstop.out.2.symm hb
end Go.Proofs.YtnhcamkccnaeeaaGreatDoor
