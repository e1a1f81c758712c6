/-
  Contracts of the reference lexer's text and marks.
-/
import Derived.Test.YtnbfblikpoblgaaDoorLexC
import Derived.Test.YtnbfblikpoblgaaDoorLexE
namespace Go.Proofs.YtnbfblikpoblgaaDoor
open Go.RowKit
set_option linter.unusedVariables false

/-- What the reference's functions of one token answer. -/
def oneT (r : Option (Tok × Nat)) : Tok := match r with | some x => x.1 | none => ⟨0, [], 0, 0⟩
def oneE (p : Nat) (r : Option (Tok × Nat)) : Int := match r with | some x => ((p + x.2 : Nat) : Int) | none => -1
def oneV (t : Tok) (e : Int) : Value := .agg #[.int .i64 t.kind, .string (str t.text), .int .i64 t.n, .int .i64 (t.pos : Int), .int .i64 e]
/-- The post of the reference's functions of one token. -/
def OneRet (W : World) (p : Nat) (r : Option (Tok × Nat)) (e : Ending) (w' : World) : Prop := e = .returned (oneV (oneT r) (oneE p r)) ∧ Below W.heap.size W w'
theorem OneRet.some_ {W w' : World} {p : Nat} {r : Option (Tok × Nat)} {t : Tok} {k : Nat} {q : Int} (h : r = some (t, k)) (hq : q = (p : Int) + (k : Int)) (hb : Below W.heap.size W w') : OneRet W p r (.returned (oneV t q)) w' := by
  subst h hq
  exact ⟨by simp [oneT, oneE], hb⟩
theorem OneRet.none_ {W w' : World} {p : Nat} {r : Option (Tok × Nat)} (h : r = none) (hb : Below W.heap.size W w') : OneRet W p r (.returned (oneV ⟨0, [], 0, 0⟩ (-1))) w' := by
  subst h
  exact ⟨rfl, hb⟩
def textR (L : List UInt8) (p : Nat) : Option (Tok × Nat) := (quotedL (L.drop (p + 1))).map fun x => (⟨3, x.1, 0, p⟩, x.2 + 1)
theorem str_snoc (s : ByteArray) (t : List UInt8) (k : Nat) (h : k < s.size) : str t ++ s.extract k (k + 1) = str (t ++ [s[k]]) := by
  have hk : k < s.data.toList.length := by rw [data_len]; exact h
  rw [str_extract, str_append, str_get s k h hk, show k + 1 - k = 1 from by omega, List.drop_eq_getElem_cons hk]
  rfl

theorem textR_none {L : List UInt8} {p k : Nat} {t : List UInt8} (h : QRel L (p + 1) k t) (hq : quotedL (L.drop k) = none) : textR L p = none := by
  have := h.2
  rw [hq] at this
  rw [textR, this]; rfl
theorem textR_stop {L : List UInt8} {p k : Nat} {t : List UInt8} {n : Nat} (_hp : p < n) (h : QRel L (p + 1) k t) (hk : k < L.length) (hq : L[k] = 34) : textR L p = some (⟨3, t, 0, p⟩, k - p + 1) := by
  have h2 := h.2
  rw [List.drop_eq_getElem_cons hk, hq, quotedL_end] at h2
  rw [textR, h2]
  simp
  have := h.1
  omega

set_option maxHeartbeats 1000000 in
theorem text_any (s : ByteArray) (p : Nat) (w : World) (hs : s.size ≤ 1000000) (hp : p < s.size) :
    Calls Tryd.prog 72 #[.string s, .int .i64 (p : Int)] w (OneRet w p (textR s.data.toList p)) := by
  have hlen := hide (data_len s)
  go_enter Tryd.func72, Tryd.ntmps72
  go_wp2_with fail
  go_loop [5, 6] (fun v i => ∃ (k : Nat) (t : List UInt8), k ≤ s.size ∧ t.length ≤ k ∧ v = .string (str t) ∧ i = .int .i64 (k : Int) ∧ Hid (QRel s.data.toList (p + 1) k t)) (fun _ i => s.size - (intOf i).toNat)
  case atStart => exact ⟨p + 1, [], by omega, by simp, rfl, by go_num, QRel.start _ _⟩
  case round =>
    obtain ⟨k, t, hk, htl, rfl, rfl, HQ⟩ := hrel
    have hz : (str t).size ≤ 1000000 := by rw [str_size]; omega
    by_cases h1 : k < s.size
    · have hk1 : k < s.data.toList.length := by have := hlen.out; omega
      have hget := hide (str_get s k h1 hk1)
      by_cases c34 : s.data.toList[k] = 34
      · have hstop := hide (textR_stop hp HQ.out hk1 c34)
        have HQ0 := hide HQ.out.1
        have e34 : ((s[k].toNat : Int) != 34) = false := by rw [hget.out, c34]; rfl
        clear c34 HQ hget
        go_wp2_with fail
        refine bodyPost_ret (v := oneV ⟨3, t, 0, p⟩ ((k : Int) + 1)) ?_ rfl (OneRet.some_ hstop.out (by have := HQ0.out; omega) ((Below.refl _ _).alloc (Nat.le_refl _) _))
        simp [results, Tryd.results72, go_sem, oneV]
      · have e34 : ((s[k].toNat : Int) != 34) = true := by rw [hget.out, bne_iff_ne]; exact fun e => c34 (u8_34.2 e)
        by_cases c92 : s.data.toList[k] = 92
        · have e92 : ((s[k].toNat : Int) == 92) = true := by rw [hget.out, c92]; rfl
          by_cases hlast : k + 1 = s.size
          · have hstop := hide (textR_none (p := p) HQ.out (q_esc_end (by have := hlen.out; omega) c92))
            clear c34 c92 HQ hget
            go_wp2_with fail
            refine bodyPost_ret (v := oneV ⟨0, [], 0, 0⟩ (-1)) ?_ rfl (OneRet.none_ hstop.out ((Below.refl _ _).alloc (Nat.le_refl _) _))
            simp [results, Tryd.results72, go_sem, oneV, str]
          · have h2 : k + 1 < s.size := by omega
            have hk2 : k + 1 < s.data.toList.length := by have := hlen.out; omega
            have hget2 := hide (str_get s (k + 1) h2 hk2)
            by_cases d34 : s.data.toList[k + 1] = 34
            · have f34 : ((s[k + 1].toNat : Int) != 34) = false := by rw [hget2.out, d34]; rfl
              have HQ2 := hide (HQ.out.esc hk2 c92 (.inl d34))
              rw [← hget2.out] at HQ2
              have happ := str_snoc s t (k + 1) h2
              clear c34 c92 HQ hget hget2 d34
              go_wp2_with fail
              go_round
              case rel => exact ⟨k + 2, _, by omega, by simp; omega, rfl, by go_num, HQ2⟩
              case measure => simp [intOf]; omega
            · have f34 : ((s[k + 1].toNat : Int) != 34) = true := by rw [hget2.out, bne_iff_ne]; exact fun e => d34 (u8_34.2 e)
              by_cases d92 : s.data.toList[k + 1] = 92
              · have f92 : ((s[k + 1].toNat : Int) != 92) = false := by rw [hget2.out, d92]; rfl
                have HQ2 := hide (HQ.out.esc hk2 c92 (.inr d92))
                rw [← hget2.out] at HQ2
                have happ := str_snoc s t (k + 1) h2
                clear c34 c92 HQ hget hget2 d34 d92
                go_wp2_with fail
                go_round
                case rel => exact ⟨k + 2, _, by omega, by simp; omega, rfl, by go_num, HQ2⟩
                case measure => simp [intOf]; omega
              · have f92 : ((s[k + 1].toNat : Int) != 92) = true := by rw [hget2.out, bne_iff_ne]; exact fun e => d92 (u8_92.2 e)
                have hstop := hide (textR_none (p := p) HQ.out (q_esc_bad hk2 c92 (by intro h; rcases h with h | h; exact d34 h; exact d92 h)))
                clear c34 c92 HQ hget hget2 d34 d92
                go_wp2_with fail
                refine bodyPost_ret (v := oneV ⟨0, [], 0, 0⟩ (-1)) ?_ rfl (OneRet.none_ hstop.out ((Below.refl _ _).alloc (Nat.le_refl _) _))
                simp [results, Tryd.results72, go_sem, oneV, str]
        · have e92 : ((s[k].toNat : Int) == 92) = false := by rw [hget.out, beq_eq_false_iff_ne]; exact fun e => c92 (u8_92.2 e)
          have HQ2 := hide (HQ.out.byte hk1 c34 c92)
          rw [← hget.out] at HQ2
          have happ := str_snoc s t k h1
          clear c34 c92 HQ hget
          go_wp2_with fail
          go_round
          case rel => exact ⟨k + 1, _, by omega, by simp; omega, rfl, by go_num, HQ2⟩
          case measure => simp [intOf]; omega
    · have hstop := hide (textR_none (p := p) HQ.out (by rw [List.drop_of_length_le (by have := hlen.out; omega)]; rfl))
      clear HQ
      go_wp2_with fail
      refine bodyPost_ret (v := oneV ⟨0, [], 0, 0⟩ (-1)) ?_ rfl (OneRet.none_ hstop.out ((Below.refl _ _).alloc (Nat.le_refl _) _))
      simp [results, Tryd.results72, go_sem, oneV, str]
end Go.Proofs.YtnbfblikpoblgaaDoor
