/-
  Contracts of the reference lexer's text and marks.
  Contract of the reference lexer's token.
  Contract of the reference lexer's Tokens.
-/
import Derived.Test.YtnnjcedlomfhoaaGreatDoorHB
namespace Go.Proofs.YtnnjcedlomfhoaaGreatDoor
open Go.RowKit
set_option linter.unusedVariables false
/-- What the reference's functions of one token answer. -/
def oneT (r : Option (Tok × Nat)) : Tok := match r with | some x => x.1 | none => ⟨0, [], 0, 0⟩
def oneE (p : Nat) (r : Option (Tok × Nat)) : Int := match r with | some x => ((p + x.2 : Nat) : Int) | none => -1
def oneV (t : Tok) (e : Int) : Value := .agg #[.int .i64 t.kind, .string (str t.text), .int .i64 t.n, .int .i64 (t.pos : Int), .int .i64 e]
/-- The post of the reference's functions of one token. -/
def OneRet (W : World) (p : Nat) (r : Option (Tok × Nat)) (e : Ending) (w' : World) : Prop := e = .returned (oneV (oneT r) (oneE p r)) ∧ Below W.heap.size W w'
theorem OneRet.some_ {W w' : World} {p : Nat} {r : Option (Tok × Nat)} {t : Tok} {k : Nat} {q : Int} (h : r = some (t, k)) (hq : q = (p : Int) + (k : Int)) (hb : Below W.heap.size W w') : OneRet W p r (.returned (oneV t q)) w' := by
  subst h hq
  exact ⟨by simp [oneT, oneE], hb⟩
theorem OneRet.none_ {W w' : World} {p : Nat} {r : Option (Tok × Nat)} (h : r = none) (hb : Below W.heap.size W w') : OneRet W p r (.returned (oneV ⟨0, [], 0, 0⟩ (-1))) w' := by
  subst h
  exact ⟨rfl, hb⟩
def textR (L : List UInt8) (p : Nat) : Option (Tok × Nat) := (quotedL (L.drop (p + 1))).map fun x => (⟨3, x.1, 0, p⟩, x.2 + 1)
theorem str_snoc (s : ByteArray) (t : List UInt8) (k : Nat) (h : k < s.size) : str t ++ s.extract k (k + 1) = str (t ++ [s[k]]) := by
  have hk : k < s.data.toList.length := by rw [data_len]; exact h
  rw [str_extract, str_append, str_get s k h hk, show k + 1 - k = 1 from by omega, List.drop_eq_getElem_cons hk]
  rfl
theorem textR_none {L : List UInt8} {p k : Nat} {t : List UInt8} (h : QRel L (p + 1) k t) (hq : quotedL (L.drop k) = none) : textR L p = none := by
  have := h.2
  rw [hq] at this
  rw [textR, this]; rfl
theorem textR_stop {L : List UInt8} {p k : Nat} {t : List UInt8} {n : Nat} (_hp : p < n) (h : QRel L (p + 1) k t) (hk : k < L.length) (hq : L[k] = 34) : textR L p = some (⟨3, t, 0, p⟩, k - p + 1) := by
  have h2 := h.2
  rw [List.drop_eq_getElem_cons hk, hq, quotedL_end] at h2
  rw [textR, h2]
  simp
  have := h.1
  omega
set_option maxHeartbeats 1000000 in
theorem text_any (s : ByteArray) (p : Nat) (w : World) (hs : s.size ≤ 1000000) (hp : p < s.size) :
    Calls Tryz.prog 67 #[.string s, .int .i64 (p : Int)] w (OneRet w p (textR s.data.toList p)) := by
  have hlen := hide (data_len s)
  go_enter Tryz.func67, Tryz.ntmps67
  go_wp2_with fail
  go_loop [5, 6] (fun v i => ∃ (k : Nat) (t : List UInt8), k ≤ s.size ∧ t.length ≤ k ∧ v = .string (str t) ∧ i = .int .i64 (k : Int) ∧ Hid (QRel s.data.toList (p + 1) k t)) (fun _ i => s.size - (intOf i).toNat)
  case atStart => exact ⟨p + 1, [], by omega, by simp, rfl, by go_num, QRel.start _ _⟩
  case round =>
    obtain ⟨k, t, hk, htl, rfl, rfl, HQ⟩ := hrel
    have hz : (str t).size ≤ 1000000 := by rw [str_size]; omega
    by_cases h1 : k < s.size
    · have hk1 : k < s.data.toList.length := by have := hlen.out; omega
      have hget := hide (str_get s k h1 hk1)
      by_cases c34 : s.data.toList[k] = 34
      · have hstop := hide (textR_stop hp HQ.out hk1 c34)
        have HQ0 := hide HQ.out.1
        have e34 : ((s[k].toNat : Int) != 34) = false := by rw [hget.out, c34]; rfl
        clear c34 HQ hget
        go_wp2_with fail
        refine bodyPost_ret (v := oneV ⟨3, t, 0, p⟩ ((k : Int) + 1)) ?_ rfl (OneRet.some_ hstop.out (by have := HQ0.out; omega) ((Below.refl _ _).alloc (Nat.le_refl _) _))
        simp [results, Tryz.results67, go_sem, oneV]
      · have e34 : ((s[k].toNat : Int) != 34) = true := by rw [hget.out, bne_iff_ne]; exact fun e => c34 (u8_34.2 e)
        by_cases c92 : s.data.toList[k] = 92
        · have e92 : ((s[k].toNat : Int) == 92) = true := by rw [hget.out, c92]; rfl
          by_cases hlast : k + 1 = s.size
          · have hstop := hide (textR_none (p := p) HQ.out (q_esc_end (by have := hlen.out; omega) c92))
            clear c34 c92 HQ hget
            go_wp2_with fail
            refine bodyPost_ret (v := oneV ⟨0, [], 0, 0⟩ (-1)) ?_ rfl (OneRet.none_ hstop.out ((Below.refl _ _).alloc (Nat.le_refl _) _))
            simp [results, Tryz.results67, go_sem, oneV, str]
          · have h2 : k + 1 < s.size := by omega
            have hk2 : k + 1 < s.data.toList.length := by have := hlen.out; omega
            have hget2 := hide (str_get s (k + 1) h2 hk2)
            by_cases d34 : s.data.toList[k + 1] = 34
            · have f34 : ((s[k + 1].toNat : Int) != 34) = false := by rw [hget2.out, d34]; rfl
              have HQ2 := hide (HQ.out.esc hk2 c92 (.inl d34))
              rw [← hget2.out] at HQ2
              have happ := str_snoc s t (k + 1) h2
              clear c34 c92 HQ hget hget2 d34
              go_wp2_with fail
              go_round
              case rel => exact ⟨k + 2, _, by omega, by simp; omega, rfl, by go_num, HQ2⟩
              case measure => simp [intOf]; omega
            · have f34 : ((s[k + 1].toNat : Int) != 34) = true := by rw [hget2.out, bne_iff_ne]; exact fun e => d34 (u8_34.2 e)
              by_cases d92 : s.data.toList[k + 1] = 92
              · have f92 : ((s[k + 1].toNat : Int) != 92) = false := by rw [hget2.out, d92]; rfl
                have HQ2 := hide (HQ.out.esc hk2 c92 (.inr d92))
                rw [← hget2.out] at HQ2
                have happ := str_snoc s t (k + 1) h2
                clear c34 c92 HQ hget hget2 d34 d92
                go_wp2_with fail
                go_round
                case rel => exact ⟨k + 2, _, by omega, by simp; omega, rfl, by go_num, HQ2⟩
                case measure => simp [intOf]; omega
              · have f92 : ((s[k + 1].toNat : Int) != 92) = true := by rw [hget2.out, bne_iff_ne]; exact fun e => d92 (u8_92.2 e)
                have hstop := hide (textR_none (p := p) HQ.out (q_esc_bad hk2 c92 (by intro h; rcases h with h | h; exact d34 h; exact d92 h)))
                clear c34 c92 HQ hget hget2 d34 d92
                go_wp2_with fail
                refine bodyPost_ret (v := oneV ⟨0, [], 0, 0⟩ (-1)) ?_ rfl (OneRet.none_ hstop.out ((Below.refl _ _).alloc (Nat.le_refl _) _))
                simp [results, Tryz.results67, go_sem, oneV, str]
        · have e92 : ((s[k].toNat : Int) == 92) = false := by rw [hget.out, beq_eq_false_iff_ne]; exact fun e => c92 (u8_92.2 e)
          have HQ2 := hide (HQ.out.byte hk1 c34 c92)
          rw [← hget.out] at HQ2
          have happ := str_snoc s t k h1
          clear c34 c92 HQ hget
          go_wp2_with fail
          go_round
          case rel => exact ⟨k + 1, _, by omega, by simp; omega, rfl, by go_num, HQ2⟩
          case measure => simp [intOf]; omega
    · have hstop := hide (textR_none (p := p) HQ.out (by rw [List.drop_of_length_le (by have := hlen.out; omega)]; rfl))
      clear HQ
      go_wp2_with fail
      refine bodyPost_ret (v := oneV ⟨0, [], 0, 0⟩ (-1)) ?_ rfl (OneRet.none_ hstop.out ((Below.refl _ _).alloc (Nat.le_refl _) _))
      simp [results, Tryz.results67, go_sem, oneV, str]
end Go.Proofs.YtnnjcedlomfhoaaGreatDoor
namespace Go.Proofs.YtnnjcedlomfhoaaGreatDoor
open Go.RowKit
set_option linter.unusedVariables false
theorem marks_any (w : World) : Calls Tryz.prog 68 #[] w fun e w' => e = .returned (.slice (some ⟨w.heap.size, 0, none⟩) 9 9) ∧ w.alloc (.cells #[.string (str (markN 0)), .string (str (markN 1)), .string (str (markN 2)), .string (str (markN 3)), .string (str (markN 4)), .string (str (markN 5)), .string (str (markN 6)), .string (str (markN 7)), .string (str (markN 8))] 9) = w' := by
  go_enter Tryz.func68, Tryz.ntmps68
  go_wp2_with fail
  go_ret
  exact ⟨rfl, rfl⟩
theorem marks_cell (w w' : World) (g : Nat) (h : w.heap[g]? = some (.cells #[.string (str (markN 0)), .string (str (markN 1)), .string (str (markN 2)), .string (str (markN 3)), .string (str (markN 4)), .string (str (markN 5)), .string (str (markN 6)), .string (str (markN 7)), .string (str (markN 8))] 9 (0, 0))) (k : Nat) (hk : k < 9) :
    w.cell? ⟨g, k, none⟩ = some (.string (str (markN k))) := by
  rw [cell_of_row w g k _ 9 (0, 0) h]
  match k, hk with
  | 0, _ => rfl
  | 1, _ => rfl
  | 2, _ => rfl
  | 3, _ => rfl
  | 4, _ => rfl
  | 5, _ => rfl
  | 6, _ => rfl
  | 7, _ => rfl
  | 8, _ => rfl
theorem markN_len (k : Nat) (hk : k < 9) : 1 ≤ (markN k).length ∧ (markN k).length ≤ 2 := by
  have : ∀ k, k < 9 → 1 ≤ (markN k).length ∧ (markN k).length ≤ 2 := by decide
  exact this k hk
theorem prefix_extract (s : ByteArray) (m : List UInt8) (p : Nat) (hp : p ≤ s.size) : m.isPrefixOf (s.data.toList.drop p) = (decide (p + m.length ≤ s.size) && ((s.extract p (p + m.length)).toList == (str m).toList)) := by
  rw [str_bytes, str_extract, str_bytes, show p + m.length - p = m.length from by omega, Bool.eq_iff_iff]
  simp only [List.isPrefixOf_iff_prefix, Bool.and_eq_true, decide_eq_true_eq, beq_iff_eq]
  have hl := data_len s
  constructor
  · rintro ⟨t, ht⟩
    have h1 := congrArg List.length ht
    simp at h1
    refine ⟨by omega, ?_⟩
    rw [← ht]; simp
  · rintro ⟨_, h⟩
    exact ⟨(s.data.toList.drop p).drop m.length, by
      have := List.take_append_drop m.length (s.data.toList.drop p)
      rw [h] at this; exact this⟩
theorem small_iff (c : UInt8) : smallB c = true ↔ (97 : Int) ≤ (c.toNat : Int) ∧ (c.toNat : Int) ≤ 122 := by simp [smallB]
theorem digit_iff (c : UInt8) : digitB c = true ↔ (48 : Int) ≤ (c.toNat : Int) ∧ (c.toNat : Int) ≤ 57 := by simp [digitB]
set_option maxRecDepth 100000 in
set_option maxHeartbeats 4000000 in
theorem token_any (s : ByteArray) (p : Nat) (w : World) (hs : s.size ≤ 1000000) (hp : p < s.size) :
    Calls Tryz.prog 45 #[.string s, .int .i64 (p : Int)] w (OneRet w p (tokL (s.data.toList.drop p) p)) := by
  have hlen := hide (data_len s)
  have hpL : p < s.data.toList.length := by have := hlen.out; omega
  obtain ⟨e1, he1⟩ : ∃ e, e = p + runL smallB (s.data.toList.drop p) := ⟨_, rfl⟩
  replace he1 := hide he1
  obtain ⟨e2, he2⟩ : ∃ e, e = p + runL digitB (s.data.toList.drop p) := ⟨_, rfl⟩
  replace he2 := hide he2
  have hl1 : e1 ≤ s.size := by have := takeWhile_len smallB (s.data.toList.drop p); rw [List.length_drop, hlen.out] at this; have := he1.out; omega
  have hl2 : e2 ≤ s.size := by have := takeWhile_len digitB (s.data.toList.drop p); rw [List.length_drop, hlen.out] at this; have := he2.out; omega
  have hg1 : p ≤ e1 := by have := he1.out; omega
  have hg2 : p ≤ e2 := by have := he2.out; omega
  go_enter Tryz.func45, Tryz.ntmps45
  go_upto_block 0 with fail
  go_cut [5] (fun v wx => v = .int .i64 (e1 : Int) ∧ wx = w.alloc (.cells #[.int .i64 0, .string ⟨#[]⟩, .int .i64 0, .int .i64 0, .int .i64 0] 94))
  case first =>
    go_wp2_with fail
    go_loop [5] (fun i => ∃ k : Nat, k ≤ s.size ∧ p ≤ k ∧ i = .int .i64 (k : Int) ∧ Hid (e1 = k + runL smallB (s.data.toList.drop k))) (fun i => s.size - (intOf i).toNat)
    case atStart => exact ⟨p, by omega, by omega, rfl, he1⟩
    case round =>
      obtain ⟨k, hk, hpk, rfl, HE⟩ := hrel
      by_cases h1 : k < s.size
      · have hd := hide (runL_drop smallB s.data.toList k (by have := hlen.out; omega))
        have hget := hide (str_get s k h1 (by have := hlen.out; omega))
        by_cases h2 : smallB s.data.toList[k] = true
        · have HE2 : Hid (e1 = (k + 1) + runL smallB (s.data.toList.drop (k + 1))) := by
            have := hd.out
            rw [if_pos h2] at this
            rw [Hid, HE.out]; omega
          have h3 := (small_iff _).1 h2
          rw [← hget.out] at h3
          obtain ⟨h4, h5⟩ := h3
          clear hd HE h2 hget
          go_wp2_with fail
          go_round
          case rel => exact ⟨k + 1, by omega, by omega, by go_num, HE2⟩
          case measure => simp [intOf]; omega
        · have HE2 : Hid (e1 = k) := by
            have := hd.out
            rw [if_neg h2] at this
            rw [Hid, HE.out]; omega
          have h3 : ¬ ((97 : Int) ≤ (s[k].toNat : Int) ∧ (s[k].toNat : Int) ≤ 122) := by rw [hget.out]; exact fun h => h2 ((small_iff _).2 h)
          clear hd HE h2 hget
          by_cases h4 : (97 : Int) ≤ (s[k].toNat : Int)
          · have h5 : (122 : Int) < (s[k].toNat : Int) := by omega
            clear h3
            go_wp2_with fail
            go_meet
            exact ⟨by rw [HE2.out], rfl⟩
          · have h5 : (s[k].toNat : Int) < 97 := by omega
            clear h3
            go_wp2_with fail
            go_meet
            exact ⟨by rw [HE2.out], rfl⟩
      · have HE2 : Hid (e1 = k) := by
          rw [Hid, HE.out, List.drop_of_length_le (by have := hlen.out; omega)]; rfl
        clear HE
        go_wp2_with fail
        go_meet
        exact ⟨by rw [HE2.out], rfl⟩
  case rest =>
    obtain ⟨rfl, rfl⟩ := hcut
    by_cases hw : p < e1
    · have hT := hide (show tokL (s.data.toList.drop p) p = some (⟨1, (s.data.toList.drop p).takeWhile smallB, 0, p⟩, runL smallB (s.data.toList.drop p)) from by rw [tokL, if_pos (by have := he1.out; omega)])
      have hX := extract_run s smallB p
      rw [← he1.out] at hX
      go_wp2_with fail
      refine bodyPost_ret (v := oneV ⟨1, (s.data.toList.drop p).takeWhile smallB, 0, p⟩ (e1 : Int)) ?_ rfl (OneRet.some_ hT.out (by have := he1.out; omega) ((Below.refl _ _).alloc (Nat.le_refl _) _))
      simp [results, Tryz.results45, go_sem, oneV]
    · have hpe : p = e1 := by omega
      have hr1 : Hid (¬ runL smallB (s.data.toList.drop p) ≠ 0) := by rw [Hid]; have := he1.out; omega
      subst hpe
      obtain ⟨D, hD⟩ : ∃ D, D = (s.data.toList.drop p).takeWhile digitB := ⟨_, rfl⟩
      have hDd := hide (takeWhile_all digitB (s.data.toList.drop p))
      rw [← hD] at hDd
      have hdl : Hid (D.length = runL digitB (s.data.toList.drop p)) := by rw [Hid, hD]; rfl
      have hDg : Hid (∀ j (h : j < D.length), ∃ h2 : p + j < s.size, s[p + j] = D[j]) := by
        intro j hj
        have h2 : p + j < s.size := by have := hdl.out; have := he2.out; omega
        refine ⟨h2, ?_⟩
        rw [str_get s (p + j) h2 (by have := hlen.out; omega)]
        subst hD
        have e : ((s.data.toList.drop p).takeWhile digitB) = (s.data.toList.drop p).take (runL digitB (s.data.toList.drop p)) := takeWhile_take _ _
        rw [List.getElem_of_eq e hj]
        simp
      have hnb := hide (fun k hk => numOf_bounds D hDd.out k hk)
      have hn16 : Hid (∀ k, k ≤ D.length → 0 ≤ numOf (D.take (min k 16)) ∧ numOf (D.take (min k 16)) ≤ 10000000000000000) := by
        intro k hk
        have := hnb.out (min k 16) (by omega)
        refine ⟨this.1, ?_⟩
        have h2 : (10 : Int) ^ (min k 16) ≤ 10 ^ 16 := by
          have : (10 : Nat) ^ (min k 16) ≤ 10 ^ 16 := Nat.pow_le_pow_right (by omega) (by omega)
          exact_mod_cast this
        have h3 : (10 : Int) ^ 16 = 10000000000000000 := by decide
        omega
      have hed : Hid (e2 = p + D.length) := by rw [Hid, hdl.out]; exact he2.out
      have hde : D.length ≤ 1000000 := by have := hed.out; omega
      have hD2 := hide hD
      clear hD hw
      go_upto_block 2 with fail
      go_cut [5, 6] (fun v n wx => v = .int .i64 (e2 : Int) ∧ n = .int .i64 (numOf (D.take (min D.length 16))) ∧ wx = w.alloc (.cells #[.int .i64 0, .string ⟨#[]⟩, .int .i64 0, .int .i64 0, .int .i64 0] 94))
      case first =>
        go_wp2_with fail
        go_loop [5, 6] (fun i n => ∃ j : Nat, j ≤ D.length ∧ i = .int .i64 ((p : Int) + (j : Int)) ∧ n = .int .i64 (numOf (D.take (min j 16)))) (fun i _ => s.size - (intOf i).toNat)
        case atStart => exact ⟨0, by omega, by go_num, rfl⟩
        case round =>
          obtain ⟨j, hj, rfl, rfl⟩ := hrel
          have hb := hn16.out j hj
          obtain ⟨hb1, hb2⟩ := hb
          by_cases h1 : j < D.length
          · obtain ⟨h2, hget⟩ := hDg.out j h1
            have hdig := digit_bounds (hDd.out D[j] (List.getElem_mem _))
            rw [← hget] at hdig
            obtain ⟨hd1, hd2⟩ := hdig
            have q1 : ((p : Int) + (j : Int)).toNat = p + j := by omega
            have q2 : (p : Int) + (j : Int) < (s.size : Int) := by omega
            have q3 : (0 : Int) ≤ (p : Int) + (j : Int) := by omega
            by_cases h16 : j < 16
            · have hS : Hid (numOf (D.take (min (j + 1) 16)) = 10 * numOf (D.take (min j 16)) + ((s[p + j].toNat : Int) - 48)) := by
                rw [Hid, show min (j + 1) 16 = j + 1 from by omega, show min j 16 = j from by omega, numOf_take D j h1, hget]
              replace hget := hide hget
              generalize numOf (D.take (min j 16)) = v0 at *
              go_wp2_with fail
              go_round
              case rel => exact ⟨j + 1, by omega, by go_num, by rw [hS.out]⟩
              case measure => simp [intOf]; omega
            · have hS : Hid (numOf (D.take (min (j + 1) 16)) = numOf (D.take (min j 16))) := by
                rw [Hid, show min (j + 1) 16 = 16 from by omega, show min j 16 = 16 from by omega]
              replace hget := hide hget
              generalize numOf (D.take (min j 16)) = v0 at *
              go_wp2_with fail
              go_round
              case rel => exact ⟨j + 1, by omega, by go_num, by rw [hS.out]⟩
              case measure => simp [intOf]; omega
          · have hjd : j = D.length := by omega
            subst hjd
            have hed' : Hid ((e2 : Int) = (p : Int) + (D.length : Int)) := by rw [Hid, hed.out]; omega
            by_cases hend : e2 = s.size
            · have q2 : ¬ (p : Int) + (D.length : Int) < (s.size : Int) := by have := hed'.out; omega
              generalize numOf (D.take (min D.length 16)) = v0 at *
              go_wp2_with fail
              go_meet
              exact ⟨by rw [hed'.out], rfl, rfl⟩
            · have hlt : p + D.length < s.size := by have := hed.out; omega
              have hnd : digitB s[p + D.length] = false := by
                rw [str_get s _ hlt (by have := hlen.out; omega), ← runL_head digitB s.data.toList (p + D.length) (by have := hlen.out; omega), hdl.out, ← List.drop_drop]
                exact runL_rest _ _
              have h3 : ¬ ((48 : Int) ≤ (s[p + D.length].toNat : Int) ∧ (s[p + D.length].toNat : Int) ≤ 57) := fun h => by rw [(digit_iff _).2 h] at hnd; cases hnd
              have q1 : ((p : Int) + (D.length : Int)).toNat = p + D.length := by omega
              have q2 : (p : Int) + (D.length : Int) < (s.size : Int) := by omega
              have q3 : (0 : Int) ≤ (p : Int) + (D.length : Int) := by omega
              clear hnd
              generalize numOf (D.take (min D.length 16)) = v0 at *
              by_cases h4 : (48 : Int) ≤ (s[p + D.length].toNat : Int)
              · have h5 : (57 : Int) < (s[p + D.length].toNat : Int) := by omega
                clear h3
                go_wp2_with fail
                go_meet
                exact ⟨by rw [hed'.out], rfl, rfl⟩
              · have h5 : (s[p + D.length].toNat : Int) < 48 := by omega
                clear h3
                go_wp2_with fail
                go_meet
                exact ⟨by rw [hed'.out], rfl, rfl⟩
      case rest =>
        obtain ⟨rfl, rfl, rfl⟩ := hcut
        obtain ⟨hv0, hv1⟩ := hn16.out D.length (Nat.le_refl _)
        by_cases hd0 : 0 < D.length
        · have hT := hide (show tokL (s.data.toList.drop p) p = if numBad D then none else some (⟨2, [], numOf D, p⟩, D.length) from by
            rw [tokL, if_neg hr1.out, if_pos (by have := hdl.out; omega), hdl.out, hD2.out])
          obtain ⟨h2, hget⟩ := hDg.out 0 hd0
          have hpe : p < e2 := by have := hed.out; omega
          have hed2 : Hid ((e2 : Int) - (p : Int) = (D.length : Int)) := by rw [Hid, hed.out]; omega
          have hbad : Hid (numBad D = (decide (15 < D.length) || (decide (1 < D.length) && ((s[p].toNat : Int) == 48)))) := by
            rw [Hid, numBad, head_is D hd0, ← hget]; rfl
          clear hget
          by_cases h15 : 15 < D.length
          · have hT2 := hT.out
            rw [if_pos (by rw [hbad.out]; simp [h15])] at hT2
            replace hT2 := hide hT2
            have q1 : (15 : Int) < (e2 : Int) - (p : Int) := by have := hed2.out; omega
            clear hT hbad
            go_wp2_with fail
            refine bodyPost_ret (v := oneV ⟨0, [], 0, 0⟩ (-1)) ?_ rfl (OneRet.none_ hT2.out ((Below.refl _ _).alloc (Nat.le_refl _) _))
            simp [results, Tryz.results45, go_sem, oneV, str]
          · have q1 : (e2 : Int) - (p : Int) ≤ 15 := by have := hed2.out; omega
            have hmin : D.take (min D.length 16) = D := by rw [List.take_of_length_le (by omega)]
            rw [hmin] at hv0 hv1
            rw [hmin]
            clear hmin
            have hgood : numBad D = false → Hid (tokL (s.data.toList.drop p) p = some (⟨2, [], numOf D, p⟩, D.length)) := fun h => by rw [Hid, hT.out, h]; rfl
            replace hgood := hide hgood
            generalize numOf D = v0 at *
            by_cases h1 : 1 < D.length
            · have q2 : (1 : Int) < (e2 : Int) - (p : Int) := by have := hed2.out; omega
              by_cases h48 : ((s[p].toNat : Int) == 48) = true
              · have hT2 := hT.out
                rw [if_pos (by rw [hbad.out, h48]; simp [h1])] at hT2
                replace hT2 := hide hT2
                clear hT hbad hgood
                go_wp2_with fail
                refine bodyPost_ret (v := oneV ⟨0, [], 0, 0⟩ (-1)) ?_ rfl (OneRet.none_ hT2.out ((Below.refl _ _).alloc (Nat.le_refl _) _))
                simp [results, Tryz.results45, go_sem, oneV, str]
              · have h48' : ((s[p].toNat : Int) == 48) = false := by simpa using h48
                have hT2 := hgood.out (by rw [hbad.out, h48']; simp [h15])
                clear hT hbad hgood h48
                go_wp2_with fail
                refine bodyPost_ret (v := oneV ⟨2, [], v0, p⟩ (e2 : Int)) ?_ rfl (OneRet.some_ hT2.out (by have := hed.out; omega) ((Below.refl _ _).alloc (Nat.le_refl _) _))
                simp [results, Tryz.results45, go_sem, oneV, str]
            · have q2 : (e2 : Int) - (p : Int) ≤ 1 := by have := hed2.out; omega
              have hT2 := hgood.out (by rw [hbad.out]; simp [h15, h1])
              clear hT hbad hgood
              go_wp2_with fail
              refine bodyPost_ret (v := oneV ⟨2, [], v0, p⟩ (e2 : Int)) ?_ rfl (OneRet.some_ hT2.out (by have := hed.out; omega) ((Below.refl _ _).alloc (Nat.le_refl _) _))
              simp [results, Tryz.results45, go_sem, oneV, str]
        · have hpe : p = e2 := by have := hed.out; omega
          have hr2 : Hid (¬ runL digitB (s.data.toList.drop p) ≠ 0) := by rw [Hid]; have := hdl.out; omega
          subst hpe
          have hdrop := hide (drop_head s.data.toList p hpL)
          have hget := hide (str_get s p hp hpL)
          generalize numOf (D.take (min D.length 16)) = v0 at *
          clear hn16 hnb hDg hDd hD2 hed hdl hd0 hde
          by_cases hq : s.data.toList[p] = 34
          · have e34 : ((s[p].toNat : Int) == 34) = true := by rw [hget.out, hq]; rfl
            have hT := hide (show tokL (s.data.toList.drop p) p = textR s.data.toList p from by
              rw [tokL, if_neg hr1.out, if_neg hr2.out, hdrop.out, hq]; simp [textR])
            clear hq hget hdrop hr1 hr2
            go_wp2_with fail
            refine (text_any s p _ hs hp).mono ?_
            rintro e w2 ⟨rfl, hb2⟩
            rw [← hT.out]
            clear hT
            have hsz := hb2.size
            have hbk := Blk.below (Blk.new w 94 #[.int .i64 0, .string ⟨#[]⟩, .int .i64 0, .int .i64 0, .int .i64 0]) hb2 (by simp)
            have hq0 := hbk.cell 0
            have hq1 := hbk.cell 1
            have hq2 := hbk.cell 2
            have hq3 := hbk.cell 3
            have hq4 := hbk.cell 4
            have hf0 := hbk.frozen 0
            have hf1 := hbk.frozen 1
            have hf2 := hbk.frozen 2
            have hf3 := hbk.frozen 3
            have hf4 := hbk.frozen 4
            have hbw : Below w.heap.size w w2 := ((Below.refl _ _).alloc (Nat.le_refl _) _).trans (hb2.mono (by simp))
            have hpost := hide (fun (w' : World) (h : Below w.heap.size w w') => (show OneRet w p (tokL (s.data.toList.drop p) p) (.returned (oneV (oneT (tokL (s.data.toList.drop p) p)) (oneE p (tokL (s.data.toList.drop p) p)))) w' from ⟨rfl, h⟩))
            replace hbk := hide hbk
            generalize oneT (tokL (s.data.toList.drop p) p) = tt at *
            generalize oneE p (tokL (s.data.toList.drop p) p) = te at *
            obtain ⟨k0, k1, k2, k3⟩ := tt
            unfold oneV
            simp only
            go_wp2_with fail
            obtain ⟨w3, hw3⟩ : ∃ x, x = ((((w2.setCell ⟨w.heap.size, 0, none⟩ (.int .i64 k0)).setCell ⟨w.heap.size, 1, none⟩ (.string (str k1))).setCell ⟨w.heap.size, 2, none⟩ (.int .i64 k2)).setCell ⟨w.heap.size, 3, none⟩ (.int .i64 (k3 : Int))).setCell ⟨w.heap.size, 4, none⟩ (.int .i64 te) := ⟨_, rfl⟩
            rw [← hw3]
            have hbw3 : Below w.heap.size w w3 := by
              rw [hw3]
              repeat (first | exact hbw | refine below_set ?_ (Nat.le_refl _) _)
            have hbk3 : Blk w3 w.heap.size 94 #[.int .i64 k0, .string (str k1), .int .i64 k2, .int .i64 (k3 : Int), .int .i64 te] := by
              rw [hw3]
              exact ((((hbk.out.set_ 0 _).set_ 1 _).set_ 2 _).set_ 3 _).set_ 4 _
            clear hw3 hq0 hq1 hq2 hq3 hq4 hbk
            have hq0 := hbk3.cell 0
            have hq1 := hbk3.cell 1
            have hq2 := hbk3.cell 2
            have hq3 := hbk3.cell 3
            have hq4 := hbk3.cell 4
            refine bodyPost_ret (v := oneV ⟨k0, k1, k2, k3⟩ te) ?_ rfl (hpost.out _ hbw3)
            simp [results, Tryz.results45, go_sem, oneV, hq0, hq1, hq2, hq3, hq4]
          · have e34 : ((s[p].toNat : Int) == 34) = false := by rw [hget.out, beq_eq_false_iff_ne]; exact fun e => hq (u8_34.2 e)
            have hT := hide (show tokL (s.data.toList.drop p) p = if markL (s.data.toList.drop p) = [] then none else some (⟨4, markL (s.data.toList.drop p), 0, p⟩, (markL (s.data.toList.drop p)).length) from by
              rw [tokL, if_neg hr1.out, if_neg hr2.out, if_neg (by rw [hdrop.out]; simpa using hq)])
            clear hq hget hdrop hr1 hr2
            go_wp2_with fail
            refine (marks_any _).mono ?_
            rintro e w2 ⟨rfl, hw2⟩
            have hbkM := Blk.new (w.alloc (.cells #[.int .i64 0, .string ⟨#[]⟩, .int .i64 0, .int .i64 0, .int .i64 0] 94)) 9 #[.string (str (markN 0)), .string (str (markN 1)), .string (str (markN 2)), .string (str (markN 3)), .string (str (markN 4)), .string (str (markN 5)), .string (str (markN 6)), .string (str (markN 7)), .string (str (markN 8))]
            rw [hw2] at hbkM
            have hbk := (Blk.new w 94 #[.int .i64 0, .string ⟨#[]⟩, .int .i64 0, .int .i64 0, .int .i64 0]).alloc (.cells #[.string (str (markN 0)), .string (str (markN 1)), .string (str (markN 2)), .string (str (markN 3)), .string (str (markN 4)), .string (str (markN 5)), .string (str (markN 6)), .string (str (markN 7)), .string (str (markN 8))] 9)
            rw [hw2] at hbk
            have hbw : Below w.heap.size w w2 := by
              rw [← hw2]
              exact ((Below.refl _ _).alloc (Nat.le_refl _) _).alloc (by simp) _
            clear hw2
            rw [show (w.alloc (.cells #[.int .i64 0, .string ⟨#[]⟩, .int .i64 0, .int .i64 0, .int .i64 0] 94)).heap.size = w.heap.size + 1 from by simp] at *
            have HM := hide (fun k hk => marks_cell w2 w2 (w.heap.size + 1) hbkM k hk)
            replace hbk := hide hbk
            clear hbkM
            go_wp2_with fail
            go_loopw [8] (fun i wr => ∃ k : Nat, k ≤ 9 ∧ i = .int .i64 (k : Int) ∧ Qt w2 wr ∧ Hid (markL (s.data.toList.drop p) = markFrom k (s.data.toList.drop p))) (fun i _ => 9 - (intOf i).toNat)
            case atStart => exact ⟨0, by omega, rfl, Qt.refl _, rfl⟩
            case round =>
              obtain ⟨k, hk, rfl, hqt, HE⟩ := hrel
              obtain ⟨q, rfl⟩ := hqt
              by_cases hk9 : k < 9
              · have hcell := HM.out k hk9
                have hml := markN_len k hk9
                have hpx := hide (prefix_extract s (markN k) p (by omega))
                have hmz := str_size (markN k)
                have hmiss := hide (fun h => markFrom_miss (l := s.data.toList.drop p) hk9 h)
                have hhit := hide (fun h => markFrom_hit (l := s.data.toList.drop p) hk9 h)
                obtain ⟨hml1, hml2⟩ := hml
                generalize markN k = mk at *
                by_cases hfit : p + mk.length ≤ s.size
                · have q1 : IntKind.i64.wrap ((p : Int) + (mk.length : Int)) = (p : Int) + (mk.length : Int) := IntWalk.i64_in _ (by omega)
                  have q2 : ((p : Int) + (mk.length : Int)).toNat = p + mk.length := by omega
                  have q3 : (0 : Int) ≤ (p : Int) + (mk.length : Int) := by omega
                  have q4 : (p : Int) + (mk.length : Int) ≤ (s.size : Int) := by omega
                  have q5 : (p : Int) ≤ (p : Int) + (mk.length : Int) := by omega
                  have q6 : (k : Int) < 9 := by omega
                  by_cases heq : ((s.extract p (p + mk.length)).toList == (str mk).toList) = true
                  · have hM := hide (HE.out.trans (hhit.out (by rw [hpx.out, heq]; simp [hfit])))
                    have hT2 : Hid (tokL (s.data.toList.drop p) p = some (⟨4, mk, 0, p⟩, mk.length)) := by
                      rw [Hid, hT.out, hM.out, if_neg]
                      intro h; rw [h] at hml1; simp at hml1
                    clear hpx hmiss hhit hM hT HE
                    have hq0 := hbk.out.cell 0
                    have hq1 := hbk.out.cell 1
                    have hq2 := hbk.out.cell 2
                    have hq3 := hbk.out.cell 3
                    have hq4 := hbk.out.cell 4
                    have hf0 := hbk.out.frozen 0
                    have hf1 := hbk.out.frozen 1
                    have hf2 := hbk.out.frozen 2
                    have hf3 := hbk.out.frozen 3
                    have hf4 := hbk.out.frozen 4
                    go_wp2_with fail
                    go_quiet (fail)
                    go_wp2_with fail
                    go_region
                    all_goals
                      go_wp2_with fail
                      obtain ⟨w4, hw4⟩ : ∃ x, x = w2.drewN (q + nq + 1) := ⟨_, rfl⟩
                      rw [← hw4]
                      have hb2 : Below w.heap.size w w4 := by rw [hw4]; exact hbw.trans (Qt.below ⟨_, rfl⟩ _)
                      have hbk2 : Blk w4 w.heap.size 94 #[.int .i64 0, .string ⟨#[]⟩, .int .i64 0, .int .i64 0, .int .i64 0] := by rw [hw4]; exact hbk.out.drewN _
                      clear hw4 hq0 hq1 hq2 hq3 hq4 hf0 hf1 hf2 hf3 hf4
                      obtain ⟨w3, hw3⟩ : ∃ x, x = ((((w4.setCell ⟨w.heap.size, 0, none⟩ (.int .i64 4)).setCell ⟨w.heap.size, 1, none⟩ (.string (str mk))).setCell ⟨w.heap.size, 2, none⟩ (.int .i64 0)).setCell ⟨w.heap.size, 3, none⟩ (.int .i64 (p : Int))).setCell ⟨w.heap.size, 4, none⟩ (.int .i64 ((p : Int) + (mk.length : Int))) := ⟨_, rfl⟩
                      rw [← hw3]
                      have hbw3 : Below w.heap.size w w3 := by
                        rw [hw3]
                        repeat (first | exact hb2 | refine below_set ?_ (Nat.le_refl _) _)
                      have hbk3 : Blk w3 w.heap.size 94 #[.int .i64 4, .string (str mk), .int .i64 0, .int .i64 (p : Int), .int .i64 ((p : Int) + (mk.length : Int))] := by
                        rw [hw3]
                        exact ((((hbk2.set_ 0 _).set_ 1 _).set_ 2 _).set_ 3 _).set_ 4 _
                      clear hw3 hbk
                      have hq0 := hbk3.cell 0
                      have hq1 := hbk3.cell 1
                      have hq2 := hbk3.cell 2
                      have hq3 := hbk3.cell 3
                      have hq4 := hbk3.cell 4
                      refine bodyPost_ret (v := oneV ⟨4, mk, 0, p⟩ ((p : Int) + (mk.length : Int))) ?_ rfl (OneRet.some_ hT2.out rfl hbw3)
                      simp [results, Tryz.results45, go_sem, oneV, hq0, hq1, hq2, hq3, hq4]
                  · have heq' : ((s.extract p (p + mk.length)).toList == (str mk).toList) = false := eq_false_of_ne_true heq
                    have hM := hide (HE.out.trans (hmiss.out (by rw [hpx.out, heq']; simp)))
                    clear heq hpx hmiss hhit HE
                    go_wp2_with fail
                    go_quiet (fail)
                    clear q1 q2 q3 q4 q5 q6
                    go_wp2_with fail
                    go_roundw
                    case rel => exact ⟨k + 1, by omega, by go_num, by repeat (first | exact ⟨_, rfl⟩ | apply Qt.drewN), hM⟩
                    case measure => simp [intOf]; omega
                · have q1 : IntKind.i64.wrap ((p : Int) + (mk.length : Int)) = (p : Int) + (mk.length : Int) := IntWalk.i64_in _ (by omega)
                  have q4 : ¬ (p : Int) + (mk.length : Int) ≤ (s.size : Int) := by omega
                  have q5 : decide ((p : Int) + (mk.length : Int) ≤ (s.size : Int)) = false := by simpa using q4
                  have q6 : (k : Int) < 9 := by omega
                  have hM := hide (HE.out.trans (hmiss.out (by rw [hpx.out]; simp [hfit])))
                  clear hpx hmiss hhit HE
                  go_wp2_with fail
                  go_quiet (fail)
                  clear q1 q4 q5 q6
                  go_wp2_with fail
                  go_roundw
                  case rel => exact ⟨k + 1, by omega, by go_num, by repeat (first | exact ⟨_, rfl⟩ | apply Qt.drewN), hM⟩
                  case measure => simp [intOf]; omega
              · have hk' : k = 9 := by omega
                subst hk'
                have hT2 : Hid (tokL (s.data.toList.drop p) p = none) := by
                  have e9 : markFrom 9 (s.data.toList.drop p) = [] := rfl
                  rw [Hid, hT.out, HE.out, e9]; rfl
                clear hT HE HM
                have hb2 : Below w.heap.size w (w2.drewN q) := hbw.trans (Qt.below ⟨q, rfl⟩ _)
                have hbk2 : Blk (w2.drewN q) w.heap.size 94 #[.int .i64 0, .string ⟨#[]⟩, .int .i64 0, .int .i64 0, .int .i64 0] := hbk.out.drewN q
                generalize w2.drewN q = w4 at *
                have hq0 := hbk2.cell 0
                have hq1 := hbk2.cell 1
                have hq2 := hbk2.cell 2
                have hq3 := hbk2.cell 3
                have hq4 := hbk2.cell 4
                have hf0 := hbk2.frozen 0
                have hf1 := hbk2.frozen 1
                have hf2 := hbk2.frozen 2
                have hf3 := hbk2.frozen 3
                have hf4 := hbk2.frozen 4
                replace hbk2 := hide hbk2
                go_wp2_with fail
                obtain ⟨w3, hw3⟩ : ∃ x, x = ((((w4.setCell ⟨w.heap.size, 0, none⟩ (.int .i64 0)).setCell ⟨w.heap.size, 1, none⟩ (.string ⟨#[]⟩)).setCell ⟨w.heap.size, 2, none⟩ (.int .i64 0)).setCell ⟨w.heap.size, 3, none⟩ (.int .i64 0)).setCell ⟨w.heap.size, 4, none⟩ (.int .i64 (-1)) := ⟨_, rfl⟩
                rw [← hw3]
                have hbw3 : Below w.heap.size w w3 := by
                  rw [hw3]
                  repeat (first | exact hb2 | refine below_set ?_ (Nat.le_refl _) _)
                have hbk3 : Blk w3 w.heap.size 94 #[.int .i64 0, .string ⟨#[]⟩, .int .i64 0, .int .i64 0, .int .i64 (-1)] := by
                  rw [hw3]
                  exact ((((hbk2.out.set_ 0 _).set_ 1 _).set_ 2 _).set_ 3 _).set_ 4 _
                clear hw3 hbk hq0 hq1 hq2 hq3 hq4
                have hq0 := hbk3.cell 0
                have hq1 := hbk3.cell 1
                have hq2 := hbk3.cell 2
                have hq3 := hbk3.cell 3
                have hq4 := hbk3.cell 4
                refine bodyPost_ret (v := oneV ⟨0, [], 0, 0⟩ (-1)) ?_ rfl (OneRet.none_ hT2.out hbw3)
                simp [results, Tryz.results45, go_sem, oneV, str, hq0, hq1, hq2, hq3, hq4]
end Go.Proofs.YtnnjcedlomfhoaaGreatDoor
namespace Go.Proofs.YtnnjcedlomfhoaaGreatDoor
open Go.RowKit
set_option linter.unusedVariables false
/-- What the reference's Tokens returns: a struct of tokens of the call's own, a place, an error. -/
def RRet (W : World) (l : List Tok) (p : Nat) (e : Int) (en : Ending) (w' : World) : Prop :=
  ∃ v, en = .returned (.agg #[v, .int .i64 (p : Int), .int .i64 e]) ∧ OT w' W.heap.size v l.length l ∧ Below W.heap.size W w'
theorem RRet.mk {W w' : World} {l l' : List Tok} {p p' : Nat} {e e' : Int} {v : Value} {n : Nat} (h : OT w' W.heap.size v n l') (hl : l = l') (hp : p = p') (he : e = e') (hb : Below W.heap.size W w') :
    RRet W l p e (.returned (.agg #[v, .int .i64 (p' : Int), .int .i64 e'])) w' := by
  subst hl hp he
  exact ⟨v, rfl, by rw [h.len]; exact h, hb⟩
theorem OT.own_lt {w : World} {base n : Nat} {v : Value} {l : List Tok} (h : OT w base v n l) (k : Nat) (hk : v.ownBlock = some k) : k < w.heap.size := by
  rcases h.parts with ⟨rfl, _, _⟩ | ⟨g, cap, rfl, _, _, _, hg⟩
  · simp [Value.ownBlock] at hk
  · simp [Value.ownBlock] at hk; omega
theorem TRel.blank1 {L : List UInt8} {p : Nat} {done : List Tok} (h : TRel L p done) (hp : p < L.length) (hb : blankB L[p] = true) : TRel L (p + 1) done := by
  obtain ⟨h1, h2, h3⟩ := h
  have e1 := toksF_blank L.length p (L.drop p) (by simp)
  have e2 := toksF_blank L.length (p + 1) (L.drop (p + 1)) (by simp)
  have hr := runL_drop blankB L p hp
  rw [if_pos hb] at hr
  rw [List.drop_drop] at e1 e2
  rw [show p + runL blankB (L.drop p) = p + 1 + runL blankB (L.drop (p + 1)) from by omega, ← e2] at e1
  rw [e1] at h2 h3
  exact ⟨by omega, h2, h3⟩
set_option maxHeartbeats 4000000 in
set_option maxRecDepth 100000 in
theorem rtokens_any (s : ByteArray) (w : World) (hs : s.size ≤ 1000000) :
    Calls Tryz.prog 27 #[.string s] w (RRet w (lexL s.data.toList) (lexAt s.data.toList) (lexE s.data.toList)) := by
  have hlen := hide (data_len s)
  by_cases h4 : s.size ≤ 400
  · go_enter Tryz.func27, Tryz.ntmps27
    go_wp2_with fail
    go_loopw [4] (fun v4 wr => ∃ (p : Nat) (v : Value) (done : List Tok), TRel s.data.toList p done ∧ OT wr (w.heap.size + 2) v done.length done ∧ done.length ≤ p ∧
      Blk wr (w.heap.size + 1) 68 #[v, .int .i64 (p : Int), .int .i64 0] ∧ Blk wr w.heap.size 68 #[.slice none 0 0, .int .i64 0, .int .i64 0] ∧ Below w.heap.size w wr ∧ w.heap.size + 2 ≤ wr.heap.size)
      (fun _ wr => s.size - (intOf ((wr.cell? ⟨w.heap.size + 1, 1, none⟩).getD undef)).toNat)
    case atStart =>
      refine ⟨0, _, [], TRel.start _, OT.nil _ _, Nat.le_refl _, ?_, ?_, ?_, by simp⟩
      · have h := Blk.new (w.alloc (.cells #[.slice none 0 0, .int .i64 0, .int .i64 0] 68)) 68 #[.slice none 0 0, .int .i64 0, .int .i64 0]
        simpa using h
      · exact (Blk.new w 68 #[.slice none 0 0, .int .i64 0, .int .i64 0]).alloc _
      · exact ((Below.refl _ _).alloc (Nat.le_refl _) _).alloc (by simp) _
    case round =>
      obtain ⟨p, v, done, ht, ho, hdl, hx, hg, hb, hsz⟩ := hrel
      have hpl : p ≤ s.size := by have := ht.1; have := hlen.out; omega
      have HT := hide ht
      have HO := hide ho
      have HX := hide hx
      have HG := hide hg
      have hq0 := hx.cell 0
      have hq1 := hx.cell 1
      have hq2 := hx.cell 2
      have hf0 := hx.frozen 0
      have hf1 := hx.frozen 1
      have hf2 := hx.frozen 2
      clear ht ho hx hg
      by_cases hp : p < s.size
      · have hpL : p < s.data.toList.length := by have := hlen.out; omega
        have hget := hide (str_get s p hp hpL)
        by_cases hbl : blankB s.data.toList[p] = true
        · have HT2 := hide (HT.out.blank1 hpL hbl)
          have e32 : ((s[p].toNat : Int) == 32) = true := by rw [hget.out]; exact hbl
          clear HT hget hbl
          go_wp2_with fail
          go_roundw
          case rel =>
            refine ⟨p + 1, v, done, HT2.out, HO.out.setAt (by omega) _, by omega, ?_, HG.out.far (by simp) _, hb.trans (below_set (Below.refl _ _) (by omega) _), by simpa using hsz⟩
            have := HX.out.set_ 1 (.int .i64 ((p + 1 : Nat) : Int))
            simpa using this
          case measure =>
            have m1 := (HX.out.set_ 1 (.int .i64 ((p : Int) + 1))).cell 1
            rw [m1, hq1]
            simp [intOf]
            omega
        · have hbl' : blankB s.data.toList[p] = false := by simpa using hbl
          have h0 : Hid (runL blankB (s.data.toList.drop p) = 0) := by rw [Hid, runL_head blankB s.data.toList p hpL]; exact hbl'
          have e32 : ((s[p].toNat : Int) == 32) = false := by rw [hget.out]; exact hbl'
          clear hget hbl hbl'
          go_wp2_with fail
          refine (token_any s p wr hs hp).mono ?_
          rintro e w2 ⟨rfl, hb2⟩
          have hsz2 := hb2.size
          have hlt0 : w.heap.size < w2.heap.size := by omega
          have hlt1 : w.heap.size + 1 < w2.heap.size := by omega
          have HX2 := hide (HX.out.below hb2 (by omega))
          have HG2 := hide (HG.out.below hb2 (by omega))
          have HO2 := hide (HO.out.below hb2 (Nat.le_refl _))
          have hown := hide HO.out.own_lt
          have hbw := hb.trans (hb2.mono (by omega))
          have HM := hide hq1
          clear hq0 hq1 hq2 hf0 hf1 hf2 HX HG HO
          have hq0 := HX2.out.cell 0
          have hq1 := HX2.out.cell 1
          have hq2 := HX2.out.cell 2
          have hf0 := HX2.out.frozen 0
          have hf1 := HX2.out.frozen 1
          have hf2 := HX2.out.frozen 2
          obtain ⟨r, hr⟩ : ∃ r, r = tokL (s.data.toList.drop p) p := ⟨_, rfl⟩
          rw [← hr]
          replace hr := hide hr.symm
          cases r with
          | none =>
            simp only [oneT, oneE, oneV, str]
            have hst := hide (HT.out.bad hpL h0.out hr.out)
            have hg0 := HG2.out.cell 0
            have hg1 := HG2.out.cell 1
            have hg2 := HG2.out.cell 2
            have hh0 := HG2.out.frozen 0
            have hh1 := HG2.out.frozen 1
            have hh2 := HG2.out.frozen 2
            have e4 : ¬ 400 < s.data.toList.length := by have := hlen.out; omega
            have n1 : Hid (lexL s.data.toList = []) := by rw [Hid, lexL, if_neg e4, hst.out]; rfl
            have n2 : Hid (lexAt s.data.toList = p) := by rw [Hid, lexAt, if_neg e4, hst.out]
            have n3 : Hid (lexE s.data.toList = 19) := by rw [Hid, lexE, if_neg e4, hst.out]; rfl
            clear HT hr h0 e4
            go_wp2_with fail
            obtain ⟨w3, hw3⟩ : ∃ x, x = ((((w2.setCell ⟨w.heap.size, 0, none⟩ (.slice none 0 0)).setCell ⟨w.heap.size, 1, none⟩ (.int .i64 (p : Int))).setCell ⟨w.heap.size, 2, none⟩ (.int .i64 19)).alloc (.cells #[.int .i64 0, .string ⟨#[]⟩, .int .i64 0, .int .i64 0, .int .i64 (-1)] 94)) := ⟨_, rfl⟩
            rw [← hw3]
            have hbw3 : Below w.heap.size w w3 := by
              rw [hw3]
              refine (below_set (below_set (below_set hbw (Nat.le_refl _) _) (Nat.le_refl _) _) (Nat.le_refl _) _).alloc ?_ _
              simp; omega
            have hbk3 : Blk w3 w.heap.size 68 #[.slice none 0 0, .int .i64 (p : Int), .int .i64 19] := by
              rw [hw3]
              exact (((HG2.out.set_ 0 _).set_ 1 _).set_ 2 _).alloc _
            clear hw3 hg0 hg1 hg2
            have hg0 := hbk3.cell 0
            have hg1 := hbk3.cell 1
            have hg2 := hbk3.cell 2
            refine bodyPost_ret (v := .agg #[.slice none 0 0, .int .i64 (p : Int), .int .i64 19]) ?_ rfl (RRet.mk (OT.nil _ _) n1.out n2.out n3.out hbw3)
            simp [results, Tryz.results27, go_sem, hg0, hg1, hg2]
          | some x =>
            obtain ⟨t, k⟩ := x
            simp only [oneT, oneE, oneV]
            have HT2 := hide (HT.out.token hpL h0.out hr.out)
            have hk := tokL_len _ _ _ hr.out
            simp at hk
            obtain ⟨hk1, hk2, hkp⟩ := hk
            have hk3 : p + k ≤ s.size := by omega
            have hsa : ∀ o, (w2.alloc o).heap.size = w2.heap.size + 1 := fun o => by simp
            have hne : some w2.heap.size ≠ v.ownBlock := fun h => by have := hown.out _ h.symm; omega
            clear HT hr h0 hkp
            go_wp2_with (at_builtin; refine wpList_app_t t ?_ ?_ ?_ ?_ ?_ (.tmp 35) (.tmp 38) ?_ (w.heap.size + 2) v done.length done ?_ ?_ 1 ?_ ?_ ?_ ?_)
            iterate 6 rfl
            exact HO2.out.alloc _
            rfl
            rw [hsa]; rfl
            omega
            rw [hsa]; omega
            intro v4 w4 ho4 hb4 hg4
            obtain ⟨v4A, v4c, rfl, _, _, _, _⟩ := ho4.form
            have ht4 := (Blk.new w2 94 #[.int .i64 t.kind, .string (str t.text), .int .i64 t.n, .int .i64 (t.pos : Int), .int .i64 ((p : Int) + (k : Int))]).grown hg4 hne
            have hx4 := hide ((HX2.out.alloc (.cells #[.int .i64 t.kind, .string (str t.text), .int .i64 t.n, .int .i64 (t.pos : Int), .int .i64 ((p : Int) + (k : Int))] 94)).below hb4 (by omega))
            have hg4' := hide ((HG2.out.alloc (.cells #[.int .i64 t.kind, .string (str t.text), .int .i64 t.n, .int .i64 (t.pos : Int), .int .i64 ((p : Int) + (k : Int))] 94)).below hb4 (by omega))
            have hbw4 := (hbw.alloc (by omega) (.cells #[.int .i64 t.kind, .string (str t.text), .int .i64 t.n, .int .i64 (t.pos : Int), .int .i64 ((p : Int) + (k : Int))] 94)).trans (hb4.mono (by omega))
            have hsz4 := hb4.size
            rw [hsa] at hsz4
            replace ho4 := hide ho4
            clear hb4 hg4 hq0 hq1 hq2 hf0 hf1 hf2
            have hq0 := hx4.out.cell 0
            have hq1 := hx4.out.cell 1
            have hf0 := hx4.out.frozen 0
            have hf1 := hx4.out.frozen 1
            have ht0 := ht4.cell 4
            replace ht4 := hide ht4
            go_wp2_with fail
            go_roundw
            case rel =>
              refine ⟨p + k, .slice v4A (done.length + 1) v4c, done ++ [t], HT2.out, ?_, ?_, ?_, ?_, ?_, ?_⟩
              · rw [List.length_append]
                exact (ho4.out.setAt (by omega) _).setAt (by omega) _
              · rw [List.length_append]; simp; omega
              · have := (hx4.out.set_ 0 (.slice v4A (done.length + 1) v4c)).set_ 1 (.int .i64 ((p + k : Nat) : Int))
                simpa using this
              · refine Blk.far (Blk.far hg4'.out ?_ _) ?_ _ <;> simp
              · exact below_set (below_set hbw4 (by omega) _) (by omega) _
              · simp; omega
            case measure =>
              have m1 := ((hx4.out.set_ 0 (.slice v4A (done.length + 1) v4c)).set_ 1 (.int .i64 ((p : Int) + (k : Int)))).cell 1
              have m2 := hx4.out
              rw [m1]
              have m3 := HM.out
              rw [m3]
              simp [intOf]
              omega
      · have hpe : p = s.size := by omega
        have hst := hide (HT.out.stop (by have := hlen.out; omega))
        have hg0 := HG.out.cell 0
        have hg1 := HG.out.cell 1
        have hg2 := HG.out.cell 2
        have hh0 := HG.out.frozen 0
        have hh1 := HG.out.frozen 1
        have hh2 := HG.out.frozen 2
        have e4 : ¬ 400 < s.data.toList.length := by have := hlen.out; omega
        have n1 : Hid (lexL s.data.toList = done) := by rw [Hid, lexL, if_neg e4, hst.out]; rfl
        have n2 : Hid (lexAt s.data.toList = p) := by rw [Hid, lexAt, if_neg e4, hst.out]
        have n3 : Hid (lexE s.data.toList = 0) := by rw [Hid, lexE, if_neg e4, hst.out]; rfl
        clear HT e4 hst
        obtain ⟨vA, vc, rfl, _, _, _, _⟩ := HO.out.form
        clear hdl hpe
        go_wp2_with fail
        obtain ⟨w3, hw3⟩ : ∃ x, x = (((wr.setCell ⟨w.heap.size, 0, none⟩ (.slice vA done.length vc)).setCell ⟨w.heap.size, 1, none⟩ (.int .i64 (p : Int))).setCell ⟨w.heap.size, 2, none⟩ (.int .i64 0)) := ⟨_, rfl⟩
        rw [← hw3]
        have hbw3 : Below w.heap.size w w3 := by
          rw [hw3]
          exact below_set (below_set (below_set hb (Nat.le_refl _) _) (Nat.le_refl _) _) (Nat.le_refl _) _
        have hbk3 : Blk w3 w.heap.size 68 #[.slice vA done.length vc, .int .i64 (p : Int), .int .i64 0] := by
          rw [hw3]
          exact ((HG.out.set_ 0 _).set_ 1 _).set_ 2 _
        have ho3 : OT w3 w.heap.size (.slice vA done.length vc) done.length done := by
          rw [hw3]
          exact (((HO.out.setAt (by omega) _).setAt (by omega) _).setAt (by omega) _).more (by omega)
        clear hw3 hg0 hg1 hg2
        have hg0 := hbk3.cell 0
        have hg1 := hbk3.cell 1
        have hg2 := hbk3.cell 2
        refine bodyPost_ret (v := .agg #[.slice vA done.length vc, .int .i64 (p : Int), .int .i64 0]) ?_ rfl (RRet.mk ho3 n1.out n2.out n3.out hbw3)
        simp [results, Tryz.results27, go_sem, hg0, hg1, hg2]
  · have e1 : Hid (lexL s.data.toList = []) := by rw [Hid, lexL, if_pos (by have := hlen.out; omega)]
    have e2 : Hid (lexAt s.data.toList = 0) := by rw [Hid, lexAt, if_pos (by have := hlen.out; omega)]
    have e3 : Hid (lexE s.data.toList = 10) := by rw [Hid, lexE, if_pos (by have := hlen.out; omega)]
    go_enter Tryz.func27, Tryz.ntmps27
    go_wp2_with fail
    have hbk3 := Blk.new w 68 #[.slice none 0 0, .int .i64 0, .int .i64 10]
    have hbw3 : Below w.heap.size w (w.alloc (.cells #[.slice none 0 0, .int .i64 0, .int .i64 10] 68)) := (Below.refl _ _).alloc (Nat.le_refl _) _
    generalize w.alloc (.cells #[.slice none 0 0, .int .i64 0, .int .i64 10] 68) = w3 at *
    have hg0 := hbk3.cell 0
    have hg1 := hbk3.cell 1
    have hg2 := hbk3.cell 2
    refine bodyPost_ret (v := .agg #[.slice none 0 0, .int .i64 0, .int .i64 10]) ?_ rfl (RRet.mk (p' := 0) (OT.nil _ _) e1.out e2.out e3.out hbw3)
    simp [results, Tryz.results27, go_sem, hg0, hg1, hg2]
end Go.Proofs.YtnnjcedlomfhoaaGreatDoor
