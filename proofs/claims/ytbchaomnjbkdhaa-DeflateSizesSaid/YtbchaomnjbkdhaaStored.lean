/-
  Contract of deflate.stored, of Pack where it stores.
-/
import Derived.Test.YtbchaomnjbkdhaaBit
namespace Go.Proofs.Ytbchaomnjbkdhaa
open Go.RowKit
set_option linter.unusedVariables false

theorem WSt.lt {w : World} {g : Nat} {v : Value} {s : List UInt8 × Nat} (h : WSt w g v s) : g < w.heap.size := h.1.lt
/-- The writer stands with whole bytes. -/
def WB (w : World) (g : Nat) (l : List UInt8) : Prop := ∃ v, WSt w g v (l, 8 * l.length)
theorem bits_int (w : World) (g : Nat) (v : Value) (s : List UInt8 × Nat) (N X : Int) (n x : Nat) (hN : N = (n : Int)) (hX : X = (x : Int)) (h : WSt w g v s) (hn : n ≤ 24) (hx : x < 1099511627776) (hl : s.2 ≤ 90000000) :
    Calls Try.prog 13 #[.pointer (some ⟨g, 0, none⟩), .int .i64 N, .int .i64 X] w fun e w' => e = .returned (.tuple #[]) ∧ (∃ v', WSt w' g v' (bitsS s x n)) ∧ Below g w w' := by
  subst hN hX
  exact bits_any w g v s n x h hn hx hl
theorem storedS_last (f : Nat) (b : List UInt8) (h : b.length ≤ 65535) : storedS (f + 1) b = headS b.length 1 ++ b := by rw [storedS, if_pos h]
theorem storedS_more (f : Nat) (b : List UInt8) (h : 65535 < b.length) : storedS (f + 1) b = headS 65535 0 ++ (b.take 65535 ++ storedS f (b.drop 65535)) := by rw [storedS, if_neg (by omega)]
theorem headS_len (k l : Nat) : (headS k l).length = 5 := rfl

set_option maxRecDepth 100000 in
set_option maxHeartbeats 2000000 in
/-- A block's head. -/
theorem stored_any (w : World) (g : Nat) (A : Option Addr) (n c : Nat) (b : List UInt8) (h : WB w g []) (hb : RB w g A n b) (hnc : n ≤ c) (hn : n ≤ 1000000) :
    Calls Try.prog 9 #[.pointer (some ⟨g, 0, none⟩), .slice A n c] w fun e w' => e = .returned (.tuple #[]) ∧ WB w' g (storedS (n + 1) b) ∧ Below g w w' := by
  have hlen := hide hb.len
  replace h := hide h
  replace hb := hide hb
  go_enter Try.func9, Try.ntmps9
  go_wp2_with fail
  go_loopw [1] (fun u wr => ∃ (A' : Option Addr) (n' c' f : Nat) (b' done : List UInt8), u = .slice A' n' c' ∧ n' ≤ c' ∧ n' < f ∧ n' ≤ n ∧ Hid (RB w g A' n' b') ∧ Hid (WB wr g done) ∧ Hid (storedS (n + 1) b = done ++ storedS f b') ∧ done.length + 6 * n' ≤ 6 * n ∧ Below g w wr) (fun u wr => match u with | .slice _ m _ => m + 1 | _ => 0)
  case atStart => exact ⟨A, n, c, n + 1, b, [], rfl, hnc, by omega, Nat.le_refl _, hb, h, rfl, by simp, Below.refl _ _⟩
  case round =>
    obtain ⟨A', n', c', f, b', done, rfl, hnc', hf, hn', hR, hW, hst, hdl, hbl⟩ := hrel
    obtain ⟨f, rfl⟩ : ∃ e, f = e + 1 := ⟨f - 1, by omega⟩
    by_cases h1 : n' ≤ 65535
    · have hpos : True := trivial
      obtain ⟨v0, hS0⟩ := hW.out
      have hd8 : 8 * done.length ≤ 90000000 := by omega
      have hbr := hbl
      go_wp2_with fail
      refine (bits_int wr g v0 (done, 8 * done.length) _ _ 1 1 (by omega) (by omega) hS0 (by omega) (by omega) hd8).mono ?_
      rintro e w1 ⟨rfl, ⟨v1, hS1⟩, hb1⟩
      have hb1' := hbl.trans hb1
      replace hS1 := hide hS1
      clear hS0 hW hb1
      go_wp2_with fail
      refine (bits_int w1 g v1 _ _ _ 2 0 (by omega) (by omega) hS1.out (by omega) (by omega) (by rw [bitsS_n]; omega)).mono ?_
      rintro e w2 ⟨rfl, ⟨v2, hS2⟩, hb2⟩
      have hb2' := hb1'.trans hb2
      have hhead := bits_head done 1 (by omega)
      have hl2 : (bitsS (bitsS (done, 8 * done.length) 1 1) 0 2).1.length ≤ 100000000 := by rw [hhead]; simp; omega
      replace hhead := hide hhead
      replace hS2 := hide hS2
      clear hS1 hb2 hb1'
      go_wp2_with fail
      refine (align_any w2 g v2 _ hS2.out hl2).mono ?_
      rintro e w3 ⟨rfl, hS3, hb3⟩
      have hb3' := hb2'.trans hb3
      rw [hhead.out] at hS3
      replace hS3 := hide hS3
      clear hS2 hb3 hb2' hl2 hhead
      go_wp2_with fail
      refine (bits_int w3 g v2 _ _ _ 16 n' (by omega) (by omega) hS3.out (by omega) (by omega) (by simp; omega)).mono ?_
      rintro e w4 ⟨rfl, ⟨v4, hS4⟩, hb4⟩
      have hb4' := hb3'.trans hb4
      rw [bits_16 _ _ (by omega)] at hS4
      replace hS4 := hide hS4
      clear hS3 hb4 hb3'
      go_wp2_with fail
      refine (bits_int w4 g v4 _ _ _ 16 (65535 - n') (by omega) (by omega) hS4.out (by omega) (by omega) (by simp; omega)).mono ?_
      rintro e w5 ⟨rfl, ⟨v5, hS5⟩, hb5⟩
      have hb5' := hb4'.trans hb5
      rw [bits_16 _ _ (by omega)] at hS5
      have hh : (done ++ [UInt8.ofNat 1] ++ [UInt8.ofNat (n' % 256), UInt8.ofNat (n' / 256)] ++ [UInt8.ofNat ((65535 - n') % 256), UInt8.ofNat ((65535 - n') / 256)]) = done ++ headS n' 1 := by simp [headS]
      rw [hh] at hS5
      have hW5 : Hid (WB w5 g (done ++ headS n' 1)) := ⟨v5, hS5⟩
      have hR5 := hide (hR.out.below hb5')
      have hlen' := hide hR.out.len
      clear hS4 hb5 hb4' hh
      go_wp2_with fail
      go_loopw [33] (fun i wx => ∃ j : Nat, j ≤ n' ∧ i = .int .i64 j ∧ Hid (WB wx g (done ++ headS n' 1 ++ b'.take j)) ∧ Below g w wx) (fun i _ => n' - (intOf i).toNat)
      case atStart => exact ⟨0, by omega, rfl, by simpa using hW5, hb5'⟩
      case round =>
        obtain ⟨j, hj, rfl, hWx, hbx⟩ := hrel
        by_cases h2 : j < n'
        · have hjb : j < b'.length := by have := hlen'.out; omega
          have hjn : j < n' := by omega
          obtain ⟨ad, rfl, hab, c0⟩ := (hR.out.below hbx).elem hjn hjb
          have hnx : Hid (done ++ headS n' 1 ++ b'.take (j + 1) = (done ++ headS n' 1 ++ b'.take j) ++ [b'[j]]) := by
            rw [Hid, List.take_succ_eq_append_getElem hjb]; simp
          have htl : (done ++ headS n' 1 ++ b'.take j).length ≤ 10000000 := by
            rw [List.length_append, List.length_append, headS_len, List.length_take]; omega
          obtain ⟨vx, hSx⟩ := hWx.out
          generalize done ++ headS n' 1 ++ b'.take j = L at *
          have hc := (b'[j]).toNat_lt
          generalize b'[j] = ch at *
          replace hSx := hide hSx
          clear hWx
          go_wp2_with fail
          refine (bits_int _ g vx _ _ _ 8 ch.toNat (by omega) (by omega) hSx.out (by omega) (by omega) (by show 8 * L.length ≤ _; omega)).mono ?_
          rintro e w6 ⟨rfl, ⟨v6, hS6⟩, hb6⟩
          rw [bits_8 _ _ (by omega), show UInt8.ofNat ch.toNat = ch from UInt8.ofNat_toNat] at hS6
          have hb6' := hbx.trans hb6
          replace hS6 := hide hS6
          clear hSx hb6 hbx
          go_wp2_with fail
          go_roundw
          case rel => exact ⟨j + 1, by omega, by go_num, by rw [hnx.out]; exact ⟨v6, hS6.out⟩, hb6'⟩
          case measure => simp [intOf]; omega
        · have hjk : j = n' := by omega
          subst hjk
          have htk : Hid (b'.take j = b') := by rw [Hid, List.take_of_length_le (by have := hlen'.out; omega)]
          rw [htk.out] at hWx
          have hfin : Hid (storedS (n + 1) b = done ++ headS j 1 ++ b') := by
            rw [Hid, hst.out, storedS_last _ _ (by have := hlen'.out; omega), hlen'.out, List.append_assoc]
          clear hst htk hW5 hR5
          by_cases hcap : c' = j
          all_goals
            go_wp2_with fail
            refine bodyPost_ret (results_none rfl _ _ _) rfl ?_
            exact ⟨rfl, by rw [hfin.out]; exact hWx.out, hbx⟩
    · obtain ⟨K, hK⟩ : ∃ K : Nat, K = 65535 := ⟨_, rfl⟩
      go_upto_region 0 with (fail)
      go_cut [4] (fun u4 wx => u4 = .int .i64 (K : Int) ∧ wr = wx)
      case first =>
        go_wp2_with fail
        go_meet
        case rel => exact ⟨by rw [hK]; rfl, rfl⟩
      obtain ⟨rfl, rfl⟩ := hcut
      have hKn : K < n' := by omega
      have hK5 : K ≤ 65535 := by omega
      have hK0 : 1 ≤ K := by omega
      have nK : ((K : Int) == (n' : Int)) = false := by rw [beq_eq_false_iff_ne]; omega
      replace hK := hide hK
      clear h1
      obtain ⟨v0, hS0⟩ := hW.out
      have hd8 : 8 * done.length ≤ 90000000 := by omega
      have hbr := hbl
      go_wp2_with fail
      refine (bits_int wr g v0 (done, 8 * done.length) _ _ 1 0 (by omega) (by omega) hS0 (by omega) (by omega) hd8).mono ?_
      rintro e w1 ⟨rfl, ⟨v1, hS1⟩, hb1⟩
      have hb1' := hbl.trans hb1
      replace hS1 := hide hS1
      clear hS0 hW hb1
      go_wp2_with fail
      refine (bits_int w1 g v1 _ _ _ 2 0 (by omega) (by omega) hS1.out (by omega) (by omega) (by rw [bitsS_n]; omega)).mono ?_
      rintro e w2 ⟨rfl, ⟨v2, hS2⟩, hb2⟩
      have hb2' := hb1'.trans hb2
      have hhead := bits_head done 0 (by omega)
      have hl2 : (bitsS (bitsS (done, 8 * done.length) 0 1) 0 2).1.length ≤ 100000000 := by rw [hhead]; simp; omega
      replace hhead := hide hhead
      replace hS2 := hide hS2
      clear hS1 hb2 hb1'
      go_wp2_with fail
      refine (align_any w2 g v2 _ hS2.out hl2).mono ?_
      rintro e w3 ⟨rfl, hS3, hb3⟩
      have hb3' := hb2'.trans hb3
      rw [hhead.out] at hS3
      replace hS3 := hide hS3
      clear hS2 hb3 hb2' hl2 hhead
      go_wp2_with fail
      refine (bits_int w3 g v2 _ _ _ 16 K (by omega) (by omega) hS3.out (by omega) (by omega) (by simp; omega)).mono ?_
      rintro e w4 ⟨rfl, ⟨v4, hS4⟩, hb4⟩
      have hb4' := hb3'.trans hb4
      rw [bits_16 _ _ (by omega)] at hS4
      replace hS4 := hide hS4
      clear hS3 hb4 hb3'
      go_wp2_with fail
      refine (bits_int w4 g v4 _ _ _ 16 0 (by omega) (by have := hK.out; omega) hS4.out (by omega) (by omega) (by simp; omega)).mono ?_
      rintro e w5 ⟨rfl, ⟨v5, hS5⟩, hb5⟩
      have hb5' := hb4'.trans hb5
      rw [bits_16 _ _ (by omega)] at hS5
      have hh : (done ++ [UInt8.ofNat 0] ++ [UInt8.ofNat (K % 256), UInt8.ofNat (K / 256)] ++ [UInt8.ofNat ((0) % 256), UInt8.ofNat ((0) / 256)]) = done ++ headS K 0 := by rw [hK.out]; simp [headS]
      rw [hh] at hS5
      have hW5 : Hid (WB w5 g (done ++ headS K 0)) := ⟨v5, hS5⟩
      have hR5 := hide (hR.out.below hb5')
      have hlen' := hide hR.out.len
      clear hS4 hb5 hb4' hh
      go_wp2_with fail
      go_loopw [33] (fun i wx => ∃ j : Nat, j ≤ K ∧ i = .int .i64 j ∧ Hid (WB wx g (done ++ headS K 0 ++ b'.take j)) ∧ Below g w wx) (fun i _ => K - (intOf i).toNat)
      case atStart => exact ⟨0, by omega, rfl, by simpa using hW5, hb5'⟩
      case round =>
        obtain ⟨j, hj, rfl, hWx, hbx⟩ := hrel
        by_cases h2 : j < K
        · have hjb : j < b'.length := by have := hlen'.out; omega
          have hjn : j < n' := by omega
          obtain ⟨ad, rfl, hab, c0⟩ := (hR.out.below hbx).elem hjn hjb
          have hnx : Hid (done ++ headS K 0 ++ b'.take (j + 1) = (done ++ headS K 0 ++ b'.take j) ++ [b'[j]]) := by
            rw [Hid, List.take_succ_eq_append_getElem hjb]; simp
          have htl : (done ++ headS K 0 ++ b'.take j).length ≤ 10000000 := by
            rw [List.length_append, List.length_append, headS_len, List.length_take]; omega
          obtain ⟨vx, hSx⟩ := hWx.out
          generalize done ++ headS K 0 ++ b'.take j = L at *
          have hc := (b'[j]).toNat_lt
          generalize b'[j] = ch at *
          replace hSx := hide hSx
          clear hWx
          go_wp2_with fail
          refine (bits_int _ g vx _ _ _ 8 ch.toNat (by omega) (by omega) hSx.out (by omega) (by omega) (by show 8 * L.length ≤ _; omega)).mono ?_
          rintro e w6 ⟨rfl, ⟨v6, hS6⟩, hb6⟩
          rw [bits_8 _ _ (by omega), show UInt8.ofNat ch.toNat = ch from UInt8.ofNat_toNat] at hS6
          have hb6' := hbx.trans hb6
          replace hS6 := hide hS6
          clear hSx hb6 hbx
          go_wp2_with fail
          go_roundw
          case rel => exact ⟨j + 1, by omega, by go_num, by rw [hnx.out]; exact ⟨v6, hS6.out⟩, hb6'⟩
          case measure => simp [intOf]; omega
        · have hjk : K = j := by omega
          subst hjk
          have hfin : Hid (storedS (n + 1) b = (done ++ headS K 0 ++ b'.take K) ++ storedS f (b'.drop K)) := by
            rw [Hid, hst.out, storedS_more _ _ (by have := hlen'.out; have := hK.out; omega), hK.out]; simp
          have hdl2 : (done ++ headS K 0 ++ b'.take K).length + 6 * (n' - K) ≤ 6 * n := by
            rw [List.length_append, List.length_append, headS_len, List.length_take]; omega
          have hc2 : ¬ c' = K := by omega
          have hcut := Reads.cut hR.out (k := K) (cap := c') (by omega) hnc'
          rw [if_neg hc2] at hcut
          have hcut2 : Hid (RB w g (A'.map (·.add K)) (n' - K) (b'.drop K)) := by
            have e : bv (b'.drop K) = (bv b').drop (K * 1) := by simp [bv, List.map_drop]
            rw [Hid, RB, e]; rw [Nat.mul_one] at hcut ⊢; exact hcut
          obtain ⟨ad, rfl, hab, -⟩ := hR.out.elem (k := 0) (by omega) (by have := hlen'.out; omega)
          clear hst hW5 hR5 hcut hR hlen'
          generalize done ++ headS K 0 ++ b'.take K = L at *
          generalize b'.drop K = D at *
          go_wp2_with fail
          refine ⟨⟨some (ad.add K), n' - K, c' - K, f, D, L, rfl, by omega, by omega, by omega, ?_, hWx, hfin, hdl2, hbx⟩, ?_⟩
          · exact hcut2.out
          · show n' - K + 1 < n' + 1
            omega
end Go.Proofs.Ytbchaomnjbkdhaa
