/-
  Contracts of Code.open, Code.Next: the symbol that comes.
-/
import Derived.Test.YtbchaomnjbkdhaaGreatEB
import Derived.Test.YtbchaomnjbkdhaaGreatECodeC
import Derived.Test.YtbchaomnjbkdhaaGreatEA
namespace Go.Proofs.YtbchaomnjbkdhaaGreat
open Go.RowKit Go.Sort Go.Proofs
set_option linter.unusedVariables false
theorem row_past (ls : List Nat) (s n : Nat) (h1 : 1 ≤ n) (h2 : n < ls.getD s 0) : endC ls n ≤ codeC ls s / 2 ^ (ls.getD s 0 - n) := by
  have h := first_far ls n h1 (ls.getD s 0 - n - 1)
  rw [show ls.getD s 0 - n - 1 + 1 = ls.getD s 0 - n by omega, show n + (ls.getD s 0 - n - 1) + 1 = ls.getD s 0 by omega] at h
  rw [Nat.le_div_iff_mul_le (Nat.two_pow_pos _), Nat.mul_comm]
  unfold codeC
  omega
theorem end_small (ls : List Nat) (hok : codeOk ls) (n : Nat) (h1 : 1 ≤ n) (h2 : n ≤ 15) : firstC ls n + (symsL ls n).length ≤ 32768 := by
  have h := hok.2 n h1 h2
  have h3 : 2 ^ n ≤ 2 ^ 15 := Nat.pow_le_pow_right (by omega) h2
  have e15 : (2 : Nat) ^ 15 = 32768 := by decide
  unfold endC at h
  rw [syms_len]
  omega
set_option maxRecDepth 100000 in
set_option maxHeartbeats 2000000 in
theorem open_any (w : World) (base g s m : Nat) (ls : List Nat) (h : CodeAt w base g ls) (hok : codeOk ls) (hs : s < ls.length) (hm : m < ls.getD s 0) :
    Calls Tryz.prog 99 #[.pointer (some ⟨g, 0, none⟩), .int .i64 (m : Int), .int .i64 ((codeC ls s / 2 ^ (ls.getD s 0 - m) : Nat) : Int)] w fun e w' => e = .returned (.bool true) ∧ ∃ q, w' = w.drewN q := by
  obtain ⟨hbg, V, vl, k1, k2, k3⟩ := h
  have hN15 := getD_le ls 15 hok.1 s
  have hcode := rank_code ls hok s hs (by omega)
  have hrank := rank_lt ls s hs
  have hcc : codeC ls s = firstC ls (ls.getD s 0) + rankL ls s := rfl
  have hrow : ∀ k, 1 ≤ k → k ≤ 15 → ∃ A c, V k = .slice A (symsL ls k).length c := fun k _ hk => by
    obtain ⟨A, c, hv, -⟩ := (k2.1 k (by omega)).rn
    exact ⟨A, c, hv⟩
  have hend : Hid (∀ k, 1 ≤ k → k ≤ 15 → firstC ls k + (symsL ls k).length ≤ 32768) := end_small ls hok
  have hsl : (symsL ls (ls.getD s 0)).length = ls.count (ls.getD s 0) := syms_len ls _
  obtain ⟨N, hN⟩ : ∃ N, N = ls.getD s 0 := ⟨_, rfl⟩
  rw [← hN] at hm hN15 hcode hcc hrank hsl ⊢
  obtain ⟨C, hC⟩ : ∃ C, C = codeC ls s := ⟨_, rfl⟩
  rw [← hC] at hcode hcc ⊢
  have hin : Hid (firstC ls N ≤ C ∧ C < firstC ls N + (symsL ls N).length) := ⟨by omega, by omega⟩
  obtain ⟨c0, hc0⟩ : ∃ c0, c0 = C / 2 ^ (N - m) := ⟨_, rfl⟩
  rw [← hc0]
  have hC15 : C < 32768 := by
    have h3 : 2 ^ N ≤ 2 ^ 15 := Nat.pow_le_pow_right (by omega) hN15
    have e15 : (2 : Nat) ^ 15 = 32768 := by decide
    omega
  have hlast : Hid (c0 * 2 ^ (N - m) ≤ C ∧ C < c0 * 2 ^ (N - m) + 2 ^ (N - m)) := by
    rw [hc0]
    have h1 := Nat.div_add_mod C (2 ^ (N - m))
    have h2 := Nat.mod_lt C (Nat.two_pow_pos (N - m))
    rw [Nat.mul_comm] at h1
    exact ⟨by omega, by omega⟩
  have hle : Hid (∀ d, d ≤ N - m → c0 * 2 ^ d ≤ 32768) := fun d hd => by
    have h1 : 2 ^ d ≤ 2 ^ (N - m) := Nat.pow_le_pow_right (by omega) hd
    have h2 : c0 * 2 ^ d ≤ c0 * 2 ^ (N - m) := Nat.mul_le_mul_left _ h1
    have := hlast.out.1
    omega
  replace hrow := hide hrow
  replace k1 := hide k1
  replace k2 := hide k2
  replace k3 := hide k3
  replace hok := hide hok
  replace hN := hide hN
  replace hC := hide hC
  replace hc0 := hide hc0
  replace hcc := hide hcc
  clear hsl hrank hcode
  go_enter Tryz.func99, Tryz.ntmps99
  go_wp2_with fail
  go_loopw [2, 7] (fun v2 v7 wx => ∃ d q : Nat, v2 = .int .i64 ((c0 * 2 ^ d : Nat) : Int) ∧ v7 = .int .i64 ((m + 1 + d : Nat) : Int) ∧ m + 1 + d ≤ N ∧ Hid (wx = w.drewN q)) (fun _ v7 _ => 16 - (intOf v7).toNat)
  case atStart => exact ⟨0, 0, by simp, by go_num, by omega, rfl⟩
  case round =>
    obtain ⟨d, q, rfl, rfl, hd, hwx⟩ := hrel
    have hb2 := hle.out (d + 1) (by omega)
    have hpow : c0 * 2 ^ (d + 1) = 2 * (c0 * 2 ^ d) := by rw [Nat.pow_succ]; rw [Nat.mul_comm (2 ^ d) 2, ← Nat.mul_assoc, Nat.mul_comm c0 2, Nat.mul_assoc]
    have hp15 : 2 ^ (d + 1) ≤ 2 ^ 15 := Nat.pow_le_pow_right (by omega) (by omega)
    have e15 : (2 : Nat) ^ 15 = 32768 := by decide
    obtain ⟨K, hK⟩ : ∃ K, K = m + 1 + d := ⟨_, rfl⟩
    rw [← hK] at hd ⊢
    obtain ⟨cd, hcd⟩ : ∃ cd, cd = c0 * 2 ^ d := ⟨_, rfl⟩
    obtain ⟨ce, hce⟩ : ∃ ce, ce = c0 * 2 ^ (d + 1) := ⟨_, rfl⟩
    obtain ⟨P, hP⟩ : ∃ P, P = 2 ^ (d + 1) := ⟨_, rfl⟩
    rw [← hcd] at hpow ⊢
    rw [← hce] at hpow hb2
    rw [← hP] at hp15
    have hbe := hend.out K (by omega) (by omega)
    obtain ⟨A', c', hVk⟩ := hrow.out K (by omega) (by omega)
    have cS : wr.cell? ⟨g, K * 2, none⟩ = some (V K) := by rw [hwx.out]; exact k1.out.sym (n := K) (by omega)
    have cF : wr.cell? ⟨g, K * 2 + 1, none⟩ = some (.int .i64 (firstC ls K : Int)) := by
      have := k1.out.first (n := K) (by omega)
      unfold firstF at this
      rw [if_neg (by omega)] at this
      rw [hwx.out]; exact this
    rw [hVk] at cS
    have htrue : Hid (K = N → max (firstC ls K) ce < min (firstC ls K + (symsL ls K).length) (ce + P)) := by
      intro hKN
      have h1 := hin.out
      have h2 := hlast.out
      rw [← hKN] at h1
      rw [hce, hP, show d + 1 = N - m by omega]
      rw [Nat.max_lt, Nat.lt_min, Nat.lt_min]
      omega
    obtain ⟨F, hF⟩ : ∃ F, F = firstC ls K := ⟨_, rfl⟩
    obtain ⟨S, hS⟩ : ∃ S, S = (symsL ls K).length := ⟨_, rfl⟩
    rw [← hF, ← hS] at htrue hbe
    rw [← hF] at cF
    rw [← hS] at cS
    have hKm : (K : Int) - (m : Int) = ((d + 1 : Nat) : Int) := by omega
    have hK16 : (K : Int) < 16 := by omega
    have hK0 : (0 : Int) ≤ (K : Int) := by omega
    have hK15 : (K : Int) ≤ 15 := by omega
    have hce2 : Hid (ce = 2 * cd) := hpow
    have hcdb : cd ≤ 16384 := by omega
    replace hK := hide hK
    replace hcd := hide hcd
    replace hce := hide hce
    replace hF := hide hF
    replace hS := hide hS
    replace hVk := hide hVk
    clear hpow
    go_upto_region 4 with (fail)
    go_cut [2] (fun v2 wx => v2 = .int .i64 (ce : Int) ∧ wx = wr)
    case first =>
      go_wp2_with fail
      go_meet
      case rel => exact ⟨by have := hce2.out; congr 1; omega, rfl⟩
    case rest =>
      obtain ⟨rfl, rfl⟩ := hcut
      have hsh : (2 : Int) ^ (d + 1) = (P : Int) := by rw [hP]; push_cast; rfl
      replace hP := hide hP
      go_wp2_with fail
      go_quiet (fail)
      have hKS : Hid (¬ (max F ce < min (F + S) (ce + P)) → K + 1 ≤ N) := fun hn => by
        rcases Nat.lt_or_ge K N with h | h
        · exact h
        · exact absurd (htrue.out (by omega)) hn
      by_cases hcmp : max F ce < min (F + S) (ce + P)
      · have hci : max (F : Int) (ce : Int) < min ((F : Int) + (S : Int)) ((ce : Int) + (P : Int)) := by omega
        go_upto_region 6 with (fail)
        go_cut [52] (fun v wx => v = .bool true ∧ wx = wc.drewN nq)
        case first =>
          go_wp2_with fail
          all_goals
            go_meet
            case rel => exact ⟨rfl, rfl⟩
        case rest =>
          obtain ⟨rfl, rfl⟩ := hcut
          go_wp2_with fail
          go_ret
          exact ⟨rfl, q + nq, by rw [hwx.out, World.drewN_drewN]⟩
      · have hci : ¬ max (F : Int) (ce : Int) < min ((F : Int) + (S : Int)) ((ce : Int) + (P : Int)) := by omega
        go_upto_region 6 with (fail)
        go_cut [52] (fun v wx => v = .bool false ∧ wx = wc.drewN nq)
        case first =>
          go_wp2_with fail
          all_goals
            go_meet
            case rel => exact ⟨rfl, rfl⟩
        case rest =>
          obtain ⟨rfl, rfl⟩ := hcut
          have hKN := hKS.out hcmp
          go_wp2_with fail
          go_roundw
          case rel => exact ⟨d + 1, q + nq, by rw [← hce.out], by have := hK.out; go_num, by have := hK.out; omega, by rw [Hid, hwx.out, World.drewN_drewN]⟩
          case measure => have := hK.out; simp [intOf]; omega
def NextRet (w : World) (gb : Nat) (v : Value) (l : List UInt8) (p N s : Nat) (e : Ending) (w' : World) : Prop :=
  (p + N ≤ 8 * l.length ∧ e = .returned (.tuple #[.int .i64 (s : Int), .int .i64 0]) ∧ BRAt w' gb v l (p + N) ∧ Only (· = gb) w w') ∨
  (¬ p + N ≤ 8 * l.length ∧ e = .returned (.tuple #[.int .i64 0, .int .i64 3]) ∧ BRAt w' gb v l p ∧ Only (· = gb) w w')
/-- One bit more of a code. -/
theorem bit_next (l : List UInt8) (p : Nat) (ls : List Nat) (s m : Nat) (hA : Agr l p (encS ls s)) (hm : m < ls.getD s 0) (hp : p + m + 1 ≤ 8 * l.length) :
    2 * (codeC ls s / 2 ^ (ls.getD s 0 - m)) + leN (((bytesB l).drop (p + m)).take 1) = codeC ls s / 2 ^ (ls.getD s 0 - (m + 1)) := by
  have h1 := hA m (codeC ls s / 2 ^ (ls.getD s 0 - 1 - m) % 2) (by rw [encS]; exact hiB_get _ _ _ hm) (by omega)
  have h2 : leN (((bytesB l).drop (p + m)).take 1) = codeC ls s / 2 ^ (ls.getD s 0 - 1 - m) % 2 := by
    have h3 : ((bytesB l).drop (p + m)).take 1 = [codeC ls s / 2 ^ (ls.getD s 0 - 1 - m) % 2] := by
      refine List.ext_getElem? fun j => ?_
      rw [List.getElem?_take]
      match j with
      | 0 => rw [if_pos (by omega), List.getElem?_drop]; exact h1
      | j + 1 => rw [if_neg (by omega)]; rfl
    rw [h3]; simp [leN]
  rw [h2]
  obtain ⟨n, hn⟩ : ∃ n, ls.getD s 0 - m = n + 1 := ⟨ls.getD s 0 - m - 1, by omega⟩
  rw [show ls.getD s 0 - 1 - m = n by omega, show ls.getD s 0 - (m + 1) = n by omega, hn]
  exact hiB_next n _ _ rfl
theorem ON.keepT {w w' : World} {base n : Nat} {v : Value} {l : List Nat} (h : ON w base v n l) (hk : KeepT 3 w w') : ON w' base v n l := by
  obtain ⟨h1, h2⟩ := h
  refine ⟨h1, ?_⟩
  rcases h2 with h2 | ⟨g, cap, cur, rfl, hg, hh, r⟩
  · exact Or.inl h2
  · exact Or.inr ⟨g, cap, cur, rfl, hg, hk g cur hh, r⟩
theorem CodeAt.keepT {w w' : World} {base g : Nat} {ls : List Nat} (h : CodeAt w base g ls) (hk : KeepT 104 w w') (hi : KeepT 3 w w') : CodeAt w' base g ls := by
  obtain ⟨h0, V, vl, h1, h2, h3⟩ := h
  exact ⟨h0, V, vl, h1.keep hk, ⟨fun n hn => (h2.1 n hn).keepT hi, h2.2⟩, h3.keepT hi⟩
theorem Only.br {w w' : World} {gb p : Nat} {v : Value} {l : List UInt8} (h : Only (· = gb) w w') (hb : BRAt w gb v l p) (t : TypeId) (ht : t ≠ 118) : KeepT t w w' :=
  h.keepT fun k cs hk hB => by subst hk; exact Blk.ne_ hB hb.1 ht rfl
set_option maxRecDepth 100000 in
set_option maxHeartbeats 2000000 in
theorem next_any (w : World) (base g gb s p : Nat) (v : Value) (l : List UInt8) (ls : List Nat) (h : CodeAt w base g ls) (hok : codeOk ls) (hs : s < ls.length) (h1 : 1 ≤ ls.getD s 0) (hb : BRAt w gb v l p) (hp : p ≤ 8 * l.length) (hl : l.length ≤ 10000000) (hA : Agr l p (encS ls s)) :
    Calls Tryz.prog 88 #[.pointer (some ⟨g, 0, none⟩), .pointer (some ⟨gb, 0, none⟩)] w (NextRet w gb v l p (ls.getD s 0) s) := by
  have hN15 := getD_le ls 15 hok.1 s
  have hcode := rank_code ls hok s hs (by omega)
  have hrank := rank_lt ls s hs
  have hcc : codeC ls s = firstC ls (ls.getD s 0) + rankL ls s := rfl
  have hsl : (symsL ls (ls.getD s 0)).length = ls.count (ls.getD s 0) := syms_len ls _
  have hsr := hide (syms_rank ls s hs)
  have hend : Hid (∀ k, 1 ≤ k → k ≤ 15 → firstC ls k + (symsL ls k).length ≤ 32768) := end_small ls hok
  have hpast : Hid (∀ k, 1 ≤ k → k < ls.getD s 0 → firstC ls k + (symsL ls k).length ≤ codeC ls s / 2 ^ (ls.getD s 0 - k)) := fun k h1 h2 => by
    have := row_past ls s k h1 h2
    unfold endC at this
    rw [syms_len]; exact this
  have hbit : Hid (∀ m, m < ls.getD s 0 → p + m + 1 ≤ 8 * l.length → 2 * (codeC ls s / 2 ^ (ls.getD s 0 - m)) + leN (((bytesB l).drop (p + m)).take 1) = codeC ls s / 2 ^ (ls.getD s 0 - (m + 1))) := fun m => bit_next l p ls s m hA
  have hopen : Hid (∀ (wz : World) (m : Nat), CodeAt wz base g ls → m < ls.getD s 0 → Calls Tryz.prog 99 #[.pointer (some ⟨g, 0, none⟩), .int .i64 (m : Int), .int .i64 ((codeC ls s / 2 ^ (ls.getD s 0 - m) : Nat) : Int)] wz fun e w' => e = .returned (.bool true) ∧ ∃ q, w' = wz.drewN q) := fun wz m hc hm => open_any wz base g s m ls hc hok hs hm
  have hc0 : codeC ls s / 2 ^ (ls.getD s 0 - 0) = 0 := Nat.div_eq_of_lt hcode
  obtain ⟨N, hN⟩ : ∃ N, N = ls.getD s 0 := ⟨_, rfl⟩
  rw [← hN] at h1 hN15 hcode hcc hrank hsl hsr hpast hbit hopen hc0 ⊢
  obtain ⟨C, hC⟩ : ∃ C, C = codeC ls s := ⟨_, rfl⟩
  rw [← hC] at hcode hcc hpast hbit hopen hc0
  obtain ⟨R, hR⟩ : ∃ R, R = rankL ls s := ⟨_, rfl⟩
  rw [← hR] at hcc hrank hsr
  have hC15 : C < 32768 := by
    have h3 : 2 ^ N ≤ 2 ^ 15 := Nat.pow_le_pow_right (by omega) hN15
    have e15 : (2 : Nat) ^ 15 = 32768 := by decide
    omega
  have hRs : Hid (R < (symsL ls N).length ∧ C = firstC ls N + R) := ⟨by omega, hcc⟩
  have hRl : Hid (R ≤ 32768) := by have := hcc; show R ≤ 32768; omega
  replace h := hide h
  replace hb := hide hb
  replace hA := hide hA
  replace hok := hide hok
  replace hN := hide hN
  replace hC := hide hC
  replace hR := hide hR
  replace hcc := hide hcc
  clear hsl hrank hcode
  have hmk := hide (mark_any w gb v l p hb.out)
  go_enter Tryz.func88, Tryz.ntmps88
  go_wp2_with fail
  refine hmk.out.mono ?_
  rintro e w1 ⟨rfl, rfl⟩
  go_wp2_with fail
  go_loopw [7, 8] (fun v7 v8 wx => ∃ m : Nat, v7 = .int .i64 ((C / 2 ^ (N - m) : Nat) : Int) ∧ v8 = .int .i64 ((m + 1 : Nat) : Int) ∧ m < N ∧ p + m ≤ 8 * l.length ∧ Hid (BRAt wx gb v l (p + m)) ∧ Hid (Only (· = gb) w1 wx)) (fun _ v8 _ => 17 - (intOf v8).toNat)
  case atStart => exact ⟨0, by rw [hc0]; rfl, rfl, h1, hp, hb, Only.refl _ _⟩
  case round =>
    obtain ⟨m, rfl, rfl, hm, hpm, hbm, hOm⟩ := hrel
    have hcd := hide (h.out.keepT (hOm.out.br hb.out _ (by decide)) (hOm.out.br hb.out _ (by decide)))
    have hT := hide (rbits_any wr gb v l (p + m) 1 hbm.out hpm hl (by omega))
    obtain ⟨c0, hc0'⟩ : ∃ c0, c0 = C / 2 ^ (N - m) := ⟨_, rfl⟩
    have hc0b : c0 ≤ C := by rw [hc0']; exact Nat.div_le_self _ _
    have hopm := hide (fun wz hc => hopen.out wz m hc hm)
    rw [← hc0'] at hopm ⊢
    have hmI : ((m : Int) + 1) ≤ 15 := by omega
    obtain ⟨n, hn⟩ : ∃ n, n = m + 1 := ⟨_, rfl⟩
    rw [← hn]
    have hn15 : (n : Int) ≤ 15 := by omega
    have hn1 : (n : Int) - 1 = (m : Int) := by omega
    replace hn := hide hn
    replace hc0' := hide hc0'
    clear hmI
    go_wp2_with fail
    refine hT.out.mono ?_
    rintro e w2 (⟨hpn, rfl, hb2, hO2⟩ | ⟨hpn, rfl, hb2, hO2⟩)
    · have hbt := hbit.out m hm hpn
      rw [← hc0'.out] at hbt
      obtain ⟨B, hB⟩ : ∃ B, B = leN (((bytesB l).drop (p + m)).take 1) := ⟨_, rfl⟩
      rw [← hB] at hbt ⊢
      obtain ⟨c1, hc1⟩ : ∃ c1, c1 = C / 2 ^ (N - (m + 1)) := ⟨_, rfl⟩
      have hc1b : c1 ≤ C := by rw [hc1]; exact Nat.div_le_self _ _
      rw [← hc1] at hbt
      have hO3 := hide (hOm.out.trans hO2 fun _ _ h => h)
      have hcd2 := h.out.keepT (hO3.out.br hb.out _ (by decide)) (hO3.out.br hb.out _ (by decide))
      obtain ⟨-, V, vl, k1, k2, k3⟩ := hcd2
      have hnN : n ≤ N := by have := hn.out; omega
      have hn0 : 1 ≤ n := by have := hn.out; omega
      obtain ⟨A', c', hVk, -⟩ := (k2.1 n (by omega)).rn
      have cS := k1.sym (n := n) (by omega)
      have cF := k1.first (n := n) (by omega)
      have hff : firstF ls n = firstC ls n := by unfold firstF; rw [if_neg (by omega)]
      rw [hff] at cF
      rw [hVk] at cS
      have hbe := hend.out n (by omega) (by omega)
      have hbI : (2 : Int) * (c0 : Int) + (B : Int) = (c1 : Int) := by omega
      replace hb2 := hide hb2
      replace hO2 := hide hO2
      replace hB := hide hB
      have hn00 : (0 : Int) ≤ (n : Int) := by omega
      have hn16 : (n : Int) < 16 := by omega
      by_cases hnN2 : n = N
      · subst hnN2
        have hcC : c1 = C := by rw [hc1, show n - (m + 1) = 0 by have := hn.out; omega]; simp
        have hRR := hRs.out
        have hsy := k2.1 n (by omega)
        obtain ⟨gs, ks, hVs, _, _⟩ := hsy.ownb (by omega)
        rw [hVk] at hVs
        rw [hVk] at hsy
        cases hVs
        have cE := OE.cell hsy (k := R) hRR.1
        have hge : (symsL ls n)[R]'hRR.1 = s := by
          have := hsr.out
          rw [List.getElem?_eq_getElem hRR.1] at this
          exact Option.some.inj this
        rw [hge] at cE
        have cE2 : w2.cell? ⟨gs, R, none⟩ = some (.int .i64 (s : Int)) := cE
        obtain ⟨F, hF⟩ : ∃ F, F = firstC ls n := ⟨_, rfl⟩
        obtain ⟨S, hS⟩ : ∃ S, S = (symsL ls n).length := ⟨_, rfl⟩
        rw [← hF, ← hS] at hRR hbe
        rw [← hF] at cF
        rw [← hS] at cS
        have hRS : (R : Int) < (S : Int) := by omega
        have hR0 : (0 : Int) ≤ (R : Int) := by omega
        have hcF : (c1 : Int) - (F : Int) = (R : Int) := by omega
        have hRb := hRl.out
        unfold Hid at hRb
        have hfin : Hid (BRAt w2 gb v l (p + n)) := by have := hb2.out; rwa [show p + m + 1 = p + n by have := hn.out; omega] at this
        have hfin2 : Hid (p + n ≤ 8 * l.length) := by have := hn.out; show p + n ≤ _; omega
        replace hF := hide hF
        replace hS := hide hS
        replace k1 := hide k1
        replace k2 := hide k2
        replace k3 := hide k3
        replace hsy := hide hsy
        replace hc1 := hide hc1
        replace hVk := hide hVk
        replace hge := hide hge
        replace hcC := hide hcC
        clear cE hcd hopm hpast hbit hopen hend hff hRR hpn hc0
        go_upto_region 13 with (fail)
        go_cut [7] (fun v7 wx => v7 = .int .i64 (c1 : Int) ∧ wx = w2)
        case first =>
          go_wp2_with fail
          go_meet
          case rel => exact ⟨by congr 1, rfl⟩
        case rest =>
          obtain ⟨rfl, rfl⟩ := hcut
          clear hbI hbt
          go_wp2_with fail
          go_ret2
          exact .inl ⟨hfin2.out, rfl, hfin.out, hO3.out⟩
      · have hlt : n < N := by omega
        have hp2 := hpast.out n (by omega) hlt
        have hc1n : c1 = C / 2 ^ (N - n) := by rw [hc1, hn.out]
        rw [← hc1n] at hp2
        obtain ⟨F, hF⟩ : ∃ F, F = firstC ls n := ⟨_, rfl⟩
        obtain ⟨S, hS⟩ : ∃ S, S = (symsL ls n).length := ⟨_, rfl⟩
        rw [← hF, ← hS] at hp2 hbe
        rw [← hF] at cF
        rw [← hS] at cS
        obtain ⟨K, hK⟩ : ∃ K, K = c1 - F := ⟨_, rfl⟩
        have hcF : (c1 : Int) - (F : Int) = (K : Int) := by omega
        have hKS : ¬ (K : Int) < (S : Int) := by omega
        have hK0 : (0 : Int) ≤ (K : Int) := by omega
        have hfin : Hid (BRAt w2 gb v l (p + n)) := by have := hb2.out; rwa [show p + m + 1 = p + n by have := hn.out; omega] at this
        have hfin2 : Hid (p + n ≤ 8 * l.length) := by have := hn.out; show p + n ≤ _; omega
        have hKb : K ≤ 32768 := by omega
        replace hc1n := hide hc1n
        replace hF := hide hF
        replace hS := hide hS
        replace hK := hide hK
        replace k1 := hide k1
        replace k2 := hide k2
        replace k3 := hide k3
        replace hc1 := hide hc1
        replace hVk := hide hVk
        clear hcd hopm hpast hbit hopen hend hff hpn hc0 hp2
        go_upto_region 13 with (fail)
        go_cut [7] (fun v7 wx => v7 = .int .i64 (c1 : Int) ∧ wx = w2)
        case first =>
          go_wp2_with fail
          go_meet
          case rel => exact ⟨by congr 1, rfl⟩
        case rest =>
          obtain ⟨rfl, rfl⟩ := hcut
          clear hbI hbt
          go_wp2_with fail
          go_roundw
          case rel => exact ⟨n, by rw [← hc1n.out], by go_num, hlt, hfin2.out, hfin, hO3⟩
          case measure => have := hn.out; simp [intOf]; omega
    · have hO3 := hide (hOm.out.trans hO2 fun _ _ h => h)
      have hbk := hide (back_any w2 gb v l (p + m) p hb2 (by omega))
      clear hbit hpast hend
      replace hb2 := hide hb2
      replace hO2 := hide hO2
      go_wp2_with fail
      refine hbk.out.mono ?_
      rintro e w3 ⟨rfl, hb3, hO4⟩
      have hO5 := hide (hO3.out.trans hO4 fun _ _ h => h)
      have hcd3 := h.out.keepT (hO5.out.br hb.out _ (by decide)) (hO5.out.br hb.out _ (by decide))
      have hop := hide (hopm.out w3 hcd3)
      replace hb3 := hide hb3
      replace hcd3 := hide hcd3
      clear hbk hopm hT hopen
      go_wp2_with fail
      refine hop.out.mono ?_
      rintro e w4 ⟨rfl, q, rfl⟩
      go_wp2_with fail
      go_ret2
      exact .inr ⟨by have := hn.out; omega, rfl, hb3.out.drewN q, hO5.out.drewN q⟩
end Go.Proofs.YtbchaomnjbkdhaaGreat
