/-
  The stable sort at one element type: symMerge at any places, stable, SortStableFunc (printed by gen_sort.py).
-/
import Derived.Test.YtbchaomnjbkdhaaSymH
namespace Go.Proofs.Ytbchaomnjbkdhaa
open Go.RowKit Go.Sort Go.Proofs
set_option linter.unusedVariables false

theorem symH_any (cf : (Hp × Nat) → (Hp × Nat) → Int) : ∀ f, SymH f  cf := by
  intro f
  induction f with
  | zero => intro w blk off cap a m b P d _ _ _ h1 h2 _ _ h5; omega
  | succ f ih =>
    intro w blk off cap a m b P d hC hP hH h1 h2 h3 h4 h5
    by_cases c1 : m = a + 1
    · exact symH_one f w blk off cap a m b  P cf d hC hP hH c1 h2 h3 h4
    · by_cases c2 : b = m + 1
      · exact symH_two f w blk off cap a m b  P cf d hC hP hH (by omega) c2 h3 h4
      · exact symH_three f  cf ih w blk off cap a m b P d hC hP hH (by omega) (by omega) h3 h4 h5
theorem insH_at (w : World) (blk off cap : Nat) (x y : Int) (a b : Nat) (hx : x = (a : Int)) (hy : y = (b : Int)) (P : (Hp × Nat) → Prop) (cf : (Hp × Nat) → (Hp × Nat) → Int) (n : Nat) (d : Array (Hp × Nat)) (hn : n = d.size) (hcmp : CmpH w blk off d.size  P cf) (hP : AllP P d) (hH : Holds encH w blk off d) (hab : a ≤ b) (hb : b ≤ d.size) (hsz : d.size ≤ 1000) :
    Calls Try.prog 49 #[.slice (some ⟨blk, off, none⟩) n cap, .int .i64 x, .int .i64 y, .func (.func 37) #[] #[]] w (RetH w blk off (insertionSort (ltOf cf) d a b)) := by
  subst hx hy hn
  exact insH_any w blk off cap a b  P cf d hcmp hP hH hab hb hsz
theorem SymH.at3 {f : Nat} {cf : (Hp × Nat) → (Hp × Nat) → Int} (h : SymH f  cf) (w : World) (blk off cap : Nat) (x y z : Int) (a m b : Nat) (hx : x = (a : Int)) (hy : y = (m : Int)) (hz : z = (b : Int)) (P : (Hp × Nat) → Prop) (d : Array (Hp × Nat)) (n : Nat) (hn : n = d.size) (hC : CmpH w blk off d.size  P cf) (hP : AllP P d) (hH : Holds encH w blk off d) (h1 : a < m) (h2 : m < b) (h3 : b ≤ d.size) (h4 : d.size ≤ 1000) (h5 : b - a ≤ f) :
    Calls Try.prog 50 #[.slice (some ⟨blk, off, none⟩) n cap, .int .i64 x, .int .i64 y, .int .i64 z, .func (.func 37) #[] #[]] w (RetH w blk off (symF (ltOf cf) f d a m b)) := by
  subst hn hx hy hz
  exact h w blk off cap a m b P d hC hP hH h1 h2 h3 h4 h5
/-- Two steps are one. -/
theorem twoH {w w1 w2 : World} {blk off n m : Nat} {d1 d2 : Array (Hp × Nat)} (h1 : w1 = (putRow encH w blk off d1).drewN n) (h2 : w2 = (putRow encH w1 blk off d2).drewN m) (hs : d2.size = d1.size) : w2 = (putRow encH w blk off d2).drewN (n + m) := by
  rw [h2, h1, ← World.drewN_drewN]
  show ((putRow encH (putRow encH w blk off d1) blk off d2).drewN n).drewN m = _
  rw [putRow_putRow encH w blk off d1 d2 hs]
set_option maxHeartbeats 4000000 in
set_option maxRecDepth 100000 in
theorem stableH_any (w : World) (blk off cap : Nat) (P : (Hp × Nat) → Prop) (cf : (Hp × Nat) → (Hp × Nat) → Int) (hS : SWO (ltOf cf)) (d : Array (Hp × Nat)) (hcmp : CmpH w blk off d.size  P cf) (hP : AllP P d) (hH : Holds encH w blk off d) (hsz : d.size ≤ 1000) :
    Calls Try.prog 44 #[.slice (some ⟨blk, off, none⟩) d.size cap, .int .i64 (d.size : Int), .func (.func 37) #[] #[]] w (RetH w blk off (stableA (ltOf cf) d)) := by
  have HST : Hid (w = (putRow encH w blk off d).drewN 0) := (putRow_self encH w blk off d hH).symm
  have hC : Hid (CmpH w blk off d.size  P cf) := hcmp
  have hSym : Hid (SymH d.size  cf) := symH_any  cf d.size
  replace hP := hide hP
  replace hH := hide hH
  replace hS := hide hS
  clear hcmp
  obtain ⟨dB, hdB⟩ : ∃ dB, dB = insB (ltOf cf) d.size (d.size + 1) 0 20 d := ⟨_, rfl⟩
  have hfin : Hid (stableA (ltOf cf) d = stbB (ltOf cf) d.size (d.size + 1) 20 dB) := by rw [Hid, stableA, hdB]
  replace hdB := hide hdB
  obtain ⟨N, hN⟩ : ∃ N, N = d.size := ⟨_, rfl⟩
  have hNd : Hid (d.size = N) := hN.symm
  rw [← hN] at hsz hdB hfin hSym hC ⊢
  clear hN
  go_enter Try.func44, Try.ntmps44
  go_wp2_with fail
  go_loopw [7, 8] (fun va vb wr => ∃ (a b f n1 : Nat) (dk : Array (Hp × Nat)), va = .int .i64 a ∧ vb = .int .i64 b ∧ b = a + 20 ∧ a ≤ N ∧ N < a + f ∧ Hid (dk.size = N) ∧ Hid (AllP P dk) ∧ Hid (wr = (putRow encH w blk off dk).drewN n1) ∧ Hid (dB = insB (ltOf cf) N f a b dk)) (fun va _ _ => N + 1 - (intOf va).toNat)
  case atStart => exact ⟨0, 20, N + 1, 0, d, rfl, rfl, rfl, Nat.zero_le _, by omega, hNd, hP, HST, hdB⟩
  case round =>
    obtain ⟨a, b, f, n1, dk, rfl, rfl, hab, haN, hf, hsk, hPk, hwk, hins⟩ := hrel
    obtain ⟨f, rfl⟩ : ∃ e, f = e + 1 := ⟨f - 1, by omega⟩
    have hCk : Hid (CmpH wr blk off dk.size  P cf) := by
      have := hC.out.step (dk := dk) hsk.out hwk.out
      rw [← hsk.out] at this
      exact this
    have hHk : Hid (Holds encH wr blk off dk) := by rw [Hid, hwk.out]; exact holds_putRow encH w blk off d dk hH.out (by rw [hsk.out, hNd.out])
    have hzk : Hid (dk.size ≤ 1000) := by rw [Hid, hsk.out]; exact hsz
    by_cases hb : b ≤ N
    · have hbk : Hid (b ≤ dk.size) := by rw [Hid, hsk.out]; exact hb
      have hnx : Hid (dB = insB (ltOf cf) N f b (b + 20) (insertionSort (ltOf cf) dk a b)) := by rw [Hid, hins.out, insB, if_pos hb]
      have hpm := (insertionSort_holds hS.out dk a b (by omega) hbk.out).1
      have hs2 : Hid ((insertionSort (ltOf cf) dk a b).size = N) := by rw [Hid, hpm.1, hsk.out]
      have hs3 : Hid ((insertionSort (ltOf cf) dk a b).size = dk.size) := hpm.1
      have hP2 : Hid (AllP P (insertionSort (ltOf cf) dk a b)) := allP_perm hpm hbk.out hPk.out
      clear hpm
      replace hab := hide hab
      go_wp2_with fail
      refine (insH_at wr blk off cap _ _ a b rfl rfl  P cf _ dk hsk.out.symm hCk.out hPk.out hHk.out (by have := hab.out; omega) hbk.out hzk.out).mono ?_
      rintro e w2 ⟨rfl, n2, hw2⟩
      have hw2' : Hid (w2 = (putRow encH w blk off (insertionSort (ltOf cf) dk a b)).drewN (n1 + n2)) := twoH hwk.out hw2 hs3.out
      generalize insertionSort (ltOf cf) dk a b = d2 at *
      clear hw2 hCk hHk
      go_wp2_with fail
      go_roundw
      case rel => exact ⟨b, b + 20, f, n1 + n2, d2, rfl, by go_num, rfl, hb, by have := hab.out; omega, hs2, hP2, hw2', hnx⟩
      case measure => have := hab.out; simp [intOf]; omega
    · have hins2 : Hid (dB = insertionSort (ltOf cf) dk a N) := by rw [Hid, hins.out, insB, if_neg hb]
      have hpm := (insertionSort_holds hS.out dk a N haN (by rw [hsk.out]; exact Nat.le_refl _)).1
      have hs2 : Hid (dB.size = N) := by rw [Hid, hins2.out, hpm.1, hsk.out]
      have hP2 : Hid (AllP P dB) := by rw [Hid, hins2.out]; exact allP_perm hpm (by rw [hsk.out]; exact Nat.le_refl _) hPk.out
      clear hpm
      replace hab := hide hab
      go_wp2_with fail
      refine (insH_at wr blk off cap _ _ a N rfl rfl  P cf _ dk hsk.out.symm hCk.out hPk.out hHk.out haN (by rw [hsk.out]; exact Nat.le_refl _) hzk.out).mono ?_
      rintro e w2 ⟨rfl, n2, hw2⟩
      have hw2' : Hid (w2 = (putRow encH w blk off dB).drewN (n1 + n2)) := by
        rw [← hins2.out] at hw2
        exact twoH hwk.out hw2 (by rw [hs2.out, hsk.out])
      clear hw2 hCk hHk hwk hins hins2 hPk hsk hzk
      go_wp2_with fail
      obtain ⟨q0, hq0⟩ : ∃ q0, q0 = n1 + n2 := ⟨_, rfl⟩
      rw [← hq0] at hw2'
      clear hq0
      clear hab hb haN hf
      obtain ⟨wo, hwo⟩ : ∃ wo, wo = w2 := ⟨_, rfl⟩
      rw [← hwo] at hw2' ⊢
      clear hwo
      go_loopw [6] (fun vz wx => ∃ (z f n1 : Nat) (dk : Array (Hp × Nat)), vz = .int .i64 z ∧ 1 ≤ z ∧ z ≤ 40 + 2 * N ∧ N < z + f ∧ Hid (dk.size = N) ∧ Hid (AllP P dk) ∧ Hid (wx = (putRow encH w blk off dk).drewN n1) ∧ Hid (stbB (ltOf cf) N (N + 1) 20 dB = stbB (ltOf cf) N f z dk)) (fun vz _ => N + 41 + 2 * N - (intOf vz).toNat)
      case atStart => exact ⟨20, N + 1, q0, dB, rfl, by omega, by omega, by omega, hs2, hP2, hw2', rfl⟩
      case round =>
        obtain ⟨z, f, n1, dk, rfl, hz1, hz2, hzf, hsk, hPk, hwk, hstb⟩ := hrel
        by_cases hz : z < N
        · obtain ⟨f, rfl⟩ : ∃ e, f = e + 1 := ⟨f - 1, by omega⟩
          have hnx : Hid (stbB (ltOf cf) N (N + 1) 20 dB = stbB (ltOf cf) N f (2 * z) (mrgB (ltOf cf) N z (N + 1) 0 (2 * z) dk)) := by rw [Hid, hstb.out, stbB, if_pos hz]
          obtain ⟨dM, hdM⟩ : ∃ dM, dM = mrgB (ltOf cf) N z (N + 1) 0 (2 * z) dk := ⟨_, rfl⟩
          rw [← hdM] at hnx
          replace hdM := hide hdM
          go_wp2_with fail
          obtain ⟨wp, hwp⟩ : ∃ wp, wp = wr := ⟨_, rfl⟩
          rw [← hwp] at hwk ⊢
          clear hwp
          go_loopw [7, 8] (fun va vb wx => ∃ (a b g n2 : Nat) (dj : Array (Hp × Nat)), va = .int .i64 a ∧ vb = .int .i64 b ∧ Hid (b = a + 2 * z) ∧ b ≤ N + 2 * z ∧ a ≤ N ∧ N < a + g ∧ Hid (dj.size = N) ∧ Hid (AllP P dj) ∧ Hid (wx = (putRow encH w blk off dj).drewN n2) ∧ Hid (dM = mrgB (ltOf cf) N z g a b dj)) (fun va _ _ => N + 1 - (intOf va).toNat)
          case atStart => exact ⟨0, 2 * z, N + 1, n1, dk, rfl, by go_num, by rw [Hid]; omega, by omega, Nat.zero_le _, by omega, hsk, hPk, hwk, hdM⟩
          case round =>
            obtain ⟨a, b, g, n2, dj, rfl, rfl, hab, hbN, haN, hg, hsj, hPj, hwj, hmr⟩ := hrel
            obtain ⟨g, rfl⟩ : ∃ e, g = e + 1 := ⟨g - 1, by omega⟩
            have hCk : Hid (CmpH wr blk off dj.size  P cf) := by
              have := hC.out.step (dk := dj) hsj.out hwj.out
              rw [← hsj.out] at this
              exact this
            have hHk : Hid (Holds encH wr blk off dj) := by rw [Hid, hwj.out]; exact holds_putRow encH w blk off d dj hH.out (by rw [hsj.out, hNd.out])
            have hzk : Hid (dj.size ≤ 1000) := by rw [Hid, hsj.out]; exact hsz
            have haz : a + z ≤ 2000 := by omega
            by_cases hb : b ≤ N
            · have hbk : Hid (b ≤ dj.size) := by rw [Hid, hsj.out]; exact hb
              have h3 : a + z < b := by have := hab.out; omega
              have hnx2 : Hid (dM = mrgB (ltOf cf) N z g b (b + 2 * z) (symF (ltOf cf) N dj a (a + z) b)) := by rw [Hid, hmr.out, mrgB, if_pos hb]
              have hs4 : Hid ((symF (ltOf cf) N dj a (a + z) b).size = N) := by rw [Hid, symF_size, hsj.out]
              have hP4 : Hid (AllP P (symF (ltOf cf) N dj a (a + z) b)) := allP_perm (symF_perm (ltOf cf) N dj a (a + z) b (by omega) h3 hbk.out) hbk.out hPj.out
              go_wp2_with fail
              refine (SymH.at3 hSym.out wr blk off cap _ _ _ a (a + z) b rfl (by omega) rfl P dj _ hsj.out.symm hCk.out hPj.out hHk.out (by omega) h3 hbk.out hzk.out (by omega)).mono ?_
              rintro e w4 ⟨rfl, n4, hw4⟩
              have hw4' : Hid (w4 = (putRow encH w blk off (symF (ltOf cf) N dj a (a + z) b)).drewN (n2 + n4)) := twoH hwj.out hw4 (by rw [symF_size])
              generalize symF (ltOf cf) N dj a (a + z) b = d4 at *
              clear hw4 hCk hHk
              go_wp2_with fail
              go_roundw
              case rel => exact ⟨b, b + 2 * z, g, n2 + n4, d4, rfl, by go_num, by rw [Hid], by omega, hb, by omega, hs4, hP4, hw4', hnx2⟩
              case measure => simp [intOf]; omega
            · by_cases hm : a + z < N
              · have hdM2 : Hid (dM = symF (ltOf cf) N dj a (a + z) N) := by rw [Hid, hmr.out, mrgB, if_neg hb, if_pos hm]
                have hs4 : Hid (dM.size = N) := by rw [Hid, hdM2.out, symF_size, hsj.out]
                have hNj : Hid (N ≤ dj.size) := by rw [Hid, hsj.out]; exact Nat.le_refl _
                have hP4 : Hid (AllP P dM) := by rw [Hid, hdM2.out]; exact allP_perm (symF_perm (ltOf cf) N dj a (a + z) N (by omega) hm hNj.out) hNj.out hPj.out
                go_wp2_with fail
                refine (SymH.at3 hSym.out wr blk off cap _ _ _ a (a + z) N rfl (by omega) rfl P dj _ hsj.out.symm hCk.out hPj.out hHk.out (by omega) hm hNj.out hzk.out (by omega)).mono ?_
                rintro e w4 ⟨rfl, n4, hw4⟩
                have hw4' : Hid (w4 = (putRow encH w blk off dM).drewN (n2 + n4)) := by
                  rw [← hdM2.out] at hw4
                  exact twoH hwj.out hw4 (by rw [hs4.out, hsj.out])
                clear hw4 hCk hHk
                go_wp2_with fail
                go_roundw
                case rel => exact ⟨2 * z, f, n2 + n4, dM, by go_num, by omega, by omega, by omega, hs4, hP4, hw4', hnx⟩
                case measure => simp [intOf]; omega
              · have hdM2 : Hid (dM = dj) := by rw [Hid, hmr.out, mrgB, if_neg hb, if_neg hm]
                clear hCk hHk
                go_wp2_with fail
                go_roundw
                case rel => exact ⟨2 * z, f, n2, dM, by go_num, by omega, by omega, by omega, by rw [Hid, hdM2.out, hsj.out], by rw [Hid, hdM2.out]; exact hPj.out, by rw [Hid, hdM2.out, hwj.out], hnx⟩
                case measure => simp [intOf]; omega
        · have hd : Hid (stbB (ltOf cf) N (N + 1) 20 dB = dk) := by
            rw [Hid, hstb.out]
            cases f with
            | zero => rw [stbB]
            | succ f => rw [stbB, if_neg hz]
          go_wp2_with fail
          go_end0
          rw [hfin.out, hd.out]
          exact RetH.mk hwk.out
theorem sortH_any (w : World) (blk off cap n : Nat) (P : (Hp × Nat) → Prop) (cf : (Hp × Nat) → (Hp × Nat) → Int) (hS : SWO (ltOf cf)) (d : Array (Hp × Nat)) (hn : n = d.size) (hcmp : CmpH w blk off d.size  P cf) (hP : AllP P d) (hH : Holds encH w blk off d) (hsz : d.size ≤ 1000) :
    Calls Try.prog 36 #[.slice (some ⟨blk, off, none⟩) n cap, .func (.func 37) #[] #[]] w (RetH w blk off (stableA (ltOf cf) d)) := by
  subst hn
  have hc := stableH_any w blk off cap  P cf hS d hcmp hP hH hsz
  clear hS hcmp hP hH
  go_enter Try.func36, Try.ntmps36
  go_wp2_with fail
  refine hc.mono ?_
  rintro e w2 ⟨rfl, n2, hw2⟩
  replace hw2 := hide hw2
  go_wp2_with fail
  go_end0
  exact RetH.mk hw2.out
end Go.Proofs.Ytbchaomnjbkdhaa
