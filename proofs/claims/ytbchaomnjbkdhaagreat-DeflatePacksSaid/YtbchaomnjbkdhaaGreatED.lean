/-
  The stable sort at one element type: symMerge whole, stable, SortStableFunc (printed by gen_sort.py).
-/
import Derived.Test.YtbchaomnjbkdhaaGreatESortH
namespace Go.Proofs.YtbchaomnjbkdhaaGreat
open Go.RowKit Go.Sort Go.Proofs
set_option linter.unusedVariables false
/-- What the call does, at any three places. -/
def SymH (f : Nat) (cf : (Hp × Nat) → (Hp × Nat) → Int) : Prop := ∀ (w : World) (blk off cap a m b : Nat) (P : (Hp × Nat) → Prop) (d : Array (Hp × Nat)), CmpH w blk off d.size  P cf → AllP P d → Holds encH w blk off d → a < m → m < b → b ≤ d.size → d.size ≤ 1000 → b - a ≤ f →
  Calls Tryz.prog 101 #[.slice (some ⟨blk, off, none⟩) d.size cap, .int .i64 a, .int .i64 m, .int .i64 b, .func (.func 77) #[] #[]] w (RetH w blk off (symF (ltOf cf) f d a m b))
theorem SymH.at_ {f : Nat} {cf : (Hp × Nat) → (Hp × Nat) → Int} (h : SymH f  cf) (w : World) (blk off cap : Nat) (a m b : Nat) (P : (Hp × Nat) → Prop) (d : Array (Hp × Nat)) (n : Nat) (hn : n = d.size) (hC : CmpH w blk off d.size  P cf) (hP : AllP P d) (hH : Holds encH w blk off d) (h1 : a < m) (h2 : m < b) (h3 : b ≤ d.size) (h4 : d.size ≤ 1000) (h5 : b - a ≤ f) :
    Calls Tryz.prog 101 #[.slice (some ⟨blk, off, none⟩) n cap, .int .i64 a, .int .i64 m, .int .i64 b, .func (.func 77) #[] #[]] w (RetH w blk off (symF (ltOf cf) f d a m b)) := by
  subst hn
  exact h w blk off cap a m b P d hC hP hH h1 h2 h3 h4 h5
set_option maxHeartbeats 8000000 in
set_option maxRecDepth 100000 in
theorem symH_three (f : Nat) (cf : (Hp × Nat) → (Hp × Nat) → Int) (ih : SymH f  cf) (w : World) (blk off cap a m b : Nat) (P : (Hp × Nat) → Prop) (d : Array (Hp × Nat)) (hcmp : CmpH w blk off d.size  P cf) (hP : AllP P d) (hH : Holds encH w blk off d) (h1 : a + 1 < m) (h2 : m + 1 < b) (hb : b ≤ d.size) (hsz : d.size ≤ 1000) (hf : b - a ≤ f + 1) :
    Calls Tryz.prog 101 #[.slice (some ⟨blk, off, none⟩) d.size cap, .int .i64 a, .int .i64 m, .int .i64 b, .func (.func 77) #[] #[]] w (RetH w blk off (symF (ltOf cf) (f + 1) d a m b)) := by
  have HST : Hid (w = (putRow encH w blk off d).drewN 0) := (putRow_self encH w blk off d hH).symm
  have hC : Hid (CmpH w blk off d.size  P cf) := hcmp
  have hIH : Hid (SymH f  cf) := ih
  replace hP := hide hP
  replace hH := hide hH
  clear hcmp ih
  obtain ⟨mid, hmid⟩ : ∃ mid, mid = (a + b) / 2 := ⟨_, rfl⟩
  obtain ⟨n, hn⟩ : ∃ n, n = mid + m := ⟨_, rfl⟩
  obtain ⟨p, hp⟩ : ∃ p, p = n - 1 := ⟨_, rfl⟩
  have z1 : ((a : Int) + (b : Int)) / 2 = (mid : Int) := by omega
  have z2 : (mid : Int) + (m : Int) = (n : Int) := by omega
  have z3 : (n : Int) - 1 = (p : Int) := by omega
  have n1 : ((m : Int) - (a : Int) == 1) = false := by rw [beq_eq_false_iff_ne]; omega
  have n2 : ((b : Int) - (m : Int) == 1) = false := by rw [beq_eq_false_iff_ne]; omega
  have ham : a < m := by omega
  have hmb : m < b := by omega
  have hamid : a < mid := by omega
  have hmidb : mid < b := by omega
  have hnb : b ≤ n + 1000 := by omega
  have hn2 : n ≤ 2000 := by omega
  have hp2 : p ≤ 2000 := by omega
  have hp3 : Hid (p + 1 = n) := by rw [Hid]; omega
  obtain ⟨i0, hi0⟩ : ∃ i0, i0 = if mid < m then n - b else a := ⟨_, rfl⟩
  obtain ⟨j0, hj0⟩ : ∃ j0, j0 = if mid < m then mid else m := ⟨_, rfl⟩
  have hij0 : i0 ≤ j0 ∧ a ≤ i0 ∧ j0 ≤ m ∧ j0 ≤ mid ∧ j0 ≤ i0 + (b - a) ∧ p < d.size + i0 ∧ p ≤ d.size + i0 ∧ j0 ≤ p + 1 := by
    by_cases hc : mid < m
    · rw [if_pos hc] at hi0 hj0; omega
    · rw [if_neg hc] at hi0 hj0; omega
  obtain ⟨g1, g2, g3, g4, g5, g6, g7, g8⟩ := hij0
  have hS : Hid (symAt (ltOf cf) d a m b = bsF (fun c => !ltOf cf d[p - c]! d[c]!) (b - a) i0 j0) := by
    rw [Hid, symAt, hi0, hj0, hp, hn, hmid]
    split <;> rfl
  obtain ⟨r, hr⟩ : ∃ r, r = symAt (ltOf cf) d a m b := ⟨_, rfl⟩
  have hsp := symAt_spec (lt := ltOf cf) d a m b h1 h2
  have hfin : Hid (symF (ltOf cf) (f + 1) d a m b = (let d1 := symRot (ltOf cf) d a m b
      let d2 := if a < r ∧ r < mid then symF (ltOf cf) f d1 a r mid else d1
      if mid < n - r ∧ n - r < b then symF (ltOf cf) f d2 mid (n - r) b else d2)) := by
    rw [Hid, symF, if_neg (by omega), if_neg (by omega), hr, hn, hmid]
  have hrot : Hid (symRot (ltOf cf) d a m b = if r < m ∧ m < n - r then rotate d r m (n - r) else d) := by
    rw [Hid, symRot, hr, hn, hmid]
  have hd1P := hide (symRot_perm (ltOf cf) d a m b h1 h2 hb)
  rw [← hr, ← hmid, ← hn] at hsp
  obtain ⟨s1, s2, s3, s4, s5, -, -⟩ := hsp
  have hrb : Hid (r = bsF (fun c => !ltOf cf d[p - c]! d[c]!) (b - a) i0 j0) := by rw [Hid, hr, hS.out]
  clear hS
  replace hr := hide hr
  replace hmid := hide hmid
  replace hn := hide hn
  replace hp := hide hp
  replace hi0 := hide hi0
  replace hj0 := hide hj0
  go_enter Tryz.func101, Tryz.ntmps101
  go_upto_if 140 with (fail)
  go_cut [20, 21] (fun u v wx => u = .int .i64 i0 ∧ v = .int .i64 j0 ∧ w = wx)
  case first =>
    by_cases hc : mid < m
    · have e0 : (n : Int) - (b : Int) = (i0 : Int) := by
        have := hi0.out
        rw [if_pos hc] at this
        omega
      have e1 : j0 = mid := by have := hj0.out; rwa [if_pos hc] at this
      replace e1 := hide e1
      go_wp2_with fail
      go_meet
      case rel => exact ⟨rfl, by rw [e1.out], rfl⟩
    · have e0 : i0 = a := by have := hi0.out; rwa [if_neg hc] at this
      have e1 : j0 = m := by have := hj0.out; rwa [if_neg hc] at this
      replace e0 := hide e0
      replace e1 := hide e1
      go_wp2_with fail
      go_meet
      case rel => exact ⟨by rw [e0.out], by rw [e1.out], rfl⟩
  case rest =>
    obtain ⟨rfl, rfl, rfl⟩ := hcut
    go_wp2_with fail
    go_loopw [20, 21, 23] (fun vi vj _ wr => ∃ (i j g q : Nat), vi = .int .i64 i ∧ vj = .int .i64 j ∧ i0 ≤ i ∧ i ≤ j ∧ j ≤ j0 ∧ j ≤ i + g ∧ Hid (wr = w.drewN q) ∧ Hid (r = bsF (fun c => !ltOf cf d[p - c]! d[c]!) g i j)) (fun vi vj _ _ => (intOf vj).toNat - (intOf vi).toNat)
    case atStart => exact ⟨i0, j0, b - a, 0, rfl, rfl, Nat.le_refl _, g1, Nat.le_refl _, g5, rfl, hrb⟩
    case round =>
      obtain ⟨i, j, g, q, rfl, rfl, hmi, hij, hjb, hg, hwr, hbs⟩ := hrel
      by_cases hlt : i < j
      · as_aux_lemma =>
          obtain ⟨g, rfl⟩ : ∃ e, g = e + 1 := ⟨g - 1, by omega⟩
          obtain ⟨h, hh⟩ : ∃ h, h = (i + j) / 2 := ⟨_, rfl⟩
          have hh2 : ((i : Int) + (j : Int)) / 2 = (h : Int) := by omega
          have hih : i ≤ h ∧ h < j := by omega
          obtain ⟨hih1, hih2⟩ := hih
          have hhd : h < d.size := by omega
          have hph : h ≤ p := by omega
          obtain ⟨y, hy⟩ : ∃ y, y = p - h := ⟨_, rfl⟩
          have hyd : y < d.size := by omega
          have hyw : IntKind.i64.wrap ((p : Int) - (h : Int)) = (y : Int) := by rw [IntWalk.i64_in _ (by omega)]; omega
          have hgo := hide (bsF_go (p := fun c => !ltOf cf d[p - c]! d[c]!) (f := g) hlt hh)
          have hgo2 : Hid (bsF (fun c => !ltOf cf d[p - c]! d[c]!) (g + 1) i j = if (!ltOf cf d[y]! d[h]!) = true then bsF (fun c => !ltOf cf d[p - c]! d[c]!) g (h + 1) j else bsF (fun c => !ltOf cf d[p - c]! d[c]!) g i h) := by
            rw [Hid, hgo.out, hy]
          clear hgo
          replace hh := hide hh
          replace hy := hide hy
          have hcA := hH.out y hyd
          have hcH := hH.out h hhd
          have cA : (w.drewN q).cell? ⟨blk, off + y, none⟩ = some (encH d[y]!) := hcA.1
          have fA : (w.drewN q).frozen? ⟨blk, off + y, none⟩ = false := hcA.2
          have cH : (w.drewN q).cell? ⟨blk, off + h, none⟩ = some (encH d[h]!) := hcH.1
          have fH : (w.drewN q).frozen? ⟨blk, off + h, none⟩ = false := hcH.2
          clear hcH hcA
          have hwq : wr = (putRow encH w blk off d).drewN q := by
            rw [hwr.out, putRow_self encH w blk off d hH.out]
          have hc := hC.out.at_ rfl hwq (hP.out y hyd) (hP.out h hhd)
          rw [← hwr.out] at cA fA cH fH
          clear hwq
          generalize d[y]! = u at *
          generalize d[h]! = x at *
          unfold encH at cA cH hc
          have lh : (h : Int) < (d.size : Int) := by omega
          have la : (y : Int) < (d.size : Int) := by omega
          by_cases hlv : cf u x < 0
          · have hb2 : Hid (r = bsF (fun c => !ltOf cf d[p - c]! d[c]!) g i h) := by
              rw [Hid, hbs.out, hgo2.out, if_neg (show ¬ (!ltOf cf u x) = true by simp only [ltOf, decide_eq_true hlv]; decide)]
            have hnl : (!decide (cf u x < 0)) = false := by rw [decide_eq_true hlv]; rfl
            go_wp2_with fail
            go_quiet (first | (go_at_call 77; refine Calls.quiet_of (hc _)))
            go_wp2_with fail
            go_roundw
            case rel => exact ⟨i, h, g, q + nq, rfl, by go_num, hmi, by omega, by omega, by omega, by rw [Hid, hwr.out, World.drewN_drewN], hb2⟩
            case measure => simp [intOf]; omega
          · have hb2 : Hid (r = bsF (fun c => !ltOf cf d[p - c]! d[c]!) g (h + 1) j) := by
              rw [Hid, hbs.out, hgo2.out, if_pos (show (!ltOf cf u x) = true by simp only [ltOf, decide_eq_false hlv]; decide)]
            have hnl : (!decide (cf u x < 0)) = true := by rw [decide_eq_false hlv]; rfl
            go_wp2_with fail
            go_quiet (first | (go_at_call 77; refine Calls.quiet_of (hc _)))
            go_wp2_with fail
            go_roundw
            case rel => exact ⟨h + 1, j, g, q + nq, by go_num, rfl, by omega, by omega, hjb, by omega, by rw [Hid, hwr.out, World.drewN_drewN], hb2⟩
            case measure => simp [intOf]; omega
      · as_aux_lemma =>
          have hri : r = i := by
            have := hbs.out
            cases g with
            | zero => rw [bsF] at this; exact this
            | succ g => rw [bsF, if_neg hlt] at this; exact this
          subst hri
          clear hbs
          have hwp : Hid (wr = (putRow encH w blk off d).drewN q) := by rw [Hid, hwr.out, putRow_self encH w blk off d hH.out]
          obtain ⟨e, he⟩ : ∃ e, e = n - r := ⟨_, rfl⟩
          have z4 : (n : Int) - (r : Int) = (e : Int) := by omega
          rw [← he] at hfin hrot s4 s5
          replace he := hide he
          have hs1 : Hid ((symRot (ltOf cf) d a m b).size = d.size) := hd1P.out.1
          have hP1 : Hid (AllP P (symRot (ltOf cf) d a m b)) := allP_perm hd1P.out hb hP.out
          obtain ⟨d1, hd1⟩ : ∃ d1, d1 = symRot (ltOf cf) d a m b := ⟨_, rfl⟩
          rw [← hd1] at hfin hrot hs1 hP1
          replace hd1 := hide hd1
          obtain ⟨bR, hbR⟩ : ∃ bR, bR = (decide (r < m) && decide (m < e)) := ⟨_, rfl⟩
          obtain ⟨bA, hbA⟩ : ∃ bA, bA = (decide (a < r) && decide (r < mid)) := ⟨_, rfl⟩
          obtain ⟨bB, hbB⟩ : ∃ bB, bB = (decide (mid < e) && decide (e < b)) := ⟨_, rfl⟩
          replace hbR := hide hbR
          replace hbA := hide hbA
          replace hbB := hide hbB
          go_upto_region 39 with (fail)
          go_cut [185] (fun v wx => v = .bool bR ∧ wr = wx)
          case first =>
            as_aux_lemma =>
              by_cases c1 : r < m
              all_goals by_cases c2 : m < e
              all_goals
                have hb2 : Hid (bR = (decide (r < m) && decide (m < e))) := hbR
                go_wp2_with fail
                go_meet
                case rel => exact ⟨by rw [hb2.out]; simp [c1, c2], rfl⟩
          obtain ⟨rfl, rfl⟩ := hcut
          go_upto_if 185 with (fail)
          go_cut [] (fun wx => ∃ q1, Hid (wx = (putRow encH w blk off d1).drewN q1))
          case first =>
            as_aux_lemma =>
              cases hb3 : bR with
              | true =>
                rw [hb3] at hbR
                have hc : r < m ∧ m < e := by have := hbR.out; simpa using this.symm
                obtain ⟨c1, c2⟩ := hc
                have hd1r : Hid (d1 = rotate d r m e) := by rw [Hid, hrot.out, if_pos ⟨c1, c2⟩]
                go_wp2_with fail
                refine (rotateH_any wr blk off cap r m e _ d (by rw [hwp.out]; exact holds_putRow encH w blk off d d hH.out rfl) c1 c2 (by omega) hsz).mono ?_
                rintro e1 w2 ⟨rfl, n2, hw2⟩
                have hw2' : Hid (w2 = (putRow encH w blk off d1).drewN (q + n2)) := by
                  rw [Hid, hw2, hwr.out, ← World.drewN_drewN, hd1r.out]; rfl
                clear hw2
                go_wp2_with fail
                go_meet
                case rel => exact ⟨q + n2, hw2'⟩
              | false =>
                rw [hb3] at hbR
                have hc : ¬ (r < m ∧ m < e) := by have := hbR.out; intro h; simp [h.1, h.2] at this
                have hd1r : Hid (d1 = d) := by rw [Hid, hrot.out, if_neg hc]
                clear hc
                go_wp2_with fail
                go_meet
                case rel => exact ⟨q, by rw [Hid, hwp.out, hd1r.out]⟩
          as_aux_lemma =>
            obtain ⟨q1, hw1⟩ := hcut
            obtain ⟨w1, hw1w⟩ : ∃ x, x = wc := ⟨_, rfl⟩
            rw [← hw1w] at hw1 ⊢
            clear hw1w
            clear hwr hwp
            have hC1 : Hid (CmpH w1 blk off d1.size  P cf) := by
              have := hC.out.step (dk := d1) hs1.out hw1.out
              rw [← hs1.out] at this
              exact this
            have hH1 : Hid (Holds encH w1 blk off d1) := by rw [Hid, hw1.out]; exact holds_putRow encH w blk off d d1 hH.out hs1.out
            have hz1 : Hid (d1.size ≤ 1000 ∧ mid ≤ d1.size) := by rw [Hid, hs1.out]; exact ⟨hsz, by omega⟩
            obtain ⟨d2, hd2⟩ : ∃ d2, d2 = if a < r ∧ r < mid then symF (ltOf cf) f d1 a r mid else d1 := ⟨_, rfl⟩
            have hs2 : Hid (d2.size = d.size) := by
              rw [Hid, hd2]
              split
              · rw [symF_size, hs1.out]
              · exact hs1.out
            have hP2 : Hid (AllP P d2) := by
              rw [Hid, hd2]
              split
              · rename_i hc; exact allP_perm (symF_perm (ltOf cf) f d1 a r mid hc.1 hc.2 (by rw [hs1.out]; omega)) (by rw [hs1.out]; omega) hP1.out
              · exact hP1.out
            have hfin2 : Hid (symF (ltOf cf) (f + 1) d a m b = if mid < e ∧ e < b then symF (ltOf cf) f d2 mid e b else d2) := by
              rw [Hid, hfin.out, hd2]
            replace hd2 := hide hd2
            clear hfin
            go_upto_region 41 with (fail)
            go_cut [199] (fun v wx => v = .bool bA ∧ w1 = wx)
            case first =>
              as_aux_lemma =>
                by_cases c1 : a < r
                all_goals by_cases c2 : r < mid
                all_goals
                  have hb2 : Hid (bA = (decide (a < r) && decide (r < mid))) := hbA
                  go_wp2_with fail
                  go_meet
                  case rel => exact ⟨by rw [hb2.out]; simp [c1, c2], rfl⟩
            obtain ⟨rfl, rfl⟩ := hcut
            go_upto_if 199 with (fail)
            go_cut [] (fun wx => ∃ q2, Hid (wx = (putRow encH w blk off d2).drewN q2))
            case first =>
              as_aux_lemma =>
                cases hb3 : bA with
                | true =>
                  rw [hb3] at hbA
                  have hc : a < r ∧ r < mid := by have := hbA.out; simpa using this.symm
                  obtain ⟨c1, c2⟩ := hc
                  have hd2r : Hid (d2 = symF (ltOf cf) f d1 a r mid) := by rw [Hid, hd2.out, if_pos ⟨c1, c2⟩]
                  go_wp2_with fail
                  refine (SymH.at_ hIH.out w1 blk off cap a r mid P d1 _ hs1.out.symm hC1.out hP1.out hH1.out c1 c2 hz1.out.2 hz1.out.1 (by omega)).mono ?_
                  rintro e1 w2 ⟨rfl, n2, hw2⟩
                  have hw2' : Hid (w2 = (putRow encH w blk off d2).drewN (q1 + n2)) := by
                    rw [Hid, hw2, hw1.out, ← World.drewN_drewN, hd2r.out]
                    show ((putRow encH (putRow encH w blk off d1) blk off _).drewN q1).drewN n2 = _
                    rw [putRow_putRow encH w blk off d1 _ (by rw [symF_size])]
                  clear hw2
                  go_wp2_with fail
                  go_meet
                  case rel => exact ⟨q1 + n2, hw2'⟩
                | false =>
                  rw [hb3] at hbA
                  have hc : ¬ (a < r ∧ r < mid) := by have := hbA.out; intro h; simp [h.1, h.2] at this
                  have hd2r : Hid (d2 = d1) := by rw [Hid, hd2.out, if_neg hc]
                  clear hc
                  go_wp2_with fail
                  go_meet
                  case rel => exact ⟨q1, by rw [Hid, hw1.out, hd2r.out]⟩
            obtain ⟨q2, hw2⟩ := hcut
            obtain ⟨w2, hw2w⟩ : ∃ x, x = wc := ⟨_, rfl⟩
            rw [← hw2w] at hw2 ⊢
            clear hw2w
            clear hC1 hH1 hw1
            as_aux_lemma =>
              have hC2 : Hid (CmpH w2 blk off d2.size  P cf) := by
                have := hC.out.step (dk := d2) hs2.out hw2.out
                rw [← hs2.out] at this
                exact this
              have hH2 : Hid (Holds encH w2 blk off d2) := by rw [Hid, hw2.out]; exact holds_putRow encH w blk off d d2 hH.out hs2.out
              have hz2 : Hid (d2.size ≤ 1000 ∧ b ≤ d2.size) := by rw [Hid, hs2.out]; exact ⟨hsz, hb⟩
              go_upto_region 43 with (fail)
              go_cut [213] (fun v wx => v = .bool bB ∧ w2 = wx)
              case first =>
                as_aux_lemma =>
                  by_cases c1 : mid < e
                  all_goals by_cases c2 : e < b
                  all_goals
                    have hb2 : Hid (bB = (decide (mid < e) && decide (e < b))) := hbB
                    go_wp2_with fail
                    go_meet
                    case rel => exact ⟨by rw [hb2.out]; simp [c1, c2], rfl⟩
              obtain ⟨rfl, rfl⟩ := hcut
              cases hb3 : bB with
              | true =>
                rw [hb3] at hbB
                have hc : mid < e ∧ e < b := by have := hbB.out; simpa using this.symm
                obtain ⟨c1, c2⟩ := hc
                have hfr : Hid (symF (ltOf cf) (f + 1) d a m b = symF (ltOf cf) f d2 mid e b) := by rw [Hid, hfin2.out, if_pos ⟨c1, c2⟩]
                go_wp2_with fail
                refine (SymH.at_ hIH.out w2 blk off cap mid e b P d2 _ hs2.out.symm hC2.out hP2.out hH2.out c1 c2 hz2.out.2 hz2.out.1 (by omega)).mono ?_
                rintro e1 w3 ⟨rfl, n3, hw3⟩
                have hw3' : Hid (w3 = (putRow encH w blk off (symF (ltOf cf) f d2 mid e b)).drewN (q2 + n3)) := by
                  rw [Hid, hw3, hw2.out, ← World.drewN_drewN]
                  show ((putRow encH (putRow encH w blk off d2) blk off _).drewN q2).drewN n3 = _
                  rw [putRow_putRow encH w blk off d2 _ (by rw [symF_size])]
                clear hw3
                go_wp2_with fail
                go_end0
                rw [hfr.out]
                exact RetH.mk hw3'.out
              | false =>
                rw [hb3] at hbB
                have hc : ¬ (mid < e ∧ e < b) := by have := hbB.out; intro h; simp [h.1, h.2] at this
                have hfr : Hid (symF (ltOf cf) (f + 1) d a m b = d2) := by rw [Hid, hfin2.out, if_neg hc]
                clear hc
                go_wp2_with fail
                go_end0
                rw [hfr.out]
                exact RetH.mk hw2.out
end Go.Proofs.YtbchaomnjbkdhaaGreat
namespace Go.Proofs.YtbchaomnjbkdhaaGreat
open Go.RowKit Go.Sort Go.Proofs
set_option linter.unusedVariables false
theorem symH_any (cf : (Hp × Nat) → (Hp × Nat) → Int) : ∀ f, SymH f  cf := by
  intro f
  induction f with
  | zero => intro w blk off cap a m b P d _ _ _ h1 h2 _ _ h5; omega
  | succ f ih =>
    intro w blk off cap a m b P d hC hP hH h1 h2 h3 h4 h5
    by_cases c1 : m = a + 1
    · exact symH_one f w blk off cap a m b  P cf d hC hP hH c1 h2 h3 h4
    · by_cases c2 : b = m + 1
      · exact symH_two f w blk off cap a m b  P cf d hC hP hH (by omega) c2 h3 h4
      · exact symH_three f  cf ih w blk off cap a m b P d hC hP hH (by omega) (by omega) h3 h4 h5
theorem insH_at (w : World) (blk off cap : Nat) (x y : Int) (a b : Nat) (hx : x = (a : Int)) (hy : y = (b : Int)) (P : (Hp × Nat) → Prop) (cf : (Hp × Nat) → (Hp × Nat) → Int) (n : Nat) (d : Array (Hp × Nat)) (hn : n = d.size) (hcmp : CmpH w blk off d.size  P cf) (hP : AllP P d) (hH : Holds encH w blk off d) (hab : a ≤ b) (hb : b ≤ d.size) (hsz : d.size ≤ 1000) :
    Calls Tryz.prog 100 #[.slice (some ⟨blk, off, none⟩) n cap, .int .i64 x, .int .i64 y, .func (.func 77) #[] #[]] w (RetH w blk off (insertionSort (ltOf cf) d a b)) := by
  subst hx hy hn
  exact insH_any w blk off cap a b  P cf d hcmp hP hH hab hb hsz
theorem SymH.at3 {f : Nat} {cf : (Hp × Nat) → (Hp × Nat) → Int} (h : SymH f  cf) (w : World) (blk off cap : Nat) (x y z : Int) (a m b : Nat) (hx : x = (a : Int)) (hy : y = (m : Int)) (hz : z = (b : Int)) (P : (Hp × Nat) → Prop) (d : Array (Hp × Nat)) (n : Nat) (hn : n = d.size) (hC : CmpH w blk off d.size  P cf) (hP : AllP P d) (hH : Holds encH w blk off d) (h1 : a < m) (h2 : m < b) (h3 : b ≤ d.size) (h4 : d.size ≤ 1000) (h5 : b - a ≤ f) :
    Calls Tryz.prog 101 #[.slice (some ⟨blk, off, none⟩) n cap, .int .i64 x, .int .i64 y, .int .i64 z, .func (.func 77) #[] #[]] w (RetH w blk off (symF (ltOf cf) f d a m b)) := by
  subst hn hx hy hz
  exact h w blk off cap a m b P d hC hP hH h1 h2 h3 h4 h5
/-- Two steps are one. -/
theorem twoH {w w1 w2 : World} {blk off n m : Nat} {d1 d2 : Array (Hp × Nat)} (h1 : w1 = (putRow encH w blk off d1).drewN n) (h2 : w2 = (putRow encH w1 blk off d2).drewN m) (hs : d2.size = d1.size) : w2 = (putRow encH w blk off d2).drewN (n + m) := by
  rw [h2, h1, ← World.drewN_drewN]
  show ((putRow encH (putRow encH w blk off d1) blk off d2).drewN n).drewN m = _
  rw [putRow_putRow encH w blk off d1 d2 hs]
set_option maxHeartbeats 4000000 in
set_option maxRecDepth 100000 in
theorem stableH_any (w : World) (blk off cap : Nat) (P : (Hp × Nat) → Prop) (cf : (Hp × Nat) → (Hp × Nat) → Int) (hS : SWO (ltOf cf)) (d : Array (Hp × Nat)) (hcmp : CmpH w blk off d.size  P cf) (hP : AllP P d) (hH : Holds encH w blk off d) (hsz : d.size ≤ 1000) :
    Calls Tryz.prog 91 #[.slice (some ⟨blk, off, none⟩) d.size cap, .int .i64 (d.size : Int), .func (.func 77) #[] #[]] w (RetH w blk off (stableA (ltOf cf) d)) := by
  have HST : Hid (w = (putRow encH w blk off d).drewN 0) := (putRow_self encH w blk off d hH).symm
  have hC : Hid (CmpH w blk off d.size  P cf) := hcmp
  have hSym : Hid (SymH d.size  cf) := symH_any  cf d.size
  replace hP := hide hP
  replace hH := hide hH
  replace hS := hide hS
  clear hcmp
  obtain ⟨dB, hdB⟩ : ∃ dB, dB = insB (ltOf cf) d.size (d.size + 1) 0 20 d := ⟨_, rfl⟩
  have hfin : Hid (stableA (ltOf cf) d = stbB (ltOf cf) d.size (d.size + 1) 20 dB) := by rw [Hid, stableA, hdB]
  replace hdB := hide hdB
  obtain ⟨N, hN⟩ : ∃ N, N = d.size := ⟨_, rfl⟩
  have hNd : Hid (d.size = N) := hN.symm
  rw [← hN] at hsz hdB hfin hSym hC ⊢
  clear hN
  go_enter Tryz.func91, Tryz.ntmps91
  go_wp2_with fail
  go_loopw [7, 8] (fun va vb wr => ∃ (a b f n1 : Nat) (dk : Array (Hp × Nat)), va = .int .i64 a ∧ vb = .int .i64 b ∧ b = a + 20 ∧ a ≤ N ∧ N < a + f ∧ Hid (dk.size = N) ∧ Hid (AllP P dk) ∧ Hid (wr = (putRow encH w blk off dk).drewN n1) ∧ Hid (dB = insB (ltOf cf) N f a b dk)) (fun va _ _ => N + 1 - (intOf va).toNat)
  case atStart => exact ⟨0, 20, N + 1, 0, d, rfl, rfl, rfl, Nat.zero_le _, by omega, hNd, hP, HST, hdB⟩
  case round =>
    obtain ⟨a, b, f, n1, dk, rfl, rfl, hab, haN, hf, hsk, hPk, hwk, hins⟩ := hrel
    obtain ⟨f, rfl⟩ : ∃ e, f = e + 1 := ⟨f - 1, by omega⟩
    have hCk : Hid (CmpH wr blk off dk.size  P cf) := by
      have := hC.out.step (dk := dk) hsk.out hwk.out
      rw [← hsk.out] at this
      exact this
    have hHk : Hid (Holds encH wr blk off dk) := by rw [Hid, hwk.out]; exact holds_putRow encH w blk off d dk hH.out (by rw [hsk.out, hNd.out])
    have hzk : Hid (dk.size ≤ 1000) := by rw [Hid, hsk.out]; exact hsz
    by_cases hb : b ≤ N
    · have hbk : Hid (b ≤ dk.size) := by rw [Hid, hsk.out]; exact hb
      have hnx : Hid (dB = insB (ltOf cf) N f b (b + 20) (insertionSort (ltOf cf) dk a b)) := by rw [Hid, hins.out, insB, if_pos hb]
      have hpm := (insertionSort_holds hS.out dk a b (by omega) hbk.out).1
      have hs2 : Hid ((insertionSort (ltOf cf) dk a b).size = N) := by rw [Hid, hpm.1, hsk.out]
      have hs3 : Hid ((insertionSort (ltOf cf) dk a b).size = dk.size) := hpm.1
      have hP2 : Hid (AllP P (insertionSort (ltOf cf) dk a b)) := allP_perm hpm hbk.out hPk.out
      clear hpm
      replace hab := hide hab
      go_wp2_with fail
      refine (insH_at wr blk off cap _ _ a b rfl rfl  P cf _ dk hsk.out.symm hCk.out hPk.out hHk.out (by have := hab.out; omega) hbk.out hzk.out).mono ?_
      rintro e w2 ⟨rfl, n2, hw2⟩
      have hw2' : Hid (w2 = (putRow encH w blk off (insertionSort (ltOf cf) dk a b)).drewN (n1 + n2)) := twoH hwk.out hw2 hs3.out
      generalize insertionSort (ltOf cf) dk a b = d2 at *
      clear hw2 hCk hHk
      go_wp2_with fail
      go_roundw
      case rel => exact ⟨b, b + 20, f, n1 + n2, d2, rfl, by go_num, rfl, hb, by have := hab.out; omega, hs2, hP2, hw2', hnx⟩
      case measure => have := hab.out; simp [intOf]; omega
    · have hins2 : Hid (dB = insertionSort (ltOf cf) dk a N) := by rw [Hid, hins.out, insB, if_neg hb]
      have hpm := (insertionSort_holds hS.out dk a N haN (by rw [hsk.out]; exact Nat.le_refl _)).1
      have hs2 : Hid (dB.size = N) := by rw [Hid, hins2.out, hpm.1, hsk.out]
      have hP2 : Hid (AllP P dB) := by rw [Hid, hins2.out]; exact allP_perm hpm (by rw [hsk.out]; exact Nat.le_refl _) hPk.out
      clear hpm
      replace hab := hide hab
      go_wp2_with fail
      refine (insH_at wr blk off cap _ _ a N rfl rfl  P cf _ dk hsk.out.symm hCk.out hPk.out hHk.out haN (by rw [hsk.out]; exact Nat.le_refl _) hzk.out).mono ?_
      rintro e w2 ⟨rfl, n2, hw2⟩
      have hw2' : Hid (w2 = (putRow encH w blk off dB).drewN (n1 + n2)) := by
        rw [← hins2.out] at hw2
        exact twoH hwk.out hw2 (by rw [hs2.out, hsk.out])
      clear hw2 hCk hHk hwk hins hins2 hPk hsk hzk
      go_wp2_with fail
      obtain ⟨q0, hq0⟩ : ∃ q0, q0 = n1 + n2 := ⟨_, rfl⟩
      rw [← hq0] at hw2'
      clear hq0
      clear hab hb haN hf
      obtain ⟨wo, hwo⟩ : ∃ wo, wo = w2 := ⟨_, rfl⟩
      rw [← hwo] at hw2' ⊢
      clear hwo
      go_loopw [6] (fun vz wx => ∃ (z f n1 : Nat) (dk : Array (Hp × Nat)), vz = .int .i64 z ∧ 1 ≤ z ∧ z ≤ 40 + 2 * N ∧ N < z + f ∧ Hid (dk.size = N) ∧ Hid (AllP P dk) ∧ Hid (wx = (putRow encH w blk off dk).drewN n1) ∧ Hid (stbB (ltOf cf) N (N + 1) 20 dB = stbB (ltOf cf) N f z dk)) (fun vz _ => N + 41 + 2 * N - (intOf vz).toNat)
      case atStart => exact ⟨20, N + 1, q0, dB, rfl, by omega, by omega, by omega, hs2, hP2, hw2', rfl⟩
      case round =>
        obtain ⟨z, f, n1, dk, rfl, hz1, hz2, hzf, hsk, hPk, hwk, hstb⟩ := hrel
        by_cases hz : z < N
        · obtain ⟨f, rfl⟩ : ∃ e, f = e + 1 := ⟨f - 1, by omega⟩
          have hnx : Hid (stbB (ltOf cf) N (N + 1) 20 dB = stbB (ltOf cf) N f (2 * z) (mrgB (ltOf cf) N z (N + 1) 0 (2 * z) dk)) := by rw [Hid, hstb.out, stbB, if_pos hz]
          obtain ⟨dM, hdM⟩ : ∃ dM, dM = mrgB (ltOf cf) N z (N + 1) 0 (2 * z) dk := ⟨_, rfl⟩
          rw [← hdM] at hnx
          replace hdM := hide hdM
          go_wp2_with fail
          obtain ⟨wp, hwp⟩ : ∃ wp, wp = wr := ⟨_, rfl⟩
          rw [← hwp] at hwk ⊢
          clear hwp
          go_loopw [7, 8] (fun va vb wx => ∃ (a b g n2 : Nat) (dj : Array (Hp × Nat)), va = .int .i64 a ∧ vb = .int .i64 b ∧ Hid (b = a + 2 * z) ∧ b ≤ N + 2 * z ∧ a ≤ N ∧ N < a + g ∧ Hid (dj.size = N) ∧ Hid (AllP P dj) ∧ Hid (wx = (putRow encH w blk off dj).drewN n2) ∧ Hid (dM = mrgB (ltOf cf) N z g a b dj)) (fun va _ _ => N + 1 - (intOf va).toNat)
          case atStart => exact ⟨0, 2 * z, N + 1, n1, dk, rfl, by go_num, by rw [Hid]; omega, by omega, Nat.zero_le _, by omega, hsk, hPk, hwk, hdM⟩
          case round =>
            obtain ⟨a, b, g, n2, dj, rfl, rfl, hab, hbN, haN, hg, hsj, hPj, hwj, hmr⟩ := hrel
            obtain ⟨g, rfl⟩ : ∃ e, g = e + 1 := ⟨g - 1, by omega⟩
            have hCk : Hid (CmpH wr blk off dj.size  P cf) := by
              have := hC.out.step (dk := dj) hsj.out hwj.out
              rw [← hsj.out] at this
              exact this
            have hHk : Hid (Holds encH wr blk off dj) := by rw [Hid, hwj.out]; exact holds_putRow encH w blk off d dj hH.out (by rw [hsj.out, hNd.out])
            have hzk : Hid (dj.size ≤ 1000) := by rw [Hid, hsj.out]; exact hsz
            have haz : a + z ≤ 2000 := by omega
            by_cases hb : b ≤ N
            · have hbk : Hid (b ≤ dj.size) := by rw [Hid, hsj.out]; exact hb
              have h3 : a + z < b := by have := hab.out; omega
              have hnx2 : Hid (dM = mrgB (ltOf cf) N z g b (b + 2 * z) (symF (ltOf cf) N dj a (a + z) b)) := by rw [Hid, hmr.out, mrgB, if_pos hb]
              have hs4 : Hid ((symF (ltOf cf) N dj a (a + z) b).size = N) := by rw [Hid, symF_size, hsj.out]
              have hP4 : Hid (AllP P (symF (ltOf cf) N dj a (a + z) b)) := allP_perm (symF_perm (ltOf cf) N dj a (a + z) b (by omega) h3 hbk.out) hbk.out hPj.out
              go_wp2_with fail
              refine (SymH.at3 hSym.out wr blk off cap _ _ _ a (a + z) b rfl (by omega) rfl P dj _ hsj.out.symm hCk.out hPj.out hHk.out (by omega) h3 hbk.out hzk.out (by omega)).mono ?_
              rintro e w4 ⟨rfl, n4, hw4⟩
              have hw4' : Hid (w4 = (putRow encH w blk off (symF (ltOf cf) N dj a (a + z) b)).drewN (n2 + n4)) := twoH hwj.out hw4 (by rw [symF_size])
              generalize symF (ltOf cf) N dj a (a + z) b = d4 at *
              clear hw4 hCk hHk
              go_wp2_with fail
              go_roundw
              case rel => exact ⟨b, b + 2 * z, g, n2 + n4, d4, rfl, by go_num, by rw [Hid], by omega, hb, by omega, hs4, hP4, hw4', hnx2⟩
              case measure => simp [intOf]; omega
            · by_cases hm : a + z < N
              · have hdM2 : Hid (dM = symF (ltOf cf) N dj a (a + z) N) := by rw [Hid, hmr.out, mrgB, if_neg hb, if_pos hm]
                have hs4 : Hid (dM.size = N) := by rw [Hid, hdM2.out, symF_size, hsj.out]
                have hNj : Hid (N ≤ dj.size) := by rw [Hid, hsj.out]; exact Nat.le_refl _
                have hP4 : Hid (AllP P dM) := by rw [Hid, hdM2.out]; exact allP_perm (symF_perm (ltOf cf) N dj a (a + z) N (by omega) hm hNj.out) hNj.out hPj.out
                go_wp2_with fail
                refine (SymH.at3 hSym.out wr blk off cap _ _ _ a (a + z) N rfl (by omega) rfl P dj _ hsj.out.symm hCk.out hPj.out hHk.out (by omega) hm hNj.out hzk.out (by omega)).mono ?_
                rintro e w4 ⟨rfl, n4, hw4⟩
                have hw4' : Hid (w4 = (putRow encH w blk off dM).drewN (n2 + n4)) := by
                  rw [← hdM2.out] at hw4
                  exact twoH hwj.out hw4 (by rw [hs4.out, hsj.out])
                clear hw4 hCk hHk
                go_wp2_with fail
                go_roundw
                case rel => exact ⟨2 * z, f, n2 + n4, dM, by go_num, by omega, by omega, by omega, hs4, hP4, hw4', hnx⟩
                case measure => simp [intOf]; omega
              · have hdM2 : Hid (dM = dj) := by rw [Hid, hmr.out, mrgB, if_neg hb, if_neg hm]
                clear hCk hHk
                go_wp2_with fail
                go_roundw
                case rel => exact ⟨2 * z, f, n2, dM, by go_num, by omega, by omega, by omega, by rw [Hid, hdM2.out, hsj.out], by rw [Hid, hdM2.out]; exact hPj.out, by rw [Hid, hdM2.out, hwj.out], hnx⟩
                case measure => simp [intOf]; omega
        · have hd : Hid (stbB (ltOf cf) N (N + 1) 20 dB = dk) := by
            rw [Hid, hstb.out]
            cases f with
            | zero => rw [stbB]
            | succ f => rw [stbB, if_neg hz]
          go_wp2_with fail
          go_end0
          rw [hfin.out, hd.out]
          exact RetH.mk hwk.out
theorem sortH_any (w : World) (blk off cap n : Nat) (P : (Hp × Nat) → Prop) (cf : (Hp × Nat) → (Hp × Nat) → Int) (hS : SWO (ltOf cf)) (d : Array (Hp × Nat)) (hn : n = d.size) (hcmp : CmpH w blk off d.size  P cf) (hP : AllP P d) (hH : Holds encH w blk off d) (hsz : d.size ≤ 1000) :
    Calls Tryz.prog 76 #[.slice (some ⟨blk, off, none⟩) n cap, .func (.func 77) #[] #[]] w (RetH w blk off (stableA (ltOf cf) d)) := by
  subst hn
  have hc := stableH_any w blk off cap  P cf hS d hcmp hP hH hsz
  clear hS hcmp hP hH
  go_enter Tryz.func76, Tryz.ntmps76
  go_wp2_with fail
  refine hc.mono ?_
  rintro e w2 ⟨rfl, n2, hw2⟩
  replace hw2 := hide hw2
  go_wp2_with fail
  go_end0
  exact RetH.mk hw2.out
end Go.Proofs.YtbchaomnjbkdhaaGreat
