/-
  The stable sort at one element type: symMerge whole, stable, SortStableFunc (printed by gen_sort.py).
-/
import Derived.Test.YtbchaomnjbkdhaaSortH
namespace Go.Proofs.Ytbchaomnjbkdhaa
open Go.RowKit Go.Sort Go.Proofs
set_option linter.unusedVariables false

/-- What the call does, at any three places. -/
def SymH (f : Nat) (cf : (Hp × Nat) → (Hp × Nat) → Int) : Prop := ∀ (w : World) (blk off cap a m b : Nat) (P : (Hp × Nat) → Prop) (d : Array (Hp × Nat)), CmpH w blk off d.size  P cf → AllP P d → Holds encH w blk off d → a < m → m < b → b ≤ d.size → d.size ≤ 1000 → b - a ≤ f →
  Calls Try.prog 50 #[.slice (some ⟨blk, off, none⟩) d.size cap, .int .i64 a, .int .i64 m, .int .i64 b, .func (.func 37) #[] #[]] w (RetH w blk off (symF (ltOf cf) f d a m b))
theorem SymH.at_ {f : Nat} {cf : (Hp × Nat) → (Hp × Nat) → Int} (h : SymH f  cf) (w : World) (blk off cap : Nat) (a m b : Nat) (P : (Hp × Nat) → Prop) (d : Array (Hp × Nat)) (n : Nat) (hn : n = d.size) (hC : CmpH w blk off d.size  P cf) (hP : AllP P d) (hH : Holds encH w blk off d) (h1 : a < m) (h2 : m < b) (h3 : b ≤ d.size) (h4 : d.size ≤ 1000) (h5 : b - a ≤ f) :
    Calls Try.prog 50 #[.slice (some ⟨blk, off, none⟩) n cap, .int .i64 a, .int .i64 m, .int .i64 b, .func (.func 37) #[] #[]] w (RetH w blk off (symF (ltOf cf) f d a m b)) := by
  subst hn
  exact h w blk off cap a m b P d hC hP hH h1 h2 h3 h4 h5
set_option maxHeartbeats 8000000 in
set_option maxRecDepth 100000 in
theorem symH_three (f : Nat) (cf : (Hp × Nat) → (Hp × Nat) → Int) (ih : SymH f  cf) (w : World) (blk off cap a m b : Nat) (P : (Hp × Nat) → Prop) (d : Array (Hp × Nat)) (hcmp : CmpH w blk off d.size  P cf) (hP : AllP P d) (hH : Holds encH w blk off d) (h1 : a + 1 < m) (h2 : m + 1 < b) (hb : b ≤ d.size) (hsz : d.size ≤ 1000) (hf : b - a ≤ f + 1) :
    Calls Try.prog 50 #[.slice (some ⟨blk, off, none⟩) d.size cap, .int .i64 a, .int .i64 m, .int .i64 b, .func (.func 37) #[] #[]] w (RetH w blk off (symF (ltOf cf) (f + 1) d a m b)) := by
  have HST : Hid (w = (putRow encH w blk off d).drewN 0) := (putRow_self encH w blk off d hH).symm
  have hC : Hid (CmpH w blk off d.size  P cf) := hcmp
  have hIH : Hid (SymH f  cf) := ih
  replace hP := hide hP
  replace hH := hide hH
  clear hcmp ih
  obtain ⟨mid, hmid⟩ : ∃ mid, mid = (a + b) / 2 := ⟨_, rfl⟩
  obtain ⟨n, hn⟩ : ∃ n, n = mid + m := ⟨_, rfl⟩
  obtain ⟨p, hp⟩ : ∃ p, p = n - 1 := ⟨_, rfl⟩
  have z1 : ((a : Int) + (b : Int)) / 2 = (mid : Int) := by omega
  have z2 : (mid : Int) + (m : Int) = (n : Int) := by omega
  have z3 : (n : Int) - 1 = (p : Int) := by omega
  have n1 : ((m : Int) - (a : Int) == 1) = false := by rw [beq_eq_false_iff_ne]; omega
  have n2 : ((b : Int) - (m : Int) == 1) = false := by rw [beq_eq_false_iff_ne]; omega
  have ham : a < m := by omega
  have hmb : m < b := by omega
  have hamid : a < mid := by omega
  have hmidb : mid < b := by omega
  have hnb : b ≤ n + 1000 := by omega
  have hn2 : n ≤ 2000 := by omega
  have hp2 : p ≤ 2000 := by omega
  have hp3 : Hid (p + 1 = n) := by rw [Hid]; omega
  obtain ⟨i0, hi0⟩ : ∃ i0, i0 = if mid < m then n - b else a := ⟨_, rfl⟩
  obtain ⟨j0, hj0⟩ : ∃ j0, j0 = if mid < m then mid else m := ⟨_, rfl⟩
  have hij0 : i0 ≤ j0 ∧ a ≤ i0 ∧ j0 ≤ m ∧ j0 ≤ mid ∧ j0 ≤ i0 + (b - a) ∧ p < d.size + i0 ∧ p ≤ d.size + i0 ∧ j0 ≤ p + 1 := by
    by_cases hc : mid < m
    · rw [if_pos hc] at hi0 hj0; omega
    · rw [if_neg hc] at hi0 hj0; omega
  obtain ⟨g1, g2, g3, g4, g5, g6, g7, g8⟩ := hij0
  have hS : Hid (symAt (ltOf cf) d a m b = bsF (fun c => !ltOf cf d[p - c]! d[c]!) (b - a) i0 j0) := by
    rw [Hid, symAt, hi0, hj0, hp, hn, hmid]
    split <;> rfl
  obtain ⟨r, hr⟩ : ∃ r, r = symAt (ltOf cf) d a m b := ⟨_, rfl⟩
  have hsp := symAt_spec (lt := ltOf cf) d a m b h1 h2
  have hfin : Hid (symF (ltOf cf) (f + 1) d a m b = (let d1 := symRot (ltOf cf) d a m b
      let d2 := if a < r ∧ r < mid then symF (ltOf cf) f d1 a r mid else d1
      if mid < n - r ∧ n - r < b then symF (ltOf cf) f d2 mid (n - r) b else d2)) := by
    rw [Hid, symF, if_neg (by omega), if_neg (by omega), hr, hn, hmid]
  have hrot : Hid (symRot (ltOf cf) d a m b = if r < m ∧ m < n - r then rotate d r m (n - r) else d) := by
    rw [Hid, symRot, hr, hn, hmid]
  have hd1P := hide (symRot_perm (ltOf cf) d a m b h1 h2 hb)
  rw [← hr, ← hmid, ← hn] at hsp
  obtain ⟨s1, s2, s3, s4, s5, -, -⟩ := hsp
  have hrb : Hid (r = bsF (fun c => !ltOf cf d[p - c]! d[c]!) (b - a) i0 j0) := by rw [Hid, hr, hS.out]
  clear hS
  replace hr := hide hr
  replace hmid := hide hmid
  replace hn := hide hn
  replace hp := hide hp
  replace hi0 := hide hi0
  replace hj0 := hide hj0
  go_enter Try.func50, Try.ntmps50
  go_upto_if 140 with (fail)
  go_cut [20, 21] (fun u v wx => u = .int .i64 i0 ∧ v = .int .i64 j0 ∧ w = wx)
  case first =>
    by_cases hc : mid < m
    · have e0 : (n : Int) - (b : Int) = (i0 : Int) := by
        have := hi0.out
        rw [if_pos hc] at this
        omega
      have e1 : j0 = mid := by have := hj0.out; rwa [if_pos hc] at this
      replace e1 := hide e1
      go_wp2_with fail
      go_meet
      case rel => exact ⟨rfl, by rw [e1.out], rfl⟩
    · have e0 : i0 = a := by have := hi0.out; rwa [if_neg hc] at this
      have e1 : j0 = m := by have := hj0.out; rwa [if_neg hc] at this
      replace e0 := hide e0
      replace e1 := hide e1
      go_wp2_with fail
      go_meet
      case rel => exact ⟨by rw [e0.out], by rw [e1.out], rfl⟩
  case rest =>
    obtain ⟨rfl, rfl, rfl⟩ := hcut
    go_wp2_with fail
    go_loopw [20, 21, 23] (fun vi vj _ wr => ∃ (i j g q : Nat), vi = .int .i64 i ∧ vj = .int .i64 j ∧ i0 ≤ i ∧ i ≤ j ∧ j ≤ j0 ∧ j ≤ i + g ∧ Hid (wr = w.drewN q) ∧ Hid (r = bsF (fun c => !ltOf cf d[p - c]! d[c]!) g i j)) (fun vi vj _ _ => (intOf vj).toNat - (intOf vi).toNat)
    case atStart => exact ⟨i0, j0, b - a, 0, rfl, rfl, Nat.le_refl _, g1, Nat.le_refl _, g5, rfl, hrb⟩
    case round =>
      obtain ⟨i, j, g, q, rfl, rfl, hmi, hij, hjb, hg, hwr, hbs⟩ := hrel
      by_cases hlt : i < j
      · as_aux_lemma =>
          obtain ⟨g, rfl⟩ : ∃ e, g = e + 1 := ⟨g - 1, by omega⟩
          obtain ⟨h, hh⟩ : ∃ h, h = (i + j) / 2 := ⟨_, rfl⟩
          have hh2 : ((i : Int) + (j : Int)) / 2 = (h : Int) := by omega
          have hih : i ≤ h ∧ h < j := by omega
          obtain ⟨hih1, hih2⟩ := hih
          have hhd : h < d.size := by omega
          have hph : h ≤ p := by omega
          obtain ⟨y, hy⟩ : ∃ y, y = p - h := ⟨_, rfl⟩
          have hyd : y < d.size := by omega
          have hyw : IntKind.i64.wrap ((p : Int) - (h : Int)) = (y : Int) := by rw [IntWalk.i64_in _ (by omega)]; omega
          have hgo := hide (bsF_go (p := fun c => !ltOf cf d[p - c]! d[c]!) (f := g) hlt hh)
          have hgo2 : Hid (bsF (fun c => !ltOf cf d[p - c]! d[c]!) (g + 1) i j = if (!ltOf cf d[y]! d[h]!) = true then bsF (fun c => !ltOf cf d[p - c]! d[c]!) g (h + 1) j else bsF (fun c => !ltOf cf d[p - c]! d[c]!) g i h) := by
            rw [Hid, hgo.out, hy]
          clear hgo
          replace hh := hide hh
          replace hy := hide hy
          have hcA := hH.out y hyd
          have hcH := hH.out h hhd
          have cA : (w.drewN q).cell? ⟨blk, off + y, none⟩ = some (encH d[y]!) := hcA.1
          have fA : (w.drewN q).frozen? ⟨blk, off + y, none⟩ = false := hcA.2
          have cH : (w.drewN q).cell? ⟨blk, off + h, none⟩ = some (encH d[h]!) := hcH.1
          have fH : (w.drewN q).frozen? ⟨blk, off + h, none⟩ = false := hcH.2
          clear hcH hcA
          have hwq : wr = (putRow encH w blk off d).drewN q := by
            rw [hwr.out, putRow_self encH w blk off d hH.out]
          have hc := hC.out.at_ rfl hwq (hP.out y hyd) (hP.out h hhd)
          rw [← hwr.out] at cA fA cH fH
          clear hwq
          generalize d[y]! = u at *
          generalize d[h]! = x at *
          unfold encH at cA cH hc
          have lh : (h : Int) < (d.size : Int) := by omega
          have la : (y : Int) < (d.size : Int) := by omega
          by_cases hlv : cf u x < 0
          · have hb2 : Hid (r = bsF (fun c => !ltOf cf d[p - c]! d[c]!) g i h) := by
              rw [Hid, hbs.out, hgo2.out, if_neg (show ¬ (!ltOf cf u x) = true by simp only [ltOf, decide_eq_true hlv]; decide)]
            have hnl : (!decide (cf u x < 0)) = false := by rw [decide_eq_true hlv]; rfl
            go_wp2_with fail
            go_quiet (first | (go_at_call 37; refine Calls.quiet_of (hc _)))
            go_wp2_with fail
            go_roundw
            case rel => exact ⟨i, h, g, q + nq, rfl, by go_num, hmi, by omega, by omega, by omega, by rw [Hid, hwr.out, World.drewN_drewN], hb2⟩
            case measure => simp [intOf]; omega
          · have hb2 : Hid (r = bsF (fun c => !ltOf cf d[p - c]! d[c]!) g (h + 1) j) := by
              rw [Hid, hbs.out, hgo2.out, if_pos (show (!ltOf cf u x) = true by simp only [ltOf, decide_eq_false hlv]; decide)]
            have hnl : (!decide (cf u x < 0)) = true := by rw [decide_eq_false hlv]; rfl
            go_wp2_with fail
            go_quiet (first | (go_at_call 37; refine Calls.quiet_of (hc _)))
            go_wp2_with fail
            go_roundw
            case rel => exact ⟨h + 1, j, g, q + nq, by go_num, rfl, by omega, by omega, hjb, by omega, by rw [Hid, hwr.out, World.drewN_drewN], hb2⟩
            case measure => simp [intOf]; omega
      · as_aux_lemma =>
          have hri : r = i := by
            have := hbs.out
            cases g with
            | zero => rw [bsF] at this; exact this
            | succ g => rw [bsF, if_neg hlt] at this; exact this
          subst hri
          clear hbs
          have hwp : Hid (wr = (putRow encH w blk off d).drewN q) := by rw [Hid, hwr.out, putRow_self encH w blk off d hH.out]
          obtain ⟨e, he⟩ : ∃ e, e = n - r := ⟨_, rfl⟩
          have z4 : (n : Int) - (r : Int) = (e : Int) := by omega
          rw [← he] at hfin hrot s4 s5
          replace he := hide he
          have hs1 : Hid ((symRot (ltOf cf) d a m b).size = d.size) := hd1P.out.1
          have hP1 : Hid (AllP P (symRot (ltOf cf) d a m b)) := allP_perm hd1P.out hb hP.out
          obtain ⟨d1, hd1⟩ : ∃ d1, d1 = symRot (ltOf cf) d a m b := ⟨_, rfl⟩
          rw [← hd1] at hfin hrot hs1 hP1
          replace hd1 := hide hd1
          obtain ⟨bR, hbR⟩ : ∃ bR, bR = (decide (r < m) && decide (m < e)) := ⟨_, rfl⟩
          obtain ⟨bA, hbA⟩ : ∃ bA, bA = (decide (a < r) && decide (r < mid)) := ⟨_, rfl⟩
          obtain ⟨bB, hbB⟩ : ∃ bB, bB = (decide (mid < e) && decide (e < b)) := ⟨_, rfl⟩
          replace hbR := hide hbR
          replace hbA := hide hbA
          replace hbB := hide hbB
          go_upto_region 39 with (fail)
          go_cut [185] (fun v wx => v = .bool bR ∧ wr = wx)
          case first =>
            as_aux_lemma =>
              by_cases c1 : r < m
              all_goals by_cases c2 : m < e
              all_goals
                have hb2 : Hid (bR = (decide (r < m) && decide (m < e))) := hbR
                go_wp2_with fail
                go_meet
                case rel => exact ⟨by rw [hb2.out]; simp [c1, c2], rfl⟩
          obtain ⟨rfl, rfl⟩ := hcut
          go_upto_if 185 with (fail)
          go_cut [] (fun wx => ∃ q1, Hid (wx = (putRow encH w blk off d1).drewN q1))
          case first =>
            as_aux_lemma =>
              cases hb3 : bR with
              | true =>
                rw [hb3] at hbR
                have hc : r < m ∧ m < e := by have := hbR.out; simpa using this.symm
                obtain ⟨c1, c2⟩ := hc
                have hd1r : Hid (d1 = rotate d r m e) := by rw [Hid, hrot.out, if_pos ⟨c1, c2⟩]
                go_wp2_with fail
                refine (rotateH_any wr blk off cap r m e _ d (by rw [hwp.out]; exact holds_putRow encH w blk off d d hH.out rfl) c1 c2 (by omega) hsz).mono ?_
                rintro e1 w2 ⟨rfl, n2, hw2⟩
                have hw2' : Hid (w2 = (putRow encH w blk off d1).drewN (q + n2)) := by
                  rw [Hid, hw2, hwr.out, ← World.drewN_drewN, hd1r.out]; rfl
                clear hw2
                go_wp2_with fail
                go_meet
                case rel => exact ⟨q + n2, hw2'⟩
              | false =>
                rw [hb3] at hbR
                have hc : ¬ (r < m ∧ m < e) := by have := hbR.out; intro h; simp [h.1, h.2] at this
                have hd1r : Hid (d1 = d) := by rw [Hid, hrot.out, if_neg hc]
                clear hc
                go_wp2_with fail
                go_meet
                case rel => exact ⟨q, by rw [Hid, hwp.out, hd1r.out]⟩
          as_aux_lemma =>
            obtain ⟨q1, hw1⟩ := hcut
            obtain ⟨w1, hw1w⟩ : ∃ x, x = wc := ⟨_, rfl⟩
            rw [← hw1w] at hw1 ⊢
            clear hw1w
            clear hwr hwp
            have hC1 : Hid (CmpH w1 blk off d1.size  P cf) := by
              have := hC.out.step (dk := d1) hs1.out hw1.out
              rw [← hs1.out] at this
              exact this
            have hH1 : Hid (Holds encH w1 blk off d1) := by rw [Hid, hw1.out]; exact holds_putRow encH w blk off d d1 hH.out hs1.out
            have hz1 : Hid (d1.size ≤ 1000 ∧ mid ≤ d1.size) := by rw [Hid, hs1.out]; exact ⟨hsz, by omega⟩
            obtain ⟨d2, hd2⟩ : ∃ d2, d2 = if a < r ∧ r < mid then symF (ltOf cf) f d1 a r mid else d1 := ⟨_, rfl⟩
            have hs2 : Hid (d2.size = d.size) := by
              rw [Hid, hd2]
              split
              · rw [symF_size, hs1.out]
              · exact hs1.out
            have hP2 : Hid (AllP P d2) := by
              rw [Hid, hd2]
              split
              · rename_i hc; exact allP_perm (symF_perm (ltOf cf) f d1 a r mid hc.1 hc.2 (by rw [hs1.out]; omega)) (by rw [hs1.out]; omega) hP1.out
              · exact hP1.out
            have hfin2 : Hid (symF (ltOf cf) (f + 1) d a m b = if mid < e ∧ e < b then symF (ltOf cf) f d2 mid e b else d2) := by
              rw [Hid, hfin.out, hd2]
            replace hd2 := hide hd2
            clear hfin
            go_upto_region 41 with (fail)
            go_cut [199] (fun v wx => v = .bool bA ∧ w1 = wx)
            case first =>
              as_aux_lemma =>
                by_cases c1 : a < r
                all_goals by_cases c2 : r < mid
                all_goals
                  have hb2 : Hid (bA = (decide (a < r) && decide (r < mid))) := hbA
                  go_wp2_with fail
                  go_meet
                  case rel => exact ⟨by rw [hb2.out]; simp [c1, c2], rfl⟩
            obtain ⟨rfl, rfl⟩ := hcut
            go_upto_if 199 with (fail)
            go_cut [] (fun wx => ∃ q2, Hid (wx = (putRow encH w blk off d2).drewN q2))
            case first =>
              as_aux_lemma =>
                cases hb3 : bA with
                | true =>
                  rw [hb3] at hbA
                  have hc : a < r ∧ r < mid := by have := hbA.out; simpa using this.symm
                  obtain ⟨c1, c2⟩ := hc
                  have hd2r : Hid (d2 = symF (ltOf cf) f d1 a r mid) := by rw [Hid, hd2.out, if_pos ⟨c1, c2⟩]
                  go_wp2_with fail
                  refine (SymH.at_ hIH.out w1 blk off cap a r mid P d1 _ hs1.out.symm hC1.out hP1.out hH1.out c1 c2 hz1.out.2 hz1.out.1 (by omega)).mono ?_
                  rintro e1 w2 ⟨rfl, n2, hw2⟩
                  have hw2' : Hid (w2 = (putRow encH w blk off d2).drewN (q1 + n2)) := by
                    rw [Hid, hw2, hw1.out, ← World.drewN_drewN, hd2r.out]
                    show ((putRow encH (putRow encH w blk off d1) blk off _).drewN q1).drewN n2 = _
                    rw [putRow_putRow encH w blk off d1 _ (by rw [symF_size])]
                  clear hw2
                  go_wp2_with fail
                  go_meet
                  case rel => exact ⟨q1 + n2, hw2'⟩
                | false =>
                  rw [hb3] at hbA
                  have hc : ¬ (a < r ∧ r < mid) := by have := hbA.out; intro h; simp [h.1, h.2] at this
                  have hd2r : Hid (d2 = d1) := by rw [Hid, hd2.out, if_neg hc]
                  clear hc
                  go_wp2_with fail
                  go_meet
                  case rel => exact ⟨q1, by rw [Hid, hw1.out, hd2r.out]⟩
            obtain ⟨q2, hw2⟩ := hcut
            obtain ⟨w2, hw2w⟩ : ∃ x, x = wc := ⟨_, rfl⟩
            rw [← hw2w] at hw2 ⊢
            clear hw2w
            clear hC1 hH1 hw1
            as_aux_lemma =>
              have hC2 : Hid (CmpH w2 blk off d2.size  P cf) := by
                have := hC.out.step (dk := d2) hs2.out hw2.out
                rw [← hs2.out] at this
                exact this
              have hH2 : Hid (Holds encH w2 blk off d2) := by rw [Hid, hw2.out]; exact holds_putRow encH w blk off d d2 hH.out hs2.out
              have hz2 : Hid (d2.size ≤ 1000 ∧ b ≤ d2.size) := by rw [Hid, hs2.out]; exact ⟨hsz, hb⟩
              go_upto_region 43 with (fail)
              go_cut [213] (fun v wx => v = .bool bB ∧ w2 = wx)
              case first =>
                as_aux_lemma =>
                  by_cases c1 : mid < e
                  all_goals by_cases c2 : e < b
                  all_goals
                    have hb2 : Hid (bB = (decide (mid < e) && decide (e < b))) := hbB
                    go_wp2_with fail
                    go_meet
                    case rel => exact ⟨by rw [hb2.out]; simp [c1, c2], rfl⟩
              obtain ⟨rfl, rfl⟩ := hcut
              cases hb3 : bB with
              | true =>
                rw [hb3] at hbB
                have hc : mid < e ∧ e < b := by have := hbB.out; simpa using this.symm
                obtain ⟨c1, c2⟩ := hc
                have hfr : Hid (symF (ltOf cf) (f + 1) d a m b = symF (ltOf cf) f d2 mid e b) := by rw [Hid, hfin2.out, if_pos ⟨c1, c2⟩]
                go_wp2_with fail
                refine (SymH.at_ hIH.out w2 blk off cap mid e b P d2 _ hs2.out.symm hC2.out hP2.out hH2.out c1 c2 hz2.out.2 hz2.out.1 (by omega)).mono ?_
                rintro e1 w3 ⟨rfl, n3, hw3⟩
                have hw3' : Hid (w3 = (putRow encH w blk off (symF (ltOf cf) f d2 mid e b)).drewN (q2 + n3)) := by
                  rw [Hid, hw3, hw2.out, ← World.drewN_drewN]
                  show ((putRow encH (putRow encH w blk off d2) blk off _).drewN q2).drewN n3 = _
                  rw [putRow_putRow encH w blk off d2 _ (by rw [symF_size])]
                clear hw3
                go_wp2_with fail
                go_end0
                rw [hfr.out]
                exact RetH.mk hw3'.out
              | false =>
                rw [hb3] at hbB
                have hc : ¬ (mid < e ∧ e < b) := by have := hbB.out; intro h; simp [h.1, h.2] at this
                have hfr : Hid (symF (ltOf cf) (f + 1) d a m b = d2) := by rw [Hid, hfin2.out, if_neg hc]
                clear hc
                go_wp2_with fail
                go_end0
                rw [hfr.out]
                exact RetH.mk hw2.out
end Go.Proofs.Ytbchaomnjbkdhaa
