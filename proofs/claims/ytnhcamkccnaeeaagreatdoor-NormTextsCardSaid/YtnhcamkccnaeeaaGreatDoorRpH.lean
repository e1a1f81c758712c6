/-
  The reference's Parse: any text is the question that the grammar says, or refused.
-/
import Derived.Test.YtnhcamkccnaeeaaGreatDoorRpF
import Derived.Test.YtnhcamkccnaeeaaGreatDoorRpG
import Derived.Test.YtnhcamkccnaeeaaGreatDoorRpProg
import Derived.Test.YtnhcamkccnaeeaaGreatDoorOkQ
import Derived.Test.YtnhcamkccnaeeaaGreatDoorRefC
import Derived.Test.YtnhcamkccnaeeaaGreatDoorParI
import Derived.IntWalk
import Derived.BigQuiet
import Derived.Deep.QuietTactic
namespace Go.Proofs.YtnhcamkccnaeeaaGreatDoor
open Go.RowKit
set_option linter.unusedVariables false

/-- What the reference's Parse answers. -/
def RPRet (W : World) (l : List Ask) (e : Int) (en : Ending) (w' : World) : Prop :=
  ∃ v, en = .returned (.agg #[v, .int .i64 e]) ∧ OA w' W.heap.size v l.length l ∧ Below W.heap.size W w'
theorem RPRet.mk {W w' : World} {l l' : List Ask} {e e' : Int} {v : Value} {n : Nat} (h : OA w' W.heap.size v n l') (hl : l = l') (he : e = e') (hb : Below W.heap.size W w') :
    RPRet W l e (.returned (.agg #[v, .int .i64 e'])) w' := by
  subst hl he
  exact ⟨v, rfl, by rw [h.len]; exact h, hb⟩

set_option maxRecDepth 100000 in
set_option maxHeartbeats 2000000 in
theorem rparse_any (s : ByteArray) (w : World) (hs : s.size ≤ 1000000) :
    Calls Tryz.prog 16 #[.string s] w (RPRet w (parsedL s.data.toList) (parsedE s.data.toList)) := by
  have hlx := hide (lexT_len s.data.toList)
  go_enter Tryz.func16, Tryz.ntmps16
  go_wp2_with fail
  have hR0 := Blk.new w 45 #[.slice none 0 0, .int .i64 0]
  have hb0 : Below w.heap.size w (w.alloc (.cells #[.slice none 0 0, .int .i64 0] 45)) := (Below.refl _ _).alloc (Nat.le_refl _) _
  have hs0 : w.heap.size < (w.alloc (.cells #[.slice none 0 0, .int .i64 0] 45)).heap.size := by simp
  generalize w.alloc (.cells #[.slice none 0 0, .int .i64 0] 45) = w0 at *
  refine (rtokens_any s w0 hs).mono ?_
  rintro e w1 ⟨v, rfl, ho, hb1⟩
  have hR1 := hide (hR0.below hb1 hs0)
  have hbw1 := hb0.trans (hb1.mono (Nat.le_of_lt hs0))
  have hs1 := hb1.size
  have hlt1 : w.heap.size < w1.heap.size := by omega
  obtain ⟨tA, tc, rfl, hRT, -, htc1, htc2⟩ := ho.form
  clear ho
  have q0 := hR1.out.cell 0
  have q1 := hR1.out.cell 1
  have f0 := hR1.out.frozen 0
  have f1 := hR1.out.frozen 1
  by_cases hE : lexE s.data.toList = 0
  · have hl : Hid (parsedL s.data.toList = parseL (lexL s.data.toList)) := by rw [Hid, parsedL, if_pos hE]
    have he : Hid (parsedE s.data.toList = parseE (lexL s.data.toList)) := by rw [Hid, parsedE, if_pos hE]
    have hok := hide (lexL_ok s.data.toList)
    rw [hE]
    obtain ⟨hT1, -⟩ := hlx.out
    generalize lexL s.data.toList = T at *
    generalize lexAt s.data.toList = at_ at *
    replace hRT := hide hRT
    clear hE hlx
    obtain ⟨w2, hw2⟩ : ∃ x, x = w1.alloc (.cells #[.slice tA T.length tc, .int .i64 (at_ : Int), .int .i64 0] 73) := ⟨_, rfl⟩
    have hs2 : w2.heap.size = w1.heap.size + 1 := by rw [hw2]; simp
    have hR2 : Hid (Blk w2 w.heap.size 45 #[.slice none 0 0, .int .i64 0]) := by rw [hw2]; exact hR1.out.alloc _
    have hT2 : Hid (RT w2 w1.heap.size tA T.length T) := by rw [hw2]; exact Reads.alloc hRT.out (Nat.le_refl _) _
    have hbw2 : Below w.heap.size w w2 := by rw [hw2]; exact hbw1.alloc (by omega) _
    have hP : Hid (RSt (w2.alloc (.cells #[.slice tA T.length tc, .slice none 0 0, .bool true] 77)) w2.heap.size (.slice none 0 0) T [] true) :=
      ⟨tA, tc, Blk.new w2 77 _, Reads.alloc (hT2.out.more (by omega)) (Nat.le_refl _) _, htc1, htc2, OA.nil _ _⟩
    obtain ⟨w3, hw3⟩ : ∃ x, x = w2.alloc (.cells #[.slice tA T.length tc, .slice none 0 0, .bool true] 77) := ⟨_, rfl⟩
    have hR3 : Hid (Blk w3 w.heap.size 45 #[.slice none 0 0, .int .i64 0]) := by rw [hw3]; exact hR2.out.alloc _
    have hbw3 : Below w.heap.size w w3 := by rw [hw3]; exact hbw2.alloc (by omega) _
    rw [← hw3] at hP
    have hlt2 : w.heap.size < w2.heap.size := by omega
    obtain ⟨b, hb⟩ : ∃ b, b = w2.heap.size := ⟨_, rfl⟩
    replace hw2 := hide hw2
    replace hw3 := hide hw3
    replace hs2 := hide hs2
    rw [← hb] at hP hlt2
    replace hb := hide hb
    clear q0 q1 f0 f1 hR1 hR2 hT2 hRT
    go_wp2_with fail
    rw [← hw2.out, ← hs2.out, ← hb.out, ← hw3.out]
    refine (closed_any w3 b _ T [] true hP.out (by omega)).mono ?_
    rintro e w4 ⟨rfl, hb4⟩
    have hP4 := hide (hP.out.newer hb4)
    have hbw4 := hbw3.trans (hb4.mono hbw3.size)
    have HR := hide (hR3.out.below hb4 hR3.out.lt)
    clear hP hb4 hR3 hw2 hw3 hs2 hb hR0 hb0
    cases hc : closedP T with
    | false =>
      have hq := parse_open hok.out hc
      have hl2 : Hid (parsedL s.data.toList = []) := by rw [Hid, hl.out, parseL, hq]
      have he2 : Hid (parsedE s.data.toList = 19) := by rw [Hid, he.out, parseE, hq]
      have q0 := HR.out.cell 0
      have q1 := HR.out.cell 1
      have f0 := HR.out.frozen 0
      have f1 := HR.out.frozen 1
      clear hq hc hl he hP4
      go_wp2_with fail
      obtain ⟨wz, hwz⟩ : ∃ x, x = ((w4.setCell ⟨w.heap.size, 0, none⟩ (.slice none 0 0)).setCell ⟨w.heap.size, 1, none⟩ (.int .i64 19)) := ⟨_, rfl⟩
      rw [← hwz]
      have hRz : Blk wz w.heap.size 45 #[.slice none 0 0, .int .i64 19] := by rw [hwz]; exact (HR.out.set_ 0 _).set_ 1 _
      have hbz : Below w.heap.size w wz := by rw [hwz]; exact below_set (below_set hbw4 (Nat.le_refl _) _) (Nat.le_refl _) _
      have hoz : OA wz w.heap.size (.slice none 0 0) 0 [] := OA.nil _ _
      clear hwz
      have g0 := hRz.cell 0
      have g1 := hRz.cell 1
      refine bodyPost_ret (v := .agg #[.slice none 0 0, .int .i64 19]) ?_ rfl (RPRet.mk hoz hl2.out he2.out hbz)
      simp [results, Tryz.results16, go_sem, g0, g1]
    | true =>
      have hpq := hide (parse_eq hok.out (T.length + 1) (Nat.lt_succ_self _))
      obtain ⟨A4, c4, cc0, -⟩ := hP4.out.toks
      clear hc
      go_wp2_with fail
      refine (part_any (T.length + 1) w4 b _ T [] 0 T.length _ _ hP4.out rfl rfl (Nat.zero_le _) (Nat.le_refl _) (by omega) (by simp; omega) (by omega)).mono ?_
      intro e w5 h5
      unfold RNRet at h5
      rw [show segT T 0 T.length = T from by unfold segT; simp, ← hpq.out] at h5
      have hlb := hP4.out.lt
      clear hpq hP4 cc0
      cases hq : parseQ T with
      | none =>
        rw [hq] at h5
        obtain ⟨r, v5, out5, rfl, hP5, -, hb5⟩ := h5
        have hl2 : Hid (parsedL s.data.toList = []) := by rw [Hid, hl.out, parseL, hq]
        have he2 : Hid (parsedE s.data.toList = 19) := by rw [Hid, he.out, parseE, hq]
        have hbw5 := hbw4.trans (hb5.mono (Nat.le_of_lt hlt2))
        replace HR := hide (HR.out.below hb5 hlt2)
        have q0 := HR.out.cell 0
        have q1 := HR.out.cell 1
        have f0 := HR.out.frozen 0
        have f1 := HR.out.frozen 1
        obtain ⟨qw, -⟩ := hP5.well_
        clear hq hl he hP5 hb5
        go_wp2_with fail
        obtain ⟨wz, hwz⟩ : ∃ x, x = ((w5.setCell ⟨w.heap.size, 0, none⟩ (.slice none 0 0)).setCell ⟨w.heap.size, 1, none⟩ (.int .i64 19)) := ⟨_, rfl⟩
        rw [← hwz]
        have hRz : Blk wz w.heap.size 45 #[.slice none 0 0, .int .i64 19] := by rw [hwz]; exact (HR.out.set_ 0 _).set_ 1 _
        have hbz : Below w.heap.size w wz := by rw [hwz]; exact below_set (below_set hbw5 (Nat.le_refl _) _) (Nat.le_refl _) _
        have hoz : OA wz w.heap.size (.slice none 0 0) 0 [] := OA.nil _ _
        clear hwz
        have g0 := hRz.cell 0
        have g1 := hRz.cell 1
        refine bodyPost_ret (v := .agg #[.slice none 0 0, .int .i64 19]) ?_ rfl (RPRet.mk hoz hl2.out he2.out hbz)
        simp [results, Tryz.results16, go_sem, g0, g1]
      | some q =>
        rw [hq] at h5
        obtain ⟨rfl, ⟨v5, hP5⟩, hb5⟩ := h5
        have hpl := hide (parseQ_plain T q hq)
        have hsz := G_size ((parseQ_iff hok.out q).1 hq)
        have hl2 : Hid (parsedL s.data.toList = if 16 < q.depth then [] else if 8 < patsL (q.parts 0) then [] else q.parts 0) := by rw [Hid, hl.out, parseL, hq]
        have he2 : Hid (parsedE s.data.toList = if 16 < q.depth then 11 else if 8 < patsL (q.parts 0) then 17 else 0) := by rw [Hid, he.out, parseE, hq]
        have hlen : Hid ((q.parts 0).length = q.size) := Q.parts_len q 0
        have hqp := q.size_pos
        have hdp := depth_size q
        have hbw5 := hbw4.trans (hb5.mono (Nat.le_of_lt hlt2))
        replace HR := hide (HR.out.below hb5 hlt2)
        obtain ⟨qw, -⟩ := hP5.well_
        obtain ⟨A5, c5, hB5, -, -, -, hO5⟩ := hP5
        rw [List.nil_append, List.length_nil] at hO5
        rw [hlen.out] at hO5
        have q1 := hB5.cell 1
        obtain ⟨oA, oc, rfl, hRO, -, hoc1, hoc2⟩ := hO5.form
        replace hO5 := hide hO5
        replace hRO := hide hRO
        have hwr : IntKind.i64.wrap ((q.size : Int) - 1) = (q.size : Int) - 1 := IntWalk.i64_in _ (by omega)
        have HD : Hid (∀ n, Calls Tryz.prog 35 #[.slice oA q.size oc, .int .i64 ((q.size : Int) - 1)] (w5.drewN n) fun e w' => e = .returned (.int .i64 (q.depth : Int)) ∧ w' = w5.drewN n) :=
          fun n => rdeep_any (w5.drewN n) _ oA q.size oc (q.parts 0) hRO.out (by omega) q [] [] _ hpl.out (by simp) (by simp)
        clear hq hl he hb5 hB5
        go_wp2_with fail
        go_quiet ((go_at_call 35; exact Calls.quiet_of_same (HD.out _)))
        obtain ⟨w6, hw6⟩ : ∃ x, x = w5.drewN nq := ⟨_, rfl⟩
        rw [← hw6]
        replace HR : Hid (Blk w6 w.heap.size 45 #[.slice none 0 0, .int .i64 0]) := by rw [hw6]; exact HR.out.drewN nq
        replace hO5 : Hid (OA w6 (b + 1) (.slice oA q.size oc) q.size (q.parts 0)) := by rw [hw6]; exact hO5.out.drewN nq
        replace q1 : w6.cell? ⟨b, 1, none⟩ = some (.slice oA q.size oc) := by rw [hw6]; exact q1
        replace hRO : Hid (RA w6 w6.heap.size oA q.size (q.parts 0)) := by rw [hw6]; exact hRO.out
        replace hbw5 : Below w.heap.size w w6 := by rw [hw6]; exact below_drewN hbw5 nq
        have q0 := HR.out.cell 0
        have q2 := HR.out.cell 1
        have f0 := HR.out.frozen 0
        have f1 := HR.out.frozen 1
        clear hw6 HD qw hwr hpl
        have hN : q.size ≤ 400 := by omega
        generalize q.parts 0 = l at *
        generalize q.depth = dd at *
        generalize q.size = N at *
        by_cases cd : 16 < dd
        · have hl3 : Hid (parsedL s.data.toList = []) := by rw [Hid, hl2.out, if_pos cd]
          have he3 : Hid (parsedE s.data.toList = 11) := by rw [Hid, he2.out, if_pos cd]
          clear hl2 he2 hO5 hRO
          go_wp2_with fail
          obtain ⟨wz, hwz⟩ : ∃ x, x = ((w6.setCell ⟨w.heap.size, 0, none⟩ (.slice none 0 0)).setCell ⟨w.heap.size, 1, none⟩ (.int .i64 11)) := ⟨_, rfl⟩
          rw [← hwz]
          have hRz : Blk wz w.heap.size 45 #[.slice none 0 0, .int .i64 11] := by rw [hwz]; exact (HR.out.set_ 0 _).set_ 1 _
          have hbz : Below w.heap.size w wz := by rw [hwz]; exact below_set (below_set hbw5 (Nat.le_refl _) _) (Nat.le_refl _) _
          have hoz : OA wz w.heap.size (.slice none 0 0) 0 [] := OA.nil _ _
          clear hwz
          have g0 := hRz.cell 0
          have g1 := hRz.cell 1
          refine bodyPost_ret (v := .agg #[.slice none 0 0, .int .i64 11]) ?_ rfl (RPRet.mk hoz hl3.out he3.out hbz)
          simp [results, Tryz.results16, go_sem, g0, g1]
        · have hl3 : Hid (parsedL s.data.toList = if 8 < patsL l then [] else l) := by rw [Hid, hl2.out, if_neg cd]
          have he3 : Hid (parsedE s.data.toList = if 8 < patsL l then 17 else 0) := by rw [Hid, he2.out, if_neg cd]
          clear hl2 he2
          go_wp2_with fail
          go_loop [5, 6] (fun u i => ∃ k : Nat, k ≤ N ∧ i = .int .i64 k ∧ u = .int .i64 (patsL (l.take k) : Int)) (fun _ i => N - (intOf i).toNat)
          case atStart => exact ⟨0, by omega, rfl, rfl⟩
          case round =>
            obtain ⟨k, hk, rfl, rfl⟩ := hrel
            have hple : patsL (l.take k) ≤ 100000 := by
              have := List.countP_le_length (p := isPat) (l := l.take k)
              have h2 : (l.take k).length ≤ N := by simp; omega
              unfold patsL; omega
            by_cases h1 : k < N
            · have hkl : k < l.length := by have := hlen.out; omega
              obtain ⟨ad, rfl, hab, c0, c1, c2, c3, c4, c5, c6⟩ := hRO.out.elem h1 hkl
              have hs := hide (pats_next l k hkl)
              generalize l[k] = x at *
              by_cases e1 : x.kind = 9
              · have n1 : (x.kind == 9) = true := by simp [e1]
                have hi : Hid (patsL (l.take (k + 1)) = patsL (l.take k) + 1) := by rw [Hid, hs.out, if_pos (by simp [isPat, e1])]
                clear e1 hs c2 c3 c4 c5 c6
                go_wp2_with fail
                go_round
                case rel => exact ⟨k + 1, by omega, by go_num, by rw [hi.out]; go_num⟩
                case measure => simp [intOf]; omega
              · have n1 : (x.kind == 9) = false := by simp [e1]
                by_cases e2 : x.op = 7
                · have n2 : (x.op == 7) = true := by simp [e2]
                  have hi : Hid (patsL (l.take (k + 1)) = patsL (l.take k) + 1) := by rw [Hid, hs.out, if_pos (by simp [isPat, e2])]
                  clear e1 e2 hs c2 c3 c4 c5 c6
                  go_wp2_with fail
                  go_round
                  case rel => exact ⟨k + 1, by omega, by go_num, by rw [hi.out]; go_num⟩
                  case measure => simp [intOf]; omega
                · have n2 : (x.op == 7) = false := by simp [e2]
                  have hi : Hid (patsL (l.take (k + 1)) = patsL (l.take k)) := by rw [Hid, hs.out, if_neg (by simp [isPat, e1, e2])]; rfl
                  clear e1 e2 hs c2 c3 c4 c5 c6
                  go_wp2_with fail
                  go_round
                  case rel => exact ⟨k + 1, by omega, by go_num, by rw [hi.out]⟩
                  case measure => simp [intOf]; omega
            · have hd : Hid (l.take k = l) := by
                show _ = _
                rw [List.take_of_length_le (by have := hlen.out; omega)]
              rw [hd.out] at hple ⊢
              clear hd
              by_cases cp : 8 < patsL l
              · rw [if_pos cp] at hl3 he3
                clear hO5 hRO
                go_wp2_with fail
                obtain ⟨wz, hwz⟩ : ∃ x, x = ((w6.setCell ⟨w.heap.size, 0, none⟩ (.slice none 0 0)).setCell ⟨w.heap.size, 1, none⟩ (.int .i64 17)) := ⟨_, rfl⟩
                rw [← hwz]
                have hRz : Blk wz w.heap.size 45 #[.slice none 0 0, .int .i64 17] := by rw [hwz]; exact (HR.out.set_ 0 _).set_ 1 _
                have hbz : Below w.heap.size w wz := by rw [hwz]; exact below_set (below_set hbw5 (Nat.le_refl _) _) (Nat.le_refl _) _
                have hoz : OA wz w.heap.size (.slice none 0 0) 0 [] := OA.nil _ _
                clear hwz
                have g0 := hRz.cell 0
                have g1 := hRz.cell 1
                refine bodyPost_ret (v := .agg #[.slice none 0 0, .int .i64 17]) ?_ rfl (RPRet.mk hoz hl3.out he3.out hbz)
                simp [results, Tryz.results16, go_sem, g0, g1]
              · rw [if_neg cp] at hl3 he3
                clear hRO
                go_wp2_with fail
                obtain ⟨wz, hwz⟩ : ∃ x, x = ((w6.setCell ⟨w.heap.size, 0, none⟩ (.slice oA N oc)).setCell ⟨w.heap.size, 1, none⟩ (.int .i64 0)) := ⟨_, rfl⟩
                rw [← hwz]
                have hRz : Blk wz w.heap.size 45 #[.slice oA N oc, .int .i64 0] := by rw [hwz]; exact (HR.out.set_ 0 _).set_ 1 _
                have hbz : Below w.heap.size w wz := by rw [hwz]; exact below_set (below_set hbw5 (Nat.le_refl _) _) (Nat.le_refl _) _
                have hoz : OA wz w.heap.size (.slice oA N oc) N l := by rw [hwz]; exact ((hO5.out.setOther (Nat.lt_succ_of_lt hlt2) _).setOther (Nat.lt_succ_of_lt hlt2) _).more (by omega)
                clear hwz
                have g0 := hRz.cell 0
                have g1 := hRz.cell 1
                refine bodyPost_ret (v := .agg #[.slice oA N oc, .int .i64 0]) ?_ rfl (RPRet.mk hoz hl3.out he3.out hbz)
                simp [results, Tryz.results16, go_sem, g0, g1]
  · have hl : Hid (parsedL s.data.toList = []) := by rw [Hid, parsedL, if_neg hE]
    have he : Hid (parsedE s.data.toList = lexE s.data.toList) := by rw [Hid, parsedE, if_neg hE]
    have n1 : (lexE s.data.toList != 0) = true := by simp [hE]
    generalize lexE s.data.toList = ee at *
    generalize lexL s.data.toList = T at *
    generalize lexAt s.data.toList = at_ at *
    clear hE hRT
    go_wp2_with fail
    obtain ⟨w3, hw3⟩ : ∃ x, x = ((w1.setCell ⟨w.heap.size, 0, none⟩ (.slice none 0 0)).setCell ⟨w.heap.size, 1, none⟩ (.int .i64 ee)).alloc (.cells #[.slice tA T.length tc, .int .i64 (at_ : Int), .int .i64 ee] 73) := ⟨_, rfl⟩
    rw [← hw3]
    have hR3 : Blk w3 w.heap.size 45 #[.slice none 0 0, .int .i64 ee] := by rw [hw3]; exact ((hR1.out.set_ 0 _).set_ 1 _).alloc _
    have hb3 : Below w.heap.size w w3 := by rw [hw3]; exact (below_set (below_set hbw1 (Nat.le_refl _) _) (Nat.le_refl _) _).alloc (by simp; omega) _
    clear hw3
    have g0 := hR3.cell 0
    have g1 := hR3.cell 1
    refine bodyPost_ret (v := .agg #[.slice none 0 0, .int .i64 ee]) ?_ rfl (RPRet.mk (OA.nil _ _) hl.out he.out hb3)
    simp [results, Tryz.results16, go_sem, g0, g1]
end Go.Proofs.YtnhcamkccnaeeaaGreatDoor
