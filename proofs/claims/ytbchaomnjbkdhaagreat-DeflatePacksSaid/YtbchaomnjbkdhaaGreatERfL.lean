/-
  Contract of the reference's lengths.
-/
import Derived.Test.YtbchaomnjbkdhaaGreatERfD
import Derived.Test.YtbchaomnjbkdhaaGreatEA
namespace Go.Proofs.YtbchaomnjbkdhaaGreat
open Go.RowKit Go.Sort Go.Proofs
set_option linter.unusedVariables false
section
variable {w w' w'' : World} {B gs : Nat} {vb vo : Value} {L : List Nat} {p : Nat} {out : List UInt8}
/-- A row of ints of a call's own that grows is no part of the state. -/
theorem StAt.grownI (h : StAt w B gs vb vo L p out) {base n : Nat} {v : Value} {xs : List Nat} (ho : ON w base v n xs) (hg : w.grownBy w' v.ownBlock) (hb : ∀ k, vb.ownBlock = some k → k < base) : StAt w' B gs vb vo L p out := by
  refine h.only (S := fun k => v.ownBlock = some k) ((Only.refl _ w).grown hg fun _ hk _ => hk) (own_blk_ne ho h.st (by decide)) (fun k hk hs => ?_) (fun k hk hs => ?_)
  · have := hb k hk
    have := (OE.lt ho k hs).1
    omega
  · obtain ⟨cur, hb⟩ := own_blk h.ou hk
    exact own_blk_ne ho hb (by decide) hs
theorem EffR.grownI (h : EffR B w w') {base n : Nat} {v : Value} {xs : List Nat} (ho : ON w' base v n xs) (hb : w.heap.size ≤ base) (hB : B ≤ w.heap.size) (hg : w'.grownBy w'' v.ownBlock) : EffR B w w'' :=
  ⟨h.bel.trans ((Below.refl _ _).grown hg (Nat.le_trans hB h.bel.size) fun k hk => by have := (OE.lt ho k hk).1; omega), fun t a b g cs hk => by
    refine ((h.keep t a b) g cs hk).grown hg fun e => ?_
    have := (OE.lt ho g e.symm).1
    have := hk.lt
    omega⟩
end
/-- What lengths leave. -/
def RlR (w : World) (B gs : Nat) (vb vo : Value) (L : List Nat) (p m : Nat) (Ls : List Nat) (out : List UInt8) (e : Ending) (w' : World) : Prop :=
  ∃ v, e = .returned v ∧ ON w' w.heap.size v Ls.length Ls ∧ StAt w' B gs vb vo L (p + m) out ∧ EffR B w w'
/-- What is read of the lengths that are left. -/
structure RunsR (cl : List Nat) (L : List Nat) (p : Nat) (acc : List Nat) (rs : List Part) (r Ls : List Nat) : Prop where
  agr : L.drop p = rs.flatMap (partB cl) ++ r
  ok : ∀ x ∈ rs, RunOk x ∧ 1 ≤ cl.getD x.symbol 0
  run : okRun acc rs
  all : rs.foldl runE acc = Ls
/-- A run was read. -/
def RunC (w2 wx : World) (B gs : Nat) (vb vo : Value) (L : List Nat) (q : Nat) (acc : List Nat) (x : Part) (out : List UInt8) (v9 v10 : Value) : Prop :=
  ∃ vv tt : Nat, v9 = .int .i64 (vv : Int) ∧ v10 = .int .i64 (tt : Int) ∧ vv = valE acc x ∧ tt = timesE x ∧ StAt wx B gs vb vo L (q + x.wide) out ∧ EffR B w2 wx
theorem RunC.mk {w2 wx : World} {B gs : Nat} {vb vo : Value} {L : List Nat} {q : Nat} {acc : List Nat} {x : Part} {out : List UInt8} {vv tt base : Nat}
    (hS : StAt wx B gs vb vo L (q + x.wide) out) (hE : EffR B w2 wx) (h1 : vv = valE acc x) (h2 : timesE x = base + x.more) (h3 : tt = base + x.more) : RunC w2 wx B gs vb vo L q acc x out (.int .i64 (vv : Int)) (.int .i64 (tt : Int)) :=
  ⟨vv, tt, rfl, rfl, h1, by rw [h2, h3], hS, hE⟩
set_option maxRecDepth 100000 in
set_option maxHeartbeats 4000000 in
theorem lengthsR_any (w : World) (B gs : Nat) (vb vo : Value) (L : List Nat) (p : Nat) (out : List UInt8) (base g n c f : Nat) (cl : List Nat) (rs : List Part) (r Ls : List Nat)
    (h : StAt w B gs vb vo L p out) (hC : CsAt w base g n c cl) (hok : codeOk cl) (hn19 : 19 ≤ n) (hn : n ≤ 320) (hLs : Ls.length ≤ 1000) (hR : RunsR cl L p [] rs r Ls) (hr : 1 ≤ r.length) (h2 : ∀ b ∈ L, b < 2) (hl : L.length ≤ 100000000) :
    Calls Tryz.prog 55 #[.pointer (some ⟨gs, 0, none⟩), .agg #[.slice (some ⟨g, 0, none⟩) n c, .int .i64 (f : Int)], .int .i64 (Ls.length : Int)] w (RlR w B gs vb vo L p (rs.flatMap (partB cl)).length Ls out) := by
  have hnb : Hid (cl.length = n) := hC.len
  have hvb : Hid (∀ k, vb.ownBlock = some k → k < w.heap.size) := fun k hk => (OE.lt h.bi k hk).2
  have hsz := hide h.size
  have hbx := hide (Blk.new w 93 #[.slice (some ⟨g, 0, none⟩) n c, .int .i64 (f : Int)])
  have hb1 := (Below.refl w.heap.size w).alloc (Nat.le_refl _) (.cells #[.slice (some ⟨g, 0, none⟩) n c, .int .i64 (f : Int)] 93)
  have hS1 := hide (h.alloc (.cells #[.slice (some ⟨g, 0, none⟩) n c, .int .i64 (f : Int)] 93))
  have hC1 := hide (hC.below hb1)
  have hE1 := hide ((EffR.refl B w).alloc hsz.out (.cells #[.slice (some ⟨g, 0, none⟩) n c, .int .i64 (f : Int)] 93))
  have hws := hide hb1.size
  clear hb1 hC
  replace h := hide h
  replace hok := hide hok
  replace h2 := hide h2
  replace hr := hide hr
  obtain ⟨N, hN⟩ : ∃ N, N = Ls.length := ⟨_, rfl⟩
  rw [← hN] at hLs ⊢
  obtain ⟨m, hm⟩ : ∃ m, m = (rs.flatMap (partB cl)).length := ⟨_, rfl⟩
  rw [← hm]
  obtain ⟨T, hT⟩ : ∃ T, T = p + m := ⟨_, rfl⟩
  have hR0 := hide hR
  replace hm := hide hm
  replace hT := hide hT
  replace hN := hide hN
  clear hR
  go_enter Tryz.func55, Tryz.ntmps55
  go_wp2_with fail
  obtain ⟨w1, hw1⟩ : ∃ w1, w1 = w.alloc (.cells #[.slice (some ⟨g, 0, none⟩) n c, .int .i64 (f : Int)] 93) := ⟨_, rfl⟩
  rw [← hw1] at hbx hS1 hC1 hE1 hws ⊢
  obtain ⟨gc, hgc⟩ : ∃ gc, gc = w.heap.size := ⟨_, rfl⟩
  rw [← hgc] at hbx ⊢
  clear hw1
  replace hgc := hide hgc
  go_loopw [7] (fun v7 wx => ∃ p1 acc rs1 c A, v7 = .slice A acc.length c ∧ p1 + (rs1.flatMap (partB cl)).length = T ∧ Hid (RunsR cl L p1 acc rs1 r Ls) ∧ Hid (ON wx w1.heap.size v7 acc.length acc) ∧ Hid (StAt wx B gs vb vo L p1 out) ∧ Hid (EffR B w1 wx)) (fun v7 _ => N - lenOf v7)
  case atStart => exact ⟨p, [], rs, 0, none, rfl, (by rw [hT.out, hm.out]), hR0, OE.nil _ _, hS1, EffR.refl _ _⟩
  case round =>
    clear hS1
    obtain ⟨p1, acc, rs1, c7, A7, rfl, hT1, hR1, hO1, hS1, hF1⟩ := hrel
    have hlen := fold_len rs1 acc
    rw [hR1.out.all, ← hN.out] at hlen
    have c3 : wr.cell? ⟨gs, 3, none⟩ = some (.int .i64 0) := hS1.out.st.cell 3
    have hb0 := (hF1.out.blk hbx.out (by decide) (by decide)).cell 0
    have hb1 := (hF1.out.blk hbx.out (by decide) (by decide)).cell 1
    cases rs1 with
    | nil =>
      have hall : acc = Ls := hR1.out.all
      have hnn : acc.length = N := by rw [hall]; exact hN.out.symm
      have hT2 : p1 = T := hT1
      clear hlen
      replace hall := hide hall
      replace hT2 := hide hT2
      have h1 : ¬ (acc.length : Int) < (N : Int) := by omega
      have h2 : ¬ (N : Int) < (acc.length : Int) := by omega
      go_wp2_with fail
      go_ret
      have hON : ON wr w.heap.size (.slice A7 N c7) Ls.length Ls := by
        have := OE.more hO1.out hws.out
        rw [hall.out, ← hN.out] at this
        rw [← hN.out]; exact this
      have hSt : StAt wr B gs vb vo L (p + m) out := by rw [← hT.out, ← hT2.out]; exact hS1.out
      exact ⟨.slice A7 N c7, rfl, hON, hSt, hE1.out.trans hF1.out⟩
    | cons x rs1 =>
      obtain ⟨hx, hx1⟩ := hR1.out.ok x (.head _)
      rw [List.flatMap_cons, List.length_append, partB_len] at hT1
      have hagr := hR1.out.agr
      rw [List.flatMap_cons, partB, List.append_assoc, List.append_assoc] at hagr
      have hlt : acc.length < N := by rw [List.length_cons] at hlen; omega
      have hnx := hide (nextR_any wr B gs vb vo L p1 out base g n c f x.symbol cl _ hS1.out (hF1.out.cs hC1.out) hok.out hn (by have := hx.sym; omega) hx1 hagr hl)
      have hdl := congrArg List.length hagr
      rw [List.length_drop, List.length_append, List.length_append, List.length_append, encS_len, loB_len] at hdl
      have hag2 : L.drop (p1 + cl.getD x.symbol 0) = loB x.wide x.more ++ (rs1.flatMap (partB cl) ++ r) := by
        rw [← List.drop_drop, hagr, List.drop_append_of_le_length (by rw [encS_len]; exact Nat.le_refl _), List.drop_of_length_le (by rw [encS_len]; exact Nat.le_refl _), List.nil_append]
      have hwm : leN ((L.drop (p1 + cl.getD x.symbol 0)).take x.wide) = x.more := by
        have e : (loB x.wide x.more ++ (rs1.flatMap (partB cl) ++ r)).take x.wide = loB x.wide x.more := by
          rw [List.take_append_of_le_length (by rw [loB_len]; exact Nat.le_refl _), List.take_of_length_le (by rw [loB_len]; exact Nat.le_refl _)]
        rw [hag2, e, leN_loB, Nat.mod_eq_of_lt hx.more]
      have hag3 : L.drop (p1 + cl.getD x.symbol 0 + x.wide) = rs1.flatMap (partB cl) ++ r := by
        rw [← List.drop_drop, hag2, List.drop_append_of_le_length (by rw [loB_len]; exact Nat.le_refl _), List.drop_of_length_le (by rw [loB_len]; exact Nat.le_refl _), List.nil_append]
      have hw7 : x.wide ≤ 7 := by
        have hs := hx.sym
        rcases Nat.lt_or_ge x.symbol 16 with h5 | h5
        · have := (hx.low (by omega)).1; omega
        · rcases Nat.lt_or_ge x.symbol 17 with h6 | h6
          · have := hx.s16 (by omega); omega
          · rcases Nat.lt_or_ge x.symbol 18 with h7 | h7
            · have := hx.s17 (by omega); omega
            · have := hx.s18 (by omega); omega
      have hr1 := hr.out
      obtain ⟨K, hK⟩ : ∃ K, K = cl.getD x.symbol 0 := ⟨_, rfl⟩
      rw [← hK] at hT1 hnx hdl hwm hag3 hx1
      have hag3' := hide hag3
      obtain ⟨q, hq⟩ : ∃ q, q = p1 + K := ⟨_, rfl⟩
      rw [← hq] at hwm hag3'
      unfold NextR at hnx
      rw [← hq] at hnx
      have htk : Hid (∀ (wz : World) (Nn : Int), Nn = (x.wide : Int) → StAt wz B gs vb vo L q out → Calls Tryz.prog 22 #[.pointer (some ⟨gs, 0, none⟩), .int .i64 Nn] wz (TakeR wz B gs vb vo L q x.wide out)) := fun wz Nn hNn hz =>
        take_any wz B gs vb vo L q x.wide out Nn hNn hz (by omega) (by omega) (by omega) h2.out hl
      have hT2 : q + x.wide + (rs1.flatMap (partB cl)).length = T := by omega
      replace hT2 := hide hT2
      replace hwm := hide hwm
      replace hK := hide hK
      replace hq := hide hq
      have h1 : (acc.length : Int) < (N : Int) := by omega
      clear hagr hlen hag2 hag3 hdl hr1 hT1
      go_wp2_with fail
      refine hnx.out.mono ?_
      rintro e w2 ⟨rfl, hS2, hE2⟩
      have d3 : w2.cell? ⟨gs, 3, none⟩ = some (.int .i64 0) := hS2.st.cell 3
      have hO2 := hide (hE2.ints hO1.out)
      have hS2' := hide hS2
      have hE2' := hide hE2
      have hF2 := hide (hF1.out.trans hE2)
      clear hnx c3 hb0 hb1 hS2 hE2
      go_upto_if 33 with (fail)
      go_cut [9, 10] (fun v9 v10 wx => RunC w2 wx B gs vb vo L q acc x out v9 v10)
      case first =>
        by_cases h16 : x.symbol = 16
        · have hw := hx.s16 h16
          have hI16 : ((x.symbol : Int) == 16) = true := by rw [beq_iff_eq]; omega
          have hne := hR1.out.run.1 h16
          have hlp : 0 < acc.length := List.length_pos_iff.2 hne
          obtain ⟨gv, kv, hv⟩ : ∃ gv kv, (Value.slice A7 acc.length c7) = .slice (some ⟨gv, 0, none⟩) acc.length kv := by
            rcases OE.parts hO2.out with ⟨_, h5, _⟩ | ⟨g5, k5, h5, _⟩
            · omega
            · exact ⟨g5, k5, h5⟩
          cases hv
          have htk2 := hide (htk.out w2 2 (by rw [hw]; rfl) hS2'.out)
          unfold TakeR at htk2
          rw [hwm.out] at htk2
          have cE := ON.getD hO2.out (k := acc.length - 1) (by omega)
          have hlI : (acc.length : Int) - 1 = ((acc.length - 1 : Nat) : Int) := by omega
          have hl0 : ((acc.length : Int) == 0) = false := by rw [beq_eq_false_iff_ne]; omega
          have hl1 : ((acc.length - 1 : Nat) : Int) < (acc.length : Int) := by omega
          have hval : Hid (acc.getD (acc.length - 1) 0 = valE acc x) := by rw [Hid, valE, if_pos h16]
          have htm : Hid (timesE x = 3 + x.more) := by rw [Hid, timesE, if_pos (.inl h16)]
          have hmo := hx.more
          rw [hw] at hmo
          have hmo2 : x.more < 4 := hmo
          obtain ⟨V, hV⟩ : ∃ V, V = acc.getD (acc.length - 1) 0 := ⟨_, rfl⟩
          rw [← hV] at cE hval
          obtain ⟨MO, hMO⟩ : ∃ MO, MO = x.more := ⟨_, rfl⟩
          rw [← hMO] at htk2 hmo2
          obtain ⟨TT, hTT⟩ : ∃ TT, TT = 3 + MO := ⟨_, rfl⟩
          have hTI : (3 : Int) + (MO : Int) = (TT : Int) := by omega
          replace hMO := hide hMO
          replace hTT := hide hTT
          replace hV := hide hV
          replace h16 := hide h16
          replace hw := hide hw
          clear htk hmo hne
          go_wp2_with fail
          refine htk2.out.mono ?_
          rintro e w4 ⟨rfl, hS4, hE4⟩
          have hfin := hide (RunC.mk (base := 3) (tt := TT) hS4 hE4 hval.out htm.out (by rw [hTT.out, hMO.out]))
          clear hS4 hE4 htk2
          go_wp2_with fail
          go_meet
          case rel => exact hfin.out
        · by_cases h17 : x.symbol = 17
          · have hw := hx.s17 h17
            have hI16 : ((x.symbol : Int) == 16) = false := by rw [beq_eq_false_iff_ne]; omega
            have hI17 : ((x.symbol : Int) == 17) = true := by rw [beq_iff_eq]; omega
            have htk2 := hide (htk.out w2 3 (by rw [hw]; rfl) hS2'.out)
            unfold TakeR at htk2
            rw [hwm.out] at htk2
            have hval : Hid (0 = valE acc x) := by rw [Hid, valE, if_neg h16, if_pos (.inl h17)]
            have htm : Hid (timesE x = 3 + x.more) := by rw [Hid, timesE, if_pos (.inr h17)]
            have hmo := hx.more
            rw [hw] at hmo
            have hmo2 : x.more < 8 := hmo
            obtain ⟨MO, hMO⟩ : ∃ MO, MO = x.more := ⟨_, rfl⟩
            rw [← hMO] at htk2 hmo2
            obtain ⟨TT, hTT⟩ : ∃ TT, TT = 3 + MO := ⟨_, rfl⟩
            have hTI : (3 : Int) + (MO : Int) = (TT : Int) := by omega
            replace hMO := hide hMO
            replace hTT := hide hTT
            replace h16 := hide h16
            replace h17 := hide h17
            replace hw := hide hw
            clear htk hmo
            go_wp2_with fail
            refine htk2.out.mono ?_
            rintro e w4 ⟨rfl, hS4, hE4⟩
            have hfin := hide (RunC.mk (base := 3) (tt := TT) (vv := 0) hS4 hE4 hval.out htm.out (by rw [hTT.out, hMO.out]))
            clear hS4 hE4 htk2
            go_wp2_with fail
            go_meet
            case rel => exact hfin.out
          · by_cases h18 : x.symbol = 18
            · have hw := hx.s18 h18
              have hI16 : ((x.symbol : Int) == 16) = false := by rw [beq_eq_false_iff_ne]; omega
              have hI17 : ((x.symbol : Int) == 17) = false := by rw [beq_eq_false_iff_ne]; omega
              have hI18 : ((x.symbol : Int) == 18) = true := by rw [beq_iff_eq]; omega
              have htk2 := hide (htk.out w2 7 (by rw [hw]; rfl) hS2'.out)
              unfold TakeR at htk2
              rw [hwm.out] at htk2
              have hval : Hid (0 = valE acc x) := by rw [Hid, valE, if_neg h16, if_pos (.inr h18)]
              have htm : Hid (timesE x = 11 + x.more) := by rw [Hid, timesE, if_neg (by omega), if_pos h18]
              have hmo := hx.more
              rw [hw] at hmo
              have hmo2 : x.more < 128 := hmo
              obtain ⟨MO, hMO⟩ : ∃ MO, MO = x.more := ⟨_, rfl⟩
              rw [← hMO] at htk2 hmo2
              obtain ⟨TT, hTT⟩ : ∃ TT, TT = 11 + MO := ⟨_, rfl⟩
              have hTI : (11 : Int) + (MO : Int) = (TT : Int) := by omega
              replace hMO := hide hMO
              replace hTT := hide hTT
              replace h16 := hide h16
              replace h17 := hide h17
              replace h18 := hide h18
              replace hw := hide hw
              clear htk hmo
              go_wp2_with fail
              refine htk2.out.mono ?_
              rintro e w4 ⟨rfl, hS4, hE4⟩
              have hfin := hide (RunC.mk (base := 11) (tt := TT) (vv := 0) hS4 hE4 hval.out htm.out (by rw [hTT.out, hMO.out]))
              clear hS4 hE4 htk2
              go_wp2_with fail
              go_meet
              case rel => exact hfin.out
            · have hlow := hx.low (by have := hx.sym; omega)
              have b16 : ((x.symbol : Int) == 16) = false := by rw [beq_eq_false_iff_ne]; omega
              have b17 : ((x.symbol : Int) == 17) = false := by rw [beq_eq_false_iff_ne]; omega
              have b18 : ((x.symbol : Int) == 18) = false := by rw [beq_eq_false_iff_ne]; omega
              have hval : Hid (x.symbol = valE acc x) := by rw [Hid, valE, if_neg h16, if_neg (by omega)]
              have htm : Hid (timesE x = 1) := by rw [Hid, timesE, if_neg (by omega), if_neg h18]
              have hfin : Hid (RunC w2 w2 B gs vb vo L q acc x out (.int .i64 (x.symbol : Int)) (.int .i64 ((1 : Nat) : Int))) :=
                ⟨x.symbol, 1, rfl, rfl, hval.out, htm.out.symm, by rw [hlow.1]; exact hS2'.out, EffR.refl _ _⟩
              clear htk h16 h17 h18 hlow
              go_wp2_with fail
              go_meet
              case rel => exact hfin.out
      case rest =>
        obtain ⟨vv, tt, rfl, rfl, hvv, htt, hS4, hE4⟩ := hcut
        have hrun := runE_eq acc x
        rw [← hvv, ← htt] at hrun
        have htl := (times_le hx).1
        have htl1 := (times_le hx).2
        rw [← htt] at htl htl1
        have hO4 := hide (hE4.ints hO2.out)
        have hF4 := hide (hF2.out.trans hE4)
        have hS4' := hide hS4
        have hR2 : Hid (RunsR cl L (q + x.wide) (acc ++ List.replicate tt vv) rs1 r Ls) := by
          rw [← hrun]
          exact ⟨hag3'.out, fun y hy => hR1.out.ok y (.tail _ hy), hR1.out.run.2, hR1.out.all⟩
        clear hS4 hE4 hrun hvv htt htk hO2 hF2 hS2' hE2' d3 hO1 hS1 hF1 hag3' hwm
        go_wp2_with fail
        go_loopw [7, 11] (fun v7 v11 wx => ∃ j c A, v7 = .slice A (acc.length + j) c ∧ v11 = .int .i64 (j : Int) ∧ j ≤ tt ∧ Hid (ON wx w1.heap.size v7 (acc.length + j) (acc ++ List.replicate j vv)) ∧ Hid (StAt wx B gs vb vo L (q + x.wide) out) ∧ Hid (EffR B w1 wx)) (fun _ v11 _ => tt - (intOf v11).toNat)
        case atStart => exact ⟨0, c7, A7, rfl, rfl, Nat.zero_le _, by rw [List.replicate_zero, List.append_nil]; exact hO4, hS4', hF4⟩
        case round =>
          clear hO4 hS4' hF4
          obtain ⟨j, cj, Aj, rfl, rfl, hj, hOj, hSj, hFj⟩ := hrel
          by_cases hjt : j < tt
          · have hnx : Hid (acc ++ List.replicate (j + 1) vv = (acc ++ List.replicate j vv) ++ [vv]) := by rw [Hid, List.replicate_succ', List.append_assoc]
            have hjI : (j : Int) < (tt : Int) := by omega
            have hbs : w1.heap.size ≤ wr.heap.size := hFj.out.size
            have hBw1 : B ≤ w1.heap.size := Nat.le_trans hsz.out hws.out
            have hvb1 : Hid (∀ k, vb.ownBlock = some k → k < w1.heap.size) := fun k hk => Nat.lt_of_lt_of_le (hvb.out k hk) hws.out
            go_wp2_with (at_builtin; refine wpList_app_i vv rfl rfl (.tmp 64) (.tmp 66) rfl w1.heap.size _ _ (acc ++ List.replicate j vv) hOj.out rfl 1 rfl (by omega) (by omega) ?_; intro v2 w5 ho2 hb2 hg2 hx2; have hS7 := hide (hSj.out.grownI hOj.out hg2 hvb1.out); have hF7 := hide (hFj.out.grownI hOj.out (Nat.le_refl _) hBw1 hg2); obtain ⟨A5, c5, hv5, -⟩ := ho2.rn; subst hv5; replace ho2 := hide ho2; clear hx2 hb2 hg2)
            have hO8 : Hid (ON w5 w1.heap.size (Value.slice A5 (acc.length + (j + 1)) c5) (acc.length + (j + 1)) (acc ++ List.replicate (j + 1) vv)) := by rw [hnx.out]; exact ho2.out
            go_roundw
            case rel => exact ⟨j + 1, c5, A5, rfl, by go_num, hjt, hO8, hS7, hF7⟩
            case measure => simp [intOf]; omega
          · obtain rfl : j = tt := by omega
            go_wp2_with fail
            go_roundw
            case rel => exact ⟨q + x.wide, acc ++ List.replicate j vv, rs1, cj, Aj, by rw [List.length_append, List.length_replicate], hT2.out, hR2, by rw [List.length_append, List.length_replicate]; exact hOj, hSj, hFj⟩
            case measure => simp [lenOf]; omega
end Go.Proofs.YtbchaomnjbkdhaaGreat
