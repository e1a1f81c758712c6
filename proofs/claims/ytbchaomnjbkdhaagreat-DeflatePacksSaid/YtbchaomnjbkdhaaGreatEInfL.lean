/-
  Contract of the unpacker's lengths.
-/
import Derived.Test.YtbchaomnjbkdhaaGreatEN
import Derived.Test.YtbchaomnjbkdhaaGreatEA
namespace Go.Proofs.YtbchaomnjbkdhaaGreat
open Go.RowKit Go.Sort Go.Proofs
set_option linter.unusedVariables false
theorem own_blk {w : World} {base n size : Nat} {e : TypeId} {v : Value} {xs : List Value} (h : w.ownsRow base e size v n xs) {k : Nat} (hk : v.ownBlock = some k) : ∃ cur, Blk w k e cur := by
  rcases h.2 with ⟨rfl, _⟩ | ⟨g', cap', cur, rfl, _, hh, _⟩
  · cases hk
  · cases hk; exact ⟨cur, hh⟩
section
variable {w w' : World} {B gr gb ge : Nat} {vb vo : Value} {l : List UInt8} {p : Nat} {out : List UInt8} {at_ st : Nat} {last : Bool} {left back : Nat} {pl pd : Value}
/-- A row of ints that grows is no part of it. -/
theorem Mach.grownI (h : Mach w B gr gb vb vo l p out at_ st last left back pl pd) {base n : Nat} {v : Value} {xs : List Nat} (ho : ON w base v n xs) (hg : w.grownBy w' v.ownBlock) : Mach w' B gr gb vb vo l p out at_ st last left back pl pd := by
  refine h.only (S := fun k => v.ownBlock = some k) ((Only.refl _ w).grown hg fun _ hk _ => hk) (own_blk_ne ho h.rd (by decide)) (own_blk_ne ho h.br.1 (by decide)) (fun k hk hs => ?_) (fun k hk hs => ?_)
  · obtain ⟨cur, hb⟩ := own_blk h.br.2 hk
    exact own_blk_ne ho hb (by decide) hs
  · obtain ⟨cur, hb⟩ := own_blk h.ou hk
    exact own_blk_ne ho hb (by decide) hs
end
theorem Mach.nextA {w w2 : World} {B gr gb : Nat} {vb vo : Value} {l : List UInt8} {p N s : Nat} {out : List UInt8} {at_ st : Nat} {last : Bool} {left back : Nat} {pl pd : Value} {a b : Nat}
    (h : Mach w B gr gb vb vo l p out at_ st last left back pl pd) (hX : NextX w gb vb l p N s a b w2) :
    Blk (w2.alloc (.cells #[.int .i64 (b : Int)] 24)) w2.heap.size 24 #[.int .i64 (b : Int)] ∧ w.heap.size ≤ w2.heap.size ∧ Only (SM gr gb vo) w (w2.alloc (.cells #[.int .i64 (b : Int)] 24)) ∧
    ((p + N ≤ 8 * l.length ∧ a = s ∧ b = 0 ∧ Mach (w2.alloc (.cells #[.int .i64 (b : Int)] 24)) B gr gb vb vo l (p + N) out at_ st last left back pl pd) ∨
     (¬ p + N ≤ 8 * l.length ∧ a = 0 ∧ b = 3 ∧ Mach (w2.alloc (.cells #[.int .i64 (b : Int)] 24)) B gr gb vb vo l p out at_ st last left back pl pd)) := by
  rcases hX with ⟨k1, rfl, rfl, k2, k3⟩ | ⟨k1, rfl, rfl, k2, k3⟩
  · exact ⟨Blk.new _ _ _, k3.size, (k3.mono fun _ _ h => .inr (.inl h)).alloc _, .inl ⟨k1, rfl, rfl, (h.read k2 k3).alloc _⟩⟩
  · exact ⟨Blk.new _ _ _, k3.size, (k3.mono fun _ _ h => .inr (.inl h)).alloc _, .inr ⟨k1, rfl, rfl, (h.read k2 k3).alloc _⟩⟩
theorem SM.trans2 {a w w' : World} {gr gb : Nat} {vo : Value} (h : Only (SM gr gb vo) a w) (h' : Only (SM gr gb vo) w w') : Only (SM gr gb vo) a w' := h.trans h' fun _ _ h => h
/-- What is read of the lengths that are left. -/
structure RunsAt (cl : List Nat) (l : List UInt8) (p : Nat) (acc : List Nat) (rs : List Part) (L : List Nat) : Prop where
  agr : Agr l p (rs.flatMap (partB cl))
  ok : ∀ x ∈ rs, RunOk x ∧ 1 ≤ cl.getD x.symbol 0
  run : okRun acc rs
  all : rs.foldl runE acc = L
def lenOf : Value → Nat
  | .slice _ n _ => n
  | _ => 0
/-- A run was read. -/
def RunX (w : World) (B gr gb ge : Nat) (vb vo : Value) (l : List UInt8) (q : Nat) (acc : List Nat) (x : Part) (out : List UInt8) (at_ st : Nat) (last : Bool) (left back : Nat) (pl pd : Value) (vv tt : Nat) (wx : World) : Prop :=
  Only (SE gr gb vo ge) w wx ∧
    ((q + x.wide ≤ 8 * l.length ∧ vv = valE acc x ∧ tt = timesE x ∧ Blk wx ge 24 #[.int .i64 0] ∧ Mach wx B gr gb vb vo l (q + x.wide) out at_ st last left back pl pd) ∨
     (¬ q + x.wide ≤ 8 * l.length ∧ Blk wx ge 24 #[.int .i64 3] ∧ Mach wx B gr gb vb vo l q out at_ st last left back pl pd))
theorem RunX.of_need {w wx : World} {B gr gb ge : Nat} {vb vo : Value} {l : List UInt8} {q : Nat} {acc : List Nat} {x : Part} {out : List UInt8} {at_ st : Nat} {last : Bool} {left back : Nat} {pl pd : Value} {vv tt v p' e1 base : Nat}
    (hM : Mach wx B gr gb vb vo l p' out at_ st last left back pl pd) (hE : Blk wx ge 24 #[.int .i64 (e1 : Int)]) (hO : Only (SE gr gb vo ge) w wx)
    (hc : (q + x.wide ≤ 8 * l.length ∧ v = leN (((bytesB l).drop q).take x.wide) ∧ p' = q + x.wide ∧ e1 = 0) ∨ (¬ q + x.wide ≤ 8 * l.length ∧ v = 0 ∧ p' = q ∧ e1 = 3))
    (hlow : q + x.wide ≤ 8 * l.length → leN (((bytesB l).drop q).take x.wide) = x.more) (hv : vv = valE acc x) (ht : tt = base + v) (hb : timesE x = base + x.more) :
    RunX w B gr gb ge vb vo l q acc x out at_ st last left back pl pd vv tt wx := by
  rcases hc with ⟨h1, rfl, rfl, rfl⟩ | ⟨h1, rfl, rfl, rfl⟩
  · exact ⟨hO, .inl ⟨h1, hv, by rw [ht, hb, hlow h1], hE, hM⟩⟩
  · exact ⟨hO, .inr ⟨h1, hE, hM⟩⟩
/-- What lengths leave. -/
def RlenRet (w : World) (B gr gb : Nat) (vb vo : Value) (l : List UInt8) (p m : Nat) (L : List Nat) (out : List UInt8) (at_ st : Nat) (last : Bool) (left back : Nat) (pl pd : Value) (e : Ending) (w' : World) : Prop :=
  ∃ v e1 p', e = .returned (.tuple #[v, .int .i64 ((e1 : Nat) : Int)]) ∧ p' ≤ 8 * l.length ∧ p ≤ p' ∧ Mach w' B gr gb vb vo l p' out at_ st last left back pl pd ∧ Only (SM gr gb vo) w w' ∧
    ((p + m ≤ 8 * l.length ∧ e1 = 0 ∧ p' = p + m ∧ ON w' w.heap.size v L.length L) ∨ (¬ p + m ≤ 8 * l.length ∧ e1 = 3))
set_option maxRecDepth 100000 in
set_option maxHeartbeats 4000000 in
theorem rlengths_any (w : World) (B gr gb gc base : Nat) (vb vo : Value) (l : List UInt8) (p : Nat) (out : List UInt8) (at_ st : Nat) (last : Bool) (left back : Nat) (pl pd : Value) (cl : List Nat) (rs : List Part) (L : List Nat)
    (h : Mach w B gr gb vb vo l p out at_ st last left back pl pd) (hc : CodeAt w base gc cl) (hok : codeOk cl) (hp : p ≤ 8 * l.length) (hl : l.length ≤ 10000000) (hL : L.length ≤ 1000) (hR : RunsAt cl l p [] rs L) (hcl : 19 ≤ cl.length) :
    Calls Tryz.prog 98 #[.pointer (some ⟨gr, 0, none⟩), .pointer (some ⟨gc, 0, none⟩), .int .i64 (L.length : Int)] w (RlenRet w B gr gb vb vo l p (rs.flatMap (partB cl)).length L out at_ st last left back pl pd) := by
  have hR0 := hide hR
  replace h := hide h
  replace hc := hide hc
  replace hok := hide hok
  obtain ⟨n, hn⟩ : ∃ n, n = L.length := ⟨_, rfl⟩
  rw [← hn] at hL ⊢
  replace hn := hide hn
  obtain ⟨m, hm⟩ : ∃ m, m = (rs.flatMap (partB cl)).length := ⟨_, rfl⟩
  rw [← hm]
  obtain ⟨T, hT⟩ : ∃ T, T = p + m := ⟨_, rfl⟩
  replace hm := hide hm
  replace hT := hide hT
  clear hR
  go_enter Tryz.func98, Tryz.ntmps98
  go_wp2_with fail
  go_loopw [8] (fun v8 wx => ∃ p1 acc rs1 c A, v8 = .slice A acc.length c ∧ p1 ≤ 8 * l.length ∧ p ≤ p1 ∧ p1 + (rs1.flatMap (partB cl)).length = T ∧ Hid (RunsAt cl l p1 acc rs1 L) ∧ Hid (ON wx w.heap.size v8 acc.length acc) ∧ Hid (Mach wx B gr gb vb vo l p1 out at_ st last left back pl pd) ∧ Hid (Only (SM gr gb vo) w wx)) (fun v8 _ => n - lenOf v8)
  case atStart => exact ⟨p, [], rs, 0, none, rfl, hp, Nat.le_refl _, (by rw [hT.out, hm.out]), hR0, OE.nil _ _, h, Only.refl _ _⟩
  case round =>
    obtain ⟨p1, acc, rs1, c8, A8, rfl, hp1, hpp1, hT1, hR1, hO1, hM1, hS1⟩ := hrel
    have hlen := fold_len rs1 acc
    rw [hR1.out.all, ← hn.out] at hlen
    cases rs1 with
    | nil =>
      have hall : acc = L := hR1.out.all
      have hnn : acc.length = n := by rw [hall]; exact hn.out.symm
      have hT2 : p1 = T := hT1
      clear hlen
      replace hall := hide hall
      have h1 : ¬ (acc.length : Int) < (n : Int) := by omega
      have h2 : ¬ (n : Int) < (acc.length : Int) := by omega
      go_wp2_with fail
      go_ret2
      refine ⟨.slice A8 n c8, 0, p1, rfl, hp1, hpp1, hM1.out, hS1.out, .inl ⟨by have := hT.out; omega, rfl, by have := hT.out; omega, ?_⟩⟩
      have := hO1.out
      rw [hall.out, ← hn.out] at this
      rw [← hn.out]; exact this
    | cons x rs1 =>
      obtain ⟨hx, hx1⟩ := hR1.out.ok x (.head _)
      rw [List.flatMap_cons, List.length_append, partB_len] at hT1
      have hagr := hR1.out.agr
      rw [List.flatMap_cons, partB, List.append_assoc] at hagr
      have hlt : acc.length < n := by rw [List.length_cons] at hlen; omega
      have hcode := hide (h.out.code hS1.out hc.out)
      have hnx := hide (next_x wr base gc gb x.symbol p1 vb l cl hcode.out hok.out (by have := hx.sym; omega) hx1 hM1.out.br hp1 hl hagr.left)
      have hagr2 := hide hagr.right
      rw [encS_len] at hagr2
      obtain ⟨N, hN⟩ : ∃ N, N = cl.getD x.symbol 0 := ⟨_, rfl⟩
      rw [← hN] at hT1 hnx hagr2
      replace hN := hide hN
      have h1 : (acc.length : Int) < (n : Int) := by omega
      have c0 : wr.cell? ⟨gr, 0, none⟩ = some (.pointer (some ⟨gb, 0, none⟩)) := hM1.out.rd.cell 0
      clear hagr hlen
      go_wp2_with fail
      refine hnx.out.mono ?_
      rintro e w2 ⟨a, b, rfl, hX⟩
      obtain ⟨hE, hge, hS2, hcase⟩ := hM1.out.nextA hX
      have hS3 := hide (SM.trans2 hS1.out hS2)
      have hOg := hide (hO1.out.keepT (hM1.out.keepT hS2 _ (by decide) (by decide) (by decide)))
      clear hX
      go_upto_region 4 with (fail)
      obtain ⟨w3, hw3⟩ : ∃ x, x = w2.alloc (.cells #[.int .i64 (b : Int)] 24) := ⟨_, rfl⟩
      obtain ⟨ge, hgee⟩ : ∃ ge, ge = w2.heap.size := ⟨_, rfl⟩
      rw [← hw3, ← hgee] at hE
      rw [← hw3] at hS3 hOg hcase ⊢
      rw [← hgee] at hge ⊢
      have e0 := hE.cell 0
      have hge0 : w.heap.size ≤ ge := Nat.le_trans hS1.out.size hge
      clear hw3 hgee hS2 hge
      replace hE := hide hE
      rcases hcase with ⟨hpn, rfl, rfl, hM3⟩ | ⟨hpn, rfl, rfl, hM3⟩
      · have hned := hide (need_m w3 ge x.wide 0 hM3 hE.out hpn hl (by
          have hs := hx.sym
          rcases Nat.lt_or_ge x.symbol 16 with h5 | h5
          · have := (hx.low (by omega)).1; omega
          · rcases Nat.lt_or_ge x.symbol 17 with h6 | h6
            · have := hx.s16 (by omega); omega
            · rcases Nat.lt_or_ge x.symbol 18 with h7 | h7
              · have := hx.s17 (by omega); omega
              · have := hx.s18 (by omega); omega) (.inl rfl))
        have hlow : Hid (p1 + N + x.wide ≤ 8 * l.length → leN (((bytesB l).drop (p1 + N)).take x.wide) = x.more) := fun h => hagr2.out.left.low hx.more h
        have hM4 := hide hM3
        clear hnx c0 hM3 h1
        go_upto_block 2 with (fail)
        go_cut [11, 12] (fun v11 v12 wx => ∃ vv tt : Nat, v11 = .int .i64 (vv : Int) ∧ v12 = .int .i64 (tt : Int) ∧ RunX w3 B gr gb ge vb vo l (p1 + N) acc x out at_ st last left back pl pd vv tt wx)
        case first =>
          by_cases h16 : x.symbol = 16
          · have hw := hx.s16 h16
            have hI16 : ((x.symbol : Int) == 16) = true := by rw [beq_iff_eq]; omega
            have hne := hR1.out.run.1 h16
            have hlp : 0 < acc.length := List.length_pos_iff.2 hne
            obtain ⟨gv, kv, hv, -, -⟩ := hOg.out.ownb hlp
            cases hv
            have hned2 : Hid (Calls Tryz.prog 84 #[.pointer (some ⟨gr, 0, none⟩), .int .i64 2, .pointer (some ⟨ge, 0, none⟩)] w3 (NeedM w3 B gr gb ge vb vo l (p1 + N) x.wide 0 out at_ st last left back pl pd)) := by
              have := hned.out
              rwa [hw] at this ⊢
            have hlI : (acc.length : Int) - 1 = ((acc.length - 1 : Nat) : Int) := by omega
            have hl0 : ((acc.length : Int) == 0) = false := by rw [beq_eq_false_iff_ne]; omega
            have hl1 : ((acc.length - 1 : Nat) : Int) < (acc.length : Int) := by omega
            have hval : Hid (acc.getD (acc.length - 1) 0 = valE acc x) := by rw [Hid, valE, if_pos h16]
            have htm : Hid (timesE x = 3 + x.more) := by rw [Hid, timesE, if_pos (.inl h16)]
            clear hned
            replace h16 := hide h16
            go_wp2_with fail
            refine hned2.out.mono ?_
            rintro e w4 ⟨v4, p4, e4, rfl, hM5, hE5, hO5, hc5⟩
            have hO6 := hide (hOg.out.keepT (hM4.out.keepE hE.out hO5 _ (by decide) (by decide) (by decide) (by decide)))
            have cE := OE.cell hO6.out (k := acc.length - 1) (by omega)
            have hge : acc[acc.length - 1]'(by omega) = acc.getD (acc.length - 1) 0 := by rw [List.getD_eq_getElem?_getD, List.getElem?_eq_getElem (by omega)]; rfl
            rw [hge] at cE
            have cE2 : w4.cell? ⟨gv, acc.length - 1, none⟩ = some (.int .i64 ((acc.getD (acc.length - 1) 0 : Nat) : Int)) := cE
            obtain ⟨V, hV⟩ : ∃ V, V = acc.getD (acc.length - 1) 0 := ⟨_, rfl⟩
            rw [← hV] at cE2 hval
            have hv4 : v4 ≤ 1000 := by
              have := hlow.out
              have hm := hx.more
              rw [hw] at hm this hc5
              rcases hc5 with hc5 | hc5
              · have := this hc5.1; omega
              · omega
            have hXr := hide (fun vv tt (a1 : vv = valE acc x) (a2 : tt = 3 + v4) => RunX.of_need (vv := vv) (tt := tt) (base := 3) hM5 hE5 hO5 hc5 hlow.out a1 a2 htm.out)
            clear cE hge hM5 hE5 hO5 hc5 hlow
            replace hV := hide hV
            go_wp2_with fail
            go_meet
            case rel => exact ⟨V, 3 + v4, rfl, by congr 1, hXr.out _ _ hval.out rfl⟩
          · by_cases h17 : x.symbol = 17
            · have hw := hx.s17 h17
              have hI16 : ((x.symbol : Int) == 16) = false := by rw [beq_eq_false_iff_ne]; omega
              have hI17 : ((x.symbol : Int) == 17) = true := by rw [beq_iff_eq]; omega
              have hned2 : Hid (Calls Tryz.prog 84 #[.pointer (some ⟨gr, 0, none⟩), .int .i64 3, .pointer (some ⟨ge, 0, none⟩)] w3 (NeedM w3 B gr gb ge vb vo l (p1 + N) x.wide 0 out at_ st last left back pl pd)) := by
                have := hned.out
                rwa [hw] at this ⊢
              have hval : Hid (0 = valE acc x) := by rw [Hid, valE, if_neg h16, if_pos (.inl h17)]
              have htm : Hid (timesE x = 3 + x.more) := by rw [Hid, timesE, if_pos (.inr h17)]
              clear hned h16
              replace h17 := hide h17
              go_wp2_with fail
              refine hned2.out.mono ?_
              rintro e w4 ⟨v4, p4, e4, rfl, hM5, hE5, hO5, hc5⟩
              have hv4 : v4 ≤ 1000 := by
                have := hlow.out
                have hm := hx.more
                rw [hw] at hm this hc5
                rcases hc5 with hc5 | hc5
                · have := this hc5.1; omega
                · omega
              have hXr := hide (fun vv tt (a1 : vv = valE acc x) (a2 : tt = 3 + v4) => RunX.of_need (vv := vv) (tt := tt) (base := 3) hM5 hE5 hO5 hc5 hlow.out a1 a2 htm.out)
              clear hM5 hE5 hO5 hc5 hlow
              go_wp2_with fail
              go_meet
              case rel => exact ⟨0, 3 + v4, rfl, by congr 1, hXr.out _ _ hval.out rfl⟩
            · by_cases h18 : x.symbol = 18
              · have hw := hx.s18 h18
                have hI16 : ((x.symbol : Int) == 16) = false := by rw [beq_eq_false_iff_ne]; omega
                have hI17 : ((x.symbol : Int) == 17) = false := by rw [beq_eq_false_iff_ne]; omega
                have hI18 : ((x.symbol : Int) == 18) = true := by rw [beq_iff_eq]; omega
                have hned2 : Hid (Calls Tryz.prog 84 #[.pointer (some ⟨gr, 0, none⟩), .int .i64 7, .pointer (some ⟨ge, 0, none⟩)] w3 (NeedM w3 B gr gb ge vb vo l (p1 + N) x.wide 0 out at_ st last left back pl pd)) := by
                  have := hned.out
                  rwa [hw] at this ⊢
                have hval : Hid (0 = valE acc x) := by rw [Hid, valE, if_neg h16, if_pos (.inr h18)]
                have htm : Hid (timesE x = 11 + x.more) := by rw [Hid, timesE, if_neg (by omega), if_pos h18]
                clear hned h16 h17
                replace h18 := hide h18
                go_wp2_with fail
                refine hned2.out.mono ?_
                rintro e w4 ⟨v4, p4, e4, rfl, hM5, hE5, hO5, hc5⟩
                have hv4 : v4 ≤ 1000 := by
                  have := hlow.out
                  have hm := hx.more
                  rw [hw] at hm this hc5
                  rcases hc5 with hc5 | hc5
                  · have := this hc5.1; omega
                  · omega
                have hXr := hide (fun vv tt (a1 : vv = valE acc x) (a2 : tt = 11 + v4) => RunX.of_need (vv := vv) (tt := tt) (base := 11) hM5 hE5 hO5 hc5 hlow.out a1 a2 htm.out)
                clear hM5 hE5 hO5 hc5 hlow
                go_wp2_with fail
                go_meet
                case rel => exact ⟨0, 11 + v4, rfl, by congr 1, hXr.out _ _ hval.out rfl⟩
              · have hlow15 := hx.low (by have := hx.sym; omega)
                have hval : Hid (x.symbol = valE acc x) := by rw [Hid, valE, if_neg h16, if_neg (by omega)]
                have htm : Hid (timesE x = 1) := by rw [Hid, timesE, if_neg (by omega), if_neg h18]
                have b16 : ((x.symbol : Int) == 16) = false := by rw [beq_eq_false_iff_ne]; omega
                have b17 : ((x.symbol : Int) == 17) = false := by rw [beq_eq_false_iff_ne]; omega
                have b18 : ((x.symbol : Int) == 18) = false := by rw [beq_eq_false_iff_ne]; omega
                have hXr : Hid (RunX w3 B gr gb ge vb vo l (p1 + N) acc x out at_ st last left back pl pd x.symbol 1 w3) :=
                  ⟨Only.refl _ _, .inl ⟨by rw [hlow15.1]; exact hpn, hval.out, htm.out.symm, hE.out, by rw [hlow15.1]; exact hM4.out⟩⟩
                clear hned h16 h17 h18 hlow hlow15 e0
                go_wp2_with fail
                go_meet
                case rel => exact ⟨x.symbol, 1, rfl, rfl, hXr.out⟩
        case rest =>
          obtain ⟨vv, tt, rfl, rfl, hO4, hc4⟩ := hcut
          have hS4 := hide (SE.new hS3.out hge0 hO4)
          have hOi := hide (hOg.out.keepT (hM4.out.keepE hE.out hO4 _ (by decide) (by decide) (by decide) (by decide)))
          clear hned e0
          rcases hc4 with ⟨hpn2, hvv, htt, hE4, hM5⟩ | ⟨hpn2, hE4, hM5⟩
          · have e4 := hE4.cell 0
            have hrun := runE_eq acc x
            rw [← hvv, ← htt] at hrun
            have htl := (times_le hx).1
            have htl1 := (times_le hx).2
            rw [← htt] at htl htl1
            have hM6 := hide hM5
            have hR2 : Hid (RunsAt cl l (p1 + N + x.wide) (acc ++ List.replicate tt vv) rs1 L) := by
              rw [← hrun]
              refine ⟨?_, fun y hy => hR1.out.ok y (.tail _ hy), hR1.out.run.2, hR1.out.all⟩
              have h5 := hagr2.out.right
              rw [loB_len] at h5
              exact h5
            clear hM5 hrun hvv htt hOg hM4 hO4
            replace hE4 := hide hE4
            go_wp2_with fail
            go_loopw [8, 59] (fun v8 v59 wx => ∃ j c A, v8 = .slice A (acc.length + j) c ∧ v59 = .int .i64 (j : Int) ∧ j ≤ tt ∧ Hid (ON wx w.heap.size v8 (acc.length + j) (acc ++ List.replicate j vv)) ∧ Hid (Mach wx B gr gb vb vo l (p1 + N + x.wide) out at_ st last left back pl pd) ∧ Hid (Only (SM gr gb vo) w wx)) (fun _ v59 _ => tt - (intOf v59).toNat)
            case atStart => exact ⟨0, c8, A8, rfl, rfl, Nat.zero_le _, by rw [List.replicate_zero, List.append_nil]; exact hOi, hM6, hS4⟩
            case round =>
              clear hOi hM6 hS4
              obtain ⟨j, cj, Aj, rfl, rfl, hj, hOj, hMj, hSj⟩ := hrel
              by_cases hjt : j < tt
              · have hnx : Hid (acc ++ List.replicate (j + 1) vv = (acc ++ List.replicate j vv) ++ [vv]) := by rw [Hid, List.replicate_succ', List.append_assoc]
                have hjI : (j : Int) < (tt : Int) := by omega
                have hbs := hSj.out.size
                go_wp2_with (at_builtin; refine wpList_app_i vv rfl rfl (.tmp 61) (.tmp 63) rfl w.heap.size _ _ (acc ++ List.replicate j vv) hOj.out rfl 1 rfl (by omega) (by omega) ?_; intro v2 w5 ho2 hb2 hg2 hx2; have hM7 := hide (hMj.out.grownI hOj.out hg2); have hS7 := hide (hSj.out.grown hg2 fun k hk hlt => absurd (OE.lt hOj.out k hk).1 (by omega)); obtain ⟨A5, c5, hv5, -⟩ := ho2.rn; subst hv5; replace ho2 := hide ho2; clear hx2 hb2 hg2)
                have hO8 : Hid (ON w5 w.heap.size (Value.slice A5 (acc.length + (j + 1)) c5) (acc.length + (j + 1)) (acc ++ List.replicate (j + 1) vv)) := by rw [hnx.out]; exact ho2.out
                go_roundw
                case rel => exact ⟨j + 1, c5, A5, rfl, by go_num, hjt, hO8, hM7, hS7⟩
                case measure => simp [intOf]; omega
              · obtain rfl : j = tt := by omega
                clear e4
                go_wp2_with fail
                go_roundw
                case rel => exact ⟨p1 + N + x.wide, acc ++ List.replicate j vv, rs1, cj, Aj, by rw [List.length_append, List.length_replicate], hpn2, by omega, by omega, hR2, by rw [List.length_append, List.length_replicate]; exact hOj, hMj, hSj⟩
                case measure => simp [lenOf]; omega
          · have e4 := hE4.cell 0
            have hM6 := hide hM5
            clear hM5 hO4
            replace hE4 := hide hE4
            go_wp2_with fail
            go_quiet (fail)
            go_wp2_with fail
            go_ret2
            exact ⟨.slice none 0 0, 3, p1 + N, rfl, hpn, by omega, hM6.out.drewN _, hS4.out.drewN _, .inr ⟨by have := hT.out; omega, rfl⟩⟩
      · replace hM3 := hide hM3
        go_wp2_with fail
        go_quiet (fail)
        go_wp2_with fail
        go_ret2
        exact ⟨.slice none 0 0, 3, p1, rfl, hp1, hpp1, hM3.out.drewN _, hS3.out.drewN _, .inr ⟨by have := hT.out; omega, rfl⟩⟩
end Go.Proofs.YtbchaomnjbkdhaaGreat
