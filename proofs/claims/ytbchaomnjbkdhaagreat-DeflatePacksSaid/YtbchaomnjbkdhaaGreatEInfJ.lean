/-
  Contract of the unpacker's head.
-/
import Derived.Test.YtbchaomnjbkdhaaGreatEInfH
import Derived.Test.YtbchaomnjbkdhaaGreatEInfF
namespace Go.Proofs.YtbchaomnjbkdhaaGreat
open Go.RowKit Go.Sort Go.Proofs
set_option linter.unusedVariables false
/-- The kinds of a block: stored; by codes that are told; by codes of its own. -/
def HeadK (l : List UInt8) (K n : Nat) (its : List Item) (m : Nat) : Prop :=
  (K = 0 ∧ n ≤ 65535 ∧ Agr l 8 (loB 16 n ++ loB 16 (65535 - n)) ∧ m = 40) ∨ (K = 1 ∧ m = 3) ∨ (K = 2 ∧ HeadOk its ∧ Agr l 3 (headB its) ∧ m = 3 + (headB its).length)
/-- What a right head leaves. -/
def HeadG (w w' : World) (K n : Nat) (its : List Item) (st' left' left : Nat) (pl' pd' : Value) : Prop :=
  (K = 0 ∧ st' = 1 ∧ left' = n) ∨
  (K = 1 ∧ st' = 2 ∧ ∃ gl gd, pl' = .pointer (some ⟨gl, 0, none⟩) ∧ pd' = .pointer (some ⟨gd, 0, none⟩) ∧ CodeAt w' w.heap.size gl fixedLits ∧ CodeAt w' w.heap.size gd fixedD32) ∨
  (K = 2 ∧ st' = 2 ∧ ∃ gl gd, pl' = .pointer (some ⟨gl, 0, none⟩) ∧ pd' = .pointer (some ⟨gd, 0, none⟩) ∧ CodeAt w' w.heap.size gl (litsL its) ∧ CodeAt w' w.heap.size gd (distL its))
def HeadRet (w : World) (B gr gb : Nat) (vb vo : Value) (l : List UInt8) (K n : Nat) (its : List Item) (m : Nat) (out : List UInt8) (at_ left back : Nat) (e : Ending) (w' : World) : Prop :=
  ∃ (e1 p' st' left' : Nat) (last' : Bool) (pl' pd' : Value), e = .returned (.int .i64 (e1 : Int)) ∧ p' ≤ 8 * l.length ∧ Mach w' B gr gb vb vo l p' out at_ st' last' left' back pl' pd' ∧ Only (SM gr gb vo) w w' ∧
    ((e1 = 3 ∧ ¬ m ≤ 8 * l.length) ∨ (e1 = 0 ∧ m ≤ 8 * l.length ∧ p' = m ∧ last' = true ∧ HeadG w w' K n its st' left' left pl' pd'))
theorem Mach.readE {w w' : World} {B gr gb ge : Nat} {vb vo : Value} {l : List UInt8} {p : Nat} {out : List UInt8} {at_ st : Nat} {last : Bool} {left back : Nat} {pl pd : Value}
    (h : Mach w B gr gb vb vo l p out at_ st last left back pl pd) {p' : Nat} {cs : Array Value} (hE : Blk w ge 24 cs) (hb : BRAt w' gb vb l p') (hO : Only (· = gb) w w') : Mach w' B gr gb vb vo l p' out at_ st last left back pl pd ∧ Blk w' ge 24 cs :=
  ⟨h.read hb hO, hO.blk hE (fun e => Blk.ne_ hE h.br.1 (by decide) e)⟩
theorem xor_not16 (n : Nat) (h : n ≤ 65535) : bits .xor .i64 (n : Int) ((65535 - n : Nat) : Int) = 65535 := by
  show IntKind.i64.wrap ((BitVec.ofInt 64 n ^^^ BitVec.ofInt 64 ((65535 - n : Nat) : Int)).toNat : Int) = _
  rw [BitVec.toNat_xor, BitVec.toNat_ofInt, BitVec.toNat_ofInt]
  have e2 : ((2 ^ 64 : Nat) : Int) = 18446744073709551616 := by decide
  rw [e2]
  have h1 : ((n : Int) % 18446744073709551616).toNat = n := by omega
  have h2 : (((65535 - n : Nat) : Int) % 18446744073709551616).toNat = 65535 - n := by omega
  rw [h1, h2]
  have e16 : (2 : Nat) ^ 16 = 65536 := by decide
  have h3 : n ^^^ (65535 - n) = 65535 := by
    apply Nat.eq_of_testBit_eq
    intro i
    have ha : 65535 - n = 2 ^ 16 - (n + 1) := by rw [e16]; omega
    have hb : (65535 : Nat) = 2 ^ 16 - 1 := by rw [e16]
    rw [Nat.testBit_xor, ha, Nat.testBit_two_pow_sub_succ (by rw [e16]; omega)]
    conv => rhs; rw [hb, Nat.testBit_two_pow_sub_one]
    by_cases hi : i < 16
    · simp [hi]
    · have : n.testBit i = false := Nat.testBit_lt_two_pow (Nat.lt_of_lt_of_le (show n < 2 ^ 16 by rw [e16]; omega) (Nat.pow_le_pow_right (by omega) (by omega)))
      simp [hi, this]
  rw [h3]
  rfl
set_option maxRecDepth 100000 in
set_option maxHeartbeats 4000000 in
theorem head_any (w : World) (B gr gb : Nat) (vb vo : Value) (l : List UInt8) (out : List UInt8) (at_ st : Nat) (last : Bool) (left back : Nat) (pl pd : Value) (K n : Nat) (its : List Item) (m : Nat)
    (h : Mach w B gr gb vb vo l 0 out at_ st last left back pl pd) (hl : l.length ≤ 10000000) (hA : Agr l 0 (loB 1 1 ++ loB 2 K)) (hk : HeadK l K n its m) :
    Calls Tryz.prog 68 #[.pointer (some ⟨gr, 0, none⟩)] w (HeadRet w B gr gb vb vo l K n its m out at_ left back) := by
  have hA1 := hA.left
  have hA2 := hA.right
  rw [loB_len] at hA2
  have hK2 : K ≤ 2 := by rcases hk with hk | hk | hk <;> omega
  have hm3 : 3 ≤ m := by rcases hk with hk | hk | hk <;> omega
  have hv1 : Hid (0 + 1 ≤ 8 * l.length → leN (((bytesB l).drop 0).take 1) = 1) := fun h => hA1.low (by omega) h
  have hv2 : Hid (0 + 1 + 2 ≤ 8 * l.length → leN (((bytesB l).drop (0 + 1)).take 2) = K) := fun h => hA2.low (by omega) h
  have hM1 := h.alloc (.cells #[.int .i64 0] 24)
  have hE1 := Blk.new w 24 #[.int .i64 0]
  have hO1 := hide ((Only.refl (SM gr gb vo) w).alloc (.cells #[.int .i64 0] 24))
  have hn1 := hide (need_m (w.alloc (.cells #[.int .i64 0] 24)) w.heap.size 1 0 hM1 hE1 (Nat.zero_le _) hl (by omega) (.inl rfl))
  replace h := hide h
  replace hk := hide hk
  replace hM1 := hide hM1
  replace hE1 := hide hE1
  clear hA hA1 hA2
  go_enter Tryz.func68, Tryz.ntmps68
  go_wp2_with fail
  generalize w.alloc (.cells #[.int .i64 0] 24) = w1 at *
  obtain ⟨ge, hge⟩ : ∃ ge, ge = w.heap.size := ⟨_, rfl⟩
  rw [← hge] at hn1 hE1 ⊢
  have hgew : w.heap.size ≤ ge := by omega
  replace hge := hide hge
  refine hn1.out.mono ?_
  rintro e w2 ⟨v1, p1, e1, rfl, hM2, hE2, hO2, hc1⟩
  obtain ⟨b1, q1, r1, s1⟩ := need_small (Nat.zero_le _) (by omega) (.inl rfl) hc1
  have hS2 := SE.new hO1.out hgew hO2
  have u4 := hM2.rd.cell 4
  have r4 := hM2.rd.frozen 4
  obtain ⟨lb, hlb⟩ : ∃ lb, lb = ((v1 : Int) == 1) := ⟨_, rfl⟩
  have hM3 := hM2.set_ 4 (.bool lb) (at2 := at_) (st2 := st) (last2 := lb) (left2 := left) (back2 := back) (pl2 := pl) (pd2 := pd) rfl
  have hS3 := hide (SM.trans2 hS2 (hM2.setO 4 (.bool lb)))
  have hE3 := hE2.far (p := ⟨gr, 4, none⟩) (Blk.ne_ hE2 hM2.rd (by decide)) (.bool lb)
  have hn2 := hide (need_m _ ge 2 e1 hM3 hE3 q1 hl (by omega) s1)
  have hlbt : Hid (v1 = 1 → lb = true) := fun h => by rw [hlb, h]; rfl
  replace hM3 := hide hM3
  replace hE3 := hide hE3
  clear hn1 hM2 hE2 hO2 hO1 hS2
  go_upto_region 3 with (fail)
  rw [← hlb]
  replace hlb := hide hlb
  generalize w2.setCell ⟨gr, 4, none⟩ (.bool lb) = w3 at *
  clear u4 r4
  go_wp2_with fail
  refine hn2.out.mono ?_
  rintro e w4 ⟨v2, p2, e2, rfl, hM4, hE4, hO4, hc2⟩
  obtain ⟨b2, q2, r2, s2⟩ := need_small q1 (by omega) s1 hc2
  have hS4 := hide (SE.new hS3.out hgew hO4)
  have f4 := hE4.cell 0
  clear hn2 hO4 hS3
  by_cases hp3 : 3 ≤ 8 * l.length
  · have hall : e2 = 0 ∧ p2 = 3 ∧ v1 = 1 ∧ v2 = K := by
      have y1 := hv1.out
      have y2 := hv2.out
      rcases hc1 with ⟨a1, a2, rfl, rfl⟩ | ⟨a1, _⟩
      · rcases hc2 with ⟨a3, a4, rfl, rfl⟩ | ⟨a3, _⟩
        · rw [y1 a1] at a2
          rw [y2 a3] at a4
          omega
        · omega
      · omega
    obtain ⟨rfl, rfl, z1, rfl⟩ := hall
    have hlast := hlbt.out z1
    subst hlast
    have hM5 := hide hM4
    have hE5 := hide hE4
    clear hM4 hE4 hc1 hc2 hv1 hv2 q1 q2 r1 r2 s1 s2
    rcases hk.out with ⟨rfl, hn, hAs, hm⟩ | ⟨rfl, rfl⟩ | ⟨rfl, hH, hAh, hm⟩
    · have hAs1 := hAs.left
      have hAs2 := hAs.right
      rw [loB_len] at hAs2
      have e16 : (2 : Nat) ^ 16 = 65536 := by decide
      have y1 : Hid (8 + 16 ≤ 8 * l.length → leN (((bytesB l).drop 8).take 16) = n) := fun h => hAs1.low (by omega) h
      have y2 : Hid (8 + 16 + 16 ≤ 8 * l.length → leN (((bytesB l).drop (8 + 16)).take 16) = 65535 - n) := fun h => hAs2.low (by omega) h
      have hal := hide (ralign_any w4 gb vb l 3 hM5.out.br (by omega))
      have c0 : w4.cell? ⟨gr, 0, none⟩ = some (.pointer (some ⟨gb, 0, none⟩)) := hM5.out.rd.cell 0
      clear hlbt hlb hM3 hE3 hAs hAs1 hAs2 e16 hm3
      go_wp2_with fail
      refine hal.out.mono ?_
      rintro e w5 ⟨⟨v, rfl⟩, hb5, hO5⟩
      obtain ⟨hM6, hE6⟩ := hM5.out.readE hE5.out hb5 hO5
      have hS6 := hide (SM.trans2 hS4.out (hO5.mono (T := fun k => k = gb) (S := SM gr gb vo) fun _ _ h => .inr (.inl h)))
      have h8 : 8 ≤ 8 * l.length := by omega
      have hM6' : Mach w5 B gr gb vb vo l 8 out at_ st true left back pl pd := hM6
      have hn6 := hide (need_m w5 ge 16 0 hM6' hE6 h8 hl (by omega) (.inl rfl))
      clear hal hM6 hM6' hE6 hO5 hb5 c0 f4
      go_wp2_with fail
      refine hn6.out.mono ?_
      rintro e w6 ⟨v6, p6, e6, rfl, hM7, hE7, hO7, hc7⟩
      have k6 : p6 ≤ 8 * l.length ∧ (e6 = 0 ∨ e6 = 3) := by rcases hc7 with hc7 | hc7 <;> omega
      have hS7 := hide (SE.new hS6.out hgew hO7)
      have hn7 := hide (need_m w6 ge 16 e6 hM7 hE7 k6.1 hl (by omega) k6.2)
      clear hn6 hM7 hE7 hO7 hS6
      go_wp2_with fail
      refine hn7.out.mono ?_
      rintro e w7 ⟨v7, p7, e7, rfl, hM8, hE8, hO8, hc8⟩
      have hS8 := hide (SE.new hS7.out hgew hO8)
      have k7 : p7 ≤ 8 * l.length := by rcases hc8 with hc8 | hc8 <;> omega
      have f8 := hE8.cell 0
      have r3 := hM8.rd.frozen 3
      have r5 := hM8.rd.frozen 5
      have u3 := hM8.rd.cell 3
      have u5 := hM8.rd.cell 5
      have hM9 := hM8.set_ 3 (.int .i64 1) (at2 := at_) (st2 := 1) (last2 := true) (left2 := left) (back2 := back) (pl2 := pl) (pd2 := pd) rfl
      have hM10 := hide (hM9.set_ 5 (.int .i64 (v6 : Int)) (at2 := at_) (st2 := 1) (last2 := true) (left2 := v6) (back2 := back) (pl2 := pl) (pd2 := pd) rfl)
      have hS10 := hide (SM.trans2 (SM.trans2 hS8.out (hM8.setO 3 (.int .i64 1))) (hM9.setO 5 (.int .i64 (v6 : Int))))
      have hne := Blk.ne_ hE8 hM8.rd (by decide)
      have hE10 := (hE8.far (p := ⟨gr, 3, none⟩) hne (.int .i64 1)).far (p := ⟨gr, 5, none⟩) hne (.int .i64 (v6 : Int))
      have f10 := hE10.cell 0
      clear hn7 hM9 hO8 hS8 hS7
      replace hM8 := hide hM8
      replace hE8 := hide hE8
      replace hE10 := hide hE10
      replace hne := hide hne
      by_cases h40 : 40 ≤ 8 * l.length
      · have hall : e7 = 0 ∧ p7 = 40 ∧ v6 = n ∧ v7 = 65535 - n := by
          have z1 := y1.out
          have z2 := y2.out
          rcases hc7 with ⟨a1, a2, rfl, rfl⟩ | ⟨a1, _⟩
          · rcases hc8 with ⟨a3, a4, rfl, rfl⟩ | ⟨a3, _⟩
            · rw [z1 a1] at a2
              rw [z2 a3] at a4
              omega
            · omega
          · omega
        obtain ⟨rfl, rfl, rfl, rfl⟩ := hall
        have hxo := xor_not16 v6 hn
        clear hc7 hc8 y1 y2 k6
        replace hm := hide hm
        obtain ⟨T, hT⟩ : ∃ T, T = 65535 - v6 := ⟨_, rfl⟩
        rw [← hT] at hxo ⊢
        replace hT := hide hT
        go_upto_if 37 with (fail)
        go_cut [] (fun wx => wx = w7)
        case first =>
          go_wp2_with fail
          go_meet
          case rel => rfl
        case rest =>
          subst hcut
          go_wp2_with fail
          go_ret
          have hm40 := hm.out
          exact ⟨0, 40, 1, v6, true, pl, pd, rfl, k7, hM10.out, hS10.out, .inr ⟨rfl, by omega, by omega, rfl, .inl ⟨rfl, rfl, rfl⟩⟩⟩
      · have he7 : e7 = 3 := by rcases hc7 with hc7 | hc7 <;> rcases hc8 with hc8 | hc8 <;> omega
        subst he7
        clear hc7 hc8 y1 y2 k6
        replace hm := hide hm
        go_upto_if 37 with (fail)
        go_cut [] (fun wx => wx = w7)
        case first =>
          go_wp2_with fail
          go_meet
          case rel => rfl
        case rest =>
          subst hcut
          go_wp2_with fail
          go_ret
          have hm40 := hm.out
          exact ⟨3, p7, 1, v6, true, pl, pd, rfl, k7, hM10.out, hS10.out, .inl ⟨rfl, by omega⟩⟩
    · have hfx := hide (ifixed_any w4)
      clear hlbt hlb hM3 hE3
      go_wp2_with fail
      refine hfx.out.mono ?_
      rintro e w5 ⟨gl, gd, rfl, hCl, hCd, hb5⟩
      have hM6 := hM5.out.of_below hb5
      have hE6 := hE5.out.below hb5 hE5.out.lt
      have hS6 := SM.of_below hS4.out hb5
      have r7 := hM6.rd.frozen 7
      have r8 := hM6.rd.frozen 8
      have r3 := hM6.rd.frozen 3
      have u7 := hM6.rd.cell 7
      have u8 := hM6.rd.cell 8
      have u3 := hM6.rd.cell 3
      have hM7 := hM6.set_ 7 (.pointer (some ⟨gl, 0, none⟩)) (at2 := at_) (st2 := st) (last2 := true) (left2 := left) (back2 := back) (pl2 := .pointer (some ⟨gl, 0, none⟩)) (pd2 := pd) rfl
      have hM8 := hM7.set_ 8 (.pointer (some ⟨gd, 0, none⟩)) (at2 := at_) (st2 := st) (last2 := true) (left2 := left) (back2 := back) (pl2 := .pointer (some ⟨gl, 0, none⟩)) (pd2 := .pointer (some ⟨gd, 0, none⟩)) rfl
      have hM9 := hide (hM8.set_ 3 (.int .i64 2) (at2 := at_) (st2 := 2) (last2 := true) (left2 := left) (back2 := back) (pl2 := .pointer (some ⟨gl, 0, none⟩)) (pd2 := .pointer (some ⟨gd, 0, none⟩)) rfl)
      have hS9 := hide (SM.trans2 (SM.trans2 (SM.trans2 hS6 (hM6.setO 7 (.pointer (some ⟨gl, 0, none⟩)))) (hM7.setO 8 (.pointer (some ⟨gd, 0, none⟩)))) (hM8.setO 3 (.int .i64 2)))
      have hne := Blk.ne_ hE6 hM6.rd (by decide)
      have hE9 := ((hE6.far (p := ⟨gr, 7, none⟩) hne (.pointer (some ⟨gl, 0, none⟩))).far (p := ⟨gr, 8, none⟩) hne (.pointer (some ⟨gd, 0, none⟩))).far (p := ⟨gr, 3, none⟩) hne (.int .i64 2)
      have f9 := hE9.cell 0
      have hC9 := hide ((CodeAt.setR (i := 3) (CodeAt.setR (i := 8) (CodeAt.setR (i := 7) hCl hM6.rd (.pointer (some ⟨gl, 0, none⟩))) hM7.rd (.pointer (some ⟨gd, 0, none⟩))) hM8.rd (.int .i64 2)).more hS4.out.size)
      have hD9 := hide ((CodeAt.setR (i := 3) (CodeAt.setR (i := 8) (CodeAt.setR (i := 7) hCd hM6.rd (.pointer (some ⟨gl, 0, none⟩))) hM7.rd (.pointer (some ⟨gd, 0, none⟩))) hM8.rd (.int .i64 2)).more hS4.out.size)
      have f6 := hE6.cell 0
      replace hE6 := hide hE6
      replace hE9 := hide hE9
      clear hM6 hS6 hM7 hM8 hCl hCd hb5 hfx f4
      go_wp2_with fail
      go_ret
      exact ⟨0, 3, 2, left, true, _, _, rfl, hp3, hM9.out, hS9.out, .inr ⟨rfl, hp3, rfl, rfl, .inr (.inl ⟨rfl, rfl, gl, gd, rfl, rfl, hC9.out, hD9.out⟩)⟩⟩
    · have hcs := hide (codes_any w4 B gr gb vb vo l 3 out at_ st true left back pl pd its hM5.out hH hp3 hl hAh)
      rw [← show m - 3 = (headB its).length by omega] at hcs
      obtain ⟨HL, hHL⟩ : ∃ HL, HL = m - 3 := ⟨_, rfl⟩
      rw [← hHL] at hcs
      have hm2 : 3 + HL = m := by omega
      replace hH := hide hH
      replace hAh := hide hAh
      replace hm := hide hm
      replace hHL := hide hHL
      clear hlbt hlb hM3 hE3 hm3
      go_wp2_with fail
      refine hcs.out.mono ?_
      rintro e w5 ⟨pl', pd', p5, e5, rfl, x1, x2, hM6, hS6, hc6⟩
      have hE6 := hM5.out.keepT hS6 _ (by decide) (by decide) (by decide) _ _ hE5.out
      have hS7 := SM.trans2 hS4.out hS6
      have r0 := hE6.frozen 0
      have u0 := hE6.cell 0
      have hM7 := hM6.setT (i := 0) hE6 (by decide) (by decide) (by decide) (.int .i64 (e5 : Int))
      have hS8 := SM.setE hS7 hgew (.int .i64 (e5 : Int))
      have hE7 := hE6.set_ 0 (.int .i64 (e5 : Int))
      have hG : Hid ((e5 = 3 ∧ ¬ m ≤ 8 * l.length) ∨ (e5 = 0 ∧ m ≤ 8 * l.length ∧ p5 = m ∧ ∃ gl gd, pl' = .pointer (some ⟨gl, 0, none⟩) ∧ pd' = .pointer (some ⟨gd, 0, none⟩) ∧ CodeAt (w5.setCell ⟨ge, 0, none⟩ (.int .i64 (e5 : Int))) w.heap.size gl (litsL its) ∧ CodeAt (w5.setCell ⟨ge, 0, none⟩ (.int .i64 (e5 : Int))) w.heap.size gd (distL its))) := by
        rcases hc6 with ⟨a1, a2, a3, gl, gd, rfl, rfl, k1, k2⟩ | ⟨a1, a2⟩
        · exact .inr ⟨a2, by omega, by omega, gl, gd, rfl, rfl, (CodeAt.setE k1 hE6 _).more hS4.out.size, (CodeAt.setE k2 hE6 _).more hS4.out.size⟩
        · exact .inl ⟨a2, by omega⟩
      replace hE6 := hide hE6
      replace hM7 := hide hM7
      replace hS8 := hide hS8
      replace hE7 := hide hE7
      clear hM6 hS6 hS7 hc6 hcs f4
      go_upto_region 19 with (fail)
      generalize w5.setCell ⟨ge, 0, none⟩ (.int .i64 (e5 : Int)) = w6 at *
      have r3 := hM7.out.rd.frozen 3
      have u3 := hM7.out.rd.cell 3
      have hM9 := hide (hM7.out.set_ 3 (.int .i64 2) (at2 := at_) (st2 := 2) (last2 := true) (left2 := left) (back2 := back) (pl2 := pl') (pd2 := pd') rfl)
      have hS9 := hide (SM.trans2 hS8.out (hM7.out.setO 3 (.int .i64 2)))
      have hne := Blk.ne_ hE7.out hM7.out.rd (by decide)
      have hE9 := hide (hE7.out.far (p := ⟨gr, 3, none⟩) hne (.int .i64 2))
      have hG9 : Hid ((e5 = 3 ∧ ¬ m ≤ 8 * l.length) ∨ (e5 = 0 ∧ m ≤ 8 * l.length ∧ p5 = m ∧ (true : Bool) = true ∧ HeadG w (w6.setCell ⟨gr, 3, none⟩ (.int .i64 2)) 2 n its 2 left left pl' pd')) := by
        rcases hG.out with ⟨a1, a2⟩ | ⟨a1, a2, a3, gl, gd, rfl, rfl, k1, k2⟩
        · exact .inl ⟨a1, a2⟩
        · exact .inr ⟨a1, a2, a3, rfl, .inr (.inr ⟨rfl, rfl, gl, gd, rfl, rfl, CodeAt.setR (i := 3) k1 hM7.out.rd _, CodeAt.setR (i := 3) k2 hM7.out.rd _⟩)⟩
      clear u0 r0 hG
      replace hne := hide hne
      go_upto_region 20 with (fail)
      generalize w6.setCell ⟨gr, 3, none⟩ (.int .i64 2) = w7 at *
      have f9 : w7.cell? ⟨ge, 0, none⟩ = some (.int .i64 (e5 : Int)) := hE9.out.cell 0
      clear u3 r3
      go_wp2_with fail
      go_ret
      exact ⟨e5, p5, 2, left, true, pl', pd', rfl, x2, hM9.out, hS9.out, by
        rcases hG9.out with h | ⟨a, b, c, _, d⟩
        · exact .inl h
        · exact .inr ⟨a, b, c, rfl, d⟩⟩
  · have he3 : e2 = 3 := by
      rcases hc1 with hc1 | hc1 <;> rcases hc2 with hc2 | hc2 <;> omega
    subst he3
    have hM5 := hide hM4
    clear hM4 hc1 hc2
    replace hE4 := hide hE4
    go_wp2_with fail
    go_ret
    exact ⟨3, p2, st, left, lb, pl, pd, rfl, q2, hM5.out, hS4.out, .inl ⟨rfl, by omega⟩⟩
end Go.Proofs.YtbchaomnjbkdhaaGreat
