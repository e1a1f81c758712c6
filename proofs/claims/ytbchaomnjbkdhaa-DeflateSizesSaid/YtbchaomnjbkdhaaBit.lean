/-
  Contracts of the writer of bits.
-/
import Derived.Test.YtbchaomnjbkdhaaBitSpec
import Derived.Test.YtbchaomnjbkdhaaBytes
import Derived.Test.YtbchaomnjbkdhaaKeep
import Derived.StillTailTactics
import Derived.Laws.Bits
import Derived.IntWalk
namespace Go.Proofs.Ytbchaomnjbkdhaa
open Go.RowKit
set_option linter.unusedVariables false

/-- A writer stands in block g. -/
def WSt (w : World) (g : Nat) (v : Value) (s : List UInt8 × Nat) : Prop := Blk w g 38 #[v, .int .i64 (s.2 : Int)] ∧ OB w (g + 1) v s.1.length s.1 ∧ okS s

/-- All blocks but those of writers and of bytes stay. -/
def KeepX (w w' : World) : Prop := ∀ t, t ≠ 38 → t ≠ 5 → KeepT t w w'
section
variable {w w' w'' : World}
theorem KeepX.refl (w : World) : KeepX w w := fun t _ _ => KeepT.refl t w
theorem KeepX.trans (h : KeepX w w') (h' : KeepX w' w'') : KeepX w w'' := fun t a b => (h t a b).trans (h' t a b)
theorem KeepX.alloc (h : KeepX w w') (o : Obj) : KeepX w (w'.alloc o) := fun t a b => (h t a b).alloc o
theorem KeepX.drew (h : KeepX w w') : KeepX w w'.drew := h
theorem KeepX.drewN (h : KeepX w w') (n : Nat) : KeepX w (w'.drewN n) := h
theorem KeepX.setW {p : Addr} {cs' : Array Value} (h : KeepX w w') (hp : Blk w' p.block 38 cs') (u : Value) : KeepX w (w'.setCell p u) := fun t a b => (h t a b).set_ hp a u
theorem KeepX.setB {p : Addr} {cs' : Array Value} (h : KeepX w w') (hp : Blk w' p.block 5 cs') (u : Value) : KeepX w (w'.setCell p u) := fun t a b => (h t a b).set_ hp b u
theorem KeepX.grown {base n : Nat} {v : Value} {l : List UInt8} (h : KeepX w w') (hg : w'.grownBy w'' v.ownBlock) (ho : OB w' base v n l) : KeepX w w'' := fun t a b => (h t a b).grown_own hg ho (fun e => b e.symm)
theorem OB.blkc {base g n c : Nat} {l : List UInt8} (h : OB w base (.slice (some ⟨g, 0, none⟩) n c) n l) : ∃ cur, Blk w g 5 cur := by
  rcases h.2 with ⟨h0, _⟩ | ⟨g', cap', cur, hv, _, hh, _⟩
  · cases h0
  · cases hv; exact ⟨cur, hh⟩
end
theorem OB.setOther {w : World} {base n : Nat} {v : Value} {l : List UInt8} (h : OB w base v n l) {p : Addr} (hp : p.block < base) (u : Value) : OB (w.setCell p u) base v n l := ownsRow_setCell_below h hp u
theorem below_set {B g i : Nat} {a w : World} (h : Below B a w) (hg : B ≤ g) (u : Value) : Below B a (w.setCell ⟨g, i, none⟩ u) := h.setCell (p := ⟨g, i, none⟩) hg u
theorem or_bit (x : UInt8) (b j : Nat) (hb : b < 2) (hj : j < 8) : bits .or .u8 (x.toNat : Int) (IntKind.u8.wrap (IntKind.i64.wrap ((b : Int) * 2 ^ j))) = (((UInt8.ofNat (x.toNat ||| b * 2 ^ j)).toNat : Nat) : Int) := by
  have h2 : b * 2 ^ j < 256 := by
    have : 2 ^ j ≤ 2 ^ 7 := Nat.pow_le_pow_right (by omega) (by omega)
    have : b * 2 ^ j ≤ 1 * 2 ^ j := Nat.mul_le_mul_right _ (by omega)
    omega
  have e : (b : Int) * 2 ^ j = ((b * 2 ^ j : Nat) : Int) := by push_cast; rfl
  have hx := x.toNat_lt
  rw [e, IntWalk.i64_in _ (by omega)]
  have hw : IntKind.u8.wrap ((b * 2 ^ j : Nat) : Int) = ((b * 2 ^ j : Nat) : Int) := by
    exact IntWalk.u8_in _ (by omega)
  rw [hw, u8_or _ _ (by omega) (by omega) (by omega) (by omega)]
  have : x.toNat ||| b * 2 ^ j < 2 ^ 8 := Nat.or_lt_two_pow (by omega) (by omega)
  simp only [Int.toNat_natCast]
  rw [UInt8.toNat_ofNat']
  omega
/-- Half way: the byte for the bit is there. -/
def Half (w : World) (g : Nat) (l : List UInt8) (n : Nat) (wx : World) : Prop :=
  ∃ gb cap, Blk wx g 38 #[.slice (some ⟨gb, 0, none⟩) (oneT l n).length cap, .int .i64 (n : Int)] ∧ OB wx (g + 1) (.slice (some ⟨gb, 0, none⟩) (oneT l n).length cap) (oneT l n).length (oneT l n) ∧ Below g w wx ∧ KeepX w wx

set_option maxRecDepth 100000 in
set_option maxHeartbeats 1000000 in
theorem bone_x (w : World) (g : Nat) (v : Value) (s : List UInt8 × Nat) (b : Nat) (h : WSt w g v s) (hb : b < 2) (hl : s.2 ≤ 100000000) :
    Calls Try.prog 25 #[.pointer (some ⟨g, 0, none⟩), .int .i64 (b : Int)] w fun e w' => e = .returned (.tuple #[]) ∧ (∃ v', WSt w' g v' (oneS s b)) ∧ Below g w w' ∧ KeepX w w' := by
  obtain ⟨hB, hO, hk⟩ := h
  obtain ⟨l, n⟩ := s
  have hlt := hB.lt
  have c0 := hB.cell 0
  have c1 := hB.cell 1
  have f0 := hB.frozen 0
  have f1 := hB.frozen 1
  unfold okS at hk
  dsimp only at hk hl hO c1
  have hkl : l.length ≤ 100000000 := by omega
  replace hk := hide hk
  have hk' : Hid (okS (l, n)) := hk.out
  replace hB := hide hB
  replace hO := hide hO
  have hne : v.ownBlock ≠ some g := fun e => by have := hO.out.block_lt g e; omega
  obtain ⟨vA, vc, hv, -, -, -, -⟩ := hO.out.form
  subst hv
  go_enter Try.func25, Try.ntmps25
  go_upto_if 9 with (fail)
  go_cut [] (fun wx => Half w g l n wx)
  case first =>
    by_cases h8 : n % 8 = 0
    · have n1 : ((n : Int) % 8 == 0) = true := by rw [beq_iff_eq]; omega
      have ht : Hid (oneT l n = l ++ [0]) := by rw [Hid, oneT, if_pos h8]
      clear h8
      go_wp2_with (at_builtin; refine wpList_app_1 (0 : UInt8) rfl rfl (.tmp 14) (.tmp 15) rfl (g + 1) _ _ l hO.out rfl 1 rfl (by omega) (by omega) ?_; intro v2 w2 ho2 hb2 hg2; obtain ⟨A2, k2, rfl, -⟩ := ho2.form; replace ho2 := hide ho2; have hB2 := hide (hB.out.grown hg2 (fun e => hne e.symm)); have hkx := hide (KeepX.grown (KeepX.refl w) hg2 hO.out); have d0 := hB2.out.cell 0; have e0 := hB2.out.frozen 0)
      go_meet
      case rel =>
        rcases ho2.out.parts with ⟨h0, _⟩ | ⟨gb, cap, h0, _, _⟩
        · cases h0
        · cases h0
          unfold Half
          rw [ht.out]
          refine ⟨gb, k2, ?_, ?_, ?_, hkx.out.setW (p := ⟨g, 0, none⟩) hB2.out _⟩
          · have := hB2.out.set_ 0 (.slice (some ⟨gb, 0, none⟩) (l.length + 1) k2)
            rw [List.length_append]; exact this
          · rw [List.length_append]; exact ho2.out.setOther (by show g < g + 1; omega) _
          · exact below_set (hb2.mono (by omega)) (Nat.le_refl _) _
    · have n1 : ((n : Int) % 8 == 0) = false := by rw [beq_eq_false_iff_ne]; omega
      have ht : Hid (oneT l n = l) := by rw [Hid, oneT, if_neg h8]
      have hl0 : 0 < l.length := by have := hk.out; omega
      clear h8
      go_wp2_with fail
      go_meet
      case rel =>
        rcases hO.out.parts with ⟨h0, h1, _⟩ | ⟨gb, cap, h0, _, _⟩
        · omega
        · cases h0
          unfold Half
          rw [ht.out]
          exact ⟨gb, vc, hB.out, hO.out, Below.refl _ _, KeepX.refl _⟩
  case rest =>
    obtain ⟨gb, cap, hB2, hO2, hb2, hkx⟩ := hcut
    replace hkx := hide hkx
    have ht8 : n / 8 < (oneT l n).length := by
      have := hk.out
      unfold oneT
      split
      · rw [List.length_append, List.length_singleton]; omega
      · omega
    have htl : (oneT l n).length ≤ 100000001 := by
      unfold oneT
      split
      · rw [List.length_append, List.length_singleton]; omega
      · omega
    obtain ⟨t, ht⟩ : ∃ t, t = oneT l n := ⟨_, rfl⟩
    rw [← ht] at hB2 hO2 ht8 htl
    have q0 := hB2.cell 0
    have q1 := hB2.cell 1
    have e0 := hB2.frozen 0
    have e1 := hB2.frozen 1
    have r0 := hO2.cell ht8 ht8
    have re := OB.froz (k := n / 8) hO2
    clear hO hB c0 c1 f0 f1 hne hk hkl
    replace hB2 := hide hB2
    replace hO2 := hide hO2
    replace ht := hide ht
    have hwd : IntKind.i64.wrap ((n : Int) / 8) = ((n / 8 : Nat) : Int) := by rw [IntWalk.i64_in _ (by omega)]; omega
    have htm : (n : Int).tmod 8 = ((n % 8 : Nat) : Int) := by rw [Int.tmod_eq_emod_of_nonneg (by omega)]; omega
    have hd1 : ((n / 8 : Nat) : Int) < (t.length : Int) := by omega
    have hd2 : ¬ t.length ≤ n / 8 := by omega
    have hm1 : n % 8 < 8 := by omega
    have hfin : Hid (oneS (l, n) b = (t.set (n / 8) (UInt8.ofNat ((t[n / 8]'ht8).toNat ||| b * 2 ^ (n % 8))), n + 1)) := by
      rw [Hid, oneS]
      dsimp only
      rw [← ht.out, List.getD_eq_getElem?_getD, List.getElem?_eq_getElem ht8]; rfl
    have hok : Hid (okS (oneS (l, n) b)) := oneS_ok hk'.out
    generalize t[n / 8] = x at *
    generalize n / 8 = k8 at *
    generalize n % 8 = j8 at *
    go_wp2_with fail
    go_still_tail 21, (by kernel_rfl)
    change wpList _ _ _ _ _ wc.drew
    have hval : bits .or .u8 (x.toNat : Int) (IntKind.u8.wrap (IntKind.i64.wrap ((b : Int) * 2 ^ j8))) = (((UInt8.ofNat (x.toNat ||| b * 2 ^ j8)).toNat : Nat) : Int) := or_bit x b j8 hb hm1
    rw [hval]
    generalize UInt8.ofNat (x.toNat ||| b * 2 ^ j8) = y at *
    clear hval htm hwd
    have hgb : g + 1 ≤ gb := hO2.out.base_le
    have hg1 : ¬ g = gb := by omega
    have hg2 : ¬ gb = g := by omega
    have hlen : Hid ((t.set k8 y).length = t.length) := List.length_set
    have hB3 := hide (hB2.out.drew)
    have hO3 := hide (hO2.out.drew)
    go_wp2_with fail
    go_end0
    refine ⟨rfl, ⟨.slice (some ⟨gb, 0, none⟩) t.length cap, ?_, ?_, ?_⟩, ?_⟩
    · rw [hfin.out]
      exact (Blk.far hB2.out hg1 _).set_ 1 _
    · rw [hfin.out]
      dsimp only
      rw [hlen.out]
      exact OB.setOther (hO2.out.stored k8 y) (by show g < g + 1; omega) _
    · exact hok.out
    · refine ⟨(below_set (below_set (g := gb) (i := k8) hb2 (by omega) _) (Nat.le_refl _) _).drew, ?_⟩
      obtain ⟨cur, hcur⟩ := OB.blkc hO2.out
      exact KeepX.drew (KeepX.setW (p := ⟨g, 1, none⟩) (KeepX.setB (p := ⟨gb, k8, none⟩) hkx.out hcur _) (Blk.far hB2.out hg1 _) _)
theorem bone_any (w : World) (g : Nat) (v : Value) (s : List UInt8 × Nat) (b : Nat) (h : WSt w g v s) (hb : b < 2) (hl : s.2 ≤ 100000000) :
    Calls Try.prog 25 #[.pointer (some ⟨g, 0, none⟩), .int .i64 (b : Int)] w fun e w' => e = .returned (.tuple #[]) ∧ (∃ v', WSt w' g v' (oneS s b)) ∧ Below g w w' :=
  (bone_x w g v s b h hb hl).mono fun _ _ h => ⟨h.1, h.2.1, h.2.2.1⟩

theorem held_any (n : Int) (w : World) (h0 : 0 ≤ n) (h1 : n ≤ 24) : Calls Try.prog 24 #[.int .i64 n] w fun e w' => e = .returned (.int .i64 n) ∧ w = w' := by
  go_enter Try.func24, Try.ntmps24
  go_wp2_with fail
  go_ret
  exact ⟨ret_int (by omega), rfl⟩

theorem i64_and1 (n : Int) : bits .and .i64 n 1 = n % 2 := by
  show IntKind.i64.wrap ((BitVec.ofInt 64 n &&& BitVec.ofInt 64 1).toNat : Int) = n % 2
  rw [BitVec.toNat_and, BitVec.toNat_ofInt, BitVec.toNat_ofInt]
  have e1 : ((1 : Int) % ((2 ^ 64 : Nat) : Int)).toNat = 2 ^ 1 - 1 := by decide
  rw [e1, Nat.and_two_pow_sub_one_eq_mod]
  have h1 : 0 ≤ n % ((2 ^ 64 : Nat) : Int) := Int.emod_nonneg _ (by decide)
  rw [IntWalk.i64_in _ (by omega)]
  have e2 : ((2 ^ 64 : Nat) : Int) = 18446744073709551616 := by decide
  rw [e2] at h1 ⊢
  omega
theorem bit_of (v k : Nat) : bits .and .i64 ((v : Int) / 2 ^ k) 1 = ((v / 2 ^ k % 2 : Nat) : Int) := by
  rw [i64_and1]
  have e : (2 : Int) ^ k = ((2 ^ k : Nat) : Int) := by push_cast; rfl
  rw [e]
  generalize 2 ^ k = m
  have : (v : Int) / (m : Int) = ((v / m : Nat) : Int) := (Int.natCast_ediv v m).symm
  rw [this]
  omega

set_option maxRecDepth 100000 in
set_option maxHeartbeats 1000000 in
theorem bits_x (w : World) (g : Nat) (v : Value) (s : List UInt8 × Nat) (n : Nat) (x : Nat) (h : WSt w g v s) (hn : n ≤ 24) (hx : x < 1099511627776) (hl : s.2 ≤ 90000000) :
    Calls Try.prog 13 #[.pointer (some ⟨g, 0, none⟩), .int .i64 (n : Int), .int .i64 (x : Int)] w fun e w' => e = .returned (.tuple #[]) ∧ (∃ v', WSt w' g v' (bitsS s x n)) ∧ Below g w w' ∧ KeepX w w' := by
  have hlt := h.1.lt
  replace h := hide h
  go_enter Try.func13, Try.ntmps13
  go_wp2_with fail
  refine (held_any n w (by omega) (by omega)).mono ?_
  rintro e w' ⟨rfl, rfl⟩
  go_wp2_with fail
  go_loopw [11] (fun i wr => ∃ (k : Nat) (v' : Value), k ≤ n ∧ i = .int .i64 k ∧ Hid (WSt wr g v' (bitsS s x k)) ∧ Below g w wr ∧ Hid (KeepX w wr)) (fun i _ => n - (intOf i).toNat)
  case atStart => exact ⟨0, v, by omega, rfl, h, Below.refl _ _, KeepX.refl _⟩
  case round =>
    obtain ⟨k, v', hk, rfl, hS, hb, hkx⟩ := hrel
    by_cases h1 : k < n
    · have hk2 : k ≤ 24 := by omega
      have hkn : (bitsS s x k).2 ≤ 100000000 := by rw [bitsS_n]; omega
      have hbw := hb
      go_wp2_with fail
      rw [bit_of x k]
      refine (bone_x wr g v' (bitsS s x k) _ hS.out (Nat.mod_lt _ (by omega)) hkn).mono ?_
      rintro e w2 ⟨rfl, ⟨v2, hS2⟩, hb2, hk2x⟩
      have hkx2 := hide (hkx.out.trans hk2x)
      clear hk2x
      have hb3 := hbw.trans hb2
      replace hS2 := hide hS2
      clear hS hkn hb2 hb hbw
      go_wp2_with fail
      go_roundw
      case rel => exact ⟨k + 1, v2, by omega, by go_num, hS2, hb3, hkx2⟩
      case measure => simp [intOf]; omega
    · have hkn : k = n := by omega
      subst hkn
      go_wp2_with fail
      go_end0
      exact ⟨rfl, ⟨v', hS.out⟩, hb, hkx.out⟩
theorem bits_any (w : World) (g : Nat) (v : Value) (s : List UInt8 × Nat) (n : Nat) (x : Nat) (h : WSt w g v s) (hn : n ≤ 24) (hx : x < 1099511627776) (hl : s.2 ≤ 90000000) :
    Calls Try.prog 13 #[.pointer (some ⟨g, 0, none⟩), .int .i64 (n : Int), .int .i64 (x : Int)] w fun e w' => e = .returned (.tuple #[]) ∧ (∃ v', WSt w' g v' (bitsS s x n)) ∧ Below g w w' :=
  (bits_x w g v s n x h hn hx hl).mono fun _ _ h => ⟨h.1, h.2.1, h.2.2.1⟩

set_option maxRecDepth 100000 in
theorem align_any (w : World) (g : Nat) (v : Value) (s : List UInt8 × Nat) (h : WSt w g v s) (hl : s.1.length ≤ 100000000) :
    Calls Try.prog 14 #[.pointer (some ⟨g, 0, none⟩)] w fun e w' => e = .returned (.tuple #[]) ∧ WSt w' g v (s.1, 8 * s.1.length) ∧ Below g w w' := by
  obtain ⟨hB, hO, hk⟩ := h
  have c0 := hB.cell 0
  have c1 := hB.cell 1
  have f1 := hB.frozen 1
  have hlt := hB.lt
  obtain ⟨vA, vc, hv, -, -, -, -⟩ := hO.form
  subst hv
  replace hB := hide hB
  replace hO := hide hO
  replace hk := hide hk
  go_enter Try.func14, Try.ntmps14
  go_wp2_with fail
  go_end0
  refine ⟨rfl, ⟨?_, ?_, ?_⟩, below_set (Below.refl _ _) (Nat.le_refl _) _⟩
  · have := hB.out.set_ 1 (.int .i64 ((8 * s.1.length : Nat) : Int))
    simpa using this
  · exact OB.setOther hO.out (by show g < g + 1; omega) _
  · show s.1.length = (8 * s.1.length + 7) / 8
    omega
end Go.Proofs.Ytbchaomnjbkdhaa
