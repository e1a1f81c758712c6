/-
  Contracts of inquestref01.Same and key.Num.
-/
import Derived.Test.YtnbfblikpoblgaaDoorKeyB
import Derived.Deep.DeepCutAuto
namespace Go.Proofs.YtnbfblikpoblgaaDoor
open Go.RowKit
set_option linter.unusedVariables false

theorem same_ne {xs ys : List UInt8} (h : xs.length ≠ ys.length) : decide (xs = ys) = false := by
  simp; intro e; exact h (by rw [e])
theorem same_at {xs ys : List UInt8} {k : Nat} (h1 : k < xs.length) (h2 : k < ys.length) (e : xs[k] ≠ ys[k]) : decide (xs = ys) = false := by
  simp; intro h; subst h; exact e rfl
theorem same_all {xs ys : List UInt8} {k : Nat} (h : xs.take k = ys.take k) (h1 : k = xs.length) (h2 : k = ys.length) : decide (xs = ys) = true := by
  simp
  rw [← List.take_length (l := xs), ← h1, h, h2, List.take_length]

set_option maxHeartbeats 400000 in
theorem same_any (A B : Option Addr) (n m c d : Nat) (xs ys : List UInt8) (w : World) (ha : RB w w.heap.size A n xs) (hb : RB w w.heap.size B m ys)
    (hn : n ≤ 100000) (hm : m ≤ 100000) :
    Calls Tryd.prog 17 #[.slice A n c, .slice B m d] w fun e w' => e = .returned (.bool (decide (xs = ys))) ∧ Qt w w' := by
  have hxl := hide ha.len
  have hyl := hide hb.len
  have HA := hide ha
  have HB := hide hb
  clear ha hb
  by_cases hnm : n = m
  · subst hnm
    go_enter Tryd.func17, Tryd.ntmps17
    go_wp2
    go_loopw [5] (fun i wr => ∃ k q : Nat, k ≤ n ∧ i = .int .i64 k ∧ wr = w.drewN q ∧ Hid (xs.take k = ys.take k)) (fun i _ => n - (intOf i).toNat)
    case atStart => exact ⟨0, 0, by omega, rfl, rfl, by simp [Hid]⟩
    case round =>
      obtain ⟨k, q, hk, rfl, rfl, HT⟩ := hrel
      by_cases h1 : k < n
      · have hx1 : k < xs.length := by have := hxl.out; omega
        have hy1 : k < ys.length := by have := hyl.out; omega
        obtain ⟨ad, rfl, _, ca⟩ := HA.out.elem h1 hx1
        obtain ⟨bd, rfl, _, cb⟩ := HB.out.elem h1 hy1
        have HN := hide (same_at hx1 hy1)
        have HE := hide (take_next HT.out hx1 hy1)
        by_cases he : xs[k] = ys[k]
        · have HE := hide (HE.out he)
          rw [← he] at cb
          clear HA HB HN HT he
          generalize (xs[k].toNat : Int) = x at ca cb
          go_wp2
          go_quiet (fail)
          go_wp2
          go_roundw
          case rel => exact ⟨k + 1, _, by omega, by go_num, rfl, HE⟩
          case measure => simp [intOf]; omega
        · have HN := hide (HN.out he)
          have hne : ((xs[k].toNat : Int) != (ys[k].toNat : Int)) = true := by
            rw [bne_iff_ne]; intro h; apply he; apply UInt8.toNat_inj.1; omega
          clear HA HB HE HT he
          generalize (xs[k].toNat : Int) = x at ca hne HN
          generalize (ys[k].toNat : Int) = y at cb hne HN
          go_wp2
          go_quiet (fail)
          go_wp2
          go_ret
          exact ⟨ret_bool HN.out.symm, by repeat (first | exact Qt.refl _ | apply Qt.drewN | apply Qt.drew)⟩
      · have HN := hide (same_all HT.out (by have := hxl.out; omega) (by have := hyl.out; omega))
        go_wp2
        go_ret
        exact ⟨ret_bool HN.out.symm, by repeat (first | exact Qt.refl _ | apply Qt.drewN | apply Qt.drew)⟩
  · have HN := hide (same_ne (xs := xs) (ys := ys) (by rw [hxl.out, hyl.out]; exact hnm))
    have hne : ((n : Int) != (m : Int)) = true := by rw [bne_iff_ne]; omega
    clear HA HB
    go_enter Tryd.func17, Tryd.ntmps17
    go_wp2
    go_ret
    exact ⟨ret_bool HN.out.symm, by repeat (first | exact Qt.refl _ | apply Qt.drewN | apply Qt.drew)⟩

def byteN (z : Int) (k : Nat) : UInt8 := UInt8.ofNat (z.toNat / 256 ^ k)
def numB (z : Int) : List UInt8 := [byteN z 5, byteN z 4, byteN z 3, byteN z 2, byteN z 1, byteN z 0]
/-- the bytes of one number that have been put when the inner loop stands at k (5 .. -1): the first 5 - k. -/
def numsB (l : List Int) : List UInt8 := l.flatMap fun z => numB (heldI z)

theorem byteN_eq (z : Int) (i : Nat) (h0 : 0 ≤ z) (hi : i < 6) : z / 2 ^ (8 * (5 - i)) % 256 = ((byteN z (5 - i)).toNat : Int) := by
  obtain ⟨n, rfl⟩ := Int.eq_ofNat_of_zero_le h0
  unfold byteN
  rw [UInt8.toNat_ofNat', Int.toNat_natCast, show (256 : Nat) = 2 ^ 8 from rfl, ← Nat.pow_mul, Int.natCast_emod, Int.natCast_ediv, Int.natCast_pow]
  rfl
theorem numB_take (z : Int) (i : Nat) (hi : i < 6) : (numB z).take (i + 1) = (numB z).take i ++ [byteN z (5 - i)] := by
  match i, hi with
  | 0, _ => rfl
  | 1, _ => rfl
  | 2, _ => rfl
  | 3, _ => rfl
  | 4, _ => rfl
  | 5, _ => rfl
theorem numsB_snoc (zs : List Int) (k : Nat) (h : k < zs.length) : numsB (zs.take (k + 1)) = numsB (zs.take k) ++ numB (heldI zs[k]) := by
  unfold numsB
  rw [List.take_succ_eq_append_getElem h, List.flatMap_append]
  simp

set_option maxHeartbeats 400000 in
theorem num_any (A B : Option Addr) (n m c d : Nat) (xs : List UInt8) (zs : List Int) (w : World) (ha : RB w w.heap.size A n xs) (hb : RI w w.heap.size B m zs)
    (hn : n ≤ 100000) (hm : m ≤ 100000) :
    Calls Tryd.prog 11 #[.slice A n c, .slice B m d] w (RetB w (xs ++ numsB zs)) := by
  have hnl := hide ha.len
  have hzl := hide hb.len
  have HA := hide ha
  have HB := hide hb
  clear ha hb
  go_enter Tryd.func11, Tryd.ntmps11
  go_wp2_with fail
  refine (clone_any _ _ _ _ _ HA.out (by omega)).mono ?_
  rintro e w1 ⟨v1, rfl, hown1, hb1⟩
  rw [hnl.out] at hown1
  replace hown1 := hide hown1
  go_wp2_with fail
  go_loopw [5, 13] (fun v i wr => ∃ k : Nat, k ≤ m ∧ i = .int .i64 k ∧ Hid (OB wr w.heap.size v (n + 6 * k) (xs ++ numsB (zs.take k))) ∧ Below w.heap.size w wr) (fun _ i _ => m - (intOf i).toNat)
  case atStart => exact ⟨0, by omega, rfl, by simpa [numsB] using hown1, hb1⟩
  case round =>
    obtain ⟨k, hk, rfl, HO, hbl⟩ := hrel
    by_cases h1 : k < m
    · have hz1 : k < zs.length := by have := hzl.out; omega
      obtain ⟨bd, rfl, hbb, cb⟩ := (HB.out.below hbl).elem h1 hz1
      go_upto_region 5 with (fail)
      go_cut [7] (fun v wx => v = .int .i64 (heldI zs[k]) ∧ wx = wr)
      case first =>
        by_cases c1 : zs[k] < 0
        · have hc : heldI zs[k] = 0 := by simp [heldI, c1]
          have hc := hide hc
          go_wp2
          go_meet
          exact ⟨by rw [hc.out], rfl⟩
        · by_cases c2 : 281474976710655 < zs[k]
          · have hc : heldI zs[k] = 281474976710655 := by simp [heldI, c1, c2]
            have hc := hide hc
            go_wp2
            go_meet
            exact ⟨by rw [hc.out], rfl⟩
          · have hc : heldI zs[k] = zs[k] := by simp [heldI, c1, c2]
            have hc := hide hc
            go_wp2
            go_meet
            exact ⟨by rw [hc.out], rfl⟩
      case rest =>
        obtain ⟨rfl, rfl⟩ := hcut
        have b0 := heldI_0 zs[k]
        have b1 := heldI_1 zs[k]
        have HS : Hid (numsB (zs.take (k + 1)) = numsB (zs.take k) ++ numB (heldI zs[k])) := by
          exact numsB_snoc zs k hz1
        generalize heldI zs[k] = z at *
        go_wp2_with fail
        go_loopw [5, 8] (fun v j wr => ∃ i : Nat, i ≤ 6 ∧ j = .int .i64 (5 - (i : Int)) ∧ Hid (OB wr w.heap.size v (n + 6 * k + i) (xs ++ numsB (zs.take k) ++ (numB z).take i)) ∧ Below w.heap.size w wr) (fun _ j _ => (intOf j + 1).toNat)
        case atStart => exact ⟨0, by omega, by go_num, by simpa using HO, hbl⟩
        case round =>
          clear hbl HO cb
          obtain ⟨i, hi, rfl, HO, hbl⟩ := hrel
          have hsz := hbl.size
          by_cases hi6 : i < 6
          · have hbyte := hide (byteN_eq z i b0 hi6)
            go_wp2_with (at_builtin; refine wpList_app_1 (byteN z (5 - i)) hbyte.out rfl (.tmp 24) (.tmp 30) rfl w.heap.size _ _ _ HO.out rfl _ rfl (by omega) hsz ?_; intro v2 w2 hown2 hb2 hg2)
            replace hown2 := hide hown2
            have hbl2 := hbl.trans hb2
            clear hbl hb2 hg2
            go_wp2
            go_roundw
            case rel => exact ⟨i + 1, by omega, by go_num, by have := hown2.out; rw [List.append_assoc, ← numB_take z i hi6] at this; exact this, hbl2⟩
            case measure => simp [intOf]; omega
          · have hi6' : i = 6 := by omega
            subst hi6'
            have HO2 : Hid (OB wr w.heap.size u5 (n + 6 * (k + 1)) (xs ++ numsB (zs.take (k + 1)))) := by
              show OB _ _ _ _ _
              rw [HS.out, ← List.append_assoc, show n + 6 * (k + 1) = n + 6 * k + 6 from by omega]
              exact HO.out
            clear HO HS
            go_wp2
            go_roundw
            case rel => exact ⟨k + 1, by omega, by go_num, HO2, hbl⟩
            case measure => simp [intOf]; omega
    · have hkm : k = m := by omega
      have HO2 : Hid (OB wr w.heap.size u5 (n + 6 * m) (xs ++ numsB zs)) := by
        subst hkm
        have := HO.out
        rw [List.take_of_length_le (by have := hzl.out; omega)] at this
        exact this
      clear HO
      have hk2 : m ≤ k := by omega
      clear hkm
      go_wp2
      go_ret
      exact RetB.mk HO2.out hbl
end Go.Proofs.YtnbfblikpoblgaaDoor
