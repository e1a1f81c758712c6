/-
  Contracts of key.GetText and key.GetNum where a text, a number stands.
-/
import Derived.Test.YtiffnfgmkkoaeaaGreatDoorBnGr5
import Derived.Test.YtiffnfgmkkoaeaaGreatDoorBnGr10
import Derived.Test.YtiffnfgmkkoaeaaGreatDoorBnOrdB
import Derived.Laws.BitsAllLaws
namespace Go.Proofs.YtiffnfgmkkoaeaaGreatDoor
open Go.RowKit
set_option linter.unusedVariables false
theorem drop_more {α : Type} {l S T : List α} {k : Nat} (h : l.drop k = S ++ T) : l.drop (k + S.length) = T := by
  rw [← List.drop_drop, h, List.drop_left]
/-- A text's bytes stand from place p on; the bytes d of it have been read at place k, r are to come. -/
def GRel (l R t : List UInt8) (p k : Nat) (d r : List UInt8) : Prop := t = d ++ r ∧ k = p + (d.flatMap txtF).length ∧ l.drop k = textB r ++ R
theorem GRel.zero {l R t : List UInt8} {p k : Nat} {d r : List UInt8} (h : GRel l R t p k d (0 :: r)) : l.drop k = 0 :: 255 :: (textB r ++ R) ∧ GRel l R t p (k + 2) (d ++ [0]) r := by
  obtain ⟨h1, h2, h3⟩ := h
  rw [textB_cons, List.append_assoc] at h3
  refine ⟨h3, by rw [h1]; simp, by rw [h2, List.flatMap_append, List.length_append]; rfl, drop_more h3⟩
theorem or_byte (x y : Nat) (hx : x < 1099511627776) (hy : y ≤ 255) : bits .or .i64 (wrap64 ((x : Int) * 256)) (y : Int) = ((x * 256 + y : Nat) : Int) := by
  have e : wrap64 ((x : Int) * 256) = ((x * 256 : Nat) : Int) := by unfold wrap64; omega
  rw [e]
  show IntKind.i64.wrap ((BitVec.ofInt 64 ((x * 256 : Nat) : Int) ||| BitVec.ofInt 64 (y : Int)).toNat : Int) = _
  rw [BitVec.toNat_or, ofInt_u64 _ (by omega), ofInt_u64 y (by omega)]
  have h2 : x * 256 ||| y = x * 256 + y := by
    have := Nat.shiftLeft_add_eq_or_of_lt (a := x) (b := y) (i := 8) (by omega)
    rw [Nat.shiftLeft_eq] at this
    exact this.symm
  rw [h2]
  simp [IntKind.wrap, IntKind.bits, IntKind.signed]
  omega
theorem val_5 (bs : List UInt8) (k : Nat) (hk : k < 6) : val (bs.take k) < 1099511627776 := by
  have hlt := val_lt (bs.take k)
  have h5 : (bs.take k).length ≤ 5 := by simp; omega
  have : 256 ^ (bs.take k).length ≤ 256 ^ 5 := Nat.pow_le_pow_right (by omega) h5
  have : (256 : Nat) ^ 5 = 1099511627776 := rfl
  omega
theorem val_snoc (l : List UInt8) (b : UInt8) : val (l ++ [b]) = val l * 256 + b.toNat := by
  induction l with
  | nil => simp [val]
  | cons a l ih =>
    simp only [List.cons_append, val, ih, List.length_append, List.length_cons, List.length_nil, Nat.pow_succ, Nat.zero_add, Nat.add_mul]
    rw [Nat.mul_assoc]; omega
set_option maxRecDepth 100000 in
set_option maxHeartbeats 1000000 in
/-- GetNum where a number's six bytes stand. -/
theorem getNum_any (A : Option Addr) (n c p : Nat) (l R bs : List UInt8) (w : World) (ha : RB w w.heap.size A n l) (hn : n ≤ 1000000) (hc : n ≤ c) (hc2 : c ≤ maxLen) (hp : p + 6 ≤ n) (hL : l.drop p = bs ++ R) (hb : bs.length = 6) :
    Calls Tryz.prog 27 #[.slice A n c, .int .i64 (p : Int)] w fun e w' => e = .returned (.tuple #[.int .i64 (val bs : Int), .int .i64 ((p + 6 : Nat) : Int), .bool true]) ∧ w = w' := by
  have hlen := hide ha.len
  have HA := hide ha
  clear ha
  unfold maxLen at hc2
  replace hL := hide hL
  obtain ⟨ad, rfl, -, -⟩ := HA.out.elem (k := p) (by omega) (by have := hlen.out; omega)
  have hcells : ∀ j, j < 6 → ∃ b, bs[j]? = some b ∧ w.cell? ((ad.add p).add j) = some (.int .u8 (b.toNat : Int)) := by
    intro j hj
    obtain ⟨ad', e, _, hcell⟩ := HA.out.elem (k := p + j) (by omega) (by have := hlen.out; omega)
    obtain rfl := Option.some.inj e
    refine ⟨bs[j], List.getElem?_eq_getElem (by omega), ?_⟩
    rw [add_of_add, hcell]
    have h1 : l[p + j]? = some bs[j] := by
      rw [← List.getElem?_drop, hL.out, List.getElem?_append_left (by omega), List.getElem?_eq_getElem (by omega)]
    have hlt : p + j < l.length := by have := hlen.out; omega
    rw [List.getElem?_eq_getElem hlt] at h1
    rw [Option.some.inj h1]
  have e1 : decide ((p : Int) < 0) = false := by simp
  have e2 : decide (n < p) = false := by simp; omega
  have e3 : decide ((n : Int) - (p : Int) < 6) = false := by simp; omega
  replace hcells := hide hcells
  clear hL hc2
  go_enter Tryz.func27, Tryz.ntmps27
  go_wp2_with fail
  rw [show p + 6 - p = 6 from by omega]
  generalize ad.add p = ad2 at hcells ⊢
  generalize c - p = c2
  go_loopw [7, 31] (fun v i wr => ∃ k : Nat, k ≤ 6 ∧ i = .int .i64 k ∧ v = .int .i64 (val (bs.take k) : Int) ∧ wr = w) (fun _ i _ => 6 - (intOf i).toNat)
  case atStart => exact ⟨0, by omega, rfl, by simp [val], rfl⟩
  case round =>
    obtain ⟨k, hk, rfl, rfl, rfl⟩ := hrel
    by_cases h1 : k < 6
    · obtain ⟨b, hb1, hb2⟩ := hcells.out k h1
      have hs := hide (val_snoc (bs.take k) b)
      have htk : Hid (bs.take k ++ [b] = bs.take (k + 1)) := by
        show _ = _
        rw [List.take_add_one, hb1]; rfl
      rw [htk.out] at hs
      have h256 := hide (fun hy => or_byte (val (bs.take k)) b.toNat (val_5 bs k h1) hy)
      have hb3 := b.toNat_lt
      clear htk hcells HA hb1
      generalize val (bs.take k) = x at *
      generalize b.toNat = y at *
      clear hb hn hc hp e1 e2 e3
      replace hb3 : y ≤ 255 := by omega
      replace h256 := hide (h256.out hb3)
      go_wp2_with fail
      go_roundw
      case rel => exact ⟨k + 1, by omega, by go_num, by rw [h256.out, hs.out], trivial⟩
      case measure => simp [intOf]; omega
    · have hk6 : k = 6 := by omega
      have hbs : Hid (bs.take k = bs) := by
        show _ = _
        rw [List.take_of_length_le (by omega)]
      rw [hbs.out]
      clear hbs
      go_wp2_with fail
      go_ret3
      exact ⟨rfl, rfl⟩
end Go.Proofs.YtiffnfgmkkoaeaaGreatDoor
