/-
  Contracts of the reference's bits and numbers: inquestref04.Number, Bits; inquestref05.pow, bitsOf; inquestref06.sum.
-/
import Derived.Test.YtbchaomnjbkdhaaGreatEQ
import Derived.Test.YtbchaomnjbkdhaaGreatEB
import Derived.Test.YtbchaomnjbkdhaaGreatEA
import Derived.Test.YtbchaomnjbkdhaaGreatEDynW
namespace Go.Proofs.YtbchaomnjbkdhaaGreat
open Go.RowKit
set_option linter.unusedVariables false
theorem leN_small : ∀ l : List Nat, (∀ b ∈ l, b < 2) → l.length ≤ 30 → leN l < 1073741824 := fun l h hl => by
  have h1 := leN_lt l h
  have h2 : 2 ^ l.length ≤ 2 ^ 30 := Nat.pow_le_pow_right (by omega) hl
  have e : (2 : Nat) ^ 30 = 1073741824 := by decide
  omega
theorem leN_drop (l : List Nat) (k : Nat) (hk : k < l.length) : leN (l.drop k) = l.getD k 0 + 2 * leN (l.drop (k + 1)) := by
  rw [List.drop_eq_getElem_cons hk, leN, List.getD_eq_getElem?_getD, List.getElem?_eq_getElem hk]; rfl
set_option maxRecDepth 100000 in
set_option maxHeartbeats 1000000 in
theorem number_any (w : World) (A : Option Addr) (n c : Nat) (l : List Nat) (h : RN w w.heap.size A n l) (h2 : ∀ b ∈ l, b < 2) (hn : n ≤ 30) :
    Calls Tryz.prog 49 #[.slice A n c] w fun e w' => e = .returned (.int .i64 (leN l : Int)) ∧ w = w' := by
  have hl := h.len
  replace h2 := hide h2
  replace h := hide h
  replace hl := hide hl
  go_enter Tryz.func49, Tryz.ntmps49
  go_wp2_with fail
  go_loopw [3, 4] (fun v3 v4 wr => ∃ k : Nat, v4 = .int .i64 ((k : Int) - 1) ∧ v3 = .int .i64 (leN (l.drop k) : Int) ∧ k ≤ n ∧ Hid (wr = w)) (fun _ v4 _ => (intOf v4 + 1).toNat)
  case atStart => exact ⟨n, rfl, by rw [List.drop_of_length_le (by have := hl.out; omega)]; rfl, Nat.le_refl _, rfl⟩
  case round =>
    obtain ⟨k, rfl, rfl, hk, hw⟩ := hrel
    cases k with
    | zero =>
      have e0 : (((0 : Nat) : Int) - 1) = -1 := rfl
      rw [e0, List.drop_zero]
      go_wp2_with fail
      go_ret
      exact ⟨rfl, hw.out.symm⟩
    | succ k =>
      have e1 : (((k + 1 : Nat) : Int) - 1) = (k : Int) := by omega
      rw [e1]
      have hd := leN_drop l k (by have := hl.out; omega)
      have hsm : leN (l.drop k) < 1073741824 := leN_small _ (fun b hb => h2.out b (List.mem_of_mem_drop hb)) (by have := hl.out; rw [List.length_drop]; omega)
      obtain ⟨ad, rfl, hb, hc⟩ := RN.elem (hw.out ▸ h.out : RN wr w.heap.size A n l) (k := k) (by omega)
      obtain ⟨X, hX⟩ : ∃ X, X = leN (l.drop (k + 1)) := ⟨_, rfl⟩
      obtain ⟨Y, hY⟩ : ∃ Y, Y = leN (l.drop k) := ⟨_, rfl⟩
      obtain ⟨Z, hZ⟩ : ∃ Z, Z = l.getD k 0 := ⟨_, rfl⟩
      rw [← hX, ← hY, ← hZ] at hd
      rw [← hY] at hsm
      rw [← hX]
      rw [← hZ] at hc
      replace hY := hide hY
      clear e1 hX hZ
      have hkn : k < n := by omega
      have hkI : (k : Int) < (n : Int) := by omega
      have h2X : 2 * (X : Int) + (Z : Int) = (Y : Int) := by omega
      have hX2 : (X : Int) < 1073741824 := by omega
      have hZ2 : (Z : Int) < 1073741824 := by omega
      go_wp2_with fail
      go_roundw
      case rel => exact ⟨k, by go_num, by rw [← hY.out]; go_num, by omega, hw⟩
      case measure => simp [intOf]
theorem bits_snoc (l : List UInt8) (i : Nat) (hi : i < l.length) : bytesB (l.take (i + 1)) = bytesB (l.take i) ++ loB 8 (l[i]).toNat := by
  rw [List.take_succ_eq_append_getElem hi, bytesB, bytesB, List.flatMap_append]
  simp
set_option maxRecDepth 100000 in
set_option maxHeartbeats 1000000 in
theorem pow_any (w : World) (N : Int) (n : Nat) (hN : N = (n : Int)) (hn : n ≤ 30) :
    Calls Tryz.prog 72 #[.int .i64 N] w fun e w' => e = .returned (.int .i64 ((2 ^ n : Nat) : Int)) ∧ w = w' := by
  subst hN
  go_enter Tryz.func72, Tryz.ntmps72
  go_wp2_with fail
  go_loopw [3, 4] (fun v3 v4 wr => ∃ (k P : Nat), v4 = .int .i64 (k : Int) ∧ v3 = .int .i64 (P : Int) ∧ Hid (P = 2 ^ k) ∧ k ≤ n ∧ Hid (wr = w)) (fun _ v4 _ => n - (intOf v4).toNat)
  case atStart => exact ⟨0, 1, rfl, rfl, rfl, Nat.zero_le _, rfl⟩
  case round =>
    obtain ⟨k, P, rfl, rfl, hP, hk, hw⟩ := hrel
    by_cases hlt : k < n
    · have hP2 : P ≤ 1073741824 := by
        rw [hP.out]
        have := Nat.pow_le_pow_right (n := 2) (by omega) (show k ≤ 30 by omega)
        have e : (2 : Nat) ^ 30 = 1073741824 := by decide
        omega
      go_wp2_with fail
      go_roundw
      case rel => exact ⟨k + 1, 2 * P, by go_num, by go_num, by rw [hP.out, Nat.pow_succ]; exact Nat.mul_comm _ _, by omega, hw⟩
      case measure => simp [intOf]; omega
    · obtain rfl : k = n := by omega
      go_wp2_with fail
      go_ret
      exact ⟨by rw [hP.out]; rfl, hw.out.symm⟩
set_option maxRecDepth 100000 in
set_option maxHeartbeats 1000000 in
theorem sum_any (w : World) (A : Option Addr) (n c : Nat) (l : List Nat) (h : RN w w.heap.size A n l) (hs : ∀ b ∈ l, b ≤ 15) (hn : n ≤ 1000) :
    Calls Tryz.prog 74 #[.slice A n c] w fun e w' => e = .returned (.int .i64 (l.sum : Int)) ∧ w = w' := by
  have hl := hide h.len
  replace h := hide h
  replace hs := hide hs
  go_enter Tryz.func74, Tryz.ntmps74
  go_wp2_with fail
  go_loopw [3, 4] (fun v3 v4 wr => ∃ (k S : Nat), v4 = .int .i64 (k : Int) ∧ v3 = .int .i64 (S : Int) ∧ Hid (S = (l.take k).sum) ∧ S ≤ 15 * k ∧ k ≤ n ∧ Hid (wr = w)) (fun _ v4 _ => n - (intOf v4).toNat)
  case atStart => exact ⟨0, 0, rfl, rfl, by simp [Hid], by omega, Nat.zero_le _, rfl⟩
  case round =>
    obtain ⟨k, S, rfl, rfl, hS, hS2, hk, hw⟩ := hrel
    by_cases hlt : k < n
    · have hkl : k < l.length := by have := hl.out; omega
      obtain ⟨ad, rfl, hb, hc⟩ := RN.elem (hw.out ▸ h.out : RN wr w.heap.size A n l) (k := k) hlt
      rw [List.getD_eq_getElem?_getD, List.getElem?_eq_getElem hkl, Option.getD_some] at hc
      have hx := hs.out _ (List.getElem_mem hkl)
      have hnx : Hid (S + l[k] = (l.take (k + 1)).sum) := by
        rw [Hid, List.take_succ_eq_append_getElem hkl, List.sum_append, hS.out]; simp
      obtain ⟨X, hX⟩ : ∃ X, X = l[k] := ⟨_, rfl⟩
      rw [← hX] at hc hx hnx
      clear hX
      go_wp2_with fail
      go_roundw
      case rel => exact ⟨k + 1, S + X, by go_num, by go_num, hnx, by omega, by omega, hw⟩
      case measure => simp [intOf]; omega
    · obtain rfl : k = n := by omega
      have hfin : Hid (S = l.sum) := by have := hS.out; rwa [List.take_of_length_le (by have := hl.out; omega)] at this
      go_wp2_with fail
      go_ret
      exact ⟨by rw [hfin.out]; rfl, hw.out.symm⟩
/-- What a call returns that makes ints. -/
def IntsRet (w : World) (l : List Nat) (e : Ending) (w' : World) : Prop := ∃ v, e = .returned v ∧ ON w' w.heap.size v l.length l ∧ Below w.heap.size w w'
theorem IntsRet.mk {w w' : World} {l l' : List Nat} {v : Value} {n : Nat} (h : ON w' w.heap.size v n l') (e : l = l') (hb : Below w.heap.size w w') : IntsRet w l (.returned v) w' := by
  subst e
  have := h.len
  subst this
  exact ⟨v, rfl, h, hb⟩
set_option maxRecDepth 100000 in
set_option maxHeartbeats 2000000 in
theorem bits4_any (w : World) (A : Option Addr) (n c : Nat) (l : List UInt8) (h : RB w w.heap.size A n l) (hn : n ≤ 1000000) :
    Calls Tryz.prog 21 #[.slice A n c] w (IntsRet w (bytesB l)) := by
  have hl := hide h.len
  replace h := hide h
  go_enter Tryz.func21, Tryz.ntmps21
  go_wp2_with fail
  go_loopw [3, 4] (fun v3 v4 wr => ∃ i : Nat, v4 = .int .i64 (i : Int) ∧ i ≤ n ∧ Hid (ON wr w.heap.size v3 (8 * i) (bytesB (l.take i))) ∧ Hid (Below w.heap.size w wr)) (fun _ v4 _ => n - (intOf v4).toNat)
  case atStart => exact ⟨0, rfl, Nat.zero_le _, OE.nil _ _, Below.refl _ _⟩
  case round =>
    obtain ⟨i, rfl, hi, hO, hb⟩ := hrel
    by_cases hlt : i < n
    · have hil : i < l.length := by have := hl.out; omega
      obtain ⟨ad, rfl, hab, hc⟩ := (h.out.below hb.out).elem hlt hil
      have hnx : Hid (bytesB (l.take (i + 1)) = bytesB (l.take i) ++ loB 8 (l[i]).toNat) := bits_snoc l i hil
      have hv256 := (l[i]).toNat_lt
      obtain ⟨V, hV⟩ : ∃ V, V = (l[i]).toNat := ⟨_, rfl⟩
      rw [← hV] at hc hnx hv256
      obtain ⟨L0, hL0⟩ : ∃ L0, L0 = bytesB (l.take i) := ⟨_, rfl⟩
      rw [← hL0] at hnx hO
      clear hV hL0
      go_wp2_with fail
      go_loopw [3, 5, 6] (fun v3 v5 v6 wx => ∃ k q : Nat, v6 = .int .i64 (k : Int) ∧ k ≤ 8 ∧ v5 = .int .i64 (q : Int) ∧ q < 256 ∧ Hid (q = V / 2 ^ k) ∧ Hid (ON wx w.heap.size v3 (8 * i + k) (L0 ++ loB k V)) ∧ Hid (Below w.heap.size w wx)) (fun _ _ v6 _ => 8 - (intOf v6).toNat)
      case atStart => exact ⟨0, V, rfl, by omega, rfl, hv256, by rw [Nat.pow_zero, Nat.div_one]; rfl, by rw [loB, List.append_nil]; exact hO, hb⟩
      case round =>
        clear hO hb
        obtain ⟨k, q, rfl, hk, rfl, hq, hqe, hO, hb⟩ := hrel
        by_cases hlk : k < 8
        · have hdd : Hid (q / 2 = V / 2 ^ (k + 1)) := by rw [Hid, hqe.out, Nat.div_div_eq_div_mul, ← Nat.pow_succ]
          have hsn : Hid (L0 ++ loB (k + 1) V = L0 ++ (loB k V ++ [q % 2])) := by rw [Hid, loB_snoc, hqe.out]
          have hm : ((q : Int).tmod 2) = ((q % 2 : Nat) : Int) := rfl
          have hdv : ((q : Int).tdiv 2) = ((q / 2 : Nat) : Int) := rfl
          clear hqe
          go_wp2_with (first
            | (at_builtin; refine wpList_app_i (q % 2) (by rfl) rfl _ _ rfl w.heap.size _ _ _ hO.out rfl _ rfl (by omega) hb.out.size ?_)
            | fail)
          all_goals
            intro v' w2 g1 g2 g3 g4
            have g1' : Hid (ON w2 w.heap.size v' (8 * i + (k + 1)) (L0 ++ loB (k + 1) V)) := by rw [hsn.out]; exact g1
            have g2' : Hid (Below w.heap.size w w2) := hb.out.trans g2
            clear g1 g2 g3 g4 hO hb
            go_wp2_with fail
            go_roundw
            case rel => exact ⟨k + 1, q / 2, by go_num, by omega, by go_num, by omega, hdd, g1', g2'⟩
            case measure => simp [intOf]; omega
        · obtain rfl : k = 8 := by omega
          have hO2 : Hid (ON wr w.heap.size u3 (8 * (i + 1)) (bytesB (l.take (i + 1)))) := by rw [hnx.out]; exact hO.out
          go_wp2_with fail
          go_roundw
          case rel => exact ⟨i + 1, by go_num, by omega, hO2, hb⟩
          case measure => simp [intOf]; omega
    · obtain rfl : i = n := by omega
      have hO2 : Hid (ON wr w.heap.size u3 (8 * i) (bytesB l)) := by
        have := hO.out; rwa [List.take_of_length_le (by have := hl.out; omega)] at this
      go_wp2_with fail
      go_ret
      exact IntsRet.mk hO2.out rfl hb.out
/-- The first so many places of a code are nought, the rest is there. -/
def tailB (n v k : Nat) : List Nat := List.replicate k 0 ++ (hiB n v).drop k
theorem tailB_set (n v k : Nat) (hk : k < n) (hv : v < 2 ^ n) : (tailB n v (k + 1)).set k (v / 2 ^ (n - 1 - k) % 2) = tailB n v k := by
  unfold tailB
  refine List.ext_getElem? fun j => ?_
  have hl : k < (hiB n v).length := by rw [hiB_len]; exact hk
  rcases Nat.lt_trichotomy j k with h | h | h
  · rw [List.getElem?_set_ne (by omega), List.getElem?_append_left (by simp; omega), List.getElem?_append_left (by simp; omega), List.getElem?_replicate, List.getElem?_replicate, if_pos (by omega), if_pos h]
  · subst h
    rw [List.getElem?_set_self (by rw [List.length_append, List.length_replicate, List.length_drop]; omega), List.getElem?_append_right (by simp), List.length_replicate, Nat.sub_self, List.getElem?_drop, Nat.add_zero, hiB_get n v j hk]
  · rw [List.getElem?_set_ne (by omega), List.getElem?_append_right (by simp; omega), List.getElem?_append_right (by simp; omega), List.length_replicate, List.length_replicate, List.getElem?_drop, List.getElem?_drop]
    congr 1; omega
set_option maxRecDepth 100000 in
set_option maxHeartbeats 2000000 in
theorem bitsOf_any (w : World) (N V : Int) (n v : Nat) (hN : N = (n : Int)) (hV : V = (v : Int)) (hn : n ≤ 15) (hv : v < 2 ^ n) :
    Calls Tryz.prog 71 #[.int .i64 N, .int .i64 V] w (fun e w' => ∃ g, e = .returned (.slice (some ⟨g, 0, none⟩) n n) ∧ ON w' w.heap.size (.slice (some ⟨g, 0, none⟩) n n) n (hiB n v) ∧ Below w.heap.size w w') := by
  subst hN hV
  have hv2 : v < 32768 := by
    have := Nat.pow_le_pow_right (n := 2) (by omega) hn
    have e : (2 : Nat) ^ 15 = 32768 := by decide
    omega
  have hmk := make_ints' n (by omega) w
  have hO0 : Hid (ON (w.alloc (.cells (((List.replicate n 0).map encI).toArray) 3)) w.heap.size (.slice (some ⟨w.heap.size, 0, none⟩) n n) n (tailB n v n)) := by
    have e : tailB n v n = List.replicate n 0 := by rw [tailB, List.drop_of_length_le (by rw [hiB_len]; exact Nat.le_refl _), List.append_nil]
    rw [e]
    exact ON.made w w.heap.size n _ (by simp) (Nat.le_refl _) (by simp only [maxLen]; omega)
  have hB0 := hide ((Below.refl w.heap.size w).alloc (Nat.le_refl _) (.cells (((List.replicate n 0).map encI).toArray) 3))
  obtain ⟨g, hg⟩ : ∃ g, g = w.heap.size := ⟨_, rfl⟩
  have hgl : w.heap.size ≤ g := by omega
  obtain ⟨w1, hw1⟩ : ∃ w1, w1 = w.alloc (.cells (((List.replicate n 0).map encI).toArray) 3) := ⟨_, rfl⟩
  rw [← hw1] at hmk hO0 hB0
  rw [show (some ⟨w.heap.size, 0, none⟩ : Option Addr) = some ⟨g, 0, none⟩ by rw [hg]] at hmk hO0
  replace hv := hide hv
  clear hw1 hg
  go_enter Tryz.func71, Tryz.ntmps71
  go_wp2_with fail
  go_loopw [1, 6] (fun v1 v6 wr => ∃ k q : Nat, v6 = .int .i64 ((k : Int) - 1) ∧ v1 = .int .i64 (q : Int) ∧ q < 32768 ∧ k ≤ n ∧ Hid (q = v / 2 ^ (n - k)) ∧ Hid (ON wr w.heap.size (.slice (some ⟨g, 0, none⟩) n n) n (tailB n v k)) ∧ Hid (Below w.heap.size w wr)) (fun _ v6 _ => (intOf v6 + 1).toNat)
  case atStart => exact ⟨n, v, rfl, rfl, hv2, Nat.le_refl _, by rw [Hid, Nat.sub_self, Nat.pow_zero, Nat.div_one], hO0, hB0⟩
  case round =>
    clear hO0 hB0
    obtain ⟨k, q, rfl, rfl, hq, hk, hqe, hO, hb⟩ := hrel
    cases k with
    | zero =>
      have hO2 : Hid (ON wr w.heap.size (.slice (some ⟨g, 0, none⟩) n n) n (hiB n v)) := hO
      have e0 : (((0 : Nat) : Int) - 1) = -1 := rfl
      rw [e0]
      clear hO
      go_wp2_with fail
      go_ret
      exact ⟨g, rfl, hO2.out, hb.out⟩
    | succ k =>
      have e1 : (((k + 1 : Nat) : Int) - 1) = (k : Int) := by omega
      rw [e1]
      have hkn : k < n := by omega
      have hm : ((q : Int).tmod 2) = ((q % 2 : Nat) : Int) := rfl
      have hdv : ((q : Int).tdiv 2) = ((q / 2 : Nat) : Int) := rfl
      have hnx : Hid (ON (wr.setCell ⟨g, k, none⟩ (.int .i64 ((q % 2 : Nat) : Int))) w.heap.size (.slice (some ⟨g, 0, none⟩) n n) n (tailB n v k)) := by
        have h1 := OE.stored hO.out k (q % 2)
        have e2 := tailB_set n v k hkn hv.out
        rw [show n - 1 - k = n - (k + 1) by omega, ← hqe.out] at e2
        rw [e2] at h1
        exact h1
      have hnb : Hid (Below w.heap.size w (wr.setCell ⟨g, k, none⟩ (.int .i64 ((q % 2 : Nat) : Int)))) := hb.out.setCell (p := ⟨g, k, none⟩) hgl _
      have hqn : Hid (q / 2 = v / 2 ^ (n - k)) := by
        rw [Hid, hqe.out, Nat.div_div_eq_div_mul, ← Nat.pow_succ, show (n - (k + 1)).succ = n - k by omega]
      have hcell := ON.getD hO.out hkn
      have hfr := OE.froz hO.out (k := k)
      clear hO hb hqe e1
      go_wp2_with fail
      go_roundw
      case rel => exact ⟨k, q / 2, by go_num, by go_num, by omega, by omega, hqn, hnx, hnb⟩
      case measure => simp [intOf]
end Go.Proofs.YtbchaomnjbkdhaaGreat
namespace Go.Proofs.YtbchaomnjbkdhaaGreat
open Go.RowKit
set_option linter.unusedVariables false
/-- Do bits begin so, as far as both go? -/
def begL : List Nat → List Nat → Bool
  | a :: r, b :: s => a == b && begL r s
  | _, _ => true
theorem begL_split : ∀ (x y : List Nat), begL x y = true → (∃ r, x = y ++ r) ∨ ∃ r, y = x ++ r
  | [], y, _ => .inr ⟨y, rfl⟩
  | a :: r, [], _ => .inl ⟨a :: r, rfl⟩
  | a :: r, b :: s, h => by
    rw [begL, Bool.and_eq_true] at h
    obtain ⟨h1, h2⟩ := h
    have h1 : a = b := by simpa using h1
    subst h1
    rcases begL_split r s h2 with ⟨t, rfl⟩ | ⟨t, rfl⟩
    · exact .inl ⟨t, rfl⟩
    · exact .inr ⟨t, rfl⟩
theorem begL_own : ∀ (y r : List Nat), begL (y ++ r) y = true
  | [], r => by cases r <;> rfl
  | a :: y, r => by rw [List.cons_append, begL, begL_own y r]; simp
theorem begL_other (ls : List Nat) (h : codeOk ls) {s t : Nat} (hs : s < ls.length) (ht : t < ls.length) (hs1 : 1 ≤ ls.getD s 0) (ht1 : 1 ≤ ls.getD t 0) (hne : t ≠ s) (r : List Nat) : begL (encS ls s ++ r) (encS ls t) = false := by
  cases hb : begL (encS ls s ++ r) (encS ls t) with
  | false => rfl
  | true =>
    rcases begL_split _ _ hb with ⟨x, hx⟩ | ⟨x, hx⟩
    · exact absurd (enc_free ls h hs ht hs1 ht1 hx) fun e => hne e.symm
    · have hx2 : encS ls s ++ (r ++ x) = encS ls t ++ [] := by rw [List.append_nil, hx, List.append_assoc]
      exact absurd (enc_free ls h hs ht hs1 ht1 hx2) fun e => hne e.symm
theorem begL_drop (x y : List Nat) (k : Nat) (hx : k < x.length) (hy : k < y.length) : begL (x.drop k) (y.drop k) = (x.getD k 0 == y.getD k 0 && begL (x.drop (k + 1)) (y.drop (k + 1))) := by
  rw [List.drop_eq_getElem_cons hx, List.drop_eq_getElem_cons hy, begL, List.getD_eq_getElem?_getD, List.getD_eq_getElem?_getD, List.getElem?_eq_getElem hx, List.getElem?_eq_getElem hy]
  rfl
theorem begL_end (x y : List Nat) (k : Nat) (h : x.length ≤ k ∨ y.length ≤ k) : begL (x.drop k) (y.drop k) = true := by
  rcases h with h | h
  · rw [List.drop_of_length_le h]; cases y.drop k <;> rfl
  · rw [List.drop_of_length_le h]; cases x.drop k <;> rfl
set_option maxRecDepth 100000 in
set_option maxHeartbeats 2000000 in
theorem begins_any (w : World) (A B : Option Addr) (n m c d : Nat) (x y : List Nat) (hx : RN w w.heap.size A n x) (hy : RN w w.heap.size B m y) (hn : n ≤ 100) (hm : m ≤ 100) :
    Calls Tryz.prog 90 #[.slice A n c, .slice B m d] w fun e w' => e = .returned (.bool (begL x y)) ∧ ∃ q, w' = w.drewN q := by
  have hxl := hide hx.len
  have hyl := hide hy.len
  replace hx := hide hx
  replace hy := hide hy
  go_enter Tryz.func90, Tryz.ntmps90
  go_wp2_with fail
  go_loopw [5] (fun v5 wr => ∃ k q : Nat, v5 = .int .i64 (k : Int) ∧ k ≤ n ∧ k ≤ m ∧ Hid (begL x y = begL (x.drop k) (y.drop k)) ∧ Hid (wr = w.drewN q)) (fun v5 _ => m - (intOf v5).toNat)
  case atStart => exact ⟨0, 0, rfl, Nat.zero_le _, Nat.zero_le _, rfl, rfl⟩
  case round =>
    obtain ⟨k, q, rfl, hkn, hkm, hb, hw⟩ := hrel
    by_cases h1 : k < m
    · by_cases h2 : k < n
      · obtain ⟨ad, rfl, _, cx⟩ := hx.out.elem h2
        obtain ⟨bd, rfl, _, cy⟩ := hy.out.elem h1
        have cx' : wr.cell? (ad.add k) = some (.int .i64 ((x.getD k 0 : Nat) : Int)) := by rw [hw.out]; exact cx
        have cy' : wr.cell? (bd.add k) = some (.int .i64 ((y.getD k 0 : Nat) : Int)) := by rw [hw.out]; exact cy
        have hd := begL_drop x y k (by have := hxl.out; omega) (by have := hyl.out; omega)
        clear cx cy
        obtain ⟨X, hX⟩ : ∃ X, X = x.getD k 0 := ⟨_, rfl⟩
        obtain ⟨Y, hY⟩ : ∃ Y, Y = y.getD k 0 := ⟨_, rfl⟩
        rw [← hX] at cx' hd
        rw [← hY] at cy' hd
        clear hX hY
        by_cases hXY : X = Y
        · subst hXY
          have hb2 : Hid (begL x y = begL (x.drop (k + 1)) (y.drop (k + 1))) := by rw [Hid, hb.out, hd]; simp
          clear hd hb
          go_wp2_with fail
          go_quiet (fail)
          go_wp2_with fail
          go_roundw
          case rel => exact ⟨k + 1, q + nq, by go_num, by omega, by omega, hb2, by rw [hw.out]; exact World.drewN_drewN ..⟩
          case measure => simp [intOf]; omega
        · have hne : ((X : Int) == (Y : Int)) = false := by simp; omega
          have hne2 : ((X : Int) != (Y : Int)) = true := by simp; omega
          have hb2 : Hid (begL x y = false) := by rw [Hid, hb.out, hd]; simp [hXY]
          have hXY' := hide hXY
          clear hd hb hXY
          go_wp2_with fail
          go_quiet (fail)
          go_wp2_with fail
          go_ret
          exact ⟨by rw [hb2.out]; rfl, q + nq, by rw [hw.out]; exact World.drewN_drewN ..⟩
      · have hb2 : Hid (begL x y = true) := by rw [Hid, hb.out]; exact begL_end x y k (.inl (by have := hxl.out; omega))
        clear hb
        go_wp2_with fail
        go_ret
        exact ⟨by rw [hb2.out]; rfl, q, hw.out⟩
    · have hb2 : Hid (begL x y = true) := by rw [Hid, hb.out]; exact begL_end x y k (.inr (by have := hyl.out; omega))
      clear hb
      go_wp2_with fail
      go_ret
      exact ⟨by rw [hb2.out]; rfl, q, hw.out⟩
/-- The codes of these lengths in memory, as rows of bits. -/
structure CsAt (w : World) (base : Nat) (g n c : Nat) (ls : List Nat) : Prop where
  len : ls.length = n
  rows : ∃ cells, Blk w g 49 cells ∧ cells.size = n ∧ ∀ s, s < n → ∃ v, cells[s]? = some v ∧ ON w base v (ls.getD s 0) (encS ls s)
section
variable {w w' : World} {base g n c : Nat} {ls : List Nat}
theorem CsAt.keepT (h : CsAt w base g n c ls) (h1 : KeepT 49 w w') (h2 : KeepT 3 w w') : CsAt w' base g n c ls := by
  obtain ⟨h0, cells, hB, hS, hR⟩ := h
  exact ⟨h0, cells, h1 _ _ hB, hS, fun s hs => by
    obtain ⟨v, hv, ho⟩ := hR s hs
    exact ⟨v, hv, OE.keepT ho h2⟩⟩
theorem CsAt.below (h : CsAt w base g n c ls) (hb : Below w.heap.size w w') : CsAt w' base g n c ls :=
  h.keepT (fun g cs hB => hB.below hb hB.lt) (fun g cs hB => hB.below hb hB.lt)
theorem CsAt.row (h : CsAt w base g n c ls) {s : Nat} (hs : s < n) : ∃ A c', w.cell? ⟨g, s, none⟩ = some (.slice A (ls.getD s 0) c') ∧ RN w w.heap.size A (ls.getD s 0) (encS ls s) := by
  obtain ⟨h0, cells, hB, hS, hR⟩ := h
  obtain ⟨v, hv, ho⟩ := hR s hs
  obtain ⟨A, c', rfl, hr, _⟩ := ho.rn
  exact ⟨A, c', by rw [hB.cell]; exact hv, hr⟩
end
/-- What Next leaves: the symbol, how many bits. -/
def Next5 (w : World) (ls : List Nat) (s : Nat) (e : Ending) (w' : World) : Prop := e = .returned (.agg #[.int .i64 (s : Int), .int .i64 ((ls.getD s 0 : Nat) : Int), .int .i64 0]) ∧ Below w.heap.size w w'
set_option maxRecDepth 100000 in
set_option maxHeartbeats 4000000 in
theorem next5_any (w : World) (base g n c f : Nat) (ls : List Nat) (B : Option Addr) (m d s : Nat) (x r : List Nat) (hC : CsAt w base g n c ls) (hok : codeOk ls) (hn : n ≤ 320)
    (hx : RN w w.heap.size B m x) (hm : m ≤ 15) (hs : s < n) (hs1 : 1 ≤ ls.getD s 0) (he : x = encS ls s ++ r) :
    Calls Tryz.prog 73 #[.agg #[.slice (some ⟨g, 0, none⟩) n c, .int .i64 (f : Int)], .slice B m d] w (Next5 w ls s) := by
  have hlen := hide hC.len
  have hsl : s < ls.length := by have := hlen.out; omega
  have hxl := hx.len
  have hxs : ls.getD s 0 ≤ m := by
    rw [← hxl, he, List.length_append, encS_len]; omega
  have hfree : ∀ t, t < s → 1 ≤ ls.getD t 0 → begL x (encS ls t) = false := fun t ht ht1 => by
    rw [he]; exact begL_other ls hok hsl (by omega) hs1 ht1 (by omega) r
  have hown : begL x (encS ls s) = true := by rw [he]; exact begL_own _ r
  have h15 : ∀ t, t < n → ls.getD t 0 ≤ 15 := fun t ht => by
    have htl : t < ls.length := by have := hlen.out; omega
    rw [List.getD_eq_getElem?_getD, List.getElem?_eq_getElem htl]
    exact hok.1 _ (List.getElem_mem htl)
  replace hfree := hide hfree
  replace hown := hide hown
  replace h15 := hide h15
  replace hok := hide hok
  replace hC := hide hC
  replace hx := hide hx
  replace he := hide he
  replace hxl := hide hxl
  replace hsl := hide hsl
  go_enter Tryz.func73, Tryz.ntmps73
  go_wp2_with fail
  have hB2 : Hid (Blk ((w.alloc (.cells #[.slice (some ⟨g, 0, none⟩) n c, .int .i64 (f : Int)] 93)).alloc (.cells #[.int .i64 0, .int .i64 0, .int .i64 0] 123)) w.heap.size 93 #[.slice (some ⟨g, 0, none⟩) n c, .int .i64 (f : Int)]) := (Blk.new w _ _).alloc _
  have hB4 : Hid (Blk ((w.alloc (.cells #[.slice (some ⟨g, 0, none⟩) n c, .int .i64 (f : Int)] 93)).alloc (.cells #[.int .i64 0, .int .i64 0, .int .i64 0] 123)) (w.heap.size + 1) 123 #[.int .i64 0, .int .i64 0, .int .i64 0]) := by
    have := Blk.new (w.alloc (.cells #[.slice (some ⟨g, 0, none⟩) n c, .int .i64 (f : Int)] 93)) 123 #[.int .i64 0, .int .i64 0, .int .i64 0]
    rwa [World.size_alloc] at this
  have hb0 : Hid (Below w.heap.size w ((w.alloc (.cells #[.slice (some ⟨g, 0, none⟩) n c, .int .i64 (f : Int)] 93)).alloc (.cells #[.int .i64 0, .int .i64 0, .int .i64 0] 123))) := ((Below.refl _ _).alloc (Nat.le_refl _) _).alloc (by simp) _
  go_loopw [5, 6] (fun v5 v6 wr => ∃ t : Nat, v5 = .int .i64 12 ∧ v6 = .int .i64 (t : Int) ∧ t ≤ s ∧ Hid (Below w.heap.size w wr) ∧ Hid (Blk wr w.heap.size 93 #[.slice (some ⟨g, 0, none⟩) n c, .int .i64 (f : Int)]) ∧ Hid (Blk wr (w.heap.size + 1) 123 #[.int .i64 0, .int .i64 0, .int .i64 0])) (fun _ v6 _ => n - (intOf v6).toNat)
  case atStart => exact ⟨0, rfl, rfl, Nat.zero_le _, hb0, hB2, hB4⟩
  case round =>
    clear hb0 hB2 hB4
    obtain ⟨t, rfl, rfl, hts, hb, hB2, hB4⟩ := hrel
    have htn : t < n := by omega
    have c20 : wr.cell? ⟨w.heap.size, 0, none⟩ = some (.slice (some ⟨g, 0, none⟩) n c) := hB2.out.cell 0
    obtain ⟨A, c', hrow, hrn⟩ := (hC.out.below hb.out).row htn
    have hL15 := h15.out t htn
    have hbeg := hide (fun k => begins_any (wr.drewN k) B A m (ls.getD t 0) d c' x (encS ls t) ((hx.out.below hb.out).more hb.out.size) hrn (by omega) (by omega))
    have hcase : (t < s ∧ ls.getD t 0 = 0) ∨ (t < s ∧ 1 ≤ ls.getD t 0 ∧ begL x (encS ls t) = false) ∨ (t = s ∧ 1 ≤ ls.getD t 0 ∧ begL x (encS ls t) = true ∧ ls.getD t 0 ≤ m) := by
      by_cases h : t = s
      · subst h; exact .inr (.inr ⟨rfl, hs1, hown.out, hxs⟩)
      · by_cases h0 : ls.getD t 0 = 0
        · exact .inl ⟨by omega, h0⟩
        · exact .inr (.inl ⟨by omega, by omega, hfree.out t (by omega) (by omega)⟩)
    obtain ⟨L, hL⟩ : ∃ L, L = ls.getD t 0 := ⟨_, rfl⟩
    rw [← hL] at hrow hL15 hbeg hcase
    obtain ⟨E, hE⟩ : ∃ E, E = encS ls t := ⟨_, rfl⟩
    rw [← hE] at hbeg hcase
    replace hE := hide hE
    replace hL := hide hL
    clear hrn
    have hbl : Hid (w.heap.size ≤ wr.heap.size) := hb.out.size
    rcases hcase with ⟨h1, rfl⟩ | ⟨h1, h2, h3⟩ | ⟨h1, h2, h3, h4⟩
    · go_wp2_with fail
      go_roundw
      case rel => exact ⟨t + 1, rfl, by go_num, by omega, hb, hB2, hB4⟩
      case measure => simp [intOf]; omega
    · have hne : ((L : Int) == 0) = false := by simp; omega
      rw [h3] at hbeg
      replace h3 := hide h3
      go_wp2_with fail
      refine (hbeg.out 0).mono ?_
      rintro e w2 ⟨rfl, q, rfl⟩
      go_wp2_with fail
      go_roundw
      case rel => exact ⟨t + 1, rfl, by go_num, by omega, below_drewN (hb.out) q, hB2.out.drewN q, hB4.out.drewN q⟩
      case measure => simp [intOf]; omega
    · subst h1
      have hne : ((L : Int) == 0) = false := by simp; omega
      rw [h3] at hbeg
      replace h3 := hide h3
      have f40 := hB4.out.frozen 0
      have f41 := hB4.out.frozen 1
      have f42 := hB4.out.frozen 2
      have c40 := hB4.out.cell 0
      have c41 := hB4.out.cell 1
      have c42 := hB4.out.cell 2
      go_wp2_with fail
      refine (hbeg.out 0).mono ?_
      rintro e w2 ⟨rfl, q, rfl⟩
      go_wp2_with fail
      have hB5 := (hB4.out.drewN q).own3 (.int .i64 (t : Int)) (.int .i64 (L : Int)) (.int .i64 0)
      have hb5 := below_set3 (k := w.heap.size + 1) (below_drewN hb.out q) (by omega) (.int .i64 (t : Int)) (.int .i64 (L : Int)) (.int .i64 0)
      generalize (((wr.drewN q).setCell { block := w.heap.size + 1, off := 0 } (.int .i64 (t : Int))).setCell { block := w.heap.size + 1, off := 1 } (.int .i64 (L : Int))).setCell { block := w.heap.size + 1, off := 2 } (.int .i64 0) = w5 at *
      have d0 := hB5.cell 0
      have d1 := hB5.cell 1
      have d2 := hB5.cell 2
      refine bodyPost_ret (v := .agg #[.int .i64 (t : Int), .int .i64 (L : Int), .int .i64 0]) (by simp [results, Tryz.results73, go_sem, d0, d1, d2]) rfl ⟨by rw [hL.out], hb5⟩
end Go.Proofs.YtbchaomnjbkdhaaGreat
