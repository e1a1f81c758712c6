/-
  The walk of the law DeflateStored.
-/
import Derived.Test.YtenmckkppcanmaaRStored
import Derived.Lib.SlBytesConst
namespace Go.Proofs.Ytenmckkppcanmaa
open Go.RowKit
set_option linter.unusedVariables false

set_option maxRecDepth 100000 in
set_option maxHeartbeats 1000000 in
theorem sameB_any (w : World) (A B : Option Addr) (n c d : Nat) (l : List UInt8) (ha : RB w w.heap.size A n l) (hb : RB w w.heap.size B n l) (hn : n ≤ 100000000) :
    Calls Try.prog 6 #[.slice A n c, .slice B n d] w fun e w' => e = .returned (.bool true) ∧ Below w.heap.size w w' := by
  have hlen := hide ha.len
  replace ha := hide ha
  replace hb := hide hb
  go_enter Try.func6, Try.ntmps6
  go_wp2_with fail
  go_loopw [5] (fun i wr => ∃ k : Nat, k ≤ n ∧ i = .int .i64 k ∧ Below w.heap.size w wr) (fun i _ => n - (intOf i).toNat)
  case atStart => exact ⟨0, by omega, rfl, Below.refl _ _⟩
  case round =>
    obtain ⟨k, hk, rfl, hbl⟩ := hrel
    by_cases h1 : k < n
    · have hkl : k < l.length := by have := hlen.out; omega
      obtain ⟨ad, rfl, hab, c0⟩ := (ha.out.below hbl).elem h1 hkl
      obtain ⟨bd, rfl, hbb, d0⟩ := (hb.out.below hbl).elem h1 hkl
      generalize l[k] = x at *
      go_wp2_with fail
      go_quiet (fail)
      go_wp2_with fail
      go_roundw
      case rel => exact ⟨k + 1, by omega, by go_num, below_drewN hbl _⟩
      case measure => simp [intOf]; omega
    · go_wp2_with fail
      go_ret
      exact ⟨rfl, hbl⟩

theorem RB.six (w : World) (t : TypeId) : RB (w.alloc (.cells #[.int .u8 1, .int .u8 1, .int .u8 0, .int .u8 254, .int .u8 255, .int .u8 97] t)) (w.heap.size + 1) (some ⟨w.heap.size, 0, none⟩) 6 [1, 1, 0, 254, 255, 97] := by
  refine ⟨rfl, fun _ => ⟨_, rfl, Nat.lt_succ_self _, fun j u hj => ?_⟩⟩
  have hc := cell_of_row _ _ j _ t (0, 0) (heap_alloc_new w (.cells #[.int .u8 1, .int .u8 1, .int .u8 0, .int .u8 254, .int .u8 255, .int .u8 97] t))
  have e : (Addr.mk w.heap.size 0 none).add j = ⟨w.heap.size, j, none⟩ := by
    unfold Addr.add
    by_cases h0 : j = 0
    · subst h0; rfl
    · rw [if_neg h0]; simp
  rw [e, hc]
  have hv : bv [1, 1, 0, 254, 255, 97] = [.int .u8 1, .int .u8 1, .int .u8 0, .int .u8 254, .int .u8 255, .int .u8 97] := rfl
  rw [hv] at hj
  simpa using hj
set_option maxRecDepth 100000 in
set_option maxHeartbeats 1000000 in
theorem wakes07_any (w : World) : Calls Try.prog 4 #[] w fun e w' => e = .returned (.bool true) ∧ Below w.heap.size w w' := by
  have hst : Hid (storedS 2 [97] = [1, 1, 0, 254, 255, 97]) := by rw [Hid]; decide +kernel
  have hR : Hid (RB (w.alloc (.cells #[.int .u8 97] 5 (1, 2))) (w.alloc (.cells #[.int .u8 97] 5 (1, 2))).heap.size (some ⟨w.heap.size, 0, none⟩) 1 [97]) := by
    refine ⟨rfl, fun _ => ⟨_, rfl, by simp, fun j u hj => ?_⟩⟩
    match j, hj with
    | 0, hj =>
      have hc := cell_of_row _ _ 0 _ 5 (1, 2) (heap_alloc_new w (.cells #[.int .u8 97] 5 (1, 2)))
      rw [show (Addr.mk w.heap.size 0 none).add 0 = ⟨w.heap.size, 0, none⟩ from rfl, hc]
      simpa [bv] using hj
  have hb0 : Below w.heap.size w (w.alloc (.cells #[.int .u8 97] 5 (1, 2))) := (Below.refl _ _).alloc (Nat.le_refl _) _
  have kc := fun (wx : World) (C : Array Value) (n c : Nat) => Lib.run_convert_bytes_const (P := Try.prog) wx 22 5 C n c Try.underlying22 Try.underlying5
  go_enter Try.func4, Try.ntmps4
  go_wp2_with fail
  refine (pack_any _ _ 1 1 [97] hR.out (by omega) (by omega)).mono ?_
  rintro e w1 ⟨v1, rfl, ho1, hb1⟩
  rw [hst.out] at ho1
  obtain ⟨A1, c1, rfl, hR1, -, -, -⟩ := ho1.form
  have hb1' := hb0.trans (hb1.mono hb0.size)
  have hs1 := hb1'.size
  replace hR1 := hide hR1
  clear hb1 ho1 hR
  have h6 : Hid (RB (w1.alloc (.cells #[.int .u8 1, .int .u8 1, .int .u8 0, .int .u8 254, .int .u8 255, .int .u8 97] 5)) (w1.heap.size + 1) (some ⟨w1.heap.size, 0, none⟩) 6 [1, 1, 0, 254, 255, 97]) := RB.six w1 5
  go_wp2_with fail
  have hz : (w1.alloc (.cells #[.int .u8 1, .int .u8 1, .int .u8 0, .int .u8 254, .int .u8 255, .int .u8 97] 5)).heap.size = w1.heap.size + 1 := by simp
  refine (sameB_any _ A1 _ 6 c1 6 [1, 1, 0, 254, 255, 97] (by rw [hz]; exact (hR1.out.alloc (Nat.le_refl _) _).more (Nat.le_succ _)) (by rw [hz]; exact h6.out) (by omega)).mono ?_
  rintro e w2 ⟨rfl, hb2⟩
  have hb2' := (hb1'.alloc hs1 _).trans (hb2.mono (by rw [hz]; omega))
  go_wp2_with fail
  go_ret
  exact ⟨rfl, hb2'⟩

/-- So many times the same bytes. -/
def timesL (b : List UInt8) : Nat → List UInt8
  | 0 => []
  | k + 1 => timesL b k ++ b
theorem timesL_len (b : List UInt8) : ∀ k, (timesL b k).length = k * b.length
  | 0 => by simp [timesL]
  | k + 1 => by rw [timesL, List.length_append, timesL_len b k, Nat.succ_mul]

set_option maxRecDepth 100000 in
set_option maxHeartbeats 2000000 in
theorem deflateStored_walk (w : World) (A : Option Addr) (n c : Nat) (b : List UInt8) (hb : RB w w.heap.size A n b) (hnc : n ≤ c) (x : Int) (hx0 : 0 ≤ x) (hx1 : x ≤ 255) (hc : c ≤ maxLen) :
    Calls Try.prog 3 #[.slice A n c, .int .u8 x] w fun e w' => e = .returned (.bool true) ∧ Below w.heap.size w w' := by
  have hlen := hide hb.len
  replace hb := hide hb
  unfold maxLen at hc
  obtain ⟨m, rfl⟩ : ∃ m : Nat, x = (m : Int) := ⟨x.toNat, by omega⟩
  go_enter Try.func3, Try.ntmps3
  go_wp2_with fail
  refine (wakes07_any w).mono ?_
  rintro e w1 ⟨rfl, hb1⟩
  have hR1 := hide (hb.out.below hb1)
  have hs1 := hb1.size
  by_cases h1000 : n ≤ 1000
  · go_wp2_with fail
    go_loopw [5, 16] (fun v i wr => ∃ k : Nat, k ≤ m + 1 ∧ i = .int .i64 k ∧ OB wr w1.heap.size v (k * n) (timesL b k) ∧ Below w.heap.size w wr ∧ Below w1.heap.size w1 wr) (fun _ i _ => m + 1 - (intOf i).toNat)
    case atStart => exact ⟨0, by omega, rfl, by rw [Nat.zero_mul]; exact OB.nil _ _, hb1, Below.refl _ _⟩
    case round =>
      obtain ⟨k, hk, rfl, hO, hbl, hbl1⟩ := hrel
      obtain ⟨vA, vc, rfl, hRv, -, hvc, hvc2⟩ := hO.form
      have hkn : k * n ≤ 256000 := by
        have h1 : k ≤ 256 := by omega
        have h2 := Nat.mul_le_mul h1 h1000
        omega
      obtain ⟨q, hq⟩ : ∃ q, q = k * n := ⟨_, rfl⟩
      rw [← hq] at hO hRv hkn hvc ⊢
      have hqn : Hid (q + n = (k + 1) * n) := by rw [Hid, hq, Nat.succ_mul]
      replace hq := hide hq
      replace hO := hide hO
      replace hRv := hide hRv
      have hRb := hide (hb.out.below hbl)
      have hsz := hbl.size
      have hsz1 := hbl1.size
      by_cases h1 : k < m + 1
      · have hki : (k : Int) < 1 + (m : Int) := by omega
        go_wp2_with (at_builtin; refine wpList_app_b rfl (.tmp 18) (.tmp 19) rfl w1.heap.size _ _ _ hO.out rfl w.heap.size A n c b rfl hRb.out (by omega) hsz1 ?_; intro v2 w2 ho2 hb2 hg2 _; obtain ⟨A2, c2, rfl, -⟩ := ho2.form; replace ho2 := hide ho2; have hb2' := hbl.trans (hb2.mono hs1); have hb21 := hbl1.trans hb2; clear hb2 hg2 hRb hRv hO)
        go_roundw
        case rel => exact ⟨k + 1, by omega, by go_num, by rw [← hqn.out]; exact ho2.out, hb2', hb21⟩
        case measure => simp [intOf]; omega
      · have hki : ¬ (k : Int) < 1 + (m : Int) := by omega
        generalize timesL b k = L at *
        go_wp2_with fail
        refine (pack_any wr vA q vc L hRv.out hvc (by omega)).mono ?_
        rintro e w2 ⟨v2, rfl, ho2, hb2⟩
        have hsl := storedS_len (q + 1) L
        have hLq := hRv.out.len
        rw [hLq] at hsl
        obtain ⟨A2, c2, rfl, hR2, -, -, -⟩ := ho2.form
        have hbl2 := hbl.trans (hb2.mono hsz)
        have hRv2 := hide ((hRv.out.below hb2).more hb2.size)
        have hsz2 := hbl2.size
        obtain ⟨S, hS⟩ : ∃ S, S = storedS (q + 1) L := ⟨_, rfl⟩
        rw [← hS] at ho2 hR2 hsl ⊢
        replace hS := hide hS
        replace hR2 := hide hR2
        replace hLq := hide hLq
        clear ho2 hb2
        go_wp2_with fail
        refine (rstored_any w2 vA q vc L hRv2.out hvc (by omega)).mono ?_
        rintro e w3 ⟨v3, rfl, ho3, hb3⟩
        rw [← hS.out] at ho3
        obtain ⟨A3, c3, rfl, hR3, -, -, -⟩ := ho3.form
        have hbl3 := hbl2.trans (hb3.mono hsz2)
        have hR23 := hide ((hR2.out.below hb3).more hb3.size)
        have hsz3 := hbl3.size
        replace hR3 := hide hR3
        clear ho3 hb3 hR2 hRv2
        go_wp2_with fail
        refine (sameB_any w3 A2 A3 S.length c2 c3 S hR23.out hR3.out (by omega)).mono ?_
        rintro e w4 ⟨rfl, hb4⟩
        have hbl4 := hbl3.trans (hb4.mono hsz3)
        clear hb4
        go_wp2_with fail
        go_ret
        exact ⟨rfl, hbl4⟩
  · go_wp2_with fail
    go_ret
    exact ⟨rfl, hb1⟩
theorem deflateStored_true (w : World) (A : Option Addr) (n c : Nat) (b : List UInt8) (hb : RB w w.heap.size A n b) (hc : n ≤ c ∧ c ≤ maxLen) (x : Int) (wx : (Lit.int .u8 x).wf = true) :
    Calls Try.prog 3 #[.slice A n c, .int .u8 x] w fun e w' => e = .returned (.bool true) ∧ Below w.heap.size w w' := by
  have hx : 0 ≤ x ∧ x ≤ 255 := by
    simp [Lit.wf, IntKind.min, IntKind.max, IntKind.signed, IntKind.bits] at wx
    omega
  exact deflateStored_walk w A n c b hb hc.1 x hx.1 hx.2 hc.2
end Go.Proofs.Ytenmckkppcanmaa
