/-
  The walk of the law DeflateSizes.
-/
import Derived.Test.YtbchaomnjbkdhaaPackD
import Derived.Test.YtbchaomnjbkdhaaTimes
import Derived.Test.YtbchaomnjbkdhaaLawStored
namespace Go.Proofs.Ytbchaomnjbkdhaa
open Go.RowKit
set_option linter.unusedVariables false

def fillB (x : UInt8) (K i : Nat) : List UInt8 := List.replicate i x ++ List.replicate (K - i) 0
theorem fillB_zero (x : UInt8) (K : Nat) : fillB x K 0 = List.replicate K 0 := by simp [fillB]
theorem fillB_all (x : UInt8) (K : Nat) : fillB x K K = List.replicate K x := by simp [fillB]
theorem fillB_set (x : UInt8) (K i : Nat) (h : i < K) : (fillB x K i).set i x = fillB x K (i + 1) := by
  unfold fillB
  rw [List.set_append_right _ _ (by simp), List.length_replicate, Nat.sub_self, List.replicate_succ' (n := i), List.append_assoc]
  congr 1
  obtain ⟨d, hd⟩ : ∃ d, K - i = d + 1 := ⟨K - i - 1, by omega⟩
  rw [hd, show K - (i + 1) = d by omega]
  rfl
theorem fixB_size (b : List UInt8) : (stB (fixB b)).1.length ≤ (9 * b.length + 17) / 8 := by
  rw [stB_len]
  have h := fixed_bound b
  have hlen : (fixB b).length = 3 + costL fixedLits fixedDist (itemsL b) := by
    unfold fixB
    rw [List.length_append, List.length_append, loB_len, loB_len, encL_len]
  omega
theorem make_bytes' (n : Nat) (hn : n ≤ 100000) (w : World) : (Instr.makeSlice 22 (.int .i64 (n : Int)) (.int .i64 (n : Int))).run Try.prog w = .ok (.slice (some ⟨w.heap.size, 0, none⟩) n n) (w.alloc (.cells ((bv (List.replicate n 0)).toArray) 5)) := by
  obtain ⟨i0, hi, hz0, hz1, hz2⟩ := info_parts byte_info
  have e : madeCells (Value.int .u8 0).cells (n * 1) = ((bv (List.replicate n 0)).toArray) := by
    unfold madeCells
    apply Array.ext
    · simp [bv, Value.cells]
    · intro i h1 h2
      simp [bv, Value.cells, Nat.mod_one]
  rw [run_make_rowN 22 5 i0 (.int .u8 0) Try.underlying22 hi hz0 .i64 .i64 n n (Nat.le_refl _) (by rw [hz2]; omega) (by omega) w, hz1, e]
theorem OB.made (w : World) (base n : Nat) (l : List UInt8) (hl : l.length = n) (hb : base ≤ w.heap.size) (hn : n ≤ maxLen) : OB (w.alloc (.cells ((bv l).toArray) 5)) base (.slice (some ⟨w.heap.size, 0, none⟩) n n) n l := by
  refine ⟨by simpa [bv] using hl, .inr ⟨w.heap.size, n, _, rfl, hb, heap_alloc_new w _, Nat.le_refl _, hn, by simpa [bv] using hl, ?_⟩⟩
  rw [Nat.mul_one]
  exact List.take_of_length_le (by simpa [bv] using Nat.le_of_eq hl)
/-- A row of equal bytes is packed to few. -/
theorem packs_any (j : Nat) (hj : j < 2) (w : World) (A : Option Addr) (K c : Nat) (x : UInt8) (hb : RB w w.heap.size A K (List.replicate K x)) (hc : K ≤ c) (h1 : 100 ≤ K) (h2 : K ≤ 100000) :
    Calls Try.prog 5 #[.slice A K c, .int .i64 ((j + 1 : Nat) : Int)] w fun e w' => ∃ A' m c', e = .returned (.tuple #[.slice A' m c', .int .i64 0]) ∧ m ≤ K / 10 + 20 ∧ Below w.heap.size w w' := by
  match j, hj with
  | 0, _ =>
    refine (packF_any w A K c _ hb hc (by omega)).mono ?_
    rintro e w' ⟨v, rfl, ho, hbl⟩
    obtain ⟨A', c', rfl, -, -, -, -⟩ := ho.form
    exact ⟨A', _, c', rfl, by rw [stB_len]; exact row_fix x K h1, hbl⟩
  | 1, _ =>
    refine (packD_any w A K c _ hb hc h2).mono ?_
    rintro e w' ⟨v, rfl, ho, hbl⟩
    obtain ⟨A', c', rfl, -, -, -, -⟩ := ho.form
    exact ⟨A', _, c', rfl, by rw [stB_len]; exact row_dyn x K h1 (by omega), hbl⟩
set_option maxRecDepth 100000 in
set_option maxHeartbeats 2000000 in
theorem deflateSizes_walk (w : World) (A : Option Addr) (n c : Nat) (b : List UInt8) (hb : RB w w.heap.size A n b) (hnc : n ≤ c) (x : UInt8) (m : Nat) (hm : m ≤ 65535) (hc : c ≤ maxLen) :
    Calls Try.prog 3 #[.slice A n c, .int .u8 (x.toNat : Int), .int .u16 (m : Int)] w fun e w' => e = .returned (.bool true) ∧ Below w.heap.size w w' := by
  have hlen := hide hb.len
  replace hb := hide hb
  unfold maxLen at hc
  obtain ⟨K, hK⟩ : ∃ K, K = 100 + m % 5000 := ⟨_, rfl⟩
  have hK1 : 100 ≤ K := by omega
  have hK2 : K ≤ 5099 := by omega
  replace hK := hide hK
  obtain ⟨z, hz⟩ : ∃ z, z = x.toNat := ⟨_, rfl⟩
  rw [← hz]
  replace hz := hide hz
  go_enter Try.func3, Try.ntmps3
  go_wp2_with fail
  refine (wakes07_any w).mono ?_
  rintro e w1 ⟨rfl, hb1⟩
  have hR1 := hide (hb.out.below hb1)
  have hs1 := hb1.size
  by_cases h2000 : n ≤ 2000
  · go_wp2_with fail
    refine (packF_any w1 A n c b (hR1.out.more hs1) hnc (by omega)).mono ?_
    rintro e w2 ⟨v2, rfl, ho2, hb2⟩
    obtain ⟨A2, c2, rfl, hR2, -, -, -⟩ := ho2.form
    have hsz := fixB_size b
    rw [hlen.out] at hsz
    obtain ⟨P, hP⟩ : ∃ P, P = (stB (fixB b)).1.length := ⟨_, rfl⟩
    rw [← hP] at hsz ⊢
    have hbl2 := hide (hb1.trans (hb2.mono hs1))
    clear ho2 hR2 hb2 hP
    have hdec : decide ((9 * (n : Int) + 10 + 7) / 8 < (P : Int)) = false := by
      rw [decide_eq_false_iff_not]; omega
    have hKe : Value.int .i64 (100 + (m : Int) % 5000) = .int .i64 (K : Int) := by
      have := hK.out
      congr 1
      omega
    replace hKe := hide hKe
    go_upto_region 8 with (fail)
    go_cut [9] (fun v wx => v = .int .i64 (K : Int) ∧ wx = w2)
    case first =>
      go_wp2_with fail
      go_meet
      case rel => exact ⟨hKe.out, rfl⟩
    case rest =>
      obtain ⟨rfl, rfl⟩ := hcut
      have hmk := make_bytes' K (by omega) wc
      have hO1 := OB.made wc w.heap.size K (List.replicate K 0) List.length_replicate hbl2.out.size (by simp only [maxLen]; omega)
      have hB1 := hide (hbl2.out.alloc hbl2.out.size (.cells ((bv (List.replicate K 0)).toArray) 5))
      rw [← fillB_zero x K] at hO1
      have hz1 : ((bv (fillB x K 0)).toArray) = ((bv (List.replicate K 0)).toArray) := by rw [fillB_zero]
      rw [hz1] at hO1
      generalize (bv (List.replicate K 0)).toArray = zz at *
      replace hO1 := hide hO1
      clear hz1 hdec hsz
      go_wp2_with fail
      generalize wc.alloc (.cells zz 5) = wi at *
      obtain ⟨ga, hga⟩ : ∃ ga, ga = wc.heap.size := ⟨_, rfl⟩
      rw [← hga] at hO1 ⊢
      have hgaw : w.heap.size ≤ ga := by rw [hga]; exact hbl2.out.size
      clear hga hmk hbl2
      go_loopw [47] (fun v wx => ∃ i : Nat, v = .int .i64 (i : Int) ∧ i ≤ K ∧ Hid (OB wx w.heap.size (.slice (some ⟨ga, 0, none⟩) K K) K (fillB x K i)) ∧ Hid (Below w.heap.size w wx)) (fun v _ => K - (intOf v).toNat)
      case atStart => exact ⟨0, rfl, Nat.zero_le _, hO1, hB1⟩
      case round =>
        clear hO1 hB1
        obtain ⟨i, rfl, hi, hO, hB⟩ := hrel
        have hlf := hO.out.len
        by_cases hlt : i < K
        · have cc := hO.out.cell (k := i) hlt (by omega)
          have cf := OB.froz (k := i) hO.out
          generalize (fillB x K i)[i] = y at *
          have hO2 : Hid (OB (wr.setCell ⟨ga, i, none⟩ (.int .u8 (z : Int))) w.heap.size (.slice (some ⟨ga, 0, none⟩) K K) K (fillB x K (i + 1))) := by
            rw [← fillB_set x K i hlt, hz.out]; exact hO.out.stored i x
          have hB2 : Hid (Below w.heap.size w (wr.setCell ⟨ga, i, none⟩ (.int .u8 (z : Int)))) := hB.out.setCell (p := ⟨ga, i, none⟩) hgaw _
          replace hlf := hide hlf
          have hik : (i : Int) < (K : Int) := by omega
          have hi0 : (0 : Int) ≤ (i : Int) := by omega
          go_wp2_with fail
          go_roundw
          case rel => exact ⟨i + 1, by go_num, hlt, hO2, hB2⟩
          case measure => simp [intOf]; omega
        · obtain rfl : i = K := by omega
          rw [fillB_all] at hO
          replace hlf := hide hlf
          have hsr := hB.out.size
          have hP0 := Blk.new wr 3 #[.int .i64 1, .int .i64 2]
          have hO2 := hide (hO.out.alloc (.cells #[.int .i64 1, .int .i64 2] 3))
          have hB2 := hide (hB.out.alloc hsr (.cells #[.int .i64 1, .int .i64 2] 3))
          go_wp2_with fail
          generalize wr.alloc (.cells #[.int .i64 1, .int .i64 2] 3) = wk at *
          obtain ⟨gk, hgk⟩ : ∃ gk, gk = wr.heap.size := ⟨_, rfl⟩
          rw [← hgk] at hP0 ⊢
          replace hP0 := hide hP0
          clear hgk hO hB hsr hlf
          go_loopw [57] (fun v wx => ∃ j : Nat, v = .int .i64 (j : Int) ∧ j ≤ 2 ∧ Hid (OB wx w.heap.size (.slice (some ⟨ga, 0, none⟩) i i) i (List.replicate i x)) ∧ Hid (Blk wx gk 3 #[.int .i64 1, .int .i64 2]) ∧ Hid (Below w.heap.size w wx)) (fun v _ => 2 - (intOf v).toNat)
          case atStart => exact ⟨0, rfl, Nat.zero_le _, hO2, hP0, hB2⟩
          case round =>
            clear hO2 hP0 hB2
            obtain ⟨j, rfl, hj, hO, hP, hB⟩ := hrel
            obtain ⟨Aa, ca, he, hRa, -, hca, -⟩ := hO.out.form
            cases he
            by_cases hj2 : j < 2
            · have cj : wr.cell? ⟨gk, j, none⟩ = some (.int .i64 ((j + 1 : Nat) : Int)) := by
                rw [hP.out.cell]
                match j, hj2 with
                | 0, _ => rfl
                | 1, _ => rfl
              have hjI : (j : Int) < 2 := by omega
              have hj0 : (0 : Int) ≤ (j : Int) := by omega
              have hpk := hide (packs_any j hj2 wr (some ⟨ga, 0, none⟩) i i x hRa hca (by omega) (by omega))
              clear hRa
              go_wp2_with fail
              refine hpk.out.mono ?_
              rintro e w3 ⟨A', m', c', rfl, hm', hb3⟩
              have hO3 := hide (hO.out.below hb3 (Nat.le_refl _))
              have hP3 := hide (hP.out.below hb3 hP.out.lt)
              have hB3 := hide (hB.out.trans (hb3.mono hB.out.size))
              have hdec : decide ((i : Int) / 10 + 20 < (m' : Int)) = false := by
                rw [decide_eq_false_iff_not]; omega
              clear hpk hO hP hB cj hb3
              go_wp2_with fail
              go_roundw
              case rel => exact ⟨j + 1, by go_num, hj2, hO3, hP3, hB3⟩
              case measure => simp [intOf]; omega
            · obtain rfl : j = 2 := by omega
              have htm := hide (times_any wr (some ⟨ga, 0, none⟩) i i x hRa (by omega))
              clear hRa
              go_wp2_with fail
              refine htm.out.mono ?_
              rintro e w3 ⟨rfl, hb3⟩
              have hB3 := hB.out.trans (hb3.mono hB.out.size)
              clear htm
              go_wp2_with fail
              go_ret
              exact ⟨rfl, hB3⟩
  · go_wp2_with fail
    go_ret
    exact ⟨rfl, hb1⟩
theorem deflateSizes_true (w : World) (A : Option Addr) (n c : Nat) (b : List UInt8) (hb : RB w w.heap.size A n b) (hc : n ≤ c ∧ c ≤ maxLen) (x : Int) (wx : (Lit.int .u8 x).wf = true) (y : Int) (wy : (Lit.int .u16 y).wf = true) :
    Calls Try.prog 3 #[.slice A n c, .int .u8 x, .int .u16 y] w fun e w' => e = .returned (.bool true) ∧ Below w.heap.size w w' := by
  have hx : 0 ≤ x ∧ x ≤ 255 := by
    simp [Lit.wf, IntKind.min, IntKind.max, IntKind.signed, IntKind.bits] at wx
    omega
  have hy : 0 ≤ y ∧ y ≤ 65535 := by
    simp [Lit.wf, IntKind.min, IntKind.max, IntKind.signed, IntKind.bits] at wy
    omega
  obtain ⟨m, rfl⟩ : ∃ m : Nat, y = (m : Int) := ⟨y.toNat, by omega⟩
  obtain ⟨u, rfl⟩ : ∃ u : UInt8, x = (u.toNat : Int) := ⟨UInt8.ofNat x.toNat, by rw [UInt8.toNat_ofNat']; omega⟩
  exact deflateSizes_walk w A n c b hb hc.1 u m (by omega) hc.2
end Go.Proofs.Ytbchaomnjbkdhaa
