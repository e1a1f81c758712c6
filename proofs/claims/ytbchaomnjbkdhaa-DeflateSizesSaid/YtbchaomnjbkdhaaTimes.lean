/-
  Contract of the reference's Times at a row of equal bytes.
-/
import Derived.Test.YtbchaomnjbkdhaaCountW
namespace Go.Proofs.Ytbchaomnjbkdhaa
open Go.RowKit
set_option linter.unusedVariables false

def tmC (x j : Nat) : List Nat := (List.replicate 256 0).set x j
theorem tmC_len (x j : Nat) : (tmC x j).length = 256 := by rw [tmC, List.length_set, List.length_replicate]
theorem tmC_at (x j : Nat) (hx : x < 256) : (tmC x j).getD x 0 = j := by
  unfold tmC
  rw [List.getD_eq_getElem?_getD, List.getElem?_set_self (by rw [List.length_replicate]; exact hx)]; rfl
theorem tmC_set (x j k : Nat) : (tmC x j).set x k = tmC x k := by unfold tmC; rw [List.set_set]
theorem tmC_zero (x : Nat) : tmC x 0 = List.replicate 256 0 := by
  unfold tmC
  exact List.set_replicate_self
set_option maxRecDepth 100000 in
set_option maxHeartbeats 2000000 in
theorem times_any (w : World) (A : Option Addr) (n c : Nat) (x : UInt8) (hb : RB w w.heap.size A n (List.replicate n x)) (hn : n ≤ 100000) :
    Calls Try.prog 6 #[.slice A n c] w fun e w' => e = .returned (.int .i64 (n : Int)) ∧ Below w.heap.size w w' := by
  have hm1 : ∀ wz : World, (Instr.makeSlice 28 (.int .i64 256) (.int .i64 256)).run Try.prog wz = .ok (.slice (some ⟨wz.heap.size, 0, none⟩) 256 256) (wz.alloc (.cells (((List.replicate 256 0).map encI).toArray) 3)) := fun wz => make_ints' 256 (by omega) wz
  have ho1 := ON.made w w.heap.size 256 (List.replicate 256 0) List.length_replicate (Nat.le_refl _) (by simp only [maxLen]; omega)
  have hb1 := hide ((Below.refl w.heap.size w).alloc (Nat.le_refl _) (.cells (((List.replicate 256 0).map encI).toArray) 3))
  rw [← tmC_zero x.toNat] at ho1
  obtain ⟨z1, hz1⟩ : ∃ z1, z1 = ((List.replicate 256 0).map encI).toArray := ⟨_, rfl⟩
  have hz2 : ((tmC x.toNat 0).map encI).toArray = z1 := by rw [hz1, tmC_zero]
  rw [hz2] at ho1
  rw [← hz1] at hm1 hb1
  replace ho1 := hide ho1
  replace hb := hide hb
  have hx := x.toNat_lt
  obtain ⟨k, hk⟩ : ∃ k, k = x.toNat := ⟨_, rfl⟩
  rw [← hk] at ho1 hx
  replace hk := hide hk
  clear hz1 hz2
  go_enter Try.func6, Try.ntmps6
  go_wp2_with fail
  generalize w.alloc (.cells z1 3) = wi at *
  obtain ⟨g, hg⟩ : ∃ g, g = w.heap.size := ⟨_, rfl⟩
  rw [← hg] at ho1 hb1 ⊢
  replace hg := hide hg
  clear hm1
  go_loopw [4, 5] (fun v4 v5 wx => ∃ j : Nat, v4 = .int .i64 (j : Int) ∧ v5 = .int .i64 (j : Int) ∧ j ≤ n ∧ Hid (ON wx g (.slice (some ⟨g, 0, none⟩) 256 256) 256 (tmC k j)) ∧ Hid (Below g w wx)) (fun _ v5 _ => n - (intOf v5).toNat)
  case atStart => exact ⟨0, rfl, rfl, Nat.zero_le _, ho1, hb1⟩
  case round =>
    clear ho1 hb1
    obtain ⟨j, rfl, rfl, hj, hO, hB⟩ := hrel
    by_cases hlt : j < n
    · obtain ⟨ad, rfl, hab, c0⟩ := (hb.out.below (by rw [← hg.out]; exact hB.out)).elem hlt (by rw [List.length_replicate]; exact hlt)
      rw [List.getElem_replicate, ← hk.out] at c0
      have cc := hO.out.getD (k := k) hx
      rw [tmC_at k j hx] at cc
      have cf := OE.froz (k := k) hO.out
      have hO2 : ON (wr.setCell ⟨g, k, none⟩ (.int .i64 ((j + 1 : Nat) : Int))) g (.slice (some ⟨g, 0, none⟩) 256 256) 256 (tmC k (j + 1)) := by
        rw [← tmC_set k j (j + 1)]; exact OE.stored hO.out k (j + 1)
      have hB2 := hB.out.setCell (p := ⟨g, k, none⟩) (Nat.le_refl _) (.int .i64 ((j + 1 : Nat) : Int))
      have cn : (wr.setCell ⟨g, k, none⟩ (.int .i64 ((j + 1 : Nat) : Int))).cell? (ad.add j) = some (.int .u8 (k : Int)) := by
        obtain ⟨ad', e', _, c1⟩ := (hb.out.below (by rw [← hg.out]; exact hB2)).elem hlt (by rw [List.length_replicate]; exact hlt)
        cases e'
        rw [List.getElem_replicate, ← hk.out] at c1
        exact c1
      have cc2 := hO2.getD (k := k) hx
      rw [tmC_at k _ hx] at cc2
      replace hO2 := hide hO2
      replace hB2 := hide hB2
      have hk1 : (k : Int) < 256 := by omega
      have hk0 : (0 : Int) ≤ (k : Int) := by omega
      have hjn : (j : Int) < (n : Int) := by omega
      have hj0 : (0 : Int) ≤ (j : Int) := by omega
      clear hO hB
      go_upto_region 7 with (fail)
      change Code.wp _ _ _ _ (wr.setCell ⟨g, k, none⟩ (.int .i64 ((j + 1 : Nat) : Int)))
      generalize wr.setCell ⟨g, k, none⟩ (.int .i64 ((j + 1 : Nat) : Int)) = w2 at *
      clear c0 cc cf
      go_wp2_with fail
      go_roundw
      case rel => exact ⟨j + 1, by go_num, by go_num, hlt, hO2, hB2⟩
      case measure => simp [intOf]; omega
    · obtain rfl : j = n := by omega
      go_wp2_with fail
      go_ret
      exact ⟨rfl, by rw [← hg.out]; exact hB.out⟩
end Go.Proofs.Ytbchaomnjbkdhaa
