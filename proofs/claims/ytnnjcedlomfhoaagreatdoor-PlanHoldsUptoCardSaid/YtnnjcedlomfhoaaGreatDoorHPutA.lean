/-
  Contracts of inquestref20.Text and inquestref20.Num.
-/
import Derived.Test.YtnnjcedlomfhoaaGreatDoorHKeyE
import Derived.Test.YtnnjcedlomfhoaaGreatDoorHA
namespace Go.Proofs.YtnnjcedlomfhoaaGreatDoor
open Go.RowKit
set_option linter.unusedVariables false
theorem txt_snoc (l : List UInt8) (k : Nat) (h : k < l.length) : (l.take (k + 1)).flatMap txtF = (l.take k).flatMap txtF ++ txtF l[k] := by
  rw [List.take_succ_eq_append_getElem h, List.flatMap_append]; simp
theorem txt_len (l : List UInt8) : (l.flatMap txtF).length ≤ 2 * l.length := by
  induction l with
  | nil => simp
  | cons a l ih =>
    rw [List.flatMap_cons, List.length_append]
    have : (txtF a).length ≤ 2 := by unfold txtF; split <;> simp
    simp only [List.length_cons]; omega
theorem txt_take_len (l : List UInt8) (k : Nat) : ((l.take k).flatMap txtF).length ≤ 2 * l.length := by
  have := txt_len (l.take k)
  have := List.length_take_le k l
  have : (l.take k).length ≤ l.length := by simp; omega
  omega
set_option maxRecDepth 100000 in
set_option maxHeartbeats 400000 in
theorem refText_any (t : ByteArray) (w : World) (ht : t.size ≤ 1000) : Calls Tryz.prog 25 #[.string t] w (RetB w (textB t.data.toList)) := by
  have hdl := hide (data_len t)
  go_enter Tryz.func25, Tryz.ntmps25
  go_wp2_with fail
  go_loopw [3, 4] (fun v i wr => ∃ k : Nat, k ≤ t.size ∧ i = .int .i64 k ∧ Hid (OB wr w.heap.size v ((t.data.toList.take k).flatMap txtF).length ((t.data.toList.take k).flatMap txtF)) ∧ Below w.heap.size w wr) (fun _ i _ => t.size - (intOf i).toNat)
  case atStart => exact ⟨0, by omega, rfl, OB.nil _ _, Below.refl _ _⟩
  case round =>
    obtain ⟨k, hk, rfl, HO, hbl⟩ := hrel
    have hsz := hbl.size
    by_cases h1 : k < t.size
    · have h1' : k < t.data.toList.length := by rw [hdl.out]; exact h1
      have hs := txt_snoc t.data.toList k h1'
      have htl := txt_take_len t.data.toList k
      rw [hdl.out] at htl
      rw [show t.data.toList[k] = t[k] from rfl] at hs
      generalize (t.data.toList.take k).flatMap txtF = P at *
      by_cases c0 : t[k] = 0
      · have e0 : ((t[k].toNat : Int) == 0) = true := by rw [c0]; rfl
        have hs2 : Hid ((t.data.toList.take (k + 1)).flatMap txtF = P ++ [t[k]] ++ [255]) := by
          show _ = _
          rw [hs, c0]; simp [txtF]
        clear hs c0
        go_wp2_with (first | (at_builtin; refine wpList_app_1 t[k] rfl rfl (.tmp 11) (.tmp 15) rfl w.heap.size _ _ _ HO.out rfl _ rfl (by omega) hsz ?_; intro v2 w2 ho2 hb2 hg2; clear hg2; replace ho2 := hide ho2; have hbl2 := hbl.trans hb2; have hsz2 := hbl2.size; clear hb2 HO hbl) | (at_builtin; refine wpList_app_1 255 rfl rfl (.tmp 21) (.tmp 22) rfl w.heap.size _ _ _ ho2.out rfl _ rfl (by omega) hsz2 ?_; intro v3 w3 ho3 hb3 hg3))
        have hbl3 := hbl2.trans hb3
        rw [← hs2.out] at ho3
        replace ho3 := hide ho3
        clear hg3 hb3 ho2 hbl2
        go_wp2_with fail
        go_roundw
        case rel => exact ⟨k + 1, by omega, by go_num, by have := ho3.out; rw [this.len]; exact this, hbl3⟩
        case measure => simp [intOf]; omega
      · have e0 : ((t[k].toNat : Int) == 0) = false := by rw [beq_eq_false_iff_ne]; intro e; exact c0 (UInt8.toNat_inj.1 (by show _ = 0; omega))
        have hs2 : Hid ((t.data.toList.take (k + 1)).flatMap txtF = P ++ [t[k]]) := by
          show _ = _
          rw [hs]; simp [txtF, c0]
        clear hs c0
        go_wp2_with (at_builtin; refine wpList_app_1 t[k] rfl rfl (.tmp 11) (.tmp 15) rfl w.heap.size _ _ _ HO.out rfl _ rfl (by omega) hsz ?_; intro v2 w2 ho2 hb2 hg2)
        have hbl2 := hbl.trans hb2
        rw [← hs2.out] at ho2
        replace ho2 := hide ho2
        clear hg2 hb2 HO hbl
        go_wp2_with fail
        go_roundw
        case rel => exact ⟨k + 1, by omega, by go_num, by have := ho2.out; rw [this.len]; exact this, hbl2⟩
        case measure => simp [intOf]; omega
    · have hkk : t.size ≤ k := by omega
      have htl := txt_take_len t.data.toList k
      rw [hdl.out] at htl
      have hs2 : Hid (textB t.data.toList = (t.data.toList.take k).flatMap txtF ++ [0, 1]) := by
        show _ = _
        rw [List.take_of_length_le (by have := hdl.out; omega)]; rfl
      generalize (t.data.toList.take k).flatMap txtF = P at *
      have h2 := RB.lit wr [0, 1] 5 2 rfl
      have e2 : (bv [0, 1]).toArray = #[Value.int .u8 0, .int .u8 1] := rfl
      rw [e2] at h2
      replace h2 := hide h2
      clear e2
      go_wp2_with (at_builtin; refine wpList_app_b rfl (.tmp 24) (.tmp 25) rfl w.heap.size _ _ _ (HO.out.alloc _) rfl _ _ _ _ _ rfl h2.out (by omega) (by simp; omega) ?_; intro v2 w2 ho2 hb2 hg2 _)
      have hbl2 := (hbl.alloc hsz (.cells #[Value.int .u8 0, .int .u8 1] 5)).trans hb2
      rw [← hs2.out] at ho2
      replace ho2 := hide ho2
      clear hg2 hb2 HO hbl h2
      go_wp2_with fail
      go_ret
      exact RetB.mk ho2.out hbl2
theorem numB_len (z : Int) : (numB z).length = 6 := rfl
/-- What the six bytes hold when the last j are laid. -/
def numAt (z : Int) (j : Nat) : List UInt8 := List.replicate (6 - j) 0 ++ (numB z).drop (6 - j)
theorem numAt_set (z : Int) (j : Nat) (hj : j < 6) : (numAt z j).set (5 - j) (byteN z j) = numAt z (j + 1) := by
  match j, hj with
  | 0, _ => rfl
  | 1, _ => rfl
  | 2, _ => rfl
  | 3, _ => rfl
  | 4, _ => rfl
  | 5, _ => rfl
theorem numAt_len (z : Int) (j : Nat) : (numAt z j).length = 6 := by
  unfold numAt
  rw [List.length_append, List.length_replicate, List.length_drop, numB_len]; omega
theorem byte_of (z : Int) (j : Nat) (h0 : 0 ≤ z) : z / 256 ^ j % 256 = ((byteN z j).toNat : Int) := by
  obtain ⟨n, rfl⟩ := Int.eq_ofNat_of_zero_le h0
  unfold byteN
  rw [UInt8.toNat_ofNat', Int.toNat_natCast, Int.natCast_emod, Int.natCast_ediv, Int.natCast_pow]
  rfl
theorem next_of (z : Int) (j : Nat) (h0 : 0 ≤ z) : z / 256 ^ j / 256 = z / 256 ^ (j + 1) := by
  rw [Int.pow_succ, ← Int.ediv_ediv_of_nonneg (Int.pow_nonneg (by omega))]
theorem div_0 (z : Int) (j : Nat) (h0 : 0 ≤ z) : 0 ≤ z / 256 ^ j := Int.ediv_nonneg h0 (Int.pow_nonneg (by omega))
theorem div_1 (z b : Int) (j : Nat) (h0 : 0 ≤ z) (h1 : z ≤ b) : z / 256 ^ j ≤ b := Int.le_trans (Int.ediv_le_self _ h0) h1
set_option maxRecDepth 100000 in
set_option maxHeartbeats 400000 in
theorem refNum_any (n : Int) (w : World) : Calls Tryz.prog 26 #[.int .i64 n] w (RetB w (numB (heldI n))) := by
  have hmk : ∀ w : World, (Instr.makeSlice 32 (.int .i64 6) (.int .i64 6)).run Tryz.prog w = .ok (.slice (some ⟨w.heap.size, 0, none⟩) 6 6) (w.alloc (.cells #[.int .u8 0, .int .u8 0, .int .u8 0, .int .u8 0, .int .u8 0, .int .u8 0] 5)) := fun _ => by kernel_rfl
  go_enter Tryz.func26, Tryz.ntmps26
  go_wp2_with fail
  refine (held_any _ _).mono ?_
  rintro e w' ⟨rfl, rfl⟩
  have b0 := heldI_0 n
  have b1 := heldI_1 n
  generalize heldI n = z at *
  have hO : OB (w.alloc (.cells #[.int .u8 0, .int .u8 0, .int .u8 0, .int .u8 0, .int .u8 0, .int .u8 0] 5)) w.heap.size (.slice (some ⟨w.heap.size, 0, none⟩) 6 6) 6 (numAt z 0) :=
    ⟨rfl, .inr ⟨w.heap.size, 6, _, rfl, Nat.le_refl _, heap_alloc_new w _, by decide, by decide, rfl, rfl⟩⟩
  replace hO := hide hO
  replace b1 := hide b1
  go_wp2_with fail
  clear hmk
  go_loopw [0, 4] (fun x i wr => ∃ j : Nat, j ≤ 6 ∧ i = .int .i64 (5 - (j : Int)) ∧ x = .int .i64 (z / 256 ^ j) ∧ Hid (OB wr w.heap.size (.slice (some ⟨w.heap.size, 0, none⟩) 6 6) 6 (numAt z j)) ∧ Below w.heap.size w wr) (fun _ i _ => (intOf i + 1).toNat)
  case atStart => exact ⟨0, by omega, by go_num, by rw [Int.pow_zero, Int.ediv_one], hO, (Below.refl _ _).alloc (Nat.le_refl _) _⟩
  case round =>
    clear hO
    obtain ⟨j, hj, rfl, rfl, HO, hbl⟩ := hrel
    by_cases h1 : j < 6
    · have hby := hide (byte_of z j b0)
      have hnx := hide (next_of z j b0)
      have d0 := div_0 z j b0
      have d1 := div_1 z _ j b0 b1.out
      have hst := HO.out.stored (5 - j) (byteN z j)
      rw [numAt_set z j h1] at hst
      have hfr : wr.frozen? ⟨w.heap.size, 5 - j, none⟩ = false := HO.out.froz
      have hce := HO.out.cell (k := 5 - j) (by omega) (by rw [numAt_len]; omega)
      generalize z / 256 ^ j = q at *
      go_wp2_with fail
      go_roundw
      case rel =>
        rw [hby.out]
        exact ⟨j + 1, by omega, by go_num, by rw [hnx.out], hst, hbl.setCell (p := ⟨w.heap.size, 5 - j, none⟩) (Nat.le_refl _) _⟩
      case measure => simp [intOf]; omega
    · have hj6 : j = 6 := by omega
      subst hj6
      have hO := HO.out
      rw [show numAt z 6 = numB z from rfl] at hO
      replace hO := hide hO
      go_wp2_with fail
      go_ret
      exact RetB.mk hO.out hbl
end Go.Proofs.YtnnjcedlomfhoaaGreatDoor
