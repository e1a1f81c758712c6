/-
  Contract of the unpacker's codes that are told.
-/
import Derived.Test.YtbchaomnjbkdhaaGreatEN
import Derived.Test.YtbchaomnjbkdhaaGreatEFixW
namespace Go.Proofs.YtbchaomnjbkdhaaGreat
open Go.RowKit Go.Sort Go.Proofs
set_option linter.unusedVariables false
def arrA (L : List Nat) (i : Nat) : Array Value := ((L.take i ++ List.replicate (L.length - i) 0).map encI).toArray
theorem arr_len (L : List Nat) (i : Nat) (h : i ≤ L.length) : (L.take i ++ List.replicate (L.length - i) 0).length = L.length := by
  rw [List.length_append, List.length_take, List.length_replicate]; omega
theorem arr_at (L : List Nat) (i j : Nat) (hi : i ≤ L.length) (hj : j < L.length) (hij : i ≤ j) : (arrA L i)[j]? = some (.int .i64 0) := by
  unfold arrA
  rw [List.getElem?_toArray, List.getElem?_map, List.getElem?_append_right (by rw [List.length_take]; omega), List.getElem?_replicate, if_pos (by rw [List.length_take]; omega)]
  rfl
theorem arr_set (L : List Nat) (i : Nat) (hi : i < L.length) : (arrA L i).setIfInBounds i (.int .i64 ((L.getD i 0 : Nat) : Int)) = arrA L (i + 1) := by
  unfold arrA
  rw [List.setIfInBounds_toArray]
  congr 1
  have e : Value.int .i64 ((L.getD i 0 : Nat) : Int) = encI (L.getD i 0) := rfl
  rw [e, ← List.map_set]
  congr 1
  refine List.ext_getElem? fun j => ?_
  rw [List.getElem?_set]
  by_cases h : i = j
  · subst h
    rw [if_pos rfl, if_pos (by rw [arr_len L i (by omega)]; exact hi), List.getElem?_append_left (by rw [List.length_take]; omega), List.getElem?_take, if_pos (by omega), List.getD_eq_getElem?_getD, List.getElem?_eq_getElem hi]; rfl
  · rw [if_neg h]
    rcases Nat.lt_or_ge j i with h1 | h1
    · rw [List.getElem?_append_left (by rw [List.length_take]; omega), List.getElem?_append_left (by rw [List.length_take]; omega), List.getElem?_take, List.getElem?_take, if_pos h1, if_pos (by omega)]
    · rw [List.getElem?_append_right (by rw [List.length_take]; omega), List.getElem?_append_right (by rw [List.length_take]; omega), List.getElem?_replicate, List.getElem?_replicate, List.length_take, List.length_take]
      by_cases h2 : j < L.length
      · rw [if_pos (by omega), if_pos (by omega)]
      · rw [if_neg (by omega), if_neg (by omega)]
theorem arr_all (L : List Nat) : arrA L L.length = (L.map encI).toArray := by
  unfold arrA
  rw [List.take_length, Nat.sub_self, List.replicate_zero, List.append_nil]
def fixedD32 : List Nat := List.replicate 32 5
theorem d32_code : codeOk fixedD32 := codeOk_of _ (by decide +kernel) (by decide +kernel)
theorem d32_same : ∀ s, s < 30 → encS fixedD32 s = encS fixedDist s := by decide +kernel
theorem lit_at : ∀ i, i < 288 → fixedLits.getD i 0 = if i < 144 then 8 else if i < 256 then 9 else if i < 280 then 7 else 8 := by decide +kernel
theorem zero_lits : Tryz.zeroCells148 = arrA fixedLits 0 := by kernel_rfl
theorem zero_dist : arrA fixedD32 0 = #[.int .i64 0, .int .i64 0, .int .i64 0, .int .i64 0, .int .i64 0, .int .i64 0, .int .i64 0, .int .i64 0, .int .i64 0, .int .i64 0, .int .i64 0, .int .i64 0, .int .i64 0, .int .i64 0, .int .i64 0, .int .i64 0, .int .i64 0, .int .i64 0, .int .i64 0, .int .i64 0, .int .i64 0, .int .i64 0, .int .i64 0, .int .i64 0, .int .i64 0, .int .i64 0, .int .i64 0, .int .i64 0, .int .i64 0, .int .i64 0, .int .i64 0, .int .i64 0] := by kernel_rfl
def FixRet (w : World) (e : Ending) (w' : World) : Prop := ∃ gl gd, e = .returned (.tuple #[.pointer (some ⟨gl, 0, none⟩), .pointer (some ⟨gd, 0, none⟩)]) ∧ CodeAt w' w.heap.size gl fixedLits ∧ CodeAt w' w.heap.size gd fixedD32 ∧ Below w.heap.size w w'
set_option maxRecDepth 100000 in
set_option maxHeartbeats 4000000 in
theorem ifixed_any (w : World) : Calls Tryz.prog 86 #[] w (FixRet w) := by
  go_enter Tryz.func86, Tryz.ntmps86
  go_upto_region 2 with (fail)
  rw [zero_lits]
  have hP := hide (Blk.new w 148 (arrA fixedLits 0))
  have hB := hide ((Below.refl w.heap.size w).alloc (Nat.le_refl _) (.cells (arrA fixedLits 0) 148))
  generalize w.alloc (.cells (arrA fixedLits 0) 148) = w1 at *
  obtain ⟨ga, hga⟩ : ∃ ga, ga = w.heap.size := ⟨_, rfl⟩
  have hga0 : w.heap.size ≤ ga := by omega
  rw [← hga] at hP ⊢
  replace hga := hide hga
  have hll : fixedLits.length = 288 := rfl
  replace hll := hide hll
  go_wp2_with fail
  go_loopw [10] (fun v10 wx => ∃ i : Nat, v10 = .int .i64 (i : Int) ∧ i ≤ 288 ∧ Hid (Blk wx ga 148 (arrA fixedLits i)) ∧ Hid (Below w.heap.size w wx)) (fun v10 _ => 288 - (intOf v10).toNat)
  case atStart => exact ⟨0, rfl, Nat.zero_le _, hP, hB⟩
  case round =>
    clear hP hB
    obtain ⟨i, rfl, hi, hP, hB⟩ := hrel
    by_cases hlt : i < 288
    · have ci : wr.cell? ⟨ga, i, none⟩ = some (.int .i64 0) := by rw [hP.out.cell]; exact arr_at fixedLits i i hi hlt (Nat.le_refl _)
      have fi := hP.out.frozen i
      have hP2 := hP.out.set_ i (.int .i64 ((fixedLits.getD i 0 : Nat) : Int))
      rw [arr_set fixedLits i hlt, lit_at i hlt] at hP2
      have hB2 := hB.out.setCell (p := ⟨ga, i, none⟩) hga0 (.int .i64 ((fixedLits.getD i 0 : Nat) : Int))
      rw [lit_at i hlt] at hB2
      have hiI : (i : Int) < 288 := by omega
      have hi0 : (0 : Int) ≤ (i : Int) := by omega
      by_cases h1 : i < 144
      · rw [if_pos h1] at hP2 hB2
        have h1I : (i : Int) < 144 := by omega
        replace hP2 := hide hP2
        replace hB2 := hide hB2
        go_wp2_with fail
        go_roundw
        case rel => exact ⟨i + 1, by go_num, hlt, hP2, hB2⟩
        case measure => simp [intOf]; omega
      · rw [if_neg h1] at hP2 hB2
        have h1I : ¬ (i : Int) < 144 := by omega
        by_cases h2 : i < 256
        · rw [if_pos h2] at hP2 hB2
          have h2I : (i : Int) < 256 := by omega
          replace hP2 := hide hP2
          replace hB2 := hide hB2
          go_wp2_with fail
          go_roundw
          case rel => exact ⟨i + 1, by go_num, hlt, hP2, hB2⟩
          case measure => simp [intOf]; omega
        · rw [if_neg h2] at hP2 hB2
          have h2I : ¬ (i : Int) < 256 := by omega
          by_cases h3 : i < 280
          · rw [if_pos h3] at hP2 hB2
            have h3I : (i : Int) < 280 := by omega
            replace hP2 := hide hP2
            replace hB2 := hide hB2
            go_wp2_with fail
            go_roundw
            case rel => exact ⟨i + 1, by go_num, hlt, hP2, hB2⟩
            case measure => simp [intOf]; omega
          · rw [if_neg h3] at hP2 hB2
            have h3I : ¬ (i : Int) < 280 := by omega
            replace hP2 := hide hP2
            replace hB2 := hide hB2
            go_wp2_with fail
            go_roundw
            case rel => exact ⟨i + 1, by go_num, hlt, hP2, hB2⟩
            case measure => simp [intOf]; omega
    · obtain rfl : i = 288 := by omega
      have hP1 : Hid (Blk wr ga 148 ((fixedLits.map encI).toArray)) := by rw [← arr_all]; exact hP
      have hbs := hB.out.size
      have hO1 := hide (hP1.out.alloc (.cells (arrA fixedD32 0) 149))
      have hT1 := hide (Blk.new wr 149 (arrA fixedD32 0))
      have hB1 := hide (hB.out.alloc hbs (.cells (arrA fixedD32 0) 149))
      rw [zero_dist] at hO1 hT1 hB1
      clear hP1 hP
      go_upto_region 14 with (fail)
      rw [← zero_dist] at hO1 hT1 hB1 ⊢
      generalize wr.alloc (.cells (arrA fixedD32 0) 149) = wi at *
      obtain ⟨gd, hgd⟩ : ∃ gd, gd = wr.heap.size := ⟨_, rfl⟩
      rw [← hgd] at hT1 ⊢
      have hgdw : w.heap.size ≤ gd := by rw [hgd]; exact hbs
      clear hgd hB hbs
      go_wp2_with fail
      go_loopw [31] (fun v31 wx => ∃ j : Nat, v31 = .int .i64 (j : Int) ∧ j ≤ 32 ∧ Hid (Blk wx gd 149 (arrA fixedD32 j)) ∧ Hid (Blk wx ga 148 ((fixedLits.map encI).toArray)) ∧ Hid (Below w.heap.size w wx)) (fun v31 _ => 32 - (intOf v31).toNat)
      case atStart => exact ⟨0, rfl, Nat.zero_le _, hT1, hO1, hB1⟩
      case round =>
        clear hT1 hO1 hB1
        obtain ⟨j, rfl, hj, hT, hO, hB⟩ := hrel
        by_cases hlt : j < 32
        · have cj : wr.cell? ⟨gd, j, none⟩ = some (.int .i64 0) := by rw [hT.out.cell]; exact arr_at fixedD32 j j hj hlt (Nat.le_refl _)
          have fj := hT.out.frozen j
          have h5 : fixedD32.getD j 0 = 5 := by
            rw [fixedD32, List.getD_eq_getElem?_getD, List.getElem?_replicate, if_pos hlt]; rfl
          have hT2 := hT.out.set_ j (.int .i64 ((fixedD32.getD j 0 : Nat) : Int))
          rw [arr_set fixedD32 j hlt, h5] at hT2
          have hB2 := hB.out.setCell (p := ⟨gd, j, none⟩) hgdw (.int .i64 ((5 : Nat) : Int))
          have hO2 := hide (hO.out.far (p := ⟨gd, j, none⟩) (Blk.ne_ hO.out hT.out (by decide)) (.int .i64 ((5 : Nat) : Int)))
          have hjI : (j : Int) < 32 := by omega
          have hj0 : (0 : Int) ≤ (j : Int) := by omega
          replace hT2 := hide hT2
          replace hB2 := hide hB2
          replace h5 := hide h5
          go_wp2_with fail
          go_roundw
          case rel => exact ⟨j + 1, by go_num, hlt, hT2, hO2, hB2⟩
          case measure => simp [intOf]; omega
        · obtain rfl : j = 32 := by omega
          have hTa : Blk wr gd 149 ((fixedD32.map encI).toArray) := by rw [← arr_all]; exact hT.out
          have hRNl : RN wr wr.heap.size (some ⟨ga, 0, none⟩) 288 fixedLits := RN.of_blk hO.out hll.out hO.out.lt
          have hRNd : Hid (RN wr wr.heap.size (some ⟨gd, 0, none⟩) 32 fixedD32) := RN.of_blk hTa rfl hTa.lt
          have hnew1 := hide (new_any wr ga 0 288 288 fixedLits hRNl (by omega) (by omega) lits_code)
          clear hRNl hTa
          go_wp2_with fail
          refine hnew1.out.mono ?_
          rintro e w2 ⟨lc, rfl, hL1, hb1⟩
          have hB1 := hide (hB.out.trans (hb1.mono hB.out.size))
          have hRNd1 := ((hRNd.out.below hb1).more hb1.size)
          have hnew2 := hide (new_any w2 gd 0 32 32 fixedD32 hRNd1 (by omega) (by omega) d32_code)
          have hL2 := hide (hL1.more hB.out.size)
          clear hb1 hRNd1 hL1 hnew1 hT hO
          go_wp2_with fail
          refine hnew2.out.mono ?_
          rintro e w3 ⟨dc, rfl, hD2, hb2⟩
          have hB2 := hide (hB1.out.trans (hb2.mono hB1.out.size))
          have hL3 := hide (CodeAt.below hL2.out hb2 (Nat.le_refl _))
          have hD3 := hide (hD2.more hB1.out.size)
          clear hb2 hD2 hnew2
          go_wp2_with fail
          go_ret2
          exact ⟨lc, dc, rfl, hL3.out, hD3.out, hB2.out⟩
end Go.Proofs.YtbchaomnjbkdhaaGreat
