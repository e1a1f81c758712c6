/-
  Contract of inquestref21.Key.
-/
import Derived.Test.YtnnjcedlomfhoaaGreatDoorHMay
import Derived.Test.YtnnjcedlomfhoaaGreatDoorHPutA
namespace Go.Proofs.YtnnjcedlomfhoaaGreatDoor
open Go.RowKit
set_option linter.unusedVariables false
theorem textB_short (l : List UInt8) (h : l.length ≤ 1000) : (textB l).length ≤ 2100 := by
  have := txt_len l
  unfold textB
  rw [List.length_append]
  simp only [List.length_cons, List.length_nil]
  omega
set_option maxRecDepth 100000 in
set_option maxHeartbeats 4000000 in
theorem rkey_any (w : World) (by_ : Int) (f : FileV) (id no : Int) (hn : f.name.length ≤ 1000) (hc : 0 ≤ f.crc ∧ f.crc ≤ 4294967295) :
    Calls Tryz.prog 13 #[.int .i64 by_, fileV f, .int .i64 id, .int .i64 no] w (RetB w (keyF f (numB (heldI id) ++ numB (heldI no)) by_)) := by
  obtain ⟨K, hK⟩ : ∃ K, K = keyF f (numB (heldI id) ++ numB (heldI no)) by_ := ⟨_, rfl⟩
  rw [← hK]
  unfold keyF at hK
  have hB0 := file_box w f
  have hb0 := (Below.refl w.heap.size w).alloc (Nat.le_refl _) (.cells #[.string (str f.name), .int .i64 f.method, .int .i64 f.dos, .int .u32 f.crc, .int .i64 f.x4, .int .i64 f.size, .int .i64 f.x6] 40)
  unfold fileV
  go_enter Tryz.func13, Tryz.ntmps13
  go_upto_region 2 with (fail)
  obtain ⟨w1, hw1⟩ : ∃ y, y = w.alloc (.cells #[.string (str f.name), .int .i64 f.method, .int .i64 f.dos, .int .u32 f.crc, .int .i64 f.x4, .int .i64 f.size, .int .i64 f.x6] 40) := ⟨_, rfl⟩
  rw [← hw1] at hB0 hb0 ⊢
  clear hw1
  have x0 : w1.cell? ⟨w.heap.size, 0, none⟩ = some (.string (str f.name)) := hB0.cell 0
  have x2 : w1.cell? ⟨w.heap.size, 2, none⟩ = some (.int .i64 f.dos) := hB0.cell 2
  have x3 : w1.cell? ⟨w.heap.size, 3, none⟩ = some (.int .u32 f.crc) := hB0.cell 3
  have x5 : w1.cell? ⟨w.heap.size, 5, none⟩ = some (.int .i64 f.size) := hB0.cell 5
  have hcw := crc_wrap hc
  replace hB0 := hide hB0
  replace hb0 := hide hb0
  replace hK := hide hK
  by_cases e0 : by_ = 0
  · subst e0
    have hkey : Hid (K = textB f.name ++ (numB (heldI id) ++ numB (heldI no))) := by rw [Hid, hK.out, if_pos rfl]
    clear hK
    have hTx := hide (refText_any (str f.name) w1 (by rw [str_size]; exact hn))
    rw [str_toList] at hTx
    go_wp2_with fail
    refine (hTx.out).mono ?_
    rintro e w1x ⟨v1, rfl, ho1, hb1⟩
    obtain ⟨A1, k1, rfl, hR1, -, -, -⟩ := ho1.form
    obtain ⟨L1, hL⟩ : ∃ L, L = textB f.name := ⟨_, rfl⟩
    rw [← hL] at hR1 hkey ⊢
    have hL1 : Hid (L1.length ≤ 2100) := by rw [Hid, hL]; exact textB_short _ hn
    clear hL ho1
    have hw1 := hb0.out.trans (hb1.mono hb0.out.size)
    have hz := hw1.size
    have hN := OB.nil w1x w.heap.size
    have hl1 := hL1.out
    obtain ⟨n1, hn1⟩ : ∃ n, n = L1.length := ⟨_, rfl⟩
    rw [← hn1] at hR1 hl1 ⊢
    replace hn1 := hide hn1
    replace hR1 := hide hR1
    clear hb1 hb0 hB0 x0 x2 x3 x5 hcw hTx
    go_wp2_with (at_builtin; refine wpList_app_b rfl (.tmp 12) (.tmp 15) rfl w.heap.size _ _ _ hN rfl _ _ _ _ _ rfl hR1.out (by omega) (by omega) ?_; intro v2 w2 ho2 hb2 hg2 _)
    have hbw := hide (hw1.trans hb2)
    have HO : Hid (OB w2 w.heap.size v2 n1 L1) := by have := ho2; rw [List.nil_append, Nat.zero_add] at this; exact this
    clear ho2 hb2 hg2 hw1 hR1 hN hz
    have hlen1 : L1.length ≤ 3000 := by have := hL1.out; omega
    obtain ⟨A1, k1, rfl, -, -, -, -⟩ := HO.out.form
    have hz1 := hbw.out.size
    go_wp2_with fail
    refine (refNum_any id w2).mono ?_
    rintro e w3 ⟨v3, rfl, ho3, hb3⟩
    obtain ⟨A3, k3, rfl, hR3, -, -, -⟩ := ho3.form
    have hO3 := HO.out.below hb3 (Nat.le_refl _)
    have hw3 := hbw.out.trans (hb3.mono hz1)
    have hz3 := hw3.size
    rw [numB_len] at hR3 ⊢
    replace hR3 := hide hR3
    clear HO hbw ho3 hb3 hz1
    go_wp2_with (at_builtin; refine wpList_app_b rfl (.tmp 37) (.tmp 39) rfl w.heap.size _ _ _ hO3 rfl _ _ _ _ _ rfl hR3.out (by omega) (by omega) ?_; intro v4 w4 ho4 hb4 hg4 _)
    have hw4 := hw3.trans hb4
    have hz4 := hw4.size
    obtain ⟨A4, k4, rfl, -, -, -, -⟩ := ho4.form
    replace ho4 := hide ho4
    clear hg4 hb4 hO3 hw3 hR3 hz3
    go_wp2_with fail
    refine (refNum_any no w4).mono ?_
    rintro e w5 ⟨v5, rfl, ho5, hb5⟩
    obtain ⟨A5, k5, rfl, hR5, -, -, -⟩ := ho5.form
    have hO5 := ho4.out.below hb5 (Nat.le_refl _)
    have hw5 := hw4.trans (hb5.mono hz4)
    have hz5 := hw5.size
    rw [numB_len] at hR5 ⊢
    replace hR5 := hide hR5
    clear ho4 hw4 ho5 hb5 hz4
    go_wp2_with (at_builtin; refine wpList_app_b rfl (.tmp 41) (.tmp 43) rfl w.heap.size _ _ _ hO5 rfl _ _ _ _ _ rfl hR5.out (by omega) (by omega) ?_; intro v6 w6 ho6 hb6 hg6 _)
    have hw6 := hide (hw5.trans hb6)
    replace ho6 := hide ho6
    clear hg6 hb6 hO5 hw5 hR5 hz5
    go_wp2_with fail
    go_ret
    exact RetB.mk2 ho6.out (by rw [hkey.out, List.append_assoc]) hw6.out
  have b0 : (by_ == 0) = false := by simpa using e0
  by_cases e1 : by_ = 1
  · subst e1
    have hkey : Hid (K = numB (heldI f.size) ++ (numB (heldI id) ++ numB (heldI no))) := by rw [Hid, hK.out, if_neg e0, if_pos rfl]
    clear hK e0 b0
    go_wp2_with fail
    refine (refNum_any f.size w1).mono ?_
    rintro e w1x ⟨v1, rfl, ho1, hb1⟩
    obtain ⟨A1, k1, rfl, hR1, -, -, -⟩ := ho1.form
    obtain ⟨L1, hL⟩ : ∃ L, L = numB (heldI f.size) := ⟨_, rfl⟩
    rw [← hL] at hR1 hkey ⊢
    have hL1 : Hid (L1.length ≤ 2100) := by rw [Hid, hL]; rw [numB_len]; omega
    clear hL ho1
    have hw1 := hb0.out.trans (hb1.mono hb0.out.size)
    have hz := hw1.size
    have hN := OB.nil w1x w.heap.size
    have hl1 := hL1.out
    obtain ⟨n1, hn1⟩ : ∃ n, n = L1.length := ⟨_, rfl⟩
    rw [← hn1] at hR1 hl1 ⊢
    replace hn1 := hide hn1
    replace hR1 := hide hR1
    clear hb1 hb0 hB0 x0 x2 x3 x5 hcw
    go_wp2_with (at_builtin; refine wpList_app_b rfl (.tmp 19) (.tmp 22) rfl w.heap.size _ _ _ hN rfl _ _ _ _ _ rfl hR1.out (by omega) (by omega) ?_; intro v2 w2 ho2 hb2 hg2 _)
    have hbw := hide (hw1.trans hb2)
    have HO : Hid (OB w2 w.heap.size v2 n1 L1) := by have := ho2; rw [List.nil_append, Nat.zero_add] at this; exact this
    clear ho2 hb2 hg2 hw1 hR1 hN hz
    have hlen1 : L1.length ≤ 3000 := by have := hL1.out; omega
    obtain ⟨A1, k1, rfl, -, -, -, -⟩ := HO.out.form
    have hz1 := hbw.out.size
    go_wp2_with fail
    refine (refNum_any id w2).mono ?_
    rintro e w3 ⟨v3, rfl, ho3, hb3⟩
    obtain ⟨A3, k3, rfl, hR3, -, -, -⟩ := ho3.form
    have hO3 := HO.out.below hb3 (Nat.le_refl _)
    have hw3 := hbw.out.trans (hb3.mono hz1)
    have hz3 := hw3.size
    rw [numB_len] at hR3 ⊢
    replace hR3 := hide hR3
    clear HO hbw ho3 hb3 hz1
    go_wp2_with (at_builtin; refine wpList_app_b rfl (.tmp 37) (.tmp 39) rfl w.heap.size _ _ _ hO3 rfl _ _ _ _ _ rfl hR3.out (by omega) (by omega) ?_; intro v4 w4 ho4 hb4 hg4 _)
    have hw4 := hw3.trans hb4
    have hz4 := hw4.size
    obtain ⟨A4, k4, rfl, -, -, -, -⟩ := ho4.form
    replace ho4 := hide ho4
    clear hg4 hb4 hO3 hw3 hR3 hz3
    go_wp2_with fail
    refine (refNum_any no w4).mono ?_
    rintro e w5 ⟨v5, rfl, ho5, hb5⟩
    obtain ⟨A5, k5, rfl, hR5, -, -, -⟩ := ho5.form
    have hO5 := ho4.out.below hb5 (Nat.le_refl _)
    have hw5 := hw4.trans (hb5.mono hz4)
    have hz5 := hw5.size
    rw [numB_len] at hR5 ⊢
    replace hR5 := hide hR5
    clear ho4 hw4 ho5 hb5 hz4
    go_wp2_with (at_builtin; refine wpList_app_b rfl (.tmp 41) (.tmp 43) rfl w.heap.size _ _ _ hO5 rfl _ _ _ _ _ rfl hR5.out (by omega) (by omega) ?_; intro v6 w6 ho6 hb6 hg6 _)
    have hw6 := hide (hw5.trans hb6)
    replace ho6 := hide ho6
    clear hg6 hb6 hO5 hw5 hR5 hz5
    go_wp2_with fail
    go_ret
    exact RetB.mk2 ho6.out (by rw [hkey.out, List.append_assoc]) hw6.out
  have b1 : (by_ == 1) = false := by simpa using e1
  by_cases e2 : by_ = 2
  · subst e2
    have hkey : Hid (K = numB (heldI f.dos) ++ (numB (heldI id) ++ numB (heldI no))) := by rw [Hid, hK.out, if_neg e0, if_neg e1, if_pos rfl]
    clear hK e0 e1 b0 b1
    go_wp2_with fail
    refine (refNum_any f.dos w1).mono ?_
    rintro e w1x ⟨v1, rfl, ho1, hb1⟩
    obtain ⟨A1, k1, rfl, hR1, -, -, -⟩ := ho1.form
    obtain ⟨L1, hL⟩ : ∃ L, L = numB (heldI f.dos) := ⟨_, rfl⟩
    rw [← hL] at hR1 hkey ⊢
    have hL1 : Hid (L1.length ≤ 2100) := by rw [Hid, hL]; rw [numB_len]; omega
    clear hL ho1
    have hw1 := hb0.out.trans (hb1.mono hb0.out.size)
    have hz := hw1.size
    have hN := OB.nil w1x w.heap.size
    have hl1 := hL1.out
    obtain ⟨n1, hn1⟩ : ∃ n, n = L1.length := ⟨_, rfl⟩
    rw [← hn1] at hR1 hl1 ⊢
    replace hn1 := hide hn1
    replace hR1 := hide hR1
    clear hb1 hb0 hB0 x0 x2 x3 x5 hcw
    go_wp2_with (at_builtin; refine wpList_app_b rfl (.tmp 26) (.tmp 29) rfl w.heap.size _ _ _ hN rfl _ _ _ _ _ rfl hR1.out (by omega) (by omega) ?_; intro v2 w2 ho2 hb2 hg2 _)
    have hbw := hide (hw1.trans hb2)
    have HO : Hid (OB w2 w.heap.size v2 n1 L1) := by have := ho2; rw [List.nil_append, Nat.zero_add] at this; exact this
    clear ho2 hb2 hg2 hw1 hR1 hN hz
    have hlen1 : L1.length ≤ 3000 := by have := hL1.out; omega
    obtain ⟨A1, k1, rfl, -, -, -, -⟩ := HO.out.form
    have hz1 := hbw.out.size
    go_wp2_with fail
    refine (refNum_any id w2).mono ?_
    rintro e w3 ⟨v3, rfl, ho3, hb3⟩
    obtain ⟨A3, k3, rfl, hR3, -, -, -⟩ := ho3.form
    have hO3 := HO.out.below hb3 (Nat.le_refl _)
    have hw3 := hbw.out.trans (hb3.mono hz1)
    have hz3 := hw3.size
    rw [numB_len] at hR3 ⊢
    replace hR3 := hide hR3
    clear HO hbw ho3 hb3 hz1
    go_wp2_with (at_builtin; refine wpList_app_b rfl (.tmp 37) (.tmp 39) rfl w.heap.size _ _ _ hO3 rfl _ _ _ _ _ rfl hR3.out (by omega) (by omega) ?_; intro v4 w4 ho4 hb4 hg4 _)
    have hw4 := hw3.trans hb4
    have hz4 := hw4.size
    obtain ⟨A4, k4, rfl, -, -, -, -⟩ := ho4.form
    replace ho4 := hide ho4
    clear hg4 hb4 hO3 hw3 hR3 hz3
    go_wp2_with fail
    refine (refNum_any no w4).mono ?_
    rintro e w5 ⟨v5, rfl, ho5, hb5⟩
    obtain ⟨A5, k5, rfl, hR5, -, -, -⟩ := ho5.form
    have hO5 := ho4.out.below hb5 (Nat.le_refl _)
    have hw5 := hw4.trans (hb5.mono hz4)
    have hz5 := hw5.size
    rw [numB_len] at hR5 ⊢
    replace hR5 := hide hR5
    clear ho4 hw4 ho5 hb5 hz4
    go_wp2_with (at_builtin; refine wpList_app_b rfl (.tmp 41) (.tmp 43) rfl w.heap.size _ _ _ hO5 rfl _ _ _ _ _ rfl hR5.out (by omega) (by omega) ?_; intro v6 w6 ho6 hb6 hg6 _)
    have hw6 := hide (hw5.trans hb6)
    replace ho6 := hide ho6
    clear hg6 hb6 hO5 hw5 hR5 hz5
    go_wp2_with fail
    go_ret
    exact RetB.mk2 ho6.out (by rw [hkey.out, List.append_assoc]) hw6.out
  have b2 : (by_ == 2) = false := by simpa using e2
  have hkey : Hid (K = numB (heldI f.crc) ++ (numB (heldI id) ++ numB (heldI no))) := by rw [Hid, hK.out, if_neg e0, if_neg e1, if_neg e2]
  clear hK e0 e1 e2
  go_wp2_with fail
  refine (refNum_any f.crc w1).mono ?_
  rintro e w1x ⟨v1, rfl, ho1, hb1⟩
  obtain ⟨A1, k1, rfl, hR1, -, -, -⟩ := ho1.form
  obtain ⟨L1, hL⟩ : ∃ L, L = numB (heldI f.crc) := ⟨_, rfl⟩
  rw [← hL] at hR1 hkey ⊢
  have hL1 : Hid (L1.length ≤ 2100) := by rw [Hid, hL]; rw [numB_len]; omega
  clear hL ho1
  have hw1 := hb0.out.trans (hb1.mono hb0.out.size)
  have hz := hw1.size
  have hN := OB.nil w1x w.heap.size
  have hl1 := hL1.out
  obtain ⟨n1, hn1⟩ : ∃ n, n = L1.length := ⟨_, rfl⟩
  rw [← hn1] at hR1 hl1 ⊢
  replace hn1 := hide hn1
  replace hR1 := hide hR1
  clear hb1 hb0 hB0 x0 x2 x3 x5 hcw
  go_wp2_with (at_builtin; refine wpList_app_b rfl (.tmp 31) (.tmp 35) rfl w.heap.size _ _ _ hN rfl _ _ _ _ _ rfl hR1.out (by omega) (by omega) ?_; intro v2 w2 ho2 hb2 hg2 _)
  have hbw := hide (hw1.trans hb2)
  have HO : Hid (OB w2 w.heap.size v2 n1 L1) := by have := ho2; rw [List.nil_append, Nat.zero_add] at this; exact this
  clear ho2 hb2 hg2 hw1 hR1 hN hz
  have hlen1 : L1.length ≤ 3000 := by have := hL1.out; omega
  obtain ⟨A1, k1, rfl, -, -, -, -⟩ := HO.out.form
  have hz1 := hbw.out.size
  go_wp2_with fail
  refine (refNum_any id w2).mono ?_
  rintro e w3 ⟨v3, rfl, ho3, hb3⟩
  obtain ⟨A3, k3, rfl, hR3, -, -, -⟩ := ho3.form
  have hO3 := HO.out.below hb3 (Nat.le_refl _)
  have hw3 := hbw.out.trans (hb3.mono hz1)
  have hz3 := hw3.size
  rw [numB_len] at hR3 ⊢
  replace hR3 := hide hR3
  clear HO hbw ho3 hb3 hz1
  go_wp2_with (at_builtin; refine wpList_app_b rfl (.tmp 37) (.tmp 39) rfl w.heap.size _ _ _ hO3 rfl _ _ _ _ _ rfl hR3.out (by omega) (by omega) ?_; intro v4 w4 ho4 hb4 hg4 _)
  have hw4 := hw3.trans hb4
  have hz4 := hw4.size
  obtain ⟨A4, k4, rfl, -, -, -, -⟩ := ho4.form
  replace ho4 := hide ho4
  clear hg4 hb4 hO3 hw3 hR3 hz3
  go_wp2_with fail
  refine (refNum_any no w4).mono ?_
  rintro e w5 ⟨v5, rfl, ho5, hb5⟩
  obtain ⟨A5, k5, rfl, hR5, -, -, -⟩ := ho5.form
  have hO5 := ho4.out.below hb5 (Nat.le_refl _)
  have hw5 := hw4.trans (hb5.mono hz4)
  have hz5 := hw5.size
  rw [numB_len] at hR5 ⊢
  replace hR5 := hide hR5
  clear ho4 hw4 ho5 hb5 hz4
  go_wp2_with (at_builtin; refine wpList_app_b rfl (.tmp 41) (.tmp 43) rfl w.heap.size _ _ _ hO5 rfl _ _ _ _ _ rfl hR5.out (by omega) (by omega) ?_; intro v6 w6 ho6 hb6 hg6 _)
  have hw6 := hide (hw5.trans hb6)
  replace ho6 := hide ho6
  clear hg6 hb6 hO5 hw5 hR5 hz5
  go_wp2_with fail
  go_ret
  exact RetB.mk2 ho6.out (by rw [hkey.out, List.append_assoc]) hw6.out
end Go.Proofs.YtnnjcedlomfhoaaGreatDoor
