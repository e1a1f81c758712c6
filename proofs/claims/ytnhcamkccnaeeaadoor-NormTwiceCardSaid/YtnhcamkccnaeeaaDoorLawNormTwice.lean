/-
  The walk of the law NormTwice.
-/
import Derived.Test.YtnhcamkccnaeeaaDoorNormW
import Derived.Test.YtnhcamkccnaeeaaDoorRpH
import Derived.Test.YtnhcamkccnaeeaaDoorSame
namespace Go.Proofs.YtnhcamkccnaeeaaDoor
open Go.RowKit
set_option linter.unusedVariables false

theorem pd_cells (w : World) (v : Value) (e : Int) : Blk (w.alloc (.cells #[v, .int .i64 e] 31)) w.heap.size 31 #[v, .int .i64 e] := Blk.new w 31 _
theorem str_not2 (s : ByteArray) : ByteArray.mk #[110, 111, 116, 32, 110, 111, 116, 32, 40] ++ s ++ ByteArray.mk #[41] = str ([110, 111, 116, 32, 110, 111, 116, 32, 40] ++ s.data.toList ++ [41]) := by
  have e1 : ByteArray.mk #[110, 111, 116, 32, 110, 111, 116, 32, 40] = str [110, 111, 116, 32, 110, 111, 116, 32, 40] := rfl
  have e2 : ByteArray.mk #[41] = str [41] := rfl
  rw [e1, e2]
  conv => lhs; rw [← str_eta s]
  rw [str_append, str_append]
set_option maxRecDepth 100000 in
set_option maxHeartbeats 4000000 in
theorem normTwice_walk (w : World) (hA : Tabs w) (s : ByteArray) : Calls Tryd.prog 4 #[.string s] w fun e w' => e = .returned (.bool true) ∧ Below w.heap.size w w' := by
  have hdl := hide (data_len s)
  go_enter Tryd.func4, Tryd.ntmps4
  go_wp2_with fail
  refine (wakes25_any w hA).mono ?_
  rintro e w1 ⟨rfl, hb1⟩
  have hA1 := hide (hA.below hb1)
  have hsz1 := hb1.size
  clear hA
  by_cases h3 : 300 < s.size
  · have h3' : (300 : Int) < (s.size : Int) := by omega
    clear h3
    go_wp2_with fail
    go_ret
    exact ⟨rfl, hb1⟩
  · have h3' : ¬ (300 : Int) < (s.size : Int) := by omega
    have hnx := hide (str_not2 s)
    go_wp2_with fail
    refine (rparse_any s w1 (by omega)).mono ?_
    rintro e w2 ⟨v2, rfl, ho2, hb2⟩
    have hbw2 := hb1.trans (hb2.mono hsz1)
    have hsz2 := hbw2.size
    have hA2 := hide (hA1.out.below hb2)
    clear hb1 hb2 hA1 hsz1
    go_wp2_with fail
    rw [hnx.out]
    have hl300 : s.data.toList.length ≤ 300 := by have := hdl.out; omega
    obtain ⟨l, hl⟩ : ∃ l, l = s.data.toList := ⟨_, rfl⟩
    rw [← hl] at ho2 hl300 ⊢
    obtain ⟨l2, hl2⟩ : ∃ l2, l2 = [110, 111, 116, 32, 110, 111, 116, 32, 40] ++ l ++ [41] := ⟨_, rfl⟩
    rw [← hl2]
    have hl2len : l2.length ≤ 400 := by rw [hl2]; simp; omega
    have hqq : Hid (∀ q, textQ l = some q → textQ l2 = some (.neg (.neg q))) := fun q h => by rw [hl2]; exact textQ_not2 h (by omega)
    replace hl2 := hide hl2
    clear hl hnx h3
    refine (rparse_any (str l2) w2 (by rw [str_size]; omega)).mono ?_
    rintro e w3 ⟨v3, rfl, ho3, hb3⟩
    rw [str_toList] at ho3 ⊢
    have hbw3 := hbw2.trans (hb3.mono hsz2)
    have hsz3 := hbw3.size
    have hA3 := hA2.out.below hb3
    have ho2' := ho2.below hb3 (Nat.le_refl _)
    obtain ⟨A2, c2, rfl, hR2, -, -, -⟩ := ho2'.form
    obtain ⟨A3, c3, rfl, hR3, -, -, -⟩ := ho3.form
    obtain ⟨n2, hn2⟩ : ∃ n, n = (parsedL l).length := ⟨_, rfl⟩
    obtain ⟨n3, hn3⟩ : ∃ n, n = (parsedL l2).length := ⟨_, rfl⟩
    rw [← hn2] at hR2 ⊢
    rw [← hn3] at hR3 ⊢
    replace hn2 := hide hn2
    replace hn3 := hide hn3
    obtain ⟨e2, he2⟩ : ∃ e, e = parsedE l := ⟨_, rfl⟩
    obtain ⟨e3, he3⟩ : ∃ e, e = parsedE l2 := ⟨_, rfl⟩
    rw [← he2, ← he3]
    have hb4 := hide ((((Below.refl w3.heap.size w3).alloc (Nat.le_refl _) (.cells #[.slice A2 n2 c2, .int .i64 e2] 31)).alloc (by simp) (.cells #[.slice A3 n3 c3, .int .i64 e3] 31)))
    have hX := hide ((pd_cells w3 (.slice A2 n2 c2) e2).alloc (.cells #[.slice A3 n3 c3, .int .i64 e3] 31))
    have hY := pd_cells (w3.alloc (.cells #[.slice A2 n2 c2, .int .i64 e2] 31)) (.slice A3 n3 c3) e3
    rw [show (w3.alloc (.cells #[.slice A2 n2 c2, .int .i64 e2] 31)).heap.size = w3.heap.size + 1 from by simp] at hY
    replace hY := hide hY
    replace hR2 := hide hR2
    replace hR3 := hide hR3
    replace hA3 := hide hA3
    clear ho2 ho2' ho3 hA2 hbw2 hb3
    by_cases hE : parsedE l = 0
    · obtain ⟨q, hq, hpl, hdep, hpat, hplain⟩ := of_parsed hE
      have hq2 := hqq.out q hq
      obtain ⟨p1, p2⟩ := parsed_of hq2
      have hok := textQ_ok hq
      have hqs := textQ_size hq
      rw [hE] at he2
      subst he2
      by_cases hd : q.depth + 2 ≤ 16
      · have hpn : patsL ((Q.neg (.neg q)).parts 0) ≤ 8 := by
          have := negN_pats 2 q 0
          rw [show (Q.neg (.neg q)) = negN 2 q from rfl, this]; exact hpat
        have hqE : qE (.neg (.neg q)) = 0 := by
          unfold qE
          rw [if_neg (by show ¬ 16 < q.depth + 1 + 1; omega), if_neg (by omega)]
        have hqL : qL (.neg (.neg q)) = (Q.neg (.neg q)).parts 0 := by
          unfold qL
          rw [if_neg (by show ¬ 16 < q.depth + 1 + 1; omega), if_neg (by omega)]
        rw [p1, hqE] at he3
        subst he3
        obtain ⟨hne, hnr⟩ := norm_not2 globG dosP q hok hd
        rw [hpl] at hR2 hn2
        rw [p2, hqL] at hR3 hn3
        have k2 : n2 = q.size := by rw [hn2.out, Q.parts_len]
        have k3 : n3 = q.size + 2 := by rw [hn3.out, Q.parts_len]; rfl
        replace hne := hide hne
        replace hnr := hide hnr
        have hle : n2 ≤ 10000 ∧ n3 ≤ 10000 := by omega
        obtain ⟨l1, l2'⟩ := hle
        replace hok := hide hok
        replace hplain := hide hplain
        have hqs' := hide hqs
        clear hE hq hpl hdep hpat hq2 p1 p2 hqs hd hpn hqE hqL k2 k3
        go_wp2_with fail
        obtain ⟨w4, hw4⟩ : ∃ x, x = (w3.alloc (.cells #[.slice A2 n2 c2, .int .i64 0] 31)).alloc (.cells #[.slice A3 n3 c3, .int .i64 0] 31) := ⟨_, rfl⟩
        rw [← hw4] at hb4 hX hY ⊢
        clear hw4
        have hbw4 := hbw3.trans (hb4.out.mono hsz3)
        have hsz4 := hbw4.size
        have hA4 := hA3.out.below hb4.out
        have hR24 := (hR2.out.below hb4.out).more hb4.out.size
        have hR34 := (hR3.out.below hb4.out).more hb4.out.size
        have hylt : w3.heap.size + 1 < w4.heap.size := hY.out.lt
        clear hA3 hR2 hR3 hbw3 hX
        refine (norm_any w4 A2 n2 c2 q hR24 hok.out hplain.out l1 hA4.2.2.1 hA4.2.2.2).mono ?_
        rintro e w5 ⟨v5, rfl, ho5, hb5⟩
        have hbw5 := hbw4.trans (hb5.mono hsz4)
        have hsz5 := hbw5.size
        have hA5 := hA4.below hb5
        have hR35 := (hR34.below hb5).more hb5.size
        have hY5 := hY.out.below hb5 hylt
        have y0 : w5.cell? ⟨w3.heap.size + 1, 0, none⟩ = some (.slice A3 n3 c3) := hY5.cell 0
        replace hA5 := hide hA5
        replace hR35 := hide hR35
        replace ho5 := hide ho5
        obtain ⟨A5, c5, hv5, -, -, -, -⟩ := ho5.out.form
        subst hv5
        clear hR24 hR34 hb5 hY5 hY hA4 hb4 hbw4
        go_wp2_with fail
        refine (norm_any w5 A3 n3 c3 (.neg (.neg q)) hR35.out hok.out hplain.out l2' hA5.out.2.2.1 hA5.out.2.2.2).mono ?_
        rintro e w6 ⟨v6, rfl, ho6, hb6⟩
        rw [hne.out]
        rw [hnr.out] at ho6
        have hbw6 := hbw5.trans (hb6.mono hsz5)
        have ho56 := ho5.out.below hb6 (Nat.le_refl _)
        obtain ⟨A5', c5', hv5, hRA5, -, -, -⟩ := ho56.form
        injection hv5 with e1 e2 e3
        subst e1 e3
        obtain ⟨A6, c6, rfl, hRA6, -, -, -⟩ := ho6.form
        have hnlen : (normRes globG dosP q).length ≤ 100000 := by
          unfold normRes
          split
          · rw [normL, Q.parts_len]
            have := turnQ_size (mapQ told1 q) false
            rw [← layQ_map, mapQ_size] at this
            have h2 : (layQ (fun a => (toldR globG dosP a).1) q false).size = (layQ told1 q false).size := rfl
            rw [h2]; have := hqs'.out; omega
          · simp
        have hsm := hide (sameAsks_any w6 A5 A6 _ c5 c6 _ hRA5 hRA6 hnlen)
        generalize (normRes globG dosP q).length = nn at *
        generalize normErr globG dosP q = ee at *
        clear ho56 ho6 ho5 hRA5 hRA6 hnlen hb6 hA5 hR35 hbw5 y0
        have hsz6 := hbw6.size
        go_wp2_with fail
        refine hsm.out.mono ?_
        rintro e w7 ⟨rfl, hb7⟩
        have hbw7 := hbw6.trans (hb7.mono hsz6)
        go_wp2_with fail
        go_ret
        exact ⟨rfl, hbw7⟩
      · have hqE : qE (.neg (.neg q)) = 11 := by
          unfold qE
          rw [if_pos (by show 16 < q.depth + 1 + 1; omega)]
        rw [p1, hqE] at he3
        subst he3
        have hbw4 := hbw3.trans (hb4.out.mono hsz3)
        clear hE hq hpl hdep hpat hplain hq2 p1 p2 hok hqs hd hqE
        go_wp2_with fail
        go_ret
        exact ⟨rfl, hbw4⟩
    · have n1 : (e2 != 0) = true := by rw [he2]; simp [hE]
      have hbw4 := hbw3.trans (hb4.out.mono hsz3)
      clear hE he2 he3
      go_wp2_with fail
      go_ret
      exact ⟨rfl, hbw4⟩
end Go.Proofs.YtnhcamkccnaeeaaDoor
