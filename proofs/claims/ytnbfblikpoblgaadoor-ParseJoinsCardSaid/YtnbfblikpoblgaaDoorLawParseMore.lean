/-
  The walk of the law ParseMore.
-/
import Derived.Test.YtnbfblikpoblgaaDoorParW
import Derived.Test.YtnbfblikpoblgaaDoorTextQ
import Derived.Test.YtnbfblikpoblgaaDoorSame
import Derived.Test.YtnbfblikpoblgaaDoorParL
namespace Go.Proofs.YtnbfblikpoblgaaDoor
open Go.RowKit
set_option linter.unusedVariables false

theorem qE_ok {q : Q} (h1 : q.depth ≤ 16) (h2 : patsL (q.parts 0) ≤ 8) : qE q = 0 ∧ qL q = q.parts 0 := by
  unfold qE qL
  rw [if_neg (by omega), if_neg (by omega), if_neg (by omega), if_neg (by omega)]
  exact ⟨rfl, rfl⟩
theorem str_around (a b : List UInt8) (l : List UInt8) : str a ++ str l ++ str b = str (a ++ l ++ b) := by rw [str_append, str_append]

set_option maxRecDepth 100000 in
set_option maxHeartbeats 4000000 in
theorem parseMore_walk (w : World) (hA : Asp w) (hgb : 0 < w.heap.size) (s : ByteArray) (hs : s.size ≤ reachBytes) (x : Int) (hx0 : 0 ≤ x) (hx1 : x ≤ 255) (y : Int) (hy0 : 0 ≤ y) (hy1 : y ≤ 255) :
    Calls Tryd.prog 8 #[.string s, .int .u8 x, .int .u8 y] w fun e w' => e = .returned (.bool true) ∧ Below w.heap.size w w' := by
  unfold reachBytes at hs
  have hA' := hide hA
  clear hA
  go_enter Tryd.func8, Tryd.ntmps8
  go_wp2_with fail
  refine (wakes24_any w hA'.out hgb).mono ?_
  rintro e w1 ⟨rfl, hb1⟩
  have hA1 := hide (asp_below hA'.out hb1 hgb)
  have hsz1 := hb1.size
  go_wp2_with fail
  refine (parse_all s w1 hA1.out (by omega)).mono ?_
  rintro e w2 ⟨v2, rfl, ho2, hb2⟩
  have hbw2 := hb1.trans (hb2.mono hsz1)
  have hsz2 := hbw2.size
  have hA2 := hide (asp_below hA1.out (hb2.mono hsz1) hgb)
  by_cases hE : parsedE s.data.toList = 0
  · by_cases h2 : s.size ≤ 200
    · obtain ⟨q, hq, hl, hd, hp, hpl⟩ := of_parsed hE
      have hql := hide (textQ_len hq).1
      rw [hE]
      rw [hl] at ho2
      have hq' := hide hq
      have hpl' := hide hpl
      have hp' := hide hp
      have hlen := hide (q.parts_len 0)
      have hsz : q.size ≤ 401 := by
        have h3 := (textQ_len hq).2.2
        unfold parseQ at h3
        split at h3
        · rename_i q1 h4
          simp at h3; subst h3
          have h5 := orsP_takes _ _ _ _ h4
          have h6 : (sL s.data.toList).1.length ≤ 401 := by
            have := toksF_text s.data.toList.length 0 s.data.toList
            have h7 : (sL s.data.toList).1.length = (toksF s.data.toList.length 0 s.data.toList).1.length := by unfold sL sF; simp
            have := hql.out
            omega
          omega
        · cases h3
      obtain ⟨lA, lc, rfl, hRA, -, -, -⟩ := ho2.form
      rw [hlen.out] at hRA ⊢
      replace hRA := hide hRA
      clear hE hl hq hpl ho2 hp
      have hdl : Hid (s.data.toList.length = s.size) := data_len s
      have heta : Hid (str s.data.toList = s) := str_eta s
      obtain ⟨k, hk, hk9⟩ : ∃ k : Nat, x % 9 = (k : Int) ∧ k < 9 := ⟨(x % 9).toNat, by omega, by omega⟩
      obtain ⟨m, hm, hm9⟩ : ∃ m : Nat, y % 9 = (m : Int) ∧ m < 9 := ⟨(y % 9).toNat, by omega, by omega⟩
      replace hk := hide hk
      replace hm := hide hm
      have n3 : decide ((200 : Int) < (s.size : Int)) = false := by simp; omega
      go_wp2_with fail
      rw [hk.out]
      clear n3
      go_loop [9, 33] (fun t i => ∃ j : Nat, j ≤ k ∧ i = .int .i64 j ∧ t = .string (str (parN j s.data.toList))) (fun _ i => k - (intOf i).toNat)
      case atStart => exact ⟨0, by omega, rfl, by rw [parN, heta.out]⟩
      case round =>
        obtain ⟨j, hj, rfl, rfl⟩ := hrel
        have hsl : (str (parN j s.data.toList)).size ≤ 300 := by rw [str_size, parN_len, hdl.out]; omega
        by_cases h1 : j < k
        · have hnext : Hid (ByteArray.mk #[40, 32] ++ str (parN j s.data.toList) ++ ByteArray.mk #[41] = str (parN (j + 1) s.data.toList)) := by
            show str [40, 32] ++ _ ++ str [41] = _
            rw [str_around]; rfl
          go_wp2_with fail
          go_round
          case rel => exact ⟨j + 1, by omega, by go_num, by rw [← hnext.out]⟩
          case measure => simp [intOf]; omega
        · have hjk : j = k := by omega
          subst hjk
          have hq2 := hide (textQ_parN hq'.out j (by rw [hdl.out]; omega))
          have hpa := hide (parsed_of hq2.out)
          obtain ⟨hqe, hqll⟩ := qE_ok hd hp'.out
          go_wp2_with fail
          refine (parse_any (str (parN j s.data.toList)) w2 (by omega) hA2.out (by omega)).mono ?_
          rintro e w3 ⟨v3, rfl, ho3, hb3⟩
          rw [str_toList] at *
          rw [hpa.out.1, hqe]
          rw [hpa.out.2, hqll, hlen.out] at ho3
          obtain ⟨mA, mc, rfl, hRB, -, -, -⟩ := ho3.form
          have hbw3 := hbw2.trans (hb3.mono hsz2)
          have hRA3 := hide ((hRA.out.below hb3).more hb3.size)
          replace hRB := hide hRB
          have hsz3 := hbw3.size
          have hA3 := hide (asp_below hA2.out (hb3.mono hsz2) hgb)
          clear ho3 hpa hqe hqll hb3
          go_wp2_with fail
          refine (sameAsks_any w3 mA lA q.size mc lc (q.parts 0) hRB.out hRA3.out (by omega)).mono ?_
          rintro e w4 ⟨rfl, hb4⟩
          have hbw4 := hbw3.trans (hb4.mono hsz3)
          have hRA4 := hide ((hRA3.out.below hb4).more hb4.size)
          have hA4 := hide (asp_below hA3.out (hb4.mono hsz3) hgb)
          have hsz4 := hbw4.size
          clear hRA3 hRB hb4
          go_wp2_with fail
          rw [hm.out]
          have hdP : Hid (deepL (q.parts 0) = q.depth) := deepL_tree q hpl'.out
          have hPl : Hid ((parN j s.data.toList).length = s.size + 3 * j) := by rw [Hid, parN_len, hdl.out]
          generalize parN j s.data.toList = P at *
          go_loop [9, 56] (fun t i => ∃ i' : Nat, i' ≤ m ∧ i = .int .i64 i' ∧ t = .string (str (notN i' P))) (fun _ i => m - (intOf i).toNat)
          case atStart => exact ⟨0, by omega, rfl, rfl⟩
          case round =>
            obtain ⟨i', hi, rfl, rfl⟩ := hrel
            have hsl : (str (notN i' P)).size ≤ 300 := by rw [str_size, notN_len, hPl.out]; omega
            by_cases h1 : i' < m
            · have hnext : Hid (ByteArray.mk #[110, 111, 116, 32, 40] ++ str (notN i' P) ++ ByteArray.mk #[41] = str (notN (i' + 1) P)) := by
                show str [110, 111, 116, 32, 40] ++ _ ++ str [41] = _
                rw [str_around]; rfl
              go_wp2_with fail
              go_round
              case rel => exact ⟨i' + 1, by omega, by go_num, by rw [← hnext.out]⟩
              case measure => simp [intOf]; omega
            · have him : i' = m := by omega
              subst him
              have hq3 := hide (textQ_notN hq2.out i' (by rw [hPl.out]; omega))
              have hpa := hide (parsed_of hq3.out)
              have hdn := hide (negN_depth i' q)
              have hsn := hide (negN_size i' q)
              have hpn := hide (negN_pats i' q 0)
              have hdN : Hid (deepL ((negN i' q).parts 0) = q.depth + i') := by rw [Hid, deepL_tree _ (negN_plain i' q hpl'.out), hdn.out]
              go_wp2_with fail
              refine (parse_any (str (notN i' P)) w4 (by omega) hA4.out (by omega)).mono ?_
              rintro e w5 ⟨v5, rfl, ho5, hb5⟩
              rw [str_toList] at *
              rw [hpa.out.1]
              rw [hpa.out.2] at ho5
              have hbw5 := hbw4.trans (hb5.mono hsz4)
              have hRA5 := hide ((hRA4.out.below hb5).more hb5.size)
              have hsz5 := hbw5.size
              clear hb5 hRA4
              by_cases c1 : 16 < q.depth + i'
              · have e1 : qE (negN i' q) = 11 := by unfold qE; rw [if_pos (by rw [hdn.out]; exact c1)]
                obtain ⟨yA, yc, rfl, -, -, -, -⟩ := ho5.form
                rw [e1]
                clear ho5 hpa e1 hdn hsn hpn
                go_wp2_with fail
                refine (deep_any w5 lA q.size lc (q.parts 0) hRA5.out (by omega)).mono ?_
                rintro e w6 ⟨rfl, hb6⟩
                rw [hdP.out]
                have hbw6 := hbw5.trans (hb6.mono hsz5)
                clear hdP hRA5
                go_wp2_with fail
                go_ret
                exact ⟨rfl, hbw6⟩
              · obtain ⟨e1, e2⟩ := qE_ok (q := negN i' q) (by rw [hdn.out]; omega) (by rw [hpn.out]; exact hp'.out)
                rw [e1]
                rw [e2] at ho5
                obtain ⟨yA, yc, rfl, hRY, -, -, -⟩ := ho5.form
                rw [Q.parts_len, hsn.out] at hRY ⊢
                replace hRY := hide hRY
                clear ho5 hpa e1 e2 hdn hsn hpn
                go_wp2_with fail
                refine (deep_any w5 lA q.size lc (q.parts 0) hRA5.out (by omega)).mono ?_
                rintro e w6 ⟨rfl, hb6⟩
                rw [hdP.out]
                have hbw6 := hbw5.trans (hb6.mono hsz5)
                have hRA6 := hide ((hRA5.out.below hb6).more hb6.size)
                have hRY6 := hide ((hRY.out.below hb6).more hb6.size)
                have hsz6 := hbw6.size
                clear hRA5 hRY hb6
                go_wp2_with fail
                refine (deep_any w6 yA (q.size + i') yc ((negN i' q).parts 0) hRY6.out (by omega)).mono ?_
                rintro e w7 ⟨rfl, hb7⟩
                rw [hdN.out]
                have hbw7 := hbw6.trans (hb7.mono hsz6)
                have hRA7 := hide ((hRA6.out.below hb7).more hb7.size)
                have hsz7 := hbw7.size
                clear hRA6 hRY6 hb7
                go_wp2_with fail
                refine (deep_any w7 lA q.size lc (q.parts 0) hRA7.out (by omega)).mono ?_
                rintro e w8 ⟨rfl, hb8⟩
                rw [hdP.out]
                have hbw8 := hbw7.trans (hb8.mono hsz7)
                clear hRA7 hb8 hdP hdN
                go_wp2_with fail
                go_ret
                exact ⟨ret_bool (by simp), hbw8⟩
    · rw [hE]
      obtain ⟨lA, lc, rfl, -, -, -, -⟩ := ho2.form
      clear ho2 hE
      go_wp2_with fail
      go_ret
      exact ⟨rfl, hbw2⟩
  · have n1 : (parsedE s.data.toList != 0) = true := by simp [hE]
    generalize parsedE s.data.toList = ee at *
    obtain ⟨lA, lc, rfl, -, -, -, -⟩ := ho2.form
    clear ho2 hE
    go_wp2_with fail
    go_ret
    exact ⟨rfl, hbw2⟩
end Go.Proofs.YtnbfblikpoblgaaDoor
