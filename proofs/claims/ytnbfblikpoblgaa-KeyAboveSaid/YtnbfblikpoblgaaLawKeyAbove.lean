/-
  The walk of the law KeyAbove.
-/
import Derived.Test.YtnbfblikpoblgaaAbove
import Derived.Test.YtnbfblikpoblgaaKeyE
namespace Go.Proofs.Ytnbfblikpoblgaa
open Go.RowKit
set_option linter.unusedVariables false

theorem allFF_snoc (xs : List UInt8) (k : Nat) (h : k < xs.length) : allFF (xs.take (k + 1)) = (allFF (xs.take k) && (((xs[k]).toNat : Int) == 255)) := by
  rw [List.take_succ_eq_append_getElem h]
  simp only [allFF, List.all_append, List.all_cons, List.all_nil, Bool.and_true]
  congr 1
  rw [Bool.eq_iff_iff, beq_iff_eq, beq_iff_eq]
  constructor
  · intro e; rw [e]; rfl
  · intro e; apply UInt8.toNat_inj.1; have : (255 : UInt8).toNat = 255 := rfl; omega

set_option maxHeartbeats 1000000 in
theorem keyAbove_true (w : World) (A : Option Addr) (n c : Nat) (xs : List UInt8) (ha : RB w w.heap.size A n xs) (_ca : n ≤ c ∧ c ≤ maxLen)
    (B : Option Addr) (m d : Nat) (ys : List UInt8) (hb : RB w w.heap.size B m ys) (_cb : m ≤ d ∧ d ≤ maxLen)
    (C : Option Addr) (o f : Nat) (zs : List UInt8) (hc : RB w w.heap.size C o zs) (cc : o ≤ f ∧ f ≤ maxLen) :
    Calls Try.prog 4 #[.slice A n c, .slice B m d, .slice C o f] w fun e w' => e = .returned (.bool true) ∧ Below w.heap.size w w' := by
  have hxl := hide ha.len
  have hyl := hide hb.len
  have hzl := hide hc.len
  have HA := hide ha
  have HB := hide hb
  have HC := hide hc
  obtain ⟨cc1, cc2⟩ := cc
  unfold maxLen at cc2
  clear ha hb hc _ca _cb
  by_cases h1 : n ≤ 100
  · by_cases h2 : m ≤ 100
    · by_cases h3 : o ≤ 100
      · go_enter Try.func4, Try.ntmps4
        go_wp2_with fail
        refine (wakes20_any _).mono ?_
        rintro e w1 ⟨rfl, hb1⟩
        have hsz1 := hb1.size
        go_wp2_with fail
        refine (above_any _ _ _ _ _ ((HA.out.below hb1).more hsz1) (by omega)).mono ?_
        rintro e w2 ⟨v2, rfl, ho2, hb2⟩
        have hb2' := hb1.trans (hb2.mono hsz1)
        have hsz2 := hb2'.size
        obtain ⟨U, u, rfl, hru, _⟩ := ho2.form
        have hul : Hid ((aboveB xs).length ≤ n) := by have := aboveB_len xs; rw [hxl.out] at this; exact this
        have HU := hide hru
        clear ho2 hru hb1 hsz1 hb2
        go_upto_block 0 with fail
        go_cut [8] (fun v wx => v = .bool (allFF xs) ∧ wx = w2)
        case first =>
          go_wp2_with fail
          go_loop [8, 31] (fun v i => ∃ k : Nat, k ≤ n ∧ i = .int .i64 k ∧ v = .bool (allFF (xs.take k))) (fun _ i => n - (intOf i).toNat)
          case atStart => exact ⟨0, by omega, rfl, rfl⟩
          case round =>
            obtain ⟨k, hk, rfl, rfl⟩ := hrel
            by_cases h4 : k < n
            · have hx1 : k < xs.length := by have := hxl.out; omega
              obtain ⟨ad, rfl, _, ca⟩ := (HA.out.below hb2').elem h4 hx1
              have hs := hide (allFF_snoc xs k hx1)
              generalize allFF (xs.take k) = t0 at *
              generalize ((xs[k]).toNat : Int) = x at *
              cases t0
              all_goals
                go_wp2
                go_round
                case rel => exact ⟨k + 1, by omega, by go_num, by rw [hs.out]; simp⟩
                case measure => simp [intOf]; omega
            · have hkn : Hid (allFF (xs.take k) = allFF xs) := by rw [Hid, List.take_of_length_le (by have := hxl.out; omega)]
              generalize allFF (xs.take k) = t0 at *
              go_wp2
              go_meet
              exact ⟨by rw [hkn.out], rfl⟩
        case rest =>
          obtain ⟨rfl, rfl⟩ := hcut
          by_cases h5 : allFF xs = true
          · have hup : (aboveB xs).length = 0 := by rw [aboveB_ones xs h5]; rfl
            rw [h5, hup]
            clear h5 hup HU hul
            go_wp2
            go_ret
            exact ⟨rfl, hb2'⟩
          · have h5' : allFF xs = false := by simpa using h5
            have hmore := hide (above_more xs ys h5')
            have hother := hide (above_other xs zs h5')
            have hpre := hide (prefix_take xs zs)
            have hul' : (aboveB xs).length ≤ 100 := by have := hul.out; omega
            rw [h5']
            clear h5 h5' hul
            generalize (aboveB xs).length = p at *
            have hA2 := hide ((HA.out.below hb2').more hsz2)
            have hB2 := hide ((HB.out.below hb2').more hsz2)
            have hC2 := hide ((HC.out.below hb2').more hsz2)
            clear HA HB HC
            go_upto_region 14 with fail
            go_cut [11] (fun v wx => v = .bool (xs.isPrefixOf zs) ∧ Below wc.heap.size wc wx)
            case first =>
              by_cases h6 : n ≤ o
              · go_wp2_with fail
                have hs1 := (hC2.out.take h6)
                refine (same_any _ _ _ n _ _ _ _ _ hs1 hA2.out (by omega) (by omega)).mono ?_
                rintro e w3 ⟨rfl, hq⟩
                have hp : Hid (decide (zs.take n = xs) = xs.isPrefixOf zs) := by
                  rw [Hid, hpre.out, hxl.out, hzl.out]; simp [h6]
                rw [hp.out]
                have hb4 := hq.below wc.heap.size
                clear hs1 hp hq
                go_wp2_with fail
                go_meet
                exact ⟨rfl, hb4⟩
              · have hp : Hid (xs.isPrefixOf zs = false) := by
                  rw [Hid, hpre.out, hxl.out, hzl.out]; simp [h6]
                go_wp2_with fail
                go_meet
                exact ⟨by rw [hp.out], Below.refl _ _⟩
            case rest =>
              obtain ⟨rfl, hb3⟩ := hcut
              rename_i w3 
              have hsz3 := hb3.size
              have hA3 := hide ((hA2.out.below hb3).more hsz3)
              have hB3 := hide ((hB2.out.below hb3).more hsz3)
              have hC3 := hide ((hC2.out.below hb3).more hsz3)
              have hU3 := hide ((HU.out.below hb3).more hsz3)
              have hb3' := hb2'.trans (hb3.mono hsz2)
              have hsz3' := hb3'.size
              clear hA2 hB2 hC2 HU hb2' hb3
              go_wp2_with (first
                | (at_builtin; refine wpList_app_b rfl (.tmp 58) (.tmp 59) rfl wc.heap.size _ 0 [] (OB.empty wc (Nat.le_refl _)) rfl wc.heap.size A n c xs rfl (hA3.out.alloc (Nat.le_refl _) _) (by omega) (by simp) ?_; intro v4 w4 ho4 hb4 _ _; replace ho4 := hide ho4; have hb4' := ((Below.refl wc.heap.size wc).alloc (Nat.le_refl _) (.cells #[] 5)).trans hb4; clear hb4; have hsz4 := hb4'.size)
                | (at_builtin; refine wpList_app_b rfl (.tmp 60) (.tmp 61) rfl wc.heap.size v4 _ _ ho4.out rfl wc.heap.size B m d ys rfl (hB3.out.below hb4') (by omega) hsz4 ?_; intro v5 w5 ho5 hb5 _ _; obtain ⟨A5, c5, rfl, hr5, _⟩ := ho5.form; replace hr5 := hide hr5; clear ho5; have hb5' := hb4'.trans hb5))
              have hb6 := hb3'.trans (hb5'.mono hsz3')
              have hr6 := hr5.out
              have hsz5 := hb5'.size
              rw [Nat.zero_add, List.nil_append] at hr6
              replace hr6 := hide hr6
              have hA5 := hide ((hA3.out.below hb5').more hsz5)
              have hC5 := hide ((hC3.out.below hb5').more hsz5)
              have hU5 := hide ((hU3.out.below hb5').more hsz5)
              clear hA3 hB3 hC3 hU3 hr5 ho4 hb4' hb5 hb5' hb3' hsz3' hsz4 hsz5 hsz3
              refine (less_any _ _ _ _ _ _ _ _ _ hr6.out hU5.out (by omega) (by omega)).mono ?_
              rintro e w7 ⟨rfl, hq7⟩
              rw [hmore.out]
              have hb7 := hb6.trans (hq7.below _)
              have hA7 := hide ((hA5.out.below (hq7.below _)).more (hq7.below 0).size)
              have hC7 := hide ((hC5.out.below (hq7.below _)).more (hq7.below 0).size)
              have hU7 := hide ((hU5.out.below (hq7.below _)).more (hq7.below 0).size)
              clear hA5 hC5 hU5 hq7 hb6 hr6
              go_wp2_with fail
              refine (less_any _ _ _ _ _ _ _ _ _ hC7.out hU7.out (by omega) (by omega)).mono ?_
              rintro e w8 ⟨rfl, hq8⟩
              rw [hother.out]
              have hb8 := hb7.trans (hq8.below _)
              have hA8 := hide ((hA7.out.below (hq8.below _)).more (hq8.below 0).size)
              have hC8 := hide ((hC7.out.below (hq8.below _)).more (hq8.below 0).size)
              clear hA7 hC7 hU7 hq8 hb7 hmore hother hpre
              generalize xs.isPrefixOf zs = bg
              cases bg
              · go_wp2_with fail
                refine (less_any _ _ _ _ _ _ _ _ _ hC8.out hA8.out (by omega) (by omega)).mono ?_
                rintro e w9 ⟨rfl, hq9⟩
                have hb9 := hb8.trans (hq9.below _)
                clear hA8 hC8 hq9 hb8
                generalize lessB zs xs = t
                go_wp2_with fail
                go_ret
                exact ⟨ret_bool (by simp), hb9⟩
              · generalize lessB zs xs = t
                go_wp2_with fail
                go_ret
                exact ⟨ret_bool (by simp), hb8⟩
      · go_enter Try.func4, Try.ntmps4
        go_wp2_with fail
        refine (wakes20_any _).mono ?_
        rintro e w1 ⟨rfl, hb1⟩
        go_wp2_with fail
        go_ret
        exact ⟨rfl, hb1⟩
    · go_enter Try.func4, Try.ntmps4
      go_wp2_with fail
      refine (wakes20_any _).mono ?_
      rintro e w1 ⟨rfl, hb1⟩
      go_wp2_with fail
      go_ret
      exact ⟨rfl, hb1⟩
  · go_enter Try.func4, Try.ntmps4
    go_wp2_with fail
    refine (wakes20_any _).mono ?_
    rintro e w1 ⟨rfl, hb1⟩
    go_wp2_with fail
    go_ret
    exact ⟨rfl, hb1⟩
end Go.Proofs.Ytnbfblikpoblgaa
