/-
  The walk of the law KeyNums, given the plain law.
-/
import Derived.Test.YtnbfblikpoblgaaKeyE
namespace Go.Proofs.Ytnbfblikpoblgaa
open Go.RowKit
set_option linter.unusedVariables false

/-- Lists of numbers in order. -/
def lessI : List Int → List Int → Bool
  | a :: l, b :: r => if heldI a = heldI b then lessI l r else decide (heldI a < heldI b)
  | _, _ => false

theorem lessI_app (p q l r : List Int) (h : p.map heldI = q.map heldI) : lessI (p ++ l) (q ++ r) = lessI l r := by
  induction p generalizing q with
  | nil => cases q with
    | nil => rfl
    | cons _ _ => simp at h
  | cons a p ih => cases q with
    | nil => simp at h
    | cons b q => simp at h; simp [lessI, h.1, ih q h.2]
theorem lessI_split (k : Nat) (xs ys : List Int) (h : (xs.take k).map heldI = (ys.take k).map heldI) : lessI xs ys = lessI (xs.drop k) (ys.drop k) := by
  conv => lhs; rw [← List.take_append_drop k xs, ← List.take_append_drop k ys]
  exact lessI_app _ _ _ _ h
theorem lessI_ne {xs ys : List Int} {k : Nat} (h : (xs.take k).map heldI = (ys.take k).map heldI) (h1 : k < xs.length) (h2 : k < ys.length) (e : heldI xs[k] ≠ heldI ys[k]) : lessI xs ys = decide (heldI xs[k] < heldI ys[k]) := by
  rw [lessI_split k xs ys h, drop_cons xs k h1, drop_cons ys k h2]
  simp [lessI, e]
theorem takeI_next {xs ys : List Int} {k : Nat} (h : (xs.take k).map heldI = (ys.take k).map heldI) (h1 : k < xs.length) (h2 : k < ys.length) (e : heldI xs[k] = heldI ys[k]) : (xs.take (k + 1)).map heldI = (ys.take (k + 1)).map heldI := by
  rw [List.take_succ_eq_append_getElem h1, List.take_succ_eq_append_getElem h2, List.map_append, List.map_append, h]
  simp [e]
theorem lessI_end {xs ys : List Int} {k : Nat} (h : (xs.take k).map heldI = (ys.take k).map heldI) (hx : xs.length ≤ k) : lessI xs ys = false := by
  rw [lessI_split k xs ys h, List.drop_of_length_le hx]
  rfl
theorem numsB_len (l : List Int) : (numsB l).length = 6 * l.length := by
  induction l with
  | nil => rfl
  | cons a l ih => simp only [numsB, List.flatMap_cons, List.length_append, List.length_cons] at *; rw [ih]; simp [numB]; omega

set_option maxHeartbeats 1000000 in
theorem keyNums_of (A B : Option Addr) (n m c d : Nat) (xs ys : List Int) (w : World) (ha : RI w w.heap.size A n xs) (hb : RI w w.heap.size B m ys)
    (hlaw : xs.length = ys.length → lessB ([] ++ numsB xs) ([] ++ numsB ys) = lessI xs ys) :
    Calls Try.prog 3 #[.slice A n c, .slice B m d] w fun e w' => e = .returned (.bool true) ∧ Below w.heap.size w w' := by
  have hxl := hide ha.len
  have hyl := hide hb.len
  have HA := hide ha
  have HB := hide hb
  have HL := hide hlaw
  clear ha hb hlaw
  by_cases h20 : n ≤ 20
  · by_cases hnm : n = m
    · subst hnm
      replace HL := hide (HL.out (by rw [hxl.out, hyl.out]))
      go_enter Try.func3, Try.ntmps3
      go_wp2_with fail
      refine (wakes20_any _).mono ?_
      rintro e w1 ⟨rfl, hb1⟩
      have hsz1 := hb1.size
      go_upto_block 0 with fail
      go_cut [5] (fun v wx => v = .bool (lessI xs ys) ∧ Below w.heap.size w wx)
      case first =>
        go_wp2_with fail
        go_loopw [5, 25] (fun v i wr => ∃ k : Nat, k ≤ n ∧ v = .bool false ∧ i = .int .i64 k ∧ Below w.heap.size w wr ∧ Hid ((xs.take k).map heldI = (ys.take k).map heldI)) (fun _ i _ => n - (intOf i).toNat)
        case atStart => exact ⟨0, by omega, rfl, rfl, hb1, by simp [Hid]⟩
        case round =>
          obtain ⟨k, hk, rfl, rfl, hbr, HT⟩ := hrel
          by_cases h1 : k < n
          · have hx1 : k < xs.length := by have := hxl.out; omega
            have hy1 : k < ys.length := by have := hyl.out; omega
            obtain ⟨ad, rfl, _, ca⟩ := (HA.out.below hbr).elem h1 hx1
            obtain ⟨bd, rfl, _, cb⟩ := (HB.out.below hbr).elem h1 hy1
            have HN := hide (lessI_ne HT.out hx1 hy1)
            have HE := hide (takeI_next HT.out hx1 hy1)
            by_cases he : heldI xs[k] = heldI ys[k]
            · replace HE := hide (HE.out he)
              have he' : (heldI xs[k] != heldI ys[k]) = false := by simp [he]
              clear HN HT he
              go_wp2
              go_quiet ((go_at_call 9; exact quiet_left (held_any _ _)))
              go_wp2
              go_roundw
              case rel => exact ⟨k + 1, by omega, rfl, by go_num, below_drewN hbr _, HE⟩
              case measure => simp [intOf]; omega
            · replace HN := hide (HN.out he)
              have he' : (heldI xs[k] != heldI ys[k]) = true := by rw [bne_iff_ne]; exact he
              clear HE HT he
              go_wp2
              go_quiet ((go_at_call 9; exact quiet_left (held_any _ _)))
              go_wp2
              go_meet
              exact ⟨by rw [HN.out], below_drewN hbr _⟩
          · have HN := hide (lessI_end HT.out (by have := hxl.out; omega))
            go_wp2
            go_meet
            exact ⟨by rw [HN.out], hbr⟩
      case rest =>
        obtain ⟨rfl, hb2⟩ := hcut
        have hsz2 := hb2.size
        clear hb1 hsz1
        go_wp2_with fail
        refine (num_any _ _ 0 n _ _ [] xs _ (RB.nil _ _) ((HA.out.below hb2).more hsz2) (by omega) (by omega)).mono ?_
        rintro e w3 ⟨v3, rfl, ho3, hb3⟩
        have hb3' := hb2.trans (hb3.mono hsz2)
        have hsz3 := hb3'.size
        go_wp2_with fail
        refine (num_any _ _ 0 n _ _ [] ys _ (RB.nil _ _) ((HB.out.below hb3').more hsz3) (by omega) (by omega)).mono ?_
        rintro e w4 ⟨v4, rfl, ho4, hb4⟩
        have hb4' := hb3'.trans (hb4.mono hsz3)
        replace ho3 := ho3.below hb4 (Nat.le_refl _)
        obtain ⟨A3, c3, rfl, hr3, _⟩ := ho3.form
        obtain ⟨A4, c4, rfl, hr4, _⟩ := ho4.form
        have e3 : ([] ++ numsB xs).length = 6 * n := by rw [List.nil_append, numsB_len, hxl.out]
        have e4 : ([] ++ numsB ys).length = 6 * n := by rw [List.nil_append, numsB_len, hyl.out]
        rw [e3] at hr3
        rw [e4] at hr4
        replace hr3 := hide hr3
        replace hr4 := hide hr4
        clear ho3 ho4 hb2 hb3 hb4 hb3'
        rw [e3, e4]
        clear e3 e4
        go_wp2_with fail
        refine (less_any _ _ _ _ _ _ _ _ _ hr3.out hr4.out (by omega) (by omega)).mono ?_
        rintro e w5 ⟨rfl, hq⟩
        rw [HL.out]
        have hb5 := hb4'.trans (hq.below _)
        go_wp2_with fail
        go_ret
        exact ⟨ret_bool (by simp), hb5⟩
    · have hne : ((n : Int) != (m : Int)) = true := by rw [bne_iff_ne]; omega
      go_enter Try.func3, Try.ntmps3
      go_wp2_with fail
      refine (wakes20_any _).mono ?_
      rintro e w1 ⟨rfl, hb1⟩
      go_wp2_with fail
      go_ret
      exact ⟨rfl, hb1⟩
  · go_enter Try.func3, Try.ntmps3
    go_wp2_with fail
    refine (wakes20_any _).mono ?_
    rintro e w1 ⟨rfl, hb1⟩
    go_wp2_with fail
    go_ret
    exact ⟨rfl, hb1⟩
end Go.Proofs.Ytnbfblikpoblgaa
