/-
  How few bytes a row of equal bytes makes, in plain Lean. No program in sight.
-/
import Derived.Test.YtbchaomnjbkdhaaPackSpec
namespace Go.Proofs.Ytbchaomnjbkdhaa
set_option linter.unusedVariables false

theorem head_len (l : List Item) (hn : l.length ≤ 1000000) : (headB l).length ≤ 71 + ((runsL l).map fun p => (codesL l).getD p.symbol 0 + p.wide).sum := by
  unfold headB
  have hk := (tellK_le (codesL l) 19 (by omega)).2
  have h1 : ((orderL.take (tellK (codesL l) 19)).flatMap (fun s => loB 3 ((codesL l).getD s 0))).length ≤ 57 := by
    rw [List.length_flatMap]
    have e : (List.map (fun s => (loB 3 ((codesL l).getD s 0)).length) (orderL.take (tellK (codesL l) 19))) = List.replicate (orderL.take (tellK (codesL l) 19)).length 3 := by
      rw [List.eq_replicate_iff]
      refine ⟨by simp, fun b hb => ?_⟩
      obtain ⟨s, _, rfl⟩ := List.mem_map.1 hb
      exact loB_len _ _
    rw [e, List.sum_replicate_nat]
    have : (orderL.take (tellK (codesL l) 19)).length ≤ 19 := by rw [List.length_take]; omega
    omega
  have h2 : ((runsL l).flatMap (partB (codesL l))).length = ((runsL l).map fun p => (codesL l).getD p.symbol 0 + p.wide).sum := by
    rw [List.length_flatMap]
    congr 1
    exact List.map_congr_left fun p _ => partB_len _ p
  simp only [List.length_append, loB_len, h2]
  omega
/-- The bits of what a row is packed to. -/
theorem row_fix (c : UInt8) (n : Nat) (h : 100 ≤ n) : ((fixB (rowB c n)).length + 7) / 8 ≤ n / 10 + 20 := by
  have hlen : (fixB (rowB c n)).length = 3 + costL fixedLits fixedDist (itemsL (rowB c n)) := by
    unfold fixB
    rw [List.length_append, List.length_append, loB_len, loB_len, encL_len]
  rw [hlen, row_items c n (by omega)]
  have hcost : ∀ (l : List Item), (∀ x ∈ l, okI x ∧ x.far ≤ 1) → (l.map (costI fixedLits fixedDist)).sum ≤ 19 * l.length := by
    intro l hl
    induction l with
    | nil => exact Nat.le_refl _
    | cons x l ih =>
      rw [List.map_cons, List.sum_cons, List.length_cons]
      have ih2 := ih fun y hy => hl y (.tail _ hy)
      have hx := hl x (.head _)
      have h1 : costI fixedLits fixedDist x ≤ 19 := by
        unfold costI
        have a1 := getD_le fixedLits 9 fixed_nine (litP x).symbol
        have a2 := getD_le fixedDist 5 fixed_five (farP x).symbol
        by_cases hf : x.far = 0
        · have hw : (litP x).wide = 0 := by unfold litP; rw [if_pos hf]
          rw [if_pos hf]; omega
        · have hf1 : x.far = 1 := by omega
          have hw := long_wide x (by rcases hx.1 with h | h <;> omega)
          have hw2 : (farP x).wide = 0 := by unfold farP; rw [if_neg hf, hf1]; rfl
          rw [if_neg hf]
          omega
      omega
  have h7 : fixedLits.getD 256 0 = 7 := by decide +kernel
  have hl := rowT_len c (n - 1) (n - 1) (Nat.le_refl _)
  have hlike := rowT_like c (n - 1) (n - 1) (Nat.le_refl _)
  have hok := items_ok (rowB c n) (rowB c n).length 0
  have hit : itemsF (rowB c n) (rowB c n).length 0 = ⟨c, 0, 0⟩ :: rowT c (n - 1) (n - 1) := row_items c n (by omega)
  rw [hit] at hok
  have hs := hcost (⟨c, 0, 0⟩ :: rowT c (n - 1) (n - 1)) (by
    intro x hx
    refine ⟨hok x hx, ?_⟩
    rcases List.mem_cons.1 hx with rfl | hx
    · exact Nat.zero_le _
    · rcases hlike x hx with h1 | h1 | h1
      · rw [h1]; exact Nat.zero_le _
      · rw [h1]; exact Nat.le_refl _
      · rw [h1.1]; exact Nat.le_refl _)
  unfold costL
  rw [h7]
  rw [List.length_cons] at hs
  omega
theorem far_one (x : Item) (h : x.far = 1) : (farP x).symbol = 0 := by
  unfold farP
  rw [if_neg (by omega), h]; decide
theorem far_one_w (x : Item) (h : x.far = 1) : (farP x).wide = 0 := by
  unfold farP
  rw [if_neg (by omega), h]; decide
theorem sum_le9 (f : Item → Nat) : ∀ l : List Item, (∀ x ∈ l, f x ≤ 9) → (l.map f).sum ≤ 9 * l.length
  | [], _ => Nat.le_refl _
  | x :: l, h => by
    have h1 := h x (.head _)
    have h2 := sum_le9 f l fun y hy => h y (.tail _ hy)
    rw [List.map_cons, List.sum_cons, List.length_cons]
    omega
theorem one_cut (l : List Nat) (h1 : 1 ≤ l.length) (hp : ∀ s, 0 < l.getD s 0 → s = 0) : cutL 1 l.length l = [l.getD 0 0] := by
  obtain ⟨z, e1, e2, e3⟩ := cutL_spec 1 l.length l (Nat.le_refl _) h1
  have hg := cut_getD 1 l h1
  generalize cutL 1 l.length l = c at *
  have hl : c.length = 1 := by
    rcases e3 with e3 | e3
    · exact e3
    · rw [hg] at e3
      have := hp _ (Nat.pos_of_ne_zero e3)
      omega
  match c, hl with
  | [a], _ =>
    have := hg 0
    rw [List.getD_cons_zero] at this
    rw [this]
theorem row_dyn (c : UInt8) (n : Nat) (h : 100 ≤ n) (hN : n ≤ 1000000) : ((dynB (rowB c n)).length + 7) / 8 ≤ n / 10 + 20 := by
  have hit : itemsL (rowB c n) = ⟨c, 0, 0⟩ :: rowT c (n - 1) (n - 1) := row_items c n (by omega)
  have hl := rowT_len c (n - 1) (n - 1) (Nat.le_refl _)
  have hlike := rowT_like c (n - 1) (n - 1) (Nat.le_refl _)
  obtain ⟨l, hL⟩ : ∃ l, l = itemsL (rowB c n) := ⟨_, rfl⟩
  have hlen : l.length ≤ (n - 1) / 258 + 3 := by rw [hL, hit, List.length_cons]; omega
  have hn6 : l.length ≤ 1000000 := by omega
  -- the items are four at most
  have hfour : ∀ x ∈ l, x = ⟨c, 0, 0⟩ ∨ x = ⟨0, 258, 1⟩ ∨ (x = ⟨0, (n - 1) % 258, 1⟩ ∧ 3 ≤ (n - 1) % 258) := by
    intro x hx
    rw [hL, hit] at hx
    rcases List.mem_cons.1 hx with rfl | hx
    · exact .inl rfl
    · exact hlike x hx
  have hcopy : ∃ x ∈ l, x.far = 1 := by
    rw [hL, hit]
    obtain ⟨m, hm⟩ : ∃ m, n - 1 = m + 1 := ⟨n - 2, by omega⟩
    refine ⟨⟨0, min 258 (n - 1), 1⟩, List.mem_cons_of_mem _ ?_, rfl⟩
    rw [hm, rowT, if_neg (by omega), if_neg (by omega)]
    exact .head _
  have hA := lits_ok l hn6
  have hD := dist_ok l hn6
  have hl257 := litsL_len l hn6
  have hd1 := distL_len l hn6
  -- the literals' lengths
  have hAs : ∀ s, 0 < (countA l).getD s 0 → s ∈ [c.toNat, 285, (litP ⟨0, (n - 1) % 258, 1⟩).symbol, 256] := by
    intro s hs
    have hs2 := pos_lt hs
    rw [countA_len] at hs2
    rw [countA_at l s hs2] at hs
    by_cases h256 : s = 256
    · subst h256; simp
    · rw [if_neg h256, Nat.add_zero] at hs
      obtain ⟨x, hx, he⟩ := List.countP_pos_iff.1 hs
      have he2 : (litP x).symbol = s := by simpa using he
      rcases hfour x hx with rfl | rfl | ⟨rfl, _⟩
      · rw [← he2]; exact .head _
      · rw [← he2]; exact .tail _ (.head _)
      · rw [← he2]; exact .tail _ (.tail _ (.head _))
  have hAc := come_few (countA l) _ hAs
  simp only [List.length_cons, List.length_nil] at hAc
  have hDs : ∀ s, 0 < (countD l).getD s 0 → s = 0 := by
    intro s hs
    have hs2 := pos_lt hs
    rw [countD_len] at hs2
    rw [countD_at l s hs2] at hs
    obtain ⟨x, hx, he⟩ := List.countP_pos_iff.1 hs
    simp only [Bool.and_eq_true, decide_eq_true_eq, beq_iff_eq] at he
    rcases hfour x hx with rfl | rfl | ⟨rfl, _⟩
    · exact absurd he.1 (Nat.lt_irrefl 0)
    · rw [← he.2]; decide
    · rw [← he.2]; exact far_one _ rfl
  have hD0 : 0 < (countD l).getD 0 0 := by
    rw [countD_at l 0 (by omega)]
    obtain ⟨x, hx, hf⟩ := hcopy
    refine List.countP_pos_iff.2 ⟨x, hx, ?_⟩
    have : (farP x).symbol = 0 := by unfold farP; rw [if_neg (by omega), hf]; decide
    simp [hf, this]
  have hDc := come_few (countD l) [0] (fun s hs => by rw [hDs s hs]; exact .head _)
  simp only [List.length_cons, List.length_nil] at hDc
  have hll3 : ∀ x ∈ litsL l, x ≤ 3 := by
    intro x hx
    have h1 := hA.1.low x (cut_mem 257 _ (by rw [hA.1.len, countA_len]; omega) x hx)
    omega
  have hdl : distL l = [1] := by
    unfold distL
    dsimp only
    have hlD : 1 ≤ (lengthsL (countD l) 15).length := by rw [hD.1.len, countD_len]; omega
    rw [one_cut _ hlD (fun s hs => hDs s ((hD.1.pos s).1 hs))]
    have h1 := (hD.1.pos 0).2 hD0
    have h2 := hD.1.low _ (mem_getD (show 0 < (lengthsL (countD l) 15).length by omega))
    congr 1
    omega
  have hnzA : nzL (litsL l) ≤ 4 := by
    have e : comeF (litsL l) 0 = comeF (countA l) 0 := by
      unfold litsL
      dsimp only
      rw [cut_come 257 _ (by rw [hA.1.len, countA_len]; omega)]
      exact come_same hA.1.len hA.1.pos
    rw [nz_come, e]; exact hAc
  have hnz : nzL (litsL l ++ distL l) ≤ 5 := by
    rw [nz_app, hdl]
    have : nzL [1] = 1 := by decide
    omega
  have hends : endsN (litsL l ++ distL l) := by
    rw [hdl]
    intro hne
    rw [List.getLast_append_of_ne_nil _ (List.cons_ne_nil 1 [])]
    exact (by decide : (1 : Nat) ≠ 0)
  have hlb : (litsL l ++ distL l).length ≤ 287 := by rw [List.length_append, hdl]; simp; omega
  have hruns := (short_cost (litsL l ++ distL l).length (litsL l ++ distL l) (Nat.le_refl _) hends).1
  have hrl := short_len (litsL l ++ distL l).length (litsL l ++ distL l)
  have hrs : runsL l = shortF (litsL l ++ distL l).length (litsL l ++ distL l) := rfl
  rw [← hrs] at hruns hrl
  have hC := codes_ok (runsL l) (by omega)
  have hCs : ∀ s, 0 < (oftenL (runsL l)).getD s 0 → s ∈ [0, 1, 2, 3, 16, 17, 18] := by
    intro s hs
    obtain ⟨p, hp, rfl⟩ := oftenL_pos _ s hs
    rw [hrs] at hp
    rcases short_syms _ _ p hp with h1 | h1 | h1 | h1
    · have : p.symbol ≤ 3 := by
        rw [hdl] at h1
        rcases List.mem_append.1 h1 with h1 | h1
        · exact hll3 _ h1
        · have : p.symbol = 1 := by simpa using h1
          omega
      simp; omega
    · rw [h1.1]; simp
    · rw [h1.1]; simp
    · rw [h1.1]; simp
  have hCc := come_few _ _ hCs
  simp only [List.length_cons, List.length_nil] at hCc
  have hc6 : ∀ x ∈ codesL l, x ≤ 6 := by
    intro x hx
    have := hC.1.low x hx
    omega
  have hcost : ((runsL l).map fun p => (codesL l).getD p.symbol 0 + p.wide).sum ≤ costP (runsL l) := by
    unfold costP
    generalize runsL l = r
    induction r with
    | nil => exact Nat.le_refl _
    | cons p r ih =>
      rw [List.map_cons, List.sum_cons, List.map_cons, List.sum_cons]
      have := getD_le (codesL l) 6 hc6 p.symbol
      omega
  have hhead := head_len l hn6
  -- the items
  have hitem : (l.map (costI (litsL l) (distL l))).sum ≤ 9 * l.length := by
    have hx9 : ∀ x ∈ l, costI (litsL l) (distL l) x ≤ 9 := by
      intro x hx
      unfold costI
      have a1 := getD_le (litsL l) 3 hll3 (litP x).symbol
      have a2 : (distL l).getD (farP x).symbol 0 ≤ 1 := getD_le (distL l) 1 (by rw [hdl]; simp) _
      rcases hfour x hx with rfl | rfl | ⟨rfl, _⟩
      · rw [if_pos rfl]
        have : (litP ⟨c, 0, 0⟩).wide = 0 := rfl
        omega
      · rw [if_neg (by decide)]
        have hw := long_wide ⟨0, 258, 1⟩ (by decide)
        have hw2 : (farP ⟨0, 258, 1⟩).wide = 0 := by decide
        omega
      · rw [if_neg (show ¬ (1 : Nat) = 0 by decide)]
        have hw := long_wide ⟨0, (n - 1) % 258, 1⟩ (by have := Nat.mod_lt (n - 1) (show 258 > 0 by omega); dsimp only; omega)
        have hw2 : (farP ⟨0, (n - 1) % 258, 1⟩).wide = 0 := far_one_w _ rfl
        omega
    exact sum_le9 _ _ hx9
  have hend : (litsL l).getD 256 0 ≤ 3 := getD_le _ 3 hll3 256
  have hlenB : (dynB (rowB c n)).length = 3 + (headB l).length + costL (litsL l) (distL l) l := by
    unfold dynB
    rw [← hL, List.length_append, List.length_append, List.length_append, loB_len, loB_len, encL_len]
  rw [hlenB]
  unfold costL
  have h138 : (litsL l ++ distL l).length / 138 ≤ 2 := by omega
  omega
end Go.Proofs.Ytbchaomnjbkdhaa
