/-
  Packing by codes of one's own, in plain Lean: what is counted, lengths told by runs, how many bits a row of equal bytes takes. No program in sight.
-/
import Derived.Test.YtbchaomnjbkdhaaRowSpec
import Derived.Test.YtbchaomnjbkdhaaHeapSpec
namespace Go.Proofs.Ytbchaomnjbkdhaa
set_option linter.unusedVariables false

def countA (l : List Item) : List Nat := (List.range 286).map fun s => l.countP (fun x => (litP x).symbol == s) + if s = 256 then 1 else 0
def countD (l : List Item) : List Nat := (List.range 30).map fun s => l.countP (fun x => decide (0 < x.far) && (farP x).symbol == s)
/-- Zeros off the end, but so many are left. -/
def cutL (least : Nat) : Nat → List Nat → List Nat
  | 0, l => l
  | f + 1, l => if least < l.length ∧ l.getD (l.length - 1) 0 = 0 then cutL least f (l.take (l.length - 1)) else l
/-- How long a list's head is alike. -/
def headRun (l : List Nat) : Nat := min 138 (l.takeWhile (· == l.headD 0)).length
def shortF : Nat → List Nat → List Part
  | 0, _ => []
  | _ + 1, [] => []
  | f + 1, a :: r =>
    if a = 0 ∧ 11 ≤ headRun (a :: r) then ⟨18, 7, headRun (a :: r) - 11⟩ :: shortF f ((a :: r).drop (headRun (a :: r)))
    else if a = 0 ∧ 3 ≤ headRun (a :: r) then ⟨17, 3, headRun (a :: r) - 3⟩ :: shortF f ((a :: r).drop (headRun (a :: r)))
    else if 0 < a ∧ 4 ≤ headRun (a :: r) then ⟨a, 0, 0⟩ :: ⟨16, 2, min (headRun (a :: r)) 7 - 4⟩ :: shortF f ((a :: r).drop (min (headRun (a :: r)) 7))
    else ⟨a, 0, 0⟩ :: shortF f r
def shortL (l : List Nat) : List Part := shortF l.length l
def costP (l : List Part) : Nat := (l.map fun p => 6 + p.wide).sum
def nzL (l : List Nat) : Nat := l.countP (fun n => decide (0 < n))
/-- It ends with no zero. -/
def endsN (l : List Nat) : Prop := ∀ h : l ≠ [], l.getLast h ≠ 0
theorem endsN_drop {l : List Nat} (h : endsN l) (k : Nat) : endsN (l.drop k) := by
  intro hne
  have h2 : l ≠ [] := fun e => hne (by rw [e]; simp)
  rw [List.getLast_drop]
  exact h h2
theorem nz_drop (l : List Nat) (k : Nat) : nzL (l.drop k) ≤ nzL l := by
  unfold nzL
  conv => rhs; rw [← List.take_append_drop k l, List.countP_append]
  omega
theorem take_tw (p : Nat → Bool) : ∀ r : List Nat, r.take (r.takeWhile p).length = r.takeWhile p ∧ r.drop (r.takeWhile p).length = r.dropWhile p
  | [] => ⟨rfl, rfl⟩
  | a :: r => by
    have ih := take_tw p r
    cases h : p a with
    | true => rw [List.takeWhile_cons_of_pos h, List.dropWhile_cons_of_pos h, List.length_cons, List.take_succ_cons, List.drop_succ_cons, ih.1, ih.2]; exact ⟨rfl, rfl⟩
    | false => rw [List.takeWhile_cons_of_neg (by simp [h]), List.dropWhile_cons_of_neg (by simp [h])]; exact ⟨rfl, rfl⟩
theorem headRun_cons (a : Nat) (r : List Nat) : 1 ≤ headRun (a :: r) ∧ headRun (a :: r) ≤ 138 ∧ headRun (a :: r) ≤ (a :: r).length ∧ ∀ x ∈ (a :: r).take (headRun (a :: r)), x = a := by
  have h1 : (a :: r).takeWhile (· == (a :: r).headD 0) = a :: r.takeWhile (· == a) := by
    rw [List.headD_cons, List.takeWhile_cons_of_pos (by simp)]
  unfold headRun
  rw [h1, List.length_cons]
  have h2 : (r.takeWhile (· == a)).length ≤ r.length := (List.takeWhile_sublist _).length_le
  refine ⟨by omega, by omega, by rw [List.length_cons]; omega, fun x hx => ?_⟩
  have h3 : x ∈ (a :: r).take ((r.takeWhile (· == a)).length + 1) := (List.take_sublist_take_left (by omega)).subset hx
  rw [List.take_succ_cons, List.mem_cons] at h3
  rcases h3 with h3 | h3
  · exact h3
  · rw [(take_tw (· == a) r).1] at h3
    simpa using List.all_eq_true.1 (List.all_takeWhile (l := r) (p := (· == a))) x h3
/-- Where a run of less than 138 ends, the list ends, or another number comes. -/
theorem headRun_next (a : Nat) (r : List Nat) (h : headRun (a :: r) < 138) : ∀ b t, (a :: r).drop (headRun (a :: r)) = b :: t → b ≠ a := by
  intro b t hbt
  have h1 : (a :: r).takeWhile (· == (a :: r).headD 0) = a :: r.takeWhile (· == a) := by
    rw [List.headD_cons, List.takeWhile_cons_of_pos (by simp)]
  have hh : headRun (a :: r) = (r.takeWhile (· == a)).length + 1 := by
    unfold headRun at h ⊢
    rw [h1, List.length_cons] at h ⊢
    omega
  rw [hh, List.drop_succ_cons] at hbt
  rw [(take_tw (· == a) r).2] at hbt
  have := List.head?_dropWhile_not (· == a) r
  rw [hbt] at this
  simpa using this
theorem nz_run (a : Nat) (ha : 0 < a) (l : List Nat) (k : Nat) (hk : k ≤ l.length) (h : ∀ x ∈ l.take k, x = a) : nzL l = k + nzL (l.drop k) := by
  unfold nzL
  conv => lhs; rw [← List.take_append_drop k l, List.countP_append]
  congr 1
  rw [List.countP_eq_length.2 (fun x hx => by rw [h x hx]; simpa using ha), List.length_take]
  omega
theorem short_fuel : ∀ (f g : Nat) (l : List Nat), l.length ≤ f → l.length ≤ g → shortF f l = shortF g l
  | 0, 0, l, _, _ => rfl
  | 0, g + 1, l, h, _ => by
    have e : l = [] := List.eq_nil_of_length_eq_zero (by omega)
    subst e; rfl
  | f + 1, 0, l, _, h => by
    have e : l = [] := List.eq_nil_of_length_eq_zero (by omega)
    subst e; rfl
  | f + 1, g + 1, [], _, _ => rfl
  | f + 1, g + 1, a :: r, h1, h2 => by
    obtain ⟨k1, k2, k3, -⟩ := headRun_cons a r
    rw [List.length_cons] at h1 h2
    have hd : ∀ k, 1 ≤ k → ((a :: r).drop k).length ≤ r.length := fun k hk => by rw [List.length_drop, List.length_cons]; omega
    have e1 := short_fuel f g ((a :: r).drop (headRun (a :: r))) (by have := hd _ k1; omega) (by have := hd _ k1; omega)
    have e2 := short_fuel f g ((a :: r).drop (min (headRun (a :: r)) 7)) (by have := hd (min (headRun (a :: r)) 7) (by omega); omega) (by have := hd (min (headRun (a :: r)) 7) (by omega); omega)
    have e3 := short_fuel f g r (by omega) (by omega)
    rw [shortF, shortF, e1, e2, e3]
/-- The runs' bits: nineteen for each that is no zero, thirteen more for each 138. -/
theorem short_cost : ∀ (f : Nat) (l : List Nat), l.length ≤ f → endsN l → costP (shortF f l) ≤ 19 * nzL l + 13 * (l.length / 138) ∧ (∀ a r, l = a :: r → 0 < a → costP (shortF f l) + 13 ≤ 19 * nzL l + 13 * (l.length / 138))
  | 0, l, h, _ => by
    have e : l = [] := List.eq_nil_of_length_eq_zero (by omega)
    subst e
    exact ⟨by simp [shortF, costP], fun a r e => by cases e⟩
  | f + 1, [], _, _ => ⟨by simp [shortF, costP], fun a r e => by cases e⟩
  | f + 1, a :: r, h, he => by
    obtain ⟨h1, h2, h3, h4⟩ := headRun_cons a r
    have hr := endsN_drop he 1
    rw [List.drop_succ_cons, List.drop_zero] at hr
    rw [List.length_cons] at h
    have ihr := short_cost f r (by omega) hr
    have hlen : (a :: r).length = r.length + 1 := rfl
    have hdr : r.length / 138 ≤ (r.length + 1) / 138 := Nat.div_le_div_right (by omega)
    have hd : ∀ k, 1 ≤ k → k ≤ (a :: r).length → ((a :: r).drop k).length ≤ f := fun k hk hk2 => by rw [List.length_drop, hlen]; omega
    have hcons : ∀ (p : Part) (l : List Part), costP (p :: l) = 6 + p.wide + costP l := fun p l => rfl
    by_cases ha : a = 0
    · subst ha
      have hnz : nzL (0 :: r) = nzL r := by simp [nzL]
      refine ⟨?_, fun b t e hb => by cases e; omega⟩
      rw [hnz, hlen]
      -- behind a run that is shorter than 138 a number comes that is no zero
      have hrest : headRun (0 :: r) < 138 → costP (shortF f ((0 :: r).drop (headRun (0 :: r)))) + 13 ≤ 19 * nzL r + 13 * ((r.length + 1) / 138) := by
        intro hlt
        have ih := short_cost f ((0 :: r).drop (headRun (0 :: r))) (hd _ h1 h3) (endsN_drop he _)
        have hn2 := nz_drop (0 :: r) (headRun (0 :: r))
        rw [hnz] at hn2
        have hl2 : ((0 :: r).drop (headRun (0 :: r))).length / 138 ≤ (r.length + 1) / 138 := Nat.div_le_div_right (by rw [List.length_drop, hlen]; omega)
        cases hdd : (0 :: r).drop (headRun (0 :: r)) with
        | nil =>
          exfalso
          have hall : headRun (0 :: r) = (0 :: r).length := by
            have := congrArg List.length hdd
            rw [List.length_drop] at this
            simp at this
            simp
            omega
          have := he (by simp)
          exact this (h4 _ (by rw [hall, List.take_length]; exact List.getLast_mem _))
        | cons b t =>
          have hb := headRun_next 0 r hlt b t hdd
          rw [hdd] at ih hn2 hl2
          have := ih.2 b t rfl (by omega)
          omega
      rw [shortF]
      by_cases c1 : 11 ≤ headRun (0 :: r)
      · rw [if_pos ⟨rfl, c1⟩, hcons]
        dsimp only
        by_cases c2 : headRun (0 :: r) < 138
        · have := hrest c2; omega
        · have e138 : headRun (0 :: r) = 138 := by omega
          have ih := (short_cost f ((0 :: r).drop (headRun (0 :: r))) (hd _ h1 h3) (endsN_drop he _)).1
          have hn2 := nz_drop (0 :: r) (headRun (0 :: r))
          rw [hnz] at hn2
          rw [List.length_drop, hlen, e138] at ih
          rw [e138] at hn2 h3 ⊢
          have e2 : (r.length + 1 - 138) / 138 + 1 = (r.length + 1) / 138 := by rw [hlen] at h3; omega
          omega
      · rw [if_neg (by omega)]
        by_cases c3 : 3 ≤ headRun (0 :: r)
        · rw [if_pos ⟨rfl, c3⟩, hcons]
          have := hrest (by omega)
          dsimp only
          omega
        · rw [if_neg (by omega), if_neg (by omega), hcons]
          dsimp only
          -- one zero, or two
          by_cases c4 : headRun (0 :: r) = 1
          · have hr1 := hrest (by omega)
            rw [c4, List.drop_succ_cons, List.drop_zero] at hr1
            omega
          · have c5 : headRun (0 :: r) = 2 := by omega
            have hr1 := hrest (by omega)
            rw [c5] at hr1 h4
            cases r with
            | nil => rw [List.length_cons, List.length_nil] at h3; omega
            | cons b t =>
              have hb : b = 0 := h4 b (by simp)
              subst hb
              rw [List.drop_succ_cons, List.drop_succ_cons, List.drop_zero] at hr1
              obtain ⟨g, rfl⟩ : ∃ g, f = g + 1 := ⟨f - 1, by rw [List.length_cons] at h; omega⟩
              have hrun : headRun (0 :: t) = 1 ∨ 2 ≤ headRun (0 :: t) := by have := (headRun_cons 0 t).1; omega
              have hrun1 : headRun (0 :: t) = 1 := by
                have e1 : headRun (0 :: 0 :: t) = min 138 ((t.takeWhile (· == 0)).length + 2) := by
                  unfold headRun
                  rw [List.headD_cons, List.takeWhile_cons_of_pos (by simp), List.takeWhile_cons_of_pos (by simp)]
                  simp
                have e2 : headRun (0 :: t) = min 138 ((t.takeWhile (· == 0)).length + 1) := by
                  unfold headRun
                  rw [List.headD_cons, List.takeWhile_cons_of_pos (by simp)]
                  simp
                omega
              rw [shortF, hrun1, if_neg (by omega), if_neg (by omega), if_neg (by omega), hcons]
              dsimp only
              -- fuel
              have hfu : ∀ (f g : Nat) (l : List Nat), l.length ≤ f → l.length ≤ g → shortF f l = shortF g l := short_fuel
              rw [hfu g (g + 1) t (by rw [List.length_cons] at h; omega) (by rw [List.length_cons] at h; omega)]
              omega
    · have ha1 : 0 < a := by omega
      have hgoal : costP (shortF (f + 1) (a :: r)) + 13 ≤ 19 * nzL (a :: r) + 13 * ((a :: r).length / 138) := by
        rw [shortF, if_neg (by omega), if_neg (by omega)]
        by_cases c1 : 4 ≤ headRun (a :: r)
        · rw [if_pos ⟨ha1, c1⟩, hcons, hcons]
          dsimp only
          obtain ⟨k, hk⟩ : ∃ k, k = min (headRun (a :: r)) 7 := ⟨_, rfl⟩
          rw [← hk]
          have ih := (short_cost f ((a :: r).drop k) (hd k (by omega) (by omega)) (endsN_drop he k)).1
          have hn := nz_run a ha1 (a :: r) k (by omega) (fun x hx => h4 x ((List.take_sublist_take_left (by omega)).subset hx))
          have hl2 : ((a :: r).drop k).length / 138 ≤ (a :: r).length / 138 := Nat.div_le_div_right (by rw [List.length_drop]; omega)
          omega
        · rw [if_neg (by omega), hcons, hlen]
          have hn := nz_run a ha1 (a :: r) 1 (by simp) (fun x hx => by simpa using hx)
          rw [List.drop_succ_cons, List.drop_zero] at hn
          dsimp only
          have := ihr.1
          omega
      exact ⟨by omega, fun b t e hb => hgoal⟩
end Go.Proofs.Ytbchaomnjbkdhaa
