/-
  What is packed, bit by bit, in plain Lean: by the codes that are told, and by codes of one's own; how many bytes that makes of a row of equal bytes. No program in sight.
-/
import Derived.Test.YtbchaomnjbkdhaaBitsL
import Derived.Test.YtbchaomnjbkdhaaLenSpec
import Derived.Test.YtbchaomnjbkdhaaDynSpec
namespace Go.Proofs.Ytbchaomnjbkdhaa
set_option linter.unusedVariables false

def partB (ls : List Nat) (p : Part) : List Nat := encS ls p.symbol ++ loB p.wide p.more
def encIt (lits dist : List Nat) (x : Item) : List Nat := partB lits (litP x) ++ if x.far = 0 then [] else partB dist (farP x)
def encL (lits dist : List Nat) (l : List Item) : List Nat := l.flatMap (encIt lits dist) ++ encS lits 256
theorem encS_len (ls : List Nat) (s : Nat) : (encS ls s).length = ls.getD s 0 := hiB_len _ _
theorem partB_len (ls : List Nat) (p : Part) : (partB ls p).length = ls.getD p.symbol 0 + p.wide := by rw [partB, List.length_append, encS_len, loB_len]
theorem encIt_len (lits dist : List Nat) (x : Item) : (encIt lits dist x).length = costI lits dist x := by
  unfold encIt costI
  rw [List.length_append, partB_len]
  split
  · rfl
  · rw [partB_len]
theorem encL_len (lits dist : List Nat) (l : List Item) : (encL lits dist l).length = costL lits dist l := by
  unfold encL costL
  rw [List.length_append, encS_len]
  congr 1
  induction l with
  | nil => rfl
  | cons x l ih => rw [List.flatMap_cons, List.length_append, ih, encIt_len, List.map_cons, List.sum_cons]
/-- By the codes that are told. -/
def fixB (b : List UInt8) : List Nat := loB 1 1 ++ loB 2 1 ++ encL fixedLits fixedDist (itemsL b)
def orderL : List Nat := [16, 17, 18, 0, 8, 7, 9, 6, 10, 5, 11, 4, 12, 3, 13, 2, 14, 1, 15]
/-- How many lengths of lengths are told. -/
def tellK (cl : List Nat) : Nat → Nat
  | 0 => 4
  | k + 1 => if 4 < k + 1 ∧ cl.getD (orderL.getD k 0) 0 = 0 then tellK cl k else k + 1
def oftenL (runs : List Part) : List Nat := (List.range 19).map fun s => runs.countP (fun p => p.symbol == s)
def litsL (l : List Item) : List Nat := let a := lengthsL (countA l) 15; cutL 257 a.length a
def distL (l : List Item) : List Nat := let d := lengthsL (countD l) 15; cutL 1 d.length d
def runsL (l : List Item) : List Part := shortL (litsL l ++ distL l)
def codesL (l : List Item) : List Nat := lengthsL (oftenL (runsL l)) 7
def headB (l : List Item) : List Nat :=
  loB 5 ((litsL l).length - 257) ++ loB 5 ((distL l).length - 1) ++ loB 4 (tellK (codesL l) 19 - 4) ++ (orderL.take (tellK (codesL l) 19)).flatMap (fun s => loB 3 ((codesL l).getD s 0)) ++ (runsL l).flatMap (partB (codesL l))
/-- By codes of one's own. -/
def dynB (b : List UInt8) : List Nat := loB 1 1 ++ loB 2 2 ++ headB (itemsL b) ++ encL (litsL (itemsL b)) (distL (itemsL b)) (itemsL b)

/-! ### Cut lengths -/
theorem cutL_spec (least : Nat) : ∀ f (l : List Nat), l.length ≤ f → least ≤ l.length →
    ∃ z, l = cutL least f l ++ List.replicate z 0 ∧ least ≤ (cutL least f l).length ∧ ((cutL least f l).length = least ∨ (cutL least f l).getD ((cutL least f l).length - 1) 0 ≠ 0)
  | 0, l, h1, h2 => ⟨0, by simp [cutL], h2, .inl (by simp [cutL]; omega)⟩
  | f + 1, l, h1, h2 => by
    rw [cutL]
    by_cases hc : least < l.length ∧ l.getD (l.length - 1) 0 = 0
    · rw [if_pos hc]
      have hlen : (l.take (l.length - 1)).length = l.length - 1 := by rw [List.length_take]; omega
      obtain ⟨z, h3, h4, h5⟩ := cutL_spec least f (l.take (l.length - 1)) (by omega) (by omega)
      refine ⟨z + 1, ?_, h4, h5⟩
      have e : l = l.take (l.length - 1) ++ [0] := by
        have hn : l ≠ [] := fun h => by rw [h] at hc; simp at hc
        have h6 := List.take_append_getLast l hn
        rw [List.getLast_eq_getElem] at h6
        have h7 : l[l.length - 1]'(by omega) = 0 := by
          have := hc.2
          rw [List.getD_eq_getElem?_getD, List.getElem?_eq_getElem (by omega)] at this
          exact this
        rw [h7] at h6
        exact h6.symm
      rw [List.replicate_succ', ← List.append_assoc, ← h3]
      exact e
    · rw [if_neg hc]
      refine ⟨0, by simp, h2, ?_⟩
      by_cases h3 : least < l.length
      · exact .inr fun h => hc ⟨h3, h⟩
      · exact .inl (by omega)
theorem cut_getD (least : Nat) (l : List Nat) (h : least ≤ l.length) (s : Nat) : (cutL least l.length l).getD s 0 = l.getD s 0 := by
  obtain ⟨z, h1, h2, h3⟩ := cutL_spec least l.length l (Nat.le_refl _) h
  generalize cutL least l.length l = c at *
  rw [h1, List.getD_eq_getElem?_getD, List.getD_eq_getElem?_getD]
  by_cases hs : s < c.length
  · rw [List.getElem?_append_left hs]
  · rw [List.getElem?_append_right (by omega), List.getElem?_eq_none (l := c) (by omega), List.getElem?_replicate]
    split <;> rfl
theorem cut_mem (least : Nat) (l : List Nat) (h : least ≤ l.length) : ∀ x ∈ cutL least l.length l, x ∈ l := by
  obtain ⟨z, h1, -, -⟩ := cutL_spec least l.length l (Nat.le_refl _) h
  intro x hx
  rw [h1]
  exact List.mem_append_left _ hx
theorem cut_kraft (least D : Nat) (l : List Nat) (h : least ≤ l.length) : kraftN (cutL least l.length l) D = kraftN l D := by
  obtain ⟨z, h1, -, -⟩ := cutL_spec least l.length l (Nat.le_refl _) h
  generalize cutL least l.length l = c at *
  have h0 := sum_zeros (fun n => if n = 0 then 0 else 2 ^ (D - n)) rfl z
  unfold sumG at h0
  rw [h1, kraftN, kraftN, List.map_append, List.sum_append, h0, Nat.add_zero]
theorem cut_come (least : Nat) (l : List Nat) (h : least ≤ l.length) : comeF (cutL least l.length l) 0 = comeF l 0 := by
  have hz : ∀ (z s : Nat), comeF (List.replicate z 0) s = [] := by
    intro z
    induction z with
    | zero => intro s; rfl
    | succ z ih => intro s; rw [List.replicate_succ, comeF, if_neg (by omega), ih]
  have happ : ∀ (c d : List Nat) (s : Nat), comeF (c ++ d) s = comeF c s ++ comeF d (s + c.length) := by
    intro c
    induction c with
    | nil => intro d s; rfl
    | cons a c ih =>
      intro d s
      rw [List.cons_append, comeF, comeF, ih, List.length_cons, show s + 1 + c.length = s + (c.length + 1) by omega]
      split
      · rfl
      · rfl
  obtain ⟨z, h1, -, -⟩ := cutL_spec least l.length l (Nat.le_refl _) h
  generalize cutL least l.length l = c at *
  rw [h1, happ, hz, List.append_nil]
theorem nz_come (l : List Nat) : nzL l = (comeF l 0).length := by rw [come_len, nzL, List.countP_eq_length_filter]
theorem nz_app (a b : List Nat) : nzL (a ++ b) = nzL a + nzL b := by rw [nzL, List.countP_append]; rfl

/-! ### Counts -/
theorem countA_len (l : List Item) : (countA l).length = 286 := by simp [countA]
theorem countD_len (l : List Item) : (countD l).length = 30 := by simp [countD]
theorem countA_at (l : List Item) (s : Nat) (h : s < 286) : (countA l).getD s 0 = l.countP (fun x => (litP x).symbol == s) + if s = 256 then 1 else 0 := by
  rw [List.getD_eq_getElem?_getD, countA, List.getElem?_map, List.getElem?_range h]; rfl
theorem countD_at (l : List Item) (s : Nat) (h : s < 30) : (countD l).getD s 0 = l.countP (fun x => decide (0 < x.far) && (farP x).symbol == s) := by
  rw [List.getD_eq_getElem?_getD, countD, List.getElem?_map, List.getElem?_range h]; rfl
theorem countA_le (l : List Item) : ∀ x ∈ countA l, x ≤ l.length + 1 := by
  intro x hx
  obtain ⟨s, hs, rfl⟩ := List.mem_map.1 hx
  have := List.countP_le_length (p := fun x : Item => (litP x).symbol == s) (l := l)
  split <;> omega
theorem countD_le (l : List Item) : ∀ x ∈ countD l, x ≤ l.length := by
  intro x hx
  obtain ⟨s, hs, rfl⟩ := List.mem_map.1 hx
  exact List.countP_le_length
theorem nodup_le : ∀ (c a : List Nat), a.Nodup → (∀ x ∈ a, x ∈ c) → a.length ≤ c.length
  | [], a, _, h => by
    cases a with
    | nil => exact Nat.le_refl _
    | cons x a => have := h x (.head _); cases this
  | x :: c, a, hn, h => by
    have ih := nodup_le c (a.erase x) (hn.erase x) fun y hy => by
      have hy2 := (List.Nodup.mem_erase_iff hn).1 hy
      rcases List.mem_cons.1 (h y hy2.2) with h1 | h1
      · exact absurd h1 hy2.1
      · exact h1
    rw [List.length_cons]
    by_cases hx : x ∈ a
    · have := List.length_erase_of_mem hx; omega
    · rw [List.erase_of_not_mem hx] at ih; omega
theorem come_le (l : List Nat) (n : Nat) (h : ∀ s, 0 < l.getD s 0 → s < n) : (comeF l 0).length ≤ n := by
  have := nodup_le (List.range n) (comeF l 0) (come_nodup l 0) fun s hs => List.mem_range.2 (h s (come_lt l s hs).2)
  rwa [List.length_range] at this
theorem come_few (l : List Nat) (c : List Nat) (h : ∀ s, 0 < l.getD s 0 → s ∈ c) : (comeF l 0).length ≤ c.length :=
  nodup_le c (comeF l 0) (come_nodup l 0) fun s hs => h s (come_lt l s hs).2
theorem pos_lt {l : List Nat} {s : Nat} (h : 0 < l.getD s 0) : s < l.length := by
  rcases Nat.lt_or_ge s l.length with h2 | h2
  · exact h2
  · rw [List.getD_eq_getElem?_getD, List.getElem?_eq_none h2] at h; exact absurd h (by simp)
/-- The lengths of an item list's symbols. -/
theorem lits_ok (l : List Item) (hn : l.length ≤ 1000000) : LenOk (countA l) (lengthsL (countA l) 15) ∧ ∀ n ∈ lengthsL (countA l) 15, n ≤ 15 := by
  have h30 : (2 : Nat) ^ 30 = 1073741824 := by decide
  refine lengths_ok (countA l) 15 (fun x hx => ?_) ?_ (by omega) (by rw [countA_len]; omega)
  · have := countA_le l x hx; omega
  · have := come_le (countA l) 286 (fun s hs => by have := pos_lt hs; rwa [countA_len] at this)
    have e : (2 : Nat) ^ 15 = 32768 := by decide
    omega
theorem dist_ok (l : List Item) (hn : l.length ≤ 1000000) : LenOk (countD l) (lengthsL (countD l) 15) ∧ ∀ n ∈ lengthsL (countD l) 15, n ≤ 15 := by
  have h30 : (2 : Nat) ^ 30 = 1073741824 := by decide
  refine lengths_ok (countD l) 15 (fun x hx => ?_) ?_ (by omega) (by rw [countD_len]; omega)
  · have := countD_le l x hx; omega
  · have := come_le (countD l) 30 (fun s hs => by have := pos_lt hs; rwa [countD_len] at this)
    have e : (2 : Nat) ^ 15 = 32768 := by decide
    omega
theorem short_syms : ∀ (f : Nat) (l : List Nat), ∀ p ∈ shortF f l, p.symbol ∈ l ∨ (p.symbol = 16 ∧ p.wide = 2 ∧ p.more < 4) ∨ (p.symbol = 17 ∧ p.wide = 3 ∧ p.more < 8) ∨ (p.symbol = 18 ∧ p.wide = 7 ∧ p.more < 128)
  | 0, l, p, h => by cases h
  | f + 1, [], p, h => by cases h
  | f + 1, a :: r, p, h => by
    have hd : ∀ k, ∀ p ∈ shortF f ((a :: r).drop k), p.symbol ∈ (a :: r) ∨ (p.symbol = 16 ∧ p.wide = 2 ∧ p.more < 4) ∨ (p.symbol = 17 ∧ p.wide = 3 ∧ p.more < 8) ∨ (p.symbol = 18 ∧ p.wide = 7 ∧ p.more < 128) := by
      intro k p hp
      rcases short_syms f _ p hp with h1 | h1
      · exact .inl (List.mem_of_mem_drop h1)
      · exact .inr h1
    have hr138 := (headRun_cons a r).2.1
    rw [shortF] at h
    split at h
    · rename_i hc
      rcases List.mem_cons.1 h with rfl | h
      · refine .inr (.inr (.inr ⟨rfl, rfl, ?_⟩)); dsimp only; omega
      · exact hd _ p h
    · rename_i hc1
      split at h
      · rename_i hc
        rcases List.mem_cons.1 h with rfl | h
        · refine .inr (.inr (.inl ⟨rfl, rfl, ?_⟩)); dsimp only; omega
        · exact hd _ p h
      · split at h
        · rcases List.mem_cons.1 h with rfl | h
          · exact .inl (.head _)
          · rcases List.mem_cons.1 h with rfl | h
            · refine .inr (.inl ⟨rfl, rfl, ?_⟩); dsimp only; omega
            · exact hd _ p h
        · rcases List.mem_cons.1 h with rfl | h
          · exact .inl (.head _)
          · have := hd 1 p (by rw [List.drop_succ_cons, List.drop_zero]; exact h)
            exact this
theorem oftenL_len (r : List Part) : (oftenL r).length = 19 := by simp [oftenL]
theorem oftenL_at (r : List Part) (s : Nat) (h : s < 19) : (oftenL r).getD s 0 = r.countP (fun p => p.symbol == s) := by
  rw [List.getD_eq_getElem?_getD, oftenL, List.getElem?_map, List.getElem?_range h]; rfl
theorem oftenL_pos (r : List Part) (s : Nat) : 0 < (oftenL r).getD s 0 → ∃ p ∈ r, p.symbol = s := by
  intro h
  have hs := pos_lt h
  rw [oftenL_len] at hs
  rw [oftenL_at r s hs] at h
  obtain ⟨p, hp, he⟩ := List.countP_pos_iff.1 h
  exact ⟨p, hp, by simpa using he⟩
theorem codes_ok (runs : List Part) (hn : runs.length ≤ 1000000) : LenOk (oftenL runs) (lengthsL (oftenL runs) 7) ∧ ∀ n ∈ lengthsL (oftenL runs) 7, n ≤ 7 := by
  have h30 : (2 : Nat) ^ 30 = 1073741824 := by decide
  refine lengths_ok (oftenL runs) 7 (fun x hx => ?_) ?_ (by omega) (by rw [oftenL_len]; omega)
  · obtain ⟨s, hs, rfl⟩ := List.mem_map.1 hx
    have := List.countP_le_length (p := fun p : Part => p.symbol == s) (l := runs)
    omega
  · have := come_le (oftenL runs) 19 (fun s hs => by have := pos_lt hs; rwa [oftenL_len] at this)
    have e : (2 : Nat) ^ 7 = 128 := by decide
    omega
theorem short_len : ∀ (f : Nat) (l : List Nat), (shortF f l).length ≤ 2 * f
  | 0, l => by simp [shortF]
  | f + 1, [] => by simp [shortF]
  | f + 1, a :: r => by
    have h1 := short_len f ((a :: r).drop (headRun (a :: r)))
    have h2 := short_len f ((a :: r).drop (min (headRun (a :: r)) 7))
    have h3 := short_len f r
    rw [shortF]
    split
    · rw [List.length_cons]; omega
    · split
      · rw [List.length_cons]; omega
      · split
        · rw [List.length_cons, List.length_cons]; omega
        · rw [List.length_cons]; omega
theorem litsL_len (l : List Item) (hn : l.length ≤ 1000000) : 257 ≤ (litsL l).length ∧ (litsL l).length ≤ 286 := by
  have h := (lits_ok l hn).1.len
  rw [countA_len] at h
  unfold litsL
  dsimp only
  obtain ⟨z, h1, h2, -⟩ := cutL_spec 257 (lengthsL (countA l) 15).length (lengthsL (countA l) 15) (Nat.le_refl _) (by omega)
  refine ⟨h2, ?_⟩
  have := congrArg List.length h1
  rw [List.length_append] at this
  omega
theorem distL_len (l : List Item) (hn : l.length ≤ 1000000) : 1 ≤ (distL l).length ∧ (distL l).length ≤ 30 := by
  have h := (dist_ok l hn).1.len
  rw [countD_len] at h
  unfold distL
  dsimp only
  obtain ⟨z, h1, h2, -⟩ := cutL_spec 1 (lengthsL (countD l) 15).length (lengthsL (countD l) 15) (Nat.le_refl _) (by omega)
  refine ⟨h2, ?_⟩
  have := congrArg List.length h1
  rw [List.length_append] at this
  omega
theorem tellK_le (cl : List Nat) : ∀ k, 4 ≤ k → 4 ≤ tellK cl k ∧ tellK cl k ≤ k
  | 0, h => by omega
  | k + 1, h => by
    rw [tellK]
    split
    · rename_i hc
      have := tellK_le cl k (by omega); omega
    · omega
end Go.Proofs.Ytbchaomnjbkdhaa
