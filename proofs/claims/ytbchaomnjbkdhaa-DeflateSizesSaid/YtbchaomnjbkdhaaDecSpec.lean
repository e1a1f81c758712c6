/-
  What was packed comes back, in plain Lean: copies, lengths told by runs, the lengths of lengths; lengths are codes that may be. No program in sight.
-/
import Derived.Test.YtbchaomnjbkdhaaPackSpec
namespace Go.Proofs.Ytbchaomnjbkdhaa
set_option linter.unusedVariables false

/-! ### Copies -/
/-- So many bytes more, each of so far back. -/
def copyN (far : Nat) : Nat → List UInt8 → List UInt8
  | 0, out => out
  | n + 1, out => copyN far n (out ++ [out.getD (out.length - far) 0])
def putI (out : List UInt8) (x : Item) : List UInt8 := if x.far = 0 then out ++ [x.c] else copyN x.far x.long out
theorem copyN_len (far : Nat) : ∀ n out, (copyN far n out).length = out.length + n
  | 0, out => rfl
  | n + 1, out => by rw [copyN, copyN_len far n]; simp; omega
theorem putI_len (out : List UInt8) (x : Item) : (putI out x).length = out.length + sizeI x := by
  unfold putI sizeI
  split
  · simp
  · exact copyN_len _ _ _
theorem copy_take (b : List UInt8) (far : Nat) : ∀ n i, 1 ≤ far → far ≤ i → i + n ≤ b.length → (∀ j, j < n → b.getD (i + j - far) 0 = b.getD (i + j) 0) → copyN far n (b.take i) = b.take (i + n)
  | 0, i, _, _, _, _ => rfl
  | n + 1, i, h1, h2, h3, h4 => by
    rw [copyN]
    have hl : (b.take i).length = i := by rw [List.length_take]; omega
    have e : b.take i ++ [(b.take i).getD ((b.take i).length - far) 0] = b.take (i + 1) := by
      rw [hl, List.take_succ_eq_append_getElem (show i < b.length by omega)]
      congr 2
      rw [List.getD_eq_getElem?_getD, List.getElem?_take_of_lt (by omega), ← List.getD_eq_getElem?_getD]
      have := h4 0 (by omega)
      rw [Nat.add_zero] at this
      rw [this, List.getD_eq_getElem?_getD, List.getElem?_eq_getElem (by omega)]; rfl
    rw [e, copy_take b far n (i + 1) h1 (by omega) (by omega) (fun j hj => by
      have := h4 (j + 1) (by omega)
      rw [show i + 1 + j - far = i + (j + 1) - far by omega, show i + 1 + j = i + (j + 1) by omega]; exact this)]
    congr 1; omega
theorem runL_same (b : List UInt8) (k i : Nat) : ∀ f n, (∀ j, j < n → b.getD (k + j) 0 = b.getD (i + j) 0) → ∀ j, j < runL b k i f n → b.getD (k + j) 0 = b.getD (i + j) 0
  | 0, n, h => h
  | f + 1, n, h => by
    rw [runL]
    split
    · rename_i hc
      exact runL_same b k i f (n + 1) fun j hj => by
        by_cases hjn : j = n
        · subst hjn; exact hc.2.2
        · exact h j (by omega)
    · exact h
theorem match_same (b : List UInt8) (i : Nat) (h : 3 ≤ (matchAt b i).1) : ∀ j, j < (matchAt b i).1 → b.getD (i + j - (matchAt b i).2) 0 = b.getD (i + j) 0 := by
  unfold matchAt at h ⊢
  split at h
  · rename_i hl
    rw [if_pos hl]
    cases hc : came b i (tripAt b i) with
    | none => rw [hc] at h; exact absurd h (by simp)
    | some k =>
      rw [hc] at h
      dsimp only at h ⊢
      have hk := came_lt b _ i k hc
      split at h
      · rename_i hw
        rw [if_pos hw]
        dsimp only
        intro j hj
        have := runL_same b k i 258 0 (fun j hj => by omega) j hj
        rw [show i + j - (i - k) = k + j by omega]
        exact this
      · exact absurd h (by decide)
  · exact absurd h (by decide)
/-- All items, one behind the other, are the bytes. -/
theorem put_items (b : List UInt8) : ∀ f i, i ≤ b.length → b.length ≤ i + f → (itemsF b f i).foldl putI (b.take i) = b
  | 0, i, h1, h2 => by rw [itemsF, List.foldl_nil, List.take_of_length_le (by omega)]
  | f + 1, i, h1, h2 => by
    rw [itemsF]
    by_cases hl : i < b.length
    · rw [if_pos hl]
      by_cases hm : (matchAt b i).1 < 3
      · rw [if_pos hm, List.foldl_cons]
        have e : putI (b.take i) ⟨b.getD i 0, 0, 0⟩ = b.take (i + 1) := by
          rw [putI, if_pos rfl, List.take_succ_eq_append_getElem hl]
          congr 2
          rw [List.getD_eq_getElem?_getD, List.getElem?_eq_getElem hl]; rfl
        rw [e]
        exact put_items b f (i + 1) (by omega) (by omega)
      · rw [if_neg hm, List.foldl_cons]
        have hmm := matchAt_ok b i (by omega)
        have e : putI (b.take i) ⟨0, (matchAt b i).1, (matchAt b i).2⟩ = b.take (i + (matchAt b i).1) := by
          rw [putI, if_neg (by dsimp only; omega)]
          exact copy_take b _ _ i hmm.2.2.1 hmm.2.2.2.2 hmm.2.1 (match_same b i (by omega))
        rw [e]
        exact put_items b f _ (by omega) (by omega)
    · rw [if_neg hl, List.foldl_nil, List.take_of_length_le (by omega)]
theorem put_all (b : List UInt8) : (itemsL b).foldl putI [] = b := put_items b b.length 0 (by omega) (by omega)
/-- A copy's distance is within what is there. -/
def okFar : List UInt8 → List Item → Prop
  | _, [] => True
  | out, x :: l => x.far ≤ out.length ∧ okFar (putI out x) l
theorem items_far (b : List UInt8) : ∀ f i, i ≤ b.length → b.length ≤ i + f → okFar (b.take i) (itemsF b f i)
  | 0, i, h1, h2 => by rw [itemsF]; trivial
  | f + 1, i, h1, h2 => by
    rw [itemsF]
    by_cases hl : i < b.length
    · rw [if_pos hl]
      by_cases hm : (matchAt b i).1 < 3
      · rw [if_pos hm]
        have e : putI (b.take i) ⟨b.getD i 0, 0, 0⟩ = b.take (i + 1) := by
          rw [putI, if_pos rfl, List.take_succ_eq_append_getElem hl]
          congr 2
          rw [List.getD_eq_getElem?_getD, List.getElem?_eq_getElem hl]; rfl
        exact ⟨Nat.zero_le _, by rw [e]; exact items_far b f (i + 1) (by omega) (by omega)⟩
      · rw [if_neg hm]
        have hmm := matchAt_ok b i (by omega)
        have e : putI (b.take i) ⟨0, (matchAt b i).1, (matchAt b i).2⟩ = b.take (i + (matchAt b i).1) := by
          rw [putI, if_neg (by dsimp only; omega)]
          exact copy_take b _ _ i hmm.2.2.1 hmm.2.2.2.2 hmm.2.1 (match_same b i (by omega))
        exact ⟨by rw [List.length_take]; dsimp only; omega, by rw [e]; exact items_far b f _ (by omega) (by omega)⟩
    · rw [if_neg hl]; trivial
theorem far_all (b : List UInt8) : okFar [] (itemsL b) := items_far b b.length 0 (by omega) (by omega)

/-! ### Lengths told by runs -/
def runE (acc : List Nat) (p : Part) : List Nat :=
  if p.symbol = 16 then acc ++ List.replicate (3 + p.more) (acc.getD (acc.length - 1) 0)
  else if p.symbol = 17 then acc ++ List.replicate (3 + p.more) 0
  else if p.symbol = 18 then acc ++ List.replicate (11 + p.more) 0
  else acc ++ [p.symbol]
theorem take_rep (a : Nat) (l : List Nat) (k : Nat) (hk : k ≤ l.length) (h : ∀ x ∈ l.take k, x = a) : l = List.replicate k a ++ l.drop k := by
  conv => lhs; rw [← List.take_append_drop k l]
  congr 1
  rw [List.eq_replicate_iff]
  exact ⟨by rw [List.length_take]; omega, h⟩
theorem runs_back : ∀ (f : Nat) (l acc : List Nat), l.length ≤ f → (∀ x ∈ l, x ≤ 15) → (shortF f l).foldl runE acc = acc ++ l
  | 0, l, acc, h, _ => by
    have e : l = [] := List.eq_nil_of_length_eq_zero (by omega)
    subst e; simp [shortF]
  | f + 1, [], acc, _, _ => by simp [shortF]
  | f + 1, a :: r, acc, h, h15 => by
    obtain ⟨k1, k2, k3, k4⟩ := headRun_cons a r
    rw [List.length_cons] at h
    have ha := h15 a (.head _)
    have hd : ∀ k, 1 ≤ k → ((a :: r).drop k).length ≤ f := fun k hk => by rw [List.length_drop, List.length_cons]; omega
    have hm : ∀ k, ∀ x ∈ (a :: r).drop k, x ≤ 15 := fun k x hx => h15 x (List.mem_of_mem_drop hx)
    rw [shortF]
    by_cases c1 : a = 0 ∧ 11 ≤ headRun (a :: r)
    · rw [if_pos c1, List.foldl_cons, runs_back f _ _ (hd _ k1) (hm _)]
      have e := take_rep a (a :: r) (headRun (a :: r)) k3 k4
      simp only [runE]
      rw [if_neg (by omega), if_neg (by omega), if_pos trivial, show 11 + (headRun (a :: r) - 11) = headRun (a :: r) by omega, List.append_assoc]
      congr 1
      conv => rhs; rw [e]
      rw [c1.1]
    · rw [if_neg c1]
      by_cases c2 : a = 0 ∧ 3 ≤ headRun (a :: r)
      · rw [if_pos c2, List.foldl_cons, runs_back f _ _ (hd _ k1) (hm _)]
        have e := take_rep a (a :: r) (headRun (a :: r)) k3 k4
        simp only [runE]
        rw [if_neg (by omega), if_pos trivial, show 3 + (headRun (a :: r) - 3) = headRun (a :: r) by omega, List.append_assoc]
        congr 1
        conv => rhs; rw [e]
        rw [c2.1]
      · rw [if_neg c2]
        by_cases c3 : 0 < a ∧ 4 ≤ headRun (a :: r)
        · rw [if_pos c3, List.foldl_cons, List.foldl_cons, runs_back f _ _ (hd _ (by omega)) (hm _)]
          have e := take_rep a (a :: r) (min (headRun (a :: r)) 7) (by omega) (fun x hx => k4 x ((List.take_sublist_take_left (by omega)).subset hx))
          have e1 : runE acc ⟨a, 0, 0⟩ = acc ++ [a] := by
            simp only [runE]
            rw [if_neg (by omega), if_neg (by omega), if_neg (by omega)]
          have e2 : runE (acc ++ [a]) ⟨16, 2, min (headRun (a :: r)) 7 - 4⟩ = acc ++ List.replicate (min (headRun (a :: r)) 7) a := by
            simp only [runE]
            rw [if_pos trivial]
            have hg : (acc ++ [a]).getD ((acc ++ [a]).length - 1) 0 = a := by
              rw [List.length_append, List.length_singleton, Nat.add_sub_cancel, List.getD_eq_getElem?_getD, List.getElem?_append_right (Nat.le_refl _), Nat.sub_self]; rfl
            rw [hg, List.append_assoc]
            congr 1
            rw [show min (headRun (a :: r)) 7 = (3 + (min (headRun (a :: r)) 7 - 4)) + 1 by omega, List.replicate_succ]
            simp
          rw [e1, e2, List.append_assoc, ← e]
        · rw [if_neg c3, List.foldl_cons, runs_back f r _ (by omega) (fun x hx => h15 x (.tail _ hx))]
          simp only [runE]
          rw [if_neg (by omega), if_neg (by omega), if_neg (by omega)]
          simp
theorem runs_all (l : List Nat) (h : ∀ x ∈ l, x ≤ 15) : (shortL l).foldl runE [] = l := by
  have := runs_back l.length l [] (Nat.le_refl _) h
  simpa [shortL] using this
/-- What is repeated stands ahead of it. -/
def okRun : List Nat → List Part → Prop
  | _, [] => True
  | acc, p :: l => (p.symbol = 16 → acc ≠ []) ∧ okRun (runE acc p) l
theorem runs_ok : ∀ (f : Nat) (l acc : List Nat), (∀ x ∈ l, x ≤ 15) → okRun acc (shortF f l)
  | 0, l, acc, _ => trivial
  | f + 1, [], acc, _ => trivial
  | f + 1, a :: r, acc, h15 => by
    have ha := h15 a (.head _)
    have hm : ∀ k, ∀ x ∈ (a :: r).drop k, x ≤ 15 := fun k x hx => h15 x (List.mem_of_mem_drop hx)
    rw [shortF]
    split
    · exact ⟨fun h => absurd h (by simp), runs_ok f _ _ (hm _)⟩
    · split
      · exact ⟨fun h => absurd h (by simp), runs_ok f _ _ (hm _)⟩
      · split
        · refine ⟨fun h => ?_, ?_, runs_ok f _ _ (hm _)⟩
          · dsimp only at h; omega
          · intro _
            simp only [runE]
            rw [if_neg (by omega), if_neg (by omega), if_neg (by omega)]
            simp
        · refine ⟨fun h => ?_, runs_ok f r _ (fun x hx => h15 x (.tail _ hx))⟩
          dsimp only at h; omega
theorem runE_len (acc : List Nat) (p : Part) : acc.length < (runE acc p).length := by
  unfold runE
  split
  · rw [List.length_append, List.length_replicate]; omega
  · split
    · rw [List.length_append, List.length_replicate]; omega
    · split
      · rw [List.length_append, List.length_replicate]; omega
      · rw [List.length_append, List.length_singleton]; omega

/-! ### The lengths of lengths -/
theorem order_nodup : orderL.Nodup := by decide
theorem order_mem : ∀ s, s < 19 → s ∈ orderL := by decide
theorem order_lt : ∀ s ∈ orderL, s < 19 := by decide
theorem tell_zero (cl : List Nat) : ∀ k, k ≤ 19 → ∀ j, tellK cl k ≤ j → j < k → cl.getD (orderL.getD j 0) 0 = 0
  | 0, _, j, _, h => by omega
  | k + 1, hk, j, h1, h2 => by
    rw [tellK] at h1
    split at h1
    · rename_i hc
      by_cases hj : j = k
      · subst hj; exact hc.2
      · exact tell_zero cl k (by omega) j h1 (by omega)
    · omega
theorem told_back (cl : List Nat) (hl : cl.length = 19) (k : Nat) (hk : k ≤ 19) (h : ∀ j, k ≤ j → j < 19 → cl.getD (orderL.getD j 0) 0 = 0) :
    setAll ((orderL.take k).map fun s => (s, cl.getD s 0)) (List.replicate 19 0) = cl := by
  have hkeys : ((orderL.take k).map fun s => (s, cl.getD s 0)).map (·.1) = orderL.take k := by
    rw [List.map_map]; exact List.map_id _
  have hnd : (((orderL.take k).map fun s => (s, cl.getD s 0)).map (·.1)).Nodup := by rw [hkeys]; exact (List.take_sublist k orderL).nodup order_nodup
  refine List.ext_getElem? fun s => ?_
  by_cases hs : s < 19
  · by_cases hm : s ∈ orderL.take k
    · rw [setAll_at _ _ s (cl.getD s 0) hnd (List.mem_map.2 ⟨s, hm, rfl⟩) (by rw [List.length_replicate]; exact hs), List.getD_eq_getElem?_getD, List.getElem?_eq_getElem (by omega)]; rfl
    · rw [setAll_other _ _ s (by rw [hkeys]; exact hm), List.getElem?_replicate, if_pos hs]
      obtain ⟨j, hj, he⟩ := List.getElem_of_mem (order_mem s hs)
      have hjk : k ≤ j := by
        rcases Nat.lt_or_ge j k with h1 | h1
        · exfalso
          refine hm ?_
          rw [← he]
          exact List.mem_take_iff_getElem.2 ⟨j, by omega, rfl⟩
        · exact h1
      have h0 := h j hjk (by have : orderL.length = 19 := rfl; omega)
      rw [List.getD_eq_getElem?_getD (l := orderL), List.getElem?_eq_getElem hj, Option.getD_some, he, List.getD_eq_getElem?_getD, List.getElem?_eq_getElem (by omega)] at h0
      rw [List.getElem?_eq_getElem (by omega)]
      exact congrArg some h0.symm
  · rw [List.getElem?_eq_none (by rw [setAll_len, List.length_replicate]; omega), List.getElem?_eq_none (by omega)]
theorem codes_back (cl : List Nat) (hl : cl.length = 19) : setAll ((orderL.take (tellK cl 19)).map fun s => (s, cl.getD s 0)) (List.replicate 19 0) = cl :=
  told_back cl hl _ (tellK_le cl 19 (by omega)).2 (fun j h1 h2 => tell_zero cl 19 (Nat.le_refl _) j h1 h2)

/-! ### Lengths are codes that may be -/
theorem endC_kraft (ls : List Nat) (h : ∀ n ∈ ls, n ≤ 15) : endC ls 15 = kraftN ls 15 := by
  have h1 := endC_sum ls 15 15 (by omega) (by omega)
  rw [Nat.sub_self, Nat.pow_zero, Nat.mul_one, ← kraft_count ls 15 0 15] at h1
  rw [h1, kraftN]
  clear h1
  induction ls with
  | nil => rfl
  | cons a r ih =>
    have ih2 := ih fun n hn => h n (.tail _ hn)
    have ha := h a (.head _)
    rw [List.filter_cons, List.map_cons, List.sum_cons]
    by_cases h0 : a = 0
    · rw [if_neg (by simp; omega), if_pos h0, ih2, Nat.zero_add]
    · rw [if_pos (by simp; omega), if_neg h0, List.map_cons, List.sum_cons, ih2]
/-- What the two kinds of lengths are: whole, or one code alone, or none. -/
structure MayBe (ls : List Nat) : Prop where
  ok : codeOk ls
  fill : endC ls 15 = 2 ^ 15 ∨ ls.sum = 1 ∨ ls.sum = 0
  some_ : (∃ s, 0 < ls.getD s 0) → endC ls 15 = 2 ^ 15 ∨ ls.sum = 1
theorem sum_come : ∀ (ls : List Nat), (comeF ls 0).length ≤ 1 → (∀ n ∈ ls, n ≤ 1) → ls.sum = (comeF ls 0).length := by
  intro ls h1 h2
  rw [come_len] at h1 ⊢
  induction ls with
  | nil => rfl
  | cons a r ih =>
    have ha := h2 a (.head _)
    rw [List.filter_cons] at h1 ⊢
    rw [List.sum_cons]
    by_cases h0 : 0 < a
    · rw [if_pos (by simpa using h0)] at h1 ⊢
      rw [List.length_cons] at h1 ⊢
      rw [ih (by omega) fun n hn => h2 n (.tail _ hn)]
      omega
    · rw [if_neg (by simpa using h0)] at h1 ⊢
      rw [ih h1 fun n hn => h2 n (.tail _ hn)]
      omega
theorem mayBe_of {counts ls : List Nat} (h : LenOk counts ls) (h15 : ∀ n ∈ ls, n ≤ 15) : MayBe ls := by
  have hco : comeF ls 0 = comeF counts 0 := come_same h.len h.pos
  by_cases h2 : 2 ≤ (comeF counts 0).length
  · have hk := h.kraft h2 h15
    have he := endC_kraft ls h15
    exact ⟨codeOk_of ls h15 (by omega), .inl (by omega), fun _ => .inl (by omega)⟩
  · have h1 : ∀ n ∈ ls, n ≤ 1 := fun n hn => by have := h.low n hn; omega
    have hs := sum_come ls (by rw [hco]; omega) h1
    have hk : kraftN ls 15 ≤ ls.sum * 2 ^ 14 := by
      unfold kraftN
      clear hs hco h h2 h15
      induction ls with
      | nil => exact Nat.zero_le _
      | cons a r ih =>
        have ih2 := ih fun n hn => h1 n (.tail _ hn)
        have ha := h1 a (.head _)
        rw [List.map_cons, List.sum_cons, List.sum_cons, Nat.add_mul]
        by_cases h0 : a = 0
        · rw [if_pos h0]; omega
        · have : a = 1 := by omega
          subst this
          rw [if_neg h0]
          omega
    rw [hs, hco] at hk
    have h14 : (2 : Nat) ^ 14 = 16384 := by decide
    have h15' : (2 : Nat) ^ 15 = 32768 := by decide
    have hl1 : (comeF counts 0).length = 0 ∨ (comeF counts 0).length = 1 := by omega
    refine ⟨codeOk_of ls h15 ?_, ?_, ?_⟩
    · rcases hl1 with h3 | h3
      · rw [h3] at hk; omega
      · rw [h3] at hk; omega
    · rcases hl1 with h3 | h3
      · exact .inr (.inr (by rw [hs, hco, h3]))
      · exact .inr (.inl (by rw [hs, hco, h3]))
    · rintro ⟨s, hs0⟩
      have hm : s ∈ comeF ls 0 := (come_mem ls 0 s).2 ⟨Nat.zero_le _, hs0⟩
      rw [hco] at hm
      right
      rw [hs, hco]
      have := List.length_pos_of_mem hm
      omega
/-- Cut lengths are codes as well. -/
theorem firstC_cut (least : Nat) (l : List Nat) (h : least ≤ l.length) : ∀ n, firstC (cutL least l.length l) n = firstC l n := by
  obtain ⟨z, h1, -, -⟩ := cutL_spec least l.length l (Nat.le_refl _) h
  generalize cutL least l.length l = c at *
  intro n
  induction n with
  | zero => rfl
  | succ n ih =>
    rw [firstC, firstC, ih]
    by_cases h0 : n = 0
    · rw [if_pos h0, if_pos h0]
    · rw [if_neg h0, if_neg h0, h1, List.count_append, List.count_replicate, if_neg (by simp; omega), Nat.add_zero]
theorem mayBe_cut {l : List Nat} (h : MayBe l) (least : Nat) (hl : least ≤ l.length) : MayBe (cutL least l.length l) := by
  obtain ⟨z, h1, -, -⟩ := cutL_spec least l.length l (Nat.le_refl _) hl
  have hf := firstC_cut least l hl
  have hg := cut_getD least l hl
  generalize cutL least l.length l = c at *
  have hend : ∀ n, 1 ≤ n → endC c n = endC l n := by
    intro n hn
    rw [endC, endC, hf, h1, List.count_append, List.count_replicate, if_neg (by simp; omega), Nat.add_zero]
  have hsum : l.sum = c.sum := by rw [h1, List.sum_append, List.sum_replicate_nat]; simp
  refine ⟨⟨fun n hn => h.ok.1 n (by rw [h1]; exact List.mem_append_left _ hn), fun n a b => by rw [hend n a]; exact h.ok.2 n a b⟩, ?_, ?_⟩
  · rw [hend 15 (by omega), ← hsum]; exact h.fill
  · rintro ⟨s, hs⟩
    rw [hend 15 (by omega), ← hsum]
    exact h.some_ ⟨s, by rw [← hg]; exact hs⟩
end Go.Proofs.Ytbchaomnjbkdhaa
