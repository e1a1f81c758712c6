/-
  What is packed, in plain Lean: bytes, and copies of what came ahead; their symbols, and what these cost by the codes that are told. No program in sight.
-/
namespace Go.Proofs.Ytbchaomnjbkdhaa
set_option linter.unusedVariables false

structure Item where
  c : UInt8
  long : Nat
  far : Nat
def tripAt (b : List UInt8) (i : Nat) : List UInt8 := [b.getD i 0, b.getD (i + 1) 0, b.getD (i + 2) 0]
/-- Where three bytes came last, ahead of a place. -/
def came (b : List UInt8) : Nat → List UInt8 → Option Nat
  | 0, _ => none
  | i + 1, t => if i + 3 ≤ b.length ∧ tripAt b i = t then some i else came b i t
/-- How many bytes are alike, from two places on. -/
def runL (b : List UInt8) (k i : Nat) : Nat → Nat → Nat
  | 0, n => n
  | f + 1, n => if n < 258 ∧ i + n < b.length ∧ b.getD (k + n) 0 = b.getD (i + n) 0 then runL b k i f (n + 1) else n
def matchAt (b : List UInt8) (i : Nat) : Nat × Nat :=
  if i + 3 ≤ b.length then
    match came b i (tripAt b i) with
    | some k => if i - k ≤ 32768 then (runL b k i 258 0, i - k) else (0, 0)
    | none => (0, 0)
  else (0, 0)
def itemsF (b : List UInt8) : Nat → Nat → List Item
  | 0, _ => []
  | f + 1, i =>
    if i < b.length then
      if (matchAt b i).1 < 3 then ⟨b.getD i 0, 0, 0⟩ :: itemsF b f (i + 1) else ⟨0, (matchAt b i).1, (matchAt b i).2⟩ :: itemsF b f (i + (matchAt b i).1)
    else []
def itemsL (b : List UInt8) : List Item := itemsF b b.length 0
theorem came_lt (b : List UInt8) (t : List UInt8) : ∀ i k, came b i t = some k → k < i ∧ k + 3 ≤ b.length ∧ tripAt b k = t
  | 0, k, h => by cases h
  | i + 1, k, h => by
    rw [came] at h
    split at h
    · rename_i hc
      cases h
      exact ⟨by omega, hc.1, hc.2⟩
    · have := came_lt b t i k h
      exact ⟨by omega, this.2⟩
theorem runL_le (b : List UInt8) (k i : Nat) : ∀ f n, n ≤ 258 → i + n ≤ b.length → n ≤ runL b k i f n ∧ runL b k i f n ≤ 258 ∧ i + runL b k i f n ≤ b.length
  | 0, n, h1, h2 => ⟨Nat.le_refl _, h1, h2⟩
  | f + 1, n, h1, h2 => by
    rw [runL]
    split
    · rename_i hc
      have := runL_le b k i f (n + 1) (by omega) (by omega)
      exact ⟨by omega, this.2⟩
    · exact ⟨Nat.le_refl _, h1, h2⟩
theorem matchAt_ok (b : List UInt8) (i : Nat) (h : 3 ≤ (matchAt b i).1) : (matchAt b i).1 ≤ 258 ∧ i + (matchAt b i).1 ≤ b.length ∧ 1 ≤ (matchAt b i).2 ∧ (matchAt b i).2 ≤ 32768 ∧ (matchAt b i).2 ≤ i := by
  unfold matchAt at h ⊢
  split at h
  · rename_i hl
    rw [if_pos hl]
    cases hc : came b i (tripAt b i) with
    | none => rw [hc] at h; exact absurd h (by simp)
    | some k =>
      rw [hc] at h
      dsimp only at h ⊢
      have hk := came_lt b _ i k hc
      split at h
      · rename_i hw
        rw [if_pos hw]
        have := runL_le b k i 258 0 (by omega) (by omega)
        exact ⟨this.2.1, this.2.2, by dsimp only; omega, hw, by dsimp only; omega⟩
      · exact absurd h (by decide)
  · exact absurd h (by decide)
theorem itemsF_fuel (b : List UInt8) : ∀ f g i, b.length ≤ i + f → b.length ≤ i + g → itemsF b f i = itemsF b g i
  | 0, 0, i, _, _ => rfl
  | 0, g + 1, i, h, _ => by rw [itemsF, itemsF, if_neg (by omega)]
  | f + 1, 0, i, _, h => by rw [itemsF, itemsF, if_neg (by omega)]
  | f + 1, g + 1, i, h1, h2 => by
    rw [itemsF, itemsF]
    split
    · split
      · rw [itemsF_fuel b f g (i + 1) (by omega) (by omega)]
      · rw [itemsF_fuel b f g (i + (matchAt b i).1) (by omega) (by omega)]
    · rfl
theorem items_step (b : List UInt8) (i : Nat) (h : i < b.length) : itemsF b (b.length - i) i =
    if (matchAt b i).1 < 3 then ⟨b.getD i 0, 0, 0⟩ :: itemsF b (b.length - (i + 1)) (i + 1) else ⟨0, (matchAt b i).1, (matchAt b i).2⟩ :: itemsF b (b.length - (i + (matchAt b i).1)) (i + (matchAt b i).1) := by
  obtain ⟨f, hf⟩ : ∃ f, b.length - i = f + 1 := ⟨b.length - i - 1, by omega⟩
  rw [hf, itemsF, if_pos h]
  split
  · rw [itemsF_fuel b f (b.length - (i + 1)) (i + 1) (by omega) (by omega)]
  · rw [itemsF_fuel b f (b.length - (i + (matchAt b i).1)) (i + (matchAt b i).1) (by omega) (by omega)]

/-! ### Symbols -/
/-- How far a number is cut, so that it is below twice a group. -/
def scaleK (n g : Nat) : Nat → Nat → Nat
  | 0, k => k
  | f + 1, k => if 2 * g ≤ n / 2 ^ k then scaleK n g f (k + 1) else k
structure Part where
  symbol : Nat
  wide : Nat
  more : Nat
def scaleP (n g first : Nat) : Part := let k := scaleK (n - first) g 64 0; ⟨k * g + (n - first) / 2 ^ k, k, (n - first) % 2 ^ k⟩
def litP (x : Item) : Part :=
  if x.far = 0 then ⟨x.c.toNat, 0, 0⟩
  else if x.long = 258 then ⟨285, 0, 0⟩
  else ⟨(scaleP x.long 4 3).symbol + 257, (scaleP x.long 4 3).wide, (scaleP x.long 4 3).more⟩
def farP (x : Item) : Part := if x.far = 0 then ⟨0, 0, 0⟩ else scaleP x.far 2 1
theorem scaleK_le (n g K : Nat) (hg : 0 < g) (h : n / 2 ^ K < 2 * g) : ∀ f k, k ≤ K → scaleK n g f k ≤ K
  | 0, k, hk => hk
  | f + 1, k, hk => by
    rw [scaleK]
    split
    · rename_i hc
      have hne : k ≠ K := fun e => by subst e; omega
      exact scaleK_le n g K hg h f (k + 1) (by omega)
    · exact hk
theorem scaleK_end (n g : Nat) : ∀ f k, n < 2 * g * 2 ^ (k + f) → n / 2 ^ scaleK n g f k < 2 * g
  | 0, k, h => by
    rw [scaleK]
    exact (Nat.div_lt_iff_lt_mul (Nat.two_pow_pos k)).2 (by simpa using h)
  | f + 1, k, h => by
    rw [scaleK]
    split
    · exact scaleK_end n g f (k + 1) (by rw [show k + 1 + f = k + (f + 1) by omega]; exact h)
    · omega
/-- What is right of an item: a byte, or a copy of 3 to 258 bytes from 1 to 32768 back. -/
def okI (x : Item) : Prop := (x.far = 0 ∧ x.long = 0) ∨ (3 ≤ x.long ∧ x.long ≤ 258 ∧ 1 ≤ x.far ∧ x.far ≤ 32768)
def sizeI (x : Item) : Nat := if x.far = 0 then 1 else x.long
theorem items_ok (b : List UInt8) : ∀ f i, ∀ x ∈ itemsF b f i, okI x
  | 0, i, x, hx => by cases hx
  | f + 1, i, x, hx => by
    rw [itemsF] at hx
    split at hx
    · split at hx
      · rcases List.mem_cons.1 hx with rfl | hx
        · exact .inl ⟨rfl, rfl⟩
        · exact items_ok b f _ x hx
      · rename_i hm
        rcases List.mem_cons.1 hx with rfl | hx
        · have := matchAt_ok b i (by omega)
          exact .inr ⟨by dsimp only; omega, this.1, this.2.2.1, this.2.2.2.1⟩
        · exact items_ok b f _ x hx
    · cases hx
theorem items_size (b : List UInt8) : ∀ f i, b.length ≤ i + f → i ≤ b.length → ((itemsF b f i).map sizeI).sum = b.length - i
  | 0, i, h1, h2 => by rw [itemsF]; simp; omega
  | f + 1, i, h1, h2 => by
    rw [itemsF]
    split
    · split
      · rw [List.map_cons, List.sum_cons, items_size b f (i + 1) (by omega) (by omega)]
        simp only [sizeI, if_true]
        omega
      · rename_i hl hm
        have hmm := matchAt_ok b i (by omega)
        rw [List.map_cons, List.sum_cons, items_size b f (i + (matchAt b i).1) (by omega) (by omega)]
        simp only [sizeI]
        rw [if_neg (by omega)]
        omega
    · simp; omega

/-! ### The codes that are told -/
def fixedLits : List Nat := List.replicate 144 8 ++ List.replicate 112 9 ++ List.replicate 24 7 ++ List.replicate 8 8
def fixedDist : List Nat := List.replicate 30 5
/-- The bits that an item takes, by two codes' lengths. -/
def costI (lits dist : List Nat) (x : Item) : Nat := lits.getD (litP x).symbol 0 + (litP x).wide + (if x.far = 0 then 0 else dist.getD (farP x).symbol 0 + (farP x).wide)
def costL (lits dist : List Nat) (l : List Item) : Nat := (l.map (costI lits dist)).sum + lits.getD 256 0
theorem getD_le (l : List Nat) (m : Nat) (h : ∀ x ∈ l, x ≤ m) (i : Nat) : l.getD i 0 ≤ m := by
  rw [List.getD_eq_getElem?_getD]
  cases hx : l[i]? with
  | none => exact Nat.zero_le _
  | some x => exact h x (List.mem_of_getElem? hx)
theorem fixed_nine : ∀ x ∈ fixedLits, x ≤ 9 := by decide +kernel
theorem fixed_five : ∀ x ∈ fixedDist, x ≤ 5 := by decide +kernel
theorem far_wide (x : Item) (h : x.far ≤ 32768) : (farP x).wide ≤ 13 := by
  unfold farP
  split
  · exact Nat.zero_le _
  · exact scaleK_le _ 2 13 (by decide) (by rw [Nat.div_lt_iff_lt_mul (by decide)]; omega) 64 0 (by decide)
theorem long_wide (x : Item) (h : x.long ≤ 258) : (litP x).wide ≤ 5 := by
  unfold litP
  split
  · exact Nat.zero_le _
  · split
    · exact Nat.zero_le _
    · exact scaleK_le _ 4 5 (by decide) (by rw [Nat.div_lt_iff_lt_mul (by decide)]; omega) 64 0 (by decide)
theorem copy_fixed (s : Nat) (h : 256 ≤ s) : fixedLits.getD s 0 ≤ 8 := by
  by_cases h2 : s < 288
  · have : ∀ s, s < 288 → 256 ≤ s → fixedLits.getD s 0 ≤ 8 := by decide +kernel
    exact this s h2 h
  · have hl : fixedLits.length = 288 := by decide +kernel
    rw [List.getD_eq_getElem?_getD, List.getElem?_eq_none (by omega)]
    exact Nat.zero_le _
theorem cost_fixed (x : Item) (h : okI x) : costI fixedLits fixedDist x ≤ 9 * sizeI x := by
  unfold costI sizeI
  rcases h with ⟨h1, h2⟩ | ⟨h1, h2, h3, h4⟩
  · rw [if_pos h1, if_pos h1]
    have := getD_le fixedLits 9 fixed_nine (litP x).symbol
    have hw : (litP x).wide = 0 := by unfold litP; rw [if_pos h1]
    omega
  · rw [if_neg (by omega), if_neg (by omega)]
    have hd := getD_le fixedDist 5 fixed_five (farP x).symbol
    have hf := far_wide x h4
    have hw := long_wide x h2
    by_cases h5 : x.long = 3
    · have e : litP x = ⟨257, 0, 0⟩ := by
        unfold litP
        rw [if_neg (by omega), if_neg (by omega), h5]
        rfl
      rw [e]
      have : fixedLits.getD 257 0 = 7 := by decide +kernel
      dsimp only
      omega
    · have hs : 256 ≤ (litP x).symbol := by
        unfold litP
        rw [if_neg (by omega)]
        split
        · exact (by decide : 256 ≤ 285)
        · dsimp only; omega
      have := copy_fixed _ hs
      omega
theorem costs_fixed (l : List Item) (h : ∀ x ∈ l, okI x) : costL fixedLits fixedDist l ≤ 9 * (l.map sizeI).sum + 7 := by
  have h7 : fixedLits.getD 256 0 = 7 := by decide +kernel
  unfold costL
  rw [h7]
  have : (l.map (costI fixedLits fixedDist)).sum ≤ 9 * (l.map sizeI).sum := by
    induction l with
    | nil => exact Nat.le_refl _
    | cons x l ih =>
      have h1 := cost_fixed x (h x (.head _))
      have h2 := ih (fun y hy => h y (.tail _ hy))
      simp only [List.map_cons, List.sum_cons]
      omega
  omega
/-- No more than nine bits a byte, and ten more. -/
theorem fixed_bound (b : List UInt8) : 3 + costL fixedLits fixedDist (itemsL b) ≤ 9 * b.length + 10 := by
  have h1 := costs_fixed (itemsL b) (items_ok b _ _)
  have h2 := items_size b b.length 0 (by omega) (by omega)
  have h3 : ((itemsL b).map sizeI).sum = b.length := by rw [itemsL, h2]; omega
  omega
end Go.Proofs.Ytbchaomnjbkdhaa
