/-
  The library's stable sort, row for row, in plain Lean: swapping ranges, turning a range, merging two sorted ranges in place; what is sorted stays a permutation, and is sorted. No program in sight.
-/
import Derived.Sort.Lot0
import Derived.Sort.LotA
namespace Go.Proofs.Ytbchaomnjbkdhaa
open Go.Sort
set_option linter.unusedVariables false

theorem swo_asymm {α : Type} {lt : α → α → Bool} (h : SWO lt) {x y : α} (e : lt x y = true) : lt y x = false := by
  cases hyx : lt y x with
  | false => rfl
  | true => have := h.trans x y x e hyx; rw [h.irrefl] at this; cases this
variable {α : Type} [Inhabited α]
/-- k rounds of swapping two ranges. -/
def swapR (a b : Nat) : Nat → Array α → Array α
  | 0, d => d
  | k + 1, d => swp (swapR a b k d) (a + k) (b + k)
theorem swapR_size (a b : Nat) : ∀ k (d : Array α), (swapR a b k d).size = d.size
  | 0, d => rfl
  | k + 1, d => by rw [swapR, size_swp, swapR_size a b k d]
/-- The value at a place behind it. -/
theorem swapR_at (a b : Nat) (d : Array α) : ∀ k, a + k ≤ b → b + k ≤ d.size → ∀ p, (swapR a b k d)[p]! = if a ≤ p ∧ p < a + k then d[p + (b - a)]! else if b ≤ p ∧ p < b + k then d[p - (b - a)]! else d[p]!
  | 0, _, _, p => by rw [swapR, if_neg (by omega), if_neg (by omega)]
  | k + 1, h1, h2, p => by
    have ih := swapR_at a b d k (by omega) (by omega)
    have hs := swapR_size a b k d
    rw [swapR]
    by_cases ha : p = a + k
    · subst ha
      rw [swp_left _ _ _ (by omega) (by omega), ih (b + k), if_neg (by omega), if_neg (by omega), if_pos (by omega)]
      congr 1; omega
    · by_cases hb : p = b + k
      · subst hb
        rw [swp_right _ _ _ (by omega), ih (a + k), if_neg (by omega), if_neg (by omega), if_neg (by omega), if_pos (by omega)]
        congr 1; omega
      · rw [swp_other _ _ _ _ ha hb, ih p]
        by_cases c1 : a ≤ p ∧ p < a + k
        · rw [if_pos c1, if_pos (by omega)]
        · rw [if_neg c1, if_neg (show ¬ (a ≤ p ∧ p < a + (k + 1)) by omega)]
          by_cases c2 : b ≤ p ∧ p < b + k
          · rw [if_pos c2, if_pos (by omega)]
          · rw [if_neg c2, if_neg (by omega)]
theorem swapR_perm (a b A B : Nat) (d : Array α) : ∀ k, A ≤ a → a + k ≤ B → A ≤ b → b + k ≤ B → B ≤ d.size → PermIn A B d (swapR a b k d)
  | 0, _, _, _, _, _ => permIn_refl d A B
  | k + 1, h1, h2, h3, h4, h5 => permIn_trans _ _ _ _ _ (swapR_perm a b A B d k h1 (by omega) h3 (by omega) h5) (swp_permIn _ A B _ _ (by omega) (by omega) (by omega) (by omega) (by rw [swapR_size]; exact h5))
/-- Two neighbouring ranges change places. -/
def rotL (m : Nat) : Nat → Nat → Nat → Array α → Array α
  | 0, _, _, d => d
  | f + 1, i, j, d => if i = j then swapR (m - i) m i d else if j < i then rotL m f (i - j) j (swapR (m - i) m j d) else rotL m f i (j - i) (swapR (m - i) (m + j - i) i d)
def rotate (d : Array α) (a m b : Nat) : Array α := rotL m (b - a) (m - a) (b - m) d
/-- Behind it. -/
theorem rotL_spec (m : Nat) : ∀ f i j (d : Array α), 1 ≤ i → 1 ≤ j → i + j ≤ f → i ≤ m → m + j ≤ d.size →
    PermIn (m - i) (m + j) d (rotL m f i j d) ∧ ∀ p, (rotL m f i j d)[p]! = if m - i ≤ p ∧ p < m - i + j then d[p + i]! else if m - i + j ≤ p ∧ p < m + j then d[p - j]! else d[p]!
  | 0, i, j, d, h1, h2, h3, _, _ => by omega
  | f + 1, i, j, d, h1, h2, h3, h4, h5 => by
    rw [rotL]
    by_cases hij : i = j
    · subst hij
      rw [if_pos rfl]
      refine ⟨swapR_perm _ _ _ _ d i (Nat.le_refl _) (by omega) (by omega) (Nat.le_refl _) h5, fun p => ?_⟩
      rw [swapR_at (m - i) m d i (by omega) h5 p]
      by_cases c1 : m - i ≤ p ∧ p < m - i + i
      · rw [if_pos c1, if_pos c1]; congr 1; omega
      · rw [if_neg c1, if_neg c1]
        by_cases c2 : m ≤ p ∧ p < m + i
        · rw [if_pos c2, if_pos (by omega)]; congr 1; omega
        · rw [if_neg c2, if_neg (by omega)]
    · rw [if_neg hij]
      by_cases hji : j < i
      · rw [if_pos hji]
        have hs := swapR_size (m - i) m j d
        obtain ⟨q1, q2⟩ := rotL_spec m f (i - j) j (swapR (m - i) m j d) (by omega) h2 (by omega) (by omega) (by omega)
        have hp := swapR_perm (m - i) m (m - i) (m + j) d j (Nat.le_refl _) (by omega) (by omega) (Nat.le_refl _) h5
        refine ⟨permIn_trans _ _ _ _ _ hp (permIn_mono _ _ _ _ _ _ (by omega) (Nat.le_refl _) (by omega) q1), fun p => ?_⟩
        rw [q2 p]
        have hw := swapR_at (m - i) m d j (by omega) h5
        by_cases c1 : m - (i - j) ≤ p ∧ p < m - (i - j) + j
        · rw [if_pos c1, hw]
          by_cases c3 : m ≤ p + (i - j) ∧ p + (i - j) < m + j
          · rw [if_neg (by omega), if_pos c3, if_neg (by omega), if_pos (by omega)]
            congr 1; omega
          · omega
        · rw [if_neg c1]
          by_cases c2 : m - (i - j) + j ≤ p ∧ p < m + j
          · rw [if_pos c2, hw, if_neg (by omega), if_neg (by omega), if_neg (by omega), if_pos (by omega)]
          · rw [if_neg c2, hw]
            by_cases c4 : m - i ≤ p ∧ p < m - i + j
            · rw [if_pos c4, if_pos c4]; congr 1; omega
            · rw [if_neg c4, if_neg c4, if_neg (by omega), if_neg (by omega)]
      · rw [if_neg hji]
        have hs := swapR_size (m - i) (m + j - i) i d
        obtain ⟨q1, q2⟩ := rotL_spec m f i (j - i) (swapR (m - i) (m + j - i) i d) h1 (by omega) (by omega) h4 (by omega)
        have hp := swapR_perm (m - i) (m + j - i) (m - i) (m + j) d i (Nat.le_refl _) (by omega) (by omega) (by omega) h5
        refine ⟨permIn_trans _ _ _ _ _ hp (permIn_mono _ _ _ _ _ _ (by omega) (by omega) (by omega) q1), fun p => ?_⟩
        rw [q2 p]
        have hw := swapR_at (m - i) (m + j - i) d i (by omega) (by omega)
        by_cases c1 : m - i ≤ p ∧ p < m - i + (j - i)
        · rw [if_pos c1, hw, if_neg (by omega), if_neg (by omega), if_pos (by omega)]
        · rw [if_neg c1]
          by_cases c2 : m - i + (j - i) ≤ p ∧ p < m + (j - i)
          · rw [if_pos c2, hw]
            by_cases c3 : m - i ≤ p - (j - i) ∧ p - (j - i) < m - i + i
            · rw [if_pos c3]
              by_cases c5 : p < m - i + j
              · rw [if_pos (by omega)]; congr 1; omega
              · omega
            · omega
          · rw [if_neg c2, hw]
            by_cases c4 : m + j - i ≤ p ∧ p < m + j - i + i
            · rw [if_neg (by omega), if_pos c4, if_neg (by omega), if_pos (by omega)]
              congr 1; omega
            · rw [if_neg (by omega), if_neg c4, if_neg (by omega), if_neg (by omega)]
theorem rotate_spec (d : Array α) (a m b : Nat) (h1 : a < m) (h2 : m < b) (h3 : b ≤ d.size) :
    PermIn a b d (rotate d a m b) ∧ ∀ p, (rotate d a m b)[p]! = if a ≤ p ∧ p < a + (b - m) then d[p + (m - a)]! else if a + (b - m) ≤ p ∧ p < b then d[p - (b - m)]! else d[p]! := by
  have h := rotL_spec m (b - a) (m - a) (b - m) d (by omega) (by omega) (by omega) (by omega) (by omega)
  have e1 : m - (m - a) = a := by omega
  have e2 : m + (b - m) = b := by omega
  rw [e1, e2] at h
  exact h
/-- The first place of which it doesn't hold any more, by halves. -/
def bsF (p : Nat → Bool) : Nat → Nat → Nat → Nat
  | 0, i, _ => i
  | f + 1, i, j => if i < j then if p ((i + j) / 2) = true then bsF p f ((i + j) / 2 + 1) j else bsF p f i ((i + j) / 2) else i
theorem bsF_spec (p : Nat → Bool) : ∀ f i j, i ≤ j → j ≤ i + f → i ≤ bsF p f i j ∧ bsF p f i j ≤ j ∧ (bsF p f i j = i ∨ p (bsF p f i j - 1) = true) ∧ (bsF p f i j = j ∨ p (bsF p f i j) = false)
  | 0, i, j, h1, h2 => by rw [bsF]; exact ⟨Nat.le_refl _, h1, .inl rfl, .inl (by omega)⟩
  | f + 1, i, j, h1, h2 => by
    rw [bsF]
    by_cases h : i < j
    · rw [if_pos h]
      obtain ⟨k, hk⟩ : ∃ k, k = (i + j) / 2 := ⟨_, rfl⟩
      rw [← hk]
      by_cases hp : p k = true
      · rw [if_pos hp]
        obtain ⟨q1, q2, q3, q4⟩ := bsF_spec p f (k + 1) j (by omega) (by omega)
        refine ⟨by omega, q2, ?_, q4⟩
        rcases q3 with q3 | q3
        · right; rw [q3, Nat.add_sub_cancel]; exact hp
        · exact .inr q3
      · rw [if_neg hp]
        obtain ⟨q1, q2, q3, q4⟩ := bsF_spec p f i k (by omega) (by omega)
        refine ⟨q1, by omega, q3, ?_⟩
        rcases q4 with q4 | q4
        · right; rw [q4]; simpa using hp
        · exact .inr q4
    · rw [if_neg h]
      exact ⟨Nat.le_refl _, h1, .inl rfl, .inl (by omega)⟩
theorem bsF_fuel (p : Nat → Bool) : ∀ f g i j, j ≤ i + f → j ≤ i + g → bsF p f i j = bsF p g i j
  | 0, 0, i, j, _, _ => rfl
  | 0, g + 1, i, j, h, _ => by rw [bsF, bsF, if_neg (by omega)]
  | f + 1, 0, i, j, _, h => by rw [bsF, bsF, if_neg (by omega)]
  | f + 1, g + 1, i, j, h1, h2 => by
    rw [bsF, bsF]
    by_cases h : i < j
    · rw [if_pos h, if_pos h, bsF_fuel p f g _ j (by omega) (by omega), bsF_fuel p f g i _ (by omega) (by omega)]
    · rw [if_neg h, if_neg h]
/-- An element goes up (down) by so many places. -/
def upL : Nat → Nat → Array α → Array α
  | 0, _, d => d
  | k + 1, a, d => upL k (a + 1) (swp d a (a + 1))
def downL : Nat → Nat → Array α → Array α
  | 0, _, d => d
  | k + 1, m, d => downL k (m - 1) (swp d m (m - 1))
theorem upL_spec : ∀ k a (d : Array α), a + k < d.size → PermIn a (a + k + 1) d (upL k a d) ∧ ∀ p, (upL k a d)[p]! = if a ≤ p ∧ p < a + k then d[p + 1]! else if p = a + k then d[a]! else d[p]!
  | 0, a, d, h => by
    refine ⟨permIn_refl _ _ _, fun p => ?_⟩
    rw [upL, if_neg (by omega)]
    by_cases hp : p = a + 0
    · rw [if_pos hp, hp]; rfl
    · rw [if_neg hp]
  | k + 1, a, d, h => by
    rw [upL]
    have hs := size_swp d a (a + 1)
    obtain ⟨q1, q2⟩ := upL_spec k (a + 1) (swp d a (a + 1)) (by omega)
    refine ⟨permIn_trans _ _ _ _ _ (swp_permIn d a (a + (k + 1) + 1) a (a + 1) (Nat.le_refl _) (by omega) (by omega) (by omega) (by omega)) (permIn_mono _ _ _ _ _ _ (by omega) (by omega) (by omega) q1), fun p => ?_⟩
    rw [q2 p]
    by_cases c0 : p = a
    · subst c0
      rw [if_neg (by omega), if_neg (by omega), if_pos (by omega), swp_left _ _ _ (by omega) (by omega)]
    · by_cases c1 : a + 1 ≤ p ∧ p < a + 1 + k
      · rw [if_pos c1, if_pos (by omega), swp_other _ _ _ _ (by omega) (by omega)]
      · rw [if_neg c1, if_neg (show ¬ (a ≤ p ∧ p < a + (k + 1)) by omega)]
        by_cases c2 : p = a + 1 + k
        · rw [if_pos c2, if_pos (by omega), swp_right _ _ _ (by omega)]
        · rw [if_neg c2, if_neg (by omega), swp_other _ _ _ _ (by omega) (by omega)]
theorem downL_spec : ∀ k m (d : Array α), k ≤ m → m < d.size → PermIn (m - k) (m + 1) d (downL k m d) ∧ ∀ p, (downL k m d)[p]! = if m - k < p ∧ p ≤ m then d[p - 1]! else if p = m - k then d[m]! else d[p]!
  | 0, m, d, h1, h2 => by
    refine ⟨permIn_refl _ _ _, fun p => ?_⟩
    rw [downL, if_neg (by omega)]
    by_cases hp : p = m - 0
    · rw [if_pos hp, hp]; rfl
    · rw [if_neg hp]
  | k + 1, m, d, h1, h2 => by
    rw [downL]
    have hs := size_swp d m (m - 1)
    obtain ⟨q1, q2⟩ := downL_spec k (m - 1) (swp d m (m - 1)) (by omega) (by omega)
    have e : m - 1 - k = m - (k + 1) := by omega
    rw [e] at q1 q2
    refine ⟨permIn_trans _ _ _ _ _ (swp_permIn d (m - (k + 1)) (m + 1) m (m - 1) (by omega) (by omega) (by omega) (by omega) (by omega)) (permIn_mono _ _ _ _ _ _ (by omega) (by omega) (by omega) q1), fun p => ?_⟩
    rw [q2 p]
    by_cases c0 : p = m
    · subst c0
      rw [if_neg (by omega), if_neg (by omega), if_pos (by omega), swp_left _ _ _ (by omega) (by omega)]
    · by_cases c1 : m - (k + 1) < p ∧ p ≤ m - 1
      · rw [if_pos c1, if_pos (by omega), swp_other _ _ _ _ (by omega) (by omega)]
      · rw [if_neg c1, if_neg (show ¬ (m - (k + 1) < p ∧ p ≤ m) by omega)]
        by_cases c2 : p = m - (k + 1)
        · rw [if_pos c2, if_pos c2, swp_right _ _ _ (by omega)]
        · rw [if_neg c2, if_neg c2, swp_other _ _ _ _ (by omega) (by omega)]

/-! ### Merging -/
section
variable (lt : α → α → Bool)
/-- Where the two ranges are cut. -/
def symAt (d : Array α) (a m b : Nat) : Nat :=
  let mid := (a + b) / 2
  let n := mid + m
  if mid < m then bsF (fun c => !lt d[n - 1 - c]! d[c]!) (b - a) (n - b) mid else bsF (fun c => !lt d[n - 1 - c]! d[c]!) (b - a) a m
def symRot (d : Array α) (a m b : Nat) : Array α :=
  if symAt lt d a m b < m ∧ m < (a + b) / 2 + m - symAt lt d a m b then rotate d (symAt lt d a m b) m ((a + b) / 2 + m - symAt lt d a m b) else d
def symF : Nat → Array α → Nat → Nat → Nat → Array α
  | 0, d, _, _, _ => d
  | f + 1, d, a, m, b =>
    if m - a = 1 then upL (bsF (fun h => lt d[h]! d[a]!) (b - a) m b - 1 - a) a d
    else if b - m = 1 then downL (m - bsF (fun h => !lt d[m]! d[h]!) (b - a) a m) m d
    else
      let s := symAt lt d a m b
      let mid := (a + b) / 2
      let e := mid + m - s
      let d1 := symRot lt d a m b
      let d2 := if a < s ∧ s < mid then symF f d1 a s mid else d1
      if mid < e ∧ e < b then symF f d2 mid e b else d2
end
variable {lt : α → α → Bool}
theorem srt_sub {a b a' b' : Nat} {d : Array α} (h : SortedIn lt a b d) (h1 : a ≤ a') (h2 : b' ≤ b) : SortedIn lt a' b' d := fun i j hi hij hj => h i j (by omega) hij (by omega)
theorem sorted_one (lt : α → α → Bool) {a b : Nat} (d : Array α) (h : b ≤ a + 1) : SortedIn lt a b d := fun i j hi hij hj => by omega
theorem sorted_two {a m b : Nat} {d : Array α} (hL : SortedIn lt a m d) (hR : SortedIn lt m b d) (hX : ∀ i j, a ≤ i → i < m → m ≤ j → j < b → lt d[j]! d[i]! = false) : SortedIn lt a b d := by
  intro i j hi hij hj
  by_cases h1 : j < m
  · exact hL i j hi hij h1
  · by_cases h2 : i < m
    · exact hX i j hi h2 (by omega) hj
    · exact hR i j (by omega) hij hj
theorem srt_same {a b : Nat} {d d' : Array α} (h : SortedIn lt a b d) (he : ∀ p, a ≤ p → p < b → d'[p]! = d[p]!) : SortedIn lt a b d' := fun i j hi hij hj => by
  rw [he i hi (by omega), he j (by omega) hj]; exact h i j hi hij hj
theorem srt_moved {a b : Nat} {d d' : Array α} {k : Nat} (h : SortedIn lt a b d) {a' b' : Nat} (he : ∀ p, a' ≤ p → p < b' → d'[p]! = d[p + k]! ∧ a ≤ p + k ∧ p + k < b) : SortedIn lt a' b' d' := fun i j hi hij hj => by
  rw [(he i hi (by omega)).1, (he j (by omega) hj).1]
  exact h _ _ (he i hi (by omega)).2.1 (by omega) (he j (by omega) hj).2.2
theorem srt_back {a b : Nat} {d d' : Array α} {k : Nat} (h : SortedIn lt a b d) {a' b' : Nat} (he : ∀ p, a' ≤ p → p < b' → d'[p]! = d[p - k]! ∧ k ≤ p ∧ a ≤ p - k ∧ p - k < b) : SortedIn lt a' b' d' := fun i j hi hij hj => by
  have hk := (he i hi (by omega)).2.1
  rw [(he i hi (by omega)).1, (he j (by omega) hj).1]
  exact h _ _ (he i hi (by omega)).2.2.1 (by omega) (he j (by omega) hj).2.2.2
theorem symAt_spec (d : Array α) (a m b : Nat) (h1 : a + 1 < m) (h2 : m + 1 < b) :
    a ≤ symAt lt d a m b ∧ symAt lt d a m b ≤ m ∧ symAt lt d a m b ≤ (a + b) / 2 ∧ m ≤ (a + b) / 2 + m - symAt lt d a m b ∧ (a + b) / 2 + m - symAt lt d a m b ≤ b ∧
    (symAt lt d a m b = a ∨ (a + b) / 2 + m - symAt lt d a m b = b ∨ lt d[(a + b) / 2 + m - symAt lt d a m b]! d[symAt lt d a m b - 1]! = false) ∧
    (symAt lt d a m b = m ∨ (a + b) / 2 + m - symAt lt d a m b = m ∨ lt d[(a + b) / 2 + m - symAt lt d a m b - 1]! d[symAt lt d a m b]! = true) := by
  unfold symAt
  dsimp only
  by_cases hc : (a + b) / 2 < m
  · rw [if_pos hc]
    have h := bsF_spec (fun c => !lt d[(a + b) / 2 + m - 1 - c]! d[c]!) (b - a) ((a + b) / 2 + m - b) ((a + b) / 2) (by omega) (by omega)
    generalize bsF (fun c => !lt d[(a + b) / 2 + m - 1 - c]! d[c]!) (b - a) ((a + b) / 2 + m - b) ((a + b) / 2) = s at h ⊢
    obtain ⟨q1, q2, q3, q4⟩ := h
    refine ⟨by omega, by omega, by omega, by omega, by omega, ?_, ?_⟩
    · rcases q3 with q3 | q3
      · right; left; omega
      · by_cases hs : s = a
        · exact .inl hs
        · right; right
          have e : (a + b) / 2 + m - 1 - (s - 1) = (a + b) / 2 + m - s := by omega
          rw [e] at q3
          simpa using q3
    · rcases q4 with q4 | q4
      · right; left; omega
      · right; right
        have e : (a + b) / 2 + m - 1 - s = (a + b) / 2 + m - s - 1 := by omega
        rw [e] at q4
        simpa using q4
  · rw [if_neg hc]
    have h := bsF_spec (fun c => !lt d[(a + b) / 2 + m - 1 - c]! d[c]!) (b - a) a m (by omega) (by omega)
    generalize bsF (fun c => !lt d[(a + b) / 2 + m - 1 - c]! d[c]!) (b - a) a m = s at h ⊢
    obtain ⟨q1, q2, q3, q4⟩ := h
    refine ⟨q1, q2, by omega, by omega, by omega, ?_, ?_⟩
    · rcases q3 with q3 | q3
      · exact .inl q3
      · by_cases hs : s = a
        · exact .inl hs
        · right; right
          have e : (a + b) / 2 + m - 1 - (s - 1) = (a + b) / 2 + m - s := by omega
          rw [e] at q3
          simpa using q3
    · rcases q4 with q4 | q4
      · exact .inl q4
      · right; right
        have e : (a + b) / 2 + m - 1 - s = (a + b) / 2 + m - s - 1 := by omega
        rw [e] at q4
        simpa using q4
/-- Behind the turning: four sorted ranges, those to the left of the middle none greater than those to the right. -/
theorem symRot_spec (hS : SWO lt) (d : Array α) (a m b : Nat) (h1 : a + 1 < m) (h2 : m + 1 < b) (h3 : b ≤ d.size) (hL : SortedIn lt a m d) (hR : SortedIn lt m b d) :
    PermIn a b d (symRot lt d a m b) ∧ SortedIn lt a (symAt lt d a m b) (symRot lt d a m b) ∧ SortedIn lt (symAt lt d a m b) ((a + b) / 2) (symRot lt d a m b) ∧
    SortedIn lt ((a + b) / 2) ((a + b) / 2 + m - symAt lt d a m b) (symRot lt d a m b) ∧ SortedIn lt ((a + b) / 2 + m - symAt lt d a m b) b (symRot lt d a m b) ∧
    ∀ i j, a ≤ i → i < (a + b) / 2 → (a + b) / 2 ≤ j → j < b → lt (symRot lt d a m b)[j]! (symRot lt d a m b)[i]! = false := by
  obtain ⟨g1, g2, g3, g4, g5, g6, g7⟩ := symAt_spec (lt := lt) d a m b h1 h2
  unfold symRot
  generalize symAt lt d a m b = s at *
  obtain ⟨e, he⟩ : ∃ e, e = (a + b) / 2 + m - s := ⟨_, rfl⟩
  rw [← he] at g4 g5 g6 g7 ⊢
  obtain ⟨mid, hmid⟩ : ∃ mid, mid = (a + b) / 2 := ⟨_, rfl⟩
  rw [← hmid] at g3 he ⊢
  -- what is left of the cut is none greater than what is right of it
  have hle : ∀ x y, (a ≤ x ∧ x < s ∨ m ≤ x ∧ x < e) → (s ≤ y ∧ y < m ∨ e ≤ y ∧ y < b) → lt d[y]! d[x]! = false := by
    intro x y hx hy
    rcases hx with ⟨x1, x2⟩ | ⟨x1, x2⟩
    · rcases hy with ⟨y1, y2⟩ | ⟨y1, y2⟩
      · exact hL x y x1 (by omega) y2
      · rcases g6 with g6 | g6 | g6
        · omega
        · omega
        · have k1 : lt d[s - 1]! d[x]! = false := by
            by_cases hxs : x = s - 1
            · rw [hxs]; exact hS.irrefl _
            · exact hL x (s - 1) x1 (by omega) (by omega)
          have k2 : lt d[y]! d[e]! = false := by
            by_cases hye : y = e
            · rw [hye]; exact hS.irrefl _
            · exact hR e y (by omega) (by omega) y2
          exact hS.ntrans _ _ _ k2 (hS.ntrans _ _ _ g6 k1)
    · rcases hy with ⟨y1, y2⟩ | ⟨y1, y2⟩
      · rcases g7 with g7 | g7 | g7
        · omega
        · omega
        · have k1 : lt d[e - 1]! d[x]! = false := by
            by_cases hxs : x = e - 1
            · rw [hxs]; exact hS.irrefl _
            · exact hR x (e - 1) x1 (by omega) (by omega)
          have k2 : lt d[y]! d[s]! = false := by
            by_cases hye : y = s
            · rw [hye]; exact hS.irrefl _
            · exact hL s y (by omega) (by omega) y2
          exact hS.ntrans _ _ _ k2 (hS.ntrans _ _ _ (swo_asymm hS g7) k1)
      · exact hR x y x1 (by omega) y2
  by_cases hc : s < m ∧ m < e
  · rw [if_pos hc]
    obtain ⟨r1, r2⟩ := rotate_spec d s m e hc.1 hc.2 (by omega)
    have em : s + (e - m) = mid := by omega
    rw [em] at r2
    refine ⟨permIn_mono _ _ _ _ _ _ g1 g5 h3 r1, ?_, ?_, ?_, ?_, ?_⟩
    · exact srt_same (srt_sub hL (Nat.le_refl _) g2) fun p p1 p2 => by rw [r2 p, if_neg (by omega), if_neg (by omega)]
    · exact srt_moved hR (k := m - s) fun p p1 p2 => ⟨by rw [r2 p, if_pos ⟨p1, p2⟩], by omega, by omega⟩
    · exact srt_back hL (k := e - m) fun p p1 p2 => ⟨by rw [r2 p, if_neg (by omega), if_pos ⟨p1, p2⟩], by omega, by omega, by omega⟩
    · exact srt_same (srt_sub hR (by omega) (Nat.le_refl _)) fun p p1 p2 => by rw [r2 p, if_neg (by omega), if_neg (by omega)]
    · intro i j i1 i2 j1 j2
      rw [r2 i, r2 j, if_neg (show ¬ (s ≤ j ∧ j < mid) by omega)]
      by_cases ci : s ≤ i ∧ i < mid
      · rw [if_pos ci]
        by_cases cj : mid ≤ j ∧ j < e
        · rw [if_pos cj]; exact hle _ _ (.inr ⟨by omega, by omega⟩) (.inl ⟨by omega, by omega⟩)
        · rw [if_neg cj]; exact hle _ _ (.inr ⟨by omega, by omega⟩) (.inr ⟨by omega, by omega⟩)
      · rw [if_neg ci, if_neg (show ¬ (mid ≤ i ∧ i < e) by omega)]
        by_cases cj : mid ≤ j ∧ j < e
        · rw [if_pos cj]; exact hle _ _ (.inl ⟨by omega, by omega⟩) (.inl ⟨by omega, by omega⟩)
        · rw [if_neg cj]; exact hle _ _ (.inl ⟨by omega, by omega⟩) (.inr ⟨by omega, by omega⟩)
  · rw [if_neg hc]
    have hsm : (s = m ∧ e = mid) ∨ (e = m ∧ s = mid) := by omega
    refine ⟨permIn_refl _ _ _, srt_sub hL (Nat.le_refl _) g2, ?_, ?_, srt_sub hR g4 (Nat.le_refl _), ?_⟩
    · rcases hsm with ⟨k1, k2⟩ | ⟨k1, k2⟩
      · exact srt_sub hR (by omega) (by omega)
      · exact sorted_one lt d (by omega)
    · rcases hsm with ⟨k1, k2⟩ | ⟨k1, k2⟩
      · exact sorted_one lt d (by omega)
      · exact srt_sub hL (by omega) (by omega)
    · intro i j i1 i2 j1 j2
      refine hle i j ?_ ?_
      · rcases hsm with ⟨k1, k2⟩ | ⟨k1, k2⟩
        · by_cases hi : i < s
          · exact .inl ⟨i1, hi⟩
          · exact .inr ⟨by omega, by omega⟩
        · exact .inl ⟨i1, by omega⟩
      · rcases hsm with ⟨k1, k2⟩ | ⟨k1, k2⟩
        · exact .inr ⟨by omega, j2⟩
        · by_cases hj : j < m
          · exact .inl ⟨by omega, hj⟩
          · exact .inr ⟨by omega, j2⟩
theorem srt_perm {a b : Nat} {d d' : Array α} (h : SortedIn lt a b d) {A B : Nat} (hp : PermIn A B d d') (hx : b ≤ A ∨ B ≤ a) : SortedIn lt a b d' :=
  srt_same h fun p p1 p2 => hp.2.1 p (by omega)
/-- Two sorted ranges merged: a permutation, sorted. -/
theorem symF_spec (hS : SWO lt) : ∀ f (d : Array α) a m b, a < m → m < b → b - a ≤ f → b ≤ d.size → SortedIn lt a m d → SortedIn lt m b d → PermIn a b d (symF lt f d a m b) ∧ SortedIn lt a b (symF lt f d a m b)
  | 0, d, a, m, b, h1, h2, h3, _, _, _ => by omega
  | f + 1, d, a, m, b, h1, h2, h3, h4, hL, hR => by
    rw [symF]
    by_cases c1 : m - a = 1
    · rw [if_pos c1]
      obtain ⟨q1, q2, q3, q4⟩ := bsF_spec (fun h => lt d[h]! d[a]!) (b - a) m b (by omega) (by omega)
      generalize bsF (fun h => lt d[h]! d[a]!) (b - a) m b = s at *
      obtain ⟨u1, u2⟩ := upL_spec (s - 1 - a) a d (by omega)
      have e : a + (s - 1 - a) = s - 1 := by omega
      rw [e] at u1 u2
      refine ⟨permIn_mono _ _ _ _ _ _ (Nat.le_refl _) (by omega) h4 u1, ?_⟩
      have hlow : ∀ k, m ≤ k → k < s → lt d[k]! d[a]! = true := by
        intro k k1 k2
        rcases q3 with q3 | q3
        · omega
        · cases hk : lt d[k]! d[a]! with
          | true => rfl
          | false =>
            have : lt d[s - 1]! d[k]! = false := by
              by_cases hks : k = s - 1
              · rw [hks]; exact hS.irrefl _
              · exact hR k (s - 1) k1 (by omega) (by omega)
            rw [hS.ntrans _ _ _ this hk] at q3; cases q3
      have hhigh : ∀ k, s ≤ k → k < b → lt d[k]! d[a]! = false := by
        intro k k1 k2
        rcases q4 with q4 | q4
        · omega
        · by_cases hks : k = s
          · rw [hks]; exact q4
          · exact hS.ntrans _ _ _ (hR s k (by omega) (by omega) k2) q4
      intro i j i1 ij j2
      by_cases ci : i < s - 1
      · rw [show (upL (s - 1 - a) a d)[i]! = d[i + 1]! by rw [u2 i, if_pos ⟨i1, ci⟩]]
        by_cases cj : j < s - 1
        · rw [u2 j, if_pos ⟨by omega, cj⟩]; exact hR _ _ (by omega) (by omega) (by omega)
        · by_cases cj2 : j = s - 1
          · rw [u2 j, if_neg (by omega), if_pos cj2]; exact swo_asymm hS (hlow _ (by omega) (by omega))
          · rw [u2 j, if_neg (by omega), if_neg cj2]; exact hR _ _ (by omega) (by omega) j2
      · rw [u2 j, if_neg (by omega), if_neg (by omega)]
        by_cases ci2 : i = s - 1
        · rw [u2 i, if_neg (by omega), if_pos ci2]; exact hhigh _ (by omega) j2
        · rw [u2 i, if_neg (by omega), if_neg ci2]; exact hR _ _ (by omega) ij j2
    · rw [if_neg c1]
      by_cases c2 : b - m = 1
      · rw [if_pos c2]
        obtain ⟨q1, q2, q3, q4⟩ := bsF_spec (fun h => !lt d[m]! d[h]!) (b - a) a m (by omega) (by omega)
        generalize bsF (fun h => !lt d[m]! d[h]!) (b - a) a m = s at *
        obtain ⟨u1, u2⟩ := downL_spec (m - s) m d (by omega) (by omega)
        have e : m - (m - s) = s := by omega
        rw [e] at u1 u2
        refine ⟨permIn_mono _ _ _ _ _ _ q1 (by omega) h4 u1, ?_⟩
        have hlow : ∀ k, a ≤ k → k < s → lt d[m]! d[k]! = false := by
          intro k k1 k2
          rcases q3 with q3 | q3
          · omega
          · have q3' : lt d[m]! d[s - 1]! = false := by simpa using q3
            by_cases hks : k = s - 1
            · rw [hks]; exact q3'
            · exact hS.ntrans _ _ _ q3' (hL k (s - 1) k1 (by omega) (by omega))
        have hhigh : ∀ k, s ≤ k → k < m → lt d[m]! d[k]! = true := by
          intro k k1 k2
          rcases q4 with q4 | q4
          · omega
          · have q4' : lt d[m]! d[s]! = true := by simpa using q4
            cases hk : lt d[m]! d[k]! with
            | true => rfl
            | false =>
              have : lt d[k]! d[s]! = false := by
                by_cases hks : k = s
                · rw [hks]; exact hS.irrefl _
                · exact hL s k (by omega) (by omega) k2
              rw [hS.ntrans _ _ _ hk this] at q4'; cases q4'
        intro i j i1 ij j2
        have hbm : b = m + 1 := by omega
        by_cases ci : i < s
        · rw [show (downL (m - s) m d)[i]! = d[i]! by rw [u2 i, if_neg (by omega), if_neg (by omega)]]
          by_cases cj : s < j ∧ j ≤ m
          · rw [u2 j, if_pos cj]; exact hL _ _ i1 (by omega) (by omega)
          · by_cases cj2 : j = s
            · rw [u2 j, if_neg cj, if_pos cj2]; exact hlow _ i1 ci
            · rw [u2 j, if_neg cj, if_neg cj2]; exact hL _ _ i1 ij (by omega)
        · rw [u2 j, if_pos (by omega)]
          by_cases ci2 : i = s
          · rw [u2 i, if_neg (by omega), if_pos ci2]
            exact swo_asymm hS (hhigh _ (by omega) (by omega))
          · rw [u2 i, if_pos (by omega)]
            exact hL _ _ (by omega) (by omega) (by omega)
      · rw [if_neg c2]
        obtain ⟨r1, r2, r3, r4, r5, r6⟩ := symRot_spec hS d a m b (by omega) (by omega) h4 hL hR
        obtain ⟨g1, g2, g3, g4, g5, -, -⟩ := symAt_spec (lt := lt) d a m b (by omega) (by omega)
        dsimp only
        generalize symRot lt d a m b = d1 at *
        generalize symAt lt d a m b = s at *
        obtain ⟨e, he⟩ : ∃ e, e = (a + b) / 2 + m - s := ⟨_, rfl⟩
        rw [← he] at g4 g5 r4 r5 ⊢
        obtain ⟨mid, hmid⟩ : ∃ mid, mid = (a + b) / 2 := ⟨_, rfl⟩
        rw [← hmid] at g3 he r3 r4 r6 ⊢
        have hs1 := r1.1
        -- the left half
        have hleft : PermIn a mid d1 (if a < s ∧ s < mid then symF lt f d1 a s mid else d1) ∧ SortedIn lt a mid (if a < s ∧ s < mid then symF lt f d1 a s mid else d1) := by
          by_cases hc : a < s ∧ s < mid
          · rw [if_pos hc]
            exact symF_spec hS f d1 a s mid hc.1 hc.2 (by omega) (by omega) r2 r3
          · rw [if_neg hc]
            refine ⟨permIn_refl _ _ _, ?_⟩
            by_cases hs : a < s
            · have : s = mid := by omega
              rw [this] at r2; exact r2
            · have : s = a := by omega
              rw [this] at r3; exact r3
        generalize (if a < s ∧ s < mid then symF lt f d1 a s mid else d1) = d2 at *
        obtain ⟨l1, l2⟩ := hleft
        have hs2 := l1.1
        have r4' := srt_perm r4 l1 (.inr (Nat.le_refl _))
        have r5' := srt_perm r5 l1 (.inr (by omega))
        have hright : PermIn mid b d2 (if mid < e ∧ e < b then symF lt f d2 mid e b else d2) ∧ SortedIn lt mid b (if mid < e ∧ e < b then symF lt f d2 mid e b else d2) := by
          by_cases hc : mid < e ∧ e < b
          · rw [if_pos hc]
            exact symF_spec hS f d2 mid e b hc.1 hc.2 (by omega) (by omega) r4' r5'
          · rw [if_neg hc]
            refine ⟨permIn_refl _ _ _, ?_⟩
            by_cases hs : mid < e
            · have : e = b := by omega
              rw [this] at r4'; exact r4'
            · have : e = mid := by omega
              rw [this] at r5'; exact r5'
        generalize (if mid < e ∧ e < b then symF lt f d2 mid e b else d2) = d3 at *
        obtain ⟨m1, m2⟩ := hright
        have hab : a ≤ mid ∧ mid ≤ b := by omega
        refine ⟨permIn_trans _ _ _ _ _ r1 (permIn_trans _ _ _ _ _ (permIn_mono _ _ _ _ _ _ (Nat.le_refl _) hab.2 (by omega) l1) (permIn_mono _ _ _ _ _ _ hab.1 (Nat.le_refl _) (by omega) m1)), ?_⟩
        refine sorted_two (m := mid) (srt_perm l2 m1 (.inl (Nat.le_refl _))) m2 ?_
        -- no later one is less
        have hx : ∀ i, a ≤ i → i < mid → ∀ j, mid ≤ j → j < b → lt d2[j]! d2[i]! = false := by
          intro i i1 i2 j j1 j2
          have e1 : d2[j]! = d1[j]! := l1.2.1 j (.inr j1)
          rw [e1]
          refine permIn_all d1 d2 a mid (fun x => lt d1[j]! x = false) (by omega) l1 ?_ i i1 i2
          intro i' i1' i2'
          exact r6 i' j i1' i2' j1 j2
        intro i j i1 i2 j1 j2
        have e1 : d3[i]! = d2[i]! := m1.2.1 i (.inl i2)
        rw [e1]
        refine permIn_all d2 d3 mid b (fun x => lt x d2[i]! = false) (by omega) m1 ?_ j j1 j2
        intro j' j1' j2'
        exact hx i i1 i2 j' j1' j2'
theorem symF_size (lt : α → α → Bool) : ∀ f (d : Array α) a m b, (symF lt f d a m b).size = d.size := by
  have hup : ∀ k a (d : Array α), (upL k a d).size = d.size := by
    intro k
    induction k with
    | zero => intro a d; rfl
    | succ k ih => intro a d; rw [upL, ih, size_swp]
  have hdown : ∀ k a (d : Array α), (downL k a d).size = d.size := by
    intro k
    induction k with
    | zero => intro a d; rfl
    | succ k ih => intro a d; rw [downL, ih, size_swp]
  have hrot : ∀ m f i j (d : Array α), (rotL m f i j d).size = d.size := by
    intro m f
    induction f with
    | zero => intro i j d; rfl
    | succ f ih =>
      intro i j d
      rw [rotL]
      split
      · exact swapR_size _ _ _ _
      · split
        · rw [ih, swapR_size]
        · rw [ih, swapR_size]
  have hsr : ∀ (d : Array α) a m b, (symRot lt d a m b).size = d.size := by
    intro d a m b
    unfold symRot
    split
    · exact hrot _ _ _ _ _
    · rfl
  intro f
  induction f with
  | zero => intro d a m b; rfl
  | succ f ih =>
    intro d a m b
    rw [symF]
    split
    · exact hup _ _ _
    · split
      · exact hdown _ _ _
      · dsimp only
        split
        · rw [ih]
          split
          · rw [ih, hsr]
          · exact hsr _ _ _ _
        · split
          · rw [ih, hsr]
          · exact hsr _ _ _ _
end Go.Proofs.Ytbchaomnjbkdhaa
