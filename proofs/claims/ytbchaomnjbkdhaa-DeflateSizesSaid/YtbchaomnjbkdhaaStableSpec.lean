/-
  The library's stable sort as a whole, in plain Lean: blocks of twenty, merged by twos; a permutation, sorted. No program in sight.
-/
import Derived.Test.YtbchaomnjbkdhaaSymSpec
namespace Go.Proofs.Ytbchaomnjbkdhaa
open Go.Sort
set_option linter.unusedVariables false
variable {α : Type} [Inhabited α]

section
variable (lt : α → α → Bool) (n : Nat)
def insB : Nat → Nat → Nat → Array α → Array α
  | 0, _, _, d => d
  | f + 1, a, b, d => if b ≤ n then insB f b (b + 20) (insertionSort lt d a b) else insertionSort lt d a n
def mrgB (z : Nat) : Nat → Nat → Nat → Array α → Array α
  | 0, _, _, d => d
  | f + 1, a, b, d => if b ≤ n then mrgB z f b (b + 2 * z) (symF lt n d a (a + z) b) else if a + z < n then symF lt n d a (a + z) n else d
def stbB : Nat → Nat → Array α → Array α
  | 0, _, d => d
  | f + 1, z, d => if z < n then stbB f (2 * z) (mrgB lt n z (n + 1) 0 (2 * z) d) else d
end
def stableA (lt : α → α → Bool) (d : Array α) : Array α := stbB lt d.size (d.size + 1) 20 (insB lt d.size (d.size + 1) 0 20 d)
/-- Blocks of z, each sorted. -/
def SB (lt : α → α → Bool) (n z : Nat) (d : Array α) : Prop := ∀ k, k * z < n → SortedIn lt (k * z) (min ((k + 1) * z) n) d
theorem insB_spec {lt : α → α → Bool} (hS : SWO lt) (n : Nat) : ∀ f k (d : Array α), k * 20 ≤ n → n < k * 20 + f → n ≤ d.size → (∀ j, j < k → SortedIn lt (j * 20) ((j + 1) * 20) d) →
    SB lt n 20 (insB lt n f (k * 20) (k * 20 + 20) d) ∧ PermIn 0 n d (insB lt n f (k * 20) (k * 20 + 20) d)
  | 0, k, d, h1, h2, h3, h4 => by omega
  | f + 1, k, d, h1, h2, h3, h4 => by
    rw [insB]
    by_cases hb : k * 20 + 20 ≤ n
    · rw [if_pos hb]
      obtain ⟨p1, p2⟩ := insertionSort_holds hS d (k * 20) (k * 20 + 20) (by omega) (by omega)
      have e : k * 20 + 20 = (k + 1) * 20 := by omega
      have hs := p1.1
      have ih := insB_spec hS n f (k + 1) (insertionSort lt d (k * 20) (k * 20 + 20)) (by omega) (by omega) (by omega) (by
        intro j hj
        by_cases hjk : j = k
        · subst hjk; rw [← e]; exact p2
        · exact srt_perm (h4 j (by omega)) p1 (.inl (by omega)))
      rw [← e] at ih
      exact ⟨ih.1, permIn_trans _ _ _ _ _ (permIn_mono _ _ _ _ _ _ (Nat.zero_le _) hb h3 p1) ih.2⟩
    · rw [if_neg hb]
      obtain ⟨p1, p2⟩ := insertionSort_holds hS d (k * 20) n h1 h3
      refine ⟨fun j hj => ?_, permIn_mono _ _ _ _ _ _ (Nat.zero_le _) (Nat.le_refl _) h3 p1⟩
      by_cases hjk : j < k
      · rw [Nat.min_eq_left (by omega)]
        exact srt_perm (h4 j hjk) p1 (.inl (by omega))
      · have : j = k := by omega
        subst this
        rw [Nat.min_eq_right (by omega)]
        exact p2
theorem mrgB_spec {lt : α → α → Bool} (hS : SWO lt) (n z : Nat) (hz : 1 ≤ z) : ∀ f k (d : Array α), k * (2 * z) ≤ n → n < k * (2 * z) + f → n ≤ d.size →
    (∀ j, j < k → SortedIn lt (j * (2 * z)) ((j + 1) * (2 * z)) d) → (∀ j, 2 * k ≤ j → j * z < n → SortedIn lt (j * z) (min ((j + 1) * z) n) d) →
    SB lt n (2 * z) (mrgB lt n z f (k * (2 * z)) (k * (2 * z) + 2 * z) d) ∧ PermIn 0 n d (mrgB lt n z f (k * (2 * z)) (k * (2 * z) + 2 * z) d)
  | 0, k, d, h1, h2, h3, h4, h5 => by omega
  | f + 1, k, d, h1, h2, h3, h4, h5 => by
    have e1 : 2 * k * z = k * (2 * z) := by rw [Nat.mul_comm 2 k, Nat.mul_assoc]
    have e2 : (2 * k + 1) * z = k * (2 * z) + z := by rw [Nat.add_mul, e1, Nat.one_mul]
    have e3 : (2 * k + 1 + 1) * z = k * (2 * z) + 2 * z := by rw [Nat.add_mul, e2, Nat.one_mul]; omega
    have e4 : (k + 1) * (2 * z) = k * (2 * z) + 2 * z := by rw [Nat.add_mul, Nat.one_mul]
    have hmono : ∀ i j : Nat, i ≤ j → i * (2 * z) ≤ j * (2 * z) := fun i j h => Nat.mul_le_mul_right _ h
    have hmono2 : ∀ i j : Nat, i ≤ j → i * z ≤ j * z := fun i j h => Nat.mul_le_mul_right _ h
    rw [mrgB]
    by_cases hb : k * (2 * z) + 2 * z ≤ n
    · rw [if_pos hb]
      have hL := h5 (2 * k) (Nat.le_refl _) (by omega)
      rw [e1, e2, Nat.min_eq_left (by omega)] at hL
      have hR := h5 (2 * k + 1) (by omega) (by omega)
      rw [e2, e3, Nat.min_eq_left (by omega)] at hR
      obtain ⟨p1, p2⟩ := symF_spec hS n d (k * (2 * z)) (k * (2 * z) + z) (k * (2 * z) + 2 * z) (by omega) (by omega) (by omega) (by omega) hL hR
      have hs := p1.1
      have ih := mrgB_spec hS n z hz f (k + 1) (symF lt n d (k * (2 * z)) (k * (2 * z) + z) (k * (2 * z) + 2 * z)) (by omega) (by omega) (by omega) (by
        intro j hj
        by_cases hjk : j = k
        · subst hjk; rw [e4]; exact p2
        · have := hmono (j + 1) k (by omega)
          exact srt_perm (h4 j (by omega)) p1 (.inl this)) (by
        intro j hj hjn
        have h1 := hmono2 (2 * k + 1 + 1) j (by omega)
        rw [e3] at h1
        exact srt_perm (h5 j (by omega) hjn) p1 (.inr h1))
      rw [e4] at ih
      exact ⟨ih.1, permIn_trans _ _ _ _ _ (permIn_mono _ _ _ _ _ _ (Nat.zero_le _) hb h3 p1) ih.2⟩
    · rw [if_neg hb]
      have hold : ∀ d' : Array α, PermIn (k * (2 * z)) n d d' → SortedIn lt (k * (2 * z)) n d' → SB lt n (2 * z) d' := by
        intro d' hp hso j hj
        by_cases hjk : j < k
        · have := hmono (j + 1) k (by omega)
          rw [Nat.min_eq_left (by omega)]
          exact srt_perm (h4 j hjk) hp (.inl this)
        · have : j = k := by
            rcases Nat.lt_or_ge k j with h | h
            · have := hmono (k + 1) j h
              omega
            · omega
          subst this
          rw [Nat.min_eq_right (by omega)]
          exact hso
      by_cases hm : k * (2 * z) + z < n
      · rw [if_pos hm]
        have hL := h5 (2 * k) (Nat.le_refl _) (by omega)
        rw [e1, e2, Nat.min_eq_left (by omega)] at hL
        have hR := h5 (2 * k + 1) (by omega) (by omega)
        rw [e2, e3, Nat.min_eq_right (by omega)] at hR
        obtain ⟨p1, p2⟩ := symF_spec hS n d (k * (2 * z)) (k * (2 * z) + z) n (by omega) (by omega) (by omega) h3 hL hR
        exact ⟨hold _ p1 p2, permIn_mono _ _ _ _ _ _ (Nat.zero_le _) (Nat.le_refl _) h3 p1⟩
      · rw [if_neg hm]
        refine ⟨hold d (permIn_refl _ _ _) ?_, permIn_refl _ _ _⟩
        by_cases hk : k * (2 * z) < n
        · have hL := h5 (2 * k) (Nat.le_refl _) (by omega)
          rw [e1, e2, Nat.min_eq_right (by omega)] at hL
          exact hL
        · exact sorted_one lt d (by omega)
theorem stbB_spec {lt : α → α → Bool} (hS : SWO lt) (n : Nat) : ∀ f z (d : Array α), 1 ≤ z → n < z + f → n ≤ d.size → SB lt n z d → SortedIn lt 0 n (stbB lt n f z d) ∧ PermIn 0 n d (stbB lt n f z d)
  | 0, z, d, h1, h2, h3, h4 => by
    have h5 : SortedIn lt 0 n d := by
      by_cases hn : 0 < n
      · have := h4 0 (by omega)
        rw [Nat.zero_mul, Nat.zero_add, Nat.one_mul, Nat.min_eq_right (by omega)] at this
        exact this
      · exact sorted_one lt d (by omega)
    exact ⟨h5, permIn_refl _ _ _⟩
  | f + 1, z, d, h1, h2, h3, h4 => by
    rw [stbB]
    by_cases hz : z < n
    · rw [if_pos hz]
      have hm := mrgB_spec hS n z h1 (n + 1) 0 d (by omega) (by omega) h3 (fun j hj => by omega) (fun j _ hj => h4 j hj)
      rw [Nat.zero_mul, Nat.zero_add] at hm
      have hs := hm.2.1
      obtain ⟨q1, q2⟩ := stbB_spec hS n f (2 * z) _ (by omega) (by omega) (by omega) hm.1
      exact ⟨q1, permIn_trans _ _ _ _ _ hm.2 q2⟩
    · rw [if_neg hz]
      refine ⟨?_, permIn_refl _ _ _⟩
      by_cases hn : 0 < n
      · have := h4 0 (by omega)
        rw [Nat.zero_mul, Nat.zero_add, Nat.one_mul, Nat.min_eq_right (by omega)] at this
        exact this
      · exact sorted_one lt d (by omega)
/-- The stable sort: a permutation, sorted. -/
theorem stable_spec {lt : α → α → Bool} (hS : SWO lt) (d : Array α) : SortedIn lt 0 d.size (stableA lt d) ∧ PermIn 0 d.size d (stableA lt d) := by
  unfold stableA
  have h1 := insB_spec hS d.size (d.size + 1) 0 d (by omega) (by omega) (Nat.le_refl _) (fun j hj => by omega)
  rw [Nat.zero_mul, Nat.zero_add] at h1
  have hs := h1.2.1
  obtain ⟨q1, q2⟩ := stbB_spec hS d.size (d.size + 1) 20 _ (by omega) (by omega) (by omega) h1.1
  exact ⟨q1, permIn_trans _ _ _ _ _ h1.2 q2⟩
/-- What holds of all stays so, however they are permuted. -/
def AllP (P : α → Prop) (d : Array α) : Prop := ∀ j, j < d.size → P d[j]!
theorem allP_perm {P : α → Prop} {a b : Nat} {d d' : Array α} (h : PermIn a b d d') (hb : b ≤ d.size) (hd : AllP P d) : AllP P d' := by
  intro j hj
  by_cases hc : a ≤ j ∧ j < b
  · exact permIn_all d d' a b P hb h (fun i _ h2 => hd i (by omega)) j hc.1 hc.2
  · rw [h.2.1 j (by omega)]
    exact hd j (by rw [← h.1]; exact hj)
theorem allP_swp {P : α → Prop} {d : Array α} {i j : Nat} (hi : i < d.size) (hj : j < d.size) (hd : AllP P d) : AllP P (swp d i j) :=
  allP_perm (swp_permIn d 0 d.size i j (Nat.zero_le _) hi (Nat.zero_le _) hj (Nat.le_refl _)) (Nat.le_refl _) hd
theorem symRot_perm (lt : α → α → Bool) (d : Array α) (a m b : Nat) (h1 : a + 1 < m) (h2 : m + 1 < b) (h3 : b ≤ d.size) : PermIn a b d (symRot lt d a m b) := by
  obtain ⟨g1, g2, g3, g4, g5, -, -⟩ := symAt_spec (lt := lt) d a m b h1 h2
  unfold symRot
  split
  · rename_i hc
    exact permIn_mono _ _ _ _ _ _ g1 g5 h3 (rotate_spec d _ m _ hc.1 hc.2 (by omega)).1
  · exact permIn_refl _ _ _
theorem symF_perm (lt : α → α → Bool) : ∀ f (d : Array α) a m b, a < m → m < b → b ≤ d.size → PermIn a b d (symF lt f d a m b)
  | 0, d, a, m, b, _, _, _ => permIn_refl _ _ _
  | f + 1, d, a, m, b, h1, h2, h3 => by
    rw [symF]
    split
    · rename_i c1
      obtain ⟨q1, q2, -, -⟩ := bsF_spec (fun h => lt d[h]! d[a]!) (b - a) m b (by omega) (by omega)
      refine permIn_mono _ _ _ _ _ _ (Nat.le_refl _) ?_ h3 (upL_spec _ a d (by omega)).1
      omega
    · split
      · rename_i c2
        obtain ⟨q1, q2, -, -⟩ := bsF_spec (fun h => !lt d[m]! d[h]!) (b - a) a m (by omega) (by omega)
        refine permIn_mono _ _ _ _ _ _ ?_ ?_ h3 (downL_spec _ m d (by omega) (by omega)).1
        · omega
        · omega
      · have r1 := symRot_perm lt d a m b (by omega) (by omega) h3
        obtain ⟨g1, g2, g3, g4, g5, -, -⟩ := symAt_spec (lt := lt) d a m b (by omega) (by omega)
        dsimp only
        generalize symRot lt d a m b = d1 at *
        generalize symAt lt d a m b = s at *
        have hs1 := r1.1
        have hab : a ≤ (a + b) / 2 ∧ (a + b) / 2 ≤ b := by omega
        have hl : PermIn a ((a + b) / 2) d1 (if a < s ∧ s < (a + b) / 2 then symF lt f d1 a s ((a + b) / 2) else d1) := by
          split
          · rename_i hc; exact symF_perm lt f d1 a s _ hc.1 hc.2 (by omega)
          · exact permIn_refl _ _ _
        generalize (if a < s ∧ s < (a + b) / 2 then symF lt f d1 a s ((a + b) / 2) else d1) = d2 at *
        have hs2 := hl.1
        have hr : PermIn ((a + b) / 2) b d2 (if (a + b) / 2 < (a + b) / 2 + m - s ∧ (a + b) / 2 + m - s < b then symF lt f d2 ((a + b) / 2) ((a + b) / 2 + m - s) b else d2) := by
          split
          · rename_i hc; exact symF_perm lt f d2 _ _ b hc.1 hc.2 (by omega)
          · exact permIn_refl _ _ _
        exact permIn_trans _ _ _ _ _ r1 (permIn_trans _ _ _ _ _ (permIn_mono _ _ _ _ _ _ (Nat.le_refl _) hab.2 (by omega) hl) (permIn_mono _ _ _ _ _ _ hab.1 (Nat.le_refl _) (by omega) hr))
theorem mrgB_size (lt : α → α → Bool) (n z : Nat) : ∀ f a b (d : Array α), (mrgB lt n z f a b d).size = d.size
  | 0, _, _, _ => rfl
  | f + 1, a, b, d => by
    rw [mrgB]
    split
    · rw [mrgB_size lt n z f, symF_size]
    · split
      · exact symF_size lt _ _ _ _ _
      · rfl
end Go.Proofs.Ytbchaomnjbkdhaa
