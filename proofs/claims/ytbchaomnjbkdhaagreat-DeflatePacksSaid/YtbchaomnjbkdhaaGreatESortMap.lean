/-
  The library's stable sort looks at its elements by the comparison alone: sorting pairs by what stands in them is sorting that. No program in sight.
-/
import Derived.Test.YtbchaomnjbkdhaaGreatEA
namespace Go.Proofs.YtbchaomnjbkdhaaGreat
open Go.Sort
set_option linter.unusedVariables false
section
variable {α β : Type} [Inhabited α] [Inhabited β] (f : α → β) (lt : β → β → Bool)
theorem get_map (hf : f default = default) (d : Array α) (i : Nat) : (d.map f)[i]! = f d[i]! := by
  by_cases h : i < d.size
  · rw [getElem!_pos _ i (by simpa using h), getElem!_pos _ i h, Array.getElem_map]
  · rw [getElem!_neg _ i (by simpa using h), getElem!_neg _ i h, hf]
theorem swp_map (hf : f default = default) (d : Array α) (i j : Nat) : (swp d i j).map f = swp (d.map f) i j := by
  unfold swp
  rw [get_map f hf, get_map f hf]
  simp
theorem swapR_map (hf : f default = default) (a b : Nat) : ∀ k (d : Array α), (swapR a b k d).map f = swapR a b k (d.map f)
  | 0, d => rfl
  | k + 1, d => by rw [swapR, swapR, swp_map f hf, swapR_map hf a b k]
theorem rotL_map (hf : f default = default) (m : Nat) : ∀ g i j (d : Array α), (rotL m g i j d).map f = rotL m g i j (d.map f)
  | 0, i, j, d => rfl
  | g + 1, i, j, d => by
    rw [rotL, rotL]
    split
    · exact swapR_map f hf _ _ _ _
    · split
      · rw [rotL_map hf m g, swapR_map f hf]
      · rw [rotL_map hf m g, swapR_map f hf]
theorem rotate_map (hf : f default = default) (d : Array α) (a m b : Nat) : (rotate d a m b).map f = rotate (d.map f) a m b := rotL_map f hf _ _ _ _ _
theorem upL_map (hf : f default = default) : ∀ k a (d : Array α), (upL k a d).map f = upL k a (d.map f)
  | 0, a, d => rfl
  | k + 1, a, d => by rw [upL, upL, upL_map hf k, swp_map f hf]
theorem downL_map (hf : f default = default) : ∀ k a (d : Array α), (downL k a d).map f = downL k a (d.map f)
  | 0, a, d => rfl
  | k + 1, a, d => by rw [downL, downL, downL_map hf k, swp_map f hf]
theorem insInner_map (hf : f default = default) (a : Nat) : ∀ j (d : Array α), (insInner (fun x y => lt (f x) (f y)) a j d).map f = insInner lt a j (d.map f) := by
  intro j
  induction j with
  | zero => intro d; unfold insInner; simp
  | succ j ih =>
    intro d
    unfold insInner
    simp only [get_map f hf]
    split
    · rw [← swp_map f hf]
      exact ih _
    · rfl
theorem insOuter_map (hf : f default = default) (a b : Nat) : ∀ n i (d : Array α), b - i ≤ n → (insOuter (fun x y => lt (f x) (f y)) a b i d).map f = insOuter lt a b i (d.map f) := by
  intro n
  induction n with
  | zero =>
    intro i d h
    unfold insOuter
    rw [if_neg (by omega), if_neg (by omega)]
  | succ n ih =>
    intro i d h
    unfold insOuter
    split
    · rw [ih _ _ (by omega), insInner_map f lt hf]
    · rfl
theorem insertionSort_map (hf : f default = default) (d : Array α) (a b : Nat) : (insertionSort (fun x y => lt (f x) (f y)) d a b).map f = insertionSort lt (d.map f) a b := insOuter_map f lt hf a b _ _ d (Nat.le_refl _)
theorem symAt_map (hf : f default = default) (d : Array α) (a m b : Nat) : symAt (fun x y => lt (f x) (f y)) d a m b = symAt lt (d.map f) a m b := by
  unfold symAt
  simp only [get_map f hf]
theorem symRot_map (hf : f default = default) (d : Array α) (a m b : Nat) : (symRot (fun x y => lt (f x) (f y)) d a m b).map f = symRot lt (d.map f) a m b := by
  unfold symRot
  rw [symAt_map f lt hf]
  split
  · exact rotate_map f hf _ _ _ _
  · rfl
theorem symF_map (hf : f default = default) : ∀ g (d : Array α) (a m b : Nat), (symF (fun x y => lt (f x) (f y)) g d a m b).map f = symF lt g (d.map f) a m b
  | 0, d, a, m, b => rfl
  | g + 1, d, a, m, b => by
    rw [symF, symF]
    simp only [get_map f hf, symAt_map f lt hf]
    split
    · exact upL_map f hf _ _ _
    · split
      · exact downL_map f hf _ _ _
      · rw [← symRot_map f lt hf]
        split
        · split
          · rw [symF_map hf g, symF_map hf g]
          · rw [symF_map hf g]
        · split
          · rw [symF_map hf g]
          · rfl
theorem insB_map (hf : f default = default) (n : Nat) : ∀ g a b (d : Array α), (insB (fun x y => lt (f x) (f y)) n g a b d).map f = insB lt n g a b (d.map f)
  | 0, a, b, d => rfl
  | g + 1, a, b, d => by
    rw [insB, insB]
    split
    · rw [insB_map hf n g, insertionSort_map f lt hf]
    · exact insertionSort_map f lt hf _ _ _
theorem mrgB_map (hf : f default = default) (n z : Nat) : ∀ g a b (d : Array α), (mrgB (fun x y => lt (f x) (f y)) n z g a b d).map f = mrgB lt n z g a b (d.map f)
  | 0, a, b, d => rfl
  | g + 1, a, b, d => by
    rw [mrgB, mrgB]
    split
    · rw [mrgB_map hf n z g, symF_map f lt hf]
    · split
      · exact symF_map f lt hf _ _ _ _ _
      · rfl
theorem stbB_map (hf : f default = default) (n : Nat) : ∀ g z (d : Array α), (stbB (fun x y => lt (f x) (f y)) n g z d).map f = stbB lt n g z (d.map f)
  | 0, z, d => rfl
  | g + 1, z, d => by
    rw [stbB, stbB]
    split
    · rw [stbB_map hf n g, mrgB_map f lt hf]
    · rfl
theorem stableA_map (hf : f default = default) (d : Array α) : (stableA (fun x y => lt (f x) (f y)) d).map f = stableA lt (d.map f) := by
  unfold stableA
  rw [stbB_map f lt hf, insB_map f lt hf]
  simp
end
end Go.Proofs.YtbchaomnjbkdhaaGreat
