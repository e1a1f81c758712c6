/-
  Quoting, in plain Lean: what two replacements of single bytes write; a quoted text is one token. No program in sight.
-/
import Derived.Test.YtiffnfgmkkoaeaaGreatDoorBnGr10
import Derived.Lib.Replace
import Derived.Lib.IndexBytes
import Derived.Test.YtiffnfgmkkoaeaaGreatDoorShelf
namespace Go.Proofs.YtiffnfgmkkoaeaaGreatDoor
set_option linter.unusedVariables false
def repF (c : UInt8) (new : List UInt8) (x : UInt8) : List UInt8 := if x = c then new else [x]
theorem flatMap_none (c : UInt8) (new : List UInt8) : ∀ s : List UInt8, s.count c = 0 → s.flatMap (repF c new) = s
  | [], _ => rfl
  | b :: l, h => by
    by_cases hb : b = c
    · subst hb; simp at h
    · rw [List.count_cons_of_ne hb] at h
      rw [List.flatMap_cons, flatMap_none c new l h, repF, if_neg hb]; rfl
theorem replaceK_one (c : UInt8) (new : List UInt8) : ∀ (s : List UInt8) (k : Nat), s.count c ≤ k → Lib.replaceK [c] new k s = s.flatMap (repF c new)
  | s, 0, h => by rw [flatMap_none c new s (by omega)]; rfl
  | [], k + 1, _ => by rw [Lib.replaceK, Lib.index_one]; rfl
  | b :: l, k + 1, h => by
    by_cases hb : b = c
    · subst hb
      have hi : Lib.index (b :: l) [b] = ((0 : Nat) : Int) := by rw [Lib.index_one, Lib.indexByte]; simp
      rw [Lib.replaceK_hit _ _ _ _ 0 hi, List.flatMap_cons, repF, if_pos rfl]
      have hk : l.count b ≤ k := by rw [List.count_cons_self] at h; omega
      have := replaceK_one b new l k hk
      simpa using this
    · rw [List.count_cons_of_ne hb] at h
      have ih := replaceK_one c new l (k + 1) h
      rw [List.flatMap_cons, repF, if_neg hb, ← ih]
      have hb' : (b == c) = false := by simpa using hb
      rcases Lib.index_spec l [c] with ⟨hm, _⟩ | ⟨i, hi, _⟩
      · have h1 : Lib.index (b :: l) [c] = -1 := by
          rw [Lib.index_one, Lib.indexByte, hb', ← Lib.index_one, hm]; rfl
        rw [Lib.replaceK, Lib.replaceK, h1, hm]; rfl
      · have h1 : Lib.index (b :: l) [c] = ((i + 1 : Nat) : Int) := by
          rw [Lib.index_one, Lib.indexByte, hb', ← Lib.index_one, hi]
          have : ((i : Int) == -1) = false := by rw [beq_eq_false_iff_ne]; omega
          simp [this]
        rw [Lib.replaceK_hit _ _ _ _ _ h1, Lib.replaceK_hit _ _ _ _ _ hi]
        simp
theorem replaceAll_one (c : UInt8) (new s : List UInt8) (h : ([c] == new) = false) : Lib.replaceAll s [c] new = s.flatMap (repF c new) := by
  rw [Lib.replaceAll, Lib.replace, if_neg (by rw [h]; exact Bool.false_ne_true)]
  refine replaceK_one c new s _ ?_
  rw [Lib.replaceNum, if_pos (Or.inl (by decide)), Lib.count_one]
  exact Nat.le_refl _
end Go.Proofs.YtiffnfgmkkoaeaaGreatDoor
namespace Go.Proofs.YtiffnfgmkkoaeaaGreatDoor
open Go.RowKit
set_option linter.unusedVariables false
theorem rep_len (c : UInt8) (new : List UInt8) (h : new.length ≤ 2) (s : List UInt8) : (s.flatMap (repF c new)).length ≤ 2 * s.length := by
  induction s with
  | nil => simp
  | cons b r ih =>
    have : (repF c new b).length ≤ 2 := by unfold repF; split <;> simp [h]
    rw [List.flatMap_cons, List.length_append, List.length_cons]; omega
end Go.Proofs.YtiffnfgmkkoaeaaGreatDoor
