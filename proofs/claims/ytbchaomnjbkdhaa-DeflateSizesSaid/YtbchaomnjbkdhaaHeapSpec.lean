/-
  Lengths of codes by heaps, in plain Lean: what the leaves' depths are, that they fit. No program in sight.
-/
import Derived.Test.YtbchaomnjbkdhaaHuffSpec
namespace Go.Proofs.Ytbchaomnjbkdhaa
set_option linter.unusedVariables false

inductive Hp where
  | leaf (count sym : Nat)
  | node (count : Nat) (a b : Hp)
def Hp.cnt : Hp → Nat
  | .leaf c _ => c
  | .node c _ _ => c
/-- The leaves' symbols, each with its depth. -/
def Hp.deep : Hp → Nat → List (Nat × Nat)
  | .leaf _ s, d => [(s, d)]
  | .node _ a b, d => a.deep (d + 1) ++ b.deep (d + 1)
def Hp.syms : Hp → List Nat
  | .leaf _ s => [s]
  | .node _ a b => a.syms ++ b.syms
theorem Hp.deep_syms : ∀ (h : Hp) (d : Nat), (h.deep d).map (·.1) = h.syms
  | .leaf _ s, d => rfl
  | .node _ a b, d => by rw [Hp.deep, List.map_append, Hp.deep_syms a, Hp.deep_syms b, Hp.syms]
theorem Hp.syms_pos : ∀ h : Hp, 1 ≤ h.syms.length
  | .leaf _ s => Nat.le_refl _
  | .node _ a b => by rw [Hp.syms, List.length_append]; have := a.syms_pos; omega
theorem Hp.deep_le : ∀ (h : Hp) (d : Nat), ∀ x ∈ h.deep d, d ≤ x.2 ∧ x.2 ≤ d + h.syms.length - 1
  | .leaf _ s, d, x, hx => by
    have e : x = (s, d) := by simpa [Hp.deep] using hx
    subst e
    exact ⟨Nat.le_refl _, by simp [Hp.syms]⟩
  | .node _ a b, d, x, hx => by
    have ha := a.syms_pos
    have hb := b.syms_pos
    rw [Hp.syms, List.length_append]
    rcases List.mem_append.1 hx with hx | hx
    · have := Hp.deep_le a (d + 1) x hx; omega
    · have := Hp.deep_le b (d + 1) x hx; omega
/-- Whatever a heap is like: its leaves fill all places of a depth. -/
theorem Hp.kraft : ∀ (h : Hp) (d D : Nat), (∀ x ∈ h.deep d, x.2 ≤ D) → ((h.deep d).map fun x => 2 ^ (D - x.2)).sum = 2 ^ (D - d)
  | .leaf _ s, d, D, _ => by simp [Hp.deep]
  | .node _ a b, d, D, h => by
    have h1 : ∀ x ∈ a.deep (d + 1), x.2 ≤ D := fun x hx => h x (List.mem_append_left _ hx)
    have h2 : ∀ x ∈ b.deep (d + 1), x.2 ≤ D := fun x hx => h x (List.mem_append_right _ hx)
    rw [Hp.deep, List.map_append, List.sum_append, Hp.kraft a (d + 1) D h1, Hp.kraft b (d + 1) D h2]
    have hd : d + 1 ≤ D := by
      have hs := a.syms_pos
      rw [← Hp.deep_syms a (d + 1), List.length_map] at hs
      obtain ⟨x, hx⟩ : ∃ x, x ∈ a.deep (d + 1) := by
        cases hl : a.deep (d + 1) with
        | nil => rw [hl] at hs; simp at hs
        | cons x r => exact ⟨x, .head _⟩
      have h3 := (Hp.deep_le a (d + 1) x hx).1
      have h4 := h1 x hx
      omega
    have e : D - d = (D - (d + 1)) + 1 := by omega
    rw [e, Nat.pow_succ]; omega
/-- What is made of a row of heaps: two at the head of some order are put together, till there is one. -/
inductive TreeR : List Hp → Hp → Prop
  | one (h : Hp) : TreeR [h] h
  | step {l r : List Hp} {a b h : Hp} (c : Nat) (hp : l.Perm (a :: b :: r)) (ht : TreeR (r ++ [.node c a b]) h) : TreeR l h
theorem TreeR.syms {l : List Hp} {h : Hp} (ht : TreeR l h) : h.syms.Perm (l.flatMap Hp.syms) := by
  induction ht with
  | one h => simp
  | step c hp ht ih =>
    rename_i l r a b h
    refine ih.trans ?_
    refine List.Perm.trans ?_ (hp.flatMap_right Hp.syms).symm
    rw [List.flatMap_append, List.flatMap_cons, List.flatMap_nil, List.append_nil, Hp.syms, List.flatMap_cons, List.flatMap_cons, ← List.append_assoc a.syms]
    exact List.perm_append_comm
/-- The leaves of what comes. -/
def leavesF : List Nat → Nat → List Hp
  | [], _ => []
  | n :: r, s => if 0 < n then .leaf n s :: leavesF r (s + 1) else leavesF r (s + 1)
def comeF : List Nat → Nat → List Nat
  | [], _ => []
  | n :: r, s => if 0 < n then s :: comeF r (s + 1) else comeF r (s + 1)
theorem leaves_syms : ∀ (l : List Nat) (s : Nat), (leavesF l s).flatMap Hp.syms = comeF l s
  | [], _ => rfl
  | n :: r, s => by
    rw [leavesF, comeF]
    split
    · rw [List.flatMap_cons, leaves_syms r (s + 1)]; rfl
    · exact leaves_syms r (s + 1)
theorem come_mem : ∀ (l : List Nat) (s k : Nat), k ∈ comeF l s ↔ s ≤ k ∧ 0 < l.getD (k - s) 0
  | [], s, k => by simp [comeF]
  | n :: r, s, k => by
    rw [comeF]
    have ih := come_mem r (s + 1) k
    by_cases hk : k = s
    · subst hk
      rw [Nat.sub_self]
      split
      · rename_i h; simp [h]
      · rename_i h
        rw [ih]
        simp only [List.getD_cons_zero]
        constructor
        · intro h2; omega
        · intro h2; omega
    · have e : s ≤ k → k - s = (k - (s + 1)) + 1 := by omega
      split
      · rw [List.mem_cons, ih]
        constructor
        · rintro (h | ⟨h1, h2⟩)
          · exact absurd h hk
          · refine ⟨by omega, ?_⟩
            rw [e (by omega), List.getD_cons_succ]; exact h2
        · rintro ⟨h1, h2⟩
          refine .inr ⟨by omega, ?_⟩
          rw [e h1, List.getD_cons_succ] at h2; exact h2
      · rw [ih]
        constructor
        · rintro ⟨h1, h2⟩
          refine ⟨by omega, ?_⟩
          rw [e (by omega), List.getD_cons_succ]; exact h2
        · rintro ⟨h1, h2⟩
          refine ⟨by omega, ?_⟩
          rw [e h1, List.getD_cons_succ] at h2; exact h2
theorem come_nodup : ∀ (l : List Nat) (s : Nat), (comeF l s).Nodup
  | [], _ => List.nodup_nil
  | n :: r, s => by
    rw [comeF]
    split
    · refine List.nodup_cons.2 ⟨fun h => ?_, come_nodup r (s + 1)⟩
      have := ((come_mem r (s + 1) s).1 h).1
      omega
    · exact come_nodup r (s + 1)

/-! ### Kraft's sum by how many there are of each length -/
def kraftN (ls : List Nat) (D : Nat) : Nat := (ls.map fun n => if n = 0 then 0 else 2 ^ (D - n)).sum
theorem kraft_count (ls : List Nat) (D m : Nat) : ∀ k, ((ls.filter fun n => decide (1 ≤ n ∧ n ≤ k)).map fun n => 2 ^ (D - n)).sum = ((List.range k).map fun i => ls.count (i + 1) * 2 ^ (D - (i + 1))).sum
  | 0 => by
    have : (ls.filter fun n => decide (1 ≤ n ∧ n ≤ 0)) = [] := by
      rw [List.filter_eq_nil_iff]
      intro a _ h
      simp at h
      omega
    rw [this]; rfl
  | k + 1 => by
    rw [List.range_succ, List.map_append, List.sum_append, ← kraft_count ls D m k, List.map_singleton, List.sum_singleton]
    induction ls with
    | nil => simp
    | cons a r ih =>
      rw [List.filter_cons, List.filter_cons, List.count_cons]
      by_cases h1 : a = k + 1
      · subst h1
        rw [if_pos (by simp), if_neg (by simp), if_pos (by simp), List.map_cons, List.sum_cons, ih, Nat.add_mul]
        omega
      · have e0 : (if (a == k + 1) = true then 1 else 0) = 0 := if_neg (by simpa using h1)
        simp only [e0, Nat.add_zero]
        by_cases h2 : 1 ≤ a ∧ a ≤ k
        · rw [if_pos (by simp; omega), if_pos (by simpa using h2), List.map_cons, List.sum_cons, List.map_cons, List.sum_cons, ih]
          omega
        · rw [if_neg (by simp; omega), if_neg (by simpa using h2), ih]
theorem endC_sum (ls : List Nat) (D : Nat) : ∀ n, 1 ≤ n → n ≤ D → endC ls n * 2 ^ (D - n) = ((List.range n).map fun i => ls.count (i + 1) * 2 ^ (D - (i + 1))).sum
  | 0, h, _ => by omega
  | 1, _, h => by
    rw [endC, firstC, firstC]
    simp
  | n + 2, _, h => by
    rw [List.range_succ, List.map_append, List.sum_append, ← endC_sum ls D (n + 1) (by omega) (by omega), endC, firstC_succ ls (n + 1) (by omega), Nat.add_mul, List.map_singleton, List.sum_singleton]
    have e : D - (n + 1) = (D - (n + 2)) + 1 := by omega
    rw [e, Nat.pow_succ]
    congr 1
    rw [Nat.mul_comm 2 (endC ls (n + 1)), Nat.mul_assoc, Nat.mul_comm 2]
theorem filter_sum_le (ls : List Nat) (D k : Nat) : ((ls.filter fun n => decide (1 ≤ n ∧ n ≤ k)).map fun n => 2 ^ (D - n)).sum ≤ kraftN ls D := by
  induction ls with
  | nil => exact Nat.le_refl _
  | cons a r ih =>
    rw [kraftN, List.map_cons, List.sum_cons, List.filter_cons]
    have ih2 : _ ≤ (r.map fun n => if n = 0 then 0 else 2 ^ (D - n)).sum := ih
    split
    · rename_i h
      have h2 : 1 ≤ a ∧ a ≤ k := by simpa using h
      rw [List.map_cons, List.sum_cons, if_neg (by omega)]
      omega
    · omega
/-- Lengths whose sum fits are codes. -/
theorem codeOk_of (ls : List Nat) (h1 : ∀ n ∈ ls, n ≤ 15) (h2 : kraftN ls 15 ≤ 2 ^ 15) : codeOk ls := by
  refine ⟨h1, fun n hn hm => ?_⟩
  have h3 := filter_sum_le ls 15 n
  rw [kraft_count ls 15 0 n, ← endC_sum ls 15 n hn hm] at h3
  have h4 : endC ls n * 2 ^ (15 - n) ≤ 2 ^ n * 2 ^ (15 - n) := by
    rw [← Nat.pow_add, show n + (15 - n) = 15 by omega]; omega
  exact Nat.le_of_mul_le_mul_right h4 (Nat.two_pow_pos _)
end Go.Proofs.Ytbchaomnjbkdhaa
