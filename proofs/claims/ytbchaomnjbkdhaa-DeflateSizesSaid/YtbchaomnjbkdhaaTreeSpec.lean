/-
  The heap of all symbols, in plain Lean: two that come least are put together, till there is one; where all come equally often no leaf is deeper than need be. No program in sight.
-/
import Derived.Test.YtbchaomnjbkdhaaHeapSpec
import Derived.Test.YtbchaomnjbkdhaaStableSpec
namespace Go.Proofs.Ytbchaomnjbkdhaa
open Go.Sort
set_option linter.unusedVariables false

instance : Inhabited Hp := ⟨.leaf 0 0⟩
def ltH (a b : Hp) : Bool := decide (a.cnt < b.cnt)
theorem swoH : SWO ltH := by
  refine ⟨fun x => by simp [ltH], fun x y z h1 h2 => ?_, fun x y z h1 h2 => ?_⟩
  · simp only [ltH, decide_eq_true_eq] at *; omega
  · simp only [ltH, decide_eq_false_iff_not] at *; omega
def treeF : Nat → List Hp → Hp
  | 0, l => l.headD default
  | f + 1, l =>
    if 1 < l.length then treeF f ((stableA ltH l.toArray).toList.drop 2 ++ [.node (min ((stableA ltH l.toArray)[0]!.cnt + (stableA ltH l.toArray)[1]!.cnt) (2 ^ 40)) (stableA ltH l.toArray)[0]! (stableA ltH l.toArray)[1]!])
    else l.headD default
/-- What the sort makes: the same heaps, in order. -/
theorem sorted_list (l : List Hp) : (stableA ltH l.toArray).size = l.length ∧ (stableA ltH l.toArray).toList.Perm l ∧ (stableA ltH l.toArray).toList.Pairwise (fun a b => a.cnt ≤ b.cnt) := by
  obtain ⟨h1, h2⟩ := stable_spec swoH l.toArray
  have hz : (stableA ltH l.toArray).size = l.length := by rw [h2.1]; simp
  refine ⟨hz, ?_, ?_⟩
  · have h3 := h2.2.2
    rw [show (stableA ltH l.toArray).extract 0 l.toArray.size = stableA ltH l.toArray from by rw [← h2.1]; exact Array.extract_size .., show l.toArray.extract 0 l.toArray.size = l.toArray from Array.extract_size ..] at h3
    simpa using h3
  · rw [List.pairwise_iff_getElem]
    intro i j hi hj hij
    have hj2 : j < l.length := by simpa [hz] using hj
    have := h1 i j (Nat.zero_le _) hij (by simpa using hj2)
    simp only [ltH, decide_eq_false_iff_not] at this
    rw [getElem!_pos _ i (by simpa using hi), getElem!_pos _ j (by simpa using hj)] at this
    simp only [Array.getElem_toList]
    omega
theorem two_heads (l : List Hp) (h : 1 < l.length) : (stableA ltH l.toArray).toList = (stableA ltH l.toArray)[0]! :: (stableA ltH l.toArray)[1]! :: (stableA ltH l.toArray).toList.drop 2 := by
  have hz := (sorted_list l).1
  generalize stableA ltH l.toArray = d at *
  obtain ⟨d⟩ := d
  match d, hz with
  | a :: b :: r, _ => rfl
  | [], hz => simp at hz; omega
  | [a], hz => simp at hz; omega
theorem treeF_R : ∀ f (l : List Hp), 1 ≤ l.length → l.length ≤ f + 1 → TreeR l (treeF f l)
  | 0, l, h1, h2 => by
    match l, h1, h2 with
    | [a], _, _ => exact TreeR.one a
  | f + 1, l, h1, h2 => by
    rw [treeF]
    by_cases h : 1 < l.length
    · rw [if_pos h]
      obtain ⟨hz, hp, -⟩ := sorted_list l
      rw [two_heads l h] at hp
      refine TreeR.step _ hp.symm (treeF_R f _ (by simp) ?_)
      have := hp.length_eq
      simp only [List.length_cons, List.length_append] at *
      simp only [List.length_nil] at *
      omega
    · rw [if_neg h]
      match l, h1, h with
      | [a], _, _ => exact TreeR.one a
      | a :: b :: r, _, h => simp at h

/-! ### Where all come equally often -/
def Hp.dep : Hp → Nat
  | .leaf _ _ => 0
  | .node _ a b => max a.dep b.dep + 1
theorem Hp.deep_dep : ∀ (h : Hp) (d : Nat), ∀ x ∈ h.deep d, x.2 ≤ d + h.dep
  | .leaf _ s, d, x, hx => by
    have e : x = (s, d) := by simpa [Hp.deep] using hx
    subst e; exact Nat.le_refl _
  | .node _ a b, d, x, hx => by
    rw [Hp.dep]
    rcases List.mem_append.1 hx with hx | hx
    · have := Hp.deep_dep a (d + 1) x hx; omega
    · have := Hp.deep_dep b (d + 1) x hx; omega
/-- All counts are a power of two, or the next, or between, but this one at most; none is deeper than its count needs. -/
def Even (k : Nat) (l : List Hp) : Prop :=
  l.countP (fun h => decide (2 ^ k < h.cnt) && decide (h.cnt < 2 ^ (k + 1))) ≤ 1 ∧ ∀ h ∈ l, (h.cnt = 2 ^ k ∧ h.dep ≤ k) ∨ (2 ^ k < h.cnt ∧ h.cnt ≤ 2 ^ (k + 1) ∧ h.dep ≤ k + 1)
theorem even_full {k : Nat} {r : List Hp} (x : Hp) (hx : 2 ^ (k + 1) < x.cnt ∧ x.cnt ≤ 2 ^ (k + 2)) (hd : x.dep ≤ k + 2) (h : ∀ h ∈ r, h.cnt = 2 ^ (k + 1) ∧ h.dep ≤ k + 1) : Even (k + 1) (r ++ [x]) := by
  constructor
  · rw [List.countP_append]
    have h0 : r.countP (fun h => decide (2 ^ (k + 1) < h.cnt) && decide (h.cnt < 2 ^ (k + 1 + 1))) = 0 := by
      rw [List.countP_eq_zero]
      intro a ha
      have := (h a ha).1
      simp; omega
    rw [h0]
    have := List.countP_le_length (p := (fun h : Hp => decide (2 ^ (k + 1) < h.cnt) && decide (h.cnt < 2 ^ (k + 1 + 1)))) (l := [x])
    simp only [List.length_singleton] at this
    omega
  · intro y hy
    rcases List.mem_append.1 hy with hy | hy
    · exact .inl (h y hy)
    · obtain rfl : y = x := by simpa using hy
      exact .inr ⟨hx.1, hx.2, hd⟩
theorem even_step {k : Nat} {a b : Hp} {r : List Hp} (h : Even k (a :: b :: r)) (hab : a.cnt ≤ b.cnt) (hbr : ∀ x ∈ r, b.cnt ≤ x.cnt) : ∃ k', Even k' (r ++ [.node (a.cnt + b.cnt) a b]) := by
  obtain ⟨h1, h2⟩ := h
  have ha := h2 a (by simp)
  have hb := h2 b (by simp)
  have hp1 : 2 ^ (k + 1) = 2 * 2 ^ k := by rw [Nat.pow_succ]; omega
  have hp2 : 2 ^ (k + 2) = 2 * 2 ^ (k + 1) := by rw [Nat.pow_succ 2 (k + 1)]; omega
  have hpos : 1 ≤ 2 ^ k := Nat.two_pow_pos k
  have hcnt : ∀ (x y : Hp), Hp.cnt (.node (x.cnt + y.cnt) x y) = x.cnt + y.cnt := fun _ _ => rfl
  have hdep : ∀ (c : Nat) (x y : Hp), Hp.dep (.node c x y) = max x.dep y.dep + 1 := fun _ _ _ => rfl
  -- no more than one between
  have hone : (2 ^ k < a.cnt ∧ a.cnt < 2 ^ (k + 1)) ∨ (2 ^ k < b.cnt ∧ b.cnt < 2 ^ (k + 1)) → (∀ x ∈ r, ¬ (2 ^ k < x.cnt ∧ x.cnt < 2 ^ (k + 1))) ∧ ((2 ^ k < a.cnt ∧ a.cnt < 2 ^ (k + 1)) → ¬ (2 ^ k < b.cnt ∧ b.cnt < 2 ^ (k + 1))) := by
    intro hodd
    rw [List.countP_cons, List.countP_cons] at h1
    constructor
    · intro x hx hxo
      have : 1 ≤ r.countP (fun h => decide (2 ^ k < h.cnt) && decide (h.cnt < 2 ^ (k + 1))) := List.one_le_countP_iff.2 ⟨x, hx, by simp [hxo.1, hxo.2]⟩
      rcases hodd with ho | ho
      · simp only [ho.1, ho.2, decide_true, Bool.and_self, if_true] at h1; omega
      · simp only [ho.1, ho.2, decide_true, Bool.and_self, if_true] at h1; omega
    · intro ho1 ho2
      simp only [ho1.1, ho1.2, ho2.1, ho2.2, decide_true, Bool.and_self, if_true] at h1
      omega
  by_cases hbk : b.cnt = 2 ^ k
  · -- both are the lower power
    have hak : a.cnt = 2 ^ k ∧ a.dep ≤ k := by
      rcases ha with ha | ha
      · exact ha
      · omega
    have hbd : b.dep ≤ k := by
      rcases hb with hb | hb
      · exact hb.2
      · omega
    refine ⟨k, ?_, ?_⟩
    · rw [List.countP_append]
      rw [List.countP_cons, List.countP_cons] at h1
      have : List.countP (fun h => decide (2 ^ k < h.cnt) && decide (h.cnt < 2 ^ (k + 1))) [Hp.node (a.cnt + b.cnt) a b] = 0 := by
        rw [List.countP_eq_zero]
        intro x hx
        obtain rfl : x = Hp.node (a.cnt + b.cnt) a b := by simpa using hx
        rw [hcnt]
        simp; omega
      omega
    · intro x hx
      rcases List.mem_append.1 hx with hx | hx
      · exact h2 x (by simp [hx])
      · obtain rfl : x = Hp.node (a.cnt + b.cnt) a b := by simpa using hx
        right
        rw [hcnt, hdep]
        omega
  · -- all behind the first are above it
    have hb' : 2 ^ k < b.cnt ∧ b.cnt ≤ 2 ^ (k + 1) ∧ b.dep ≤ k + 1 := by
      rcases hb with hb | hb
      · exact absurd hb.1 hbk
      · exact hb
    have hr : ∀ x ∈ r, 2 ^ k < x.cnt ∧ x.cnt ≤ 2 ^ (k + 1) ∧ x.dep ≤ k + 1 := by
      intro x hx
      have h3 := hbr x hx
      rcases h2 x (by simp [hx]) with h4 | h4
      · omega
      · exact h4
    have hrf : ∀ x ∈ r, x.cnt = 2 ^ (k + 1) ∧ x.dep ≤ k + 1 := by
      intro x hx
      have h3 := hbr x hx
      have h4 := hr x hx
      refine ⟨?_, h4.2.2⟩
      by_cases hbo : b.cnt < 2 ^ (k + 1)
      · have := (hone (.inr ⟨hb'.1, hbo⟩)).1 x hx
        omega
      · omega
    refine ⟨k + 1, even_full _ ?_ ?_ hrf⟩
    · rw [hcnt]
      rcases ha with ha | ha
      · omega
      · by_cases hao : a.cnt < 2 ^ (k + 1)
        · have := (hone (.inl ⟨ha.1, hao⟩)).2 ⟨ha.1, hao⟩
          omega
        · omega
    · rw [hdep]
      rcases ha with ha | ha
      · omega
      · omega
theorem sum_perm {l l' : List Hp} (h : l.Perm l') : (l.map Hp.cnt).sum = (l'.map Hp.cnt).sum := (h.map Hp.cnt).sum_nat
theorem even_perm {k : Nat} {l l' : List Hp} (h : l.Perm l') (he : Even k l) : Even k l' := ⟨by rw [← h.countP_eq]; exact he.1, fun x hx => he.2 x (h.mem_iff.2 hx)⟩
/-- No leaf is deeper than need be. -/
theorem treeF_even : ∀ f (l : List Hp) (k : Nat), 1 ≤ l.length → l.length ≤ f + 1 → Even k l → (l.map Hp.cnt).sum ≤ 2 ^ 40 → ∃ k', Even k' [treeF f l] ∧ (treeF f l).cnt = (l.map Hp.cnt).sum
  | 0, l, k, h1, h2, he, hs => by
    match l, h1, h2, he with
    | [a], _, _, he => exact ⟨k, he, by simp [treeF]⟩
  | f + 1, l, k, h1, h2, he, hs => by
    rw [treeF]
    by_cases h : 1 < l.length
    · rw [if_pos h]
      obtain ⟨hz, hp, hw⟩ := sorted_list l
      rw [two_heads l h] at hp hw
      have hsum := sum_perm hp
      have he' := even_perm hp.symm he
      have hlen := hp.length_eq
      generalize (stableA ltH l.toArray)[0]! = a at *
      generalize (stableA ltH l.toArray)[1]! = b at *
      generalize (stableA ltH l.toArray).toList.drop 2 = r at *
      simp only [List.map_cons, List.sum_cons] at hsum
      rw [Nat.min_eq_left (by omega)]
      rw [List.pairwise_cons, List.pairwise_cons] at hw
      obtain ⟨k2, hk2⟩ := even_step he' (hw.1 b (by simp)) hw.2.1
      have hsm : ((r ++ [Hp.node (a.cnt + b.cnt) a b]).map Hp.cnt).sum = (l.map Hp.cnt).sum := by
        rw [List.map_append, List.sum_append, ← hsum]
        simp [Hp.cnt]
        omega
      simp only [List.length_cons] at hlen
      obtain ⟨k3, q1, q2⟩ := treeF_even f (r ++ [Hp.node (a.cnt + b.cnt) a b]) k2 (by simp) (by simp; omega) hk2 (by omega)
      exact ⟨k3, q1, by rw [q2, hsm]⟩
    · rw [if_neg h]
      match l, h1, h, he with
      | [a], _, _, he => exact ⟨k, he, by simp⟩
      | a :: b :: r, _, h, _ => simp at h
theorem even_dep {k : Nat} {h : Hp} (he : Even k [h]) (L : Nat) (hc : h.cnt ≤ 2 ^ L) : h.dep ≤ L := by
  rcases he.2 h (by simp) with ⟨h1, h2⟩ | ⟨h1, h2, h3⟩
  · rw [h1] at hc
    have : k ≤ L := (Nat.pow_le_pow_iff_right (by omega)).1 hc
    omega
  · have : 2 ^ k < 2 ^ L := by omega
    have : k < L := (Nat.pow_lt_pow_iff_right (by omega)).1 this
    omega
end Go.Proofs.Ytbchaomnjbkdhaa
