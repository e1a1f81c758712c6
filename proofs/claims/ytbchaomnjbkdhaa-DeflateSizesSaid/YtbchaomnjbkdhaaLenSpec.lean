/-
  Lengths of codes, in plain Lean: leaves' depths, again with fewer counts while they are too deep, then the shorter ones to what comes more often. They are codes, whole, or of one symbol. No program in sight.
-/
import Derived.Test.YtbchaomnjbkdhaaTreeSpec
namespace Go.Proofs.Ytbchaomnjbkdhaa
open Go.Sort
set_option linter.unusedVariables false

/-! ### Setting places -/
def setAll (z : List (Nat × Nat)) (out : List Nat) : List Nat := z.foldl (fun o x => o.set x.1 x.2) out
theorem setAll_cons (x : Nat × Nat) (z : List (Nat × Nat)) (out : List Nat) : setAll (x :: z) out = setAll z (out.set x.1 x.2) := rfl
theorem setAll_len : ∀ (z : List (Nat × Nat)) (out : List Nat), (setAll z out).length = out.length
  | [], out => rfl
  | x :: z, out => by rw [setAll_cons, setAll_len z, List.length_set]
theorem setAll_other : ∀ (z : List (Nat × Nat)) (out : List Nat) (s : Nat), s ∉ z.map (·.1) → (setAll z out)[s]? = out[s]?
  | [], out, s, _ => rfl
  | x :: z, out, s, h => by
    rw [List.map_cons, List.mem_cons, not_or] at h
    rw [setAll_cons, setAll_other z _ s h.2, List.getElem?_set_ne (fun e => h.1 e.symm)]
theorem setAll_at : ∀ (z : List (Nat × Nat)) (out : List Nat) (s v : Nat), (z.map (·.1)).Nodup → (s, v) ∈ z → s < out.length → (setAll z out)[s]? = some v
  | [], out, s, v, _, h, _ => by cases h
  | x :: z, out, s, v, hn, h, hl => by
    rw [List.map_cons, List.nodup_cons] at hn
    rw [setAll_cons]
    rcases List.mem_cons.1 h with h | h
    · subst h
      rw [setAll_other z _ s hn.1, List.getElem?_set_self hl]
    · exact setAll_at z _ s v hn.2 h (by rw [List.length_set]; exact hl)
def sumG (g : Nat → Nat) (l : List Nat) : Nat := (l.map g).sum
theorem sum_set (g : Nat → Nat) : ∀ (l : List Nat) (i v : Nat), i < l.length → sumG g (l.set i v) + g (l.getD i 0) = sumG g l + g v
  | a :: l, 0, v, _ => by simp [sumG]; omega
  | a :: l, i + 1, v, h => by
    have := sum_set g l i v (by simpa using h)
    simp only [List.set_cons_succ, sumG, List.map_cons, List.sum_cons, List.getD_cons_succ] at this ⊢
    omega
theorem sum_setAll (g : Nat → Nat) (hg : g 0 = 0) : ∀ (z : List (Nat × Nat)) (out : List Nat), (z.map (·.1)).Nodup → (∀ x ∈ z, x.1 < out.length ∧ out.getD x.1 0 = 0) → sumG g (setAll z out) = (z.map fun x => g x.2).sum + sumG g out
  | [], out, _, _ => by simp [setAll]
  | x :: z, out, hn, h => by
    rw [List.map_cons, List.nodup_cons] at hn
    have hx := h x (by simp)
    rw [setAll_cons, sum_setAll g hg z (out.set x.1 x.2) hn.2 ?_, List.map_cons, List.sum_cons]
    · have := sum_set g out x.1 x.2 hx.1
      rw [hx.2, hg] at this
      omega
    · intro y hy
      have hy2 := h y (by simp [hy])
      refine ⟨by rw [List.length_set]; exact hy2.1, ?_⟩
      have hne : y.1 ≠ x.1 := fun e => hn.1 (by rw [← e]; exact List.mem_map_of_mem hy)
      rw [List.getD_eq_getElem?_getD, List.getElem?_set_ne (fun e => hne e.symm), ← List.getD_eq_getElem?_getD]
      exact hy2.2
theorem sum_zeros (g : Nat → Nat) (hg : g 0 = 0) (n : Nat) : sumG g (List.replicate n 0) = 0 := by
  induction n with
  | zero => rfl
  | succ n ih => rw [List.replicate_succ, sumG, List.map_cons, List.sum_cons, hg]; unfold sumG at ih; omega
/-- What is set over all that is no zero. -/
theorem setAll_zeros (z : List (Nat × Nat)) (out : List Nat) (hn : (z.map (·.1)).Nodup) (hl : ∀ x ∈ z, x.1 < out.length) (hc : ∀ s, out.getD s 0 ≠ 0 → s ∈ z.map (·.1)) :
    setAll z out = setAll z (List.replicate out.length 0) := by
  refine List.ext_getElem? fun s => ?_
  by_cases hs : s ∈ z.map (·.1)
  · obtain ⟨⟨s', v⟩, hx, rfl⟩ := List.mem_map.1 hs
    rw [setAll_at z out s' v hn hx (hl _ hx), setAll_at z _ s' v hn hx (by rw [List.length_replicate]; exact hl _ hx)]
  · rw [setAll_other z _ s hs, setAll_other z _ s hs]
    have h0 : out.getD s 0 = 0 := by
      by_cases h : out.getD s 0 = 0
      · exact h
      · exact absurd (hc s h) hs
    by_cases hsl : s < out.length
    · rw [List.getElem?_eq_getElem hsl, List.getElem?_replicate, if_pos hsl]
      rw [List.getD_eq_getElem?_getD, List.getElem?_eq_getElem hsl] at h0
      exact congrArg some h0
    · rw [List.getElem?_eq_none (by omega), List.getElem?_eq_none (by rw [List.length_replicate]; omega)]
theorem sum_filter (g : Nat → Nat) (hg : g 0 = 0) (l : List Nat) : sumG g (l.filter (fun n => decide (0 < n))) = sumG g l := by
  induction l with
  | nil => rfl
  | cons a l ih =>
    unfold sumG at ih ⊢
    rw [List.filter_cons]
    split
    · rw [List.map_cons, List.sum_cons, ih, List.map_cons, List.sum_cons]
    · rename_i h
      have : a = 0 := by simpa using h
      rw [ih, List.map_cons, List.sum_cons, this, hg, Nat.zero_add]

/-! ### What comes -/
theorem come_filter : ∀ (l : List Nat) (s : Nat), (comeF l s).map (fun k => l.getD (k - s) 0) = l.filter (fun n => decide (0 < n))
  | [], _ => rfl
  | a :: l, s => by
    have ih := come_filter l (s + 1)
    have hm : (comeF l (s + 1)).map (fun k => (a :: l).getD (k - s) 0) = (comeF l (s + 1)).map (fun k => l.getD (k - (s + 1)) 0) := by
      refine List.map_congr_left fun k hk => ?_
      have h1 := ((come_mem l (s + 1) k).1 hk).1
      rw [show k - s = (k - (s + 1)) + 1 by omega, List.getD_cons_succ]
    rw [comeF, List.filter_cons]
    by_cases ha : 0 < a
    · rw [if_pos ha, if_pos (by simpa using ha), List.map_cons, Nat.sub_self, hm, ih]; rfl
    · rw [if_neg ha, if_neg (by simpa using ha), hm, ih]
theorem come_len (l : List Nat) (s : Nat) : (comeF l s).length = (l.filter (fun n => decide (0 < n))).length := by
  rw [← come_filter l s, List.length_map]
theorem come_lt (l : List Nat) : ∀ k ∈ comeF l 0, k < l.length ∧ 0 < l.getD k 0 := by
  intro k hk
  have h := ((come_mem l 0 k).1 hk).2
  rw [Nat.sub_zero] at h
  refine ⟨?_, h⟩
  rcases Nat.lt_or_ge k l.length with h2 | h2
  · exact h2
  · rw [List.getD_eq_getElem?_getD, List.getElem?_eq_none h2] at h; exact absurd h (by simp)
theorem come_same {l l' : List Nat} (hlen : l.length = l'.length) (h : ∀ s, 0 < l.getD s 0 ↔ 0 < l'.getD s 0) : comeF l 0 = comeF l' 0 := by
  have : ∀ (l l' : List Nat) (s : Nat), l.length = l'.length → (∀ k, 0 < l.getD k 0 ↔ 0 < l'.getD k 0) → comeF l s = comeF l' s := by
    intro l
    induction l with
    | nil =>
      intro l' s hl _
      have : l' = [] := List.eq_nil_of_length_eq_zero hl.symm
      rw [this]
    | cons a l ih =>
      intro l' s hl hk
      match l', hl, hk with
      | b :: l', hl, hk =>
        have h0 := hk 0
        rw [List.getD_cons_zero, List.getD_cons_zero] at h0
        have hr := ih l' (s + 1) (by simpa using hl) (fun k => by have := hk (k + 1); rwa [List.getD_cons_succ, List.getD_cons_succ] at this)
        rw [comeF, comeF, hr]
        by_cases ha : 0 < a
        · rw [if_pos ha, if_pos (h0.1 ha)]
        · rw [if_neg ha, if_neg (fun h => ha (h0.2 h))]
  exact this l l' 0 hlen h

/-! ### A round: the leaves' depths -/
def maxL (l : List Nat) : Nat := l.foldl max 0
theorem foldl_max (l : List Nat) : ∀ a, a ≤ l.foldl max a ∧ (∀ x ∈ l, x ≤ l.foldl max a) ∧ (l.foldl max a = a ∨ l.foldl max a ∈ l) := by
  induction l with
  | nil => intro a; exact ⟨Nat.le_refl _, (fun x h => by cases h), .inl rfl⟩
  | cons b l ih =>
    intro a
    obtain ⟨h1, h2, h3⟩ := ih (max a b)
    rw [List.foldl_cons]
    refine ⟨by omega, fun x hx => ?_, ?_⟩
    · rcases List.mem_cons.1 hx with rfl | hx
      · omega
      · exact h2 x hx
    · rcases h3 with h3 | h3
      · rw [h3]
        by_cases hab : a ≤ b
        · right; rw [Nat.max_eq_right hab]; exact .head _
        · left; omega
      · exact .inr (.tail _ h3)
theorem maxL_le (l : List Nat) (m : Nat) : maxL l ≤ m ↔ ∀ x ∈ l, x ≤ m := by
  obtain ⟨h1, h2, h3⟩ := foldl_max l 0
  constructor
  · intro h x hx; have := h2 x hx; unfold maxL at h; omega
  · intro h
    unfold maxL
    rcases h3 with h3 | h3
    · omega
    · exact h _ h3
def treeOf (own : List Nat) : Hp := treeF own.length (leavesF own 0)
def deepZ (h : Hp) : List (Nat × Nat) := (h.deep 0).map fun x => (x.1, max x.2 1)
def roundL (own out : List Nat) : List Nat := setAll (deepZ (treeOf own)) out
theorem leaves_len : ∀ (l : List Nat) (s : Nat), (leavesF l s).length = (comeF l s).length ∧ (leavesF l s).length ≤ l.length
  | [], _ => ⟨rfl, Nat.le_refl _⟩
  | a :: l, s => by
    have ih := leaves_len l (s + 1)
    rw [leavesF, comeF]
    split
    · simp only [List.length_cons]; omega
    · simp only [List.length_cons]; omega
/-- What a round's heap is: its leaves are just what comes. -/
theorem tree_syms (own : List Nat) (h : comeF own 0 ≠ []) : (treeOf own).syms.Perm (comeF own 0) := by
  have hl := leaves_len own 0
  have hne : 1 ≤ (leavesF own 0).length := by
    rw [hl.1]
    cases hc : comeF own 0 with
    | nil => exact absurd hc h
    | cons a r => simp
  have := (treeF_R own.length (leavesF own 0) hne (by omega)).syms
  rw [leaves_syms] at this
  exact this
theorem deepZ_keys (h : Hp) : (deepZ h).map (·.1) = h.syms := by
  rw [← Hp.deep_syms h 0, deepZ, List.map_map]; rfl
/-- What a list of lengths is, of counts. -/
structure LenOk (counts : List Nat) (ls : List Nat) : Prop where
  len : ls.length = counts.length
  pos : ∀ s, 0 < ls.getD s 0 ↔ 0 < counts.getD s 0
  low : ∀ n ∈ ls, n ≤ max 1 ((comeF counts 0).length - 1)
  kraft : 2 ≤ (comeF counts 0).length → (∀ n ∈ ls, n ≤ 15) → kraftN ls 15 = 2 ^ 15
theorem g_kraft (D : Nat) : (fun n => if n = 0 then 0 else 2 ^ (D - n) : Nat → Nat) 0 = 0 := rfl
theorem mem_getD {l : List Nat} {s : Nat} (h : s < l.length) : l.getD s 0 ∈ l := by
  rw [List.getD_eq_getElem?_getD, List.getElem?_eq_getElem h]
  exact List.getElem_mem h
theorem getD_mem {l : List Nat} {n : Nat} (h : n ∈ l) : ∃ s, s < l.length ∧ l.getD s 0 = n := by
  obtain ⟨s, hs, rfl⟩ := List.getElem_of_mem h
  exact ⟨s, hs, by rw [List.getD_eq_getElem?_getD, List.getElem?_eq_getElem hs]; rfl⟩
theorem round_ok (own out : List Nat) (hc : comeF own 0 ≠ []) (hl : out.length = own.length) (hz : ∀ s, out.getD s 0 ≠ 0 → 0 < own.getD s 0) : LenOk own (roundL own out) := by
  have hsy := tree_syms own hc
  have hkeys := deepZ_keys (treeOf own)
  have hnd : ((deepZ (treeOf own)).map (·.1)).Nodup := by rw [hkeys]; exact hsy.nodup_iff.2 (come_nodup own 0)
  have hmem : ∀ s, s ∈ (deepZ (treeOf own)).map (·.1) ↔ s ∈ comeF own 0 := fun s => by rw [hkeys]; exact hsy.mem_iff
  have hin : ∀ x ∈ deepZ (treeOf own), x.1 < out.length := by
    intro x hx
    rw [hl]
    exact (come_lt own x.1 ((hmem x.1).1 (List.mem_map_of_mem hx))).1
  have hdz : ∀ x ∈ deepZ (treeOf own), 1 ≤ x.2 ∧ x.2 ≤ max 1 ((comeF own 0).length - 1) := by
    intro x hx
    obtain ⟨y, hy, rfl⟩ := List.mem_map.1 hx
    have := (Hp.deep_le _ 0 y hy).2
    rw [hsy.length_eq] at this
    dsimp only
    omega
  have hcov : ∀ s, out.getD s 0 ≠ 0 → s ∈ (deepZ (treeOf own)).map (·.1) := by
    intro s hs
    rw [hmem, come_mem]
    exact ⟨Nat.zero_le _, hz s hs⟩
  have hval : ∀ s, s ∈ comeF own 0 → ∃ v, (roundL own out).getD s 0 = v ∧ 1 ≤ v ∧ v ≤ max 1 ((comeF own 0).length - 1) := by
    intro s hs
    obtain ⟨⟨s', v⟩, hx, rfl⟩ := List.mem_map.1 ((hmem s).2 hs)
    refine ⟨v, ?_, hdz _ hx⟩
    rw [List.getD_eq_getElem?_getD, roundL, setAll_at _ _ s' v hnd hx (hin _ hx)]; rfl
  have hno : ∀ s, s ∉ comeF own 0 → (roundL own out).getD s 0 = 0 := by
    intro s hs
    have h1 : s ∉ (deepZ (treeOf own)).map (·.1) := fun h => hs ((hmem s).1 h)
    rw [List.getD_eq_getElem?_getD, roundL, setAll_other _ _ s h1, ← List.getD_eq_getElem?_getD]
    by_cases h0 : out.getD s 0 = 0
    · exact h0
    · exact absurd (hcov s h0) h1
  have hlen : (roundL own out).length = own.length := by rw [roundL, setAll_len, hl]
  have hp : ∀ s, 0 < (roundL own out).getD s 0 ↔ 0 < own.getD s 0 := by
    intro s
    have hcm : s ∈ comeF own 0 ↔ 0 < own.getD s 0 := by rw [come_mem]; simp
    by_cases hs : s ∈ comeF own 0
    · obtain ⟨v, h1, h2, h3⟩ := hval s hs
      rw [h1]
      exact ⟨fun _ => hcm.1 hs, fun _ => h2⟩
    · rw [hno s hs]
      exact ⟨fun h => absurd h (by omega), fun h => absurd (hcm.2 h) hs⟩
  refine ⟨hlen, hp, ?_, ?_⟩
  · intro n hn
    obtain ⟨s, hs, rfl⟩ := getD_mem hn
    by_cases hsc : s ∈ comeF own 0
    · obtain ⟨v, h1, h2, h3⟩ := hval s hsc
      rw [h1]; exact h3
    · rw [hno s hsc]; exact Nat.zero_le _
  · intro h2 h15
    have e : roundL own out = setAll (deepZ (treeOf own)) (List.replicate out.length 0) := setAll_zeros _ _ hnd hin hcov
    show sumG (fun n => if n = 0 then 0 else 2 ^ (15 - n)) (roundL own out) = _
    have hz0 : ∀ x ∈ deepZ (treeOf own), x.1 < (List.replicate out.length 0).length ∧ (List.replicate out.length 0).getD x.1 0 = 0 := by
      intro x hx
      refine ⟨by rw [List.length_replicate]; exact hin x hx, ?_⟩
      rw [List.getD_eq_getElem?_getD, List.getElem?_replicate, if_pos (hin x hx)]; rfl
    rw [e, sum_setAll _ (g_kraft 15) _ _ hnd hz0, sum_zeros _ (g_kraft 15), Nat.add_zero]
    -- the heap is none of one leaf: no leaf stands at its head
    have hdeep : ∀ x ∈ (treeOf own).deep 0, 1 ≤ x.2 ∧ x.2 ≤ 15 := by
      intro x hx
      have hd1 : 1 ≤ x.2 := by
        have hs2 := hsy.length_eq
        cases ht : treeOf own with
        | leaf c s => rw [ht] at hs2; simp only [Hp.syms, List.length_singleton] at hs2; omega
        | node c a b =>
          rw [ht, Hp.deep] at hx
          rcases List.mem_append.1 hx with hx | hx
          · exact (Hp.deep_le a 1 x hx).1
          · exact (Hp.deep_le b 1 x hx).1
      refine ⟨hd1, ?_⟩
      have hx1 : (x.1, max x.2 1) ∈ deepZ (treeOf own) := List.mem_map_of_mem (f := fun x : Nat × Nat => (x.1, max x.2 1)) hx
      have hg : (roundL own out)[x.1]? = some (max x.2 1) := setAll_at _ _ _ _ hnd hx1 (hin (x.1, max x.2 1) hx1)
      have := h15 _ (List.mem_of_getElem? hg)
      omega
    have hk := Hp.kraft (treeOf own) 0 15 (fun x hx => (hdeep x hx).2)
    rw [Nat.sub_zero] at hk
    rw [← hk, deepZ, List.map_map]
    congr 1
    refine List.map_congr_left fun x hx => ?_
    have h1 := (hdeep x hx).1
    simp only [Function.comp]
    rw [Nat.max_eq_left h1, if_neg (by omega)]

/-! ### The shorter ones to what comes more often -/
def ltC (counts : List Nat) (a b : Nat) : Bool := decide (counts.getD b 0 < counts.getD a 0)
theorem swoC (counts : List Nat) : SWO (ltC counts) := by
  refine ⟨fun x => by simp [ltC], fun x y z h1 h2 => ?_, fun x y z h1 h2 => ?_⟩
  · simp only [ltC, decide_eq_true_eq] at *; omega
  · simp only [ltC, decide_eq_false_iff_not] at *; omega
def sortN (l : List Nat) : List Nat := l.mergeSort (fun a b => decide (a ≤ b))
def comeS (counts lens : List Nat) : List Nat := (stableA (ltC counts) (comeF lens 0).toArray).toList
def fairL (counts lens : List Nat) : List Nat := setAll ((comeS counts lens).zip (sortN (lens.filter (fun n => decide (0 < n))))) lens
theorem comeS_perm (counts lens : List Nat) : (comeS counts lens).Perm (comeF lens 0) := by
  obtain ⟨h1, h2⟩ := stable_spec (swoC counts) (comeF lens 0).toArray
  have h3 := h2.2.2
  rw [show (stableA (ltC counts) (comeF lens 0).toArray).extract 0 (comeF lens 0).toArray.size = stableA (ltC counts) (comeF lens 0).toArray from by rw [← h2.1]; exact Array.extract_size .., show (comeF lens 0).toArray.extract 0 (comeF lens 0).toArray.size = (comeF lens 0).toArray from Array.extract_size ..] at h3
  unfold comeS
  simpa using h3
theorem fair_ok (counts lens own : List Nat) (h : LenOk own lens) : LenOk own (fairL counts lens) := by
  obtain ⟨S, hS⟩ : ∃ S, S = sortN (lens.filter (fun n => decide (0 < n))) := ⟨_, rfl⟩
  obtain ⟨C, hC⟩ : ∃ C, C = comeS counts lens := ⟨_, rfl⟩
  have hCp : C.Perm (comeF lens 0) := by rw [hC]; exact comeS_perm counts lens
  have hSp : S.Perm (lens.filter (fun n => decide (0 < n))) := by rw [hS]; exact List.mergeSort_perm _ _
  have hlen : C.length = S.length := by rw [hCp.length_eq, hSp.length_eq, come_len]
  have hkeys : (C.zip S).map (·.1) = C := List.map_fst_zip (by omega)
  have hvals : (C.zip S).map (·.2) = S := List.map_snd_zip (by omega)
  have hnd : ((C.zip S).map (·.1)).Nodup := by rw [hkeys]; exact hCp.nodup_iff.2 (come_nodup lens 0)
  have hin : ∀ x ∈ C.zip S, x.1 < lens.length := by
    intro x hx
    have : x.1 ∈ C := by rw [← hkeys]; exact List.mem_map_of_mem hx
    exact (come_lt lens x.1 (hCp.mem_iff.1 this)).1
  have hcov : ∀ s, lens.getD s 0 ≠ 0 → s ∈ (C.zip S).map (·.1) := by
    intro s hs
    rw [hkeys, hCp.mem_iff, come_mem]
    exact ⟨Nat.zero_le _, by rw [Nat.sub_zero]; omega⟩
  have hSpos : ∀ n ∈ S, 0 < n ∧ n ∈ lens := by
    intro n hn
    have := hSp.mem_iff.1 hn
    rw [List.mem_filter] at this
    exact ⟨by simpa using this.2, this.1⟩
  have hval : ∀ s, s ∈ comeF lens 0 → ∃ v, (fairL counts lens).getD s 0 = v ∧ v ∈ S := by
    intro s hs
    have h1 : s ∈ (C.zip S).map (·.1) := by rw [hkeys]; exact hCp.mem_iff.2 hs
    obtain ⟨⟨s', v⟩, hx, rfl⟩ := List.mem_map.1 h1
    refine ⟨v, ?_, ?_⟩
    · rw [List.getD_eq_getElem?_getD, fairL, ← hC, ← hS, setAll_at _ _ s' v hnd hx (hin _ hx)]; rfl
    · rw [← hvals]; exact List.mem_map_of_mem (f := (·.2)) hx
  have hno : ∀ s, s ∉ comeF lens 0 → (fairL counts lens).getD s 0 = 0 := by
    intro s hs
    have h1 : s ∉ (C.zip S).map (·.1) := by rw [hkeys]; exact fun h => hs (hCp.mem_iff.1 h)
    rw [List.getD_eq_getElem?_getD, fairL, ← hC, ← hS, setAll_other _ _ s h1, ← List.getD_eq_getElem?_getD]
    by_cases h0 : lens.getD s 0 = 0
    · exact h0
    · exact absurd (hcov s h0) h1
  have hfl : (fairL counts lens).length = lens.length := by rw [fairL, setAll_len]
  have hcm : ∀ s, s ∈ comeF lens 0 ↔ 0 < lens.getD s 0 := fun s => by rw [come_mem]; simp
  have hsum : ∀ g : Nat → Nat, g 0 = 0 → sumG g (fairL counts lens) = sumG g lens := by
    intro g hg
    have e : fairL counts lens = setAll (C.zip S) (List.replicate lens.length 0) := by
      rw [fairL, ← hC, ← hS]; exact setAll_zeros _ _ hnd hin hcov
    rw [e, sum_setAll g hg _ _ hnd ?_, sum_zeros g hg, Nat.add_zero, ← sum_filter g hg lens]
    · have e2 : ((C.zip S).map fun x => g x.2) = S.map g := by
        rw [← hvals, List.map_map]; simp [Function.comp_def, hvals]
      rw [e2]
      exact (hSp.map g).sum_nat
    · intro x hx
      refine ⟨by rw [List.length_replicate]; exact hin x hx, ?_⟩
      rw [List.getD_eq_getElem?_getD, List.getElem?_replicate, if_pos (hin x hx)]; rfl
  have hmemf : ∀ n ∈ fairL counts lens, n = 0 ∨ n ∈ lens := by
    intro n hn
    obtain ⟨s, hs, rfl⟩ := getD_mem hn
    by_cases hsc : s ∈ comeF lens 0
    · obtain ⟨v, h1, h2⟩ := hval s hsc
      rw [h1]; exact .inr (hSpos v h2).2
    · exact .inl (hno s hsc)
  refine ⟨by rw [hfl]; exact h.len, ?_, ?_, ?_⟩
  · intro s
    rw [← h.pos s, ← hcm s]
    by_cases hs : s ∈ comeF lens 0
    · obtain ⟨v, h1, h2⟩ := hval s hs
      rw [h1]
      exact ⟨fun _ => hs, fun _ => (hSpos v h2).1⟩
    · rw [hno s hs]
      exact ⟨fun h => absurd h (by omega), fun h => absurd h hs⟩
  · intro n hn
    rcases hmemf n hn with h0 | h0
    · omega
    · exact h.low n h0
  · intro h2 h15
    rw [kraftN]
    have h3 := hsum (fun n => if n = 0 then 0 else 2 ^ (15 - n)) rfl
    unfold sumG at h3
    rw [h3]
    refine h.kraft h2 ?_
    intro n hn
    -- a length is that of a symbol, which has one of the same
    by_cases hn0 : n = 0
    · omega
    · have hnS : n ∈ S := hSp.mem_iff.2 (List.mem_filter.2 ⟨hn, by simpa using Nat.pos_of_ne_zero hn0⟩)
      rw [← hvals] at hnS
      obtain ⟨x, hx, rfl⟩ := List.mem_map.1 hnS
      have hg : (fairL counts lens)[x.1]? = some x.2 := by
        rw [fairL, ← hC, ← hS]; exact setAll_at _ _ _ _ hnd hx (hin _ hx)
      exact h15 _ (List.mem_of_getElem? hg)
theorem fair_max (counts lens : List Nat) (m : Nat) (h : ∀ n ∈ lens, n ≤ m) : ∀ n ∈ fairL counts lens, n ≤ m := by
  have hall : ∀ (z : List (Nat × Nat)) (out : List Nat), (∀ x ∈ z, x.2 ≤ m) → (∀ n ∈ out, n ≤ m) → ∀ n ∈ setAll z out, n ≤ m := by
    intro z
    induction z with
    | nil => intro out _ ho; exact ho
    | cons x z ih =>
      intro out hz ho
      rw [setAll_cons]
      refine ih _ (fun y hy => hz y (.tail _ hy)) fun n hn => ?_
      rcases List.mem_or_eq_of_mem_set hn with h1 | h1
      · exact ho n h1
      · rw [h1]; exact hz x (.head _)
  refine hall _ _ (fun x hx => ?_) h
  have h2 : x.2 ∈ sortN (lens.filter (fun n => decide (0 < n))) := (List.of_mem_zip (a := x.1) (b := x.2) hx).2
  have h3 := (List.mergeSort_perm _ _).mem_iff.1 h2
  exact h _ (List.mem_filter.1 h3).1

/-! ### All lengths -/
def halfL (own : List Nat) : List Nat := own.map fun x => (x + 1) / 2
def lengthsF (counts : List Nat) (longer : Nat) : Nat → List Nat → List Nat → List Nat
  | 0, own, out => fairL counts (roundL own out)
  | f + 1, own, out => if maxL (roundL own out) ≤ longer then fairL counts (roundL own out) else lengthsF counts longer f (halfL own) (roundL own out)
def lengthsL (counts : List Nat) (longer : Nat) : List Nat :=
  if comeF counts 0 = [] then List.replicate counts.length 0 else lengthsF counts longer 30 counts (List.replicate counts.length 0)
theorem half_getD (own : List Nat) (s : Nat) : (halfL own).getD s 0 = (own.getD s 0 + 1) / 2 := by
  rw [List.getD_eq_getElem?_getD, halfL, List.getElem?_map, List.getD_eq_getElem?_getD]
  cases own[s]? <;> simp
theorem half_come (own : List Nat) : comeF (halfL own) 0 = comeF own 0 := by
  refine come_same (by simp [halfL]) fun s => ?_
  rw [half_getD]
  omega
/-- Where no one comes more than once, the leaves are no deeper than need be. -/
theorem round_even (own : List Nat) (longer : Nat) (hc : comeF own 0 ≠ []) (h1 : ∀ x ∈ own, x ≤ 1) (hl : (comeF own 0).length ≤ 2 ^ longer) (hL : 1 ≤ longer) (hn : own.length ≤ 1000) : (∀ x ∈ deepZ (treeOf own), x.2 ≤ longer) := by
  have hlv : ∀ (l : List Nat) (s : Nat), (∀ x ∈ l, x ≤ 1) → (∀ h ∈ leavesF l s, h.cnt = 1 ∧ h.dep = 0) ∧ ((leavesF l s).map Hp.cnt).sum = (leavesF l s).length := by
    intro l
    induction l with
    | nil => intro s _; exact ⟨(fun h hh => by cases hh), rfl⟩
    | cons a l ih =>
      intro s ha
      have ih2 := ih (s + 1) (fun x hx => ha x (.tail _ hx))
      rw [leavesF]
      split
      · rename_i hpos
        have ha1 : a = 1 := by have := ha a (.head _); omega
        subst ha1
        refine ⟨fun h hh => ?_, ?_⟩
        · rcases List.mem_cons.1 hh with rfl | hh
          · exact ⟨rfl, rfl⟩
          · exact ih2.1 h hh
        · rw [List.map_cons, List.sum_cons, ih2.2, List.length_cons]; simp [Hp.cnt]; omega
      · exact ih2
  obtain ⟨q1, q2⟩ := hlv own 0 h1
  have hll := leaves_len own 0
  have hne : 1 ≤ (leavesF own 0).length := by
    rw [hll.1]
    cases hcc : comeF own 0 with
    | nil => exact absurd hcc hc
    | cons a r => simp
  have hev : Even 0 (leavesF own 0) := by
    constructor
    · have : (leavesF own 0).countP (fun h => decide (2 ^ 0 < h.cnt) && decide (h.cnt < 2 ^ (0 + 1))) = 0 := by
        rw [List.countP_eq_zero]
        intro a ha
        have := (q1 a ha).1
        simp; omega
      omega
    · intro h hh
      exact .inl ⟨(q1 h hh).1, by rw [(q1 h hh).2]; exact Nat.le_refl _⟩
  obtain ⟨k, g1, g2⟩ := treeF_even own.length (leavesF own 0) 0 hne (by omega) hev (by rw [q2]; omega)
  have hd := even_dep g1 longer (by rw [g2, q2, hll.1]; exact hl)
  intro x hx
  obtain ⟨y, hy, rfl⟩ := List.mem_map.1 hx
  have := Hp.deep_dep _ 0 y hy
  unfold treeOf at this
  dsimp only
  omega
theorem round_max (own out : List Nat) (m : Nat) (hz : ∀ x ∈ deepZ (treeOf own), x.2 ≤ m) (ho : ∀ s, out.getD s 0 ≠ 0 → s ∈ (deepZ (treeOf own)).map (·.1)) (hin : ∀ x ∈ deepZ (treeOf own), x.1 < out.length) (hnd : ((deepZ (treeOf own)).map (·.1)).Nodup) : maxL (roundL own out) ≤ m := by
  rw [maxL_le]
  intro n hn
  obtain ⟨s, hs, rfl⟩ := getD_mem hn
  by_cases hk : s ∈ (deepZ (treeOf own)).map (·.1)
  · obtain ⟨⟨s', v⟩, hx, rfl⟩ := List.mem_map.1 hk
    rw [List.getD_eq_getElem?_getD, roundL, setAll_at _ _ s' v hnd hx (hin _ hx)]
    exact hz _ hx
  · rw [List.getD_eq_getElem?_getD, roundL, setAll_other _ _ s hk, ← List.getD_eq_getElem?_getD]
    by_cases h0 : out.getD s 0 = 0
    · omega
    · exact absurd (ho s h0) hk
/-- The state of the rounds: what comes stays what comes; what is no zero comes. -/
structure OwnOk (counts own out : List Nat) (f : Nat) : Prop where
  len : own.length = counts.length
  lout : out.length = own.length
  come : comeF own 0 = comeF counts 0
  pos : ∀ s, 0 < own.getD s 0 ↔ 0 < counts.getD s 0
  zero : ∀ s, out.getD s 0 ≠ 0 → 0 < own.getD s 0
  small : ∀ x ∈ own, x ≤ 2 ^ f
theorem OwnOk.round {counts own out : List Nat} {f : Nat} (h : OwnOk counts own out f) (hc : comeF counts 0 ≠ []) : LenOk counts (roundL own out) := by
  have h1 := round_ok own out (by rw [h.come]; exact hc) h.lout h.zero
  exact ⟨by rw [h1.len, h.len], fun s => by rw [h1.pos s, h.pos s], by rw [← h.come]; exact h1.low, by rw [← h.come]; exact h1.kraft⟩
theorem OwnOk.next {counts own out : List Nat} {f : Nat} (h : OwnOk counts own out (f + 1)) (hc : comeF counts 0 ≠ []) : OwnOk counts (halfL own) (roundL own out) f := by
  have h1 := h.round hc
  have hp : ∀ s, 0 < (halfL own).getD s 0 ↔ 0 < counts.getD s 0 := fun s => by rw [half_getD, ← h.pos s]; omega
  refine ⟨by simp [halfL, h.len], by rw [h1.len]; simp [halfL, h.len], by rw [half_come, h.come], hp, ?_, ?_⟩
  · intro s hs
    rw [hp s, ← h1.pos s]
    omega
  · intro x hx
    obtain ⟨y, hy, rfl⟩ := List.mem_map.1 hx
    have := h.small y hy
    rw [Nat.pow_succ] at this
    omega
theorem OwnOk.last {counts own out : List Nat} (h : OwnOk counts own out 0) (hc : comeF counts 0 ≠ []) (longer : Nat) (hl : (comeF counts 0).length ≤ 2 ^ longer) (hL : 1 ≤ longer) (hn : counts.length ≤ 1000) : maxL (roundL own out) ≤ longer := by
  have hco : comeF own 0 ≠ [] := by rw [h.come]; exact hc
  have hsy := tree_syms own hco
  have hkeys := deepZ_keys (treeOf own)
  have hmem : ∀ s, s ∈ (deepZ (treeOf own)).map (·.1) ↔ s ∈ comeF own 0 := fun s => by rw [hkeys]; exact hsy.mem_iff
  refine round_max own out longer (round_even own longer hco (fun x hx => h.small x hx) (by rw [h.come]; exact hl) hL (by rw [h.len]; exact hn)) ?_ ?_ ?_
  · intro s hs
    rw [hmem, come_mem]
    exact ⟨Nat.zero_le _, h.zero s hs⟩
  · intro x hx
    rw [h.lout]
    exact (come_lt own x.1 ((hmem x.1).1 (List.mem_map_of_mem hx))).1
  · rw [hkeys]; exact hsy.nodup_iff.2 (come_nodup own 0)
theorem lengthsF_ok (counts : List Nat) (longer : Nat) (hc : comeF counts 0 ≠ []) (hl : (comeF counts 0).length ≤ 2 ^ longer) (hL : 1 ≤ longer) (hn : counts.length ≤ 1000) :
    ∀ f own out, OwnOk counts own out f → LenOk counts (lengthsF counts longer f own out) ∧ ∀ n ∈ lengthsF counts longer f own out, n ≤ longer
  | 0, own, out, h => by
    have h1 := h.round hc
    have h2 := h.last hc longer hl hL hn
    exact ⟨fair_ok counts _ counts h1, fair_max counts _ longer ((maxL_le _ _).1 h2)⟩
  | f + 1, own, out, h => by
    rw [lengthsF]
    by_cases hm : maxL (roundL own out) ≤ longer
    · rw [if_pos hm]
      exact ⟨fair_ok counts _ counts (h.round hc), fair_max counts _ longer ((maxL_le _ _).1 hm)⟩
    · rw [if_neg hm]
      exact lengthsF_ok counts longer hc hl hL hn f _ _ (h.next hc)
theorem own_start (counts : List Nat) (hb : ∀ x ∈ counts, x ≤ 2 ^ 30) : OwnOk counts counts (List.replicate counts.length 0) 30 := by
  refine ⟨rfl, by simp, rfl, fun _ => Iff.rfl, fun s hs => ?_, hb⟩
  exfalso
  refine hs ?_
  rw [List.getD_eq_getElem?_getD, List.getElem?_replicate]
  split <;> rfl
/-- What lengths are: codes of what comes. -/
theorem lengths_ok (counts : List Nat) (longer : Nat) (hb : ∀ x ∈ counts, x ≤ 2 ^ 30) (hl : (comeF counts 0).length ≤ 2 ^ longer) (hL : 1 ≤ longer) (hn : counts.length ≤ 1000) :
    LenOk counts (lengthsL counts longer) ∧ ∀ n ∈ lengthsL counts longer, n ≤ longer := by
  unfold lengthsL
  by_cases hc : comeF counts 0 = []
  · rw [if_pos hc]
    have h0 : ∀ s, (List.replicate counts.length 0).getD s 0 = 0 := by
      intro s
      rw [List.getD_eq_getElem?_getD, List.getElem?_replicate]
      split <;> rfl
    have hm0 : ∀ n ∈ List.replicate counts.length 0, n = 0 := fun n hn => (List.mem_replicate.1 hn).2
    refine ⟨⟨by simp, fun s => ?_, fun n hn => by rw [hm0 n hn]; exact Nat.zero_le _, fun h2 => ?_⟩, fun n hn => by rw [hm0 n hn]; exact Nat.zero_le _⟩
    · rw [h0]
      constructor
      · intro h; omega
      · intro h
        have : s ∈ comeF counts 0 := (come_mem counts 0 s).2 ⟨Nat.zero_le _, h⟩
        rw [hc] at this; cases this
    · rw [hc] at h2; simp at h2
  · rw [if_neg hc]
    exact lengthsF_ok counts longer hc hl hL hn 30 _ _ (own_start counts hb)
end Go.Proofs.Ytbchaomnjbkdhaa
