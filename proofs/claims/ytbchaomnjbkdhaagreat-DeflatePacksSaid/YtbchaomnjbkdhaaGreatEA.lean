/-
  What is packed, in plain Lean: bytes, and copies of what came ahead; their symbols, and what these cost by the codes that are told. No program in sight.
-/
import Derived.Sort.Lot0
import Derived.Sort.LotA
namespace Go.Proofs.YtbchaomnjbkdhaaGreat
set_option linter.unusedVariables false
structure Item where
  c : UInt8
  long : Nat
  far : Nat
def tripAt (b : List UInt8) (i : Nat) : List UInt8 := [b.getD i 0, b.getD (i + 1) 0, b.getD (i + 2) 0]
/-- Where three bytes came last, ahead of a place. -/
def came (b : List UInt8) : Nat → List UInt8 → Option Nat
  | 0, _ => none
  | i + 1, t => if i + 3 ≤ b.length ∧ tripAt b i = t then some i else came b i t
/-- How many bytes are alike, from two places on. -/
def runL (b : List UInt8) (k i : Nat) : Nat → Nat → Nat
  | 0, n => n
  | f + 1, n => if n < 258 ∧ i + n < b.length ∧ b.getD (k + n) 0 = b.getD (i + n) 0 then runL b k i f (n + 1) else n
def matchAt (b : List UInt8) (i : Nat) : Nat × Nat :=
  if i + 3 ≤ b.length then
    match came b i (tripAt b i) with
    | some k => if i - k ≤ 32768 then (runL b k i 258 0, i - k) else (0, 0)
    | none => (0, 0)
  else (0, 0)
def itemsF (b : List UInt8) : Nat → Nat → List Item
  | 0, _ => []
  | f + 1, i =>
    if i < b.length then
      if (matchAt b i).1 < 3 then ⟨b.getD i 0, 0, 0⟩ :: itemsF b f (i + 1) else ⟨0, (matchAt b i).1, (matchAt b i).2⟩ :: itemsF b f (i + (matchAt b i).1)
    else []
def itemsL (b : List UInt8) : List Item := itemsF b b.length 0
theorem came_lt (b : List UInt8) (t : List UInt8) : ∀ i k, came b i t = some k → k < i ∧ k + 3 ≤ b.length ∧ tripAt b k = t
  | 0, k, h => by cases h
  | i + 1, k, h => by
    rw [came] at h
    split at h
    · rename_i hc
      cases h
      exact ⟨by omega, hc.1, hc.2⟩
    · have := came_lt b t i k h
      exact ⟨by omega, this.2⟩
theorem runL_le (b : List UInt8) (k i : Nat) : ∀ f n, n ≤ 258 → i + n ≤ b.length → n ≤ runL b k i f n ∧ runL b k i f n ≤ 258 ∧ i + runL b k i f n ≤ b.length
  | 0, n, h1, h2 => ⟨Nat.le_refl _, h1, h2⟩
  | f + 1, n, h1, h2 => by
    rw [runL]
    split
    · rename_i hc
      have := runL_le b k i f (n + 1) (by omega) (by omega)
      exact ⟨by omega, this.2⟩
    · exact ⟨Nat.le_refl _, h1, h2⟩
theorem matchAt_ok (b : List UInt8) (i : Nat) (h : 3 ≤ (matchAt b i).1) : (matchAt b i).1 ≤ 258 ∧ i + (matchAt b i).1 ≤ b.length ∧ 1 ≤ (matchAt b i).2 ∧ (matchAt b i).2 ≤ 32768 ∧ (matchAt b i).2 ≤ i := by
  unfold matchAt at h ⊢
  split at h
  · rename_i hl
    rw [if_pos hl]
    cases hc : came b i (tripAt b i) with
    | none => rw [hc] at h; exact absurd h (by simp)
    | some k =>
      rw [hc] at h
      dsimp only at h ⊢
      have hk := came_lt b _ i k hc
      split at h
      · rename_i hw
        rw [if_pos hw]
        have := runL_le b k i 258 0 (by omega) (by omega)
        exact ⟨this.2.1, this.2.2, by dsimp only; omega, hw, by dsimp only; omega⟩
      · exact absurd h (by decide)
  · exact absurd h (by decide)
theorem itemsF_fuel (b : List UInt8) : ∀ f g i, b.length ≤ i + f → b.length ≤ i + g → itemsF b f i = itemsF b g i
  | 0, 0, i, _, _ => rfl
  | 0, g + 1, i, h, _ => by rw [itemsF, itemsF, if_neg (by omega)]
  | f + 1, 0, i, _, h => by rw [itemsF, itemsF, if_neg (by omega)]
  | f + 1, g + 1, i, h1, h2 => by
    rw [itemsF, itemsF]
    split
    · split
      · rw [itemsF_fuel b f g (i + 1) (by omega) (by omega)]
      · rw [itemsF_fuel b f g (i + (matchAt b i).1) (by omega) (by omega)]
    · rfl
theorem items_step (b : List UInt8) (i : Nat) (h : i < b.length) : itemsF b (b.length - i) i =
    if (matchAt b i).1 < 3 then ⟨b.getD i 0, 0, 0⟩ :: itemsF b (b.length - (i + 1)) (i + 1) else ⟨0, (matchAt b i).1, (matchAt b i).2⟩ :: itemsF b (b.length - (i + (matchAt b i).1)) (i + (matchAt b i).1) := by
  obtain ⟨f, hf⟩ : ∃ f, b.length - i = f + 1 := ⟨b.length - i - 1, by omega⟩
  rw [hf, itemsF, if_pos h]
  split
  · rw [itemsF_fuel b f (b.length - (i + 1)) (i + 1) (by omega) (by omega)]
  · rw [itemsF_fuel b f (b.length - (i + (matchAt b i).1)) (i + (matchAt b i).1) (by omega) (by omega)]
/-- How far a number is cut, so that it is below twice a group. -/
def scaleK (n g : Nat) : Nat → Nat → Nat
  | 0, k => k
  | f + 1, k => if 2 * g ≤ n / 2 ^ k then scaleK n g f (k + 1) else k
structure Part where
  symbol : Nat
  wide : Nat
  more : Nat
def scaleP (n g first : Nat) : Part := let k := scaleK (n - first) g 64 0; ⟨k * g + (n - first) / 2 ^ k, k, (n - first) % 2 ^ k⟩
def litP (x : Item) : Part :=
  if x.far = 0 then ⟨x.c.toNat, 0, 0⟩
  else if x.long = 258 then ⟨285, 0, 0⟩
  else ⟨(scaleP x.long 4 3).symbol + 257, (scaleP x.long 4 3).wide, (scaleP x.long 4 3).more⟩
def farP (x : Item) : Part := if x.far = 0 then ⟨0, 0, 0⟩ else scaleP x.far 2 1
theorem scaleK_le (n g K : Nat) (hg : 0 < g) (h : n / 2 ^ K < 2 * g) : ∀ f k, k ≤ K → scaleK n g f k ≤ K
  | 0, k, hk => hk
  | f + 1, k, hk => by
    rw [scaleK]
    split
    · rename_i hc
      have hne : k ≠ K := fun e => by subst e; omega
      exact scaleK_le n g K hg h f (k + 1) (by omega)
    · exact hk
theorem scaleK_end (n g : Nat) : ∀ f k, n < 2 * g * 2 ^ (k + f) → n / 2 ^ scaleK n g f k < 2 * g
  | 0, k, h => by
    rw [scaleK]
    exact (Nat.div_lt_iff_lt_mul (Nat.two_pow_pos k)).2 (by simpa using h)
  | f + 1, k, h => by
    rw [scaleK]
    split
    · exact scaleK_end n g f (k + 1) (by rw [show k + 1 + f = k + (f + 1) by omega]; exact h)
    · omega
/-- What is right of an item: a byte, or a copy of 3 to 258 bytes from 1 to 32768 back. -/
def okI (x : Item) : Prop := (x.far = 0 ∧ x.long = 0) ∨ (3 ≤ x.long ∧ x.long ≤ 258 ∧ 1 ≤ x.far ∧ x.far ≤ 32768)
def sizeI (x : Item) : Nat := if x.far = 0 then 1 else x.long
theorem items_ok (b : List UInt8) : ∀ f i, ∀ x ∈ itemsF b f i, okI x
  | 0, i, x, hx => by cases hx
  | f + 1, i, x, hx => by
    rw [itemsF] at hx
    split at hx
    · split at hx
      · rcases List.mem_cons.1 hx with rfl | hx
        · exact .inl ⟨rfl, rfl⟩
        · exact items_ok b f _ x hx
      · rename_i hm
        rcases List.mem_cons.1 hx with rfl | hx
        · have := matchAt_ok b i (by omega)
          exact .inr ⟨by dsimp only; omega, this.1, this.2.2.1, this.2.2.2.1⟩
        · exact items_ok b f _ x hx
    · cases hx
theorem items_size (b : List UInt8) : ∀ f i, b.length ≤ i + f → i ≤ b.length → ((itemsF b f i).map sizeI).sum = b.length - i
  | 0, i, h1, h2 => by rw [itemsF]; simp; omega
  | f + 1, i, h1, h2 => by
    rw [itemsF]
    split
    · split
      · rw [List.map_cons, List.sum_cons, items_size b f (i + 1) (by omega) (by omega)]
        simp only [sizeI, if_true]
        omega
      · rename_i hl hm
        have hmm := matchAt_ok b i (by omega)
        rw [List.map_cons, List.sum_cons, items_size b f (i + (matchAt b i).1) (by omega) (by omega)]
        simp only [sizeI]
        rw [if_neg (by omega)]
        omega
    · simp; omega
def fixedLits : List Nat := List.replicate 144 8 ++ List.replicate 112 9 ++ List.replicate 24 7 ++ List.replicate 8 8
def fixedDist : List Nat := List.replicate 30 5
theorem getD_le (l : List Nat) (m : Nat) (h : ∀ x ∈ l, x ≤ m) (i : Nat) : l.getD i 0 ≤ m := by
  rw [List.getD_eq_getElem?_getD]
  cases hx : l[i]? with
  | none => exact Nat.zero_le _
  | some x => exact h x (List.mem_of_getElem? hx)
theorem far_wide (x : Item) (h : x.far ≤ 32768) : (farP x).wide ≤ 13 := by
  unfold farP
  split
  · exact Nat.zero_le _
  · exact scaleK_le _ 2 13 (by decide) (by rw [Nat.div_lt_iff_lt_mul (by decide)]; omega) 64 0 (by decide)
theorem long_wide (x : Item) (h : x.long ≤ 258) : (litP x).wide ≤ 5 := by
  unfold litP
  split
  · exact Nat.zero_le _
  · split
    · exact Nat.zero_le _
    · exact scaleK_le _ 4 5 (by decide) (by rw [Nat.div_lt_iff_lt_mul (by decide)]; omega) 64 0 (by decide)
end Go.Proofs.YtbchaomnjbkdhaaGreat
namespace Go.Proofs.YtbchaomnjbkdhaaGreat
set_option linter.unusedVariables false
/-- The first code of a length. -/
def firstC (ls : List Nat) : Nat → Nat
  | 0 => 0
  | n + 1 => 2 * (firstC ls n + if n = 0 then 0 else ls.count n)
/-- Behind the last code of a length. -/
def endC (ls : List Nat) (n : Nat) : Nat := firstC ls n + ls.count n
def codeOk (ls : List Nat) : Prop := (∀ n ∈ ls, n ≤ 15) ∧ ∀ n, 1 ≤ n → n ≤ 15 → endC ls n ≤ 2 ^ n
/-- The symbols of a length. -/
def symsL (ls : List Nat) (n : Nat) : List Nat := (List.range ls.length).filter fun s => ls.getD s 0 == n
/-- Which of its length's a symbol is. -/
def rankL (ls : List Nat) (s : Nat) : Nat := (ls.take s).count (ls.getD s 0)
def codeC (ls : List Nat) (s : Nat) : Nat := firstC ls (ls.getD s 0) + rankL ls s
/-- So many bits of a number, the highest first. -/
def hiB : Nat → Nat → List Nat
  | 0, _ => []
  | n + 1, v => (v / 2 ^ n % 2) :: hiB n v
def encS (ls : List Nat) (s : Nat) : List Nat := hiB (ls.getD s 0) (codeC ls s)
/-- The symbol that comes next, bit by bit. -/
def decS (ls : List Nat) : Nat → Nat → Nat → List Nat → Option (Nat × List Nat)
  | 0, _, _, _ => none
  | _ + 1, _, _, [] => none
  | f + 1, n, c, b :: r =>
    if firstC ls (n + 1) ≤ 2 * c + b ∧ 2 * c + b < endC ls (n + 1) then ((symsL ls (n + 1))[2 * c + b - firstC ls (n + 1)]?).map fun s => (s, r)
    else decS ls f (n + 1) (2 * c + b) r
theorem hiB_len : ∀ n v, (hiB n v).length = n
  | 0, _ => rfl
  | n + 1, v => by rw [hiB, List.length_cons, hiB_len n v]
theorem firstC_succ (ls : List Nat) (n : Nat) (h : 1 ≤ n) : firstC ls (n + 1) = 2 * endC ls n := by
  rw [firstC, if_neg (by omega), endC]
theorem first_far (ls : List Nat) (m : Nat) (hm : 1 ≤ m) : ∀ k, 2 ^ (k + 1) * endC ls m ≤ firstC ls (m + k + 1)
  | 0 => by rw [firstC_succ ls (m + 0) (by omega)]; simp
  | k + 1 => by
    have ih := first_far ls m hm k
    rw [firstC_succ ls (m + (k + 1)) (by omega)]
    have h2 : firstC ls (m + (k + 1)) ≤ endC ls (m + (k + 1)) := Nat.le_add_right _ _
    have h3 : 2 ^ (k + 1 + 1) * endC ls m = 2 * (2 ^ (k + 1) * endC ls m) := by rw [Nat.pow_succ]; rw [Nat.mul_comm (2 ^ (k + 1)) 2, Nat.mul_assoc]
    have h4 : m + (k + 1) = m + k + 1 := by omega
    rw [h4] at h2 ⊢
    omega
theorem count_range (ls : List Nat) (n : Nat) : ∀ k, k ≤ ls.length → (List.range k).countP (fun s => ls.getD s 0 == n) = (ls.take k).count n
  | 0, _ => rfl
  | k + 1, h => by
    rw [List.range_succ, List.countP_append, count_range ls n k (by omega), List.take_succ_eq_append_getElem (by omega), List.count_append]
    congr 1
    rw [List.countP_singleton, List.getD_eq_getElem?_getD, List.getElem?_eq_getElem (by omega)]
    simp [List.count_singleton]
theorem syms_len (ls : List Nat) (n : Nat) : (symsL ls n).length = ls.count n := by
  unfold symsL
  rw [← List.countP_eq_length_filter, count_range ls n ls.length (Nat.le_refl _), List.take_length]
theorem rank_lt (ls : List Nat) (s : Nat) (hs : s < ls.length) : rankL ls s < ls.count (ls.getD s 0) := by
  unfold rankL
  have e : ls.getD s 0 = ls[s] := by rw [List.getD_eq_getElem?_getD, List.getElem?_eq_getElem hs]; rfl
  have h : ls = ls.take s ++ ls[s] :: ls.drop (s + 1) := by rw [← List.drop_eq_getElem_cons hs, List.take_append_drop]
  rw [e]
  generalize ls[s] = a at *
  have h2 := congrArg (List.count a) h
  rw [List.count_append, List.count_cons_self] at h2
  omega
theorem syms_rank (ls : List Nat) (s : Nat) (hs : s < ls.length) : (symsL ls (ls.getD s 0))[rankL ls s]? = some s := by
  have e : ls.getD s 0 = ls[s] := by rw [List.getD_eq_getElem?_getD, List.getElem?_eq_getElem hs]; rfl
  have h : List.range ls.length = List.range s ++ s :: (List.range (ls.length - s - 1)).map (· + (s + 1)) := by
    have h1 : ls.length = s + (1 + (ls.length - s - 1)) := by omega
    conv => lhs; rw [h1, List.range_add, Nat.add_comm 1, List.range_succ_eq_map]
    simp [List.map_map, Function.comp_def, Nat.add_left_comm]
  unfold symsL
  rw [h, List.filter_append]
  have hl : ((List.range s).filter fun t => ls.getD t 0 == ls.getD s 0).length = rankL ls s := by
    have h2 := syms_len (ls.take s) (ls.getD s 0)
    unfold symsL at h2
    rw [List.length_take, Nat.min_eq_left (by omega)] at h2
    rw [rankL, ← h2]
    congr 1
    apply List.filter_congr
    intro t ht
    have ht2 := List.mem_range.1 ht
    rw [List.getD_eq_getElem?_getD, List.getD_eq_getElem?_getD (l := ls.take s), List.getElem?_take_of_lt ht2]
  rw [List.getElem?_append_right (by omega), hl, Nat.sub_self, List.filter_cons_of_pos (by simp)]
  rfl
theorem hiB_next (n v c : Nat) (h : v / 2 ^ (n + 1) = c) : 2 * c + v / 2 ^ n % 2 = v / 2 ^ n := by
  have h2 : v / 2 ^ (n + 1) = v / 2 ^ n / 2 := by rw [Nat.pow_succ, Nat.div_div_eq_div_mul]
  omega
theorem dec_go (ls : List Nat) (s : Nat) (hs : s < ls.length) (hN : 1 ≤ ls.getD s 0) (r : List Nat) : ∀ (j n f : Nat), n + j = ls.getD s 0 → j ≤ f → 1 ≤ j → decS ls f n (codeC ls s / 2 ^ j) (hiB j (codeC ls s) ++ r) = some (s, r)
  | 0, n, f, _, _, h => by omega
  | j + 1, n, 0, _, hf, _ => by omega
  | j + 1, n, f + 1, hn, hf, _ => by
    rw [hiB, List.cons_append, decS, hiB_next j _ _ rfl]
    have hrk := rank_lt ls s hs
    by_cases hj : j = 0
    · subst hj
      have e : n + 1 = ls.getD s 0 := by omega
      rw [Nat.pow_zero, Nat.div_one, e]
      rw [if_pos ⟨Nat.le_add_right _ _, by unfold codeC endC; omega⟩]
      have e2 : codeC ls s - firstC ls (ls.getD s 0) = rankL ls s := by unfold codeC; omega
      rw [e2, syms_rank ls s hs]
      rfl
    · have hfar := first_far ls (n + 1) (by omega) (j - 1)
      have e : n + 1 + (j - 1) + 1 = ls.getD s 0 := by omega
      have e2 : j - 1 + 1 = j := by omega
      rw [e, e2] at hfar
      have hge : endC ls (n + 1) ≤ codeC ls s / 2 ^ j := by
        rw [Nat.le_div_iff_mul_le (Nat.two_pow_pos j), Nat.mul_comm]
        unfold codeC
        omega
      rw [if_neg (by omega)]
      exact dec_go ls s hs hN r j (n + 1) f (by omega) (by omega) (by omega)
theorem rank_code (ls : List Nat) (h : codeOk ls) (s : Nat) (hs : s < ls.length) (hN : 1 ≤ ls.getD s 0) : codeC ls s < 2 ^ ls.getD s 0 := by
  have h1 := rank_lt ls s hs
  have hm : ls.getD s 0 ≤ 15 := h.1 _ (by rw [List.getD_eq_getElem?_getD, List.getElem?_eq_getElem hs]; exact List.getElem_mem hs)
  have h2 := h.2 _ hN hm
  unfold codeC endC at *
  omega
/-- What is written by a code is read by it. -/
theorem dec_enc (ls : List Nat) (h : codeOk ls) (s : Nat) (hs : s < ls.length) (hN : 1 ≤ ls.getD s 0) (r : List Nat) : decS ls 15 0 0 (encS ls s ++ r) = some (s, r) := by
  have hm : ls.getD s 0 ≤ 15 := h.1 _ (by rw [List.getD_eq_getElem?_getD, List.getElem?_eq_getElem hs]; exact List.getElem_mem hs)
  have h0 : codeC ls s / 2 ^ ls.getD s 0 = 0 := Nat.div_eq_of_lt (rank_code ls h s hs hN)
  have := dec_go ls s hs hN r (ls.getD s 0) 0 15 (by omega) hm hN
  rw [h0] at this
  exact this
/-- No code begins another one. -/
theorem enc_free (ls : List Nat) (h : codeOk ls) {s t : Nat} (hs : s < ls.length) (ht : t < ls.length) (hs1 : 1 ≤ ls.getD s 0) (ht1 : 1 ≤ ls.getD t 0) {r r' : List Nat} (e : encS ls s ++ r = encS ls t ++ r') : s = t := by
  have h1 := dec_enc ls h s hs hs1 r
  rw [e, dec_enc ls h t ht ht1 r'] at h1
  cases h1
  rfl
end Go.Proofs.YtbchaomnjbkdhaaGreat
namespace Go.Proofs.YtbchaomnjbkdhaaGreat
set_option linter.unusedVariables false
inductive Hp where
  | leaf (count sym : Nat)
  | node (count : Nat) (a b : Hp)
def Hp.cnt : Hp → Nat
  | .leaf c _ => c
  | .node c _ _ => c
/-- The leaves' symbols, each with its depth. -/
def Hp.deep : Hp → Nat → List (Nat × Nat)
  | .leaf _ s, d => [(s, d)]
  | .node _ a b, d => a.deep (d + 1) ++ b.deep (d + 1)
def Hp.syms : Hp → List Nat
  | .leaf _ s => [s]
  | .node _ a b => a.syms ++ b.syms
theorem Hp.deep_syms : ∀ (h : Hp) (d : Nat), (h.deep d).map (·.1) = h.syms
  | .leaf _ s, d => rfl
  | .node _ a b, d => by rw [Hp.deep, List.map_append, Hp.deep_syms a, Hp.deep_syms b, Hp.syms]
theorem Hp.syms_pos : ∀ h : Hp, 1 ≤ h.syms.length
  | .leaf _ s => Nat.le_refl _
  | .node _ a b => by rw [Hp.syms, List.length_append]; have := a.syms_pos; omega
theorem Hp.deep_le : ∀ (h : Hp) (d : Nat), ∀ x ∈ h.deep d, d ≤ x.2 ∧ x.2 ≤ d + h.syms.length - 1
  | .leaf _ s, d, x, hx => by
    have e : x = (s, d) := by simpa [Hp.deep] using hx
    subst e
    exact ⟨Nat.le_refl _, by simp [Hp.syms]⟩
  | .node _ a b, d, x, hx => by
    have ha := a.syms_pos
    have hb := b.syms_pos
    rw [Hp.syms, List.length_append]
    rcases List.mem_append.1 hx with hx | hx
    · have := Hp.deep_le a (d + 1) x hx; omega
    · have := Hp.deep_le b (d + 1) x hx; omega
/-- Whatever a heap is like: its leaves fill all places of a depth. -/
theorem Hp.kraft : ∀ (h : Hp) (d D : Nat), (∀ x ∈ h.deep d, x.2 ≤ D) → ((h.deep d).map fun x => 2 ^ (D - x.2)).sum = 2 ^ (D - d)
  | .leaf _ s, d, D, _ => by simp [Hp.deep]
  | .node _ a b, d, D, h => by
    have h1 : ∀ x ∈ a.deep (d + 1), x.2 ≤ D := fun x hx => h x (List.mem_append_left _ hx)
    have h2 : ∀ x ∈ b.deep (d + 1), x.2 ≤ D := fun x hx => h x (List.mem_append_right _ hx)
    rw [Hp.deep, List.map_append, List.sum_append, Hp.kraft a (d + 1) D h1, Hp.kraft b (d + 1) D h2]
    have hd : d + 1 ≤ D := by
      have hs := a.syms_pos
      rw [← Hp.deep_syms a (d + 1), List.length_map] at hs
      obtain ⟨x, hx⟩ : ∃ x, x ∈ a.deep (d + 1) := by
        cases hl : a.deep (d + 1) with
        | nil => rw [hl] at hs; simp at hs
        | cons x r => exact ⟨x, .head _⟩
      have h3 := (Hp.deep_le a (d + 1) x hx).1
      have h4 := h1 x hx
      omega
    have e : D - d = (D - (d + 1)) + 1 := by omega
    rw [e, Nat.pow_succ]; omega
/-- What is made of a row of heaps: two at the head of some order are put together, till there is one. -/
inductive TreeR : List Hp → Hp → Prop
  | one (h : Hp) : TreeR [h] h
  | step {l r : List Hp} {a b h : Hp} (c : Nat) (hp : l.Perm (a :: b :: r)) (ht : TreeR (r ++ [.node c a b]) h) : TreeR l h
theorem TreeR.syms {l : List Hp} {h : Hp} (ht : TreeR l h) : h.syms.Perm (l.flatMap Hp.syms) := by
  induction ht with
  | one h => simp
  | step c hp ht ih =>
    rename_i l r a b h
    refine ih.trans ?_
    refine List.Perm.trans ?_ (hp.flatMap_right Hp.syms).symm
    rw [List.flatMap_append, List.flatMap_cons, List.flatMap_nil, List.append_nil, Hp.syms, List.flatMap_cons, List.flatMap_cons, ← List.append_assoc a.syms]
    exact List.perm_append_comm
/-- The leaves of what comes. -/
def leavesF : List Nat → Nat → List Hp
  | [], _ => []
  | n :: r, s => if 0 < n then .leaf n s :: leavesF r (s + 1) else leavesF r (s + 1)
def comeF : List Nat → Nat → List Nat
  | [], _ => []
  | n :: r, s => if 0 < n then s :: comeF r (s + 1) else comeF r (s + 1)
theorem leaves_syms : ∀ (l : List Nat) (s : Nat), (leavesF l s).flatMap Hp.syms = comeF l s
  | [], _ => rfl
  | n :: r, s => by
    rw [leavesF, comeF]
    split
    · rw [List.flatMap_cons, leaves_syms r (s + 1)]; rfl
    · exact leaves_syms r (s + 1)
theorem come_mem : ∀ (l : List Nat) (s k : Nat), k ∈ comeF l s ↔ s ≤ k ∧ 0 < l.getD (k - s) 0
  | [], s, k => by simp [comeF]
  | n :: r, s, k => by
    rw [comeF]
    have ih := come_mem r (s + 1) k
    by_cases hk : k = s
    · subst hk
      rw [Nat.sub_self]
      split
      · rename_i h; simp [h]
      · rename_i h
        rw [ih]
        simp only [List.getD_cons_zero]
        constructor
        · intro h2; omega
        · intro h2; omega
    · have e : s ≤ k → k - s = (k - (s + 1)) + 1 := by omega
      split
      · rw [List.mem_cons, ih]
        constructor
        · rintro (h | ⟨h1, h2⟩)
          · exact absurd h hk
          · refine ⟨by omega, ?_⟩
            rw [e (by omega), List.getD_cons_succ]; exact h2
        · rintro ⟨h1, h2⟩
          refine .inr ⟨by omega, ?_⟩
          rw [e h1, List.getD_cons_succ] at h2; exact h2
      · rw [ih]
        constructor
        · rintro ⟨h1, h2⟩
          refine ⟨by omega, ?_⟩
          rw [e (by omega), List.getD_cons_succ]; exact h2
        · rintro ⟨h1, h2⟩
          refine ⟨by omega, ?_⟩
          rw [e h1, List.getD_cons_succ] at h2; exact h2
theorem come_nodup : ∀ (l : List Nat) (s : Nat), (comeF l s).Nodup
  | [], _ => List.nodup_nil
  | n :: r, s => by
    rw [comeF]
    split
    · refine List.nodup_cons.2 ⟨fun h => ?_, come_nodup r (s + 1)⟩
      have := ((come_mem r (s + 1) s).1 h).1
      omega
    · exact come_nodup r (s + 1)
def kraftN (ls : List Nat) (D : Nat) : Nat := (ls.map fun n => if n = 0 then 0 else 2 ^ (D - n)).sum
theorem kraft_count (ls : List Nat) (D m : Nat) : ∀ k, ((ls.filter fun n => decide (1 ≤ n ∧ n ≤ k)).map fun n => 2 ^ (D - n)).sum = ((List.range k).map fun i => ls.count (i + 1) * 2 ^ (D - (i + 1))).sum
  | 0 => by
    have : (ls.filter fun n => decide (1 ≤ n ∧ n ≤ 0)) = [] := by
      rw [List.filter_eq_nil_iff]
      intro a _ h
      simp at h
      omega
    rw [this]; rfl
  | k + 1 => by
    rw [List.range_succ, List.map_append, List.sum_append, ← kraft_count ls D m k, List.map_singleton, List.sum_singleton]
    induction ls with
    | nil => simp
    | cons a r ih =>
      rw [List.filter_cons, List.filter_cons, List.count_cons]
      by_cases h1 : a = k + 1
      · subst h1
        rw [if_pos (by simp), if_neg (by simp), if_pos (by simp), List.map_cons, List.sum_cons, ih, Nat.add_mul]
        omega
      · have e0 : (if (a == k + 1) = true then 1 else 0) = 0 := if_neg (by simpa using h1)
        simp only [e0, Nat.add_zero]
        by_cases h2 : 1 ≤ a ∧ a ≤ k
        · rw [if_pos (by simp; omega), if_pos (by simpa using h2), List.map_cons, List.sum_cons, List.map_cons, List.sum_cons, ih]
          omega
        · rw [if_neg (by simp; omega), if_neg (by simpa using h2), ih]
theorem endC_sum (ls : List Nat) (D : Nat) : ∀ n, 1 ≤ n → n ≤ D → endC ls n * 2 ^ (D - n) = ((List.range n).map fun i => ls.count (i + 1) * 2 ^ (D - (i + 1))).sum
  | 0, h, _ => by omega
  | 1, _, h => by
    rw [endC, firstC, firstC]
    simp
  | n + 2, _, h => by
    rw [List.range_succ, List.map_append, List.sum_append, ← endC_sum ls D (n + 1) (by omega) (by omega), endC, firstC_succ ls (n + 1) (by omega), Nat.add_mul, List.map_singleton, List.sum_singleton]
    have e : D - (n + 1) = (D - (n + 2)) + 1 := by omega
    rw [e, Nat.pow_succ]
    congr 1
    rw [Nat.mul_comm 2 (endC ls (n + 1)), Nat.mul_assoc, Nat.mul_comm 2]
theorem filter_sum_le (ls : List Nat) (D k : Nat) : ((ls.filter fun n => decide (1 ≤ n ∧ n ≤ k)).map fun n => 2 ^ (D - n)).sum ≤ kraftN ls D := by
  induction ls with
  | nil => exact Nat.le_refl _
  | cons a r ih =>
    rw [kraftN, List.map_cons, List.sum_cons, List.filter_cons]
    have ih2 : _ ≤ (r.map fun n => if n = 0 then 0 else 2 ^ (D - n)).sum := ih
    split
    · rename_i h
      have h2 : 1 ≤ a ∧ a ≤ k := by simpa using h
      rw [List.map_cons, List.sum_cons, if_neg (by omega)]
      omega
    · omega
/-- Lengths whose sum fits are codes. -/
theorem codeOk_of (ls : List Nat) (h1 : ∀ n ∈ ls, n ≤ 15) (h2 : kraftN ls 15 ≤ 2 ^ 15) : codeOk ls := by
  refine ⟨h1, fun n hn hm => ?_⟩
  have h3 := filter_sum_le ls 15 n
  rw [kraft_count ls 15 0 n, ← endC_sum ls 15 n hn hm] at h3
  have h4 : endC ls n * 2 ^ (15 - n) ≤ 2 ^ n * 2 ^ (15 - n) := by
    rw [← Nat.pow_add, show n + (15 - n) = 15 by omega]; omega
  exact Nat.le_of_mul_le_mul_right h4 (Nat.two_pow_pos _)
end Go.Proofs.YtbchaomnjbkdhaaGreat
namespace Go.Proofs.YtbchaomnjbkdhaaGreat
open Go.Sort
set_option linter.unusedVariables false
theorem swo_asymm {α : Type} {lt : α → α → Bool} (h : SWO lt) {x y : α} (e : lt x y = true) : lt y x = false := by
  cases hyx : lt y x with
  | false => rfl
  | true => have := h.trans x y x e hyx; rw [h.irrefl] at this; cases this
variable {α : Type} [Inhabited α]
/-- k rounds of swapping two ranges. -/
def swapR (a b : Nat) : Nat → Array α → Array α
  | 0, d => d
  | k + 1, d => swp (swapR a b k d) (a + k) (b + k)
theorem swapR_size (a b : Nat) : ∀ k (d : Array α), (swapR a b k d).size = d.size
  | 0, d => rfl
  | k + 1, d => by rw [swapR, size_swp, swapR_size a b k d]
/-- The value at a place behind it. -/
theorem swapR_at (a b : Nat) (d : Array α) : ∀ k, a + k ≤ b → b + k ≤ d.size → ∀ p, (swapR a b k d)[p]! = if a ≤ p ∧ p < a + k then d[p + (b - a)]! else if b ≤ p ∧ p < b + k then d[p - (b - a)]! else d[p]!
  | 0, _, _, p => by rw [swapR, if_neg (by omega), if_neg (by omega)]
  | k + 1, h1, h2, p => by
    have ih := swapR_at a b d k (by omega) (by omega)
    have hs := swapR_size a b k d
    rw [swapR]
    by_cases ha : p = a + k
    · subst ha
      rw [swp_left _ _ _ (by omega) (by omega), ih (b + k), if_neg (by omega), if_neg (by omega), if_pos (by omega)]
      congr 1; omega
    · by_cases hb : p = b + k
      · subst hb
        rw [swp_right _ _ _ (by omega), ih (a + k), if_neg (by omega), if_neg (by omega), if_neg (by omega), if_pos (by omega)]
        congr 1; omega
      · rw [swp_other _ _ _ _ ha hb, ih p]
        by_cases c1 : a ≤ p ∧ p < a + k
        · rw [if_pos c1, if_pos (by omega)]
        · rw [if_neg c1, if_neg (show ¬ (a ≤ p ∧ p < a + (k + 1)) by omega)]
          by_cases c2 : b ≤ p ∧ p < b + k
          · rw [if_pos c2, if_pos (by omega)]
          · rw [if_neg c2, if_neg (by omega)]
theorem swapR_perm (a b A B : Nat) (d : Array α) : ∀ k, A ≤ a → a + k ≤ B → A ≤ b → b + k ≤ B → B ≤ d.size → PermIn A B d (swapR a b k d)
  | 0, _, _, _, _, _ => permIn_refl d A B
  | k + 1, h1, h2, h3, h4, h5 => permIn_trans _ _ _ _ _ (swapR_perm a b A B d k h1 (by omega) h3 (by omega) h5) (swp_permIn _ A B _ _ (by omega) (by omega) (by omega) (by omega) (by rw [swapR_size]; exact h5))
/-- Two neighbouring ranges change places. -/
def rotL (m : Nat) : Nat → Nat → Nat → Array α → Array α
  | 0, _, _, d => d
  | f + 1, i, j, d => if i = j then swapR (m - i) m i d else if j < i then rotL m f (i - j) j (swapR (m - i) m j d) else rotL m f i (j - i) (swapR (m - i) (m + j - i) i d)
def rotate (d : Array α) (a m b : Nat) : Array α := rotL m (b - a) (m - a) (b - m) d
/-- Behind it. -/
theorem rotL_spec (m : Nat) : ∀ f i j (d : Array α), 1 ≤ i → 1 ≤ j → i + j ≤ f → i ≤ m → m + j ≤ d.size →
    PermIn (m - i) (m + j) d (rotL m f i j d) ∧ ∀ p, (rotL m f i j d)[p]! = if m - i ≤ p ∧ p < m - i + j then d[p + i]! else if m - i + j ≤ p ∧ p < m + j then d[p - j]! else d[p]!
  | 0, i, j, d, h1, h2, h3, _, _ => by omega
  | f + 1, i, j, d, h1, h2, h3, h4, h5 => by
    rw [rotL]
    by_cases hij : i = j
    · subst hij
      rw [if_pos rfl]
      refine ⟨swapR_perm _ _ _ _ d i (Nat.le_refl _) (by omega) (by omega) (Nat.le_refl _) h5, fun p => ?_⟩
      rw [swapR_at (m - i) m d i (by omega) h5 p]
      by_cases c1 : m - i ≤ p ∧ p < m - i + i
      · rw [if_pos c1, if_pos c1]; congr 1; omega
      · rw [if_neg c1, if_neg c1]
        by_cases c2 : m ≤ p ∧ p < m + i
        · rw [if_pos c2, if_pos (by omega)]; congr 1; omega
        · rw [if_neg c2, if_neg (by omega)]
    · rw [if_neg hij]
      by_cases hji : j < i
      · rw [if_pos hji]
        have hs := swapR_size (m - i) m j d
        obtain ⟨q1, q2⟩ := rotL_spec m f (i - j) j (swapR (m - i) m j d) (by omega) h2 (by omega) (by omega) (by omega)
        have hp := swapR_perm (m - i) m (m - i) (m + j) d j (Nat.le_refl _) (by omega) (by omega) (Nat.le_refl _) h5
        refine ⟨permIn_trans _ _ _ _ _ hp (permIn_mono _ _ _ _ _ _ (by omega) (Nat.le_refl _) (by omega) q1), fun p => ?_⟩
        rw [q2 p]
        have hw := swapR_at (m - i) m d j (by omega) h5
        by_cases c1 : m - (i - j) ≤ p ∧ p < m - (i - j) + j
        · rw [if_pos c1, hw]
          by_cases c3 : m ≤ p + (i - j) ∧ p + (i - j) < m + j
          · rw [if_neg (by omega), if_pos c3, if_neg (by omega), if_pos (by omega)]
            congr 1; omega
          · omega
        · rw [if_neg c1]
          by_cases c2 : m - (i - j) + j ≤ p ∧ p < m + j
          · rw [if_pos c2, hw, if_neg (by omega), if_neg (by omega), if_neg (by omega), if_pos (by omega)]
          · rw [if_neg c2, hw]
            by_cases c4 : m - i ≤ p ∧ p < m - i + j
            · rw [if_pos c4, if_pos c4]; congr 1; omega
            · rw [if_neg c4, if_neg c4, if_neg (by omega), if_neg (by omega)]
      · rw [if_neg hji]
        have hs := swapR_size (m - i) (m + j - i) i d
        obtain ⟨q1, q2⟩ := rotL_spec m f i (j - i) (swapR (m - i) (m + j - i) i d) h1 (by omega) (by omega) h4 (by omega)
        have hp := swapR_perm (m - i) (m + j - i) (m - i) (m + j) d i (Nat.le_refl _) (by omega) (by omega) (by omega) h5
        refine ⟨permIn_trans _ _ _ _ _ hp (permIn_mono _ _ _ _ _ _ (by omega) (by omega) (by omega) q1), fun p => ?_⟩
        rw [q2 p]
        have hw := swapR_at (m - i) (m + j - i) d i (by omega) (by omega)
        by_cases c1 : m - i ≤ p ∧ p < m - i + (j - i)
        · rw [if_pos c1, hw, if_neg (by omega), if_neg (by omega), if_pos (by omega)]
        · rw [if_neg c1]
          by_cases c2 : m - i + (j - i) ≤ p ∧ p < m + (j - i)
          · rw [if_pos c2, hw]
            by_cases c3 : m - i ≤ p - (j - i) ∧ p - (j - i) < m - i + i
            · rw [if_pos c3]
              by_cases c5 : p < m - i + j
              · rw [if_pos (by omega)]; congr 1; omega
              · omega
            · omega
          · rw [if_neg c2, hw]
            by_cases c4 : m + j - i ≤ p ∧ p < m + j - i + i
            · rw [if_neg (by omega), if_pos c4, if_neg (by omega), if_pos (by omega)]
              congr 1; omega
            · rw [if_neg (by omega), if_neg c4, if_neg (by omega), if_neg (by omega)]
theorem rotate_spec (d : Array α) (a m b : Nat) (h1 : a < m) (h2 : m < b) (h3 : b ≤ d.size) :
    PermIn a b d (rotate d a m b) ∧ ∀ p, (rotate d a m b)[p]! = if a ≤ p ∧ p < a + (b - m) then d[p + (m - a)]! else if a + (b - m) ≤ p ∧ p < b then d[p - (b - m)]! else d[p]! := by
  have h := rotL_spec m (b - a) (m - a) (b - m) d (by omega) (by omega) (by omega) (by omega) (by omega)
  have e1 : m - (m - a) = a := by omega
  have e2 : m + (b - m) = b := by omega
  rw [e1, e2] at h
  exact h
/-- The first place of which it doesn't hold any more, by halves. -/
def bsF (p : Nat → Bool) : Nat → Nat → Nat → Nat
  | 0, i, _ => i
  | f + 1, i, j => if i < j then if p ((i + j) / 2) = true then bsF p f ((i + j) / 2 + 1) j else bsF p f i ((i + j) / 2) else i
theorem bsF_spec (p : Nat → Bool) : ∀ f i j, i ≤ j → j ≤ i + f → i ≤ bsF p f i j ∧ bsF p f i j ≤ j ∧ (bsF p f i j = i ∨ p (bsF p f i j - 1) = true) ∧ (bsF p f i j = j ∨ p (bsF p f i j) = false)
  | 0, i, j, h1, h2 => by rw [bsF]; exact ⟨Nat.le_refl _, h1, .inl rfl, .inl (by omega)⟩
  | f + 1, i, j, h1, h2 => by
    rw [bsF]
    by_cases h : i < j
    · rw [if_pos h]
      obtain ⟨k, hk⟩ : ∃ k, k = (i + j) / 2 := ⟨_, rfl⟩
      rw [← hk]
      by_cases hp : p k = true
      · rw [if_pos hp]
        obtain ⟨q1, q2, q3, q4⟩ := bsF_spec p f (k + 1) j (by omega) (by omega)
        refine ⟨by omega, q2, ?_, q4⟩
        rcases q3 with q3 | q3
        · right; rw [q3, Nat.add_sub_cancel]; exact hp
        · exact .inr q3
      · rw [if_neg hp]
        obtain ⟨q1, q2, q3, q4⟩ := bsF_spec p f i k (by omega) (by omega)
        refine ⟨q1, by omega, q3, ?_⟩
        rcases q4 with q4 | q4
        · right; rw [q4]; simpa using hp
        · exact .inr q4
    · rw [if_neg h]
      exact ⟨Nat.le_refl _, h1, .inl rfl, .inl (by omega)⟩
/-- An element goes up (down) by so many places. -/
def upL : Nat → Nat → Array α → Array α
  | 0, _, d => d
  | k + 1, a, d => upL k (a + 1) (swp d a (a + 1))
def downL : Nat → Nat → Array α → Array α
  | 0, _, d => d
  | k + 1, m, d => downL k (m - 1) (swp d m (m - 1))
theorem upL_spec : ∀ k a (d : Array α), a + k < d.size → PermIn a (a + k + 1) d (upL k a d) ∧ ∀ p, (upL k a d)[p]! = if a ≤ p ∧ p < a + k then d[p + 1]! else if p = a + k then d[a]! else d[p]!
  | 0, a, d, h => by
    refine ⟨permIn_refl _ _ _, fun p => ?_⟩
    rw [upL, if_neg (by omega)]
    by_cases hp : p = a + 0
    · rw [if_pos hp, hp]; rfl
    · rw [if_neg hp]
  | k + 1, a, d, h => by
    rw [upL]
    have hs := size_swp d a (a + 1)
    obtain ⟨q1, q2⟩ := upL_spec k (a + 1) (swp d a (a + 1)) (by omega)
    refine ⟨permIn_trans _ _ _ _ _ (swp_permIn d a (a + (k + 1) + 1) a (a + 1) (Nat.le_refl _) (by omega) (by omega) (by omega) (by omega)) (permIn_mono _ _ _ _ _ _ (by omega) (by omega) (by omega) q1), fun p => ?_⟩
    rw [q2 p]
    by_cases c0 : p = a
    · subst c0
      rw [if_neg (by omega), if_neg (by omega), if_pos (by omega), swp_left _ _ _ (by omega) (by omega)]
    · by_cases c1 : a + 1 ≤ p ∧ p < a + 1 + k
      · rw [if_pos c1, if_pos (by omega), swp_other _ _ _ _ (by omega) (by omega)]
      · rw [if_neg c1, if_neg (show ¬ (a ≤ p ∧ p < a + (k + 1)) by omega)]
        by_cases c2 : p = a + 1 + k
        · rw [if_pos c2, if_pos (by omega), swp_right _ _ _ (by omega)]
        · rw [if_neg c2, if_neg (by omega), swp_other _ _ _ _ (by omega) (by omega)]
theorem downL_spec : ∀ k m (d : Array α), k ≤ m → m < d.size → PermIn (m - k) (m + 1) d (downL k m d) ∧ ∀ p, (downL k m d)[p]! = if m - k < p ∧ p ≤ m then d[p - 1]! else if p = m - k then d[m]! else d[p]!
  | 0, m, d, h1, h2 => by
    refine ⟨permIn_refl _ _ _, fun p => ?_⟩
    rw [downL, if_neg (by omega)]
    by_cases hp : p = m - 0
    · rw [if_pos hp, hp]; rfl
    · rw [if_neg hp]
  | k + 1, m, d, h1, h2 => by
    rw [downL]
    have hs := size_swp d m (m - 1)
    obtain ⟨q1, q2⟩ := downL_spec k (m - 1) (swp d m (m - 1)) (by omega) (by omega)
    have e : m - 1 - k = m - (k + 1) := by omega
    rw [e] at q1 q2
    refine ⟨permIn_trans _ _ _ _ _ (swp_permIn d (m - (k + 1)) (m + 1) m (m - 1) (by omega) (by omega) (by omega) (by omega) (by omega)) (permIn_mono _ _ _ _ _ _ (by omega) (by omega) (by omega) q1), fun p => ?_⟩
    rw [q2 p]
    by_cases c0 : p = m
    · subst c0
      rw [if_neg (by omega), if_neg (by omega), if_pos (by omega), swp_left _ _ _ (by omega) (by omega)]
    · by_cases c1 : m - (k + 1) < p ∧ p ≤ m - 1
      · rw [if_pos c1, if_pos (by omega), swp_other _ _ _ _ (by omega) (by omega)]
      · rw [if_neg c1, if_neg (show ¬ (m - (k + 1) < p ∧ p ≤ m) by omega)]
        by_cases c2 : p = m - (k + 1)
        · rw [if_pos c2, if_pos c2, swp_right _ _ _ (by omega)]
        · rw [if_neg c2, if_neg c2, swp_other _ _ _ _ (by omega) (by omega)]
section
variable (lt : α → α → Bool)
/-- Where the two ranges are cut. -/
def symAt (d : Array α) (a m b : Nat) : Nat :=
  let mid := (a + b) / 2
  let n := mid + m
  if mid < m then bsF (fun c => !lt d[n - 1 - c]! d[c]!) (b - a) (n - b) mid else bsF (fun c => !lt d[n - 1 - c]! d[c]!) (b - a) a m
def symRot (d : Array α) (a m b : Nat) : Array α :=
  if symAt lt d a m b < m ∧ m < (a + b) / 2 + m - symAt lt d a m b then rotate d (symAt lt d a m b) m ((a + b) / 2 + m - symAt lt d a m b) else d
def symF : Nat → Array α → Nat → Nat → Nat → Array α
  | 0, d, _, _, _ => d
  | f + 1, d, a, m, b =>
    if m - a = 1 then upL (bsF (fun h => lt d[h]! d[a]!) (b - a) m b - 1 - a) a d
    else if b - m = 1 then downL (m - bsF (fun h => !lt d[m]! d[h]!) (b - a) a m) m d
    else
      let s := symAt lt d a m b
      let mid := (a + b) / 2
      let e := mid + m - s
      let d1 := symRot lt d a m b
      let d2 := if a < s ∧ s < mid then symF f d1 a s mid else d1
      if mid < e ∧ e < b then symF f d2 mid e b else d2
end
variable {lt : α → α → Bool}
theorem srt_sub {a b a' b' : Nat} {d : Array α} (h : SortedIn lt a b d) (h1 : a ≤ a') (h2 : b' ≤ b) : SortedIn lt a' b' d := fun i j hi hij hj => h i j (by omega) hij (by omega)
theorem sorted_one (lt : α → α → Bool) {a b : Nat} (d : Array α) (h : b ≤ a + 1) : SortedIn lt a b d := fun i j hi hij hj => by omega
theorem sorted_two {a m b : Nat} {d : Array α} (hL : SortedIn lt a m d) (hR : SortedIn lt m b d) (hX : ∀ i j, a ≤ i → i < m → m ≤ j → j < b → lt d[j]! d[i]! = false) : SortedIn lt a b d := by
  intro i j hi hij hj
  by_cases h1 : j < m
  · exact hL i j hi hij h1
  · by_cases h2 : i < m
    · exact hX i j hi h2 (by omega) hj
    · exact hR i j (by omega) hij hj
theorem srt_same {a b : Nat} {d d' : Array α} (h : SortedIn lt a b d) (he : ∀ p, a ≤ p → p < b → d'[p]! = d[p]!) : SortedIn lt a b d' := fun i j hi hij hj => by
  rw [he i hi (by omega), he j (by omega) hj]; exact h i j hi hij hj
theorem srt_moved {a b : Nat} {d d' : Array α} {k : Nat} (h : SortedIn lt a b d) {a' b' : Nat} (he : ∀ p, a' ≤ p → p < b' → d'[p]! = d[p + k]! ∧ a ≤ p + k ∧ p + k < b) : SortedIn lt a' b' d' := fun i j hi hij hj => by
  rw [(he i hi (by omega)).1, (he j (by omega) hj).1]
  exact h _ _ (he i hi (by omega)).2.1 (by omega) (he j (by omega) hj).2.2
theorem srt_back {a b : Nat} {d d' : Array α} {k : Nat} (h : SortedIn lt a b d) {a' b' : Nat} (he : ∀ p, a' ≤ p → p < b' → d'[p]! = d[p - k]! ∧ k ≤ p ∧ a ≤ p - k ∧ p - k < b) : SortedIn lt a' b' d' := fun i j hi hij hj => by
  have hk := (he i hi (by omega)).2.1
  rw [(he i hi (by omega)).1, (he j (by omega) hj).1]
  exact h _ _ (he i hi (by omega)).2.2.1 (by omega) (he j (by omega) hj).2.2.2
theorem symAt_spec (d : Array α) (a m b : Nat) (h1 : a + 1 < m) (h2 : m + 1 < b) :
    a ≤ symAt lt d a m b ∧ symAt lt d a m b ≤ m ∧ symAt lt d a m b ≤ (a + b) / 2 ∧ m ≤ (a + b) / 2 + m - symAt lt d a m b ∧ (a + b) / 2 + m - symAt lt d a m b ≤ b ∧
    (symAt lt d a m b = a ∨ (a + b) / 2 + m - symAt lt d a m b = b ∨ lt d[(a + b) / 2 + m - symAt lt d a m b]! d[symAt lt d a m b - 1]! = false) ∧
    (symAt lt d a m b = m ∨ (a + b) / 2 + m - symAt lt d a m b = m ∨ lt d[(a + b) / 2 + m - symAt lt d a m b - 1]! d[symAt lt d a m b]! = true) := by
  unfold symAt
  dsimp only
  by_cases hc : (a + b) / 2 < m
  · rw [if_pos hc]
    have h := bsF_spec (fun c => !lt d[(a + b) / 2 + m - 1 - c]! d[c]!) (b - a) ((a + b) / 2 + m - b) ((a + b) / 2) (by omega) (by omega)
    generalize bsF (fun c => !lt d[(a + b) / 2 + m - 1 - c]! d[c]!) (b - a) ((a + b) / 2 + m - b) ((a + b) / 2) = s at h ⊢
    obtain ⟨q1, q2, q3, q4⟩ := h
    refine ⟨by omega, by omega, by omega, by omega, by omega, ?_, ?_⟩
    · rcases q3 with q3 | q3
      · right; left; omega
      · by_cases hs : s = a
        · exact .inl hs
        · right; right
          have e : (a + b) / 2 + m - 1 - (s - 1) = (a + b) / 2 + m - s := by omega
          rw [e] at q3
          simpa using q3
    · rcases q4 with q4 | q4
      · right; left; omega
      · right; right
        have e : (a + b) / 2 + m - 1 - s = (a + b) / 2 + m - s - 1 := by omega
        rw [e] at q4
        simpa using q4
  · rw [if_neg hc]
    have h := bsF_spec (fun c => !lt d[(a + b) / 2 + m - 1 - c]! d[c]!) (b - a) a m (by omega) (by omega)
    generalize bsF (fun c => !lt d[(a + b) / 2 + m - 1 - c]! d[c]!) (b - a) a m = s at h ⊢
    obtain ⟨q1, q2, q3, q4⟩ := h
    refine ⟨q1, q2, by omega, by omega, by omega, ?_, ?_⟩
    · rcases q3 with q3 | q3
      · exact .inl q3
      · by_cases hs : s = a
        · exact .inl hs
        · right; right
          have e : (a + b) / 2 + m - 1 - (s - 1) = (a + b) / 2 + m - s := by omega
          rw [e] at q3
          simpa using q3
    · rcases q4 with q4 | q4
      · exact .inl q4
      · right; right
        have e : (a + b) / 2 + m - 1 - s = (a + b) / 2 + m - s - 1 := by omega
        rw [e] at q4
        simpa using q4
/-- Behind the turning: four sorted ranges, those to the left of the middle none greater than those to the right. -/
theorem symRot_spec (hS : SWO lt) (d : Array α) (a m b : Nat) (h1 : a + 1 < m) (h2 : m + 1 < b) (h3 : b ≤ d.size) (hL : SortedIn lt a m d) (hR : SortedIn lt m b d) :
    PermIn a b d (symRot lt d a m b) ∧ SortedIn lt a (symAt lt d a m b) (symRot lt d a m b) ∧ SortedIn lt (symAt lt d a m b) ((a + b) / 2) (symRot lt d a m b) ∧
    SortedIn lt ((a + b) / 2) ((a + b) / 2 + m - symAt lt d a m b) (symRot lt d a m b) ∧ SortedIn lt ((a + b) / 2 + m - symAt lt d a m b) b (symRot lt d a m b) ∧
    ∀ i j, a ≤ i → i < (a + b) / 2 → (a + b) / 2 ≤ j → j < b → lt (symRot lt d a m b)[j]! (symRot lt d a m b)[i]! = false := by
  obtain ⟨g1, g2, g3, g4, g5, g6, g7⟩ := symAt_spec (lt := lt) d a m b h1 h2
  unfold symRot
  generalize symAt lt d a m b = s at *
  obtain ⟨e, he⟩ : ∃ e, e = (a + b) / 2 + m - s := ⟨_, rfl⟩
  rw [← he] at g4 g5 g6 g7 ⊢
  obtain ⟨mid, hmid⟩ : ∃ mid, mid = (a + b) / 2 := ⟨_, rfl⟩
  rw [← hmid] at g3 he ⊢
  -- what is left of the cut is none greater than what is right of it
  have hle : ∀ x y, (a ≤ x ∧ x < s ∨ m ≤ x ∧ x < e) → (s ≤ y ∧ y < m ∨ e ≤ y ∧ y < b) → lt d[y]! d[x]! = false := by
    intro x y hx hy
    rcases hx with ⟨x1, x2⟩ | ⟨x1, x2⟩
    · rcases hy with ⟨y1, y2⟩ | ⟨y1, y2⟩
      · exact hL x y x1 (by omega) y2
      · rcases g6 with g6 | g6 | g6
        · omega
        · omega
        · have k1 : lt d[s - 1]! d[x]! = false := by
            by_cases hxs : x = s - 1
            · rw [hxs]; exact hS.irrefl _
            · exact hL x (s - 1) x1 (by omega) (by omega)
          have k2 : lt d[y]! d[e]! = false := by
            by_cases hye : y = e
            · rw [hye]; exact hS.irrefl _
            · exact hR e y (by omega) (by omega) y2
          exact hS.ntrans _ _ _ k2 (hS.ntrans _ _ _ g6 k1)
    · rcases hy with ⟨y1, y2⟩ | ⟨y1, y2⟩
      · rcases g7 with g7 | g7 | g7
        · omega
        · omega
        · have k1 : lt d[e - 1]! d[x]! = false := by
            by_cases hxs : x = e - 1
            · rw [hxs]; exact hS.irrefl _
            · exact hR x (e - 1) x1 (by omega) (by omega)
          have k2 : lt d[y]! d[s]! = false := by
            by_cases hye : y = s
            · rw [hye]; exact hS.irrefl _
            · exact hL s y (by omega) (by omega) y2
          exact hS.ntrans _ _ _ k2 (hS.ntrans _ _ _ (swo_asymm hS g7) k1)
      · exact hR x y x1 (by omega) y2
  by_cases hc : s < m ∧ m < e
  · rw [if_pos hc]
    obtain ⟨r1, r2⟩ := rotate_spec d s m e hc.1 hc.2 (by omega)
    have em : s + (e - m) = mid := by omega
    rw [em] at r2
    refine ⟨permIn_mono _ _ _ _ _ _ g1 g5 h3 r1, ?_, ?_, ?_, ?_, ?_⟩
    · exact srt_same (srt_sub hL (Nat.le_refl _) g2) fun p p1 p2 => by rw [r2 p, if_neg (by omega), if_neg (by omega)]
    · exact srt_moved hR (k := m - s) fun p p1 p2 => ⟨by rw [r2 p, if_pos ⟨p1, p2⟩], by omega, by omega⟩
    · exact srt_back hL (k := e - m) fun p p1 p2 => ⟨by rw [r2 p, if_neg (by omega), if_pos ⟨p1, p2⟩], by omega, by omega, by omega⟩
    · exact srt_same (srt_sub hR (by omega) (Nat.le_refl _)) fun p p1 p2 => by rw [r2 p, if_neg (by omega), if_neg (by omega)]
    · intro i j i1 i2 j1 j2
      rw [r2 i, r2 j, if_neg (show ¬ (s ≤ j ∧ j < mid) by omega)]
      by_cases ci : s ≤ i ∧ i < mid
      · rw [if_pos ci]
        by_cases cj : mid ≤ j ∧ j < e
        · rw [if_pos cj]; exact hle _ _ (.inr ⟨by omega, by omega⟩) (.inl ⟨by omega, by omega⟩)
        · rw [if_neg cj]; exact hle _ _ (.inr ⟨by omega, by omega⟩) (.inr ⟨by omega, by omega⟩)
      · rw [if_neg ci, if_neg (show ¬ (mid ≤ i ∧ i < e) by omega)]
        by_cases cj : mid ≤ j ∧ j < e
        · rw [if_pos cj]; exact hle _ _ (.inl ⟨by omega, by omega⟩) (.inl ⟨by omega, by omega⟩)
        · rw [if_neg cj]; exact hle _ _ (.inl ⟨by omega, by omega⟩) (.inr ⟨by omega, by omega⟩)
  · rw [if_neg hc]
    have hsm : (s = m ∧ e = mid) ∨ (e = m ∧ s = mid) := by omega
    refine ⟨permIn_refl _ _ _, srt_sub hL (Nat.le_refl _) g2, ?_, ?_, srt_sub hR g4 (Nat.le_refl _), ?_⟩
    · rcases hsm with ⟨k1, k2⟩ | ⟨k1, k2⟩
      · exact srt_sub hR (by omega) (by omega)
      · exact sorted_one lt d (by omega)
    · rcases hsm with ⟨k1, k2⟩ | ⟨k1, k2⟩
      · exact sorted_one lt d (by omega)
      · exact srt_sub hL (by omega) (by omega)
    · intro i j i1 i2 j1 j2
      refine hle i j ?_ ?_
      · rcases hsm with ⟨k1, k2⟩ | ⟨k1, k2⟩
        · by_cases hi : i < s
          · exact .inl ⟨i1, hi⟩
          · exact .inr ⟨by omega, by omega⟩
        · exact .inl ⟨i1, by omega⟩
      · rcases hsm with ⟨k1, k2⟩ | ⟨k1, k2⟩
        · exact .inr ⟨by omega, j2⟩
        · by_cases hj : j < m
          · exact .inl ⟨by omega, hj⟩
          · exact .inr ⟨by omega, j2⟩
theorem srt_perm {a b : Nat} {d d' : Array α} (h : SortedIn lt a b d) {A B : Nat} (hp : PermIn A B d d') (hx : b ≤ A ∨ B ≤ a) : SortedIn lt a b d' :=
  srt_same h fun p p1 p2 => hp.2.1 p (by omega)
/-- Two sorted ranges merged: a permutation, sorted. -/
theorem symF_spec (hS : SWO lt) : ∀ f (d : Array α) a m b, a < m → m < b → b - a ≤ f → b ≤ d.size → SortedIn lt a m d → SortedIn lt m b d → PermIn a b d (symF lt f d a m b) ∧ SortedIn lt a b (symF lt f d a m b)
  | 0, d, a, m, b, h1, h2, h3, _, _, _ => by omega
  | f + 1, d, a, m, b, h1, h2, h3, h4, hL, hR => by
    rw [symF]
    by_cases c1 : m - a = 1
    · rw [if_pos c1]
      obtain ⟨q1, q2, q3, q4⟩ := bsF_spec (fun h => lt d[h]! d[a]!) (b - a) m b (by omega) (by omega)
      generalize bsF (fun h => lt d[h]! d[a]!) (b - a) m b = s at *
      obtain ⟨u1, u2⟩ := upL_spec (s - 1 - a) a d (by omega)
      have e : a + (s - 1 - a) = s - 1 := by omega
      rw [e] at u1 u2
      refine ⟨permIn_mono _ _ _ _ _ _ (Nat.le_refl _) (by omega) h4 u1, ?_⟩
      have hlow : ∀ k, m ≤ k → k < s → lt d[k]! d[a]! = true := by
        intro k k1 k2
        rcases q3 with q3 | q3
        · omega
        · cases hk : lt d[k]! d[a]! with
          | true => rfl
          | false =>
            have : lt d[s - 1]! d[k]! = false := by
              by_cases hks : k = s - 1
              · rw [hks]; exact hS.irrefl _
              · exact hR k (s - 1) k1 (by omega) (by omega)
            rw [hS.ntrans _ _ _ this hk] at q3; cases q3
      have hhigh : ∀ k, s ≤ k → k < b → lt d[k]! d[a]! = false := by
        intro k k1 k2
        rcases q4 with q4 | q4
        · omega
        · by_cases hks : k = s
          · rw [hks]; exact q4
          · exact hS.ntrans _ _ _ (hR s k (by omega) (by omega) k2) q4
      intro i j i1 ij j2
      by_cases ci : i < s - 1
      · rw [show (upL (s - 1 - a) a d)[i]! = d[i + 1]! by rw [u2 i, if_pos ⟨i1, ci⟩]]
        by_cases cj : j < s - 1
        · rw [u2 j, if_pos ⟨by omega, cj⟩]; exact hR _ _ (by omega) (by omega) (by omega)
        · by_cases cj2 : j = s - 1
          · rw [u2 j, if_neg (by omega), if_pos cj2]; exact swo_asymm hS (hlow _ (by omega) (by omega))
          · rw [u2 j, if_neg (by omega), if_neg cj2]; exact hR _ _ (by omega) (by omega) j2
      · rw [u2 j, if_neg (by omega), if_neg (by omega)]
        by_cases ci2 : i = s - 1
        · rw [u2 i, if_neg (by omega), if_pos ci2]; exact hhigh _ (by omega) j2
        · rw [u2 i, if_neg (by omega), if_neg ci2]; exact hR _ _ (by omega) ij j2
    · rw [if_neg c1]
      by_cases c2 : b - m = 1
      · rw [if_pos c2]
        obtain ⟨q1, q2, q3, q4⟩ := bsF_spec (fun h => !lt d[m]! d[h]!) (b - a) a m (by omega) (by omega)
        generalize bsF (fun h => !lt d[m]! d[h]!) (b - a) a m = s at *
        obtain ⟨u1, u2⟩ := downL_spec (m - s) m d (by omega) (by omega)
        have e : m - (m - s) = s := by omega
        rw [e] at u1 u2
        refine ⟨permIn_mono _ _ _ _ _ _ q1 (by omega) h4 u1, ?_⟩
        have hlow : ∀ k, a ≤ k → k < s → lt d[m]! d[k]! = false := by
          intro k k1 k2
          rcases q3 with q3 | q3
          · omega
          · have q3' : lt d[m]! d[s - 1]! = false := by simpa using q3
            by_cases hks : k = s - 1
            · rw [hks]; exact q3'
            · exact hS.ntrans _ _ _ q3' (hL k (s - 1) k1 (by omega) (by omega))
        have hhigh : ∀ k, s ≤ k → k < m → lt d[m]! d[k]! = true := by
          intro k k1 k2
          rcases q4 with q4 | q4
          · omega
          · have q4' : lt d[m]! d[s]! = true := by simpa using q4
            cases hk : lt d[m]! d[k]! with
            | true => rfl
            | false =>
              have : lt d[k]! d[s]! = false := by
                by_cases hks : k = s
                · rw [hks]; exact hS.irrefl _
                · exact hL s k (by omega) (by omega) k2
              rw [hS.ntrans _ _ _ hk this] at q4'; cases q4'
        intro i j i1 ij j2
        have hbm : b = m + 1 := by omega
        by_cases ci : i < s
        · rw [show (downL (m - s) m d)[i]! = d[i]! by rw [u2 i, if_neg (by omega), if_neg (by omega)]]
          by_cases cj : s < j ∧ j ≤ m
          · rw [u2 j, if_pos cj]; exact hL _ _ i1 (by omega) (by omega)
          · by_cases cj2 : j = s
            · rw [u2 j, if_neg cj, if_pos cj2]; exact hlow _ i1 ci
            · rw [u2 j, if_neg cj, if_neg cj2]; exact hL _ _ i1 ij (by omega)
        · rw [u2 j, if_pos (by omega)]
          by_cases ci2 : i = s
          · rw [u2 i, if_neg (by omega), if_pos ci2]
            exact swo_asymm hS (hhigh _ (by omega) (by omega))
          · rw [u2 i, if_pos (by omega)]
            exact hL _ _ (by omega) (by omega) (by omega)
      · rw [if_neg c2]
        obtain ⟨r1, r2, r3, r4, r5, r6⟩ := symRot_spec hS d a m b (by omega) (by omega) h4 hL hR
        obtain ⟨g1, g2, g3, g4, g5, -, -⟩ := symAt_spec (lt := lt) d a m b (by omega) (by omega)
        dsimp only
        generalize symRot lt d a m b = d1 at *
        generalize symAt lt d a m b = s at *
        obtain ⟨e, he⟩ : ∃ e, e = (a + b) / 2 + m - s := ⟨_, rfl⟩
        rw [← he] at g4 g5 r4 r5 ⊢
        obtain ⟨mid, hmid⟩ : ∃ mid, mid = (a + b) / 2 := ⟨_, rfl⟩
        rw [← hmid] at g3 he r3 r4 r6 ⊢
        have hs1 := r1.1
        -- the left half
        have hleft : PermIn a mid d1 (if a < s ∧ s < mid then symF lt f d1 a s mid else d1) ∧ SortedIn lt a mid (if a < s ∧ s < mid then symF lt f d1 a s mid else d1) := by
          by_cases hc : a < s ∧ s < mid
          · rw [if_pos hc]
            exact symF_spec hS f d1 a s mid hc.1 hc.2 (by omega) (by omega) r2 r3
          · rw [if_neg hc]
            refine ⟨permIn_refl _ _ _, ?_⟩
            by_cases hs : a < s
            · have : s = mid := by omega
              rw [this] at r2; exact r2
            · have : s = a := by omega
              rw [this] at r3; exact r3
        generalize (if a < s ∧ s < mid then symF lt f d1 a s mid else d1) = d2 at *
        obtain ⟨l1, l2⟩ := hleft
        have hs2 := l1.1
        have r4' := srt_perm r4 l1 (.inr (Nat.le_refl _))
        have r5' := srt_perm r5 l1 (.inr (by omega))
        have hright : PermIn mid b d2 (if mid < e ∧ e < b then symF lt f d2 mid e b else d2) ∧ SortedIn lt mid b (if mid < e ∧ e < b then symF lt f d2 mid e b else d2) := by
          by_cases hc : mid < e ∧ e < b
          · rw [if_pos hc]
            exact symF_spec hS f d2 mid e b hc.1 hc.2 (by omega) (by omega) r4' r5'
          · rw [if_neg hc]
            refine ⟨permIn_refl _ _ _, ?_⟩
            by_cases hs : mid < e
            · have : e = b := by omega
              rw [this] at r4'; exact r4'
            · have : e = mid := by omega
              rw [this] at r5'; exact r5'
        generalize (if mid < e ∧ e < b then symF lt f d2 mid e b else d2) = d3 at *
        obtain ⟨m1, m2⟩ := hright
        have hab : a ≤ mid ∧ mid ≤ b := by omega
        refine ⟨permIn_trans _ _ _ _ _ r1 (permIn_trans _ _ _ _ _ (permIn_mono _ _ _ _ _ _ (Nat.le_refl _) hab.2 (by omega) l1) (permIn_mono _ _ _ _ _ _ hab.1 (Nat.le_refl _) (by omega) m1)), ?_⟩
        refine sorted_two (m := mid) (srt_perm l2 m1 (.inl (Nat.le_refl _))) m2 ?_
        -- no later one is less
        have hx : ∀ i, a ≤ i → i < mid → ∀ j, mid ≤ j → j < b → lt d2[j]! d2[i]! = false := by
          intro i i1 i2 j j1 j2
          have e1 : d2[j]! = d1[j]! := l1.2.1 j (.inr j1)
          rw [e1]
          refine permIn_all d1 d2 a mid (fun x => lt d1[j]! x = false) (by omega) l1 ?_ i i1 i2
          intro i' i1' i2'
          exact r6 i' j i1' i2' j1 j2
        intro i j i1 i2 j1 j2
        have e1 : d3[i]! = d2[i]! := m1.2.1 i (.inl i2)
        rw [e1]
        refine permIn_all d2 d3 mid b (fun x => lt x d2[i]! = false) (by omega) m1 ?_ j j1 j2
        intro j' j1' j2'
        exact hx i i1 i2 j' j1' j2'
theorem symF_size (lt : α → α → Bool) : ∀ f (d : Array α) a m b, (symF lt f d a m b).size = d.size := by
  have hup : ∀ k a (d : Array α), (upL k a d).size = d.size := by
    intro k
    induction k with
    | zero => intro a d; rfl
    | succ k ih => intro a d; rw [upL, ih, size_swp]
  have hdown : ∀ k a (d : Array α), (downL k a d).size = d.size := by
    intro k
    induction k with
    | zero => intro a d; rfl
    | succ k ih => intro a d; rw [downL, ih, size_swp]
  have hrot : ∀ m f i j (d : Array α), (rotL m f i j d).size = d.size := by
    intro m f
    induction f with
    | zero => intro i j d; rfl
    | succ f ih =>
      intro i j d
      rw [rotL]
      split
      · exact swapR_size _ _ _ _
      · split
        · rw [ih, swapR_size]
        · rw [ih, swapR_size]
  have hsr : ∀ (d : Array α) a m b, (symRot lt d a m b).size = d.size := by
    intro d a m b
    unfold symRot
    split
    · exact hrot _ _ _ _ _
    · rfl
  intro f
  induction f with
  | zero => intro d a m b; rfl
  | succ f ih =>
    intro d a m b
    rw [symF]
    split
    · exact hup _ _ _
    · split
      · exact hdown _ _ _
      · dsimp only
        split
        · rw [ih]
          split
          · rw [ih, hsr]
          · exact hsr _ _ _ _
        · split
          · rw [ih, hsr]
          · exact hsr _ _ _ _
end Go.Proofs.YtbchaomnjbkdhaaGreat
namespace Go.Proofs.YtbchaomnjbkdhaaGreat
open Go.Sort
set_option linter.unusedVariables false
variable {α : Type} [Inhabited α]
section
variable (lt : α → α → Bool) (n : Nat)
def insB : Nat → Nat → Nat → Array α → Array α
  | 0, _, _, d => d
  | f + 1, a, b, d => if b ≤ n then insB f b (b + 20) (insertionSort lt d a b) else insertionSort lt d a n
def mrgB (z : Nat) : Nat → Nat → Nat → Array α → Array α
  | 0, _, _, d => d
  | f + 1, a, b, d => if b ≤ n then mrgB z f b (b + 2 * z) (symF lt n d a (a + z) b) else if a + z < n then symF lt n d a (a + z) n else d
def stbB : Nat → Nat → Array α → Array α
  | 0, _, d => d
  | f + 1, z, d => if z < n then stbB f (2 * z) (mrgB lt n z (n + 1) 0 (2 * z) d) else d
end
def stableA (lt : α → α → Bool) (d : Array α) : Array α := stbB lt d.size (d.size + 1) 20 (insB lt d.size (d.size + 1) 0 20 d)
/-- Blocks of z, each sorted. -/
def SB (lt : α → α → Bool) (n z : Nat) (d : Array α) : Prop := ∀ k, k * z < n → SortedIn lt (k * z) (min ((k + 1) * z) n) d
theorem insB_spec {lt : α → α → Bool} (hS : SWO lt) (n : Nat) : ∀ f k (d : Array α), k * 20 ≤ n → n < k * 20 + f → n ≤ d.size → (∀ j, j < k → SortedIn lt (j * 20) ((j + 1) * 20) d) →
    SB lt n 20 (insB lt n f (k * 20) (k * 20 + 20) d) ∧ PermIn 0 n d (insB lt n f (k * 20) (k * 20 + 20) d)
  | 0, k, d, h1, h2, h3, h4 => by omega
  | f + 1, k, d, h1, h2, h3, h4 => by
    rw [insB]
    by_cases hb : k * 20 + 20 ≤ n
    · rw [if_pos hb]
      obtain ⟨p1, p2⟩ := insertionSort_holds hS d (k * 20) (k * 20 + 20) (by omega) (by omega)
      have e : k * 20 + 20 = (k + 1) * 20 := by omega
      have hs := p1.1
      have ih := insB_spec hS n f (k + 1) (insertionSort lt d (k * 20) (k * 20 + 20)) (by omega) (by omega) (by omega) (by
        intro j hj
        by_cases hjk : j = k
        · subst hjk; rw [← e]; exact p2
        · exact srt_perm (h4 j (by omega)) p1 (.inl (by omega)))
      rw [← e] at ih
      exact ⟨ih.1, permIn_trans _ _ _ _ _ (permIn_mono _ _ _ _ _ _ (Nat.zero_le _) hb h3 p1) ih.2⟩
    · rw [if_neg hb]
      obtain ⟨p1, p2⟩ := insertionSort_holds hS d (k * 20) n h1 h3
      refine ⟨fun j hj => ?_, permIn_mono _ _ _ _ _ _ (Nat.zero_le _) (Nat.le_refl _) h3 p1⟩
      by_cases hjk : j < k
      · rw [Nat.min_eq_left (by omega)]
        exact srt_perm (h4 j hjk) p1 (.inl (by omega))
      · have : j = k := by omega
        subst this
        rw [Nat.min_eq_right (by omega)]
        exact p2
theorem mrgB_spec {lt : α → α → Bool} (hS : SWO lt) (n z : Nat) (hz : 1 ≤ z) : ∀ f k (d : Array α), k * (2 * z) ≤ n → n < k * (2 * z) + f → n ≤ d.size →
    (∀ j, j < k → SortedIn lt (j * (2 * z)) ((j + 1) * (2 * z)) d) → (∀ j, 2 * k ≤ j → j * z < n → SortedIn lt (j * z) (min ((j + 1) * z) n) d) →
    SB lt n (2 * z) (mrgB lt n z f (k * (2 * z)) (k * (2 * z) + 2 * z) d) ∧ PermIn 0 n d (mrgB lt n z f (k * (2 * z)) (k * (2 * z) + 2 * z) d)
  | 0, k, d, h1, h2, h3, h4, h5 => by omega
  | f + 1, k, d, h1, h2, h3, h4, h5 => by
    have e1 : 2 * k * z = k * (2 * z) := by rw [Nat.mul_comm 2 k, Nat.mul_assoc]
    have e2 : (2 * k + 1) * z = k * (2 * z) + z := by rw [Nat.add_mul, e1, Nat.one_mul]
    have e3 : (2 * k + 1 + 1) * z = k * (2 * z) + 2 * z := by rw [Nat.add_mul, e2, Nat.one_mul]; omega
    have e4 : (k + 1) * (2 * z) = k * (2 * z) + 2 * z := by rw [Nat.add_mul, Nat.one_mul]
    have hmono : ∀ i j : Nat, i ≤ j → i * (2 * z) ≤ j * (2 * z) := fun i j h => Nat.mul_le_mul_right _ h
    have hmono2 : ∀ i j : Nat, i ≤ j → i * z ≤ j * z := fun i j h => Nat.mul_le_mul_right _ h
    rw [mrgB]
    by_cases hb : k * (2 * z) + 2 * z ≤ n
    · rw [if_pos hb]
      have hL := h5 (2 * k) (Nat.le_refl _) (by omega)
      rw [e1, e2, Nat.min_eq_left (by omega)] at hL
      have hR := h5 (2 * k + 1) (by omega) (by omega)
      rw [e2, e3, Nat.min_eq_left (by omega)] at hR
      obtain ⟨p1, p2⟩ := symF_spec hS n d (k * (2 * z)) (k * (2 * z) + z) (k * (2 * z) + 2 * z) (by omega) (by omega) (by omega) (by omega) hL hR
      have hs := p1.1
      have ih := mrgB_spec hS n z hz f (k + 1) (symF lt n d (k * (2 * z)) (k * (2 * z) + z) (k * (2 * z) + 2 * z)) (by omega) (by omega) (by omega) (by
        intro j hj
        by_cases hjk : j = k
        · subst hjk; rw [e4]; exact p2
        · have := hmono (j + 1) k (by omega)
          exact srt_perm (h4 j (by omega)) p1 (.inl this)) (by
        intro j hj hjn
        have h1 := hmono2 (2 * k + 1 + 1) j (by omega)
        rw [e3] at h1
        exact srt_perm (h5 j (by omega) hjn) p1 (.inr h1))
      rw [e4] at ih
      exact ⟨ih.1, permIn_trans _ _ _ _ _ (permIn_mono _ _ _ _ _ _ (Nat.zero_le _) hb h3 p1) ih.2⟩
    · rw [if_neg hb]
      have hold : ∀ d' : Array α, PermIn (k * (2 * z)) n d d' → SortedIn lt (k * (2 * z)) n d' → SB lt n (2 * z) d' := by
        intro d' hp hso j hj
        by_cases hjk : j < k
        · have := hmono (j + 1) k (by omega)
          rw [Nat.min_eq_left (by omega)]
          exact srt_perm (h4 j hjk) hp (.inl this)
        · have : j = k := by
            rcases Nat.lt_or_ge k j with h | h
            · have := hmono (k + 1) j h
              omega
            · omega
          subst this
          rw [Nat.min_eq_right (by omega)]
          exact hso
      by_cases hm : k * (2 * z) + z < n
      · rw [if_pos hm]
        have hL := h5 (2 * k) (Nat.le_refl _) (by omega)
        rw [e1, e2, Nat.min_eq_left (by omega)] at hL
        have hR := h5 (2 * k + 1) (by omega) (by omega)
        rw [e2, e3, Nat.min_eq_right (by omega)] at hR
        obtain ⟨p1, p2⟩ := symF_spec hS n d (k * (2 * z)) (k * (2 * z) + z) n (by omega) (by omega) (by omega) h3 hL hR
        exact ⟨hold _ p1 p2, permIn_mono _ _ _ _ _ _ (Nat.zero_le _) (Nat.le_refl _) h3 p1⟩
      · rw [if_neg hm]
        refine ⟨hold d (permIn_refl _ _ _) ?_, permIn_refl _ _ _⟩
        by_cases hk : k * (2 * z) < n
        · have hL := h5 (2 * k) (Nat.le_refl _) (by omega)
          rw [e1, e2, Nat.min_eq_right (by omega)] at hL
          exact hL
        · exact sorted_one lt d (by omega)
theorem stbB_spec {lt : α → α → Bool} (hS : SWO lt) (n : Nat) : ∀ f z (d : Array α), 1 ≤ z → n < z + f → n ≤ d.size → SB lt n z d → SortedIn lt 0 n (stbB lt n f z d) ∧ PermIn 0 n d (stbB lt n f z d)
  | 0, z, d, h1, h2, h3, h4 => by
    have h5 : SortedIn lt 0 n d := by
      by_cases hn : 0 < n
      · have := h4 0 (by omega)
        rw [Nat.zero_mul, Nat.zero_add, Nat.one_mul, Nat.min_eq_right (by omega)] at this
        exact this
      · exact sorted_one lt d (by omega)
    exact ⟨h5, permIn_refl _ _ _⟩
  | f + 1, z, d, h1, h2, h3, h4 => by
    rw [stbB]
    by_cases hz : z < n
    · rw [if_pos hz]
      have hm := mrgB_spec hS n z h1 (n + 1) 0 d (by omega) (by omega) h3 (fun j hj => by omega) (fun j _ hj => h4 j hj)
      rw [Nat.zero_mul, Nat.zero_add] at hm
      have hs := hm.2.1
      obtain ⟨q1, q2⟩ := stbB_spec hS n f (2 * z) _ (by omega) (by omega) (by omega) hm.1
      exact ⟨q1, permIn_trans _ _ _ _ _ hm.2 q2⟩
    · rw [if_neg hz]
      refine ⟨?_, permIn_refl _ _ _⟩
      by_cases hn : 0 < n
      · have := h4 0 (by omega)
        rw [Nat.zero_mul, Nat.zero_add, Nat.one_mul, Nat.min_eq_right (by omega)] at this
        exact this
      · exact sorted_one lt d (by omega)
/-- The stable sort: a permutation, sorted. -/
theorem stable_spec {lt : α → α → Bool} (hS : SWO lt) (d : Array α) : SortedIn lt 0 d.size (stableA lt d) ∧ PermIn 0 d.size d (stableA lt d) := by
  unfold stableA
  have h1 := insB_spec hS d.size (d.size + 1) 0 d (by omega) (by omega) (Nat.le_refl _) (fun j hj => by omega)
  rw [Nat.zero_mul, Nat.zero_add] at h1
  have hs := h1.2.1
  obtain ⟨q1, q2⟩ := stbB_spec hS d.size (d.size + 1) 20 _ (by omega) (by omega) (by omega) h1.1
  exact ⟨q1, permIn_trans _ _ _ _ _ h1.2 q2⟩
/-- What holds of all stays so, however they are permuted. -/
def AllP (P : α → Prop) (d : Array α) : Prop := ∀ j, j < d.size → P d[j]!
theorem allP_perm {P : α → Prop} {a b : Nat} {d d' : Array α} (h : PermIn a b d d') (hb : b ≤ d.size) (hd : AllP P d) : AllP P d' := by
  intro j hj
  by_cases hc : a ≤ j ∧ j < b
  · exact permIn_all d d' a b P hb h (fun i _ h2 => hd i (by omega)) j hc.1 hc.2
  · rw [h.2.1 j (by omega)]
    exact hd j (by rw [← h.1]; exact hj)
theorem allP_swp {P : α → Prop} {d : Array α} {i j : Nat} (hi : i < d.size) (hj : j < d.size) (hd : AllP P d) : AllP P (swp d i j) :=
  allP_perm (swp_permIn d 0 d.size i j (Nat.zero_le _) hi (Nat.zero_le _) hj (Nat.le_refl _)) (Nat.le_refl _) hd
theorem symRot_perm (lt : α → α → Bool) (d : Array α) (a m b : Nat) (h1 : a + 1 < m) (h2 : m + 1 < b) (h3 : b ≤ d.size) : PermIn a b d (symRot lt d a m b) := by
  obtain ⟨g1, g2, g3, g4, g5, -, -⟩ := symAt_spec (lt := lt) d a m b h1 h2
  unfold symRot
  split
  · rename_i hc
    exact permIn_mono _ _ _ _ _ _ g1 g5 h3 (rotate_spec d _ m _ hc.1 hc.2 (by omega)).1
  · exact permIn_refl _ _ _
theorem symF_perm (lt : α → α → Bool) : ∀ f (d : Array α) a m b, a < m → m < b → b ≤ d.size → PermIn a b d (symF lt f d a m b)
  | 0, d, a, m, b, _, _, _ => permIn_refl _ _ _
  | f + 1, d, a, m, b, h1, h2, h3 => by
    rw [symF]
    split
    · rename_i c1
      obtain ⟨q1, q2, -, -⟩ := bsF_spec (fun h => lt d[h]! d[a]!) (b - a) m b (by omega) (by omega)
      refine permIn_mono _ _ _ _ _ _ (Nat.le_refl _) ?_ h3 (upL_spec _ a d (by omega)).1
      omega
    · split
      · rename_i c2
        obtain ⟨q1, q2, -, -⟩ := bsF_spec (fun h => !lt d[m]! d[h]!) (b - a) a m (by omega) (by omega)
        refine permIn_mono _ _ _ _ _ _ ?_ ?_ h3 (downL_spec _ m d (by omega) (by omega)).1
        · omega
        · omega
      · have r1 := symRot_perm lt d a m b (by omega) (by omega) h3
        obtain ⟨g1, g2, g3, g4, g5, -, -⟩ := symAt_spec (lt := lt) d a m b (by omega) (by omega)
        dsimp only
        generalize symRot lt d a m b = d1 at *
        generalize symAt lt d a m b = s at *
        have hs1 := r1.1
        have hab : a ≤ (a + b) / 2 ∧ (a + b) / 2 ≤ b := by omega
        have hl : PermIn a ((a + b) / 2) d1 (if a < s ∧ s < (a + b) / 2 then symF lt f d1 a s ((a + b) / 2) else d1) := by
          split
          · rename_i hc; exact symF_perm lt f d1 a s _ hc.1 hc.2 (by omega)
          · exact permIn_refl _ _ _
        generalize (if a < s ∧ s < (a + b) / 2 then symF lt f d1 a s ((a + b) / 2) else d1) = d2 at *
        have hs2 := hl.1
        have hr : PermIn ((a + b) / 2) b d2 (if (a + b) / 2 < (a + b) / 2 + m - s ∧ (a + b) / 2 + m - s < b then symF lt f d2 ((a + b) / 2) ((a + b) / 2 + m - s) b else d2) := by
          split
          · rename_i hc; exact symF_perm lt f d2 _ _ b hc.1 hc.2 (by omega)
          · exact permIn_refl _ _ _
        exact permIn_trans _ _ _ _ _ r1 (permIn_trans _ _ _ _ _ (permIn_mono _ _ _ _ _ _ (Nat.le_refl _) hab.2 (by omega) hl) (permIn_mono _ _ _ _ _ _ hab.1 (Nat.le_refl _) (by omega) hr))
end Go.Proofs.YtbchaomnjbkdhaaGreat
namespace Go.Proofs.YtbchaomnjbkdhaaGreat
open Go.Sort
set_option linter.unusedVariables false
instance : Inhabited Hp := ⟨.leaf 0 0⟩
def ltH (a b : Hp) : Bool := decide (a.cnt < b.cnt)
theorem swoH : SWO ltH := by
  refine ⟨fun x => by simp [ltH], fun x y z h1 h2 => ?_, fun x y z h1 h2 => ?_⟩
  · simp only [ltH, decide_eq_true_eq] at *; omega
  · simp only [ltH, decide_eq_false_iff_not] at *; omega
def treeF : Nat → List Hp → Hp
  | 0, l => l.headD default
  | f + 1, l =>
    if 1 < l.length then treeF f ((stableA ltH l.toArray).toList.drop 2 ++ [.node (min ((stableA ltH l.toArray)[0]!.cnt + (stableA ltH l.toArray)[1]!.cnt) (2 ^ 40)) (stableA ltH l.toArray)[0]! (stableA ltH l.toArray)[1]!])
    else l.headD default
/-- What the sort makes: the same heaps, in order. -/
theorem sorted_list (l : List Hp) : (stableA ltH l.toArray).size = l.length ∧ (stableA ltH l.toArray).toList.Perm l ∧ (stableA ltH l.toArray).toList.Pairwise (fun a b => a.cnt ≤ b.cnt) := by
  obtain ⟨h1, h2⟩ := stable_spec swoH l.toArray
  have hz : (stableA ltH l.toArray).size = l.length := by rw [h2.1]; simp
  refine ⟨hz, ?_, ?_⟩
  · have h3 := h2.2.2
    rw [show (stableA ltH l.toArray).extract 0 l.toArray.size = stableA ltH l.toArray from by rw [← h2.1]; exact Array.extract_size .., show l.toArray.extract 0 l.toArray.size = l.toArray from Array.extract_size ..] at h3
    simpa using h3
  · rw [List.pairwise_iff_getElem]
    intro i j hi hj hij
    have hj2 : j < l.length := by simpa [hz] using hj
    have := h1 i j (Nat.zero_le _) hij (by simpa using hj2)
    simp only [ltH, decide_eq_false_iff_not] at this
    rw [getElem!_pos _ i (by simpa using hi), getElem!_pos _ j (by simpa using hj)] at this
    simp only [Array.getElem_toList]
    omega
theorem two_heads (l : List Hp) (h : 1 < l.length) : (stableA ltH l.toArray).toList = (stableA ltH l.toArray)[0]! :: (stableA ltH l.toArray)[1]! :: (stableA ltH l.toArray).toList.drop 2 := by
  have hz := (sorted_list l).1
  generalize stableA ltH l.toArray = d at *
  obtain ⟨d⟩ := d
  match d, hz with
  | a :: b :: r, _ => rfl
  | [], hz => simp at hz; omega
  | [a], hz => simp at hz; omega
theorem treeF_R : ∀ f (l : List Hp), 1 ≤ l.length → l.length ≤ f + 1 → TreeR l (treeF f l)
  | 0, l, h1, h2 => by
    match l, h1, h2 with
    | [a], _, _ => exact TreeR.one a
  | f + 1, l, h1, h2 => by
    rw [treeF]
    by_cases h : 1 < l.length
    · rw [if_pos h]
      obtain ⟨hz, hp, -⟩ := sorted_list l
      rw [two_heads l h] at hp
      refine TreeR.step _ hp.symm (treeF_R f _ (by simp) ?_)
      have := hp.length_eq
      simp only [List.length_cons, List.length_append] at *
      simp only [List.length_nil] at *
      omega
    · rw [if_neg h]
      match l, h1, h with
      | [a], _, _ => exact TreeR.one a
      | a :: b :: r, _, h => simp at h
def Hp.dep : Hp → Nat
  | .leaf _ _ => 0
  | .node _ a b => max a.dep b.dep + 1
theorem Hp.deep_dep : ∀ (h : Hp) (d : Nat), ∀ x ∈ h.deep d, x.2 ≤ d + h.dep
  | .leaf _ s, d, x, hx => by
    have e : x = (s, d) := by simpa [Hp.deep] using hx
    subst e; exact Nat.le_refl _
  | .node _ a b, d, x, hx => by
    rw [Hp.dep]
    rcases List.mem_append.1 hx with hx | hx
    · have := Hp.deep_dep a (d + 1) x hx; omega
    · have := Hp.deep_dep b (d + 1) x hx; omega
/-- All counts are a power of two, or the next, or between, but this one at most; none is deeper than its count needs. -/
def Even (k : Nat) (l : List Hp) : Prop :=
  l.countP (fun h => decide (2 ^ k < h.cnt) && decide (h.cnt < 2 ^ (k + 1))) ≤ 1 ∧ ∀ h ∈ l, (h.cnt = 2 ^ k ∧ h.dep ≤ k) ∨ (2 ^ k < h.cnt ∧ h.cnt ≤ 2 ^ (k + 1) ∧ h.dep ≤ k + 1)
theorem even_full {k : Nat} {r : List Hp} (x : Hp) (hx : 2 ^ (k + 1) < x.cnt ∧ x.cnt ≤ 2 ^ (k + 2)) (hd : x.dep ≤ k + 2) (h : ∀ h ∈ r, h.cnt = 2 ^ (k + 1) ∧ h.dep ≤ k + 1) : Even (k + 1) (r ++ [x]) := by
  constructor
  · rw [List.countP_append]
    have h0 : r.countP (fun h => decide (2 ^ (k + 1) < h.cnt) && decide (h.cnt < 2 ^ (k + 1 + 1))) = 0 := by
      rw [List.countP_eq_zero]
      intro a ha
      have := (h a ha).1
      simp; omega
    rw [h0]
    have := List.countP_le_length (p := (fun h : Hp => decide (2 ^ (k + 1) < h.cnt) && decide (h.cnt < 2 ^ (k + 1 + 1)))) (l := [x])
    simp only [List.length_singleton] at this
    omega
  · intro y hy
    rcases List.mem_append.1 hy with hy | hy
    · exact .inl (h y hy)
    · obtain rfl : y = x := by simpa using hy
      exact .inr ⟨hx.1, hx.2, hd⟩
theorem even_step {k : Nat} {a b : Hp} {r : List Hp} (h : Even k (a :: b :: r)) (hab : a.cnt ≤ b.cnt) (hbr : ∀ x ∈ r, b.cnt ≤ x.cnt) : ∃ k', Even k' (r ++ [.node (a.cnt + b.cnt) a b]) := by
  obtain ⟨h1, h2⟩ := h
  have ha := h2 a (by simp)
  have hb := h2 b (by simp)
  have hp1 : 2 ^ (k + 1) = 2 * 2 ^ k := by rw [Nat.pow_succ]; omega
  have hp2 : 2 ^ (k + 2) = 2 * 2 ^ (k + 1) := by rw [Nat.pow_succ 2 (k + 1)]; omega
  have hpos : 1 ≤ 2 ^ k := Nat.two_pow_pos k
  have hcnt : ∀ (x y : Hp), Hp.cnt (.node (x.cnt + y.cnt) x y) = x.cnt + y.cnt := fun _ _ => rfl
  have hdep : ∀ (c : Nat) (x y : Hp), Hp.dep (.node c x y) = max x.dep y.dep + 1 := fun _ _ _ => rfl
  -- no more than one between
  have hone : (2 ^ k < a.cnt ∧ a.cnt < 2 ^ (k + 1)) ∨ (2 ^ k < b.cnt ∧ b.cnt < 2 ^ (k + 1)) → (∀ x ∈ r, ¬ (2 ^ k < x.cnt ∧ x.cnt < 2 ^ (k + 1))) ∧ ((2 ^ k < a.cnt ∧ a.cnt < 2 ^ (k + 1)) → ¬ (2 ^ k < b.cnt ∧ b.cnt < 2 ^ (k + 1))) := by
    intro hodd
    rw [List.countP_cons, List.countP_cons] at h1
    constructor
    · intro x hx hxo
      have : 1 ≤ r.countP (fun h => decide (2 ^ k < h.cnt) && decide (h.cnt < 2 ^ (k + 1))) := List.one_le_countP_iff.2 ⟨x, hx, by simp [hxo.1, hxo.2]⟩
      rcases hodd with ho | ho
      · simp only [ho.1, ho.2, decide_true, Bool.and_self, if_true] at h1; omega
      · simp only [ho.1, ho.2, decide_true, Bool.and_self, if_true] at h1; omega
    · intro ho1 ho2
      simp only [ho1.1, ho1.2, ho2.1, ho2.2, decide_true, Bool.and_self, if_true] at h1
      omega
  by_cases hbk : b.cnt = 2 ^ k
  · -- both are the lower power
    have hak : a.cnt = 2 ^ k ∧ a.dep ≤ k := by
      rcases ha with ha | ha
      · exact ha
      · omega
    have hbd : b.dep ≤ k := by
      rcases hb with hb | hb
      · exact hb.2
      · omega
    refine ⟨k, ?_, ?_⟩
    · rw [List.countP_append]
      rw [List.countP_cons, List.countP_cons] at h1
      have : List.countP (fun h => decide (2 ^ k < h.cnt) && decide (h.cnt < 2 ^ (k + 1))) [Hp.node (a.cnt + b.cnt) a b] = 0 := by
        rw [List.countP_eq_zero]
        intro x hx
        obtain rfl : x = Hp.node (a.cnt + b.cnt) a b := by simpa using hx
        rw [hcnt]
        simp; omega
      omega
    · intro x hx
      rcases List.mem_append.1 hx with hx | hx
      · exact h2 x (by simp [hx])
      · obtain rfl : x = Hp.node (a.cnt + b.cnt) a b := by simpa using hx
        right
        rw [hcnt, hdep]
        omega
  · -- all behind the first are above it
    have hb' : 2 ^ k < b.cnt ∧ b.cnt ≤ 2 ^ (k + 1) ∧ b.dep ≤ k + 1 := by
      rcases hb with hb | hb
      · exact absurd hb.1 hbk
      · exact hb
    have hr : ∀ x ∈ r, 2 ^ k < x.cnt ∧ x.cnt ≤ 2 ^ (k + 1) ∧ x.dep ≤ k + 1 := by
      intro x hx
      have h3 := hbr x hx
      rcases h2 x (by simp [hx]) with h4 | h4
      · omega
      · exact h4
    have hrf : ∀ x ∈ r, x.cnt = 2 ^ (k + 1) ∧ x.dep ≤ k + 1 := by
      intro x hx
      have h3 := hbr x hx
      have h4 := hr x hx
      refine ⟨?_, h4.2.2⟩
      by_cases hbo : b.cnt < 2 ^ (k + 1)
      · have := (hone (.inr ⟨hb'.1, hbo⟩)).1 x hx
        omega
      · omega
    refine ⟨k + 1, even_full _ ?_ ?_ hrf⟩
    · rw [hcnt]
      rcases ha with ha | ha
      · omega
      · by_cases hao : a.cnt < 2 ^ (k + 1)
        · have := (hone (.inl ⟨ha.1, hao⟩)).2 ⟨ha.1, hao⟩
          omega
        · omega
    · rw [hdep]
      rcases ha with ha | ha
      · omega
      · omega
theorem sum_perm {l l' : List Hp} (h : l.Perm l') : (l.map Hp.cnt).sum = (l'.map Hp.cnt).sum := (h.map Hp.cnt).sum_nat
theorem even_perm {k : Nat} {l l' : List Hp} (h : l.Perm l') (he : Even k l) : Even k l' := ⟨by rw [← h.countP_eq]; exact he.1, fun x hx => he.2 x (h.mem_iff.2 hx)⟩
/-- No leaf is deeper than need be. -/
theorem treeF_even : ∀ f (l : List Hp) (k : Nat), 1 ≤ l.length → l.length ≤ f + 1 → Even k l → (l.map Hp.cnt).sum ≤ 2 ^ 40 → ∃ k', Even k' [treeF f l] ∧ (treeF f l).cnt = (l.map Hp.cnt).sum
  | 0, l, k, h1, h2, he, hs => by
    match l, h1, h2, he with
    | [a], _, _, he => exact ⟨k, he, by simp [treeF]⟩
  | f + 1, l, k, h1, h2, he, hs => by
    rw [treeF]
    by_cases h : 1 < l.length
    · rw [if_pos h]
      obtain ⟨hz, hp, hw⟩ := sorted_list l
      rw [two_heads l h] at hp hw
      have hsum := sum_perm hp
      have he' := even_perm hp.symm he
      have hlen := hp.length_eq
      generalize (stableA ltH l.toArray)[0]! = a at *
      generalize (stableA ltH l.toArray)[1]! = b at *
      generalize (stableA ltH l.toArray).toList.drop 2 = r at *
      simp only [List.map_cons, List.sum_cons] at hsum
      rw [Nat.min_eq_left (by omega)]
      rw [List.pairwise_cons, List.pairwise_cons] at hw
      obtain ⟨k2, hk2⟩ := even_step he' (hw.1 b (by simp)) hw.2.1
      have hsm : ((r ++ [Hp.node (a.cnt + b.cnt) a b]).map Hp.cnt).sum = (l.map Hp.cnt).sum := by
        rw [List.map_append, List.sum_append, ← hsum]
        simp [Hp.cnt]
        omega
      simp only [List.length_cons] at hlen
      obtain ⟨k3, q1, q2⟩ := treeF_even f (r ++ [Hp.node (a.cnt + b.cnt) a b]) k2 (by simp) (by simp; omega) hk2 (by omega)
      exact ⟨k3, q1, by rw [q2, hsm]⟩
    · rw [if_neg h]
      match l, h1, h, he with
      | [a], _, _, he => exact ⟨k, he, by simp⟩
      | a :: b :: r, _, h, _ => simp at h
theorem even_dep {k : Nat} {h : Hp} (he : Even k [h]) (L : Nat) (hc : h.cnt ≤ 2 ^ L) : h.dep ≤ L := by
  rcases he.2 h (by simp) with ⟨h1, h2⟩ | ⟨h1, h2, h3⟩
  · rw [h1] at hc
    have : k ≤ L := (Nat.pow_le_pow_iff_right (by omega)).1 hc
    omega
  · have : 2 ^ k < 2 ^ L := by omega
    have : k < L := (Nat.pow_lt_pow_iff_right (by omega)).1 this
    omega
end Go.Proofs.YtbchaomnjbkdhaaGreat
namespace Go.Proofs.YtbchaomnjbkdhaaGreat
open Go.Sort
set_option linter.unusedVariables false
def setAll (z : List (Nat × Nat)) (out : List Nat) : List Nat := z.foldl (fun o x => o.set x.1 x.2) out
theorem setAll_cons (x : Nat × Nat) (z : List (Nat × Nat)) (out : List Nat) : setAll (x :: z) out = setAll z (out.set x.1 x.2) := rfl
theorem setAll_len : ∀ (z : List (Nat × Nat)) (out : List Nat), (setAll z out).length = out.length
  | [], out => rfl
  | x :: z, out => by rw [setAll_cons, setAll_len z, List.length_set]
theorem setAll_other : ∀ (z : List (Nat × Nat)) (out : List Nat) (s : Nat), s ∉ z.map (·.1) → (setAll z out)[s]? = out[s]?
  | [], out, s, _ => rfl
  | x :: z, out, s, h => by
    rw [List.map_cons, List.mem_cons, not_or] at h
    rw [setAll_cons, setAll_other z _ s h.2, List.getElem?_set_ne (fun e => h.1 e.symm)]
theorem setAll_at : ∀ (z : List (Nat × Nat)) (out : List Nat) (s v : Nat), (z.map (·.1)).Nodup → (s, v) ∈ z → s < out.length → (setAll z out)[s]? = some v
  | [], out, s, v, _, h, _ => by cases h
  | x :: z, out, s, v, hn, h, hl => by
    rw [List.map_cons, List.nodup_cons] at hn
    rw [setAll_cons]
    rcases List.mem_cons.1 h with h | h
    · subst h
      rw [setAll_other z _ s hn.1, List.getElem?_set_self hl]
    · exact setAll_at z _ s v hn.2 h (by rw [List.length_set]; exact hl)
def sumG (g : Nat → Nat) (l : List Nat) : Nat := (l.map g).sum
theorem sum_set (g : Nat → Nat) : ∀ (l : List Nat) (i v : Nat), i < l.length → sumG g (l.set i v) + g (l.getD i 0) = sumG g l + g v
  | a :: l, 0, v, _ => by simp [sumG]; omega
  | a :: l, i + 1, v, h => by
    have := sum_set g l i v (by simpa using h)
    simp only [List.set_cons_succ, sumG, List.map_cons, List.sum_cons, List.getD_cons_succ] at this ⊢
    omega
theorem sum_setAll (g : Nat → Nat) (hg : g 0 = 0) : ∀ (z : List (Nat × Nat)) (out : List Nat), (z.map (·.1)).Nodup → (∀ x ∈ z, x.1 < out.length ∧ out.getD x.1 0 = 0) → sumG g (setAll z out) = (z.map fun x => g x.2).sum + sumG g out
  | [], out, _, _ => by simp [setAll]
  | x :: z, out, hn, h => by
    rw [List.map_cons, List.nodup_cons] at hn
    have hx := h x (by simp)
    rw [setAll_cons, sum_setAll g hg z (out.set x.1 x.2) hn.2 ?_, List.map_cons, List.sum_cons]
    · have := sum_set g out x.1 x.2 hx.1
      rw [hx.2, hg] at this
      omega
    · intro y hy
      have hy2 := h y (by simp [hy])
      refine ⟨by rw [List.length_set]; exact hy2.1, ?_⟩
      have hne : y.1 ≠ x.1 := fun e => hn.1 (by rw [← e]; exact List.mem_map_of_mem hy)
      rw [List.getD_eq_getElem?_getD, List.getElem?_set_ne (fun e => hne e.symm), ← List.getD_eq_getElem?_getD]
      exact hy2.2
theorem sum_zeros (g : Nat → Nat) (hg : g 0 = 0) (n : Nat) : sumG g (List.replicate n 0) = 0 := by
  induction n with
  | zero => rfl
  | succ n ih => rw [List.replicate_succ, sumG, List.map_cons, List.sum_cons, hg]; unfold sumG at ih; omega
/-- What is set over all that is no zero. -/
theorem setAll_zeros (z : List (Nat × Nat)) (out : List Nat) (hn : (z.map (·.1)).Nodup) (hl : ∀ x ∈ z, x.1 < out.length) (hc : ∀ s, out.getD s 0 ≠ 0 → s ∈ z.map (·.1)) :
    setAll z out = setAll z (List.replicate out.length 0) := by
  refine List.ext_getElem? fun s => ?_
  by_cases hs : s ∈ z.map (·.1)
  · obtain ⟨⟨s', v⟩, hx, rfl⟩ := List.mem_map.1 hs
    rw [setAll_at z out s' v hn hx (hl _ hx), setAll_at z _ s' v hn hx (by rw [List.length_replicate]; exact hl _ hx)]
  · rw [setAll_other z _ s hs, setAll_other z _ s hs]
    have h0 : out.getD s 0 = 0 := by
      by_cases h : out.getD s 0 = 0
      · exact h
      · exact absurd (hc s h) hs
    by_cases hsl : s < out.length
    · rw [List.getElem?_eq_getElem hsl, List.getElem?_replicate, if_pos hsl]
      rw [List.getD_eq_getElem?_getD, List.getElem?_eq_getElem hsl] at h0
      exact congrArg some h0
    · rw [List.getElem?_eq_none (by omega), List.getElem?_eq_none (by rw [List.length_replicate]; omega)]
theorem sum_filter (g : Nat → Nat) (hg : g 0 = 0) (l : List Nat) : sumG g (l.filter (fun n => decide (0 < n))) = sumG g l := by
  induction l with
  | nil => rfl
  | cons a l ih =>
    unfold sumG at ih ⊢
    rw [List.filter_cons]
    split
    · rw [List.map_cons, List.sum_cons, ih, List.map_cons, List.sum_cons]
    · rename_i h
      have : a = 0 := by simpa using h
      rw [ih, List.map_cons, List.sum_cons, this, hg, Nat.zero_add]
theorem come_filter : ∀ (l : List Nat) (s : Nat), (comeF l s).map (fun k => l.getD (k - s) 0) = l.filter (fun n => decide (0 < n))
  | [], _ => rfl
  | a :: l, s => by
    have ih := come_filter l (s + 1)
    have hm : (comeF l (s + 1)).map (fun k => (a :: l).getD (k - s) 0) = (comeF l (s + 1)).map (fun k => l.getD (k - (s + 1)) 0) := by
      refine List.map_congr_left fun k hk => ?_
      have h1 := ((come_mem l (s + 1) k).1 hk).1
      rw [show k - s = (k - (s + 1)) + 1 by omega, List.getD_cons_succ]
    rw [comeF, List.filter_cons]
    by_cases ha : 0 < a
    · rw [if_pos ha, if_pos (by simpa using ha), List.map_cons, Nat.sub_self, hm, ih]; rfl
    · rw [if_neg ha, if_neg (by simpa using ha), hm, ih]
theorem come_len (l : List Nat) (s : Nat) : (comeF l s).length = (l.filter (fun n => decide (0 < n))).length := by
  rw [← come_filter l s, List.length_map]
theorem come_lt (l : List Nat) : ∀ k ∈ comeF l 0, k < l.length ∧ 0 < l.getD k 0 := by
  intro k hk
  have h := ((come_mem l 0 k).1 hk).2
  rw [Nat.sub_zero] at h
  refine ⟨?_, h⟩
  rcases Nat.lt_or_ge k l.length with h2 | h2
  · exact h2
  · rw [List.getD_eq_getElem?_getD, List.getElem?_eq_none h2] at h; exact absurd h (by simp)
theorem come_same {l l' : List Nat} (hlen : l.length = l'.length) (h : ∀ s, 0 < l.getD s 0 ↔ 0 < l'.getD s 0) : comeF l 0 = comeF l' 0 := by
  have : ∀ (l l' : List Nat) (s : Nat), l.length = l'.length → (∀ k, 0 < l.getD k 0 ↔ 0 < l'.getD k 0) → comeF l s = comeF l' s := by
    intro l
    induction l with
    | nil =>
      intro l' s hl _
      have : l' = [] := List.eq_nil_of_length_eq_zero hl.symm
      rw [this]
    | cons a l ih =>
      intro l' s hl hk
      match l', hl, hk with
      | b :: l', hl, hk =>
        have h0 := hk 0
        rw [List.getD_cons_zero, List.getD_cons_zero] at h0
        have hr := ih l' (s + 1) (by simpa using hl) (fun k => by have := hk (k + 1); rwa [List.getD_cons_succ, List.getD_cons_succ] at this)
        rw [comeF, comeF, hr]
        by_cases ha : 0 < a
        · rw [if_pos ha, if_pos (h0.1 ha)]
        · rw [if_neg ha, if_neg (fun h => ha (h0.2 h))]
  exact this l l' 0 hlen h
def maxL (l : List Nat) : Nat := l.foldl max 0
theorem foldl_max (l : List Nat) : ∀ a, a ≤ l.foldl max a ∧ (∀ x ∈ l, x ≤ l.foldl max a) ∧ (l.foldl max a = a ∨ l.foldl max a ∈ l) := by
  induction l with
  | nil => intro a; exact ⟨Nat.le_refl _, (fun x h => by cases h), .inl rfl⟩
  | cons b l ih =>
    intro a
    obtain ⟨h1, h2, h3⟩ := ih (max a b)
    rw [List.foldl_cons]
    refine ⟨by omega, fun x hx => ?_, ?_⟩
    · rcases List.mem_cons.1 hx with rfl | hx
      · omega
      · exact h2 x hx
    · rcases h3 with h3 | h3
      · rw [h3]
        by_cases hab : a ≤ b
        · right; rw [Nat.max_eq_right hab]; exact .head _
        · left; omega
      · exact .inr (.tail _ h3)
theorem maxL_le (l : List Nat) (m : Nat) : maxL l ≤ m ↔ ∀ x ∈ l, x ≤ m := by
  obtain ⟨h1, h2, h3⟩ := foldl_max l 0
  constructor
  · intro h x hx; have := h2 x hx; unfold maxL at h; omega
  · intro h
    unfold maxL
    rcases h3 with h3 | h3
    · omega
    · exact h _ h3
def treeOf (own : List Nat) : Hp := treeF own.length (leavesF own 0)
def deepZ (h : Hp) : List (Nat × Nat) := (h.deep 0).map fun x => (x.1, max x.2 1)
def roundL (own out : List Nat) : List Nat := setAll (deepZ (treeOf own)) out
theorem leaves_len : ∀ (l : List Nat) (s : Nat), (leavesF l s).length = (comeF l s).length ∧ (leavesF l s).length ≤ l.length
  | [], _ => ⟨rfl, Nat.le_refl _⟩
  | a :: l, s => by
    have ih := leaves_len l (s + 1)
    rw [leavesF, comeF]
    split
    · simp only [List.length_cons]; omega
    · simp only [List.length_cons]; omega
/-- What a round's heap is: its leaves are just what comes. -/
theorem tree_syms (own : List Nat) (h : comeF own 0 ≠ []) : (treeOf own).syms.Perm (comeF own 0) := by
  have hl := leaves_len own 0
  have hne : 1 ≤ (leavesF own 0).length := by
    rw [hl.1]
    cases hc : comeF own 0 with
    | nil => exact absurd hc h
    | cons a r => simp
  have := (treeF_R own.length (leavesF own 0) hne (by omega)).syms
  rw [leaves_syms] at this
  exact this
theorem deepZ_keys (h : Hp) : (deepZ h).map (·.1) = h.syms := by
  rw [← Hp.deep_syms h 0, deepZ, List.map_map]; rfl
/-- What a list of lengths is, of counts. -/
structure LenOk (counts : List Nat) (ls : List Nat) : Prop where
  len : ls.length = counts.length
  pos : ∀ s, 0 < ls.getD s 0 ↔ 0 < counts.getD s 0
  low : ∀ n ∈ ls, n ≤ max 1 ((comeF counts 0).length - 1)
  kraft : 2 ≤ (comeF counts 0).length → (∀ n ∈ ls, n ≤ 15) → kraftN ls 15 = 2 ^ 15
theorem g_kraft (D : Nat) : (fun n => if n = 0 then 0 else 2 ^ (D - n) : Nat → Nat) 0 = 0 := rfl
theorem getD_mem {l : List Nat} {n : Nat} (h : n ∈ l) : ∃ s, s < l.length ∧ l.getD s 0 = n := by
  obtain ⟨s, hs, rfl⟩ := List.getElem_of_mem h
  exact ⟨s, hs, by rw [List.getD_eq_getElem?_getD, List.getElem?_eq_getElem hs]; rfl⟩
theorem round_ok (own out : List Nat) (hc : comeF own 0 ≠ []) (hl : out.length = own.length) (hz : ∀ s, out.getD s 0 ≠ 0 → 0 < own.getD s 0) : LenOk own (roundL own out) := by
  have hsy := tree_syms own hc
  have hkeys := deepZ_keys (treeOf own)
  have hnd : ((deepZ (treeOf own)).map (·.1)).Nodup := by rw [hkeys]; exact hsy.nodup_iff.2 (come_nodup own 0)
  have hmem : ∀ s, s ∈ (deepZ (treeOf own)).map (·.1) ↔ s ∈ comeF own 0 := fun s => by rw [hkeys]; exact hsy.mem_iff
  have hin : ∀ x ∈ deepZ (treeOf own), x.1 < out.length := by
    intro x hx
    rw [hl]
    exact (come_lt own x.1 ((hmem x.1).1 (List.mem_map_of_mem hx))).1
  have hdz : ∀ x ∈ deepZ (treeOf own), 1 ≤ x.2 ∧ x.2 ≤ max 1 ((comeF own 0).length - 1) := by
    intro x hx
    obtain ⟨y, hy, rfl⟩ := List.mem_map.1 hx
    have := (Hp.deep_le _ 0 y hy).2
    rw [hsy.length_eq] at this
    dsimp only
    omega
  have hcov : ∀ s, out.getD s 0 ≠ 0 → s ∈ (deepZ (treeOf own)).map (·.1) := by
    intro s hs
    rw [hmem, come_mem]
    exact ⟨Nat.zero_le _, hz s hs⟩
  have hval : ∀ s, s ∈ comeF own 0 → ∃ v, (roundL own out).getD s 0 = v ∧ 1 ≤ v ∧ v ≤ max 1 ((comeF own 0).length - 1) := by
    intro s hs
    obtain ⟨⟨s', v⟩, hx, rfl⟩ := List.mem_map.1 ((hmem s).2 hs)
    refine ⟨v, ?_, hdz _ hx⟩
    rw [List.getD_eq_getElem?_getD, roundL, setAll_at _ _ s' v hnd hx (hin _ hx)]; rfl
  have hno : ∀ s, s ∉ comeF own 0 → (roundL own out).getD s 0 = 0 := by
    intro s hs
    have h1 : s ∉ (deepZ (treeOf own)).map (·.1) := fun h => hs ((hmem s).1 h)
    rw [List.getD_eq_getElem?_getD, roundL, setAll_other _ _ s h1, ← List.getD_eq_getElem?_getD]
    by_cases h0 : out.getD s 0 = 0
    · exact h0
    · exact absurd (hcov s h0) h1
  have hlen : (roundL own out).length = own.length := by rw [roundL, setAll_len, hl]
  have hp : ∀ s, 0 < (roundL own out).getD s 0 ↔ 0 < own.getD s 0 := by
    intro s
    have hcm : s ∈ comeF own 0 ↔ 0 < own.getD s 0 := by rw [come_mem]; simp
    by_cases hs : s ∈ comeF own 0
    · obtain ⟨v, h1, h2, h3⟩ := hval s hs
      rw [h1]
      exact ⟨fun _ => hcm.1 hs, fun _ => h2⟩
    · rw [hno s hs]
      exact ⟨fun h => absurd h (by omega), fun h => absurd (hcm.2 h) hs⟩
  refine ⟨hlen, hp, ?_, ?_⟩
  · intro n hn
    obtain ⟨s, hs, rfl⟩ := getD_mem hn
    by_cases hsc : s ∈ comeF own 0
    · obtain ⟨v, h1, h2, h3⟩ := hval s hsc
      rw [h1]; exact h3
    · rw [hno s hsc]; exact Nat.zero_le _
  · intro h2 h15
    have e : roundL own out = setAll (deepZ (treeOf own)) (List.replicate out.length 0) := setAll_zeros _ _ hnd hin hcov
    show sumG (fun n => if n = 0 then 0 else 2 ^ (15 - n)) (roundL own out) = _
    have hz0 : ∀ x ∈ deepZ (treeOf own), x.1 < (List.replicate out.length 0).length ∧ (List.replicate out.length 0).getD x.1 0 = 0 := by
      intro x hx
      refine ⟨by rw [List.length_replicate]; exact hin x hx, ?_⟩
      rw [List.getD_eq_getElem?_getD, List.getElem?_replicate, if_pos (hin x hx)]; rfl
    rw [e, sum_setAll _ (g_kraft 15) _ _ hnd hz0, sum_zeros _ (g_kraft 15), Nat.add_zero]
    -- the heap is none of one leaf: no leaf stands at its head
    have hdeep : ∀ x ∈ (treeOf own).deep 0, 1 ≤ x.2 ∧ x.2 ≤ 15 := by
      intro x hx
      have hd1 : 1 ≤ x.2 := by
        have hs2 := hsy.length_eq
        cases ht : treeOf own with
        | leaf c s => rw [ht] at hs2; simp only [Hp.syms, List.length_singleton] at hs2; omega
        | node c a b =>
          rw [ht, Hp.deep] at hx
          rcases List.mem_append.1 hx with hx | hx
          · exact (Hp.deep_le a 1 x hx).1
          · exact (Hp.deep_le b 1 x hx).1
      refine ⟨hd1, ?_⟩
      have hx1 : (x.1, max x.2 1) ∈ deepZ (treeOf own) := List.mem_map_of_mem (f := fun x : Nat × Nat => (x.1, max x.2 1)) hx
      have hg : (roundL own out)[x.1]? = some (max x.2 1) := setAll_at _ _ _ _ hnd hx1 (hin (x.1, max x.2 1) hx1)
      have := h15 _ (List.mem_of_getElem? hg)
      omega
    have hk := Hp.kraft (treeOf own) 0 15 (fun x hx => (hdeep x hx).2)
    rw [Nat.sub_zero] at hk
    rw [← hk, deepZ, List.map_map]
    congr 1
    refine List.map_congr_left fun x hx => ?_
    have h1 := (hdeep x hx).1
    simp only [Function.comp]
    rw [Nat.max_eq_left h1, if_neg (by omega)]
def ltC (counts : List Nat) (a b : Nat) : Bool := decide (counts.getD b 0 < counts.getD a 0)
theorem swoC (counts : List Nat) : SWO (ltC counts) := by
  refine ⟨fun x => by simp [ltC], fun x y z h1 h2 => ?_, fun x y z h1 h2 => ?_⟩
  · simp only [ltC, decide_eq_true_eq] at *; omega
  · simp only [ltC, decide_eq_false_iff_not] at *; omega
def sortN (l : List Nat) : List Nat := l.mergeSort (fun a b => decide (a ≤ b))
def comeS (counts lens : List Nat) : List Nat := (stableA (ltC counts) (comeF lens 0).toArray).toList
def fairL (counts lens : List Nat) : List Nat := setAll ((comeS counts lens).zip (sortN (lens.filter (fun n => decide (0 < n))))) lens
theorem comeS_perm (counts lens : List Nat) : (comeS counts lens).Perm (comeF lens 0) := by
  obtain ⟨h1, h2⟩ := stable_spec (swoC counts) (comeF lens 0).toArray
  have h3 := h2.2.2
  rw [show (stableA (ltC counts) (comeF lens 0).toArray).extract 0 (comeF lens 0).toArray.size = stableA (ltC counts) (comeF lens 0).toArray from by rw [← h2.1]; exact Array.extract_size .., show (comeF lens 0).toArray.extract 0 (comeF lens 0).toArray.size = (comeF lens 0).toArray from Array.extract_size ..] at h3
  unfold comeS
  simpa using h3
theorem fair_ok (counts lens own : List Nat) (h : LenOk own lens) : LenOk own (fairL counts lens) := by
  obtain ⟨S, hS⟩ : ∃ S, S = sortN (lens.filter (fun n => decide (0 < n))) := ⟨_, rfl⟩
  obtain ⟨C, hC⟩ : ∃ C, C = comeS counts lens := ⟨_, rfl⟩
  have hCp : C.Perm (comeF lens 0) := by rw [hC]; exact comeS_perm counts lens
  have hSp : S.Perm (lens.filter (fun n => decide (0 < n))) := by rw [hS]; exact List.mergeSort_perm _ _
  have hlen : C.length = S.length := by rw [hCp.length_eq, hSp.length_eq, come_len]
  have hkeys : (C.zip S).map (·.1) = C := List.map_fst_zip (by omega)
  have hvals : (C.zip S).map (·.2) = S := List.map_snd_zip (by omega)
  have hnd : ((C.zip S).map (·.1)).Nodup := by rw [hkeys]; exact hCp.nodup_iff.2 (come_nodup lens 0)
  have hin : ∀ x ∈ C.zip S, x.1 < lens.length := by
    intro x hx
    have : x.1 ∈ C := by rw [← hkeys]; exact List.mem_map_of_mem hx
    exact (come_lt lens x.1 (hCp.mem_iff.1 this)).1
  have hcov : ∀ s, lens.getD s 0 ≠ 0 → s ∈ (C.zip S).map (·.1) := by
    intro s hs
    rw [hkeys, hCp.mem_iff, come_mem]
    exact ⟨Nat.zero_le _, by rw [Nat.sub_zero]; omega⟩
  have hSpos : ∀ n ∈ S, 0 < n ∧ n ∈ lens := by
    intro n hn
    have := hSp.mem_iff.1 hn
    rw [List.mem_filter] at this
    exact ⟨by simpa using this.2, this.1⟩
  have hval : ∀ s, s ∈ comeF lens 0 → ∃ v, (fairL counts lens).getD s 0 = v ∧ v ∈ S := by
    intro s hs
    have h1 : s ∈ (C.zip S).map (·.1) := by rw [hkeys]; exact hCp.mem_iff.2 hs
    obtain ⟨⟨s', v⟩, hx, rfl⟩ := List.mem_map.1 h1
    refine ⟨v, ?_, ?_⟩
    · rw [List.getD_eq_getElem?_getD, fairL, ← hC, ← hS, setAll_at _ _ s' v hnd hx (hin _ hx)]; rfl
    · rw [← hvals]; exact List.mem_map_of_mem (f := (·.2)) hx
  have hno : ∀ s, s ∉ comeF lens 0 → (fairL counts lens).getD s 0 = 0 := by
    intro s hs
    have h1 : s ∉ (C.zip S).map (·.1) := by rw [hkeys]; exact fun h => hs (hCp.mem_iff.1 h)
    rw [List.getD_eq_getElem?_getD, fairL, ← hC, ← hS, setAll_other _ _ s h1, ← List.getD_eq_getElem?_getD]
    by_cases h0 : lens.getD s 0 = 0
    · exact h0
    · exact absurd (hcov s h0) h1
  have hfl : (fairL counts lens).length = lens.length := by rw [fairL, setAll_len]
  have hcm : ∀ s, s ∈ comeF lens 0 ↔ 0 < lens.getD s 0 := fun s => by rw [come_mem]; simp
  have hsum : ∀ g : Nat → Nat, g 0 = 0 → sumG g (fairL counts lens) = sumG g lens := by
    intro g hg
    have e : fairL counts lens = setAll (C.zip S) (List.replicate lens.length 0) := by
      rw [fairL, ← hC, ← hS]; exact setAll_zeros _ _ hnd hin hcov
    rw [e, sum_setAll g hg _ _ hnd ?_, sum_zeros g hg, Nat.add_zero, ← sum_filter g hg lens]
    · have e2 : ((C.zip S).map fun x => g x.2) = S.map g := by
        rw [← hvals, List.map_map]; simp [Function.comp_def, hvals]
      rw [e2]
      exact (hSp.map g).sum_nat
    · intro x hx
      refine ⟨by rw [List.length_replicate]; exact hin x hx, ?_⟩
      rw [List.getD_eq_getElem?_getD, List.getElem?_replicate, if_pos (hin x hx)]; rfl
  have hmemf : ∀ n ∈ fairL counts lens, n = 0 ∨ n ∈ lens := by
    intro n hn
    obtain ⟨s, hs, rfl⟩ := getD_mem hn
    by_cases hsc : s ∈ comeF lens 0
    · obtain ⟨v, h1, h2⟩ := hval s hsc
      rw [h1]; exact .inr (hSpos v h2).2
    · exact .inl (hno s hsc)
  refine ⟨by rw [hfl]; exact h.len, ?_, ?_, ?_⟩
  · intro s
    rw [← h.pos s, ← hcm s]
    by_cases hs : s ∈ comeF lens 0
    · obtain ⟨v, h1, h2⟩ := hval s hs
      rw [h1]
      exact ⟨fun _ => hs, fun _ => (hSpos v h2).1⟩
    · rw [hno s hs]
      exact ⟨fun h => absurd h (by omega), fun h => absurd h hs⟩
  · intro n hn
    rcases hmemf n hn with h0 | h0
    · omega
    · exact h.low n h0
  · intro h2 h15
    rw [kraftN]
    have h3 := hsum (fun n => if n = 0 then 0 else 2 ^ (15 - n)) rfl
    unfold sumG at h3
    rw [h3]
    refine h.kraft h2 ?_
    intro n hn
    -- a length is that of a symbol, which has one of the same
    by_cases hn0 : n = 0
    · omega
    · have hnS : n ∈ S := hSp.mem_iff.2 (List.mem_filter.2 ⟨hn, by simpa using Nat.pos_of_ne_zero hn0⟩)
      rw [← hvals] at hnS
      obtain ⟨x, hx, rfl⟩ := List.mem_map.1 hnS
      have hg : (fairL counts lens)[x.1]? = some x.2 := by
        rw [fairL, ← hC, ← hS]; exact setAll_at _ _ _ _ hnd hx (hin _ hx)
      exact h15 _ (List.mem_of_getElem? hg)
theorem fair_max (counts lens : List Nat) (m : Nat) (h : ∀ n ∈ lens, n ≤ m) : ∀ n ∈ fairL counts lens, n ≤ m := by
  have hall : ∀ (z : List (Nat × Nat)) (out : List Nat), (∀ x ∈ z, x.2 ≤ m) → (∀ n ∈ out, n ≤ m) → ∀ n ∈ setAll z out, n ≤ m := by
    intro z
    induction z with
    | nil => intro out _ ho; exact ho
    | cons x z ih =>
      intro out hz ho
      rw [setAll_cons]
      refine ih _ (fun y hy => hz y (.tail _ hy)) fun n hn => ?_
      rcases List.mem_or_eq_of_mem_set hn with h1 | h1
      · exact ho n h1
      · rw [h1]; exact hz x (.head _)
  refine hall _ _ (fun x hx => ?_) h
  have h2 : x.2 ∈ sortN (lens.filter (fun n => decide (0 < n))) := (List.of_mem_zip (a := x.1) (b := x.2) hx).2
  have h3 := (List.mergeSort_perm _ _).mem_iff.1 h2
  exact h _ (List.mem_filter.1 h3).1
def halfL (own : List Nat) : List Nat := own.map fun x => (x + 1) / 2
def lengthsF (counts : List Nat) (longer : Nat) : Nat → List Nat → List Nat → List Nat
  | 0, own, out => fairL counts (roundL own out)
  | f + 1, own, out => if maxL (roundL own out) ≤ longer then fairL counts (roundL own out) else lengthsF counts longer f (halfL own) (roundL own out)
def lengthsL (counts : List Nat) (longer : Nat) : List Nat :=
  if comeF counts 0 = [] then List.replicate counts.length 0 else lengthsF counts longer 30 counts (List.replicate counts.length 0)
theorem half_getD (own : List Nat) (s : Nat) : (halfL own).getD s 0 = (own.getD s 0 + 1) / 2 := by
  rw [List.getD_eq_getElem?_getD, halfL, List.getElem?_map, List.getD_eq_getElem?_getD]
  cases own[s]? <;> simp
theorem half_come (own : List Nat) : comeF (halfL own) 0 = comeF own 0 := by
  refine come_same (by simp [halfL]) fun s => ?_
  rw [half_getD]
  omega
/-- Where no one comes more than once, the leaves are no deeper than need be. -/
theorem round_even (own : List Nat) (longer : Nat) (hc : comeF own 0 ≠ []) (h1 : ∀ x ∈ own, x ≤ 1) (hl : (comeF own 0).length ≤ 2 ^ longer) (hL : 1 ≤ longer) (hn : own.length ≤ 1000) : (∀ x ∈ deepZ (treeOf own), x.2 ≤ longer) := by
  have hlv : ∀ (l : List Nat) (s : Nat), (∀ x ∈ l, x ≤ 1) → (∀ h ∈ leavesF l s, h.cnt = 1 ∧ h.dep = 0) ∧ ((leavesF l s).map Hp.cnt).sum = (leavesF l s).length := by
    intro l
    induction l with
    | nil => intro s _; exact ⟨(fun h hh => by cases hh), rfl⟩
    | cons a l ih =>
      intro s ha
      have ih2 := ih (s + 1) (fun x hx => ha x (.tail _ hx))
      rw [leavesF]
      split
      · rename_i hpos
        have ha1 : a = 1 := by have := ha a (.head _); omega
        subst ha1
        refine ⟨fun h hh => ?_, ?_⟩
        · rcases List.mem_cons.1 hh with rfl | hh
          · exact ⟨rfl, rfl⟩
          · exact ih2.1 h hh
        · rw [List.map_cons, List.sum_cons, ih2.2, List.length_cons]; simp [Hp.cnt]; omega
      · exact ih2
  obtain ⟨q1, q2⟩ := hlv own 0 h1
  have hll := leaves_len own 0
  have hne : 1 ≤ (leavesF own 0).length := by
    rw [hll.1]
    cases hcc : comeF own 0 with
    | nil => exact absurd hcc hc
    | cons a r => simp
  have hev : Even 0 (leavesF own 0) := by
    constructor
    · have : (leavesF own 0).countP (fun h => decide (2 ^ 0 < h.cnt) && decide (h.cnt < 2 ^ (0 + 1))) = 0 := by
        rw [List.countP_eq_zero]
        intro a ha
        have := (q1 a ha).1
        simp; omega
      omega
    · intro h hh
      exact .inl ⟨(q1 h hh).1, by rw [(q1 h hh).2]; exact Nat.le_refl _⟩
  obtain ⟨k, g1, g2⟩ := treeF_even own.length (leavesF own 0) 0 hne (by omega) hev (by rw [q2]; omega)
  have hd := even_dep g1 longer (by rw [g2, q2, hll.1]; exact hl)
  intro x hx
  obtain ⟨y, hy, rfl⟩ := List.mem_map.1 hx
  have := Hp.deep_dep _ 0 y hy
  unfold treeOf at this
  dsimp only
  omega
theorem round_max (own out : List Nat) (m : Nat) (hz : ∀ x ∈ deepZ (treeOf own), x.2 ≤ m) (ho : ∀ s, out.getD s 0 ≠ 0 → s ∈ (deepZ (treeOf own)).map (·.1)) (hin : ∀ x ∈ deepZ (treeOf own), x.1 < out.length) (hnd : ((deepZ (treeOf own)).map (·.1)).Nodup) : maxL (roundL own out) ≤ m := by
  rw [maxL_le]
  intro n hn
  obtain ⟨s, hs, rfl⟩ := getD_mem hn
  by_cases hk : s ∈ (deepZ (treeOf own)).map (·.1)
  · obtain ⟨⟨s', v⟩, hx, rfl⟩ := List.mem_map.1 hk
    rw [List.getD_eq_getElem?_getD, roundL, setAll_at _ _ s' v hnd hx (hin _ hx)]
    exact hz _ hx
  · rw [List.getD_eq_getElem?_getD, roundL, setAll_other _ _ s hk, ← List.getD_eq_getElem?_getD]
    by_cases h0 : out.getD s 0 = 0
    · omega
    · exact absurd (ho s h0) hk
/-- The state of the rounds: what comes stays what comes; what is no zero comes. -/
structure OwnOk (counts own out : List Nat) (f : Nat) : Prop where
  len : own.length = counts.length
  lout : out.length = own.length
  come : comeF own 0 = comeF counts 0
  pos : ∀ s, 0 < own.getD s 0 ↔ 0 < counts.getD s 0
  zero : ∀ s, out.getD s 0 ≠ 0 → 0 < own.getD s 0
  small : ∀ x ∈ own, x ≤ 2 ^ f
theorem OwnOk.round {counts own out : List Nat} {f : Nat} (h : OwnOk counts own out f) (hc : comeF counts 0 ≠ []) : LenOk counts (roundL own out) := by
  have h1 := round_ok own out (by rw [h.come]; exact hc) h.lout h.zero
  exact ⟨by rw [h1.len, h.len], fun s => by rw [h1.pos s, h.pos s], by rw [← h.come]; exact h1.low, by rw [← h.come]; exact h1.kraft⟩
theorem OwnOk.next {counts own out : List Nat} {f : Nat} (h : OwnOk counts own out (f + 1)) (hc : comeF counts 0 ≠ []) : OwnOk counts (halfL own) (roundL own out) f := by
  have h1 := h.round hc
  have hp : ∀ s, 0 < (halfL own).getD s 0 ↔ 0 < counts.getD s 0 := fun s => by rw [half_getD, ← h.pos s]; omega
  refine ⟨by simp [halfL, h.len], by rw [h1.len]; simp [halfL, h.len], by rw [half_come, h.come], hp, ?_, ?_⟩
  · intro s hs
    rw [hp s, ← h1.pos s]
    omega
  · intro x hx
    obtain ⟨y, hy, rfl⟩ := List.mem_map.1 hx
    have := h.small y hy
    rw [Nat.pow_succ] at this
    omega
theorem OwnOk.last {counts own out : List Nat} (h : OwnOk counts own out 0) (hc : comeF counts 0 ≠ []) (longer : Nat) (hl : (comeF counts 0).length ≤ 2 ^ longer) (hL : 1 ≤ longer) (hn : counts.length ≤ 1000) : maxL (roundL own out) ≤ longer := by
  have hco : comeF own 0 ≠ [] := by rw [h.come]; exact hc
  have hsy := tree_syms own hco
  have hkeys := deepZ_keys (treeOf own)
  have hmem : ∀ s, s ∈ (deepZ (treeOf own)).map (·.1) ↔ s ∈ comeF own 0 := fun s => by rw [hkeys]; exact hsy.mem_iff
  refine round_max own out longer (round_even own longer hco (fun x hx => h.small x hx) (by rw [h.come]; exact hl) hL (by rw [h.len]; exact hn)) ?_ ?_ ?_
  · intro s hs
    rw [hmem, come_mem]
    exact ⟨Nat.zero_le _, h.zero s hs⟩
  · intro x hx
    rw [h.lout]
    exact (come_lt own x.1 ((hmem x.1).1 (List.mem_map_of_mem hx))).1
  · rw [hkeys]; exact hsy.nodup_iff.2 (come_nodup own 0)
theorem lengthsF_ok (counts : List Nat) (longer : Nat) (hc : comeF counts 0 ≠ []) (hl : (comeF counts 0).length ≤ 2 ^ longer) (hL : 1 ≤ longer) (hn : counts.length ≤ 1000) :
    ∀ f own out, OwnOk counts own out f → LenOk counts (lengthsF counts longer f own out) ∧ ∀ n ∈ lengthsF counts longer f own out, n ≤ longer
  | 0, own, out, h => by
    have h1 := h.round hc
    have h2 := h.last hc longer hl hL hn
    exact ⟨fair_ok counts _ counts h1, fair_max counts _ longer ((maxL_le _ _).1 h2)⟩
  | f + 1, own, out, h => by
    rw [lengthsF]
    by_cases hm : maxL (roundL own out) ≤ longer
    · rw [if_pos hm]
      exact ⟨fair_ok counts _ counts (h.round hc), fair_max counts _ longer ((maxL_le _ _).1 hm)⟩
    · rw [if_neg hm]
      exact lengthsF_ok counts longer hc hl hL hn f _ _ (h.next hc)
theorem own_start (counts : List Nat) (hb : ∀ x ∈ counts, x ≤ 2 ^ 30) : OwnOk counts counts (List.replicate counts.length 0) 30 := by
  refine ⟨rfl, by simp, rfl, fun _ => Iff.rfl, fun s hs => ?_, hb⟩
  exfalso
  refine hs ?_
  rw [List.getD_eq_getElem?_getD, List.getElem?_replicate]
  split <;> rfl
/-- What lengths are: codes of what comes. -/
theorem lengths_ok (counts : List Nat) (longer : Nat) (hb : ∀ x ∈ counts, x ≤ 2 ^ 30) (hl : (comeF counts 0).length ≤ 2 ^ longer) (hL : 1 ≤ longer) (hn : counts.length ≤ 1000) :
    LenOk counts (lengthsL counts longer) ∧ ∀ n ∈ lengthsL counts longer, n ≤ longer := by
  unfold lengthsL
  by_cases hc : comeF counts 0 = []
  · rw [if_pos hc]
    have h0 : ∀ s, (List.replicate counts.length 0).getD s 0 = 0 := by
      intro s
      rw [List.getD_eq_getElem?_getD, List.getElem?_replicate]
      split <;> rfl
    have hm0 : ∀ n ∈ List.replicate counts.length 0, n = 0 := fun n hn => (List.mem_replicate.1 hn).2
    refine ⟨⟨by simp, fun s => ?_, fun n hn => by rw [hm0 n hn]; exact Nat.zero_le _, fun h2 => ?_⟩, fun n hn => by rw [hm0 n hn]; exact Nat.zero_le _⟩
    · rw [h0]
      constructor
      · intro h; omega
      · intro h
        have : s ∈ comeF counts 0 := (come_mem counts 0 s).2 ⟨Nat.zero_le _, h⟩
        rw [hc] at this; cases this
    · rw [hc] at h2; simp at h2
  · rw [if_neg hc]
    exact lengthsF_ok counts longer hc hl hL hn 30 _ _ (own_start counts hb)
end Go.Proofs.YtbchaomnjbkdhaaGreat
namespace Go.Proofs.YtbchaomnjbkdhaaGreat
set_option linter.unusedVariables false
/-- A bit more. -/
def oneT (l : List UInt8) (n : Nat) : List UInt8 := if n % 8 = 0 then l ++ [0] else l
def oneS (s : List UInt8 × Nat) (b : Nat) : List UInt8 × Nat :=
  ((oneT s.1 s.2).set (s.2 / 8) (UInt8.ofNat (((oneT s.1 s.2).getD (s.2 / 8) 0).toNat ||| (b * 2 ^ (s.2 % 8)))), s.2 + 1)
/-- The lowest bits of a number. -/
def bitsS (s : List UInt8 × Nat) (v : Nat) : Nat → List UInt8 × Nat
  | 0 => s
  | k + 1 => oneS (bitsS s v k) (v / 2 ^ k % 2)
/-- As many bytes as bits need. -/
def okS (s : List UInt8 × Nat) : Prop := s.1.length = (s.2 + 7) / 8
theorem oneS_ok {s : List UInt8 × Nat} {b : Nat} (h : okS s) : okS (oneS s b) := by
  unfold okS at h ⊢
  simp only [oneS, List.length_set, oneT]
  split
  · rw [List.length_append, h]; simp; omega
  · rw [h]; omega
theorem bitsS_n (s : List UInt8 × Nat) (v : Nat) : ∀ k, (bitsS s v k).2 = s.2 + k
  | 0 => rfl
  | k + 1 => by show (bitsS s v k).2 + 1 = _; rw [bitsS_n s v k]; omega
theorem bitsS_add (s : List UInt8 × Nat) (v a : Nat) : ∀ b, bitsS s v (a + b) = bitsS (bitsS s v a) (v / 2 ^ a) b
  | 0 => rfl
  | b + 1 => by
    show oneS (bitsS s v (a + b)) (v / 2 ^ (a + b) % 2) = oneS (bitsS (bitsS s v a) (v / 2 ^ a) b) (v / 2 ^ a / 2 ^ b % 2)
    rw [bitsS_add s v a b, Nat.div_div_eq_div_mul, ← Nat.pow_add]
theorem oneS_new (l : List UInt8) (b : Nat) (hb : b < 2) : oneS (l, 8 * l.length) b = (l ++ [UInt8.ofNat b], 8 * l.length + 1) := by
  have h0 : 8 * l.length % 8 = 0 := by omega
  have h1 : 8 * l.length / 8 = l.length := by omega
  simp only [oneS, oneT, h0, h1, if_true]
  rw [List.set_append_right _ _ (Nat.le_refl _)]
  simp
theorem oneS_more (l : List UInt8) (j x b : Nat) (hj0 : 1 ≤ j) (hj : j < 8) (hx : x < 2 ^ j) (hb : b < 2) : oneS (l ++ [UInt8.ofNat x], 8 * l.length + j) b = (l ++ [UInt8.ofNat (x + b * 2 ^ j)], 8 * l.length + (j + 1)) := by
  have h0 : (8 * l.length + j) % 8 = j := by omega
  have h1 : (8 * l.length + j) / 8 = l.length := by omega
  have h2 : 2 ^ j ≤ 128 := by
    have : 2 ^ j ≤ 2 ^ 7 := Nat.pow_le_pow_right (by omega) (by omega)
    omega
  have hx8 : (UInt8.ofNat x).toNat = x := by rw [UInt8.toNat_ofNat']; omega
  have hor : x ||| b * 2 ^ j = x + b * 2 ^ j := by
    rw [Nat.or_comm, Nat.mul_comm b, ← Nat.two_pow_add_eq_or_of_lt hx b]; omega
  simp only [oneS, oneT, h0, h1, if_neg (show ¬ j = 0 by omega)]
  rw [List.set_append_right _ _ (Nat.le_refl _)]
  simp [hx8, hor]
  omega
theorem bits_some (l : List UInt8) (v : Nat) : ∀ k, k < 8 → bitsS (l, 8 * l.length) v (k + 1) = (l ++ [UInt8.ofNat (v % 2 ^ (k + 1))], 8 * l.length + (k + 1))
  | 0, _ => by
    show oneS (l, 8 * l.length) (v / 2 ^ 0 % 2) = _
    rw [oneS_new _ _ (by omega)]
    simp
  | k + 1, hk => by
    show oneS (bitsS (l, 8 * l.length) v (k + 1)) (v / 2 ^ (k + 1) % 2) = _
    rw [bits_some l v k (by omega), oneS_more l (k + 1) _ _ (by omega) hk (Nat.mod_lt _ (Nat.two_pow_pos _)) (by omega)]
    have : v % 2 ^ (k + 1) + v / 2 ^ (k + 1) % 2 * 2 ^ (k + 1) = v % 2 ^ (k + 1 + 1) := by
      rw [Nat.pow_succ 2 (k + 1), Nat.mod_mul]; rw [Nat.mul_comm]
    rw [this]
theorem bits_8 (l : List UInt8) (v : Nat) (hv : v < 256) : bitsS (l, 8 * l.length) v 8 = (l ++ [UInt8.ofNat v], 8 * (l ++ [UInt8.ofNat v]).length) := by
  rw [bits_some l v 7 (by omega), show v % 2 ^ (7 + 1) = v from Nat.mod_eq_of_lt (by omega)]
  simp; omega
theorem bits_16 (l : List UInt8) (v : Nat) (hv : v < 65536) : bitsS (l, 8 * l.length) v 16 = (l ++ [UInt8.ofNat (v % 256), UInt8.ofNat (v / 256)], 8 * (l ++ [UInt8.ofNat (v % 256), UInt8.ofNat (v / 256)]).length) := by
  rw [show 16 = 8 + 8 from rfl, bitsS_add, bits_some l v 7 (by omega), show v / 2 ^ 8 = v / 256 from rfl, show v % 2 ^ (7 + 1) = v % 256 from rfl,
    show 8 * l.length + (7 + 1) = 8 * (l ++ [UInt8.ofNat (v % 256)]).length from by simp; omega, bits_8 _ _ (by omega)]
  simp
/-- The head of a block: whether it is the last, and the way; then the byte is filled. -/
theorem bits_head (l : List UInt8) (x : Nat) (hx : x < 2) : (bitsS (bitsS (l, 8 * l.length) x 1) 0 2).1 = l ++ [UInt8.ofNat x] := by
  have h1 := bits_some l x 0 (by omega)
  rw [show x % 2 ^ (0 + 1) = x from Nat.mod_eq_of_lt (by omega)] at h1
  rw [show (1 : Nat) = 0 + 1 from rfl, h1]
  have e1 : oneS (l ++ [UInt8.ofNat x], 8 * l.length + 1) 0 = (l ++ [UInt8.ofNat x], 8 * l.length + 2) := by
    rw [oneS_more l 1 x 0 (by omega) (by omega) (by omega) (by omega)]; simp
  have e2 : oneS (l ++ [UInt8.ofNat x], 8 * l.length + 2) 0 = (l ++ [UInt8.ofNat x], 8 * l.length + 3) := by
    rw [oneS_more l 2 x 0 (by omega) (by omega) (by omega) (by omega)]; simp
  show (oneS (oneS (l ++ [UInt8.ofNat x], 8 * l.length + 1) 0) 0).1 = _
  rw [e1, e2]
/-- What is stored: a block's head, its length, that turned, its bytes. -/
def headS (k last : Nat) : List UInt8 := [UInt8.ofNat last, UInt8.ofNat (k % 256), UInt8.ofNat (k / 256), UInt8.ofNat ((65535 - k) % 256), UInt8.ofNat ((65535 - k) / 256)]
def storedS : Nat → List UInt8 → List UInt8
  | 0, _ => []
  | f + 1, b => if b.length ≤ 65535 then headS b.length 1 ++ b else headS 65535 0 ++ (b.take 65535 ++ storedS f (b.drop 65535))
theorem storedS_len : ∀ (f : Nat) (b : List UInt8), (storedS f b).length ≤ b.length + 5 * f
  | 0, b => by simp [storedS]
  | f + 1, b => by
    rw [storedS]
    split
    · simp [headS]; omega
    · have := storedS_len f (b.drop 65535)
      simp [headS] at this ⊢; omega
end Go.Proofs.YtbchaomnjbkdhaaGreat
namespace Go.Proofs.YtbchaomnjbkdhaaGreat
set_option linter.unusedVariables false
/-- The writer's bytes, and how many bits, of a list of bits. -/
def stB (bs : List Nat) : List UInt8 × Nat := bs.foldl oneS ([], 0)
theorem stB_snoc (bs : List Nat) (b : Nat) : stB (bs ++ [b]) = oneS (stB bs) b := by simp [stB]
theorem snoc_ind {P : List Nat → Prop} (h0 : P []) (h1 : ∀ l b, P l → P (l ++ [b])) (l : List Nat) : P l := by
  have : ∀ r : List Nat, P r.reverse := by
    intro r
    induction r with
    | nil => exact h0
    | cons b r ih => rw [List.reverse_cons]; exact h1 _ _ ih
  have h := this l.reverse
  rwa [List.reverse_reverse] at h
theorem stB_n (bs : List Nat) : (stB bs).2 = bs.length := by
  refine snoc_ind (P := fun bs => (stB bs).2 = bs.length) rfl (fun l b ih => ?_) bs
  show _ = _
  rw [stB_snoc, List.length_append, List.length_singleton, ← ih]
  rfl
theorem stB_ok (bs : List Nat) : okS (stB bs) := by
  refine snoc_ind (P := fun bs => okS (stB bs)) rfl (fun l b ih => ?_) bs
  show okS _
  rw [stB_snoc]
  exact oneS_ok ih
theorem stB_len (bs : List Nat) : (stB bs).1.length = (bs.length + 7) / 8 := by
  have h := stB_ok bs
  rw [okS, stB_n] at h
  exact h
/-- So many bits of a number, the lowest first. -/
def loB : Nat → Nat → List Nat
  | 0, _ => []
  | n + 1, v => (v % 2) :: loB n (v / 2)
theorem loB_len : ∀ n v, (loB n v).length = n
  | 0, _ => rfl
  | n + 1, v => by rw [loB, List.length_cons, loB_len n]
theorem loB_snoc : ∀ n v, loB (n + 1) v = loB n v ++ [v / 2 ^ n % 2]
  | 0, v => by simp [loB]
  | n + 1, v => by
    rw [loB, loB_snoc n (v / 2), loB, List.cons_append, Nat.div_div_eq_div_mul, ← Nat.pow_succ']
theorem stB_bits (bs : List Nat) (v : Nat) : ∀ k, bitsS (stB bs) v k = stB (bs ++ loB k v)
  | 0 => by simp [bitsS, loB]
  | k + 1 => by
    show oneS (bitsS (stB bs) v k) (v / 2 ^ k % 2) = _
    rw [stB_bits bs v k, loB_snoc, ← List.append_assoc, stB_snoc]
theorem hiB_get : ∀ n v j, j < n → (hiB n v)[j]? = some (v / 2 ^ (n - 1 - j) % 2)
  | n + 1, v, 0, _ => by rw [hiB]; simp
  | n + 1, v, j + 1, h => by
    rw [hiB, List.getElem?_cons_succ, hiB_get n v j (by omega)]
    congr 4
    omega
theorem hiB_take (n v j : Nat) (h : j < n) : (hiB n v).take (j + 1) = (hiB n v).take j ++ [v / 2 ^ (n - 1 - j) % 2] := by
  have hl : j < (hiB n v).length := by rw [hiB_len]; exact h
  rw [List.take_succ_eq_append_getElem hl]
  congr 2
  have := hiB_get n v j h
  rw [List.getElem?_eq_getElem hl] at this
  injection this
theorem hiB_two : ∀ n v, ∀ b ∈ hiB n v, b < 2
  | n + 1, v, b, h => by
    rw [hiB] at h
    rcases List.mem_cons.1 h with rfl | h
    · omega
    · exact hiB_two n v b h
theorem loB_two : ∀ n v, ∀ b ∈ loB n v, b < 2
  | n + 1, v, b, h => by
    rw [loB] at h
    rcases List.mem_cons.1 h with rfl | h
    · omega
    · exact loB_two n _ b h
def bytesB (l : List UInt8) : List Nat := l.flatMap fun b => loB 8 b.toNat
theorem bytesB_len : ∀ l, (bytesB l).length = 8 * l.length
  | [] => rfl
  | b :: l => by
    have := bytesB_len l
    unfold bytesB at this ⊢
    rw [List.flatMap_cons, List.length_append, loB_len, this, List.length_cons]; omega
theorem loB_get : ∀ n v j, j < n → (loB n v)[j]? = some (v / 2 ^ j % 2)
  | n + 1, v, 0, _ => by simp [loB]
  | n + 1, v, j + 1, h => by
    rw [loB, List.getElem?_cons_succ, loB_get n (v / 2) j (by omega), Nat.div_div_eq_div_mul, ← Nat.pow_succ']
theorem bytesB_get : ∀ (l : List UInt8) i, i < 8 * l.length → (bytesB l)[i]? = some ((l.getD (i / 8) 0).toNat / 2 ^ (i % 8) % 2)
  | [], i, h => by simp at h
  | b :: l, i, h => by
    rw [List.length_cons] at h
    have e : bytesB (b :: l) = loB 8 b.toNat ++ bytesB l := rfl
    rw [e]
    by_cases h8 : i < 8
    · rw [List.getElem?_append_left (by rw [loB_len]; exact h8), loB_get 8 _ i h8, show i / 8 = 0 by omega, show i % 8 = i by omega]; rfl
    · rw [List.getElem?_append_right (by rw [loB_len]; omega), loB_len, bytesB_get l (i - 8) (by omega), show i / 8 = (i - 8) / 8 + 1 by omega, show (i - 8) % 8 = i % 8 by omega, List.getD_cons_succ]
theorem bytesB_app (a b : List UInt8) : bytesB (a ++ b) = bytesB a ++ bytesB b := by simp [bytesB]
theorem bit_or (x b j k : Nat) (hb : b < 2) : (x ||| b * 2 ^ j) / 2 ^ k % 2 = if k = j then (if b = 1 then 1 else x / 2 ^ j % 2) else x / 2 ^ k % 2 := by
  have ht : ∀ y k : Nat, y / 2 ^ k % 2 = (y.testBit k).toNat := by
    intro y k
    rw [Nat.testBit_eq_decide_div_mod_eq]
    by_cases h : y / 2 ^ k % 2 = 1
    · simp [h]
    · have : y / 2 ^ k % 2 = 0 := by omega
      simp [this]
  rw [ht, ht, ht, Nat.testBit_or, Nat.testBit_mul_two_pow]
  by_cases hk : k = j
  · subst hk
    rw [if_pos rfl, Nat.sub_self]
    by_cases h1 : b = 1
    · subst h1; simp
    · have : b = 0 := by omega
      subst this; simp
  · rw [if_neg hk]
    by_cases hj : j ≤ k
    · have h2 : b.testBit (k - j) = false := Nat.testBit_lt_two_pow (Nat.lt_of_lt_of_le hb (by have := Nat.pow_le_pow_right (n := 2) (by omega) (show 1 ≤ k - j by omega); omega))
      simp [h2]
    · simp [hj]
/-- Each bit is in its byte. -/
theorem stB_bit (bs : List Nat) (h2 : ∀ b ∈ bs, b < 2) : ∀ i, ((stB bs).1.getD (i / 8) 0).toNat / 2 ^ (i % 8) % 2 = bs.getD i 0 := by
  refine snoc_ind (P := fun bs => (∀ b ∈ bs, b < 2) → ∀ i, ((stB bs).1.getD (i / 8) 0).toNat / 2 ^ (i % 8) % 2 = bs.getD i 0) ?_ ?_ bs h2
  · intro _ i
    show ((([] : List UInt8).getD (i / 8) 0).toNat) / 2 ^ (i % 8) % 2 = _
    simp
  · intro l b ih hlb i
    have ihl := ih (fun x hx => hlb x (List.mem_append_left _ hx))
    have hb : b < 2 := hlb b (by simp)
    rw [stB_snoc]
    obtain ⟨s, hs⟩ : ∃ s, s = stB l := ⟨_, rfl⟩
    have hn : s.2 = l.length := by rw [hs, stB_n]
    have hk := stB_ok l
    rw [← hs] at ihl hk ⊢
    unfold okS at hk
    rw [hn] at hk
    simp only [oneS, hn]
    -- the byte for the bit is there
    have hT : ∀ k, (oneT s.1 l.length).getD k 0 = s.1.getD k 0 := by
      intro k
      unfold oneT
      split
      · rw [List.getD_eq_getElem?_getD, List.getD_eq_getElem?_getD]
        by_cases hkl : k < s.1.length
        · rw [List.getElem?_append_left hkl]
        · rw [List.getElem?_append_right (by omega), List.getElem?_eq_none (l := s.1) (by omega)]
          cases k - s.1.length with
          | zero => rfl
          | succ m => rfl
      · rfl
    have hlen : l.length / 8 < (oneT s.1 l.length).length := by
      unfold oneT
      split
      · rw [List.length_append, List.length_singleton]; omega
      · omega
    have hset : ((oneT s.1 l.length).set (l.length / 8) (UInt8.ofNat ((s.1.getD (l.length / 8) 0).toNat ||| b * 2 ^ (l.length % 8)))).getD (i / 8) 0 = if i / 8 = l.length / 8 then UInt8.ofNat ((s.1.getD (l.length / 8) 0).toNat ||| b * 2 ^ (l.length % 8)) else s.1.getD (i / 8) 0 := by
      by_cases hi : i / 8 = l.length / 8
      · rw [if_pos hi, hi, List.getD_eq_getElem?_getD, List.getElem?_set_self hlen]; rfl
      · rw [if_neg hi, ← hT (i / 8), List.getD_eq_getElem?_getD, List.getElem?_set_ne (fun e => hi e.symm), ← List.getD_eq_getElem?_getD]
    rw [hT, hset]
    have hx := (s.1.getD (l.length / 8) 0).toNat_lt
    have hlt : (s.1.getD (l.length / 8) 0).toNat ||| b * 2 ^ (l.length % 8) < 2 ^ 8 := by
      refine Nat.or_lt_two_pow hx ?_
      have h7 : 2 ^ (l.length % 8) ≤ 2 ^ 7 := Nat.pow_le_pow_right (by omega) (by omega)
      have : b * 2 ^ (l.length % 8) ≤ 1 * 2 ^ (l.length % 8) := Nat.mul_le_mul_right _ (by omega)
      have : (2 : Nat) ^ 7 < 2 ^ 8 := by decide
      omega
    by_cases hi : i / 8 = l.length / 8
    · rw [if_pos hi, UInt8.toNat_ofNat', Nat.mod_eq_of_lt hlt, bit_or _ _ _ _ hb]
      have hold := ihl i
      rw [hi] at hold
      by_cases hj : i % 8 = l.length % 8
      · have hil : i = l.length := by omega
        subst hil
        rw [if_pos rfl]
        have h0 : l.getD l.length 0 = 0 := by rw [List.getD_eq_getElem?_getD, List.getElem?_eq_none (Nat.le_refl _)]; rfl
        have h1 : (l ++ [b]).getD l.length 0 = b := by rw [List.getD_eq_getElem?_getD, List.getElem?_append_right (Nat.le_refl _), Nat.sub_self]; rfl
        rw [h0] at hold
        rw [hold, h1]
        by_cases hb1 : b = 1
        · rw [if_pos hb1, hb1]
        · rw [if_neg hb1]; omega
      · rw [if_neg hj, hold]
        have hil : i ≠ l.length := fun e => hj (by rw [e])
        rw [List.getD_eq_getElem?_getD, List.getD_eq_getElem?_getD]
        by_cases hlt2 : i < l.length
        · rw [List.getElem?_append_left hlt2]
        · rw [List.getElem?_eq_none (l := l) (by omega), List.getElem?_eq_none (by rw [List.length_append, List.length_singleton]; omega)]
    · rw [if_neg hi, ihl i]
      have hil : i ≠ l.length := fun e => hi (by rw [e])
      rw [List.getD_eq_getElem?_getD, List.getD_eq_getElem?_getD]
      by_cases hlt2 : i < l.length
      · rw [List.getElem?_append_left hlt2]
      · rw [List.getElem?_eq_none (l := l) (by omega), List.getElem?_eq_none (by rw [List.length_append, List.length_singleton]; omega)]
def padN (n : Nat) : Nat := (n + 7) / 8 * 8 - n
/-- What is read of the written bytes: the bits, and zeros till a byte is full. -/
theorem bytes_stB (bs : List Nat) (h2 : ∀ b ∈ bs, b < 2) : bytesB (stB bs).1 = bs ++ List.replicate (padN bs.length) 0 := by
  refine List.ext_getElem? fun i => ?_
  have hl : (stB bs).1.length = (bs.length + 7) / 8 := stB_len bs
  by_cases hi : i < 8 * (stB bs).1.length
  · rw [bytesB_get _ i hi, stB_bit bs h2 i]
    by_cases hb : i < bs.length
    · rw [List.getElem?_append_left hb, List.getD_eq_getElem?_getD, List.getElem?_eq_getElem hb]; rfl
    · rw [List.getElem?_append_right (by omega), List.getElem?_replicate, if_pos (by unfold padN; omega), List.getD_eq_getElem?_getD, List.getElem?_eq_none (by omega)]; rfl
  · rw [List.getElem?_eq_none (by rw [bytesB_len]; omega), List.getElem?_eq_none]
    rw [List.length_append, List.length_replicate]
    unfold padN
    omega
end Go.Proofs.YtbchaomnjbkdhaaGreat
namespace Go.Proofs.YtbchaomnjbkdhaaGreat
set_option linter.unusedVariables false
end Go.Proofs.YtbchaomnjbkdhaaGreat
namespace Go.Proofs.YtbchaomnjbkdhaaGreat
set_option linter.unusedVariables false
def countA (l : List Item) : List Nat := (List.range 286).map fun s => l.countP (fun x => (litP x).symbol == s) + if s = 256 then 1 else 0
def countD (l : List Item) : List Nat := (List.range 30).map fun s => l.countP (fun x => decide (0 < x.far) && (farP x).symbol == s)
/-- Zeros off the end, but so many are left. -/
def cutL (least : Nat) : Nat → List Nat → List Nat
  | 0, l => l
  | f + 1, l => if least < l.length ∧ l.getD (l.length - 1) 0 = 0 then cutL least f (l.take (l.length - 1)) else l
/-- How long a list's head is alike. -/
def headRun (l : List Nat) : Nat := min 138 (l.takeWhile (· == l.headD 0)).length
def shortF : Nat → List Nat → List Part
  | 0, _ => []
  | _ + 1, [] => []
  | f + 1, a :: r =>
    if a = 0 ∧ 11 ≤ headRun (a :: r) then ⟨18, 7, headRun (a :: r) - 11⟩ :: shortF f ((a :: r).drop (headRun (a :: r)))
    else if a = 0 ∧ 3 ≤ headRun (a :: r) then ⟨17, 3, headRun (a :: r) - 3⟩ :: shortF f ((a :: r).drop (headRun (a :: r)))
    else if 0 < a ∧ 4 ≤ headRun (a :: r) then ⟨a, 0, 0⟩ :: ⟨16, 2, min (headRun (a :: r)) 7 - 4⟩ :: shortF f ((a :: r).drop (min (headRun (a :: r)) 7))
    else ⟨a, 0, 0⟩ :: shortF f r
def shortL (l : List Nat) : List Part := shortF l.length l
theorem take_tw (p : Nat → Bool) : ∀ r : List Nat, r.take (r.takeWhile p).length = r.takeWhile p ∧ r.drop (r.takeWhile p).length = r.dropWhile p
  | [] => ⟨rfl, rfl⟩
  | a :: r => by
    have ih := take_tw p r
    cases h : p a with
    | true => rw [List.takeWhile_cons_of_pos h, List.dropWhile_cons_of_pos h, List.length_cons, List.take_succ_cons, List.drop_succ_cons, ih.1, ih.2]; exact ⟨rfl, rfl⟩
    | false => rw [List.takeWhile_cons_of_neg (by simp [h]), List.dropWhile_cons_of_neg (by simp [h])]; exact ⟨rfl, rfl⟩
theorem headRun_cons (a : Nat) (r : List Nat) : 1 ≤ headRun (a :: r) ∧ headRun (a :: r) ≤ 138 ∧ headRun (a :: r) ≤ (a :: r).length ∧ ∀ x ∈ (a :: r).take (headRun (a :: r)), x = a := by
  have h1 : (a :: r).takeWhile (· == (a :: r).headD 0) = a :: r.takeWhile (· == a) := by
    rw [List.headD_cons, List.takeWhile_cons_of_pos (by simp)]
  unfold headRun
  rw [h1, List.length_cons]
  have h2 : (r.takeWhile (· == a)).length ≤ r.length := (List.takeWhile_sublist _).length_le
  refine ⟨by omega, by omega, by rw [List.length_cons]; omega, fun x hx => ?_⟩
  have h3 : x ∈ (a :: r).take ((r.takeWhile (· == a)).length + 1) := (List.take_sublist_take_left (by omega)).subset hx
  rw [List.take_succ_cons, List.mem_cons] at h3
  rcases h3 with h3 | h3
  · exact h3
  · rw [(take_tw (· == a) r).1] at h3
    simpa using List.all_eq_true.1 (List.all_takeWhile (l := r) (p := (· == a))) x h3
theorem short_fuel : ∀ (f g : Nat) (l : List Nat), l.length ≤ f → l.length ≤ g → shortF f l = shortF g l
  | 0, 0, l, _, _ => rfl
  | 0, g + 1, l, h, _ => by
    have e : l = [] := List.eq_nil_of_length_eq_zero (by omega)
    subst e; rfl
  | f + 1, 0, l, _, h => by
    have e : l = [] := List.eq_nil_of_length_eq_zero (by omega)
    subst e; rfl
  | f + 1, g + 1, [], _, _ => rfl
  | f + 1, g + 1, a :: r, h1, h2 => by
    obtain ⟨k1, k2, k3, -⟩ := headRun_cons a r
    rw [List.length_cons] at h1 h2
    have hd : ∀ k, 1 ≤ k → ((a :: r).drop k).length ≤ r.length := fun k hk => by rw [List.length_drop, List.length_cons]; omega
    have e1 := short_fuel f g ((a :: r).drop (headRun (a :: r))) (by have := hd _ k1; omega) (by have := hd _ k1; omega)
    have e2 := short_fuel f g ((a :: r).drop (min (headRun (a :: r)) 7)) (by have := hd (min (headRun (a :: r)) 7) (by omega); omega) (by have := hd (min (headRun (a :: r)) 7) (by omega); omega)
    have e3 := short_fuel f g r (by omega) (by omega)
    rw [shortF, shortF, e1, e2, e3]
end Go.Proofs.YtbchaomnjbkdhaaGreat
namespace Go.Proofs.YtbchaomnjbkdhaaGreat
set_option linter.unusedVariables false
def partB (ls : List Nat) (p : Part) : List Nat := encS ls p.symbol ++ loB p.wide p.more
def encIt (lits dist : List Nat) (x : Item) : List Nat := partB lits (litP x) ++ if x.far = 0 then [] else partB dist (farP x)
def encL (lits dist : List Nat) (l : List Item) : List Nat := l.flatMap (encIt lits dist) ++ encS lits 256
theorem encS_len (ls : List Nat) (s : Nat) : (encS ls s).length = ls.getD s 0 := hiB_len _ _
theorem partB_len (ls : List Nat) (p : Part) : (partB ls p).length = ls.getD p.symbol 0 + p.wide := by rw [partB, List.length_append, encS_len, loB_len]
/-- By the codes that are told. -/
def fixB (b : List UInt8) : List Nat := loB 1 1 ++ loB 2 1 ++ encL fixedLits fixedDist (itemsL b)
def orderL : List Nat := [16, 17, 18, 0, 8, 7, 9, 6, 10, 5, 11, 4, 12, 3, 13, 2, 14, 1, 15]
/-- How many lengths of lengths are told. -/
def tellK (cl : List Nat) : Nat → Nat
  | 0 => 4
  | k + 1 => if 4 < k + 1 ∧ cl.getD (orderL.getD k 0) 0 = 0 then tellK cl k else k + 1
def oftenL (runs : List Part) : List Nat := (List.range 19).map fun s => runs.countP (fun p => p.symbol == s)
def litsL (l : List Item) : List Nat := let a := lengthsL (countA l) 15; cutL 257 a.length a
def distL (l : List Item) : List Nat := let d := lengthsL (countD l) 15; cutL 1 d.length d
def runsL (l : List Item) : List Part := shortL (litsL l ++ distL l)
def codesL (l : List Item) : List Nat := lengthsL (oftenL (runsL l)) 7
def headB (l : List Item) : List Nat :=
  loB 5 ((litsL l).length - 257) ++ loB 5 ((distL l).length - 1) ++ loB 4 (tellK (codesL l) 19 - 4) ++ (orderL.take (tellK (codesL l) 19)).flatMap (fun s => loB 3 ((codesL l).getD s 0)) ++ (runsL l).flatMap (partB (codesL l))
/-- By codes of one's own. -/
def dynB (b : List UInt8) : List Nat := loB 1 1 ++ loB 2 2 ++ headB (itemsL b) ++ encL (litsL (itemsL b)) (distL (itemsL b)) (itemsL b)
theorem cutL_spec (least : Nat) : ∀ f (l : List Nat), l.length ≤ f → least ≤ l.length →
    ∃ z, l = cutL least f l ++ List.replicate z 0 ∧ least ≤ (cutL least f l).length ∧ ((cutL least f l).length = least ∨ (cutL least f l).getD ((cutL least f l).length - 1) 0 ≠ 0)
  | 0, l, h1, h2 => ⟨0, by simp [cutL], h2, .inl (by simp [cutL]; omega)⟩
  | f + 1, l, h1, h2 => by
    rw [cutL]
    by_cases hc : least < l.length ∧ l.getD (l.length - 1) 0 = 0
    · rw [if_pos hc]
      have hlen : (l.take (l.length - 1)).length = l.length - 1 := by rw [List.length_take]; omega
      obtain ⟨z, h3, h4, h5⟩ := cutL_spec least f (l.take (l.length - 1)) (by omega) (by omega)
      refine ⟨z + 1, ?_, h4, h5⟩
      have e : l = l.take (l.length - 1) ++ [0] := by
        have hn : l ≠ [] := fun h => by rw [h] at hc; simp at hc
        have h6 := List.take_append_getLast l hn
        rw [List.getLast_eq_getElem] at h6
        have h7 : l[l.length - 1]'(by omega) = 0 := by
          have := hc.2
          rw [List.getD_eq_getElem?_getD, List.getElem?_eq_getElem (by omega)] at this
          exact this
        rw [h7] at h6
        exact h6.symm
      rw [List.replicate_succ', ← List.append_assoc, ← h3]
      exact e
    · rw [if_neg hc]
      refine ⟨0, by simp, h2, ?_⟩
      by_cases h3 : least < l.length
      · exact .inr fun h => hc ⟨h3, h⟩
      · exact .inl (by omega)
theorem cut_getD (least : Nat) (l : List Nat) (h : least ≤ l.length) (s : Nat) : (cutL least l.length l).getD s 0 = l.getD s 0 := by
  obtain ⟨z, h1, h2, h3⟩ := cutL_spec least l.length l (Nat.le_refl _) h
  generalize cutL least l.length l = c at *
  rw [h1, List.getD_eq_getElem?_getD, List.getD_eq_getElem?_getD]
  by_cases hs : s < c.length
  · rw [List.getElem?_append_left hs]
  · rw [List.getElem?_append_right (by omega), List.getElem?_eq_none (l := c) (by omega), List.getElem?_replicate]
    split <;> rfl
theorem cut_mem (least : Nat) (l : List Nat) (h : least ≤ l.length) : ∀ x ∈ cutL least l.length l, x ∈ l := by
  obtain ⟨z, h1, -, -⟩ := cutL_spec least l.length l (Nat.le_refl _) h
  intro x hx
  rw [h1]
  exact List.mem_append_left _ hx
theorem countA_len (l : List Item) : (countA l).length = 286 := by simp [countA]
theorem countD_len (l : List Item) : (countD l).length = 30 := by simp [countD]
theorem countA_at (l : List Item) (s : Nat) (h : s < 286) : (countA l).getD s 0 = l.countP (fun x => (litP x).symbol == s) + if s = 256 then 1 else 0 := by
  rw [List.getD_eq_getElem?_getD, countA, List.getElem?_map, List.getElem?_range h]; rfl
theorem countD_at (l : List Item) (s : Nat) (h : s < 30) : (countD l).getD s 0 = l.countP (fun x => decide (0 < x.far) && (farP x).symbol == s) := by
  rw [List.getD_eq_getElem?_getD, countD, List.getElem?_map, List.getElem?_range h]; rfl
theorem countA_le (l : List Item) : ∀ x ∈ countA l, x ≤ l.length + 1 := by
  intro x hx
  obtain ⟨s, hs, rfl⟩ := List.mem_map.1 hx
  have := List.countP_le_length (p := fun x : Item => (litP x).symbol == s) (l := l)
  split <;> omega
theorem countD_le (l : List Item) : ∀ x ∈ countD l, x ≤ l.length := by
  intro x hx
  obtain ⟨s, hs, rfl⟩ := List.mem_map.1 hx
  exact List.countP_le_length
theorem nodup_le : ∀ (c a : List Nat), a.Nodup → (∀ x ∈ a, x ∈ c) → a.length ≤ c.length
  | [], a, _, h => by
    cases a with
    | nil => exact Nat.le_refl _
    | cons x a => have := h x (.head _); cases this
  | x :: c, a, hn, h => by
    have ih := nodup_le c (a.erase x) (hn.erase x) fun y hy => by
      have hy2 := (List.Nodup.mem_erase_iff hn).1 hy
      rcases List.mem_cons.1 (h y hy2.2) with h1 | h1
      · exact absurd h1 hy2.1
      · exact h1
    rw [List.length_cons]
    by_cases hx : x ∈ a
    · have := List.length_erase_of_mem hx; omega
    · rw [List.erase_of_not_mem hx] at ih; omega
theorem come_le (l : List Nat) (n : Nat) (h : ∀ s, 0 < l.getD s 0 → s < n) : (comeF l 0).length ≤ n := by
  have := nodup_le (List.range n) (comeF l 0) (come_nodup l 0) fun s hs => List.mem_range.2 (h s (come_lt l s hs).2)
  rwa [List.length_range] at this
theorem pos_lt {l : List Nat} {s : Nat} (h : 0 < l.getD s 0) : s < l.length := by
  rcases Nat.lt_or_ge s l.length with h2 | h2
  · exact h2
  · rw [List.getD_eq_getElem?_getD, List.getElem?_eq_none h2] at h; exact absurd h (by simp)
/-- The lengths of an item list's symbols. -/
theorem lits_ok (l : List Item) (hn : l.length ≤ 1000000) : LenOk (countA l) (lengthsL (countA l) 15) ∧ ∀ n ∈ lengthsL (countA l) 15, n ≤ 15 := by
  have h30 : (2 : Nat) ^ 30 = 1073741824 := by decide
  refine lengths_ok (countA l) 15 (fun x hx => ?_) ?_ (by omega) (by rw [countA_len]; omega)
  · have := countA_le l x hx; omega
  · have := come_le (countA l) 286 (fun s hs => by have := pos_lt hs; rwa [countA_len] at this)
    have e : (2 : Nat) ^ 15 = 32768 := by decide
    omega
theorem dist_ok (l : List Item) (hn : l.length ≤ 1000000) : LenOk (countD l) (lengthsL (countD l) 15) ∧ ∀ n ∈ lengthsL (countD l) 15, n ≤ 15 := by
  have h30 : (2 : Nat) ^ 30 = 1073741824 := by decide
  refine lengths_ok (countD l) 15 (fun x hx => ?_) ?_ (by omega) (by rw [countD_len]; omega)
  · have := countD_le l x hx; omega
  · have := come_le (countD l) 30 (fun s hs => by have := pos_lt hs; rwa [countD_len] at this)
    have e : (2 : Nat) ^ 15 = 32768 := by decide
    omega
theorem short_syms : ∀ (f : Nat) (l : List Nat), ∀ p ∈ shortF f l, p.symbol ∈ l ∨ (p.symbol = 16 ∧ p.wide = 2 ∧ p.more < 4) ∨ (p.symbol = 17 ∧ p.wide = 3 ∧ p.more < 8) ∨ (p.symbol = 18 ∧ p.wide = 7 ∧ p.more < 128)
  | 0, l, p, h => by cases h
  | f + 1, [], p, h => by cases h
  | f + 1, a :: r, p, h => by
    have hd : ∀ k, ∀ p ∈ shortF f ((a :: r).drop k), p.symbol ∈ (a :: r) ∨ (p.symbol = 16 ∧ p.wide = 2 ∧ p.more < 4) ∨ (p.symbol = 17 ∧ p.wide = 3 ∧ p.more < 8) ∨ (p.symbol = 18 ∧ p.wide = 7 ∧ p.more < 128) := by
      intro k p hp
      rcases short_syms f _ p hp with h1 | h1
      · exact .inl (List.mem_of_mem_drop h1)
      · exact .inr h1
    have hr138 := (headRun_cons a r).2.1
    rw [shortF] at h
    split at h
    · rename_i hc
      rcases List.mem_cons.1 h with rfl | h
      · refine .inr (.inr (.inr ⟨rfl, rfl, ?_⟩)); dsimp only; omega
      · exact hd _ p h
    · rename_i hc1
      split at h
      · rename_i hc
        rcases List.mem_cons.1 h with rfl | h
        · refine .inr (.inr (.inl ⟨rfl, rfl, ?_⟩)); dsimp only; omega
        · exact hd _ p h
      · split at h
        · rcases List.mem_cons.1 h with rfl | h
          · exact .inl (.head _)
          · rcases List.mem_cons.1 h with rfl | h
            · refine .inr (.inl ⟨rfl, rfl, ?_⟩); dsimp only; omega
            · exact hd _ p h
        · rcases List.mem_cons.1 h with rfl | h
          · exact .inl (.head _)
          · have := hd 1 p (by rw [List.drop_succ_cons, List.drop_zero]; exact h)
            exact this
theorem oftenL_len (r : List Part) : (oftenL r).length = 19 := by simp [oftenL]
theorem oftenL_at (r : List Part) (s : Nat) (h : s < 19) : (oftenL r).getD s 0 = r.countP (fun p => p.symbol == s) := by
  rw [List.getD_eq_getElem?_getD, oftenL, List.getElem?_map, List.getElem?_range h]; rfl
theorem codes_ok (runs : List Part) (hn : runs.length ≤ 1000000) : LenOk (oftenL runs) (lengthsL (oftenL runs) 7) ∧ ∀ n ∈ lengthsL (oftenL runs) 7, n ≤ 7 := by
  have h30 : (2 : Nat) ^ 30 = 1073741824 := by decide
  refine lengths_ok (oftenL runs) 7 (fun x hx => ?_) ?_ (by omega) (by rw [oftenL_len]; omega)
  · obtain ⟨s, hs, rfl⟩ := List.mem_map.1 hx
    have := List.countP_le_length (p := fun p : Part => p.symbol == s) (l := runs)
    omega
  · have := come_le (oftenL runs) 19 (fun s hs => by have := pos_lt hs; rwa [oftenL_len] at this)
    have e : (2 : Nat) ^ 7 = 128 := by decide
    omega
theorem short_len : ∀ (f : Nat) (l : List Nat), (shortF f l).length ≤ 2 * f
  | 0, l => by simp [shortF]
  | f + 1, [] => by simp [shortF]
  | f + 1, a :: r => by
    have h1 := short_len f ((a :: r).drop (headRun (a :: r)))
    have h2 := short_len f ((a :: r).drop (min (headRun (a :: r)) 7))
    have h3 := short_len f r
    rw [shortF]
    split
    · rw [List.length_cons]; omega
    · split
      · rw [List.length_cons]; omega
      · split
        · rw [List.length_cons, List.length_cons]; omega
        · rw [List.length_cons]; omega
theorem litsL_len (l : List Item) (hn : l.length ≤ 1000000) : 257 ≤ (litsL l).length ∧ (litsL l).length ≤ 286 := by
  have h := (lits_ok l hn).1.len
  rw [countA_len] at h
  unfold litsL
  dsimp only
  obtain ⟨z, h1, h2, -⟩ := cutL_spec 257 (lengthsL (countA l) 15).length (lengthsL (countA l) 15) (Nat.le_refl _) (by omega)
  refine ⟨h2, ?_⟩
  have := congrArg List.length h1
  rw [List.length_append] at this
  omega
theorem distL_len (l : List Item) (hn : l.length ≤ 1000000) : 1 ≤ (distL l).length ∧ (distL l).length ≤ 30 := by
  have h := (dist_ok l hn).1.len
  rw [countD_len] at h
  unfold distL
  dsimp only
  obtain ⟨z, h1, h2, -⟩ := cutL_spec 1 (lengthsL (countD l) 15).length (lengthsL (countD l) 15) (Nat.le_refl _) (by omega)
  refine ⟨h2, ?_⟩
  have := congrArg List.length h1
  rw [List.length_append] at this
  omega
theorem tellK_le (cl : List Nat) : ∀ k, 4 ≤ k → 4 ≤ tellK cl k ∧ tellK cl k ≤ k
  | 0, h => by omega
  | k + 1, h => by
    rw [tellK]
    split
    · rename_i hc
      have := tellK_le cl k (by omega); omega
    · omega
end Go.Proofs.YtbchaomnjbkdhaaGreat
namespace Go.Proofs.YtbchaomnjbkdhaaGreat
set_option linter.unusedVariables false
def leN : List Nat → Nat
  | [] => 0
  | b :: l => b + 2 * leN l
theorem leN_app : ∀ a b : List Nat, leN (a ++ b) = leN a + 2 ^ a.length * leN b
  | [], b => by simp [leN]
  | x :: a, b => by
    rw [List.cons_append, leN, leN, leN_app a b, List.length_cons, Nat.pow_succ, Nat.mul_add]
    have : 2 * (2 ^ a.length * leN b) = 2 ^ a.length * 2 * leN b := by rw [Nat.mul_comm (2 ^ a.length) 2, Nat.mul_assoc]
    omega
theorem leN_loB : ∀ n v, leN (loB n v) = v % 2 ^ n
  | 0, v => by simp [loB, leN, Nat.mod_one]
  | n + 1, v => by
    rw [loB_snoc, leN_app, leN_loB n v, loB_len, leN, leN, Nat.mul_zero, Nat.add_zero, Nat.pow_succ, Nat.mod_mul]
theorem leN_lt : ∀ l : List Nat, (∀ b ∈ l, b < 2) → leN l < 2 ^ l.length
  | [], _ => by simp [leN]
  | b :: l, h => by
    have h1 := h b (.head _)
    have h2 := leN_lt l fun x hx => h x (.tail _ hx)
    rw [leN, List.length_cons, Nat.pow_succ]
    omega
theorem bytesB_two (l : List UInt8) : ∀ b ∈ bytesB l, b < 2 := by
  intro b hb
  obtain ⟨i, hi, rfl⟩ := List.getElem_of_mem hb
  rw [bytesB_len] at hi
  have := bytesB_get l i hi
  rw [List.getElem?_eq_getElem (by rw [bytesB_len]; exact hi)] at this
  injection this with this
  rw [this]; omega
/-- What the reader takes out of one byte. -/
theorem take_byte (l : List UInt8) : ∀ (k q : Nat), q % 8 + k ≤ 8 → q + k ≤ 8 * l.length → leN (((bytesB l).drop q).take k) = (l.getD (q / 8) 0).toNat / 2 ^ (q % 8) % 2 ^ k
  | 0, q, _, _ => by simp [leN, Nat.mod_one]
  | k + 1, q, h1, h2 => by
    have ih := take_byte l k q (by omega) (by omega)
    have hg := bytesB_get l (q + k) (by omega)
    rw [List.take_add_one, List.getElem?_drop, hg, Option.toList_some, leN_app, ih, leN, leN, Nat.mul_zero, Nat.add_zero, List.length_take, List.length_drop, bytesB_len, Nat.min_eq_left (by omega)]
    have e1 : (q + k) / 8 = q / 8 := by omega
    have e2 : (q + k) % 8 = q % 8 + k := by omega
    rw [e1, e2, Nat.pow_add, ← Nat.div_div_eq_div_mul]
    generalize (l.getD (q / 8) 0).toNat / 2 ^ (q % 8) = x
    rw [Nat.pow_succ, Nat.mod_mul]
theorem take_more (bs : List Nat) (p g k : Nat) (h : p + g + k ≤ bs.length) : leN ((bs.drop p).take (g + k)) = leN ((bs.drop p).take g) + 2 ^ g * leN ((bs.drop (p + g)).take k) := by
  rw [List.take_add, leN_app, List.drop_drop, List.length_take, List.length_drop, Nat.min_eq_left (by omega)]
end Go.Proofs.YtbchaomnjbkdhaaGreat
namespace Go.Proofs.YtbchaomnjbkdhaaGreat
set_option linter.unusedVariables false
/-- So many bytes more, each of so far back. -/
def copyN (far : Nat) : Nat → List UInt8 → List UInt8
  | 0, out => out
  | n + 1, out => copyN far n (out ++ [out.getD (out.length - far) 0])
def putI (out : List UInt8) (x : Item) : List UInt8 := if x.far = 0 then out ++ [x.c] else copyN x.far x.long out
theorem copyN_len (far : Nat) : ∀ n out, (copyN far n out).length = out.length + n
  | 0, out => rfl
  | n + 1, out => by rw [copyN, copyN_len far n]; simp; omega
theorem putI_len (out : List UInt8) (x : Item) : (putI out x).length = out.length + sizeI x := by
  unfold putI sizeI
  split
  · simp
  · exact copyN_len _ _ _
theorem copy_take (b : List UInt8) (far : Nat) : ∀ n i, 1 ≤ far → far ≤ i → i + n ≤ b.length → (∀ j, j < n → b.getD (i + j - far) 0 = b.getD (i + j) 0) → copyN far n (b.take i) = b.take (i + n)
  | 0, i, _, _, _, _ => rfl
  | n + 1, i, h1, h2, h3, h4 => by
    rw [copyN]
    have hl : (b.take i).length = i := by rw [List.length_take]; omega
    have e : b.take i ++ [(b.take i).getD ((b.take i).length - far) 0] = b.take (i + 1) := by
      rw [hl, List.take_succ_eq_append_getElem (show i < b.length by omega)]
      congr 2
      rw [List.getD_eq_getElem?_getD, List.getElem?_take_of_lt (by omega), ← List.getD_eq_getElem?_getD]
      have := h4 0 (by omega)
      rw [Nat.add_zero] at this
      rw [this, List.getD_eq_getElem?_getD, List.getElem?_eq_getElem (by omega)]; rfl
    rw [e, copy_take b far n (i + 1) h1 (by omega) (by omega) (fun j hj => by
      have := h4 (j + 1) (by omega)
      rw [show i + 1 + j - far = i + (j + 1) - far by omega, show i + 1 + j = i + (j + 1) by omega]; exact this)]
    congr 1; omega
theorem runL_same (b : List UInt8) (k i : Nat) : ∀ f n, (∀ j, j < n → b.getD (k + j) 0 = b.getD (i + j) 0) → ∀ j, j < runL b k i f n → b.getD (k + j) 0 = b.getD (i + j) 0
  | 0, n, h => h
  | f + 1, n, h => by
    rw [runL]
    split
    · rename_i hc
      exact runL_same b k i f (n + 1) fun j hj => by
        by_cases hjn : j = n
        · subst hjn; exact hc.2.2
        · exact h j (by omega)
    · exact h
theorem match_same (b : List UInt8) (i : Nat) (h : 3 ≤ (matchAt b i).1) : ∀ j, j < (matchAt b i).1 → b.getD (i + j - (matchAt b i).2) 0 = b.getD (i + j) 0 := by
  unfold matchAt at h ⊢
  split at h
  · rename_i hl
    rw [if_pos hl]
    cases hc : came b i (tripAt b i) with
    | none => rw [hc] at h; exact absurd h (by simp)
    | some k =>
      rw [hc] at h
      dsimp only at h ⊢
      have hk := came_lt b _ i k hc
      split at h
      · rename_i hw
        rw [if_pos hw]
        dsimp only
        intro j hj
        have := runL_same b k i 258 0 (fun j hj => by omega) j hj
        rw [show i + j - (i - k) = k + j by omega]
        exact this
      · exact absurd h (by decide)
  · exact absurd h (by decide)
/-- All items, one behind the other, are the bytes. -/
theorem put_items (b : List UInt8) : ∀ f i, i ≤ b.length → b.length ≤ i + f → (itemsF b f i).foldl putI (b.take i) = b
  | 0, i, h1, h2 => by rw [itemsF, List.foldl_nil, List.take_of_length_le (by omega)]
  | f + 1, i, h1, h2 => by
    rw [itemsF]
    by_cases hl : i < b.length
    · rw [if_pos hl]
      by_cases hm : (matchAt b i).1 < 3
      · rw [if_pos hm, List.foldl_cons]
        have e : putI (b.take i) ⟨b.getD i 0, 0, 0⟩ = b.take (i + 1) := by
          rw [putI, if_pos rfl, List.take_succ_eq_append_getElem hl]
          congr 2
          rw [List.getD_eq_getElem?_getD, List.getElem?_eq_getElem hl]; rfl
        rw [e]
        exact put_items b f (i + 1) (by omega) (by omega)
      · rw [if_neg hm, List.foldl_cons]
        have hmm := matchAt_ok b i (by omega)
        have e : putI (b.take i) ⟨0, (matchAt b i).1, (matchAt b i).2⟩ = b.take (i + (matchAt b i).1) := by
          rw [putI, if_neg (by dsimp only; omega)]
          exact copy_take b _ _ i hmm.2.2.1 hmm.2.2.2.2 hmm.2.1 (match_same b i (by omega))
        rw [e]
        exact put_items b f _ (by omega) (by omega)
    · rw [if_neg hl, List.foldl_nil, List.take_of_length_le (by omega)]
theorem put_all (b : List UInt8) : (itemsL b).foldl putI [] = b := put_items b b.length 0 (by omega) (by omega)
/-- A copy's distance is within what is there. -/
def okFar : List UInt8 → List Item → Prop
  | _, [] => True
  | out, x :: l => x.far ≤ out.length ∧ okFar (putI out x) l
theorem items_far (b : List UInt8) : ∀ f i, i ≤ b.length → b.length ≤ i + f → okFar (b.take i) (itemsF b f i)
  | 0, i, h1, h2 => by rw [itemsF]; trivial
  | f + 1, i, h1, h2 => by
    rw [itemsF]
    by_cases hl : i < b.length
    · rw [if_pos hl]
      by_cases hm : (matchAt b i).1 < 3
      · rw [if_pos hm]
        have e : putI (b.take i) ⟨b.getD i 0, 0, 0⟩ = b.take (i + 1) := by
          rw [putI, if_pos rfl, List.take_succ_eq_append_getElem hl]
          congr 2
          rw [List.getD_eq_getElem?_getD, List.getElem?_eq_getElem hl]; rfl
        exact ⟨Nat.zero_le _, by rw [e]; exact items_far b f (i + 1) (by omega) (by omega)⟩
      · rw [if_neg hm]
        have hmm := matchAt_ok b i (by omega)
        have e : putI (b.take i) ⟨0, (matchAt b i).1, (matchAt b i).2⟩ = b.take (i + (matchAt b i).1) := by
          rw [putI, if_neg (by dsimp only; omega)]
          exact copy_take b _ _ i hmm.2.2.1 hmm.2.2.2.2 hmm.2.1 (match_same b i (by omega))
        exact ⟨by rw [List.length_take]; dsimp only; omega, by rw [e]; exact items_far b f _ (by omega) (by omega)⟩
    · rw [if_neg hl]; trivial
theorem far_all (b : List UInt8) : okFar [] (itemsL b) := items_far b b.length 0 (by omega) (by omega)
def runE (acc : List Nat) (p : Part) : List Nat :=
  if p.symbol = 16 then acc ++ List.replicate (3 + p.more) (acc.getD (acc.length - 1) 0)
  else if p.symbol = 17 then acc ++ List.replicate (3 + p.more) 0
  else if p.symbol = 18 then acc ++ List.replicate (11 + p.more) 0
  else acc ++ [p.symbol]
theorem take_rep (a : Nat) (l : List Nat) (k : Nat) (hk : k ≤ l.length) (h : ∀ x ∈ l.take k, x = a) : l = List.replicate k a ++ l.drop k := by
  conv => lhs; rw [← List.take_append_drop k l]
  congr 1
  rw [List.eq_replicate_iff]
  exact ⟨by rw [List.length_take]; omega, h⟩
theorem runs_back : ∀ (f : Nat) (l acc : List Nat), l.length ≤ f → (∀ x ∈ l, x ≤ 15) → (shortF f l).foldl runE acc = acc ++ l
  | 0, l, acc, h, _ => by
    have e : l = [] := List.eq_nil_of_length_eq_zero (by omega)
    subst e; simp [shortF]
  | f + 1, [], acc, _, _ => by simp [shortF]
  | f + 1, a :: r, acc, h, h15 => by
    obtain ⟨k1, k2, k3, k4⟩ := headRun_cons a r
    rw [List.length_cons] at h
    have ha := h15 a (.head _)
    have hd : ∀ k, 1 ≤ k → ((a :: r).drop k).length ≤ f := fun k hk => by rw [List.length_drop, List.length_cons]; omega
    have hm : ∀ k, ∀ x ∈ (a :: r).drop k, x ≤ 15 := fun k x hx => h15 x (List.mem_of_mem_drop hx)
    rw [shortF]
    by_cases c1 : a = 0 ∧ 11 ≤ headRun (a :: r)
    · rw [if_pos c1, List.foldl_cons, runs_back f _ _ (hd _ k1) (hm _)]
      have e := take_rep a (a :: r) (headRun (a :: r)) k3 k4
      simp only [runE]
      rw [if_neg (by omega), if_neg (by omega), if_pos trivial, show 11 + (headRun (a :: r) - 11) = headRun (a :: r) by omega, List.append_assoc]
      congr 1
      conv => rhs; rw [e]
      rw [c1.1]
    · rw [if_neg c1]
      by_cases c2 : a = 0 ∧ 3 ≤ headRun (a :: r)
      · rw [if_pos c2, List.foldl_cons, runs_back f _ _ (hd _ k1) (hm _)]
        have e := take_rep a (a :: r) (headRun (a :: r)) k3 k4
        simp only [runE]
        rw [if_neg (by omega), if_pos trivial, show 3 + (headRun (a :: r) - 3) = headRun (a :: r) by omega, List.append_assoc]
        congr 1
        conv => rhs; rw [e]
        rw [c2.1]
      · rw [if_neg c2]
        by_cases c3 : 0 < a ∧ 4 ≤ headRun (a :: r)
        · rw [if_pos c3, List.foldl_cons, List.foldl_cons, runs_back f _ _ (hd _ (by omega)) (hm _)]
          have e := take_rep a (a :: r) (min (headRun (a :: r)) 7) (by omega) (fun x hx => k4 x ((List.take_sublist_take_left (by omega)).subset hx))
          have e1 : runE acc ⟨a, 0, 0⟩ = acc ++ [a] := by
            simp only [runE]
            rw [if_neg (by omega), if_neg (by omega), if_neg (by omega)]
          have e2 : runE (acc ++ [a]) ⟨16, 2, min (headRun (a :: r)) 7 - 4⟩ = acc ++ List.replicate (min (headRun (a :: r)) 7) a := by
            simp only [runE]
            rw [if_pos trivial]
            have hg : (acc ++ [a]).getD ((acc ++ [a]).length - 1) 0 = a := by
              rw [List.length_append, List.length_singleton, Nat.add_sub_cancel, List.getD_eq_getElem?_getD, List.getElem?_append_right (Nat.le_refl _), Nat.sub_self]; rfl
            rw [hg, List.append_assoc]
            congr 1
            rw [show min (headRun (a :: r)) 7 = (3 + (min (headRun (a :: r)) 7 - 4)) + 1 by omega, List.replicate_succ]
            simp
          rw [e1, e2, List.append_assoc, ← e]
        · rw [if_neg c3, List.foldl_cons, runs_back f r _ (by omega) (fun x hx => h15 x (.tail _ hx))]
          simp only [runE]
          rw [if_neg (by omega), if_neg (by omega), if_neg (by omega)]
          simp
theorem runs_all (l : List Nat) (h : ∀ x ∈ l, x ≤ 15) : (shortL l).foldl runE [] = l := by
  have := runs_back l.length l [] (Nat.le_refl _) h
  simpa [shortL] using this
/-- What is repeated stands ahead of it. -/
def okRun : List Nat → List Part → Prop
  | _, [] => True
  | acc, p :: l => (p.symbol = 16 → acc ≠ []) ∧ okRun (runE acc p) l
theorem runs_ok : ∀ (f : Nat) (l acc : List Nat), (∀ x ∈ l, x ≤ 15) → okRun acc (shortF f l)
  | 0, l, acc, _ => trivial
  | f + 1, [], acc, _ => trivial
  | f + 1, a :: r, acc, h15 => by
    have ha := h15 a (.head _)
    have hm : ∀ k, ∀ x ∈ (a :: r).drop k, x ≤ 15 := fun k x hx => h15 x (List.mem_of_mem_drop hx)
    rw [shortF]
    split
    · exact ⟨fun h => absurd h (by simp), runs_ok f _ _ (hm _)⟩
    · split
      · exact ⟨fun h => absurd h (by simp), runs_ok f _ _ (hm _)⟩
      · split
        · refine ⟨fun h => ?_, ?_, runs_ok f _ _ (hm _)⟩
          · dsimp only at h; omega
          · intro _
            simp only [runE]
            rw [if_neg (by omega), if_neg (by omega), if_neg (by omega)]
            simp
        · refine ⟨fun h => ?_, runs_ok f r _ (fun x hx => h15 x (.tail _ hx))⟩
          dsimp only at h; omega
theorem runE_len (acc : List Nat) (p : Part) : acc.length < (runE acc p).length := by
  unfold runE
  split
  · rw [List.length_append, List.length_replicate]; omega
  · split
    · rw [List.length_append, List.length_replicate]; omega
    · split
      · rw [List.length_append, List.length_replicate]; omega
      · rw [List.length_append, List.length_singleton]; omega
theorem order_nodup : orderL.Nodup := by decide
theorem order_mem : ∀ s, s < 19 → s ∈ orderL := by decide
theorem order_lt : ∀ s ∈ orderL, s < 19 := by decide
theorem tell_zero (cl : List Nat) : ∀ k, k ≤ 19 → ∀ j, tellK cl k ≤ j → j < k → cl.getD (orderL.getD j 0) 0 = 0
  | 0, _, j, _, h => by omega
  | k + 1, hk, j, h1, h2 => by
    rw [tellK] at h1
    split at h1
    · rename_i hc
      by_cases hj : j = k
      · subst hj; exact hc.2
      · exact tell_zero cl k (by omega) j h1 (by omega)
    · omega
theorem told_back (cl : List Nat) (hl : cl.length = 19) (k : Nat) (hk : k ≤ 19) (h : ∀ j, k ≤ j → j < 19 → cl.getD (orderL.getD j 0) 0 = 0) :
    setAll ((orderL.take k).map fun s => (s, cl.getD s 0)) (List.replicate 19 0) = cl := by
  have hkeys : ((orderL.take k).map fun s => (s, cl.getD s 0)).map (·.1) = orderL.take k := by
    rw [List.map_map]; exact List.map_id _
  have hnd : (((orderL.take k).map fun s => (s, cl.getD s 0)).map (·.1)).Nodup := by rw [hkeys]; exact (List.take_sublist k orderL).nodup order_nodup
  refine List.ext_getElem? fun s => ?_
  by_cases hs : s < 19
  · by_cases hm : s ∈ orderL.take k
    · rw [setAll_at _ _ s (cl.getD s 0) hnd (List.mem_map.2 ⟨s, hm, rfl⟩) (by rw [List.length_replicate]; exact hs), List.getD_eq_getElem?_getD, List.getElem?_eq_getElem (by omega)]; rfl
    · rw [setAll_other _ _ s (by rw [hkeys]; exact hm), List.getElem?_replicate, if_pos hs]
      obtain ⟨j, hj, he⟩ := List.getElem_of_mem (order_mem s hs)
      have hjk : k ≤ j := by
        rcases Nat.lt_or_ge j k with h1 | h1
        · exfalso
          refine hm ?_
          rw [← he]
          exact List.mem_take_iff_getElem.2 ⟨j, by omega, rfl⟩
        · exact h1
      have h0 := h j hjk (by have : orderL.length = 19 := rfl; omega)
      rw [List.getD_eq_getElem?_getD (l := orderL), List.getElem?_eq_getElem hj, Option.getD_some, he, List.getD_eq_getElem?_getD, List.getElem?_eq_getElem (by omega)] at h0
      rw [List.getElem?_eq_getElem (by omega)]
      exact congrArg some h0.symm
  · rw [List.getElem?_eq_none (by rw [setAll_len, List.length_replicate]; omega), List.getElem?_eq_none (by omega)]
theorem codes_back (cl : List Nat) (hl : cl.length = 19) : setAll ((orderL.take (tellK cl 19)).map fun s => (s, cl.getD s 0)) (List.replicate 19 0) = cl :=
  told_back cl hl _ (tellK_le cl 19 (by omega)).2 (fun j h1 h2 => tell_zero cl 19 (Nat.le_refl _) j h1 h2)
theorem endC_kraft (ls : List Nat) (h : ∀ n ∈ ls, n ≤ 15) : endC ls 15 = kraftN ls 15 := by
  have h1 := endC_sum ls 15 15 (by omega) (by omega)
  rw [Nat.sub_self, Nat.pow_zero, Nat.mul_one, ← kraft_count ls 15 0 15] at h1
  rw [h1, kraftN]
  clear h1
  induction ls with
  | nil => rfl
  | cons a r ih =>
    have ih2 := ih fun n hn => h n (.tail _ hn)
    have ha := h a (.head _)
    rw [List.filter_cons, List.map_cons, List.sum_cons]
    by_cases h0 : a = 0
    · rw [if_neg (by simp; omega), if_pos h0, ih2, Nat.zero_add]
    · rw [if_pos (by simp; omega), if_neg h0, List.map_cons, List.sum_cons, ih2]
/-- What the two kinds of lengths are: whole, or one code alone, or none. -/
structure MayBe (ls : List Nat) : Prop where
  ok : codeOk ls
  fill : endC ls 15 = 2 ^ 15 ∨ ls.sum = 1 ∨ ls.sum = 0
  some_ : (∃ s, 0 < ls.getD s 0) → endC ls 15 = 2 ^ 15 ∨ ls.sum = 1
theorem sum_come : ∀ (ls : List Nat), (comeF ls 0).length ≤ 1 → (∀ n ∈ ls, n ≤ 1) → ls.sum = (comeF ls 0).length := by
  intro ls h1 h2
  rw [come_len] at h1 ⊢
  induction ls with
  | nil => rfl
  | cons a r ih =>
    have ha := h2 a (.head _)
    rw [List.filter_cons] at h1 ⊢
    rw [List.sum_cons]
    by_cases h0 : 0 < a
    · rw [if_pos (by simpa using h0)] at h1 ⊢
      rw [List.length_cons] at h1 ⊢
      rw [ih (by omega) fun n hn => h2 n (.tail _ hn)]
      omega
    · rw [if_neg (by simpa using h0)] at h1 ⊢
      rw [ih h1 fun n hn => h2 n (.tail _ hn)]
      omega
theorem mayBe_of {counts ls : List Nat} (h : LenOk counts ls) (h15 : ∀ n ∈ ls, n ≤ 15) : MayBe ls := by
  have hco : comeF ls 0 = comeF counts 0 := come_same h.len h.pos
  by_cases h2 : 2 ≤ (comeF counts 0).length
  · have hk := h.kraft h2 h15
    have he := endC_kraft ls h15
    exact ⟨codeOk_of ls h15 (by omega), .inl (by omega), fun _ => .inl (by omega)⟩
  · have h1 : ∀ n ∈ ls, n ≤ 1 := fun n hn => by have := h.low n hn; omega
    have hs := sum_come ls (by rw [hco]; omega) h1
    have hk : kraftN ls 15 ≤ ls.sum * 2 ^ 14 := by
      unfold kraftN
      clear hs hco h h2 h15
      induction ls with
      | nil => exact Nat.zero_le _
      | cons a r ih =>
        have ih2 := ih fun n hn => h1 n (.tail _ hn)
        have ha := h1 a (.head _)
        rw [List.map_cons, List.sum_cons, List.sum_cons, Nat.add_mul]
        by_cases h0 : a = 0
        · rw [if_pos h0]; omega
        · have : a = 1 := by omega
          subst this
          rw [if_neg h0]
          omega
    rw [hs, hco] at hk
    have h14 : (2 : Nat) ^ 14 = 16384 := by decide
    have h15' : (2 : Nat) ^ 15 = 32768 := by decide
    have hl1 : (comeF counts 0).length = 0 ∨ (comeF counts 0).length = 1 := by omega
    refine ⟨codeOk_of ls h15 ?_, ?_, ?_⟩
    · rcases hl1 with h3 | h3
      · rw [h3] at hk; omega
      · rw [h3] at hk; omega
    · rcases hl1 with h3 | h3
      · exact .inr (.inr (by rw [hs, hco, h3]))
      · exact .inr (.inl (by rw [hs, hco, h3]))
    · rintro ⟨s, hs0⟩
      have hm : s ∈ comeF ls 0 := (come_mem ls 0 s).2 ⟨Nat.zero_le _, hs0⟩
      rw [hco] at hm
      right
      rw [hs, hco]
      have := List.length_pos_of_mem hm
      omega
/-- Cut lengths are codes as well. -/
theorem firstC_cut (least : Nat) (l : List Nat) (h : least ≤ l.length) : ∀ n, firstC (cutL least l.length l) n = firstC l n := by
  obtain ⟨z, h1, -, -⟩ := cutL_spec least l.length l (Nat.le_refl _) h
  generalize cutL least l.length l = c at *
  intro n
  induction n with
  | zero => rfl
  | succ n ih =>
    rw [firstC, firstC, ih]
    by_cases h0 : n = 0
    · rw [if_pos h0, if_pos h0]
    · rw [if_neg h0, if_neg h0, h1, List.count_append, List.count_replicate, if_neg (by simp; omega), Nat.add_zero]
theorem mayBe_cut {l : List Nat} (h : MayBe l) (least : Nat) (hl : least ≤ l.length) : MayBe (cutL least l.length l) := by
  obtain ⟨z, h1, -, -⟩ := cutL_spec least l.length l (Nat.le_refl _) hl
  have hf := firstC_cut least l hl
  have hg := cut_getD least l hl
  generalize cutL least l.length l = c at *
  have hend : ∀ n, 1 ≤ n → endC c n = endC l n := by
    intro n hn
    rw [endC, endC, hf, h1, List.count_append, List.count_replicate, if_neg (by simp; omega), Nat.add_zero]
  have hsum : l.sum = c.sum := by rw [h1, List.sum_append, List.sum_replicate_nat]; simp
  refine ⟨⟨fun n hn => h.ok.1 n (by rw [h1]; exact List.mem_append_left _ hn), fun n a b => by rw [hend n a]; exact h.ok.2 n a b⟩, ?_, ?_⟩
  · rw [hend 15 (by omega), ← hsum]; exact h.fill
  · rintro ⟨s, hs⟩
    rw [hend 15 (by omega), ← hsum]
    exact h.some_ ⟨s, by rw [← hg]; exact hs⟩
end Go.Proofs.YtbchaomnjbkdhaaGreat
namespace Go.Proofs.YtbchaomnjbkdhaaGreat
set_option linter.unusedVariables false
def spanP (s g first : Nat) : Nat × Nat := if s < 2 * g then (first + s, 0) else (first + (g + s % g) * 2 ^ (s / g - 1), s / g - 1)
theorem scaleK_ge (n g : Nat) : ∀ f k, scaleK n g f k = k ∨ g ≤ n / 2 ^ scaleK n g f k
  | 0, k => .inl rfl
  | f + 1, k => by
    rw [scaleK]
    split
    · rename_i h
      rcases scaleK_ge n g f (k + 1) with h1 | h1
      · refine .inr ?_
        rw [h1, Nat.pow_succ, ← Nat.div_div_eq_div_mul]
        omega
      · exact .inr h1
    · exact .inl rfl
theorem span_scale (n g first : Nat) (hg : 0 < g) (hn : first ≤ n) (hs : n < 65536) :
    (spanP (scaleP n g first).symbol g first).1 + (scaleP n g first).more = n ∧ (spanP (scaleP n g first).symbol g first).2 = (scaleP n g first).wide ∧ (scaleP n g first).more < 2 ^ (scaleP n g first).wide := by
  unfold scaleP
  dsimp only
  have h3 := scaleK_end (n - first) g 64 0 (by
    have e : (2 : Nat) ^ (0 + 64) = 18446744073709551616 := by decide
    rw [e]
    have : 2 * 1 * 18446744073709551616 ≤ 2 * g * 18446744073709551616 := Nat.mul_le_mul_right _ (by omega)
    omega)
  have h4 := scaleK_ge (n - first) g 64 0
  generalize hk : scaleK (n - first) g 64 0 = k at *
  have h5 := Nat.div_add_mod (n - first) (2 ^ k)
  have h6 := Nat.mod_lt (n - first) (Nat.two_pow_pos k)
  generalize hm : (n - first) / 2 ^ k = m at *
  refine ⟨?_, ?_, h6⟩
  · unfold spanP
    rcases Nat.eq_zero_or_pos k with h0 | h0
    · subst h0
      rw [if_pos (by omega)]
      dsimp only
      simp at h5 h6 ⊢
      omega
    · have hgm : g ≤ m := by rcases h4 with h | h <;> omega
      have hkg : g ≤ k * g := Nat.le_mul_of_pos_left g h0
      rw [if_neg (by omega)]
      dsimp only
      have e1 : (k * g + m) / g = k + 1 := by
        rw [show k * g + m = (m - g) + (k + 1) * g by rw [Nat.succ_mul]; omega, Nat.add_mul_div_right _ _ hg, Nat.div_eq_of_lt (by omega)]; omega
      have e2 : (k * g + m) % g = m - g := by
        rw [show k * g + m = (m - g) + (k + 1) * g by rw [Nat.succ_mul]; omega, Nat.add_mul_mod_self_right, Nat.mod_eq_of_lt (by omega)]
      rw [e1, e2, show g + (m - g) = m by omega, Nat.add_sub_cancel, Nat.mul_comm m]
      omega
  · unfold spanP
    rcases Nat.eq_zero_or_pos k with h0 | h0
    · subst h0
      rw [if_pos (by omega)]
    · have hgm : g ≤ m := by rcases h4 with h | h <;> omega
      have hkg : g ≤ k * g := Nat.le_mul_of_pos_left g h0
      rw [if_neg (by omega)]
      dsimp only
      have e1 : (k * g + m) / g = k + 1 := by
        rw [show k * g + m = (m - g) + (k + 1) * g by rw [Nat.succ_mul]; omega, Nat.add_mul_div_right _ _ hg, Nat.div_eq_of_lt (by omega)]; omega
      rw [e1]; rfl
end Go.Proofs.YtbchaomnjbkdhaaGreat
namespace Go.Proofs.YtbchaomnjbkdhaaGreat
set_option linter.unusedVariables false
/-- As far as both go, the bits from a place on are these. -/
def Agr (l : List UInt8) (p : Nat) (E : List Nat) : Prop := ∀ j x, E[j]? = some x → p + j < 8 * l.length → (bytesB l)[p + j]? = some x
theorem Agr.left {l : List UInt8} {p : Nat} {E F : List Nat} (h : Agr l p (E ++ F)) : Agr l p E := fun j x hj hp => h j x (by
  rw [List.getElem?_append_left]
  · exact hj
  · rcases Nat.lt_or_ge j E.length with h | h
    · exact h
    · rw [List.getElem?_eq_none h] at hj; cases hj) hp
theorem Agr.right {l : List UInt8} {p : Nat} {E F : List Nat} (h : Agr l p (E ++ F)) : Agr l (p + E.length) F := fun j x hj hp => by
  have := h (E.length + j) x (by rw [List.getElem?_append_right (by omega), Nat.add_sub_cancel_left]; exact hj) (by omega)
  rw [← Nat.add_assoc] at this
  exact this
theorem Agr.take {l : List UInt8} {p : Nat} {E : List Nat} (h : Agr l p E) (hp : p + E.length ≤ 8 * l.length) : ((bytesB l).drop p).take E.length = E := by
  refine List.ext_getElem? fun j => ?_
  rw [List.getElem?_take]
  by_cases hj : j < E.length
  · rw [if_pos hj, List.getElem?_drop, h j E[j] (List.getElem?_eq_getElem hj) (by omega), List.getElem?_eq_getElem hj]
  · rw [if_neg hj, List.getElem?_eq_none (by omega)]
theorem Agr.lo {l : List UInt8} {p n v : Nat} (h : Agr l p (loB n v)) (hp : p + n ≤ 8 * l.length) : leN (((bytesB l).drop p).take n) = v % 2 ^ n := by
  have := h.take (by rw [loB_len]; exact hp)
  rw [loB_len] at this
  rw [this, leN_loB]
end Go.Proofs.YtbchaomnjbkdhaaGreat
namespace Go.Proofs.YtbchaomnjbkdhaaGreat
set_option linter.unusedVariables false
structure CopyOk (x : Item) : Prop where
  s1 : 257 ≤ (litP x).symbol
  s2 : (litP x).symbol ≤ 285
  w5 : (litP x).wide ≤ 5
  more : (litP x).more < 2 ^ (litP x).wide
  top : (litP x).symbol = 285 → (litP x).wide = 0 ∧ (litP x).more = 0 ∧ x.long = 258
  mid : (litP x).symbol ≠ 285 → (spanP ((litP x).symbol - 257) 4 3).1 + (litP x).more = x.long ∧ (spanP ((litP x).symbol - 257) 4 3).2 = (litP x).wide
  f29 : (farP x).symbol ≤ 29
  fw : (farP x).wide ≤ 13
  fmore : (farP x).more < 2 ^ (farP x).wide
  far : (spanP (farP x).symbol 2 1).1 + (farP x).more = x.far ∧ (spanP (farP x).symbol 2 1).2 = (farP x).wide
theorem scale_sym (n g first K : Nat) (hg : 0 < g) (h : n - first < 2 * g * 2 ^ K) (hK : K ≤ 30) (hn : n < 65536) (hg4 : g ≤ 4) : (scaleP n g first).symbol < K * g + 2 * g := by
  have h1 := scaleK_le (n - first) g K hg ((Nat.div_lt_iff_lt_mul (Nat.two_pow_pos K)).2 h) 64 0 (Nat.zero_le _)
  have h3 := scaleK_end (n - first) g 64 0 (by
    have e : (2 : Nat) ^ (0 + 64) = 18446744073709551616 := by decide
    rw [e]
    have : 2 * 1 * 18446744073709551616 ≤ 2 * g * 18446744073709551616 := Nat.mul_le_mul_right _ (by omega)
    omega)
  unfold scaleP
  dsimp only
  have h2 : scaleK (n - first) g 64 0 * g ≤ K * g := Nat.mul_le_mul_right _ h1
  omega
theorem copy_ok (x : Item) (hx : okI x) (h : x.far ≠ 0) : CopyOk x := by
  have hx2 : 3 ≤ x.long ∧ x.long ≤ 258 ∧ 1 ≤ x.far ∧ x.far ≤ 32768 := by
    rcases hx with hx | hx
    · exact absurd hx.1 h
    · exact hx
  obtain ⟨h1, h2, h3, h4⟩ := hx2
  have hw5 := long_wide x h2
  have hw13 := far_wide x h4
  have hfs := span_scale x.far 2 1 (by omega) h3 (by omega)
  have hff : farP x = scaleP x.far 2 1 := by rw [farP, if_neg h]
  have e13 : (2 : Nat) ^ 13 = 8192 := by decide
  have e5 : (2 : Nat) ^ 5 = 32 := by decide
  have hf29 := scale_sym x.far 2 1 13 (by omega) (by rw [e13]; omega) (by omega) (by omega) (by omega)
  by_cases hl : x.long = 258
  · have e : litP x = ⟨285, 0, 0⟩ := by rw [litP, if_neg h, if_pos hl]
    refine ⟨?_, ?_, hw5, ?_, fun _ => ?_, fun hn => ?_, ?_, hw13, ?_, ?_⟩
    · rw [e]; dsimp only; omega
    · rw [e]; dsimp only; omega
    · rw [e]; dsimp only; omega
    · rw [e]; exact ⟨rfl, rfl, hl⟩
    · rw [e] at hn; exact absurd rfl hn
    · rw [hff]; omega
    · rw [hff]; exact hfs.2.2
    · rw [hff]; exact ⟨hfs.1, hfs.2.1⟩
  · have hls := span_scale x.long 4 3 (by omega) h1 (by omega)
    have hs27 := scale_sym x.long 4 3 5 (by omega) (by rw [e5]; omega) (by omega) (by omega) (by omega)
    have e : litP x = ⟨(scaleP x.long 4 3).symbol + 257, (scaleP x.long 4 3).wide, (scaleP x.long 4 3).more⟩ := by rw [litP, if_neg h, if_neg hl]
    refine ⟨?_, ?_, hw5, ?_, fun hn => ?_, fun _ => ?_, ?_, hw13, ?_, ?_⟩
    · rw [e]; dsimp only; omega
    · rw [e]; dsimp only; omega
    · rw [e]; exact hls.2.2
    · rw [e] at hn; dsimp only at hn; omega
    · rw [e]; dsimp only; rw [Nat.add_sub_cancel]; exact ⟨hls.1, hls.2.1⟩
    · rw [hff]; omega
    · rw [hff]; exact hfs.2.2
    · rw [hff]; exact ⟨hfs.1, hfs.2.1⟩
theorem Agr.low {l : List UInt8} {p n v : Nat} (h : Agr l p (loB n v)) (hv : v < 2 ^ n) (hp : p + n ≤ 8 * l.length) : leN (((bytesB l).drop p).take n) = v := by
  rw [h.lo hp, Nat.mod_eq_of_lt hv]
/-- The symbols that are used have codes. -/
structure Used (lits dist : List Nat) (x : Item) : Prop where
  lit : 1 ≤ lits.getD (litP x).symbol 0
  far : x.far ≠ 0 → 1 ≤ dist.getD (farP x).symbol 0
end Go.Proofs.YtbchaomnjbkdhaaGreat
namespace Go.Proofs.YtbchaomnjbkdhaaGreat
set_option linter.unusedVariables false
def valE (acc : List Nat) (p : Part) : Nat := if p.symbol = 16 then acc.getD (acc.length - 1) 0 else if p.symbol = 17 ∨ p.symbol = 18 then 0 else p.symbol
def timesE (p : Part) : Nat := if p.symbol = 16 ∨ p.symbol = 17 then 3 + p.more else if p.symbol = 18 then 11 + p.more else 1
theorem runE_eq (acc : List Nat) (p : Part) : runE acc p = acc ++ List.replicate (timesE p) (valE acc p) := by
  unfold runE timesE valE
  by_cases h1 : p.symbol = 16
  · rw [if_pos h1, if_pos (.inl h1), if_pos h1]
  · by_cases h2 : p.symbol = 17
    · rw [if_neg h1, if_pos h2, if_pos (.inr h2), if_neg h1, if_pos (.inl h2)]
    · by_cases h3 : p.symbol = 18
      · rw [if_neg h1, if_neg h2, if_pos h3, if_neg (by omega), if_pos h3, if_neg h1, if_pos (.inr h3)]
      · rw [if_neg h1, if_neg h2, if_neg h3, if_neg (by omega), if_neg h3, if_neg h1, if_neg (by omega)]; rfl
/-- A run that may be read. -/
structure RunOk (p : Part) : Prop where
  sym : p.symbol ≤ 18
  low : p.symbol ≤ 15 → p.wide = 0 ∧ p.more = 0
  s16 : p.symbol = 16 → p.wide = 2
  s17 : p.symbol = 17 → p.wide = 3
  s18 : p.symbol = 18 → p.wide = 7
  more : p.more < 2 ^ p.wide
theorem short_ok : ∀ (f : Nat) (l : List Nat), (∀ x ∈ l, x ≤ 15) → ∀ p ∈ shortF f l, RunOk p
  | 0, l, _, p, h => by cases h
  | f + 1, [], _, p, h => by cases h
  | f + 1, a :: r, h15, p, h => by
    have ha := h15 a (.head _)
    have hm : ∀ k, ∀ x ∈ (a :: r).drop k, x ≤ 15 := fun k x hx => h15 x (List.mem_of_mem_drop hx)
    have hr138 := (headRun_cons a r).2.1
    have e7 : (2 : Nat) ^ 7 = 128 := by decide
    rw [shortF] at h
    split at h
    · rename_i hc
      rcases List.mem_cons.1 h with rfl | h
      · exact ⟨(by decide : (18 : Nat) ≤ 18), fun h => absurd h (by decide : ¬ (18 : Nat) ≤ 15), fun h => absurd h (by decide : ¬ (18 : Nat) = 16), fun h => absurd h (by decide : ¬ (18 : Nat) = 17), fun _ => rfl, by dsimp only; omega⟩
      · exact short_ok f _ (hm _) p h
    · rename_i hc1
      split at h
      · rename_i hc
        rcases List.mem_cons.1 h with rfl | h
        · exact ⟨(by decide : (17 : Nat) ≤ 18), fun h => absurd h (by decide : ¬ (17 : Nat) ≤ 15), fun h => absurd h (by decide : ¬ (17 : Nat) = 16), fun _ => rfl, fun h => absurd h (by decide : ¬ (17 : Nat) = 18), by dsimp only; omega⟩
        · exact short_ok f _ (hm _) p h
      · split at h
        · rcases List.mem_cons.1 h with rfl | h
          · exact ⟨by dsimp only; omega, fun _ => ⟨rfl, rfl⟩, fun h => by dsimp only at h; omega, fun h => by dsimp only at h; omega, fun h => by dsimp only at h; omega, (by decide : (0 : Nat) < 2 ^ 0)⟩
          · rcases List.mem_cons.1 h with rfl | h
            · exact ⟨(by decide : (16 : Nat) ≤ 18), fun h => absurd h (by decide : ¬ (16 : Nat) ≤ 15), fun _ => rfl, fun h => absurd h (by decide : ¬ (16 : Nat) = 17), fun h => absurd h (by decide : ¬ (16 : Nat) = 18), by dsimp only; omega⟩
            · exact short_ok f _ (hm _) p h
        · rcases List.mem_cons.1 h with rfl | h
          · exact ⟨by dsimp only; omega, fun _ => ⟨rfl, rfl⟩, fun h => by dsimp only at h; omega, fun h => by dsimp only at h; omega, fun h => by dsimp only at h; omega, (by decide : (0 : Nat) < 2 ^ 0)⟩
          · exact short_ok f r (fun x hx => h15 x (.tail _ hx)) p h
theorem fold_len : ∀ (rs : List Part) (acc : List Nat), acc.length + rs.length ≤ (rs.foldl runE acc).length
  | [], acc => by simp
  | p :: rs, acc => by
    have := fold_len rs (runE acc p)
    have h := runE_len acc p
    rw [List.foldl_cons, List.length_cons]; omega
theorem times_le {p : Part} (h : RunOk p) : timesE p ≤ 138 ∧ 1 ≤ timesE p := by
  have e7 : (2 : Nat) ^ 7 = 128 := by decide
  have hm := h.more
  unfold timesE
  split
  · rename_i h1
    rcases h1 with h1 | h1
    · rw [h.s16 h1] at hm; omega
    · rw [h.s17 h1] at hm; omega
  · split
    · rename_i h1
      rw [h.s18 h1] at hm; omega
    · omega
end Go.Proofs.YtbchaomnjbkdhaaGreat
namespace Go.Proofs.YtbchaomnjbkdhaaGreat
set_option linter.unusedVariables false
structure HeadOk (its : List Item) : Prop where
  ll1 : 257 ≤ (litsL its).length
  ll2 : (litsL its).length ≤ 286
  dl1 : 1 ≤ (distL its).length
  dl2 : (distL its).length ≤ 30
  cl19 : (codesL its).length = 19
  c7 : ∀ s, (codesL its).getD s 0 ≤ 7
  k4 : 4 ≤ tellK (codesL its) 19
  k19 : tellK (codesL its) 19 ≤ 19
  okc : codeOk (codesL its)
  okl : codeOk (litsL its)
  okd : codeOk (distL its)
  mayc : endC (codesL its) 15 = 32768 ∨ (codesL its).sum = 1
  mayl : endC (litsL its) 15 = 32768 ∨ (litsL its).sum = 1
  mayd : endC (distL its) 15 = 32768 ∨ (distL its).sum = 1 ∨ (distL its).sum = 0
  runs : ∀ x ∈ runsL its, RunOk x ∧ 1 ≤ (codesL its).getD x.symbol 0
  runok : okRun [] (runsL its)
  back : (runsL its).foldl runE [] = litsL its ++ distL its
  end_ : 1 ≤ (litsL its).getD 256 0
  used : ∀ x ∈ its, Used (litsL its) (distL its) x
theorem lit_286 (x : Item) (hx : okI x) : (litP x).symbol < 286 := by
  by_cases h : x.far = 0
  · rw [litP, if_pos h]; have := x.c.toNat_lt; dsimp only; omega
  · have := (copy_ok x hx h).s2; omega
theorem head_ok (its : List Item) (hn : its.length ≤ 1000000) (hx : ∀ x ∈ its, okI x) : HeadOk its := by
  have e15 : (2 : Nat) ^ 15 = 32768 := by decide
  obtain ⟨ha, ha15⟩ := lits_ok its hn
  obtain ⟨hd, hd15⟩ := dist_ok its hn
  have hla := litsL_len its hn
  have hld := distL_len its hn
  have hA : 257 ≤ (lengthsL (countA its) 15).length := by rw [ha.len, countA_len]; omega
  have hD : 1 ≤ (lengthsL (countD its) 15).length := by rw [hd.len, countD_len]; omega
  have hl15 : ∀ x ∈ litsL its, x ≤ 15 := fun x h => ha15 x (cut_mem 257 _ hA x h)
  have hd15' : ∀ x ∈ distL its, x ≤ 15 := fun x h => hd15 x (cut_mem 1 _ hD x h)
  have hboth : ∀ x ∈ litsL its ++ distL its, x ≤ 15 := fun x h => by
    rcases List.mem_append.1 h with h | h
    · exact hl15 x h
    · exact hd15' x h
  have hrl : (runsL its).length ≤ 1000000 := by
    have := short_len (litsL its ++ distL its).length (litsL its ++ distL its)
    rw [List.length_append] at this
    have e : runsL its = shortF (litsL its ++ distL its).length (litsL its ++ distL its) := rfl
    rw [e, List.length_append]; omega
  obtain ⟨hc, hc7⟩ := codes_ok (runsL its) hrl
  have hcl : (codesL its).length = 19 := by rw [codesL, hc.len, oftenL_len]
  have hc7' : ∀ s, (codesL its).getD s 0 ≤ 7 := fun s => getD_le _ 7 hc7 s
  have hmc := mayBe_of hc (fun n h => by have := hc7 n h; omega)
  have hml : MayBe (litsL its) := mayBe_cut (mayBe_of ha ha15) 257 hA
  have hmd : MayBe (distL its) := mayBe_cut (mayBe_of hd hd15) 1 hD
  have hruns : ∀ x ∈ runsL its, RunOk x ∧ 1 ≤ (codesL its).getD x.symbol 0 := fun x h => by
    have h1 := short_ok _ _ hboth x h
    refine ⟨h1, ?_⟩
    have h2 : 0 < (oftenL (runsL its)).getD x.symbol 0 := by
      rw [oftenL_at _ _ (by have := h1.sym; omega)]
      exact List.countP_pos_iff.2 ⟨x, h, by simp⟩
    have := (hc.pos x.symbol).2 h2
    unfold codesL; omega
  have hend : 1 ≤ (litsL its).getD 256 0 := by
    have h2 : 0 < (countA its).getD 256 0 := by rw [countA_at its 256 (by omega)]; simp
    have := (ha.pos 256).2 h2
    have e : (litsL its).getD 256 0 = (lengthsL (countA its) 15).getD 256 0 := cut_getD 257 _ hA 256
    omega
  have hback := runs_all _ hboth
  have hne : ∃ s, 0 < (codesL its).getD s 0 := by
    cases hr : runsL its with
    | nil =>
      have : (runsL its).foldl runE [] = litsL its ++ distL its := hback
      rw [hr] at this
      have := congrArg List.length this
      rw [List.length_append] at this
      simp at this; omega
    | cons x r =>
      have := (hruns x (by rw [hr]; exact .head _)).2
      exact ⟨x.symbol, by omega⟩
  refine ⟨hla.1, hla.2, hld.1, hld.2, hcl, hc7', (tellK_le _ 19 (by omega)).1, (tellK_le _ 19 (by omega)).2, hmc.ok, hml.ok, hmd.ok, ?_, ?_, ?_, hruns, runs_ok _ _ _ hboth, hback, hend, fun x hxm => ⟨?_, fun h => ?_⟩⟩
  · rw [← e15]; exact hmc.some_ hne
  · rw [← e15]; exact hml.some_ ⟨256, by omega⟩
  · rw [← e15]; exact hmd.fill
  · have h2 : 0 < (countA its).getD (litP x).symbol 0 := by
      rw [countA_at its _ (lit_286 x (hx x hxm))]
      have := (List.countP_pos_iff (p := fun y : Item => (litP y).symbol == (litP x).symbol) (l := its)).2 ⟨x, hxm, by simp⟩
      omega
    have := (ha.pos _).2 h2
    have e : (litsL its).getD (litP x).symbol 0 = (lengthsL (countA its) 15).getD (litP x).symbol 0 := cut_getD 257 _ hA _
    omega
  · have h2 : 0 < (countD its).getD (farP x).symbol 0 := by
      rw [countD_at its _ (by have := (copy_ok x (hx x hxm) h).f29; omega)]
      exact List.countP_pos_iff.2 ⟨x, hxm, by simp; omega⟩
    have := (hd.pos _).2 h2
    have e : (distL its).getD (farP x).symbol 0 = (lengthsL (countD its) 15).getD (farP x).symbol 0 := cut_getD 1 _ hD _
    omega
end Go.Proofs.YtbchaomnjbkdhaaGreat
namespace Go.Proofs.YtbchaomnjbkdhaaGreat
set_option linter.unusedVariables false
/-- What is left of a block's items: they make the rest. -/
structure Coded (l b : List UInt8) (ls ds : List Nat) (m : Nat) (xs : List Item) (out : List UInt8) (p : Nat) : Prop where
  rest : xs.foldl putI out = b
  far : okFar out xs
  ok : ∀ x ∈ xs, okI x ∧ Used ls ds x ∧ (litP x).symbol < ls.length ∧ (x.far ≠ 0 → (farP x).symbol < ds.length)
  agr : Agr l p (xs.flatMap (encIt ls ds) ++ encS ls 256)
  len : p + (xs.flatMap (encIt ls ds) ++ encS ls 256).length = m
theorem fold_put_len : ∀ (xs : List Item) (out : List UInt8), out.length ≤ (xs.foldl putI out).length
  | [], out => Nat.le_refl _
  | x :: xs, out => by
    rw [List.foldl_cons]
    have := fold_put_len xs (putI out x)
    rw [putI_len] at this
    omega
def muC (xs : List Item) : Nat := (xs.map fun x => 3 + sizeI x).sum + 3
theorem muC_cons (x : Item) (xs : List Item) : muC (x :: xs) = 3 + sizeI x + muC xs := by unfold muC; rw [List.map_cons, List.sum_cons]; omega
section
variable {l b : List UInt8} {ls ds : List Nat} {m : Nat} {xs : List Item} {out : List UInt8} {p : Nat} {x : Item}
theorem Coded.le (h : Coded l b ls ds m xs out p) : out.length ≤ b.length := by rw [← h.rest]; exact fold_put_len xs out
theorem enc_lit (h : x.far = 0) : encIt ls ds x = encS ls x.c.toNat := by
  have e : litP x = ⟨x.c.toNat, 0, 0⟩ := by rw [litP, if_pos h]
  rw [encIt, if_pos h, List.append_nil, partB, e]
  simp [loB]
theorem enc_copy (h : x.far ≠ 0) : encIt ls ds x = encS ls (litP x).symbol ++ (loB (litP x).wide (litP x).more ++ (encS ds (farP x).symbol ++ loB (farP x).wide (farP x).more)) := by
  rw [encIt, if_neg h, partB, partB, List.append_assoc]
theorem Coded.next (h : Coded l b ls ds m (x :: xs) out p) : Coded l b ls ds m xs (putI out x) (p + (encIt ls ds x).length) := by
  have ha := h.agr
  have hl := h.len
  rw [List.flatMap_cons, List.append_assoc] at ha hl
  rw [List.length_append] at hl
  exact ⟨h.rest, h.far.2, fun y hy => h.ok y (.tail _ hy), ha.right, by omega⟩
theorem Coded.first (h : Coded l b ls ds m (x :: xs) out p) : Agr l p (encIt ls ds x) := by
  have ha := h.agr
  rw [List.flatMap_cons, List.append_assoc] at ha
  exact ha.left
theorem Coded.m_ge (h : Coded l b ls ds m (x :: xs) out p) : p + (encIt ls ds x).length ≤ m := by
  have hl := h.len
  rw [List.flatMap_cons, List.append_assoc, List.length_append] at hl
  omega
theorem put_lit (h : x.far = 0) : putI out x = out ++ [x.c] := by rw [putI, if_pos h]
theorem put_copy (h : x.far ≠ 0) : putI out x = copyN x.far x.long out := by rw [putI, if_neg h]
end
end Go.Proofs.YtbchaomnjbkdhaaGreat
namespace Go.Proofs.YtbchaomnjbkdhaaGreat
set_option linter.unusedVariables false
theorem head_len (l : List Item) (hn : l.length ≤ 1000000) : (headB l).length ≤ 71 + ((runsL l).map fun p => (codesL l).getD p.symbol 0 + p.wide).sum := by
  unfold headB
  have hk := (tellK_le (codesL l) 19 (by omega)).2
  have h1 : ((orderL.take (tellK (codesL l) 19)).flatMap (fun s => loB 3 ((codesL l).getD s 0))).length ≤ 57 := by
    rw [List.length_flatMap]
    have e : (List.map (fun s => (loB 3 ((codesL l).getD s 0)).length) (orderL.take (tellK (codesL l) 19))) = List.replicate (orderL.take (tellK (codesL l) 19)).length 3 := by
      rw [List.eq_replicate_iff]
      refine ⟨by simp, fun b hb => ?_⟩
      obtain ⟨s, _, rfl⟩ := List.mem_map.1 hb
      exact loB_len _ _
    rw [e, List.sum_replicate_nat]
    have : (orderL.take (tellK (codesL l) 19)).length ≤ 19 := by rw [List.length_take]; omega
    omega
  have h2 : ((runsL l).flatMap (partB (codesL l))).length = ((runsL l).map fun p => (codesL l).getD p.symbol 0 + p.wide).sum := by
    rw [List.length_flatMap]
    congr 1
    exact List.map_congr_left fun p _ => partB_len _ p
  simp only [List.length_append, loB_len, h2]
  omega
end Go.Proofs.YtbchaomnjbkdhaaGreat
namespace Go.Proofs.YtbchaomnjbkdhaaGreat
set_option linter.unusedVariables false
theorem Agr.of_split {l : List UInt8} {P E R : List Nat} {p : Nat} (h : bytesB l = P ++ (E ++ R)) (hp : P.length = p) : Agr l p E := by
  subst hp
  intro j x hj hlt
  rw [h, List.getElem?_append_right (by omega), Nat.add_sub_cancel_left, List.getElem?_append_left]
  · exact hj
  · rcases Nat.lt_or_ge j E.length with h1 | h1
    · exact h1
    · rw [List.getElem?_eq_none h1] at hj; cases hj
theorem Agr.prefix {l r : List UInt8} {p : Nat} {E : List Nat} (h : Agr (l ++ r) p E) : Agr l p E := by
  intro j x hj hlt
  have := h j x hj (by rw [List.length_append]; omega)
  rw [bytesB_app, List.getElem?_append_left (by rw [bytesB_len]; exact hlt)] at this
  exact this
theorem loB_add : ∀ a b v, loB (a + b) v = loB a v ++ loB b (v / 2 ^ a)
  | 0, b, v => by simp [loB]
  | a + 1, b, v => by
    rw [show a + 1 + b = (a + b) + 1 by omega, loB, loB, loB_add a b (v / 2), List.cons_append, Nat.div_div_eq_div_mul, Nat.pow_succ, Nat.mul_comm 2]
theorem loB_mod : ∀ n v, loB n (v % 2 ^ n) = loB n v
  | 0, v => rfl
  | n + 1, v => by
    rw [loB, loB]
    have h1 : v % 2 ^ (n + 1) % 2 = v % 2 := by
      rw [Nat.mod_mod_of_dvd]; exact ⟨2 ^ n, by rw [Nat.pow_succ, Nat.mul_comm]⟩
    have h2 : v % 2 ^ (n + 1) / 2 = v / 2 % 2 ^ n := by
      rw [Nat.pow_succ, Nat.mul_comm (2 ^ n) 2, Nat.mod_mul_right_div_self]
    rw [h1, h2, loB_mod n]
theorem two_bytes (v : Nat) (h : v < 65536) : bytesB [UInt8.ofNat (v % 256), UInt8.ofNat (v / 256)] = loB 16 v := by
  have e8 : (2 : Nat) ^ 8 = 256 := by decide
  have h1 : (UInt8.ofNat (v % 256)).toNat = v % 256 := by rw [UInt8.toNat_ofNat']; omega
  have h2 : (UInt8.ofNat (v / 256)).toNat = v / 256 := by rw [UInt8.toNat_ofNat']; omega
  show loB 8 (UInt8.ofNat (v % 256)).toNat ++ (loB 8 (UInt8.ofNat (v / 256)).toNat ++ []) = _
  rw [h1, h2, List.append_nil, show 16 = 8 + 8 from rfl, loB_add, e8]
  congr 1
  rw [← e8, loB_mod]
theorem stored_bits (b : List UInt8) (h : b.length ≤ 65535) : bytesB (headS b.length 1 ++ b) = loB 8 1 ++ (loB 16 b.length ++ (loB 16 (65535 - b.length) ++ bytesB b)) := by
  have e : headS b.length 1 = [UInt8.ofNat 1] ++ ([UInt8.ofNat (b.length % 256), UInt8.ofNat (b.length / 256)] ++ [UInt8.ofNat ((65535 - b.length) % 256), UInt8.ofNat ((65535 - b.length) / 256)]) := rfl
  rw [bytesB_app, e, bytesB_app, bytesB_app, two_bytes _ (by omega), two_bytes _ (by omega), List.append_assoc, List.append_assoc]
  rfl
theorem two_app {a b : List Nat} (h1 : ∀ x ∈ a, x < 2) (h2 : ∀ x ∈ b, x < 2) : ∀ x ∈ a ++ b, x < 2 := fun x h => by
  rcases List.mem_append.1 h with h | h
  · exact h1 x h
  · exact h2 x h
theorem two_flat {α : Type} (f : α → List Nat) (l : List α) (h : ∀ a ∈ l, ∀ x ∈ f a, x < 2) : ∀ x ∈ l.flatMap f, x < 2 := fun x hx => by
  obtain ⟨a, ha, hxa⟩ := List.mem_flatMap.1 hx
  exact h a ha x hxa
theorem partB_two (ls : List Nat) (p : Part) : ∀ x ∈ partB ls p, x < 2 := two_app (hiB_two _ _) (loB_two _ _)
theorem encIt_two (ls ds : List Nat) (x : Item) : ∀ y ∈ encIt ls ds x, y < 2 := by
  unfold encIt
  refine two_app (partB_two _ _) ?_
  split
  · intro y h; cases h
  · exact partB_two _ _
theorem encL_two (ls ds : List Nat) (l : List Item) : ∀ y ∈ encL ls ds l, y < 2 := two_app (two_flat _ _ fun a _ => encIt_two ls ds a) (hiB_two _ _)
theorem fixB_two (b : List UInt8) : ∀ y ∈ fixB b, y < 2 := two_app (two_app (loB_two _ _) (loB_two _ _)) (encL_two _ _ _)
theorem headB_two (l : List Item) : ∀ y ∈ headB l, y < 2 :=
  two_app (two_app (two_app (two_app (loB_two _ _) (loB_two _ _)) (loB_two _ _)) (two_flat _ _ fun a _ => loB_two _ _)) (two_flat _ _ fun a _ => partB_two _ _)
theorem dynB_two (b : List UInt8) : ∀ y ∈ dynB b, y < 2 := two_app (two_app (two_app (loB_two _ _) (loB_two _ _)) (headB_two _)) (encL_two _ _ _)
theorem fixed_used : ∀ s, s < 288 → 1 ≤ fixedLits.getD s 0 := by decide +kernel
end Go.Proofs.YtbchaomnjbkdhaaGreat
