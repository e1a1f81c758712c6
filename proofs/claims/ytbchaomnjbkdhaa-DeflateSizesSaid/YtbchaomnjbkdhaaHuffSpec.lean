/-
  Codes by their lengths, in plain Lean: the shorter ones ahead, those of one length in the symbols' order. What is written by a code is read by it. No program in sight.
-/
namespace Go.Proofs.Ytbchaomnjbkdhaa
set_option linter.unusedVariables false

/-- The first code of a length. -/
def firstC (ls : List Nat) : Nat → Nat
  | 0 => 0
  | n + 1 => 2 * (firstC ls n + if n = 0 then 0 else ls.count n)
/-- Behind the last code of a length. -/
def endC (ls : List Nat) (n : Nat) : Nat := firstC ls n + ls.count n
def codeOk (ls : List Nat) : Prop := (∀ n ∈ ls, n ≤ 15) ∧ ∀ n, 1 ≤ n → n ≤ 15 → endC ls n ≤ 2 ^ n
/-- The symbols of a length. -/
def symsL (ls : List Nat) (n : Nat) : List Nat := (List.range ls.length).filter fun s => ls.getD s 0 == n
/-- Which of its length's a symbol is. -/
def rankL (ls : List Nat) (s : Nat) : Nat := (ls.take s).count (ls.getD s 0)
def codeC (ls : List Nat) (s : Nat) : Nat := firstC ls (ls.getD s 0) + rankL ls s
/-- So many bits of a number, the highest first. -/
def hiB : Nat → Nat → List Nat
  | 0, _ => []
  | n + 1, v => (v / 2 ^ n % 2) :: hiB n v
def encS (ls : List Nat) (s : Nat) : List Nat := hiB (ls.getD s 0) (codeC ls s)
/-- The symbol that comes next, bit by bit. -/
def decS (ls : List Nat) : Nat → Nat → Nat → List Nat → Option (Nat × List Nat)
  | 0, _, _, _ => none
  | _ + 1, _, _, [] => none
  | f + 1, n, c, b :: r =>
    if firstC ls (n + 1) ≤ 2 * c + b ∧ 2 * c + b < endC ls (n + 1) then ((symsL ls (n + 1))[2 * c + b - firstC ls (n + 1)]?).map fun s => (s, r)
    else decS ls f (n + 1) (2 * c + b) r
theorem hiB_len : ∀ n v, (hiB n v).length = n
  | 0, _ => rfl
  | n + 1, v => by rw [hiB, List.length_cons, hiB_len n v]
theorem firstC_succ (ls : List Nat) (n : Nat) (h : 1 ≤ n) : firstC ls (n + 1) = 2 * endC ls n := by
  rw [firstC, if_neg (by omega), endC]
theorem first_far (ls : List Nat) (m : Nat) (hm : 1 ≤ m) : ∀ k, 2 ^ (k + 1) * endC ls m ≤ firstC ls (m + k + 1)
  | 0 => by rw [firstC_succ ls (m + 0) (by omega)]; simp
  | k + 1 => by
    have ih := first_far ls m hm k
    rw [firstC_succ ls (m + (k + 1)) (by omega)]
    have h2 : firstC ls (m + (k + 1)) ≤ endC ls (m + (k + 1)) := Nat.le_add_right _ _
    have h3 : 2 ^ (k + 1 + 1) * endC ls m = 2 * (2 ^ (k + 1) * endC ls m) := by rw [Nat.pow_succ]; rw [Nat.mul_comm (2 ^ (k + 1)) 2, Nat.mul_assoc]
    have h4 : m + (k + 1) = m + k + 1 := by omega
    rw [h4] at h2 ⊢
    omega
theorem count_range (ls : List Nat) (n : Nat) : ∀ k, k ≤ ls.length → (List.range k).countP (fun s => ls.getD s 0 == n) = (ls.take k).count n
  | 0, _ => rfl
  | k + 1, h => by
    rw [List.range_succ, List.countP_append, count_range ls n k (by omega), List.take_succ_eq_append_getElem (by omega), List.count_append]
    congr 1
    rw [List.countP_singleton, List.getD_eq_getElem?_getD, List.getElem?_eq_getElem (by omega)]
    simp [List.count_singleton]
theorem syms_len (ls : List Nat) (n : Nat) : (symsL ls n).length = ls.count n := by
  unfold symsL
  rw [← List.countP_eq_length_filter, count_range ls n ls.length (Nat.le_refl _), List.take_length]
theorem rank_lt (ls : List Nat) (s : Nat) (hs : s < ls.length) : rankL ls s < ls.count (ls.getD s 0) := by
  unfold rankL
  have e : ls.getD s 0 = ls[s] := by rw [List.getD_eq_getElem?_getD, List.getElem?_eq_getElem hs]; rfl
  have h : ls = ls.take s ++ ls[s] :: ls.drop (s + 1) := by rw [← List.drop_eq_getElem_cons hs, List.take_append_drop]
  rw [e]
  generalize ls[s] = a at *
  have h2 := congrArg (List.count a) h
  rw [List.count_append, List.count_cons_self] at h2
  omega
theorem syms_rank (ls : List Nat) (s : Nat) (hs : s < ls.length) : (symsL ls (ls.getD s 0))[rankL ls s]? = some s := by
  have e : ls.getD s 0 = ls[s] := by rw [List.getD_eq_getElem?_getD, List.getElem?_eq_getElem hs]; rfl
  have h : List.range ls.length = List.range s ++ s :: (List.range (ls.length - s - 1)).map (· + (s + 1)) := by
    have h1 : ls.length = s + (1 + (ls.length - s - 1)) := by omega
    conv => lhs; rw [h1, List.range_add, Nat.add_comm 1, List.range_succ_eq_map]
    simp [List.map_map, Function.comp_def, Nat.add_left_comm]
  unfold symsL
  rw [h, List.filter_append]
  have hl : ((List.range s).filter fun t => ls.getD t 0 == ls.getD s 0).length = rankL ls s := by
    have h2 := syms_len (ls.take s) (ls.getD s 0)
    unfold symsL at h2
    rw [List.length_take, Nat.min_eq_left (by omega)] at h2
    rw [rankL, ← h2]
    congr 1
    apply List.filter_congr
    intro t ht
    have ht2 := List.mem_range.1 ht
    rw [List.getD_eq_getElem?_getD, List.getD_eq_getElem?_getD (l := ls.take s), List.getElem?_take_of_lt ht2]
  rw [List.getElem?_append_right (by omega), hl, Nat.sub_self, List.filter_cons_of_pos (by simp)]
  rfl
theorem hiB_next (n v c : Nat) (h : v / 2 ^ (n + 1) = c) : 2 * c + v / 2 ^ n % 2 = v / 2 ^ n := by
  have h2 : v / 2 ^ (n + 1) = v / 2 ^ n / 2 := by rw [Nat.pow_succ, Nat.div_div_eq_div_mul]
  omega
theorem dec_go (ls : List Nat) (s : Nat) (hs : s < ls.length) (hN : 1 ≤ ls.getD s 0) (r : List Nat) : ∀ (j n f : Nat), n + j = ls.getD s 0 → j ≤ f → 1 ≤ j → decS ls f n (codeC ls s / 2 ^ j) (hiB j (codeC ls s) ++ r) = some (s, r)
  | 0, n, f, _, _, h => by omega
  | j + 1, n, 0, _, hf, _ => by omega
  | j + 1, n, f + 1, hn, hf, _ => by
    rw [hiB, List.cons_append, decS, hiB_next j _ _ rfl]
    have hrk := rank_lt ls s hs
    by_cases hj : j = 0
    · subst hj
      have e : n + 1 = ls.getD s 0 := by omega
      rw [Nat.pow_zero, Nat.div_one, e]
      rw [if_pos ⟨Nat.le_add_right _ _, by unfold codeC endC; omega⟩]
      have e2 : codeC ls s - firstC ls (ls.getD s 0) = rankL ls s := by unfold codeC; omega
      rw [e2, syms_rank ls s hs]
      rfl
    · have hfar := first_far ls (n + 1) (by omega) (j - 1)
      have e : n + 1 + (j - 1) + 1 = ls.getD s 0 := by omega
      have e2 : j - 1 + 1 = j := by omega
      rw [e, e2] at hfar
      have hge : endC ls (n + 1) ≤ codeC ls s / 2 ^ j := by
        rw [Nat.le_div_iff_mul_le (Nat.two_pow_pos j), Nat.mul_comm]
        unfold codeC
        omega
      rw [if_neg (by omega)]
      exact dec_go ls s hs hN r j (n + 1) f (by omega) (by omega) (by omega)
theorem rank_code (ls : List Nat) (h : codeOk ls) (s : Nat) (hs : s < ls.length) (hN : 1 ≤ ls.getD s 0) : codeC ls s < 2 ^ ls.getD s 0 := by
  have h1 := rank_lt ls s hs
  have hm : ls.getD s 0 ≤ 15 := h.1 _ (by rw [List.getD_eq_getElem?_getD, List.getElem?_eq_getElem hs]; exact List.getElem_mem hs)
  have h2 := h.2 _ hN hm
  unfold codeC endC at *
  omega
/-- What is written by a code is read by it. -/
theorem dec_enc (ls : List Nat) (h : codeOk ls) (s : Nat) (hs : s < ls.length) (hN : 1 ≤ ls.getD s 0) (r : List Nat) : decS ls 15 0 0 (encS ls s ++ r) = some (s, r) := by
  have hm : ls.getD s 0 ≤ 15 := h.1 _ (by rw [List.getD_eq_getElem?_getD, List.getElem?_eq_getElem hs]; exact List.getElem_mem hs)
  have h0 : codeC ls s / 2 ^ ls.getD s 0 = 0 := Nat.div_eq_of_lt (rank_code ls h s hs hN)
  have := dec_go ls s hs hN r (ls.getD s 0) 0 15 (by omega) hm hN
  rw [h0] at this
  exact this
/-- No code begins another one. -/
theorem enc_free (ls : List Nat) (h : codeOk ls) {s t : Nat} (hs : s < ls.length) (ht : t < ls.length) (hs1 : 1 ≤ ls.getD s 0) (ht1 : 1 ≤ ls.getD t 0) {r r' : List Nat} (e : encS ls s ++ r = encS ls t ++ r') : s = t := by
  have h1 := dec_enc ls h s hs hs1 r
  rw [e, dec_enc ls h t ht ht1 r'] at h1
  cases h1
  rfl
end Go.Proofs.Ytbchaomnjbkdhaa
