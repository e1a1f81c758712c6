/-
  Bits as lists, in plain Lean: what the writer of bits holds, and what is read of its bytes. No program in sight.
-/
import Derived.Test.YtbchaomnjbkdhaaBitSpec
import Derived.Test.YtbchaomnjbkdhaaHuffSpec
namespace Go.Proofs.Ytbchaomnjbkdhaa
set_option linter.unusedVariables false

/-- The writer's bytes, and how many bits, of a list of bits. -/
def stB (bs : List Nat) : List UInt8 × Nat := bs.foldl oneS ([], 0)
theorem stB_snoc (bs : List Nat) (b : Nat) : stB (bs ++ [b]) = oneS (stB bs) b := by simp [stB]
theorem snoc_ind {P : List Nat → Prop} (h0 : P []) (h1 : ∀ l b, P l → P (l ++ [b])) (l : List Nat) : P l := by
  have : ∀ r : List Nat, P r.reverse := by
    intro r
    induction r with
    | nil => exact h0
    | cons b r ih => rw [List.reverse_cons]; exact h1 _ _ ih
  have h := this l.reverse
  rwa [List.reverse_reverse] at h
theorem stB_n (bs : List Nat) : (stB bs).2 = bs.length := by
  refine snoc_ind (P := fun bs => (stB bs).2 = bs.length) rfl (fun l b ih => ?_) bs
  show _ = _
  rw [stB_snoc, List.length_append, List.length_singleton, ← ih]
  rfl
theorem stB_ok (bs : List Nat) : okS (stB bs) := by
  refine snoc_ind (P := fun bs => okS (stB bs)) rfl (fun l b ih => ?_) bs
  show okS _
  rw [stB_snoc]
  exact oneS_ok ih
theorem stB_len (bs : List Nat) : (stB bs).1.length = (bs.length + 7) / 8 := by
  have h := stB_ok bs
  rw [okS, stB_n] at h
  exact h
/-- So many bits of a number, the lowest first. -/
def loB : Nat → Nat → List Nat
  | 0, _ => []
  | n + 1, v => (v % 2) :: loB n (v / 2)
theorem loB_len : ∀ n v, (loB n v).length = n
  | 0, _ => rfl
  | n + 1, v => by rw [loB, List.length_cons, loB_len n]
theorem loB_snoc : ∀ n v, loB (n + 1) v = loB n v ++ [v / 2 ^ n % 2]
  | 0, v => by simp [loB]
  | n + 1, v => by
    rw [loB, loB_snoc n (v / 2), loB, List.cons_append, Nat.div_div_eq_div_mul, ← Nat.pow_succ']
theorem stB_bits (bs : List Nat) (v : Nat) : ∀ k, bitsS (stB bs) v k = stB (bs ++ loB k v)
  | 0 => by simp [bitsS, loB]
  | k + 1 => by
    show oneS (bitsS (stB bs) v k) (v / 2 ^ k % 2) = _
    rw [stB_bits bs v k, loB_snoc, ← List.append_assoc, stB_snoc]
theorem hiB_get : ∀ n v j, j < n → (hiB n v)[j]? = some (v / 2 ^ (n - 1 - j) % 2)
  | n + 1, v, 0, _ => by rw [hiB]; simp
  | n + 1, v, j + 1, h => by
    rw [hiB, List.getElem?_cons_succ, hiB_get n v j (by omega)]
    congr 4
    omega
theorem hiB_take (n v j : Nat) (h : j < n) : (hiB n v).take (j + 1) = (hiB n v).take j ++ [v / 2 ^ (n - 1 - j) % 2] := by
  have hl : j < (hiB n v).length := by rw [hiB_len]; exact h
  rw [List.take_succ_eq_append_getElem hl]
  congr 2
  have := hiB_get n v j h
  rw [List.getElem?_eq_getElem hl] at this
  injection this
theorem hiB_two : ∀ n v, ∀ b ∈ hiB n v, b < 2
  | n + 1, v, b, h => by
    rw [hiB] at h
    rcases List.mem_cons.1 h with rfl | h
    · omega
    · exact hiB_two n v b h
theorem loB_two : ∀ n v, ∀ b ∈ loB n v, b < 2
  | n + 1, v, b, h => by
    rw [loB] at h
    rcases List.mem_cons.1 h with rfl | h
    · omega
    · exact loB_two n _ b h

/-! ### The bits of bytes -/
def bytesB (l : List UInt8) : List Nat := l.flatMap fun b => loB 8 b.toNat
theorem bytesB_len : ∀ l, (bytesB l).length = 8 * l.length
  | [] => rfl
  | b :: l => by
    have := bytesB_len l
    unfold bytesB at this ⊢
    rw [List.flatMap_cons, List.length_append, loB_len, this, List.length_cons]; omega
theorem loB_get : ∀ n v j, j < n → (loB n v)[j]? = some (v / 2 ^ j % 2)
  | n + 1, v, 0, _ => by simp [loB]
  | n + 1, v, j + 1, h => by
    rw [loB, List.getElem?_cons_succ, loB_get n (v / 2) j (by omega), Nat.div_div_eq_div_mul, ← Nat.pow_succ']
theorem bytesB_get : ∀ (l : List UInt8) i, i < 8 * l.length → (bytesB l)[i]? = some ((l.getD (i / 8) 0).toNat / 2 ^ (i % 8) % 2)
  | [], i, h => by simp at h
  | b :: l, i, h => by
    rw [List.length_cons] at h
    have e : bytesB (b :: l) = loB 8 b.toNat ++ bytesB l := rfl
    rw [e]
    by_cases h8 : i < 8
    · rw [List.getElem?_append_left (by rw [loB_len]; exact h8), loB_get 8 _ i h8, show i / 8 = 0 by omega, show i % 8 = i by omega]; rfl
    · rw [List.getElem?_append_right (by rw [loB_len]; omega), loB_len, bytesB_get l (i - 8) (by omega), show i / 8 = (i - 8) / 8 + 1 by omega, show (i - 8) % 8 = i % 8 by omega, List.getD_cons_succ]
theorem bytesB_app (a b : List UInt8) : bytesB (a ++ b) = bytesB a ++ bytesB b := by simp [bytesB]
theorem bit_or (x b j k : Nat) (hb : b < 2) : (x ||| b * 2 ^ j) / 2 ^ k % 2 = if k = j then (if b = 1 then 1 else x / 2 ^ j % 2) else x / 2 ^ k % 2 := by
  have ht : ∀ y k : Nat, y / 2 ^ k % 2 = (y.testBit k).toNat := by
    intro y k
    rw [Nat.testBit_eq_decide_div_mod_eq]
    by_cases h : y / 2 ^ k % 2 = 1
    · simp [h]
    · have : y / 2 ^ k % 2 = 0 := by omega
      simp [this]
  rw [ht, ht, ht, Nat.testBit_or, Nat.testBit_mul_two_pow]
  by_cases hk : k = j
  · subst hk
    rw [if_pos rfl, Nat.sub_self]
    by_cases h1 : b = 1
    · subst h1; simp
    · have : b = 0 := by omega
      subst this; simp
  · rw [if_neg hk]
    by_cases hj : j ≤ k
    · have h2 : b.testBit (k - j) = false := Nat.testBit_lt_two_pow (Nat.lt_of_lt_of_le hb (by have := Nat.pow_le_pow_right (n := 2) (by omega) (show 1 ≤ k - j by omega); omega))
      simp [h2]
    · simp [hj]
/-- Each bit is in its byte. -/
theorem stB_bit (bs : List Nat) (h2 : ∀ b ∈ bs, b < 2) : ∀ i, ((stB bs).1.getD (i / 8) 0).toNat / 2 ^ (i % 8) % 2 = bs.getD i 0 := by
  refine snoc_ind (P := fun bs => (∀ b ∈ bs, b < 2) → ∀ i, ((stB bs).1.getD (i / 8) 0).toNat / 2 ^ (i % 8) % 2 = bs.getD i 0) ?_ ?_ bs h2
  · intro _ i
    show ((([] : List UInt8).getD (i / 8) 0).toNat) / 2 ^ (i % 8) % 2 = _
    simp
  · intro l b ih hlb i
    have ihl := ih (fun x hx => hlb x (List.mem_append_left _ hx))
    have hb : b < 2 := hlb b (by simp)
    rw [stB_snoc]
    obtain ⟨s, hs⟩ : ∃ s, s = stB l := ⟨_, rfl⟩
    have hn : s.2 = l.length := by rw [hs, stB_n]
    have hk := stB_ok l
    rw [← hs] at ihl hk ⊢
    unfold okS at hk
    rw [hn] at hk
    simp only [oneS, hn]
    -- the byte for the bit is there
    have hT : ∀ k, (oneT s.1 l.length).getD k 0 = s.1.getD k 0 := by
      intro k
      unfold oneT
      split
      · rw [List.getD_eq_getElem?_getD, List.getD_eq_getElem?_getD]
        by_cases hkl : k < s.1.length
        · rw [List.getElem?_append_left hkl]
        · rw [List.getElem?_append_right (by omega), List.getElem?_eq_none (l := s.1) (by omega)]
          cases k - s.1.length with
          | zero => rfl
          | succ m => rfl
      · rfl
    have hlen : l.length / 8 < (oneT s.1 l.length).length := by
      unfold oneT
      split
      · rw [List.length_append, List.length_singleton]; omega
      · omega
    have hset : ((oneT s.1 l.length).set (l.length / 8) (UInt8.ofNat ((s.1.getD (l.length / 8) 0).toNat ||| b * 2 ^ (l.length % 8)))).getD (i / 8) 0 = if i / 8 = l.length / 8 then UInt8.ofNat ((s.1.getD (l.length / 8) 0).toNat ||| b * 2 ^ (l.length % 8)) else s.1.getD (i / 8) 0 := by
      by_cases hi : i / 8 = l.length / 8
      · rw [if_pos hi, hi, List.getD_eq_getElem?_getD, List.getElem?_set_self hlen]; rfl
      · rw [if_neg hi, ← hT (i / 8), List.getD_eq_getElem?_getD, List.getElem?_set_ne (fun e => hi e.symm), ← List.getD_eq_getElem?_getD]
    rw [hT, hset]
    have hx := (s.1.getD (l.length / 8) 0).toNat_lt
    have hlt : (s.1.getD (l.length / 8) 0).toNat ||| b * 2 ^ (l.length % 8) < 2 ^ 8 := by
      refine Nat.or_lt_two_pow hx ?_
      have h7 : 2 ^ (l.length % 8) ≤ 2 ^ 7 := Nat.pow_le_pow_right (by omega) (by omega)
      have : b * 2 ^ (l.length % 8) ≤ 1 * 2 ^ (l.length % 8) := Nat.mul_le_mul_right _ (by omega)
      have : (2 : Nat) ^ 7 < 2 ^ 8 := by decide
      omega
    by_cases hi : i / 8 = l.length / 8
    · rw [if_pos hi, UInt8.toNat_ofNat', Nat.mod_eq_of_lt hlt, bit_or _ _ _ _ hb]
      have hold := ihl i
      rw [hi] at hold
      by_cases hj : i % 8 = l.length % 8
      · have hil : i = l.length := by omega
        subst hil
        rw [if_pos rfl]
        have h0 : l.getD l.length 0 = 0 := by rw [List.getD_eq_getElem?_getD, List.getElem?_eq_none (Nat.le_refl _)]; rfl
        have h1 : (l ++ [b]).getD l.length 0 = b := by rw [List.getD_eq_getElem?_getD, List.getElem?_append_right (Nat.le_refl _), Nat.sub_self]; rfl
        rw [h0] at hold
        rw [hold, h1]
        by_cases hb1 : b = 1
        · rw [if_pos hb1, hb1]
        · rw [if_neg hb1]; omega
      · rw [if_neg hj, hold]
        have hil : i ≠ l.length := fun e => hj (by rw [e])
        rw [List.getD_eq_getElem?_getD, List.getD_eq_getElem?_getD]
        by_cases hlt2 : i < l.length
        · rw [List.getElem?_append_left hlt2]
        · rw [List.getElem?_eq_none (l := l) (by omega), List.getElem?_eq_none (by rw [List.length_append, List.length_singleton]; omega)]
    · rw [if_neg hi, ihl i]
      have hil : i ≠ l.length := fun e => hi (by rw [e])
      rw [List.getD_eq_getElem?_getD, List.getD_eq_getElem?_getD]
      by_cases hlt2 : i < l.length
      · rw [List.getElem?_append_left hlt2]
      · rw [List.getElem?_eq_none (l := l) (by omega), List.getElem?_eq_none (by rw [List.length_append, List.length_singleton]; omega)]
def padN (n : Nat) : Nat := (n + 7) / 8 * 8 - n
/-- What is read of the written bytes: the bits, and zeros till a byte is full. -/
theorem bytes_stB (bs : List Nat) (h2 : ∀ b ∈ bs, b < 2) : bytesB (stB bs).1 = bs ++ List.replicate (padN bs.length) 0 := by
  refine List.ext_getElem? fun i => ?_
  have hl : (stB bs).1.length = (bs.length + 7) / 8 := stB_len bs
  by_cases hi : i < 8 * (stB bs).1.length
  · rw [bytesB_get _ i hi, stB_bit bs h2 i]
    by_cases hb : i < bs.length
    · rw [List.getElem?_append_left hb, List.getD_eq_getElem?_getD, List.getElem?_eq_getElem hb]; rfl
    · rw [List.getElem?_append_right (by omega), List.getElem?_replicate, if_pos (by unfold padN; omega), List.getD_eq_getElem?_getD, List.getElem?_eq_none (by omega)]; rfl
  · rw [List.getElem?_eq_none (by rw [bytesB_len]; omega), List.getElem?_eq_none]
    rw [List.length_append, List.length_replicate]
    unfold padN
    omega
end Go.Proofs.Ytbchaomnjbkdhaa
