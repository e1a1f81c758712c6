/-
  What the writer of bits does, in plain Lean: bytes, and how many bits there are. What is stored. No program in sight.
-/
namespace Go.Proofs.Ytbchaomnjbkdhaa
set_option linter.unusedVariables false

/-- A bit more. -/
def oneT (l : List UInt8) (n : Nat) : List UInt8 := if n % 8 = 0 then l ++ [0] else l
def oneS (s : List UInt8 × Nat) (b : Nat) : List UInt8 × Nat :=
  ((oneT s.1 s.2).set (s.2 / 8) (UInt8.ofNat (((oneT s.1 s.2).getD (s.2 / 8) 0).toNat ||| (b * 2 ^ (s.2 % 8)))), s.2 + 1)
/-- The lowest bits of a number. -/
def bitsS (s : List UInt8 × Nat) (v : Nat) : Nat → List UInt8 × Nat
  | 0 => s
  | k + 1 => oneS (bitsS s v k) (v / 2 ^ k % 2)
/-- As many bytes as bits need. -/
def okS (s : List UInt8 × Nat) : Prop := s.1.length = (s.2 + 7) / 8
theorem oneS_ok {s : List UInt8 × Nat} {b : Nat} (h : okS s) : okS (oneS s b) := by
  unfold okS at h ⊢
  simp only [oneS, List.length_set, oneT]
  split
  · rw [List.length_append, h]; simp; omega
  · rw [h]; omega
theorem bitsS_ok {s : List UInt8 × Nat} {v : Nat} (h : okS s) : ∀ k, okS (bitsS s v k)
  | 0 => h
  | k + 1 => oneS_ok (bitsS_ok h k)
theorem bitsS_n (s : List UInt8 × Nat) (v : Nat) : ∀ k, (bitsS s v k).2 = s.2 + k
  | 0 => rfl
  | k + 1 => by show (bitsS s v k).2 + 1 = _; rw [bitsS_n s v k]; omega
theorem bitsS_add (s : List UInt8 × Nat) (v a : Nat) : ∀ b, bitsS s v (a + b) = bitsS (bitsS s v a) (v / 2 ^ a) b
  | 0 => rfl
  | b + 1 => by
    show oneS (bitsS s v (a + b)) (v / 2 ^ (a + b) % 2) = oneS (bitsS (bitsS s v a) (v / 2 ^ a) b) (v / 2 ^ a / 2 ^ b % 2)
    rw [bitsS_add s v a b, Nat.div_div_eq_div_mul, ← Nat.pow_add]
theorem oneS_new (l : List UInt8) (b : Nat) (hb : b < 2) : oneS (l, 8 * l.length) b = (l ++ [UInt8.ofNat b], 8 * l.length + 1) := by
  have h0 : 8 * l.length % 8 = 0 := by omega
  have h1 : 8 * l.length / 8 = l.length := by omega
  simp only [oneS, oneT, h0, h1, if_true]
  rw [List.set_append_right _ _ (Nat.le_refl _)]
  simp
theorem oneS_more (l : List UInt8) (j x b : Nat) (hj0 : 1 ≤ j) (hj : j < 8) (hx : x < 2 ^ j) (hb : b < 2) : oneS (l ++ [UInt8.ofNat x], 8 * l.length + j) b = (l ++ [UInt8.ofNat (x + b * 2 ^ j)], 8 * l.length + (j + 1)) := by
  have h0 : (8 * l.length + j) % 8 = j := by omega
  have h1 : (8 * l.length + j) / 8 = l.length := by omega
  have h2 : 2 ^ j ≤ 128 := by
    have : 2 ^ j ≤ 2 ^ 7 := Nat.pow_le_pow_right (by omega) (by omega)
    omega
  have hx8 : (UInt8.ofNat x).toNat = x := by rw [UInt8.toNat_ofNat']; omega
  have hor : x ||| b * 2 ^ j = x + b * 2 ^ j := by
    rw [Nat.or_comm, Nat.mul_comm b, ← Nat.two_pow_add_eq_or_of_lt hx b]; omega
  simp only [oneS, oneT, h0, h1, if_neg (show ¬ j = 0 by omega)]
  rw [List.set_append_right _ _ (Nat.le_refl _)]
  simp [hx8, hor]
  omega
theorem bits_some (l : List UInt8) (v : Nat) : ∀ k, k < 8 → bitsS (l, 8 * l.length) v (k + 1) = (l ++ [UInt8.ofNat (v % 2 ^ (k + 1))], 8 * l.length + (k + 1))
  | 0, _ => by
    show oneS (l, 8 * l.length) (v / 2 ^ 0 % 2) = _
    rw [oneS_new _ _ (by omega)]
    simp
  | k + 1, hk => by
    show oneS (bitsS (l, 8 * l.length) v (k + 1)) (v / 2 ^ (k + 1) % 2) = _
    rw [bits_some l v k (by omega), oneS_more l (k + 1) _ _ (by omega) hk (Nat.mod_lt _ (Nat.two_pow_pos _)) (by omega)]
    have : v % 2 ^ (k + 1) + v / 2 ^ (k + 1) % 2 * 2 ^ (k + 1) = v % 2 ^ (k + 1 + 1) := by
      rw [Nat.pow_succ 2 (k + 1), Nat.mod_mul]; rw [Nat.mul_comm]
    rw [this]
theorem bits_8 (l : List UInt8) (v : Nat) (hv : v < 256) : bitsS (l, 8 * l.length) v 8 = (l ++ [UInt8.ofNat v], 8 * (l ++ [UInt8.ofNat v]).length) := by
  rw [bits_some l v 7 (by omega), show v % 2 ^ (7 + 1) = v from Nat.mod_eq_of_lt (by omega)]
  simp; omega
theorem bits_16 (l : List UInt8) (v : Nat) (hv : v < 65536) : bitsS (l, 8 * l.length) v 16 = (l ++ [UInt8.ofNat (v % 256), UInt8.ofNat (v / 256)], 8 * (l ++ [UInt8.ofNat (v % 256), UInt8.ofNat (v / 256)]).length) := by
  rw [show 16 = 8 + 8 from rfl, bitsS_add, bits_some l v 7 (by omega), show v / 2 ^ 8 = v / 256 from rfl, show v % 2 ^ (7 + 1) = v % 256 from rfl,
    show 8 * l.length + (7 + 1) = 8 * (l ++ [UInt8.ofNat (v % 256)]).length from by simp; omega, bits_8 _ _ (by omega)]
  simp
/-- The head of a block: whether it is the last, and the way; then the byte is filled. -/
theorem bits_head (l : List UInt8) (x : Nat) (hx : x < 2) : (bitsS (bitsS (l, 8 * l.length) x 1) 0 2).1 = l ++ [UInt8.ofNat x] := by
  have h1 := bits_some l x 0 (by omega)
  rw [show x % 2 ^ (0 + 1) = x from Nat.mod_eq_of_lt (by omega)] at h1
  rw [show (1 : Nat) = 0 + 1 from rfl, h1]
  have e1 : oneS (l ++ [UInt8.ofNat x], 8 * l.length + 1) 0 = (l ++ [UInt8.ofNat x], 8 * l.length + 2) := by
    rw [oneS_more l 1 x 0 (by omega) (by omega) (by omega) (by omega)]; simp
  have e2 : oneS (l ++ [UInt8.ofNat x], 8 * l.length + 2) 0 = (l ++ [UInt8.ofNat x], 8 * l.length + 3) := by
    rw [oneS_more l 2 x 0 (by omega) (by omega) (by omega) (by omega)]; simp
  show (oneS (oneS (l ++ [UInt8.ofNat x], 8 * l.length + 1) 0) 0).1 = _
  rw [e1, e2]

/-- What is stored: a block's head, its length, that turned, its bytes. -/
def headS (k last : Nat) : List UInt8 := [UInt8.ofNat last, UInt8.ofNat (k % 256), UInt8.ofNat (k / 256), UInt8.ofNat ((65535 - k) % 256), UInt8.ofNat ((65535 - k) / 256)]
def storedS : Nat → List UInt8 → List UInt8
  | 0, _ => []
  | f + 1, b => if b.length ≤ 65535 then headS b.length 1 ++ b else headS 65535 0 ++ (b.take 65535 ++ storedS f (b.drop 65535))
theorem storedS_len : ∀ (f : Nat) (b : List UInt8), (storedS f b).length ≤ b.length + 5 * f
  | 0, b => by simp [storedS]
  | f + 1, b => by
    rw [storedS]
    split
    · simp [headS]; omega
    · have := storedS_len f (b.drop 65535)
      simp [headS] at this ⊢; omega
end Go.Proofs.Ytbchaomnjbkdhaa
