/-
  Dates: contracts of in, days, Right.
  Dates: contracts of Put and Parse.
-/
import Derived.Test.YtnnjcedlomfhoaaGreatDoorHA
namespace Go.Proofs.YtnnjcedlomfhoaaGreatDoor
open Go.RowKit
set_option linter.unusedVariables false
def inB (n a b : Int) : Bool := decide (a ≤ n) && decide (n ≤ b)
theorem inB_iff {n a b : Int} : inB n a b = true ↔ a ≤ n ∧ n ≤ b := by simp [inB]
def leapB (y : Int) : Bool := decide (y % 4 = 0) && (!decide (y % 100 = 0) || decide (y % 400 = 0))
def daysI (y m : Int) : Int := if m = 2 then (if leapB y = true then 29 else 28) else if m = 4 ∨ m = 6 ∨ m = 9 ∨ m = 11 then 30 else 31
theorem inn_any (w : World) (n a b : Int) : Calls Tryz.prog 101 #[.int .i64 n, .int .i64 a, .int .i64 b] w fun e w' => e = .returned (.bool (inB n a b)) ∧ w = w' := by
  by_cases h1 : a ≤ n
  · have hr : Hid (decide (n ≤ b) = inB n a b) := by simp [Hid, inB, h1]
    go_enter Tryz.func101, Tryz.ntmps101
    go_wp2_with fail
    go_ret
    exact ⟨ret_bool hr.out, rfl⟩
  · have hr : Hid (false = inB n a b) := by simp [Hid, inB, h1]
    go_enter Tryz.func101, Tryz.ntmps101
    go_wp2_with fail
    go_ret
    exact ⟨ret_bool hr.out, rfl⟩
set_option maxRecDepth 100000 in
theorem days_any (w : World) (y m : Int) (hy : 0 ≤ y) : Calls Tryz.prog 102 #[.int .i64 y, .int .i64 m] w fun e w' => e = .returned (.int .i64 (daysI y m)) ∧ w = w' := by
  obtain ⟨r, hr⟩ : ∃ r, r = daysI y m := ⟨_, rfl⟩
  rw [← hr]
  replace hr := hide hr
  by_cases h2 : m = 2
  · have n2 := show (m == 2) = true by simp [h2]
    by_cases l4 : y % 4 = 0
    · have n4 : (y % 4 == 0) = true := by simp [l4]
      by_cases l1 : y % 100 = 0
      · have n1 : (y % 100 != 0) = false := by simp [l1]
        by_cases l5 : y % 400 = 0
        · have n5 : (y % 400 == 0) = true := by simp [l5]
          have hres : Hid (29 = r) := by rw [Hid, hr.out]; simp [daysI, leapB, h2, l4, l1, l5]
          clear h2 l4 l1 l5
          go_enter Tryz.func102, Tryz.ntmps102
          go_wp2_with fail
          go_ret
          exact ⟨ret_int hres.out, rfl⟩
        · have n5 : (y % 400 == 0) = false := by simp [l5]
          have hres : Hid (28 = r) := by rw [Hid, hr.out]; simp [daysI, leapB, h2, l4, l1, l5]
          clear h2 l4 l1 l5
          go_enter Tryz.func102, Tryz.ntmps102
          go_wp2_with fail
          go_ret
          exact ⟨ret_int hres.out, rfl⟩
      · have n1 : (y % 100 != 0) = true := by simp [l1]
        have hres : Hid (29 = r) := by rw [Hid, hr.out]; simp [daysI, leapB, h2, l4, l1]
        clear h2 l4 l1
        go_enter Tryz.func102, Tryz.ntmps102
        go_wp2_with fail
        go_ret
        exact ⟨ret_int hres.out, rfl⟩
    · have n4 : (y % 4 == 0) = false := by simp [l4]
      have hres : Hid (28 = r) := by rw [Hid, hr.out]; simp [daysI, leapB, h2, l4]
      clear h2 l4
      go_enter Tryz.func102, Tryz.ntmps102
      go_wp2_with fail
      go_ret
      exact ⟨ret_int hres.out, rfl⟩
  · have n2 := show (m == 2) = false by simp [h2]
    have hres : Hid ((if m = 4 ∨ m = 6 ∨ m = 9 ∨ m = 11 then 30 else 31) = r) := by rw [Hid, hr.out]; simp [daysI, h2]
    clear h2
    by_cases h4 : m = 4
    · have q4 := show (m == 4) = true by simp [h4]
      have hs : Hid (30 = r) := by rw [Hid, ← hres.out]; simp [h4]
      clear h4
      go_enter Tryz.func102, Tryz.ntmps102
      go_wp2_with fail
      go_ret
      exact ⟨ret_int hs.out, rfl⟩
    have q4 := show (m == 4) = false by simp [h4]
    by_cases h6 : m = 6
    · have q6 := show (m == 6) = true by simp [h6]
      have hs : Hid (30 = r) := by rw [Hid, ← hres.out]; simp [h6]
      clear h6 h4
      go_enter Tryz.func102, Tryz.ntmps102
      go_wp2_with fail
      go_ret
      exact ⟨ret_int hs.out, rfl⟩
    have q6 := show (m == 6) = false by simp [h6]
    by_cases h9 : m = 9
    · have q9 := show (m == 9) = true by simp [h9]
      have hs : Hid (30 = r) := by rw [Hid, ← hres.out]; simp [h9]
      clear h6 h4 h9
      go_enter Tryz.func102, Tryz.ntmps102
      go_wp2_with fail
      go_ret
      exact ⟨ret_int hs.out, rfl⟩
    have q9 := show (m == 9) = false by simp [h9]
    by_cases h11 : m = 11
    · have q11 := show (m == 11) = true by simp [h11]
      have hs : Hid (30 = r) := by rw [Hid, ← hres.out]; simp [h11]
      clear h6 h4 h9 h11
      go_enter Tryz.func102, Tryz.ntmps102
      go_wp2_with fail
      go_ret
      exact ⟨ret_int hs.out, rfl⟩
    have q11 := show (m == 11) = false by simp [h11]
    have hs : Hid (31 = r) := by rw [Hid, ← hres.out]; simp [h4, h6, h9, h11]
    clear h6 h4 h9 h11
    go_enter Tryz.func102, Tryz.ntmps102
    go_wp2_with fail
    go_ret
    exact ⟨ret_int hs.out, rfl⟩
def rightB (y m d h i s : Int) : Bool := inB y 1980 2107 && inB m 1 12 && inB d 1 (daysI y m) && inB h 0 23 && inB i 0 59 && inB s 0 59
set_option maxRecDepth 100000 in
set_option maxHeartbeats 4000000 in
theorem right_any (w : World) (y m d h i s : Int) : Calls Tryz.prog 92 #[.agg #[.int .i64 y, .int .i64 m, .int .i64 d, .int .i64 h, .int .i64 i, .int .i64 s]] w fun e w' => e = .returned (.bool (rightB y m d h i s)) ∧ Below w.heap.size w w' := by
  obtain ⟨r, hr⟩ : ∃ r, r = rightB y m d h i s := ⟨_, rfl⟩
  rw [← hr]
  replace hr := hide hr
  cases b1 : inB y 1980 2107 with
  | false =>
    have hs : Hid (false = r) := by rw [Hid, hr.out, rightB, b1]; simp
    go_enter Tryz.func92, Tryz.ntmps92
    go_wp2_with fail
    go_quiet (first | (go_at_call 101; exact quiet_left (inn_any _ _ _ _)))
    go_wp2_with fail
    go_ret
    exact ⟨ret_bool hs.out, below_drewN ((Below.refl _ _).alloc (Nat.le_refl _) _) _⟩
  | true =>
  have hy : 0 ≤ y := by have := inB_iff.1 b1; omega
  cases b2 : inB m 1 12 with
  | false =>
    have hs : Hid (false = r) := by rw [Hid, hr.out, rightB, b1, b2]; simp
    go_enter Tryz.func92, Tryz.ntmps92
    go_wp2_with fail
    go_quiet (first | (go_at_call 101; exact quiet_left (inn_any _ _ _ _)))
    go_wp2_with fail
    go_ret
    exact ⟨ret_bool hs.out, below_drewN ((Below.refl _ _).alloc (Nat.le_refl _) _) _⟩
  | true =>
  cases b3 : inB d 1 (daysI y m) with
  | false =>
    have hs : Hid (false = r) := by rw [Hid, hr.out, rightB, b1, b2, b3]; simp
    go_enter Tryz.func92, Tryz.ntmps92
    go_wp2_with fail
    go_quiet (first | (go_at_call 101; exact quiet_left (inn_any _ _ _ _)) | (go_at_call 102; exact quiet_left (days_any _ _ _ hy)))
    go_wp2_with fail
    go_ret
    exact ⟨ret_bool hs.out, below_drewN ((Below.refl _ _).alloc (Nat.le_refl _) _) _⟩
  | true =>
  cases b4 : inB h 0 23 with
  | false =>
    have hs : Hid (false = r) := by rw [Hid, hr.out, rightB, b1, b2, b3, b4]; simp
    go_enter Tryz.func92, Tryz.ntmps92
    go_wp2_with fail
    go_quiet (first | (go_at_call 101; exact quiet_left (inn_any _ _ _ _)) | (go_at_call 102; exact quiet_left (days_any _ _ _ hy)))
    go_wp2_with fail
    go_ret
    exact ⟨ret_bool hs.out, below_drewN ((Below.refl _ _).alloc (Nat.le_refl _) _) _⟩
  | true =>
  cases b5 : inB i 0 59 with
  | false =>
    have hs : Hid (false = r) := by rw [Hid, hr.out, rightB, b1, b2, b3, b4, b5]; simp
    go_enter Tryz.func92, Tryz.ntmps92
    go_wp2_with fail
    go_quiet (first | (go_at_call 101; exact quiet_left (inn_any _ _ _ _)) | (go_at_call 102; exact quiet_left (days_any _ _ _ hy)))
    go_wp2_with fail
    go_ret
    exact ⟨ret_bool hs.out, below_drewN ((Below.refl _ _).alloc (Nat.le_refl _) _) _⟩
  | true =>
    have hs : Hid (inB s 0 59 = r) := by rw [Hid, hr.out, rightB, b1, b2, b3, b4, b5]; simp
    go_enter Tryz.func92, Tryz.ntmps92
    go_wp2_with fail
    go_quiet (first | (go_at_call 101; exact quiet_left (inn_any _ _ _ _)) | (go_at_call 102; exact quiet_left (days_any _ _ _ hy)))
    go_wp2_with fail
    go_ret
    exact ⟨ret_bool hs.out, below_drewN ((Below.refl _ _).alloc (Nat.le_refl _) _) _⟩
end Go.Proofs.YtnnjcedlomfhoaaGreatDoor
namespace Go.Proofs.YtnnjcedlomfhoaaGreatDoor
open Go.RowKit
set_option linter.unusedVariables false
def dosN (y m d h i s : Int) : Int :=
  bits .or .i64 (bits .or .i64 (bits .or .i64 (wrap64 (bits .or .i64 (bits .or .i64 (wrap64 (wrap64 (y - 1980) * 512)) (wrap64 (m * 32))) d * 65536)) (wrap64 (h * 2048))) (wrap64 (i * 32))) (wrap64 (s.tdiv 2))
set_option maxRecDepth 100000 in
set_option maxHeartbeats 4000000 in
theorem dput_true (w : World) (y m d h i s : Int) (hb : rightB y m d h i s = true) : Calls Tryz.prog 79 #[.agg #[.int .i64 y, .int .i64 m, .int .i64 d, .int .i64 h, .int .i64 i, .int .i64 s]] w fun e w' => e = .returned (.tuple #[.int .i64 (dosN y m d h i s), .int .i64 0]) ∧ Below w.heap.size w w' := by
  go_enter Tryz.func79, Tryz.ntmps79
  go_wp2_with fail
  refine (right_any _ y m d h i s).mono ?_
  rintro e w1 ⟨rfl, hb1⟩
  rw [hb]
  clear hb
  have hC1 := (Blk.new w 149 #[.int .i64 y, .int .i64 m, .int .i64 d, .int .i64 h, .int .i64 i, .int .i64 s]).below hb1 (by simp)
  have c0 : w1.cell? ⟨w.heap.size, 0, none⟩ = some (.int .i64 y) := hC1.cell 0
  have c1 : w1.cell? ⟨w.heap.size, 1, none⟩ = some (.int .i64 m) := hC1.cell 1
  have c2 : w1.cell? ⟨w.heap.size, 2, none⟩ = some (.int .i64 d) := hC1.cell 2
  have c3 : w1.cell? ⟨w.heap.size, 3, none⟩ = some (.int .i64 h) := hC1.cell 3
  have c4 : w1.cell? ⟨w.heap.size, 4, none⟩ = some (.int .i64 i) := hC1.cell 4
  have c5 : w1.cell? ⟨w.heap.size, 5, none⟩ = some (.int .i64 s) := hC1.cell 5
  have hbw := ((Below.refl w.heap.size w).alloc (Nat.le_refl _) (.cells #[.int .i64 y, .int .i64 m, .int .i64 d, .int .i64 h, .int .i64 i, .int .i64 s] 149)).trans (hb1.mono (by simp))
  clear hC1 hb1
  go_wp2_with fail
  go_ret2
  exact ⟨rfl, hbw⟩
set_option maxRecDepth 100000 in
set_option maxHeartbeats 4000000 in
theorem dput_false (w : World) (y m d h i s : Int) (hb : rightB y m d h i s = false) : Calls Tryz.prog 79 #[.agg #[.int .i64 y, .int .i64 m, .int .i64 d, .int .i64 h, .int .i64 i, .int .i64 s]] w fun e w' => e = .returned (.tuple #[.int .i64 0, .int .i64 1]) ∧ Below w.heap.size w w' := by
  go_enter Tryz.func79, Tryz.ntmps79
  go_wp2_with fail
  refine (right_any _ y m d h i s).mono ?_
  rintro e w1 ⟨rfl, hb1⟩
  rw [hb]
  clear hb
  have hbw := ((Below.refl w.heap.size w).alloc (Nat.le_refl _) (.cells #[.int .i64 y, .int .i64 m, .int .i64 d, .int .i64 h, .int .i64 i, .int .i64 s] 149)).trans (hb1.mono (by simp))
  clear hb1
  go_wp2_with fail
  go_ret2
  exact ⟨rfl, hbw⟩
def kT : List Nat := [0, 0, 0, 0, 0, 1, 1, 1, 2, 2, 2, 3, 3, 3, 4, 4, 4, 5, 5, 5]
def sT : List Nat := [0, 1, 2, 3, 4, 0, 1, 2, 0, 1, 2, 0, 1, 2, 0, 1, 2, 0, 1, 2]
theorem form_d : ∀ i < 19, formB.getD i 0 = 100 → kT.getD (i + 1) 0 = kT.getD i 0 ∧ sT.getD (i + 1) 0 = sT.getD i 0 + 1 ∧ sT.getD i 0 ≤ 3 ∧ kT.getD i 0 ≤ 5 := by decide
theorem form_s : ∀ i < 19, formB.getD i 0 ≠ 100 → kT.getD (i + 1) 0 = kT.getD i 0 + 1 ∧ sT.getD (i + 1) 0 = 0 ∧ kT.getD i 0 ≤ 5 ∧ kT.getD i 0 + 1 ≤ 5 := by decide
structure MOk (i : Nat) (m : Mom) : Prop where
  k : m.k = kT.getD i 0
  lo : ∀ j, 0 ≤ m.n j
  hi : ∀ j, m.n j < 10000
  cur : m.n m.k < 10 ^ (sT.getD i 0)
  rest : ∀ j, m.k < j → m.n j = 0
theorem MOk.start : MOk 0 ⟨fun _ => 0, 0⟩ := ⟨rfl, fun _ => by simp, fun _ => by simp, by simp [sT], fun _ _ => rfl⟩
theorem MOk.step {i : Nat} {m m' : Mom} {c : UInt8} (h : MOk i m) (hi : i < 19) (hs : dstep (formB.getD i 0) c m = some m') : MOk (i + 1) m' := by
  unfold dstep at hs
  by_cases hf : formB.getD i 0 = 100
  · rw [if_pos hf] at hs
    obtain ⟨f1, f2, f3, f4⟩ := form_d i hi hf
    by_cases hc : c.toNat < 48 ∨ 57 < c.toNat
    · rw [if_pos hc] at hs; cases hs
    · rw [if_neg hc] at hs
      cases hs
      have h1 := h.cur
      have h2 := h.lo m.k
      have h3 : (10 : Int) ^ (sT.getD i 0) ≤ 10 ^ 3 := by
        have : (10 : Nat) ^ (sT.getD i 0) ≤ 10 ^ 3 := Nat.pow_le_pow_right (by omega) f3
        exact_mod_cast this
      have h4 : (10 : Int) ^ 3 = 1000 := by decide
      have hx : m.n m.k < 1000 := by omega
      refine ⟨?_, fun j => ?_, fun j => ?_, ?_, fun j hj => ?_⟩
      · rw [f1]; exact h.k
      · dsimp only; split
        · omega
        · exact h.lo j
      · dsimp only; split
        · omega
        · exact h.hi j
      · dsimp only
        rw [if_pos rfl, f2, Int.pow_succ]
        omega
      · dsimp only at hj ⊢
        rw [if_neg (by omega)]; exact h.rest j hj
  · rw [if_neg hf] at hs
    obtain ⟨f1, f2, f3, f4⟩ := form_s i hi hf
    split at hs
    · cases hs
      refine ⟨?_, h.lo, h.hi, ?_, fun j hj => h.rest j (by dsimp only at hj; omega)⟩
      · rw [f1]; show m.k + 1 = _; rw [h.k]
      · dsimp only
        rw [h.rest _ (by omega), f2]; decide
    · cases hs
theorem dscan_ok (l : List UInt8) : ∀ (i : Nat) (m : Mom), i ≤ 19 → dscan l i = some m → MOk i m
  | 0, m, _, h => by cases h; exact MOk.start
  | i + 1, m, hi, h => by
    rw [dscan] at h
    obtain ⟨m0, h0, h1⟩ := Option.bind_eq_some_iff.1 h
    exact (dscan_ok l i m0 (by omega) h0).step (by omega) h1
theorem dscan_none (l : List UInt8) (i : Nat) (h : dscan l i = none) : ∀ j, i ≤ j → dscan l j = none := by
  intro j hj
  induction j with
  | zero => obtain rfl : i = 0 := by omega
            exact h
  | succ j ih =>
    by_cases e : i = j + 1
    · subst e; exact h
    · rw [dscan, ih (by omega)]; rfl
def putM (m : Mom) : Option Int := if rightB (m.n 0) (m.n 1) (m.n 2) (m.n 3) (m.n 4) (m.n 5) = true then some (dosN (m.n 0) (m.n 1) (m.n 2) (m.n 3) (m.n 4) (m.n 5)) else none
/-- The number of a date's text. -/
def dosP (l : List UInt8) : Option Int := if l.length ≠ 19 ∧ l.length ≠ 10 then none else (dscan l l.length).bind putM
def momC (m : Mom) : Array Value := #[.int .i64 (m.n 0), .int .i64 (m.n 1), .int .i64 (m.n 2), .int .i64 (m.n 3), .int .i64 (m.n 4), .int .i64 (m.n 5)]
theorem momC_get (m : Mom) (k : Nat) (hk : k ≤ 5) : (momC m)[k]? = some (.int .i64 (m.n k)) := by
  match k, hk with
  | 0, _ => rfl
  | 1, _ => rfl
  | 2, _ => rfl
  | 3, _ => rfl
  | 4, _ => rfl
  | 5, _ => rfl
theorem momC_set (m : Mom) (k : Nat) (x : Int) (hk : k ≤ 5) (K : Nat) : (momC m).setIfInBounds k (.int .i64 x) = momC ⟨fun j => if j = k then x else m.n j, K⟩ := by
  match k, hk with
  | 0, _ => rfl
  | 1, _ => rfl
  | 2, _ => rfl
  | 3, _ => rfl
  | 4, _ => rfl
  | 5, _ => rfl
def DateRet (w : World) (r : Option Int) (e : Ending) (w' : World) : Prop := e = .returned (.tuple #[.int .i64 (r.getD 0), .bool r.isSome]) ∧ Below w.heap.size w w'
theorem idx_str (s : ByteArray) (i : Nat) (h : i < s.size) (w : World) : (Instr.index 9 (.string s) (.int .i64 (i : Int))).run Tryz.prog w = .ok (.int .u8 ((s.data.toList.getD i 0).toNat : Int)) w := by
  rw [run_index_string w 9 s .i64 i Tryz.underlying9, dif_pos ⟨by omega, by omega⟩]
  simp only [Int.toNat_natCast]
  rw [str_get s i h (by rw [data_len]; exact h), List.getD_eq_getElem?_getD, List.getElem?_eq_getElem (by rw [data_len]; exact h)]
  rfl
theorem u8_eq_dec (a b : UInt8) : ((a.toNat : Int) == (b.toNat : Int)) = decide (a = b) := by
  rw [Bool.eq_iff_iff, beq_iff_eq, decide_eq_true_eq, ← UInt8.toNat_inj]
  omega
theorem u8_ne_dec (a b : UInt8) : ((a.toNat : Int) != (b.toNat : Int)) = !decide (a = b) := by
  rw [bne, u8_eq_dec]
set_option maxRecDepth 100000 in
set_option maxHeartbeats 8000000 in
theorem dparse_any (w : World) (s : ByteArray) : Calls Tryz.prog 57 #[.string s] w (DateRet w (dosP s.data.toList)) := by
  by_cases hl : s.size ≠ 19 ∧ s.size ≠ 10
  · have n1 : ((s.size : Int) != 19) = true := by simp; omega
    have n2 : ((s.size : Int) != 10) = true := by simp; omega
    have hr : Hid (dosP s.data.toList = none) := by rw [Hid, dosP, data_len, if_pos hl]
    clear hl
    rw [hr.out]
    go_enter Tryz.func57, Tryz.ntmps57
    go_wp2_with fail
    go_ret2
    exact ⟨rfl, Below.refl _ _⟩
  · have hr : Hid (dosP s.data.toList = (dscan s.data.toList s.size).bind putM) := by rw [Hid, dosP, data_len, if_neg hl]
    have h19 : s.size ≤ 19 := by omega
    have hn : ((s.size : Int) != 19) = false ∨ (((s.size : Int) != 19) = true ∧ ((s.size : Int) != 10) = false) := by
      by_cases e : s.size = 19
      · left; simp [e]
      · right; simp; omega
    clear hl
    obtain ⟨L, hL⟩ : ∃ L, L = s.data.toList := ⟨_, rfl⟩
    have hix : Hid (∀ i : Nat, i < s.size → ∀ w, (Instr.index 9 (.string s) (.int .i64 (i : Int))).run Tryz.prog w = .ok (.int .u8 ((L.getD i 0).toNat : Int)) w) := by
      rw [Hid, hL]; exact fun i h w => idx_str s i h w
    have hif : Hid (∀ i : Nat, i < 19 → ∀ w, (Instr.index 9 (.string ⟨#[100, 100, 100, 100, 45, 100, 100, 45, 100, 100, 32, 100, 100, 58, 100, 100, 58, 100, 100]⟩) (.int .i64 (i : Int))).run Tryz.prog w = .ok (.int .u8 ((formB.getD i 0).toNat : Int)) w) :=
      fun i h w => idx_str ⟨#[100, 100, 100, 100, 45, 100, 100, 45, 100, 100, 32, 100, 100, 58, 100, 100, 58, 100, 100]⟩ i h w
    rw [← hL] at hr ⊢
    replace hL := hide hL
    rcases hn with n1 | ⟨n1, n2⟩
    all_goals
      go_enter Tryz.func57, Tryz.ntmps57
      go_wp2_with fail
      go_loopw [5, 20] (fun vk vi wr => ∃ (i : Nat) (m : Mom), i ≤ s.size ∧ vi = .int .i64 i ∧ vk = .int .i64 (m.k : Int) ∧ dscan L i = some m ∧ Blk wr w.heap.size 145 (momC m) ∧ Below w.heap.size w wr) (fun _ vi _ => s.size - (intOf vi).toNat)
      case atStart => exact ⟨0, ⟨fun _ => 0, 0⟩, by omega, rfl, rfl, rfl, Blk.new _ _ _, (Below.refl _ _).alloc (Nat.le_refl _) _⟩
      case round =>
        obtain ⟨i, m, hi, rfl, rfl, hm, hB, hbl⟩ := hrel
        by_cases h1 : i < s.size
        · have hmk := dscan_ok L i m (by omega) hm
          have hx := hix.out i h1
          have hf := hif.out i (by omega)
          have hnx : Hid (dscan L (i + 1) = dstep (formB.getD i 0) (L.getD i 0) m) := by rw [Hid, dscan, hm]; rfl
          have hst : Hid (∀ m', dstep (formB.getD i 0) (L.getD i 0) m = some m' → MOk (i + 1) m') := fun m' h => hmk.step (by omega) h
          have hk5 : Hid (m.k ≤ 5) := by
            rw [Hid, hmk.k]
            by_cases e : formB.getD i 0 = 100
            · exact (form_d i (by omega) e).2.2.2
            · exact (form_s i (by omega) e).2.2.1
          have hlo := hmk.lo m.k
          have hhi := hmk.hi m.k
          replace hmk := hide hmk
          clear hm
          generalize hF : formB.getD i 0 = F at *
          generalize L.getD i 0 = c at *
          have hcb : (c.toNat : Int) < 256 := by have := c.toNat_lt; omega
          by_cases e1 : F = 100
          · subst e1
            have q1 : (((100 : UInt8).toNat : Int) == 100) = true := rfl
            have q2 : (((100 : UInt8).toNat : Int) != 100) = false := rfl
            by_cases e2 : (c.toNat : Int) < 48
            · have hno : Hid (dosP L = none) := by
                rw [Hid, hr.out, dscan_none L (i + 1) (by rw [hnx.out, dstep, if_pos rfl, if_pos (.inl (by omega))]) s.size (by omega)]; rfl
              clear hst hlo hhi
              go_wp2_with fail
              go_ret2
              rw [hno.out]
              exact ⟨rfl, hbl⟩
            · by_cases e3 : 57 < (c.toNat : Int)
              · have hno : Hid (dosP L = none) := by
                  rw [Hid, hr.out, dscan_none L (i + 1) (by rw [hnx.out, dstep, if_pos rfl, if_pos (.inr (by omega))]) s.size (by omega)]; rfl
                clear hst hlo hhi
                go_wp2_with fail
                go_ret2
                rw [hno.out]
                exact ⟨rfl, hbl⟩
              · have hyes : Hid (dscan L (i + 1) = some ⟨fun j => if j = m.k then 10 * m.n m.k + ((c.toNat : Int) - 48) else m.n j, m.k⟩) := by
                  rw [Hid, hnx.out, dstep, if_pos rfl, if_neg (by omega)]
                have ck : wr.cell? ⟨w.heap.size, m.k, none⟩ = some (.int .i64 (m.n m.k)) := (hB.cell m.k).trans (momC_get m m.k hk5.out)
                have fk := hB.frozen m.k
                have k5 : (m.k : Int) < 6 := by have := hk5.out; omega
                replace hB := hide hB
                generalize hN : m.n m.k = N at *
                have q3 : IntKind.u8.wrap ((c.toNat : Int) - 48) = (c.toNat : Int) - 48 := by
                  rw [IntKind.wrap]; simp [IntKind.bits, IntKind.signed]; omega
                clear hst
                go_wp2_with fail
                go_roundw
                case rel => exact ⟨i + 1, ⟨fun j => if j = m.k then 10 * N + ((c.toNat : Int) - 48) else m.n j, m.k⟩, by omega, by go_num, rfl, hyes.out, by rw [← momC_set m m.k _ hk5.out]; exact hB.out.set_ _ _, hbl.setCell (p := ⟨w.heap.size, m.k, none⟩) (Nat.le_refl _) _⟩
                case measure => simp [intOf]; omega
          · have q1 : ((F.toNat : Int) == 100) = false := by
              rw [show (100 : Int) = (((100 : UInt8).toNat : Nat) : Int) from rfl, u8_eq_dec]; simp [e1]
            have q2 : ((F.toNat : Int) != 100) = true := by rw [bne, q1]; rfl
            by_cases e2 : c = F
            · subst e2
              have q3 : ((c.toNat : Int) != (c.toNat : Int)) = false := by simp
              have hyes : Hid (dscan L (i + 1) = some ⟨m.n, m.k + 1⟩) := by rw [Hid, hnx.out, dstep, if_neg e1, if_pos rfl]
              have k5 : (m.k : Int) < 6 := by have := hk5.out; omega
              clear hst e1
              replace hB := hide hB
              go_wp2_with fail
              go_roundw
              case rel => exact ⟨i + 1, ⟨m.n, m.k + 1⟩, by omega, by go_num, by go_num, hyes.out, hB.out, hbl⟩
              case measure => simp [intOf]; omega
            · have q3 : ((c.toNat : Int) != (F.toNat : Int)) = true := by rw [u8_ne_dec]; simp [e2]
              have hno : Hid (dosP L = none) := by
                rw [Hid, hr.out, dscan_none L (i + 1) (by rw [hnx.out, dstep, if_neg e1, if_neg e2]) s.size (by omega)]; rfl
              clear hst e1 e2
              go_wp2_with fail
              go_ret2
              rw [hno.out]
              exact ⟨rfl, hbl⟩
        · obtain rfl : i = s.size := by omega
          have c0 : wr.cell? ⟨w.heap.size, 0, none⟩ = some (.int .i64 (m.n 0)) := hB.cell 0
          have c1 : wr.cell? ⟨w.heap.size, 1, none⟩ = some (.int .i64 (m.n 1)) := hB.cell 1
          have c2 : wr.cell? ⟨w.heap.size, 2, none⟩ = some (.int .i64 (m.n 2)) := hB.cell 2
          have c3 : wr.cell? ⟨w.heap.size, 3, none⟩ = some (.int .i64 (m.n 3)) := hB.cell 3
          have c4 : wr.cell? ⟨w.heap.size, 4, none⟩ = some (.int .i64 (m.n 4)) := hB.cell 4
          have c5 : wr.cell? ⟨w.heap.size, 5, none⟩ = some (.int .i64 (m.n 5)) := hB.cell 5
          have hres : Hid (dosP L = putM m) := by rw [Hid, hr.out, hm]; rfl
          have hsz := hbl.size
          clear hB hm
          cases hb : rightB (m.n 0) (m.n 1) (m.n 2) (m.n 3) (m.n 4) (m.n 5) with
          | true =>
            have hp : Hid (putM m = some (dosN (m.n 0) (m.n 1) (m.n 2) (m.n 3) (m.n 4) (m.n 5))) := by rw [Hid, putM, if_pos hb]
            replace hb := hide hb
            go_wp2_with fail
            refine (dput_true _ _ _ _ _ _ _ hb.out).mono ?_
            rintro e w2 ⟨rfl, hb2⟩
            have hbw2 := hbl.trans (hb2.mono hsz)
            clear c0 c1 c2 c3 c4 c5
            go_wp2_with fail
            go_ret2
            rw [hres.out, hp.out]
            exact ⟨rfl, hbw2⟩
          | false =>
            have hp : Hid (putM m = none) := by rw [Hid, putM, hb, if_neg Bool.false_ne_true]
            replace hb := hide hb
            go_wp2_with fail
            refine (dput_false _ _ _ _ _ _ _ hb.out).mono ?_
            rintro e w2 ⟨rfl, hb2⟩
            have hbw2 := hbl.trans (hb2.mono hsz)
            clear c0 c1 c2 c3 c4 c5
            go_wp2_with fail
            go_ret2
            rw [hres.out, hp.out]
            exact ⟨rfl, hbw2⟩
end Go.Proofs.YtnnjcedlomfhoaaGreatDoor
