/-
  Dates by the document (inquestref08): contracts of number, days, Number, Parse.
  Dates by the document (inquestref08): contract of Parse.
  A date's text by the document is a date's text by the package: plain Lean.
-/
import Derived.Test.YtnhcamkccnaeeaaDoorDosB
import Derived.Deep.RegionHeld3
namespace Go.Proofs.YtnhcamkccnaeeaaDoor
open Go.RowKit
set_option linter.unusedVariables false

/-- The number of n digits from a place on. -/
def numT (l : List UInt8) (a : Nat) : Nat → Option Int
  | 0 => some 0
  | n + 1 => match numT l a n with
    | none => none
    | some v => if (l.getD (a + n) 0).toNat < 48 ∨ 57 < (l.getD (a + n) 0).toNat then none else some (10 * v + (((l.getD (a + n) 0).toNat : Int) - 48))
theorem numT_bd (l : List UInt8) (a n : Nat) (v : Int) (h : numT l a n = some v) : 0 ≤ v ∧ v < 10 ^ n := by
  induction n generalizing v with
  | zero => cases h; simp
  | succ n ih =>
    rw [numT] at h
    cases hv : numT l a n with
    | none => rw [hv] at h; cases h
    | some u =>
      rw [hv] at h
      simp only [] at h
      have := ih u hv
      split at h
      · cases h
      · cases h
        rw [Int.pow_succ]; omega
theorem numT_none (l : List UInt8) (a n : Nat) (h : numT l a n = none) : ∀ m, n ≤ m → numT l a m = none := by
  intro m hm
  induction m with
  | zero => obtain rfl : n = 0 := by omega
            exact h
  | succ m ih =>
    by_cases e : n = m + 1
    · subst e; exact h
    · rw [numT, ih (by omega)]
set_option maxRecDepth 100000 in
set_option maxHeartbeats 1000000 in
theorem rnumber_any (w : World) (s : ByteArray) (a n : Nat) (h : a + n ≤ s.size) (hn : n ≤ 4) (ha : a ≤ 100) :
    Calls Tryd.prog 59 #[.string s, .int .i64 (a : Int), .int .i64 (n : Int)] w fun e w' => e = .returned (.int .i64 ((numT s.data.toList a n).getD (-1))) ∧ w = w' := by
  obtain ⟨L, hL⟩ : ∃ L, L = s.data.toList := ⟨_, rfl⟩
  have hix : Hid (∀ i : Nat, i < s.size → ∀ w, (Instr.index 9 (.string s) (.int .i64 (i : Int))).run Tryd.prog w = .ok (.int .u8 ((L.getD i 0).toNat : Int)) w) := by
    rw [Hid, hL]; exact fun i h w => idx_str s i h w
  rw [← hL]
  replace hL := hide hL
  obtain ⟨r, hr⟩ : ∃ r, r = (numT L a n).getD (-1) := ⟨_, rfl⟩
  rw [← hr]
  replace hr := hide hr
  go_enter Tryd.func59, Tryd.ntmps59
  go_wp2_with fail
  go_loop [7, 8] (fun v i => ∃ (k : Nat) (u : Int), k ≤ n ∧ i = .int .i64 ((a : Int) + (k : Int)) ∧ v = .int .i64 u ∧ numT L a k = some u) (fun _ i => ((a : Int) + (n : Int) - intOf i).toNat)
  case atStart => exact ⟨0, 0, by omega, by simp, rfl, rfl⟩
  case round =>
    obtain ⟨k, u, hk, rfl, rfl, hu⟩ := hrel
    have hub := numT_bd L a k u hu
    have hu4 : u < 10000 := by
      have : (10 : Nat) ^ k ≤ 10 ^ 4 := Nat.pow_le_pow_right (by omega) (by omega)
      have h2 : (10 : Int) ^ k ≤ 10 ^ 4 := by exact_mod_cast this
      have h3 : (10 : Int) ^ 4 = 10000 := by decide
      omega
    have hu0 : 0 ≤ u := hub.1
    clear hub
    by_cases h1 : k < n
    · have hx := hix.out (a + k) (by omega)
      rw [show ((a + k : Nat) : Int) = (a : Int) + (k : Int) from by omega] at hx
      have hnx : Hid (numT L a (k + 1) = if (L.getD (a + k) 0).toNat < 48 ∨ 57 < (L.getD (a + k) 0).toNat then none else some (10 * u + (((L.getD (a + k) 0).toNat : Int) - 48))) := by rw [Hid, numT, hu]
      generalize L.getD (a + k) 0 = c at *
      have hcb : (c.toNat : Int) < 256 := by have := c.toNat_lt; omega
      have h1' : (a : Int) + (k : Int) < (a : Int) + (n : Int) := by omega
      by_cases e2 : (c.toNat : Int) < 48
      · have hres : Hid (r = -1) := by
          rw [Hid, hr.out, numT_none L a (k + 1) (by rw [hnx.out, if_pos (.inl (by omega))]) n (by omega)]; rfl
        clear hu
        go_wp2_with fail
        go_ret
        exact ⟨ret_int hres.out.symm, rfl⟩
      · by_cases e3 : 57 < (c.toNat : Int)
        · have hres : Hid (r = -1) := by
            rw [Hid, hr.out, numT_none L a (k + 1) (by rw [hnx.out, if_pos (.inr (by omega))]) n (by omega)]; rfl
          clear hu
          go_wp2_with fail
          go_ret
          exact ⟨ret_int hres.out.symm, rfl⟩
        · have hu2 : Hid (numT L a (k + 1) = some (10 * u + ((c.toNat : Int) - 48))) := by rw [Hid, hnx.out, if_neg (by omega)]
          have q3 : IntKind.u8.wrap ((c.toNat : Int) - 48) = (c.toNat : Int) - 48 := by
            rw [IntKind.wrap]; simp [IntKind.bits, IntKind.signed]; omega
          clear hu hnx
          go_wp2_with fail
          go_round
          case rel => exact ⟨k + 1, _, by omega, by go_num, rfl, hu2.out⟩
          case measure => simp [intOf]; omega
    · obtain rfl : k = n := by omega
      have hres : Hid (r = u) := by rw [Hid, hr.out, hu]; rfl
      have h1' : ¬ (a : Int) + (k : Int) < (a : Int) + (k : Int) := by omega
      clear hu
      go_wp2_with fail
      go_ret
      exact ⟨ret_int hres.out.symm, rfl⟩

set_option maxRecDepth 100000 in
set_option maxHeartbeats 2000000 in
theorem rdays_any (w : World) (y m : Int) (hy : 0 ≤ y) (hm1 : 1 ≤ m) (hm2 : m ≤ 12) : Calls Tryd.prog 78 #[.int .i64 y, .int .i64 m] w fun e w' => e = .returned (.int .i64 (daysI y m)) ∧ Below w.heap.size w w' := by
  obtain ⟨r, hr⟩ : ∃ r, r = daysI y m := ⟨_, rfl⟩
  rw [← hr]
  by_cases h2 : m = 2
  · subst h2
    by_cases l5 : y % 400 = 0
    · have n5 : (y % 400 == 0) = true := by simp [l5]
      have l4 : y % 4 = 0 := by omega
      have hres : Hid (29 = r) := by rw [Hid, hr]; simp [daysI, leapB, l4, l5]
      clear hr l5 l4
      go_enter Tryd.func78, Tryd.ntmps78
      go_wp2_with fail
      go_ret
      exact ⟨ret_int hres.out, (Below.refl _ _).alloc (Nat.le_refl _) _⟩
    · have n5 : (y % 400 == 0) = false := by simp [l5]
      by_cases l4 : y % 4 = 0
      · have n4 : (y % 4 == 0) = true := by simp [l4]
        by_cases l1 : y % 100 = 0
        · have n1 : (y % 100 != 0) = false := by simp [l1]
          have hres : Hid (28 = r) := by rw [Hid, hr]; simp [daysI, leapB, l4, l5, l1]
          clear hr l5 l4 l1
          go_enter Tryd.func78, Tryd.ntmps78
          go_wp2_with fail
          go_ret
          exact ⟨ret_int hres.out, (Below.refl _ _).alloc (Nat.le_refl _) _⟩
        · have n1 : (y % 100 != 0) = true := by simp [l1]
          have hres : Hid (29 = r) := by rw [Hid, hr]; simp [daysI, leapB, l4, l5, l1]
          clear hr l5 l4 l1
          go_enter Tryd.func78, Tryd.ntmps78
          go_wp2_with fail
          go_ret
          exact ⟨ret_int hres.out, (Below.refl _ _).alloc (Nat.le_refl _) _⟩
      · have n4 : (y % 4 == 0) = false := by simp [l4]
        have hres : Hid (28 = r) := by rw [Hid, hr]; simp [daysI, leapB, l4, l5]
        clear hr l5 l4
        go_enter Tryd.func78, Tryd.ntmps78
        go_wp2_with fail
        go_ret
        exact ⟨ret_int hres.out, (Below.refl _ _).alloc (Nat.le_refl _) _⟩
  · have hv : m = 1 ∨ m = 3 ∨ m = 4 ∨ m = 5 ∨ m = 6 ∨ m = 7 ∨ m = 8 ∨ m = 9 ∨ m = 10 ∨ m = 11 ∨ m = 12 := by omega
    clear h2 hm1 hm2
    rcases hv with rfl | rfl | rfl | rfl | rfl | rfl | rfl | rfl | rfl | rfl | rfl
    all_goals
      replace hr := hide hr
      go_enter Tryd.func78, Tryd.ntmps78
      go_wp2_with fail
      go_ret
      exact ⟨ret_int (by rw [hr.out]; rfl), (Below.refl _ _).alloc (Nat.le_refl _) _⟩

/-- The number of a moment; -1: it is none. -/
def numI (y m d h i s : Int) : Int :=
  if y < 1980 ∨ 2107 < y ∨ m < 1 ∨ 12 < m ∨ d < 1 ∨ daysI y m < d then -1
  else if h < 0 ∨ 23 < h ∨ i < 0 ∨ 59 < i ∨ s < 0 ∨ 59 < s then -1
  else ((y - 1980) * 512 + m * 32 + d) * 65536 + h * 2048 + i * 32 + s / 2
theorem daysI_bd (y m : Int) : 28 ≤ daysI y m ∧ daysI y m ≤ 31 := by
  unfold daysI
  repeat' split
  all_goals omega
/-- The second half: hours, minutes, seconds. -/
def numJ (D h i s : Int) : Int := if h < 0 ∨ 23 < h ∨ i < 0 ∨ 59 < i ∨ s < 0 ∨ 59 < s then -1 else D * 65536 + h * 2048 + i * 32 + s / 2
theorem numI_of (y m d h i s : Int) (h1 : ¬ (y < 1980 ∨ 2107 < y ∨ m < 1 ∨ 12 < m ∨ d < 1 ∨ daysI y m < d)) : numI y m d h i s = numJ ((y - 1980) * 512 + m * 32 + d) h i s := by
  rw [numI, if_neg h1, numJ]
theorem numI_bad (y m d h i s : Int) (h1 : y < 1980 ∨ 2107 < y ∨ m < 1 ∨ 12 < m ∨ d < 1 ∨ daysI y m < d) : numI y m d h i s = -1 := by
  rw [numI, if_pos h1]
def NumRet (w : World) (r : Int) (e : Ending) (w' : World) : Prop := e = .returned (.int .i64 r) ∧ Below w.heap.size w w'
set_option maxRecDepth 100000 in
set_option maxHeartbeats 8000000 in
theorem rnum_any (w : World) (g c : Nat) (y m d h i s : Int) (hB : Blk w g 3 #[.int .i64 y, .int .i64 m, .int .i64 d, .int .i64 h, .int .i64 i, .int .i64 s]) (hc : 6 ≤ c) :
    Calls Tryd.prog 60 #[.slice (some ⟨g, 0, none⟩) 6 c] w (NumRet w (numI y m d h i s)) := by
  have c0 : w.cell? ⟨g, 0, none⟩ = some (.int .i64 y) := hB.cell 0
  have c1 : w.cell? ⟨g, 1, none⟩ = some (.int .i64 m) := hB.cell 1
  have c2 : w.cell? ⟨g, 2, none⟩ = some (.int .i64 d) := hB.cell 2
  have hg := hB.lt
  obtain ⟨r, hr⟩ : ∃ r, r = numI y m d h i s := ⟨_, rfl⟩
  rw [← hr]
  by_cases k1 : y < 1980
  · have hres : Hid (-1 = r) := by rw [Hid, hr, numI_bad _ _ _ _ _ _ (.inl k1)]
    clear hr hB
    go_enter Tryd.func60, Tryd.ntmps60
    go_wp2_with fail
    go_quiet (fail)
    go_wp2_with fail
    go_ret
    exact ⟨ret_int hres.out, below_drewN (Below.refl _ _) _⟩
  have j1 : decide (y < 1980) = false := by simpa using k1
  by_cases k2 : 2107 < y
  · have hres : Hid (-1 = r) := by rw [Hid, hr, numI_bad _ _ _ _ _ _ (.inr (.inl k2))]
    clear hr hB
    go_enter Tryd.func60, Tryd.ntmps60
    go_wp2_with fail
    go_quiet (fail)
    go_wp2_with fail
    go_ret
    exact ⟨ret_int hres.out, below_drewN (Below.refl _ _) _⟩
  have j2 : decide (2107 < y) = false := by simpa using k2
  by_cases k3 : m < 1
  · have hres : Hid (-1 = r) := by rw [Hid, hr, numI_bad _ _ _ _ _ _ (.inr (.inr (.inl k3)))]
    clear hr hB
    go_enter Tryd.func60, Tryd.ntmps60
    go_wp2_with fail
    go_quiet (fail)
    go_wp2_with fail
    go_ret
    exact ⟨ret_int hres.out, below_drewN (Below.refl _ _) _⟩
  have j3 : decide (m < 1) = false := by simpa using k3
  by_cases k4 : 12 < m
  · have hres : Hid (-1 = r) := by rw [Hid, hr, numI_bad _ _ _ _ _ _ (.inr (.inr (.inr (.inl k4))))]
    clear hr hB
    go_enter Tryd.func60, Tryd.ntmps60
    go_wp2_with fail
    go_quiet (fail)
    go_wp2_with fail
    go_ret
    exact ⟨ret_int hres.out, below_drewN (Below.refl _ _) _⟩
  have j4 : decide (12 < m) = false := by simpa using k4
  by_cases k5 : d < 1
  · have hres : Hid (-1 = r) := by rw [Hid, hr, numI_bad _ _ _ _ _ _ (.inr (.inr (.inr (.inr (.inl k5)))))]
    clear hr hB
    go_enter Tryd.func60, Tryd.ntmps60
    go_wp2_with fail
    go_quiet (fail)
    go_wp2_with fail
    go_ret
    exact ⟨ret_int hres.out, below_drewN (Below.refl _ _) _⟩
  have j5 : decide (d < 1) = false := by simpa using k5
  have HD : Hid (∀ wx, Calls Tryd.prog 78 #[.int .i64 y, .int .i64 m] wx fun e w' => e = .returned (.int .i64 (daysI y m)) ∧ Below wx.heap.size wx w') :=
    fun wx => rdays_any wx y m (by omega) (by omega) (by omega)
  have HK : Hid (∀ wa wb : World, Below w.heap.size w wa → Below wa.heap.size wa wb → wb.cell? ⟨g, 0, none⟩ = some (.int .i64 y) ∧ wb.cell? ⟨g, 1, none⟩ = some (.int .i64 m) ∧ wb.cell? ⟨g, 2, none⟩ = some (.int .i64 d) ∧ Below w.heap.size w wb) := by
    intro wa wb ha hb
    have h := ha.trans (hb.mono ha.size)
    have hB := hB.below h hg
    exact ⟨hB.cell 0, hB.cell 1, hB.cell 2, h⟩
  have HB : Hid (∀ wb : World, Below w.heap.size w wb → Blk wb g 3 #[.int .i64 y, .int .i64 m, .int .i64 d, .int .i64 h, .int .i64 i, .int .i64 s]) := fun wb hb => hB.below hb hg
  have hb00 : Below w.heap.size w w.drew := (Below.refl _ _).drew
  have hdb := daysI_bd y m
  by_cases k6 : daysI y m < d
  · have hres : Hid (-1 = r) := by rw [Hid, hr, numI_bad _ _ _ _ _ _ (.inr (.inr (.inr (.inr (.inr k6)))))]
    clear hr hB HB
    go_enter Tryd.func60, Tryd.ntmps60
    go_wp2_with fail
    go_region_held3 (fun w' => w'.cell? ⟨g, 0, none⟩ = some (.int .i64 y) ∧ w'.cell? ⟨g, 1, none⟩ = some (.int .i64 m) ∧ w'.cell? ⟨g, 2, none⟩ = some (.int .i64 d) ∧ Below w.heap.size w w') (first | exact ⟨by assumption, by assumption, by assumption, by assumption⟩ | exact ⟨c0, c1, c2, hb00⟩)
      (first | ((with_reducible refine (HD.out _).mono ?_); rintro e w2 ⟨rfl, hb2⟩; obtain ⟨hk0, hk1, hk2, hkb⟩ := HK.out _ _ (by assumption) hb2))
    all_goals
      go_wp2_with fail
      go_ret
      exact ⟨ret_int hres.out, hkb⟩
  · have hnum := numI_of y m d h i s (by omega)
    rw [hnum] at hr
    obtain ⟨D, hD⟩ : ∃ D, D = (y - 1980) * 512 + m * 32 + d := ⟨_, rfl⟩
    rw [← hD] at hr
    have hDb : 0 ≤ D ∧ D ≤ 100000 := by omega
    obtain ⟨hD0, hD1⟩ := hDb
    have ed : IntKind.i64.wrap (y - 1980) = y - 1980 := IntWalk.i64_in _ (by omega)
    replace hD := hide hD
    replace hr := hide hr
    clear hnum hB
    go_enter Tryd.func60, Tryd.ntmps60
    go_wp2_with fail
    go_region_held3 (fun w' => w'.cell? ⟨g, 0, none⟩ = some (.int .i64 y) ∧ w'.cell? ⟨g, 1, none⟩ = some (.int .i64 m) ∧ w'.cell? ⟨g, 2, none⟩ = some (.int .i64 d) ∧ Below w.heap.size w w') (first | exact ⟨by assumption, by assumption, by assumption, by assumption⟩ | exact ⟨c0, c1, c2, hb00⟩)
      (first | ((with_reducible refine (HD.out _).mono ?_); rintro e w2 ⟨rfl, hb2⟩; obtain ⟨hk0, hk1, hk2, hkb⟩ := HK.out _ _ (by assumption) hb2))
    all_goals
      have hB2 := HB.out _ hkb
      have c3 : w2.cell? ⟨g, 3, none⟩ = some (.int .i64 h) := hB2.cell 3
      have c4 : w2.cell? ⟨g, 4, none⟩ = some (.int .i64 i) := hB2.cell 4
      have c5 : w2.cell? ⟨g, 5, none⟩ = some (.int .i64 s) := hB2.cell 5
      have e1 : IntKind.i64.wrap ((y - 1980) * 512) = (y - 1980) * 512 := IntWalk.i64_in _ (by omega)
      have e2 : IntKind.i64.wrap (m * 32) = m * 32 := IntWalk.i64_in _ (by omega)
      have e3 : IntKind.i64.wrap ((y - 1980) * 512 + m * 32) = (y - 1980) * 512 + m * 32 := IntWalk.i64_in _ (by omega)
      have e4 : IntKind.i64.wrap ((y - 1980) * 512 + m * 32 + d) = (y - 1980) * 512 + m * 32 + d := IntWalk.i64_in _ (by omega)
      have hE : 0 ≤ h → h ≤ 23 → 0 ≤ i → i ≤ 59 → 0 ≤ s → s ≤ 59 → Hid (IntKind.i64.wrap (D * 65536) = D * 65536 ∧ IntKind.i64.wrap (h * 2048) = h * 2048 ∧ IntKind.i64.wrap (D * 65536 + h * 2048) = D * 65536 + h * 2048 ∧ IntKind.i64.wrap (i * 32) = i * 32 ∧
          IntKind.i64.wrap (D * 65536 + h * 2048 + i * 32) = D * 65536 + h * 2048 + i * 32 ∧ s.tdiv 2 = s / 2 ∧ IntKind.i64.wrap (s / 2) = s / 2 ∧ IntKind.i64.wrap (D * 65536 + h * 2048 + i * 32 + s / 2) = D * 65536 + h * 2048 + i * 32 + s / 2) := by
        intro a1 a2 a3 a4 a5 a6
        refine ⟨IntWalk.i64_in _ (by omega), IntWalk.i64_in _ (by omega), IntWalk.i64_in _ (by omega), IntWalk.i64_in _ (by omega), IntWalk.i64_in _ (by omega), Int.tdiv_eq_ediv_of_nonneg a5, IntWalk.i64_in _ (by omega), IntWalk.i64_in _ (by omega)⟩
      have hr6 : 0 ≤ h → h ≤ 23 → 0 ≤ i → i ≤ 59 → 0 ≤ s → s ≤ 59 → Hid (r = D * 65536 + h * 2048 + i * 32 + s / 2) := by
        intro a1 a2 a3 a4 a5 a6
        rw [Hid, hr.out, numJ, if_neg (by omega)]
      replace hE := hide hE
      replace hr6 := hide hr6
      clear hB2 HB HK HD c0 c1 c2 hb2
      by_cases hJ : h < 0 ∨ 23 < h ∨ i < 0 ∨ 59 < i ∨ s < 0 ∨ 59 < s
      · have hres : Hid (-1 = r) := by rw [Hid, hr.out, numJ, if_pos hJ]
        go_wp2_with fail
        all_goals first
          | (go_ret; exact ⟨ret_int hres.out, hkb⟩)
          | (exfalso; omega)
      · have a1 : 0 ≤ h := by omega
        have a2 : h ≤ 23 := by omega
        have a3 : 0 ≤ i := by omega
        have a4 : i ≤ 59 := by omega
        have a5 : 0 ≤ s := by omega
        have a6 : s ≤ 59 := by omega
        have hE2 := hE.out a1 a2 a3 a4 a5 a6
        have hres := hr6.out a1 a2 a3 a4 a5 a6
        clear hJ
        go_wp2_with fail
        go_quiet (fail)
        rw [← hD.out]
        obtain ⟨E1, E2, E3, E4, E5, E6, E7, E8⟩ := hE2.out
        clear e1 e2 e3 e4 ed
        go_wp2_with fail
        go_quiet (fail)
        go_wp2_with fail
        go_ret
        exact ⟨ret_int hres.out.symm, below_drewN (below_drewN hkb _) _⟩
end Go.Proofs.YtnhcamkccnaeeaaDoor
namespace Go.Proofs.YtnhcamkccnaeeaaDoor
open Go.RowKit
set_option linter.unusedVariables false

def nT (l : List UInt8) (a n : Nat) : Int := (numT l a n).getD (-1)
/-- The number of a date's text, by the document; below 0: it is none. -/
def refD (l : List UInt8) : Int :=
  if l.length ≠ 10 ∧ l.length ≠ 19 then -1
  else if (l.getD 4 0).toNat ≠ 45 ∨ (l.getD 7 0).toNat ≠ 45 then -1
  else if l.length = 19 then
    (if (l.getD 10 0).toNat ≠ 32 ∨ (l.getD 13 0).toNat ≠ 58 ∨ (l.getD 16 0).toNat ≠ 58 then -1 else numI (nT l 0 4) (nT l 5 2) (nT l 8 2) (nT l 11 2) (nT l 14 2) (nT l 17 2))
  else numI (nT l 0 4) (nT l 5 2) (nT l 8 2) 0 0 0
theorem num_call (w : World) (s : ByteArray) (a n : Nat) (x y : Int) (hx : x = (a : Int)) (hy : y = (n : Int)) (h : a + n ≤ s.size) (hn : n ≤ 4) (ha : a ≤ 100) :
    Calls Tryd.prog 59 #[.string s, .int .i64 x, .int .i64 y] w fun e w' => e = .returned (.int .i64 (nT s.data.toList a n)) ∧ w = w' := by
  subst hx hy
  exact rnumber_any w s a n h hn ha
theorem idx_lit (s : ByteArray) (i : Nat) (x : Int) (hx : x = (i : Int)) (h : i < s.size) (w : World) : (Instr.index 9 (.string s) (.int .i64 x)).run Tryd.prog w = .ok (.int .u8 ((s.data.toList.getD i 0).toNat : Int)) w := by
  subst hx
  exact idx_str s i h w
theorem natne_true {a : Nat} {b : Int} (h : ¬ (a : Int) = b) : ((a : Int) != b) = true := by simp [h]
theorem natne_false {a : Nat} {b : Int} (h : (a : Int) = b) : ((a : Int) != b) = false := by simp [h]
set_option maxRecDepth 100000 in
set_option maxHeartbeats 4000000 in
theorem rdparse_any (w : World) (s : ByteArray) : Calls Tryd.prog 35 #[.string s] w (NumRet w (refD s.data.toList)) := by
  obtain ⟨r, hr⟩ : ∃ r, r = refD s.data.toList := ⟨_, rfl⟩
  rw [← hr]
  rw [refD, data_len] at hr
  by_cases hl : s.size ≠ 10 ∧ s.size ≠ 19
  · have hres : Hid (-1 = r) := by rw [Hid, hr, if_pos hl]
    have n1 : ((s.size : Int) != 10) = true := by simp; omega
    have n2 : ((s.size : Int) != 19) = true := by simp; omega
    clear hl hr
    go_enter Tryd.func35, Tryd.ntmps35
    go_wp2_with fail
    go_ret
    exact ⟨ret_int hres.out, Below.refl _ _⟩
  · rw [if_neg hl] at hr
    have h10 : 10 ≤ s.size := by omega
    have hn : ((s.size : Int) != 10) = false ∨ (((s.size : Int) != 10) = true ∧ ((s.size : Int) != 19) = false) := by
      by_cases e : s.size = 10
      · left; simp [e]
      · right; simp; omega
    have i4 := hide (fun w => idx_lit s 4 4 rfl (by omega) w)
    have i7 := hide (fun w => idx_lit s 7 7 rfl (by omega) w)
    have N0 := hide (fun w => num_call w s 0 4 0 4 rfl rfl (by omega) (by omega) (by omega))
    have N5 := hide (fun w => num_call w s 5 2 5 2 rfl rfl (by omega) (by omega) (by omega))
    have N8 := hide (fun w => num_call w s 8 2 8 2 rfl rfl (by omega) (by omega) (by omega))
    have i10 : s.size = 19 → Hid (∀ w, _) := fun e => hide (fun w => idx_lit s 10 10 rfl (by omega) w)
    have i13 : s.size = 19 → Hid (∀ w, _) := fun e => hide (fun w => idx_lit s 13 13 rfl (by omega) w)
    have i16 : s.size = 19 → Hid (∀ w, _) := fun e => hide (fun w => idx_lit s 16 16 rfl (by omega) w)
    have N11 : s.size = 19 → Hid (∀ w, _) := fun e => hide (fun w => num_call w s 11 2 11 2 rfl rfl (by omega) (by omega) (by omega))
    have N14 : s.size = 19 → Hid (∀ w, _) := fun e => hide (fun w => num_call w s 14 2 14 2 rfl rfl (by omega) (by omega) (by omega))
    have N17 : s.size = 19 → Hid (∀ w, _) := fun e => hide (fun w => num_call w s 17 2 17 2 rfl rfl (by omega) (by omega) (by omega))
    generalize s.data.toList = L at *
    by_cases k4 : ((L.getD 4 0).toNat : Int) = 45
    · by_cases k7 : ((L.getD 7 0).toNat : Int) = 45
      · rw [if_neg (by omega)] at hr
        have m4 := natne_false k4
        have m7 := natne_false k7
        have j4 := i4.out
        have j7 := i7.out
        by_cases h19 : s.size = 19
        · rw [if_pos h19] at hr
          have q1 : ((s.size : Int) != 10) = true := by simp; omega
          have q2 : ((s.size : Int) != 19) = false := by simp; omega
          have q3 : ((s.size : Int) == 19) = true := by simp; omega
          have j10 := (i10 h19).out
          have j13 := (i13 h19).out
          have j16 := (i16 h19).out
          replace N11 := N11 h19
          replace N14 := N14 h19
          replace N17 := N17 h19
          replace hr := hide hr
          generalize (L.getD 4 0).toNat = c4 at *
          generalize (L.getD 7 0).toNat = c7 at *
          generalize (L.getD 10 0).toNat = c10 at *
          generalize (L.getD 13 0).toNat = c13 at *
          generalize (L.getD 16 0).toNat = c16 at *
          generalize nT L 0 4 = y at *
          generalize nT L 5 2 = m at *
          generalize nT L 8 2 = d at *
          generalize nT L 11 2 = h at *
          generalize nT L 14 2 = i at *
          generalize nT L 17 2 = z at *
          clear hl hn k4 k7 h19 i10 i13 i16 i4 i7
          by_cases k10 : (c10 : Int) = 32
          · have m10 := natne_false k10
            by_cases k13 : (c13 : Int) = 58
            · have m13 := natne_false k13
              by_cases k16 : (c16 : Int) = 58
              · have m16 := natne_false k16
                have hres : Hid (numI y m d h i z = r) := by rw [Hid, hr.out, if_neg (by omega)]
                clear hr k10 k13 k16
                go_enter Tryd.func35, Tryd.ntmps35
                go_wp2_with fail
                refine (N0.out _).mono ?_
                rintro e w2 ⟨rfl, rfl⟩
                go_wp2_with fail
                refine (N5.out _).mono ?_
                rintro e w2 ⟨rfl, rfl⟩
                go_wp2_with fail
                refine (N8.out _).mono ?_
                rintro e w2 ⟨rfl, rfl⟩
                go_wp2_with fail
                refine (N11.out _).mono ?_
                rintro e w2 ⟨rfl, rfl⟩
                go_wp2_with fail
                refine (N14.out _).mono ?_
                rintro e w2 ⟨rfl, rfl⟩
                go_wp2_with fail
                refine (N17.out _).mono ?_
                rintro e w2 ⟨rfl, rfl⟩
                go_wp2_with fail
                have hB3 := hide (Blk.new w 3 #[.int .i64 y, .int .i64 m, .int .i64 d, .int .i64 h, .int .i64 i, .int .i64 z])
                have hb0 : Hid (Below w.heap.size w (w.alloc (.cells #[.int .i64 y, .int .i64 m, .int .i64 d, .int .i64 h, .int .i64 i, .int .i64 z] 3))) := hide ((Below.refl _ _).alloc (Nat.le_refl _) _)
                refine (rnum_any _ w.heap.size 6 y m d h i z hB3.out (by omega)).mono ?_
                rintro e w3 ⟨rfl, hb3⟩
                rw [hres.out]
                go_wp2_with fail
                go_ret
                exact ⟨rfl, hb0.out.trans (hb3.mono (by have := hB3.out.lt; omega))⟩
              · have m16 := natne_true k16
                have hres : Hid (-1 = r) := by rw [Hid, hr.out, if_pos (by omega)]
                clear hr N11 N14 N17
                go_enter Tryd.func35, Tryd.ntmps35
                go_wp2_with fail
                refine (N0.out _).mono ?_
                rintro e w2 ⟨rfl, rfl⟩
                go_wp2_with fail
                refine (N5.out _).mono ?_
                rintro e w2 ⟨rfl, rfl⟩
                go_wp2_with fail
                refine (N8.out _).mono ?_
                rintro e w2 ⟨rfl, rfl⟩
                have hnew := hide (Blk.new w 3 #[.int .i64 y, .int .i64 m, .int .i64 d, .int .i64 0, .int .i64 0, .int .i64 0])
                go_wp2_with fail
                go_ret
                exact ⟨ret_int hres.out, (Below.refl _ _).alloc (Nat.le_refl _) _⟩
            · have m13 := natne_true k13
              have hres : Hid (-1 = r) := by rw [Hid, hr.out, if_pos (by omega)]
              clear hr N11 N14 N17
              go_enter Tryd.func35, Tryd.ntmps35
              go_wp2_with fail
              refine (N0.out _).mono ?_
              rintro e w2 ⟨rfl, rfl⟩
              go_wp2_with fail
              refine (N5.out _).mono ?_
              rintro e w2 ⟨rfl, rfl⟩
              go_wp2_with fail
              refine (N8.out _).mono ?_
              rintro e w2 ⟨rfl, rfl⟩
              have hnew := hide (Blk.new w 3 #[.int .i64 y, .int .i64 m, .int .i64 d, .int .i64 0, .int .i64 0, .int .i64 0])
              go_wp2_with fail
              go_ret
              exact ⟨ret_int hres.out, (Below.refl _ _).alloc (Nat.le_refl _) _⟩
          · have m10 := natne_true k10
            have hres : Hid (-1 = r) := by rw [Hid, hr.out, if_pos (by omega)]
            clear hr N11 N14 N17
            go_enter Tryd.func35, Tryd.ntmps35
            go_wp2_with fail
            refine (N0.out _).mono ?_
            rintro e w2 ⟨rfl, rfl⟩
            go_wp2_with fail
            refine (N5.out _).mono ?_
            rintro e w2 ⟨rfl, rfl⟩
            go_wp2_with fail
            refine (N8.out _).mono ?_
            rintro e w2 ⟨rfl, rfl⟩
            have hnew := hide (Blk.new w 3 #[.int .i64 y, .int .i64 m, .int .i64 d, .int .i64 0, .int .i64 0, .int .i64 0])
            go_wp2_with fail
            go_ret
            exact ⟨ret_int hres.out, (Below.refl _ _).alloc (Nat.le_refl _) _⟩
        · rw [if_neg h19] at hr
          have h1 : s.size = 10 := by omega
          have q1 : ((s.size : Int) != 10) = false := by simp; omega
          have q3 : ((s.size : Int) == 19) = false := by simp; omega
          replace hr := hide hr
          clear hl hn k4 k7 h19 i10 i13 i16 i4 i7 N11 N14 N17
          generalize (L.getD 4 0).toNat = c4 at *
          generalize (L.getD 7 0).toNat = c7 at *
          generalize nT L 0 4 = y at *
          generalize nT L 5 2 = m at *
          generalize nT L 8 2 = d at *
          have hres : Hid (numI y m d 0 0 0 = r) := by rw [Hid, hr.out]
          clear hr
          go_enter Tryd.func35, Tryd.ntmps35
          go_wp2_with fail
          refine (N0.out _).mono ?_
          rintro e w2 ⟨rfl, rfl⟩
          go_wp2_with fail
          refine (N5.out _).mono ?_
          rintro e w2 ⟨rfl, rfl⟩
          go_wp2_with fail
          refine (N8.out _).mono ?_
          rintro e w2 ⟨rfl, rfl⟩
          have hB0 := hide (Blk.new w 3 #[.int .i64 y, .int .i64 m, .int .i64 d, .int .i64 0, .int .i64 0, .int .i64 0])
          have hb0 : Hid (Below w.heap.size w (w.alloc (.cells #[.int .i64 y, .int .i64 m, .int .i64 d, .int .i64 0, .int .i64 0, .int .i64 0] 3))) := hide ((Below.refl _ _).alloc (Nat.le_refl _) _)
          go_wp2_with fail
          refine (rnum_any _ w.heap.size 6 y m d 0 0 0 hB0.out (by omega)).mono ?_
          rintro e w3 ⟨rfl, hb3⟩
          rw [hres.out]
          go_wp2_with fail
          go_ret
          exact ⟨rfl, hb0.out.trans (hb3.mono (by have := hB0.out.lt; omega))⟩
      · have hres : Hid (-1 = r) := by rw [Hid, hr, if_pos (.inr (by omega))]
        have m4 := natne_false k4
        have m7 := natne_true k7
        have j4 := i4.out
        have j7 := i7.out
        clear hr i10 i13 i16 N11 N14 N17 N0 N5 N8 hl k4 k7 i4 i7
        generalize (L.getD 4 0).toNat = c4 at *
        generalize (L.getD 7 0).toNat = c7 at *
        rcases hn with n1 | ⟨n1, n2⟩
        all_goals
          go_enter Tryd.func35, Tryd.ntmps35
          go_wp2_with fail
          go_ret
          exact ⟨ret_int hres.out, Below.refl _ _⟩
    · have hres : Hid (-1 = r) := by rw [Hid, hr, if_pos (.inl (by omega))]
      have m4 := natne_true k4
      have j4 := i4.out
      have j7 := i7.out
      clear hr i10 i13 i16 N11 N14 N17 N0 N5 N8 hl k4 i4 i7
      generalize (L.getD 4 0).toNat = c4 at *
      generalize (L.getD 7 0).toNat = c7 at *
      rcases hn with n1 | ⟨n1, n2⟩
      all_goals
        go_enter Tryd.func35, Tryd.ntmps35
        go_wp2_with fail
        go_ret
        exact ⟨ret_int hres.out, Below.refl _ _⟩
end Go.Proofs.YtnhcamkccnaeeaaDoor
namespace Go.Proofs.YtnhcamkccnaeeaaDoor
open Go.RowKit
set_option linter.unusedVariables false

theorem dscan_dead (l : List UInt8) (a b : Nat) (h : dscan l a = none) (hab : a ≤ b) : dscan l b = none := by
  induction b with
  | zero => obtain rfl : a = 0 := by omega
            exact h
  | succ b ih =>
    by_cases e : a = b + 1
    · subst e; exact h
    · rw [dscan, ih (by omega)]; rfl
/-- The scan stands at a, at number k; the numbers so far. -/
def Sc (l : List UInt8) (a k : Nat) (ns : List Int) : Prop := ∃ m, dscan l a = some m ∧ m.k = k ∧ ∀ j, m.n j = ns.getD j 0
theorem Sc.zero (l : List UInt8) : Sc l 0 0 [] := ⟨_, rfl, rfl, fun j => by simp⟩
theorem Sc.num {l : List UInt8} {a k : Nat} {ns : List Int} (h : Sc l a k ns) (hk : ns.length = k) (n : Nat) (hf : ∀ j, j < n + 1 → formB.getD (a + j) 0 = 100) :
    (numT l a (n + 1) = none ∧ dscan l (a + (n + 1)) = none) ∨ (∃ v, numT l a (n + 1) = some v ∧ Sc l (a + (n + 1)) k (ns ++ [v])) := by
  obtain ⟨m, hm, rfl, hj⟩ := h
  have main : ∀ i, i ≤ n + 1 → (numT l a i = none ∧ dscan l (a + i) = none) ∨ (∃ v, numT l a i = some v ∧ ∃ m', dscan l (a + i) = some m' ∧ m'.k = m.k ∧ ∀ j, m'.n j = if j = m.k then v else m.n j) := by
    intro i
    induction i with
    | zero => intro _
              refine .inr ⟨0, rfl, m, hm, rfl, fun j => ?_⟩
              split
              · rename_i e
                rw [e, hj, ← hk]; simp
              · rfl
    | succ i ih =>
      intro hi
      rcases ih (by omega) with ⟨h1, h2⟩ | ⟨v, h1, m', h2, h3, h4⟩
      · exact .inl ⟨numT_none l a i h1 _ (by omega), dscan_dead l _ _ h2 (by omega)⟩
      · have e : dscan l (a + (i + 1)) = dstep 100 (l.getD (a + i) 0) m' := by
          rw [show a + (i + 1) = (a + i) + 1 from by omega, dscan, h2, hf i (by omega)]; rfl
        rw [e, numT, h1, dstep, if_pos rfl]
        by_cases hd : (l.getD (a + i) 0).toNat < 48 ∨ 57 < (l.getD (a + i) 0).toNat
        · left
          exact ⟨by simp only []; rw [if_pos hd], by rw [if_pos hd]⟩
        · right
          refine ⟨10 * v + (((l.getD (a + i) 0).toNat : Int) - 48), by simp only []; rw [if_neg hd], ⟨fun j => if j = m'.k then 10 * m'.n m'.k + (((l.getD (a + i) 0).toNat : Int) - 48) else m'.n j, m'.k⟩, by rw [if_neg hd], h3, fun j => ?_⟩
          simp only [h3]
          by_cases hjk : j = m.k
          · rw [if_pos hjk, if_pos hjk, h4, if_pos rfl]
          · rw [if_neg hjk, if_neg hjk, h4, if_neg hjk]
  rcases main (n + 1) (Nat.le_refl _) with h | ⟨v, h1, m', h2, h3, h4⟩
  · exact .inl h
  · refine .inr ⟨v, h1, m', h2, h3, fun j => ?_⟩
    rw [h4]
    by_cases e : j = m.k
    · rw [if_pos e, e, ← hk]; simp
    · rw [if_neg e, hj]
      by_cases e2 : j < ns.length
      · simp [List.getD, List.getElem?_append_left e2]
      · rw [List.getD_eq_getElem?_getD, List.getD_eq_getElem?_getD, List.getElem?_eq_none (by omega), List.getElem?_eq_none (by simp; omega)]
theorem Sc.sep {l : List UInt8} {a k : Nat} {ns : List Int} (h : Sc l a k ns) (f : UInt8) (hf : formB.getD a 0 = f) (hne : f ≠ 100) :
    ((l.getD a 0).toNat ≠ f.toNat ∧ dscan l (a + 1) = none) ∨ ((l.getD a 0).toNat = f.toNat ∧ Sc l (a + 1) (k + 1) ns) := by
  obtain ⟨m, hm, rfl, hj⟩ := h
  have e : dscan l (a + 1) = if l.getD a 0 = f then some ⟨m.n, m.k + 1⟩ else none := by
    rw [dscan, hm, hf]
    show dstep f _ m = _
    rw [dstep, if_neg hne]
  by_cases hc : l.getD a 0 = f
  · exact .inr ⟨by rw [hc], ⟨m.n, m.k + 1⟩, by rw [e, if_pos hc], rfl, hj⟩
  · exact .inl ⟨fun h => hc (UInt8.toNat_inj.mp h), by rw [e, if_neg hc]⟩
theorem or_plus (a b k : Nat) (hb : b < 2 ^ k) (h : a * 2 ^ k + b < 9223372036854775808) : bits .or .i64 ((a * 2 ^ k : Nat) : Int) (b : Int) = ((a * 2 ^ k + b : Nat) : Int) := by
  show IntKind.i64.wrap ((BitVec.ofInt 64 ((a * 2 ^ k : Nat) : Int) ||| BitVec.ofInt 64 (b : Int)).toNat : Int) = _
  rw [BitVec.toNat_or, ofInt_u64 _ (by omega), ofInt_u64 b (by omega)]
  have h2 : a * 2 ^ k ||| b = a * 2 ^ k + b := by
    have := Nat.shiftLeft_add_eq_or_of_lt (a := a) (b := b) (i := k) hb
    rw [Nat.shiftLeft_eq] at this
    exact this.symm
  rw [h2]
  generalize a * 2 ^ k + b = x at h
  simp [IntKind.wrap, IntKind.bits, IntKind.signed]
  omega
theorem or_sum (x y : Int) (k : Nat) (a : Int) (hx : x = a * 2 ^ k) (ha : 0 ≤ a) (hy : 0 ≤ y) (hb : y < 2 ^ k) (h : x + y < 9223372036854775808) : bits .or .i64 x y = x + y := by
  obtain ⟨n, rfl⟩ := Int.eq_ofNat_of_zero_le ha
  obtain ⟨m, rfl⟩ := Int.eq_ofNat_of_zero_le hy
  have hb' : m < 2 ^ k := by exact_mod_cast hb
  have e : x = ((n * 2 ^ k : Nat) : Int) := by rw [hx]; push_cast; rfl
  rw [e] at h ⊢
  rw [or_plus n m k hb' (by omega)]; push_cast; rfl
theorem dosN_sum (y m d h i s : Int) (hy : 1980 ≤ y ∧ y ≤ 2107) (hm : 1 ≤ m ∧ m ≤ 12) (hd : 1 ≤ d ∧ d ≤ 31) (hh : 0 ≤ h ∧ h ≤ 23) (hi : 0 ≤ i ∧ i ≤ 59) (hs : 0 ≤ s ∧ s ≤ 59) :
    dosN y m d h i s = ((y - 1980) * 512 + m * 32 + d) * 65536 + h * 2048 + i * 32 + s / 2 := by
  have w1 : wrap64 (y - 1980) = y - 1980 := by unfold wrap64; omega
  have w2 : wrap64 ((y - 1980) * 512) = (y - 1980) * 512 := by unfold wrap64; omega
  have w3 : wrap64 (m * 32) = m * 32 := by unfold wrap64; omega
  have w4 : wrap64 (((y - 1980) * 512 + m * 32 + d) * 65536) = ((y - 1980) * 512 + m * 32 + d) * 65536 := by unfold wrap64; omega
  have w5 : wrap64 (h * 2048) = h * 2048 := by unfold wrap64; omega
  have w6 : wrap64 (i * 32) = i * 32 := by unfold wrap64; omega
  have w7 : s.tdiv 2 = s / 2 := Int.tdiv_eq_ediv_of_nonneg hs.1
  have w8 : wrap64 (s / 2) = s / 2 := by unfold wrap64; omega
  have o1 : bits .or .i64 ((y - 1980) * 512) (m * 32) = (y - 1980) * 512 + m * 32 := or_sum _ _ 9 (y - 1980) (by omega) (by omega) (by omega) (by omega) (by omega)
  have o2 : bits .or .i64 ((y - 1980) * 512 + m * 32) d = (y - 1980) * 512 + m * 32 + d := or_sum _ _ 5 ((y - 1980) * 16 + m) (by omega) (by omega) (by omega) (by omega) (by omega)
  have o3 : bits .or .i64 (((y - 1980) * 512 + m * 32 + d) * 65536) (h * 2048) = ((y - 1980) * 512 + m * 32 + d) * 65536 + h * 2048 := or_sum _ _ 16 ((y - 1980) * 512 + m * 32 + d) (by omega) (by omega) (by omega) (by omega) (by omega)
  have o4 : bits .or .i64 (((y - 1980) * 512 + m * 32 + d) * 65536 + h * 2048) (i * 32) = ((y - 1980) * 512 + m * 32 + d) * 65536 + h * 2048 + i * 32 := or_sum _ _ 11 (((y - 1980) * 512 + m * 32 + d) * 32 + h) (by omega) (by omega) (by omega) (by omega) (by omega)
  have o5 : bits .or .i64 (((y - 1980) * 512 + m * 32 + d) * 65536 + h * 2048 + i * 32) (s / 2) = ((y - 1980) * 512 + m * 32 + d) * 65536 + h * 2048 + i * 32 + s / 2 := or_sum _ _ 5 (((y - 1980) * 512 + m * 32 + d) * 2048 + h * 64 + i) (by omega) (by omega) (by omega) (by omega) (by omega)
  rw [dosN, w1, w2, w3, o1, o2, w4, w5, o3, w6, o4, w7, w8, o5]
def optD (r : Int) : Option Int := if r < 0 then none else some r
theorem put_num (m : Mom) (a b c d e f : Int) (h0 : m.n 0 = a) (h1 : m.n 1 = b) (h2 : m.n 2 = c) (h3 : m.n 3 = d) (h4 : m.n 4 = e) (h5 : m.n 5 = f) : putM m = optD (numI a b c d e f) := by
  subst h0 h1 h2 h3 h4 h5
  unfold putM optD numI
  generalize m.n 0 = a
  generalize m.n 1 = b
  generalize m.n 2 = c
  generalize m.n 3 = d
  generalize m.n 4 = e
  generalize m.n 5 = f
  have hd := daysI_bd a b
  by_cases k1 : a < 1980 ∨ 2107 < a ∨ b < 1 ∨ 12 < b ∨ c < 1 ∨ daysI a b < c
  · have e1 : ¬ rightB a b c d e f = true := by
      simp only [rightB, Bool.and_eq_true, inB_iff]; omega
    rw [if_neg e1, if_pos k1]; rfl
  · by_cases k2 : d < 0 ∨ 23 < d ∨ e < 0 ∨ 59 < e ∨ f < 0 ∨ 59 < f
    · have e1 : ¬ rightB a b c d e f = true := by
        simp only [rightB, Bool.and_eq_true, inB_iff]; omega
      rw [if_neg e1, if_neg k1, if_pos k2]; rfl
    · have e1 : rightB a b c d e f = true := by
        simp only [rightB, Bool.and_eq_true, inB_iff]; omega
      rw [if_pos e1, if_neg k1, if_neg k2, dosN_sum a b c d e f (by omega) (by omega) (by omega) (by omega) (by omega) (by omega), if_neg (by omega)]
theorem numI_neg (a b c d e f : Int) (h : a < 0 ∨ b < 0 ∨ c < 0 ∨ d < 0 ∨ e < 0 ∨ f < 0) : numI a b c d e f = -1 := by
  unfold numI
  split
  · rfl
  · split
    · rfl
    · omega
theorem nT_none {l : List UInt8} {a n : Nat} (h : numT l a n = none) : nT l a n = -1 := by rw [nT, h]; rfl
theorem nT_some {l : List UInt8} {a n : Nat} {v : Int} (h : numT l a n = some v) : nT l a n = v := by rw [nT, h]; rfl
theorem dead {l : List UInt8} {a : Nat} (h : dscan l a = none) (ha : a ≤ l.length) : (dscan l l.length).bind putM = none := by rw [dscan_dead l _ _ h ha]; rfl
theorem Sc.done {l : List UInt8} {a k : Nat} {ns : List Int} (h : Sc l a k ns) (ha : l.length = a) :
    (dscan l l.length).bind putM = optD (numI (ns.getD 0 0) (ns.getD 1 0) (ns.getD 2 0) (ns.getD 3 0) (ns.getD 4 0) (ns.getD 5 0)) := by
  obtain ⟨m, hm, _, hj⟩ := h
  rw [ha, hm]
  exact put_num m _ _ _ _ _ _ (hj 0) (hj 1) (hj 2) (hj 3) (hj 4) (hj 5)
theorem dosP_ref (l : List UInt8) : dosP l = optD (refD l) := by
  unfold dosP refD
  by_cases hl : l.length ≠ 10 ∧ l.length ≠ 19
  · rw [if_pos hl, if_pos (by omega)]; rfl
  rw [if_neg hl, if_neg (by omega)]
  have lost : ∀ {a : Nat}, a ≤ l.length → dscan l a = none → ∀ r : Int, r = -1 → (dscan l l.length).bind putM = optD r := by
    intro a ha h r hr; rw [dead h ha, hr]; rfl
  rcases (Sc.zero l).num rfl 3 (by decide) with ⟨n0, d0⟩ | ⟨y, n0, s0⟩
  · refine lost (by omega) d0 _ ?_
    have hn : nT l 0 4 = -1 := nT_none n0
    repeat' split
    all_goals first | rfl | exact numI_neg _ _ _ _ _ _ (by omega)
  rcases s0.sep 45 (by decide) (by decide) with ⟨n1, d1⟩ | ⟨n1, s1⟩
  · refine lost (by omega) d1 _ ?_
    rw [if_pos (.inl n1)]
  rcases s1.num rfl 1 (by decide) with ⟨n2, d2⟩ | ⟨m, n2, s2⟩
  · refine lost (by omega) d2 _ ?_
    have hn : nT l 5 2 = -1 := nT_none n2
    repeat' split
    all_goals first | rfl | exact numI_neg _ _ _ _ _ _ (by omega)
  rcases s2.sep 45 (by decide) (by decide) with ⟨n3, d3⟩ | ⟨n3, s3⟩
  · refine lost (by omega) d3 _ ?_
    rw [if_pos (.inr n3)]
  rcases s3.num rfl 1 (by decide) with ⟨n4, d4⟩ | ⟨d, n4, s4⟩
  · refine lost (by omega) d4 _ ?_
    have hn : nT l 8 2 = -1 := nT_none n4
    repeat' split
    all_goals first | rfl | exact numI_neg _ _ _ _ _ _ (by omega)
  have e1 : ¬ ((l.getD 4 0).toNat ≠ 45 ∨ (l.getD 7 0).toNat ≠ 45) := by
    rintro (h | h)
    · exact h n1
    · exact h n3
  have v0 : nT l 0 4 = y := nT_some n0
  have v1 : nT l 5 2 = m := nT_some n2
  have v2 : nT l 8 2 = d := nT_some n4
  rw [if_neg e1, v0, v1, v2]
  by_cases h10 : l.length = 10
  · rw [s4.done h10, if_neg (by omega)]
    simp
  have h19 : l.length = 19 := by omega
  rw [if_pos h19]
  rcases s4.sep 32 (by decide) (by decide) with ⟨n5, d5⟩ | ⟨n5, s5⟩
  · exact lost (by omega) d5 _ (if_pos (.inl n5))
  rcases s5.num rfl 1 (by decide) with ⟨n6, d6⟩ | ⟨h, n6, s6⟩
  · refine lost (by omega) d6 _ ?_
    have hn : nT l 11 2 = -1 := nT_none n6
    split
    all_goals first | rfl | exact numI_neg _ _ _ _ _ _ (by omega)
  rcases s6.sep 58 (by decide) (by decide) with ⟨n7, d7⟩ | ⟨n7, s7⟩
  · exact lost (by omega) d7 _ (if_pos (.inr (.inl n7)))
  rcases s7.num rfl 1 (by decide) with ⟨n8, d8⟩ | ⟨i, n8, s8⟩
  · refine lost (by omega) d8 _ ?_
    have hn : nT l 14 2 = -1 := nT_none n8
    split
    all_goals first | rfl | exact numI_neg _ _ _ _ _ _ (by omega)
  rcases s8.sep 58 (by decide) (by decide) with ⟨n9, d9⟩ | ⟨n9, s9⟩
  · exact lost (by omega) d9 _ (if_pos (.inr (.inr n9)))
  rcases s9.num rfl 1 (by decide) with ⟨na, da⟩ | ⟨z, na, sa⟩
  · refine lost (by omega) da _ ?_
    have hn : nT l 17 2 = -1 := nT_none na
    split
    all_goals first | rfl | exact numI_neg _ _ _ _ _ _ (by omega)
  have v3 : nT l 11 2 = h := nT_some n6
  have v4 : nT l 14 2 = i := nT_some n8
  have v5 : nT l 17 2 = z := nT_some na
  have e2 : ¬ ((l.getD 10 0).toNat ≠ 32 ∨ (l.getD 13 0).toNat ≠ 58 ∨ (l.getD 16 0).toNat ≠ 58) := by
    rintro (h | h | h)
    · exact h n5
    · exact h n7
    · exact h n9
  rw [if_neg e2, v3, v4, v5, sa.done (by omega)]
  simp
end Go.Proofs.YtnhcamkccnaeeaaDoor
