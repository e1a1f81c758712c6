/-
  Dates by the document (inquestref08): contracts of number, days, Number, Parse.
  Dates by the document (inquestref08): contract of Parse.
  A date's text by the document is a date's text by the package: plain Lean.
  Patterns by the document (inquestref13): contracts of plain, class, New.
  Patterns by the document (inquestref13): contract of class.
  Patterns by the document (inquestref13): contract of New.
-/
import Derived.Test.YtnnjcedlomfhoaaGreatDoorHDosB
import Derived.Deep.RegionHeld3
import Derived.Test.YtnnjcedlomfhoaaGreatDoorHReadLaw
import Derived.Test.YtnnjcedlomfhoaaGreatDoorHGlobE
import Derived.Deep.LoopGhost
namespace Go.Proofs.YtnnjcedlomfhoaaGreatDoor
open Go.RowKit
set_option linter.unusedVariables false
/-- The number of n digits from a place on. -/
def numT (l : List UInt8) (a : Nat) : Nat → Option Int
  | 0 => some 0
  | n + 1 => match numT l a n with
    | none => none
    | some v => if (l.getD (a + n) 0).toNat < 48 ∨ 57 < (l.getD (a + n) 0).toNat then none else some (10 * v + (((l.getD (a + n) 0).toNat : Int) - 48))
theorem numT_bd (l : List UInt8) (a n : Nat) (v : Int) (h : numT l a n = some v) : 0 ≤ v ∧ v < 10 ^ n := by
  induction n generalizing v with
  | zero => cases h; simp
  | succ n ih =>
    rw [numT] at h
    cases hv : numT l a n with
    | none => rw [hv] at h; cases h
    | some u =>
      rw [hv] at h
      simp only [] at h
      have := ih u hv
      split at h
      · cases h
      · cases h
        rw [Int.pow_succ]; omega
theorem numT_none (l : List UInt8) (a n : Nat) (h : numT l a n = none) : ∀ m, n ≤ m → numT l a m = none := by
  intro m hm
  induction m with
  | zero => obtain rfl : n = 0 := by omega
            exact h
  | succ m ih =>
    by_cases e : n = m + 1
    · subst e; exact h
    · rw [numT, ih (by omega)]
set_option maxRecDepth 100000 in
set_option maxHeartbeats 1000000 in
theorem rnumber_any (w : World) (s : ByteArray) (a n : Nat) (h : a + n ≤ s.size) (hn : n ≤ 4) (ha : a ≤ 100) :
    Calls Tryz.prog 73 #[.string s, .int .i64 (a : Int), .int .i64 (n : Int)] w fun e w' => e = .returned (.int .i64 ((numT s.data.toList a n).getD (-1))) ∧ w = w' := by
  obtain ⟨L, hL⟩ : ∃ L, L = s.data.toList := ⟨_, rfl⟩
  have hix : Hid (∀ i : Nat, i < s.size → ∀ w, (Instr.index 9 (.string s) (.int .i64 (i : Int))).run Tryz.prog w = .ok (.int .u8 ((L.getD i 0).toNat : Int)) w) := by
    rw [Hid, hL]; exact fun i h w => idx_str s i h w
  rw [← hL]
  replace hL := hide hL
  obtain ⟨r, hr⟩ : ∃ r, r = (numT L a n).getD (-1) := ⟨_, rfl⟩
  rw [← hr]
  replace hr := hide hr
  go_enter Tryz.func73, Tryz.ntmps73
  go_wp2_with fail
  go_loop [7, 8] (fun v i => ∃ (k : Nat) (u : Int), k ≤ n ∧ i = .int .i64 ((a : Int) + (k : Int)) ∧ v = .int .i64 u ∧ numT L a k = some u) (fun _ i => ((a : Int) + (n : Int) - intOf i).toNat)
  case atStart => exact ⟨0, 0, by omega, by simp, rfl, rfl⟩
  case round =>
    obtain ⟨k, u, hk, rfl, rfl, hu⟩ := hrel
    have hub := numT_bd L a k u hu
    have hu4 : u < 10000 := by
      have : (10 : Nat) ^ k ≤ 10 ^ 4 := Nat.pow_le_pow_right (by omega) (by omega)
      have h2 : (10 : Int) ^ k ≤ 10 ^ 4 := by exact_mod_cast this
      have h3 : (10 : Int) ^ 4 = 10000 := by decide
      omega
    have hu0 : 0 ≤ u := hub.1
    clear hub
    by_cases h1 : k < n
    · have hx := hix.out (a + k) (by omega)
      rw [show ((a + k : Nat) : Int) = (a : Int) + (k : Int) from by omega] at hx
      have hnx : Hid (numT L a (k + 1) = if (L.getD (a + k) 0).toNat < 48 ∨ 57 < (L.getD (a + k) 0).toNat then none else some (10 * u + (((L.getD (a + k) 0).toNat : Int) - 48))) := by rw [Hid, numT, hu]
      generalize L.getD (a + k) 0 = c at *
      have hcb : (c.toNat : Int) < 256 := by have := c.toNat_lt; omega
      have h1' : (a : Int) + (k : Int) < (a : Int) + (n : Int) := by omega
      by_cases e2 : (c.toNat : Int) < 48
      · have hres : Hid (r = -1) := by
          rw [Hid, hr.out, numT_none L a (k + 1) (by rw [hnx.out, if_pos (.inl (by omega))]) n (by omega)]; rfl
        clear hu
        go_wp2_with fail
        go_ret
        exact ⟨ret_int hres.out.symm, rfl⟩
      · by_cases e3 : 57 < (c.toNat : Int)
        · have hres : Hid (r = -1) := by
            rw [Hid, hr.out, numT_none L a (k + 1) (by rw [hnx.out, if_pos (.inr (by omega))]) n (by omega)]; rfl
          clear hu
          go_wp2_with fail
          go_ret
          exact ⟨ret_int hres.out.symm, rfl⟩
        · have hu2 : Hid (numT L a (k + 1) = some (10 * u + ((c.toNat : Int) - 48))) := by rw [Hid, hnx.out, if_neg (by omega)]
          have q3 : IntKind.u8.wrap ((c.toNat : Int) - 48) = (c.toNat : Int) - 48 := by
            rw [IntKind.wrap]; simp [IntKind.bits, IntKind.signed]; omega
          clear hu hnx
          go_wp2_with fail
          go_round
          case rel => exact ⟨k + 1, _, by omega, by go_num, rfl, hu2.out⟩
          case measure => simp [intOf]; omega
    · obtain rfl : k = n := by omega
      have hres : Hid (r = u) := by rw [Hid, hr.out, hu]; rfl
      have h1' : ¬ (a : Int) + (k : Int) < (a : Int) + (k : Int) := by omega
      clear hu
      go_wp2_with fail
      go_ret
      exact ⟨ret_int hres.out.symm, rfl⟩
set_option maxRecDepth 100000 in
set_option maxHeartbeats 2000000 in
theorem rdays_any (w : World) (y m : Int) (hy : 0 ≤ y) (hm1 : 1 ≤ m) (hm2 : m ≤ 12) : Calls Tryz.prog 87 #[.int .i64 y, .int .i64 m] w fun e w' => e = .returned (.int .i64 (daysI y m)) ∧ Below w.heap.size w w' := by
  obtain ⟨r, hr⟩ : ∃ r, r = daysI y m := ⟨_, rfl⟩
  rw [← hr]
  by_cases h2 : m = 2
  · subst h2
    by_cases l5 : y % 400 = 0
    · have n5 : (y % 400 == 0) = true := by simp [l5]
      have l4 : y % 4 = 0 := by omega
      have hres : Hid (29 = r) := by rw [Hid, hr]; simp [daysI, leapB, l4, l5]
      clear hr l5 l4
      go_enter Tryz.func87, Tryz.ntmps87
      go_wp2_with fail
      go_ret
      exact ⟨ret_int hres.out, (Below.refl _ _).alloc (Nat.le_refl _) _⟩
    · have n5 : (y % 400 == 0) = false := by simp [l5]
      by_cases l4 : y % 4 = 0
      · have n4 : (y % 4 == 0) = true := by simp [l4]
        by_cases l1 : y % 100 = 0
        · have n1 : (y % 100 != 0) = false := by simp [l1]
          have hres : Hid (28 = r) := by rw [Hid, hr]; simp [daysI, leapB, l4, l5, l1]
          clear hr l5 l4 l1
          go_enter Tryz.func87, Tryz.ntmps87
          go_wp2_with fail
          go_ret
          exact ⟨ret_int hres.out, (Below.refl _ _).alloc (Nat.le_refl _) _⟩
        · have n1 : (y % 100 != 0) = true := by simp [l1]
          have hres : Hid (29 = r) := by rw [Hid, hr]; simp [daysI, leapB, l4, l5, l1]
          clear hr l5 l4 l1
          go_enter Tryz.func87, Tryz.ntmps87
          go_wp2_with fail
          go_ret
          exact ⟨ret_int hres.out, (Below.refl _ _).alloc (Nat.le_refl _) _⟩
      · have n4 : (y % 4 == 0) = false := by simp [l4]
        have hres : Hid (28 = r) := by rw [Hid, hr]; simp [daysI, leapB, l4, l5]
        clear hr l5 l4
        go_enter Tryz.func87, Tryz.ntmps87
        go_wp2_with fail
        go_ret
        exact ⟨ret_int hres.out, (Below.refl _ _).alloc (Nat.le_refl _) _⟩
  · have hv : m = 1 ∨ m = 3 ∨ m = 4 ∨ m = 5 ∨ m = 6 ∨ m = 7 ∨ m = 8 ∨ m = 9 ∨ m = 10 ∨ m = 11 ∨ m = 12 := by omega
    clear h2 hm1 hm2
    rcases hv with rfl | rfl | rfl | rfl | rfl | rfl | rfl | rfl | rfl | rfl | rfl
    all_goals
      replace hr := hide hr
      go_enter Tryz.func87, Tryz.ntmps87
      go_wp2_with fail
      go_ret
      exact ⟨ret_int (by rw [hr.out]; rfl), (Below.refl _ _).alloc (Nat.le_refl _) _⟩
/-- The number of a moment; -1: it is none. -/
def numI (y m d h i s : Int) : Int :=
  if y < 1980 ∨ 2107 < y ∨ m < 1 ∨ 12 < m ∨ d < 1 ∨ daysI y m < d then -1
  else if h < 0 ∨ 23 < h ∨ i < 0 ∨ 59 < i ∨ s < 0 ∨ 59 < s then -1
  else ((y - 1980) * 512 + m * 32 + d) * 65536 + h * 2048 + i * 32 + s / 2
theorem daysI_bd (y m : Int) : 28 ≤ daysI y m ∧ daysI y m ≤ 31 := by
  unfold daysI
  repeat' split
  all_goals omega
/-- The second half: hours, minutes, seconds. -/
def numJ (D h i s : Int) : Int := if h < 0 ∨ 23 < h ∨ i < 0 ∨ 59 < i ∨ s < 0 ∨ 59 < s then -1 else D * 65536 + h * 2048 + i * 32 + s / 2
theorem numI_of (y m d h i s : Int) (h1 : ¬ (y < 1980 ∨ 2107 < y ∨ m < 1 ∨ 12 < m ∨ d < 1 ∨ daysI y m < d)) : numI y m d h i s = numJ ((y - 1980) * 512 + m * 32 + d) h i s := by
  rw [numI, if_neg h1, numJ]
theorem numI_bad (y m d h i s : Int) (h1 : y < 1980 ∨ 2107 < y ∨ m < 1 ∨ 12 < m ∨ d < 1 ∨ daysI y m < d) : numI y m d h i s = -1 := by
  rw [numI, if_pos h1]
def NumRet (w : World) (r : Int) (e : Ending) (w' : World) : Prop := e = .returned (.int .i64 r) ∧ Below w.heap.size w w'
set_option maxRecDepth 100000 in
set_option maxHeartbeats 8000000 in
theorem rnum_any (w : World) (g c : Nat) (y m d h i s : Int) (hB : Blk w g 3 #[.int .i64 y, .int .i64 m, .int .i64 d, .int .i64 h, .int .i64 i, .int .i64 s]) (hc : 6 ≤ c) :
    Calls Tryz.prog 74 #[.slice (some ⟨g, 0, none⟩) 6 c] w (NumRet w (numI y m d h i s)) := by
  have c0 : w.cell? ⟨g, 0, none⟩ = some (.int .i64 y) := hB.cell 0
  have c1 : w.cell? ⟨g, 1, none⟩ = some (.int .i64 m) := hB.cell 1
  have c2 : w.cell? ⟨g, 2, none⟩ = some (.int .i64 d) := hB.cell 2
  have hg := hB.lt
  obtain ⟨r, hr⟩ : ∃ r, r = numI y m d h i s := ⟨_, rfl⟩
  rw [← hr]
  by_cases k1 : y < 1980
  · have hres : Hid (-1 = r) := by rw [Hid, hr, numI_bad _ _ _ _ _ _ (.inl k1)]
    clear hr hB
    go_enter Tryz.func74, Tryz.ntmps74
    go_wp2_with fail
    go_quiet (fail)
    go_wp2_with fail
    go_ret
    exact ⟨ret_int hres.out, below_drewN (Below.refl _ _) _⟩
  have j1 : decide (y < 1980) = false := by simpa using k1
  by_cases k2 : 2107 < y
  · have hres : Hid (-1 = r) := by rw [Hid, hr, numI_bad _ _ _ _ _ _ (.inr (.inl k2))]
    clear hr hB
    go_enter Tryz.func74, Tryz.ntmps74
    go_wp2_with fail
    go_quiet (fail)
    go_wp2_with fail
    go_ret
    exact ⟨ret_int hres.out, below_drewN (Below.refl _ _) _⟩
  have j2 : decide (2107 < y) = false := by simpa using k2
  by_cases k3 : m < 1
  · have hres : Hid (-1 = r) := by rw [Hid, hr, numI_bad _ _ _ _ _ _ (.inr (.inr (.inl k3)))]
    clear hr hB
    go_enter Tryz.func74, Tryz.ntmps74
    go_wp2_with fail
    go_quiet (fail)
    go_wp2_with fail
    go_ret
    exact ⟨ret_int hres.out, below_drewN (Below.refl _ _) _⟩
  have j3 : decide (m < 1) = false := by simpa using k3
  by_cases k4 : 12 < m
  · have hres : Hid (-1 = r) := by rw [Hid, hr, numI_bad _ _ _ _ _ _ (.inr (.inr (.inr (.inl k4))))]
    clear hr hB
    go_enter Tryz.func74, Tryz.ntmps74
    go_wp2_with fail
    go_quiet (fail)
    go_wp2_with fail
    go_ret
    exact ⟨ret_int hres.out, below_drewN (Below.refl _ _) _⟩
  have j4 : decide (12 < m) = false := by simpa using k4
  by_cases k5 : d < 1
  · have hres : Hid (-1 = r) := by rw [Hid, hr, numI_bad _ _ _ _ _ _ (.inr (.inr (.inr (.inr (.inl k5)))))]
    clear hr hB
    go_enter Tryz.func74, Tryz.ntmps74
    go_wp2_with fail
    go_quiet (fail)
    go_wp2_with fail
    go_ret
    exact ⟨ret_int hres.out, below_drewN (Below.refl _ _) _⟩
  have j5 : decide (d < 1) = false := by simpa using k5
  have HD : Hid (∀ wx, Calls Tryz.prog 87 #[.int .i64 y, .int .i64 m] wx fun e w' => e = .returned (.int .i64 (daysI y m)) ∧ Below wx.heap.size wx w') :=
    fun wx => rdays_any wx y m (by omega) (by omega) (by omega)
  have HK : Hid (∀ wa wb : World, Below w.heap.size w wa → Below wa.heap.size wa wb → wb.cell? ⟨g, 0, none⟩ = some (.int .i64 y) ∧ wb.cell? ⟨g, 1, none⟩ = some (.int .i64 m) ∧ wb.cell? ⟨g, 2, none⟩ = some (.int .i64 d) ∧ Below w.heap.size w wb) := by
    intro wa wb ha hb
    have h := ha.trans (hb.mono ha.size)
    have hB := hB.below h hg
    exact ⟨hB.cell 0, hB.cell 1, hB.cell 2, h⟩
  have HB : Hid (∀ wb : World, Below w.heap.size w wb → Blk wb g 3 #[.int .i64 y, .int .i64 m, .int .i64 d, .int .i64 h, .int .i64 i, .int .i64 s]) := fun wb hb => hB.below hb hg
  have hb00 : Below w.heap.size w w.drew := (Below.refl _ _).drew
  have hdb := daysI_bd y m
  by_cases k6 : daysI y m < d
  · have hres : Hid (-1 = r) := by rw [Hid, hr, numI_bad _ _ _ _ _ _ (.inr (.inr (.inr (.inr (.inr k6)))))]
    clear hr hB HB
    go_enter Tryz.func74, Tryz.ntmps74
    go_wp2_with fail
    go_region_held3 (fun w' => w'.cell? ⟨g, 0, none⟩ = some (.int .i64 y) ∧ w'.cell? ⟨g, 1, none⟩ = some (.int .i64 m) ∧ w'.cell? ⟨g, 2, none⟩ = some (.int .i64 d) ∧ Below w.heap.size w w') (first | exact ⟨by assumption, by assumption, by assumption, by assumption⟩ | exact ⟨c0, c1, c2, hb00⟩)
      (first | ((with_reducible refine (HD.out _).mono ?_); rintro e w2 ⟨rfl, hb2⟩; obtain ⟨hk0, hk1, hk2, hkb⟩ := HK.out _ _ (by assumption) hb2))
    all_goals
      go_wp2_with fail
      go_ret
      exact ⟨ret_int hres.out, hkb⟩
  · have hnum := numI_of y m d h i s (by omega)
    rw [hnum] at hr
    obtain ⟨D, hD⟩ : ∃ D, D = (y - 1980) * 512 + m * 32 + d := ⟨_, rfl⟩
    rw [← hD] at hr
    have hDb : 0 ≤ D ∧ D ≤ 100000 := by omega
    obtain ⟨hD0, hD1⟩ := hDb
    have ed : IntKind.i64.wrap (y - 1980) = y - 1980 := IntWalk.i64_in _ (by omega)
    replace hD := hide hD
    replace hr := hide hr
    clear hnum hB
    go_enter Tryz.func74, Tryz.ntmps74
    go_wp2_with fail
    go_region_held3 (fun w' => w'.cell? ⟨g, 0, none⟩ = some (.int .i64 y) ∧ w'.cell? ⟨g, 1, none⟩ = some (.int .i64 m) ∧ w'.cell? ⟨g, 2, none⟩ = some (.int .i64 d) ∧ Below w.heap.size w w') (first | exact ⟨by assumption, by assumption, by assumption, by assumption⟩ | exact ⟨c0, c1, c2, hb00⟩)
      (first | ((with_reducible refine (HD.out _).mono ?_); rintro e w2 ⟨rfl, hb2⟩; obtain ⟨hk0, hk1, hk2, hkb⟩ := HK.out _ _ (by assumption) hb2))
    all_goals
      have hB2 := HB.out _ hkb
      have c3 : w2.cell? ⟨g, 3, none⟩ = some (.int .i64 h) := hB2.cell 3
      have c4 : w2.cell? ⟨g, 4, none⟩ = some (.int .i64 i) := hB2.cell 4
      have c5 : w2.cell? ⟨g, 5, none⟩ = some (.int .i64 s) := hB2.cell 5
      have e1 : IntKind.i64.wrap ((y - 1980) * 512) = (y - 1980) * 512 := IntWalk.i64_in _ (by omega)
      have e2 : IntKind.i64.wrap (m * 32) = m * 32 := IntWalk.i64_in _ (by omega)
      have e3 : IntKind.i64.wrap ((y - 1980) * 512 + m * 32) = (y - 1980) * 512 + m * 32 := IntWalk.i64_in _ (by omega)
      have e4 : IntKind.i64.wrap ((y - 1980) * 512 + m * 32 + d) = (y - 1980) * 512 + m * 32 + d := IntWalk.i64_in _ (by omega)
      have hE : 0 ≤ h → h ≤ 23 → 0 ≤ i → i ≤ 59 → 0 ≤ s → s ≤ 59 → Hid (IntKind.i64.wrap (D * 65536) = D * 65536 ∧ IntKind.i64.wrap (h * 2048) = h * 2048 ∧ IntKind.i64.wrap (D * 65536 + h * 2048) = D * 65536 + h * 2048 ∧ IntKind.i64.wrap (i * 32) = i * 32 ∧
          IntKind.i64.wrap (D * 65536 + h * 2048 + i * 32) = D * 65536 + h * 2048 + i * 32 ∧ s.tdiv 2 = s / 2 ∧ IntKind.i64.wrap (s / 2) = s / 2 ∧ IntKind.i64.wrap (D * 65536 + h * 2048 + i * 32 + s / 2) = D * 65536 + h * 2048 + i * 32 + s / 2) := by
        intro a1 a2 a3 a4 a5 a6
        refine ⟨IntWalk.i64_in _ (by omega), IntWalk.i64_in _ (by omega), IntWalk.i64_in _ (by omega), IntWalk.i64_in _ (by omega), IntWalk.i64_in _ (by omega), Int.tdiv_eq_ediv_of_nonneg a5, IntWalk.i64_in _ (by omega), IntWalk.i64_in _ (by omega)⟩
      have hr6 : 0 ≤ h → h ≤ 23 → 0 ≤ i → i ≤ 59 → 0 ≤ s → s ≤ 59 → Hid (r = D * 65536 + h * 2048 + i * 32 + s / 2) := by
        intro a1 a2 a3 a4 a5 a6
        rw [Hid, hr.out, numJ, if_neg (by omega)]
      replace hE := hide hE
      replace hr6 := hide hr6
      clear hB2 HB HK HD c0 c1 c2 hb2
      by_cases hJ : h < 0 ∨ 23 < h ∨ i < 0 ∨ 59 < i ∨ s < 0 ∨ 59 < s
      · have hres : Hid (-1 = r) := by rw [Hid, hr.out, numJ, if_pos hJ]
        go_wp2_with fail
        all_goals first
          | (go_ret; exact ⟨ret_int hres.out, hkb⟩)
          | (exfalso; omega)
      · have a1 : 0 ≤ h := by omega
        have a2 : h ≤ 23 := by omega
        have a3 : 0 ≤ i := by omega
        have a4 : i ≤ 59 := by omega
        have a5 : 0 ≤ s := by omega
        have a6 : s ≤ 59 := by omega
        have hE2 := hE.out a1 a2 a3 a4 a5 a6
        have hres := hr6.out a1 a2 a3 a4 a5 a6
        clear hJ
        go_wp2_with fail
        go_quiet (fail)
        rw [← hD.out]
        obtain ⟨E1, E2, E3, E4, E5, E6, E7, E8⟩ := hE2.out
        clear e1 e2 e3 e4 ed
        go_wp2_with fail
        go_quiet (fail)
        go_wp2_with fail
        go_ret
        exact ⟨ret_int hres.out.symm, below_drewN (below_drewN hkb _) _⟩
end Go.Proofs.YtnnjcedlomfhoaaGreatDoor
namespace Go.Proofs.YtnnjcedlomfhoaaGreatDoor
open Go.RowKit
set_option linter.unusedVariables false
def nT (l : List UInt8) (a n : Nat) : Int := (numT l a n).getD (-1)
/-- The number of a date's text, by the document; below 0: it is none. -/
def refD (l : List UInt8) : Int :=
  if l.length ≠ 10 ∧ l.length ≠ 19 then -1
  else if (l.getD 4 0).toNat ≠ 45 ∨ (l.getD 7 0).toNat ≠ 45 then -1
  else if l.length = 19 then
    (if (l.getD 10 0).toNat ≠ 32 ∨ (l.getD 13 0).toNat ≠ 58 ∨ (l.getD 16 0).toNat ≠ 58 then -1 else numI (nT l 0 4) (nT l 5 2) (nT l 8 2) (nT l 11 2) (nT l 14 2) (nT l 17 2))
  else numI (nT l 0 4) (nT l 5 2) (nT l 8 2) 0 0 0
theorem num_call (w : World) (s : ByteArray) (a n : Nat) (x y : Int) (hx : x = (a : Int)) (hy : y = (n : Int)) (h : a + n ≤ s.size) (hn : n ≤ 4) (ha : a ≤ 100) :
    Calls Tryz.prog 73 #[.string s, .int .i64 x, .int .i64 y] w fun e w' => e = .returned (.int .i64 (nT s.data.toList a n)) ∧ w = w' := by
  subst hx hy
  exact rnumber_any w s a n h hn ha
theorem idx_lit (s : ByteArray) (i : Nat) (x : Int) (hx : x = (i : Int)) (h : i < s.size) (w : World) : (Instr.index 9 (.string s) (.int .i64 x)).run Tryz.prog w = .ok (.int .u8 ((s.data.toList.getD i 0).toNat : Int)) w := by
  subst hx
  exact idx_str s i h w
theorem natne_true {a : Nat} {b : Int} (h : ¬ (a : Int) = b) : ((a : Int) != b) = true := by simp [h]
theorem natne_false {a : Nat} {b : Int} (h : (a : Int) = b) : ((a : Int) != b) = false := by simp [h]
set_option maxRecDepth 100000 in
set_option maxHeartbeats 4000000 in
theorem rdparse_any (w : World) (s : ByteArray) : Calls Tryz.prog 52 #[.string s] w (NumRet w (refD s.data.toList)) := by
  obtain ⟨r, hr⟩ : ∃ r, r = refD s.data.toList := ⟨_, rfl⟩
  rw [← hr]
  rw [refD, data_len] at hr
  by_cases hl : s.size ≠ 10 ∧ s.size ≠ 19
  · have hres : Hid (-1 = r) := by rw [Hid, hr, if_pos hl]
    have n1 : ((s.size : Int) != 10) = true := by simp; omega
    have n2 : ((s.size : Int) != 19) = true := by simp; omega
    clear hl hr
    go_enter Tryz.func52, Tryz.ntmps52
    go_wp2_with fail
    go_ret
    exact ⟨ret_int hres.out, Below.refl _ _⟩
  · rw [if_neg hl] at hr
    have h10 : 10 ≤ s.size := by omega
    have hn : ((s.size : Int) != 10) = false ∨ (((s.size : Int) != 10) = true ∧ ((s.size : Int) != 19) = false) := by
      by_cases e : s.size = 10
      · left; simp [e]
      · right; simp; omega
    have i4 := hide (fun w => idx_lit s 4 4 rfl (by omega) w)
    have i7 := hide (fun w => idx_lit s 7 7 rfl (by omega) w)
    have N0 := hide (fun w => num_call w s 0 4 0 4 rfl rfl (by omega) (by omega) (by omega))
    have N5 := hide (fun w => num_call w s 5 2 5 2 rfl rfl (by omega) (by omega) (by omega))
    have N8 := hide (fun w => num_call w s 8 2 8 2 rfl rfl (by omega) (by omega) (by omega))
    have i10 : s.size = 19 → Hid (∀ w, _) := fun e => hide (fun w => idx_lit s 10 10 rfl (by omega) w)
    have i13 : s.size = 19 → Hid (∀ w, _) := fun e => hide (fun w => idx_lit s 13 13 rfl (by omega) w)
    have i16 : s.size = 19 → Hid (∀ w, _) := fun e => hide (fun w => idx_lit s 16 16 rfl (by omega) w)
    have N11 : s.size = 19 → Hid (∀ w, _) := fun e => hide (fun w => num_call w s 11 2 11 2 rfl rfl (by omega) (by omega) (by omega))
    have N14 : s.size = 19 → Hid (∀ w, _) := fun e => hide (fun w => num_call w s 14 2 14 2 rfl rfl (by omega) (by omega) (by omega))
    have N17 : s.size = 19 → Hid (∀ w, _) := fun e => hide (fun w => num_call w s 17 2 17 2 rfl rfl (by omega) (by omega) (by omega))
    generalize s.data.toList = L at *
    by_cases k4 : ((L.getD 4 0).toNat : Int) = 45
    · by_cases k7 : ((L.getD 7 0).toNat : Int) = 45
      · rw [if_neg (by omega)] at hr
        have m4 := natne_false k4
        have m7 := natne_false k7
        have j4 := i4.out
        have j7 := i7.out
        by_cases h19 : s.size = 19
        · rw [if_pos h19] at hr
          have q1 : ((s.size : Int) != 10) = true := by simp; omega
          have q2 : ((s.size : Int) != 19) = false := by simp; omega
          have q3 : ((s.size : Int) == 19) = true := by simp; omega
          have j10 := (i10 h19).out
          have j13 := (i13 h19).out
          have j16 := (i16 h19).out
          replace N11 := N11 h19
          replace N14 := N14 h19
          replace N17 := N17 h19
          replace hr := hide hr
          generalize (L.getD 4 0).toNat = c4 at *
          generalize (L.getD 7 0).toNat = c7 at *
          generalize (L.getD 10 0).toNat = c10 at *
          generalize (L.getD 13 0).toNat = c13 at *
          generalize (L.getD 16 0).toNat = c16 at *
          generalize nT L 0 4 = y at *
          generalize nT L 5 2 = m at *
          generalize nT L 8 2 = d at *
          generalize nT L 11 2 = h at *
          generalize nT L 14 2 = i at *
          generalize nT L 17 2 = z at *
          clear hl hn k4 k7 h19 i10 i13 i16 i4 i7
          by_cases k10 : (c10 : Int) = 32
          · have m10 := natne_false k10
            by_cases k13 : (c13 : Int) = 58
            · have m13 := natne_false k13
              by_cases k16 : (c16 : Int) = 58
              · have m16 := natne_false k16
                have hres : Hid (numI y m d h i z = r) := by rw [Hid, hr.out, if_neg (by omega)]
                clear hr k10 k13 k16
                go_enter Tryz.func52, Tryz.ntmps52
                go_wp2_with fail
                refine (N0.out _).mono ?_
                rintro e w2 ⟨rfl, rfl⟩
                go_wp2_with fail
                refine (N5.out _).mono ?_
                rintro e w2 ⟨rfl, rfl⟩
                go_wp2_with fail
                refine (N8.out _).mono ?_
                rintro e w2 ⟨rfl, rfl⟩
                go_wp2_with fail
                refine (N11.out _).mono ?_
                rintro e w2 ⟨rfl, rfl⟩
                go_wp2_with fail
                refine (N14.out _).mono ?_
                rintro e w2 ⟨rfl, rfl⟩
                go_wp2_with fail
                refine (N17.out _).mono ?_
                rintro e w2 ⟨rfl, rfl⟩
                go_wp2_with fail
                have hB3 := hide (Blk.new w 3 #[.int .i64 y, .int .i64 m, .int .i64 d, .int .i64 h, .int .i64 i, .int .i64 z])
                have hb0 : Hid (Below w.heap.size w (w.alloc (.cells #[.int .i64 y, .int .i64 m, .int .i64 d, .int .i64 h, .int .i64 i, .int .i64 z] 3))) := hide ((Below.refl _ _).alloc (Nat.le_refl _) _)
                refine (rnum_any _ w.heap.size 6 y m d h i z hB3.out (by omega)).mono ?_
                rintro e w3 ⟨rfl, hb3⟩
                rw [hres.out]
                go_wp2_with fail
                go_ret
                exact ⟨rfl, hb0.out.trans (hb3.mono (by have := hB3.out.lt; omega))⟩
              · have m16 := natne_true k16
                have hres : Hid (-1 = r) := by rw [Hid, hr.out, if_pos (by omega)]
                clear hr N11 N14 N17
                go_enter Tryz.func52, Tryz.ntmps52
                go_wp2_with fail
                refine (N0.out _).mono ?_
                rintro e w2 ⟨rfl, rfl⟩
                go_wp2_with fail
                refine (N5.out _).mono ?_
                rintro e w2 ⟨rfl, rfl⟩
                go_wp2_with fail
                refine (N8.out _).mono ?_
                rintro e w2 ⟨rfl, rfl⟩
                have hnew := hide (Blk.new w 3 #[.int .i64 y, .int .i64 m, .int .i64 d, .int .i64 0, .int .i64 0, .int .i64 0])
                go_wp2_with fail
                go_ret
                exact ⟨ret_int hres.out, (Below.refl _ _).alloc (Nat.le_refl _) _⟩
            · have m13 := natne_true k13
              have hres : Hid (-1 = r) := by rw [Hid, hr.out, if_pos (by omega)]
              clear hr N11 N14 N17
              go_enter Tryz.func52, Tryz.ntmps52
              go_wp2_with fail
              refine (N0.out _).mono ?_
              rintro e w2 ⟨rfl, rfl⟩
              go_wp2_with fail
              refine (N5.out _).mono ?_
              rintro e w2 ⟨rfl, rfl⟩
              go_wp2_with fail
              refine (N8.out _).mono ?_
              rintro e w2 ⟨rfl, rfl⟩
              have hnew := hide (Blk.new w 3 #[.int .i64 y, .int .i64 m, .int .i64 d, .int .i64 0, .int .i64 0, .int .i64 0])
              go_wp2_with fail
              go_ret
              exact ⟨ret_int hres.out, (Below.refl _ _).alloc (Nat.le_refl _) _⟩
          · have m10 := natne_true k10
            have hres : Hid (-1 = r) := by rw [Hid, hr.out, if_pos (by omega)]
            clear hr N11 N14 N17
            go_enter Tryz.func52, Tryz.ntmps52
            go_wp2_with fail
            refine (N0.out _).mono ?_
            rintro e w2 ⟨rfl, rfl⟩
            go_wp2_with fail
            refine (N5.out _).mono ?_
            rintro e w2 ⟨rfl, rfl⟩
            go_wp2_with fail
            refine (N8.out _).mono ?_
            rintro e w2 ⟨rfl, rfl⟩
            have hnew := hide (Blk.new w 3 #[.int .i64 y, .int .i64 m, .int .i64 d, .int .i64 0, .int .i64 0, .int .i64 0])
            go_wp2_with fail
            go_ret
            exact ⟨ret_int hres.out, (Below.refl _ _).alloc (Nat.le_refl _) _⟩
        · rw [if_neg h19] at hr
          have h1 : s.size = 10 := by omega
          have q1 : ((s.size : Int) != 10) = false := by simp; omega
          have q3 : ((s.size : Int) == 19) = false := by simp; omega
          replace hr := hide hr
          clear hl hn k4 k7 h19 i10 i13 i16 i4 i7 N11 N14 N17
          generalize (L.getD 4 0).toNat = c4 at *
          generalize (L.getD 7 0).toNat = c7 at *
          generalize nT L 0 4 = y at *
          generalize nT L 5 2 = m at *
          generalize nT L 8 2 = d at *
          have hres : Hid (numI y m d 0 0 0 = r) := by rw [Hid, hr.out]
          clear hr
          go_enter Tryz.func52, Tryz.ntmps52
          go_wp2_with fail
          refine (N0.out _).mono ?_
          rintro e w2 ⟨rfl, rfl⟩
          go_wp2_with fail
          refine (N5.out _).mono ?_
          rintro e w2 ⟨rfl, rfl⟩
          go_wp2_with fail
          refine (N8.out _).mono ?_
          rintro e w2 ⟨rfl, rfl⟩
          have hB0 := hide (Blk.new w 3 #[.int .i64 y, .int .i64 m, .int .i64 d, .int .i64 0, .int .i64 0, .int .i64 0])
          have hb0 : Hid (Below w.heap.size w (w.alloc (.cells #[.int .i64 y, .int .i64 m, .int .i64 d, .int .i64 0, .int .i64 0, .int .i64 0] 3))) := hide ((Below.refl _ _).alloc (Nat.le_refl _) _)
          go_wp2_with fail
          refine (rnum_any _ w.heap.size 6 y m d 0 0 0 hB0.out (by omega)).mono ?_
          rintro e w3 ⟨rfl, hb3⟩
          rw [hres.out]
          go_wp2_with fail
          go_ret
          exact ⟨rfl, hb0.out.trans (hb3.mono (by have := hB0.out.lt; omega))⟩
      · have hres : Hid (-1 = r) := by rw [Hid, hr, if_pos (.inr (by omega))]
        have m4 := natne_false k4
        have m7 := natne_true k7
        have j4 := i4.out
        have j7 := i7.out
        clear hr i10 i13 i16 N11 N14 N17 N0 N5 N8 hl k4 k7 i4 i7
        generalize (L.getD 4 0).toNat = c4 at *
        generalize (L.getD 7 0).toNat = c7 at *
        rcases hn with n1 | ⟨n1, n2⟩
        all_goals
          go_enter Tryz.func52, Tryz.ntmps52
          go_wp2_with fail
          go_ret
          exact ⟨ret_int hres.out, Below.refl _ _⟩
    · have hres : Hid (-1 = r) := by rw [Hid, hr, if_pos (.inl (by omega))]
      have m4 := natne_true k4
      have j4 := i4.out
      have j7 := i7.out
      clear hr i10 i13 i16 N11 N14 N17 N0 N5 N8 hl k4 i4 i7
      generalize (L.getD 4 0).toNat = c4 at *
      generalize (L.getD 7 0).toNat = c7 at *
      rcases hn with n1 | ⟨n1, n2⟩
      all_goals
        go_enter Tryz.func52, Tryz.ntmps52
        go_wp2_with fail
        go_ret
        exact ⟨ret_int hres.out, Below.refl _ _⟩
end Go.Proofs.YtnnjcedlomfhoaaGreatDoor
namespace Go.Proofs.YtnnjcedlomfhoaaGreatDoor
open Go.RowKit
set_option linter.unusedVariables false
theorem dscan_dead (l : List UInt8) (a b : Nat) (h : dscan l a = none) (hab : a ≤ b) : dscan l b = none := by
  induction b with
  | zero => obtain rfl : a = 0 := by omega
            exact h
  | succ b ih =>
    by_cases e : a = b + 1
    · subst e; exact h
    · rw [dscan, ih (by omega)]; rfl
/-- The scan stands at a, at number k; the numbers so far. -/
def Sc (l : List UInt8) (a k : Nat) (ns : List Int) : Prop := ∃ m, dscan l a = some m ∧ m.k = k ∧ ∀ j, m.n j = ns.getD j 0
theorem Sc.zero (l : List UInt8) : Sc l 0 0 [] := ⟨_, rfl, rfl, fun j => by simp⟩
theorem Sc.num {l : List UInt8} {a k : Nat} {ns : List Int} (h : Sc l a k ns) (hk : ns.length = k) (n : Nat) (hf : ∀ j, j < n + 1 → formB.getD (a + j) 0 = 100) :
    (numT l a (n + 1) = none ∧ dscan l (a + (n + 1)) = none) ∨ (∃ v, numT l a (n + 1) = some v ∧ Sc l (a + (n + 1)) k (ns ++ [v])) := by
  obtain ⟨m, hm, rfl, hj⟩ := h
  have main : ∀ i, i ≤ n + 1 → (numT l a i = none ∧ dscan l (a + i) = none) ∨ (∃ v, numT l a i = some v ∧ ∃ m', dscan l (a + i) = some m' ∧ m'.k = m.k ∧ ∀ j, m'.n j = if j = m.k then v else m.n j) := by
    intro i
    induction i with
    | zero => intro _
              refine .inr ⟨0, rfl, m, hm, rfl, fun j => ?_⟩
              split
              · rename_i e
                rw [e, hj, ← hk]; simp
              · rfl
    | succ i ih =>
      intro hi
      rcases ih (by omega) with ⟨h1, h2⟩ | ⟨v, h1, m', h2, h3, h4⟩
      · exact .inl ⟨numT_none l a i h1 _ (by omega), dscan_dead l _ _ h2 (by omega)⟩
      · have e : dscan l (a + (i + 1)) = dstep 100 (l.getD (a + i) 0) m' := by
          rw [show a + (i + 1) = (a + i) + 1 from by omega, dscan, h2, hf i (by omega)]; rfl
        rw [e, numT, h1, dstep, if_pos rfl]
        by_cases hd : (l.getD (a + i) 0).toNat < 48 ∨ 57 < (l.getD (a + i) 0).toNat
        · left
          exact ⟨by simp only []; rw [if_pos hd], by rw [if_pos hd]⟩
        · right
          refine ⟨10 * v + (((l.getD (a + i) 0).toNat : Int) - 48), by simp only []; rw [if_neg hd], ⟨fun j => if j = m'.k then 10 * m'.n m'.k + (((l.getD (a + i) 0).toNat : Int) - 48) else m'.n j, m'.k⟩, by rw [if_neg hd], h3, fun j => ?_⟩
          simp only [h3]
          by_cases hjk : j = m.k
          · rw [if_pos hjk, if_pos hjk, h4, if_pos rfl]
          · rw [if_neg hjk, if_neg hjk, h4, if_neg hjk]
  rcases main (n + 1) (Nat.le_refl _) with h | ⟨v, h1, m', h2, h3, h4⟩
  · exact .inl h
  · refine .inr ⟨v, h1, m', h2, h3, fun j => ?_⟩
    rw [h4]
    by_cases e : j = m.k
    · rw [if_pos e, e, ← hk]; simp
    · rw [if_neg e, hj]
      by_cases e2 : j < ns.length
      · simp [List.getD, List.getElem?_append_left e2]
      · rw [List.getD_eq_getElem?_getD, List.getD_eq_getElem?_getD, List.getElem?_eq_none (by omega), List.getElem?_eq_none (by simp; omega)]
theorem Sc.sep {l : List UInt8} {a k : Nat} {ns : List Int} (h : Sc l a k ns) (f : UInt8) (hf : formB.getD a 0 = f) (hne : f ≠ 100) :
    ((l.getD a 0).toNat ≠ f.toNat ∧ dscan l (a + 1) = none) ∨ ((l.getD a 0).toNat = f.toNat ∧ Sc l (a + 1) (k + 1) ns) := by
  obtain ⟨m, hm, rfl, hj⟩ := h
  have e : dscan l (a + 1) = if l.getD a 0 = f then some ⟨m.n, m.k + 1⟩ else none := by
    rw [dscan, hm, hf]
    show dstep f _ m = _
    rw [dstep, if_neg hne]
  by_cases hc : l.getD a 0 = f
  · exact .inr ⟨by rw [hc], ⟨m.n, m.k + 1⟩, by rw [e, if_pos hc], rfl, hj⟩
  · exact .inl ⟨fun h => hc (UInt8.toNat_inj.mp h), by rw [e, if_neg hc]⟩
theorem or_plus (a b k : Nat) (hb : b < 2 ^ k) (h : a * 2 ^ k + b < 9223372036854775808) : bits .or .i64 ((a * 2 ^ k : Nat) : Int) (b : Int) = ((a * 2 ^ k + b : Nat) : Int) := by
  show IntKind.i64.wrap ((BitVec.ofInt 64 ((a * 2 ^ k : Nat) : Int) ||| BitVec.ofInt 64 (b : Int)).toNat : Int) = _
  rw [BitVec.toNat_or, ofInt_u64 _ (by omega), ofInt_u64 b (by omega)]
  have h2 : a * 2 ^ k ||| b = a * 2 ^ k + b := by
    have := Nat.shiftLeft_add_eq_or_of_lt (a := a) (b := b) (i := k) hb
    rw [Nat.shiftLeft_eq] at this
    exact this.symm
  rw [h2]
  generalize a * 2 ^ k + b = x at h
  simp [IntKind.wrap, IntKind.bits, IntKind.signed]
  omega
theorem or_sum (x y : Int) (k : Nat) (a : Int) (hx : x = a * 2 ^ k) (ha : 0 ≤ a) (hy : 0 ≤ y) (hb : y < 2 ^ k) (h : x + y < 9223372036854775808) : bits .or .i64 x y = x + y := by
  obtain ⟨n, rfl⟩ := Int.eq_ofNat_of_zero_le ha
  obtain ⟨m, rfl⟩ := Int.eq_ofNat_of_zero_le hy
  have hb' : m < 2 ^ k := by exact_mod_cast hb
  have e : x = ((n * 2 ^ k : Nat) : Int) := by rw [hx]; push_cast; rfl
  rw [e] at h ⊢
  rw [or_plus n m k hb' (by omega)]; push_cast; rfl
theorem dosN_sum (y m d h i s : Int) (hy : 1980 ≤ y ∧ y ≤ 2107) (hm : 1 ≤ m ∧ m ≤ 12) (hd : 1 ≤ d ∧ d ≤ 31) (hh : 0 ≤ h ∧ h ≤ 23) (hi : 0 ≤ i ∧ i ≤ 59) (hs : 0 ≤ s ∧ s ≤ 59) :
    dosN y m d h i s = ((y - 1980) * 512 + m * 32 + d) * 65536 + h * 2048 + i * 32 + s / 2 := by
  have w1 : wrap64 (y - 1980) = y - 1980 := by unfold wrap64; omega
  have w2 : wrap64 ((y - 1980) * 512) = (y - 1980) * 512 := by unfold wrap64; omega
  have w3 : wrap64 (m * 32) = m * 32 := by unfold wrap64; omega
  have w4 : wrap64 (((y - 1980) * 512 + m * 32 + d) * 65536) = ((y - 1980) * 512 + m * 32 + d) * 65536 := by unfold wrap64; omega
  have w5 : wrap64 (h * 2048) = h * 2048 := by unfold wrap64; omega
  have w6 : wrap64 (i * 32) = i * 32 := by unfold wrap64; omega
  have w7 : s.tdiv 2 = s / 2 := Int.tdiv_eq_ediv_of_nonneg hs.1
  have w8 : wrap64 (s / 2) = s / 2 := by unfold wrap64; omega
  have o1 : bits .or .i64 ((y - 1980) * 512) (m * 32) = (y - 1980) * 512 + m * 32 := or_sum _ _ 9 (y - 1980) (by omega) (by omega) (by omega) (by omega) (by omega)
  have o2 : bits .or .i64 ((y - 1980) * 512 + m * 32) d = (y - 1980) * 512 + m * 32 + d := or_sum _ _ 5 ((y - 1980) * 16 + m) (by omega) (by omega) (by omega) (by omega) (by omega)
  have o3 : bits .or .i64 (((y - 1980) * 512 + m * 32 + d) * 65536) (h * 2048) = ((y - 1980) * 512 + m * 32 + d) * 65536 + h * 2048 := or_sum _ _ 16 ((y - 1980) * 512 + m * 32 + d) (by omega) (by omega) (by omega) (by omega) (by omega)
  have o4 : bits .or .i64 (((y - 1980) * 512 + m * 32 + d) * 65536 + h * 2048) (i * 32) = ((y - 1980) * 512 + m * 32 + d) * 65536 + h * 2048 + i * 32 := or_sum _ _ 11 (((y - 1980) * 512 + m * 32 + d) * 32 + h) (by omega) (by omega) (by omega) (by omega) (by omega)
  have o5 : bits .or .i64 (((y - 1980) * 512 + m * 32 + d) * 65536 + h * 2048 + i * 32) (s / 2) = ((y - 1980) * 512 + m * 32 + d) * 65536 + h * 2048 + i * 32 + s / 2 := or_sum _ _ 5 (((y - 1980) * 512 + m * 32 + d) * 2048 + h * 64 + i) (by omega) (by omega) (by omega) (by omega) (by omega)
  rw [dosN, w1, w2, w3, o1, o2, w4, w5, o3, w6, o4, w7, w8, o5]
def optD (r : Int) : Option Int := if r < 0 then none else some r
theorem put_num (m : Mom) (a b c d e f : Int) (h0 : m.n 0 = a) (h1 : m.n 1 = b) (h2 : m.n 2 = c) (h3 : m.n 3 = d) (h4 : m.n 4 = e) (h5 : m.n 5 = f) : putM m = optD (numI a b c d e f) := by
  subst h0 h1 h2 h3 h4 h5
  unfold putM optD numI
  generalize m.n 0 = a
  generalize m.n 1 = b
  generalize m.n 2 = c
  generalize m.n 3 = d
  generalize m.n 4 = e
  generalize m.n 5 = f
  have hd := daysI_bd a b
  by_cases k1 : a < 1980 ∨ 2107 < a ∨ b < 1 ∨ 12 < b ∨ c < 1 ∨ daysI a b < c
  · have e1 : ¬ rightB a b c d e f = true := by
      simp only [rightB, Bool.and_eq_true, inB_iff]; omega
    rw [if_neg e1, if_pos k1]; rfl
  · by_cases k2 : d < 0 ∨ 23 < d ∨ e < 0 ∨ 59 < e ∨ f < 0 ∨ 59 < f
    · have e1 : ¬ rightB a b c d e f = true := by
        simp only [rightB, Bool.and_eq_true, inB_iff]; omega
      rw [if_neg e1, if_neg k1, if_pos k2]; rfl
    · have e1 : rightB a b c d e f = true := by
        simp only [rightB, Bool.and_eq_true, inB_iff]; omega
      rw [if_pos e1, if_neg k1, if_neg k2, dosN_sum a b c d e f (by omega) (by omega) (by omega) (by omega) (by omega) (by omega), if_neg (by omega)]
theorem numI_neg (a b c d e f : Int) (h : a < 0 ∨ b < 0 ∨ c < 0 ∨ d < 0 ∨ e < 0 ∨ f < 0) : numI a b c d e f = -1 := by
  unfold numI
  split
  · rfl
  · split
    · rfl
    · omega
theorem nT_none {l : List UInt8} {a n : Nat} (h : numT l a n = none) : nT l a n = -1 := by rw [nT, h]; rfl
theorem nT_some {l : List UInt8} {a n : Nat} {v : Int} (h : numT l a n = some v) : nT l a n = v := by rw [nT, h]; rfl
theorem dead {l : List UInt8} {a : Nat} (h : dscan l a = none) (ha : a ≤ l.length) : (dscan l l.length).bind putM = none := by rw [dscan_dead l _ _ h ha]; rfl
theorem Sc.done {l : List UInt8} {a k : Nat} {ns : List Int} (h : Sc l a k ns) (ha : l.length = a) :
    (dscan l l.length).bind putM = optD (numI (ns.getD 0 0) (ns.getD 1 0) (ns.getD 2 0) (ns.getD 3 0) (ns.getD 4 0) (ns.getD 5 0)) := by
  obtain ⟨m, hm, _, hj⟩ := h
  rw [ha, hm]
  exact put_num m _ _ _ _ _ _ (hj 0) (hj 1) (hj 2) (hj 3) (hj 4) (hj 5)
theorem dosP_ref (l : List UInt8) : dosP l = optD (refD l) := by
  unfold dosP refD
  by_cases hl : l.length ≠ 10 ∧ l.length ≠ 19
  · rw [if_pos hl, if_pos (by omega)]; rfl
  rw [if_neg hl, if_neg (by omega)]
  have lost : ∀ {a : Nat}, a ≤ l.length → dscan l a = none → ∀ r : Int, r = -1 → (dscan l l.length).bind putM = optD r := by
    intro a ha h r hr; rw [dead h ha, hr]; rfl
  rcases (Sc.zero l).num rfl 3 (by decide) with ⟨n0, d0⟩ | ⟨y, n0, s0⟩
  · refine lost (by omega) d0 _ ?_
    have hn : nT l 0 4 = -1 := nT_none n0
    repeat' split
    all_goals first | rfl | exact numI_neg _ _ _ _ _ _ (by omega)
  rcases s0.sep 45 (by decide) (by decide) with ⟨n1, d1⟩ | ⟨n1, s1⟩
  · refine lost (by omega) d1 _ ?_
    rw [if_pos (.inl n1)]
  rcases s1.num rfl 1 (by decide) with ⟨n2, d2⟩ | ⟨m, n2, s2⟩
  · refine lost (by omega) d2 _ ?_
    have hn : nT l 5 2 = -1 := nT_none n2
    repeat' split
    all_goals first | rfl | exact numI_neg _ _ _ _ _ _ (by omega)
  rcases s2.sep 45 (by decide) (by decide) with ⟨n3, d3⟩ | ⟨n3, s3⟩
  · refine lost (by omega) d3 _ ?_
    rw [if_pos (.inr n3)]
  rcases s3.num rfl 1 (by decide) with ⟨n4, d4⟩ | ⟨d, n4, s4⟩
  · refine lost (by omega) d4 _ ?_
    have hn : nT l 8 2 = -1 := nT_none n4
    repeat' split
    all_goals first | rfl | exact numI_neg _ _ _ _ _ _ (by omega)
  have e1 : ¬ ((l.getD 4 0).toNat ≠ 45 ∨ (l.getD 7 0).toNat ≠ 45) := by
    rintro (h | h)
    · exact h n1
    · exact h n3
  have v0 : nT l 0 4 = y := nT_some n0
  have v1 : nT l 5 2 = m := nT_some n2
  have v2 : nT l 8 2 = d := nT_some n4
  rw [if_neg e1, v0, v1, v2]
  by_cases h10 : l.length = 10
  · rw [s4.done h10, if_neg (by omega)]
    simp
  have h19 : l.length = 19 := by omega
  rw [if_pos h19]
  rcases s4.sep 32 (by decide) (by decide) with ⟨n5, d5⟩ | ⟨n5, s5⟩
  · exact lost (by omega) d5 _ (if_pos (.inl n5))
  rcases s5.num rfl 1 (by decide) with ⟨n6, d6⟩ | ⟨h, n6, s6⟩
  · refine lost (by omega) d6 _ ?_
    have hn : nT l 11 2 = -1 := nT_none n6
    split
    all_goals first | rfl | exact numI_neg _ _ _ _ _ _ (by omega)
  rcases s6.sep 58 (by decide) (by decide) with ⟨n7, d7⟩ | ⟨n7, s7⟩
  · exact lost (by omega) d7 _ (if_pos (.inr (.inl n7)))
  rcases s7.num rfl 1 (by decide) with ⟨n8, d8⟩ | ⟨i, n8, s8⟩
  · refine lost (by omega) d8 _ ?_
    have hn : nT l 14 2 = -1 := nT_none n8
    split
    all_goals first | rfl | exact numI_neg _ _ _ _ _ _ (by omega)
  rcases s8.sep 58 (by decide) (by decide) with ⟨n9, d9⟩ | ⟨n9, s9⟩
  · exact lost (by omega) d9 _ (if_pos (.inr (.inr n9)))
  rcases s9.num rfl 1 (by decide) with ⟨na, da⟩ | ⟨z, na, sa⟩
  · refine lost (by omega) da _ ?_
    have hn : nT l 17 2 = -1 := nT_none na
    split
    all_goals first | rfl | exact numI_neg _ _ _ _ _ _ (by omega)
  have v3 : nT l 11 2 = h := nT_some n6
  have v4 : nT l 14 2 = i := nT_some n8
  have v5 : nT l 17 2 = z := nT_some na
  have e2 : ¬ ((l.getD 10 0).toNat ≠ 32 ∨ (l.getD 13 0).toNat ≠ 58 ∨ (l.getD 16 0).toNat ≠ 58) := by
    rintro (h | h | h)
    · exact h n5
    · exact h n7
    · exact h n9
  rw [if_neg e2, v3, v4, v5, sa.done (by omega)]
  simp
end Go.Proofs.YtnnjcedlomfhoaaGreatDoor
namespace Go.Proofs.YtnnjcedlomfhoaaGreatDoor
open Go.RowKit
set_option linter.unusedVariables false
/-- What plain answers: a rune, the place behind it. -/
def plV (n : Nat) : Option (Int × List Int) → Value
  | none => .agg #[.int .i64 0, .int .i64 0, .bool false]
  | some (c, r) => .agg #[.int .i64 c, .int .i64 ((n - r.length : Nat) : Int), .bool true]
theorem elem_at {w : World} {B : Nat} {A : Option Addr} {n : Nat} {l : List Int} (h : RI w B A n l) {p : Nat} {c : Int} {r : List Int} (e : l.drop p = c :: r) : ∃ ad, A = some ad ∧ p < n ∧ r = l.drop (p + 1) ∧ r.length = n - (p + 1) ∧ w.cell? (ad.add p) = some (.int .i64 c) ∧ (ad.add p).block < B := by
  have hlen := h.len
  have hp : p < l.length := by
    by_cases hp : p < l.length
    · exact hp
    · rw [List.drop_eq_nil_of_le (by omega)] at e; cases e
  rw [List.drop_eq_getElem_cons hp] at e
  injection e with e1 e2
  obtain ⟨ad, ea, hb, hc⟩ := h.elem (k := p) (by omega) hp
  exact ⟨ad, ea, by omega, e2.symm, by rw [← e2]; simp; omega, by rw [hc, e1], by unfold Addr.add; split <;> exact hb⟩
set_option maxRecDepth 100000 in
set_option maxHeartbeats 4000000 in
theorem rplain_any (w : World) (B : Nat) (A : Option Addr) (n c : Nat) (l : List Int) (p : Nat) (h : RI w B A n l) (hB : B ≤ w.heap.size) (hp : p ≤ n) (hn : n ≤ 1000) :
    Calls Tryz.prog 72 #[.slice A n c, .int .i64 (p : Int)] w fun e w' => e = .returned (plV n (plainR (l.drop p))) ∧ Below w.heap.size w w' := by
  obtain ⟨r, hr⟩ : ∃ r, r = plV n (plainR (l.drop p)) := ⟨_, rfl⟩
  rw [← hr]
  have hlen := h.len
  cases hd : l.drop p with
  | nil =>
    have hpn : ¬ (p : Int) < (n : Int) := by
      have : (l.drop p).length = 0 := by rw [hd]; rfl
      simp at this; omega
    have hres : Hid (.agg #[.int .i64 0, .int .i64 0, .bool false] = r) := by rw [Hid, hr, hd]; rfl
    clear hr hlen hd h
    go_enter Tryz.func72, Tryz.ntmps72
    go_wp2_with fail
    have hC := Blk.new w 129 #[.int .i64 0, .int .i64 0, .bool false]
    have q0 := hC.cell 0
    have q1 := hC.cell 1
    have q2 := hC.cell 2
    refine bodyPost_ret (v := .agg #[.int .i64 0, .int .i64 0, .bool false]) (by simp [results, Tryz.results72, go_sem, q0, q1, q2]) rfl ⟨by rw [← hres.out], (Below.refl _ _).alloc (Nat.le_refl _) _⟩
  | cons a t =>
    obtain ⟨ad, rfl, hpn, ht, htl, c0, hb0⟩ := elem_at h hd
    replace c0 := (World.cell?_alloc_lt w (.cells #[.int .i64 0, .int .i64 0, .bool false] 129) (ad.add p) (by omega)).trans c0
    by_cases h92 : a = 92
    · cases t with
      | nil =>
        have hres : Hid (.agg #[.int .i64 0, .int .i64 0, .bool false] = r) := by rw [Hid, hr, hd, h92]; rfl
        have hpn' : (p : Int) < (n : Int) := by omega
        have hn1 : n = p + 1 := by simp at htl; omega
        subst hn1
        subst h92
        clear hr hlen hd h ht htl hpn
        go_enter Tryz.func72, Tryz.ntmps72
        go_wp2_with fail
        have hC := Blk.new w 129 #[.int .i64 0, .int .i64 0, .bool false]
        have q0 := hC.cell 0
        have q1 := hC.cell 1
        have q2 := hC.cell 2
        refine bodyPost_ret (v := .agg #[.int .i64 0, .int .i64 0, .bool false]) (by simp [results, Tryz.results72, go_sem, q0, q1, q2]) rfl ⟨by rw [← hres.out], (Below.refl _ _).alloc (Nat.le_refl _) _⟩
      | cons d s =>
        obtain ⟨ad', e', hpn1, hs, hsl, c1, hb1⟩ := elem_at h ht.symm
        cases e'
        replace c1 := (World.cell?_alloc_lt w (.cells #[.int .i64 0, .int .i64 0, .bool false] 129) (ad.add (p + 1)) (by omega)).trans c1
        have hres : Hid (.agg #[.int .i64 d, .int .i64 ((p : Int) + 1 + 1), .bool true] = r) := by
          rw [Hid, hr, hd, h92, show ((p : Int) + 1 + 1) = ((n - s.length : Nat) : Int) from by omega]; rfl
        have hpn' : (p : Int) < (n : Int) := by omega
        have hpn1' : (p : Int) + 1 < (n : Int) := by omega
        have c1' := c1
        rw [Addr.add, if_neg (by omega)] at c1'
        subst h92
        clear hr hlen hd h ht htl hpn hs hsl
        go_enter Tryz.func72, Tryz.ntmps72
        go_wp2_with fail
        have hC := Blk.new w 129 #[.int .i64 d, .int .i64 ((p : Int) + 1 + 1), .bool true]
        have q0 := hC.cell 0
        have q1 := hC.cell 1
        have q2 := hC.cell 2
        refine bodyPost_ret (v := .agg #[.int .i64 d, .int .i64 ((p : Int) + 1 + 1), .bool true]) (by simp [results, Tryz.results72, go_sem, q0, q1, q2]) rfl ⟨by rw [← hres.out], (Below.refl _ _).alloc (Nat.le_refl _) _⟩
    · have hres : Hid (.agg #[.int .i64 a, .int .i64 ((p : Int) + 1), .bool true] = r) := by
        have e1 : plainR (a :: t) = some (a, t) := by cases t <;> simp [plainR, h92]
        rw [Hid, hr, hd, e1, show ((p : Int) + 1) = ((n - t.length : Nat) : Int) from by omega]; rfl
      have hpn' : (p : Int) < (n : Int) := by omega
      clear hr hlen hd h ht htl hpn
      go_enter Tryz.func72, Tryz.ntmps72
      go_wp2_with fail
      have hC := Blk.new w 129 #[.int .i64 a, .int .i64 ((p : Int) + 1), .bool true]
      have q0 := hC.cell 0
      have q1 := hC.cell 1
      have q2 := hC.cell 2
      refine bodyPost_ret (v := .agg #[.int .i64 a, .int .i64 ((p : Int) + 1), .bool true]) (by simp [results, Tryz.results72, go_sem, q0, q1, q2]) rfl ⟨by rw [← hres.out], (Below.refl _ _).alloc (Nat.le_refl _) _⟩
end Go.Proofs.YtnnjcedlomfhoaaGreatDoor
namespace Go.Proofs.YtnnjcedlomfhoaaGreatDoor
open Go.RowKit
set_option linter.unusedVariables false
def RClsRet (w : World) (n : Nat) (no : Bool) (o : Option (List (Int × Int) × List Int)) (e : Ending) (w' : World) : Prop := Below w.heap.size w w' ∧
  ((o = none ∧ e = .returned (.agg #[.int .i64 (-1), .int .i64 0, .bool false, .slice none 0 0, .slice none 0 0])) ∨
   (∃ acc r vf vt, o = some (acc, r) ∧ e = .returned (.agg #[.int .i64 4, .int .i64 ((n - r.length : Nat) : Int), .bool no, vf, vt]) ∧ OI w' w.heap.size vf acc.length (acc.map (·.1)) ∧ OI w' w.heap.size vt acc.length (acc.map (·.2))))
def RCI (w : World) (n : Nat) (no : Bool) (l : List Int) (R : Option (List (Int × Int) × List Int)) (v1 : Value) (wr : World) : Prop :=
  ∃ (p : Nat) (acc : List (Int × Int)) (vf vt : Value), v1 = .int .i64 p ∧ p ≤ n ∧ acc.length ≤ p ∧ Blk wr w.heap.size 126 #[.int .i64 0, .int .i64 0, .bool false, .slice none 0 0, .slice none 0 0] ∧
    Blk wr (w.heap.size + 1) 126 #[.int .i64 4, .int .i64 0, .bool no, vf, vt] ∧ OI wr (w.heap.size + 2) vf acc.length (acc.map (·.1)) ∧ OI wr (w.heap.size + 2) vt acc.length (acc.map (·.2)) ∧ Dis vf vt ∧ Below w.heap.size w wr ∧
    R = classR (n - p + 1) acc (l.drop p)
theorem oi_set {w : World} {b n : Nat} {v : Value} {l : List Int} (h : OI w b v n l) {p : Addr} (hp : p.block < b) (u : Value) : OI (w.setCell p u) b v n l :=
  ownI_keep h (fun j hj _ => Below.heap_setCell w p u j (by omega))
theorem ownI_lt {w : World} {b n : Nat} {v : Value} {l : List Int} (h : OI w b v n l) {k : Nat} (hk : v.ownBlock = some k) : k < w.heap.size := by
  rcases h.2 with ⟨rfl, _⟩ | ⟨g', cap, cur, rfl, hg', hh, _⟩
  · simp [Value.ownBlock] at hk
  · simp [Value.ownBlock] at hk
    subst hk
    rcases Nat.lt_or_ge g' w.heap.size with h | h
    · exact h
    · rw [Array.getElem?_eq_none h] at hh; cases hh
theorem spanR_two2 (x y : Int) (t : List Int) : spanR (x :: y :: t) = ((x == 45) && !(y == 93)) := by
  simp only [spanR, isR, List.length_cons, List.head?_cons, List.tail_cons]
  rw [show decide (1 < t.length + 1 + 1) = true from by simp]
  rfl
theorem spanR_at {l : List Int} {q : Nat} (h : q + 1 < l.length) : spanR (l.drop q) = ((l[q] == 45) && !(l[q + 1] == 93)) := by
  rw [List.drop_eq_getElem_cons (by omega), List.drop_eq_getElem_cons h, spanR_two2]
theorem isR_drop {l : List Int} {p : Nat} {c x : Int} {r : List Int} (e : l.drop p = x :: r) : isR c (l.drop p) = (x == c) := by
  rw [e, isR_cons]; rw [Bool.eq_iff_iff]; simp
theorem two_parts (w : World) (no : Bool) : Blk ((w.alloc (.cells #[.int .i64 0, .int .i64 0, .bool false, .slice none 0 0, .slice none 0 0] 126)).alloc (.cells #[.int .i64 4, .int .i64 0, .bool no, .slice none 0 0, .slice none 0 0] 126)) w.heap.size 126 #[.int .i64 0, .int .i64 0, .bool false, .slice none 0 0, .slice none 0 0] ∧
    Blk ((w.alloc (.cells #[.int .i64 0, .int .i64 0, .bool false, .slice none 0 0, .slice none 0 0] 126)).alloc (.cells #[.int .i64 4, .int .i64 0, .bool no, .slice none 0 0, .slice none 0 0] 126)) (w.heap.size + 1) 126 #[.int .i64 4, .int .i64 0, .bool no, .slice none 0 0, .slice none 0 0] ∧ Below w.heap.size w ((w.alloc (.cells #[.int .i64 0, .int .i64 0, .bool false, .slice none 0 0, .slice none 0 0] 126)).alloc (.cells #[.int .i64 4, .int .i64 0, .bool no, .slice none 0 0, .slice none 0 0] 126)) := by
  refine ⟨(Blk.new w 126 _).alloc _, ?_, ((Below.refl _ _).alloc (Nat.le_refl _) _).alloc (by simp) _⟩
  have := Blk.new (w.alloc (.cells #[.int .i64 0, .int .i64 0, .bool false, .slice none 0 0, .slice none 0 0] 126)) 126 #[.int .i64 4, .int .i64 0, .bool no, .slice none 0 0, .slice none 0 0]
  rw [show (w.alloc (.cells #[.int .i64 0, .int .i64 0, .bool false, .slice none 0 0, .slice none 0 0] 126)).heap.size = w.heap.size + 1 from by simp] at this
  exact this
theorem plainR_suf {l : List Int} {c : Int} {r : List Int} (h : plainR l = some (c, r)) : r <:+ l := by
  match l, h with
  | [], h => cases h
  | a :: t, h =>
    by_cases c92 : a = 92
    · subst c92
      match t, h with
      | [], h => cases h
      | d :: s, h =>
        obtain ⟨rfl, rfl⟩ : d = c ∧ s = r := by simpa [plainR] using h
        exact ⟨[92, d], rfl⟩
    · obtain ⟨rfl, rfl⟩ : a = c ∧ t = r := by simpa [plainR_ne t c92] using h
      exact ⟨[a], rfl⟩
/-- What plain leaves is the list from a place on. -/
theorem plainR_at {l : List Int} {p : Nat} {c : Int} {r : List Int} (h : plainR (l.drop p) = some (c, r)) : r = l.drop (l.length - r.length) ∧ p < l.length - r.length ∧ r.length ≤ l.length := by
  have h1 := plainR_len h
  have h2 := (plainR_suf h).trans (List.drop_suffix p l)
  have h3 := h2.length_le
  simp at h1
  exact ⟨List.suffix_iff_eq_drop.1 h2, by omega, h3⟩
theorem plain_call_ret {l : List Int} {p : Nat} {o : Option (Int × List Int)} (h : o = plainR (l.drop p)) : ∀ c r, o = some (c, r) → r = l.drop (l.length - r.length) ∧ p < l.length - r.length ∧ r.length ≤ l.length :=
  fun c r e => plainR_at (h.symm.trans e)
/-- Behind a part's second rune: both runes are read. -/
def SpanSt (w : World) (g n : Nat) (no : Bool) (l : List Int) (p : Nat) (a : Int) (q k : Nat) (vf vt : Value) (F T : List Int) (wx : World) : Prop :=
  ∃ (b : Int) (q2 : Nat), pairR (l.drop p) = some ((a, b), l.drop q2) ∧ p < q2 ∧ q2 ≤ n ∧ Blk wx w.heap.size 126 #[.int .i64 0, .int .i64 0, .bool false, .slice none 0 0, .slice none 0 0] ∧
    Blk wx (w.heap.size + 1) 126 #[.int .i64 4, .int .i64 0, .bool no, vf, vt] ∧ OI wx (w.heap.size + 2) vf k F ∧ OI wx (w.heap.size + 2) vt k T ∧ Blk wx g 129 #[.int .i64 a, .int .i64 q, .bool true] ∧ Blk wx (g + 1) 129 #[.int .i64 b, .int .i64 q2, .bool true] ∧ Below w.heap.size w wx
theorem oi_blk {w : World} {b n : Nat} {v : Value} {l : List Int} (h : OI w b v n l) {k : Nat} (hk : v.ownBlock = some k) : b ≤ k ∧ ∃ cs, Blk w k 3 cs := by
  rcases h.2 with ⟨rfl, _⟩ | ⟨g', cap, cur, rfl, hg', hh, _⟩
  · simp [Value.ownBlock] at hk
  · simp [Value.ownBlock] at hk
    subst hk
    exact ⟨hg', _, hh⟩
theorem oi_ne {w : World} {b n : Nat} {v : Value} {l : List Int} (h : OI w b v n l) {g t : Nat} {cs : Array Value} (hB : Blk w g t cs) (ht : t ≠ 3) : v.ownBlock ≠ some g := fun e => by
  obtain ⟨-, cs', hc⟩ := oi_blk h e
  exact hB.ne_ hc ht rfl
theorem oi_grown {w w' : World} {b n : Nat} {v : Value} {l : List Int} {row : Option Nat} (h : OI w b v n l) (hg : w.grownBy w' row) (hd : ∀ k, v.ownBlock = some k → row ≠ some k) : OI w' b v n l := by
  have hlt := @ownI_lt w b n v l h
  obtain ⟨h1, h2⟩ := h
  refine ⟨h1, ?_⟩
  rcases h2 with h2 | ⟨g, cap, cur, rfl, hg', hh, r⟩
  · exact Or.inl h2
  · exact Or.inr ⟨g, cap, cur, rfl, hg', by rw [hg.block g (hlt rfl) (fun e => hd g rfl e.symm)]; exact hh, r⟩
/-- What stands around the two appends of a round. -/
structure Two (w : World) (g : Nat) (no : Bool) (a : Int) (q : Nat) (b : Int) (q2 : Nat) (vf vt cf ct : Value) (F T : List Int) (nf nt : Nat) (wx : World) : Prop where
  b0 : Blk wx w.heap.size 126 #[.int .i64 0, .int .i64 0, .bool false, .slice none 0 0, .slice none 0 0]
  b1 : Blk wx (w.heap.size + 1) 126 #[.int .i64 4, .int .i64 0, .bool no, cf, ct]
  o1 : OI wx (w.heap.size + 2) vf nf F
  o2 : OI wx (w.heap.size + 2) vt nt T
  dis : Dis vf vt
  b6 : Blk wx g 129 #[.int .i64 a, .int .i64 q, .bool true]
  b7 : Blk wx (g + 1) 129 #[.int .i64 b, .int .i64 q2, .bool true]
  low : Below w.heap.size w wx
section
variable {w wx w' : World} {g q q2 nf nt : Nat} {no : Bool} {a b : Int} {vf vt cf ct v' : Value} {F T : List Int}
theorem Two.alloc (h : Two w g no a q b q2 vf vt cf ct F T nf nt wx) (o : Obj) : Two w g no a q b q2 vf vt cf ct F T nf nt (wx.alloc o) :=
  ⟨h.b0.alloc o, h.b1.alloc o, World.ownsRow.alloc h.o1 o, World.ownsRow.alloc h.o2 o, h.dis, h.b6.alloc o, h.b7.alloc o, h.low.alloc h.low.size o⟩
theorem Two.later (h : Two w g no a q b q2 vf vt cf ct F T nf nt wx) (hb : Below wx.heap.size wx w') (hlt : g + 1 < wx.heap.size) (hg : w.heap.size + 1 < g) : Two w g no a q b q2 vf vt cf ct F T nf nt w' :=
  ⟨h.b0.below hb (by omega), h.b1.below hb (by omega), ownI_keep h.o1 (fun k _ hk => hb.block k hk), ownI_keep h.o2 (fun k _ hk => hb.block k hk), h.dis, h.b6.below hb (by omega), h.b7.below hb hlt, h.low.trans (hb.mono h.low.size)⟩
theorem Two.growF (h : Two w g no a q b q2 vf vt cf ct F T nf nt wx) {F' : List Int} {nf' : Nat} (hg : wx.grownBy w' vf.ownBlock) (hv : v'.ownBlock = vf.ownBlock ∨ v'.ownBlock = some wx.heap.size) (ho : OI w' (w.heap.size + 2) v' nf' F') : Two w g no a q b q2 v' vt cf ct F' T nf' nt w' where
  b0 := h.b0.grown hg (fun e => oi_ne h.o1 h.b0 (by decide) e.symm)
  b1 := h.b1.grown hg (fun e => oi_ne h.o1 h.b1 (by decide) e.symm)
  o1 := ho
  o2 := oi_grown h.o2 hg (fun k e e2 => h.dis k e2 e)
  dis := fun k e e2 => by
    rcases hv with hv | hv
    · exact h.dis k (hv ▸ e) e2
    · rw [hv] at e; cases e
      have := ownI_lt h.o2 e2; omega
  b6 := h.b6.grown hg (fun e => oi_ne h.o1 h.b6 (by decide) e.symm)
  b7 := h.b7.grown hg (fun e => oi_ne h.o1 h.b7 (by decide) e.symm)
  low := h.low.grown hg h.low.size (fun k e => by have := (oi_blk h.o1 e).1; omega)
theorem Two.growT (h : Two w g no a q b q2 vf vt cf ct F T nf nt wx) {T' : List Int} {nt' : Nat} (hg : wx.grownBy w' vt.ownBlock) (hv : v'.ownBlock = vt.ownBlock ∨ v'.ownBlock = some wx.heap.size) (ho : OI w' (w.heap.size + 2) v' nt' T') : Two w g no a q b q2 vf v' cf ct F T' nf nt' w' where
  b0 := h.b0.grown hg (fun e => oi_ne h.o2 h.b0 (by decide) e.symm)
  b1 := h.b1.grown hg (fun e => oi_ne h.o2 h.b1 (by decide) e.symm)
  o1 := oi_grown h.o1 hg (fun k e e2 => h.dis k e e2)
  o2 := ho
  dis := fun k e e2 => by
    rcases hv with hv | hv
    · exact h.dis k e (hv ▸ e2)
    · rw [hv] at e2; cases e2
      have := ownI_lt h.o1 e; omega
  b6 := h.b6.grown hg (fun e => oi_ne h.o2 h.b6 (by decide) e.symm)
  b7 := h.b7.grown hg (fun e => oi_ne h.o2 h.b7 (by decide) e.symm)
  low := h.low.grown hg h.low.size (fun k e => by have := (oi_blk h.o2 e).1; omega)
theorem Two.setF (h : Two w g no a q b q2 vf vt cf ct F T nf nt wx) (hg : w.heap.size + 1 < g) (u : Value) : Two w g no a q b q2 vf vt u ct F T nf nt (wx.setCell ⟨w.heap.size + 1, 3, none⟩ u) :=
  ⟨h.b0.far (by simp) u, h.b1.set_ 3 u, oi_set h.o1 (by simp) u, oi_set h.o2 (by simp) u, h.dis, h.b6.far (by simp; omega) u, h.b7.far (by simp; omega) u, below_set h.low (by omega) u⟩
theorem Two.setT (h : Two w g no a q b q2 vf vt cf ct F T nf nt wx) (hg : w.heap.size + 1 < g) (u : Value) : Two w g no a q b q2 vf vt cf u F T nf nt (wx.setCell ⟨w.heap.size + 1, 4, none⟩ u) :=
  ⟨h.b0.far (by simp) u, h.b1.set_ 4 u, oi_set h.o1 (by simp) u, oi_set h.o2 (by simp) u, h.dis, h.b6.far (by simp; omega) u, h.b7.far (by simp; omega) u, below_set h.low (by omega) u⟩
theorem oi_other {w : World} {b n : Nat} {v : Value} {l : List Int} (h : OI w b v n l) {g i t : Nat} {cs : Array Value} (hB : Blk w g t cs) (ht : t ≠ 3) (u : Value) : OI (w.setCell ⟨g, i, none⟩ u) b v n l := by
  have hne := oi_ne h hB ht
  obtain ⟨h1, h2⟩ := h
  refine ⟨h1, ?_⟩
  rcases h2 with h2 | ⟨g', cap, cur, rfl, hg', hh, r⟩
  · exact Or.inl h2
  · refine Or.inr ⟨g', cap, cur, rfl, hg', ?_, r⟩
    rw [Below.heap_setCell w ⟨g, i, none⟩ u g' (fun e => hne (by rw [show g = g' from e.symm]; rfl))]
    exact hh
/-- The second rune is stored. -/
structure Two7 (w : World) (g : Nat) (no : Bool) (a : Int) (q : Nat) (x y z : Value) (vf vt cf ct : Value) (F T : List Int) (nf nt : Nat) (wx : World) : Prop where
  b0 : Blk wx w.heap.size 126 #[.int .i64 0, .int .i64 0, .bool false, .slice none 0 0, .slice none 0 0]
  b1 : Blk wx (w.heap.size + 1) 126 #[.int .i64 4, .int .i64 0, .bool no, cf, ct]
  o1 : OI wx (w.heap.size + 2) vf nf F
  o2 : OI wx (w.heap.size + 2) vt nt T
  b6 : Blk wx g 129 #[.int .i64 a, .int .i64 q, .bool true]
  b7 : Blk wx (g + 1) 129 #[x, y, z]
  low : Below w.heap.size w wx
theorem Two.set7 (h : Two w g no a q b q2 vf vt cf ct F T nf nt wx) (hg : w.heap.size + 1 < g) (x y z : Value) :
    Two7 w g no a q x y z vf vt cf ct F T nf nt (((wx.setCell ⟨g + 1, 0, none⟩ x).setCell ⟨g + 1, 1, none⟩ y).setCell ⟨g + 1, 2, none⟩ z) where
  b0 := ((h.b0.far (by simp; omega) _).far (by simp; omega) _).far (by simp; omega) _
  b1 := ((h.b1.far (by simp; omega) _).far (by simp; omega) _).far (by simp; omega) _
  o1 := oi_other (oi_other (oi_other h.o1 h.b7 (by decide) _) (h.b7.set_ 0 x) (by decide) _) ((h.b7.set_ 0 x).set_ 1 y) (by decide) _
  o2 := oi_other (oi_other (oi_other h.o2 h.b7 (by decide) _) (h.b7.set_ 0 x) (by decide) _) ((h.b7.set_ 0 x).set_ 1 y) (by decide) _
  b6 := ((h.b6.far (by simp) _).far (by simp) _).far (by simp) _
  b7 := ((h.b7.set_ 0 x).set_ 1 y).set_ 2 z
  low := below_set (below_set (below_set h.low (by omega) _) (by omega) _) (by omega) _
end
theorem own_slice {w : World} {base : Nat} {v : Value} {n : Nat} {l : List Int} (h : OI w base v n l) : ∃ A k, v = .slice A n k := by
  rcases h.2 with ⟨rfl, h0⟩ | ⟨g', cap, cur, rfl, _⟩
  · exact ⟨none, 0, by rw [h0]⟩
  · exact ⟨_, _, rfl⟩
def spanP (a : Int) : Option (Int × List Int) → Option ((Int × Int) × List Int)
  | none => none
  | some (b, s) => if b < a then none else some ((a, b), s)
theorem pairR_span {l r : List Int} {a : Int} (h : plainR l = some (a, r)) (hs : spanR r = true) : pairR l = spanP a (plainR r.tail) := by
  rw [pairR, h]; simp only [hs, if_true]
  cases plainR r.tail <;> rfl
theorem blk_reads_one {w : World} {g : Nat} {a : Int} (h : Blk w g 3 #[.int .i64 a]) : Reads w (g + 1) 1 (some ⟨g, 0, none⟩) 1 (iv [a]) := by
  refine ⟨rfl, fun _ => ⟨_, rfl, by simp, fun j u hj => ?_⟩⟩
  match j, hj with
  | 0, hj => simp [iv] at hj; subst hj; simpa [Addr.add] using h.cell 0
theorem max_ok {n : Nat} (h : n + 1 ≤ 200000) : n + 1 ≤ maxLen := by simp only [maxLen]; omega
theorem alloc_ge {w : World} {b : Nat} {o : Obj} (h : b ≤ w.heap.size) : b ≤ (w.alloc o).heap.size := by simp; omega
theorem rd_drop {l r : List Int} {q : Nat} (h : r = l.drop q) : r.tail = l.drop (q + 1) := by rw [h, List.tail_drop]
set_option maxRecDepth 100000 in
set_option maxHeartbeats 4000000 in
theorem rcls_any (w : World) (A : Option Addr) (n c : Nat) (l : List Int) (p0 : Nat) (h : RI w w.heap.size A n l) (hp0 : p0 ≤ n) (hn : n ≤ 1000) :
    Calls Tryz.prog 71 #[.slice A n c, .int .i64 (p0 : Int)] w (RClsRet w n (isR 33 (l.drop p0)) (classR (n + 1) [] (if isR 33 (l.drop p0) = true then l.drop (p0 + 1) else l.drop p0))) := by
  have hlen := hide h.len
  obtain ⟨no, hno⟩ : ∃ b, b = isR 33 (l.drop p0) := ⟨_, rfl⟩
  obtain ⟨R, hR⟩ : ∃ R, R = classR (n + 1) [] (if isR 33 (l.drop p0) = true then l.drop (p0 + 1) else l.drop p0) := ⟨_, rfl⟩
  rw [← hR, ← hno]
  rw [← hno] at hR
  replace hR := hide hR
  have hpn : no = true → p0 < n := by
    intro e
    rw [hno] at e
    cases hd : l.drop p0 with
    | nil => rw [hd] at e; cases e
    | cons x r => exact (elem_at h hd).choose_spec.2.1
  go_enter Tryz.func71, Tryz.ntmps71
  go_upto_region 2 with (fail)
  go_cut [19] (fun v19 wx => v19 = .bool no ∧ wx = (w.alloc (.cells #[.int .i64 0, .int .i64 0, .bool false, .slice none 0 0, .slice none 0 0] 126)).alloc (.cells #[.int .i64 4, .int .i64 0, .bool false, .slice none 0 0, .slice none 0 0] 126))
  case first =>
    cases hd : l.drop p0 with
    | nil =>
      have q1 : ¬ (p0 : Int) < (n : Int) := by
        have : (l.drop p0).length = 0 := by rw [hd]; rfl
        simp [hlen.out] at this; omega
      have q2 : Hid (false = no) := by rw [Hid, hno, hd]; rfl
      clear hR hno hpn h hd
      go_wp2_with fail
      go_meet
      exact ⟨by rw [q2.out], rfl⟩
    | cons x r =>
      have q2 : Hid ((x == 33) = no) := by rw [Hid, hno, isR_drop hd]
      obtain ⟨ad, rfl, q1, -, -, c0, hb0⟩ := elem_at h hd
      have q1' : (p0 : Int) < (n : Int) := by omega
      have c1 : ((w.alloc (.cells #[.int .i64 0, .int .i64 0, .bool false, .slice none 0 0, .slice none 0 0] 126)).alloc (.cells #[.int .i64 4, .int .i64 0, .bool false, .slice none 0 0, .slice none 0 0] 126)).cell? (ad.add p0) = some (.int .i64 x) := by
        rw [World.cell?_alloc_lt _ _ _ (by simp; omega), World.cell?_alloc_lt _ _ _ (by omega), c0]
      clear hR hno hpn h hd c0
      go_wp2_with fail
      go_meet
      exact ⟨by rw [q2.out], rfl⟩
  case rest =>
    obtain ⟨rfl, rfl⟩ := hcut
    obtain ⟨p1, hp1, hp1n⟩ : ∃ p1 : Nat, (p1 : Int) = (if no = true then (p0 : Int) + 1 else (p0 : Int)) ∧ p1 = (if no = true then p0 + 1 else p0) := by
      cases no
      · exact ⟨p0, by simp, by simp⟩
      · exact ⟨p0 + 1, by simp, by simp⟩
    have hp1le : p1 ≤ n := by
      cases no
      · simp at hp1n; omega
      · have := hpn rfl; simp at hp1n; omega
    have hR1 : Hid (R = classR (n - p1 + 1) [] (l.drop p1)) := by
      rw [Hid, hR.out]
      cases no
      · simp at hp1n; subst hp1n
        rw [if_neg (by simp)]
        exact classR_fuel _ _ _ _ (by simp [hlen.out]; omega) (by simp [hlen.out])
      · simp at hp1n; subst hp1n
        rw [if_pos rfl]
        exact classR_fuel _ _ _ _ (by simp [hlen.out]; omega) (by simp [hlen.out])
    replace h := hide h
    clear hR hno hpn
    go_upto_if 19 with (fail)
    go_cut [1] (fun v1 wx => v1 = .int .i64 p1 ∧ Blk wx w.heap.size 126 #[.int .i64 0, .int .i64 0, .bool false, .slice none 0 0, .slice none 0 0] ∧ Blk wx (w.heap.size + 1) 126 #[.int .i64 4, .int .i64 0, .bool no, .slice none 0 0, .slice none 0 0] ∧ Below w.heap.size w wx)
    case first =>
      have hF := hide (two_parts w false)
      have hT := hide (two_parts w true)
      have f1 := hF.out.2.1.frozen 2
      cases no with
      | false =>
        have e1 : Hid ((p1 : Int) = (p0 : Int)) := by rw [Hid, hp1]; simp
        clear hR1 hp1 hp1n hp1le h
        go_wp2_with fail
        go_meet
        exact ⟨by rw [e1.out], hF.out⟩
      | true =>
        have e1 : Hid ((p1 : Int) = (p0 : Int) + 1) := by rw [Hid, hp1]; simp
        clear hR1 hp1 hp1n hp1le h
        go_wp2_with fail
        go_meet
        exact ⟨by rw [e1.out], hT.out⟩
    case rest =>
      obtain ⟨rfl, hB0, hB1, hbl⟩ := hcut
      have hst : Hid (RCI w n no l R (.int .i64 p1) wc) := ⟨p1, [], .slice none 0 0, .slice none 0 0, rfl, hp1le, by simp, hB0, hB1, ⟨by simp [iv], .inl ⟨rfl, rfl⟩⟩, ⟨by simp [iv], .inl ⟨rfl, rfl⟩⟩, (fun g hg => by simp [Value.ownBlock] at hg), hbl, hR1.out⟩
      clear hB0 hB1 hbl hR1 hp1 hp1n hp1le
      go_wp2_with fail
      go_loopw [1] (fun v1 wr => RCI w n no l R v1 wr) (fun v1 _ => n - (intOf v1).toNat)
      case atStart => exact hst.out
      case round =>
        clear hst
        obtain ⟨p, acc, vf, vt, rfl, hp, hac, hB0, hB1, ho1, ho2, hdis, hbl, hR⟩ := hrel
        have hRI := h.out.below hbl
        have hsz := hbl.size
        go_upto_region 5 with (fail)
        go_cut [39] (fun v39 wx => v39 = .bool (!acc.isEmpty && isR 93 (l.drop p)) ∧ wr = wx)
        case first =>
          obtain ⟨A1, c1, hv⟩ : ∃ A k, vf = .slice A acc.length k := by
            rcases ho1.2 with ⟨rfl, h0⟩ | ⟨g', cap, cur, rfl, _⟩
            · exact ⟨none, 0, by rw [h0]⟩
            · exact ⟨_, _, rfl⟩
          subst hv
          have c3 : wr.cell? ⟨w.heap.size + 1, 3, none⟩ = some (.slice A1 acc.length c1) := hB1.cell 3
          cases hd : l.drop p with
          | nil =>
            have q1 : ¬ (p : Int) < (n : Int) := by
              have : (l.drop p).length = 0 := by rw [hd]; rfl
              simp [hlen.out] at this; omega
            have q2 : Hid (false = (!acc.isEmpty && isR 93 (l.drop p))) := by rw [Hid, hd]; simp [isR]
            clear hR h hd hB0 hB1 ho1 ho2 hdis hbl hRI
            go_wp2_with fail
            go_meet
            exact ⟨by rw [q2.out], rfl⟩
          | cons x r =>
            obtain ⟨ad, rfl, q1, -, -, c0, hb0⟩ := elem_at hRI hd
            have q1' : (p : Int) < (n : Int) := by omega
            have q2 : Hid ((!acc.isEmpty && isR 93 (l.drop p)) = (decide (0 < acc.length) && (x == 93))) := by
              rw [Hid, isR_drop hd]
              cases acc <;> simp
            by_cases hx : x = 93
            · have q3 : (x == 93) = true := by simp [hx]
              have q4 : Hid (decide (0 < acc.length) = (!acc.isEmpty && isR 93 (l.drop p))) := by rw [Hid, q2.out, q3]; simp
              clear hR h hd hB0 hB1 ho1 ho2 hdis hbl hRI hx q2
              go_wp2_with fail
              go_meet
              exact ⟨by rw [q4.out], rfl⟩
            · have q3 : (x == 93) = false := by simp [hx]
              have q4 : Hid (false = (!acc.isEmpty && isR 93 (l.drop p))) := by rw [Hid, q2.out, q3]; simp
              clear hR h hd hB0 hB1 ho1 ho2 hdis hbl hRI hx q2
              go_wp2_with fail
              go_meet
              exact ⟨by rw [q4.out], rfl⟩
        case rest =>
          obtain ⟨rfl, rfl⟩ := hcut
          go_upto_if 39 with (fail)
          obtain ⟨b, hb⟩ : ∃ b, b = (!acc.isEmpty && isR 93 (l.drop p)) := ⟨_, rfl⟩
          rw [← hb]
          cases b with
          | true =>
            cases hd : l.drop p with
            | nil => rw [hd] at hb; simp [isR] at hb
            | cons x r =>
              obtain ⟨ad, rfl, q1, -, hrl, c0, hb0⟩ := elem_at hRI hd
              have hres : Hid (R = some (acc, r)) := by
                rw [Hid, hR, classR, if_pos hb.symm, hd]; rfl
              have hpr : Hid ((p : Int) + 1 = ((n - r.length : Nat) : Int)) := by rw [Hid]; omega
              have hw : (p : Int) + 1 < 2000 := by omega
              obtain ⟨A1, k1, hv1⟩ : ∃ A k, vf = .slice A acc.length k := by
                rcases ho1.2 with ⟨rfl, h0⟩ | ⟨g', cap, cur, rfl, _⟩
                · exact ⟨none, 0, by rw [h0]⟩
                · exact ⟨_, _, rfl⟩
              obtain ⟨A2, k2, hv2⟩ : ∃ A k, vt = .slice A acc.length k := by
                rcases ho2.2 with ⟨rfl, h0⟩ | ⟨g', cap, cur, rfl, _⟩
                · exact ⟨none, 0, by rw [h0]⟩
                · exact ⟨_, _, rfl⟩
              subst hv1 hv2
              have d0 : wr.cell? ⟨w.heap.size + 1, 0, none⟩ = some (.int .i64 4) := hB1.cell 0
              have d1 : wr.cell? ⟨w.heap.size + 1, 1, none⟩ = some (.int .i64 0) := hB1.cell 1
              have d2 : wr.cell? ⟨w.heap.size + 1, 2, none⟩ = some (.bool no) := hB1.cell 2
              have d3 : wr.cell? ⟨w.heap.size + 1, 3, none⟩ = some (.slice A1 acc.length k1) := hB1.cell 3
              have d4 : wr.cell? ⟨w.heap.size + 1, 4, none⟩ = some (.slice A2 acc.length k2) := hB1.cell 4
              have z0 : wr.cell? ⟨w.heap.size, 0, none⟩ = some (.int .i64 0) := hB0.cell 0
              have z1 : wr.cell? ⟨w.heap.size, 1, none⟩ = some (.int .i64 0) := hB0.cell 1
              have z2 : wr.cell? ⟨w.heap.size, 2, none⟩ = some (.bool false) := hB0.cell 2
              have z3 : wr.cell? ⟨w.heap.size, 3, none⟩ = some (.slice none 0 0) := hB0.cell 3
              have z4 : wr.cell? ⟨w.heap.size, 4, none⟩ = some (.slice none 0 0) := hB0.cell 4
              have f0 := hB0.frozen 0
              have f1 := hB0.frozen 1
              have f2 := hB0.frozen 2
              have f3 := hB0.frozen 3
              have f4 := hB0.frozen 4
              have g1 := hB1.frozen 1
              replace hB0 := hide hB0
              replace hB1 := hide hB1
              replace ho1 := hide ho1
              replace ho2 := hide ho2
              replace hbl := hide hbl
              clear hR hb hRI hd hb0 hdis h c0
              go_wp2_with fail
              refine bodyPost_ret (v := .agg #[.int .i64 4, .int .i64 ((p : Int) + 1), .bool no, .slice A1 acc.length k1, .slice A2 acc.length k2]) (by simp [results, Tryz.results71, go_sem, z0, z1, z2, z3, z4]) rfl ⟨?_, .inr ⟨acc, r, _, _, hres.out, by rw [hpr.out], ?_, ?_⟩⟩
              · repeat refine below_set ?_ (by omega) _
                exact hbl.out
              · refine ownI_more (b := w.heap.size + 2) ?_ (by omega)
                repeat refine oi_set ?_ (by simp) _
                exact ho1.out
              · refine ownI_more (b := w.heap.size + 2) ?_ (by omega)
                repeat refine oi_set ?_ (by simp) _
                exact ho2.out
          | false =>
            obtain ⟨po, hpo⟩ : ∃ o, o = plainR (l.drop p) := ⟨_, rfl⟩
            have hRb : Hid (R = match pairR (l.drop p) with | none => none | some (x, r) => classR (n - p) (acc ++ [x]) r) := by
              rw [Hid, hR, classR, if_neg (by rw [← hb]; simp)]
              rfl
            have hpr := hide (plain_call_ret hpo)
            replace h := hide h
            replace hB0 := hide hB0
            replace hB1 := hide hB1
            replace ho1 := hide ho1
            replace ho2 := hide ho2
            replace hdis := hide hdis
            replace hR := hide hR
            have hlt1 := hB1.out.lt
            clear hb
            go_wp2_with fail
            refine (rplain_any wr w.heap.size A n c l p hRI hsz hp hn).mono ?_
            rintro e w2 ⟨rfl, hb2⟩
            rw [← hpo]
            have hbw2 := hbl.trans (hb2.mono hsz)
            have hB02 := hB0.out.below hb2 (by omega)
            have hB12 := hB1.out.below hb2 hlt1
            have ho12 : OI w2 (w.heap.size + 2) vf acc.length (acc.map (·.1)) := ownI_keep ho1.out (fun k _ hk => hb2.block k hk)
            have ho22 : OI w2 (w.heap.size + 2) vt acc.length (acc.map (·.2)) := ownI_keep ho2.out (fun k _ hk => hb2.block k hk)
            have hsz2 := hbw2.size
            have hlt2 := hB12.lt
            clear hB0 hB1 ho1 ho2 hb2 hRI hlt1
            cases po with
            | none =>
              have hres : Hid (R = none) := by rw [Hid, hRb.out, pairR, ← hpo]
              have hB03 := hB02.alloc (.cells #[.int .i64 0, .int .i64 0, .bool false] 129)
              have z0 := hB03.cell 0
              have z1 := hB03.cell 1
              have z2 := hB03.cell 2
              have z3 := hB03.cell 3
              have z4 := hB03.cell 4
              have f0 := hB03.frozen 0
              have f1 := hB03.frozen 1
              have f2 := hB03.frozen 2
              have f3 := hB03.frozen 3
              have f4 := hB03.frozen 4
              clear hRb hpo hB02 hB12 ho12 ho22 hR hB03
              simp only [plV]
              go_wp2_with fail
              refine bodyPost_ret (v := .agg #[.int .i64 (-1), .int .i64 0, .bool false, .slice none 0 0, .slice none 0 0]) (by simp [results, Tryz.results71, go_sem, z0, z1, z2, z3, z4]) rfl ⟨?_, .inl ⟨hres.out, rfl⟩⟩
              repeat refine below_set ?_ (by omega) _
              exact hbw2.alloc (by omega) _
            | some x =>
              obtain ⟨a, r⟩ := x
              simp only [plV]
              obtain ⟨q, hq⟩ : ∃ q, q = n - r.length := ⟨_, rfl⟩
              rw [← hq]
              obtain ⟨hr1, hr2, hr3⟩ := hpr.out a r rfl
              rw [hlen.out] at hr1 hr2 hr3
              rw [← hq] at hr1 hr2
              have hqn : q ≤ n := by omega
              have hpq : p < q := hr2
              obtain ⟨g, hg⟩ : ∃ g, g = w2.heap.size := ⟨_, rfl⟩
              have hB6 := Blk.new w2 129 #[.int .i64 a, .int .i64 q, .bool true]
              rw [← hg] at hB6
              have hB6b := hB6.alloc (.cells #[.int .i64 a, .int .i64 q, .bool true] 129)
              have hB7 := Blk.new (w2.alloc (.cells #[.int .i64 a, .int .i64 q, .bool true] 129)) 129 #[.int .i64 a, .int .i64 q, .bool true]
              rw [show (w2.alloc (.cells #[.int .i64 a, .int .i64 q, .bool true] 129)).heap.size = g + 1 from by simp [hg]] at hB7
              have c60 := hB6.cell 0
              have c61 := hB6.cell 1
              have c62 := hB6.cell 2
              have hB2b := Below.alloc (Below.alloc (Below.refl w2.heap.size w2) (Nat.le_refl _) (.cells #[.int .i64 a, .int .i64 q, .bool true] 129)) (by simp) (.cells #[.int .i64 a, .int .i64 q, .bool true] 129)
              have hB04 := hide (hB02.below hB2b (by omega))
              have hB14 := hide (hB12.below hB2b (by omega))
              have ho14 := hide (show OI ((w2.alloc (.cells #[.int .i64 a, .int .i64 q, .bool true] 129)).alloc (.cells #[.int .i64 a, .int .i64 q, .bool true] 129)) (w.heap.size + 2) vf acc.length (acc.map (·.1)) from ownI_keep ho12 (fun k _ hk => hB2b.block k hk))
              have ho24 := hide (show OI ((w2.alloc (.cells #[.int .i64 a, .int .i64 q, .bool true] 129)).alloc (.cells #[.int .i64 a, .int .i64 q, .bool true] 129)) (w.heap.size + 2) vt acc.length (acc.map (·.2)) from ownI_keep ho22 (fun k _ hk => hB2b.block k hk))
              have hbw4 := hide (hbw2.trans (hB2b.mono (by omega)))
              have hgv : Hid ((∀ k, vf.ownBlock = some k → k < g) ∧ (∀ k, vt.ownBlock = some k → k < g)) := by
                rw [Hid, hg]
                exact ⟨fun k hk => ownI_lt ho12 hk, fun k hk => ownI_lt ho22 hk⟩
              replace hB6b := hide hB6b
              replace hB7 := hide hB7
              have hgl : w.heap.size + 1 < g := by omega
              replace hg := hide hg
              have hpo' : Hid (plainR (l.drop p) = some (a, r)) := hpo.symm
              clear hB02 hB12 ho12 ho22 hB2b hbw2 hr2 hr3 hsz2 hlt2 hq hpo
              replace hr1 := hide hr1
              go_upto_region 9 with (fail)
              simp only [← hg.out]
              go_upto_region 12 with (fail)
              simp only [← hg.out]
              obtain ⟨w4, hw4⟩ : ∃ x, x = (w2.alloc (.cells #[.int .i64 a, .int .i64 q, .bool true] 129)).alloc (.cells #[.int .i64 a, .int .i64 q, .bool true] 129) := ⟨_, rfl⟩
              rw [← hw4] at hB04 hB14 ho14 ho24 hbw4 hB6b hB7 ⊢
              have hRI4 := hide (h.out.out.below hbw4.out)
              have hsz4 := hbw4.out.size
              clear hw4
              go_cut [74] (fun v74 wx => v74 = .bool (spanR r) ∧ w4 = wx)
              case first =>
                have c61' : w4.cell? ⟨g, 1, none⟩ = some (.int .i64 q) := hB6b.out.cell 1
                have f61 := hB6b.out.frozen 1
                by_cases h1 : q + 1 < n
                · have hlq : q + 1 < l.length := by have := hlen.out; omega
                  obtain ⟨ad, rfl, hab, c0⟩ := hRI4.out.elem (k := q) (by omega) (by omega)
                  obtain ⟨ad', e', hab', c1⟩ := hRI4.out.elem (k := q + 1) (by omega) hlq
                  cases e'
                  have hsp : Hid (spanR r = ((l[q] == 45) && !(l[q + 1] == 93))) := by
                    rw [Hid, hr1.out]; exact spanR_at hlq
                  obtain ⟨x, hx⟩ : ∃ x, x = l[q] := ⟨_, rfl⟩
                  obtain ⟨y, hy⟩ : ∃ y, y = l[q + 1] := ⟨_, rfl⟩
                  rw [← hx] at c0
                  rw [← hy] at c1
                  rw [← hx, ← hy] at hsp
                  have c1' := c1
                  rw [Addr.add, if_neg (by omega)] at c1'
                  have h1' : (q : Int) + 1 < (n : Int) := by omega
                  have hw1 : (q : Int) + 1 < 2000 := by omega
                  by_cases hx45 : x = 45
                  · have q3 : (x == 45) = true := by simp [hx45]
                    have q4 : Hid ((y != 93) = spanR r) := by rw [Hid, hsp.out, q3]; rfl
                    clear hx hy h1 hlq hab hab' hsp hx45
                    go_wp2_with fail
                    go_meet
                    exact ⟨by rw [q4.out], rfl⟩
                  · have q3 : (x == 45) = false := by simp [hx45]
                    have q4 : Hid (false = spanR r) := by rw [Hid, hsp.out, q3]; rfl
                    clear hx hy h1 hlq hab hab' hsp hx45
                    go_wp2_with fail
                    go_meet
                    exact ⟨by rw [q4.out], rfl⟩
                · have hsp : Hid (false = spanR r) := by
                    have : ¬ 1 < r.length := by rw [hr1.out, List.length_drop, hlen.out]; omega
                    simp [Hid, spanR, this]
                  have h1' : ¬ (q : Int) + 1 < (n : Int) := by omega
                  have hw1 : (q : Int) + 1 < 2000 := by omega
                  clear h1
                  go_wp2_with fail
                  go_meet
                  exact ⟨by rw [hsp.out], rfl⟩
              case rest =>
                obtain ⟨rfl, rfl⟩ := hcut
                clear hpr hB6 c60 c61 c62 hg
                go_upto_if 74 with (fail)
                go_cut [7] (fun v7 wx => v7 = .pointer (some ⟨g + 1, 0, none⟩) ∧ SpanSt w g n no l p a q acc.length vf vt (acc.map (·.1)) (acc.map (·.2)) wx)
                case first =>
                  cases hs : spanR r with
                  | false =>
                    have hI : Hid (SpanSt w g n no l p a q acc.length vf vt (acc.map (·.1)) (acc.map (·.2)) w4) := by
                      refine ⟨a, q, ?_, hpq, hqn, hB04.out, hB14.out, ho14.out, ho24.out, hB6b.out, hB7.out, hbw4.out⟩
                      rw [pairR, hpo'.out]
                      simp only [hs]
                      rw [if_neg (by simp), hr1.out]
                    clear hs hB04 hB14 ho14 ho24 hB6b hB7 hbw4 hRb hR
                    go_wp2_with fail
                    go_meet
                    exact ⟨rfl, hI.out⟩
                  | true =>
                    obtain ⟨x, rt, rfl⟩ := spanR_two hs
                    have hdt : Hid (rt = l.drop (q + 1)) := rd_drop hr1.out
                    obtain ⟨po, hpo⟩ : ∃ o, o = plainR (l.drop (q + 1)) := ⟨_, rfl⟩
                    have hpr := hide (plain_call_ret hpo)
                    have hq1 : q + 1 ≤ n := by
                      have := congrArg List.length hr1.out
                      simp [hlen.out] at this; omega
                    have c61 : w4.cell? ⟨g, 1, none⟩ = some (.int .i64 q) := hB6b.out.cell 1
                    have f61 := hB6b.out.frozen 1
                    have hlt7 := hB7.out.lt
                    have hw1 : (q : Int) + 1 < 2000 := by omega
                    go_wp2_with fail
                    refine (rplain_any w4 w.heap.size A n c l (q + 1) hRI4.out hsz4 hq1 hn).mono ?_
                    rintro e w5 ⟨rfl, hb5⟩
                    rw [← hpo]
                    have hTw := hide ((Two.mk hB04.out hB14.out ho14.out ho24.out hdis.out hB6b.out hB7.out hbw4.out : Two w g no a q a q vf vt vf vt (acc.map (·.1)) (acc.map (·.2)) acc.length acc.length w4).later hb5 hlt7 hgl)
                    clear hB04 hB14 ho14 ho24 hB6b hB7 hbw4 hb5 hR
                    have z0 : w5.cell? ⟨g + 1, 0, none⟩ = some (.int .i64 a) := hTw.out.b7.cell 0
                    have z1 : w5.cell? ⟨g + 1, 1, none⟩ = some (.int .i64 q) := hTw.out.b7.cell 1
                    have z2 : w5.cell? ⟨g + 1, 2, none⟩ = some (.bool true) := hTw.out.b7.cell 2
                    have f0 := hTw.out.b7.frozen 0
                    have f1 := hTw.out.b7.frozen 1
                    have f2 := hTw.out.b7.frozen 2
                    have hps : Hid (pairR (l.drop p) = spanP a po) := by rw [Hid, pairR_span hpo'.out hs, List.tail_cons, hdt.out, ← hpo]
                    clear c61 f61
                    cases po with
                    | none =>
                      have hres : Hid (R = none) := by rw [Hid, hRb.out, hps.out, spanP]
                      have hTn := hide (hTw.out.set7 hgl (.int .i64 0) (.int .i64 0) (.bool false))
                      simp only [plV]
                      clear hTw hps hpo hRb
                      go_upto_region 14 with (fail)
                      obtain ⟨w6, hw6⟩ : ∃ y, y = ((w5.setCell ⟨g + 1, 0, none⟩ (.int .i64 0)).setCell ⟨g + 1, 1, none⟩ (.int .i64 0)).setCell ⟨g + 1, 2, none⟩ (.bool false) := ⟨_, rfl⟩
                      rw [← hw6] at hTn ⊢
                      clear hw6 z0 z1 z2 f0 f1 f2
                      have y0 : w6.cell? ⟨w.heap.size, 0, none⟩ = some (.int .i64 0) := hTn.out.b0.cell 0
                      have y1 : w6.cell? ⟨w.heap.size, 1, none⟩ = some (.int .i64 0) := hTn.out.b0.cell 1
                      have y2 : w6.cell? ⟨w.heap.size, 2, none⟩ = some (.bool false) := hTn.out.b0.cell 2
                      have y3 : w6.cell? ⟨w.heap.size, 3, none⟩ = some (.slice none 0 0) := hTn.out.b0.cell 3
                      have y4 : w6.cell? ⟨w.heap.size, 4, none⟩ = some (.slice none 0 0) := hTn.out.b0.cell 4
                      have f0 := hTn.out.b0.frozen 0
                      have f1 := hTn.out.b0.frozen 1
                      have f2 := hTn.out.b0.frozen 2
                      have f3 := hTn.out.b0.frozen 3
                      have f4 := hTn.out.b0.frozen 4
                      have x2 : w6.cell? ⟨g + 1, 2, none⟩ = some (.bool false) := hTn.out.b7.cell 2
                      have hlow := hTn.out.low
                      clear hTn
                      go_wp2_with fail
                      refine bodyPost_ret (v := .agg #[.int .i64 (-1), .int .i64 0, .bool false, .slice none 0 0, .slice none 0 0]) (by simp [results, Tryz.results71, go_sem, y0, y1, y2, y3, y4]) rfl ⟨?_, .inl ⟨hres.out, rfl⟩⟩
                      repeat refine below_set ?_ (by omega) _
                      exact hlow
                    | some z =>
                      obtain ⟨b, t⟩ := z
                      obtain ⟨ht1, ht2, ht3⟩ := hpr.out b t rfl
                      rw [hlen.out] at ht1 ht2 ht3
                      simp only [plV]
                      obtain ⟨q2, hq2⟩ : ∃ q2, q2 = n - t.length := ⟨_, rfl⟩
                      rw [← hq2] at ht1 ht2 ⊢
                      have hq2n : q2 ≤ n := by omega
                      have ht2' : p < q2 := by omega
                      replace ht1 := hide ht1
                      clear hq2 ht2 ht3
                      have hTn := hide (hTw.out.set7 hgl (.int .i64 b) (.int .i64 q2) (.bool true))
                      clear hTw hpo
                      go_upto_region 14 with (fail)
                      obtain ⟨w6, hw6⟩ : ∃ y, y = ((w5.setCell ⟨g + 1, 0, none⟩ (.int .i64 b)).setCell ⟨g + 1, 1, none⟩ (.int .i64 q2)).setCell ⟨g + 1, 2, none⟩ (.bool true) := ⟨_, rfl⟩
                      rw [← hw6] at hTn ⊢
                      clear hw6 z0 z1 z2 f0 f1 f2
                      have x0 : w6.cell? ⟨g + 1, 0, none⟩ = some (.int .i64 b) := hTn.out.b7.cell 0
                      have x2 : w6.cell? ⟨g + 1, 2, none⟩ = some (.bool true) := hTn.out.b7.cell 2
                      have x6 : w6.cell? ⟨g, 0, none⟩ = some (.int .i64 a) := hTn.out.b6.cell 0
                      by_cases hba : b < a
                      · have hres : Hid (R = none) := by rw [Hid, hRb.out, hps.out, spanP, if_pos hba]
                        have y0 : w6.cell? ⟨w.heap.size, 0, none⟩ = some (.int .i64 0) := hTn.out.b0.cell 0
                        have y1 : w6.cell? ⟨w.heap.size, 1, none⟩ = some (.int .i64 0) := hTn.out.b0.cell 1
                        have y2 : w6.cell? ⟨w.heap.size, 2, none⟩ = some (.bool false) := hTn.out.b0.cell 2
                        have y3 : w6.cell? ⟨w.heap.size, 3, none⟩ = some (.slice none 0 0) := hTn.out.b0.cell 3
                        have y4 : w6.cell? ⟨w.heap.size, 4, none⟩ = some (.slice none 0 0) := hTn.out.b0.cell 4
                        have f0 := hTn.out.b0.frozen 0
                        have f1 := hTn.out.b0.frozen 1
                        have f2 := hTn.out.b0.frozen 2
                        have f3 := hTn.out.b0.frozen 3
                        have f4 := hTn.out.b0.frozen 4
                        have hlow := hTn.out.low
                        clear hTn hps hRb
                        go_wp2_with fail
                        refine bodyPost_ret (v := .agg #[.int .i64 (-1), .int .i64 0, .bool false, .slice none 0 0, .slice none 0 0]) (by simp [results, Tryz.results71, go_sem, y0, y1, y2, y3, y4]) rfl ⟨?_, .inl ⟨hres.out, rfl⟩⟩
                        repeat refine below_set ?_ (by omega) _
                        exact hlow
                      · have hI : Hid (SpanSt w g n no l p a q acc.length vf vt (acc.map (·.1)) (acc.map (·.2)) w6) := by
                          refine ⟨b, q2, ?_, ht2', hq2n, hTn.out.b0, hTn.out.b1, hTn.out.o1, hTn.out.o2, hTn.out.b6, hTn.out.b7, hTn.out.low⟩
                          rw [hps.out, spanP, if_neg hba, ht1.out]
                        clear hTn hps hRb
                        go_wp2_with fail
                        go_meet
                        exact ⟨rfl, hI.out⟩
                case rest =>
                  obtain ⟨rfl, b, q2, hpr, hpq2, hq2n, hB0, hB1, ho1, ho2, hB6, hB7, hbl2⟩ := hcut
                  have hRn : Hid (R = classR (n - q2 + 1) (acc ++ [(a, b)]) (l.drop q2)) := by
                    rw [Hid, hRb.out, hpr]
                    exact classR_fuel _ _ _ _ (by simp [hlen.out]; omega) (by simp [hlen.out])
                  have hTw := hide (Two.mk hB0 hB1 ho1 ho2 hdis.out hB6 hB7 hbl2 : Two w g no a q b q2 vf vt vf vt (acc.map (·.1)) (acc.map (·.2)) acc.length acc.length wc)
                  have hx1 := hide (hTw.out.alloc (.cells #[.int .i64 a] 3))
                  have hnew := hide (Blk.new wc 3 #[.int .i64 a])
                  obtain ⟨i0, hi0, hz0, hz1, hz2⟩ := info_parts int_info
                  replace hi0 := hide hi0
                  replace hz0 := hide hz0
                  replace hz1 := hide hz1
                  replace hz2 := hide hz2
                  have c3 : wc.cell? ⟨w.heap.size + 1, 3, none⟩ = some vf := hB1.cell 3
                  have f3 := hB1.frozen 3
                  have d0 : wc.cell? ⟨g, 0, none⟩ = some (.int .i64 a) := hB6.cell 0
                  have hle : acc.length + 1 ≤ 200000 := by omega
                  have hgw := hB7.lt
                  have hwz := hbl2.size
                  clear hB0 hB1 ho1 ho2 hB6 hB7 hbl2 hRb hpr hB04 hB14 ho14 ho24 hB6b hbw4 hR hpo' hRI4 hr1 hbl
                  go_wp2_with (refine wpList_append_any _ rfl _ _ 83 rfl (w.heap.size + 2) 3 i0 _ 1 8 Tryz.underlying83 hi0.out hz0.out hz1.out hz2.out rfl (by omega) vf _ _ rfl hx1.out.o1 (wc.heap.size + 1) (some ⟨wc.heap.size, 0, none⟩) 1 1 (iv [a]) rfl (blk_reads_one hnew.out) (iv_one _) (max_ok hle) (by omega) (alloc_ge (by omega)) ?_)
                  intro v3 w3 o3 g3 e3
                  have o4 : OI w3 (w.heap.size + 2) v3 (acc.length + 1) (acc.map (·.1) ++ [a]) := by unfold OI; rw [iv_append]; exact o3
                  have hy1 := hx1.out.growF g3 (by simpa using e3) o4
                  have c3' : w3.cell? ⟨w.heap.size + 1, 3, none⟩ = some vf := hy1.b1.cell 3
                  have f3' := hy1.b1.frozen 3
                  have hy2 := hide (hy1.setF hgl v3)
                  obtain ⟨A3, k3, rfl⟩ := own_slice o4
                  clear hTw hx1 hnew c3 f3 d0 o3 g3 e3 o4 hy1 hgw hwz
                  go_upto_region 17 with (fail)
                  obtain ⟨wd, hwd⟩ : ∃ y, y = w3.setCell ⟨w.heap.size + 1, 3, none⟩ (.slice A3 (acc.length + 1) k3) := ⟨_, rfl⟩
                  rw [← hwd] at hy2 ⊢
                  clear hwd c3' f3'
                  have hx2 := hide (hy2.out.alloc (.cells #[.int .i64 b] 3))
                  have hnew2 := hide (Blk.new wd 3 #[.int .i64 b])
                  have c4 : wd.cell? ⟨w.heap.size + 1, 4, none⟩ = some vt := hy2.out.b1.cell 4
                  have f4 := hy2.out.b1.frozen 4
                  have d0 : wd.cell? ⟨g + 1, 0, none⟩ = some (.int .i64 b) := hy2.out.b7.cell 0
                  have hgw := hy2.out.b7.lt
                  have hwz := hy2.out.low.size
                  go_wp2_with (refine wpList_append_any _ rfl _ _ 83 rfl (w.heap.size + 2) 3 i0 _ 1 8 Tryz.underlying83 hi0.out hz0.out hz1.out hz2.out rfl (by omega) vt _ _ rfl hx2.out.o2 (wd.heap.size + 1) (some ⟨wd.heap.size, 0, none⟩) 1 1 (iv [b]) rfl (blk_reads_one hnew2.out) (iv_one _) (max_ok hle) (by omega) (alloc_ge (by omega)) ?_)
                  intro v4 w4' o3 g3 e3
                  have o4 : OI w4' (w.heap.size + 2) v4 (acc.length + 1) (acc.map (·.2) ++ [b]) := by unfold OI; rw [iv_append]; exact o3
                  have hy3 := hx2.out.growT g3 (by simpa using e3) o4
                  have c4' : w4'.cell? ⟨w.heap.size + 1, 4, none⟩ = some vt := hy3.b1.cell 4
                  have f4' := hy3.b1.frozen 4
                  have hy4 := hide (hy3.setT hgl v4)
                  obtain ⟨A4, k4, rfl⟩ := own_slice o4
                  clear hy2 hx2 hnew2 c4 f4 d0 o3 g3 e3 o4 hy3 hgw hwz
                  go_upto_region 18 with (fail)
                  obtain ⟨we, hwe⟩ : ∃ y, y = w4'.setCell ⟨w.heap.size + 1, 4, none⟩ (.slice A4 (acc.length + 1) k4) := ⟨_, rfl⟩
                  rw [← hwe] at hy4 ⊢
                  clear hwe c4' f4'
                  have d1 : we.cell? ⟨g + 1, 1, none⟩ = some (.int .i64 q2) := hy4.out.b7.cell 1
                  go_wp2_with fail
                  go_roundw
                  case rel =>
                    refine ⟨q2, acc ++ [(a, b)], _, _, by go_num, hq2n, by simp; omega, hy4.out.b0, hy4.out.b1, ?_, ?_, hy4.out.dis, hy4.out.low, hRn.out⟩
                    · have := hy4.out.o1
                      simpa using this
                    · have := hy4.out.o2
                      simpa using this
                  case measure => simp [intOf]; omega
end Go.Proofs.YtnnjcedlomfhoaaGreatDoor
namespace Go.Proofs.YtnnjcedlomfhoaaGreatDoor
open Go.RowKit
set_option linter.unusedVariables false
/-- A part's five cells. -/
def PrtR (w : World) (base : Nat) (cs : List Value) : Prt → Prop
  | .self c => cs = [.int .i64 0, .int .i64 c, .bool false, .slice none 0 0, .slice none 0 0]
  | .one => cs = [.int .i64 1, .int .i64 0, .bool false, .slice none 0 0, .slice none 0 0]
  | .stars d => cs = [.int .i64 (if d = true then 3 else 2), .int .i64 0, .bool false, .slice none 0 0, .slice none 0 0]
  | .cls no l => ∃ vf vt, cs = [.int .i64 4, .int .i64 0, .bool no, vf, vt] ∧ (∃ A k, vf = .slice A l.length k) ∧ (∃ A k, vt = .slice A l.length k) ∧ OI w base vf l.length (l.map (·.1)) ∧ OI w base vt l.length (l.map (·.2))
theorem PrtR.keep {w w' : World} {base : Nat} {cs : List Value} {p : Prt} (h : PrtR w base cs p) (hk : ∀ (u : Value) (n : Nat) (l : List Int), OI w base u n l → OI w' base u n l) : PrtR w' base cs p := by
  cases p with
  | self c => exact h
  | one => exact h
  | stars d => exact h
  | cls no l =>
    obtain ⟨vf, vt, e, h1, h2, h3, h4⟩ := h
    exact ⟨vf, vt, e, h1, h2, hk _ _ _ h3, hk _ _ _ h4⟩
theorem PrtR.more {w : World} {base b' : Nat} {cs : List Value} {p : Prt} (h : PrtR w base cs p) (hb : b' ≤ base) : PrtR w b' cs p := by
  cases p with
  | self c => exact h
  | one => exact h
  | stars d => exact h
  | cls no l =>
    obtain ⟨vf, vt, e, h1, h2, h3, h4⟩ := h
    exact ⟨vf, vt, e, h1, h2, ownI_more h3 hb, ownI_more h4 hb⟩
def RowR (w : World) (base : Nat) (vs : List (List Value)) (ps : List Prt) : Prop := vs.length = ps.length ∧ ∀ (k : Nat) cs p, vs[k]? = some cs → ps[k]? = some p → cs.length = 5 ∧ PrtR w base cs p
theorem RowR.keep {w w' : World} {base : Nat} {vs : List (List Value)} {ps : List Prt} (h : RowR w base vs ps) (hk : ∀ (u : Value) (n : Nat) (l : List Int), OI w base u n l → OI w' base u n l) : RowR w' base vs ps :=
  ⟨h.1, fun k cs p h1 h2 => ⟨(h.2 k cs p h1 h2).1, (h.2 k cs p h1 h2).2.keep hk⟩⟩
theorem RowR.more {w : World} {base b' : Nat} {vs : List (List Value)} {ps : List Prt} (h : RowR w base vs ps) (hb : b' ≤ base) : RowR w b' vs ps :=
  ⟨h.1, fun k cs p h1 h2 => ⟨(h.2 k cs p h1 h2).1, (h.2 k cs p h1 h2).2.more hb⟩⟩
theorem RowR.snoc {w : World} {base : Nat} {vs : List (List Value)} {ps : List Prt} {cs : List Value} {p : Prt} (h : RowR w base vs ps) (hl : cs.length = 5) (hv : PrtR w base cs p) : RowR w base (vs ++ [cs]) (ps ++ [p]) := by
  refine ⟨by simp [h.1], fun k c q h1 h2 => ?_⟩
  rcases Nat.lt_or_ge k vs.length with hk | hk
  · rw [List.getElem?_append_left hk] at h1
    rw [List.getElem?_append_left (by rw [← h.1]; exact hk)] at h2
    exact h.2 k c q h1 h2
  · rw [List.getElem?_append_right hk] at h1
    rw [List.getElem?_append_right (by rw [← h.1]; exact hk), ← h.1] at h2
    generalize k - vs.length = j at h1 h2
    cases j with
    | zero => simp at h1 h2; subst h1 h2; exact ⟨hl, hv⟩
    | succ j => simp at h1
theorem rpart_info : (Tryz.prog.info? 126).map (fun i => (i.zero, i.size, i.bytes)) = some (some (.agg #[.int .i64 0, .int .i64 0, .bool false, .slice none 0 0, .slice none 0 0]), 5, 72) := by kernel_rfl
theorem op_blk {w : World} {b n : Nat} {v : Value} {xs : List Value} (h : w.ownsRow b 126 5 v n xs) {k : Nat} (hk : v.ownBlock = some k) : b ≤ k ∧ k < w.heap.size ∧ ∃ cs, Blk w k 126 cs := by
  rcases h.2 with ⟨rfl, _⟩ | ⟨g', cap, cur, rfl, hg', hh, _⟩
  · simp [Value.ownBlock] at hk
  · simp [Value.ownBlock] at hk
    subst hk
    exact ⟨hg', Blk.lt (t := 126) (cs := cur) hh, _, hh⟩
theorem op_keep {w w' : World} {b n : Nat} {v : Value} {xs : List Value} (h : w.ownsRow b 126 5 v n xs) (hk : ∀ k, v.ownBlock = some k → w'.heap[k]? = w.heap[k]?) : w'.ownsRow b 126 5 v n xs := by
  obtain ⟨h1, h2⟩ := h
  refine ⟨h1, ?_⟩
  rcases h2 with h2 | ⟨g, cap, cur, rfl, hg', hh, r⟩
  · exact Or.inl h2
  · exact Or.inr ⟨g, cap, cur, rfl, hg', by rw [hk g rfl]; exact hh, r⟩
theorem op_more {w : World} {b b' n : Nat} {v : Value} {xs : List Value} (h : w.ownsRow b 126 5 v n xs) (hb : b' ≤ b) : w.ownsRow b' 126 5 v n xs := by
  obtain ⟨h1, h2⟩ := h
  refine ⟨h1, ?_⟩
  rcases h2 with h2 | ⟨g, cap, cur, rfl, hg', hh, r⟩
  · exact Or.inl h2
  · exact Or.inr ⟨g, cap, cur, rfl, by omega, hh, r⟩
/-- The pattern that is made. -/
structure GS (wk : World) (G : Nat) (ps : List Prt) (v : Value) (vs : List (List Value)) (wr : World) : Prop where
  bg : Blk wr G 101 #[v, .int .i64 0]
  own : wr.ownsRow (G + 1) 126 5 v ps.length vs.flatten
  row : RowR wr (G + 1) vs ps
  low : Below G wk wr
section
variable {wk wr w' : World} {G : Nat} {ps : List Prt} {v v' : Value} {vs : List (List Value)} {cs : List Value} {p : Prt}
theorem GS.alloc (h : GS wk G ps v vs wr) (o : Obj) : GS wk G ps v vs (wr.alloc o) :=
  ⟨h.bg.alloc o, World.ownsRow.alloc h.own o, h.row.keep (fun _ _ _ ho => World.ownsRow.alloc ho o), h.low.alloc (by have := h.bg.lt; omega) o⟩
theorem GS.later (h : GS wk G ps v vs wr) (hb : Below wr.heap.size wr w') : GS wk G ps v vs w' :=
  ⟨h.bg.below hb h.bg.lt, op_keep h.own (fun k hk => hb.block k (op_blk h.own hk).2.1), h.row.keep (fun _ _ _ ho => ownI_keep ho (fun k _ hk => hb.block k hk)), h.low.trans (hb.mono (by have := h.bg.lt; omega))⟩
theorem GS.snoc (h : GS wk G ps v vs wr) (hp : PrtR wr (G + 1) cs p) (hl : cs.length = 5) (hg : wr.grownBy w' v.ownBlock) (ho : w'.ownsRow (G + 1) 126 5 v' (ps.length + 1) (vs.flatten ++ cs)) :
    Blk w' G 101 #[v, .int .i64 0] ∧ GS wk G (ps ++ [p]) v' (vs ++ [cs]) (w'.setCell ⟨G, 0, none⟩ v') := by
  have hGne : some G ≠ v.ownBlock := fun e => by have := (op_blk h.own e.symm).1; omega
  have hk : ∀ (u : Value) (n : Nat) (l : List Int), OI wr (G + 1) u n l → OI (w'.setCell ⟨G, 0, none⟩ v') (G + 1) u n l := fun u n l hu =>
    oi_set (oi_grown hu hg (fun k e e2 => by
      obtain ⟨-, -, cs1, h1⟩ := op_blk h.own e2
      obtain ⟨-, cs2, h2⟩ := oi_blk hu e
      exact h1.ne_ h2 (by decide) rfl)) (by simp) _
  have hb := h.bg.grown hg hGne
  refine ⟨hb, hb.set_ 0 v', ?_, (h.row.keep hk).snoc hl (hp.keep hk), ?_⟩
  · have e : (vs ++ [cs]).flatten = vs.flatten ++ cs := by simp
    rw [e, List.length_append, List.length_singleton]
    exact op_keep ho (fun k hk => Below.heap_setCell w' ⟨G, 0, none⟩ v' k (fun e => by have := (op_blk ho hk).1; simp at e; omega))
  · exact below_set (h.low.grown hg (by have := h.bg.lt; omega) (fun k hk => by have := (op_blk h.own hk).1; omega)) (by omega) v'
end
theorem wpList_app_r {ops : Array Oper} {rest : List Oper} {o : Oper} {a : Act} {Q : Exit → Act → World → Prop} {wk wr : World} {G : Nat} {ps : List Prt} {v : Value} {vs : List (List Value)} {cs : List Value} {p : Prt}
    (hgd : o.guard = none) (s x : Operand) (ho : o.op = .call { callee := .builtin .append, args := #[s, x], argTypes := #[99, 99] }) (h : GS wk G ps v vs wr) (hs : a.eval s = v) (g : Nat) (hx : a.eval x = .slice (some ⟨g, 0, none⟩) 1 1)
    (hc : Blk wr g 126 cs.toArray) (hl : cs.length = 5) (h1 : ∀ u ∈ cs, u.oneCell' = true) (hp : PrtR wr (G + 1) cs p) (hle : ps.length ≤ 1000)
    (hk : ∀ v' w', GS wk G (ps ++ [p]) v' (vs ++ [cs]) (w'.setCell ⟨G, 0, none⟩ v') → Blk w' G 101 #[v, .int .i64 0] → wpList Tryz.prog ops Q rest (a.put o.dst v') w') : wpList Tryz.prog ops Q (o :: rest) a wr := by
  obtain ⟨i0, hi0, hz0, hz1, hz2⟩ := info_parts rpart_info
  refine wpList_append_any wr hgd s x 99 ho (G + 1) 126 i0 _ 5 72 Tryz.underlying99 hi0 hz0 hz1 hz2 rfl (by omega) v _ _ hs h.own (g + 1) (some ⟨g, 0, none⟩) 1 1 cs hx ⟨by simp [hl], fun _ => ⟨_, rfl, by simp, fun j u hj => ?_⟩⟩ h1 (by simp only [maxLen]; omega) (by omega) (by have := h.bg.lt; omega) fun v' w' h2 h3 h4 => ?_
  · rw [show (⟨g, 0, none⟩ : Addr).add j = ⟨g, j, none⟩ from by unfold Addr.add; split <;> simp_all, hc.cell]
    simpa using hj
  · obtain ⟨hB, hG⟩ := h.snoc hp hl h3 h2
    exact hk v' w' hG hB
theorem GS.form {wk wr : World} {G : Nat} {ps : List Prt} {v : Value} {vs : List (List Value)} (h : GS wk G ps v vs wr) : ∃ A n k, v = .slice A n k := by
  rcases h.own.2 with ⟨rfl, _⟩ | ⟨g', cap, cur, rfl, _⟩
  · exact ⟨_, _, _, rfl⟩
  · exact ⟨_, _, _, rfl⟩
theorem wpList_app_r2 {ops : Array Oper} {rest : List Oper} {o : Oper} {a : Act} {Q : Exit → Act → World → Prop} {wk wr : World} {G : Nat} {ps : List Prt} {v : Value} {vs : List (List Value)} {cs : List Value} {p : Prt}
    (hgd : o.guard = none) (s x : Operand) (ho : o.op = .call { callee := .builtin .append, args := #[s, x], argTypes := #[99, 99] }) (h : GS wk G ps v vs wr) (hs : a.eval s = v) (g : Nat) (hx : a.eval x = .slice (some ⟨g, 0, none⟩) 1 1)
    (hc : Blk wr g 126 cs.toArray) (hl : cs.length = 5) (h1 : ∀ u ∈ cs, u.oneCell' = true) (hp : PrtR wr (G + 1) cs p) (hle : ps.length ≤ 1000)
    (hk : ∀ v' w', GS wk G (ps ++ [p]) v' (vs ++ [cs]) (w'.setCell ⟨G, 0, none⟩ v') → Blk w' G 101 #[v, .int .i64 0] → (∀ j, j < wr.heap.size → v.ownBlock ≠ some j → w'.heap[j]? = wr.heap[j]?) → wpList Tryz.prog ops Q rest (a.put o.dst v') w') : wpList Tryz.prog ops Q (o :: rest) a wr := by
  obtain ⟨i0, hi0, hz0, hz1, hz2⟩ := info_parts rpart_info
  refine wpList_append_any wr hgd s x 99 ho (G + 1) 126 i0 _ 5 72 Tryz.underlying99 hi0 hz0 hz1 hz2 rfl (by omega) v _ _ hs h.own (g + 1) (some ⟨g, 0, none⟩) 1 1 cs hx ⟨by simp [hl], fun _ => ⟨_, rfl, by simp, fun j u hj => ?_⟩⟩ h1 (by simp only [maxLen]; omega) (by omega) (by have := h.bg.lt; omega) fun v' w' h2 h3 h4 => ?_
  · rw [show (⟨g, 0, none⟩ : Addr).add j = ⟨g, j, none⟩ from by unfold Addr.add; split <;> simp_all, hc.cell]
    simpa using hj
  · obtain ⟨hB, hG⟩ := h.snoc hp hl h3 h2
    exact hk v' w' hG hB (fun j hj hne => h3.block j hj (fun e => hne e.symm))
/-- The class's part in its own block. -/
theorem cls_world {wk w3 : World} {G : Nat} {ps : List Prt} {v : Value} {vs : List (List Value)} {no : Bool} {vf vt : Value} {acc : List (Int × Int)} (h : GS wk G ps v vs w3) (hp : PrtR w3 (G + 1) [.int .i64 4, .int .i64 0, .bool no, vf, vt] (.cls no acc)) :
    GS wk G ps v vs (w3.alloc (.cells #[.int .i64 4, .int .i64 0, .bool no, vf, vt] 126)) ∧ Blk (w3.alloc (.cells #[.int .i64 4, .int .i64 0, .bool no, vf, vt] 126)) w3.heap.size 126 #[.int .i64 4, .int .i64 0, .bool no, vf, vt] ∧
    PrtR (w3.alloc (.cells #[.int .i64 4, .int .i64 0, .bool no, vf, vt] 126)) (G + 1) [.int .i64 4, .int .i64 0, .bool no, vf, vt] (.cls no acc) :=
  ⟨h.alloc _, Blk.new _ _ _, hp.keep (fun u m z ho => World.ownsRow.alloc ho _)⟩
def GNI (wk : World) (G n : Nat) (l : List Int) (R : Option (List Prt)) (v6 : Value) (wr : World) : Prop :=
  ∃ (p : Nat) (ps : List Prt) (v : Value) (vs : List (List Value)), v6 = .int .i64 p ∧ p ≤ n ∧ ps.length ≤ p ∧ GS wk G ps v vs wr ∧ R = globA ps (l.drop p)
def RGRet (w : World) (s : List UInt8) (e : Ending) (w' : World) : Prop := Below w.heap.size w w' ∧
  ((∃ ps v vs, globP s = some ps ∧ e = .returned (.agg #[v, .int .i64 0]) ∧ w'.ownsRow w.heap.size 126 5 v ps.length vs.flatten ∧ RowR w' w.heap.size vs ps) ∨ (globP s = none ∧ e = .returned (.agg #[.slice none 0 0, .int .i64 (globE s)])))
theorem RGRet.err {w w' : World} {s : List UInt8} {e : Ending} (h : RGRet w s e w') : ∃ v, e = .returned (.agg #[v, .int .i64 (globE s)]) := by
  rcases h.2 with ⟨ps, v, vs, h1, h2, _⟩ | ⟨h1, h2⟩
  · refine ⟨v, ?_⟩
    have hv : ¬ (100 < s.length ∨ Lib.validD s = false) := fun c => by rw [globP, if_pos c] at h1; cases h1
    have e0 : globE s = 0 := by
      unfold globE
      rw [if_neg (fun c => hv (.inl c)), if_neg (fun c => hv (.inr c)), h1]; rfl
    rw [h2, e0]
  · exact ⟨_, h2⟩
theorem lit_one {a b : Int} {c : Bool} {x y u v : Nat} {A B : Option Addr} (_U : Unit) : ∀ z ∈ [Value.int .i64 a, Value.int .i64 b, Value.bool c, Value.slice A x y, Value.slice B u v], z.oneCell' = true := by
  intro z hz
  simp at hz
  rcases hz with rfl | rfl | rfl | rfl | rfl <;> rfl
theorem pairR_suf {l : List Int} {x : Int × Int} {r : List Int} (h : pairR l = some (x, r)) : r <:+ l := by
  unfold pairR at h
  cases hp : plainR l with
  | none => rw [hp] at h; cases h
  | some y =>
    obtain ⟨a, r1⟩ := y
    have h1 := plainR_suf hp
    rw [hp] at h
    simp only [] at h
    split at h
    · cases hq : plainR r1.tail with
      | none => rw [hq] at h; cases h
      | some z =>
        obtain ⟨b, s⟩ := z
        have h2 := (plainR_suf hq).trans ((List.tail_suffix r1).trans h1)
        rw [hq] at h
        simp only [] at h
        split at h
        · cases h
        · cases h; exact h2
    · cases h; exact h1
theorem classR_suf : ∀ (f : Nat) (acc : List (Int × Int)) (l : List Int) {x : List (Int × Int)} {r : List Int}, classR f acc l = some (x, r) → r <:+ l
  | 0, _, _, _, _, h => by cases h
  | f + 1, acc, l, x, r, h => by
    rw [classR] at h
    split at h
    · cases h; exact List.tail_suffix l
    · cases hp : pairR l with
      | none => rw [hp] at h; cases h
      | some y =>
        obtain ⟨p, s⟩ := y
        rw [hp] at h
        exact (classR_suf f _ s h).trans (pairR_suf hp)
theorem partR_63 (r : List Int) : partR (63 :: r) = some (.one, r) := by simp [partR, isR]
theorem partR_42 (r : List Int) : partR (42 :: r) = some (.stars (isR 42 r), if isR 42 r = true then r.tail else r) := by simp [partR, isR]
theorem partR_91 (r : List Int) : partR (91 :: r) = (classR (r.length + 2) [] (if isR 33 r = true then r.tail else r)).map fun x => (.cls (isR 33 r) x.1, x.2) := by simp [partR, isR]
theorem partR_else {x : Int} (r : List Int) (h1 : x ≠ 63) (h2 : x ≠ 42) (h3 : x ≠ 91) : partR (x :: r) = (plainR (x :: r)).map fun y => (.self y.1, y.2) := by simp [partR, isR, h1, h2, h3]
set_option maxRecDepth 100000 in
set_option maxHeartbeats 8000000 in
theorem rgnew_any (w : World) (s : ByteArray) : Calls Tryz.prog 51 #[.string s] w (RGRet w s.data.toList) := by
  by_cases h1 : 100 < s.size
  · have hr : Hid (globP s.data.toList = none) := by rw [Hid, globP, data_len, if_pos (.inl h1)]
    have he : Hid ((10 : Int) = globE s.data.toList) := by rw [Hid, globE, data_len, if_pos h1]
    go_enter Tryz.func51, Tryz.ntmps51
    go_wp2_with fail
    refine bodyPost_ret (v := .agg #[.slice none 0 0, .int .i64 10]) (by simp [results, Tryz.results51, go_sem]) rfl ⟨?_, .inr ⟨hr.out, by rw [← he.out]⟩⟩
    repeat refine below_set ?_ (by omega) _
    exact (Below.refl _ _).alloc (Nat.le_refl _) _
  · have hs : s.size ≤ 100 := by omega
    clear h1
    obtain ⟨K, C, hcv, hKC⟩ : ∃ (K : World → Nat) (C : World → Obj), (∀ w, (convert 9 32 (.string s)).run Tryz.prog w = .ok (.slice (some ⟨w.heap.size, 0, none⟩) s.size (K w)) (w.drew.alloc (C w))) ∧
        Hid (∀ w, s.size ≤ K w ∧ RB (w.drew.alloc (C w)) (w.heap.size + 1) (some ⟨w.heap.size, 0, none⟩) s.size s.data.toList) := by
      refine ⟨fun w => grownCap w s.size 0 5, fun w => .cells (bytesRow s (grownCap w s.size 0 5)) 5 ((bytesRow s (grownCap w s.size 0 5)).size, (bytesRow s (grownCap w s.size 0 5)).size + 1), fun w => run_bytes_of_string w 9 32 5 s Tryz.underlying9 Tryz.underlying32 Tryz.underlying5, fun w => ⟨grownCap_ge _ _ _ _, by simp [bv], fun _ => ⟨_, rfl, by simp, fun j u hj => ?_⟩⟩⟩
      have hh : (w.drew.alloc (.cells (bytesRow s (grownCap w s.size 0 5)) 5 ((bytesRow s (grownCap w s.size 0 5)).size, (bytesRow s (grownCap w s.size 0 5)).size + 1))).heap[w.heap.size]? = some (.cells (bytesRow s (grownCap w s.size 0 5)) 5 ((bytesRow s (grownCap w s.size 0 5)).size, (bytesRow s (grownCap w s.size 0 5)).size + 1)) := heap_alloc_new _ _
      rw [show (⟨w.heap.size, 0, none⟩ : Addr).add j = ⟨w.heap.size, j, none⟩ from by unfold Addr.add; split <;> simp_all, cell_of_row _ _ _ _ _ _ hh]
      have hj2 := (List.getElem?_eq_some_iff.1 hj).1
      simp [bv] at hj2
      unfold bytesRow
      rw [Array.getElem?_append_left (by simpa using hj2)]
      simpa [bv] using hj
    go_enter Tryz.func51, Tryz.ntmps51
    go_wp2_with fail
    obtain ⟨hK, hRB⟩ := hKC.out (w.alloc (.cells #[.slice none 0 0, .int .i64 0] 101))
    have hwz : (w.alloc (.cells #[.slice none 0 0, .int .i64 0] 101)).heap.size = w.heap.size + 1 := by simp
    have hBr := Blk.new w 101 #[.slice none 0 0, .int .i64 0]
    obtain ⟨wb, hwb⟩ : ∃ x, x = ((w.alloc (.cells #[.slice none 0 0, .int .i64 0] 101)).alloc (C (w.alloc (.cells #[.slice none 0 0, .int .i64 0] 101)))).drew := ⟨_, rfl⟩
    have hzb : wb.heap.size = w.heap.size + 2 := by rw [hwb]; simp
    have hBrb : Blk wb w.heap.size 101 #[.slice none 0 0, .int .i64 0] := by rw [hwb]; exact (hBr.alloc _).drew
    have hbb : Below w.heap.size w wb := by rw [hwb]; exact (((Below.refl w.heap.size w).alloc (Nat.le_refl _) _).alloc (by simp) _).drew
    rw [hwz] at hRB
    replace hRB : RB wb (w.heap.size + 1 + 1) (some ⟨w.heap.size + 1, 0, none⟩) s.size s.data.toList := by rw [hwb]; exact hRB
    rw [← hwb]
    clear hwb hcv hKC hBr
    refine (read_any wb _ s.size _ s.data.toList (hRB.more (by omega)) (by omega) hK).mono ?_
    rintro e w2 ⟨hb2, hrr⟩
    have hBr2 := hBrb.below hb2 (by omega)
    have hbw2 := hbb.trans (hb2.mono (by omega))
    have hz2 := hb2.size
    clear hRB hBrb hbb
    rw [readA_law] at hrr
    rcases hrr with ⟨l, v, hl, rfl, hO⟩ | ⟨hl, rfl⟩
    · have hv : Lib.validD s.data.toList = true := by
        cases hv : Lib.validD s.data.toList with
        | true => rfl
        | false => rw [hv] at hl; simp at hl
      rw [if_pos hv] at hl
      have hl0 : runesG (str s.data.toList) = l := by simpa using hl
      have hlen : l.length ≤ 100 := by have := runesG_len (str s.data.toList); rw [hl0, str_size, data_len] at this; omega
      have hP : Hid (globP s.data.toList = globA [] l) := by rw [Hid, globP_eq _ (by rw [data_len]; omega) hv, hl0]
      have hE : Hid (globP s.data.toList = none → globE s.data.toList = 4) := fun h => by rw [globE, data_len, if_neg (by omega), if_neg (by rw [hv]; simp), h]; rfl
      obtain ⟨R, hR⟩ : ∃ R, R = globP s.data.toList := ⟨_, rfl⟩
      obtain ⟨n, hn⟩ : ∃ n, n = l.length := ⟨_, rfl⟩
      obtain ⟨A, k, rfl⟩ := own_slice hO
      have hRI : RI w2 w2.heap.size A l.length l := Reads.of_own hO
      rw [← hn] at hRI hlen ⊢
      replace hn := hide hn
      have hGS := hide (show GS ((w2.alloc (.cells #[.slice A n k, .bool true] 85)).alloc (.cells #[.slice none 0 0, .int .i64 0] 101)) (w2.heap.size + 1) [] (.slice none 0 0) [] ((w2.alloc (.cells #[.slice A n k, .bool true] 85)).alloc (.cells #[.slice none 0 0, .int .i64 0] 101)) from by
        refine ⟨?_, ⟨by simp, .inl ⟨rfl, rfl⟩⟩, ⟨rfl, fun k v p h => by simp at h⟩, Below.refl _ _⟩
        have := Blk.new (w2.alloc (.cells #[.slice A n k, .bool true] 85)) 101 #[.slice none 0 0, .int .i64 0]
        rw [show (w2.alloc (.cells #[.slice A n k, .bool true] 85)).heap.size = w2.heap.size + 1 from by simp] at this
        exact this)
      have hRIk := hide (show RI ((w2.alloc (.cells #[.slice A n k, .bool true] 85)).alloc (.cells #[.slice none 0 0, .int .i64 0] 101)) w2.heap.size A n l from hRI.below (((Below.refl _ _).alloc (Nat.le_refl _) _).alloc (by simp) _))
      have hBrk := hide ((hBr2.alloc (.cells #[.slice A n k, .bool true] 85)).alloc (.cells #[.slice none 0 0, .int .i64 0] 101))
      have hbwk := hide ((hbw2.alloc (by omega) (.cells #[.slice A n k, .bool true] 85)).alloc (by simp; omega) (.cells #[.slice none 0 0, .int .i64 0] 101))
      obtain ⟨G, hG⟩ : ∃ G, G = w2.heap.size + 1 := ⟨_, rfl⟩
      have hwG : w.heap.size + 2 < G := by omega
      rw [← hR] at hP hE
      have hfin : Hid (∀ o, R = some o → globP s.data.toList = some o) := fun o e => by rw [← hR, e]
      have hfinN : Hid (R = none → globP s.data.toList = none) := fun e => by rw [← hR, e]
      clear hl hl0 hO hBr2 hbw2 hv hRI hb2 hzb hK hR
      go_wp2_with fail
      obtain ⟨wk, hwk⟩ : ∃ x, x = (w2.alloc (.cells #[.slice A n k, .bool true] 85)).alloc (.cells #[.slice none 0 0, .int .i64 0] 101) := ⟨_, rfl⟩
      rw [← hwk, ← hG] at hGS
      rw [← hwk] at hRIk hBrk hbwk ⊢
      rw [← hG]
      have hRIG := hide (hRIk.out.more (show w2.heap.size ≤ G by omega))
      clear hwk hRIk hwz hz2
      have hst : Hid (GNI wk G n l R (.int .i64 0) wk) := ⟨0, [], _, [], rfl, by omega, by simp, hGS.out, by rw [hP.out]; rfl⟩
      clear hGS hP hG
      go_loopw [6] (fun v6 wr => GNI wk G n l R v6 wr) (fun v6 _ => n - (intOf v6).toNat)
      case atStart => exact hst.out
      case round =>
        clear hst
        obtain ⟨p, ps, v, vs, rfl, hp, hac, hGS, hga⟩ := hrel
        have hRI := hRIG.out.below hGS.low
        have hps : ps.length ≤ 1000 := by omega
        cases hd : l.drop p with
        | nil =>
          have q1 : ¬ (p : Int) < (n : Int) := by
            have : (l.drop p).length = 0 := by rw [hd]; rfl
            have hn' := hn.out
            simp at this; omega
          have hres : Hid (globP s.data.toList = some ps) := hfin.out _ (by rw [hga, hd, globA_nil])
          have hbw : Below w.heap.size w wr := hbwk.out.trans (hGS.low.mono (by omega))
          have hBr := hBrk.out.below hGS.low (by omega)
          have c0 : wr.cell? ⟨G, 0, none⟩ = some v := hGS.bg.cell 0
          have c1 : wr.cell? ⟨G, 1, none⟩ = some (.int .i64 0) := hGS.bg.cell 1
          have f0 := hGS.bg.frozen 0
          have f1 := hGS.bg.frozen 1
          have q0 := hBr.cell 0
          have q1' := hBr.cell 1
          have g0 := hBr.frozen 0
          have g1 := hBr.frozen 1
          obtain ⟨A1, n1, k1, rfl⟩ : ∃ A n k, v = .slice A n k := by
            rcases hGS.own.2 with ⟨rfl, _⟩ | ⟨g', cap, cur, rfl, _⟩
            · exact ⟨_, _, _, rfl⟩
            · exact ⟨_, _, _, rfl⟩
          have hGe : G ≠ w.heap.size := by omega
          have hfw : Hid (∀ a b, ((wr.setCell ⟨w.heap.size, 0, none⟩ a).setCell ⟨w.heap.size, 1, none⟩ b).ownsRow w.heap.size 126 5 (.slice A1 n1 k1) ps.length vs.flatten ∧ RowR ((wr.setCell ⟨w.heap.size, 0, none⟩ a).setCell ⟨w.heap.size, 1, none⟩ b) w.heap.size vs ps) := by
            intro a b
            refine ⟨op_more (op_keep (op_keep hGS.own (fun k hk => Below.heap_setCell _ ⟨w.heap.size, 0, none⟩ a k ?_)) (fun k hk => Below.heap_setCell _ ⟨w.heap.size, 1, none⟩ b k ?_)) (by omega), (hGS.row.keep (fun u n l ho => oi_set (oi_set ho (by simp; omega) _) (by simp; omega) _)).more (by omega)⟩
            · have := (op_blk hGS.own hk).1; simp; omega
            · have := (op_blk hGS.own hk).1; simp; omega
          clear hBr hGS hga hd hRI
          go_wp2_with fail
          refine bodyPost_ret (v := .agg #[.slice A1 n1 k1, .int .i64 0]) (by simp [results, Tryz.results51, go_sem, q0, q1']) rfl ⟨?_, .inl ⟨ps, _, vs, hres.out, rfl, hfw.out _ _⟩⟩
          repeat refine below_set ?_ (by omega) _
          exact hbw
        | cons x r =>
          obtain ⟨ad, rfl, q1, hrd, hrl, c0, hb0⟩ := elem_at hRI hd
          have q1' : (p : Int) < (n : Int) := by omega
          have hp2 : p + 1 ≤ n := by omega
          by_cases h63 : x = 63
          · have e1 : (x == 63) = true := by simp [h63]
            have hres : Hid (R = globA (ps ++ [.one]) (l.drop (p + 1))) := by rw [Hid, hga, hd, h63, globA_step ps (partR_63 r), hrd]
            clear hga hd h63 hrd hrl hRI
            have hGA := hide (hGS.alloc (.cells #[.int .i64 1, .int .i64 0, .bool false, .slice none 0 0, .slice none 0 0] 126))
            have hnew := hide (Blk.new wr 126 #[.int .i64 1, .int .i64 0, .bool false, .slice none 0 0, .slice none 0 0])
            have hGN := hide hGS
            have d0 : wr.cell? ⟨G, 0, none⟩ = some v := hGS.bg.cell 0
            have f0 := hGS.bg.frozen 0
            clear hGS
            go_wp2_with (refine wpList_app_r (cs := [.int .i64 1, .int .i64 0, .bool false, .slice none 0 0, .slice none 0 0]) (p := (.one)) rfl _ _ rfl hGA.out rfl wr.heap.size rfl hnew.out rfl (lit_one ()) rfl hps ?_)
            intro v' w' hG' hB'
            obtain ⟨A', n', k', rfl⟩ := hG'.form
            have c1 : w'.cell? ⟨G, 0, none⟩ = some v := hB'.cell 0
            have f1 := hB'.frozen 0
            replace hG' := hide hG'
            clear hB' hGA hnew hGN d0 f0
            go_wp2_with fail
            go_roundw
            case rel => exact ⟨p + 1, _, _, _, by go_num, by omega, by simp; omega, hG'.out, hres.out⟩
            case measure => simp [intOf]; omega
          · have e1 : (x == 63) = false := by simp [h63]
            by_cases h42 : x = 42
            · have e2 : (x == 42) = true := by simp [h42]
              cases r with
              | nil =>
                have n2 : ¬ (p : Int) + 1 < (n : Int) := by simp at hrl; omega
                have hw1 : (p : Int) + 1 < 2000 := by omega
                have hres : Hid (R = globA (ps ++ [.stars false]) (l.drop (p + 1))) := by rw [Hid, hga, hd, h42, globA_step ps (partR_42 []), ← hrd]; rfl
                clear hga hd h63 h42 hrd hrl hRI
                have hGA := hide (hGS.alloc (.cells #[.int .i64 2, .int .i64 0, .bool false, .slice none 0 0, .slice none 0 0] 126))
                have hnew := hide (Blk.new wr 126 #[.int .i64 2, .int .i64 0, .bool false, .slice none 0 0, .slice none 0 0])
                have hGN := hide hGS
                have d0 : wr.cell? ⟨G, 0, none⟩ = some v := hGS.bg.cell 0
                have f0 := hGS.bg.frozen 0
                clear hGS
                go_wp2_with (refine wpList_app_r (cs := [.int .i64 2, .int .i64 0, .bool false, .slice none 0 0, .slice none 0 0]) (p := (.stars false)) rfl _ _ rfl hGA.out rfl wr.heap.size rfl hnew.out rfl (lit_one ()) rfl hps ?_)
                intro v' w' hG' hB'
                obtain ⟨A', n', k', rfl⟩ := hG'.form
                have c1 : w'.cell? ⟨G, 0, none⟩ = some v := hB'.cell 0
                have f1 := hB'.frozen 0
                replace hG' := hide hG'
                clear hB' hGA hnew hGN d0 f0
                go_wp2_with fail
                go_roundw
                case rel => exact ⟨p + 1, _, _, _, by go_num, by omega, by simp; omega, hG'.out, hres.out⟩
                case measure => simp [intOf]; omega
              | cons y t =>
                have hrd2 : l.drop (p + 1) = y :: t := hrd.symm
                obtain ⟨ad2, e3, q2, hrd3, hrl2, c2, hb2⟩ := elem_at hRI hrd2
                cases e3
                have n2 : (p : Int) + 1 < (n : Int) := by omega
                have hw1 : (p : Int) + 1 < 2000 := by omega
                have c2' := c2
                rw [Addr.add, if_neg (by omega)] at c2'
                by_cases hy : y = 42
                · have e3 : (y == 42) = true := by simp [hy]
                  have hres : Hid (R = globA (ps ++ [.stars true]) (l.drop (p + 2))) := by
                    rw [Hid, hga, hd, h42, globA_step ps (partR_42 (y :: t)), hy]
                    show globA _ t = _
                    rw [hrd3]
                    rfl
                  clear hga hd h63 h42 hrd hrl hRI hy hrd2 hrd3 hrl2
                  have hGA := hide (hGS.alloc (.cells #[.int .i64 3, .int .i64 0, .bool false, .slice none 0 0, .slice none 0 0] 126))
                  have hnew := hide (Blk.new wr 126 #[.int .i64 3, .int .i64 0, .bool false, .slice none 0 0, .slice none 0 0])
                  have hGN := hide hGS
                  have d0 : wr.cell? ⟨G, 0, none⟩ = some v := hGS.bg.cell 0
                  have f0 := hGS.bg.frozen 0
                  clear hGS
                  go_wp2_with (refine wpList_app_r (cs := [.int .i64 3, .int .i64 0, .bool false, .slice none 0 0, .slice none 0 0]) (p := (.stars true)) rfl _ _ rfl hGA.out rfl wr.heap.size rfl hnew.out rfl (lit_one ()) rfl hps ?_)
                  intro v' w' hG' hB'
                  obtain ⟨A', n', k', rfl⟩ := hG'.form
                  have c1 : w'.cell? ⟨G, 0, none⟩ = some v := hB'.cell 0
                  have f1 := hB'.frozen 0
                  replace hG' := hide hG'
                  clear hB' hGA hnew hGN d0 f0
                  go_wp2_with fail
                  go_roundw
                  case rel => exact ⟨p + 2, _, _, _, by go_num, by omega, by simp; omega, hG'.out, hres.out⟩
                  case measure => simp [intOf]; omega
                · have e3 : (y == 42) = false := by simp [hy]
                  have hres : Hid (R = globA (ps ++ [.stars false]) (l.drop (p + 1))) := by
                    have e4 : isR 42 (y :: t) = false := by simp [isR_cons, hy]
                    rw [Hid, hga, hd, h42, globA_step ps (partR_42 (y :: t)), e4, if_neg (by simp), hrd]
                  clear hga hd h63 h42 hrd hrl hRI hy hrd2 hrd3 hrl2
                  have hGA := hide (hGS.alloc (.cells #[.int .i64 2, .int .i64 0, .bool false, .slice none 0 0, .slice none 0 0] 126))
                  have hnew := hide (Blk.new wr 126 #[.int .i64 2, .int .i64 0, .bool false, .slice none 0 0, .slice none 0 0])
                  have hGN := hide hGS
                  have d0 : wr.cell? ⟨G, 0, none⟩ = some v := hGS.bg.cell 0
                  have f0 := hGS.bg.frozen 0
                  clear hGS
                  go_wp2_with (refine wpList_app_r (cs := [.int .i64 2, .int .i64 0, .bool false, .slice none 0 0, .slice none 0 0]) (p := (.stars false)) rfl _ _ rfl hGA.out rfl wr.heap.size rfl hnew.out rfl (lit_one ()) rfl hps ?_)
                  intro v' w' hG' hB'
                  obtain ⟨A', n', k', rfl⟩ := hG'.form
                  have c1 : w'.cell? ⟨G, 0, none⟩ = some v := hB'.cell 0
                  have f1 := hB'.frozen 0
                  replace hG' := hide hG'
                  clear hB' hGA hnew hGN d0 f0
                  go_wp2_with fail
                  go_roundw
                  case rel => exact ⟨p + 1, _, _, _, by go_num, by omega, by simp; omega, hG'.out, hres.out⟩
                  case measure => simp [intOf]; omega
            · have e2 : (x == 42) = false := by simp [h42]
              by_cases h91 : x = 91
              · have e3 : (x == 91) = true := by simp [h91]
                obtain ⟨no, hno⟩ : ∃ b, b = isR 33 r := ⟨_, rfl⟩
                obtain ⟨oc, hoc⟩ : ∃ o, o = classR (n + 1) [] (if isR 33 (l.drop (p + 1)) = true then l.drop (p + 1 + 1) else l.drop (p + 1)) := ⟨_, rfl⟩
                have hpt : Hid (partR (x :: r) = oc.map fun y => (.cls no y.1, y.2)) := by
                  rw [Hid, h91, partR_91, hoc, hno, ← hrd, show l.drop (p + 1 + 1) = r.tail from by rw [hrd, List.tail_drop]]
                  congr 1
                  split
                  · exact classR_fuel _ _ _ _ (by simp; omega) (by simp; omega)
                  · exact classR_fuel _ _ _ _ (by omega) (by omega)
                have hcs : Hid (∀ acc r', oc = some (acc, r') → r' = l.drop (n - r'.length) ∧ p < n - r'.length ∧ n - r'.length ≤ n) := by
                  intro acc r' e
                  rw [hoc] at e
                  have h1 := classR_suf _ _ _ e
                  have h2 : (if isR 33 (l.drop (p + 1)) = true then l.drop (p + 1 + 1) else l.drop (p + 1)) <:+ l.drop (p + 1) := by
                    split
                    · rw [← List.tail_drop]; exact List.tail_suffix _
                    · exact List.suffix_refl _
                  have h3 := (h1.trans h2).length_le
                  have h4 := List.suffix_iff_eq_drop.1 (h1.trans (h2.trans (List.drop_suffix _ _)))
                  have hn' := hn.out
                  rw [← hn'] at h4
                  simp at h3
                  exact ⟨h4, by omega, by omega⟩
                have hn1000 : n ≤ 1000 := by omega
                have hRIw := hRI.more (show G ≤ wr.heap.size by have := hGS.bg.lt; omega)
                have hGl := hGS.bg.lt
                replace hGS := hide hGS
                replace hga := hide hga
                replace hd := hide hd
                clear h63 h42 h91 hrl hRI
                go_wp2_with fail
                refine (rcls_any wr (some ad) n k l (p + 1) hRIw hp2 hn1000).mono ?_
                rw [← hoc, ← hrd, ← hno]
                rintro e w3 ⟨hb3, hrc⟩
                have hGS3 := hGS.out.later hb3
                have hz3 := hb3.size
                clear hoc hno hrd hRIw hGS
                rcases hrc with ⟨rfl, rfl⟩ | ⟨acc, r', vf, vt, rfl, rfl, ho1, ho2⟩
                · have hres : Hid (R = none) := by rw [Hid, hga.out, hd.out, globA_none ps (by simp) (by rw [hpt.out]; rfl)]
                  have he : Hid ((4 : Int) = globE s.data.toList) := (hE.out hres.out).symm
                  have hbw : Below w.heap.size w w3 := hbwk.out.trans (hGS3.low.mono (by omega))
                  have hBr := (hBrk.out.below hGS3.low (by omega)).alloc (.cells #[.int .i64 (-1), .int .i64 0, .bool false, .slice none 0 0, .slice none 0 0] 126)
                  have q0 := hBr.cell 0
                  have q1' := hBr.cell 1
                  have g0 := hBr.frozen 0
                  have g1 := hBr.frozen 1
                  clear hBr hGS3 hga hd hpt hcs
                  go_wp2_with fail
                  refine bodyPost_ret (v := .agg #[.slice none 0 0, .int .i64 4]) (by simp [results, Tryz.results51, go_sem, q0, q1']) rfl ⟨?_, .inr ⟨hfinN.out hres.out, by rw [← he.out]⟩⟩
                  repeat refine below_set ?_ (by omega) _
                  exact hbw.alloc (by omega) _
                · obtain ⟨hr1, hr2, hr3⟩ := hcs.out acc r' rfl
                  obtain ⟨q, hq⟩ : ∃ q, q = n - r'.length := ⟨_, rfl⟩
                  rw [← hq] at hr1 hr2 hr3 ⊢
                  have hres : Hid (R = globA (ps ++ [.cls no acc]) (l.drop q)) := by
                    rw [Hid, hga.out, hd.out, globA_step ps (by rw [hpt.out]; rfl), hr1]
                  obtain ⟨A1, k1, hv1⟩ := own_slice ho1
                  obtain ⟨A2, k2, hv2⟩ := own_slice ho2
                  have hpr : PrtR w3 (G + 1) [.int .i64 4, .int .i64 0, .bool no, vf, vt] (.cls no acc) := ⟨vf, vt, rfl, ⟨A1, k1, hv1⟩, ⟨A2, k2, hv2⟩, ownI_more ho1 (by omega), ownI_more ho2 (by omega)⟩
                  subst hv1 hv2
                  have hX := cls_world hGS3 hpr
                  obtain ⟨P, hP⟩ : ∃ P, P = w3.heap.size := ⟨_, rfl⟩
                  rw [← hP] at hX
                  replace hX := hide hX
                  replace hP := hide hP
                  clear hq hr1 hGS3 hga hd hpt hcs ho1 ho2 hpr hb3 c0
                  go_upto_region 26 with (fail)
                  simp only [← hP.out]
                  obtain ⟨w5, hw5⟩ : ∃ y, y = w3.alloc (.cells #[.int .i64 4, .int .i64 0, .bool no, .slice A1 acc.length k1, .slice A2 acc.length k2] 126) := ⟨_, rfl⟩
                  rw [← hw5] at hX ⊢
                  clear hw5
                  obtain ⟨hG5, hB5, hp5⟩ := hX.out
                  have b0 : w5.cell? ⟨P, 0, none⟩ = some (.int .i64 4) := hB5.cell 0
                  have b1 : w5.cell? ⟨P, 1, none⟩ = some (.int .i64 0) := hB5.cell 1
                  have b2 : w5.cell? ⟨P, 2, none⟩ = some (.bool no) := hB5.cell 2
                  have b3 : w5.cell? ⟨P, 3, none⟩ = some (.slice A1 acc.length k1) := hB5.cell 3
                  have b4 : w5.cell? ⟨P, 4, none⟩ = some (.slice A2 acc.length k2) := hB5.cell 4
                  have hGA := hide (hG5.alloc (.cells #[.int .i64 4, .int .i64 0, .bool no, .slice A1 acc.length k1, .slice A2 acc.length k2] 126))
                  have hpa := hide (PrtR.keep (w' := w5.alloc (.cells #[.int .i64 4, .int .i64 0, .bool no, .slice A1 acc.length k1, .slice A2 acc.length k2] 126)) hp5 (fun u m z ho => World.ownsRow.alloc ho _))
                  have hnew := hide (Blk.new w5 126 #[.int .i64 4, .int .i64 0, .bool no, .slice A1 acc.length k1, .slice A2 acc.length k2])
                  have d0 : w5.cell? ⟨G, 0, none⟩ = some v := hG5.bg.cell 0
                  have f0 := hG5.bg.frozen 0
                  clear hX hG5 hB5 hp5
                  go_wp2_with (refine wpList_app_r (cs := [.int .i64 4, .int .i64 0, .bool no, .slice A1 acc.length k1, .slice A2 acc.length k2]) (p := .cls no acc) rfl _ _ rfl hGA.out rfl w5.heap.size rfl hnew.out rfl (lit_one ()) hpa.out hps ?_)
                  intro v' w' hG' hB'
                  obtain ⟨A', n', k', rfl⟩ := hG'.form
                  have c1 : w'.cell? ⟨G, 0, none⟩ = some v := hB'.cell 0
                  have f1 := hB'.frozen 0
                  replace hG' := hide hG'
                  clear hB' hGA hnew hpa d0 f0 b0 b1 b2 b3 b4
                  go_wp2_with fail
                  go_roundw
                  case rel => exact ⟨q, _, _, _, rfl, hr3, by simp; omega, hG'.out, hres.out⟩
                  case measure => simp [intOf]; omega
              · have e3 : (x == 91) = false := by simp [h91]
                obtain ⟨oc, hoc⟩ : ∃ o, o = plainR (l.drop p) := ⟨_, rfl⟩
                have hpt : Hid (partR (x :: r) = oc.map fun y => (.self y.1, y.2)) := by
                  rw [Hid, partR_else r h63 h42 h91, hoc, hd]
                have hcs : Hid (∀ c r', oc = some (c, r') → r' = l.drop (l.length - r'.length) ∧ p < l.length - r'.length ∧ r'.length ≤ l.length) := plain_call_ret hoc
                have hn1000 : n ≤ 1000 := by omega
                have hRIw := hRI.more (show G ≤ wr.heap.size by have := hGS.bg.lt; omega)
                have hGl := hGS.bg.lt
                replace hGS := hide hGS
                replace hga := hide hga
                replace hd := hide hd
                clear h63 h42 h91 hrl hRI hrd
                go_wp2_with fail
                refine (rplain_any wr wr.heap.size (some ad) n k l p hRIw (Nat.le_refl _) hp hn1000).mono ?_
                rw [← hoc]
                rintro e w3 ⟨rfl, hb3⟩
                have hGS3 := hGS.out.later hb3
                have hz3 := hb3.size
                clear hoc hRIw hGS
                cases oc with
                | none =>
                  have hres : Hid (R = none) := by rw [Hid, hga.out, hd.out, globA_none ps (by simp) (by rw [hpt.out]; rfl)]
                  have he : Hid ((4 : Int) = globE s.data.toList) := (hE.out hres.out).symm
                  have hbw : Below w.heap.size w w3 := hbwk.out.trans (hGS3.low.mono (by omega))
                  have hBr := (hBrk.out.below hGS3.low (by omega)).alloc (.cells #[.int .i64 0, .int .i64 0, .bool false] 129)
                  have q0 := hBr.cell 0
                  have q1' := hBr.cell 1
                  have g0 := hBr.frozen 0
                  have g1 := hBr.frozen 1
                  clear hBr hGS3 hga hd hpt hcs
                  simp only [plV]
                  go_wp2_with fail
                  refine bodyPost_ret (v := .agg #[.slice none 0 0, .int .i64 4]) (by simp [results, Tryz.results51, go_sem, q0, q1']) rfl ⟨?_, .inr ⟨hfinN.out hres.out, by rw [← he.out]⟩⟩
                  repeat refine below_set ?_ (by omega) _
                  exact hbw.alloc (by omega) _
                | some z =>
                  obtain ⟨c, r'⟩ := z
                  obtain ⟨hr1, hr2, hr3⟩ := hcs.out c r' rfl
                  rw [← hn.out] at hr1 hr2 hr3
                  simp only [plV]
                  obtain ⟨q, hq⟩ : ∃ q, q = n - r'.length := ⟨_, rfl⟩
                  rw [← hq] at hr1 hr2 ⊢
                  have hqn : q ≤ n := by omega
                  have hpq : p < q := hr2
                  have hres : Hid (R = globA (ps ++ [.self c]) (l.drop q)) := by
                    rw [Hid, hga.out, hd.out, globA_step ps (by rw [hpt.out]; rfl), hr1]
                  have hG4 := hGS3.alloc (.cells #[.int .i64 c, .int .i64 q, .bool true] 129)
                  have hB8 := Blk.new w3 129 #[.int .i64 c, .int .i64 q, .bool true]
                  obtain ⟨P, hP⟩ : ∃ P, P = w3.heap.size := ⟨_, rfl⟩
                  rw [← hP] at hB8
                  have hGP : G < P := by have := hGS3.bg.lt; omega
                  replace hP := hide hP
                  replace hG4 := hide hG4
                  replace hB8 := hide hB8
                  clear hq hr1 hr2 hr3 hGS3 hga hd hpt hcs hb3 c0
                  go_upto_region 28 with (fail)
                  simp only [← hP.out]
                  obtain ⟨w5, hw5⟩ : ∃ y, y = w3.alloc (.cells #[.int .i64 c, .int .i64 q, .bool true] 129) := ⟨_, rfl⟩
                  rw [← hw5] at hG4 hB8 ⊢
                  clear hw5
                  have b0 : w5.cell? ⟨P, 0, none⟩ = some (.int .i64 c) := hB8.out.cell 0
                  have b1 : w5.cell? ⟨P, 1, none⟩ = some (.int .i64 q) := hB8.out.cell 1
                  have b2 : w5.cell? ⟨P, 2, none⟩ = some (.bool true) := hB8.out.cell 2
                  have hPl := hB8.out.lt
                  have hGA := hide (hG4.out.alloc (.cells #[.int .i64 0, .int .i64 c, .bool false, .slice none 0 0, .slice none 0 0] 126))
                  have hnew := hide (Blk.new w5 126 #[.int .i64 0, .int .i64 c, .bool false, .slice none 0 0, .slice none 0 0])
                  have d0 : w5.cell? ⟨G, 0, none⟩ = some v := hG4.out.bg.cell 0
                  have f0 := hG4.out.bg.frozen 0
                  have hPne : Hid (v.ownBlock ≠ some P) := fun e => by
                    obtain ⟨-, -, cs1, h1⟩ := op_blk hG4.out.own e
                    exact hB8.out.ne_ h1 (by decide) rfl
                  clear hG4
                  go_wp2_with (refine wpList_app_r2 (cs := [.int .i64 0, .int .i64 c, .bool false, .slice none 0 0, .slice none 0 0]) (p := .self c) rfl _ _ rfl hGA.out rfl w5.heap.size rfl hnew.out rfl (lit_one ()) rfl hps ?_)
                  intro v' w' hG' hB' hbl'
                  obtain ⟨A', n', k', rfl⟩ := hG'.form
                  have c1 : w'.cell? ⟨G, 0, none⟩ = some v := hB'.cell 0
                  have f1 := hB'.frozen 0
                  have hB9 : Blk w' P 129 #[.int .i64 c, .int .i64 q, .bool true] := (hbl' P (by first | omega | (simp; omega)) hPne.out).trans (hB8.out.alloc _)
                  have b1' : w'.cell? ⟨P, 1, none⟩ = some (.int .i64 q) := hB9.cell 1
                  replace hG' := hide hG'
                  clear hB' hGA hnew d0 f0 b0 b1 b2 hB8 hB9 hbl'
                  go_wp2_with fail
                  go_roundw
                  case rel => exact ⟨q, _, _, _, rfl, hqn, by simp; omega, hG'.out, hres.out⟩
                  case measure => simp [intOf]; omega
    · have hv : Lib.validD s.data.toList = false := by
        cases hv : Lib.validD s.data.toList with
        | false => rfl
        | true => rw [hv] at hl; simp at hl
      have hr : Hid (globP s.data.toList = none) := by rw [Hid, globP, if_pos (.inr hv)]
      have he : Hid ((4 : Int) = globE s.data.toList) := by rw [Hid, globE, data_len, if_neg (by omega), if_pos hv]
      have hBr3 := hBr2.alloc (.cells #[.slice none 0 0, .bool false] 85)
      have q0 := hBr3.cell 0
      have q1 := hBr3.cell 1
      have g0 := hBr3.frozen 0
      have g1 := hBr3.frozen 1
      clear hBr3 hBr2 hv hl hwz
      go_wp2_with fail
      refine bodyPost_ret (v := .agg #[.slice none 0 0, .int .i64 4]) (by simp [results, Tryz.results51, go_sem, q0, q1]) rfl ⟨?_, .inr ⟨hr.out, by rw [← he.out]⟩⟩
      repeat refine below_set ?_ (by omega) _
      exact hbw2.alloc (by omega) _
end Go.Proofs.YtnnjcedlomfhoaaGreatDoor
