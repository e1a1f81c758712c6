/-
  Contracts of the library's stable sort at one element type: swapRange, rotate, insertion, symMerge, stable (printed by gen_sort.py).
-/
import Derived.Test.YtbchaomnjbkdhaaGreatChecked
import Derived.Test.YtbchaomnjbkdhaaGreatEB
import Derived.Test.YtbchaomnjbkdhaaGreatEA
import Derived.Sort.WalkC
import Derived.BigRegion
import Derived.IntWalk
import Derived.Shelf.SlSortCmp.Insertion
namespace Go.Proofs.YtbchaomnjbkdhaaGreat
open Go.RowKit Go.Sort Go.Proofs
set_option linter.unusedVariables false
def encI (x : Nat) : Value := .int .i64 (x : Int)
/-- The row holds d' then, all else is as it was. -/
def RetI (w : World) (blk off : Nat) (d' : Array Nat) (e : Ending) (w' : World) : Prop := e = .returned (.tuple #[]) ∧ ∃ n, w' = (putRow encI w blk off d').drewN n
theorem RetI.mk {w : World} {blk off n : Nat} {d' : Array Nat} {w' : World} (h : w' = (putRow encI w blk off d').drewN n) : RetI w blk off d' (.returned (.tuple #[])) w' := ⟨rfl, n, h⟩
/-- A step behind a step. -/
theorem RetI.step {w : World} {blk off n : Nat} {d d' : Array Nat} {e : Ending} {w' : World} (h : RetI ((putRow encI w blk off d).drewN n) blk off d' e w') (hs : d'.size = d.size) : RetI w blk off d' e w' := by
  obtain ⟨he, m, hw⟩ := h
  refine ⟨he, n + m, ?_⟩
  rw [hw, ← World.drewN_drewN]
  show ((putRow encI (putRow encI w blk off d) blk off d').drewN n).drewN m = _
  rw [putRow_putRow encI w blk off d d' hs]
theorem atI {w : World} {blk off n : Nat} {d dk : Array Nat} (hH : Holds encI w blk off d) (hs : dk.size = d.size) (j : Nat) (hj : j < d.size) :
    ((putRow encI w blk off dk).drewN n).cell? ⟨blk, off + j, none⟩ = some (encI dk[j]!) ∧ ((putRow encI w blk off dk).drewN n).frozen? ⟨blk, off + j, none⟩ = false :=
  holds_putRow encI w blk off d dk hH hs j (by omega)
set_option maxHeartbeats 1000000 in
set_option maxRecDepth 100000 in
theorem swapRI_any (w : World) (blk off cap a b k : Nat) (vf : Value) (d : Array Nat) (hH : Holds encI w blk off d) (ha : a + k ≤ b) (hb : b + k ≤ d.size) (hsz : d.size ≤ 1000) :
    Calls Tryz.prog 124 #[.slice (some ⟨blk, off, none⟩) d.size cap, .int .i64 a, .int .i64 b, .int .i64 k, vf] w (RetI w blk off (swapR a b k d)) := by
  have HST : Hid (w = (putRow encI w blk off d).drewN 0) := (putRow_self encI w blk off d hH).symm
  replace hH := hide hH
  go_enter Tryz.func124, Tryz.ntmps124
  go_wp2_with fail
  go_loopw [10] (fun vi wr => ∃ (i n : Nat), vi = .int .i64 i ∧ i ≤ k ∧ wr = (putRow encI w blk off (swapR a b i d)).drewN n) (fun vi _ => k - (intOf vi).toNat)
  case atStart => exact ⟨0, 0, rfl, Nat.zero_le _, HST.out⟩
  case round =>
    obtain ⟨i, n, rfl, hi, rfl⟩ := hrel
    by_cases hlt : i < k
    · have hs := swapR_size a b i d
      obtain ⟨cA, fA⟩ := atI (n := n) hH.out hs (a + i) (by omega)
      obtain ⟨cB, fB⟩ := atI (n := n) hH.out hs (b + i) (by omega)
      have hstep : Hid (swapR a b (i + 1) d = swp (swapR a b i d) (a + i) (b + i)) := rfl
      have hsw : Hid (∀ n, ((((putRow encI w blk off (swapR a b i d)).drewN n).setCell ⟨blk, off + (a + i), none⟩ (encI (swapR a b i d)[b + i]!)).setCell ⟨blk, off + (b + i), none⟩ (encI (swapR a b i d)[a + i]!)).drew = (putRow encI w blk off (swp (swapR a b i d) (a + i) (b + i))).drewN (n + 1)) :=
        fun n => swap_worldC encI w blk off (swapR a b i d) n (a + i) (b + i) (by omega) (by omega)
      replace hs := hide hs
      generalize swapR a b i d = dk at *
      generalize dk[a + i]! = x at *
      generalize dk[b + i]! = y at *
      have hwa : IntKind.i64.wrap ((a : Int) + (i : Int)) = ((a + i : Nat) : Int) := by rw [IntWalk.i64_in _ (by omega)]; omega
      have hwb : IntKind.i64.wrap ((b : Int) + (i : Int)) = ((b + i : Nat) : Int) := by rw [IntWalk.i64_in _ (by omega)]; omega
      obtain ⟨wq, hwq⟩ : ∃ wq, wq = (putRow encI w blk off dk).drewN n := ⟨_, rfl⟩
      rw [← hwq] at cA cB fA fB ⊢
      replace hwq := hide hwq
      have hab : a + i ≠ b + i := by omega
      have la : ((a + i : Nat) : Int) < (d.size : Int) := by omega
      have lb : ((b + i : Nat) : Int) < (d.size : Int) := by omega
      generalize a + i = p at *
      generalize b + i = q at *
      unfold encI at cA cB
      go_wp2_with fail
      go_region
      all_goals
        go_wp2_with fail
        go_roundw
        case rel => exact ⟨i + 1, n + 1, by go_num, by omega, by rw [hstep.out, ← hsw.out n, ← hwq.out]; rfl⟩
        case measure => simp [intOf]; omega
    · have hik : i = k := by omega
      subst hik
      go_wp2_with fail
      go_end0
      exact RetI.mk rfl
/-- The same, at places that are sums. -/
theorem swapRI_int (w : World) (blk off cap : Nat) (x y z : Int) (a b k : Nat) (hx : x = (a : Int)) (hy : y = (b : Int)) (hz : z = (k : Int)) (vf : Value) (n : Nat) (d : Array Nat) (hn : n = d.size) (hH : Holds encI w blk off d) (ha : a + k ≤ b) (hb : b + k ≤ d.size) (hsz : d.size ≤ 1000) :
    Calls Tryz.prog 124 #[.slice (some ⟨blk, off, none⟩) n cap, .int .i64 x, .int .i64 y, .int .i64 z, vf] w (RetI w blk off (swapR a b k d)) := by
  subst hx hy hz hn
  exact swapRI_any w blk off cap a b k vf d hH ha hb hsz
set_option maxHeartbeats 1000000 in
set_option maxRecDepth 100000 in
theorem rotateI_any (w : World) (blk off cap a m b : Nat) (vf : Value) (d : Array Nat) (hH : Holds encI w blk off d) (h1 : a < m) (h2 : m < b) (hb : b ≤ d.size) (hsz : d.size ≤ 1000) :
    Calls Tryz.prog 117 #[.slice (some ⟨blk, off, none⟩) d.size cap, .int .i64 a, .int .i64 m, .int .i64 b, vf] w (RetI w blk off (rotate d a m b)) := by
  have HST : Hid (w = (putRow encI w blk off d).drewN 0) := (putRow_self encI w blk off d hH).symm
  replace hH := hide hH
  go_enter Tryz.func117, Tryz.ntmps117
  go_wp2_with fail
  go_loopw [10, 11] (fun vi vj wr => ∃ (i j f n : Nat) (dk : Array Nat), vi = .int .i64 i ∧ vj = .int .i64 j ∧ 1 ≤ i ∧ 1 ≤ j ∧ i + j ≤ f ∧ i ≤ m ∧ m + j ≤ d.size ∧ Hid (dk.size = d.size) ∧ Hid (wr = (putRow encI w blk off dk).drewN n) ∧ Hid (rotate d a m b = rotL m f i j dk)) (fun vi vj _ => (intOf vi).toNat + (intOf vj).toNat)
  case atStart => exact ⟨m - a, b - m, b - a, 0, d, by go_num, by go_num, by omega, by omega, by omega, by omega, by omega, rfl, HST, rfl⟩
  case round =>
    obtain ⟨i, j, f, n, dk, rfl, rfl, hi, hj, hf, him, hmj, hs, hwr, hrot⟩ := hrel
    have hHk : Hid (Holds encI wr blk off dk) := by
      rw [Hid, hwr.out]; exact holds_putRow encI w blk off d dk hH.out hs.out
    have hszk : Hid (dk.size ≤ 1000) := by rw [Hid, hs.out]; exact hsz
    have hmk : Hid (m + j ≤ dk.size) := by rw [Hid, hs.out]; exact hmj
    obtain ⟨f, rfl⟩ : ∃ e, f = e + 1 := ⟨f - 1, by omega⟩
    rcases Nat.lt_trichotomy i j with hlt | heq | hgt
    · have hne : ((i : Int) != (j : Int)) = true := by rw [bne_iff_ne]; omega
      have hng : ¬ (j : Int) < (i : Int) := by omega
      have hnx : Hid (rotate d a m b = rotL m f i (j - i) (swapR (m - i) (m + j - i) i dk)) := by
        rw [Hid, hrot.out, rotL, if_neg (by omega), if_neg (by omega)]
      go_wp2_with fail
      refine (swapRI_int wr blk off cap _ _ _ (m - i) (m + j - i) i (by omega) (by omega) rfl vf _ dk hs.out.symm hHk.out (by omega) (by have := hmk.out; omega) hszk.out).mono ?_
      rintro e w2 ⟨rfl, n2, hw2⟩
      have hs2 : Hid ((swapR (m - i) (m + j - i) i dk).size = d.size) := by rw [Hid, swapR_size, hs.out]
      have hw2' : Hid (w2 = (putRow encI w blk off (swapR (m - i) (m + j - i) i dk)).drewN (n + n2)) := by
        rw [Hid, hw2, hwr.out, ← World.drewN_drewN]
        show ((putRow encI (putRow encI w blk off dk) blk off _).drewN n).drewN n2 = _
        rw [putRow_putRow encI w blk off dk _ (by rw [swapR_size])]
      generalize swapR (m - i) (m + j - i) i dk = d2 at *
      clear hw2 hwr hHk
      go_wp2_with fail
      go_roundw
      case rel => exact ⟨i, j - i, f, n + n2, d2, rfl, by go_num, hi, by omega, by omega, him, by omega, hs2, hw2', hnx⟩
      case measure => simp [intOf]; omega
    · subst heq
      have hne : ((i : Int) != (i : Int)) = false := by simp
      have hfin : Hid (rotate d a m b = swapR (m - i) m i dk) := by
        rw [Hid, hrot.out, rotL, if_pos rfl]
      go_wp2_with fail
      refine (swapRI_int wr blk off cap _ _ _ (m - i) m i (by omega) rfl rfl vf _ dk hs.out.symm hHk.out (by omega) (by have := hmk.out; omega) hszk.out).mono ?_
      rintro e w2 ⟨rfl, n2, hw2⟩
      have hw2' : Hid (w2 = (putRow encI w blk off (swapR (m - i) m i dk)).drewN (n + n2)) := by
        rw [Hid, hw2, hwr.out, ← World.drewN_drewN]
        show ((putRow encI (putRow encI w blk off dk) blk off _).drewN n).drewN n2 = _
        rw [putRow_putRow encI w blk off dk _ (by rw [swapR_size])]
      clear hw2 hwr hHk
      go_wp2_with fail
      go_end0
      rw [hfin.out]
      exact RetI.mk hw2'.out
    · have hne : ((i : Int) != (j : Int)) = true := by rw [bne_iff_ne]; omega
      have hng : (j : Int) < (i : Int) := by omega
      have hnx : Hid (rotate d a m b = rotL m f (i - j) j (swapR (m - i) m j dk)) := by
        rw [Hid, hrot.out, rotL, if_neg (by omega), if_pos (by omega)]
      go_wp2_with fail
      refine (swapRI_int wr blk off cap _ _ _ (m - i) m j (by omega) rfl rfl vf _ dk hs.out.symm hHk.out (by omega) (by have := hmk.out; omega) hszk.out).mono ?_
      rintro e w2 ⟨rfl, n2, hw2⟩
      have hs2 : Hid ((swapR (m - i) m j dk).size = d.size) := by rw [Hid, swapR_size, hs.out]
      have hw2' : Hid (w2 = (putRow encI w blk off (swapR (m - i) m j dk)).drewN (n + n2)) := by
        rw [Hid, hw2, hwr.out, ← World.drewN_drewN]
        show ((putRow encI (putRow encI w blk off dk) blk off _).drewN n).drewN n2 = _
        rw [putRow_putRow encI w blk off dk _ (by rw [swapR_size])]
      generalize swapR (m - i) m j dk = d2 at *
      clear hw2 hwr hHk
      go_wp2_with fail
      go_roundw
      case rel => exact ⟨i - j, j, f, n + n2, d2, by go_num, rfl, by omega, hj, by omega, by omega, hmj, hs2, hw2', hnx⟩
      case measure => simp [intOf]; omega
/-- What is asked of the comparison: of two elements that P holds of, in every world that the sort passes through, it tells one number; it draws at most. -/
def CmpI (w : World) (blk off n : Nat) (pc : Addr) (P : Nat → Prop) (cf : Nat → Nat → Int) : Prop :=
  ∀ (m : Nat) (dk : Array Nat), dk.size = n → ∀ x y, P x → P y → Calls Tryz.prog 80 #[encI x, encI y, .pointer (some pc)] ((putRow encI w blk off dk).drewN m) fun e w' => e = .returned (.int .i64 (cf x y)) ∧ ∃ q, w' = ((putRow encI w blk off dk).drewN m).drewN q
theorem CmpI.at_ {w : World} {blk off n : Nat} {pc : Addr} {P : Nat → Prop} {cf : Nat → Nat → Int} (h : CmpI w blk off n pc P cf) {m : Nat} {dk : Array Nat} (hs : dk.size = n) {wq : World} (hw : wq = (putRow encI w blk off dk).drewN m) {x y : Nat} (hx : P x) (hy : P y) :
    ∀ k, Calls Tryz.prog 80 #[encI x, encI y, .pointer (some pc)] (wq.drewN k) fun e w' => e = .returned (.int .i64 (cf x y)) ∧ ∃ q, w' = (wq.drewN k).drewN q := by
  intro k
  have := h (m + k) dk hs x y hx hy
  rw [← World.drewN_drewN, ← hw] at this
  exact this
/-- A comparison after a step is one ahead of it. -/
theorem CmpI.step {w w2 : World} {blk off n : Nat} {pc : Addr} {P : Nat → Prop} {cf : Nat → Nat → Int} (h : CmpI w blk off n pc P cf) {m : Nat} {dk : Array Nat} (hs : dk.size = n) (hw : w2 = (putRow encI w blk off dk).drewN m) : CmpI w2 blk off n pc P cf := by
  intro m2 d2 hs2 x y hx hy
  have := h (m + m2) d2 hs2 x y hx hy
  have e : (putRow encI w2 blk off d2).drewN m2 = (putRow encI w blk off d2).drewN (m + m2) := by
    rw [hw, ← World.drewN_drewN]
    show ((putRow encI (putRow encI w blk off dk) blk off d2).drewN m).drewN m2 = _
    rw [putRow_putRow encI w blk off dk d2 (by rw [hs, hs2])]
  rw [e]
  exact this
set_option maxHeartbeats 4000000 in
set_option maxRecDepth 100000 in
theorem insI_any (w : World) (blk off cap a b : Nat) (pc : Addr) (P : Nat → Prop) (cf : Nat → Nat → Int) (d : Array Nat) (hcmp : CmpI w blk off d.size pc P cf) (hP : AllP P d) (hH : Holds encI w blk off d) (hab : a ≤ b) (hb : b ≤ d.size) (hsz : d.size ≤ 1000) :
    Calls Tryz.prog 102 #[.slice (some ⟨blk, off, none⟩) d.size cap, .int .i64 a, .int .i64 b, .func (.func 80) #[] #[.pointer (some pc)]] w (RetI w blk off (insertionSort (ltOf cf) d a b)) := by
  have HST : Hid (w = (putRow encI w blk off d).drewN 0) := (putRow_self encI w blk off d hH).symm
  replace hH := hide hH
  have hC : Hid (CmpI w blk off d.size pc P cf) := hcmp
  replace hP := hide hP
  clear hcmp
  go_enter Tryz.func102, Tryz.ntmps102
  go_wp2_with fail
  go_loopw [8] (fun vi wr => ∃ (i n : Nat) (dk : Array Nat), vi = .int .i64 i ∧ a < i ∧ i ≤ b + 1 ∧ Hid (dk.size = d.size) ∧ Hid (AllP P dk) ∧ Hid (wr = (putRow encI w blk off dk).drewN n) ∧ Hid (insOuter (ltOf cf) a b i dk = insOuter (ltOf cf) a b (a + 1) d)) (fun vi _ => b + 1 - (intOf vi).toNat)
  case atStart => exact ⟨a + 1, 0, d, by go_num, by omega, by omega, rfl, hP, HST, rfl⟩
  case round =>
    obtain ⟨i, n, dk, rfl, hai, hib, hsk, hPk, hwr, HO⟩ := hrel
    by_cases hlt : i < b
    · have hltz : (i : Int) < (b : Int) := by omega
      have hwr1 : wr = wr := rfl
      clear hwr1
      go_wp2_with fail
      obtain ⟨wo, hwo⟩ : ∃ wo, wo = wr := ⟨_, rfl⟩
      rw [← hwo] at hwr ⊢
      clear hwo
      go_loopw [9] (fun vj wr2 => ∃ (j m : Nat) (dj : Array Nat), vj = .int .i64 j ∧ a ≤ j ∧ j ≤ i ∧ Hid (dj.size = d.size) ∧ Hid (AllP P dj) ∧ Hid (wr2 = (putRow encI w blk off dj).drewN m) ∧ Hid (insInner (ltOf cf) a j dj = insInner (ltOf cf) a i dk)) (fun vj _ => (intOf vj).toNat)
      case atStart => exact ⟨i, n, dk, rfl, by omega, Nat.le_refl _, hsk, hPk, hwr, rfl⟩
      case round =>
        obtain ⟨j, m, dj, rfl, haj, hji, hsj, hPj, hwj, HI⟩ := hrel
        have OUT : Hid ((j ≤ a ∨ ltOf cf dj[j]! dj[j - 1]! = false) → insOuter (ltOf cf) a b (i + 1) dj = insOuter (ltOf cf) a b (a + 1) d) := fun hs => by
          rw [← HO.out, insOuter_go _ _ _ _ _ hlt, ← HI.out, insInner_stop _ _ _ _ hs]
        by_cases hja : a < j
        · have hjaz : (a : Int) < (j : Int) := by omega
          obtain ⟨jp, rfl⟩ : ∃ jp, j = jp + 1 := ⟨j - 1, by omega⟩
          have hjd : jp + 1 < d.size := by omega
          obtain ⟨cj, fj⟩ := atI (n := m) hH.out hsj.out (jp + 1) hjd
          obtain ⟨cp, fp⟩ := atI (n := m) hH.out hsj.out jp (by omega)
          have hxP := hPj.out (jp + 1) (by rw [hsj.out]; exact hjd)
          have hyP := hPj.out jp (by rw [hsj.out]; omega)
          have hc := hC.out.at_ hsj.out hwj.out hxP hyP
          have hnx : Hid (ltOf cf dj[jp + 1]! dj[jp]! = true → insInner (ltOf cf) a jp (swp dj (jp + 1) jp) = insInner (ltOf cf) a i dk) := fun hl => by
            rw [← HI.out, insInner_go (ltOf cf) a (jp + 1) dj hja (by simp only [Nat.add_sub_cancel]; exact hl)]; rfl
          have hsw : Hid (∀ k, (((((putRow encI w blk off dj).drewN m).drewN k).setCell ⟨blk, off + (jp + 1), none⟩ (encI dj[jp]!)).setCell ⟨blk, off + jp, none⟩ (encI dj[jp + 1]!)).drew = (putRow encI w blk off (swp dj (jp + 1) jp)).drewN (m + k + 1)) := fun k => by
            rw [World.drewN_drewN]
            exact swap_worldC encI w blk off dj (m + k) (jp + 1) jp (by rw [hsj.out]; omega) (by rw [hsj.out]; omega)
          have hPs : Hid (AllP P (swp dj (jp + 1) jp)) := allP_swp (by rw [hsj.out]; omega) (by rw [hsj.out]; omega) hPj.out
          have hss : Hid ((swp dj (jp + 1) jp).size = d.size) := by rw [Hid, size_swp, hsj.out]
          rw [← hwj.out] at cj cp fj fp
          simp only [Nat.add_sub_cancel] at OUT
          clear hxP hyP
          have hsq : Hid (∀ k, (((wr.drewN k).setCell ⟨blk, off + (jp + 1), none⟩ (encI dj[jp]!)).setCell ⟨blk, off + jp, none⟩ (encI dj[jp + 1]!)).drew = (putRow encI w blk off (swp dj (jp + 1) jp)).drewN (m + k + 1)) := fun k => by
            rw [hwj.out]; exact hsw.out k
          clear hsw
          generalize dj[jp + 1]! = x at *
          generalize dj[jp]! = y at *
          generalize swp dj (jp + 1) jp = ds at *
          have hwp : IntKind.i64.wrap (jp : Int) = (jp : Int) := by rw [IntWalk.i64_in _ (by omega)]
          have jz : (jp : Int) + 1 < (d.size : Int) := by omega
          have jz1 : (jp : Int) < (d.size : Int) := by omega
          have hjaz' : (a : Int) < (jp : Int) + 1 := by omega
          have p0 : (0 : Int) ≤ (jp : Int) + 1 := by omega
          have e0 : ((jp : Int) + 1).toNat = jp + 1 := by omega
          unfold encI at cj cp hc
          by_cases hlv : cf x y < 0
          · go_wp2_with fail
            go_quiet (first | (go_at_call 80; refine Calls.quiet_of (hc _)))
            go_wp2_with fail
            have cj2 : (wr.drewN nq).cell? ⟨blk, off + (jp + 1), none⟩ = _ := cj
            have cp2 : (wr.drewN nq).cell? ⟨blk, off + jp, none⟩ = _ := cp
            have fj2 : (wr.drewN nq).frozen? ⟨blk, off + (jp + 1), none⟩ = false := fj
            have fp2 : (wr.drewN nq).frozen? ⟨blk, off + jp, none⟩ = false := fp
            have hs3 := hide (hsq.out nq)
            have hjp := hnx.out (decide_eq_true hlv)
            replace hjp := hide hjp
            clear cj cp fj fp hc hsq hnx
            generalize wr.drewN nq = wq2 at *
            obtain ⟨j1, hj1⟩ : ∃ j1, j1 = jp + 1 := ⟨_, rfl⟩
            rw [← hj1] at cj2 fj2 e0
            replace hj1 := hide hj1
            go_region
            all_goals
              go_wp2_with fail
              go_roundw
              case rel => exact ⟨jp, m + nq + 1, ds, by go_num, by omega, by omega, hss, hPs, by rw [Hid, ← hs3.out, ← hj1.out]; rfl, hjp⟩
              case measure => simp [intOf]
          · go_wp2_with fail
            go_quiet (first | (go_at_call 80; refine Calls.quiet_of (hc _)))
            go_wp2_with fail
            have hout := OUT.out (Or.inr (decide_eq_false (by omega)))
            replace hout := hide hout
            go_roundw
            case rel => exact ⟨i + 1, m + nq, dj, by go_num, by omega, by omega, hsj, hPj, by rw [Hid, hwj.out, World.drewN_drewN], hout⟩
            case measure => simp [intOf]; omega
        · have hjaz : ¬ (a : Int) < (j : Int) := by omega
          have hjb : decide ((a : Int) < (j : Int)) = false := decide_eq_false (by omega)
          have hout := OUT.out (Or.inl (by omega))
          replace hout := hide hout
          go_wp2_with fail
          go_region
          all_goals
            go_wp2_with fail
            go_roundw
            case rel => exact ⟨i + 1, m + 1, dj, by go_num, by omega, by omega, hsj, hPj, by rw [Hid, hwj.out]; rfl, hout⟩
            case measure => simp [intOf]; omega
    · have hltz : ¬ (i : Int) < (b : Int) := by omega
      go_wp2_with fail
      go_end0
      refine ⟨rfl, n, ?_⟩
      rw [hwr.out]
      unfold Sort.insertionSort
      rw [← HO.out, insOuter_stop _ _ _ _ _ hlt]
theorem bsF_go {p : Nat → Bool} {f i j h : Nat} (hij : i < j) (hh : h = (i + j) / 2) : bsF p (f + 1) i j = if p h = true then bsF p f (h + 1) j else bsF p f i h := by
  rw [bsF, if_pos hij, hh]
set_option maxHeartbeats 4000000 in
set_option maxRecDepth 100000 in
/-- One element ahead of a sorted range. -/
theorem symI_one (f : Nat) (w : World) (blk off cap a m b : Nat) (pc : Addr) (P : Nat → Prop) (cf : Nat → Nat → Int) (d : Array Nat) (hcmp : CmpI w blk off d.size pc P cf) (hP : AllP P d) (hH : Holds encI w blk off d) (h1 : m = a + 1) (h2 : m < b) (hb : b ≤ d.size) (hsz : d.size ≤ 1000) :
    Calls Tryz.prog 103 #[.slice (some ⟨blk, off, none⟩) d.size cap, .int .i64 a, .int .i64 m, .int .i64 b, .func (.func 80) #[] #[.pointer (some pc)]] w (RetI w blk off (symF (ltOf cf) (f + 1) d a m b)) := by
  have HST : Hid (w = (putRow encI w blk off d).drewN 0) := (putRow_self encI w blk off d hH).symm
  have hfin : Hid (symF (ltOf cf) (f + 1) d a m b = upL (bsF (fun h => ltOf cf d[h]! d[a]!) (b - a) m b - 1 - a) a d) := by
    rw [Hid, symF, if_pos (by omega)]
  have hC : Hid (CmpI w blk off d.size pc P cf) := hcmp
  replace hP := hide hP
  obtain ⟨ca, fa⟩ := atI (n := 0) hH rfl a (by omega)
  have hca : Hid (∀ q, (w.drewN q).cell? ⟨blk, off + a, none⟩ = some (encI d[a]!) ∧ (w.drewN q).frozen? ⟨blk, off + a, none⟩ = false) := fun q => by
    have h := hH a (by omega)
    exact h
  replace hH := hide hH
  clear hcmp ca fa
  have n1 : ((m : Int) - (a : Int) == 1) = true := by rw [beq_iff_eq]; omega
  obtain ⟨r, hr⟩ : ∃ r, r = bsF (fun h => ltOf cf d[h]! d[a]!) (b - a) m b := ⟨_, rfl⟩
  have hrb := bsF_spec (fun h => ltOf cf d[h]! d[a]!) (b - a) m b (by omega) (by omega)
  rw [← hr] at hfin hrb
  obtain ⟨hr1, hr2, -, -⟩ := hrb
  replace hr := hide hr
  have ham : a < m := by omega
  replace h1 := hide h1
  go_enter Tryz.func103, Tryz.ntmps103
  go_wp2_with fail
  go_loopw [10, 11, 12] (fun vi vj _ wr => ∃ (i j g q : Nat), vi = .int .i64 i ∧ vj = .int .i64 j ∧ m ≤ i ∧ i ≤ j ∧ j ≤ b ∧ j ≤ i + g ∧ Hid (wr = w.drewN q) ∧ Hid (r = bsF (fun h => ltOf cf d[h]! d[a]!) g i j)) (fun vi vj _ _ => (intOf vj).toNat - (intOf vi).toNat)
  case atStart => exact ⟨m, b, b - a, 0, rfl, rfl, Nat.le_refl _, by omega, Nat.le_refl _, by omega, rfl, hr⟩
  case round =>
    obtain ⟨i, j, g, q, rfl, rfl, hmi, hij, hjb, hg, hwr, hbs⟩ := hrel
    by_cases hlt : i < j
    · obtain ⟨g, rfl⟩ : ∃ e, g = e + 1 := ⟨g - 1, by omega⟩
      obtain ⟨h, hh⟩ : ∃ h, h = (i + j) / 2 := ⟨_, rfl⟩
      have hh2 : ((i : Int) + (j : Int)) / 2 = (h : Int) := by omega
      have hih : i ≤ h ∧ h < j := by omega
      obtain ⟨hih1, hih2⟩ := hih
      have hhd : h < d.size := by omega
      have had : a < d.size := by have := h1.out; omega
      have hgo := hide (bsF_go (p := fun h => ltOf cf d[h]! d[a]!) (f := g) hlt hh)
      replace hh := hide hh
      obtain ⟨cA, fA⟩ := hca.out q
      have hcH := hH.out h hhd
      have cH : (w.drewN q).cell? ⟨blk, off + h, none⟩ = some (encI d[h]!) := hcH.1
      have fH : (w.drewN q).frozen? ⟨blk, off + h, none⟩ = false := hcH.2
      clear hcH
      have hwq : wr = (putRow encI w blk off d).drewN q := by
        rw [hwr.out, putRow_self encI w blk off d hH.out]
      have hc := hC.out.at_ rfl hwq (hP.out h hhd) (hP.out a had)
      rw [← hwr.out] at cA fA cH fH
      clear hwq
      generalize d[h]! = x at *
      generalize d[a]! = y at *
      unfold encI at cA cH hc
      have lh : (h : Int) < (d.size : Int) := by omega
      have la : (a : Int) < (d.size : Int) := by omega
      by_cases hlv : cf x y < 0
      · have hb2 : Hid (r = bsF (fun h => ltOf cf d[h]! y) g (h + 1) j) := by
          rw [Hid, hbs.out, hgo.out, if_pos (show ltOf cf x y = true from decide_eq_true hlv)]
        go_wp2_with fail
        go_quiet (first | (go_at_call 80; refine Calls.quiet_of (hc _)))
        go_wp2_with fail
        go_roundw
        case rel => exact ⟨h + 1, j, g, q + nq, by go_num, rfl, by omega, by omega, hjb, by omega, by rw [Hid, hwr.out, World.drewN_drewN], hb2⟩
        case measure => simp [intOf]; omega
      · have hb2 : Hid (r = bsF (fun h => ltOf cf d[h]! y) g i h) := by
          rw [Hid, hbs.out, hgo.out, if_neg (show ¬ ltOf cf x y = true by simp only [ltOf, decide_eq_true_eq]; omega)]
        go_wp2_with fail
        go_quiet (first | (go_at_call 80; refine Calls.quiet_of (hc _)))
        go_wp2_with fail
        go_roundw
        case rel => exact ⟨i, h, g, q + nq, rfl, by go_num, hmi, by omega, by omega, by omega, by rw [Hid, hwr.out, World.drewN_drewN], hb2⟩
        case measure => simp [intOf]; omega
    · have hri : r = i := by
        have := hbs.out
        cases g with
        | zero => rw [bsF] at this; exact this
        | succ g => rw [bsF, if_neg hlt] at this; exact this
      subst hri
      have hr0 : 1 ≤ r := by omega
      clear hbs hca hC hP
      have hwp : Hid (wr = (putRow encI w blk off d).drewN q) := by rw [Hid, hwr.out, putRow_self encI w blk off d hH.out]
      clear hwr
      go_wp2_with fail
      obtain ⟨wo, hwo⟩ : ∃ wo, wo = wr := ⟨_, rfl⟩
      rw [← hwo] at hwp ⊢
      clear hwo
      go_loopw [13] (fun vk wx => ∃ (p K n : Nat) (dk : Array Nat), vk = .int .i64 p ∧ p + K = r - 1 ∧ Hid (dk.size = d.size) ∧ Hid (wx = (putRow encI w blk off dk).drewN n) ∧ Hid (upL (r - 1 - a) a d = upL K p dk)) (fun vk _ => r - (intOf vk).toNat)
      case atStart => exact ⟨a, r - 1 - a, q, d, rfl, by omega, rfl, hwp, rfl⟩
      case round =>
        obtain ⟨p, K, n, dk, rfl, hpK, hs, hwk, hup⟩ := hrel
        by_cases hk : p < r - 1
        · obtain ⟨K, rfl⟩ : ∃ e, K = e + 1 := ⟨K - 1, by omega⟩
          have hkz : (p : Int) < (r : Int) - 1 := by omega
          obtain ⟨cA, fA⟩ := atI (n := n) hH.out hs.out p (by omega)
          obtain ⟨cB, fB⟩ := atI (n := n) hH.out hs.out (p + 1) (by omega)
          rw [← hwk.out] at cA fA cB fB
          have hsw : Hid (((wr.setCell ⟨blk, off + p, none⟩ (encI dk[p + 1]!)).setCell ⟨blk, off + (p + 1), none⟩ (encI dk[p]!)).drew = (putRow encI w blk off (swp dk p (p + 1))).drewN (n + 1)) := by
            rw [Hid, hwk.out]; exact swap_worldC encI w blk off dk n p (p + 1) (by rw [hs.out]; omega) (by rw [hs.out]; omega)
          have hs2 : Hid ((swp dk p (p + 1)).size = d.size) := by rw [Hid, size_swp, hs.out]
          have hup2 : Hid (upL (r - 1 - a) a d = upL K (p + 1) (swp dk p (p + 1))) := hup.out
          generalize swp dk p (p + 1) = ds at *
          generalize dk[p + 1]! = x at *
          generalize dk[p]! = y at *
          unfold encI at cA cB
          have l1 : (p : Int) < (d.size : Int) := by omega
          have l2 : (p : Int) + 1 < (d.size : Int) := by omega
          have e1 : ((p : Int) + 1).toNat = p + 1 := by omega
          have e2 : IntKind.i64.wrap ((p : Int) + 1) = (p : Int) + 1 := by rw [IntWalk.i64_in _ (by omega)]
          have e3 : (0 : Int) ≤ (p : Int) + 1 := by omega
          obtain ⟨p1, hp1⟩ : ∃ p1, p1 = p + 1 := ⟨_, rfl⟩
          rw [← hp1] at cB fB e1 hsw
          replace hp1 := hide hp1
          go_wp2_with fail
          go_region
          all_goals
            go_wp2_with fail
            go_roundw
            case rel => exact ⟨p + 1, K, n + 1, ds, by go_num, by omega, hs2, by rw [Hid, ← hsw.out]; rfl, hup2⟩
            case measure => simp [intOf]; omega
        · have hkz : ¬ (p : Int) < (r : Int) - 1 := by omega
          have hK0 : K = 0 := by omega
          subst hK0
          go_wp2_with fail
          refine bodyPost_ret (results_none rfl _ _ _) rfl ?_
          refine ⟨rfl, n, ?_⟩
          rw [hwk.out, hfin.out, hup.out]
          rfl
set_option maxHeartbeats 4000000 in
set_option maxRecDepth 100000 in
/-- One element behind a sorted range. -/
theorem symI_two (f : Nat) (w : World) (blk off cap a m b : Nat) (pc : Addr) (P : Nat → Prop) (cf : Nat → Nat → Int) (d : Array Nat) (hcmp : CmpI w blk off d.size pc P cf) (hP : AllP P d) (hH : Holds encI w blk off d) (h1 : a + 1 < m) (h2 : b = m + 1) (hb : b ≤ d.size) (hsz : d.size ≤ 1000) :
    Calls Tryz.prog 103 #[.slice (some ⟨blk, off, none⟩) d.size cap, .int .i64 a, .int .i64 m, .int .i64 b, .func (.func 80) #[] #[.pointer (some pc)]] w (RetI w blk off (symF (ltOf cf) (f + 1) d a m b)) := by
  have HST : Hid (w = (putRow encI w blk off d).drewN 0) := (putRow_self encI w blk off d hH).symm
  have hfin : Hid (symF (ltOf cf) (f + 1) d a m b = downL (m - bsF (fun h => !ltOf cf d[m]! d[h]!) (b - a) a m) m d) := by
    rw [Hid, symF, if_neg (by omega), if_pos (by omega)]
  have hC : Hid (CmpI w blk off d.size pc P cf) := hcmp
  replace hP := hide hP
  have hca : Hid (∀ q, (w.drewN q).cell? ⟨blk, off + m, none⟩ = some (encI d[m]!) ∧ (w.drewN q).frozen? ⟨blk, off + m, none⟩ = false) := fun q => by
    have h := hH m (by omega)
    exact h
  replace hH := hide hH
  clear hcmp
  have n1 : ((m : Int) - (a : Int) == 1) = false := by rw [beq_eq_false_iff_ne]; omega
  have n2 : ((b : Int) - (m : Int) == 1) = true := by rw [beq_iff_eq]; omega
  obtain ⟨r, hr⟩ : ∃ r, r = bsF (fun h => !ltOf cf d[m]! d[h]!) (b - a) a m := ⟨_, rfl⟩
  have hrb := bsF_spec (fun h => !ltOf cf d[m]! d[h]!) (b - a) a m (by omega) (by omega)
  rw [← hr] at hfin hrb
  obtain ⟨hr1, hr2, -, -⟩ := hrb
  replace hr := hide hr
  have ham : a < m := by omega
  have hmb : m < b := by omega
  replace h2 := hide h2
  go_enter Tryz.func103, Tryz.ntmps103
  go_wp2_with fail
  go_loopw [14, 15, 16] (fun vi vj _ wr => ∃ (i j g q : Nat), vi = .int .i64 i ∧ vj = .int .i64 j ∧ a ≤ i ∧ i ≤ j ∧ j ≤ m ∧ j ≤ i + g ∧ Hid (wr = w.drewN q) ∧ Hid (r = bsF (fun h => !ltOf cf d[m]! d[h]!) g i j)) (fun vi vj _ _ => (intOf vj).toNat - (intOf vi).toNat)
  case atStart => exact ⟨a, m, b - a, 0, rfl, rfl, Nat.le_refl _, by omega, Nat.le_refl _, by omega, rfl, hr⟩
  case round =>
    obtain ⟨i, j, g, q, rfl, rfl, hmi, hij, hjb, hg, hwr, hbs⟩ := hrel
    by_cases hlt : i < j
    · obtain ⟨g, rfl⟩ : ∃ e, g = e + 1 := ⟨g - 1, by omega⟩
      obtain ⟨h, hh⟩ : ∃ h, h = (i + j) / 2 := ⟨_, rfl⟩
      have hh2 : ((i : Int) + (j : Int)) / 2 = (h : Int) := by omega
      have hih : i ≤ h ∧ h < j := by omega
      obtain ⟨hih1, hih2⟩ := hih
      have hhd : h < d.size := by omega
      have had : m < d.size := by omega
      have hgo := hide (bsF_go (p := fun h => !ltOf cf d[m]! d[h]!) (f := g) hlt hh)
      replace hh := hide hh
      obtain ⟨cA, fA⟩ := hca.out q
      have hcH := hH.out h hhd
      have cH : (w.drewN q).cell? ⟨blk, off + h, none⟩ = some (encI d[h]!) := hcH.1
      have fH : (w.drewN q).frozen? ⟨blk, off + h, none⟩ = false := hcH.2
      clear hcH
      have hwq : wr = (putRow encI w blk off d).drewN q := by
        rw [hwr.out, putRow_self encI w blk off d hH.out]
      have hc := hC.out.at_ rfl hwq (hP.out m had) (hP.out h hhd)
      rw [← hwr.out] at cA fA cH fH
      clear hwq
      generalize d[h]! = x at *
      generalize d[m]! = y at *
      unfold encI at cA cH hc
      have lh : (h : Int) < (d.size : Int) := by omega
      have la : (m : Int) < (d.size : Int) := by omega
      by_cases hlv : cf y x < 0
      · have hb2 : Hid (r = bsF (fun h => !ltOf cf y d[h]!) g i h) := by
          rw [Hid, hbs.out, hgo.out, if_neg (show ¬ (!ltOf cf y x) = true by simp only [ltOf, decide_eq_true hlv]; decide)]
        have hnl : (!decide (cf y x < 0)) = false := by rw [decide_eq_true hlv]; rfl
        go_wp2_with fail
        go_quiet (first | (go_at_call 80; refine Calls.quiet_of (hc _)))
        go_wp2_with fail
        go_roundw
        case rel => exact ⟨i, h, g, q + nq, rfl, by go_num, hmi, by omega, by omega, by omega, by rw [Hid, hwr.out, World.drewN_drewN], hb2⟩
        case measure => simp [intOf]; omega
      · have hb2 : Hid (r = bsF (fun h => !ltOf cf y d[h]!) g (h + 1) j) := by
          rw [Hid, hbs.out, hgo.out, if_pos (show (!ltOf cf y x) = true by simp only [ltOf, decide_eq_false hlv]; decide)]
        have hnl : (!decide (cf y x < 0)) = true := by rw [decide_eq_false hlv]; rfl
        go_wp2_with fail
        go_quiet (first | (go_at_call 80; refine Calls.quiet_of (hc _)))
        go_wp2_with fail
        go_roundw
        case rel => exact ⟨h + 1, j, g, q + nq, by go_num, rfl, by omega, by omega, hjb, by omega, by rw [Hid, hwr.out, World.drewN_drewN], hb2⟩
        case measure => simp [intOf]; omega
    · have hri : r = i := by
        have := hbs.out
        cases g with
        | zero => rw [bsF] at this; exact this
        | succ g => rw [bsF, if_neg hlt] at this; exact this
      subst hri
      clear hbs hca hC hP
      have hwp : Hid (wr = (putRow encI w blk off d).drewN q) := by rw [Hid, hwr.out, putRow_self encI w blk off d hH.out]
      clear hwr
      go_wp2_with fail
      obtain ⟨wo, hwo⟩ : ∃ wo, wo = wr := ⟨_, rfl⟩
      rw [← hwo] at hwp ⊢
      clear hwo
      go_loopw [17] (fun vk wx => ∃ (p K n : Nat) (dk : Array Nat), vk = .int .i64 p ∧ p = r + K ∧ p ≤ m ∧ Hid (dk.size = d.size) ∧ Hid (wx = (putRow encI w blk off dk).drewN n) ∧ Hid (downL (m - r) m d = downL K p dk)) (fun vk _ => (intOf vk).toNat)
      case atStart => exact ⟨m, m - r, q, d, rfl, by omega, Nat.le_refl _, rfl, hwp, rfl⟩
      case round =>
        obtain ⟨p, K, n, dk, rfl, hpK, hpm, hs, hwk, hup⟩ := hrel
        by_cases hk : r < p
        · obtain ⟨K, rfl⟩ : ∃ e, K = e + 1 := ⟨K - 1, by omega⟩
          obtain ⟨t, rfl⟩ : ∃ t, p = t + 1 := ⟨p - 1, by omega⟩
          obtain ⟨cA, fA⟩ := atI (n := n) hH.out hs.out (t + 1) (by omega)
          obtain ⟨cB, fB⟩ := atI (n := n) hH.out hs.out t (by omega)
          rw [← hwk.out] at cA fA cB fB
          have hsw : Hid (((wr.setCell ⟨blk, off + (t + 1), none⟩ (encI dk[t]!)).setCell ⟨blk, off + t, none⟩ (encI dk[t + 1]!)).drew = (putRow encI w blk off (swp dk (t + 1) t)).drewN (n + 1)) := by
            rw [Hid, hwk.out]; exact swap_worldC encI w blk off dk n (t + 1) t (by rw [hs.out]; omega) (by rw [hs.out]; omega)
          have hs2 : Hid ((swp dk (t + 1) t).size = d.size) := by rw [Hid, size_swp, hs.out]
          have hup2 : Hid (downL (m - r) m d = downL K t (swp dk (t + 1) t)) := hup.out
          generalize swp dk (t + 1) t = ds at *
          generalize dk[t + 1]! = x at *
          generalize dk[t]! = y at *
          unfold encI at cA cB
          have l1 : (t : Int) < (d.size : Int) := by omega
          have l2 : (t : Int) + 1 < (d.size : Int) := by omega
          have e1 : ((t : Int) + 1).toNat = t + 1 := by omega
          have e2 : IntKind.i64.wrap (t : Int) = (t : Int) := by rw [IntWalk.i64_in _ (by omega)]
          have e3 : (0 : Int) ≤ (t : Int) + 1 := by omega
          have hrt : r ≤ t := by omega
          have hkz : (r : Int) < (t : Int) + 1 := by omega
          obtain ⟨p1, hp1⟩ : ∃ p1, p1 = t + 1 := ⟨_, rfl⟩
          rw [← hp1] at cA fA e1 hsw
          replace hp1 := hide hp1
          replace hpK := hide hpK
          go_wp2_with fail
          go_region
          all_goals
            go_wp2_with fail
            go_roundw
            case rel => exact ⟨t, K, n + 1, ds, by go_num, by have := hpK.out; omega, by omega, hs2, by rw [Hid, ← hsw.out]; rfl, hup2⟩
            case measure => simp [intOf]
        · have hkz : ¬ (r : Int) < (p : Int) := by omega
          have hK0 : K = 0 := by omega
          subst hK0
          go_wp2_with fail
          refine bodyPost_ret (results_none rfl _ _ _) rfl ?_
          refine ⟨rfl, n, ?_⟩
          rw [hwk.out, hfin.out, hup.out]
          rfl
end Go.Proofs.YtbchaomnjbkdhaaGreat
