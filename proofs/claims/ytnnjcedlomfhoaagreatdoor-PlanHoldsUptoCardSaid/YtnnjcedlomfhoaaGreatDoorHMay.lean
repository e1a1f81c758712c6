/-
  Contracts of inquestref09.May, inquestref21.fits and inquestref21.May: what is told by them is enough to be in a catalogue.
-/
import Derived.Test.YtnnjcedlomfhoaaGreatDoorHReadBig
import Derived.Test.YtnnjcedlomfhoaaGreatDoorHHoldP
import Derived.Test.YtnnjcedlomfhoaaGreatDoorHPlanLaw
namespace Go.Proofs.YtnnjcedlomfhoaaGreatDoor
open Go.RowKit
set_option linter.unusedVariables false
def MayRet (w : World) (l : List UInt8) (e : Ending) (w' : World) : Prop := ∃ b, e = .returned (.bool b) ∧ (b = true → Lib.validD l = true ∧ l.length ≤ 40) ∧ Below w.heap.size w w'
theorem MayRet.no {w w' : World} {l : List UInt8} (hb : Below w.heap.size w w') : MayRet w l (.returned (.bool false)) w' := ⟨false, rfl, (fun h => by cases h), hb⟩
theorem MayRet.yes {w w' : World} {l : List UInt8} (h1 : Lib.validD l = true) (h2 : l.length ≤ 40) (hb : Below w.heap.size w w') : MayRet w l (.returned (.bool true)) w' := ⟨true, rfl, fun _ => ⟨h1, h2⟩, hb⟩
set_option maxRecDepth 100000 in
set_option maxHeartbeats 4000000 in
theorem may09_any (w : World) (A : Option Addr) (n c : Nat) (l : List UInt8) (h : RB w w.heap.size A n l) (hn : n ≤ 1048576) (hc : n ≤ c) :
    Calls Tryz.prog 21 #[.slice A n c] w (MayRet w l) := by
  have hlen := hide h.len
  go_enter Tryz.func21, Tryz.ntmps21
  go_wp2_with fail
  refine (read_big w A n c l h hn hc).mono ?_
  rintro e w1 ⟨hb1, hr⟩
  clear h
  have hsz := hb1.size
  rcases hr with ⟨rs, v, hrd, rfl, hO⟩ | ⟨hrd, rfl⟩
  · have hvr : Lib.validD l = true ∧ rs.length ≤ l.length := by
      rw [readA_law] at hrd
      split at hrd
      · rename_i hv
        injection hrd with hrd
        have := runesG_len (str l)
        rw [str_size, hrd] at this
        exact ⟨hv, this⟩
      · cases hrd
    obtain ⟨hv, hrl⟩ := hvr
    have hl1 := hlen.out
    obtain ⟨A1, k1, rfl, hR1⟩ : ∃ A k, v = .slice A rs.length k ∧ RI w1 w1.heap.size A rs.length rs := by
      rcases hO.2 with ⟨rfl, h0⟩ | ⟨g', cap, cur, rfl, hg, hh, hc2, hz⟩
      · have : rs = [] := by
          have := hO.1
          rw [h0] at this
          exact List.eq_nil_of_length_eq_zero (by simpa [iv] using this)
        subst this
        exact ⟨none, 0, rfl, ⟨by simp [iv], fun h => absurd h (by simp)⟩⟩
      · exact ⟨_, _, rfl, Reads.of_own hO⟩
    obtain ⟨m, hm⟩ : ∃ m, m = rs.length := ⟨_, rfl⟩
    rw [← hm] at hR1 ⊢
    have hmn : m ≤ n := by omega
    replace hm := hide hm
    clear hl1 hrl
    have hX := Blk.new w1 85 #[.slice A1 m k1, .bool true]
    have hbX := (Below.refl w1.heap.size w1).alloc (Nat.le_refl _) (.cells #[.slice A1 m k1, .bool true] 85)
    have hbw := hb1.trans (hbX.mono hsz)
    have hR2 := (hR1.below hbX).more hbX.size
    clear hO hrd hR1 hb1
    go_upto_region 2 with (fail)
    obtain ⟨w2, hw2⟩ : ∃ y, y = w1.alloc (.cells #[.slice A1 m k1, .bool true] 85) := ⟨_, rfl⟩
    rw [← hw2] at hX hbw hR2 ⊢
    have x0 : w2.cell? ⟨w1.heap.size, 0, none⟩ = some (.slice A1 m k1) := hX.cell 0
    have x1 : w2.cell? ⟨w1.heap.size, 1, none⟩ = some (.bool true) := hX.cell 1
    have hxl := hX.lt
    clear hw2 hbX hX
    by_cases h0 : n < 1
    · have i0 : (n : Int) < 1 := by omega
      clear h0
      go_wp2_with fail
      go_ret
      exact MayRet.no hbw
    by_cases h40 : 40 < n
    · have i0 : ¬ (n : Int) < 1 := by omega
      have i1 : (40 : Int) < (n : Int) := by omega
      clear h0 h40
      go_wp2_with fail
      go_ret
      exact MayRet.no hbw
    have i0 : ¬ (n : Int) < 1 := by omega
    have i1 : ¬ (40 : Int) < (n : Int) := by omega
    have hl40 : l.length ≤ 40 := by rw [hlen.out]; omega
    replace hbw := hide hbw
    replace hR2 := hide hR2
    clear h0 h40
    go_wp2_with fail
    go_loopw [4] (fun v4 wr => ∃ k : Nat, v4 = .int .i64 k ∧ k ≤ m ∧ w2 = wr) (fun v4 _ => m - (intOf v4).toNat)
    case atStart => exact ⟨0, rfl, by omega, rfl⟩
    case round =>
      obtain ⟨k, rfl, hk, rfl⟩ := hrel
      by_cases hkm : k < m
      · have hkI : (k : Int) < (m : Int) := by omega
        have hkl : k < rs.length := by rw [← hm.out]; exact hkm
        obtain ⟨ad, u, rfl, hab, hu, hcell⟩ := hR2.out.at_ hkm
        have hu2 : u = .int .i64 rs[k] := by
          have : (iv rs)[k]? = some (.int .i64 rs[k]) := by simp [iv, hkl]
          rw [this] at hu
          exact (Option.some.inj hu).symm
        subst hu2
        generalize rs[k] = r at *
        by_cases h32 : r < 32
        · clear hu
          go_wp2_with fail
          go_ret
          exact MayRet.no hbw.out
        · by_cases h127 : r = 127
          · have e127 : (r == 127) = true := by simp [h127]
            clear hu h127
            go_wp2_with fail
            go_ret
            exact MayRet.no hbw.out
          · have e127 : (r == 127) = false := by simp [h127]
            clear hu h127
            go_wp2_with fail
            go_roundw
            case rel => exact ⟨k + 1, by go_num, by omega, by first | rfl | trivial⟩
            case measure => simp [intOf]; omega
      · have hkI : ¬ (k : Int) < (m : Int) := by omega
        go_wp2_with fail
        go_ret
        exact MayRet.yes hv hl40 hbw.out
  · have hX := Blk.new w1 85 #[.slice none 0 0, .bool false]
    have hbX := (Below.refl w1.heap.size w1).alloc (Nat.le_refl _) (.cells #[.slice none 0 0, .bool false] 85)
    have hbw := hb1.trans (hbX.mono hsz)
    clear hb1
    go_upto_region 2 with (fail)
    obtain ⟨w2, hw2⟩ : ∃ y, y = w1.alloc (.cells #[.slice none 0 0, .bool false] 85) := ⟨_, rfl⟩
    rw [← hw2] at hX hbw ⊢
    have x0 : w2.cell? ⟨w1.heap.size, 0, none⟩ = some (.slice none 0 0) := hX.cell 0
    have x1 : w2.cell? ⟨w1.heap.size, 1, none⟩ = some (.bool false) := hX.cell 1
    clear hw2 hbX hX
    by_cases h0 : n < 1
    · have i0 : (n : Int) < 1 := by omega
      clear h0
      go_wp2_with fail
      go_ret
      exact MayRet.no hbw
    by_cases h40 : 40 < n
    · have i0 : ¬ (n : Int) < 1 := by omega
      have i1 : (40 : Int) < (n : Int) := by omega
      clear h0 h40
      go_wp2_with fail
      go_ret
      exact MayRet.no hbw
    have i0 : ¬ (n : Int) < 1 := by omega
    have i1 : ¬ (40 : Int) < (n : Int) := by omega
    clear h0 h40
    go_wp2_with fail
    go_ret
    exact MayRet.no hbw
def FitsRet (w : World) (n m : Int) (e : Ending) (w' : World) : Prop := e = .returned (.bool (decide (0 ≤ n) && decide (n ≤ m))) ∧ Below w.heap.size w w'
set_option maxRecDepth 100000 in
theorem fits_any (w : World) (n m : Int) : Calls Tryz.prog 22 #[.int .i64 n, .int .i64 m] w (FitsRet w n m) := by
  obtain ⟨r, hr⟩ : ∃ r, r = (decide (0 ≤ n) && decide (n ≤ m)) := ⟨_, rfl⟩
  have hR : ∀ e w', (e = .returned (.bool r) ∧ Below w.heap.size w w') → FitsRet w n m e w' := fun e w' h => by rw [hr] at h; exact h
  by_cases h0 : 0 ≤ n
  · by_cases h1 : n ≤ m
    · have hrt : r = true := by rw [hr]; simp [h0, h1]
      clear hr
      go_enter Tryz.func22, Tryz.ntmps22
      go_wp2_with fail
      go_ret
      exact hR _ _ ⟨by rw [hrt]; rfl, Below.refl _ _⟩
    · have hrt : r = false := by rw [hr]; simp [h0, h1]
      clear hr
      go_enter Tryz.func22, Tryz.ntmps22
      go_wp2_with fail
      go_ret
      exact hR _ _ ⟨by rw [hrt]; rfl, Below.refl _ _⟩
  · have hrt : r = false := by rw [hr]; simp [h0]
    clear hr
    go_enter Tryz.func22, Tryz.ntmps22
    go_wp2_with fail
    go_ret
    exact hR _ _ ⟨by rw [hrt]; rfl, Below.refl _ _⟩
def okM (f : FileV) : Prop := Lib.validD f.name = true ∧ f.name.length ≤ 40 ∧ (0 ≤ f.size ∧ f.size ≤ 281474976710655) ∧ (0 ≤ f.dos ∧ f.dos ≤ 4294967295)
def MayF (w : World) (f : FileV) (e : Ending) (w' : World) : Prop := ∃ b, e = .returned (.bool b) ∧ (b = true → okM f) ∧ Below w.heap.size w w'
theorem MayF.no {w w' : World} {f : FileV} (hb : Below w.heap.size w w') : MayF w f (.returned (.bool false)) w' := ⟨false, rfl, (fun h => by cases h), hb⟩
set_option maxRecDepth 100000 in
set_option maxHeartbeats 4000000 in
theorem may21_any (w : World) (f : FileV) (hn : f.name.length ≤ 1048576) : Calls Tryz.prog 11 #[fileV f] w (MayF w f) := by
  have hB0 := file_box w f
  have hb0 := (Below.refl w.heap.size w).alloc (Nat.le_refl _) (.cells #[.string (str f.name), .int .i64 f.method, .int .i64 f.dos, .int .u32 f.crc, .int .i64 f.x4, .int .i64 f.size, .int .i64 f.x6] 40)
  obtain ⟨K, C, hcv, hKC⟩ := bytes_conv (str f.name)
  rw [str_size] at hcv hKC
  rw [str_toList] at hKC
  unfold fileV
  go_enter Tryz.func11, Tryz.ntmps11
  go_upto_region 1 with (fail)
  obtain ⟨w1, hw1⟩ : ∃ y, y = w.alloc (.cells #[.string (str f.name), .int .i64 f.method, .int .i64 f.dos, .int .u32 f.crc, .int .i64 f.x4, .int .i64 f.size, .int .i64 f.x6] 40) := ⟨_, rfl⟩
  rw [← hw1] at hB0 hb0 ⊢
  clear hw1
  obtain ⟨hK1, hR1⟩ := hKC w1
  have x0 : w1.cell? ⟨w.heap.size, 0, none⟩ = some (.string (str f.name)) := hB0.cell 0
  have hbc : Below w1.heap.size w1 (w1.drew.alloc (C w1)) := (Below.refl w1.heap.size w1).drew.alloc (Nat.le_refl _) (C w1)
  have hM := hide (may09_any (w1.drew.alloc (C w1)) (some ⟨w1.heap.size, 0, none⟩) f.name.length (K w1) f.name (hR1.more (by simp)) hn hK1)
  have hcv1 := hcv w1
  have hbw := hide (hb0.trans (hbc.mono hb0.size))
  have hBc := hide (hB0.below hbc hB0.lt)
  obtain ⟨w2, hw2⟩ : ∃ y, y = w1.drew.alloc (C w1) := ⟨_, rfl⟩
  rw [← hw2] at hM hcv1 hbw hBc
  clear hw2 hcv hKC hK1 hR1 hbc hb0 hB0
  go_wp2_with fail
  refine hM.out.mono ?_
  rintro e w3 ⟨b1, rfl, hb1, hbx⟩
  have hB1 := hide (hBc.out.below hbx hBc.out.lt)
  have hw1 := hide (hbw.out.trans (hbx.mono hbw.out.size))
  clear hM hcv1 x0 hbx hBc hbw
  cases b1 with
  | false =>
    clear hb1
    go_wp2_with fail
    go_ret
    exact MayF.no hw1.out
  | true =>
    obtain ⟨hv, hl40⟩ := hb1 rfl
    clear hb1
    have x1 : w3.cell? ⟨w.heap.size, 1, none⟩ = some (.int .i64 f.method) := hB1.out.cell 1
    by_cases m0 : f.method = 0
    · have e0 : (f.method != 0) = false := by simp [m0]
      clear m0
      have c1 : w3.cell? ⟨w.heap.size, 2, none⟩ = some (.int .i64 f.dos) := hB1.out.cell 2
      go_wp2_with fail
      refine (fits_any w3 f.dos 4294967295).mono ?_
      rintro e w4 ⟨rfl, hbx⟩
      obtain ⟨d1, hd1⟩ : ∃ d, d = (decide (0 ≤ f.dos) && decide (f.dos ≤ 4294967295)) := ⟨_, rfl⟩
      rw [← hd1]
      have hB2 := hide (hB1.out.below hbx hB1.out.lt)
      have hw2 := hide (hw1.out.trans (hbx.mono hw1.out.size))
      clear c1 hbx hB1 hw1
      replace hd1 := hide hd1
      cases d1 with
      | false =>
        go_wp2_with fail
        go_ret
        exact MayF.no hw2.out
      | true =>
        skip
        have c2 : w4.cell? ⟨w.heap.size, 4, none⟩ = some (.int .i64 f.x4) := hB2.out.cell 4
        go_wp2_with fail
        refine (fits_any w4 f.x4 4294967295).mono ?_
        rintro e w5 ⟨rfl, hbx⟩
        obtain ⟨d2, hd2⟩ : ∃ d, d = (decide (0 ≤ f.x4) && decide (f.x4 ≤ 4294967295)) := ⟨_, rfl⟩
        rw [← hd2]
        have hB3 := hide (hB2.out.below hbx hB2.out.lt)
        have hw3 := hide (hw2.out.trans (hbx.mono hw2.out.size))
        clear c2 hbx hB2 hw2
        replace hd2 := hide hd2
        cases d2 with
        | false =>
          go_wp2_with fail
          go_ret
          exact MayF.no hw3.out
        | true =>
          skip
          have c3 : w5.cell? ⟨w.heap.size, 6, none⟩ = some (.int .i64 f.x6) := hB3.out.cell 6
          go_wp2_with fail
          refine (fits_any w5 f.x6 4294967295).mono ?_
          rintro e w6 ⟨rfl, hbx⟩
          obtain ⟨d3, hd3⟩ : ∃ d, d = (decide (0 ≤ f.x6) && decide (f.x6 ≤ 4294967295)) := ⟨_, rfl⟩
          rw [← hd3]
          have hB4 := hide (hB3.out.below hbx hB3.out.lt)
          have hw4 := hide (hw3.out.trans (hbx.mono hw3.out.size))
          clear c3 hbx hB3 hw3
          replace hd3 := hide hd3
          cases d3 with
          | false =>
            go_wp2_with fail
            go_ret
            exact MayF.no hw4.out
          | true =>
            skip
            have c4 : w6.cell? ⟨w.heap.size, 5, none⟩ = some (.int .i64 f.size) := hB4.out.cell 5
            go_wp2_with fail
            refine (fits_any w6 f.size 281474976710655).mono ?_
            rintro e w7 ⟨rfl, hbx⟩
            obtain ⟨d4, hd4⟩ : ∃ d, d = (decide (0 ≤ f.size) && decide (f.size ≤ 281474976710655)) := ⟨_, rfl⟩
            rw [← hd4]
            have hB5 := hide (hB4.out.below hbx hB4.out.lt)
            have hw5 := hide (hw4.out.trans (hbx.mono hw4.out.size))
            clear c4 hbx hB4 hw4
            go_wp2_with fail
            go_ret
            refine ⟨_, rfl, fun h => ?_, hw5.out⟩
            have h1 := hd1.out
            clear hd4
            simp only [eq_comm (a := true), Bool.and_eq_true, decide_eq_true_eq] at h1 h
            exact ⟨hv, hl40, h, h1⟩
    · have e0 : (f.method != 0) = true := by simp [m0]
      by_cases m8 : f.method = 8
      · have e8 : (f.method != 8) = false := by simp [m8]
        clear m0 m8
        have c1 : w3.cell? ⟨w.heap.size, 2, none⟩ = some (.int .i64 f.dos) := hB1.out.cell 2
        go_wp2_with fail
        refine (fits_any w3 f.dos 4294967295).mono ?_
        rintro e w4 ⟨rfl, hbx⟩
        obtain ⟨d1, hd1⟩ : ∃ d, d = (decide (0 ≤ f.dos) && decide (f.dos ≤ 4294967295)) := ⟨_, rfl⟩
        rw [← hd1]
        have hB2 := hide (hB1.out.below hbx hB1.out.lt)
        have hw2 := hide (hw1.out.trans (hbx.mono hw1.out.size))
        clear c1 hbx hB1 hw1
        replace hd1 := hide hd1
        cases d1 with
        | false =>
          go_wp2_with fail
          go_ret
          exact MayF.no hw2.out
        | true =>
          skip
          have c2 : w4.cell? ⟨w.heap.size, 4, none⟩ = some (.int .i64 f.x4) := hB2.out.cell 4
          go_wp2_with fail
          refine (fits_any w4 f.x4 4294967295).mono ?_
          rintro e w5 ⟨rfl, hbx⟩
          obtain ⟨d2, hd2⟩ : ∃ d, d = (decide (0 ≤ f.x4) && decide (f.x4 ≤ 4294967295)) := ⟨_, rfl⟩
          rw [← hd2]
          have hB3 := hide (hB2.out.below hbx hB2.out.lt)
          have hw3 := hide (hw2.out.trans (hbx.mono hw2.out.size))
          clear c2 hbx hB2 hw2
          replace hd2 := hide hd2
          cases d2 with
          | false =>
            go_wp2_with fail
            go_ret
            exact MayF.no hw3.out
          | true =>
            skip
            have c3 : w5.cell? ⟨w.heap.size, 6, none⟩ = some (.int .i64 f.x6) := hB3.out.cell 6
            go_wp2_with fail
            refine (fits_any w5 f.x6 4294967295).mono ?_
            rintro e w6 ⟨rfl, hbx⟩
            obtain ⟨d3, hd3⟩ : ∃ d, d = (decide (0 ≤ f.x6) && decide (f.x6 ≤ 4294967295)) := ⟨_, rfl⟩
            rw [← hd3]
            have hB4 := hide (hB3.out.below hbx hB3.out.lt)
            have hw4 := hide (hw3.out.trans (hbx.mono hw3.out.size))
            clear c3 hbx hB3 hw3
            replace hd3 := hide hd3
            cases d3 with
            | false =>
              go_wp2_with fail
              go_ret
              exact MayF.no hw4.out
            | true =>
              skip
              have c4 : w6.cell? ⟨w.heap.size, 5, none⟩ = some (.int .i64 f.size) := hB4.out.cell 5
              go_wp2_with fail
              refine (fits_any w6 f.size 281474976710655).mono ?_
              rintro e w7 ⟨rfl, hbx⟩
              obtain ⟨d4, hd4⟩ : ∃ d, d = (decide (0 ≤ f.size) && decide (f.size ≤ 281474976710655)) := ⟨_, rfl⟩
              rw [← hd4]
              have hB5 := hide (hB4.out.below hbx hB4.out.lt)
              have hw5 := hide (hw4.out.trans (hbx.mono hw4.out.size))
              clear c4 hbx hB4 hw4
              go_wp2_with fail
              go_ret
              refine ⟨_, rfl, fun h => ?_, hw5.out⟩
              have h1 := hd1.out
              clear hd4
              simp only [eq_comm (a := true), Bool.and_eq_true, decide_eq_true_eq] at h1 h
              exact ⟨hv, hl40, h, h1⟩
      · have e8 : (f.method != 8) = true := by simp [m8]
        clear m0 m8
        go_wp2_with fail
        go_ret
        exact MayF.no hw1.out
end Go.Proofs.YtnnjcedlomfhoaaGreatDoor
