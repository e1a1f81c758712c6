/-
  The walk of the law NormErrors: what parts are, how deep they are, by the document; the law.
-/
import Derived.Test.YtnhcamkccnaeeaaDoorLayW
import Derived.Test.YtnhcamkccnaeeaaDoorNormW
import Derived.Test.YtnhcamkccnaeeaaDoorRErr
namespace Go.Proofs.YtnhcamkccnaeeaaDoor
open Go.RowKit
set_option linter.unusedVariables false

def LongRet (w : World) (n : Nat) (e : Ending) (w' : World) : Prop := (∃ b : Bool, e = .returned (.bool b) ∧ (b = false → n ≤ 60)) ∧ Below w.heap.size w w'
set_option maxRecDepth 100000 in
theorem long_any (w : World) (A : Option Addr) (n c : Nat) (l : List Ask) (h : RA w w.heap.size A n l) (hn : n ≤ 9223372036854775807) :
    Calls Tryd.prog 6 #[.slice A n c] w (LongRet w n) := by
  have hlen := hide h.len
  have hwr : Hid (∀ k : Nat, k < n → IntKind.i64.wrap ((k : Int) + 1) = (k : Int) + 1) := fun k hk => IntWalk.i64_in _ (by omega)
  replace h := hide h
  clear hn
  go_enter Tryd.func6, Tryd.ntmps6
  go_wp2_with fail
  go_loopw [7] (fun v7 wr => ∃ p : Nat, v7 = .int .i64 p ∧ p ≤ n ∧ Below w.heap.size w wr) (fun v7 _ => n - (intOf v7).toNat)
  case atStart => exact ⟨0, rfl, by omega, Below.refl _ _⟩
  case round =>
    obtain ⟨p, rfl, hp, hbl⟩ := hrel
    by_cases h1 : p < n
    · have hpl : p < l.length := by have := hlen.out; omega
      obtain ⟨ad, rfl, hab, c0, c1, c2, c3, c4, c5, c6⟩ := (h.out.below hbl).elem h1 hpl
      generalize l[p] = x at *
      have h1' : (p : Int) < (n : Int) := by omega
      have hw := hwr.out p h1
      have hsz := hbl.size
      have hb2 := hide (hbl.alloc hsz (.cells #[.int .i64 x.kind, .int .i64 x.op, .int .i64 x.a, .int .i64 x.b, .int .i64 x.n, .string (str x.text), .bool x.isText] 37))
      by_cases h3 : (300 : Int) < ((str x.text).size : Int)
      · go_wp2_with fail
        go_ret
        exact ⟨⟨true, rfl, fun e => by cases e⟩, hb2.out⟩
      · go_wp2_with fail
        go_roundw
        case rel => exact ⟨p + 1, by go_num, by omega, hb2.out⟩
        case measure => simp [intOf]; omega
    · have h1' : ¬ (p : Int) < (n : Int) := by omega
      by_cases h6 : (60 : Int) < (n : Int)
      · go_wp2_with fail
        go_ret
        exact ⟨⟨true, by simp, fun e => by cases e⟩, hbl⟩
      · go_wp2_with fail
        go_ret
        exact ⟨⟨false, by simp, fun _ => by omega⟩, hbl⟩

/-! ### Plain: parts -/
def twoB (x : Ask) : Bool := x.kind == 1 || x.kind == 2
def joinB (x : Ask) (i : Int) : Bool := decide (x.a < 0) || decide (i ≤ x.a) || (twoB x && (decide (x.b < 0) || decide (i ≤ x.b) || x.a == x.b)) || (!twoB x && x.b != -1)
def termB (x : Ask) : Bool := decide (x.kind < 4) || decide (9 < x.kind) || x.a != -1 || x.b != -1 || decide (x.op < 1) || decide (7 < x.op)
def hasB (x : Ask) : Bool := x.kind == 9 && (x.op != 1 || !x.isText)
theorem shapedB_ref (x : Ask) (i : Int) : shapedB x i = if (twoB x || x.kind == 3) = true then !joinB x i else if termB x = true then false else !hasB x := by
  obtain ⟨kind, op, a, b, n, text, isText⟩ := x
  unfold shapedB joinB termB hasB twoB jointB belowB
  dsimp only
  by_cases h1 : kind = 1
  · subst h1
    simp only [decide_true, Bool.true_or, if_true, beq_self_eq_true]
    rw [Bool.eq_iff_iff]
    simp
    omega
  · by_cases h2 : kind = 2
    · subst h2
      rw [Bool.eq_iff_iff]
      simp
      try omega
    · by_cases h3 : kind = 3
      · subst h3
        rw [Bool.eq_iff_iff]
        simp
        try omega
      · by_cases h9 : kind = 9
        · subst h9
          rw [Bool.eq_iff_iff]
          cases isText
          · simp
          · simp
            try omega
        · rw [Bool.eq_iff_iff]
          simp [h1, h2, h3, h9]
          try omega
/-- How often a place is named, up to a place. -/
theorem usedC_take (l : List Ask) (i : Int) (k : Nat) (h : k < l.length) : usedC (l.take (k + 1)) i = usedC (l.take k) i + (if l[k].a = i then 1 else 0) + (if l[k].b = i then 1 else 0) := by
  rw [List.take_succ_eq_append_getElem h, usedC_append, usedC_one]; omega
theorem usedC_le2 (l : List Ask) (i : Int) : usedC l i ≤ 2 * l.length := by
  unfold usedC
  have h1 := List.countP_le_length (p := fun a : Ask => decide (a.a = i)) (l := l)
  have h2 := List.countP_le_length (p := fun a : Ask => decide (a.b = i)) (l := l)
  omega
theorem partsB_bad1 (l : List Ask) (h : shapedL l 0 = false) : partsB l = false := by simp [partsB, h]
theorem partsB_bad2 (l : List Ask) (i : Nat) (hi : i + 1 < l.length) (h : usedC l i ≠ 1) : partsB l = false := by
  rw [Bool.eq_false_iff]
  intro e
  simp only [partsB, Bool.and_eq_true, List.all_eq_true, List.mem_range, decide_eq_true_eq] at e
  exact h (e.2 i (by omega))
theorem partsB_good (l : List Ask) (h : shapedL l 0 = true) (hu : ∀ i : Nat, i + 1 < l.length → usedC l i = 1) : partsB l = decide (0 < l.length) := by
  rw [Bool.eq_iff_iff]
  simp only [partsB, Bool.and_eq_true, List.all_eq_true, List.mem_range, decide_eq_true_eq]
  exact ⟨fun e => e.1.2, fun e => ⟨⟨h, e⟩, fun k hk => hu k (by omega)⟩⟩
theorem shapedL_take2 (l : List Ask) (k : Nat) (h : k < l.length) : shapedL (l.take (k + 1)) 0 = (shapedL (l.take k) 0 && shapedB l[k] k) := by
  rw [List.take_succ_eq_append_getElem h, shapedL_append, shapedL, shapedL, Bool.and_true]
  simp [Nat.min_eq_left (Nat.le_of_lt h)]
theorem shapedL_bad2 (l : List Ask) (k : Nat) (h : shapedL (l.take k) 0 = false) : shapedL l 0 = false := by
  conv => lhs; rw [← List.take_append_drop k l]
  rw [shapedL_append, h]; rfl
def UsedI (l : List Ask) (i : Nat) : Prop := ∀ j : Nat, j < i → usedC l j = 1
theorem dec_or {a b : Prop} [Decidable a] [Decidable b] : decide (a ∨ b) = (decide a || decide b) := by by_cases h : a <;> by_cases h2 : b <;> simp [h, h2]

set_option maxRecDepth 100000 in
set_option maxHeartbeats 8000000 in
theorem rparts_any (w : World) (A : Option Addr) (n c : Nat) (l : List Ask) (h : RA w w.heap.size A n l) (hn : n ≤ 1000) :
    Calls Tryd.prog 8 #[.slice A n c] w fun e w' => e = .returned (.bool (partsB l)) ∧ Below w.heap.size w w' := by
  have hlen := hide h.len
  replace h := hide h
  go_enter Tryd.func8, Tryd.ntmps8
  go_wp2_with fail
  go_loopw [3] (fun v3 wr => ∃ p : Nat, v3 = .int .i64 p ∧ p ≤ n ∧ shapedL (l.take p) 0 = true ∧ Below w.heap.size w wr) (fun v3 _ => n - (intOf v3).toNat)
  case atStart => exact ⟨0, rfl, by omega, rfl, Below.refl _ _⟩
  case round =>
    obtain ⟨p, rfl, hp, hsh, hbl⟩ := hrel
    by_cases h1 : p < n
    · have hpl : p < l.length := by have := hlen.out; omega
      obtain ⟨ad, rfl, hab, c0, c1, c2, c3, c4, c5, c6⟩ := (h.out.below hbl).elem h1 hpl
      have hst := shapedL_take2 l p hpl
      have hbad := shapedL_bad2 l (p + 1)
      have hsr := shapedB_ref l[p] p
      generalize l[p] = x at *
      obtain ⟨kind, op, a, b, nn, text, isText⟩ := x
      dsimp only at c0 c1 c2 c3 c4 c5 c6
      have hsz := hbl.size
      have hB := Blk.new wr 37 #[.int .i64 kind, .int .i64 op, .int .i64 a, .int .i64 b, .int .i64 nn, .string (str text), .bool isText]
      have hb2 := hide (hbl.alloc hsz (.cells #[.int .i64 kind, .int .i64 op, .int .i64 a, .int .i64 b, .int .i64 nn, .string (str text), .bool isText] 37))
      obtain ⟨wx, hwx⟩ : ∃ x, x = wr.alloc (.cells #[.int .i64 kind, .int .i64 op, .int .i64 a, .int .i64 b, .int .i64 nn, .string (str text), .bool isText] 37) := ⟨_, rfl⟩
      rw [← hwx] at hB hb2
      have p0 : wx.cell? ⟨wr.heap.size, 0, none⟩ = some (.int .i64 kind) := hB.cell 0
      have p1 : wx.cell? ⟨wr.heap.size, 1, none⟩ = some (.int .i64 op) := hB.cell 1
      have p2 : wx.cell? ⟨wr.heap.size, 2, none⟩ = some (.int .i64 a) := hB.cell 2
      have p3 : wx.cell? ⟨wr.heap.size, 3, none⟩ = some (.int .i64 b) := hB.cell 3
      have p6 : wx.cell? ⟨wr.heap.size, 6, none⟩ = some (.bool isText) := hB.cell 6
      clear hB
      have hsh' := hide hsh
      have hst' := hide hst
      have hbad' := hide hbad
      have hsr' := hide hsr
      clear hsh hst hbad hsr
      go_upto_region 5 with (fail)
      rw [← hwx]
      clear hwx c0 c1 c2 c3 c4 c5 c6
      go_cut [5] (fun v5 wy => v5 = .bool (twoB ⟨kind, op, a, b, nn, text, isText⟩) ∧ wx = wy)
      case first =>
        by_cases k1 : kind = 1
        · subst k1
          have ht : Hid (twoB ⟨1, op, a, b, nn, text, isText⟩ = true) := rfl
          go_wp2_with fail
          go_meet
          exact ⟨by rw [ht.out], rfl⟩
        · have n1 : (kind == 1) = false := by simp [k1]
          have ht : Hid ((kind == 2) = twoB ⟨kind, op, a, b, nn, text, isText⟩) := by rw [Hid, twoB, n1]; rfl
          go_wp2_with fail
          go_meet
          exact ⟨by rw [ht.out], rfl⟩
      case rest =>
        obtain ⟨rfl, rfl⟩ := hcut
        obtain ⟨tw, htw⟩ : ∃ t, t = twoB ⟨kind, op, a, b, nn, text, isText⟩ := ⟨_, rfl⟩
        rw [← htw]
        replace htw := hide htw
        go_upto_region 6 with (fail)
        go_cut [32] (fun v32 wy => v32 = .bool (tw || kind == 3) ∧ wx = wy)
        case first =>
          cases tw
          all_goals
            go_wp2_with fail
            go_meet
            exact ⟨rfl, rfl⟩
        case rest =>
          obtain ⟨rfl, rfl⟩ := hcut
          go_upto_if 32 with (fail)
          obtain ⟨jn, hjn⟩ : ∃ t, t = (tw || kind == 3) := ⟨_, rfl⟩
          rw [← hjn]
          cases jn with
          | true =>
            obtain ⟨jb, hjb⟩ : ∃ t, t = joinB ⟨kind, op, a, b, nn, text, isText⟩ p := ⟨_, rfl⟩
            have hjd : Hid (jb = (decide (a < 0) || decide ((p : Int) ≤ a) || (tw && (decide (b < 0) || decide ((p : Int) ≤ b) || a == b)) || (!tw && b != -1))) := by
              rw [Hid, hjb, joinB, ← htw.out]
            have hs2 : Hid (shapedB ⟨kind, op, a, b, nn, text, isText⟩ p = !jb) := by
              rw [Hid, hsr'.out, ← htw.out, ← hjn, if_pos rfl, hjb]
            clear hjb hsr' hjn
            go_upto_region 7 with (fail)
            go_cut [71] (fun v71 wy => v71 = .bool jb ∧ wx = wy)
            case first =>
              by_cases a0 : a < 0
              · have e : Hid (jb = true) := by rw [Hid, hjd.out]; simp [a0]
                go_wp2_with fail
                go_meet
                exact ⟨by rw [e.out], rfl⟩
              · by_cases a1 : (p : Int) ≤ a
                · have e : Hid (jb = true) := by rw [Hid, hjd.out]; simp [a1]
                  go_wp2_with fail
                  go_meet
                  exact ⟨by rw [e.out], rfl⟩
                · cases tw with
                  | false =>
                    have e : Hid ((b != -1) = jb) := by rw [Hid, hjd.out]; simp [a0, a1]
                    go_wp2_with fail
                    go_meet
                    exact ⟨by rw [e.out], rfl⟩
                  | true =>
                    by_cases b0 : b < 0
                    · have e : Hid (jb = true) := by rw [Hid, hjd.out]; simp [b0]
                      go_wp2_with fail
                      go_meet
                      exact ⟨by rw [e.out], rfl⟩
                    · by_cases b1 : (p : Int) ≤ b
                      · have e : Hid (jb = true) := by rw [Hid, hjd.out]; simp [b1]
                        go_wp2_with fail
                        go_meet
                        exact ⟨by rw [e.out], rfl⟩
                      · obtain ⟨eb, heb⟩ : ∃ t, t = (a == b) := ⟨_, rfl⟩
                        have e : Hid (eb = jb) := by rw [Hid, hjd.out, heb]; simp [a0, a1, b0, b1]
                        replace heb := heb.symm
                        cases eb
                        all_goals
                          go_wp2_with fail
                          go_meet
                          exact ⟨by rw [← e.out], rfl⟩
            case rest =>
              obtain ⟨rfl, rfl⟩ := hcut
              clear hjd
              cases jb with
              | true =>
                have hf : Hid (partsB l = false) := by
                  refine partsB_bad1 l (hbad'.out ?_)
                  rw [hst'.out, hs2.out]; simp
                go_wp2_with fail
                go_ret
                exact ⟨by rw [hf.out]; first | done | rfl, hb2.out⟩
              | false =>
                have hg : Hid (shapedL (l.take (p + 1)) 0 = true) := by
                  rw [Hid, hst'.out, hs2.out, hsh'.out]; rfl
                go_wp2_with fail
                go_roundw
                case rel => exact ⟨p + 1, by go_num, by omega, hg.out, hb2.out⟩
                case measure => simp [intOf]; omega
          | false =>
            obtain ⟨tb, htb⟩ : ∃ t, t = termB ⟨kind, op, a, b, nn, text, isText⟩ := ⟨_, rfl⟩
            obtain ⟨nb, hnb⟩ : ∃ t, t = hasB ⟨kind, op, a, b, nn, text, isText⟩ := ⟨_, rfl⟩
            have hs2 : Hid (shapedB ⟨kind, op, a, b, nn, text, isText⟩ p = if tb = true then false else !nb) := by
              rw [Hid, hsr'.out, ← htw.out, ← hjn, if_neg (by simp), htb, hnb]
            have htd : Hid (tb = (decide (kind < 4) || decide (9 < kind) || a != -1 || b != -1 || decide (op < 1) || decide (7 < op))) := htb
            have hnd : Hid (nb = (kind == 9 && (op != 1 || !isText))) := hnb
            clear htb hnb hsr' hjn
            go_upto_region 9 with (fail)
            go_cut [99] (fun v99 wy => v99 = .bool tb ∧ wx = wy)
            case first =>
              by_cases k4 : kind < 4
              · have e : Hid (tb = true) := by rw [Hid, htd.out]; simp [k4]
                go_wp2_with fail
                go_meet
                exact ⟨by rw [e.out], rfl⟩
              · by_cases k9 : 9 < kind
                · have e : Hid (tb = true) := by rw [Hid, htd.out]; simp [k9]
                  go_wp2_with fail
                  go_meet
                  exact ⟨by rw [e.out], rfl⟩
                · by_cases ha : a = -1
                  · by_cases hb : b = -1
                    · by_cases o1 : op < 1
                      · have e : Hid (tb = true) := by rw [Hid, htd.out]; simp [o1]
                        subst ha hb
                        go_wp2_with fail
                        go_meet
                        exact ⟨by rw [e.out], rfl⟩
                      · have e : Hid (decide (7 < op) = tb) := by rw [Hid, htd.out]; simp [k4, k9, ha, hb, o1]
                        subst ha hb
                        go_wp2_with fail
                        go_meet
                        exact ⟨by rw [e.out], rfl⟩
                    · have n1 : (b != -1) = true := by simp [hb]
                      have e : Hid (tb = true) := by rw [Hid, htd.out, n1]; simp
                      subst ha
                      go_wp2_with fail
                      go_meet
                      exact ⟨by rw [e.out], rfl⟩
                  · have n1 : (a != -1) = true := by simp [ha]
                    have e : Hid (tb = true) := by rw [Hid, htd.out, n1]; simp
                    go_wp2_with fail
                    go_meet
                    exact ⟨by rw [e.out], rfl⟩
            case rest =>
              obtain ⟨rfl, rfl⟩ := hcut
              clear htd
              cases tb with
              | true =>
                have hf : Hid (partsB l = false) := by
                  refine partsB_bad1 l (hbad'.out ?_)
                  rw [hst'.out, hs2.out, if_pos rfl, Bool.and_false]
                go_wp2_with fail
                go_ret
                exact ⟨by rw [hf.out]; first | done | rfl, hb2.out⟩
              | false =>
                go_upto_if 99 with (fail)
                go_upto_region 11 with (fail)
                go_cut [112] (fun v112 wy => v112 = .bool nb ∧ wx = wy)
                case first =>
                  by_cases k9 : kind = 9
                  · subst k9
                    by_cases o1 : op = 1
                    · have e : Hid ((!isText) = nb) := by rw [Hid, hnd.out]; simp [o1]
                      subst o1
                      go_wp2_with fail
                      go_meet
                      exact ⟨by rw [e.out], rfl⟩
                    · have n1 : (op != 1) = true := by simp [o1]
                      have e : Hid (nb = true) := by rw [Hid, hnd.out, n1]; rfl
                      go_wp2_with fail
                      go_meet
                      exact ⟨by rw [e.out], rfl⟩
                  · have n1 : (kind == 9) = false := by simp [k9]
                    have e : Hid (nb = false) := by rw [Hid, hnd.out, n1]; rfl
                    go_wp2_with fail
                    go_meet
                    exact ⟨by rw [e.out], rfl⟩
                case rest =>
                  obtain ⟨rfl, rfl⟩ := hcut
                  clear hnd
                  cases nb with
                  | true =>
                    have hf : Hid (partsB l = false) := by
                      refine partsB_bad1 l (hbad'.out ?_)
                      rw [hst'.out, hs2.out]; simp
                    go_wp2_with fail
                    go_ret
                    exact ⟨by rw [hf.out]; first | done | rfl, hb2.out⟩
                  | false =>
                    have hg : Hid (shapedL (l.take (p + 1)) 0 = true) := by
                      rw [Hid, hst'.out, hs2.out, hsh'.out]; rfl
                    go_wp2_with fail
                    go_roundw
                    case rel => exact ⟨p + 1, by go_num, by omega, hg.out, hb2.out⟩
                    case measure => simp [intOf]; omega
    · have h1' : ¬ (p : Int) < (n : Int) := by omega
      have e : p = n := by omega
      subst e
      have hsh2 : Hid (shapedL l 0 = true) := by
        rw [List.take_of_length_le (by have := hlen.out; omega)] at hsh; exact hsh
      clear hsh
      go_wp2_with fail
      go_loopw [6] (fun v6 wi => ∃ i : Nat, v6 = .int .i64 i ∧ i ≤ p ∧ UsedI l i ∧ wr = wi) (fun v6 _ => p - (intOf v6).toNat)
      case atStart => exact ⟨0, rfl, by omega, fun j hj => absurd hj (by omega), rfl⟩
      case round =>
        obtain ⟨i, rfl, hi, hu, rfl⟩ := hrel
        by_cases h2 : i + 1 < p
        · have h2' : (i : Int) + 1 < (p : Int) := by omega
          replace hu := hide hu
          go_wp2_with fail
          go_loopw [7, 8] (fun v7 v8 wk => ∃ k : Nat, v8 = .int .i64 k ∧ k ≤ p ∧ v7 = .int .i64 (usedC (l.take k) i) ∧ wr = wk) (fun _ v8 _ => p - (intOf v8).toNat)
          case atStart => exact ⟨0, rfl, by omega, rfl, rfl⟩
          case round =>
            obtain ⟨k, rfl, hk, rfl, rfl⟩ := hrel
            by_cases h3 : k < p
            · have h3' : (k : Int) < (p : Int) := by omega
              have hkl : k < l.length := by have := hlen.out; omega
              obtain ⟨ad, rfl, hab, c0, c1, c2, c3, c4, c5, c6⟩ := (h.out.below hbl).elem h3 hkl
              have hut := hide (usedC_take l i k hkl)
              have hul := usedC_le2 (l.take k) i
              have hul2 : usedC (l.take k) i ≤ 2000 := by simp at hul; omega
              clear hul
              generalize l[k] = x at *
              generalize usedC (l.take k) i = u at *
              by_cases ha : x.a = i
              · rw [if_pos ha] at hut
                have na : (x.a == (i : Int)) = true := by simp [ha]
                by_cases hb : x.b = i
                · rw [if_pos hb] at hut
                  have nb : (x.b == (i : Int)) = true := by simp [hb]
                  clear ha hb
                  go_wp2_with fail
                  go_roundw
                  case rel => exact ⟨k + 1, by go_num, by omega, by rw [hut.out]; push_cast; rfl, by first | rfl | trivial⟩
                  case measure => simp [intOf]; omega
                · rw [if_neg hb] at hut
                  have nb : (x.b == (i : Int)) = false := by simp [hb]
                  clear ha hb
                  go_wp2_with fail
                  go_roundw
                  case rel => exact ⟨k + 1, by go_num, by omega, by rw [hut.out]; push_cast; rfl, by first | rfl | trivial⟩
                  case measure => simp [intOf]; omega
              · rw [if_neg ha] at hut
                have na : (x.a == (i : Int)) = false := by simp [ha]
                by_cases hb : x.b = i
                · rw [if_pos hb] at hut
                  have nb : (x.b == (i : Int)) = true := by simp [hb]
                  clear ha hb
                  go_wp2_with fail
                  go_roundw
                  case rel => exact ⟨k + 1, by go_num, by omega, by rw [hut.out]; push_cast; rfl, by first | rfl | trivial⟩
                  case measure => simp [intOf]; omega
                · rw [if_neg hb] at hut
                  have nb : (x.b == (i : Int)) = false := by simp [hb]
                  clear ha hb
                  go_wp2_with fail
                  go_roundw
                  case rel => exact ⟨k + 1, by go_num, by omega, by rw [hut.out]; push_cast; rfl, by first | rfl | trivial⟩
                  case measure => simp [intOf]; omega
            · have h3' : ¬ (k : Int) < (p : Int) := by omega
              have htk : l.take k = l := List.take_of_length_le (by have := hlen.out; omega)
              rw [htk]
              by_cases hu1 : usedC l i = 1
              · have hu2 : Hid (UsedI l (i + 1)) := by
                  intro j hj
                  by_cases e : j = i
                  · subst e; exact hu1
                  · exact hu.out j (by omega)
                rw [hu1]
                go_wp2_with fail
                go_roundw
                case rel => exact ⟨i + 1, by go_num, by omega, hu2.out, by first | rfl | trivial⟩
                case measure => simp [intOf]; omega
              · have hf : Hid (partsB l = false) := partsB_bad2 l i (by have := hlen.out; omega) hu1
                have n1 : (((usedC l i : Nat) : Int) != 1) = true := by simp; omega
                go_wp2_with fail
                go_ret
                exact ⟨by rw [hf.out]; first | done | rfl, hbl⟩
        · have h2' : ¬ (i : Int) + 1 < (p : Int) := by omega
          have hf : Hid (decide (0 < p) = partsB l) := by
            rw [Hid, partsB_good l hsh2.out (fun j hj => hu j (by have := hlen.out; omega)), hlen.out]
          clear hu
          go_wp2_with fail
          go_ret
          exact ⟨by rw [← hf.out]; first | done | rfl, hbl⟩

set_option maxRecDepth 100000 in
set_option maxHeartbeats 4000000 in
theorem rdeep_w (w : World) (B : Nat) (A : Option Addr) (n c : Nat) (l : List Ask) (h : RA w B A n l) (hn : n ≤ 1000) (hsh : shapedL l 0 = true) :
    ∀ (N k : Nat), k < N → k < n → Calls Tryd.prog 9 #[.slice A n c, .int .i64 k] w fun e w' => e = .returned (.int .i64 (dep l k : Int)) ∧ w' = w := by
  have hlen := hide h.len
  replace hsh := hide hsh
  intro N
  induction N with
  | zero => intro k hk; omega
  | succ N ih =>
    intro k hk hkn
    have hkl : k < l.length := by have := hlen.out; omega
    have hs := shapedL_at l 0 hsh.out k hkl
    rw [Int.zero_add] at hs
    have hd1 := dep_at l k hkl
    have hle : dep l k ≤ 1000 := by
      have h1 := deeps_le l [] (fun _ h => by cases h)
      have h2 : (deeps [] l).length = l.length := by rw [deeps_len]; simp
      have h3 : k < (deeps [] l).length := by omega
      have h4 := h1 _ (List.getElem_mem h3)
      have h5 : dep l k = (deeps [] l)[k] := by
        unfold dep
        rw [List.getD_eq_getElem?_getD, List.getElem?_eq_getElem h3]; rfl
      have := hlen.out
      omega
    obtain ⟨ad, rfl, hab, c0, c1, c2, c3, c4, c5, c6⟩ := h.elem hkn hkl
    generalize l[k] = x at *
    have hcs := shaped_cases hs
    rcases hcs with ⟨hk1, ⟨p, hpa, hpk⟩, ⟨q, hqb, hqk⟩, -⟩ | ⟨hk3, ⟨p, hpa, hpk⟩, hb⟩ | ⟨hk4, hk9, ha, hb, ho1, ho7, -⟩
    · rw [hpa, hqb, if_pos ⟨by omega, by omega⟩, if_pos ⟨by omega, by omega⟩, Int.toNat_natCast, Int.toNat_natCast] at hd1
      rw [hpa] at c2
      rw [hqb] at c3
      have IX := hide (ih p (by omega) (by omega))
      have IY := hide (ih q (by omega) (by omega))
      clear ih hs hk1 hpa hqb
      generalize dep l p = dp at *
      generalize dep l q = dq at *
      replace hd1 := hide hd1
      go_enter Tryd.func9, Tryd.ntmps9
      go_wp2_with fail
      refine IX.out.mono ?_
      rintro e w' ⟨rfl, rfl⟩
      go_wp2_with fail
      refine IY.out.mono ?_
      rintro e w' ⟨rfl, rfl⟩
      by_cases hpq : dp < dq
      · have hpq' : (dp : Int) < (dq : Int) := by omega
        have e : Hid ((dq : Int) + 1 = (dep l k : Int)) := by rw [Hid, hd1.out]; omega
        have hb : dq ≤ 2000 := by have := hd1.out; omega
        go_wp2_with fail
        go_ret
        exact ⟨ret_int e.out, rfl⟩
      · have hpq' : ¬ (dp : Int) < (dq : Int) := by omega
        have e : Hid ((dp : Int) + 1 = (dep l k : Int)) := by rw [Hid, hd1.out]; omega
        have hb : dp ≤ 2000 := by have := hd1.out; omega
        go_wp2_with fail
        go_ret
        exact ⟨ret_int e.out, rfl⟩
    · rw [hpa, hb, if_pos ⟨by omega, by omega⟩, if_neg (by omega), Int.toNat_natCast] at hd1
      rw [hpa] at c2
      rw [hb] at c3
      have IX := hide (ih p (by omega) (by omega))
      clear ih hs hpa
      generalize dep l p = dp at *
      replace hd1 := hide hd1
      have e : Hid ((dp : Int) + 1 = (dep l k : Int)) := by rw [Hid, hd1.out]; omega
      have hb : dp ≤ 2000 := by have := hd1.out; omega
      go_enter Tryd.func9, Tryd.ntmps9
      go_wp2_with fail
      refine IX.out.mono ?_
      rintro e w' ⟨rfl, rfl⟩
      go_wp2_with fail
      go_ret
      exact ⟨ret_int e.out, rfl⟩
    · rw [ha, hb, if_neg (by omega)] at hd1
      rw [ha] at c2
      rw [hb] at c3
      clear ih hs
      have e : Hid ((1 : Int) = (dep l k : Int)) := by rw [Hid, hd1]; rfl
      go_enter Tryd.func9, Tryd.ntmps9
      go_wp2_with fail
      go_ret
      exact ⟨ret_int e.out, rfl⟩

theorem shaped_ops (l : List Ask) (h : shapedL l 0 = true) : ∀ x ∈ l, 9 ≤ x.kind ∨ 1 ≤ x.op ∨ x.kind < 4 := by
  intro x hx
  obtain ⟨k, hk, rfl⟩ := List.getElem_of_mem hx
  have hs := shapedL_at l 0 h k hk
  rw [Int.zero_add] at hs
  rcases shaped_cases hs with ⟨h1, -⟩ | ⟨h1, -⟩ | ⟨h1, h2, -, -, h3, -⟩
  · right; right; rcases h1 with e | e <;> omega
  · right; right; omega
  · right; left; exact h3
set_option maxRecDepth 100000 in
set_option maxHeartbeats 8000000 in
theorem normErrors_walk (w : World) (hA : Tabs w) (A : Option Addr) (n c : Nat) (l : List Ask) (h : RA w w.heap.size A n l) (hn : n ≤ 9223372036854775807) :
    Calls Tryd.prog 3 #[.slice A n c] w fun e w' => e = .returned (.bool true) ∧ Below w.heap.size w w' := by
  have hlen := hide h.len
  replace h := hide h
  replace hn := hide hn
  go_enter Tryd.func3, Tryd.ntmps3
  go_wp2_with fail
  refine (wakes25_any w hA).mono ?_
  rintro e w1 ⟨rfl, hb1⟩
  have hA1 := hide (hA.below hb1)
  have h1 := hide ((h.out.below hb1).more hb1.size)
  have hsz1 := hb1.size
  clear hA
  go_wp2_with fail
  refine (long_any w1 A n c l h1.out hn.out).mono ?_
  rintro e w2 ⟨⟨b, rfl, hb⟩, hb2⟩
  have hA2 := hide (hA1.out.below hb2)
  have h2 := hide ((h1.out.below hb2).more hb2.size)
  have hbw2 := hb1.trans (hb2.mono hsz1)
  have hsz2 := hbw2.size
  clear hb1 hb2 hA1 h1 hsz1
  cases b with
  | true =>
    clear hb
    go_wp2_with fail
    go_ret
    exact ⟨rfl, hbw2⟩
  | false =>
    have hn60 := hb rfl
    clear hb hn
    go_wp2_with fail
    refine (norm_w w2 A n c l h2.out (by omega) hA2.out.2.2.1 hA2.out.2.2.2).mono ?_
    rintro e w3 ⟨⟨A3, m3, c3, rfl, hE0, hE1, hm3⟩, hb3⟩
    have h3 := hide ((h2.out.below hb3).more hb3.size)
    have hA3 := hide (hA2.out.below hb3)
    have hbw3 := hbw2.trans (hb3.mono hsz2)
    have hsz3 := hbw3.size
    obtain ⟨E, hE⟩ : ∃ E, E = normErrL l := ⟨_, rfl⟩
    rw [← hE] at hE0 hE1 ⊢
    replace hE := hide hE
    replace hE0 := hide hE0
    replace hE1 := hide hE1
    clear hb3 hA2 h2
    go_wp2_with fail
    refine (rparts_any w3 A n c l h3.out (by omega)).mono ?_
    rintro e w4 ⟨rfl, hb4⟩
    have h4 := hide ((h3.out.below hb4).more hb4.size)
    have hbw4 := hbw3.trans (hb4.mono hsz3)
    have hsz4 := hbw4.size
    clear hb4 hA3 h3
    cases hp : partsB l with
    | false =>
      have e1 : E = 1 := by rw [hE.out, normErrL, if_pos hp]
      have e0 : m3 = 0 := hE0.out (by rw [e1]; decide)
      subst e1 e0
      clear hE hE0 hE1 hp
      go_wp2_with fail
      go_ret
      exact ⟨rfl, hbw4⟩
    | true =>
      have hsh : shapedL l 0 = true := by
        have hp1 := hp
        simp only [partsB, Bool.and_eq_true] at hp1
        exact hp1.1.1
      have hn1 : 1 ≤ n := by
        have hp1 := hp
        simp only [partsB, Bool.and_eq_true, decide_eq_true_eq] at hp1
        have := hlen.out; omega
      have hdp : Hid (dep l (n - 1) = deepL l) := by rw [Hid, deepL_dep, hlen.out]
      have hDD0 := rdeep_w w4 w4.heap.size A n c l h4.out (by omega) hsh n (n - 1) (by omega) (by omega)
      rw [hdp.out, show ((n - 1 : Nat) : Int) = (n : Int) - 1 from by omega] at hDD0
      have hDD := hide hDD0
      clear hDD0
      have hn1' : (1 : Int) ≤ (n : Int) := by omega
      have hn60' : (n : Int) ≤ 60 := by omega
      replace hsh := hide hsh
      replace hp := hide hp
      go_wp2_with fail
      refine hDD.out.mono ?_
      rintro e w' ⟨rfl, rfl⟩
      by_cases hd : 16 < deepL l
      · have hd' : (16 : Int) < (deepL l : Int) := by omega
        have e1 : E = 11 := by rw [hE.out, normErrL, if_neg (by rw [hp.out]; decide), if_pos hd]
        have e0 : m3 = 0 := hE0.out (by rw [e1]; decide)
        subst e1 e0
        clear hE hE0 hE1 hd hDD
        go_wp2_with fail
        go_ret
        exact ⟨rfl, hbw4⟩
      · have hd' : ¬ (16 : Int) < (deepL l : Int) := by omega
        have e1 : Hid (E = errsR l) := by
          rw [Hid, hE.out, normErrL, if_neg (by rw [hp.out]; decide), if_neg hd]
          exact (errsR_told l (shaped_ops l hsh.out)).symm
        clear hd hE hDD
        go_wp2_with fail
        refine (rerrs_any w' A n c l h4.out (by omega)).mono ?_
        rintro e w5 ⟨rfl, hb5⟩
        rw [← e1.out]
        have hbw5 := hbw4.trans (hb5.mono hsz4)
        clear hb5 e1
        by_cases h0 : E = 0
        · have e0 := hE1.out h0
          subst h0
          clear hE0 hE1
          go_wp2_with fail
          go_ret
          exact ⟨ret_bool (by simp; omega), hbw5⟩
        · have e0 : m3 = 0 := hE0.out h0
          have n0 : (E != 0) = true := by simp [h0]
          have nE : (E == E) = true := by simp
          subst e0
          clear hE0 hE1 h0
          go_wp2_with fail
          go_ret
          exact ⟨rfl, hbw5⟩
end Go.Proofs.YtnhcamkccnaeeaaDoor
