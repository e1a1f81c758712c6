/-
  Contracts of deflate.scale and item.parts.
-/
import Derived.Test.YtbchaomnjbkdhaaGreatEB
import Derived.Test.YtbchaomnjbkdhaaGreatEA
import Derived.Test.YtbchaomnjbkdhaaGreatChecked
import Derived.StillTailTactics
import Derived.Deep.RegionWith
import Derived.Laws.Bits
import Derived.IntWalk
import Derived.RowKit
namespace Go.Proofs.YtbchaomnjbkdhaaGreat
open Go.RowKit
set_option linter.unusedVariables false
def partV (p : Part) : Value := .agg #[.int .i64 (p.symbol : Int), .int .i64 (p.wide : Int), .int .i64 (p.more : Int)]
def PartRet (w : World) (p : Part) (e : Ending) (w' : World) : Prop := e = .returned (partV p) ∧ Below w.heap.size w w'
theorem i64_mask (m k : Nat) (hk : k ≤ 24) (hm : m < 4611686018427387904) : bits .and .i64 (m : Int) (IntKind.i64.wrap (IntKind.i64.wrap (2 ^ k) - 1)) = ((m % 2 ^ k : Nat) : Int) := by
  have hp : 2 ^ k ≤ 2 ^ 24 := Nat.pow_le_pow_right (by omega) hk
  have e24 : (2 : Nat) ^ 24 = 16777216 := by decide
  have hpos : 0 < 2 ^ k := Nat.two_pow_pos k
  have e1 : IntKind.i64.wrap (IntKind.i64.wrap (2 ^ k) - 1) = ((2 ^ k - 1 : Nat) : Int) := by
    have e : (2 : Int) ^ k = ((2 ^ k : Nat) : Int) := by push_cast; rfl
    rw [e]
    generalize 2 ^ k = P at *
    rw [IntWalk.i64_in (P : Int) (by omega), IntWalk.i64_in _ (by omega)]; omega
  rw [e1]
  show IntKind.i64.wrap ((BitVec.ofInt 64 (m : Int) &&& BitVec.ofInt 64 ((2 ^ k - 1 : Nat) : Int)).toNat : Int) = _
  rw [BitVec.toNat_and, BitVec.toNat_ofInt, BitVec.toNat_ofInt]
  have e64 : ((2 ^ 64 : Nat) : Int) = 18446744073709551616 := by decide
  have e2 : ((m : Int) % ((2 ^ 64 : Nat) : Int)).toNat = m := by rw [e64]; omega
  have e3 : (((2 ^ k - 1 : Nat) : Int) % ((2 ^ 64 : Nat) : Int)).toNat = 2 ^ k - 1 := by rw [e64]; omega
  rw [e2, e3, Nat.and_two_pow_sub_one_eq_mod]
  have := Nat.mod_le m (2 ^ k)
  rw [IntWalk.i64_in _ (by omega)]
theorem scaleK_step (n g k : Nat) (hk : k < 64) (h : 2 * g ≤ n / 2 ^ k) : scaleK n g (64 - k) k = scaleK n g (64 - (k + 1)) (k + 1) := by
  obtain ⟨f, hf⟩ : ∃ f, 64 - k = f + 1 := ⟨64 - k - 1, by omega⟩
  rw [hf, scaleK, if_pos h, show 64 - (k + 1) = f by omega]
theorem scaleK_stop (n g k : Nat) (h : ¬ 2 * g ≤ n / 2 ^ k) : scaleK n g (64 - k) k = k := by
  cases hf : 64 - k with
  | zero => rfl
  | succ f => rw [scaleK, if_neg h]
theorem scale_shr (n k : Nat) : (n : Int) / 2 ^ k = ((n / 2 ^ k : Nat) : Int) := by
  have e : (2 : Int) ^ k = ((2 ^ k : Nat) : Int) := by push_cast; rfl
  rw [e, Int.natCast_ediv]
theorem scale_bound (n g first : Nat) (hn : n < 65536) (hg : 1 ≤ g) (hg4 : g ≤ 4) : (scaleP n g first).symbol ≤ 65536 := by
  unfold scaleP
  dsimp only
  have h1 := scaleK_le (n - first) g 16 (by omega) (by have e : (2 : Nat) ^ 16 = 65536 := by decide
                                                       rw [Nat.div_eq_of_lt (by omega)]; omega) 64 0 (by omega)
  have h2 : scaleK (n - first) g 64 0 * g ≤ 16 * 4 := Nat.mul_le_mul h1 hg4
  have h3 := scaleK_end (n - first) g 64 0 (by have e : (2 : Nat) ^ (0 + 64) = 18446744073709551616 := by decide
                                               rw [e]
                                               have : 2 * 1 * 18446744073709551616 ≤ 2 * g * 18446744073709551616 := Nat.mul_le_mul_right _ (by omega)
                                               omega)
  omega
set_option maxRecDepth 100000 in
set_option maxHeartbeats 1000000 in
theorem scale_any (w : World) (N G F : Int) (n g first : Nat) (hN : N = (n : Int)) (hG : G = (g : Int)) (hF : F = (first : Int)) (h1 : first ≤ n) (hn : n < 65536) (hg1 : 1 ≤ g) (hg4 : g ≤ 4) :
    Calls Tryz.prog 75 #[.int .i64 N, .int .i64 G, .int .i64 F] w (PartRet w (scaleP n g first)) := by
  subst hN hG hF
  obtain ⟨m, hm⟩ : ∃ m, m = n - first := ⟨_, rfl⟩
  have hmi : (n : Int) - (first : Int) = (m : Int) := by omega
  have hm2 : m < 65536 := by omega
  have hfin : Hid (scaleP n g first = ⟨scaleK m g 64 0 * g + m / 2 ^ scaleK m g 64 0, scaleK m g 64 0, m % 2 ^ scaleK m g 64 0⟩) := by rw [Hid, scaleP, hm]
  replace hm := hide hm
  go_enter Tryz.func75, Tryz.ntmps75
  go_wp2_with fail
  have hB := hide (Blk.new w 79 #[.int .i64 0, .int .i64 0, .int .i64 0])
  have hb1 := hide ((Below.refl w.heap.size w).alloc (Nat.le_refl _) (.cells #[.int .i64 0, .int .i64 0, .int .i64 0] 79))
  generalize w.alloc (.cells #[.int .i64 0, .int .i64 0, .int .i64 0] 79) = wa at *
  go_loopw [7] (fun v7 wr => ∃ k : Nat, v7 = .int .i64 k ∧ k ≤ 16 ∧ Hid (scaleK m g 64 0 = scaleK m g (64 - k) k) ∧ wr = wa) (fun v7 _ => 17 - (intOf v7).toNat)
  case atStart => exact ⟨0, rfl, by omega, rfl, rfl⟩
  case round =>
    obtain ⟨k, rfl, hk, hK, rfl⟩ := hrel
    have hsh := scale_shr m k
    have h16 : k = 16 → m / 2 ^ k = 0 := by
      intro e; subst e
      exact Nat.div_eq_of_lt (by have : (2 : Nat) ^ 16 = 65536 := by decide
                                 omega)
    have hmk : m / 2 ^ k ≤ m := Nat.div_le_self _ _
    obtain ⟨D, hD⟩ : ∃ D, D = m / 2 ^ k := ⟨_, rfl⟩
    rw [← hD] at hsh h16 hmk
    by_cases hc : 2 * g ≤ D
    · have hk15 : k < 16 := by
        rcases Nat.lt_or_ge k 16 with h | h
        · exact h
        · have := h16 (by omega); omega
      have hK2 : Hid (scaleK m g 64 0 = scaleK m g (64 - (k + 1)) (k + 1)) := by rw [Hid, hK.out]; exact scaleK_step m g k (by omega) (by rw [← hD]; exact hc)
      have hci : decide (2 * (g : Int) ≤ (D : Int)) = true := by simp; omega
      have hci2 : 2 * (g : Int) ≤ (D : Int) := by omega
      replace hD := hide hD
      clear h16
      go_wp2_with fail
      go_roundw
      case rel => exact ⟨k + 1, by go_num, by omega, hK2, (by first | rfl | trivial)⟩
      case measure => simp [intOf]; omega
    · have hK2 : Hid (scaleK m g 64 0 = k) := by rw [Hid, hK.out]; exact scaleK_stop m g k (by rw [← hD]; exact hc)
      have hci : decide (2 * (g : Int) ≤ (D : Int)) = false := by simp; omega
      have hci2 : ¬ 2 * (g : Int) ≤ (D : Int) := by omega
      have hci3 : (D : Int) < 2 * (g : Int) := by omega
      replace hD := hide hD
      clear h16
      go_wp2_with fail
      go_still_tail 14, (by kernel_rfl)
      have hkg : k * g ≤ 16 * 4 := Nat.mul_le_mul hk hg4
      have hv1 : IntKind.i64.wrap (IntKind.i64.wrap ((k : Int) * (g : Int)) + (D : Int)) = ((k * g + D : Nat) : Int) := by
        rw [← Int.natCast_mul, IntWalk.i64_in ((k * g : Nat) : Int) (by omega), IntWalk.i64_in _ (by omega)]; push_cast; rfl
      have hv2 := i64_mask m k (by omega) (by omega)
      rw [hv1, hv2]
      have hB2 := hide (Blk.drew hB.out)
      have hres : Hid (scaleP n g first = ⟨k * g + D, k, m % 2 ^ k⟩) := by rw [Hid, hfin.out, hK2.out, hD.out]
      generalize m % 2 ^ k = R at *
      generalize k * g + D = S at *
      clear hv1 hv2 hkg hB
      change wpList _ _ _ _ _ wr.drew
      have hb2 := hide hb1.out.drew
      generalize wr.drew = wd at *
      have c0 := hB2.out.cell 0
      have c1 := hB2.out.cell 1
      have c2 := hB2.out.cell 2
      have f0 := hB2.out.frozen 0
      have f1 := hB2.out.frozen 1
      have f2 := hB2.out.frozen 2
      go_wp2_with fail
      have hB3 : Blk (((wd.setCell ⟨w.heap.size, 0, none⟩ (.int .i64 (S : Int))).setCell ⟨w.heap.size, 1, none⟩ (.int .i64 (k : Int))).setCell ⟨w.heap.size, 2, none⟩ (.int .i64 (R : Int))) w.heap.size 79 #[.int .i64 (S : Int), .int .i64 (k : Int), .int .i64 (R : Int)] := by
        have := ((hB2.out.set_ 0 (.int .i64 (S : Int))).set_ 1 (.int .i64 (k : Int))).set_ 2 (.int .i64 (R : Int))
        simpa using this
      have hbF : Hid (Below w.heap.size w (((wd.setCell ⟨w.heap.size, 0, none⟩ (.int .i64 (S : Int))).setCell ⟨w.heap.size, 1, none⟩ (.int .i64 (k : Int))).setCell ⟨w.heap.size, 2, none⟩ (.int .i64 (R : Int)))) :=
        ((hb2.out.setCell (p := ⟨w.heap.size, 0, none⟩) (Nat.le_refl _) _).setCell (p := ⟨w.heap.size, 1, none⟩) (Nat.le_refl _) _).setCell (p := ⟨w.heap.size, 2, none⟩) (Nat.le_refl _) _
      generalize ((wd.setCell ⟨w.heap.size, 0, none⟩ (.int .i64 (S : Int))).setCell ⟨w.heap.size, 1, none⟩ (.int .i64 (k : Int))).setCell ⟨w.heap.size, 2, none⟩ (.int .i64 (R : Int)) = wf at *
      have r0 : wf.cell? ⟨w.heap.size, 0, none⟩ = some (.int .i64 (S : Int)) := hB3.cell 0
      have r1 : wf.cell? ⟨w.heap.size, 1, none⟩ = some (.int .i64 (k : Int)) := hB3.cell 1
      have r2 : wf.cell? ⟨w.heap.size, 2, none⟩ = some (.int .i64 (R : Int)) := hB3.cell 2
      refine bodyPost_ret (v := partV ⟨S, k, R⟩) (by simp [results, Tryz.results75, go_sem, r0, r1, r2, partV]) rfl ?_
      rw [hres.out]
      exact ⟨rfl, hbF.out⟩
def itemV (x : Item) : Value := .agg #[.int .u8 (x.c.toNat : Int), .int .i64 (x.long : Int), .int .i64 (x.far : Int)]
def PartsRet (w : World) (x : Item) (e : Ending) (w' : World) : Prop := e = .returned (.tuple #[partV (litP x), partV (farP x)]) ∧ Below w.heap.size w w'
def pc (p : Part) : Array Value := #[.int .i64 (p.symbol : Int), .int .i64 (p.wide : Int), .int .i64 (p.more : Int)]
/-- The three blocks of a call. -/
def PB (w wx : World) (cn long far : Nat) (p q : Part) : Prop :=
  Blk wx w.heap.size 107 #[.int .u8 (cn : Int), .int .i64 (long : Int), .int .i64 (far : Int)] ∧ Blk wx (w.heap.size + 1) 79 (pc p) ∧ Blk wx (w.heap.size + 1 + 1) 79 (pc q) ∧ Below w.heap.size w wx
theorem Blk.far3 {w : World} {g : Nat} {t : TypeId} {cs : Array Value} (h : Blk w g t cs) {k : Nat} (hk : g ≠ k) (u0 u1 u2 : Value) : Blk (((w.setCell ⟨k, 0, none⟩ u0).setCell ⟨k, 1, none⟩ u1).setCell ⟨k, 2, none⟩ u2) g t cs :=
  ((h.far (p := ⟨k, 0, none⟩) hk u0).far (p := ⟨k, 1, none⟩) hk u1).far (p := ⟨k, 2, none⟩) hk u2
theorem below_set3 {B k : Nat} {a w : World} (h : Below B a w) (hk : B ≤ k) (u0 u1 u2 : Value) : Below B a (((w.setCell ⟨k, 0, none⟩ u0).setCell ⟨k, 1, none⟩ u1).setCell ⟨k, 2, none⟩ u2) :=
  ((h.setCell (p := ⟨k, 0, none⟩) hk u0).setCell (p := ⟨k, 1, none⟩) hk u1).setCell (p := ⟨k, 2, none⟩) hk u2
theorem Blk.own3 {w : World} {g : Nat} {t : TypeId} {a0 a1 a2 : Value} (h : Blk w g t #[a0, a1, a2]) (u0 u1 u2 : Value) : Blk (((w.setCell ⟨g, 0, none⟩ u0).setCell ⟨g, 1, none⟩ u1).setCell ⟨g, 2, none⟩ u2) g t #[u0, u1, u2] := by
  have := ((h.set_ 0 u0).set_ 1 u1).set_ 2 u2
  simpa using this
/-- Three numbers are stored. -/
def set3 (w : World) (k : Nat) (p : Part) : World := ((w.setCell ⟨k, 0, none⟩ (.int .i64 (p.symbol : Int))).setCell ⟨k, 1, none⟩ (.int .i64 (p.wide : Int))).setCell ⟨k, 2, none⟩ (.int .i64 (p.more : Int))
theorem PB.set1 {w wx : World} {cn long far : Nat} {p q : Part} (h : PB w wx cn long far p q) (r : Part) : PB w (set3 wx (w.heap.size + 1) r) cn long far r q := by
  obtain ⟨h1, h2, h3, h4⟩ := h
  exact ⟨h1.far3 (by omega) _ _ _, h2.own3 _ _ _, h3.far3 (by omega) _ _ _, below_set3 h4 (by omega) _ _ _⟩
theorem PB.set2 {w wx : World} {cn long far : Nat} {p q : Part} (h : PB w wx cn long far p q) (r : Part) : PB w (set3 wx (w.heap.size + 1 + 1) r) cn long far p r := by
  obtain ⟨h1, h2, h3, h4⟩ := h
  exact ⟨h1.far3 (by omega) _ _ _, h2.far3 (by omega) _ _ _, h3.own3 _ _ _, below_set3 h4 (by omega) _ _ _⟩
theorem PB.back {w wx : World} {cn long far : Nat} {p q : Part} (h : PB w wx cn long far p q) :
    (wx.cell? ⟨w.heap.size + 1, 0, none⟩ = some (.int .i64 (p.symbol : Int)) ∧ wx.cell? ⟨w.heap.size + 1, 1, none⟩ = some (.int .i64 (p.wide : Int)) ∧ wx.cell? ⟨w.heap.size + 1, 2, none⟩ = some (.int .i64 (p.more : Int))) ∧
    (wx.cell? ⟨w.heap.size + 1 + 1, 0, none⟩ = some (.int .i64 (q.symbol : Int)) ∧ wx.cell? ⟨w.heap.size + 1 + 1, 1, none⟩ = some (.int .i64 (q.wide : Int)) ∧ wx.cell? ⟨w.heap.size + 1 + 1, 2, none⟩ = some (.int .i64 (q.more : Int))) :=
  ⟨⟨h.2.1.cell 0, h.2.1.cell 1, h.2.1.cell 2⟩, ⟨h.2.2.1.cell 0, h.2.2.1.cell 1, h.2.2.1.cell 2⟩⟩
theorem PB.all {w wx : World} {cn long far : Nat} {p q : Part} (h : PB w wx cn long far p q) :
    (wx.cell? ⟨w.heap.size, 1, none⟩ = some (.int .i64 (long : Int)) ∧ wx.cell? ⟨w.heap.size, 2, none⟩ = some (.int .i64 (far : Int))) ∧ (∀ j, wx.frozen? ⟨w.heap.size + 1, j, none⟩ = false) ∧ ∀ j, wx.frozen? ⟨w.heap.size + 1 + 1, j, none⟩ = false :=
  ⟨⟨h.1.cell 1, h.1.cell 2⟩, fun j => h.2.1.frozen j, fun j => h.2.2.1.frozen j⟩
theorem PB.below {w wx wy : World} {cn long far : Nat} {p q : Part} (h : PB w wx cn long far p q) (hb : Below (w.heap.size + 3) wx wy) : PB w wy cn long far p q := by
  obtain ⟨h1, h2, h3, h4⟩ := h
  exact ⟨h1.below hb (by omega), h2.below hb (by omega), h3.below hb (by omega), h4.trans (hb.mono (by omega))⟩
theorem PB.drew {w wx : World} {cn long far : Nat} {p q : Part} (h : PB w wx cn long far p q) : PB w wx.drew cn long far p q := ⟨h.1, h.2.1, h.2.2.1, h.2.2.2.drew⟩
theorem PB.size {w wx : World} {cn long far : Nat} {p q : Part} (h : PB w wx cn long far p q) : w.heap.size + 3 ≤ wx.heap.size := by have := h.2.2.1.lt; omega
theorem PB.new (w : World) (cn long far : Nat) : PB w (((w.alloc (.cells #[.int .u8 (cn : Int), .int .i64 (long : Int), .int .i64 (far : Int)] 107)).alloc (.cells #[.int .i64 0, .int .i64 0, .int .i64 0] 79)).alloc (.cells #[.int .i64 0, .int .i64 0, .int .i64 0] 79)) cn long far ⟨0, 0, 0⟩ ⟨0, 0, 0⟩ := by
  refine ⟨((Blk.new w _ _).alloc _).alloc _, ?_, ?_, (((Below.refl _ _).alloc (Nat.le_refl _) _).alloc (by simp) _).alloc (by simp; omega) _⟩
  · have := (Blk.new (w.alloc (.cells #[.int .u8 (cn : Int), .int .i64 (long : Int), .int .i64 (far : Int)] 107)) 79 #[.int .i64 0, .int .i64 0, .int .i64 0]).alloc (.cells #[.int .i64 0, .int .i64 0, .int .i64 0] 79)
    simpa [pc] using this
  · have := Blk.new ((w.alloc (.cells #[.int .u8 (cn : Int), .int .i64 (long : Int), .int .i64 (far : Int)] 107)).alloc (.cells #[.int .i64 0, .int .i64 0, .int .i64 0] 79)) 79 #[.int .i64 0, .int .i64 0, .int .i64 0]
    simpa [pc] using this
set_option maxRecDepth 100000 in
set_option maxHeartbeats 2000000 in
theorem parts_any (w : World) (x : Item) (hx : okI x) : Calls Tryz.prog 60 #[itemV x] w (PartsRet w x) := by
  obtain ⟨c, long, far⟩ := x
  have hc := c.toNat_lt
  unfold itemV
  dsimp only
  have hL : litP ⟨c, long, far⟩ = if far = 0 then ⟨c.toNat, 0, 0⟩ else if long = 258 then ⟨285, 0, 0⟩ else ⟨(scaleP long 4 3).symbol + 257, (scaleP long 4 3).wide, (scaleP long 4 3).more⟩ := rfl
  generalize hcn : c.toNat = cn at *
  have hI := hide (PB.new w cn long far)
  have hwc : IntKind.i64.wrap (cn : Int) = (cn : Int) := IntWalk.i64_in _ (by omega)
  replace hcn := hide hcn
  replace hL := hide hL
  replace hx := hide hx
  go_enter Tryz.func60, Tryz.ntmps60
  go_upto_region 1 with (fail)
  generalize ((w.alloc (.cells #[.int .u8 (cn : Int), .int .i64 (long : Int), .int .i64 (far : Int)] 107)).alloc (.cells #[.int .i64 0, .int .i64 0, .int .i64 0] 79)).alloc (.cells #[.int .i64 0, .int .i64 0, .int .i64 0] 79) = wa at *
  have q0 : wa.cell? ⟨w.heap.size, 0, none⟩ = some (.int .u8 (cn : Int)) := hI.out.1.cell 0
  have q1 : wa.cell? ⟨w.heap.size, 1, none⟩ = some (.int .i64 (long : Int)) := hI.out.1.cell 1
  have q2 : wa.cell? ⟨w.heap.size, 2, none⟩ = some (.int .i64 (far : Int)) := hI.out.1.cell 2
  have a0 : wa.cell? ⟨w.heap.size + 1, 0, none⟩ = some (.int .i64 0) := hI.out.2.1.cell 0
  have a1 : wa.cell? ⟨w.heap.size + 1, 1, none⟩ = some (.int .i64 0) := hI.out.2.1.cell 1
  have a2 : wa.cell? ⟨w.heap.size + 1, 2, none⟩ = some (.int .i64 0) := hI.out.2.1.cell 2
  have b0 : wa.cell? ⟨w.heap.size + 1 + 1, 0, none⟩ = some (.int .i64 0) := hI.out.2.2.1.cell 0
  have b1 : wa.cell? ⟨w.heap.size + 1 + 1, 1, none⟩ = some (.int .i64 0) := hI.out.2.2.1.cell 1
  have b2 : wa.cell? ⟨w.heap.size + 1 + 1, 2, none⟩ = some (.int .i64 0) := hI.out.2.2.1.cell 2
  have fa0 := hI.out.2.1.frozen 0
  have fa1 := hI.out.2.1.frozen 1
  have fa2 := hI.out.2.1.frozen 2
  have fb0 := hI.out.2.2.1.frozen 0
  have fb1 := hI.out.2.2.1.frozen 1
  have fb2 := hI.out.2.2.1.frozen 2
  by_cases h0 : far = 0
  · subst h0
    have hlong : long = 0 := by
      rcases hx.out with h | h
      · exact h.2
      · exact absurd h.2.2.1 (by simp)
    subst hlong
    have hres : Hid (litP ⟨c, 0, 0⟩ = ⟨cn, 0, 0⟩ ∧ farP ⟨c, 0, 0⟩ = ⟨0, 0, 0⟩) := ⟨by rw [hL.out, if_pos rfl], rfl⟩
    have hI2 := hide ((hI.out.set1 ⟨cn, 0, 0⟩).set2 ⟨0, 0, 0⟩)
    clear hI
    go_wp2_with fail
    change bodyPost _ _ _ _ _ (set3 (set3 wa (w.heap.size + 1) ⟨cn, 0, 0⟩) (w.heap.size + 1 + 1) ⟨0, 0, 0⟩)
    generalize set3 (set3 wa (w.heap.size + 1) ⟨cn, 0, 0⟩) (w.heap.size + 1 + 1) ⟨0, 0, 0⟩ = wf at *
    have hIF := hI2
    obtain ⟨⟨r0, r1, r2⟩, ⟨s0, s1, s2⟩⟩ := hIF.out.back
    refine bodyPost_ret (v := .tuple #[partV ⟨cn, 0, 0⟩, partV ⟨0, 0, 0⟩]) (by simp [results, Tryz.results60, go_sem, r0, r1, r2, s0, s1, s2, partV]) rfl ?_
    exact ⟨by rw [hres.out.1, hres.out.2], hIF.out.2.2.2⟩
  · have hx2 : 3 ≤ long ∧ long ≤ 258 ∧ 1 ≤ far ∧ far ≤ 32768 := by
      rcases hx.out with h | h
      · exact absurd h.1 h0
      · exact h
    obtain ⟨x1, x2, x3, x4⟩ := hx2
    have hf0 : ((far : Int) == 0) = false := by rw [beq_eq_false_iff_ne]; omega
    have hfarP : Hid (farP ⟨c, long, far⟩ = scaleP far 2 1) := by rw [Hid, farP, if_neg h0]
    by_cases h258 : long = 258
    · subst h258
      have hres : Hid (litP ⟨c, 258, far⟩ = ⟨285, 0, 0⟩) := by rw [Hid, hL.out, if_neg h0, if_pos rfl]
      go_wp2_with fail
      refine (scale_any wa _ _ _ far 2 1 rfl rfl rfl (by omega) (by omega) (by omega) (by omega)).mono ?_
      rintro e w2 ⟨rfl, hb2⟩
      have hIw := hide (hI.out.below (hb2.mono hI.out.size))
      obtain ⟨⟨q1, q2⟩, fa, fb⟩ := hIw.out.all
      have fa0 := fa 0
      have fa1 := fa 1
      have fa2 := fa 2
      have fb0 := fb 0
      have fb1 := fb 1
      have fb2 := fb 2
      obtain ⟨⟨a0, a1, a2⟩, ⟨b0, b1, b2⟩⟩ := hIw.out.back
      clear fa fb
      obtain ⟨P, hP⟩ : ∃ P, P = scaleP far 2 1 := ⟨_, rfl⟩
      rw [← hP] at hfarP ⊢
      obtain ⟨ps, pw, pm⟩ := P
      have hI2 := hide ((hIw.out.set1 ⟨285, 0, 0⟩).set2 ⟨ps, pw, pm⟩)
      clear hI hb2 hP hIw
      unfold partV
      dsimp only
      go_wp2_with fail
      change bodyPost _ _ _ _ _ (set3 (set3 w2 (w.heap.size + 1) ⟨285, 0, 0⟩) (w.heap.size + 1 + 1) ⟨ps, pw, pm⟩)
      generalize set3 (set3 w2 (w.heap.size + 1) ⟨285, 0, 0⟩) (w.heap.size + 1 + 1) ⟨ps, pw, pm⟩ = wf at *
      have hIF := hI2
      obtain ⟨⟨r0, r1, r2⟩, ⟨s0, s1, s2⟩⟩ := hIF.out.back
      refine bodyPost_ret (v := .tuple #[partV ⟨285, 0, 0⟩, partV ⟨ps, pw, pm⟩]) (by simp [results, Tryz.results60, go_sem, r0, r1, r2, s0, s1, s2, partV]) rfl ?_
      exact ⟨by rw [hres.out, hfarP.out], hIF.out.2.2.2⟩
    · have hl0 : ((long : Int) == 258) = false := by rw [beq_eq_false_iff_ne]; omega
      have hres : Hid (litP ⟨c, long, far⟩ = ⟨(scaleP long 4 3).symbol + 257, (scaleP long 4 3).wide, (scaleP long 4 3).more⟩) := by rw [Hid, hL.out, if_neg h0, if_neg h258]
      have hsb := hide (scale_bound long 4 3 (by omega) (by omega) (by omega))
      go_wp2_with fail
      refine (scale_any wa _ _ _ long 4 3 rfl rfl rfl (by omega) (by omega) (by omega) (by omega)).mono ?_
      rintro e w2 ⟨rfl, hb2⟩
      have hIw := hide (hI.out.below (hb2.mono hI.out.size))
      clear a0 a1 a2 b0 b1 b2 fa0 fa1 fa2 fb0 fb1 fb2 q0 q1 q2
      obtain ⟨⟨q1, q2⟩, fa, fb⟩ := hIw.out.all
      have fa0 := fa 0
      have fa1 := fa 1
      have fa2 := fa 2
      have fb0 := fb 0
      have fb1 := fb 1
      have fb2 := fb 2
      obtain ⟨⟨a0, a1, a2⟩, ⟨b0, b1, b2⟩⟩ := hIw.out.back
      clear fa fb
      obtain ⟨P, hP⟩ : ∃ P, P = scaleP long 4 3 := ⟨_, rfl⟩
      rw [← hP] at hres hsb ⊢
      obtain ⟨ps, pw, pm⟩ := P
      dsimp only at hres hsb
      have hps := hsb.out
      have hwp : IntKind.i64.wrap ((ps : Int) + 257) = ((ps + 257 : Nat) : Int) := by rw [IntWalk.i64_in _ (by omega)]; push_cast; rfl
      clear hI hb2 hP
      unfold partV
      dsimp only
      go_upto_region 7 with (fail)
      have hK4 := Blk.new w2 79 #[.int .i64 ((ps : Int) + 257), .int .i64 (pw : Int), .int .i64 (pm : Int)]
      have hIq := hide (hIw.out.below ((Below.refl _ w2).alloc hIw.out.size (.cells #[.int .i64 ((ps : Int) + 257), .int .i64 (pw : Int), .int .i64 (pm : Int)] 79)))
      have hk4l : w.heap.size + 3 ≤ w2.heap.size := hIw.out.size
      generalize w2.alloc (.cells #[.int .i64 ((ps : Int) + 257), .int .i64 (pw : Int), .int .i64 (pm : Int)] 79) = wq at *
      obtain ⟨k4, hk4⟩ : ∃ k4, k4 = w2.heap.size := ⟨_, rfl⟩
      rw [← hk4] at hK4 hk4l ⊢
      clear hk4 a0 a1 a2 b0 b1 b2 fa0 fa1 fa2 fb0 fb1 fb2 q1 q2 hIw
      have d0 : wq.cell? ⟨k4, 0, none⟩ = some (.int .i64 ((ps : Int) + 257)) := hK4.cell 0
      have d1 : wq.cell? ⟨k4, 1, none⟩ = some (.int .i64 (pw : Int)) := hK4.cell 1
      have d2 : wq.cell? ⟨k4, 2, none⟩ = some (.int .i64 (pm : Int)) := hK4.cell 2
      replace hK4 := hide hK4
      obtain ⟨⟨q1, q2⟩, _, _⟩ := hIq.out.all
      have hsc : Hid (∀ wz : World, Calls Tryz.prog 75 #[.int .i64 (far : Int), .int .i64 2, .int .i64 1] wz (PartRet wz (scaleP far 2 1))) := fun wz => scale_any wz _ _ _ far 2 1 rfl rfl rfl (by omega) (by omega) (by omega) (by omega)
      obtain ⟨Q, hQ⟩ : ∃ Q, Q = scaleP far 2 1 := ⟨_, rfl⟩
      rw [← hQ] at hsc hfarP
      obtain ⟨qs, qw, qm⟩ := Q
      clear hQ
      go_region_with (first | (go_at_call 75; refine (hsc.out _).mono ?_; rintro e w3 ⟨rfl, hb3⟩; unfold partV; dsimp only; have hb3' : Below wq.heap.size wq w3 := (Below.refl _ wq).drew.trans hb3; have hI3 := hide (hIq.out.below (hb3'.mono hIq.out.size)); have hK3 := Blk.below hK4.out hb3' hK4.out.lt; have d0' := hK3.cell 0; have d1' := hK3.cell 1; have d2' := hK3.cell 2; obtain ⟨_, fa, fb⟩ := hI3.out.all; have fa0 := fa 0; have fa1 := fa 1; have fa2 := fa 2; have fb0 := fb 0; have fb1 := fb 1; have fb2 := fb 2; obtain ⟨⟨a0, a1, a2⟩, ⟨b0, b1, b2⟩⟩ := hI3.out.back; clear fa fb))
      all_goals
        have hI2 := hide ((hI3.out.set1 ⟨ps + 257, pw, pm⟩).set2 ⟨qs, qw, qm⟩)
        go_wp2_with fail
        change bodyPost _ _ _ _ _ (set3 (set3 w3 (w.heap.size + 1) ⟨ps + 257, pw, pm⟩) (w.heap.size + 1 + 1) ⟨qs, qw, qm⟩)
        clear a0 a1 a2 b0 b1 b2 fa0 fa1 fa2 fb0 fb1 fb2 d0' d1' d2'
        generalize set3 (set3 w3 (w.heap.size + 1) ⟨ps + 257, pw, pm⟩) (w.heap.size + 1 + 1) ⟨qs, qw, qm⟩ = wf at *
        obtain ⟨⟨r0, r1, r2⟩, ⟨s0, s1, s2⟩⟩ := hI2.out.back
        refine bodyPost_ret (v := .tuple #[partV ⟨ps + 257, pw, pm⟩, partV ⟨qs, qw, qm⟩]) (by simp [results, Tryz.results60, go_sem, r0, r1, r2, s0, s1, s2, partV]) rfl ?_
        exact ⟨by rw [hres.out, hfarP.out], hI2.out.2.2.2⟩
end Go.Proofs.YtbchaomnjbkdhaaGreat
