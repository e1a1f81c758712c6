/-
  The walk of the law LexBlanks.
-/
import Derived.Test.YtnbfblikpoblgaaLexG
import Derived.Test.YtnbfblikpoblgaaLexLaw
import GoSem.ClaimJoined
namespace Go.Proofs.Ytnbfblikpoblgaa
open Go.RowKit
set_option linter.unusedVariables false

theorem blank_take (s : ByteArray) (hs : s = ⟨#[32, 32, 32, 32, 32, 32, 32, 32, 32, 32, 32, 32, 32, 32, 32, 32, 32, 32, 32, 32]⟩) (k : Nat) (hk : k ≤ 20) : (s.extract 0 k).data.toList = List.replicate k 32 := by
  have : ∀ k, k < 21 → ((⟨#[32, 32, 32, 32, 32, 32, 32, 32, 32, 32, 32, 32, 32, 32, 32, 32, 32, 32, 32, 32]⟩ : ByteArray).extract 0 k).data.toList = List.replicate k 32 := by decide
  rw [hs]; exact this k (by omega)

set_option maxRecDepth 100000 in
set_option maxHeartbeats 4000000 in
theorem lexBlanks_true (w : World) (s : ByteArray) (hs : s.size ≤ reachBytes) (x : Int) (hx : (Lit.int .u8 x).wf = true) (y : Int) (hy : (Lit.int .u8 y).wf = true) :
    Calls Try.prog 7 #[.string s, .int .u8 x, .int .u8 y] w fun e w' => e = .returned (.bool true) ∧ Below w.heap.size w w' := by
  unfold reachBytes at hs
  have hls := hide (data_len s)
  simp [Lit.wf, IntKind.min, IntKind.max, IntKind.signed, IntKind.bits] at hx hy
  obtain ⟨x0, x1⟩ := hx
  obtain ⟨y0, y1⟩ := hy
  obtain ⟨a, ha, hax⟩ : ∃ a : Nat, a ≤ 19 ∧ (a : Int) = x % 20 := ⟨(x % 20).toNat, by omega, by omega⟩
  obtain ⟨b, hb, hby⟩ : ∃ b : Nat, b ≤ 19 ∧ (b : Int) = y % 20 := ⟨(y % 20).toNat, by omega, by omega⟩
  have hax' := hax.symm
  have hby' := hby.symm
  clear hax hby
  by_cases h1 : s.size + a + b ≤ 400
  · go_enter Try.func7, Try.ntmps7
    go_wp2_with fail
    refine (wakes23_any _).mono ?_
    rintro e w0 ⟨rfl, hb0⟩
    go_wp2_with fail
    rw [hax', hby']
    refine (tokens_any s w0 (by omega)).mono ?_
    rintro e w1 ⟨vx, rfl, hox, hb1⟩
    have hb1' := hb0.trans (hb1.mono hb0.size)
    replace hox := hide hox
    have hsz1 := hb1'.size
    have hlaw := hide (lex_blanks s.data.toList a b (by rw [hls.out]; omega))
    clear hb0 hb1
    generalize hbl : (ByteArray.mk #[32, 32, 32, 32, 32, 32, 32, 32, 32, 32, 32, 32, 32, 32, 32, 32, 32, 32, 32, 32]) = bl
    have hbl' := hide hbl.symm
    have hbz : 20 ≤ bl.size := by rw [hbl'.out]; decide
    have hbz2 : bl.size ≤ 20 := by rw [hbl'.out]; decide
    have hea := hide (blank_take bl hbl'.out a (by omega))
    have heb := hide (blank_take bl hbl'.out b (by omega))
    have hsa : (bl.extract 0 a).size = a := by rw [← data_len, hea.out, List.length_replicate]
    have hsb : (bl.extract 0 b).size = b := by rw [← data_len, heb.out, List.length_replicate]
    clear hbl
    go_wp2_with fail
    have k1 : a ≤ bl.size := by omega
    have k2 : b ≤ bl.size := by omega
    have k3 : (0 : Int) ≤ (a : Int) := by omega
    have k4 : (0 : Int) ≤ (b : Int) := by omega
    have k5 : (a : Int) ≤ (bl.size : Int) := by omega
    have k6 : (b : Int) ≤ (bl.size : Int) := by omega
    have k7 : a + s.size ≤ 9223372036854775807 := by omega
    have k8 : a + s.size + b ≤ 9223372036854775807 := by omega
    have hst : Hid ((bl.extract 0 a ++ s ++ bl.extract 0 b).data.toList = List.replicate a 32 ++ (s.data.toList ++ List.replicate b 32)) := by
      rw [Hid, ← List.append_assoc, ← hea.out, ← heb.out]; simp
    have hsz : Hid ((bl.extract 0 a ++ s ++ bl.extract 0 b).size ≤ 400) := by
      rw [Hid, ← data_len, hst.out]; simp; have := hls.out; omega
    have k9 : ¬ 9223372036854775807 < a + s.size := by omega
    have k10 : ¬ 9223372036854775807 < a + s.size + b := by omega
    obtain ⟨L', hL'⟩ : ∃ L', L' = List.replicate a 32 ++ (s.data.toList ++ List.replicate b 32) := ⟨_, rfl⟩
    rw [← hL'] at hst hlaw
    have HTK : Hid (∀ wx, Calls Try.prog 15 #[.string (bl.extract 0 a ++ s ++ bl.extract 0 b)] wx (TRet wx (lexL L') (lexAt L') (lexE L'))) := fun wx => by
      rw [← hst.out]; exact tokens_any (bl.extract 0 a ++ s ++ bl.extract 0 b) wx (by have := hsz.out; omega)
    clear hst hsz hL'
    go_region_held3 (fun w' => True) (exact trivial) (first | (go_at_call 15; refine (HTK.out _).mono ?_; rintro e w2 ⟨vy, rfl, hoy, hb2⟩))
    replace hb2 : Below w1.heap.size w1 w2 := (below_drewN (Below.refl _ w1) 1).trans hb2
    have hb2' := hb1'.trans (hb2.mono hsz1)
    have hox2 := hox.out.below hb2 (Nat.le_refl _)
    have hs2 := hb2.size
    obtain ⟨X, cx, rfl, hrx, hcx1, hcx2⟩ := hox2.reads
    obtain ⟨Y, cy, rfl, hry, hcy1, hcy2⟩ := hoy.reads
    have hsz2 := hb2'.size
    obtain ⟨hl1, hl2, hl3⟩ := hlaw.out
    have hpx := hide (lexL_pos s.data.toList)
    have hlx := lexL_len s.data.toList
    have hax2 := lexAt_le s.data.toList
    rw [hls.out] at hlx hax2
    rw [hl1] at hry
    rw [List.length_map] at hry
    rw [hl1, hl2, hl3, List.length_map]
    clear hl1 hl2 hl3 hlaw HTK hb2 hoy hox hox2 hcx1 hcx2 hcy1 hcy2 hb1' hs2 hsa hsb k1 k2 k3 k4 k5 k6 k7 k8 k9 k10 hea heb hbz hbz2 hbl'
    have hcase : ∃ (e0 : Int) (q0 : Nat), e0 = lexE s.data.toList ∧ q0 = (if lexE s.data.toList = 0 then lexAt s.data.toList + a + b else lexAt s.data.toList + a) ∧ ((e0 == 0) = true ∧ (e0 != 0) = false ∧ q0 = lexAt s.data.toList + a + b ∨ (e0 == 0) = false ∧ (e0 != 0) = true ∧ q0 = lexAt s.data.toList + a) := by
      refine ⟨_, _, rfl, rfl, ?_⟩
      by_cases hz : lexE s.data.toList = 0
      · left; simp [hz]
      · right; simp [hz]
    obtain ⟨e0, q0, he0, hq0, hcase⟩ := hcase
    rw [← hq0, ← he0]
    clear he0 hq0
    generalize lexL s.data.toList = xs at *
    generalize lexAt s.data.toList = p0 at *
    obtain ⟨nx, hnx⟩ : ∃ n, n = xs.length := ⟨_, rfl⟩
    rw [← hnx] at hrx hry hlx
    rw [← hnx]
    replace hnx := hide hnx
    replace hrx := hide hrx
    replace hry := hide hry
    obtain ⟨wz, rfl⟩ : ∃ wz : World, wz = w2 := ⟨_, rfl⟩
    have hqi : Hid (q0 ≤ 1000) := by rcases hcase with ⟨_, _, h⟩ | ⟨_, _, h⟩ <;> (rw [Hid, h]; omega)
    have hcase2 : ((e0 == 0) = true ∧ (e0 != 0) = false ∧ ((q0 : Int) = (p0 : Int) + (a : Int) + (b : Int)) ∨ (e0 == 0) = false ∧ (e0 != 0) = true ∧ (q0 : Int) = (p0 : Int) + (a : Int)) := by
      rcases hcase with ⟨h1, h2, h3⟩ | ⟨h1, h2, h3⟩
      · left; exact ⟨h1, h2, by omega⟩
      · right; exact ⟨h1, h2, by omega⟩
    clear hcase
    generalize (q0 : Int) = q1 at *
    rcases hcase2 with ⟨e1, e2, rfl⟩ | ⟨e1, e2, rfl⟩
    all_goals
      go_wp2_with fail
      go_loopw [89] (fun i wr => ∃ k : Nat, k ≤ nx ∧ i = .int .i64 (k : Int) ∧ Below wz.heap.size wz wr) (fun i _ => nx - (intOf i).toNat)
      case atStart => exact ⟨0, by omega, rfl, Below.refl _ _⟩
      case round =>
        obtain ⟨k, hk, rfl, hbr⟩ := hrel
        by_cases hkn : k < nx
        · have hkx : k < xs.length := by have := hnx.out; omega
          obtain ⟨gx, rfl, hgx, y0, y1, y2, y3⟩ := (hrx.out.below hbr).elem hkn hkx
          obtain ⟨gy, rfl, hgy, z0, z1, z2, z3⟩ := (hry.out.below hbr).elem hkn (by simpa using hkx)
          have hel : Hid ((xs.map (shiftT a))[k]'(by simpa using hkx) = shiftT a xs[k]) := by
            rw [Hid, List.getElem_map]
          rw [hel.out] at z0 z1 z2 z3
          simp only [shiftT] at z0 z1 z2 z3
          have hxp : (xs[k].pos : Int) ≤ 400 := by have := hpx.out xs[k] (List.getElem_mem _); omega
          have hxp0 : (0 : Int) ≤ (xs[k].pos : Int) := by omega
          have hsr := hbr.size
          clear hel
          generalize xs[k].kind = t0 at *
          generalize xs[k].text = t1 at *
          generalize xs[k].n = t2 at *
          generalize xs[k].pos = t3 at *
          rw [Int.natCast_add] at z3
          have hgx2 : gx < wr.heap.size := by omega
          have hgy2 : gy < wr.heap.size := by omega
          go_wp2_with fail
          have q4 : (k : Int) < (nx : Int) := by omega
          go_quiet (fail)
          clear q4
          go_wp2_with fail
          go_roundw
          case rel => exact ⟨k + 1, by omega, by go_num, below_drewN (hbr.alloc hsr _) _⟩
          case measure => simp [intOf]; omega
        · go_wp2_with fail
          go_ret
          exact ⟨rfl, hb2'.trans (hbr.mono hsz2)⟩
  · go_enter Try.func7, Try.ntmps7
    go_wp2_with fail
    refine (wakes23_any _).mono ?_
    rintro e w0 ⟨rfl, hb0⟩
    go_wp2_with fail
    go_ret
    exact ⟨rfl, hb0⟩
end Go.Proofs.Ytnbfblikpoblgaa
