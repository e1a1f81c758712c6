/-
  The walk of the law LexTokens.
-/
import Derived.Test.YtnbfblikpoblgaaRefC
import Derived.Test.YtnbfblikpoblgaaLexG
import Derived.Test.YtnbfblikpoblgaaLexLaw
import GoSem.ClaimJoined
namespace Go.Proofs.Ytnbfblikpoblgaa
open Go.RowKit
set_option linter.unusedVariables false

set_option maxRecDepth 100000 in
set_option maxHeartbeats 4000000 in
theorem lexTokens_true (w : World) (s : ByteArray) (hs : s.size ≤ reachBytes) :
    Calls Try.prog 5 #[.string s] w fun e w' => e = .returned (.bool true) ∧ Below w.heap.size w w' := by
  unfold reachBytes at hs
  have hls := hide (data_len s)
  by_cases h1 : s.size ≤ 1000
  · go_enter Try.func5, Try.ntmps5
    go_wp2_with fail
    refine (wakes23_any _).mono ?_
    rintro e w0 ⟨rfl, hb0⟩
    go_wp2_with fail
    refine (tokens_any s w0 (by omega)).mono ?_
    rintro e w1 ⟨vx, rfl, hox, hb1⟩
    have hb1' := hb0.trans (hb1.mono hb0.size)
    replace hox := hide hox
    have hsz1 := hb1'.size
    clear hb0 hb1
    go_wp2_with fail
    refine (rtokens_any s w1 (by omega)).mono ?_
    rintro e w2 ⟨vy, rfl, hoy, hb2⟩
    have hb2' := hb1'.trans (hb2.mono hsz1)
    have hox2 := hox.out.below hb2 (Nat.le_refl _)
    have hsz2 := hb2'.size
    obtain ⟨X, cx, rfl, hrx, hcx1, hcx2⟩ := hox2.reads
    obtain ⟨Y, cy, rfl, hry, hcy1, hcy2⟩ := hoy.reads
    have hpx := hide (lexL_pos s.data.toList)
    have hlx := lexL_len s.data.toList
    rw [hls.out] at hlx
    clear hb1' hb2 hox hsz1 hoy hox2
    generalize lexL s.data.toList = xs at *
    generalize lexAt s.data.toList = p0 at *
    generalize lexE s.data.toList = e0 at *
    obtain ⟨nx, hnx⟩ : ∃ n, n = xs.length := ⟨_, rfl⟩
    rw [← hnx] at hrx hry hlx hcx1 hcy1
    rw [← hnx]
    replace hnx := hide hnx
    replace hrx := hide hrx
    replace hry := hide hry
    go_wp2_with fail
    have hbk := Blk.new w2 36 #[.slice Y nx cy, .int .i64 (p0 : Int), .int .i64 e0]
    have hb3 : Below w.heap.size w (w2.alloc (.cells #[.slice Y nx cy, .int .i64 (p0 : Int), .int .i64 e0] 36)) := hb2'.alloc hsz2 _
    have hrx3 := hide ((hrx.out.below ((Below.refl _ w2).alloc (Nat.le_refl _) (.cells #[.slice Y nx cy, .int .i64 (p0 : Int), .int .i64 e0] 36))).more (B' := w2.heap.size + 1) (by omega))
    have hry3 := hide ((hry.out.below ((Below.refl _ w2).alloc (Nat.le_refl _) (.cells #[.slice Y nx cy, .int .i64 (p0 : Int), .int .i64 e0] 36))).more (B' := w2.heap.size + 1) (by omega))
    have hz3 : (w2.alloc (.cells #[.slice Y nx cy, .int .i64 (p0 : Int), .int .i64 e0] 36)).heap.size = w2.heap.size + 1 := by simp
    obtain ⟨g2, hg2⟩ : ∃ g, g = w2.heap.size := ⟨_, rfl⟩
    rw [← hg2] at hbk hrx3 hry3 hz3 hsz2
    rw [← hg2]
    generalize w2.alloc (.cells #[.slice Y nx cy, .int .i64 (p0 : Int), .int .i64 e0] 36) = w3 at *
    replace hbk := hide hbk
    clear hrx hry hb2' hg2
    go_loopw [41] (fun i wr => ∃ k : Nat, k ≤ nx ∧ i = .int .i64 (k : Int) ∧ Below (g2 + 1) w3 wr) (fun i _ => nx - (intOf i).toNat)
    case atStart => exact ⟨0, by omega, rfl, Below.refl _ _⟩
    case round =>
      obtain ⟨k, hk, rfl, hbr⟩ := hrel
      by_cases hkn : k < nx
      · have hkx : k < xs.length := by have := hnx.out; omega
        obtain ⟨gx, rfl, hgx, y0, y1, y2, y3⟩ := (hrx3.out.below hbr).elem hkn hkx
        obtain ⟨gy, rfl, hgy, z0, z1, z2, z3⟩ := (hry3.out.below hbr).elem hkn hkx
        have hc := (hbk.out.below hbr (by omega)).cell 0
        have hsr := hbr.size
        clear hpx
        generalize xs[k].kind = t0 at *
        generalize xs[k].text = t1 at *
        generalize xs[k].n = t2 at *
        generalize xs[k].pos = t3 at *
        have hgx2 : gx < wr.heap.size := by omega
        have hgy2 : gy < wr.heap.size := by omega
        go_wp2_with fail
        have q4 : (k : Int) < (nx : Int) := by omega
        go_quiet (fail)
        clear q4
        go_wp2_with fail
        go_roundw
        case rel => exact ⟨k + 1, by omega, by go_num, below_drewN hbr _⟩
        case measure => simp [intOf]; omega
      · go_wp2_with fail
        go_ret
        exact ⟨rfl, hb3.trans (hbr.mono (by omega))⟩
  · go_enter Try.func5, Try.ntmps5
    go_wp2_with fail
    refine (wakes23_any _).mono ?_
    rintro e w0 ⟨rfl, hb0⟩
    go_wp2_with fail
    go_ret
    exact ⟨rfl, hb0⟩
end Go.Proofs.Ytnbfblikpoblgaa
