/-
  The walk of the law LexJoins.
-/
import Derived.Test.YtnbfblikpoblgaaLexG
import Derived.Test.YtnbfblikpoblgaaLexLaw
import GoSem.ClaimJoined
namespace Go.Proofs.Ytnbfblikpoblgaa
open Go.RowKit
set_option linter.unusedVariables false

set_option maxRecDepth 100000 in
set_option maxHeartbeats 4000000 in
theorem lexJoins_true (w : World) (a : ByteArray) (ha : a.size ≤ reachBytes) (b : ByteArray) (hb : b.size ≤ reachBytes) :
    Calls Try.prog 6 #[.string a, .string b] w fun e w' => e = .returned (.bool true) ∧ Below w.heap.size w w' := by
  unfold reachBytes at ha hb
  have hla := hide (data_len a)
  have hlb := hide (data_len b)
  by_cases h1 : a.size + b.size ≤ 399
  · go_enter Try.func6, Try.ntmps6
    go_wp2_with fail
    refine (wakes23_any _).mono ?_
    rintro e w0 ⟨rfl, hb0⟩
    go_wp2_with fail
    refine (tokens_any a w0 (by omega)).mono ?_
    rintro e w1 ⟨vx, rfl, hox, hb1⟩
    have hb1' := hb0.trans (hb1.mono hb0.size)
    replace hox := hide hox
    have hsz1 := hb1'.size
    clear hb0 hb1
    go_wp2_with fail
    refine (tokens_any b w1 (by omega)).mono ?_
    rintro e w2 ⟨vy, rfl, hoy, hb2⟩
    have hb2' := hb1'.trans (hb2.mono hsz1)
    have hox2 := hide (hox.out.below hb2 (Nat.le_refl _))
    replace hoy := hide hoy
    have hsz2 := hb2'.size
    clear hb1' hb2 hox hsz1
    by_cases hea : lexE a.data.toList = 0
    · have hjoin := hide (lex_join a.data.toList b.data.toList (by rw [hla.out, hlb.out]; omega) hea)
      have hab : Hid ((a ++ ⟨#[32]⟩ ++ b).data.toList = a.data.toList ++ 32 :: b.data.toList) := by simp [Hid]
      have habs : Hid ((a ++ ⟨#[32]⟩ ++ b).size = a.size + 1 + b.size) := by
        rw [Hid, ← data_len, hab.out, List.length_append, List.length_cons, hla.out, hlb.out]; omega
      rw [hea]
      clear hea
      go_wp2_with fail
      refine (tokens_any _ w2 (by rw [habs.out]; omega)).mono ?_
      rintro e w3 ⟨vz, rfl, hoz, hb3⟩
      rw [hab.out] at hoz
      rw [hab.out]
      have hb3' := hb2'.trans (hb3.mono hsz2)
      have hs3 := hb3.size
      have hox3 := hox2.out.below hb3 (Nat.le_refl _)
      have hoy3 := hoy.out.below hb3 (Nat.le_refl _)
      obtain ⟨X, cx, rfl, hrx, hcx1, hcx2⟩ := hox3.reads
      obtain ⟨Y, cy, rfl, hry, hcy1, hcy2⟩ := hoy3.reads
      obtain ⟨Z, cz, rfl, hrz, hcz1, hcz2⟩ := hoz.reads
      replace hrx := hide hrx
      replace hry := hide hry
      replace hrz := hide hrz
      have hsz3 := hb3'.size
      clear hox2 hoy hb2' hb3 hoz hox3 hoy3 hs3 hsz2
      rw [hla.out] at hjoin
      by_cases heb : lexE b.data.toList = 0
      · have hj1 := (hjoin.out.2 heb).1
        have hj2 := hide (hjoin.out.2 heb).2
        have hlen3 : (lexL (a.data.toList ++ 32 :: b.data.toList)).length = (lexL a.data.toList).length + (lexL b.data.toList).length := by rw [hj2.out]; simp
        have hpy := hide (lexL_pos b.data.toList)
        have hlx := lexL_len a.data.toList
        have hly := lexL_len b.data.toList
        rw [hla.out] at hlx
        rw [hlb.out] at hly
        rw [hj1, heb]
        rw [hlen3, hj2.out] at hrz
        rw [hlen3]
        clear hj1 heb hjoin hlen3 hcz1 hcx1 hcy1 hj2
        generalize lexL a.data.toList = xs at *
        generalize lexL b.data.toList = ys at *
        obtain ⟨nx, hnx⟩ : ∃ n, n = xs.length := ⟨_, rfl⟩
        obtain ⟨ny, hny⟩ : ∃ n, n = ys.length := ⟨_, rfl⟩
        rw [← hnx, ← hny] at hrz
        rw [← hnx] at hrx
        rw [← hny] at hry
        rw [← hnx, ← hny]
        replace hnx := hide hnx
        replace hny := hide hny
        have hlx' : nx ≤ 399 := by have := hnx.out; omega
        have hly' : ny ≤ 399 := by have := hny.out; omega
        clear hlx hly
        go_wp2_with fail
        go_loopw [77] (fun i wr => ∃ k : Nat, k ≤ ny ∧ i = .int .i64 (k : Int) ∧ Below w3.heap.size w3 wr) (fun i _ => ny - (intOf i).toNat)
        case atStart => exact ⟨0, by omega, rfl, Below.refl _ _⟩
        case round =>
          obtain ⟨k, hk, rfl, hbr⟩ := hrel
          by_cases hkn : k < ny
          · have hky : k < ys.length := by have := hny.out; omega
            obtain ⟨gy, rfl, hgy, y0, y1, y2, y3⟩ := (hry.out.below hbr).elem hkn hky
            obtain ⟨gz, rfl, hgz, z0, z1, z2, z3⟩ := (hrz.out.below hbr).elem (k := nx + k) (by omega) (by simp; have := hnx.out; omega)
            have hel : Hid ((xs ++ ys.map (shiftT (a.size + 1)))[nx + k]'(by simp; have := hnx.out; omega) = shiftT (a.size + 1) ys[k]) := by
              rw [Hid, List.getElem_append_right (by have := hnx.out; omega)]
              simp only [List.getElem_map]
              congr 2
              have := hnx.out
              omega
            rw [hel.out] at z0 z1 z2 z3
            simp only [shiftT] at z0 z1 z2 z3
            have hyp : (ys[k].pos : Int) ≤ 1000000 := by have := hpy.out ys[k] (List.getElem_mem _); omega
            have hyp0 : (0 : Int) ≤ (ys[k].pos : Int) := by omega
            have hsr := hbr.size
            clear hel
            generalize ys[k].kind = t0 at *
            generalize ys[k].text = t1 at *
            generalize ys[k].n = t2 at *
            generalize ys[k].pos = t3 at *
            rw [Int.natCast_add, Int.natCast_add, Int.natCast_one] at z3
            have hgz2 : gz < wr.heap.size := by omega
            have hgy2 : gy < wr.heap.size := by omega
            go_wp2_with fail
            have q1 : IntKind.i64.wrap ((nx : Int) + (k : Int)) = (nx : Int) + (k : Int) := IntWalk.i64_in _ (by omega)
            have q2 : (0 : Int) ≤ (nx : Int) + (k : Int) := by omega
            have q3 : ((nx : Int) + (k : Int)).toNat = nx + k := by omega
            have q4 : (nx : Int) + (k : Int) < (nx : Int) + (ny : Int) := by omega
            go_quiet (fail)
            clear q1 q2 q3 q4
            go_wp2_with fail
            go_roundw
            case rel => exact ⟨k + 1, by omega, by go_num, below_drewN (hbr.alloc hsr _) _⟩
            case measure => simp [intOf]; omega
          · go_wp2_with fail
            obtain ⟨wo, rfl⟩ : ∃ wo : World, wo = wr := ⟨_, rfl⟩
            go_loopw [101] (fun i wr2 => ∃ j : Nat, j ≤ nx ∧ i = .int .i64 (j : Int) ∧ Below w3.heap.size w3 wr2) (fun i _ => nx - (intOf i).toNat)
            case atStart => exact ⟨0, by omega, rfl, hbr⟩
            case round =>
              clear hbr
              obtain ⟨j, hj, rfl, hbr⟩ := hrel
              by_cases hjn : j < nx
              · have hjx : j < xs.length := by have := hnx.out; omega
                obtain ⟨gx, rfl, hgx, y0, y1, y2, y3⟩ := (hrx.out.below hbr).elem hjn hjx
                obtain ⟨gz, rfl, hgz, z0, z1, z2, z3⟩ := (hrz.out.below hbr).elem (k := j) (by omega) (by simp; omega)
                have hel : Hid ((xs ++ ys.map (shiftT (a.size + 1)))[j]'(by simp; omega) = xs[j]) := by
                  rw [Hid, List.getElem_append_left hjx]
                rw [hel.out] at z0 z1 z2 z3
                have hsr := hbr.size
                clear hel
                generalize xs[j].kind = t0 at *
                generalize xs[j].text = t1 at *
                generalize xs[j].n = t2 at *
                generalize xs[j].pos = t3 at *
                have hgz2 : gz < wr.heap.size := by omega
                have hgx2 : gx < wr.heap.size := by omega
                go_wp2_with fail
                have q4 : (j : Int) < (nx : Int) + (ny : Int) := by omega
                go_quiet (fail)
                clear q4
                go_wp2_with fail
                go_roundw
                case rel => exact ⟨j + 1, by omega, by go_num, below_drewN (hbr.alloc hsr _) _⟩
                case measure => simp [intOf]; omega
              · go_wp2_with fail
                go_ret
                exact ⟨rfl, hb3'.trans (hbr.mono hsz3)⟩
      · have hne : (lexE b.data.toList != 0) = true := by rw [bne_iff_ne]; exact heb
        have hj := hjoin.out.1 heb
        have hat := lexAt_le b.data.toList
        rw [hlb.out] at hat
        rw [hj.1, hj.2]
        clear hj heb hjoin hcz1 hcx1 hcy1 hrx hry hrz
        generalize lexE b.data.toList = eb at *
        generalize lexAt b.data.toList = pb at *
        go_wp2_with fail
        go_ret
        exact ⟨ret_bool (by simp), hb3'⟩
    · have hne : (lexE a.data.toList != 0) = true := by rw [bne_iff_ne]; exact hea
      generalize lexE a.data.toList = ea at *
      clear hea
      go_wp2_with fail
      go_ret
      exact ⟨rfl, hb2'⟩
  · go_enter Try.func6, Try.ntmps6
    go_wp2_with fail
    refine (wakes23_any _).mono ?_
    rintro e w0 ⟨rfl, hb0⟩
    go_wp2_with fail
    go_ret
    exact ⟨rfl, hb0⟩
end Go.Proofs.Ytnbfblikpoblgaa
