/-
  The walk of the law LexQuotes.
-/
import Derived.Test.YtnbfblikpoblgaaDoorQuote
import Derived.Test.YtnbfblikpoblgaaDoorLexG
import GoSem.ClaimJoined
namespace Go.Proofs.YtnbfblikpoblgaaDoor
open Go.RowKit
set_option linter.unusedVariables false

set_option maxRecDepth 100000 in
set_option maxHeartbeats 4000000 in
theorem lexQuotes_true (m : Int) (w : World) (hg : 2 < w.heap.size) (hm : w.cell? ⟨2, 0, none⟩ = some (.int .i64 m)) (s : ByteArray) (hs : s.size ≤ reachBytes) (x : Int) (hx : (Lit.int .u8 x).wf = true) (y : Int) (hy : (Lit.int .u8 y).wf = true) :
    Calls Tryd.prog 5 #[.string s, .int .u8 x, .int .u8 y] w fun e w' => e = .returned (.bool true) ∧ Below w.heap.size w w' := by
  unfold reachBytes at hs
  have hls := hide (data_len s)
  simp [Lit.wf, IntKind.min, IntKind.max, IntKind.signed, IntKind.bits] at hx hy
  obtain ⟨x0, x1⟩ := hx
  obtain ⟨y0, y1⟩ := hy
  obtain ⟨a, ha, hax⟩ : ∃ a : Nat, a ≤ 8 ∧ (a : Int) = x % 9 := ⟨(x % 9).toNat, by omega, by omega⟩
  obtain ⟨b, hb, hby⟩ : ∃ b : Nat, b ≤ 8 ∧ (b : Int) = y % 9 := ⟨(y % 9).toNat, by omega, by omega⟩
  have hax' := hax.symm
  have hby' := hby.symm
  clear hax hby
  by_cases h1 : s.size ≤ 180
  · go_enter Tryd.func5, Tryd.ntmps5
    go_wp2_with fail
    refine (wakes23_any _).mono ?_
    rintro e w0 ⟨rfl, hb0⟩
    have hm0 : w0.cell? ⟨2, 0, none⟩ = some (.int .i64 m) := (hb0.cell (p := ⟨2, 0, none⟩) hg).trans hm
    have hsz0 := hb0.size
    go_wp2_with fail
    refine (quote_any s m w0 (by omega) (by omega) hm0).mono ?_
    rintro e w1 ⟨rfl, hb1⟩
    have hb1' := hb0.trans (hb1.mono hsz0)
    have hsz1 := hb1'.size
    have hq := hide (lex_quote s.data.toList a b (by rw [hls.out]; omega))
    have hlq : (34 :: (escL s.data.toList ++ [34])).length ≤ 362 := by
      have := escL_len s.data.toList; have := hls.out; simp; omega
    obtain ⟨L, hL⟩ : ∃ L, L = 34 :: (escL s.data.toList ++ [34]) := ⟨_, rfl⟩
    have hLl : Hid (L.length = (escL s.data.toList).length + 2) := by rw [Hid, hL]; simp
    rw [← hL] at hq hlq
    rw [← hL]
    clear hL hb0 hb1 hm0
    go_wp2_with fail
    rw [hax']
    go_loop [7, 21] (fun v i => ∃ k : Nat, k ≤ a ∧ v = .string (str (List.replicate k 32 ++ L)) ∧ i = .int .i64 (k : Int)) (fun _ i => a - (intOf i).toNat)
    case atStart => exact ⟨0, by omega, rfl, rfl⟩
    case round =>
      obtain ⟨k, hk, rfl, rfl⟩ := hrel
      have hzk : (str (List.replicate k 32 ++ L)).size ≤ 400 := by rw [str_size]; simp; omega
      by_cases hka : k < a
      · have hj : ⟨#[32]⟩ ++ str (List.replicate k 32 ++ L) = str (List.replicate (k + 1) 32 ++ L) := by
          rw [show (ByteArray.mk #[32]) = str [32] from rfl, str_append]; rfl
        go_wp2_with fail
        go_round
        case rel => exact ⟨k + 1, by omega, rfl, by go_num⟩
        case measure => simp [intOf]; omega
      · have hka' : k = a := by omega
        subst hka'
        go_wp2_with fail
        go_loop [7, 29] (fun v i => ∃ j : Nat, j ≤ b ∧ v = .string (str (List.replicate k 32 ++ (L ++ List.replicate j 32))) ∧ i = .int .i64 (j : Int)) (fun _ i => b - (intOf i).toNat)
        case atStart => exact ⟨0, by omega, by simp, rfl⟩
        case round =>
          obtain ⟨j, hj, rfl, rfl⟩ := hrel
          have hzj : (str (List.replicate k 32 ++ (L ++ List.replicate j 32))).size ≤ 400 := by rw [str_size]; simp; omega
          by_cases hjb : j < b
          · have hs2 : str (List.replicate k 32 ++ (L ++ List.replicate j 32)) ++ ⟨#[32]⟩ = str (List.replicate k 32 ++ (L ++ List.replicate (j + 1) 32)) := by
              rw [show (ByteArray.mk #[32]) = str [32] from rfl, str_append, List.append_assoc, List.append_assoc, List.replicate_succ']
            go_wp2_with fail
            go_round
            case rel => exact ⟨j + 1, by omega, rfl, by go_num⟩
            case measure => simp [intOf]; omega
          · have hjb' : j = b := by omega
            subst hjb'
            go_wp2_with fail
            refine (tokens_any _ w1 (by omega)).mono ?_
            rintro e w2 ⟨v, rfl, ho, hb2⟩
            rw [str_toList] at *
            obtain ⟨q1, q2, q3⟩ := hq.out
            rw [q1] at ho
            have hzs : Hid ((str (List.replicate k 32 ++ (L ++ List.replicate j 32))).size = (escL s.data.toList).length + 2 + k + j) := by
              rw [Hid, str_size]; simp; have := hLl.out; omega
            obtain ⟨X, cx, rfl, hrx, hcx1, hcx2⟩ := ho.reads
            obtain ⟨gx, rfl, hgx, y0, y1, y2, y3⟩ := hrx.elem (k := 0) (by simp) (by simp)
            rw [q2, q3, ← hzs.out]
            clear q1 q2 q3 hzs ho hrx hq hby' hlq hLl hzk
            simp at y0 y1 y2 y3
            rw [show str s.data.toList = s from by simp [str]] at y1
            have hcx : 1 ≤ cx := by simpa using hcx1
            clear hcx1
            rw [List.length_singleton]
            generalize str (List.replicate k 32 ++ (L ++ List.replicate j 32)) = Q at *
            go_wp2_with fail
            go_ret
            exact ⟨rfl, hb1'.trans (hb2.mono hsz1)⟩
  · go_enter Tryd.func5, Tryd.ntmps5
    go_wp2_with fail
    refine (wakes23_any _).mono ?_
    rintro e w0 ⟨rfl, hb0⟩
    go_wp2_with fail
    go_ret
    exact ⟨rfl, hb0⟩
end Go.Proofs.YtnbfblikpoblgaaDoor
