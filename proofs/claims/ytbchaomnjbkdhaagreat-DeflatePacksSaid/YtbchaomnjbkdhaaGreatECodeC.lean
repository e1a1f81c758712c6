/-
  Contract of Code.Code: a symbol's code.
-/
import Derived.Test.YtbchaomnjbkdhaaGreatECodeW
namespace Go.Proofs.YtbchaomnjbkdhaaGreat
open Go.RowKit Go.Sort Go.Proofs
set_option linter.unusedVariables false
def codeV (ls : List Nat) (s : Nat) : Nat := if ls.getD s 0 = 0 then 0 else codeC ls s
theorem syms_below (ls : List Nat) (n s : Nat) (hs : s ≤ ls.length) : (symsL ls n).countP (fun x => decide (x < s)) = (ls.take s).count n := by
  unfold symsL
  rw [List.countP_filter, ← count_range ls n s hs]
  have e : List.range ls.length = List.range s ++ (List.range (ls.length - s)).map (· + s) := by
    have h1 : ls.length = s + (ls.length - s) := by omega
    conv => lhs; rw [h1, List.range_add]
    simp [Nat.add_comm]
  rw [e, List.countP_append]
  have h0 : ((List.range (ls.length - s)).map (· + s)).countP (fun a => decide (a < s) && (ls.getD a 0 == n)) = 0 := by
    rw [List.countP_eq_zero]
    intro a ha
    obtain ⟨b, _, rfl⟩ := List.mem_map.1 ha
    simp only [Bool.and_eq_true, decide_eq_true_eq, not_and]
    intro h; omega
  rw [h0, Nat.add_zero]
  apply List.countP_congr
  intro a ha
  have := List.mem_range.1 ha
  simp [this]
theorem syms_sorted (ls : List Nat) (n : Nat) : ((symsL ls n).map (fun x : Nat => (x : Int))).Pairwise (· ≤ ·) := by
  rw [List.pairwise_map]
  have h : (symsL ls n).Pairwise (· < ·) := List.pairwise_lt_range.sublist List.filter_sublist
  exact h.imp fun hab => by omega
theorem bs_ints (w : World) (g n c s : Nat) (ls : List Nat) (base : Nat) (q : Nat) (h : ON w base (.slice (some ⟨g, 0, none⟩) n c) n (symsL ls q)) (hn : n ≤ 1000) (hs : s ≤ ls.length) :
    Calls Tryz.prog 66 #[.slice (some ⟨g, 0, none⟩) n c, .int .i64 (s : Int)] w fun e w' => (∃ b, e = .returned (.tuple #[.int .i64 (((ls.take s).count q : Nat) : Int), .bool b])) ∧ ∃ k, w' = w.drewN k := by
  have hl := h.len
  have hc := Tryz.slices_BinarySearch_int g 0 n c ((symsL ls q).map (fun x : Nat => (x : Int))) (s : Int) w (by simp; omega) (by omega) (fun j hj => by
    have hj2 : j < (symsL ls q).length := by simpa using hj
    rw [Nat.zero_add, OE.cell h hj2, List.getD_eq_getElem?_getD, List.getElem?_map, List.getElem?_eq_getElem hj2]; rfl) (by rw [List.take_of_length_le (by simp; omega)]; exact syms_sorted ls q)
  rw [List.take_of_length_le (by simp; omega)] at hc
  refine hc.mono ?_
  rintro e w' ⟨rfl, k, rfl⟩
  have e1 : ((symsL ls q).map (fun x : Nat => (x : Int))).countP (fun x => decide (x < (s : Int))) = (ls.take s).count q := by
    rw [← syms_below ls q s hs, List.countP_map]
    apply List.countP_congr
    intro a _
    simp
  rw [e1]
  exact ⟨⟨_, rfl⟩, k, rfl⟩
/-- What Code returns. -/
def CodeRet (w : World) (ls : List Nat) (s : Nat) (e : Ending) (w' : World) : Prop := e = .returned (.tuple #[.int .i64 (ls.getD s 0 : Int), .int .i64 (codeV ls s : Int)]) ∧ ∃ k, w' = w.drewN k
set_option maxRecDepth 100000 in
set_option maxHeartbeats 4000000 in
theorem codec_any (w : World) (base g s : Nat) (ls : List Nat) (h : CodeAt w base g ls) (hok : codeOk ls) (hn : ls.length ≤ 1000) (hs1 : s ≤ 1000) :
    Calls Tryz.prog 39 #[.pointer (some ⟨g, 0, none⟩), .int .i64 (s : Int)] w (CodeRet w ls s) := by
  obtain ⟨hbg, V, vl, k1, k2, k3⟩ := h
  obtain ⟨A, cl, rfl, hR, _⟩ := k3.rn
  have c32 := k1.lens
  have hs0 : ¬ (s : Int) < 0 := by omega
  by_cases hsl : s < ls.length
  · obtain ⟨ad, rfl, _, cs⟩ := hR.elem hsl
    have hq15 : ls.getD s 0 ≤ 15 := getD_le ls 15 hok.1 s
    by_cases h0 : ls.getD s 0 = 0
    · have hv : Hid (codeV ls s = 0) := by rw [Hid, codeV, if_pos h0]
      have hg : Hid (ls.getD s 0 = 0) := h0
      rw [h0] at cs
      replace hok := hide hok
      replace k2 := hide k2
      replace k3 := hide k3
      replace k1 := hide k1
      replace hR := hide hR
      clear h0 hq15
      go_enter Tryz.func39, Tryz.ntmps39
      go_wp2_with fail
      go_ret2
      exact ⟨by rw [hv.out, hg.out]; rfl, 0, rfl⟩
    · have hrk : rankL ls s = (ls.take s).count (ls.getD s 0) := rfl
      have hcc : Hid (codeV ls s = firstC ls (ls.getD s 0) + (ls.take s).count (ls.getD s 0)) := by rw [Hid, codeV, if_neg h0]; rfl
      have hcb := rank_code ls hok s hsl (by omega)
      have hcb2 : codeC ls s = firstC ls (ls.getD s 0) + (ls.take s).count (ls.getD s 0) := rfl
      have hsym := k2.1 (ls.getD s 0) (by omega)
      have hp15 : 2 ^ (ls.getD s 0) ≤ 2 ^ 15 := Nat.pow_le_pow_right (by omega) hq15
      have e15 : (2 : Nat) ^ 15 = 32768 := by decide
      rw [hcb2] at hcb
      have cS := k1.sym (n := ls.getD s 0) (by omega)
      have cF := k1.first (n := ls.getD s 0) (by omega)
      have hff : firstF ls (ls.getD s 0) = firstC ls (ls.getD s 0) := by unfold firstF; rw [if_neg h0]
      rw [hff] at cF
      have hpos : 0 < (symsL ls (ls.getD s 0)).length := by
        rw [syms_len]
        have := rank_lt ls s hsl
        omega
      obtain ⟨gs, ks, hVs, _, _⟩ := hsym.ownb hpos
      have hsl1000 : (symsL ls (ls.getD s 0)).length ≤ 1000 := by
        rw [syms_len]; have := List.count_le_length (a := ls.getD s 0) (l := ls); omega
      rw [hVs] at cS hsym
      have hbs := bs_ints w gs _ ks s ls base (ls.getD s 0) hsym hsl1000 (by omega)
      obtain ⟨M, hM⟩ : ∃ M, M = (symsL ls (ls.getD s 0)).length := ⟨_, rfl⟩
      rw [← hM] at hbs cS
      obtain ⟨R, hR2⟩ : ∃ R, R = (ls.take s).count (ls.getD s 0) := ⟨_, rfl⟩
      obtain ⟨Fq, hFq⟩ : ∃ Fq, Fq = firstC ls (ls.getD s 0) := ⟨_, rfl⟩
      rw [← hR2] at hbs hcc hcb
      rw [← hFq] at cF hcc hcb
      obtain ⟨q, hq⟩ : ∃ q, q = ls.getD s 0 := ⟨_, rfl⟩
      have hqr : Hid (ls.getD s 0 = q) := hq.symm
      rw [← hq] at cs cS cF h0 hq15 hcb hp15
      have hFR : Fq + R ≤ 32768 := by omega
      have hqe : ((q : Int) == 0) = false := by rw [beq_eq_false_iff_ne]; omega
      have hq0 : (0 : Int) ≤ (q : Int) := by omega
      have hq16 : (q : Int) < 16 := by omega
      have hwr : IntKind.i64.wrap ((Fq : Int) + (R : Int)) = (Fq : Int) + (R : Int) := IntWalk.i64_in _ (by omega)
      replace hok := hide hok
      replace k2 := hide k2
      replace k3 := hide k3
      replace hR := hide hR
      replace hR2 := hide hR2
      replace hFq := hide hFq
      replace hM := hide hM
      replace hq := hide hq
      replace hsym := hide hsym
      clear hrk hcb2 hff hVs hcb hp15 e15 hpos hsl1000
      replace k1 := hide k1
      go_enter Tryz.func39, Tryz.ntmps39
      go_wp2_with fail
      refine hbs.mono ?_
      rintro e w1 ⟨⟨b, rfl⟩, k, rfl⟩
      clear hbs
      have cF1 : (w.drewN k).cell? ⟨g, q * 2 + 1, none⟩ = some (.int .i64 (Fq : Int)) := cF
      clear hqe
      go_wp2_with fail
      go_quiet (fail)
      go_wp2_with fail
      go_ret2
      refine ⟨?_, _, World.drewN_drewN _ _ _⟩
      rw [hcc.out, hqr.out]; push_cast; rfl
  · have hv : Hid (ls.getD s 0 = 0) := by rw [Hid, List.getD_eq_getElem?_getD, List.getElem?_eq_none (by omega)]; rfl
    have hv2 : Hid (codeV ls s = 0) := by rw [Hid, codeV, if_pos hv.out]
    replace hok := hide hok
    replace k2 := hide k2
    replace k3 := hide k3
    replace k1 := hide k1
    replace hR := hide hR
    go_enter Tryz.func39, Tryz.ntmps39
    go_wp2_with fail
    go_ret2
    exact ⟨by rw [hv.out, hv2.out]; rfl, 0, rfl⟩
end Go.Proofs.YtbchaomnjbkdhaaGreat
