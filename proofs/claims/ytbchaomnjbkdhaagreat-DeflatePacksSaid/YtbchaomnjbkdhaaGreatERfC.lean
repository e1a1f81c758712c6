/-
  Contract of the reference's inquestref05.New at lengths that are codes.
-/
import Derived.Test.YtbchaomnjbkdhaaGreatEF
namespace Go.Proofs.YtbchaomnjbkdhaaGreat
open Go.RowKit Go.Sort
set_option linter.unusedVariables false
theorem ints_info : (Tryz.prog.info? 49).map (fun i => (i.zero, i.size, i.bytes)) = some (some (.slice none 0 0), 1, 24) := by kernel_rfl
def rows0 (n : Nat) : Array Value := Array.replicate n (.slice none 0 0)
theorem zr_eq (n : Nat) : madeCells (Value.slice none 0 0).cells (n * 1) = rows0 n := by
  unfold madeCells rows0
  apply Array.ext
  · simp
  · intro i h1 h2
    simp at h1
    simp [Value.cells, Nat.mod_one]
theorem make_rows5 (n : Nat) (hn : n ≤ 100000) (w : World) : (Instr.makeSlice 91 (.int .i64 (n : Int)) (.int .i64 (n : Int))).run Tryz.prog w = .ok (.slice (some ⟨w.heap.size, 0, none⟩) n n) (w.alloc (.cells (rows0 n) 49)) := by
  obtain ⟨i0, hi, hz0, hz1, hz2⟩ := info_parts ints_info
  rw [run_make_rowN 91 49 i0 (.slice none 0 0) Tryz.underlying91 hi hz0 .i64 .i64 n n (Nat.le_refl _) (by rw [hz2]; omega) (by omega) w, hz1, zr_eq]
/-- What stands while the codes are laid: those of fewer bits, and those of so many up to a symbol. -/
structure N5 (w0 w : World) (g g2 g3 n : Nat) (ls : List Nat) (m s : Nat) : Prop where
  rows : ∃ cells, Blk w g 49 cells ∧ cells.size = n ∧ ∀ t, t < n → (ls.getD t 0 < m ∨ (ls.getD t 0 = m ∧ t < s)) → ∃ v, cells[t]? = some v ∧ ON w w0.heap.size v (ls.getD t 0) (encS ls t)
  b2 : Blk w g2 93 #[.slice none 0 0, .int .i64 0]
  b3 : Blk w g3 93 #[.slice (some ⟨g, 0, none⟩) n n, .int .i64 1]
  bel : Below w0.heap.size w0 w
  hg : w0.heap.size ≤ g
section
variable {w0 w w' : World} {g g2 g3 n : Nat} {ls : List Nat} {m s : Nat}
theorem N5.below (h : N5 w0 w g g2 g3 n ls m s) (hb : Below w.heap.size w w') : N5 w0 w' g g2 g3 n ls m s := by
  obtain ⟨⟨cells, hB, hS, hR⟩, h2, h3, h4, h5⟩ := h
  exact ⟨⟨cells, hB.below hb hB.lt, hS, fun t ht hd => by
    obtain ⟨v, hv, ho⟩ := hR t ht hd
    exact ⟨v, hv, OE.below ho hb (Nat.le_refl _)⟩⟩, h2.below hb h2.lt, h3.below hb h3.lt, h4.trans (hb.mono h4.size), h5⟩
theorem N5.lay (h : N5 w0 w g g2 g3 n ls m s) (hs : s < n) (hm : ls.getD s 0 = m) {v : Value} (hv : ON w w0.heap.size v m (encS ls s)) : N5 w0 (w.setCell ⟨g, s, none⟩ v) g g2 g3 n ls m (s + 1) := by
  obtain ⟨⟨cells, hB, hS, hR⟩, h2, h3, h4, h5⟩ := h
  refine ⟨⟨cells.setIfInBounds s v, hB.set_ s v, by simpa using hS, fun t ht hd => ?_⟩, h2.far (p := ⟨g, s, none⟩) (Blk.ne_ h2 hB (by decide)) _, h3.far (p := ⟨g, s, none⟩) (Blk.ne_ h3 hB (by decide)) _, h4.setCell (p := ⟨g, s, none⟩) h5 _, h5⟩
  have hoth : ∀ {u : Value} {k : Nat} {l : List Nat}, ON w w0.heap.size u k l → ON (w.setCell ⟨g, s, none⟩ v) w0.heap.size u k l := fun ho => OE.other ho (p := ⟨g, s, none⟩) (own_blk_ne ho hB (by decide)) _
  by_cases hts : t = s
  · subst hts
    exact ⟨v, by rw [Array.getElem?_setIfInBounds_self_of_lt (by omega)], by rw [hm]; exact hoth hv⟩
  · obtain ⟨u, hu, ho⟩ := hR t ht (by omega)
    exact ⟨u, by rw [Array.getElem?_setIfInBounds_ne (fun e => hts e.symm)]; exact hu, hoth ho⟩
theorem N5.skip (h : N5 w0 w g g2 g3 n ls m s) (hm : ls.getD s 0 ≠ m) : N5 w0 w g g2 g3 n ls m (s + 1) := by
  obtain ⟨⟨cells, hB, hS, hR⟩, h2, h3, h4, h5⟩ := h
  refine ⟨⟨cells, hB, hS, fun t ht hd => hR t ht ?_⟩, h2, h3, h4, h5⟩
  rcases hd with hd | ⟨hd, h⟩
  · exact .inl hd
  · refine .inr ⟨hd, ?_⟩
    rcases Nat.lt_or_ge t s with h | h
    · exact h
    · obtain rfl : t = s := by omega
      exact absurd hd hm
theorem N5.up (h : N5 w0 w g g2 g3 n ls m n) : N5 w0 w g g2 g3 n ls (m + 1) 0 := by
  obtain ⟨⟨cells, hB, hS, hR⟩, h2, h3, h4, h5⟩ := h
  exact ⟨⟨cells, hB, hS, fun t ht hd => hR t ht (by omega)⟩, h2, h3, h4, h5⟩
theorem N5.cell (h : N5 w0 w g g2 g3 n ls m s) (hs : s < n) : (∃ u, w.cell? ⟨g, s, none⟩ = some u) ∧ w.frozen? ⟨g, s, none⟩ = false := by
  obtain ⟨⟨cells, hB, hS, hR⟩, h2, h3, h4, h5⟩ := h
  exact ⟨⟨cells[s], by rw [hB.cell, Array.getElem?_eq_getElem (by omega)]⟩, hB.frozen s⟩
theorem N5.all (h : N5 w0 w g g2 g3 n ls m s) (hl : ls.length = n) (hm : ∀ t, t < n → ls.getD t 0 < m) : CsAt w w0.heap.size g n n ls := by
  obtain ⟨⟨cells, hB, hS, hR⟩, h2, h3, h4, h5⟩ := h
  exact ⟨hl, cells, hB, hS, fun t ht => hR t ht (.inl (hm t ht))⟩
end
theorem codeC_take (ls : List Nat) (s m : Nat) (h : ls.getD s 0 = m) : codeC ls s = firstC ls m + (ls.take s).count m := by rw [codeC, rankL, h]
theorem count_take (ls : List Nat) (s m : Nat) (hs : s < ls.length) : (ls.take (s + 1)).count m = (ls.take s).count m + if ls.getD s 0 = m then 1 else 0 := by
  rw [List.take_succ_eq_append_getElem hs, List.count_append, List.count_singleton, List.getD_eq_getElem?_getD, List.getElem?_eq_getElem hs]
  simp
theorem CsAt.setC {w : World} {base g n c : Nat} {ls : List Nat} (hC : CsAt w base g n c ls) {k i : Nat} {cs : Array Value} (hB : Blk w k 93 cs) (u : Value) : CsAt (w.setCell ⟨k, i, none⟩ u) base g n c ls :=
  hC.keepT ((KeepT.refl _ w).set_ (p := ⟨k, i, none⟩) hB (by decide) u) ((KeepT.refl _ w).set_ (p := ⟨k, i, none⟩) hB (by decide) u)
/-- What New returns. -/
def New5 (w : World) (n : Nat) (ls : List Nat) (e : Ending) (w' : World) : Prop :=
  ∃ g f : Nat, e = .returned (.agg #[.slice (some ⟨g, 0, none⟩) n n, .int .i64 (f : Int)]) ∧ CsAt w' w.heap.size g n n ls ∧ f = (if endC ls 15 = 32768 then 0 else 1) ∧ Below w.heap.size w w'
set_option maxRecDepth 100000 in
set_option maxHeartbeats 4000000 in
theorem new5_any (w : World) (A : Option Addr) (n c : Nat) (ls : List Nat) (h : RN w w.heap.size A n ls) (hok : codeOk ls) (h0 : 0 < n) (hn : n ≤ 320) :
    Calls Tryz.prog 50 #[.slice A n c] w (New5 w n ls) := by
  have hlen := hide h.len
  have hmk : Hid (∀ wz : World, (Instr.makeSlice 91 (.int .i64 (n : Int)) (.int .i64 (n : Int))).run Tryz.prog wz = .ok (.slice (some ⟨wz.heap.size, 0, none⟩) n n) (wz.alloc (.cells (rows0 n) 49))) := fun wz => make_rows5 n (by omega) wz
  have hmk1 := hmk.out (w.alloc (.cells #[.slice none 0 0, .int .i64 0] 93))
  have h15 : ∀ t, t < n → ls.getD t 0 ≤ 15 := fun t ht => by
    have htl : t < ls.length := by have := hlen.out; omega
    rw [List.getD_eq_getElem?_getD, List.getElem?_eq_getElem htl]
    exact hok.1 _ (List.getElem_mem htl)
  replace h15 := hide h15
  replace hok := hide hok
  replace h := hide h
  go_enter Tryz.func50, Tryz.ntmps50
  go_wp2_with fail
  have hN : Hid (N5 w (((w.alloc (.cells #[.slice none 0 0, .int .i64 0] 93)).alloc (.cells (rows0 n) 49)).alloc (.cells #[.slice (some ⟨w.heap.size + 1, 0, none⟩) n n, .int .i64 1] 93)) (w.heap.size + 1) w.heap.size (w.heap.size + 1 + 1) n ls 1 0) := by
    have hz1 : (w.alloc (.cells #[.slice none 0 0, .int .i64 0] 93)).heap.size = w.heap.size + 1 := World.size_alloc _ _
    have hz2 : ((w.alloc (.cells #[.slice none 0 0, .int .i64 0] 93)).alloc (.cells (rows0 n) 49)).heap.size = w.heap.size + 1 + 1 := by rw [World.size_alloc, hz1]
    refine ⟨⟨rows0 n, ?_, by simp [rows0], fun t ht hd => ⟨.slice none 0 0, ?_, ?_⟩⟩, ((Blk.new w _ _).alloc _).alloc _, ?_, ((((Below.refl _ _).alloc (Nat.le_refl _) _).alloc (by rw [hz1]; omega) _).alloc (by rw [hz2]; omega) _), by omega⟩
    · have := (Blk.new (w.alloc (.cells #[.slice none 0 0, .int .i64 0] 93)) 49 (rows0 n)).alloc (.cells #[.slice (some ⟨w.heap.size + 1, 0, none⟩) n n, .int .i64 1] 93)
      rwa [hz1] at this
    · rw [rows0, Array.getElem?_replicate, if_pos ht]
    · have e : ls.getD t 0 = 0 := by omega
      rw [encS, e]
      exact OE.nil _ _
    · have := Blk.new ((w.alloc (.cells #[.slice none 0 0, .int .i64 0] 93)).alloc (.cells (rows0 n) 49)) 93 #[.slice (some ⟨w.heap.size + 1, 0, none⟩) n n, .int .i64 1]
      rwa [hz2] at this
  obtain ⟨w1, hw1⟩ : ∃ w1, w1 = (((w.alloc (.cells #[.slice none 0 0, .int .i64 0] 93)).alloc (.cells (rows0 n) 49)).alloc (.cells #[.slice (some ⟨w.heap.size + 1, 0, none⟩) n n, .int .i64 1] 93)) := ⟨_, rfl⟩
  rw [← hw1] at hN ⊢
  obtain ⟨g, hg⟩ : ∃ g, g = w.heap.size + 1 := ⟨_, rfl⟩
  obtain ⟨g2, hg2⟩ : ∃ g2, g2 = w.heap.size := ⟨_, rfl⟩
  obtain ⟨g3, hg3⟩ : ∃ g3, g3 = w.heap.size + 1 + 1 := ⟨_, rfl⟩
  have hg32 : g3 ≠ g2 := by omega
  have hg2w : w.heap.size ≤ g2 := by omega
  have hg3w : w.heap.size ≤ g3 := by omega
  rw [← hg3, ← hg, ← hg2] at hN ⊢
  clear hw1 hmk hmk1 hg hg2 hg3
  go_loopw [4, 5, 6] (fun v4 v5 _ wr => ∃ m : Nat, v5 = .int .i64 (m : Int) ∧ v4 = .int .i64 ((codeM ls m : Nat) : Int) ∧ 1 ≤ m ∧ m ≤ 16 ∧ Hid (N5 w wr g g2 g3 n ls m 0)) (fun _ v5 _ _ => 17 - (intOf v5).toNat)
  case atStart => exact ⟨1, rfl, rfl, Nat.le_refl _, by omega, hN⟩
  case round =>
    clear hN
    obtain ⟨m, rfl, rfl, hm1, hm2, hN⟩ := hrel
    by_cases hm : m ≤ 15
    · have hend := hok.out.2 m hm1 hm
      have hp15 : 2 ^ m ≤ 32768 := Nat.le_trans (Nat.pow_le_pow_right (by omega) hm) (by decide)
      have h2c := codeM_two ls m hm1
      have hadd : firstC ls m + ls.count m = endC ls m := rfl
      have hnx : Hid (codeM ls (m + 1) = endC ls m) := by rw [Hid, codeM, if_neg (by omega), Nat.add_sub_cancel]
      have hpw := hide (fun wz : World => pow_any wz (m : Int) m rfl (by omega))
      obtain ⟨C, hC⟩ : ∃ C, C = codeM ls m := ⟨_, rfl⟩
      rw [← hC] at h2c ⊢
      have hC2 : 2 * (C : Int) = ((firstC ls m : Nat) : Int) := by omega
      have hC3 : C ≤ 32768 := by omega
      obtain ⟨F, hF⟩ : ∃ F, F = firstC ls m := ⟨_, rfl⟩
      rw [← hF] at hC2 hadd
      have hFe : F ≤ endC ls m := by omega
      replace hC := hide hC
      replace hF := hide hF
      clear h2c
      have hmI : (m : Int) ≤ 15 := by omega
      have hmD : decide ((m : Int) ≤ 15) = true := by simp; omega
      go_wp2_with fail
      go_loopw [4, 6] (fun v4 v6 wx => ∃ s : Nat, v6 = .int .i64 (s : Int) ∧ s ≤ n ∧ (∃ K : Nat, v4 = .int .i64 (K : Int) ∧ Hid (K = F + (ls.take s).count m)) ∧ Hid (N5 w wx g g2 g3 n ls m s)) (fun _ v6 _ => n - (intOf v6).toNat)
      case atStart => exact ⟨0, rfl, Nat.zero_le _, ⟨F, rfl, by simp [Hid]⟩, hN⟩
      case round =>
        clear hN
        obtain ⟨s, rfl, hs, ⟨K, rfl, hK⟩, hN⟩ := hrel
        by_cases hlt : s < n
        · have hsl : s < ls.length := by have := hlen.out; omega
          have hct := count_take ls s m hsl
          obtain ⟨ad, rfl, hab, hc⟩ := RN.elem (h.out.below hN.out.bel) (k := s) hlt
          by_cases hsm : ls.getD s 0 = m
          · rw [if_pos hsm] at hct
            have hcc := codeC_take ls s m hsm
            have hKc : Hid (K = codeC ls s) := by rw [Hid, hcc, ← hF.out, hK.out]
            have hrk := rank_code ls hok.out s hsl (by omega)
            rw [hsm] at hc
            have hK2 : Hid (K + 1 = F + (ls.take (s + 1)).count m) := by rw [Hid, hct, hK.out]; omega
            have henc : Hid (encS ls s = hiB m K) := by rw [Hid, encS, hsm, hKc.out]
            have hKlt : K < 2 ^ m := by rw [hKc.out]; rw [hsm] at hrk; exact hrk
            have hK3 : K < 32768 := by omega
            have hbo := hide (fun wz : World => bitsOf_any wz (m : Int) (K : Int) m K rfl rfl hm hKlt)
            have htm : ((K : Int).tmod 32768) = (K : Int) := by rw [Int.tmod_eq_emod_of_nonneg (by omega)]; omega
            have c30 : wr.cell? ⟨g3, 0, none⟩ = some (.slice (some ⟨g, 0, none⟩) n n) := hN.out.b3.cell 0
            have hsm' := hide hsm
            clear hsm hct hcc hrk hK hKc hKlt hend hp15 hadd
            have hN1 := hide (hN.out.below ((Below.refl _ wr).drew))
            go_wp2_with fail
            go_region_with (go_at_call 71; refine (hbo.out _).mono ?_; rintro e w2 ⟨gv, rfl, hOv, hbv⟩; have hN2 := hide (hN1.out.below hbv); have d30 : w2.cell? ⟨g3, 0, none⟩ = some (.slice (some ⟨g, 0, none⟩) n n) := hN2.out.b3.cell 0; obtain ⟨⟨u, cz⟩, fz⟩ := hN2.out.cell hlt; replace hOv := hide hOv; replace hbv := hide hbv)
            all_goals
              have hN3 := hide (hN2.out.lay hlt hsm'.out (by rw [henc.out]; exact OE.more hOv.out hN1.out.bel.size))
              go_wp2_with fail
              go_roundw
              case rel => exact ⟨s + 1, by go_num, by omega, ⟨K + 1, by go_num, hK2⟩, hN3⟩
              case measure => simp [intOf]; omega
          · rw [if_neg hsm] at hct
            have hK2 : Hid (K = F + (ls.take (s + 1)).count m) := by rw [Hid, hct, hK.out]; rfl
            have hN2 := hide (hN.out.skip hsm)
            have hls := h15.out s hlt
            obtain ⟨L, hL⟩ : ∃ L, L = ls.getD s 0 := ⟨_, rfl⟩
            rw [← hL] at hc hsm hls
            have hne : ((L : Int) == (m : Int)) = false := by simp; omega
            replace hL := hide hL
            clear hct hK hN hsm
            go_wp2_with fail
            go_roundw
            case rel => exact ⟨s + 1, by go_num, by omega, ⟨K, rfl, hK2⟩, hN2⟩
            case measure => simp [intOf]; omega
        · obtain rfl : s = n := by omega
          have hKe : K = endC ls m := by rw [hK.out, List.take_of_length_le (by have := hlen.out; omega)]; exact hadd
          have hN2 := hide hN.out.up
          obtain ⟨P, hP⟩ : ∃ P, P = 2 ^ m := ⟨_, rfl⟩
          rw [← hP] at hpw hend hp15
          have hgt : decide (P < K) = false := by rw [decide_eq_false_iff_not]; omega
          have hgt2 : ¬ (P : Int) < (K : Int) := by omega
          have hK5 : K ≤ 32768 := by omega
          replace hP := hide hP
          have hnx2 : Hid (codeM ls (m + 1) = K) := by rw [Hid, hnx.out, hKe]
          clear hKe hK hN hend hp15 hadd
          go_wp2_with fail
          refine (hpw.out _).mono ?_
          rintro e w2 ⟨rfl, rfl⟩
          go_wp2_with fail
          go_roundw
          case rel => exact ⟨m + 1, by go_num, by rw [hnx2.out], by omega, by omega, hN2⟩
          case measure => simp [intOf]; omega
    · obtain rfl : m = 16 := by omega
      have hE : Hid (codeM ls 16 = endC ls 15) := by rw [Hid, codeM, if_neg (by omega)]
      have hC15 := hN.out.all hlen.out fun t ht => by have := h15.out t ht; omega
      obtain ⟨K, hK⟩ : ∃ K, K = codeM ls 16 := ⟨_, rfl⟩
      rw [← hK]
      have hK2 : Hid (K = endC ls 15) := hK.trans hE.out
      have b2 := hN.out.b2
      have b3 := hN.out.b3
      have x20 := b2.cell 0
      have x21 := b2.cell 1
      have y20 := b2.frozen 0
      have y21 := b2.frozen 1
      have x30 := b3.cell 0
      have x31 := b3.cell 1
      have y31 := b3.frozen 1
      have hbel := hide hN.out.bel
      have hgg := hide hN.out.hg
      have hmI : ¬ (16 : Int) ≤ 15 := by omega
      clear hm1 hm2 hm hK hE hN
      replace b2 := hide b2
      replace b3 := hide b3
      replace hC15 := hide hC15
      by_cases hf : K = 32768
      · subst hf
        go_wp2_with fail
        have z3 := b3.out.set_ 1 (.int .i64 0)
        have z2 := b2.out.far (p := ⟨g3, 1, none⟩) (fun e => hg32 e.symm) (.int .i64 0)
        have z2' := z2.set_ 0 (.slice (some ⟨g, 0, none⟩) n n)
        have z2'' : Blk _ g2 93 #[.slice (some ⟨g, 0, none⟩) n n, .int .i64 0] := z2'.set_ 1 (.int .i64 0)
        have d0 := z2''.cell 0
        have d1 := z2''.cell 1
        have hCz := ((hC15.out.setC (i := 1) b3.out (.int .i64 0)).setC (i := 0) z2 (.slice (some ⟨g, 0, none⟩) n n)).setC (i := 1) z2' (.int .i64 0)
        have hBz := ((hbel.out.setCell (p := ⟨g3, 1, none⟩) hg3w (.int .i64 0)).setCell (p := ⟨g2, 0, none⟩) hg2w (.slice (some ⟨g, 0, none⟩) n n)).setCell (p := ⟨g2, 1, none⟩) hg2w (.int .i64 0)
        refine bodyPost_ret (v := .agg #[.slice (some ⟨g, 0, none⟩) n n, .int .i64 0]) (by simp [results, Tryz.results50, go_sem, d0, d1]) rfl ⟨g, 0, rfl, hCz, ?_, hBz⟩
        rw [if_pos hK2.out.symm]
      · have hfI : ((K : Int) == 32768) = false := by rw [beq_eq_false_iff_ne]; omega
        replace hf := hide hf
        go_wp2_with fail
        have z2' := b2.out.set_ 0 (.slice (some ⟨g, 0, none⟩) n n)
        have z2'' : Blk _ g2 93 #[.slice (some ⟨g, 0, none⟩) n n, .int .i64 1] := z2'.set_ 1 (.int .i64 1)
        have d0 := z2''.cell 0
        have d1 := z2''.cell 1
        have hCz := (hC15.out.setC (i := 0) b2.out (.slice (some ⟨g, 0, none⟩) n n)).setC (i := 1) z2' (.int .i64 1)
        have hBz := (hbel.out.setCell (p := ⟨g2, 0, none⟩) hg2w (.slice (some ⟨g, 0, none⟩) n n)).setCell (p := ⟨g2, 1, none⟩) hg2w (.int .i64 1)
        refine bodyPost_ret (v := .agg #[.slice (some ⟨g, 0, none⟩) n n, .int .i64 1]) (by simp [results, Tryz.results50, go_sem, d0, d1]) rfl ⟨g, 1, rfl, hCz, ?_, hBz⟩
        rw [if_neg (fun h => hf.out (hK2.out.trans h))]
end Go.Proofs.YtbchaomnjbkdhaaGreat
