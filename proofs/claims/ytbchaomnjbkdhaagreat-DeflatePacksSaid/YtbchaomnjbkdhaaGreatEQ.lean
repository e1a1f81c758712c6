/-
  Contract of deflate.count.
-/
import Derived.Test.YtbchaomnjbkdhaaGreatEItemsX
import Derived.Test.YtbchaomnjbkdhaaGreatEA
namespace Go.Proofs.YtbchaomnjbkdhaaGreat
open Go.RowKit
set_option linter.unusedVariables false
theorem countA_nil : (List.replicate 286 0).set 256 1 = countA [] := by decide +kernel
theorem countD_nil : List.replicate 30 0 = countD [] := by decide +kernel
theorem countA_snoc (l : List Item) (x : Item) (h : (litP x).symbol < 286) : countA (l ++ [x]) = (countA l).set (litP x).symbol ((countA l).getD (litP x).symbol 0 + 1) := by
  refine List.ext_getElem? fun s => ?_
  by_cases hs : s < 286
  · have e1 : ∀ m : List Item, (countA m)[s]? = some ((countA m).getD s 0) := by
      intro m
      rw [List.getD_eq_getElem?_getD, List.getElem?_eq_getElem (by rw [countA_len]; exact hs)]; rfl
    rw [e1, countA_at _ s hs, List.countP_append, List.countP_singleton]
    by_cases h2 : (litP x).symbol = s
    · rw [h2, List.getElem?_set_self (by rw [countA_len]; exact hs), countA_at _ s hs]
      simp; omega
    · rw [List.getElem?_set_ne h2, e1, countA_at _ s hs, if_neg (by simpa using h2)]
      simp
  · rw [List.getElem?_eq_none (by rw [countA_len]; omega), List.getElem?_eq_none (by rw [List.length_set, countA_len]; omega)]
theorem countD_snoc (l : List Item) (x : Item) (h : (farP x).symbol < 30) : countD (l ++ [x]) = if 0 < x.far then (countD l).set (farP x).symbol ((countD l).getD (farP x).symbol 0 + 1) else countD l := by
  refine List.ext_getElem? fun s => ?_
  by_cases hs : s < 30
  · have e1 : ∀ m : List Item, (countD m)[s]? = some ((countD m).getD s 0) := by
      intro m
      rw [List.getD_eq_getElem?_getD, List.getElem?_eq_getElem (by rw [countD_len]; exact hs)]; rfl
    rw [e1, countD_at _ s hs, List.countP_append, List.countP_singleton]
    by_cases h0 : 0 < x.far
    · rw [if_pos h0]
      by_cases h2 : (farP x).symbol = s
      · rw [h2, List.getElem?_set_self (by rw [countD_len]; exact hs), countD_at _ s hs]
        simp [h0]
      · rw [List.getElem?_set_ne h2, e1, countD_at _ s hs, if_neg (by simp [h2])]
        simp
    · rw [if_neg h0, e1, countD_at _ s hs, if_neg (by simp [h0])]
      simp
  · rw [List.getElem?_eq_none (by rw [countD_len]; omega)]
    split
    · rw [List.getElem?_eq_none (by rw [List.length_set, countD_len]; omega)]
    · rw [List.getElem?_eq_none (by rw [countD_len]; omega)]
/-- What count returns. -/
def CountRet (w : World) (l : List Item) (e : Ending) (w' : World) : Prop :=
  ∃ g1 g2, e = .returned (.tuple #[.slice (some ⟨g1, 0, none⟩) 286 286, .slice (some ⟨g2, 0, none⟩) 30 30]) ∧ ON w' w.heap.size (.slice (some ⟨g1, 0, none⟩) 286 286) 286 (countA l) ∧ ON w' w.heap.size (.slice (some ⟨g2, 0, none⟩) 30 30) 30 (countD l) ∧ Below w.heap.size w w'
def CoI (w0 w : World) (g1 g2 : Nat) (l : List Item) : Prop :=
  ON w w0.heap.size (.slice (some ⟨g1, 0, none⟩) 286 286) 286 (countA l) ∧ ON w w0.heap.size (.slice (some ⟨g2, 0, none⟩) 30 30) 30 (countD l) ∧ g1 ≠ g2 ∧ Below w0.heap.size w0 w
theorem CoI.below {w0 w w2 : World} {g1 g2 : Nat} {l : List Item} (h : CoI w0 w g1 g2 l) (hb : Below w.heap.size w w2) : CoI w0 w2 g1 g2 l :=
  ⟨OE.below h.1 hb (Nat.le_refl _), OE.below h.2.1 hb (Nat.le_refl _), h.2.2.1, h.2.2.2.trans (hb.mono h.2.2.2.size)⟩
theorem ON.getD {w : World} {base g n c : Nat} {l : List Nat} (h : ON w base (.slice (some ⟨g, 0, none⟩) n c) n l) {k : Nat} (hk : k < n) : w.cell? ⟨g, k, none⟩ = some (.int .i64 (l.getD k 0 : Int)) := by
  have hl := h.len
  rw [OE.cell h (show k < l.length by omega), List.getD_eq_getElem?_getD, List.getElem?_eq_getElem (by omega)]; rfl
set_option maxRecDepth 100000 in
set_option maxHeartbeats 4000000 in
theorem count_any (w : World) (A : Option Addr) (n c : Nat) (l : List Item) (hI : ItemsAt w A n l) (hx : ∀ x ∈ l, okI x) (hn : n ≤ 1000000) :
    Calls Tryz.prog 34 #[.slice A n c] w (CountRet w l) := by
  have hlen := hide hI.1
  have hm1 : ∀ wz : World, (Instr.makeSlice 49 (.int .i64 286) (.int .i64 286)).run Tryz.prog wz = .ok (.slice (some ⟨wz.heap.size, 0, none⟩) 286 286) (wz.alloc (.cells (((List.replicate 286 0).map encI).toArray) 3)) := fun wz => make_ints' 286 (by omega) wz
  have hm2 : ∀ wz : World, (Instr.makeSlice 49 (.int .i64 30) (.int .i64 30)).run Tryz.prog wz = .ok (.slice (some ⟨wz.heap.size, 0, none⟩) 30 30) (wz.alloc (.cells (((List.replicate 30 0).map encI).toArray) 3)) := fun wz => make_ints' 30 (by omega) wz
  obtain ⟨z1, hz1⟩ : ∃ z1, z1 = ((List.replicate 286 0).map encI).toArray := ⟨_, rfl⟩
  obtain ⟨z2, hz2⟩ : ∃ z2, z2 = ((List.replicate 30 0).map encI).toArray := ⟨_, rfl⟩
  have ho1 : ∀ (wz : World) (base : Nat), base ≤ wz.heap.size → ON (wz.alloc (.cells z1 3)) base (.slice (some ⟨wz.heap.size, 0, none⟩) 286 286) 286 (List.replicate 286 0) := fun wz base hb => by
    rw [hz1]; exact ON.made wz base 286 _ (by simp) hb (by simp only [maxLen]; omega)
  have ho2 : ∀ (wz : World) (base : Nat), base ≤ wz.heap.size → ON (wz.alloc (.cells z2 3)) base (.slice (some ⟨wz.heap.size, 0, none⟩) 30 30) 30 (List.replicate 30 0) := fun wz base hb => by
    rw [hz2]; exact ON.made wz base 30 _ (by simp) hb (by simp only [maxLen]; omega)
  rw [← hz1] at hm1
  rw [← hz2] at hm2
  replace ho1 := hide ho1
  replace ho2 := hide ho2
  clear hz1 hz2
  replace hI := hide hI
  replace hx := hide hx
  go_enter Tryz.func34, Tryz.ntmps34
  go_upto_region 1 with (fail)
  go_cut [4, 5] (fun v4 v5 wx => ∃ g1 g2, v4 = .slice (some ⟨g1, 0, none⟩) 286 286 ∧ v5 = .slice (some ⟨g2, 0, none⟩) 30 30 ∧ ON wx w.heap.size (.slice (some ⟨g1, 0, none⟩) 286 286) 286 (List.replicate 286 0) ∧ ON wx w.heap.size (.slice (some ⟨g2, 0, none⟩) 30 30) 30 (List.replicate 30 0) ∧ g1 ≠ g2 ∧ Below w.heap.size w wx)
  case first =>
    have e1 : (w.alloc (.cells z1 3)).heap.size = w.heap.size + 1 := by simp
    have e2 : (w.alloc (.cells z2 3)).heap.size = w.heap.size + 1 := by simp
    have q1 := OE.alloc (ho1.out w w.heap.size (Nat.le_refl _)) (.cells z2 3)
    have q2 := ho2.out (w.alloc (.cells z1 3)) w.heap.size (by omega)
    have q3 := OE.alloc (ho2.out w w.heap.size (Nat.le_refl _)) (.cells z1 3)
    have q4 := ho1.out (w.alloc (.cells z2 3)) w.heap.size (by omega)
    have qb1 : Hid (Below w.heap.size w ((w.alloc (.cells z1 3)).alloc (.cells z2 3))) := ((Below.refl _ _).alloc (Nat.le_refl _) _).alloc (by omega) _
    have qb2 : Hid (Below w.heap.size w ((w.alloc (.cells z2 3)).alloc (.cells z1 3))) := ((Below.refl _ _).alloc (Nat.le_refl _) _).alloc (by omega) _
    rw [e1] at q2
    rw [e2] at q4
    replace q1 := hide q1
    replace q2 := hide q2
    replace q3 := hide q3
    replace q4 := hide q4
    clear e1 e2
    go_region
    · go_wp2_with fail
      go_meet
      case rel => exact ⟨w.heap.size, w.heap.size + 1, rfl, rfl, q1.out, q2.out, by omega, qb1.out.drew⟩
    · go_wp2_with fail
      go_meet
      case rel => exact ⟨w.heap.size + 1, w.heap.size, rfl, rfl, q4.out, q3.out, by omega, qb2.out.drew⟩
  case rest =>
    obtain ⟨g1, g2, rfl, rfl, h1, h2, h12, hb⟩ := hcut
    have c256 := OE.cell h1 (k := 256) (by simp)
    have f256 := OE.froz (k := 256) h1
    have hI0 : Hid (CoI w (wc.setCell ⟨g1, 256, none⟩ (.int .i64 1)) g1 g2 (l.take 0)) := by
      refine ⟨?_, ?_, h12, hb.setCell (p := ⟨g1, 256, none⟩) (OE.lt h1 g1 rfl).1 _⟩
      · have := OE.stored h1 256 1
        rw [countA_nil] at this
        exact this
      · rw [List.take_zero, ← countD_nil]
        exact OE.other h2 (p := ⟨g1, 256, none⟩) (by intro e; injection e with e; exact h12 e.symm) _
    have hItb := hide (hI.out.keep (KeepX.of_below hb _ (by decide) (by decide)))
    replace h1 := hide h1
    replace h2 := hide h2
    replace hb := hide hb
    generalize encI (List.replicate 286 0)[256] = u256 at *
    clear hm1 hm2 ho1 ho2
    go_wp2_with fail
    generalize wc.setCell ⟨g1, 256, none⟩ (.int .i64 1) = wa at *
    clear h1 h2 hb c256 f256 hItb
    go_loopw [16] (fun vi wr => ∃ i : Nat, vi = .int .i64 i ∧ i ≤ n ∧ Hid (CoI w wr g1 g2 (l.take i))) (fun vi _ => n - (intOf vi).toNat)
    case atStart => exact ⟨0, rfl, Nat.zero_le _, hI0⟩
    case round =>
      clear hI0
      obtain ⟨i, rfl, hi, hC⟩ := hrel
      obtain ⟨k1, k2, _, kb⟩ := hC.out
      by_cases hlt : i < n
      · have hil : i < l.length := by have := hlen.out; omega
        obtain ⟨gi, rfl, c0, c1, c2⟩ := (hI.out.keep (KeepX.of_below kb _ (by decide) (by decide))).elem hlt hil
        have hxi := hx.out _ (List.getElem_mem hil)
        have hnx : Hid (l.take (i + 1) = l.take i ++ [l[i]]) := by rw [Hid, List.take_succ_eq_append_getElem hil]
        have hls := lit_small _ hxi
        have hfs := far_small _ hxi
        obtain ⟨x, hxe⟩ : ∃ x, x = l[i] := ⟨_, rfl⟩
        rw [← hxe] at c0 c1 c2 hxi hnx hls hfs
        replace hxe := hide hxe
        have hcA := countA_snoc (l.take i) x (by omega)
        have hcD := countD_snoc (l.take i) x (by omega)
        rw [← hnx.out] at hcA hcD
        have hbA := getD_le (countA (l.take i)) (i + 1) (fun y hy => by
          have := countA_le (l.take i) y hy
          rw [List.length_take] at this
          omega) (litP x).symbol
        have hbD := getD_le (countD (l.take i)) i (fun y hy => by
          have := countD_le (l.take i) y hy
          rw [List.length_take] at this
          omega) (farP x).symbol
        have hparts0 : ∀ wz : World, Calls Tryz.prog 60 #[itemV x] wz (PartsRet wz x) := fun wz => parts_any wz x hxi
        replace hxi := hide hxi
        obtain ⟨xc, xl, xf⟩ := x
        dsimp only [itemV] at c0 c1 c2 hparts0 hcD
        obtain ⟨cn, hcn⟩ : ∃ cn, cn = xc.toNat := ⟨_, rfl⟩
        rw [← hcn] at c0 hparts0
        have hparts := hide hparts0
        clear hparts0
        replace hcn := hide hcn
        have hbx : Below wr.heap.size wr (wr.alloc (.cells #[.int .u8 (cn : Int), .int .i64 (xl : Int), .int .i64 (xf : Int)] 107)) := (Below.refl _ _).alloc (Nat.le_refl _) _
        have hBi := Blk.new wr 107 #[.int .u8 (cn : Int), .int .i64 (xl : Int), .int .i64 (xf : Int)]
        have hCi := hide (hC.out.below hbx)
        clear hbx
        go_upto_region 6 with (fail)
        generalize wr.alloc (.cells #[.int .u8 (cn : Int), .int .i64 (xl : Int), .int .i64 (xf : Int)] 107) = wi at *
        obtain ⟨ib, hib⟩ : ∃ ib, ib = wr.heap.size := ⟨_, rfl⟩
        rw [← hib] at hBi ⊢
        have e0 : wi.cell? ⟨ib, 0, none⟩ = some (.int .u8 (cn : Int)) := hBi.cell 0
        have e1 : wi.cell? ⟨ib, 1, none⟩ = some (.int .i64 (xl : Int)) := hBi.cell 1
        have e2 : wi.cell? ⟨ib, 2, none⟩ = some (.int .i64 (xf : Int)) := hBi.cell 2
        replace hBi := hide hBi
        clear hib c0 c1 c2 hC k1 k2 kb
        go_wp2_with fail
        refine (hparts.out wi).mono ?_
        rintro e w2 ⟨rfl, hb2⟩
        have hC2 := hCi.out.below hb2
        have hBi2 := hBi.out.below hb2 hBi.out.lt
        obtain ⟨pa, hpa⟩ : ∃ pa, pa = litP ⟨xc, xl, xf⟩ := ⟨_, rfl⟩
        obtain ⟨pd, hpd⟩ : ∃ pd, pd = farP ⟨xc, xl, xf⟩ := ⟨_, rfl⟩
        rw [← hpa] at hls hcA hbA ⊢
        rw [← hpd] at hfs hcD hbD ⊢
        obtain ⟨as_, aw, am⟩ := pa
        obtain ⟨ds, dw, dm⟩ := pd
        dsimp only at hls hfs hcA hcD hbA hbD
        clear hpa hpd hb2 hCi hBi hparts e0 e1 e2
        unfold partV
        dsimp only
        have hA3 := Blk.new w2 79 #[.int .i64 (as_ : Int), .int .i64 (aw : Int), .int .i64 (am : Int)]
        have hA4 := hA3.alloc (.cells #[.int .i64 (ds : Int), .int .i64 (dw : Int), .int .i64 (dm : Int)] 79)
        have hD4 := Blk.new (w2.alloc (.cells #[.int .i64 (as_ : Int), .int .i64 (aw : Int), .int .i64 (am : Int)] 79)) 79 #[.int .i64 (ds : Int), .int .i64 (dw : Int), .int .i64 (dm : Int)]
        have hb4 : Below w2.heap.size w2 ((w2.alloc (.cells #[.int .i64 (as_ : Int), .int .i64 (aw : Int), .int .i64 (am : Int)] 79)).alloc (.cells #[.int .i64 (ds : Int), .int .i64 (dw : Int), .int .i64 (dm : Int)] 79)) := ((Below.refl _ _).alloc (Nat.le_refl _) _).alloc (by simp) _
        have hC4 := hC2.below hb4
        have hBi4 := hBi2.below hb4 hBi2.lt
        rw [show (w2.alloc (.cells #[.int .i64 (as_ : Int), .int .i64 (aw : Int), .int .i64 (am : Int)] 79)).heap.size = w2.heap.size + 1 from by simp] at hD4
        clear hA3 hb4 hC2 hBi2
        replace hA4 := hide hA4
        replace hD4 := hide hD4
        replace hBi4 := hide hBi4
        replace hC4 := hide hC4
        go_upto_region 7 with (fail)
        generalize (w2.alloc (.cells #[.int .i64 (as_ : Int), .int .i64 (aw : Int), .int .i64 (am : Int)] 79)).alloc (.cells #[.int .i64 (ds : Int), .int .i64 (dw : Int), .int .i64 (dm : Int)] 79) = w4 at *
        obtain ⟨ab, hab⟩ : ∃ ab, ab = w2.heap.size := ⟨_, rfl⟩
        rw [← hab] at hA4 hD4 ⊢
        clear hab
        have a0 : w4.cell? ⟨ab, 0, none⟩ = some (.int .i64 (as_ : Int)) := hA4.out.cell 0
        obtain ⟨m1, m2, m12, mb⟩ := hC4.out
        have cA := m1.getD (k := as_) (by omega)
        have fA := OE.froz (k := as_) m1
        obtain ⟨V, hV⟩ : ∃ V, V = (countA (l.take i)).getD as_ 0 := ⟨_, rfl⟩
        rw [← hV] at cA hbA hcA
        have s1 : ON (w4.setCell ⟨g1, as_, none⟩ (.int .i64 ((V + 1 : Nat) : Int))) w.heap.size (.slice (some ⟨g1, 0, none⟩) 286 286) 286 (countA (l.take (i + 1))) := by
          rw [hcA]; exact OE.stored m1 as_ (V + 1)
        have s2 : ON (w4.setCell ⟨g1, as_, none⟩ (.int .i64 ((V + 1 : Nat) : Int))) w.heap.size (.slice (some ⟨g2, 0, none⟩) 30 30) 30 (countD (l.take i)) := OE.other m2 (p := ⟨g1, as_, none⟩) (by intro e; injection e with e; exact m12 e.symm) _
        have sb : Below w.heap.size w (w4.setCell ⟨g1, as_, none⟩ (.int .i64 ((V + 1 : Nat) : Int))) := mb.setCell (p := ⟨g1, as_, none⟩) (OE.lt m1 g1 rfl).1 _
        obtain ⟨cur1, hcur1⟩ := m1.blkc
        have hBi5 := hBi4.out.far (p := ⟨g1, as_, none⟩) (Blk.ne_ hBi4.out hcur1 (by decide)) (.int .i64 ((V + 1 : Nat) : Int))
        have hD5 := hD4.out.far (p := ⟨g1, as_, none⟩) (Blk.ne_ hD4.out hcur1 (by decide)) (.int .i64 ((V + 1 : Nat) : Int))
        have hle : (as_ : Int) < 286 := by omega
        have hle0 : (0 : Int) ≤ (as_ : Int) := by omega
        have hdle : (ds : Int) < 30 := by omega
        have hdle0 : (0 : Int) ≤ (ds : Int) := by omega
        replace hV := hide hV
        replace m1 := hide m1
        replace m2 := hide m2
        replace s1 := hide s1
        replace s2 := hide s2
        replace sb := hide sb
        replace hcur1 := hide hcur1
        replace hBi5 := hide hBi5
        replace hD5 := hide hD5
        replace hcA := hide hcA
        clear mb hC4 hA4 hBi4 hD4
        go_upto_region 8 with (fail)
        change Code.wp _ _ _ _ (w4.setCell ⟨g1, as_, none⟩ (.int .i64 ((V + 1 : Nat) : Int)))
        generalize w4.setCell ⟨g1, as_, none⟩ (.int .i64 ((V + 1 : Nat) : Int)) = w5 at *
        have f2 : w5.cell? ⟨ib, 2, none⟩ = some (.int .i64 (xf : Int)) := hBi5.out.cell 2
        have g0 : w5.cell? ⟨ab + 1, 0, none⟩ = some (.int .i64 (ds : Int)) := hD5.out.cell 0
        clear cA fA a0 m1 m2 hcur1 hBi5 hD5
        by_cases hf0 : xf = 0
        · subst hf0
          rw [if_neg (by omega)] at hcD
          have hCn : Hid (CoI w w5 g1 g2 (l.take (i + 1))) := ⟨s1.out, by rw [hcD]; exact s2.out, m12, sb.out⟩
          clear hcD
          go_wp2_with fail
          go_roundw
          case rel => exact ⟨i + 1, by go_num, hlt, hCn⟩
          case measure => simp [intOf]; omega
        · rw [if_pos (by omega)] at hcD
          have hff : decide ((0 : Int) < (xf : Int)) = true := by simp; omega
          have hff2 : (0 : Int) < (xf : Int) := by omega
          have cD := s2.out.getD (k := ds) (by omega)
          have fD := OE.froz (k := ds) s2.out
          obtain ⟨U, hU⟩ : ∃ U, U = (countD (l.take i)).getD ds 0 := ⟨_, rfl⟩
          rw [← hU] at cD hbD hcD
          have hCn : Hid (CoI w (w5.setCell ⟨g2, ds, none⟩ (.int .i64 ((U + 1 : Nat) : Int))) g1 g2 (l.take (i + 1))) := by
            refine ⟨OE.other s1.out (p := ⟨g2, ds, none⟩) (by intro e; injection e with e; exact m12 e) _, ?_, m12, sb.out.setCell (p := ⟨g2, ds, none⟩) (OE.lt s2.out g2 rfl).1 _⟩
            rw [hcD]; exact OE.stored s2.out ds (U + 1)
          replace hU := hide hU
          clear hcD
          go_wp2_with fail
          go_roundw
          case rel => exact ⟨i + 1, by go_num, hlt, hCn⟩
          case measure => simp [intOf]; omega
      · obtain rfl : i = n := by omega
        rw [List.take_of_length_le (by have := hlen.out; omega)] at hC
        clear k1 k2 kb
        go_wp2_with fail
        go_ret2
        exact ⟨g1, g2, rfl, hC.out.1, hC.out.2.1, hC.out.2.2.2⟩
end Go.Proofs.YtbchaomnjbkdhaaGreat
namespace Go.Proofs.YtbchaomnjbkdhaaGreat
open Go.RowKit
set_option linter.unusedVariables false
theorem OE.cut {α : Type} {enc : α → Value} {e : TypeId} {w : World} {base g n c : Nat} {l : List α} (h : OE enc e w base (.slice (some ⟨g, 0, none⟩) n c) n l) (k : Nat) (hk : k ≤ n) : OE enc e w base (.slice (some ⟨g, 0, none⟩) k c) k (l.take k) := by
  have hl := h.len
  obtain ⟨h1, h2⟩ := h
  rcases h2 with ⟨h3, _⟩ | ⟨g', cap', cur, hv, hg, hh, hn, hc, hs, ht⟩
  · cases h3
  · cases hv
    refine ⟨by simp; omega, .inr ⟨g, c, cur, rfl, hg, hh, by omega, hc, hs, ?_⟩⟩
    rw [List.map_take, ← ht, List.take_take]
    congr 1
    omega
def CutRet (w : World) (base g c : Nat) (l : List Nat) (e : Ending) (w' : World) : Prop := e = .returned (.slice (some ⟨g, 0, none⟩) l.length c) ∧ ON w base (.slice (some ⟨g, 0, none⟩) l.length c) l.length l ∧ w' = w
set_option maxRecDepth 100000 in
set_option maxHeartbeats 2000000 in
theorem cut_any (w : World) (base g n c least : Nat) (M : Int) (hM : M = (least : Int)) (l : List Nat) (h : ON w base (.slice (some ⟨g, 0, none⟩) n c) n l) (hn : n ≤ 1000) (hl1 : 1 ≤ least) (hl2 : least ≤ 1000) :
    Calls Tryz.prog 35 #[.slice (some ⟨g, 0, none⟩) n c, .int .i64 M] w (CutRet w base g c (cutL least l.length l)) := by
  subst hM
  replace h := hide h
  go_enter Tryz.func35, Tryz.ntmps35
  go_wp2_with fail
  obtain ⟨wa, hwa⟩ : ∃ wa, wa = w := ⟨_, rfl⟩
  have h1 : Hid (ON wa base (.slice (some ⟨g, 0, none⟩) n c) n l) := by rw [hwa]; exact h.out
  rw [← hwa]
  clear h
  replace hwa := hide hwa
  go_loopw [0] (fun v0 wr => ∃ (m : Nat) (l' : List Nat), v0 = .slice (some ⟨g, 0, none⟩) m c ∧ m ≤ 1000 ∧ Hid (ON wa base (.slice (some ⟨g, 0, none⟩) m c) m l') ∧ Hid (cutL least l.length l = cutL least l'.length l') ∧ wr = wa) (fun v0 _ => lenV v0)
  case atStart => exact ⟨n, l, rfl, hn, h1, rfl, rfl⟩
  case round =>
    clear h1
    obtain ⟨m, l', rfl, hm, hO, hc, rfl⟩ := hrel
    have hlm := hO.out.len
    by_cases c1 : least < m
    · have cm := hO.out.getD (k := m - 1) (by omega)
      have e1 : decide ((least : Int) < (m : Int)) = true := by simp; omega
      have e1' : (least : Int) < (m : Int) := by omega
      have hsub : (m : Int) - 1 = ((m - 1 : Nat) : Int) := by omega
      have hge : (0 : Int) ≤ ((m - 1 : Nat) : Int) := by omega
      have hlt : ((m - 1 : Nat) : Int) < (m : Int) := by omega
      have hle : ((m - 1 : Nat) : Int) ≤ (c : Int) := by
        rcases hO.out.parts with ⟨h0, _⟩ | ⟨g', c', h0, _, h1, _⟩
        · cases h0
        · cases h0; omega
      by_cases c2 : l'.getD (m - 1) 0 = 0
      · rw [c2] at cm
        have hO2 := hide (OE.cut hO.out (m - 1) (by omega))
        have hc2 : Hid (cutL least l.length l = cutL least (l'.take (m - 1)).length (l'.take (m - 1))) := by
          rw [Hid, hc.out, hlm]
          obtain ⟨f, rfl⟩ : ∃ f, m = f + 1 := ⟨m - 1, by omega⟩
          rw [cutL, if_pos ⟨by omega, by rw [hlm]; exact c2⟩, hlm, List.length_take, hlm, Nat.add_sub_cancel, Nat.min_eq_left (by omega)]
        replace hlm := hide hlm
        replace c2 := hide c2
        generalize hm1 : m - 1 = m1 at *
        go_wp2_with fail
        go_roundw
        case rel => exact ⟨m1, l'.take m1, by go_num, by omega, hO2, hc2, (by first | rfl | trivial)⟩
        case measure => simp only [lenV]; omega
      · have hne : (((l'.getD (m - 1) 0 : Nat) : Int) == 0) = false := by rw [beq_eq_false_iff_ne]; omega
        have hc2 : Hid (cutL least l.length l = l') := by
          rw [Hid, hc.out, hlm]
          obtain ⟨f, rfl⟩ : ∃ f, m = f + 1 := ⟨m - 1, by omega⟩
          rw [cutL, if_neg (fun h => c2 (by rw [← hlm]; exact h.2))]
        obtain ⟨V, hV⟩ : ∃ V, V = l'.getD (m - 1) 0 := ⟨_, rfl⟩
        rw [← hV] at cm hne c2
        replace hV := hide hV
        replace hlm := hide hlm
        generalize hm1 : m - 1 = m1 at *
        go_wp2_with fail
        go_ret
        refine ⟨?_, ?_, hwa.out⟩
        · rw [hc2.out, hlm.out]; rfl
        · rw [hc2.out, hlm.out, ← hwa.out]; exact hO.out
    · have e1 : decide ((least : Int) < (m : Int)) = false := by simp; omega
      have e1' : ¬ (least : Int) < (m : Int) := by omega
      have e1'' : (m : Int) ≤ (least : Int) := by omega
      have hc2 : Hid (cutL least l.length l = l') := by
        rw [Hid, hc.out]
        cases hl : l'.length with
        | zero => rfl
        | succ f => rw [cutL, if_neg (fun h => c1 (by omega))]
      replace hlm := hide hlm
      go_wp2_with fail
      go_ret
      refine ⟨?_, ?_, hwa.out⟩
      · rw [hc2.out, hlm.out]; rfl
      · rw [hc2.out, hlm.out, ← hwa.out]; exact hO.out
end Go.Proofs.YtbchaomnjbkdhaaGreat
