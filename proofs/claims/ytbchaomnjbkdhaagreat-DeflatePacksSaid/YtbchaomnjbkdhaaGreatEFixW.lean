/-
  Contract of deflate.fixed.
-/
import Derived.Test.YtbchaomnjbkdhaaGreatEItemsX
import Derived.Test.YtbchaomnjbkdhaaGreatEWriteW
import Derived.Test.YtbchaomnjbkdhaaGreatEShortW
namespace Go.Proofs.YtbchaomnjbkdhaaGreat
open Go.RowKit
set_option linter.unusedVariables false
def lfix : Nat → List Nat
  | 0 => []
  | 1 => List.replicate 144 8
  | 2 => List.replicate 144 8 ++ List.replicate 112 9
  | 3 => List.replicate 144 8 ++ List.replicate 112 9 ++ List.replicate 24 7
  | _ => List.replicate 144 8 ++ List.replicate 112 9 ++ List.replicate 24 7 ++ List.replicate 8 8
theorem items_len (b : List UInt8) : (itemsL b).length ≤ b.length := by
  have h1 := items_size b b.length 0 (by omega) (by omega)
  have h2 : ∀ (l : List Item), (∀ x ∈ l, okI x) → l.length ≤ (l.map sizeI).sum := by
    intro l
    induction l with
    | nil => intro _; exact Nat.le_refl _
    | cons x l ih =>
      intro h
      rw [List.length_cons, List.map_cons, List.sum_cons]
      have := ih fun y hy => h y (.tail _ hy)
      have hx : 1 ≤ sizeI x := by
        unfold sizeI
        rcases h x (.head _) with h | h
        · rw [if_pos h.1]; omega
        · split <;> omega
      omega
  have h3 := h2 (itemsL b) (items_ok b _ _)
  unfold itemsL at *
  omega
theorem lfix_four : lfix 4 = fixedLits := rfl
theorem lits_code : codeOk fixedLits := codeOk_of _ (by decide +kernel) (by decide +kernel)
theorem dist_code : codeOk fixedDist := codeOk_of _ (by decide +kernel) (by decide +kernel)
def thirty (i : Nat) : Array Value := ((List.replicate i 5 ++ List.replicate (30 - i) 0).map encI).toArray
theorem thirty_at (i j : Nat) (hi : i ≤ 30) (hj : j < 30) : (thirty i)[j]? = some (.int .i64 ((if j < i then 5 else 0 : Nat) : Int)) := by
  unfold thirty
  rw [List.getElem?_toArray, List.getElem?_map]
  by_cases h : j < i
  · rw [List.getElem?_append_left (by simpa using h), List.getElem?_replicate, if_pos h, if_pos h]; rfl
  · rw [List.getElem?_append_right (by simp; omega), List.getElem?_replicate, List.length_replicate, if_pos (by omega), if_neg h]; rfl
theorem thirty_size (i : Nat) (hi : i ≤ 30) : (thirty i).size = 30 := by simp [thirty]; omega
theorem thirty_set (i : Nat) (hi : i < 30) : (thirty i).setIfInBounds i (.int .i64 5) = thirty (i + 1) := by
  refine Array.ext_getElem? fun j => ?_
  by_cases hj : j < 30
  · rw [Array.getElem?_setIfInBounds, thirty_at i j (by omega) hj, thirty_at (i + 1) j (by omega) hj]
    by_cases h : i = j
    · subst h
      rw [if_pos rfl, if_pos (by rw [thirty_size i (by omega)]; exact hi), if_pos (by omega)]; rfl
    · rw [if_neg h]
      by_cases h2 : j < i
      · rw [if_pos h2, if_pos (by omega)]
      · rw [if_neg h2, if_neg (by omega)]
  · rw [Array.getElem?_eq_none (by rw [Array.size_setIfInBounds, thirty_size i (by omega)]; omega), Array.getElem?_eq_none (by rw [thirty_size (i + 1) (by omega)]; omega)]
theorem thirty_zero : thirty 0 = #[.int .i64 0, .int .i64 0, .int .i64 0, .int .i64 0, .int .i64 0, .int .i64 0, .int .i64 0, .int .i64 0, .int .i64 0, .int .i64 0, .int .i64 0, .int .i64 0, .int .i64 0, .int .i64 0, .int .i64 0, .int .i64 0, .int .i64 0, .int .i64 0, .int .i64 0, .int .i64 0, .int .i64 0, .int .i64 0, .int .i64 0, .int .i64 0, .int .i64 0, .int .i64 0, .int .i64 0, .int .i64 0, .int .i64 0, .int .i64 0] := rfl
/-- A block of ints reads as its list. -/
theorem RN.of_blk {w : World} {g : Nat} {t : TypeId} {l : List Nat} {n B : Nat} (h : Blk w g t ((l.map encI).toArray)) (hn : l.length = n) (hB : g < B) : RN w B (some ⟨g, 0, none⟩) n l := by
  refine ⟨by simpa using hn, fun _ => ⟨_, rfl, hB, fun j x hj => ?_⟩⟩
  rw [Addr.add_lit, h.cell, Nat.zero_add, List.getElem?_toArray]
  exact hj
theorem runs_at (j : Nat) (hj : j < 4) : ∃ N V : Nat, (∀ wx : World, (Instr.index 64 (.agg #[.int .i64 144, .int .i64 8, .int .i64 112, .int .i64 9, .int .i64 24, .int .i64 7, .int .i64 8, .int .i64 8]) (.int .i64 (j : Int))).run Tryz.prog wx = .ok (.agg #[.int .i64 (N : Int), .int .i64 (V : Int)]) wx) ∧ lfix (j + 1) = lfix j ++ List.replicate N V ∧ N ≤ 144 := by
  match j, hj with
  | 0, _ => exact ⟨144, 8, fun wx => by kernel_rfl, by simp [lfix], by omega⟩
  | 1, _ => exact ⟨112, 9, fun wx => by kernel_rfl, rfl, by omega⟩
  | 2, _ => exact ⟨24, 7, fun wx => by kernel_rfl, rfl, by omega⟩
  | 3, _ => exact ⟨8, 8, fun wx => by kernel_rfl, rfl, by omega⟩
theorem lfix_len (j : Nat) : (lfix j).length ≤ 288 := by
  match j with
  | 0 => exact Nat.zero_le _
  | 1 => simp only [lfix, List.length_replicate]; omega
  | 2 => simp only [lfix, List.length_append, List.length_replicate]; omega
  | 3 => simp only [lfix, List.length_append, List.length_replicate]; omega
  | j + 4 => simp only [lfix, List.length_append, List.length_replicate]; omega
set_option maxRecDepth 100000 in
set_option maxHeartbeats 4000000 in
theorem fixed_any (w : World) (g : Nat) (A : Option Addr) (n c : Nat) (b : List UInt8) (hW : WA w g []) (hb : RB w g A n b) (hn : n ≤ 1000000) (hnc : n ≤ c) :
    Calls Tryz.prog 13 #[.pointer (some ⟨g, 0, none⟩), .slice A n c] w (WrRet w g (fixB b)) := by
  have hgl := hW.lt
  replace hW := hide hW
  replace hb := hide hb
  go_enter Tryz.func13, Tryz.ntmps13
  go_wp2_with fail
  go_loopw [4, 18] (fun v4 v18 wr => ∃ j : Nat, v18 = .int .i64 j ∧ j ≤ 4 ∧ Hid (ON wr w.heap.size v4 (lfix j).length (lfix j)) ∧ Hid (Below w.heap.size w wr)) (fun _ v18 _ => 4 - (intOf v18).toNat)
  case atStart => exact ⟨0, rfl, by omega, OE.nil _ _, Below.refl _ _⟩
  case round =>
    obtain ⟨j, rfl, hj, hO, hB⟩ := hrel
    by_cases hlt : j < 4
    · obtain ⟨N, V, hix, hstep, hN⟩ := runs_at j hlt
      have hd4 : decide ((j : Int) < 4) = true := by simp; omega
      have hlj := lfix_len j
      replace hstep := hide hstep
      have hB1 := hide (hB.out.alloc hB.out.size (.cells #[.int .i64 (N : Int), .int .i64 (V : Int)] 63))
      have hP1 := Blk.new wr 63 #[.int .i64 (N : Int), .int .i64 (V : Int)]
      have hO1 := hide (OE.alloc hO.out (.cells #[.int .i64 (N : Int), .int .i64 (V : Int)] 63))
      obtain ⟨gp, hgp⟩ : ∃ gp, gp = wr.heap.size := ⟨_, rfl⟩
      rw [← hgp] at hP1
      have hgpw : w.heap.size ≤ gp := by rw [hgp]; exact hB.out.size
      go_upto_region 4 with (fail)
      generalize wr.alloc (.cells #[.int .i64 (N : Int), .int .i64 (V : Int)] 63) = wi at *
      rw [← hgp]
      clear hgp hO hB hix
      have d0 : wi.cell? ⟨gp, 0, none⟩ = some (.int .i64 (N : Int)) := hP1.cell 0
      replace hP1 := hide hP1
      obtain ⟨L, hL⟩ : ∃ L, L = lfix j := ⟨_, rfl⟩
      rw [← hL] at hO1 hstep hlj
      replace hL := hide hL
      go_wp2_with fail
      go_loopw [4, 23] (fun v4 v23 wx => ∃ k : Nat, v23 = .int .i64 k ∧ k ≤ N ∧ Hid (ON wx w.heap.size v4 (L.length + k) (L ++ List.replicate k V)) ∧ Hid (Below w.heap.size w wx) ∧ Hid (Blk wx gp 63 #[.int .i64 (N : Int), .int .i64 (V : Int)])) (fun _ v23 _ => N - (intOf v23).toNat)
      case atStart => exact ⟨0, rfl, Nat.zero_le _, by rw [Nat.add_zero, List.replicate_zero, List.append_nil]; exact hO1, hB1, hP1⟩
      case round =>
        clear hO1 hB1 hP1 d0
        obtain ⟨k, rfl, hk, hO, hB, hP⟩ := hrel
        have d1 : wr.cell? ⟨gp, 1, none⟩ = some (.int .i64 (V : Int)) := hP.out.cell 1
        have hbs := hB.out.size
        by_cases hkl : k < N
        · have hnx : Hid (L ++ List.replicate (k + 1) V = (L ++ List.replicate k V) ++ [V]) := by rw [Hid, List.replicate_succ', List.append_assoc]
          go_wp2_with (first | (at_builtin; refine wpList_app_i V rfl rfl (.tmp 25) (.tmp 28) rfl w.heap.size _ _ (L ++ List.replicate k V) hO.out rfl 1 rfl (by omega) (by omega) ?_; intro v2 w2 ho2 hb2 hg2 _) | fail)
          have hP2 := hide (hP.out.grown hg2 (fun e => own_blk_ne hO.out hP.out (by decide) e.symm))
          have hB2 := hide (hB.out.trans hb2)
          have hO2 : Hid (ON w2 w.heap.size v2 (L.length + (k + 1)) (L ++ List.replicate (k + 1) V)) := by rw [hnx.out]; exact ho2
          clear ho2 hb2 hg2 hO hB hP
          go_wp2_with fail
          go_roundw
          case rel => exact ⟨k + 1, by go_num, hkl, hO2, hB2, hP2⟩
          case measure => simp [intOf]; omega
        · obtain rfl : k = N := by omega
          have hO2 : Hid (ON wr w.heap.size u4 (lfix (j + 1)).length (lfix (j + 1))) := by
            rw [hstep.out, List.length_append, List.length_replicate]; exact hO.out
          go_wp2_with fail
          go_roundw
          case rel => exact ⟨j + 1, by go_num, hlt, hO2, hB⟩
          case measure => simp [intOf]; omega
    · obtain rfl : j = 4 := by omega
      rw [lfix_four] at hO
      have hl288 : fixedLits.length = 288 := rfl
      obtain ⟨g4, k4, rfl, hg4, hg4l⟩ := hO.out.ownb (by rw [hl288]; omega)
      rw [hl288] at hO ⊢
      have hbs := hB.out.size
      have hB1 := hide (hB.out.alloc hbs (.cells (thirty 0) 65))
      have hT1 := hide (Blk.new wr 65 (thirty 0))
      have hO1 := hide (OE.alloc hO.out (.cells (thirty 0) 65))
      rw [thirty_zero] at hB1 hT1 hO1
      go_upto_region 10 with (fail)
      rw [← thirty_zero] at hB1 hT1 hO1 ⊢
      generalize wr.alloc (.cells (thirty 0) 65) = wi at *
      obtain ⟨gd, hgd⟩ : ∃ gd, gd = wr.heap.size := ⟨_, rfl⟩
      rw [← hgd] at hT1 ⊢
      have hgdw : w.heap.size ≤ gd := by rw [hgd]; exact hbs
      have hg4d : g4 ≠ gd := by rw [hgd]; omega
      clear hgd hO hB
      go_wp2_with fail
      go_loopw [32] (fun v32 wx => ∃ j : Nat, v32 = .int .i64 j ∧ j ≤ 30 ∧ Hid (Blk wx gd 65 (thirty j)) ∧ Hid (ON wx w.heap.size (.slice (some ⟨g4, 0, none⟩) 288 k4) 288 fixedLits) ∧ Hid (Below w.heap.size w wx)) (fun v32 _ => 30 - (intOf v32).toNat)
      case atStart => exact ⟨0, rfl, Nat.zero_le _, hT1, hO1, hB1⟩
      case round =>
        clear hT1 hO1 hB1
        obtain ⟨j, rfl, hj30, hT, hO, hB⟩ := hrel
        by_cases hlt30 : j < 30
        · have cj : wr.cell? ⟨gd, j, none⟩ = some (.int .i64 0) := by
            rw [hT.out.cell, thirty_at j j (by omega) hlt30, if_neg (by omega)]; rfl
          have fj := hT.out.frozen j
          have hT2 : Hid (Blk (wr.setCell ⟨gd, j, none⟩ (.int .i64 5)) gd 65 (thirty (j + 1))) := by
            rw [← thirty_set j hlt30]; exact hT.out.set_ j _
          have hO2 : Hid (ON (wr.setCell ⟨gd, j, none⟩ (.int .i64 5)) w.heap.size (.slice (some ⟨g4, 0, none⟩) 288 k4) 288 fixedLits) := OE.other hO.out (p := ⟨gd, j, none⟩) (by intro e; injection e with e; exact hg4d e) _
          have hB2 : Hid (Below w.heap.size w (wr.setCell ⟨gd, j, none⟩ (.int .i64 5))) := hB.out.setCell (p := ⟨gd, j, none⟩) hgdw _
          have hji : (j : Int) < 30 := by omega
          have hji0 : (0 : Int) ≤ (j : Int) := by omega
          go_wp2_with fail
          go_roundw
          case rel => exact ⟨j + 1, by go_num, hlt30, hT2, hO2, hB2⟩
          case measure => simp [intOf]; omega
        · obtain rfl : j = 30 := by omega
          have hRNl : RN wr wr.heap.size (some ⟨g4, 0, none⟩) 288 fixedLits := by
            obtain ⟨A', c', e', hR', _⟩ := OE.reads hO.out
            cases e'
            exact hR'
          have hRNd : Hid (RN wr wr.heap.size (some ⟨gd, 0, none⟩) 30 fixedDist) := RN.of_blk (l := fixedDist) hT.out (by decide) hT.out.lt
          have hnew1 := new_any wr g4 0 288 k4 fixedLits hRNl (by omega) (by omega) lits_code
          have hW1 := hide (hW.out.below (Below.mono hB.out (Nat.le_refl _)))
          clear hRNl
          go_wp2_with fail
          refine hnew1.mono ?_
          rintro e w1 ⟨lc, rfl, hL1, hb1⟩
          clear hnew1
          have hB1 := hide (hB.out.trans (hb1.mono hB.out.size))
          have hRNd1 := ((hRNd.out.below hb1).more hb1.size)
          have hnew2 := new_any w1 gd 0 30 30 fixedDist hRNd1 (by omega) (by omega) dist_code
          replace hL1 := hide hL1
          clear hb1 hRNd1
          go_wp2_with fail
          refine hnew2.mono ?_
          rintro e w2 ⟨dc, rfl, hD2, hb2⟩
          clear hnew2
          have hB2 := hide (hB1.out.trans (hb2.mono hB1.out.size))
          have hL2 := hide ((CodeAt.below hL1.out hb2 (Nat.le_refl _)).more (Nat.zero_le _))
          have hD2' := hide (hD2.more (Nat.zero_le _))
          have hW2 := hide (hW.out.below hB2.out)
          clear hb2 hD2 hL1 hB1 hRNd hT hO hW1
          go_wp2_with fail
          refine (wbits_any w2 g [] 1 1 1 1 rfl rfl hW2.out (by omega) (by omega) (by simp)).mono ?_
          rintro e w3 ⟨rfl, hW3, hb3, hk3⟩
          replace hW3 := hide hW3
          replace hb3 := hide hb3
          replace hk3 := hide hk3
          go_wp2_with fail
          refine (wbits_any w3 g _ 2 1 2 1 rfl rfl hW3.out (by omega) (by omega) (by simp [loB_len])).mono ?_
          rintro e w4 ⟨rfl, hW4, hb4, hk4⟩
          have hb44 := hide ((hB2.out.mono (Nat.le_of_lt hgl)).trans (hb3.out.trans hb4))
          have hL4 := hide (hL2.out.keepX (hk3.out.trans hk4))
          have hD4 := hide (hD2'.out.keepX (hk3.out.trans hk4))
          have hrb4 : RB w4 w4.heap.size A n b := (hb.out.below hb44.out).more (by have := hb44.out.size; omega)
          have hit := items_any w4 A n c b hrb4 hn hnc
          have hlenb := hide hb.out.len
          replace hW4 := hide hW4
          have hk24 := hide (hk3.out.trans hk4)
          have hk02 := hide (KeepX.of_below hB2.out)
          clear hrb4 hb3 hb4 hk3 hk4 hW3 hW2 hL2 hD2' hB2
          go_wp2_with fail
          refine hit.mono ?_
          rintro e w5 ⟨A5, c5, rfl, hI5, hb5⟩
          clear hit
          have hW5 := hide (hW4.out.below hb5)
          have hL5 := hide (CodeAt.below hL4.out hb5 (Nat.le_refl _))
          have hD5 := hide (CodeAt.below hD4.out hb5 (Nat.le_refl _))
          have hk5 := hide (((hk02.out.trans hk24.out).trans (KeepX.of_below hb5)))
          have hb55 := hide (hb44.out.trans (hb5.mono (Nat.le_of_lt hW4.out.lt)))
          have hil : (itemsL b).length ≤ 1000000 := by
            have := items_len b
            have := hlenb.out
            omega
          have hwr := write_any w5 g lc dc 0 A5 (itemsL b).length c5 (loB 1 1 ++ loB 2 1) fixedLits fixedDist (itemsL b) (by simpa using hW5.out) hI5 (items_ok b _ _) hL5.out lits_code (by decide) hD5.out dist_code (by decide) hil (by simp [loB_len])
          clear hW5 hL5 hD5 hI5 hW4 hL4 hD4 hb5
          go_wp2_with fail
          refine hwr.mono ?_
          rintro e w6 ⟨rfl, hW6, hb6, hk6⟩
          replace hW6 := hide hW6
          have hb66 := hide (hb55.out.trans hb6)
          have hk66 := hide (hk5.out.trans hk6)
          clear hwr hb6 hk6
          go_wp2_with fail
          go_end0
          exact ⟨rfl, hW6.out, hb66.out, hk66.out⟩
end Go.Proofs.YtbchaomnjbkdhaaGreat
