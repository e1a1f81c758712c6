/-
  Contract of huff.tree: the heap of all symbols that come.
-/
import Derived.Test.YtbchaomnjbkdhaaGreatEHpW
import Derived.Test.YtbchaomnjbkdhaaGreatED
import Derived.Test.YtbchaomnjbkdhaaGreatESortMap
import Derived.Test.YtbchaomnjbkdhaaGreatShelf
import Derived.Test.YtbchaomnjbkdhaaGreatEA
import Derived.Lib.AppendZeros
namespace Go.Proofs.YtbchaomnjbkdhaaGreat
open Go.RowKit Go.Sort Go.Proofs
set_option linter.unusedVariables false
def cfH (x y : Hp × Nat) : Int := Lib.compareInt x.1.cnt y.1.cnt
theorem cfH_lt (x y : Hp × Nat) : Go.Proofs.ltOf cfH x y = ltH x.1 y.1 := by
  unfold Go.Proofs.ltOf cfH Lib.compareInt ltH
  by_cases h1 : x.1.cnt < y.1.cnt
  · rw [if_pos (by omega)]; simp [h1]
  · rw [if_neg (by omega)]
    split
    · simp [h1]
    · simp [h1]
theorem cfH_swo : SWO (Go.Proofs.ltOf cfH) := by
  have e : Go.Proofs.ltOf cfH = fun x y => ltH x.1 y.1 := by funext x y; exact cfH_lt x y
  rw [e]
  exact ⟨fun x => swoH.irrefl x.1, fun x y z => swoH.trans x.1 y.1 z.1, fun x y z => swoH.ntrans x.1 y.1 z.1⟩
theorem cmpc_any (w : World) (x y : Int) : Calls Tryz.prog 78 #[.int .i64 x, .int .i64 y] w fun e w' => e = .returned (.int .i64 (Lib.compareInt x y)) ∧ w = w' := (Tryz.cmp_Compare_int x y w).mono fun _ _ h => ⟨h.1, h.2.symm⟩
theorem lamH_any (w : World) (x y : Hp × Nat) (hx : HpAt w x.1 x.2) (hy : HpAt w y.1 y.2) :
    Calls Tryz.prog 77 #[encH x, encH y] w fun e w' => e = .returned (.int .i64 (cfH x y)) ∧ ∃ q, w' = w.drewN q := by
  obtain ⟨h, g⟩ := x
  obtain ⟨h', g'⟩ := y
  obtain ⟨_, _, _, hB⟩ := hx.blk
  obtain ⟨_, _, _, hB'⟩ := hy.blk
  have c0 := hB.cell 0
  have c0' := hB'.cell 0
  replace hB := hide hB
  replace hB' := hide hB'
  replace hx := hide hx
  replace hy := hide hy
  unfold encH
  go_enter Tryz.func77, Tryz.ntmps77
  go_wp2_with fail
  go_quiet (first | (go_at_call 78; exact quiet_left (cmpc_any _ _ _)))
  go_wp2_with fail
  go_ret
  exact ⟨rfl, _, rfl⟩
theorem cmpH_of {w : World} {blk : Nat} {cur : Array Value} (hb : Blk w blk 112 cur) (n off : Nat) : CmpH w blk off n (fun x => HpAt w x.1 x.2) cfH := by
  intro m dk hs x y hx hy
  have hk : KeepT 128 w ((putRow encH w blk off dk).drewN m) := (KeepT.put (KeepT.refl _ _) hb (by decide)).drewN m
  exact lamH_any _ x y (HpAt.keep hk hx) (HpAt.keep hk hy)
theorem leaves_snoc : ∀ (l : List Nat) (n s : Nat), leavesF (l ++ [n]) s = leavesF l s ++ if 0 < n then [.leaf n (s + l.length)] else []
  | [], n, s => by simp [leavesF]
  | a :: l, n, s => by
    rw [List.cons_append, leavesF, leavesF, leaves_snoc l n (s + 1)]
    split
    · simp only [List.cons_append, List.length_cons]
      rw [show s + 1 + l.length = s + (l.length + 1) by omega]
    · rw [List.length_cons, show s + 1 + l.length = s + (l.length + 1) by omega]
theorem hp_default : (default : Hp × Nat).1 = (default : Hp) := rfl
theorem sort_fst (l : List (Hp × Nat)) : (stableA (Go.Proofs.ltOf cfH) l.toArray).toList.map (·.1) = (stableA ltH (l.map (·.1)).toArray).toList := by
  have e : Go.Proofs.ltOf cfH = fun x y => ltH x.1 y.1 := by funext x y; exact cfH_lt x y
  have := stableA_map (fun x : Hp × Nat => x.1) ltH hp_default l.toArray
  rw [e, ← Array.toList_map, this]
  simp
theorem sort_pairs (l : List (Hp × Nat)) : (stableA (Go.Proofs.ltOf cfH) l.toArray).toList.Perm l := by
  obtain ⟨_, h2⟩ := stable_spec cfH_swo l.toArray
  have h3 := h2.2.2
  rw [show (stableA (Go.Proofs.ltOf cfH) l.toArray).extract 0 l.toArray.size = stableA (Go.Proofs.ltOf cfH) l.toArray from by rw [← h2.1]; exact Array.extract_size .., show l.toArray.extract 0 l.toArray.size = l.toArray from Array.extract_size ..] at h3
  simpa using h3
/-- What tree returns. -/
def TreeRet (w : World) (counts : List Nat) (e : Ending) (w' : World) : Prop :=
  (comeF counts 0 = [] ∧ e = .returned (.pointer none) ∨ comeF counts 0 ≠ [] ∧ ∃ g, e = .returned (.pointer (some ⟨g, 0, none⟩)) ∧ HpAt w' (treeOf counts) g) ∧ Below w.heap.size w w'
theorem leaves_come (counts : List Nat) : (leavesF counts 0 = []) ↔ comeF counts 0 = [] := by
  have := (leaves_len counts 0).1
  constructor
  · intro h; rw [h] at this; exact List.eq_nil_of_length_eq_zero this.symm
  · intro h; rw [h] at this; exact List.eq_nil_of_length_eq_zero this
theorem leaves_cnt : ∀ (l : List Nat) (s : Nat), ∀ h ∈ leavesF l s, ∃ k, h.cnt = l.getD k 0
  | [], s, h, hm => by cases hm
  | a :: l, s, h, hm => by
    rw [leavesF] at hm
    split at hm
    · rcases List.mem_cons.1 hm with rfl | hm
      · exact ⟨0, rfl⟩
      · obtain ⟨k, hk⟩ := leaves_cnt l (s + 1) h hm
        exact ⟨k + 1, by rw [hk]; rfl⟩
    · obtain ⟨k, hk⟩ := leaves_cnt l (s + 1) h hm
      exact ⟨k + 1, by rw [hk]; rfl⟩
def AllH (w : World) (l : List (Hp × Nat)) : Prop := ∀ x ∈ l, HpAt w x.1 x.2
theorem AllH.keep {w w' : World} {l : List (Hp × Nat)} (h : AllH w l) (hk : KeepT 128 w w') : AllH w' l := fun x hx => HpAt.keep hk (h x hx)
theorem AllH.snoc {w : World} {l : List (Hp × Nat)} (h : AllH w l) {x : Hp × Nat} (hx : HpAt w x.1 x.2) : AllH w (l ++ [x]) := by
  intro y hy
  rcases List.mem_append.1 hy with hy | hy
  · exact h y hy
  · obtain rfl : y = x := by simpa using hy
    exact hx
/-- The row of heaps in a round of the second loop. -/
def RowH (w0 w : World) (v : Value) (l : List (Hp × Nat)) : Prop :=
  ∃ g off cap, v = .slice (some ⟨g, off, none⟩) l.length cap ∧ RowAt encH 112 w w0.heap.size g off cap l ∧ AllH w l ∧ Below w0.heap.size w0 w
def lenV : Value → Nat
  | .slice _ n _ => n
  | _ => 0
set_option maxRecDepth 100000 in
set_option maxHeartbeats 4000000 in
theorem tree_any (w : World) (A : Option Addr) (n c : Nat) (counts : List Nat) (hr : RN w w.heap.size A n counts) (hn : n ≤ 320) (hc : ∀ k, counts.getD k 0 ≤ 1073741824) :
    Calls Tryz.prog 62 #[.slice A n c] w (TreeRet w counts) := by
  have hlen := hide hr.len
  replace hr := hide hr
  replace hc := hide hc
  go_enter Tryz.func62, Tryz.ntmps62
  go_wp2_with fail
  go_loopw [3, 8] (fun vl vs wr => ∃ (s : Nat) (l : List (Hp × Nat)), vs = .int .i64 s ∧ s ≤ n ∧ Hid (OE encH 112 wr w.heap.size vl l.length l) ∧ Hid (l.map (·.1) = leavesF (counts.take s) 0) ∧ Hid (AllH wr l) ∧ l.length ≤ s ∧ Hid (Below w.heap.size w wr)) (fun _ vs _ => n - (intOf vs).toNat)
  case atStart => exact ⟨0, [], rfl, Nat.zero_le _, OE.nil _ _, rfl, (fun x hx => by cases hx), Nat.le_refl _, Below.refl _ _⟩
  case round =>
    obtain ⟨s, l, rfl, hs, hO, hl, hA, hls, hB⟩ := hrel
    by_cases hlt : s < n
    · have hlt2 : s < counts.length := by have := hlen.out; omega
      obtain ⟨ad, rfl, hab, c0⟩ := (hr.out.below hB.out).elem hlt
      have hsn : Hid (leavesF (counts.take (s + 1)) 0 = leavesF (counts.take s) 0 ++ if 0 < counts.getD s 0 then [.leaf (counts.getD s 0) s] else []) := by
        rw [Hid, List.take_succ_eq_append_getElem hlt2, leaves_snoc, List.length_take, Nat.min_eq_left (by omega), List.getD_eq_getElem?_getD, List.getElem?_eq_getElem hlt2]
        simp
      have hcs := hc.out s
      obtain ⟨q, hq⟩ : ∃ q, q = counts.getD s 0 := ⟨_, rfl⟩
      rw [← hq] at hsn hcs c0
      clear hq
      by_cases h0 : 0 < q
      · have hsn2 : Hid (leavesF (counts.take (s + 1)) 0 = l.map (·.1) ++ [.leaf q s]) := by rw [Hid, hsn.out, if_pos h0, hl.out]
        clear hsn
        have hsa : (wr.alloc (.cells #[.int .i64 (q : Int), .int .i64 (s : Int), .pointer none, .pointer none] 128)).heap.size = wr.heap.size + 1 := by simp
        have hbz := hB.out.size
        go_wp2_with (at_builtin; refine wpList_app_p (.leaf q s, wr.heap.size) rfl (.tmp 15) (.tmp 20) rfl w.heap.size _ _ l (OE.alloc hO.out _) rfl 1 ?_ (by omega) (by rw [hsa]; omega) ?_; (rw [hsa]; rfl); intro v2 w2 ho2 hb2 hk2)
        have hnew : HpAt w2 (.leaf q s) wr.heap.size := hk2 _ _ (Blk.new _ _ _)
        have hA2 := hide ((hA.out.keep (((KeepT.refl _ _).alloc _).trans hk2)).snoc (x := (.leaf q s, wr.heap.size)) hnew)
        have hB2 := hide ((hB.out.alloc hbz _).trans hb2)
        replace ho2 := hide ho2
        clear hnew hk2 hb2 hA hB hO
        go_wp2_with fail
        go_roundw
        case rel => exact ⟨s + 1, l ++ [(.leaf q s, wr.heap.size)], by go_num, hlt, by rw [Hid, List.length_append]; exact ho2.out, by rw [Hid, hsn2.out, List.map_append]; rfl, hA2, by simp; omega, hB2⟩
        case measure => simp [intOf]; omega
      · have hsn2 : Hid (l.map (·.1) = leavesF (counts.take (s + 1)) 0) := by rw [Hid, hsn.out, if_neg h0, List.append_nil, hl.out]
        clear hsn
        obtain rfl : q = 0 := by omega
        go_wp2_with fail
        go_roundw
        case rel => exact ⟨s + 1, l, by go_num, hlt, hO, hsn2, hA, by omega, hB⟩
        case measure => simp [intOf]; omega
    · obtain rfl : s = n := by omega
      have hl2 : Hid (l.map (·.1) = leavesF counts 0) := by rw [Hid, hl.out, List.take_of_length_le (by have := hlen.out; omega)]
      clear hl
      have hll : Hid (l.length = (leavesF counts 0).length) := by rw [Hid, ← hl2.out, List.length_map]
      rcases (hO.out).parts with ⟨rfl, hl0, rfl⟩ | ⟨g, cap, rfl, hbg, hlc, hcm⟩
      · have hnil : Hid (comeF counts 0 = []) := (leaves_come counts).1 hl2.out.symm
        clear hl2 hll hO
        go_wp2_with fail
        go_ret
        exact ⟨.inl ⟨hnil.out, rfl⟩, hB.out⟩
      · by_cases h0 : l.length = 0
        · have hnil : Hid (comeF counts 0 = []) := (leaves_come counts).1 (List.eq_nil_of_length_eq_zero (by rw [← hll.out]; exact h0))
          clear hll
          go_wp2_with fail
          go_ret
          exact ⟨.inl ⟨hnil.out, rfl⟩, hB.out⟩
        · have hsome : Hid (comeF counts 0 ≠ []) := fun e => h0 (by rw [hll.out, (leaves_come counts).2 e]; rfl)
          have hn0 : ((l.length : Int) == 0) = false := by rw [beq_eq_false_iff_ne]; omega
          have hst : Hid (RowH w wr (.slice (some ⟨g, 0, none⟩) l.length cap) l) := ⟨g, 0, cap, rfl, RowAt.of_own hO.out, hA.out, hB.out⟩
          have hl320 : l.length ≤ 320 := by omega
          have hf0 : Hid (l.length ≤ counts.length + 1) := by rw [Hid, hlen.out]; omega
          have htr : Hid (treeF counts.length (l.map (·.1)) = treeOf counts) := by rw [Hid, hl2.out, treeOf]
          obtain ⟨f0, hf00⟩ : ∃ f0, f0 = counts.length := ⟨_, rfl⟩
          rw [← hf00] at hf0 htr
          have hcn : Hid (∀ x ∈ l, x.1.cnt ≤ 1099511627776) := by
            intro x hx
            have hm : x.1 ∈ leavesF counts 0 := by rw [← hl2.out]; exact List.mem_map_of_mem hx
            obtain ⟨k, hk⟩ := leaves_cnt counts 0 x.1 hm
            have := hc.out k
            rw [hk]; omega
          obtain ⟨v0, hv0⟩ : ∃ v0, v0 = Value.slice (some ⟨g, 0, none⟩) l.length cap := ⟨_, rfl⟩
          rw [← hv0] at hst
          obtain ⟨N, hN⟩ : ∃ N, N = l.length := ⟨_, rfl⟩
          have hNl : Hid (l.length = N) := hN.symm
          rw [← hN] at hn0 hl320 h0 hv0 hf0 ⊢
          clear hN hlc hO hA hB hl2 hll hls
          replace hv0 := hide hv0
          go_wp2_with fail
          obtain ⟨wa, hwa⟩ : ∃ wa, wa = wr := ⟨_, rfl⟩
          rw [← hwa] at hst ⊢
          clear hwa hf00
          go_loopw [3] (fun v wx => ∃ (f : Nat) (l : List (Hp × Nat)), Hid (RowH w wx v l) ∧ 1 ≤ l.length ∧ l.length ≤ f + 1 ∧ l.length ≤ 320 ∧ Hid (∀ x ∈ l, x.1.cnt ≤ 1099511627776) ∧ Hid (treeF f (l.map (·.1)) = treeOf counts)) (fun v _ => lenV v)
          case atStart => exact ⟨f0, l, by rw [← hv0.out]; exact hst, by rw [hNl.out]; omega, by rw [hNl.out]; exact hf0.out, by rw [hNl.out]; exact hl320, hcn, htr⟩
          case round =>
            obtain ⟨f, l, hst, hl1, hlf, hl320, hcn, htr⟩ := hrel
            clear hNl hn0 h0 hf0 hv0
            obtain ⟨g, off, cap, rfl, hR, hA, hB⟩ := hst.out
            by_cases hlt : 1 < l.length
            · have hbl := hR.blk
              obtain ⟨cur, hbl⟩ := hbl
              have hsrt := hide (sort_fst l)
              have hprm := hide (sort_pairs l)
              have hCm := cmpH_of hbl l.toArray.size off
              have hPl : AllP (fun x : Hp × Nat => HpAt wr x.1 x.2) l.toArray := by
                intro j hj
                rw [getElem!_pos _ j hj]
                exact hA _ (by simp)
              have hsort := sortH_any wr g off cap l.length (fun x => HpAt wr x.1 x.2) cfH cfH_swo l.toArray (by simp) hCm hPl hR.holds (by simp; omega)
              clear hCm hPl
              replace hst := hide hst
              replace hbl := hide hbl
              replace hR := hide hR
              replace hA := hide hA
              replace hB := hide hB
              go_wp2_with fail
              refine hsort.mono ?_
              rintro e w2 ⟨rfl, q2, hw2⟩
              clear hsort
              obtain ⟨d2, hd2⟩ : ∃ d2, d2 = stableA (Go.Proofs.ltOf cfH) l.toArray := ⟨_, rfl⟩
              rw [← hd2] at hw2 hsrt hprm
              clear hd2
              have hsz : d2.size = l.length := by have := hprm.out.length_eq; simpa using this
              have hK2 : KeepT 128 wr w2 := by rw [hw2]; exact (KeepT.put (KeepT.refl _ _) hbl.out (by decide)).drewN _
              have hR2 : RowAt encH 112 w2 w.heap.size g off cap d2.toList := by rw [hw2]; exact (hR.out.put d2 hsz).drewN _
              have hB2 : Below w.heap.size w w2 := by rw [hw2]; exact below_drewN (below_put hB.out hR.out.1) _
              have hA2 : AllH w2 d2.toList := fun x hx => HpAt.keep hK2 (hA.out x (hprm.out.mem_iff.1 hx))
              have hcn2 : ∀ x ∈ d2.toList, x.1.cnt ≤ 1099511627776 := fun x hx => hcn.out x (hprm.out.mem_iff.1 hx)
              have htr2 : Hid (treeF f (l.map (·.1)) = treeOf counts) := htr
              obtain ⟨f, rfl⟩ : ∃ e, f = e + 1 := ⟨f - 1, by omega⟩
              have hstep : treeF (f + 1) (l.map (·.1)) = treeF f ((d2.toList.map (·.1)).drop 2 ++ [.node (min ((d2.toList.map (·.1))[0]!.cnt + (d2.toList.map (·.1))[1]!.cnt) (2 ^ 40)) (d2.toList.map (·.1))[0]! (d2.toList.map (·.1))[1]!]) := by
                rw [treeF, if_pos (by simpa using hlt), hsrt.out]
                simp only [Array.getElem!_toList]
              obtain ⟨D, hD⟩ : ∃ D, D = d2.toList := ⟨_, rfl⟩
              have hDl : D.length = l.length := by rw [hD]; simpa using hsz
              rw [← hD] at hstep hR2 hA2 hcn2
              clear hw2 hsrt hprm hK2 hR hA hB hst hbl hD hsz
              obtain ⟨x, y, r, rfl⟩ : ∃ x y r, D = x :: y :: r := by
                match D, hDl with
                | x :: y :: r, _ => exact ⟨x, y, r, rfl⟩
                | [], hDl => simp at hDl; omega
                | [_], hDl => simp at hDl; omega
              have cx : w2.cell? ⟨g, off, none⟩ = some (encH x) := hR2.cell (j := 0) (by simp)
              have cy : w2.cell? ⟨g, off + 1, none⟩ = some (encH y) := hR2.cell (j := 1) (by simp)
              obtain ⟨x, gx⟩ := x
              obtain ⟨y, gy⟩ := y
              obtain ⟨_, _, _, hBx⟩ := (hA2 _ (.head _)).blk
              obtain ⟨_, _, _, hBy⟩ := (hA2 _ (.tail _ (.head _))).blk
              have kx : w2.cell? ⟨gx, 0, none⟩ = some (.int .i64 (x.cnt : Int)) := hBx.cell 0
              have ky : w2.cell? ⟨gy, 0, none⟩ = some (.int .i64 (y.cnt : Int)) := hBy.cell 0
              have hcx : x.cnt ≤ 1099511627776 := hcn2 _ (.head _)
              have hcy : y.cnt ≤ 1099511627776 := hcn2 _ (.tail _ (.head _))
              simp only [List.length_cons] at hDl
              have hR3 := hide (hR2.cut 2 (by simp))
              replace hR2 := hide hR2
              replace hA2 := hide hA2
              replace hcn2 := hide hcn2
              replace hB2 := hide hB2
              replace hstep := hide hstep
              unfold encH at cx cy
              dsimp only at cx cy
              clear hBx hBy
              have hmin : min ((x.cnt : Int) + (y.cnt : Int)) 1099511627776 = ((min (x.cnt + y.cnt) (2 ^ 40) : Nat) : Int) := by
                have e40 : (2 : Nat) ^ 40 = 1099511627776 := by decide
                rw [e40]; omega
              have hR4 := hR3.out
              rw [List.drop_succ_cons, List.drop_succ_cons, List.drop_zero] at hR4
              have hbs : w.heap.size ≤ w2.heap.size := hB2.out.size
              obtain ⟨M, hM⟩ : ∃ M, M = min (x.cnt + y.cnt) (2 ^ 40) := ⟨_, rfl⟩
              rw [← hM] at hmin
              replace hM := hide hM
              have hbz1 : ((w2.alloc (.cells #[.int .i64 (M : Int), .int .i64 0, .pointer (some ⟨gx, 0, none⟩), .pointer (some ⟨gy, 0, none⟩)] 128)).drew).heap.size = w2.heap.size + 1 := by simp
              obtain ⟨g', off', cap', w3, hrun, hR5, hK5, hB5, hC5⟩ := run_app_h (w := (w2.alloc (.cells #[.int .i64 (M : Int), .int .i64 0, .pointer (some ⟨gx, 0, none⟩), .pointer (some ⟨gy, 0, none⟩)] 128)).drew) (t := 112) (.node M x y, w2.heap.size) w.heap.size g _ _ r.length r ((hR4.alloc _).drewN 1) rfl 1 (by omega) (by rw [hbz1]; omega) 126
              rw [hbz1] at hrun
              clear hbz1
              replace hR4 := hide hR4
              have hlr : l.length - 2 = r.length := by omega
              unfold encH at hrun
              dsimp only at hrun
              replace hR5 := hide hR5
              replace hK5 := hide hK5
              replace hB5 := hide hB5
              replace hC5 := hide hC5
              have hcl : l.length ≤ cap := by have := hR2.out.2.1; simp only [List.length_cons] at this; omega
              have hl2 : (2 : Int) ≤ (l.length : Int) := by omega
              have hlc : (l.length : Int) ≤ (cap : Int) := by omega
              have hwx : IntKind.i64.wrap ((x.cnt : Int) + (y.cnt : Int)) = (x.cnt : Int) + (y.cnt : Int) := IntWalk.i64_in _ (by omega)
              have hlt2 : g < w2.heap.size := hR2.out.lt
              have hkeep : Hid (∀ wz, Below w2.heap.size w2 wz → wz.cell? ⟨g, off, none⟩ = some (.pointer (some ⟨gx, 0, none⟩)) ∧ wz.cell? ⟨g, off + 1, none⟩ = some (.pointer (some ⟨gy, 0, none⟩)) ∧ wz.cell? ⟨gx, 0, none⟩ = some (.int .i64 (x.cnt : Int)) ∧ wz.cell? ⟨gy, 0, none⟩ = some (.int .i64 (y.cnt : Int))) := by
                intro wz hz
                refine ⟨(hz.cell (p := ⟨g, off, none⟩) hlt2).trans cx, (hz.cell (p := ⟨g, off + 1, none⟩) hlt2).trans cy, (hz.cell (p := ⟨gx, 0, none⟩) (hA2.out _ (.head _)).lt).trans kx, (hz.cell (p := ⟨gy, 0, none⟩) (hA2.out _ (.tail _ (.head _))).lt).trans ky⟩
              have hrel3 : Hid (∃ (f : Nat) (l : List (Hp × Nat)), Hid (RowH w w3 (.slice (some ⟨g', off', none⟩) (r.length + 1) cap') l) ∧ 1 ≤ l.length ∧ l.length ≤ f + 1 ∧ l.length ≤ 320 ∧ Hid (∀ x ∈ l, x.1.cnt ≤ 1099511627776) ∧ Hid (treeF f (l.map (·.1)) = treeOf counts)) := by
                have hkx : KeepT 128 w2 w3 := ((KeepT.refl _ _).alloc _).trans hK5.out
                refine ⟨f, r ++ [(.node M x y, w2.heap.size)], ⟨g', off', cap', by simp, hR5.out, AllH.snoc (fun z hz => HpAt.keep hkx (hA2.out z (.tail _ (.tail _ hz)))) (show HpAt w3 (.node M x y) w2.heap.size from ⟨gx, gy, hK5.out _ _ (Blk.drew (Blk.new _ _ _)), HpAt.keep hkx (hA2.out _ (.head _)), HpAt.keep hkx (hA2.out _ (.tail _ (.head _)))⟩), ?_⟩, by simp, by simp; omega, by simp; omega, ?_, ?_⟩
                · exact ((hB2.out.alloc hbs _).drew).trans hB5.out
                · intro z hz
                  rcases List.mem_append.1 hz with hz | hz
                  · exact hcn2.out z (.tail _ (.tail _ hz))
                  · obtain rfl : z = _ := List.mem_singleton.1 hz
                    have e40 : (2 : Nat) ^ 40 = 1099511627776 := by decide
                    show M ≤ _
                    rw [hM.out, e40]; omega
                · rw [Hid, ← htr2.out, hstep.out, hM.out]
                  congr 1
                  simp
              obtain ⟨L, hL⟩ : ∃ L, L = l.length := ⟨_, rfl⟩
              have hL0 : 0 < L := by omega
              rw [← hL] at hDl hlr hcl hl2 hlc ⊢
              have h1l : (1 : Int) < (L : Int) := by omega
              replace hL := hide hL
              clear hlt hl1
              by_cases hc2 : cap = 2
              · subst hc2
                rw [if_pos rfl] at hrun
                have hrun2 : (Builtin.append_ #[126, 126] 126 #[.slice (some ⟨g, off, none⟩) r.length 0, .slice (some ⟨w2.heap.size + 1, 0, none⟩) 1 1]).run Tryz.prog (((w2.alloc (.cells #[.int .i64 (M : Int), .int .i64 0, .pointer (some ⟨gx, 0, none⟩), .pointer (some ⟨gy, 0, none⟩)] 128)).alloc (.cells #[.pointer (some ⟨w2.heap.size, 0, none⟩)] 112)).drew) = .ok (.slice (some ⟨g', off', none⟩) (r.length + 1) cap') w3 := hrun
                clear hrun
                have hkeep3 : Hid (w3.cell? ⟨g, off, none⟩ = some (.pointer (some ⟨gx, 0, none⟩)) ∧ w3.cell? ⟨g, off + 1, none⟩ = some (.pointer (some ⟨gy, 0, none⟩)) ∧ w3.cell? ⟨gx, 0, none⟩ = some (.int .i64 (x.cnt : Int)) ∧ w3.cell? ⟨gy, 0, none⟩ = some (.int .i64 (y.cnt : Int))) := by
                  have hz := hkeep.out _ (((Below.refl _ _).alloc (Nat.le_refl _) (.cells #[.int .i64 (M : Int), .int .i64 0, .pointer (some ⟨gx, 0, none⟩), .pointer (some ⟨gy, 0, none⟩)] 128)).drew)
                  have hlx := (hA2.out _ (.head _)).lt
                  have hly := (hA2.out _ (.tail _ (.head _))).lt
                  have hbx : gx ≠ g := by
                    obtain ⟨_, _, _, hBx⟩ := (hA2.out _ (.head _)).blk
                    obtain ⟨_, hcur⟩ := hR2.out.blk
                    exact Blk.ne_ hBx hcur (by decide)
                  have hby : gy ≠ g := by
                    obtain ⟨_, _, _, hBy⟩ := (hA2.out _ (.tail _ (.head _))).blk
                    obtain ⟨_, hcur⟩ := hR2.out.blk
                    exact Blk.ne_ hBy hcur (by decide)
                  exact ⟨(hC5.out g off (by simp; omega) (by omega)).trans hz.1, (hC5.out g (off + 1) (by simp; omega) (by omega)).trans hz.2.1, (hC5.out gx 0 (by simp; omega) (.inl hbx)).trans hz.2.2.1, (hC5.out gy 0 (by simp; omega) (.inl hby)).trans hz.2.2.2⟩
                go_upto_region 12 with (fail)
                go_region_held3 (fun w' => w'.cell? ⟨g, off, none⟩ = some (.pointer (some ⟨gx, 0, none⟩)) ∧ w'.cell? ⟨g, off + 1, none⟩ = some (.pointer (some ⟨gy, 0, none⟩)) ∧ w'.cell? ⟨gx, 0, none⟩ = some (.int .i64 (x.cnt : Int)) ∧ w'.cell? ⟨gy, 0, none⟩ = some (.int .i64 (y.cnt : Int))) (first | exact ⟨by assumption, by assumption, by assumption, by assumption⟩ | exact hkeep.out _ (((Below.refl _ _).alloc (Nat.le_refl _) _).drew) | exact hkeep.out _ ((((Below.refl _ _).alloc (Nat.le_refl _) _).alloc (by simp) _).drew) | exact hkeep3.out) ((rw [if_pos (by rfl)]; refine Lib.wp_append_run _ (.tmp 32) (.tmp 55) 126 126 rfl _ _ rfl rfl _ _ hrun2 ?_))
                go_wp2_with fail
                go_roundw
                case rel => exact hrel3.out
                case measure => have := hL.out; simp only [lenV]; omega
              · rw [if_neg hc2] at hrun hC5
                have hci : ((cap : Int) == 2) = false := by rw [beq_eq_false_iff_ne]; omega
                have hrun2 : (Builtin.append_ #[126, 126] 126 #[.slice (some ⟨g, off + 2, none⟩) r.length (cap - 2), .slice (some ⟨w2.heap.size + 1, 0, none⟩) 1 1]).run Tryz.prog (((w2.alloc (.cells #[.int .i64 (M : Int), .int .i64 0, .pointer (some ⟨gx, 0, none⟩), .pointer (some ⟨gy, 0, none⟩)] 128)).alloc (.cells #[.pointer (some ⟨w2.heap.size, 0, none⟩)] 112)).drew) = .ok (.slice (some ⟨g', off', none⟩) (r.length + 1) cap') w3 := hrun
                clear hrun
                have hkeep3 : Hid (w3.cell? ⟨g, off, none⟩ = some (.pointer (some ⟨gx, 0, none⟩)) ∧ w3.cell? ⟨g, off + 1, none⟩ = some (.pointer (some ⟨gy, 0, none⟩)) ∧ w3.cell? ⟨gx, 0, none⟩ = some (.int .i64 (x.cnt : Int)) ∧ w3.cell? ⟨gy, 0, none⟩ = some (.int .i64 (y.cnt : Int))) := by
                  have hz := hkeep.out _ (((Below.refl _ _).alloc (Nat.le_refl _) (.cells #[.int .i64 (M : Int), .int .i64 0, .pointer (some ⟨gx, 0, none⟩), .pointer (some ⟨gy, 0, none⟩)] 128)).drew)
                  have hlx := (hA2.out _ (.head _)).lt
                  have hly := (hA2.out _ (.tail _ (.head _))).lt
                  have hbx : gx ≠ g := by
                    obtain ⟨_, _, _, hBx⟩ := (hA2.out _ (.head _)).blk
                    obtain ⟨_, hcur⟩ := hR2.out.blk
                    exact Blk.ne_ hBx hcur (by decide)
                  have hby : gy ≠ g := by
                    obtain ⟨_, _, _, hBy⟩ := (hA2.out _ (.tail _ (.head _))).blk
                    obtain ⟨_, hcur⟩ := hR2.out.blk
                    exact Blk.ne_ hBy hcur (by decide)
                  exact ⟨(hC5.out g off (by simp; omega) (by omega)).trans hz.1, (hC5.out g (off + 1) (by simp; omega) (by omega)).trans hz.2.1, (hC5.out gx 0 (by simp; omega) (.inl hbx)).trans hz.2.2.1, (hC5.out gy 0 (by simp; omega) (.inl hby)).trans hz.2.2.2⟩
                go_upto_region 12 with (fail)
                go_region_held3 (fun w' => w'.cell? ⟨g, off, none⟩ = some (.pointer (some ⟨gx, 0, none⟩)) ∧ w'.cell? ⟨g, off + 1, none⟩ = some (.pointer (some ⟨gy, 0, none⟩)) ∧ w'.cell? ⟨gx, 0, none⟩ = some (.int .i64 (x.cnt : Int)) ∧ w'.cell? ⟨gy, 0, none⟩ = some (.int .i64 (y.cnt : Int))) (first | exact ⟨by assumption, by assumption, by assumption, by assumption⟩ | exact hkeep.out _ (((Below.refl _ _).alloc (Nat.le_refl _) _).drew) | exact hkeep.out _ ((((Below.refl _ _).alloc (Nat.le_refl _) _).alloc (by simp) _).drew) | exact hkeep3.out) ((rw [if_pos (by rfl)]; refine Lib.wp_append_run _ (.tmp 32) (.tmp 55) 126 126 rfl _ _ rfl rfl _ _ hrun2 ?_))
                go_wp2_with fail
                go_roundw
                case rel => exact hrel3.out
                case measure => have := hL.out; simp only [lenV]; omega
            · obtain ⟨⟨x, gx⟩, rfl⟩ : ∃ x, l = [x] := by
                match l, hl1, hlt with
                | [x], _, _ => exact ⟨x, rfl⟩
                | _ :: _ :: _, _, hlt => simp at hlt
              have cx : wr.cell? ⟨g, off, none⟩ = some (encH (x, gx)) := hR.cell (j := 0) (by simp)
              have hx := hide (hA _ (.head _))
              have hx2 : Hid (x = treeOf counts) := by
                rw [Hid, ← htr.out]
                cases f <;> simp [treeF]
              unfold encH at cx
              dsimp only at cx
              replace hst := hide hst
              replace hR := hide hR
              replace hA := hide hA
              replace hB := hide hB
              simp only [List.length_singleton]
              go_wp2_with fail
              go_ret
              refine ⟨.inr ⟨hsome.out, gx, rfl, ?_⟩, hB.out⟩
              have := hx.out
              rw [← hx2.out]; exact this
end Go.Proofs.YtbchaomnjbkdhaaGreat
