/-
  Contract of slices.Insert of one cell into a row of cells of the call's own.
-/
import Derived.Test.YthohbbaglceppaaGreatDoorUNodeD
import Derived.Shelf.Spec.SlicesInsert
import Derived.Shelf.Spec.SlicesInsertGrow
import Derived.Lib.AppendZerosOnto
namespace Go.Proofs.YthohbbaglceppaaGreatDoor
open Go.RowKit
set_option linter.unusedVariables false
/-- A copy of cells onto a row. -/
theorem run_copy_row4 (w : World) (ty : TypeId) (g off dLen dCap : Nat) (ad : Addr) (sLen sCap : Nat) (cur : Array Value) (cs : List Value) (hg : w.heap[g]? = some (.cells cur 95 (0, 0))) (hn : cs.length = (Nat.min sLen dLen) * 4)
    (hsrc : ∀ j v, cs[j]? = some v → w.cell? (ad.add j) = some v) (hfit : off + cs.length ≤ cur.size) (h1 : ∀ v ∈ cs, v.oneCell' = true) :
    (Builtin.copy_ #[99, 99] ty #[.slice (some ⟨g, off, none⟩) dLen dCap, .slice (some ad) sLen sCap]).run Tryz.prog w = .ok (goInt (Nat.min sLen dLen)) (w.setRow g (cur.toList.take off ++ (cs ++ cur.toList.drop (off + cs.length))).toArray) := by
  obtain ⟨i0, hi0, hz0, hz1, hz2⟩ := info_parts cell_info
  have hl := run_loadCells_list (P := Tryz.prog) w ad cs hsrc
  have hst := run_storeCells_at Tryz.prog g off 95 cs 0 cur w hg (by simpa using hfit) h1
  simp only [Nat.add_zero] at hst
  rw [hn] at hl
  simp [Builtin.copy_, run_underlying Tryz.underlying99, Builtin.lenOf, Builtin.firstCells, sizeOf, typeInfo, hi0, hz1, hl, hst, List.append_assoc]
/-- One more among them. -/
def insCells (xs : List Value) (i : Nat) (vs : List Value) : List Value := xs.take (i * 4) ++ (vs ++ xs.drop (i * 4))
/-- What Insert leaves. -/
def InsRet (w : World) (base : Nat) (row : Option Nat) (n : Nat) (ys : List Value) (e : Ending) (w' : World) : Prop :=
  ∃ v', e = .returned v' ∧ w'.ownsRow base 95 4 v' (n + 1) ys ∧ w.grownBy w' row
theorem ins_lists (T xs vs : List Value) (n i : Nat) (hT : T.take (n * 4) = xs) (hl : (n + 1) * 4 ≤ T.length) (hi : i < n) (hv : vs.length = 4) :
    (((T.take ((i + 1) * 4) ++ (xs.drop (i * 4) ++ T.drop ((i + 1) * 4 + (xs.drop (i * 4)).length))).take (i * 4) ++ (vs ++ (T.take ((i + 1) * 4) ++ (xs.drop (i * 4) ++ T.drop ((i + 1) * 4 + (xs.drop (i * 4)).length))).drop (i * 4 + 4)))).take ((n + 1) * 4) = xs.take (i * 4) ++ (vs ++ xs.drop (i * 4)) := by
  have hxl : xs.length = n * 4 := by rw [← hT, List.length_take]; omega
  have e1 : (T.take ((i + 1) * 4) ++ (xs.drop (i * 4) ++ T.drop ((i + 1) * 4 + (xs.drop (i * 4)).length))).take (i * 4) = xs.take (i * 4) := by
    rw [List.take_append_of_le_length (by rw [List.length_take]; omega), List.take_take, Nat.min_eq_left (by omega), ← hT, List.take_take, Nat.min_eq_left (by omega)]
  have e2 : (T.take ((i + 1) * 4) ++ (xs.drop (i * 4) ++ T.drop ((i + 1) * 4 + (xs.drop (i * 4)).length))).drop (i * 4 + 4) = xs.drop (i * 4) ++ T.drop ((i + 1) * 4 + (xs.drop (i * 4)).length) := by
    rw [show i * 4 + 4 = (T.take ((i + 1) * 4)).length from by rw [List.length_take]; omega, List.drop_left]
  rw [e1, e2, ← List.append_assoc, ← List.append_assoc, List.append_assoc (xs.take (i * 4)) vs]
  rw [List.take_append_of_le_length (by simp only [List.length_append, List.length_take, List.length_drop, hv, hxl]; omega)]
  exact List.take_of_length_le (by simp only [List.length_append, List.length_take, List.length_drop, hv, hxl]; omega)
set_option maxRecDepth 100000 in
set_option maxHeartbeats 1000000 in
theorem ins_end (w : World) (base : Nat) (v : Value) (n : Nat) (xs : List Value) (hown : w.ownsRow base 95 4 v n xs) (g : Nat) (x0 x1 x2 x3 : Value) (h1 : ∀ u ∈ [x0, x1, x2, x3], u.oneCell' = true) (hb : Blk w g 95 #[x0, x1, x2, x3]) (hn : n ≤ 100000) (hbase : base ≤ w.heap.size) :
    Calls Tryz.prog 53 #[v, .int .i64 (n : Int), .slice (some ⟨g, 0, none⟩) 1 1] w (InsRet w base v.ownBlock n (xs ++ [x0, x1, x2, x3])) := by
  obtain ⟨v', w', hrun, h2, h3, _⟩ := run_app_cell w base v n xs hown g x0 x1 x2 x3 h1 hb 99 (by omega) hbase
  have hsl : ∃ A c, v = .slice A n c ∧ n ≤ c := by
    rcases hown.2 with ⟨rfl, rfl⟩ | ⟨g, cap, cur, rfl, _, _, h3, _⟩
    · exact ⟨none, 0, rfl, Nat.le_refl _⟩
    · exact ⟨_, _, rfl, h3⟩
  obtain ⟨A, c, rfl, hc⟩ := hsl
  have hnI : (n : Int) ≤ (c : Int) := by omega
  obtain ⟨row, hrow⟩ : ∃ row, row = (Value.slice A n c).ownBlock := ⟨_, rfl⟩
  rw [← hrow] at h3 ⊢
  replace hrow := hide hrow
  replace hown := hide hown
  replace hb := hide hb
  replace h2 := hide h2
  replace h3 := hide h3
  clear h1
  go_enter Tryz.func53, Tryz.ntmps53
  go_wp2_with (at_builtin; refine Lib.wpList_append_run _ rfl (.tmp 23) (.tmp 24) 99 99 rfl _ _ rfl rfl _ _ hrun ?_)
  all_goals
    go_ret
    exact ⟨v', rfl, h2.out, h3.out⟩
set_option maxRecDepth 100000 in
set_option maxHeartbeats 8000000 in
theorem ins_room (w : World) (base g0 cap : Nat) (n i : Nat) (xs : List Value) (cur : Array Value) (hg0 : base ≤ g0) (hrow : w.heap[g0]? = some (.cells cur 95 (0, 0))) (hcs : cur.size = cap * 4) (hxs : xs.length = n * 4) (hti : cur.toList.take (n * 4) = xs) (hi : i < n) (hroom : n + 1 ≤ cap) (hcm : cap ≤ maxLen)
    (g : Nat) (hne : g ≠ g0) (x0 x1 x2 x3 : Value) (h1 : ∀ u ∈ [x0, x1, x2, x3], u.oneCell' = true) (h1x : ∀ u ∈ xs, u.oneCell' = true) (hb : Blk w g 95 #[x0, x1, x2, x3]) (hn : n ≤ 100000) :
    Calls Tryz.prog 53 #[.slice (some ⟨g0, 0, none⟩) n cap, .int .i64 (i : Int), .slice (some ⟨g, 0, none⟩) 1 1] w (InsRet w base (some g0) n (insCells xs i [x0, x1, x2, x3])) := by
  have hne2 : ((i : Int) == (n : Int)) = false := by rw [beq_eq_false_iff_ne]; omega
  have hiI : (i : Int) ≤ (n : Int) := by omega
  have hnc : (n : Int) ≤ (cap : Int) := by omega
  have hr1 : (n : Int) + 1 ≤ (cap : Int) := by omega
  have hn6 : (n : Int) ≤ 100000 := by omega
  obtain ⟨N1, hN1⟩ : ∃ N1, N1 = n + 1 := ⟨_, rfl⟩
  have hNI : (n : Int) + 1 = (N1 : Int) := by omega
  have hNc : (N1 : Int) ≤ (cap : Int) := by omega
  have hND : decide ((cap : Int) < (N1 : Int)) = false := by rw [decide_eq_false_iff_not]; omega
  have hNW : IntKind.i64.wrap (N1 : Int) = (N1 : Int) := IntWalk.i64_in _ (by omega)
  have hiN : (i : Int) ≤ (N1 : Int) := by omega
  obtain ⟨J, hJ⟩ : ∃ J, J = i + 1 := ⟨_, rfl⟩
  have hJI : (i : Int) + 1 = (J : Int) := by omega
  have hJW : IntKind.i64.wrap (J : Int) = (J : Int) := IntWalk.i64_in _ (by omega)
  have hJN : (J : Int) ≤ (N1 : Int) := by omega
  have hov : (callFunc 93 #[.slice (some ⟨g, 0, none⟩) 1 1, .slice (some ⟨g0, J * 4, none⟩) (N1 - J) (cap - J)]).run Tryz.prog w = .ok (.value (.bool false)) w := by
    rw [run_callFunc_extern (P := Tryz.prog) (f := 93) Tryz.func93 (by kernel_rfl) (by kernel_rfl) (by kernel_rfl) (e := Extern.SlicesOverlaps.overlaps #[99, 99] #[4]) (by kernel_rfl),
      Lib.run_overlaps_apart w 99 4 95 Tryz.underlying99 4 Tryz.sizeOf95 ⟨g, 0, none⟩ ⟨g0, J * 4, none⟩ 1 1 (N1 - J) (cap - J) hne 95 95 4 cur.size (by unfold Blk at hb; simp [World.shape?, hb]) (by simp [World.shape?, hrow]) (by omega) (hb.frozen 0) (hb.frozen 4)]
    rfl
  have hdl : (xs.drop (i * 4)).length = (n - i) * 4 := by rw [List.length_drop, hxs]; omega
  have hmin : Nat.min (N1 - i) (N1 - J) = n - i := by show min (N1 - i) (N1 - J) = n - i; omega
  obtain ⟨C1, hC1⟩ : ∃ C1, C1 = (cur.toList.take (J * 4) ++ (xs.drop (i * 4) ++ cur.toList.drop (J * 4 + (xs.drop (i * 4)).length))).toArray := ⟨_, rfl⟩
  have hcp1 := run_copy_row4 w.drew 3 g0 (J * 4) (N1 - J) (cap - J) ⟨g0, i * 4, none⟩ (N1 - i) (cap - i) cur (xs.drop (i * 4)) hrow (by rw [hmin, hdl]) (fun j v hj => by
    rw [Addr.add_lit]
    have h2 : w.cell? ⟨g0, i * 4 + j, none⟩ = cur[i * 4 + j]? := (show Blk w g0 95 cur from hrow).cell _
    have h3 : w.drew.cell? ⟨g0, i * 4 + j, none⟩ = w.cell? ⟨g0, i * 4 + j, none⟩ := rfl
    rw [h3, h2]
    have hj2 := (List.getElem?_eq_some_iff.1 hj).1
    rw [List.getElem?_drop, ← hti, List.getElem?_take, if_pos (by rw [hdl] at hj2; omega)] at hj
    simpa using hj) (by rw [hdl, hcs]; omega) (fun v hv => h1x v (List.mem_of_mem_drop hv))
  rw [← hC1, hmin] at hcp1
  have hC1s : C1.size = cap * 4 := by rw [hC1]; simp [hdl, hcs]; omega
  have hB1 : Blk (w.drew.setRow g0 C1) g0 95 C1 := setRow_heap w.drew g0 cur C1 95 (0, 0) hrow
  have hbg1 : Blk (w.drew.setRow g0 C1) g 95 #[x0, x1, x2, x3] := (setRow_other w.drew g0 g C1 hne).trans hb
  have hmin2 : Nat.min 1 (N1 - i) = 1 := by show min 1 (N1 - i) = 1; omega
  obtain ⟨C2, hC2⟩ : ∃ C2, C2 = (C1.toList.take (i * 4) ++ ([x0, x1, x2, x3] ++ C1.toList.drop (i * 4 + [x0, x1, x2, x3].length))).toArray := ⟨_, rfl⟩
  have hcp2 := run_copy_row4 (w.drew.setRow g0 C1) 3 g0 (i * 4) (N1 - i) (cap - i) ⟨g, 0, none⟩ 1 1 C1 [x0, x1, x2, x3] hB1 (by rw [hmin2]; rfl) (fun j v hj => by
    rw [Addr.add_lit, Nat.zero_add, hbg1.cell]
    simpa using hj) (by rw [hC1s]; simp; omega) h1
  rw [← hC2, hmin2] at hcp2
  have hfin : Hid (InsRet w base (some g0) n (insCells xs i [x0, x1, x2, x3]) (.returned (.slice (some ⟨g0, 0, none⟩) N1 cap)) ((w.drew.setRow g0 C1).setRow g0 C2)) := hide (by
    have hC2s : C2.size = cap * 4 := by rw [hC2]; simp [hC1s]; omega
    have hll := ins_lists cur.toList xs [x0, x1, x2, x3] n i hti (by simp [hcs]; omega) hi rfl
    refine ⟨_, rfl, ?_, ⟨rfl, rfl, rfl, by simp [World.setRow], fun k hk hkk => ?_⟩⟩
    · rw [hN1]
      refine ⟨?_, .inr ⟨g0, cap, C2, rfl, hg0, setRow_heap (w.drew.setRow g0 C1) g0 C1 C2 95 (0, 0) hB1, hroom, hcm, hC2s, ?_⟩⟩
      · unfold insCells; simp [hdl, hxs]; omega
      · rw [hC2, hC1, hJ]
        exact hll
    · have hk0 : k ≠ g0 := fun e => hkk (by rw [e])
      rw [setRow_other (w.drew.setRow g0 C1) g0 k C2 hk0, setRow_other w.drew g0 k C1 hk0]; rfl)
  have hJc : ¬ cap = J := by omega
  have hic : ¬ cap = i := by omega
  clear h1 h1x
  replace hcp1 : Hid _ := hide hcp1
  replace hcp2 : Hid _ := hide hcp2
  replace hB1 := hide hB1
  replace hbg1 := hide hbg1
  replace hC1 := hide hC1
  replace hC2 := hide hC2
  replace hC1s := hide hC1s
  replace hmin := hide hmin
  replace hmin2 := hide hmin2
  replace hdl := hide hdl
  replace hN1 := hide hN1
  replace hJ := hide hJ
  replace hrow := hide hrow
  replace hb := hide hb
  replace hti := hide hti
  replace hcs := hide hcs
  replace hxs := hide hxs
  go_enter Tryz.func53, Tryz.ntmps53
  go_wp2_with (simp only [hov])
  go_region_law (refine wp_copy_runI _ (.tmp 73) (.tmp 76) 99 99 rfl (.slice (some ⟨g0, J * 4, none⟩) (N1 - J) (cap - J)) (.slice (some ⟨g0, i * 4, none⟩) (N1 - i) (cap - i)) (by simp [Act.eval, Act.put]) (by simp [Act.eval, Act.put]) hcp1.out ?_)
  go_wp2
  rw [hcp2.out]
  go_wp2
  all_goals
    go_ret
    exact hfin.out
end Go.Proofs.YthohbbaglceppaaGreatDoor
namespace Go.Proofs.YthohbbaglceppaaGreatDoor
open Go.RowKit
set_option linter.unusedVariables false
theorem insg_lists (R xs vs : List Value) (n i : Nat) (hR : R.take (i * 4) = xs.take (i * 4)) (hl : (n + 1) * 4 ≤ R.length) (hxl : xs.length = n * 4) (hi : i < n) (hv : vs.length = 4) :
    (((R.take (i * 4) ++ (vs ++ R.drop (i * 4 + vs.length))).take ((i + 1) * 4)) ++ (xs.drop (i * 4) ++ (R.take (i * 4) ++ (vs ++ R.drop (i * 4 + vs.length))).drop ((i + 1) * 4 + (xs.drop (i * 4)).length))).take ((n + 1) * 4) = xs.take (i * 4) ++ (vs ++ xs.drop (i * 4)) := by
  have e1 : (R.take (i * 4) ++ (vs ++ R.drop (i * 4 + vs.length))).take ((i + 1) * 4) = xs.take (i * 4) ++ vs := by
    rw [← List.append_assoc, hR]
    exact List.take_left' (by rw [List.length_append, List.length_take, hxl, hv]; omega)
  rw [e1, ← List.append_assoc (xs.take (i * 4)) vs (xs.drop (i * 4)), ← List.append_assoc (xs.take (i * 4) ++ vs) (xs.drop (i * 4))]
  exact List.take_left' (by simp only [List.length_append, List.length_take, List.length_drop, hv, hxl]; omega)
set_option maxRecDepth 100000 in
set_option maxHeartbeats 1000000 in
theorem ins_grow (w : World) (base g0 : Nat) (n i : Nat) (xs : List Value) (cur : Array Value) (hbase : base ≤ w.heap.size) (hrow : w.heap[g0]? = some (.cells cur 95 (0, 0))) (hxs : xs.length = n * 4) (hti : cur.toList.take (n * 4) = xs) (hi : i < n)
    (g : Nat) (x0 x1 x2 x3 : Value) (h1 : ∀ u ∈ [x0, x1, x2, x3], u.oneCell' = true) (h1x : ∀ u ∈ xs, u.oneCell' = true) (hb : Blk w g 95 #[x0, x1, x2, x3]) (hn : n ≤ 100000) :
    Calls Tryz.prog 53 #[.slice (some ⟨g0, 0, none⟩) n n, .int .i64 (i : Int), .slice (some ⟨g, 0, none⟩) 1 1] w (InsRet w base (some g0) n (insCells xs i [x0, x1, x2, x3])) := by
  obtain ⟨i0, hi0, hz0, hz1, hz2⟩ := info_parts cell_info
  have hne2 : ((i : Int) == (n : Int)) = false := by rw [beq_eq_false_iff_ne]; omega
  have hiI : (i : Int) ≤ (n : Int) := by omega
  have hn6 : (n : Int) ≤ 100000 := by omega
  have hg0lt : g0 < w.heap.size := by
    rcases Nat.lt_or_ge g0 w.heap.size with h | h
    · exact h
    · rw [Array.getElem?_eq_none h] at hrow; cases hrow
  have hglt : g < w.heap.size := hb.lt
  obtain ⟨N1, hN1⟩ : ∃ N1, N1 = n + 1 := ⟨_, rfl⟩
  have hNI : (n : Int) + 1 = (N1 : Int) := by omega
  have hND : decide ((n : Int) < (N1 : Int)) = true := by rw [decide_eq_true_iff]; omega
  have hNDn : decide (n < N1) = true := by rw [decide_eq_true_iff]; omega
  have hNW : IntKind.i64.wrap (N1 : Int) = (N1 : Int) := IntWalk.i64_in _ (by omega)
  have hiN : (i : Int) ≤ (N1 : Int) := by omega
  obtain ⟨J, hJ⟩ : ∃ J, J = i + 1 := ⟨_, rfl⟩
  have hJI : (i : Int) + 1 = (J : Int) := by omega
  have hJW : IntKind.i64.wrap (J : Int) = (J : Int) := IntWalk.i64_in _ (by omega)
  have hJN : (J : Int) ≤ (N1 : Int) := by omega
  obtain ⟨M, hM⟩ : ∃ M, M = n + 1 - i := ⟨_, rfl⟩
  have hMI : (N1 : Int) - (i : Int) = (M : Int) := by omega
  have hMW : IntKind.i64.wrap (M : Int) = (M : Int) := IntWalk.i64_in _ (by omega)
  obtain ⟨G, hG⟩ : ∃ G, G = grownCap w N1 n 95 := ⟨_, rfl⟩
  have hGn : N1 ≤ G := by rw [hG]; exact grownCap_ge w _ _ _
  have hGI : (N1 : Int) ≤ (G : Int) := by omega
  have hGm : G ≤ maxLen := by rw [hG]; exact grownCap_le_maxLen w N1 n 95 (by unfold maxLen; omega)
  have hG63 : (G : Int) ≤ 9223372036854775807 := by unfold maxLen at hGm; omega
  obtain ⟨B, hB⟩ : ∃ B, B = w.heap.size := ⟨_, rfl⟩
  obtain ⟨ROW, hROW⟩ : ∃ ROW : Array Value, ROW = (xs.take (i * 4)).toArray ++ Builtin.zeroCells (Value.agg #[.slice none 0 0, .slice none 0 0, .int .i64 0, .int .i64 0]).cells M ++ Builtin.zeroCells (Value.agg #[.slice none 0 0, .slice none 0 0, .int .i64 0, .int .i64 0]).cells (G - N1) := ⟨_, rfl⟩
  have hRs : ROW.size = G * 4 := by
    rw [hROW]
    simp only [Array.size_append, List.size_toArray, List.length_take, size_zeroCells, hxs]
    show min (i * 4) (n * 4) + M * 4 + (G - N1) * 4 = G * 4
    omega
  obtain ⟨W1, hW1⟩ : ∃ W1, W1 = w.drew.alloc (.cells ROW 95) := ⟨_, rfl⟩
  have hcellx : ∀ j v, xs[j]? = some v → w.cell? ⟨g0, j, none⟩ = some v := fun j v hj => by
    rw [(show Blk w g0 95 cur from hrow).cell]
    have hj2 := (List.getElem?_eq_some_iff.1 hj).1
    rw [← hti, List.getElem?_take, if_pos (by omega)] at hj
    simpa using hj
  have hold : (Builtin.firstCells i0.size i (.slice (some ⟨g0, 0, none⟩) i n)).run Tryz.prog w.drew = .ok (xs.take (i * 4)).toArray w.drew := by
    rw [hz1]
    exact run_firstCells_some w.drew 4 i ⟨g0, 0, none⟩ i n (xs.take (i * 4)) (by rw [List.length_take, hxs]; omega) (fun j v hj => by
      rw [Addr.add_lit]
      rw [List.getElem?_take] at hj
      split at hj
      · simpa using hcellx j v hj
      · cases hj)
  have hrz : ∀ ty, (Builtin.append_ #[99, 3] ty #[.slice (some ⟨g0, 0, none⟩) i n, .int .i64 (M : Int)]).run Tryz.prog w = .ok (.slice (some ⟨B, 0, none⟩) N1 G) W1 := fun ty => by
    have h := Lib.run_append_grow_zeros w 99 3 ty 95 i0 _ .i64 .i64 Tryz.underlying99 Tryz.underlying3 hi0 hz0 (some ⟨g0, 0, none⟩) i n (xs.take (i * 4)) hold M (by omega) (by omega) (by omega) (by omega) (by rw [hz2]; omega) (by rw [hz2]; exact growslice_fits (by omega) (by omega))
    have e : i + M = N1 := by omega
    rw [e, ← hG, ← hROW, ← hW1, ← hB] at h
    exact h
  have hb1 : Blk W1 B 95 ROW := by rw [hW1, hB]; exact heap_alloc_new w.drew _
  have hbx : ∀ k ob, w.heap[k]? = some ob → W1.heap[k]? = some ob := fun k ob h => by
    have hk : k < w.heap.size := by
      rcases Nat.lt_or_ge k w.heap.size with h2 | h2
      · exact h2
      · rw [Array.getElem?_eq_none h2] at h; cases h
    rw [hW1]; exact (Below.heap_alloc w.drew _ k hk).trans h
  have hbg1 : Blk W1 g 95 #[x0, x1, x2, x3] := hbx g _ hb
  have hrow1 : Blk W1 g0 95 cur := hbx g0 _ hrow
  have hgB : g ≠ B := by omega
  have hg0B : g0 ≠ B := by omega
  have hmin1 : Nat.min 1 (N1 - i) = 1 := by show min 1 (N1 - i) = 1; omega
  obtain ⟨C1, hC1⟩ : ∃ C1, C1 = (ROW.toList.take (i * 4) ++ ([x0, x1, x2, x3] ++ ROW.toList.drop (i * 4 + [x0, x1, x2, x3].length))).toArray := ⟨_, rfl⟩
  have hcp1 := run_copy_row4 W1 3 B (i * 4) (N1 - i) (G - i) ⟨g, 0, none⟩ 1 1 ROW [x0, x1, x2, x3] hb1 (by rw [hmin1]; rfl) (fun j v hj => by
    rw [Addr.add_lit, Nat.zero_add, hbg1.cell]
    simpa using hj) (by rw [hRs]; simp; omega) h1
  rw [← hC1, hmin1] at hcp1
  have hC1s : C1.size = G * 4 := by rw [hC1]; simp [hRs]; omega
  obtain ⟨W2, hW2⟩ : ∃ W2, W2 = W1.setRow B C1 := ⟨_, rfl⟩
  rw [← hW2] at hcp1
  have hb2 : Blk W2 B 95 C1 := by rw [hW2]; exact setRow_heap W1 B ROW C1 95 (0, 0) hb1
  have hrow2 : Blk W2 g0 95 cur := by rw [hW2]; exact (setRow_other W1 B g0 C1 hg0B).trans hrow1
  have hdl : (xs.drop (i * 4)).length = (n - i) * 4 := by rw [List.length_drop, hxs]; omega
  have hmin2 : Nat.min (n - i) (N1 - J) = n - i := by show min (n - i) (N1 - J) = n - i; omega
  obtain ⟨C2, hC2⟩ : ∃ C2, C2 = (C1.toList.take (J * 4) ++ (xs.drop (i * 4) ++ C1.toList.drop (J * 4 + (xs.drop (i * 4)).length))).toArray := ⟨_, rfl⟩
  have hcp2 := run_copy_row4 W2.drew 3 B (J * 4) (N1 - J) (G - J) ⟨g0, i * 4, none⟩ (n - i) (n - i) C1 (xs.drop (i * 4)) hb2 (by rw [hmin2, hdl]) (fun j v hj => by
    rw [Addr.add_lit]
    have h3 : W2.drew.cell? ⟨g0, i * 4 + j, none⟩ = W2.cell? ⟨g0, i * 4 + j, none⟩ := rfl
    rw [h3, hrow2.cell, ← (show Blk w g0 95 cur from hrow).cell]
    rw [List.getElem?_drop] at hj
    exact hcellx _ _ hj) (by rw [hdl, hC1s]; omega) (fun v hv => h1x v (List.mem_of_mem_drop hv))
  rw [← hC2, hmin2] at hcp2
  have hfin : Hid (InsRet w base (some g0) n (insCells xs i [x0, x1, x2, x3]) (.returned (.slice (some ⟨B, 0, none⟩) N1 G)) (W2.drew.setRow B C2)) := hide (by
    have hC2s : C2.size = G * 4 := by rw [hC2]; simp [hdl, hC1s]; omega
    have hRt : ROW.toList.take (i * 4) = xs.take (i * 4) := by
      rw [hROW]
      simp only [Array.toList_append, List.append_assoc]
      exact List.take_left' (by rw [List.length_take, hxs]; omega)
    have hll := insg_lists ROW.toList xs [x0, x1, x2, x3] n i hRt (by simp [hRs]; omega) hxs hi rfl
    refine ⟨_, rfl, ?_, ⟨by rw [hW2, hW1]; rfl, by rw [hW2, hW1]; rfl, by rw [hW2, hW1]; rfl, by rw [hW2, hW1]; simp [World.setRow], fun k hk hkk => ?_⟩⟩
    · rw [hN1]
      refine ⟨?_, .inr ⟨B, G, C2, rfl, by omega, setRow_heap W2.drew B C1 C2 95 (0, 0) hb2, by omega, hGm, hC2s, ?_⟩⟩
      · unfold insCells; simp [hdl, hxs]; omega
      · rw [hC2, hC1, hJ]
        exact hll
    · have hk0 : k ≠ B := by omega
      rw [setRow_other W2.drew B k C2 hk0, show W2.drew.heap = W2.heap from rfl, hW2, setRow_other W1 B k C1 hk0, hW1]
      exact Below.heap_alloc w.drew _ k (show k < w.heap.size by omega))
  have hGi : ¬ G = i := by omega
  have hGj : ¬ G = J := by omega
  have hni : ¬ n = i := by omega
  clear h1 h1x hold hcellx hbx
  replace hcp1 : Hid _ := hide hcp1
  replace hcp2 : Hid _ := hide hcp2
  replace hb1 := hide hb1
  replace hb2 := hide hb2
  replace hbg1 := hide hbg1
  replace hrow1 := hide hrow1
  replace hrow2 := hide hrow2
  replace hC1 := hide hC1
  replace hC2 := hide hC2
  replace hC1s := hide hC1s
  replace hmin1 := hide hmin1
  replace hmin2 := hide hmin2
  replace hdl := hide hdl
  replace hN1 := hide hN1
  replace hJ := hide hJ
  replace hM := hide hM
  replace hG := hide hG
  replace hB := hide hB
  replace hW1 := hide hW1
  replace hW2 := hide hW2
  replace hROW := hide hROW
  replace hRs := hide hRs
  replace hrow := hide hrow
  replace hb := hide hb
  replace hti := hide hti
  replace hxs := hide hxs
  clear hi0 hz0 hz1 hz2
  go_enter Tryz.func53, Tryz.ntmps53
  go_wp2_with (at_builtin; refine Lib.wpList_append_run _ rfl _ _ _ _ rfl _ _ rfl rfl _ _ (hrz _) ?_)
  rw [hcp1.out]
  go_wp2
  go_region_law (refine wp_copy_runI _ (.tmp 50) (.tmp 53) 99 99 rfl (.slice (some ⟨B, J * 4, none⟩) (N1 - J) (G - J)) (.slice (some ⟨g0, i * 4, none⟩) (n - i) (n - i)) (by simp [Act.eval, Act.put]) (by simp [Act.eval, Act.put]) hcp2.out ?_)
  go_wp2
  all_goals
    go_ret
    exact hfin.out
/-- slices.Insert of one cell. -/
theorem ins_any (w : World) (base : Nat) (v : Value) (n i : Nat) (xs : List Value) (hown : w.ownsRow base 95 4 v n xs) (hi : i ≤ n) (hbase : base ≤ w.heap.size) (h1x : ∀ u ∈ xs, u.oneCell' = true)
    (g : Nat) (hgb : g < base ∨ v.ownBlock ≠ some g) (x0 x1 x2 x3 : Value) (h1 : ∀ u ∈ [x0, x1, x2, x3], u.oneCell' = true) (hb : Blk w g 95 #[x0, x1, x2, x3]) (hn : n ≤ 100000) :
    Calls Tryz.prog 53 #[v, .int .i64 (i : Int), .slice (some ⟨g, 0, none⟩) 1 1] w (InsRet w base v.ownBlock n (insCells xs i [x0, x1, x2, x3])) := by
  have hxs := hown.1
  by_cases hin : i = n
  · subst hin
    have h := ins_end w base v i xs hown g x0 x1 x2 x3 h1 hb hn hbase
    have e : insCells xs i [x0, x1, x2, x3] = xs ++ [x0, x1, x2, x3] := by
      unfold insCells
      rw [List.take_of_length_le (by omega), List.drop_of_length_le (by omega), List.append_nil]
    rw [e]; exact h
  · rcases hown.2 with ⟨rfl, rfl⟩ | ⟨g0, cap, cur, rfl, hbg, hg, hnc, hcm, hcs, htake⟩
    · simp at hxs; omega
    · have hne : g ≠ g0 := by
        rcases hgb with h | h
        · omega
        · intro e; exact h (by rw [e]; rfl)
      by_cases hroom : n + 1 ≤ cap
      · exact ins_room w base g0 cap n i xs cur hbg hg hcs hxs htake (by omega) hroom hcm g hne x0 x1 x2 x3 h1 h1x hb hn
      · obtain rfl : cap = n := by omega
        exact ins_grow w base g0 cap i xs cur hbase hg hxs htake (by omega) g x0 x1 x2 x3 h1 h1x hb hn
end Go.Proofs.YthohbbaglceppaaGreatDoor
