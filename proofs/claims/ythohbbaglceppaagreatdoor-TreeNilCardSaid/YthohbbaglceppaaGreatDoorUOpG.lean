/-
  Contract of wal.Put at one page.
-/
import Derived.Test.YthohbbaglceppaaGreatDoorUE
import Derived.Lib.SlBytesConst
namespace Go.Proofs.YthohbbaglceppaaGreatDoor
open Go.RowKit Go.Maps
set_option linter.unusedVariables false
def walB (p : List UInt8) : List UInt8 := ([105, 113, 106, 49] ++ leBs 4 [1]) ++ leB 4 0 ++ p
/-- A batch of one page. -/
def walL (p : List UInt8) : List UInt8 := walB p ++ leBs 4 [crcOf (walB p)]
theorem walB_len (p : List UInt8) (h : p.length = 512) : (walB p).length = 524 := by simp [walB, leBs, leB_len, h]
theorem walL_len (p : List UInt8) (h : p.length = 512) : (walL p).length = 528 := by rw [walL, List.length_append, walB_len p h]; simp [leBs, leB_len]
/-- Bytes behind bytes, as an equation of the run. -/
theorem run_app_b (w : World) (base : Nat) (v : Value) (n : Nat) (l : List UInt8) (hown : OB w base v n l) (A : Option Addr) (m c : Nat) (news : List UInt8) (hr : RB w w.heap.size A m news) (ty : TypeId) (hlen : n + m ≤ 1000000000) (hbase : base ≤ w.heap.size) :
    ∃ v' w', (Builtin.append_ #[37, 37] ty #[v, .slice A m c]).run Tryz.prog w = .ok v' w' ∧ OB w' base v' (n + m) (l ++ news) ∧ w.grownBy w' v.ownBlock ∧ (v'.ownBlock = v.ownBlock ∨ v'.ownBlock = some w.heap.size) := by
  obtain ⟨i0, hi0, hz0, hz1, hz2⟩ := info_parts byte_info
  obtain ⟨v', w', h1, h2, h3, h4⟩ := run_append_any (P := Tryz.prog) w base 37 ty 5 i0 _ 1 1 Tryz.underlying37 hi0 hz0 hz1 hz2 rfl (by omega) v n (bv l) hown w.heap.size A m c (bv news) hr (bv_one _) (by simp [maxLen]; omega) (by omega) hbase
  refine ⟨v', w', h1, ?_, h3, h4⟩
  unfold OB
  rw [bv_append]; exact h2
set_option maxRecDepth 100000 in
set_option maxHeartbeats 2000000 in
theorem walput_one (w : World) (gl gs c : Nat) (p : List UInt8) (h0 : w.cell? ⟨gl, 0, none⟩ = some (.int .i64 0)) (h1 : w.cell? ⟨gl, 1, none⟩ = some (.slice (some ⟨gs, 0, none⟩) 512 512)) (hp : Blk w gs 240 (bv p).toArray) (hpl : p.length = 512) :
    Calls Tryz.prog 107 #[.slice (some ⟨gl, 0, none⟩) 1 c] w fun e w' => ∃ A c2, e = .returned (.tuple #[.slice A 528 c2, .int .i64 0]) ∧ OB w' w.heap.size (.slice A 528 c2) 528 (walL p) ∧ Below w.heap.size w w' := by
  have hri := hide (rising_one w gl gs c h0 h1)
  have hgl := World.block_lt_of_cell? w _ h0
  have kc := fun (wx : World) (C : Array Value) (n c : Nat) => Lib.run_convert_bytes_const (P := Tryz.prog) wx 37 5 C n c Tryz.underlying37 Tryz.underlying5
  go_enter Tryz.func107, Tryz.ntmps107
  go_wp2_with fail
  refine hri.out.mono ?_
  rintro e w1 ⟨rfl, hB1⟩
  have q0 := (hB1.cell (p := ⟨gl, 0, none⟩) hgl).trans h0
  have q1 := (hB1.cell (p := ⟨gl, 1, none⟩) hgl).trans h1
  have hp1 := hide (hp.below hB1 hp.lt)
  obtain ⟨W2, hW2⟩ : ∃ W2, W2 = (w1.alloc (.cells #[.int .u8 105, .int .u8 113, .int .u8 106, .int .u8 49] 5 (4, 5))).alloc (.cells #[.int .i64 1] 3) := ⟨_, rfl⟩
  have hz : (w1.alloc (.cells #[.int .u8 105, .int .u8 113, .int .u8 106, .int .u8 49] 5 (4, 5))).heap.size = w1.heap.size + 1 := World.size_alloc _ _
  have hB2 : Below w1.heap.size w1 W2 := by rw [hW2]; exact ((Below.refl w1.heap.size w1).alloc (Nat.le_refl _) _).alloc (by simp) _
  have hmk : RB W2 W2.heap.size (some ⟨w1.heap.size, 0, none⟩) 4 [105, 113, 106, 49] := by
    refine rb_cells (fun i u hu => ?_) rfl (by rw [hW2]; simp; omega)
    rw [hW2, World.cell?_alloc_lt _ _ _ (by show w1.heap.size < _; rw [hz]; omega), cell_of_row _ _ i _ 5 (4, 5) (heap_alloc_new w1 (.cells #[.int .u8 105, .int .u8 113, .int .u8 106, .int .u8 49] 5 (4, 5)))]
    simpa [bv] using hu
  have hone : RN W2 W2.heap.size (some ⟨w1.heap.size + 1, 0, none⟩) 1 [1] := by
    have h := one_pn (w1.alloc (.cells #[.int .u8 105, .int .u8 113, .int .u8 106, .int .u8 49] 5 (4, 5))) 1 3
    rw [hz] at h
    rw [hW2]; exact h
  have hput := hide (wput_any W2 (some ⟨w1.heap.size, 0, none⟩) (some ⟨w1.heap.size + 1, 0, none⟩) 4 4 1 1 4 _ [1] hmk hone (by omega) (by omega) (by omega) (by omega) (by simp))
  replace hB1 := hide hB1
  replace hB2 := hide hB2
  replace hz := hide hz
  replace hp := hide hp
  clear hmk hone
  go_wp2_with fail
  rw [← hW2]
  refine hput.out.mono ?_
  rintro e w3 ⟨v3, rfl, hO3, hB3⟩
  have e8 : ([105, 113, 106, 49] ++ leBs 4 [1] : List UInt8).length = 8 := by simp [leBs, leB_len]
  rw [e8] at hO3
  obtain ⟨A3, c3, rfl, _, _, _, _⟩ := hO3.form
  have hB13 : Below w1.heap.size w1 w3 := hB2.out.trans (hB3.mono hB2.out.size)
  have hwz := hB1.out.size
  have r0 := (hB13.cell (p := ⟨gl, 0, none⟩) (by show gl < _; omega)).trans q0
  have r1 := (hB13.cell (p := ⟨gl, 1, none⟩) (by show gl < _; omega)).trans q1
  have hp3 : Hid (Blk w3 gs 240 (bv p).toArray) := hide (hp1.out.below hB13 (by have := hp.out.lt; omega))
  have hB03 : Hid (Below w.heap.size w w3) := hide (hB1.out.trans (hB13.mono hwz))
  have hO3' : Hid (OB w3 w.heap.size (.slice A3 8 c3) 8 ([105, 113, 106, 49] ++ leBs 4 [1])) := hide (hO3.more (by have := hB2.out.size; omega))
  obtain ⟨W4, hW4⟩ : ∃ W4, W4 = w3.alloc (.cells #[.int .i64 0, .slice (some ⟨gs, 0, none⟩) 512 512] 185) := ⟨_, rfl⟩
  have hz4 : W4.heap.size = w3.heap.size + 1 := by rw [hW4, World.size_alloc]
  have hput4 : Hid (∀ q, Calls Tryz.prog 87 #[.slice none 0 0, .int .i64 4, .slice (some ⟨w3.heap.size + 1, 0, none⟩) 1 1] ((W4.alloc (.cells #[.int .i64 0] 3)).drewN q) (BytesRet ((W4.alloc (.cells #[.int .i64 0] 3)).drewN q) (leB 4 0))) := hide fun q => by
    have h := wput_any ((W4.alloc (.cells #[.int .i64 ((0 : Nat) : Int)] 3)).drewN q) none (some ⟨W4.heap.size, 0, none⟩) 0 0 1 1 4 [] [0] (RB.nil _ _) ((one_pn W4 0 3).drewN q) (by omega) (by omega) (by omega) (by omega) (by simp)
    rw [hz4] at h
    have e4 : ([] ++ leBs 4 [0] : List UInt8) = leB 4 0 := by simp [leBs]
    rw [e4] at h
    exact h
  replace hO3 := hide hO3
  replace hB3 := hide hB3
  replace hB13 := hide hB13
  replace hwz := hide hwz
  clear q0 q1 h0 h1 hri hput
  go_wp2_with fail
  go_loopw [4, 6, 23] (fun v4 _ v23 wx => (v23 = .int .i64 0 ∧ v4 = .slice A3 8 c3 ∧ wx = w3) ∨ (v23 = .int .i64 1 ∧ ∃ A c2, v4 = .slice A 524 c2 ∧ Hid (OB wx w.heap.size (.slice A 524 c2) 524 (walB p) ∧ Below w.heap.size w wx))) (fun _ _ v23 _ => 1 - (intOf v23).toNat)
  case atStart => exact .inl ⟨rfl, rfl, rfl⟩
  case round =>
    rcases hrel with ⟨rfl, rfl, rfl⟩ | ⟨rfl, A, c2, rfl, hH⟩
    · have hround : Hid (∀ w5 A5 c5, RB w5 w5.heap.size A5 4 (leB 4 0) → Below W4.heap.size W4 w5 → ∃ A6 c6 w6 A7 c7 w7,
          (Builtin.append_ #[37, 37] 37 #[.slice A3 8 c3, .slice A5 4 c5]).run Tryz.prog w5 = .ok (.slice A6 12 c6) w6 ∧ (Builtin.append_ #[37, 37] 37 #[.slice A6 12 c6, .slice (some ⟨gs, 0, none⟩) 512 512]).run Tryz.prog w6 = .ok (.slice A7 524 c7) w7 ∧
          w5.cell? ⟨wr.heap.size, 1, none⟩ = some (.slice (some ⟨gs, 0, none⟩) 512 512) ∧ w6.cell? ⟨wr.heap.size, 1, none⟩ = some (.slice (some ⟨gs, 0, none⟩) 512 512) ∧ Hid (OB w7 w.heap.size (.slice A7 524 c7) 524 (walB p) ∧ Below w.heap.size w w7)) := hide fun w5 A5 c5 h5 hB5 => by
        have hcp : Blk W4 wr.heap.size 185 #[.int .i64 0, .slice (some ⟨gs, 0, none⟩) 512 512] := by rw [hW4]; exact Blk.new wr 185 _
        have hcp5 := hcp.below hB5 (by omega)
        have hO4 : OB W4 w.heap.size (.slice A3 8 c3) 8 ([105, 113, 106, 49] ++ leBs 4 [1]) := by rw [hW4]; exact hO3'.out.alloc _
        have hO5 := hO4.below hB5 (Nat.le_refl _)
        have hB04 : Below w.heap.size w W4 := by rw [hW4]; exact hB03.out.alloc hB03.out.size _
        have hs05 : w.heap.size ≤ w5.heap.size := by have := hB04.size; have := hB5.size; omega
        obtain ⟨v6, w6, hr1, hO6, hg6, hv6⟩ := run_app_b w5 w.heap.size _ 8 _ hO5 A5 4 c5 (leB 4 0) h5 37 (by omega) hs05
        have hps5 : Blk w5 gs 240 (bv p).toArray := by
          refine Blk.below (w := W4) ?_ hB5 (by have := hp3.out.lt; omega)
          rw [hW4]; exact hp3.out.alloc _
        have hne1 : some wr.heap.size ≠ (Value.slice A3 8 c3).ownBlock := fun e => own_blk_ne hO5 hcp5 (by decide) e.symm
        have hne2 : some gs ≠ (Value.slice A3 8 c3).ownBlock := fun e => own_blk_ne hO5 hps5 (by decide) e.symm
        have hcp6 := hcp5.grown hg6 hne1
        have hps6 := hps5.grown hg6 hne2
        obtain ⟨A6, c6, rfl, _, _, _, _⟩ := hO6.form
        have hrp : RB w6 w6.heap.size (some ⟨gs, 0, none⟩) 512 p := rb_cells (fun i u hu => by rw [hps6.cell]; simpa using hu) hpl hps6.lt
        obtain ⟨v7, w7, hr2, hO7, hg7, hv7⟩ := run_app_b w6 w.heap.size _ (8 + 4) _ hO6 (some ⟨gs, 0, none⟩) 512 512 p hrp 37 (by omega) (by have := hg6.size; omega)
        obtain ⟨A7, c7, rfl, _, _, _, _⟩ := hO7.form
        have hB06 : Below w.heap.size w w6 := (hB04.trans (hB5.mono hB04.size)).grown hg6 hs05 (fun k hk => hO5.block_lt k hk)
        refine ⟨A6, c6, w6, A7, c7, w7, hr1, hr2, hcp5.cell 1, hcp6.cell 1, hide ⟨?_, hB06.grown hg7 hB06.size (fun k hk => hO6.block_lt k hk)⟩⟩
        unfold walB
        exact hO7
      go_upto_region 9 with (fail)
      rw [← hW4]
      have s0 : W4.cell? ⟨wr.heap.size, 0, none⟩ = some (.int .i64 0) := by rw [hW4]; exact (Blk.new wr 185 #[.int .i64 0, .slice (some ⟨gs, 0, none⟩) 512 512]).cell 0
      have s1 : W4.cell? ⟨wr.heap.size, 1, none⟩ = some (.slice (some ⟨gs, 0, none⟩) 512 512) := by rw [hW4]; exact (Blk.new wr 185 #[.int .i64 0, .slice (some ⟨gs, 0, none⟩) 512 512]).cell 1
      replace hW4 := hide hW4
      have hlt4 : wr.heap.size < W4.heap.size := by omega
      go_region_law (first
        | (go_simp; go_at_call 87; refine (hput4.out 1).mono ?_; rintro e w5 ⟨v5, rfl, hO5, hB5⟩; rw [leB_len] at hO5; (obtain ⟨A5, c5, rfl, hr5, _, _, _⟩ := hO5.form); have hB45 : Below W4.heap.size W4 w5 := ((Below.refl W4.heap.size W4).alloc (Nat.le_refl _) (.cells #[.int .i64 0] 3)).drew.trans (hB5.mono (by simp)); (obtain ⟨A6, c6, w6, A7, c7, w7, hrun1, hrun2, t1, t2, hdone⟩ := hround.out w5 A5 c5 hr5 hB45); replace hO5 := hide hO5; replace hB5 := hide hB5; replace hr5 := hide hr5; replace hB45 := hide hB45)
        | (refine Lib.wp_append_run _ (.tmp 31) (.tmp 35) 37 37 rfl _ _ rfl rfl _ _ hrun1 ?_)
        | (refine Lib.wp_append_run _ (.tmp 36) (.tmp 38) 37 37 rfl _ _ rfl rfl _ _ hrun2 ?_))
      all_goals
        go_wp2_with fail
        go_roundw
        case rel => exact .inr ⟨rfl, A7, c7, rfl, hdone⟩
        case measure => simp [intOf]
    · obtain ⟨hO, hB⟩ := hH.out
      obtain ⟨A', c', e9, hr, _, hc1, hc2⟩ := hO.form
      injection e9 with e9 _ e10
      subst e9; subst e10
      have hof := of_any (wr.alloc (.cells #[.slice A 524 c2] 37)) ⟨wr.heap.size, 0, none⟩ 1 1 [walB p] rfl (by omega) (by omega) (by simp) (by
        intro k b' hk
        match k, hk with
        | 0, hk =>
          simp at hk; subst hk
          exact ⟨A, c2, by rw [walB_len p hpl]; simp [Addr.add], by rw [walB_len p hpl]; exact (hr.alloc (Nat.le_refl _) _).more (by simp), by rw [walB_len p hpl]; omega⟩)
      have ef : ([walB p] : List (List UInt8)).flatten = walB p := by simp
      rw [ef] at hof
      obtain ⟨X, hX⟩ : ∃ X, X = crcOf (walB p) := ⟨_, rfl⟩
      have hXl : X < 4294967296 := by rw [hX]; exact crcOf_lt _
      rw [← hX] at hof
      replace hof := hide hof
      replace hX := hide hX
      replace hO := hide hO
      replace hB := hide hB
      replace hr := hide hr
      go_wp2_with fail
      refine hof.out.mono ?_
      rintro e w5 ⟨rfl, hB5⟩
      have hB5' : Below wr.heap.size wr w5 := ((Below.refl wr.heap.size wr).alloc (Nat.le_refl _) (.cells #[.slice A 524 c2] 37)).trans (hB5.mono (by simp))
      have hput6 := hide (wput_any (w5.alloc (.cells #[.int .i64 (X : Int)] 3)) A (some ⟨w5.heap.size, 0, none⟩) 524 c2 1 1 4 (walB p) [X] (((hr.out.below hB5').alloc hB5'.size _).more (by simp; exact Nat.le_succ_of_le hB5'.size)) (one_pn w5 X 3) (by omega) (by omega) (by omega) (by omega) (by simp; omega))
      have hBw5 := hB.out.trans (hB5'.mono hB.out.size)
      replace hB5 := hide hB5
      replace hB5' := hide hB5'
      replace hBw5 := hide hBw5
      go_wp2_with fail
      refine hput6.out.mono ?_
      rintro e w6 ⟨v6, rfl, hO6, hB6⟩
      have e6 : (walB p ++ leBs 4 [X]).length = 528 := by rw [List.length_append, walB_len p hpl]; simp [leBs, leB_len]
      rw [e6] at hO6
      obtain ⟨A6, c6, rfl, _, _, _, _⟩ := hO6.form
      have hfin : Hid (∃ A c2, Ending.returned (.tuple #[.slice A6 528 c6, .int .i64 0]) = .returned (.tuple #[.slice A 528 c2, .int .i64 0]) ∧ OB w6 w.heap.size (.slice A 528 c2) 528 (walL p) ∧ Below w.heap.size w w6) := by
        refine hide ⟨A6, c6, rfl, ?_, (hBw5.out.alloc hBw5.out.size _).trans (hB6.mono (by simp; exact Nat.le_succ_of_le hBw5.out.size))⟩
        unfold walL
        rw [← hX.out]
        exact hO6.more (by simp; exact Nat.le_succ_of_le hBw5.out.size)
      replace hO6 := hide hO6
      replace hB6 := hide hB6
      go_wp2_with fail
      go_ret2
      exact hfin.out
end Go.Proofs.YthohbbaglceppaaGreatDoor
