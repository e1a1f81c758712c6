/-
  Contract of node.Get at the bytes of a node that is right, noughts behind.
-/
import Derived.Test.YthohbbaglceppaaGreatDoorUNodeO
import Derived.Deep.RegionLaw
namespace Go.Proofs.YthohbbaglceppaaGreatDoor
open Go.RowKit
set_option linter.unusedVariables false
theorem cell_info : (Tryz.prog.info? 95).map (fun i => (i.zero, i.size, i.bytes)) = some (some (.agg #[.slice none 0 0, .slice none 0 0, .int .i64 0, .int .i64 0]), 4, 64) := by kernel_rfl
/-- What stands where in a node's bytes. -/
theorem head_at (n : NodeP) (z : Nat) : ((packP n ++ zeroB z).drop 0).take (headB n).length = headB n := by
  rw [List.drop_zero]
  unfold packP
  rw [List.append_assoc, List.take_left]
theorem cell_at (n : NodeP) (z i : Nat) (x : CellP) (hx : n.cells[i]? = some x) :
    ((packP n ++ zeroB z).drop (preB n i).length).take (cellB n.leaf x (n.kids.getD (i + 1) 0)).length = cellB n.leaf x (n.kids.getD (i + 1) 0) ∧ (preB n (i + 1)).length = (preB n i).length + (cellB n.leaf x (n.kids.getD (i + 1) 0)).length ∧ (preB n (i + 1)).length ≤ (packP n).length := by
  obtain ⟨hi, e⟩ := List.getElem?_eq_some_iff.1 hx
  obtain ⟨rest, hp⟩ := packP_at n i hi
  rw [e] at hp
  refine ⟨?_, ?_, ?_⟩
  · rw [hp, List.append_assoc, List.append_assoc, List.drop_left, List.take_left]
  · rw [preB_succ n i hi, e, List.length_append]
  · rw [preB_succ n i hi, e, List.length_append, hp, List.length_append, List.length_append]; omega
theorem end_at (n : NodeP) (z : Nat) : (packP n ++ zeroB z).drop (preB n n.cells.length).length = zeroB z := by rw [preB_all, List.drop_left]
/-- The run of append of one cell. -/
theorem run_app_cell (w : World) (base : Nat) (v : Value) (m : Nat) (xs : List Value) (hown : w.ownsRow base 95 4 v m xs) (g : Nat) (x0 x1 x2 x3 : Value) (h1 : ∀ u ∈ [x0, x1, x2, x3], u.oneCell' = true) (hb : Blk w g 95 #[x0, x1, x2, x3]) (ty : TypeId) (hlen : m + 1 ≤ 1000000) (hbase : base ≤ w.heap.size) :
    ∃ v' w', (Builtin.append_ #[99, 99] ty #[v, .slice (some ⟨g, 0, none⟩) 1 1]).run Tryz.prog w = .ok v' w' ∧ w'.ownsRow base 95 4 v' (m + 1) (xs ++ [x0, x1, x2, x3]) ∧ w.grownBy w' v.ownBlock ∧ (v'.ownBlock = v.ownBlock ∨ v'.ownBlock = some w.heap.size) := by
  obtain ⟨i0, hi0, hz0, hz1, hz2⟩ := info_parts cell_info
  exact run_append_any (P := Tryz.prog) w base 99 ty 95 i0 _ 4 64 Tryz.underlying99 hi0 hz0 hz1 hz2 rfl (by omega) v m xs hown w.heap.size (some ⟨g, 0, none⟩) 1 1 [x0, x1, x2, x3] ⟨rfl, fun _ => ⟨_, rfl, hb.lt, fun j u hu => by
      have e : (Addr.mk g 0 none).add j = ⟨g, j, none⟩ := by
        unfold Addr.add
        by_cases h0 : j = 0
        · subst h0; rfl
        · rw [if_neg h0]; simp
      rw [e, hb.cell]
      simpa using hu⟩⟩ h1 (by simp only [maxLen]; omega) (by omega) hbase
/-- What node.Get returns. -/
def GetRet (w : World) (n : NodeP) (e : Ending) (w' : World) : Prop := ∃ cv kv, e = .returned (.tuple #[.agg #[.bool n.leaf, cv, kv], .int .i64 0]) ∧ NodeOwn w' w.heap.size cv kv n ∧ Below w.heap.size w w'
set_option maxRecDepth 100000 in
set_option maxHeartbeats 2000000 in
theorem get_leaf (w : World) (A : Option Addr) (N c : Nat) (n : NodeP) (z : Nat) (hr : RightP n) (hleaf : n.leaf = true) (hb : RB w w.heap.size A N (packP n ++ zeroB z)) (hnc : N ≤ c) (hN : N ≤ 100000) : Calls Tryz.prog 98 #[.slice A N c] w (GetRet w n) := by
  obtain ⟨b, hbe⟩ : ∃ b, b = packP n ++ zeroB z := ⟨_, rfl⟩
  have hhead := head_at n z
  have hcell := hide (cell_at n z)
  have hend := hide (end_at n z)
  rw [← hbe] at hb hhead hcell hend
  have hbl : b.length = N := hb.len
  have hzN : z = N - (packP n).length ∧ (packP n).length ≤ N := by rw [hbe, List.length_append, zeroB_len] at hbl; omega
  obtain ⟨M, hM⟩ : ∃ M, M = n.cells.length := ⟨_, rfl⟩
  have hmany := hr.many
  rw [← hM] at hmany hend
  have hm65 : M % 256 ^ 2 = M := Nat.mod_eq_of_lt (by omega)
  have hpre : Hid (∀ i, i ≤ M → (preB n i).length ≤ N) := hide fun i hi => by
    have h1 := preB_le n i (by omega)
    rw [← packP_len] at h1
    omega
  have hB1 := ((Below.refl w.heap.size w).alloc (Nat.le_refl _) (.cells #[.bool false, .slice none 0 0, .slice none 0 0] 101)).alloc (by simp) (.cells #[.slice A N c, .int .i64 0, .bool true] 200)
  have hbR : Blk ((w.alloc (.cells #[.bool false, .slice none 0 0, .slice none 0 0] 101)).alloc (.cells #[.slice A N c, .int .i64 0, .bool true] 200)) (w.heap.size + 1) 200 #[.slice A N c, .int .i64 0, .bool true] := by
    simpa using Blk.new (w.alloc (.cells #[.bool false, .slice none 0 0, .slice none 0 0] 101)) 200 #[.slice A N c, .int .i64 0, .bool true]
  have hbS := (Blk.new w 101 #[.bool false, .slice none 0 0, .slice none 0 0]).alloc (.cells #[.slice A N c, .int .i64 0, .bool true] 200)
  have hrd : Rdr ((w.alloc (.cells #[.bool false, .slice none 0 0, .slice none 0 0] 101)).alloc (.cells #[.slice A N c, .int .i64 0, .bool true] 200)) (w.heap.size + 1) A N c b 0 := ⟨hbR, (hb.below hB1).more (Nat.le_succ _), hnc, by omega⟩
  obtain ⟨W1, hW1⟩ : ∃ W1, W1 = (w.alloc (.cells #[.bool false, .slice none 0 0, .slice none 0 0] 101)).alloc (.cells #[.slice A N c, .int .i64 0, .bool true] 200) := ⟨_, rfl⟩
  rw [← hW1] at hB1 hbR hbS hrd
  obtain ⟨lf, hlf⟩ : ∃ lf, lf = n.leaf := ⟨_, rfl⟩
  obtain ⟨gr, hgr⟩ : ∃ gr, gr = w.heap.size + 1 := ⟨_, rfl⟩
  rw [← hgr] at hrd hbR
  have hkids := hr.kidsIn
  have hkidl := hr.kidsLeaf
  rw [← hlf] at hkids hkidl
  cases lf with
  | true =>
    have hhd : headB n = [1] ++ (leB 2 M ++ []) := by unfold headB; rw [← hlf, ← hM]; simp
    rw [hhd] at hhead
    obtain ⟨q1, q2⟩ := at_app hhead
    obtain ⟨q3, q4⟩ := at_app q2
    have hq1 : ([1] : List UInt8).length = 1 := rfl
    rw [hq1] at q1 q3 q4
    rw [leB_len] at q3 q4
    have hpl : 3 ≤ N := by have h := hpre.out 0 (Nat.zero_le _); rw [preB_zero, hhd] at h; simp [leB_len] at h; omega
    have hn1 := num_any W1 gr N c 0 1 A b hrd (by omega) (by omega) (by omega) 1 rfl
    rw [q1] at hn1
    replace hn1 : Calls Tryz.prog 147 #[.pointer (some ⟨gr, 0, none⟩), .int .i64 1] W1 fun e w' => e = .returned (.int .i64 1) ∧ RdLeft W1 gr A N c b 1 w' := hn1
    have hn2 : Hid (∀ wz, RdLeft W1 gr A N c b 1 wz → Calls Tryz.prog 147 #[.pointer (some ⟨gr, 0, none⟩), .int .i64 2] wz fun e w' => e = .returned (.int .i64 (M : Int)) ∧ RdLeft wz gr A N c b 3 w') := hide fun wz hz => by
      have h := num_any wz gr N c 1 2 A b hz.1 (by omega) (by omega) (by omega) 2 rfl
      rw [show (0 + 1 : Nat) = 1 from rfl] at q3
      rw [q3, numL_leB, hm65] at h
      exact h
    replace hn1 := hide hn1
    replace hW1 := hide hW1
    replace hhd := hide hhd
    replace hM := hide hM
    replace hlf := hide hlf
    replace hmany := hide hmany
    replace hm65 := hide hm65
    replace hhead := hide hhead
    replace q1 := hide q1
    replace q2 := hide q2
    replace q3 := hide q3
    replace q4 := hide q4
    replace hzN := hide hzN
    replace hbl := hide hbl
    replace hbe := hide hbe
    replace hb := hide hb
    replace hrd := hide hrd
    replace hbR := hide hbR
    replace hbS := hide hbS
    replace hB1 := hide hB1
    replace hgr := hide hgr
    replace hr := hide hr
    replace hkids := hide hkids
    replace hkidl := hide hkidl
    clear hq1
    go_enter Tryz.func98, Tryz.ntmps98
    go_wp2_with fail
    rw [← hW1.out, ← hgr.out]
    refine hn1.out.mono ?_
    rintro e w2 ⟨rfl, hL2⟩
    have hn2b := hide (hn2.out w2 hL2)
    have hO2 := hide hL2.2
    replace hL2 := hide hL2
    go_wp2_with fail
    refine hn2b.out.mono ?_
    rintro e w3 ⟨rfl, hL3⟩
    have hO3 : Hid (Only (fun j => j = gr) W1 w3) := hide (hO2.out.trans hL3.2 fun i _ h => h)
    have hgi : Hid (GI w gr w3.heap.size A N c b n 0 0 3 (.slice none 0 0) (.slice none 0 0) (w3.alloc (.cells #[.bool true, .slice none 0 0, .slice none 0 0] 101))) := hide (by
      have hlt1 : W1.heap.size = w.heap.size + 2 := by rw [hW1.out]; simp
      have hsz := hO3.out.size
      have hg := hgr.out
      refine ⟨(hO3.out.blk hbS.out (by omega)).alloc _, hL3.1.only ((Only.refl (fun _ => False) w3).alloc _) (fun h => h) (fun _ _ h => h), ?_, (hB1.out.trans (hO3.out.below (B := w.heap.size) (fun k hk => by omega) (by omega))).alloc (by omega) _, ⟨[], rfl, World.ownsRow_nil .., fun k vs c e => by simp at e⟩, by rw [List.take_zero]; exact World.ownsRow_nil .., by omega, by omega⟩
      rw [← hlf.out]
      exact Blk.new w3 101 #[.bool true, .slice none 0 0, .slice none 0 0])
    have hgnb := hide hgi.out.nodB
    have r0 : (w3.alloc (.cells #[.bool true, .slice none 0 0, .slice none 0 0] 101)).cell? ⟨w3.heap.size, 0, none⟩ = some (.bool true) := by have h := hgi.out.nod.cell 0; rw [← hlf.out] at h; exact h
    have r1 := hgi.out.nod.cell 1
    have r2 := hgi.out.nod.cell 2
    have g0 := hgi.out.rdr.blk.cell 2
    replace hL3 := hide hL3
    go_wp2_with fail
    obtain ⟨gn, hgn⟩ : ∃ gn, gn = w3.heap.size := ⟨_, rfl⟩
    rw [← hgn] at hgi hgnb r0 r1 r2 ⊢
    replace hgn := hide hgn
    have hst : Hid (GI w gr gn A N c b n 0 0 (preB n 0).length (.slice none 0 0) (.slice none 0 0) (w3.alloc (.cells #[.bool true, .slice none 0 0, .slice none 0 0] 101))) := hide (by
      rw [preB_zero, hhd.out]; simp only [List.length_append, leB_len]; exact hgi.out)
    clear g0
    go_loopw [30] (fun v30 wx => ∃ (i : Nat) (cv kv : Value), v30 = .int .i64 (i : Int) ∧ i ≤ M ∧ Hid (GI w gr gn A N c b n i 0 (preB n i).length cv kv wx)) (fun v30 _ => M - (intOf v30).toNat)
    case atStart => exact ⟨0, _, _, rfl, Nat.zero_le _, hst⟩
    case round =>
      obtain ⟨i, cv, kv, rfl, hi, hI⟩ := hrel
      obtain ⟨p, hp⟩ : ∃ p, p = (preB n i).length := ⟨_, rfl⟩
      rw [← hp] at hI
      have r0 : wr.cell? ⟨gn, 0, none⟩ = some (.bool true) := by have h := hI.out.nod.cell 0; rw [← hlf.out] at h; exact h
      have r1 := hI.out.nod.cell 1
      have r2 := hI.out.nod.cell 2
      have g0 := hI.out.rdr.blk.cell 0
      have g1 := hI.out.rdr.blk.cell 1
      have g2 := hI.out.rdr.blk.cell 2
      rcases Nat.lt_or_ge i M with hlt | hge
      · have hIc : (i : Int) < (M : Int) := by omega
        have hiB : (i : Int) ≤ 70000 := by have := hmany.out; omega
        have hil : i < n.cells.length := by have := hM.out; omega
        obtain ⟨x, hxx⟩ : ∃ x, x = n.cells[i] := ⟨_, rfl⟩
        have hx : n.cells[i]? = some x := by rw [hxx]; exact List.getElem?_eq_getElem hil
        have hxm : x ∈ n.cells := by rw [hxx]; exact List.getElem_mem hil
        obtain ⟨t1, t2, t3⟩ := hcell.out i x hx
        have hkey := hr.out.keys x hxm
        have hval := hr.out.vals x hxm
        rw [← hlf.out] at hval t1 t2
        rw [← hp] at t1 t2
        obtain ⟨K, hK⟩ : ∃ K : UInt8, K = UInt8.ofNat x.key.length := ⟨_, rfl⟩
        have hcb : cellB true x (n.kids.getD (i + 1) 0) = [K] ++ (x.key ++ (tailB x)) := by unfold cellB tailB; rw [← hK]; simp
        rw [hcb] at t1 t2
        obtain ⟨s1, s23⟩ := at_app t1
        obtain ⟨s2, s3⟩ := at_app s23
        have hKn : numL [K] = x.key.length := by
          show K.toNat + 256 * 0 = _
          rw [hK, UInt8.toNat_ofNat']; omega
        obtain ⟨KL, hKL⟩ : ∃ KL, KL = x.key.length := ⟨_, rfl⟩
        have hl1 : ([K] : List UInt8).length = 1 := rfl
        rw [hl1] at s1 s2 s3
        rw [← hKL] at s2 s3 hKn hkey
        have hpN : p + 1 + KL + (tailB x).length ≤ N := by
          have h1 := hpre.out (i + 1) (by omega)
          rw [t2] at h1
          simp only [List.length_append, hl1] at h1
          omega
        have hp2 : Hid ((preB n (i + 1)).length = p + 1 + KL + (tailB x).length) := hide (by rw [t2]; simp only [List.length_append, hl1]; omega)
        have hnum := num_any wr gr N c p 1 A b hI.out.rdr (by omega) (by omega) (by omega) 1 rfl
        rw [s1, hKn] at hnum
        have hcut : Hid (∀ wz, RdLeft wr gr A N c b (p + 1) wz → Calls Tryz.prog 148 #[.pointer (some ⟨gr, 0, none⟩), .int .i64 (KL : Int)] wz (RCutRet wz gr A N c b (p + 1) KL)) := hide fun wz hz => cut_any wz gr N c (p + 1) KL A b hz.1 (by omega)
        have hKLb : KL ≤ 120 := hkey.2
        replace hnum := hide hnum
        replace s1 := hide s1
        replace s2 := hide s2
        replace s23 := hide s23
        replace s3 := hide s3
        replace t1 := hide t1
        replace t2 := hide t2
        replace t3 := hide t3
        replace hp := hide hp
        replace hxx := hide hxx
        replace hx := hide hx
        replace hxm := hide hxm
        replace hK := hide hK
        replace hKn := hide hKn
        replace hKL := hide hKL
        replace hcb := hide hcb
        replace hkey := hide hkey
        replace hval := hide hval
        replace hil := hide hil
        replace hpN := hide hpN
        clear hl1
        go_wp2_with fail
        refine hnum.out.mono ?_
        rintro e w4 ⟨rfl, hL4⟩
        have hI4 := hide (hI.out.only hL4.2 hL4.1)
        have hcut4 := hide (hcut.out w4 hL4)
        replace hL4 := hide hL4
        go_wp2_with fail
        refine hcut4.out.mono ?_
        rintro e w5 ⟨v5, rfl, hO5, hL5⟩
        have hI5 := hide (hI4.out.only hL5.2 hL5.1)
        rw [s2.out] at hO5
        have hO5' := hO5.more (b' := w.heap.size) hI4.out.bel.size
        obtain ⟨A5, c5, rfl, _, _, hc5, _⟩ := hO5'.form
        have hrd5 := hide hO5'.rd5
        obtain ⟨gc, hgc⟩ : ∃ gc, gc = w5.heap.size := ⟨_, rfl⟩
        have hI6 := hide (hI5.out.alloc (.cells #[.slice A5 KL c5, .slice none 0 0, .int .i64 0, .int .i64 0] 95))
        have hC6 := hide (Blk.new w5 95 #[.slice A5 KL c5, .slice none 0 0, .int .i64 0, .int .i64 0])
        have hgrc : Hid (gr < gc) := hide (by rw [hgc]; exact Blk.lt hI5.out.rdr.blk)
        have hgnc : Hid (gn < gc) := hide (by rw [hgc]; exact Blk.lt hI5.out.nod)
        obtain ⟨w6, hw6⟩ : ∃ w6, w6 = w5.alloc (.cells #[.slice A5 KL c5, .slice none 0 0, .int .i64 0, .int .i64 0] 95) := ⟨_, rfl⟩
        rw [← hw6, ← hgc] at hC6
        rw [← hw6] at hI6
        have hO56 : Hid (Only (fun j => j = gr) w5 w6) := hide (by rw [hw6]; exact (Only.refl _ w5).alloc _)
        have hT56 : Hid (KeepT 5 w5 w6) := hide (by rw [hw6]; exact (KeepT.refl 5 w5).alloc _)
        have e0 : w6.cell? ⟨gn, 0, none⟩ = some (.bool true) := by have h := hI6.out.nod.cell 0; rw [← hlf.out] at h; exact h
        have e2 := hI6.out.nod.cell 2
        replace hw6 := hide hw6
        replace hgc := hide hgc
        replace hO5 := hide hO5
        replace hO5' := hide hO5'
        replace hL5 := hide hL5
        replace hc5 := hide hc5
        have hrc := hide (rcell_any w6 gr gc N c (p + 1 + KL) A b hI6.out.rdr (.slice A5 KL c5) hgrc.out hC6.out x (by simpa using hval.out) s3.out hpN.out)
        go_upto_region 10 with (fail)
        rw [← hw6.out, ← hgc.out]
        go_wp2_with fail
        refine hrc.out.mono ?_
        rintro e w7 ⟨rfl, hR7, hO7, vv, hC7, hV7⟩
        have hO57 : Only (fun j => j = gr) w5 w7 := hO56.out.trans hO7 (fun k hk h => h.elim id (fun h => by have := hgc.out; omega))
        have hI7 := hide (hI5.out.only hO57 hR7)
        have hT67 : KeepT 5 w6 w7 := hO7.keepT fun k cs hk hb => by
          rcases hk with rfl | rfl
          · exact Blk.ne_ hb hI6.out.rdr.blk (by decide) rfl
          · exact Blk.ne_ hb hC6.out (by decide) rfl
        have hV7' := hV7.more (b' := w.heap.size) hI6.out.bel.size
        obtain ⟨A7, c7, rfl, _, _, hc7, _⟩ := hV7'.form
        have hcv : Hid (CellV (G5 w.heap.size w7) w7 [.slice A5 KL c5, .slice A7 x.val.length c7, .int .i64 (x.over : Int), .int .i64 (x.long : Int)] x) := hide ⟨A5, c5, A7, c7, by rw [hKL.out], by rw [← hKL.out]; exact hc5.out, hc7, by
          rw [← hKL.out]
          exact hrd5.out.keep fun k hk => ⟨⟨hk.1, hk.2.choose, hT67 _ _ (hT56.out _ _ hk.2.choose_spec)⟩, (hT67 _ _ (hT56.out _ _ hk.2.choose_spec)).trans hk.2.choose_spec.symm⟩, hV7'.rd5⟩
        obtain ⟨VL, hVL⟩ : ∃ VL, VL = x.val.length := ⟨_, rfl⟩
        rw [← hVL] at hcv hC7
        replace hVL := hide hVL
        replace hO7 := hide hO7
        replace hR7 := hide hR7
        replace hV7 := hide hV7
        replace hV7' := hide hV7'
        replace hT67 := hide hT67
        replace hO57 := hide hO57
        have hfinp : Hid ((preB n (i + 1)).length = p + 1 + KL + (tailB x).length) := hp2
        have k0 := hC7.cell 0
        have k1 := hC7.cell 1
        have k2 := hC7.cell 2
        have k3 := hC7.cell 3
        have m1 := hI7.out.nod.cell 1
        have hI8 := hide (hI7.out.alloc (.cells #[(.slice A5 KL c5), (.slice A7 VL c7), (.int .i64 (x.over : Int)), (.int .i64 (x.long : Int))] 95))
        have hB8 := Blk.new w7 95 #[(.slice A5 KL c5), (.slice A7 VL c7), (.int .i64 (x.over : Int)), (.int .i64 (x.long : Int))]
        obtain ⟨rows, hr1, hr2, hr3⟩ := hI8.out.rows
        obtain ⟨v9, w9, hrun, hO9, hg9, hat9⟩ := run_app_cell (w7.alloc (.cells #[(.slice A5 KL c5), (.slice A7 VL c7), (.int .i64 (x.over : Int)), (.int .i64 (x.long : Int))] 95)) gn cv i rows.flatten hr2 w7.heap.size (.slice A5 KL c5) (.slice A7 VL c7) (.int .i64 (x.over : Int)) (.int .i64 (x.long : Int)) (by intro u hu; simp at hu; rcases hu with rfl | rfl | rfl | rfl <;> rfl) hB8 99 (by have := hmany.out; omega) (Nat.le_of_lt (Blk.lt hI8.out.nod))
        have hN9 := hI8.out.nod.grown hg9 (fun e => own_blk_ne hr2 hI8.out.nod (by decide) e.symm)
        have f1 := hN9.frozen 1
        have l1 := hN9.cell 1
        have hcv8 : CellV (G5 w.heap.size (w7.alloc (.cells #[(.slice A5 KL c5), (.slice A7 VL c7), (.int .i64 (x.over : Int)), (.int .i64 (x.long : Int))] 95))) (w7.alloc (.cells #[(.slice A5 KL c5), (.slice A7 VL c7), (.int .i64 (x.over : Int)), (.int .i64 (x.long : Int))] 95)) [(.slice A5 KL c5), (.slice A7 VL c7), (.int .i64 (x.over : Int)), (.int .i64 (x.long : Int))] x := hcv.out.keep fun k hk => ⟨⟨hk.1, hk.2.choose, hk.2.choose_spec.alloc _⟩, (Below.heap_alloc w7 _ k (Blk.lt hk.2.choose_spec))⟩
        have hdone : Hid (GI w gr gn A N c b n (i + 1) 0 (preB n (i + 1)).length v9 kv (w9.setCell ⟨gn, 1, none⟩ v9)) := hide (by
          rw [hfinp.out]
          exact hI8.out.cell hg9 hx.out hcv8 rows hr1 hr2 hr3 hO9)
        obtain ⟨A9, c9, hv9⟩ : ∃ A9 c9, v9 = .slice A9 (i + 1) c9 := by
          rcases hO9.2 with ⟨_, h0⟩ | ⟨g, cap, cur, e, _⟩
          · omega
          · exact ⟨_, _, e⟩
        subst hv9
        replace hC7 := hide hC7
        replace hB8 := hide hB8
        replace hO9 := hide hO9
        replace hg9 := hide hg9
        replace hN9 := hide hN9
        replace hr1 := hide hr1
        replace hr2 := hide hr2
        replace hr3 := hide hr3
        replace hcv8 := hide hcv8
        replace hat9 := hide hat9
        go_wp2_with (at_builtin; refine Lib.wpList_append_run _ rfl (.tmp 54) (.tmp 56) 99 99 rfl _ _ rfl rfl _ _ hrun ?_)
        go_roundw
        case rel => exact ⟨i + 1, _, _, by simp, by omega, hdone⟩
        case measure => simp [intOf]; omega
      · have hiM : i = M := by omega
        have hIf : ¬ (i : Int) < (M : Int) := by omega
        have hIf2 : (M : Int) ≤ (i : Int) := by omega
        have hMD : decide ((i : Int) < (M : Int)) = false := by rw [decide_eq_false_iff_not]; omega
        have hpN : p ≤ N := by rw [hp]; exact hpre.out i (by omega)
        have hown := hI.out.own (by rw [hiM]; exact hM.out) (by rw [hkidl.out trivial]; rfl)
        have hsl : ∀ {e : TypeId} {size m : Nat} {v : Value} {xs : List Value} {B : Nat}, wr.ownsRow B e size v m xs → ∃ A c, v = .slice A m c := by
          intro e size m v xs B h
          rcases h.2 with ⟨rfl, rfl⟩ | ⟨g, cap, cur, rfl, _⟩
          · exact ⟨none, 0, rfl⟩
          · exact ⟨_, _, rfl⟩
        obtain ⟨rows, _, hro, _⟩ := hown.rows
        obtain ⟨Ac, cc, rfl⟩ := hsl hro
        obtain ⟨Ak, ck, rfl⟩ := hsl hown.kids
        have hNM := hown.nodeM (G := Old wr) (fun k _ hk => hk)
        rw [← hlf.out] at hNM
        have hri := hide (right_any wr _ n hNM hr.out)
        obtain ⟨T, hT⟩ : ∃ T, T = N - p := ⟨_, rfl⟩
        have hrbT : RB wr w.heap.size (if c = p then A else A.map (fun a => a.add (p * 1))) T (zeroB T) := by
          have h := Reads.cut (k := p) (cap := c) (hb.out.below hI.out.bel) hpN hnc
          rw [hT]
          have e : b.drop p = zeroB (N - p) := by
            have e1 := hend.out
            rw [← hiM, ← hp] at e1
            have e2 := congrArg List.length e1
            rw [List.length_drop, hbl.out, zeroB_len] at e2
            rw [e1, e2]
          unfold RB
          rw [← e]
          unfold bv at h ⊢
          rw [List.map_drop]
          simpa using h
        have hTc : T ≤ c - p := by omega
        obtain ⟨AT, hAT⟩ : ∃ AT, AT = (if c = p then A else A.map (fun a => a.add (p * 1))) := ⟨_, rfl⟩
        rw [← hAT] at hrbT
        replace hri := hide hri
        replace hIf := hide hIf
        replace hrbT := hide hrbT
        replace hAT := hide hAT
        replace hT := hide hT
        replace hro := hide hro
        replace hown := hide hown
        replace hNM := hide hNM
        replace hiM := hide hiM
        replace hp := hide hp
        have hpI : (p : Int) ≤ (N : Int) := by omega
        have hpc : (p : Int) ≤ (c : Int) := by omega
        rcases Nat.lt_or_ge p c with hcp | hcp
        · have hcpI : (p : Int) < (c : Int) := by omega
          have hne : ¬ c = p := by omega
          have e1 : AT = Option.map (fun x => x.add p) A := by rw [hAT.out, if_neg hne, Nat.mul_one]
          have h1 : T ≤ (c - p) := by have := hT.out; omega
          have h2 : T ≤ 10000000 := by have := hT.out; omega
          have hnT := hT.out
          have htr : Hid (∀ wz, Below wr.heap.size wr wz → Calls Tryz.prog 150 #[.slice (Option.map (fun x => x.add p) A) (N - p) (c - p), .string { data := #[0] }] wz fun e w' => e = .returned (.slice none 0 0) ∧ ∃ q, w' = wz.drewN q) := hide fun wz hz => by
            have h := RB.below hrbT.out (hz.mono hI.out.bel.size)
            have h3 := trim_any wz w.heap.size T (c - p) AT h h1 h2
            rw [e1, hnT] at h3
            exact h3
          replace e1 := hide e1
          replace hnT := hide hnT
          have hneq : ∀ wz : World, (binOp .neq 37 (.slice none 0 0) (.slice none 0 0)).run Tryz.prog wz = .ok (.bool false) wz := fun wz => by kernel_rfl
          go_wp2_with (first
            | (go_at_call 103; refine hri.out.out.mono ?_; rintro e w7 ⟨rfl, hb7⟩; (have y0 := (hI.out.rdr.only (Only.of_below (S := fun _ => False) hb7) (fun h => h) (fun _ _ h => h)).blk.cell 0); (have y1 := (hI.out.rdr.only (Only.of_below (S := fun _ => False) hb7) (fun h => h) (fun _ _ h => h)).blk.cell 1);
               (have z0 : w7.cell? ⟨gn, 0, none⟩ = some (.bool true) := (hb7.cell (p := ⟨gn, 0, none⟩) (Blk.lt hI.out.nod)).trans r0); (have z1 := (hI.out.nod.below hb7 (Blk.lt hI.out.nod)).cell 1); (have z2 := (hI.out.nod.below hb7 (Blk.lt hI.out.nod)).cell 2);
               (have rs := hI.out.res.below hb7 (Blk.lt hI.out.res)); (have o0 := rs.cell 0); (have o1 := rs.cell 1); (have o2 := rs.cell 2); (have u0 := rs.frozen 0); (have u1 := rs.frozen 1); (have u2 := rs.frozen 2);
               replace rs := hide rs; replace hb7 := hide hb7)
            | (go_at_call 150; refine (htr.out _ hb7.out).mono ?_; rintro e w8 ⟨rfl, nq, rfl⟩))
          have hB9 : Below w.heap.size w ((((w7.drewN nq).setCell ⟨w.heap.size, 0, none⟩ (.bool true)).setCell ⟨w.heap.size, 1, none⟩ (.slice Ac n.cells.length cc)).setCell ⟨w.heap.size, 2, none⟩ (.slice Ak n.kids.length ck)) :=
            ((((below_drewN (hI.out.bel.trans (hb7.out.mono hI.out.bel.size)) nq).setCell (p := ⟨w.heap.size, 0, none⟩) (Nat.le_refl _) _).setCell (p := ⟨w.heap.size, 1, none⟩) (Nat.le_refl _) _).setCell (p := ⟨w.heap.size, 2, none⟩) (Nat.le_refl _) _)
          have hown9 : NodeOwn ((((w7.drewN nq).setCell ⟨w.heap.size, 0, none⟩ (.bool true)).setCell ⟨w.heap.size, 1, none⟩ (.slice Ac n.cells.length cc)).setCell ⟨w.heap.size, 2, none⟩ (.slice Ak n.kids.length ck)) w.heap.size (.slice Ac n.cells.length cc) (.slice Ak n.kids.length ck) n := by
            have e1 : Only (fun j => j = w.heap.size) wr ((((w7.drewN nq).setCell ⟨w.heap.size, 0, none⟩ (.bool true)).setCell ⟨w.heap.size, 1, none⟩ (.slice Ac n.cells.length cc)).setCell ⟨w.heap.size, 2, none⟩ (.slice Ak n.kids.length ck)) :=
              (((((Only.of_below (S := fun j => j = w.heap.size) hb7.out).drewN nq).setCell (p := ⟨w.heap.size, 0, none⟩) (fun _ => rfl) _).setCell (p := ⟨w.heap.size, 1, none⟩) (fun _ => rfl) _).setCell (p := ⟨w.heap.size, 2, none⟩) (fun _ => rfl) _)
            exact hown.out.only e1 fun k hk => by subst hk; exact ⟨_, _, hI.out.res, by decide, by decide, by decide⟩
          have hfin : Hid (GetRet w n (.returned (.tuple #[.agg #[.bool true, .slice Ac n.cells.length cc, .slice Ak n.kids.length ck], .int .i64 0])) _) := hide ⟨.slice Ac n.cells.length cc, .slice Ak n.kids.length ck, by rw [← hlf.out], hown9, hB9⟩
          refine bodyPost_ret (v := .tuple #[.agg #[.bool true, .slice Ac n.cells.length cc, .slice Ak n.kids.length ck], .int .i64 0]) ?_ rfl hfin.out
          have hbf := (((rs.out.drewN nq).set_ 0 (.bool true)).set_ 1 (.slice Ac n.cells.length cc)).set_ 2 (.slice Ak n.kids.length ck)
          obtain ⟨Wf, hWf⟩ : ∃ Wf, Wf = ((((w7.drewN nq).setCell ⟨w.heap.size, 0, none⟩ (.bool true)).setCell ⟨w.heap.size, 1, none⟩ (.slice Ac n.cells.length cc)).setCell ⟨w.heap.size, 2, none⟩ (.slice Ak n.kids.length ck)) := ⟨_, rfl⟩
          rw [← hWf] at hbf ⊢
          have j0 := hbf.cell 0
          have j1 := hbf.cell 1
          have j2 := hbf.cell 2
          have j0' : Wf.cell? ⟨w.heap.size, 0, none⟩ = some (.bool true) := j0
          have j1' : Wf.cell? ⟨w.heap.size, 1, none⟩ = some (.slice Ac n.cells.length cc) := j1
          have j2' : Wf.cell? ⟨w.heap.size, 2, none⟩ = some (.slice Ak n.kids.length ck) := j2
          clear j0 j1 j2
          simp [results, Tryz.results98, go_sem, j0', j1', j2']
        · have hcN : N = p ∧ c = p := by omega
          obtain ⟨hc1, hc2⟩ := hcN
          have htr : Hid (∀ wz : World, Below wr.heap.size wr wz → Calls Tryz.prog 150 #[.slice A 0 0, .string { data := #[0] }] wz fun e w' => e = .returned (.slice none 0 0) ∧ ∃ q, w' = wz.drewN q) := hide fun wz hz => trim_any wz 0 0 0 A ⟨by simp [bv, zeroB], fun h => absurd h (by omega)⟩ (by omega) (by omega)
          subst hc1
          subst hc2
          have hneq : ∀ wz : World, (binOp .neq 37 (.slice none 0 0) (.slice none 0 0)).run Tryz.prog wz = .ok (.bool false) wz := fun wz => by kernel_rfl
          go_wp2_with (first
            | (go_at_call 103; refine hri.out.out.mono ?_; rintro e w7 ⟨rfl, hb7⟩; (have y0 := (hI.out.rdr.only (Only.of_below (S := fun _ => False) hb7) (fun h => h) (fun _ _ h => h)).blk.cell 0); (have y1 := (hI.out.rdr.only (Only.of_below (S := fun _ => False) hb7) (fun h => h) (fun _ _ h => h)).blk.cell 1);
               (have z0 : w7.cell? ⟨gn, 0, none⟩ = some (.bool true) := (hb7.cell (p := ⟨gn, 0, none⟩) (Blk.lt hI.out.nod)).trans r0); (have z1 := (hI.out.nod.below hb7 (Blk.lt hI.out.nod)).cell 1); (have z2 := (hI.out.nod.below hb7 (Blk.lt hI.out.nod)).cell 2);
               (have rs := hI.out.res.below hb7 (Blk.lt hI.out.res)); (have o0 := rs.cell 0); (have o1 := rs.cell 1); (have o2 := rs.cell 2); (have u0 := rs.frozen 0); (have u1 := rs.frozen 1); (have u2 := rs.frozen 2);
               replace rs := hide rs; replace hb7 := hide hb7)
            | (go_at_call 150; refine (htr.out _ hb7.out).mono ?_; rintro e w8 ⟨rfl, nq, rfl⟩))
          have hB9 : Below w.heap.size w ((((w7.drewN nq).setCell ⟨w.heap.size, 0, none⟩ (.bool true)).setCell ⟨w.heap.size, 1, none⟩ (.slice Ac n.cells.length cc)).setCell ⟨w.heap.size, 2, none⟩ (.slice Ak n.kids.length ck)) :=
            ((((below_drewN (hI.out.bel.trans (hb7.out.mono hI.out.bel.size)) nq).setCell (p := ⟨w.heap.size, 0, none⟩) (Nat.le_refl _) _).setCell (p := ⟨w.heap.size, 1, none⟩) (Nat.le_refl _) _).setCell (p := ⟨w.heap.size, 2, none⟩) (Nat.le_refl _) _)
          have hown9 : NodeOwn ((((w7.drewN nq).setCell ⟨w.heap.size, 0, none⟩ (.bool true)).setCell ⟨w.heap.size, 1, none⟩ (.slice Ac n.cells.length cc)).setCell ⟨w.heap.size, 2, none⟩ (.slice Ak n.kids.length ck)) w.heap.size (.slice Ac n.cells.length cc) (.slice Ak n.kids.length ck) n := by
            have e1 : Only (fun j => j = w.heap.size) wr ((((w7.drewN nq).setCell ⟨w.heap.size, 0, none⟩ (.bool true)).setCell ⟨w.heap.size, 1, none⟩ (.slice Ac n.cells.length cc)).setCell ⟨w.heap.size, 2, none⟩ (.slice Ak n.kids.length ck)) :=
              (((((Only.of_below (S := fun j => j = w.heap.size) hb7.out).drewN nq).setCell (p := ⟨w.heap.size, 0, none⟩) (fun _ => rfl) _).setCell (p := ⟨w.heap.size, 1, none⟩) (fun _ => rfl) _).setCell (p := ⟨w.heap.size, 2, none⟩) (fun _ => rfl) _)
            exact hown.out.only e1 fun k hk => by subst hk; exact ⟨_, _, hI.out.res, by decide, by decide, by decide⟩
          have hfin : Hid (GetRet w n (.returned (.tuple #[.agg #[.bool true, .slice Ac n.cells.length cc, .slice Ak n.kids.length ck], .int .i64 0])) _) := hide ⟨.slice Ac n.cells.length cc, .slice Ak n.kids.length ck, by rw [← hlf.out], hown9, hB9⟩
          refine bodyPost_ret (v := .tuple #[.agg #[.bool true, .slice Ac n.cells.length cc, .slice Ak n.kids.length ck], .int .i64 0]) ?_ rfl hfin.out
          have hbf := (((rs.out.drewN nq).set_ 0 (.bool true)).set_ 1 (.slice Ac n.cells.length cc)).set_ 2 (.slice Ak n.kids.length ck)
          obtain ⟨Wf, hWf⟩ : ∃ Wf, Wf = ((((w7.drewN nq).setCell ⟨w.heap.size, 0, none⟩ (.bool true)).setCell ⟨w.heap.size, 1, none⟩ (.slice Ac n.cells.length cc)).setCell ⟨w.heap.size, 2, none⟩ (.slice Ak n.kids.length ck)) := ⟨_, rfl⟩
          rw [← hWf] at hbf ⊢
          have j0 := hbf.cell 0
          have j1 := hbf.cell 1
          have j2 := hbf.cell 2
          have j0' : Wf.cell? ⟨w.heap.size, 0, none⟩ = some (.bool true) := j0
          have j1' : Wf.cell? ⟨w.heap.size, 1, none⟩ = some (.slice Ac n.cells.length cc) := j1
          have j2' : Wf.cell? ⟨w.heap.size, 2, none⟩ = some (.slice Ak n.kids.length ck) := j2
          clear j0 j1 j2
          simp [results, Tryz.results98, go_sem, j0', j1', j2']
  | false =>
    rw [hleaf] at hlf; cases hlf
end Go.Proofs.YthohbbaglceppaaGreatDoor
