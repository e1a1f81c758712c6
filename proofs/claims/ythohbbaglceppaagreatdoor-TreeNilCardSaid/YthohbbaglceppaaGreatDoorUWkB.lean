/-
  Contract of inquestlaw19.wakes.
-/
import Derived.Test.YthohbbaglceppaaGreatDoorUQ
import Derived.Test.YthohbbaglceppaaGreatDoorUC
import Derived.Test.YthohbbaglceppaaGreatDoorUTE
import Derived.Lib.SlBytesConst
namespace Go.Proofs.YthohbbaglceppaaGreatDoor
open Go.RowKit Go.Maps
set_option linter.unusedVariables false
/-- A tree of a new store. -/
structure NTree (w : World) (gt gp : Nat) (F : Nat → Prop) (st : PgS) (w' : World) : Prop where
  pg : PgAt w' F gp st
  tr : TreeAt w' F gt gp 0
  bl : Below w.heap.size w w'
  up : ∀ k, F k → w.heap.size ≤ k
theorem NTree.alloc {w w' : World} {gt gp : Nat} {F : Nat → Prop} {st : PgS} (h : NTree w gt gp F st w') (o : Obj) : NTree w gt gp F st (w'.alloc o) :=
  ⟨h.pg.alloc o, h.tr.ev ((Ev.refl F w').alloc_ o), h.bl.alloc h.bl.size o, h.up⟩
theorem NTree.ev {w w' w'' : World} {gt gp : Nat} {F F' : Nat → Prop} {st st' : PgS} (h : NTree w gt gp F st w') (he : Ev F w' F' w'') (hp : PgAt w'' F' gp st') : NTree w gt gp F' st' w'' :=
  ⟨hp, h.tr.ev he, h.bl.trans (Only.below he.only h.up h.bl.size), fun k hk => by
    rcases he.grow k hk with h1 | h1
    · exact h.up k h1
    · have := h.bl.size; omega⟩
theorem mb_new (w : World) (F : Nat → Prop) (hF : ∀ k, F k → k < w.heap.size) (l : List UInt8) (fr : Nat × Nat) (w' : World) (hB : Below (w.heap.size + 1) (w.alloc (.cells (bv l).toArray 5 fr)) w') : MB F w' (some ⟨w.heap.size, 0, none⟩) l.length l := by
  have hz : (w.alloc (.cells (bv l).toArray 5 fr)).heap.size = w.heap.size + 1 := World.size_alloc _ _
  have hs := hB.size
  refine ⟨by simp [bv], fun _ => ⟨_, rfl, ⟨by show w.heap.size < _; omega, fun hf => by have h9 : w.heap.size < w.heap.size := hF _ hf; omega⟩, fun j u hj => ?_⟩⟩
  rw [show (⟨w.heap.size, 0, none⟩ : Addr).add j = ⟨w.heap.size, 0 + j, none⟩ from Addr.add_mid _ _ _, Nat.zero_add]
  rw [hB.cell (p := ⟨w.heap.size, j, none⟩) (by show w.heap.size < _; omega)]
  rw [cell_of_row _ w.heap.size j (bv l).toArray 5 fr (heap_alloc_new w _)]
  simpa using hj
set_option maxRecDepth 100000 in
set_option maxHeartbeats 1000000 in
theorem wakes_any (w : World) : Calls Tryz.prog 9 #[] w fun e w' => e = .returned (.bool true) ∧ Below w.heap.size w w' := by
  have hnew : Hid (Calls Tryz.prog 11 #[.int .i64 1000] w (FNewRet w 1000)) := hide (fnew_any w 1000 (by omega) (by omega))
  have kc := fun (wx : World) (C : Array Value) (n c : Nat) => Lib.run_convert_bytes_const (P := Tryz.prog) wx 37 5 C n c Tryz.underlying37 Tryz.underlying5
  go_enter Tryz.func9, Tryz.ntmps9
  go_wp2_with fail
  refine hnew.out.mono ?_
  rintro e w1 ⟨gf, bm, rfl, hfs, hB1⟩
  have hf0 := hfs (dbN [120]) (logN [120]) (db_ne [120])
  have hf : FSAt w1 0 gf bm 1000 0 (dbN [120]) (logN [120]) none none := ⟨hf0.st, hf0.mp, hf0.ne, Nat.zero_le _, Nat.zero_le _⟩
  have hg1 := hf0.gB
  have hg2 := hf0.bB
  have hop : Hid (Calls Tryz.prog 10 #[.pointer (some ⟨gf, 0, none⟩), .string ⟨#[120]⟩] w1 (OpRet w1 gf bm [120])) := hide (open_new w1 gf bm 1000 0 [120] hf name_d name_l (by decide) (by decide) (by omega) (by omega) (by omega))
  replace hfs := hide hfs
  replace hf0 := hide hf0
  replace hf := hide hf
  replace hB1 := hide hB1
  clear hnew
  go_wp2_with fail
  refine hop.out.mono ?_
  rintro e w2 ⟨gp, gm, gc0, rfl, g1, g2, hbp, him, hFr⟩
  have hP2 := pg_at hbp him
  obtain ⟨F, hF⟩ : ∃ F : Nat → Prop, F = (fun k => k = gp ∨ k = gm) := ⟨_, rfl⟩
  rw [← hF] at hP2
  have hFB : ∀ k, F k → w.heap.size ≤ k := fun k hk => by
    have := hB1.out.size
    rw [hF] at hk
    rcases hk with rfl | rfl <;> omega
  have hB2 : Below w.heap.size w w2 := hB1.out.trans (Only.below hFr (fun k hk => by
    have := hB1.out.size
    rcases hk with rfl | rfl | hk <;> omega) hB1.out.size)
  have hO3 : Below w2.heap.size w2 (w2.alloc (.cells #[.pointer (some ⟨gp, 0, none⟩), .int .i64 0] 93)) := (Below.refl _ _).alloc (Nat.le_refl _) _
  have htn : Hid (Calls Tryz.prog 12 #[.pointer (some ⟨gp, 0, none⟩), .int .i64 0] w2 fun e w' => e = .returned (.tuple #[.pointer (some ⟨w2.heap.size, 0, none⟩), .int .i64 0]) ∧ w' = w2.alloc (.cells #[.pointer (some ⟨gp, 0, none⟩), .int .i64 0] 93)) := hide (tnew_any w2 gp 0 (by omega))
  have kc2 : ∀ (wx : World) (o : Obj) (C : Array Value) (n c : Nat), (convert 37 37 (.slice (some ⟨wx.heap.size + 1, 0, none⟩) n c)).run Tryz.prog ((wx.alloc o).alloc (.cells C 5)) = .ok (.slice (some ⟨wx.heap.size + 1, 0, none⟩) n c) ((wx.alloc o).alloc (.cells C 5 (C.size, C.size + 1))) := fun wx o C n c => by
    have := kc (wx.alloc o) C n c
    rw [World.size_alloc] at this
    exact this
  have hT3 : ∀ W, W = w2.alloc (.cells #[.pointer (some ⟨gp, 0, none⟩), .int .i64 0] 93) → NTree w w2.heap.size gp F hd1 W := fun W hW => by
    rw [hW]
    exact ⟨hP2.alloc _, ⟨Blk.new w2 93 _, fun hf => by have := hP2.lt _ hf; omega⟩, hB2.trans (hO3.mono hB2.size), hFB⟩
  obtain ⟨gt, hgt⟩ : ∃ gt, gt = w2.heap.size := ⟨_, rfl⟩
  rw [← hgt] at htn hT3
  replace hT3 := hide hT3
  replace hB2 := hide hB2
  replace hO3 := hide hO3
  replace hP2 := hide hP2
  replace hbp := hide hbp
  replace him := hide him
  replace hFr := hide hFr
  replace hF := hide hF
  replace hFB := hide hFB
  replace hgt := hide hgt
  clear hop
  go_wp2_with fail
  refine htn.out.mono ?_
  rintro e w3 ⟨rfl, hw3⟩
  have hT := hide (hT3.out w3 hw3)
  clear htn hw3 hT3
  obtain ⟨o1, ho1⟩ : ∃ o1, o1 = Obj.cells (bv [98]).toArray 5 (1, 2) := ⟨_, rfl⟩
  obtain ⟨o2, ho2⟩ : ∃ o2, o2 = Obj.cells (bv [50]).toArray 5 (1, 2) := ⟨_, rfl⟩
  have hT5 := (hT.out.alloc o1).alloc o2
  have hz1 : (w3.alloc o1).heap.size = w3.heap.size + 1 := World.size_alloc _ _
  have hk1 : MB F ((w3.alloc o1).alloc o2) (some ⟨w3.heap.size, 0, none⟩) 1 [98] := by
    rw [ho1]
    exact mb_new w3 F hT.out.pg.lt [98] (1, 2) _ ((Below.refl _ _).alloc (by rw [← ho1, hz1]; exact Nat.le_refl _) _)
  have hv1 : MB F ((w3.alloc o1).alloc o2) (some ⟨w3.heap.size + 1, 0, none⟩) 1 [50] := by
    have := mb_new (w3.alloc o1) F (hT.out.alloc o1).pg.lt [50] (1, 2) ((w3.alloc o1).alloc o2) (by rw [ho2]; exact Below.refl _ _)
    rw [hz1] at this
    exact this
  have hp1 : Hid (∀ W, W = (w3.alloc o1).alloc o2 → Calls Tryz.prog 14 #[.pointer (some ⟨gt, 0, none⟩), .slice (some ⟨w3.heap.size, 0, none⟩) 1 1, .slice (some ⟨w3.heap.size + 1, 0, none⟩) 1 1] W (PgEnd F W gp stA (.int .i64 0))) := hide fun W hW => by
    rw [hW]
    exact put_first ((w3.alloc o1).alloc o2) F gt gp 0 hd1 hT5.pg hT5.tr (by omega) [98] [50] _ _ 1 1 hk1 hv1 (by decide) (by decide) (by decide) rfl al1 (by decide) save1 (by decide)
  replace hT5 := hide hT5
  replace hk1 := hide hk1
  replace hv1 := hide hv1
  clear hz1
  go_upto_region 5 with (fail)
  go_wp2_with fail
  refine (hp1.out _ (by rw [ho1, ho2]; rfl)).mono ?_
  rintro e w4 ⟨rfl, F2, hP4, hE4⟩
  have hT6 := hide (hT5.out.ev (by rw [ho1, ho2]; exact hE4) hP4)
  replace hE4 := hide hE4
  replace hP4 := hide hP4
  replace ho1 := hide ho1
  replace ho2 := hide ho2
  clear hp1 hT5 hk1 hv1
  obtain ⟨o3, ho3⟩ : ∃ o3, o3 = Obj.cells (bv [97]).toArray 5 (1, 2) := ⟨_, rfl⟩
  obtain ⟨o4, ho4⟩ : ∃ o4, o4 = Obj.cells (bv [49]).toArray 5 (1, 2) := ⟨_, rfl⟩
  have hT7 := (hT6.out.alloc o3).alloc o4
  have hz1 : (w4.alloc o3).heap.size = w4.heap.size + 1 := World.size_alloc _ _
  have hk1 : MB F2 ((w4.alloc o3).alloc o4) (some ⟨w4.heap.size, 0, none⟩) 1 [97] := by
    rw [ho3]
    exact mb_new w4 F2 hT6.out.pg.lt [97] (1, 2) _ ((Below.refl _ _).alloc (by rw [← ho3, hz1]; exact Nat.le_refl _) _)
  have hv1 : MB F2 ((w4.alloc o3).alloc o4) (some ⟨w4.heap.size + 1, 0, none⟩) 1 [49] := by
    have := mb_new (w4.alloc o3) F2 (hT6.out.alloc o3).pg.lt [49] (1, 2) ((w4.alloc o3).alloc o4) (by rw [ho4]; exact Below.refl _ _)
    rw [hz1] at this
    exact this
  have hp1 : Hid (∀ W, W = (w4.alloc o3).alloc o4 → Calls Tryz.prog 14 #[.pointer (some ⟨gt, 0, none⟩), .slice (some ⟨w4.heap.size, 0, none⟩) 1 1, .slice (some ⟨w4.heap.size + 1, 0, none⟩) 1 1] W (PgEnd F2 W gp stB (.int .i64 0))) := hide fun W hW => by
    rw [hW]
    exact put_more ((w4.alloc o3).alloc o4) F2 gt gp 0 stA hT7.pg hT7.tr (by omega) [97] [49] _ _ 1 1 hk1 hv1 (by decide) (by decide) (by decide) 1 root1 (by decide) nd1 nd2 load1 rfl (by rw [find1]) ins1 save2
  replace hT7 := hide hT7
  replace hk1 := hide hk1
  replace hv1 := hide hv1
  clear hz1
  go_wp2_with fail
  refine (hp1.out _ (by rw [ho3, ho4]; rfl)).mono ?_
  rintro e w5 ⟨rfl, F3, hP5, hE5⟩
  have hT8 := hide (hT7.out.ev (by rw [ho3, ho4]; exact hE5) hP5)
  replace hE5 := hide hE5
  replace hP5 := hide hP5
  replace ho3 := hide ho3
  replace ho4 := hide ho4
  clear hp1 hT7 hk1 hv1 kc kc2
  have hsk : Hid (Calls Tryz.prog 32 #[.pointer (some ⟨gt, 0, none⟩), .slice none 0 0] w5 fun e w' => ∃ gc, e = .returned (.pointer (some ⟨gc, 0, none⟩)) ∧ Below w5.heap.size w5 w' ∧ w5.heap.size ≤ gc ∧ CurAt F3 (fun j => j = gc) w' gc gt [] [] (stB.roots 0 : Int) 0) :=
    hide (seek_any w5 F3 gt gp 0 stB hT8.out.pg hT8.out.tr (by omega) [] none 0 Rd.none_ (by decide))
  go_upto_region 7 with (fail)
  go_wp2_with fail
  refine hsk.out.mono ?_
  rintro e w6 ⟨gc, rfl, hB6, hgc, hcu⟩
  have hT9 : NTree w gt gp F3 stB w6 := hT8.out.ev (Ev.of_below hB6) (hT8.out.pg.below hB6)
  have hgt5 := hT8.out.tr.blk.lt
  have hnx : Hid (Calls Tryz.prog 31 #[.pointer (some ⟨gc, 0, none⟩)] w6 (NxEnd F3 (fun j => j = gc) w6 gp stB gc gt [(nd2, 1)] [] celA)) :=
    hide (cnext_first w6 F3 (fun j => j = gc) gc gt gp 0 stB hT9.pg ⟨hT9.tr.blk, by
      rintro (hf | hf)
      · exact hT9.tr.out hf
      · have h9 : gt = gc := hf
        omega⟩ [] 1 hcu (by omega) nd2 load2 rfl 0 find2.symm celA rfl rfl (by decide) (by decide))
  have hB9 := hT9.bl
  have hUp := hide hT9.up
  replace hT9 := hide hT9
  replace hcu := hide hcu
  replace hB6 := hide hB6
  replace hB9 := hide hB9
  clear hsk
  go_wp2_with fail
  refine hnx.out.mono ?_
  rintro e w7 ⟨F4, C4, kA, kk, vA, vv, rfl, rk, rv, _, _, hP7, _, hE7⟩
  have hs1 : (convert 37 9 (.slice kA 1 kk)).run Tryz.prog w7 = .ok (.string ⟨#[97]⟩) w7 := run_str_of rk
  have hs2 : (convert 37 9 (.slice vA 1 vv)).run Tryz.prog w7 = .ok (.string ⟨#[49]⟩) w7 := run_str_of rv
  have hend : Hid (Below w.heap.size w w7) := hide (hB9.out.trans (Only.below hE7.only (fun k hk => by
    rcases hk with hk | hk
    · exact hUp.out k hk
    · have h9 : k = gc := hk
      have := hT8.out.bl.size
      omega) hB9.out.size))
  replace rk := hide rk
  replace rv := hide rv
  replace hP7 := hide hP7
  replace hE7 := hide hE7
  clear hnx
  rw [show celA.key.length = 1 from rfl, show celA.val.length = 1 from rfl]
  go_wp2_with fail
  go_ret
  exact ⟨rfl, hend.out⟩
end Go.Proofs.YthohbbaglceppaaGreatDoor
