/-
  Contracts of cat.pack, order.
-/
import Derived.Test.YtiffnfgmkkoaeaaGreatDoorBnCatA
import Derived.Test.YtiffnfgmkkoaeaaGreatDoorBnGr2
import Derived.Lib.AppendZeros
namespace Go.Proofs.YtiffnfgmkkoaeaaGreatDoor
open Go.RowKit
set_option linter.unusedVariables false
theorem RN.of_blk {w : World} {g : Nat} {t : TypeId} {ns : List Nat} (h : Blk w g t (ns.map encI).toArray) : RN w w.heap.size (some ⟨g, 0, none⟩) ns.length ns := by
  refine ⟨by simp, fun _ => ⟨_, rfl, h.lt, fun j u hj => ?_⟩⟩
  rw [show (⟨g, 0, none⟩ : Addr).add j = ⟨g, j, none⟩ from by unfold Addr.add; split <;> simp_all]
  rw [h.cell]
  simpa using hj
theorem RI.of_blk {w : World} {g : Nat} {t : TypeId} {zs : List Int} (h : Blk w g t (iv zs).toArray) : RI w w.heap.size (some ⟨g, 0, none⟩) zs.length zs := by
  refine ⟨by simp [iv], fun _ => ⟨_, rfl, h.lt, fun j u hj => ?_⟩⟩
  rw [show (⟨g, 0, none⟩ : Addr).add j = ⟨g, j, none⟩ from by unfold Addr.add; split <;> simp_all]
  rw [h.cell]
  simpa using hj
theorem RS.of_blk {w : World} {g : Nat} {t : TypeId} {s : ByteArray} (h : Blk w g t #[.string s]) : RS w w.heap.size (some ⟨g, 0, none⟩) 1 [s] := by
  refine ⟨by simp, fun _ => ⟨_, rfl, h.lt, fun j u hj => ?_⟩⟩
  rw [show (⟨g, 0, none⟩ : Addr).add j = ⟨g, j, none⟩ from by unfold Addr.add; split <;> simp_all]
  rw [h.cell]
  match j, hj with
  | 0, hj => simpa using hj
theorem blk_second (w : World) (o : Obj) (t : TypeId) (cs : Array Value) : Blk ((w.alloc o).alloc (.cells cs t)) (w.heap.size + 1) t cs := by
  have q := Blk.new (w.alloc o) t cs
  rw [World.size_alloc] at q
  exact q
theorem below_two (w : World) (o1 o2 : Obj) : Below w.heap.size w ((w.alloc o1).alloc o2) := ((Below.refl _ w).alloc (Nat.le_refl _) o1).alloc (by simp) o2
theorem rb_allocs {w : World} {A : Option Addr} {n : Nat} {l : List UInt8} (h : RB w w.heap.size A n l) (o : Obj) : RB (w.alloc o) (w.alloc o).heap.size A n l := (h.alloc (Nat.le_refl _) o).more (by simp)
theorem rb_allocs_drew {w : World} {A : Option Addr} {n : Nat} {l : List UInt8} (h : RB w w.heap.size A n l) (o : Obj) : RB (w.alloc o).drew (w.alloc o).drew.heap.size A n l := rb_allocs h o
/-- append(v, s...), a string, run. -/
theorem run_app_s (w : World) (base : Nat) (v : Value) (n : Nat) (l : List UInt8) (hown : OB w base v n l) (z : ByteArray) (hlen : n + z.size ≤ 140737488351232) (hbase : base ≤ w.heap.size) {ty : TypeId} :
    ∃ v' w', (Builtin.append_ #[62, 9] ty #[v, .string z]).run Tryz.prog w = .ok v' w' ∧ OB w' base v' (n + z.size) (l ++ z.data.toList) ∧ Below base w w' := by
  obtain ⟨i0, hi0, hz0, hz1, hz2⟩ := info_parts byte_info
  obtain ⟨v', w', h1, h2, h3, _⟩ := Lib.run_append_own_string (P := Tryz.prog) (w := w) base 62 9 ty 5 i0 Tryz.underlying62 Tryz.underlying9 hi0 hz0 hz1 hz2 v n (bv l) hown z (by simp only [maxLen]; omega) (by omega) hbase
  rw [show Lib.strCells z = bv z.data.toList from rfl, ← bv_append] at h2
  exact ⟨v', w', h1, h2, (Below.refl _ _).grown h3 hbase fun k hk => hown.block_lt k hk⟩
/-- word.Put at numbers of a block of their own. -/
theorem wput_blk (wx : World) (A : Option Addr) (n c k g : Nat) (b : List UInt8) (t : TypeId) (ns : List Nat) (hb : RB wx wx.heap.size A n b) (cs : Array Value) (hg : Blk wx g t cs) (hcs : cs = (ns.map encI).toArray) (hn : n ≤ 10000000) (hm : ns.length ≤ 1000) (hk1 : 1 ≤ k) (hk7 : k ≤ 7) (hx : ∀ x ∈ ns, x < 9223372036854775808) :
    Calls Tryz.prog 36 #[.slice A n c, .int .i64 (k : Int), .slice (some ⟨g, 0, none⟩) ns.length ns.length] wx (BytesRet wx (b ++ leBs k ns)) :=
  wput_any wx A _ n c ns.length ns.length k b ns hb (RN.of_blk (by rw [← hcs]; exact hg)) hn hm hk1 hk7 hx
/-- A file whose numbers are none below nought. -/
structure FileN where
  name : List UInt8
  meth : Nat
  dos : Nat
  crc : Nat
  csize : Nat
  size : Nat
  at_ : Nat
def FileN.c (f : FileN) : FileC := ⟨f.name, f.meth, f.dos, f.crc, f.csize, f.size, f.at_⟩
def packF (f : FileN) : List UInt8 := leBs 1 [f.meth] ++ leBs 4 [f.dos, f.crc, f.csize, f.at_] ++ leBs 6 [f.size] ++ f.name
structure FileN.ok (f : FileN) : Prop where
  name : f.name.length ≤ 1000
  meth : f.meth < 9223372036854775808
  dos : f.dos < 9223372036854775808
  crc : f.crc < 4294967296
  csize : f.csize < 9223372036854775808
  size : f.size < 9223372036854775808
  at_ : f.at_ < 9223372036854775808
set_option maxRecDepth 100000 in
set_option maxHeartbeats 2000000 in
theorem pack_any2 (w : World) (f : FileN) (hf : f.ok) : Calls Tryz.prog 76 #[.agg #[.string (str f.name), .int .i64 (f.meth : Int), .int .i64 (f.dos : Int), .int .u32 (f.crc : Int), .int .i64 (f.csize : Int), .int .i64 (f.size : Int), .int .i64 (f.at_ : Int)]] w (RetB w (packF f)) := by
  obtain ⟨nm, me, ds, cr, cs, si, at_⟩ := f
  obtain ⟨h0, h1, h2, h3, h4, h5, h6⟩ := hf
  simp only at *
  obtain ⟨o, ho⟩ : ∃ o, o = Obj.cells #[.string (str nm), .int .i64 (me : Int), .int .i64 (ds : Int), .int .u32 (cr : Int), .int .i64 (cs : Int), .int .i64 (si : Int), .int .i64 (at_ : Int)] 37 := ⟨_, rfl⟩
  obtain ⟨w1, hw1⟩ : ∃ w1, w1 = w.alloc o := ⟨_, rfl⟩
  have hB0 : Below w.heap.size w w1 := by rw [hw1]; exact (Below.refl _ _).alloc (Nat.le_refl _) o
  obtain ⟨g, hg⟩ : ∃ g, g = w.heap.size := ⟨_, rfl⟩
  have hb0 : Blk w1 g 37 #[.string (str nm), .int .i64 (me : Int), .int .i64 (ds : Int), .int .u32 (cr : Int), .int .i64 (cs : Int), .int .i64 (si : Int), .int .i64 (at_ : Int)] := by rw [hw1, ho, hg]; exact Blk.new w 37 _
  have hgl : g < w1.heap.size := hb0.lt
  have c0 := hb0.cell 0
  have c1 := hb0.cell 1
  have c2 := hb0.cell 2
  have c3 := hb0.cell 3
  have c4 := hb0.cell 4
  have c5 := hb0.cell 5
  have c6 := hb0.cell 6
  have hw1a : Hid (w1 = w.alloc (.cells #[.string (str nm), .int .i64 (me : Int), .int .i64 (ds : Int), .int .u32 (cr : Int), .int .i64 (cs : Int), .int .i64 (si : Int), .int .i64 (at_ : Int)] 37)) := hide (by rw [hw1, ho])
  have hwr : IntKind.i64.wrap (cr : Int) = (cr : Int) := IntWalk.i64_in _ (by omega)
  have hx1 : Hid (∀ x ∈ [me], x < 9223372036854775808) := hide (by simpa using h1)
  have hx4 : Hid (∀ x ∈ [ds, cr, cs, at_], x < 9223372036854775808) := hide (by intro x hx; simp at hx; rcases hx with rfl | rfl | rfl | rfl <;> omega)
  have hx6 : Hid (∀ x ∈ [si], x < 9223372036854775808) := hide (by simpa using h5)
  replace h1 := hide h1
  replace h2 := hide h2
  replace h3 := hide h3
  replace h4 := hide h4
  replace h5 := hide h5
  replace h6 := hide h6
  replace ho := hide ho
  replace hw1 := hide hw1
  replace hg := hide hg
  have hkp : Hid (∀ w', Below w1.heap.size w1 w' → w'.cell? ⟨g, 1, none⟩ = some (.int .i64 (me : Int)) ∧ w'.cell? ⟨g, 2, none⟩ = some (.int .i64 (ds : Int)) ∧ w'.cell? ⟨g, 3, none⟩ = some (.int .u32 (cr : Int)) ∧ w'.cell? ⟨g, 4, none⟩ = some (.int .i64 (cs : Int)) ∧ w'.cell? ⟨g, 6, none⟩ = some (.int .i64 (at_ : Int))) := hide fun W hW => by
    have q := hb0.below hW hgl
    exact ⟨q.cell 1, q.cell 2, q.cell 3, q.cell 4, q.cell 6⟩
  have hkp2 : Hid (∀ w', Below w1.heap.size w1 w' → w'.cell? ⟨g, 0, none⟩ = some (.string (str nm)) ∧ w'.cell? ⟨g, 5, none⟩ = some (.int .i64 (si : Int))) := hide fun W hW => by
    have q := hb0.below hW hgl
    exact ⟨q.cell 0, q.cell 5⟩
  replace hb0 := hide hb0
  replace hB0 := hide hB0
  go_enter Tryz.func76, Tryz.ntmps76
  go_upto_region 1 with (fail)
  rw [← hw1a.out, ← hg.out]
  have hnm : 23 + (str nm).size ≤ 140737488351232 := by rw [str_size]; omega
  have hl17 : Hid ((leBs 1 [me] ++ leBs 4 [ds, cr, cs, at_]).length = 17) := hide (by rw [List.length_append, leBs_len, leBs_len]; rfl)
  have hl23 : Hid ((leBs 1 [me] ++ leBs 4 [ds, cr, cs, at_] ++ leBs 6 [si]).length = 23) := hide (by rw [List.length_append, List.length_append, leBs_len, leBs_len, leBs_len]; rfl)
  have hl1 : Hid ((leBs 1 [me]).length = 1) := hide (by rw [leBs_len]; rfl)
  go_region_held3 (fun w' => w'.cell? ⟨g, 1, none⟩ = some (.int .i64 (me : Int)) ∧ w'.cell? ⟨g, 2, none⟩ = some (.int .i64 (ds : Int)) ∧ w'.cell? ⟨g, 3, none⟩ = some (.int .u32 (cr : Int)) ∧ w'.cell? ⟨g, 4, none⟩ = some (.int .i64 (cs : Int)) ∧ w'.cell? ⟨g, 6, none⟩ = some (.int .i64 (at_ : Int))) (first | (exact ⟨c1, c2, c3, c4, c6⟩) | (with_reducible exact hkp.out _ hbA2) | (with_reducible exact hkp.out _ hbA) | (with_reducible exact hkp.out _ (hbA.alloc hbA.size _)) | (with_reducible exact hkp.out _ (hbA.alloc hbA.size _).drew) | go_keep) (first
    | (go_at_call 36; (fail_if_success (clear hra)); refine (wput_blk _ none 0 0 1 _ [] 3 [me] (RB.nil _ _) #[.int .i64 (me : Int)] (by first | (with_reducible exact (Blk.new _ _ _).drew) | (with_reducible exact ((Blk.new _ _ _).alloc _).drew) | (with_reducible exact (blk_second _ _ _ _).drew) | (with_reducible exact Blk.new _ _ _) | (with_reducible exact (Blk.new _ _ _).alloc _) | (with_reducible exact blk_second _ _ _ _)) rfl (by omega) (by simp) (by omega) (by omega) hx1.out).mono ?_; rintro e wa ⟨va, rfl, hOa, hBa⟩; rw [List.nil_append, hl1.out] at hOa; have hbA : Below w1.heap.size w1 wa := Below.trans (by first | (with_reducible exact ((Below.refl _ w1).alloc (Nat.le_refl _) _).drew) | (with_reducible exact (below_two w1 _ _).drew) | (with_reducible exact (Below.refl _ w1).alloc (Nat.le_refl _) _) | (with_reducible exact below_two w1 _ _) | (with_reducible exact (Below.refl _ w1).drew) | (with_reducible exact Below.refl _ w1)) (hBa.mono (by simp [World.drew] <;> omega)); obtain ⟨Aa, ca, rfl, hra, _, _, _⟩ := hOa.form; replace hOa := hide hOa; replace hBa := hide hBa; replace hra := hide hra)
    | (go_at_call 36; refine (wput_blk _ Aa 1 ca 4 _ (leBs 1 [me]) 3 [ds, cr, cs, at_] (by first | (with_reducible exact hra.out) | (with_reducible exact rb_allocs hra.out _) | (with_reducible exact rb_allocs_drew hra.out _)) #[.int .i64 (ds : Int), .int .i64 (cr : Int), .int .i64 (cs : Int), .int .i64 (at_ : Int)] (by first | (with_reducible exact (Blk.new _ _ _).drew) | (with_reducible exact Blk.new _ _ _) | (with_reducible exact ((Blk.new _ _ _).alloc _).drew.below hBa.out (by simp [World.drew] <;> omega)) | (with_reducible exact (blk_second _ _ _ _).drew.below hBa.out (by simp [World.drew] <;> omega))) rfl (by omega) (by simp) (by omega) (by omega) hx4.out).mono ?_; rintro e wb ⟨vb, rfl, hOb, hBb⟩; rw [hl17.out] at hOb; have hbA2 : Below w1.heap.size w1 wb := (by first | (with_reducible exact hbA.trans (hBb.mono hbA.size)) | (with_reducible exact (hbA.alloc hbA.size _).trans (hBb.mono (hbA.alloc hbA.size _).size))); obtain ⟨Ab, cb, rfl, hrb, _, _, _⟩ := hOb.form; have g0 := (hkp2.out _ hbA2).1; have g5 := (hkp2.out _ hbA2).2; have hkB := hide hbA2; replace hOb := hide hOb; replace hBb := hide hBb; replace hrb := hide hrb))
  all_goals
    go_upto_region 2 with (fail)
    have g0a : (wb.alloc (.cells #[.int .i64 (si : Int)] 3)).cell? ⟨g, 0, none⟩ = some (.string (str nm)) := (hkp2.out _ (hkB.out.alloc hkB.out.size _)).1
    go_region_law (first
      | (refine Lib.wp_append_run _ (.tmp 23) (.tmp 25) 62 9 rfl _ _ rfl rfl _ _ hrun ?_)
      | (go_simp; go_at_call 36; refine (wput_blk _ Ab 17 cb 6 _ (leBs 1 [me] ++ leBs 4 [ds, cr, cs, at_]) 3 [si] (by first | (with_reducible exact hrb.out) | (with_reducible exact rb_allocs hrb.out _) | (with_reducible exact rb_allocs_drew hrb.out _)) #[.int .i64 (si : Int)] (by first | (with_reducible exact (Blk.new _ _ _).drew) | (with_reducible exact ((Blk.new _ _ _).alloc _).drew) | (with_reducible exact (blk_second _ _ _ _).drew) | (with_reducible exact Blk.new _ _ _) | (with_reducible exact (Blk.new _ _ _).alloc _) | (with_reducible exact blk_second _ _ _ _)) rfl (by omega) (by simp) (by omega) (by omega) hx6.out).mono ?_; rintro e wc ⟨vc, rfl, hOc, hBc⟩; rw [hl23.out] at hOc; obtain ⟨Ac, cc, rfl, hrc, _, _, _⟩ := hOc.form; have hbA3 : Below w1.heap.size w1 wc := hkB.out.trans ((Below.trans (by first | (with_reducible exact ((Below.refl _ wb).alloc (Nat.le_refl _) _).drew) | (with_reducible exact (below_two wb _ _).drew) | (with_reducible exact (Below.refl _ wb).alloc (Nat.le_refl _) _) | (with_reducible exact below_two wb _ _) | (with_reducible exact (Below.refl _ wb).drew) | (with_reducible exact Below.refl _ wb)) (hBc.mono (by simp [World.drew] <;> omega))).mono hkB.out.size); have hOc1 : Hid (OB wc w1.heap.size (.slice Ac 23 cc) 23 (leBs 1 [me] ++ leBs 4 [ds, cr, cs, at_] ++ leBs 6 [si])) := hide (OB.more hOc (by have := hkB.out.size; simp [World.drew] <;> omega)); replace hBc := hide hBc; replace hOc := hide hOc; replace hrc := hide hrc; obtain ⟨v5, w5, hrun, hO5, hB5⟩ := run_app_s wc w1.heap.size _ 23 _ hOc1.out (str nm) hnm hbA3.size (ty := 62); have hdone : Hid (∃ l, OB w5 w1.heap.size v5 (23 + (str nm).size) l ∧ l = packF ⟨nm, me, ds, cr, cs, si, at_⟩ ∧ Below w1.heap.size w1 w5) := hide ⟨_, hO5, by rw [str_toList]; rfl, hbA3.trans hB5⟩; have g0c := (hkp2.out _ hbA3).1; replace hO5 := hide hO5; replace hB5 := hide hB5))
  all_goals
    obtain ⟨l5, q1, q2, q3⟩ := hdone.out
    have hfin : Hid (RetB w (packF ⟨nm, me, ds, cr, cs, si, at_⟩) (.returned v5) w5) := hide (by
      rw [← q2]
      have hs := hB0.out.size
      refine ⟨v5, rfl, ?_, hB0.out.trans (q3.mono hs)⟩
      have e9 := q1.len
      rw [e9]
      exact q1.more hs)
    clear hdone
    go_wp2_with fail
    go_ret
    exact hfin.out
end Go.Proofs.YtiffnfgmkkoaeaaGreatDoor
namespace Go.Proofs.YtiffnfgmkkoaeaaGreatDoor
open Go.RowKit
set_option linter.unusedVariables false
/-- The length beyond which the library compares otherwise: some number. -/
def MlAt (w : World) : Prop := 0 < w.heap.size ∧ ∃ m : Int, w.cell? ⟨0, 0, none⟩ = some (.int .i64 m)
theorem MlAt.below {w w' : World} (h : MlAt w) (hb : Below w.heap.size w w') : MlAt w' := by
  obtain ⟨h1, m, h2⟩ := h
  exact ⟨Nat.lt_of_lt_of_le h1 hb.size, m, (hb.cell (p := ⟨0, 0, none⟩) h1).trans h2⟩
def orderKey (by_ : Nat) (f : FileN) : List UInt8 := if by_ = 0 then textsB [str f.name] else if by_ = 1 then numsB [(f.size : Int)] else if by_ = 2 then numsB [(f.dos : Int)] else numsB [(f.crc : Int)]
def numF (p : Nat) (f : FileN) : Nat := if p = 2 then f.size else if p = 3 then f.dos else f.crc
def fileN (f : FileN) : Array Value := #[.string (str f.name), .int .i64 (f.meth : Int), .int .i64 (f.dos : Int), .int .u32 (f.crc : Int), .int .i64 (f.csize : Int), .int .i64 (f.size : Int), .int .i64 (f.at_ : Int)]
set_option maxRecDepth 100000 in
theorem order1_any (w : World) (g : Nat) (f : FileN) (hf : f.ok) (hb : Blk w g 37 (fileN f)) (hm : MlAt w) : Calls Tryz.prog 87 #[.pointer (some ⟨g, 0, none⟩)] w (RetB w (textsB [str f.name])) := by
  have c0 : w.cell? ⟨g, 0, none⟩ = some (.string (str f.name)) := hb.cell 0
  have hB := (Below.refl w.heap.size w).alloc (Nat.le_refl _) (.cells #[.string (str f.name)] 9)
  obtain ⟨h1, m, h2⟩ := hm.below ((Below.refl w.heap.size w).alloc (Nat.le_refl _) (.cells #[.string (str f.name)] 9))
  have ht := hide (text_any2 none _ 0 1 0 1 [] [str f.name] m _ (RB.nil _ _) (RS.lit1 w (str f.name) 9) (by omega) (by omega) (by intro t ht; simp at ht; rw [ht, str_size]; have := hf.name; omega) h1 h2)
  rw [List.nil_append] at ht
  replace hb := hide hb
  replace hm := hide hm
  replace hB := hide hB
  replace hf := hide hf
  clear h2
  go_enter Tryz.func87, Tryz.ntmps87
  go_wp2_with fail
  refine ht.out.mono ?_
  rintro e w1 ⟨v, rfl, hO, hB1⟩
  have hfin : Hid (RetB w (textsB [str f.name]) (.returned v) w1) := hide ⟨v, rfl, hO.more (by simp), hB.out.trans (hB1.mono (by simp))⟩
  replace hO := hide hO
  replace hB1 := hide hB1
  go_wp2_with fail
  go_ret
  exact hfin.out
set_option maxRecDepth 100000 in
theorem order2_any (w : World) (g : Nat) (f : FileN) (hf : f.ok) (hb : Blk w g 37 (fileN f)) : Calls Tryz.prog 88 #[.pointer (some ⟨g, 0, none⟩)] w (RetB w (numsB [(numF 2 f : Int)])) := by
  have hc := hf.crc
  obtain ⟨nm, me, ds, cr, cs, si, at_⟩ := f
  simp only [fileN] at *
  have c2 : w.cell? ⟨g, 2, none⟩ = some (.int .i64 (ds : Int)) := hb.cell 2
  have c3 : w.cell? ⟨g, 3, none⟩ = some (.int .u32 (cr : Int)) := hb.cell 3
  have c5 : w.cell? ⟨g, 5, none⟩ = some (.int .i64 (si : Int)) := hb.cell 5
  have hwr : IntKind.i64.wrap (cr : Int) = (cr : Int) := IntWalk.i64_in _ (by omega)
  obtain ⟨z, hz⟩ : ∃ z : Nat, z = numF 2 ⟨nm, me, ds, cr, cs, si, at_⟩ := ⟨_, rfl⟩
  have hB := (Below.refl w.heap.size w).alloc (Nat.le_refl _) (.cells #[.int .i64 (z : Int)] 3)
  have ht := hide (num_any none _ 0 1 0 1 [] [(z : Int)] _ (RB.nil _ _) (RI.lits w [(z : Int)] 3 1 rfl) (by omega) (by omega))
  rw [List.nil_append] at ht
  rw [← hz]
  simp [numF] at hz
  subst hz
  replace hb := hide hb
  replace hB := hide hB
  replace hf := hide hf
  clear hc
  go_enter Tryz.func88, Tryz.ntmps88
  go_wp2_with fail
  refine ht.out.mono ?_
  rintro e w1 ⟨v, rfl, hO, hB1⟩
  have hfin := hide (show RetB w _ (.returned v) w1 from ⟨v, rfl, hO.more (by simp), hB.out.trans (hB1.mono (by simp))⟩)
  replace hO := hide hO
  replace hB1 := hide hB1
  go_wp2_with fail
  go_ret
  exact hfin.out
set_option maxRecDepth 100000 in
theorem order3_any (w : World) (g : Nat) (f : FileN) (hf : f.ok) (hb : Blk w g 37 (fileN f)) : Calls Tryz.prog 89 #[.pointer (some ⟨g, 0, none⟩)] w (RetB w (numsB [(numF 3 f : Int)])) := by
  have hc := hf.crc
  obtain ⟨nm, me, ds, cr, cs, si, at_⟩ := f
  simp only [fileN] at *
  have c2 : w.cell? ⟨g, 2, none⟩ = some (.int .i64 (ds : Int)) := hb.cell 2
  have c3 : w.cell? ⟨g, 3, none⟩ = some (.int .u32 (cr : Int)) := hb.cell 3
  have c5 : w.cell? ⟨g, 5, none⟩ = some (.int .i64 (si : Int)) := hb.cell 5
  have hwr : IntKind.i64.wrap (cr : Int) = (cr : Int) := IntWalk.i64_in _ (by omega)
  obtain ⟨z, hz⟩ : ∃ z : Nat, z = numF 3 ⟨nm, me, ds, cr, cs, si, at_⟩ := ⟨_, rfl⟩
  have hB := (Below.refl w.heap.size w).alloc (Nat.le_refl _) (.cells #[.int .i64 (z : Int)] 3)
  have ht := hide (num_any none _ 0 1 0 1 [] [(z : Int)] _ (RB.nil _ _) (RI.lits w [(z : Int)] 3 1 rfl) (by omega) (by omega))
  rw [List.nil_append] at ht
  rw [← hz]
  simp [numF] at hz
  subst hz
  replace hb := hide hb
  replace hB := hide hB
  replace hf := hide hf
  clear hc
  go_enter Tryz.func89, Tryz.ntmps89
  go_wp2_with fail
  refine ht.out.mono ?_
  rintro e w1 ⟨v, rfl, hO, hB1⟩
  have hfin := hide (show RetB w _ (.returned v) w1 from ⟨v, rfl, hO.more (by simp), hB.out.trans (hB1.mono (by simp))⟩)
  replace hO := hide hO
  replace hB1 := hide hB1
  go_wp2_with fail
  go_ret
  exact hfin.out
set_option maxRecDepth 100000 in
theorem order4_any (w : World) (g : Nat) (f : FileN) (hf : f.ok) (hb : Blk w g 37 (fileN f)) : Calls Tryz.prog 90 #[.pointer (some ⟨g, 0, none⟩)] w (RetB w (numsB [(numF 4 f : Int)])) := by
  have hc := hf.crc
  obtain ⟨nm, me, ds, cr, cs, si, at_⟩ := f
  simp only [fileN] at *
  have c2 : w.cell? ⟨g, 2, none⟩ = some (.int .i64 (ds : Int)) := hb.cell 2
  have c3 : w.cell? ⟨g, 3, none⟩ = some (.int .u32 (cr : Int)) := hb.cell 3
  have c5 : w.cell? ⟨g, 5, none⟩ = some (.int .i64 (si : Int)) := hb.cell 5
  have hwr : IntKind.i64.wrap (cr : Int) = (cr : Int) := IntWalk.i64_in _ (by omega)
  obtain ⟨z, hz⟩ : ∃ z : Nat, z = numF 4 ⟨nm, me, ds, cr, cs, si, at_⟩ := ⟨_, rfl⟩
  have hB := (Below.refl w.heap.size w).alloc (Nat.le_refl _) (.cells #[.int .i64 (z : Int)] 3)
  have ht := hide (num_any none _ 0 1 0 1 [] [(z : Int)] _ (RB.nil _ _) (RI.lits w [(z : Int)] 3 1 rfl) (by omega) (by omega))
  rw [List.nil_append] at ht
  rw [← hz]
  simp [numF] at hz
  subst hz
  replace hb := hide hb
  replace hB := hide hB
  replace hf := hide hf
  clear hc
  go_enter Tryz.func90, Tryz.ntmps90
  go_wp2_with fail
  refine ht.out.mono ?_
  rintro e w1 ⟨v, rfl, hO, hB1⟩
  have hfin := hide (show RetB w _ (.returned v) w1 from ⟨v, rfl, hO.more (by simp), hB.out.trans (hB1.mono (by simp))⟩)
  replace hO := hide hO
  replace hB1 := hide hB1
  go_wp2_with fail
  go_ret
  exact hfin.out
theorem fns_0 (g : Nat) : ∀ wx, (Instr.index 153 (.agg #[.func (Fn.func 87) #[] #[.pointer (some ⟨g, 0, none⟩)], .func (Fn.func 88) #[] #[.pointer (some ⟨g, 0, none⟩)], .func (Fn.func 89) #[] #[.pointer (some ⟨g, 0, none⟩)], .func (Fn.func 90) #[] #[.pointer (some ⟨g, 0, none⟩)]]) (.int .i64 0)).run Tryz.prog wx = .ok (#[Value.func (Fn.func 87) #[] #[.pointer (some ⟨g, 0, none⟩)], .func (Fn.func 88) #[] #[.pointer (some ⟨g, 0, none⟩)], .func (Fn.func 89) #[] #[.pointer (some ⟨g, 0, none⟩)], .func (Fn.func 90) #[] #[.pointer (some ⟨g, 0, none⟩)]][0]!) wx := fun _ => by kernel_rfl
theorem fns_1 (g : Nat) : ∀ wx, (Instr.index 153 (.agg #[.func (Fn.func 87) #[] #[.pointer (some ⟨g, 0, none⟩)], .func (Fn.func 88) #[] #[.pointer (some ⟨g, 0, none⟩)], .func (Fn.func 89) #[] #[.pointer (some ⟨g, 0, none⟩)], .func (Fn.func 90) #[] #[.pointer (some ⟨g, 0, none⟩)]]) (.int .i64 1)).run Tryz.prog wx = .ok (#[Value.func (Fn.func 87) #[] #[.pointer (some ⟨g, 0, none⟩)], .func (Fn.func 88) #[] #[.pointer (some ⟨g, 0, none⟩)], .func (Fn.func 89) #[] #[.pointer (some ⟨g, 0, none⟩)], .func (Fn.func 90) #[] #[.pointer (some ⟨g, 0, none⟩)]][1]!) wx := fun _ => by kernel_rfl
theorem fns_2 (g : Nat) : ∀ wx, (Instr.index 153 (.agg #[.func (Fn.func 87) #[] #[.pointer (some ⟨g, 0, none⟩)], .func (Fn.func 88) #[] #[.pointer (some ⟨g, 0, none⟩)], .func (Fn.func 89) #[] #[.pointer (some ⟨g, 0, none⟩)], .func (Fn.func 90) #[] #[.pointer (some ⟨g, 0, none⟩)]]) (.int .i64 2)).run Tryz.prog wx = .ok (#[Value.func (Fn.func 87) #[] #[.pointer (some ⟨g, 0, none⟩)], .func (Fn.func 88) #[] #[.pointer (some ⟨g, 0, none⟩)], .func (Fn.func 89) #[] #[.pointer (some ⟨g, 0, none⟩)], .func (Fn.func 90) #[] #[.pointer (some ⟨g, 0, none⟩)]][2]!) wx := fun _ => by kernel_rfl
theorem fns_3 (g : Nat) : ∀ wx, (Instr.index 153 (.agg #[.func (Fn.func 87) #[] #[.pointer (some ⟨g, 0, none⟩)], .func (Fn.func 88) #[] #[.pointer (some ⟨g, 0, none⟩)], .func (Fn.func 89) #[] #[.pointer (some ⟨g, 0, none⟩)], .func (Fn.func 90) #[] #[.pointer (some ⟨g, 0, none⟩)]]) (.int .i64 3)).run Tryz.prog wx = .ok (#[Value.func (Fn.func 87) #[] #[.pointer (some ⟨g, 0, none⟩)], .func (Fn.func 88) #[] #[.pointer (some ⟨g, 0, none⟩)], .func (Fn.func 89) #[] #[.pointer (some ⟨g, 0, none⟩)], .func (Fn.func 90) #[] #[.pointer (some ⟨g, 0, none⟩)]][3]!) wx := fun _ => by kernel_rfl
set_option maxRecDepth 100000 in
theorem order_any (w : World) (f : FileN) (hf : f.ok) (hm : MlAt w) (by_ : Nat) (hby : by_ < 4) : Calls Tryz.prog 43 #[.int .i64 (by_ : Int), .agg #[.string (str f.name), .int .i64 (f.meth : Int), .int .i64 (f.dos : Int), .int .u32 (f.crc : Int), .int .i64 (f.csize : Int), .int .i64 (f.size : Int), .int .i64 (f.at_ : Int)]] w (RetB w (orderKey by_ f)) := by
  have hE := (Below.refl w.heap.size w).alloc (Nat.le_refl _) (.cells (fileN f) 37)
  have hb : Blk (w.alloc (.cells (fileN f) 37)) w.heap.size 37 (fileN f) := Blk.new w 37 _
  have hm1 := hm.below hE
  have hfin : Hid (∀ e w1 l, RetB (w.alloc (.cells (fileN f) 37)) l e w1 → RetB w l e w1) := hide fun e w1 l ⟨v, h1, h2, h3⟩ => ⟨v, h1, h2.more (by simp), hE.trans (h3.mono (by simp))⟩
  have q1 := hide (order1_any _ w.heap.size f hf hb hm1)
  have q2 := hide (order2_any _ w.heap.size f hf hb)
  have q3 := hide (order3_any _ w.heap.size f hf hb)
  have q4 := hide (order4_any _ w.heap.size f hf hb)
  replace hE := hide hE
  replace hb := hide hb
  replace hm := hide hm
  replace hm1 := hide hm1
  replace hf := hide hf
  match by_, hby with
  | 0, _ =>
    have hix := fns_0 w.heap.size
    go_enter Tryz.func43, Tryz.ntmps43
    go_wp2_with fail
    refine q1.out.mono ?_
    rintro e w1 h1
    have h2 := hide (hfin.out _ _ _ h1)
    obtain ⟨v, rfl, _, _⟩ := h1
    go_wp2_with fail
    go_ret
    exact h2.out
  | 1, _ =>
    have hix := fns_1 w.heap.size
    go_enter Tryz.func43, Tryz.ntmps43
    go_wp2_with fail
    refine q2.out.mono ?_
    rintro e w1 h1
    have h2 := hide (hfin.out _ _ _ h1)
    obtain ⟨v, rfl, _, _⟩ := h1
    go_wp2_with fail
    go_ret
    exact h2.out
  | 2, _ =>
    have hix := fns_2 w.heap.size
    go_enter Tryz.func43, Tryz.ntmps43
    go_wp2_with fail
    refine q3.out.mono ?_
    rintro e w1 h1
    have h2 := hide (hfin.out _ _ _ h1)
    obtain ⟨v, rfl, _, _⟩ := h1
    go_wp2_with fail
    go_ret
    exact h2.out
  | 3, _ =>
    have hix := fns_3 w.heap.size
    go_enter Tryz.func43, Tryz.ntmps43
    go_wp2_with fail
    refine q4.out.mono ?_
    rintro e w1 h1
    have h2 := hide (hfin.out _ _ _ h1)
    obtain ⟨v, rfl, _, _⟩ := h1
    go_wp2_with fail
    go_ret
    exact h2.out
end Go.Proofs.YtiffnfgmkkoaeaaGreatDoor
