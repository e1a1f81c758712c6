/-
  What stays while a pager's batch is laid, and what each step leaves.
-/
import Derived.Test.YthohbbaglceppaaGreatDoorUH
import Derived.Test.YthohbbaglceppaaGreatDoorUOpG
import Derived.Test.YthohbbaglceppaaGreatDoorUIMap
import Derived.Maps.Range
namespace Go.Proofs.YthohbbaglceppaaGreatDoor
open Go.RowKit Go.Maps
set_option linter.unusedVariables false
theorem FsO.imap {w w' : World} (h : FsO w w') {b N : Nat} {m : Nat → Option Value} (hm : IMap w b N m) : IMap w' b N m :=
  hm.keep (Only.block h b hm.lt fun ⟨cs, hc⟩ => by
    rcases hc with hc | hc | hc
    · exact hm.ne hc rfl
    · exact hm.ne hc rfl
    · exact hm.ne hc rfl)
/-- The names of a commit's things. -/
structure CoN where
  H0 : Nat
  gf : Nat
  bm : Nat
  gp : Nat
  gm : Nat
  gc : Nat
  nm : List UInt8
  a : PgS
  b : PgS
  row : Value
  rd : Nat
  cp : Nat
  cb : Nat
  cl : Nat
  gw : Nat
  cw : Nat
  gs : Nat
  gb : Nat
  c : Nat
  p : List UInt8
  xg : Nat
/-- What stays. -/
structure Per (N : CoN) (w : World) : Prop where
  pg : Blk w N.gp 85 (pgF N.gf N.nm N.a N.b N.gm N.gc N.row N.rd)
  mp : IMap w N.gm 65536 (fun _ => none)
  bp : Blk w N.cp 24 #[ptrV N.gp]
  bb : Blk w N.cb 37 #[.slice (some ⟨N.gb, 0, none⟩) 528 N.c]
  bl : Blk w N.cl 133 #[.slice (some ⟨N.gw, 0, none⟩) 1 N.cw]
  wr : ∃ cs, Blk w N.gw 185 cs ∧ cs[0]? = some (.int .i64 0) ∧ cs[1]? = some (.slice (some ⟨N.gs, 0, none⟩) 512 512)
  ps : Blk w N.gs 240 (bv N.p).toArray
  by_ : OB w 0 (.slice (some ⟨N.gb, 0, none⟩) 528 N.c) 528 (walL N.p)
  pl : N.p.length = 512
  nl : N.nm.length ≤ 20
  ex : Blk w N.xg 24 #[ptrV N.gp]
theorem Per.fso {N : CoN} {w w' : World} (h : Per N w) (k : FsO w w') : Per N w' := by
  obtain ⟨cs, h1, h2, h3⟩ := h.wr
  refine ⟨k.blk h.pg (by decide) (by decide) (by decide), k.imap h.mp, k.blk h.bp (by decide) (by decide) (by decide), k.blk h.bb (by decide) (by decide) (by decide), k.blk h.bl (by decide) (by decide) (by decide), ⟨cs, k.blk h1 (by decide) (by decide) (by decide), h2, h3⟩, k.blk h.ps (by decide) (by decide) (by decide), ?_, h.pl, h.nl, k.blk h.ex (by decide) (by decide) (by decide)⟩
  obtain ⟨cs2, hb⟩ := own_blk_of h.by_ (j := N.gb) rfl
  exact h.by_.same ((k.blk hb (by decide) (by decide) (by decide)).trans hb.symm)
theorem Per.src {N : CoN} {w : World} (h : Per N w) : SrcB w N.gb 528 ∧ 528 ≤ N.c ∧ N.c ≤ maxLen := by
  obtain ⟨cs2, hb⟩ := own_blk_of h.by_ (j := N.gb) rfl
  have hl := walL_len N.p h.pl
  refine ⟨⟨fun i hi => ⟨(walL N.p)[i]'(by omega), ?_⟩, 5, cs2, (0, 0), hb, by decide, by decide, by decide⟩, h.by_.rb.2⟩
  exact h.by_.cell hi (by omega)
/-- The store at a stage of the commit. -/
def Sto (N : CoN) (w0 : World) (most stamp kd nd kl nl : Nat) (w : World) : Prop :=
  Per N w ∧ Fr N.H0 N.gf N.bm w0 w ∧ ∃ gd gl vd vl, FSt w N.H0 N.gf N.bm most stamp (dbN N.nm) (logN N.nm) gd kd nd gl kl nl vd vl
theorem drew_only (w : World) (q : Nat) : Below w.heap.size w (w.drewN q) := below_drewN (Below.refl _ _) q
section
variable {N : CoN} {w0 w : World} {most stamp kd nd kl nl : Nat}
theorem Sto.cells (h : Per N w) : w.cell? ⟨N.cp, 0, none⟩ = some (.pointer (some ⟨N.gp, 0, none⟩)) ∧ w.cell? ⟨N.gp, 0, none⟩ = some (.pointer (some ⟨N.gf, 0, none⟩)) ∧ w.cell? ⟨N.gp, 1, none⟩ = some (.string (str N.nm)) ∧ w.cell? ⟨N.cb, 0, none⟩ = some (.slice (some ⟨N.gb, 0, none⟩) 528 N.c) :=
  ⟨h.bp.cell 0, h.pg.cell 0, h.pg.cell 1, h.bb.cell 0⟩
theorem step1 (h : Sto N w0 most stamp 0 0 0 0 w) (hm : most ≤ 65536) (hm2 : 17 ≤ most) (hs : stamp ≤ 900000) (q : Nat) :
    Calls Tryz.prog 111 #[.pointer (some ⟨N.gf, 0, none⟩), .string (str (logN N.nm)), .int .i64 0, .slice (some ⟨N.gb, 0, none⟩) 528 N.c] (w.drewN q) fun e w' => e = .returned (.int .i64 0) ∧ Hid (Sto N w0 most (stamp + 1) 0 0 9 528 w') := by
  obtain ⟨hP, hF, gd, gl, vd, vl, hS⟩ := h
  have hP2 := hP.fso (FsO.of_below (drew_only w q))
  have hs2 := hP2.src
  refine (write_l (w.drewN q) N.H0 N.gf N.bm most stamp gd 0 0 gl 0 0 N.gb 528 N.c 0 _ _ vd vl (hS.drewN q) (by have := hP.nl; simp [logN]; omega) hm (by omega) (by omega) (by omega) (by omega) (by omega) hs2.2.1 (by have := hs2.2.2; unfold maxLen at this; exact this) (by omega) (by omega) hs2.1).mono ?_
  rintro e w' ⟨rfl, h2⟩
  obtain ⟨vl', f1, f2, f3⟩ := h2.out
  exact ⟨rfl, hide ⟨hP2.fso f2, (hF.trans (Only.of_below (drew_only w q))).trans f3, gd, gl, vd, vl', f1⟩⟩
theorem step2 (h : Sto N w0 most stamp kd nd kl nl w) (hk : kl ≤ 100000) (q : Nat) :
    Calls Tryz.prog 113 #[.pointer (some ⟨N.gf, 0, none⟩), .string (str (logN N.nm))] (w.drewN q) fun e w' => e = .returned (.int .i64 0) ∧ Hid (Sto N w0 most stamp kd nd kl nl w') := by
  obtain ⟨hP, hF, gd, gl, vd, vl, hS⟩ := h
  have hP2 := hP.fso (FsO.of_below (drew_only w q))
  refine (sync_l (w.drewN q) N.H0 N.gf N.bm most stamp gd kd nd gl kl nl _ _ vd vl (hS.drewN q) (by have := hP.nl; simp [logN]; omega) hk).mono ?_
  rintro e w' ⟨rfl, h2⟩
  obtain ⟨f1, f2, f3⟩ := h2.out
  exact ⟨rfl, hide ⟨hP2.fso f2, (hF.trans (Only.of_below (drew_only w q))).trans f3, gd, gl, vd, vl, f1⟩⟩
theorem src_done (w : World) : SrcB (w.alloc doneO) w.heap.size 4 := by
  have h := heap_alloc_new w doneO
  refine ⟨fun i hi => ?_, 5, doneC, (4, 5), h, by decide, by decide, by decide⟩
  rw [cell_of_row _ _ i doneC 5 (4, 5) h]
  match i, hi with
  | 0, _ => exact ⟨100, rfl⟩
  | 1, _ => exact ⟨111, rfl⟩
  | 2, _ => exact ⟨110, rfl⟩
  | 3, _ => exact ⟨101, rfl⟩
theorem step3 (h : Sto N w0 most stamp 0 0 9 528 w) (hm : most ≤ 65536) (hm2 : 17 ≤ most) (hs : stamp ≤ 900000) (q : Nat) :
    Calls Tryz.prog 111 #[.pointer (some ⟨N.gf, 0, none⟩), .string (str (logN N.nm)), .int .i64 ((528 : Nat) : Int), .slice (some ⟨w.heap.size, 0, none⟩) 4 4] ((w.alloc doneO).drewN q) fun e w' => e = .returned (.int .i64 0) ∧ Hid (Sto N w0 most (stamp + 1) 0 0 9 532 w') := by
  obtain ⟨hP, hF, gd, gl, vd, vl, hS⟩ := h
  have hB : Below w.heap.size w ((w.alloc doneO).drewN q) := below_drewN ((Below.refl _ w).alloc (Nat.le_refl _) _) q
  have hP2 := hP.fso (FsO.of_below hB)
  refine (write_l ((w.alloc doneO).drewN q) N.H0 N.gf N.bm most stamp gd 0 0 gl 9 528 w.heap.size 4 4 528 _ _ vd vl (hS.below hB) (by have := hP.nl; simp [logN]; omega) hm (by omega) (by omega) (by omega) (by omega) (by omega) (by omega) (by omega) (by omega) (by omega) (src_done w)).mono ?_
  rintro e w' ⟨rfl, h2⟩
  obtain ⟨vl', f1, f2, f3⟩ := h2.out
  exact ⟨rfl, hide ⟨hP2.fso f2, (hF.trans (Only.of_below hB)).trans f3, gd, gl, vd, vl', f1⟩⟩
theorem step5 (h : Sto N w0 most stamp 0 0 9 532 w) (hm : most ≤ 65536) (hm2 : 17 ≤ most) (hs : stamp ≤ 900000) :
    Calls Tryz.prog 82 #[.pointer (some ⟨N.gp, 0, none⟩), .slice (some ⟨N.gw, 0, none⟩) 1 N.cw] w fun e w' => e = .returned (.int .i64 0) ∧ Hid (Sto N w0 most (stamp + 1) 8 512 9 532 w') := by
  obtain ⟨hP, hF, gd, gl, vd, vl, hS⟩ := h
  obtain ⟨cs, hw1, hw2, hw3⟩ := hP.wr
  refine (lay_one w N.H0 N.gf N.bm most stamp gd gl 9 532 N.gp N.gw N.cw N.gs N.nm N.p vd vl _ hS hP.nl hm (by omega) hs hP.pg rfl rfl ((hw1.cell 0).trans hw2) ((hw1.cell 1).trans hw3) hP.ps hP.pl).mono ?_
  rintro e w' ⟨rfl, h2⟩
  obtain ⟨vd', f1, f2, f3⟩ := h2.out
  exact ⟨rfl, hide ⟨hP.fso f2, hF.trans f3, gd, gl, vd', vl, f1⟩⟩
theorem step6 (h : Sto N w0 most stamp kd nd kl nl w) (hs : stamp ≤ 900000) (q : Nat) :
    Calls Tryz.prog 83 #[.pointer (some ⟨N.gf, 0, none⟩), .string (str (logN N.nm)), .int .i64 0] (w.drewN q) fun e w' => e = .returned (.int .i64 0) ∧ Hid (Per N w' ∧ Fr N.H0 N.gf N.bm w0 w') := by
  obtain ⟨hP, hF, gd, gl, vd, vl, hS⟩ := h
  have hP2 := hP.fso (FsO.of_below (drew_only w q))
  refine (cut_l (w.drewN q) N.H0 N.gf N.bm most stamp gd kd nd gl kl nl _ _ vd vl (hS.drewN q) (by have := hP.nl; simp [logN]; omega) (by omega)).mono ?_
  rintro e w' ⟨rfl, h2⟩
  obtain ⟨f2, f3⟩ := h2.out
  exact ⟨rfl, hide ⟨hP2.fso f2, (hF.trans (Only.of_below (drew_only w q))).trans f3⟩⟩
end
end Go.Proofs.YthohbbaglceppaaGreatDoor
namespace Go.Proofs.YthohbbaglceppaaGreatDoor
open Go.RowKit Go.Maps
set_option linter.unusedVariables false
/-- The store behind i steps. -/
def CoStg (N : CoN) (w0 : World) (most stamp : Nat) : Nat → World → Prop
  | 0, w => Sto N w0 most stamp 0 0 0 0 w
  | 1, w => Sto N w0 most (stamp + 1) 0 0 9 528 w
  | 2, w => Sto N w0 most (stamp + 1) 0 0 9 528 w
  | 3, w => Sto N w0 most (stamp + 2) 0 0 9 532 w
  | 4, w => Sto N w0 most (stamp + 2) 0 0 9 532 w
  | 5, w => Sto N w0 most (stamp + 3) 8 512 9 532 w
  | _, w => Per N w ∧ Fr N.H0 N.gf N.bm w0 w
/-- What a stage's step gives. -/
def StgRet (N : CoN) (w0 : World) (most stamp i : Nat) (e : Ending) (w' : World) : Prop := e = .returned (.int .i64 0) ∧ Hid (CoStg N w0 most stamp i w')
section
variable {N : CoN} {w0 w : World} {most stamp : Nat}
theorem st1 (h : CoStg N w0 most stamp 0 w) (hm : most ≤ 65536) (hm2 : 17 ≤ most) (hs : stamp ≤ 1000) :
    Calls Tryz.prog 110 #[.pointer (some ⟨N.cp, 0, none⟩), .pointer (some ⟨N.cb, 0, none⟩)] w (StgRet N w0 most stamp 1) := by
  have c := Sto.cells h.1
  exact com1_any w N.cp N.gp N.gf N.nm N.cb 528 N.c (some ⟨N.gb, 0, none⟩) c.1 c.2.1 c.2.2.1 h.1.nl c.2.2.2 _ (fun q => step1 h hm hm2 (by omega) q) (fun e w' hr => ⟨hr.1, have d := Sto.cells (Hid.out hr.2).1; ⟨d.1, d.2.1, d.2.2.2⟩⟩)
theorem st2 (h : CoStg N w0 most stamp 1 w) : Calls Tryz.prog 112 #[.pointer (some ⟨N.cp, 0, none⟩)] w (StgRet N w0 most stamp 2) := by
  have c := Sto.cells h.1
  exact com2_any w N.cp N.gp N.gf N.nm c.1 c.2.1 c.2.2.1 h.1.nl _ (fun q => step2 h (by omega) q) (fun e w' hr => ⟨hr.1, have d := Sto.cells (Hid.out hr.2).1; ⟨d.1, d.2.1⟩⟩)
theorem st3 (h : CoStg N w0 most stamp 2 w) (hm : most ≤ 65536) (hm2 : 17 ≤ most) (hs : stamp ≤ 1000) :
    Calls Tryz.prog 114 #[.pointer (some ⟨N.cp, 0, none⟩), .pointer (some ⟨N.cb, 0, none⟩)] w (StgRet N w0 most stamp 3) := by
  have c := Sto.cells h.1
  exact com3_any w N.cp N.gp N.gf N.nm N.cb 528 N.c (some ⟨N.gb, 0, none⟩) c.1 c.2.1 c.2.2.1 h.1.nl c.2.2.2 _ (fun q => step3 h hm hm2 (by omega) q) (fun e w' hr => ⟨hr.1, have d := Sto.cells (Hid.out hr.2).1; ⟨d.1, d.2.1, d.2.2.2⟩⟩)
theorem st4 (h : CoStg N w0 most stamp 3 w) : Calls Tryz.prog 115 #[.pointer (some ⟨N.cp, 0, none⟩)] w (StgRet N w0 most stamp 4) := by
  have c := Sto.cells h.1
  exact com4_any w N.cp N.gp N.gf N.nm c.1 c.2.1 c.2.2.1 h.1.nl _ (fun q => step2 h (by omega) q) (fun e w' hr => ⟨hr.1, have d := Sto.cells (Hid.out hr.2).1; ⟨d.1, d.2.1⟩⟩)
theorem st5 (h : CoStg N w0 most stamp 4 w) (hm : most ≤ 65536) (hm2 : 17 ≤ most) (hs : stamp ≤ 1000) :
    Calls Tryz.prog 116 #[.pointer (some ⟨N.cp, 0, none⟩), .pointer (some ⟨N.cl, 0, none⟩)] w (StgRet N w0 most stamp 5) :=
  com5_any w N.cp N.gp N.cl _ (h.1.bp.cell 0) (h.1.bl.cell 0) _ (step5 h hm hm2 (by omega)) (fun e w' hr => hr.1)
theorem st6 (h : CoStg N w0 most stamp 5 w) (hs : stamp ≤ 1000) : Calls Tryz.prog 117 #[.pointer (some ⟨N.cp, 0, none⟩)] w (StgRet N w0 most stamp 6) := by
  have c := Sto.cells h.1
  exact com6_any w N.cp N.gp N.gf N.nm c.1 c.2.1 c.2.2.1 h.1.nl _ (fun q => step6 h (by omega) q) (fun e w' hr => ⟨hr.1, have d := Sto.cells (Hid.out hr.2).1; ⟨d.1, d.2.1⟩⟩)
end
end Go.Proofs.YthohbbaglceppaaGreatDoor
namespace Go.Proofs.YthohbbaglceppaaGreatDoor
open Go.RowKit Go.Maps
set_option linter.unusedVariables false
theorem IMap.clear {w : World} {b N : Nat} {m : Nat → Option Value} (h : IMap w b N m) (ty : TypeId) :
    ∃ w', (Builtin.clear_ #[80] ty #[.map (some b)]).run Tryz.prog w = .ok (.tuple #[]) w' ∧ IMap w' b N (fun _ => none) ∧ w.grownBy w' (some b) := by
  obtain ⟨nn, D, ⟨es, clock, hb, hF, hs, rfl⟩, hK⟩ := h
  have hlt : b < w.heap.size := (Array.getElem?_eq_some_iff.1 hb).1
  refine ⟨{ w with heap := w.heap.setIfInBounds b (.map #[] clock) }, ?_, ⟨0, .map [], ⟨#[], clock, ?_, ⟨by simp, MapKept.stamped_empty clock, by simp⟩, Nat.le_refl _, rfl⟩, tidy_empty, fun kl h => (by cases h), fun k v _ h => (by cases h), fun _ _ _ => rfl⟩, ⟨rfl, rfl, rfl, by simp, fun i hi hne => ?_⟩⟩
  · simp [Builtin.clear_, run_underlying Tryz.underlying80, MapKept.run_getObj_map hb, MapKept.run_setObj_map _ hb]
  · simp [hlt]
  · show (w.heap.setIfInBounds b _)[i]? = _
    rw [Array.getElem?_setIfInBounds, if_neg (fun e => hne (by rw [e]))]
/-- No key is there. -/
theorem keys_none {D : DataW Value} {N : Nat} (h : Keys D N (fun _ => none)) (kl : Lit) : Maps.has D kl = false := by
  cases hh : Maps.has D kl with
  | false => rfl
  | true =>
    obtain ⟨k, hk, e⟩ := h.only kl hh
    have := h.none_ k hk rfl
    rw [← e, hh] at this; cases this
end Go.Proofs.YthohbbaglceppaaGreatDoor
