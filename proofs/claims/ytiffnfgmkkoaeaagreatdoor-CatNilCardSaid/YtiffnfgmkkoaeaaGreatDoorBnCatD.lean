/-
  Contract of (*Cat).enter.
-/
import Derived.Test.YtiffnfgmkkoaeaaGreatDoorBnGr32
import Derived.Test.YtiffnfgmkkoaeaaGreatDoorBnGr26
namespace Go.Proofs.YtiffnfgmkkoaeaaGreatDoor
open Go.RowKit
set_option linter.unusedVariables false
/-- What a Put does to the pages, wherever it is called. -/
def PutC (st : PgS) (k : Nat) (key b : List UInt8) (st' : PgS) : Prop :=
  ∀ (w : World) (F : Nat → Prop) (gt gp : Nat) (kA vA : Option Addr) (kc vc : Nat), PgAt w F gp st → TreeAt w F gt gp k → MB F w kA key.length key → MB F w vA b.length b →
    Calls Tryz.prog 35 #[.pointer (some ⟨gt, 0, none⟩), .slice kA key.length kc, .slice vA b.length vc] w (PgEnd F w gp st' (.int .i64 0))
/-- A catalogue: its pager, its seven trees. -/
structure CatAt (w : World) (F : Nat → Prop) (gc gp : Nat) (ts : Nat → Nat) : Prop where
  blk : Blk w gc 61 #[.pointer (some ⟨gp, 0, none⟩), .pointer (some ⟨ts 0, 0, none⟩), .pointer (some ⟨ts 1, 0, none⟩), .pointer (some ⟨ts 2, 0, none⟩), .pointer (some ⟨ts 3, 0, none⟩), .pointer (some ⟨ts 4, 0, none⟩), .pointer (some ⟨ts 5, 0, none⟩), .pointer (some ⟨ts 6, 0, none⟩)]
  out : ¬ F gc
  tree : ∀ k, k < 7 → TreeAt w F (ts k) gp k
theorem MlAt.ev {w w' : World} {F F' : Nat → Prop} (h : MlAt w) (he : Ev F w F' w') (hn : ¬ F 0) : MlAt w' := by
  obtain ⟨h1, m, h2⟩ := h
  exact ⟨Nat.lt_of_lt_of_le h1 he.size, m, (he.cell (p := ⟨0, 0, none⟩) ⟨h1, hn⟩).trans h2⟩
theorem CatAt.ev {w w' : World} {F F' : Nat → Prop} {gc gp : Nat} {ts : Nat → Nat} (h : CatAt w F gc gp ts) (he : Ev F w F' w') : CatAt w' F' gc gp ts :=
  ⟨he.blk h.blk h.out, he.new h.out (Blk.lt h.blk), fun k hk => (h.tree k hk).ev he⟩
/-- key.Num at numbers of a block of their own. -/
theorem knum_blk (wx : World) (A : Option Addr) (n c g : Nat) (b : List UInt8) (t : TypeId) (zs : List Int) (cs : Array Value) (hb : RB wx wx.heap.size A n b) (hg : Blk wx g t cs) (hcs : cs = (iv zs).toArray) (hn : n ≤ 100000) (hm : zs.length ≤ 100000) :
    Calls Tryz.prog 24 #[.slice A n c, .slice (some ⟨g, 0, none⟩) zs.length zs.length] wx (RetB wx (b ++ numsB zs)) :=
  num_any A _ n zs.length c zs.length b zs wx hb (RI.of_blk (by rw [← hcs]; exact hg)) hn hm
theorem numsB_len : ∀ zs : List Int, (numsB zs).length = 6 * zs.length
  | [] => rfl
  | z :: zs => by
    have h := numsB_len zs
    unfold numsB at h ⊢
    rw [List.flatMap_cons, List.length_append, h, List.length_cons]
    show 6 + _ = _
    omega
set_option maxRecDepth 100000 in
set_option maxHeartbeats 2000000 in
theorem enter_any (w : World) (F : Nat → Prop) (gc gp : Nat) (ts : Nat → Nat) (st0 : PgS) (S : Nat → PgS) (h : PgAt w F gp st0) (hc : CatAt w F gc gp ts) (hml : MlAt w) (hmF : ¬ F 0) (f : FileN) (hf : f.ok) (id no : Nat)
    (P0 : PutC st0 1 (numsB [(id : Int), (no : Int)]) (packF f) (S 0)) (P : ∀ b, b < 4 → PutC (S b) (3 + b) (orderKey b f ++ numsB [(id : Int), (no : Int)]) [] (S (b + 1))) (hol : ∀ b, b < 4 → (orderKey b f).length ≤ 100000) :
    Calls Tryz.prog 37 #[.pointer (some ⟨gc, 0, none⟩), .int .i64 (id : Int), .int .i64 (no : Int), .agg #[.string (str f.name), .int .i64 (f.meth : Int), .int .i64 (f.dos : Int), .int .u32 (f.crc : Int), .int .i64 (f.csize : Int), .int .i64 (f.size : Int), .int .i64 (f.at_ : Int)]] w (PgEnd F w gp (S 4) (.int .i64 0)) := by
  obtain ⟨nm, me, ds, cr, cs, si, at_⟩ := f
  simp only at *
  obtain ⟨g, hg⟩ : ∃ g, g = w.heap.size := ⟨_, rfl⟩
  obtain ⟨w1, hw1⟩ : ∃ w1, w1 = w.alloc (.cells #[.string (str nm), .int .i64 (me : Int), .int .i64 (ds : Int), .int .u32 (cr : Int), .int .i64 (cs : Int), .int .i64 (si : Int), .int .i64 (at_ : Int)] 37) := ⟨_, rfl⟩
  have hFlt := h.lt
  have hgF : ¬ F g := fun hx => by have := hFlt _ hx; omega
  have hb1 : Blk w1 g 37 #[.string (str nm), .int .i64 (me : Int), .int .i64 (ds : Int), .int .u32 (cr : Int), .int .i64 (cs : Int), .int .i64 (si : Int), .int .i64 (at_ : Int)] := by rw [hw1, hg]; exact Blk.new w 37 _
  have hE1 : Ev F w F w1 := by rw [hw1]; exact (Ev.refl F w).alloc_ _
  have hBw : Below w.heap.size w w1 := by rw [hw1]; exact (Below.refl _ w).alloc (Nat.le_refl _) _
  have hP1 : PgAt w1 F gp st0 := by rw [hw1]; exact h.alloc _
  have hc1 := hc.ev hE1
  have hml1 := hml.below hBw
  have ct : w1.cell? ⟨gc, 2, none⟩ = some (.pointer (some ⟨ts 1, 0, none⟩)) := hc1.blk.cell 2
  have c0 := hb1.cell 0
  have c1 := hb1.cell 1
  have c2 := hb1.cell 2
  have c3 := hb1.cell 3
  have c4 := hb1.cell 4
  have c5 := hb1.cell 5
  have c6 := hb1.cell 6
  have hFlt1 := hide hP1.lt
  have hkp : Hid (∀ w' F', Ev F w1 F' w' → w'.cell? ⟨gc, 2, none⟩ = some (.pointer (some ⟨ts 1, 0, none⟩)) ∧ w'.cell? ⟨g, 0, none⟩ = some (.string (str nm)) ∧ w'.cell? ⟨g, 1, none⟩ = some (.int .i64 (me : Int)) ∧ w'.cell? ⟨g, 2, none⟩ = some (.int .i64 (ds : Int)) ∧ w'.cell? ⟨g, 3, none⟩ = some (.int .u32 (cr : Int)) ∧ w'.cell? ⟨g, 4, none⟩ = some (.int .i64 (cs : Int)) ∧ w'.cell? ⟨g, 5, none⟩ = some (.int .i64 (si : Int)) ∧ w'.cell? ⟨g, 6, none⟩ = some (.int .i64 (at_ : Int))) := hide fun W F' hE => by
    have q := (hc1.ev hE).blk
    have r := hE.blk hb1 hgF
    exact ⟨q.cell 2, r.cell 0, r.cell 1, r.cell 2, r.cell 3, r.cell 4, r.cell 5, r.cell 6⟩
  have hpk := fun wx => hide (pack_any2 wx ⟨nm, me, ds, cr, cs, si, at_⟩ hf)
  have hpl : Hid ((packF ⟨nm, me, ds, cr, cs, si, at_⟩).length ≤ 100000) := hide (by
    unfold packF
    simp only [List.length_append, leBs_len]
    have := hf.name
    simp at this ⊢
    omega)
  have hkl : Hid ((numsB [(id : Int), (no : Int)]).length = 12) := hide (numsB_len _)
  obtain ⟨KB, hKB⟩ : ∃ KB, KB = numsB [(id : Int), (no : Int)] := ⟨_, rfl⟩
  obtain ⟨PB, hPB⟩ : ∃ PB, PB = packF ⟨nm, me, ds, cr, cs, si, at_⟩ := ⟨_, rfl⟩
  rw [← hKB] at P0 P hkl
  rw [← hPB] at P0 hpk hpl
  replace h := hide h
  replace hc := hide hc
  replace hml := hide hml
  replace hf := hide hf
  replace hw1 := hide hw1
  replace hg := hide hg
  replace hb1 := hide hb1
  replace hE1 := hide hE1
  replace hP1 := hide hP1
  replace hc1 := hide hc1
  replace hml1 := hide hml1
  replace hBw := hide hBw
  replace hFlt := hide hFlt
  replace hgF := hide hgF
  replace hmF := hide hmF
  have P0' : Hid (∀ (w : World) (F : Nat → Prop) (gt gp : Nat) (kA vA : Option Addr) (kc vc : Nat), PgAt w F gp st0 → TreeAt w F gt gp 1 → MB F w kA 12 KB → MB F w vA PB.length PB →
      Calls Tryz.prog 35 #[.pointer (some ⟨gt, 0, none⟩), .slice kA 12 kc, .slice vA PB.length vc] w (PgEnd F w gp (S 0) (.int .i64 0))) := hide (by
    have q := P0
    unfold PutC at q
    rw [hkl.out] at q
    exact q)
  have hrnd : Hid (∀ b, b < 4 → ∃ KK, KK = orderKey b ⟨nm, me, ds, cr, cs, si, at_⟩ ++ KB ∧ PutC (S b) (3 + b) KK [] (S (b + 1))) := hide fun b hb => ⟨_, rfl, P b hb⟩
  replace P0 := hide P0
  replace P := hide P
  replace hol := hide hol
  replace hKB := hide hKB
  replace hPB := hide hPB
  replace hpk : Hid _ := hide hpk
  go_enter Tryz.func37, Tryz.ntmps37
  go_upto_region 1 with (fail)
  rw [← hw1.out, ← hg.out]
  go_region_held3 (fun w' => w'.cell? ⟨gc, 2, none⟩ = some (.pointer (some ⟨ts 1, 0, none⟩)) ∧ w'.cell? ⟨g, 0, none⟩ = some (.string (str nm)) ∧ w'.cell? ⟨g, 1, none⟩ = some (.int .i64 (me : Int)) ∧ w'.cell? ⟨g, 2, none⟩ = some (.int .i64 (ds : Int)) ∧ w'.cell? ⟨g, 3, none⟩ = some (.int .u32 (cr : Int)) ∧ w'.cell? ⟨g, 4, none⟩ = some (.int .i64 (cs : Int)) ∧ w'.cell? ⟨g, 5, none⟩ = some (.int .i64 (si : Int)) ∧ w'.cell? ⟨g, 6, none⟩ = some (.int .i64 (at_ : Int))) (first | exact ⟨ct, c0, c1, c2, c3, c4, c5, c6⟩ | (exact hkp.out _ _ hE15.out) | (exact hkp.out _ F (Ev.of_below (by first | (with_reducible exact hbN.out) | (with_reducible exact hbP.out) | (with_reducible exact hbN.out.alloc hbN.out.size _) | (with_reducible exact hbP.out.alloc hbP.out.size _)))) | go_keep) (first
    | (go_at_call 24; (fail_if_success (clear hbN)); refine (knum_blk _ none 0 0 _ [] 3 [(id : Int), (no : Int)] #[.int .i64 (id : Int), .int .i64 (no : Int)] (RB.nil _ _) (by first | (with_reducible exact (Blk.new _ _ _).drew) | (with_reducible exact Blk.new _ _ _) | (with_reducible exact (Blk.new _ _ _).drew.below hBp.out (by simp <;> omega))) rfl (by omega) (by simp)).mono ?_; rintro e wa ⟨va, rfl, hOa, hBa⟩; rw [List.nil_append, ← hKB.out, hkl.out] at hOa; have hbN : Hid (Below w1.heap.size w1 wa) := hide (Below.trans (by first | (with_reducible exact hbP.out) | (with_reducible exact hbP.out.alloc hbP.out.size _) | (with_reducible exact hbN.out) | (with_reducible exact ((Below.refl _ w1).alloc (Nat.le_refl _) _).drew) | (with_reducible exact (Below.refl _ w1).drew)) (hBa.mono (by first | (have := hbP.out.size; simp <;> omega) | (simp <;> omega)))); obtain ⟨kA, kc, rfl, _, _, hkc, _⟩ := hOa.form; have hkey : Hid (MB F wa kA 12 KB) := hide (MB.made hOa (fun k hk => by have := hFlt1.out k hk; first | (have := hbP.out.size; simp <;> omega) | (simp <;> omega))); (try have hval2 := hide (hval.out.ev (Ev.of_below (F := F) ((by first | (with_reducible exact hBa.mono (Nat.le_refl _)) | (with_reducible exact ((Below.refl _ wb).alloc (Nat.le_refl _) _).trans (hBa.mono (by simp)))))))); replace hOa := hide hOa; replace hBa := hide hBa)
    | (go_at_call 76; refine (hpk.out _).out.mono ?_; rintro e wb ⟨vb, rfl, hOb, hBp⟩; have hbP : Hid (Below w1.heap.size w1 wb) := hide (Below.trans (by first | (with_reducible exact hbN.out) | (with_reducible exact (Below.refl _ w1).drew) | (with_reducible exact ((Below.refl _ w1).alloc (Nat.le_refl _) _).drew)) (hBp.mono (by first | (have := hbN.out.size; simp <;> omega) | (simp <;> omega)))); obtain ⟨vA, vc, rfl, _, _, hvc, _⟩ := hOb.form; have hval : Hid (MB F wb vA PB.length PB) := hide (MB.made hOb (fun k hk => by have := hFlt1.out k hk; first | (have := hbN.out.size; simp <;> omega) | (simp <;> omega))); (try have hkey2 := hide (hkey.out.ev (Ev.of_below (F := F) hBp))); replace hOb := hide hOb; replace hBp := hide hBp)
    | (go_at_call 35; refine (P0'.out _ F (ts 1) gp kA vA kc vc (by first | (with_reducible exact hP1.out.below hbN.out) | (with_reducible exact hP1.out.below hbP.out)) (by first | (with_reducible exact (hc1.out.tree 1 (by omega)).ev (Ev.of_below hbN.out)) | (with_reducible exact (hc1.out.tree 1 (by omega)).ev (Ev.of_below hbP.out))) (by first | (with_reducible exact hkey2.out) | (with_reducible exact hkey.out)) (by first | (with_reducible exact hval2.out) | (with_reducible exact hval.out))).mono ?_; rintro e w5 ⟨rfl, F5, hP5, hE5⟩; have hE15 : Hid (Ev F w1 F5 w5) := hide (by first | (with_reducible exact (Ev.of_below hbN.out).trans hE5) | (with_reducible exact (Ev.of_below hbP.out).trans hE5)); replace hP5 := hide hP5; replace hE5 := hide hE5))
  all_goals
    go_wp2_with fail
    have hst5 : Hid (∃ F', PgAt w5 F' gp (S 0) ∧ Ev F w1 F' w5) := hide ⟨F5, hP5.out, hE15.out⟩
    clear hE15 hP5 hE5
    go_loopw [27] (fun v wx => ∃ b : Nat, b ≤ 4 ∧ v = .int .i64 (b : Int) ∧ Hid (∃ F', PgAt wx F' gp (S b) ∧ Ev F w1 F' wx)) (fun v _ => 4 - (intOf v).toNat)
    case atStart => exact ⟨0, by omega, rfl, hst5⟩
    case round =>
      obtain ⟨b, hb4, rfl, hG⟩ := hrel
      obtain ⟨F6, hPr, hEr⟩ := hG.out
      clear hst5 hG
      rcases Nat.lt_or_ge b 4 with hlt | hge
      · have hcr := hide (hc1.out.ev hEr)
        have hbr : Hid (Blk wr g 37 #[.string (str nm), .int .i64 (me : Int), .int .i64 (ds : Int), .int .u32 (cr : Int), .int .i64 (cs : Int), .int .i64 (si : Int), .int .i64 (at_ : Int)]) := hide (hEr.blk hb1.out hgF.out)
        have hg6 : Hid (¬ F6 g) := hide (hEr.new hgF.out hb1.out.lt)
        have hmr : Hid (MlAt wr) := hide (hml1.out.ev hEr hmF.out)
        have c0 := hbr.out.cell 0
        have c1 := hbr.out.cell 1
        have c2 := hbr.out.cell 2
        have c3 := hbr.out.cell 3
        have c4 := hbr.out.cell 4
        have c5 := hbr.out.cell 5
        have c6 := hbr.out.cell 6
        replace hPr := hide hPr
        replace hEr := hide hEr
        have hlt4 := hlt
        clear hlt ct
        match b, hb4, hlt4 with
        | 0, hb4, hlt4 =>
          obtain ⟨KK, hKK, hput⟩ := hrnd.out 0 (by omega)
          obtain ⟨OK, hOK⟩ : ∃ OK, OK = orderKey 0 ⟨nm, me, ds, cr, cs, si, at_⟩ := ⟨_, rfl⟩
          have hOl : Hid (OK.length ≤ 100000) := hide (by rw [hOK]; exact hol.out 0 (by omega))
          rw [← hOK] at hKK
          have hord : Hid (∀ W, Below wr.heap.size wr W → Calls Tryz.prog 43 #[.int .i64 0, .agg #[.string (str nm), .int .i64 (me : Int), .int .i64 (ds : Int), .int .u32 (cr : Int), .int .i64 (cs : Int), .int .i64 (si : Int), .int .i64 (at_ : Int)]] W (RetB W (orderKey 0 ⟨nm, me, ds, cr, cs, si, at_⟩))) := hide fun W hW => order_any W ⟨nm, me, ds, cr, cs, si, at_⟩ hf.out (hmr.out.below hW) 0 (by omega)
          have cg : wr.cell? ⟨gc, 4, none⟩ = some (.pointer (some ⟨ts 3, 0, none⟩)) := hcr.out.blk.cell 4
          have hkr : Hid (∀ w' F', Ev F6 wr F' w' → w'.cell? ⟨gc, 4, none⟩ = some (.pointer (some ⟨ts 3, 0, none⟩)) ∧ w'.cell? ⟨g, 0, none⟩ = some (.string (str nm)) ∧ w'.cell? ⟨g, 1, none⟩ = some (.int .i64 (me : Int)) ∧ w'.cell? ⟨g, 2, none⟩ = some (.int .i64 (ds : Int)) ∧ w'.cell? ⟨g, 3, none⟩ = some (.int .u32 (cr : Int)) ∧ w'.cell? ⟨g, 4, none⟩ = some (.int .i64 (cs : Int)) ∧ w'.cell? ⟨g, 5, none⟩ = some (.int .i64 (si : Int)) ∧ w'.cell? ⟨g, 6, none⟩ = some (.int .i64 (at_ : Int))) := hide fun W F' hE => by
            have q := (hcr.out.ev hE).blk
            have r := hE.blk hbr.out hg6.out
            exact ⟨q.cell 4, r.cell 0, r.cell 1, r.cell 2, r.cell 3, r.cell 4, r.cell 5, r.cell 6⟩
          replace hput := hide hput
          replace hKK := hide hKK
          replace hOK := hide hOK
          have hwb : IntKind.i64.wrap 3 = 3 := by decide
          go_wp2_with fail
          go_upto_region 7 with (fail)
          go_region_held3 (fun w' => w'.cell? ⟨gc, 4, none⟩ = some (.pointer (some ⟨ts 3, 0, none⟩)) ∧ w'.cell? ⟨g, 0, none⟩ = some (.string (str nm)) ∧ w'.cell? ⟨g, 1, none⟩ = some (.int .i64 (me : Int)) ∧ w'.cell? ⟨g, 2, none⟩ = some (.int .i64 (ds : Int)) ∧ w'.cell? ⟨g, 3, none⟩ = some (.int .u32 (cr : Int)) ∧ w'.cell? ⟨g, 4, none⟩ = some (.int .i64 (cs : Int)) ∧ w'.cell? ⟨g, 5, none⟩ = some (.int .i64 (si : Int)) ∧ w'.cell? ⟨g, 6, none⟩ = some (.int .i64 (at_ : Int))) (first | exact ⟨cg, c0, c1, c2, c3, c4, c5, c6⟩ | (exact hkr.out _ F6 (Ev.of_below (by first | (with_reducible exact hbN.out) | (with_reducible exact hbO.out) | (with_reducible exact hbO.out.alloc hbO.out.size _)))) | (exact hkr.out _ _ hE07.out) | go_keep) (first
            | (go_at_call 43; refine (hord.out _ (by first | (with_reducible exact (Below.refl _ wr).drew) | (with_reducible exact ((Below.refl _ wr).alloc (Nat.le_refl _) _).drew))).mono ?_; rintro e wo ⟨vo, rfl, hOo, hBo⟩; rw [← hOK.out] at hOo; have hbO : Hid (Below wr.heap.size wr wo) := hide (Below.trans (by first | (with_reducible exact (Below.refl _ wr).drew) | (with_reducible exact ((Below.refl _ wr).alloc (Nat.le_refl _) _).drew)) (hBo.mono (by simp <;> omega))); obtain ⟨oA, oc, rfl, hro, _, _, _⟩ := hOo.form; replace hOo := hide hOo; replace hBo := hide hBo; replace hro := hide hro)
            | (go_at_call 24; refine (knum_blk _ oA OK.length oc _ OK 3 [(id : Int), (no : Int)] #[.int .i64 (id : Int), .int .i64 (no : Int)] (by first | (with_reducible exact hro.out) | (with_reducible exact rb_allocs hro.out _) | (with_reducible exact rb_allocs_drew hro.out _)) (by first | (with_reducible exact Blk.new _ _ _) | (with_reducible exact (Blk.new _ _ _).drew) | (with_reducible exact (Blk.new _ _ _).drew.below hBo.out (by simp <;> omega))) rfl hOl.out (by simp)).mono ?_; rintro e wn ⟨vn, rfl, hOn, hBn⟩; rw [← hKB.out, ← hKK.out] at hOn; have hbN : Hid (Below wr.heap.size wr wn) := hide (Below.trans (by first | (with_reducible exact hbO.out) | (with_reducible exact hbO.out.alloc hbO.out.size _)) (hBn.mono (by have := hbO.out.size; simp <;> omega))); obtain ⟨nA, nc, rfl, _, _, hnc, _⟩ := hOn.form; have hkey : Hid (MB F6 wn nA KK.length KK) := hide (MB.made hOn (fun k hk => by have := hPr.out.lt k hk; have := hbO.out.size; simp <;> omega)); replace hOn := hide hOn; replace hBn := hide hBn)
            | (go_at_call 35; refine (hput.out _ F6 (ts 3) gp nA none nc 0 (by first | (with_reducible exact hPr.out.below hbN.out)) (by first | (with_reducible exact (hcr.out.tree 3 (by omega)).ev (Ev.of_below hbN.out))) (by first | (with_reducible exact hkey.out)) (MB.nil _)).mono ?_; rintro e w7 ⟨rfl, F7, hP7, hE7⟩; have hE17 : Hid (Ev F w1 F7 w7) := hide (hEr.out.trans ((Ev.of_below hbN.out).trans hE7)); have hE07 : Hid (Ev F6 wr F7 w7) := hide ((Ev.of_below hbN.out).trans hE7); replace hP7 := hide hP7; replace hE7 := hide hE7))
          all_goals
            have hrel7 : Hid (∃ F', PgAt w7 F' gp (S (0 + 1)) ∧ Ev F w1 F' w7) := hide ⟨F7, hP7.out, hE17.out⟩
            go_wp2_with fail
            go_roundw
            case rel => exact ⟨0 + 1, by omega, rfl, hrel7⟩
            case measure => simp [intOf]
        | 1, hb4, hlt4 =>
          obtain ⟨KK, hKK, hput⟩ := hrnd.out 1 (by omega)
          obtain ⟨OK, hOK⟩ : ∃ OK, OK = orderKey 1 ⟨nm, me, ds, cr, cs, si, at_⟩ := ⟨_, rfl⟩
          have hOl : Hid (OK.length ≤ 100000) := hide (by rw [hOK]; exact hol.out 1 (by omega))
          rw [← hOK] at hKK
          have hord : Hid (∀ W, Below wr.heap.size wr W → Calls Tryz.prog 43 #[.int .i64 1, .agg #[.string (str nm), .int .i64 (me : Int), .int .i64 (ds : Int), .int .u32 (cr : Int), .int .i64 (cs : Int), .int .i64 (si : Int), .int .i64 (at_ : Int)]] W (RetB W (orderKey 1 ⟨nm, me, ds, cr, cs, si, at_⟩))) := hide fun W hW => order_any W ⟨nm, me, ds, cr, cs, si, at_⟩ hf.out (hmr.out.below hW) 1 (by omega)
          have cg : wr.cell? ⟨gc, 5, none⟩ = some (.pointer (some ⟨ts 4, 0, none⟩)) := hcr.out.blk.cell 5
          have hkr : Hid (∀ w' F', Ev F6 wr F' w' → w'.cell? ⟨gc, 5, none⟩ = some (.pointer (some ⟨ts 4, 0, none⟩)) ∧ w'.cell? ⟨g, 0, none⟩ = some (.string (str nm)) ∧ w'.cell? ⟨g, 1, none⟩ = some (.int .i64 (me : Int)) ∧ w'.cell? ⟨g, 2, none⟩ = some (.int .i64 (ds : Int)) ∧ w'.cell? ⟨g, 3, none⟩ = some (.int .u32 (cr : Int)) ∧ w'.cell? ⟨g, 4, none⟩ = some (.int .i64 (cs : Int)) ∧ w'.cell? ⟨g, 5, none⟩ = some (.int .i64 (si : Int)) ∧ w'.cell? ⟨g, 6, none⟩ = some (.int .i64 (at_ : Int))) := hide fun W F' hE => by
            have q := (hcr.out.ev hE).blk
            have r := hE.blk hbr.out hg6.out
            exact ⟨q.cell 5, r.cell 0, r.cell 1, r.cell 2, r.cell 3, r.cell 4, r.cell 5, r.cell 6⟩
          replace hput := hide hput
          replace hKK := hide hKK
          replace hOK := hide hOK
          have hwb : IntKind.i64.wrap 4 = 4 := by decide
          go_wp2_with fail
          go_upto_region 7 with (fail)
          go_region_held3 (fun w' => w'.cell? ⟨gc, 5, none⟩ = some (.pointer (some ⟨ts 4, 0, none⟩)) ∧ w'.cell? ⟨g, 0, none⟩ = some (.string (str nm)) ∧ w'.cell? ⟨g, 1, none⟩ = some (.int .i64 (me : Int)) ∧ w'.cell? ⟨g, 2, none⟩ = some (.int .i64 (ds : Int)) ∧ w'.cell? ⟨g, 3, none⟩ = some (.int .u32 (cr : Int)) ∧ w'.cell? ⟨g, 4, none⟩ = some (.int .i64 (cs : Int)) ∧ w'.cell? ⟨g, 5, none⟩ = some (.int .i64 (si : Int)) ∧ w'.cell? ⟨g, 6, none⟩ = some (.int .i64 (at_ : Int))) (first | exact ⟨cg, c0, c1, c2, c3, c4, c5, c6⟩ | (exact hkr.out _ F6 (Ev.of_below (by first | (with_reducible exact hbN.out) | (with_reducible exact hbO.out) | (with_reducible exact hbO.out.alloc hbO.out.size _)))) | (exact hkr.out _ _ hE07.out) | go_keep) (first
            | (go_at_call 43; refine (hord.out _ (by first | (with_reducible exact (Below.refl _ wr).drew) | (with_reducible exact ((Below.refl _ wr).alloc (Nat.le_refl _) _).drew))).mono ?_; rintro e wo ⟨vo, rfl, hOo, hBo⟩; rw [← hOK.out] at hOo; have hbO : Hid (Below wr.heap.size wr wo) := hide (Below.trans (by first | (with_reducible exact (Below.refl _ wr).drew) | (with_reducible exact ((Below.refl _ wr).alloc (Nat.le_refl _) _).drew)) (hBo.mono (by simp <;> omega))); obtain ⟨oA, oc, rfl, hro, _, _, _⟩ := hOo.form; replace hOo := hide hOo; replace hBo := hide hBo; replace hro := hide hro)
            | (go_at_call 24; refine (knum_blk _ oA OK.length oc _ OK 3 [(id : Int), (no : Int)] #[.int .i64 (id : Int), .int .i64 (no : Int)] (by first | (with_reducible exact hro.out) | (with_reducible exact rb_allocs hro.out _) | (with_reducible exact rb_allocs_drew hro.out _)) (by first | (with_reducible exact Blk.new _ _ _) | (with_reducible exact (Blk.new _ _ _).drew) | (with_reducible exact (Blk.new _ _ _).drew.below hBo.out (by simp <;> omega))) rfl hOl.out (by simp)).mono ?_; rintro e wn ⟨vn, rfl, hOn, hBn⟩; rw [← hKB.out, ← hKK.out] at hOn; have hbN : Hid (Below wr.heap.size wr wn) := hide (Below.trans (by first | (with_reducible exact hbO.out) | (with_reducible exact hbO.out.alloc hbO.out.size _)) (hBn.mono (by have := hbO.out.size; simp <;> omega))); obtain ⟨nA, nc, rfl, _, _, hnc, _⟩ := hOn.form; have hkey : Hid (MB F6 wn nA KK.length KK) := hide (MB.made hOn (fun k hk => by have := hPr.out.lt k hk; have := hbO.out.size; simp <;> omega)); replace hOn := hide hOn; replace hBn := hide hBn)
            | (go_at_call 35; refine (hput.out _ F6 (ts 4) gp nA none nc 0 (by first | (with_reducible exact hPr.out.below hbN.out)) (by first | (with_reducible exact (hcr.out.tree 4 (by omega)).ev (Ev.of_below hbN.out))) (by first | (with_reducible exact hkey.out)) (MB.nil _)).mono ?_; rintro e w7 ⟨rfl, F7, hP7, hE7⟩; have hE17 : Hid (Ev F w1 F7 w7) := hide (hEr.out.trans ((Ev.of_below hbN.out).trans hE7)); have hE07 : Hid (Ev F6 wr F7 w7) := hide ((Ev.of_below hbN.out).trans hE7); replace hP7 := hide hP7; replace hE7 := hide hE7))
          all_goals
            have hrel7 : Hid (∃ F', PgAt w7 F' gp (S (1 + 1)) ∧ Ev F w1 F' w7) := hide ⟨F7, hP7.out, hE17.out⟩
            go_wp2_with fail
            go_roundw
            case rel => exact ⟨1 + 1, by omega, rfl, hrel7⟩
            case measure => simp [intOf]
        | 2, hb4, hlt4 =>
          obtain ⟨KK, hKK, hput⟩ := hrnd.out 2 (by omega)
          obtain ⟨OK, hOK⟩ : ∃ OK, OK = orderKey 2 ⟨nm, me, ds, cr, cs, si, at_⟩ := ⟨_, rfl⟩
          have hOl : Hid (OK.length ≤ 100000) := hide (by rw [hOK]; exact hol.out 2 (by omega))
          rw [← hOK] at hKK
          have hord : Hid (∀ W, Below wr.heap.size wr W → Calls Tryz.prog 43 #[.int .i64 2, .agg #[.string (str nm), .int .i64 (me : Int), .int .i64 (ds : Int), .int .u32 (cr : Int), .int .i64 (cs : Int), .int .i64 (si : Int), .int .i64 (at_ : Int)]] W (RetB W (orderKey 2 ⟨nm, me, ds, cr, cs, si, at_⟩))) := hide fun W hW => order_any W ⟨nm, me, ds, cr, cs, si, at_⟩ hf.out (hmr.out.below hW) 2 (by omega)
          have cg : wr.cell? ⟨gc, 6, none⟩ = some (.pointer (some ⟨ts 5, 0, none⟩)) := hcr.out.blk.cell 6
          have hkr : Hid (∀ w' F', Ev F6 wr F' w' → w'.cell? ⟨gc, 6, none⟩ = some (.pointer (some ⟨ts 5, 0, none⟩)) ∧ w'.cell? ⟨g, 0, none⟩ = some (.string (str nm)) ∧ w'.cell? ⟨g, 1, none⟩ = some (.int .i64 (me : Int)) ∧ w'.cell? ⟨g, 2, none⟩ = some (.int .i64 (ds : Int)) ∧ w'.cell? ⟨g, 3, none⟩ = some (.int .u32 (cr : Int)) ∧ w'.cell? ⟨g, 4, none⟩ = some (.int .i64 (cs : Int)) ∧ w'.cell? ⟨g, 5, none⟩ = some (.int .i64 (si : Int)) ∧ w'.cell? ⟨g, 6, none⟩ = some (.int .i64 (at_ : Int))) := hide fun W F' hE => by
            have q := (hcr.out.ev hE).blk
            have r := hE.blk hbr.out hg6.out
            exact ⟨q.cell 6, r.cell 0, r.cell 1, r.cell 2, r.cell 3, r.cell 4, r.cell 5, r.cell 6⟩
          replace hput := hide hput
          replace hKK := hide hKK
          replace hOK := hide hOK
          have hwb : IntKind.i64.wrap 5 = 5 := by decide
          go_wp2_with fail
          go_upto_region 7 with (fail)
          go_region_held3 (fun w' => w'.cell? ⟨gc, 6, none⟩ = some (.pointer (some ⟨ts 5, 0, none⟩)) ∧ w'.cell? ⟨g, 0, none⟩ = some (.string (str nm)) ∧ w'.cell? ⟨g, 1, none⟩ = some (.int .i64 (me : Int)) ∧ w'.cell? ⟨g, 2, none⟩ = some (.int .i64 (ds : Int)) ∧ w'.cell? ⟨g, 3, none⟩ = some (.int .u32 (cr : Int)) ∧ w'.cell? ⟨g, 4, none⟩ = some (.int .i64 (cs : Int)) ∧ w'.cell? ⟨g, 5, none⟩ = some (.int .i64 (si : Int)) ∧ w'.cell? ⟨g, 6, none⟩ = some (.int .i64 (at_ : Int))) (first | exact ⟨cg, c0, c1, c2, c3, c4, c5, c6⟩ | (exact hkr.out _ F6 (Ev.of_below (by first | (with_reducible exact hbN.out) | (with_reducible exact hbO.out) | (with_reducible exact hbO.out.alloc hbO.out.size _)))) | (exact hkr.out _ _ hE07.out) | go_keep) (first
            | (go_at_call 43; refine (hord.out _ (by first | (with_reducible exact (Below.refl _ wr).drew) | (with_reducible exact ((Below.refl _ wr).alloc (Nat.le_refl _) _).drew))).mono ?_; rintro e wo ⟨vo, rfl, hOo, hBo⟩; rw [← hOK.out] at hOo; have hbO : Hid (Below wr.heap.size wr wo) := hide (Below.trans (by first | (with_reducible exact (Below.refl _ wr).drew) | (with_reducible exact ((Below.refl _ wr).alloc (Nat.le_refl _) _).drew)) (hBo.mono (by simp <;> omega))); obtain ⟨oA, oc, rfl, hro, _, _, _⟩ := hOo.form; replace hOo := hide hOo; replace hBo := hide hBo; replace hro := hide hro)
            | (go_at_call 24; refine (knum_blk _ oA OK.length oc _ OK 3 [(id : Int), (no : Int)] #[.int .i64 (id : Int), .int .i64 (no : Int)] (by first | (with_reducible exact hro.out) | (with_reducible exact rb_allocs hro.out _) | (with_reducible exact rb_allocs_drew hro.out _)) (by first | (with_reducible exact Blk.new _ _ _) | (with_reducible exact (Blk.new _ _ _).drew) | (with_reducible exact (Blk.new _ _ _).drew.below hBo.out (by simp <;> omega))) rfl hOl.out (by simp)).mono ?_; rintro e wn ⟨vn, rfl, hOn, hBn⟩; rw [← hKB.out, ← hKK.out] at hOn; have hbN : Hid (Below wr.heap.size wr wn) := hide (Below.trans (by first | (with_reducible exact hbO.out) | (with_reducible exact hbO.out.alloc hbO.out.size _)) (hBn.mono (by have := hbO.out.size; simp <;> omega))); obtain ⟨nA, nc, rfl, _, _, hnc, _⟩ := hOn.form; have hkey : Hid (MB F6 wn nA KK.length KK) := hide (MB.made hOn (fun k hk => by have := hPr.out.lt k hk; have := hbO.out.size; simp <;> omega)); replace hOn := hide hOn; replace hBn := hide hBn)
            | (go_at_call 35; refine (hput.out _ F6 (ts 5) gp nA none nc 0 (by first | (with_reducible exact hPr.out.below hbN.out)) (by first | (with_reducible exact (hcr.out.tree 5 (by omega)).ev (Ev.of_below hbN.out))) (by first | (with_reducible exact hkey.out)) (MB.nil _)).mono ?_; rintro e w7 ⟨rfl, F7, hP7, hE7⟩; have hE17 : Hid (Ev F w1 F7 w7) := hide (hEr.out.trans ((Ev.of_below hbN.out).trans hE7)); have hE07 : Hid (Ev F6 wr F7 w7) := hide ((Ev.of_below hbN.out).trans hE7); replace hP7 := hide hP7; replace hE7 := hide hE7))
          all_goals
            have hrel7 : Hid (∃ F', PgAt w7 F' gp (S (2 + 1)) ∧ Ev F w1 F' w7) := hide ⟨F7, hP7.out, hE17.out⟩
            go_wp2_with fail
            go_roundw
            case rel => exact ⟨2 + 1, by omega, rfl, hrel7⟩
            case measure => simp [intOf]
        | 3, hb4, hlt4 =>
          obtain ⟨KK, hKK, hput⟩ := hrnd.out 3 (by omega)
          obtain ⟨OK, hOK⟩ : ∃ OK, OK = orderKey 3 ⟨nm, me, ds, cr, cs, si, at_⟩ := ⟨_, rfl⟩
          have hOl : Hid (OK.length ≤ 100000) := hide (by rw [hOK]; exact hol.out 3 (by omega))
          rw [← hOK] at hKK
          have hord : Hid (∀ W, Below wr.heap.size wr W → Calls Tryz.prog 43 #[.int .i64 3, .agg #[.string (str nm), .int .i64 (me : Int), .int .i64 (ds : Int), .int .u32 (cr : Int), .int .i64 (cs : Int), .int .i64 (si : Int), .int .i64 (at_ : Int)]] W (RetB W (orderKey 3 ⟨nm, me, ds, cr, cs, si, at_⟩))) := hide fun W hW => order_any W ⟨nm, me, ds, cr, cs, si, at_⟩ hf.out (hmr.out.below hW) 3 (by omega)
          have cg : wr.cell? ⟨gc, 7, none⟩ = some (.pointer (some ⟨ts 6, 0, none⟩)) := hcr.out.blk.cell 7
          have hkr : Hid (∀ w' F', Ev F6 wr F' w' → w'.cell? ⟨gc, 7, none⟩ = some (.pointer (some ⟨ts 6, 0, none⟩)) ∧ w'.cell? ⟨g, 0, none⟩ = some (.string (str nm)) ∧ w'.cell? ⟨g, 1, none⟩ = some (.int .i64 (me : Int)) ∧ w'.cell? ⟨g, 2, none⟩ = some (.int .i64 (ds : Int)) ∧ w'.cell? ⟨g, 3, none⟩ = some (.int .u32 (cr : Int)) ∧ w'.cell? ⟨g, 4, none⟩ = some (.int .i64 (cs : Int)) ∧ w'.cell? ⟨g, 5, none⟩ = some (.int .i64 (si : Int)) ∧ w'.cell? ⟨g, 6, none⟩ = some (.int .i64 (at_ : Int))) := hide fun W F' hE => by
            have q := (hcr.out.ev hE).blk
            have r := hE.blk hbr.out hg6.out
            exact ⟨q.cell 7, r.cell 0, r.cell 1, r.cell 2, r.cell 3, r.cell 4, r.cell 5, r.cell 6⟩
          replace hput := hide hput
          replace hKK := hide hKK
          replace hOK := hide hOK
          have hwb : IntKind.i64.wrap 6 = 6 := by decide
          go_wp2_with fail
          go_upto_region 7 with (fail)
          go_region_held3 (fun w' => w'.cell? ⟨gc, 7, none⟩ = some (.pointer (some ⟨ts 6, 0, none⟩)) ∧ w'.cell? ⟨g, 0, none⟩ = some (.string (str nm)) ∧ w'.cell? ⟨g, 1, none⟩ = some (.int .i64 (me : Int)) ∧ w'.cell? ⟨g, 2, none⟩ = some (.int .i64 (ds : Int)) ∧ w'.cell? ⟨g, 3, none⟩ = some (.int .u32 (cr : Int)) ∧ w'.cell? ⟨g, 4, none⟩ = some (.int .i64 (cs : Int)) ∧ w'.cell? ⟨g, 5, none⟩ = some (.int .i64 (si : Int)) ∧ w'.cell? ⟨g, 6, none⟩ = some (.int .i64 (at_ : Int))) (first | exact ⟨cg, c0, c1, c2, c3, c4, c5, c6⟩ | (exact hkr.out _ F6 (Ev.of_below (by first | (with_reducible exact hbN.out) | (with_reducible exact hbO.out) | (with_reducible exact hbO.out.alloc hbO.out.size _)))) | (exact hkr.out _ _ hE07.out) | go_keep) (first
            | (go_at_call 43; refine (hord.out _ (by first | (with_reducible exact (Below.refl _ wr).drew) | (with_reducible exact ((Below.refl _ wr).alloc (Nat.le_refl _) _).drew))).mono ?_; rintro e wo ⟨vo, rfl, hOo, hBo⟩; rw [← hOK.out] at hOo; have hbO : Hid (Below wr.heap.size wr wo) := hide (Below.trans (by first | (with_reducible exact (Below.refl _ wr).drew) | (with_reducible exact ((Below.refl _ wr).alloc (Nat.le_refl _) _).drew)) (hBo.mono (by simp <;> omega))); obtain ⟨oA, oc, rfl, hro, _, _, _⟩ := hOo.form; replace hOo := hide hOo; replace hBo := hide hBo; replace hro := hide hro)
            | (go_at_call 24; refine (knum_blk _ oA OK.length oc _ OK 3 [(id : Int), (no : Int)] #[.int .i64 (id : Int), .int .i64 (no : Int)] (by first | (with_reducible exact hro.out) | (with_reducible exact rb_allocs hro.out _) | (with_reducible exact rb_allocs_drew hro.out _)) (by first | (with_reducible exact Blk.new _ _ _) | (with_reducible exact (Blk.new _ _ _).drew) | (with_reducible exact (Blk.new _ _ _).drew.below hBo.out (by simp <;> omega))) rfl hOl.out (by simp)).mono ?_; rintro e wn ⟨vn, rfl, hOn, hBn⟩; rw [← hKB.out, ← hKK.out] at hOn; have hbN : Hid (Below wr.heap.size wr wn) := hide (Below.trans (by first | (with_reducible exact hbO.out) | (with_reducible exact hbO.out.alloc hbO.out.size _)) (hBn.mono (by have := hbO.out.size; simp <;> omega))); obtain ⟨nA, nc, rfl, _, _, hnc, _⟩ := hOn.form; have hkey : Hid (MB F6 wn nA KK.length KK) := hide (MB.made hOn (fun k hk => by have := hPr.out.lt k hk; have := hbO.out.size; simp <;> omega)); replace hOn := hide hOn; replace hBn := hide hBn)
            | (go_at_call 35; refine (hput.out _ F6 (ts 6) gp nA none nc 0 (by first | (with_reducible exact hPr.out.below hbN.out)) (by first | (with_reducible exact (hcr.out.tree 6 (by omega)).ev (Ev.of_below hbN.out))) (by first | (with_reducible exact hkey.out)) (MB.nil _)).mono ?_; rintro e w7 ⟨rfl, F7, hP7, hE7⟩; have hE17 : Hid (Ev F w1 F7 w7) := hide (hEr.out.trans ((Ev.of_below hbN.out).trans hE7)); have hE07 : Hid (Ev F6 wr F7 w7) := hide ((Ev.of_below hbN.out).trans hE7); replace hP7 := hide hP7; replace hE7 := hide hE7))
          all_goals
            have hrel7 : Hid (∃ F', PgAt w7 F' gp (S (3 + 1)) ∧ Ev F w1 F' w7) := hide ⟨F7, hP7.out, hE17.out⟩
            go_wp2_with fail
            go_roundw
            case rel => exact ⟨3 + 1, by omega, rfl, hrel7⟩
            case measure => simp [intOf]
        | n + 4, hb4, hlt4 => exact absurd hlt4 (by omega)
      · obtain rfl : b = 4 := by omega
        have hdone : Hid (PgEnd F w gp (S 4) (.int .i64 0) (.returned (.int .i64 0)) wr) := hide ⟨rfl, F6, hPr, hE1.out.trans hEr⟩
        replace hPr := hide hPr
        replace hEr := hide hEr
        go_wp2_with fail
        go_ret
        exact hdone.out
end Go.Proofs.YtiffnfgmkkoaeaaGreatDoor
