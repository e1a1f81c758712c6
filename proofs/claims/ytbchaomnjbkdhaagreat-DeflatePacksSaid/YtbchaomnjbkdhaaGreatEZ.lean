/-
  Contracts of the unpacker: New, Put, Done, Rest, Get.
-/
import Derived.Test.YtbchaomnjbkdhaaGreatEInfS
import Derived.Test.YtbchaomnjbkdhaaGreatEB
namespace Go.Proofs.YtbchaomnjbkdhaaGreat
open Go.RowKit Go.Sort Go.Proofs
set_option linter.unusedVariables false
set_option maxRecDepth 100000 in
theorem bread_any (w : World) : Calls Tryz.prog 40 #[.slice none 0 0] w fun e w' => e = .returned (.pointer (some ⟨w.heap.size, 0, none⟩)) ∧ w' = w.alloc (.cells #[.slice none 0 0, .int .i64 0] 118) := by
  go_enter Tryz.func40, Tryz.ntmps40
  go_wp2_with fail
  generalize hwa : w.alloc (.cells #[.slice none 0 0, .int .i64 0] 118) = wa
  go_loopw [10] (fun v10 wx => v10 = .int .i64 0 ∧ wa = wx) (fun _ _ => 0)
  case atStart => exact ⟨rfl, rfl⟩
  case round =>
    obtain ⟨rfl, rfl⟩ := hrel
    go_wp2_with fail
    go_ret
    exact ⟨rfl, hwa.symm⟩
set_option maxRecDepth 100000 in
theorem inew_any (w : World) : Calls Tryz.prog 16 #[] w fun e w' => ∃ gr gb, e = .returned (.pointer (some ⟨gr, 0, none⟩)) ∧ Mach w' w.heap.size gr gb (.slice none 0 0) (.slice none 0 0) [] 0 [] 0 0 false 0 0 (.pointer none) (.pointer none) ∧ Below w.heap.size w w' := by
  go_enter Tryz.func16, Tryz.ntmps16
  go_wp2_with fail
  refine (bread_any w).mono ?_
  rintro e w1 ⟨rfl, rfl⟩
  go_wp2_with fail
  go_ret
  have hB := Blk.new (w.alloc (.cells #[.slice none 0 0, .int .i64 0] 118)) 85 (rdCells w.heap.size (.slice none 0 0) 0 0 false 0 0 (.pointer none) (.pointer none))
  rw [show (w.alloc (.cells #[.slice none 0 0, .int .i64 0] 118)).heap.size = w.heap.size + 1 by simp] at hB
  refine ⟨_, w.heap.size, rfl, ⟨hB, ⟨(Blk.new w 118 _).alloc _, OB.nil _ _⟩, OB.nil _ _, (fun k hk => by cases hk), (fun k hk => by cases hk), by simp, Nat.le_refl _⟩, ((Below.refl _ _).alloc (Nat.le_refl _) _).alloc (by simp) _⟩
set_option maxRecDepth 100000 in
theorem slide_any (w : World) (B gr gb : Nat) (vb vo : Value) (l : List UInt8) (p : Nat) (out : List UInt8) (at_ st : Nat) (last : Bool) (left back : Nat) (pl pd : Value) (h : Mach w B gr gb vb vo l p out at_ st last left back pl pd) (ha : at_ ≤ 32768) :
    Calls Tryz.prog 47 #[.pointer (some ⟨gr, 0, none⟩)] w fun e w' => e = .returned (.tuple #[]) ∧ w' = w := by
  have c2 : w.cell? ⟨gr, 2, none⟩ = some (.int .i64 (at_ : Int)) := h.rd.cell 2
  have hI : ¬ (32768 : Int) < (at_ : Int) := by omega
  replace h := hide h
  go_enter Tryz.func47, Tryz.ntmps47
  go_wp2_with fail
  go_end0
  exact ⟨rfl, rfl⟩
set_option maxRecDepth 100000 in
/-- All was handed out: done, or not yet begun. -/
theorem done_any (w : World) (B gr gb : Nat) (vb vo : Value) (l : List UInt8) (p : Nat) (out : List UInt8) (st : Nat) (last : Bool) (left back : Nat) (pl pd : Value) (h : Mach w B gr gb vb vo l p out out.length st last left back pl pd) (ho : out.length ≤ 1000000) (hs : (st = 4 ∧ last = true) ∨ (st = 0 ∧ last = false)) :
    Calls Tryz.prog 18 #[.pointer (some ⟨gr, 0, none⟩)] w fun e w' => e = .returned (.bool last) ∧ ∃ q, w' = w.drewN q := by
  have c2 : w.cell? ⟨gr, 2, none⟩ = some (.int .i64 (out.length : Int)) := h.rd.cell 2
  have c3 : w.cell? ⟨gr, 3, none⟩ = some (.int .i64 (st : Int)) := h.rd.cell 3
  have c4 : w.cell? ⟨gr, 4, none⟩ = some (.bool last) := h.rd.cell 4
  obtain ⟨vA, vc, hvo, -, -, -, -⟩ := h.ou.form
  have c1 : w.cell? ⟨gr, 1, none⟩ = some (.slice vA out.length vc) := by rw [← hvo]; exact h.rd.cell 1
  replace h := hide h
  replace hvo := hide hvo
  rcases hs with ⟨rfl, rfl⟩ | ⟨rfl, rfl⟩
  · go_enter Tryz.func18, Tryz.ntmps18
    go_wp2_with fail
    go_quiet (fail)
    go_wp2_with fail
    go_ret
    exact ⟨rfl, _, rfl⟩
  · go_enter Tryz.func18, Tryz.ntmps18
    go_wp2_with fail
    go_quiet (fail)
    go_wp2_with fail
    go_ret
    exact ⟨rfl, _, rfl⟩
set_option maxRecDepth 100000 in
theorem rest_any (w : World) (B gr gb : Nat) (vb vo : Value) (l : List UInt8) (p : Nat) (out : List UInt8) (left back : Nat) (pl pd : Value) (h : Mach w B gr gb vb vo l p out out.length 4 true left back pl pd) (ho : out.length ≤ 1000000) (hp : p ≤ 8 * l.length) (hl : l.length ≤ 10000000) :
    Calls Tryz.prog 20 #[.pointer (some ⟨gr, 0, none⟩)] w fun e w' => e = .returned (.int .i64 (((8 * l.length - p) / 8 : Nat) : Int)) ∧ ∃ q, w' = w.drewN q := by
  have hd := hide (done_any w B gr gb vb vo l p out 4 true left back pl pd h ho (.inl ⟨rfl, rfl⟩))
  have c0 : w.cell? ⟨gr, 0, none⟩ = some (.pointer (some ⟨gb, 0, none⟩)) := h.rd.cell 0
  have hlf : Hid (∀ q, Calls Tryz.prog 48 #[.pointer (some ⟨gb, 0, none⟩)] (w.drewN q) fun e w' => e = .returned (.int .i64 ((8 * l.length - p : Nat) : Int)) ∧ ∃ k, w' = (w.drewN q).drewN k) := fun q => left_any (w.drewN q) gb vb l p (h.br.drewN q) hp hl
  obtain ⟨D, hD⟩ : ∃ D, D = 8 * l.length - p := ⟨_, rfl⟩
  rw [← hD] at hlf ⊢
  have hDb : D ≤ 80000000 := by omega
  replace h := hide h
  replace hD := hide hD
  go_enter Tryz.func20, Tryz.ntmps20
  go_wp2_with fail
  refine hd.out.mono ?_
  rintro e w1 ⟨rfl, q, rfl⟩
  have c0q : (w.drewN q).cell? ⟨gr, 0, none⟩ = some (.pointer (some ⟨gb, 0, none⟩)) := c0
  go_wp2_with fail
  refine (hlf.out q).mono ?_
  rintro e w2 ⟨rfl, k, rfl⟩
  go_wp2_with fail
  go_ret
  exact ⟨ret_int (by rw [Int.natCast_ediv]; rfl), q + k, rfl⟩
set_option maxRecDepth 100000 in
/-- The first bytes are handed to a reader of bits. -/
theorem radd_new (w : World) (g : Nat) (A : Option Addr) (n c : Nat) (b : List UInt8) (hB : Blk w g 118 #[.slice none 0 0, .int .i64 0]) (hb : RB w w.heap.size A n b) (hl : n ≤ 10000000) :
    Calls Tryz.prog 45 #[.pointer (some ⟨g, 0, none⟩), .slice A n c] w fun e w' => e = .returned (.tuple #[]) ∧ (∃ v', BRAt w' g v' b 0 ∧ ∀ k, v'.ownBlock = some k → w.heap.size ≤ k) ∧ Only (fun k => k = g) w w' := by
  have hbn := hide hb.len
  have c0 := hB.cell 0
  have f0 := hB.frozen 0
  have hO : Hid (OB w w.heap.size (.slice none 0 0) 0 []) := OB.nil w _
  replace hB := hide hB
  replace hb := hide hb
  go_enter Tryz.func45, Tryz.ntmps45
  go_wp2_with (at_builtin; refine wpList_app_b rfl (.tmp 10) (.tmp 11) rfl w.heap.size _ 0 [] hO.out rfl w.heap.size A n c b rfl hb.out (by omega) (Nat.le_refl _) ?_; intro v2 w2 ho2 _ hg2 _; obtain ⟨A2, c2, hv2, -⟩ := ho2.form; subst hv2; have hB2 := hide (hB.out.grown hg2 (fun e => by cases e)); have d0 := hB2.out.cell 0; have e0 := hB2.out.frozen 0; replace ho2 := hide ho2; replace hg2 := hide hg2)
  go_end0
  obtain ⟨v2, hv2⟩ : ∃ v2, v2 = Value.slice A2 (0 + n) c2 := ⟨_, rfl⟩
  have ho3 := ho2.out
  rw [← hv2, List.nil_append, Nat.zero_add] at ho3
  rw [show Value.slice A2 n c2 = v2 by rw [hv2, Nat.zero_add]]
  have hs := hB2.out.set_ 0 v2
  have h1 : Only (fun k => k = g) w w2 := (Only.refl _ w).grown hg2.out fun k hk _ => by cases hk
  have hne2 := BRAt.apart (g' := 0) hB2.out (ho3.more (Nat.zero_le _))
  have hO4 : Only (fun k => k = g) w2 (w2.setCell ⟨g, 0, none⟩ v2) := (Only.refl (· = g) w2).setCell (p := ⟨g, 0, none⟩) (fun _ => rfl) v2
  refine ⟨rfl, ⟨v2, ⟨hs, ?_⟩, fun k hk => (World.ownsRow.lt ho3 k hk).1⟩, h1.trans hO4 fun _ _ h => h⟩
  rw [hbn.out]
  exact hO4.row (ho3.more (Nat.zero_le _)) fun k hk e => hne2 (by rw [hk, e])
/-- What is handed in. -/
def PutRet (w : World) (B gr : Nat) (b : List UInt8) (e : Ending) (w' : World) : Prop :=
  e = .returned (.tuple #[]) ∧ ∃ gb vb, Mach w' B gr gb vb (.slice none 0 0) b 0 [] 0 0 false 0 0 (.pointer none) (.pointer none) ∧ Below B w w'
set_option maxRecDepth 100000 in
theorem iput_any (w : World) (B gr gb : Nat) (A : Option Addr) (n c : Nat) (b : List UInt8) (h : Mach w B gr gb (.slice none 0 0) (.slice none 0 0) [] 0 [] 0 0 false 0 0 (.pointer none) (.pointer none)) (hB : B ≤ w.heap.size) (hb : RB w w.heap.size A n b) (hn : n ≤ 10000000) :
    Calls Tryz.prog 17 #[.pointer (some ⟨gr, 0, none⟩), .slice A n c] w (PutRet w B gr b) := by
  have hbn := hide hb.len
  replace hb := hide hb
  have hM1 := hide (h.alloc (.cells #[.slice none 0 0, .int .i64 0] 118))
  have hP1 := hide (Blk.new w 118 #[.slice none 0 0, .int .i64 0])
  have hB1 := hide ((Below.refl w.heap.size w).alloc (Nat.le_refl _) (.cells #[.slice none 0 0, .int .i64 0] 118))
  replace h := hide h
  go_enter Tryz.func17, Tryz.ntmps17
  go_wp2_with fail
  refine (bread_any w).mono ?_
  rintro e w1 ⟨rfl, hw1⟩
  rw [← hw1] at hM1 hP1 hB1
  obtain ⟨g1, hg1⟩ : ∃ g1, g1 = w.heap.size := ⟨_, rfl⟩
  rw [← hg1] at hP1 ⊢
  have hg1B : B ≤ g1 := by omega
  have hne : g1 ≠ gb := by have := h.out.br.1.lt; omega
  have hgg : gr ≠ g1 := Blk.ne_ hM1.out.rd hP1.out (by decide)
  clear hw1
  have c0 : w1.cell? ⟨gr, 0, none⟩ = some (.pointer (some ⟨gb, 0, none⟩)) := hM1.out.rd.cell 0
  have hmk := hide (mark_any w1 gb _ [] 0 hM1.out.br)
  have hhs := hide (has_any w1 gb _ [] 0 8 hM1.out.br (Nat.le_refl _) (by simp) (by omega))
  replace hg1 := hide hg1
  go_wp2_with fail
  refine hmk.out.mono ?_
  rintro e w2 ⟨rfl, rfl⟩
  clear hmk
  go_wp2_with fail
  go_loopw [] (fun wx => w2 = wx) (fun _ => 0)
  case atStart => rfl
  case round =>
    subst hrel
    go_wp2_with fail
    refine hhs.out.mono ?_
    rintro e w3 ⟨rfl, q, rfl⟩
    have hd8 : decide (0 + 8 ≤ 8 * ([] : List UInt8).length) = false := rfl
    rw [hd8]
    have hb3 : RB (w2.drewN q) (w2.drewN q).heap.size A n b := (hb.out.below (hB1.out.trans (below_drewN (Below.refl _ _) q))).more hB1.out.size
    have had := hide (radd_new (w2.drewN q) g1 A n c b (hP1.out.drewN q) hb3 hn)
    have hM3 := hide (hM1.out.drewN q)
    have hB3 : Hid (Below w.heap.size w (w2.drewN q)) := hB1.out.trans (below_drewN (Below.refl _ _) q)
    generalize w2.drewN q = w3 at *
    clear hb3 hhs hM1 hP1 hB1 c0 hd8
    go_wp2_with fail
    refine had.out.mono ?_
    rintro e w4 ⟨rfl, ⟨v4, hb4, hv4⟩, hO4⟩
    have hrb := hide (rbits_any w4 g1 v4 b 0 0 hb4 (Nat.zero_le _) (by have := hbn.out; omega) (by omega))
    have hB4 : Hid (Below B w w4) := (hB3.out.mono hB).trans (hO4.below (fun k hk => by subst hk; exact hg1B) (Nat.le_trans hB hB3.out.size))
    have hRd4 := hide (hO4.blk hM3.out.rd (fun e => hgg e))
    have hv4B : ∀ k, v4.ownBlock = some k → B ≤ k := fun k hk => Nat.le_trans (Nat.le_trans hB hB3.out.size) (hv4 k hk)
    replace hb4 := hide hb4
    clear had
    go_wp2_with fail
    refine hrb.out.mono ?_
    rintro e w5 (⟨_, rfl, hb5, hO5⟩ | ⟨hx, _⟩)
    · have hRd5 := hO5.blk hRd4.out (fun e => hgg e)
      have r0 := hRd5.frozen 0
      have u0 := hRd5.cell 0
      have hO6 : Only (· = gr) w5 (w5.setCell ⟨gr, 0, none⟩ (.pointer (some ⟨g1, 0, none⟩))) := (Only.refl (· = gr) w5).setCell (p := ⟨gr, 0, none⟩) (fun _ => rfl) _
      have hMf : Hid (Mach (w5.setCell ⟨gr, 0, none⟩ (.pointer (some ⟨g1, 0, none⟩))) B gr g1 v4 (.slice none 0 0) b 0 [] 0 0 false 0 0 (.pointer none) (.pointer none)) :=
        ⟨hRd5.set_ 0 (.pointer (some ⟨g1, 0, none⟩)), hb5.only hO6 (fun e => hgg e.symm) (fun k hk e => own_blk_ne hb5.2 hRd5 (by decide) (by rw [hk, e])), OB.nil _ _, hv4B, (fun k hk => by cases hk), h.out.grB, hg1B⟩
      have hBf : Hid (Below B w (w5.setCell ⟨gr, 0, none⟩ (.pointer (some ⟨g1, 0, none⟩)))) := (hB4.out.trans (hO5.below (fun k hk => by subst hk; exact hg1B) (Nat.le_trans hB hB4.out.size))).setCell (p := ⟨gr, 0, none⟩) h.out.grB _
      replace hRd5 := hide hRd5
      replace hb5 := hide hb5
      replace hO5 := hide hO5
      clear hO6
      go_wp2_with fail
      go_end0
      exact ⟨rfl, g1, v4, hMf.out, hBf.out⟩
    · exact absurd (Nat.zero_le _) hx
end Go.Proofs.YtbchaomnjbkdhaaGreat
namespace Go.Proofs.YtbchaomnjbkdhaaGreat
open Go.RowKit Go.Sort Go.Proofs
set_option linter.unusedVariables false
theorem OB.setGr {w : World} {base n gr i : Nat} {v : Value} {l : List UInt8} {cs : Array Value} (h : OB w base v n l) (hR : Blk w gr 85 cs) (u : Value) : OB (w.setCell ⟨gr, i, none⟩ u) base v n l :=
  Only.row (S := fun k => k = gr) ((Only.refl (· = gr) w).setCell (p := ⟨gr, i, none⟩) (fun _ => rfl) u) h fun k hk e => own_blk_ne h hR (by decide) (by rw [hk, e])
def GetRet (w : World) (B gr gb : Nat) (vb : Value) (l b : List UInt8) (m : Nat) (e : Ending) (w' : World) : Prop :=
  ∃ (vg vo : Value) (e1 p : Nat) (out : List UInt8) (st : Nat) (last : Bool) (left back : Nat) (pl pd : Value), e = .returned (.tuple #[vg, .int .i64 (e1 : Int)]) ∧ Mach w' B gr gb vb vo l p out out.length st last left back pl pd ∧ Below B w w' ∧ OB w' w.heap.size vg out.length out ∧ out.length ≤ b.length ∧ p ≤ 8 * l.length ∧
    ((e1 = 0 ∧ m ≤ 8 * l.length ∧ st = 4 ∧ last = true ∧ out = b ∧ p = m) ∨ (e1 = 3 ∧ ¬ m ≤ 8 * l.length))
set_option maxRecDepth 100000 in
set_option maxHeartbeats 4000000 in
theorem get_any (w : World) (B gr gb : Nat) (vb : Value) (l b : List UInt8) (K n : Nat) (its : List Item) (ls ds : List Nat) (m mh most : Nat)
    (h : Mach w B gr gb vb (.slice none 0 0) l 0 [] 0 0 false 0 0 (.pointer none) (.pointer none)) (hB : B ≤ w.heap.size) (hC : StepC l b K n its ls ds m mh) (hmost : b.length < most) (hmo : most ≤ 30000) :
    Calls Tryz.prog 19 #[.pointer (some ⟨gr, 0, none⟩), .int .i64 (most : Int)] w (GetRet w B gr gb vb l b m) := by
  have hS := hide (step_any w B gr gb vb (.slice none 0 0) l b K n its ls ds m mh most hB hC hmost (by omega) (muC its + n + 4) ⟨0, [], 0, false, 0, 0, _, _, ⟨_, h, Only.refl _ _, fun k hk => .inl hk, Nat.zero_le _, Nat.zero_le _⟩, .inl ⟨rfl, rfl, rfl, rfl, rfl⟩⟩)
  have hgr := hide h.rd.lt
  have hgB := h.grB
  have hbB := h.gbB
  replace h := hide h
  replace hC := hide hC
  have hmin : min (most : Int) 65536 = (most : Int) := by omega
  go_enter Tryz.func19, Tryz.ntmps19
  go_wp2_with fail
  refine hS.out.mono ?_
  rintro e w1 ⟨e1, p, out, st, last, left, back, pl, pd, rfl, ⟨vo, hM, hO, hown, hp, hob⟩, hcase⟩
  have hB1 : Hid (Below B w w1) := hO.below (fun k hk => by
    rcases hk with rfl | rfl | hk
    · exact hgB
    · exact hbB
    · cases hk) hB
  obtain ⟨OL, hOL⟩ : ∃ OL, OL = out.length := ⟨_, rfl⟩
  have hOLb : OL ≤ b.length := by omega
  have hown2 : Hid (Only (SM gr gb (.slice none 0 0)) w w1) := hO
  have c2 : w1.cell? ⟨gr, 2, none⟩ = some (.int .i64 0) := hM.rd.cell 2
  have hOLi : IntKind.i64.wrap (OL : Int) = (OL : Int) := IntWalk.i64_in _ (by omega)
  have hmn : min (OL : Int) (most : Int) = (OL : Int) := by omega
  have hOL0 : (0 : Int) ≤ (OL : Int) := by omega
  rcases hM.ou.parts with ⟨h5, h6, h7⟩ | ⟨go, cap, h5, h6, h7⟩
  · subst h5
    subst h7
    rw [List.length_nil] at hOL
    subst hOL
    have c1 : w1.cell? ⟨gr, 1, none⟩ = some (.slice none 0 0) := hM.rd.cell 1
    have hMh := hide hM
    replace hcase := hide hcase
    replace hown := hide hown
    clear hM hO hOLi hmn
    have hmn0 : min 0 (most : Int) = 0 := by omega
    have hw00 : IntKind.i64.wrap 0 = 0 := rfl
    have hOg : Hid (OB w1 w.heap.size (.slice none 0 0) 0 []) := OB.nil _ _
    go_wp2_with fail
    go_cut [7] (fun v7 wx => v7 = .int .i64 0 ∧ wx = w1.drewN 1)
    case first =>
      go_region
      all_goals go_wp2_with fail
      all_goals go_meet
      all_goals exact ⟨rfl, rfl⟩
    case rest =>
      obtain ⟨rfl, hwc⟩ := hcut
      have hM2 := hide (hMh.out.drewN 1)
      have hB2 : Hid (Below B w (w1.drewN 1)) := hB1.out.trans (below_drewN (Below.refl _ _) 1)
      have d1 : (w1.drewN 1).cell? ⟨gr, 1, none⟩ = some (.slice none 0 0) := c1
      have d2 : (w1.drewN 1).cell? ⟨gr, 2, none⟩ = some (.int .i64 0) := c2
      rw [← hwc] at hM2 hB2 d1 d2
      clear hwc hMh hB1 c1 c2 hown2 hOg
      obtain ⟨i0, hi0, hz0, hz1, hz2⟩ := info_parts byte_info
      have hrun := run_append_of_nil (P := Tryz.prog) wc.drew wc.heap.size 22 22 5 i0 1 Tryz.underlying22 hi0 (.slice none 0 0) 0 [] ⟨by simp, .inl ⟨rfl, rfl⟩⟩ 0
      have hM3 := hide (hM2.out.drewN 1)
      have hB3 : Hid (Below B w (wc.drewN 1)) := hB2.out.trans (below_drewN (Below.refl _ _) 1)
      go_upto_region 6 with (fail)
      go_cut [8] (fun v8 wx => v8 = .slice none 0 0 ∧ wx = wc.drewN 1)
      case first =>
        go_region_law (refine Lib.wp_append_run _ (.const (.slice none 0 0)) (.tmp 43) 22 22 rfl _ _ rfl rfl _ _ hrun ?_)
        all_goals go_wp2_with fail
        all_goals go_meet
        all_goals exact ⟨rfl, rfl⟩
      case rest =>
        obtain ⟨rfl, rfl⟩ := hcut
        clear hrun d1 d2
        generalize hw3 : World.drewN _ 1 = w3 at *
        have e2 : w3.cell? ⟨gr, 2, none⟩ = some (.int .i64 0) := hM3.out.rd.cell 2
        have q2 := hM3.out.rd.frozen 2
        have hMf := hM3.out.set_ 2 (.int .i64 0) (at2 := 0) (st2 := st) (last2 := last) (left2 := left) (back2 := back) (pl2 := pl) (pd2 := pd) rfl
        have hBf := hide (hB3.out.setCell (p := ⟨gr, 2, none⟩) hgB (.int .i64 0))
        have hsl := hide (slide_any _ B gr gb vb _ l p [] 0 st last left back pl pd hMf (by omega))
        have hMf' := hide hMf
        clear hMf hw3
        go_upto_region 8 with (fail)
        generalize w3.setCell ⟨gr, 2, none⟩ (.int .i64 0) = wf at *
        clear e2 q2
        go_wp2_with fail
        refine hsl.out.mono ?_
        rintro e w9 ⟨rfl, rfl⟩
        go_wp2_with fail
        go_ret2
        exact ⟨.slice none 0 0, .slice none 0 0, e1, p, [], st, last, left, back, pl, pd, rfl, hMf'.out, hBf.out, OB.nil _ _, Nat.zero_le _, hp, hcase.out⟩
  · subst h5
    rw [← hOL] at h6
    have c1 : w1.cell? ⟨gr, 1, none⟩ = some (.slice (some ⟨go, 0, none⟩) OL cap) := by rw [hOL]; exact hM.rd.cell 1
    have hRB : RB w1 w1.heap.size (some ⟨go, 0, none⟩) OL out := by
      obtain ⟨A, c, e', h1, -⟩ := hM.ou.form
      rw [← hOL] at e' h1
      cases e'
      exact h1
    have hMh := hide hM
    replace hOL := hide hOL
    replace hcase := hide hcase
    replace hown := hide hown
    clear hM hO
    go_wp2_with fail
    go_cut [7] (fun v7 wx => v7 = .int .i64 (OL : Int) ∧ wx = w1.drewN 1)
    case first =>
      go_region
      all_goals go_wp2_with fail
      all_goals go_meet
      all_goals exact ⟨rfl, rfl⟩
    case rest =>
      obtain ⟨rfl, hwc⟩ := hcut
      have hM2 := hide (hMh.out.drewN 1)
      have hB2 : Hid (Below B w (w1.drewN 1)) := hB1.out.trans (below_drewN (Below.refl _ _) 1)
      have hOw2 : Hid (Only (SM gr gb (.slice none 0 0)) w (w1.drewN 1)) := hown2.out.drewN 1
      have d1 : (w1.drewN 1).cell? ⟨gr, 1, none⟩ = some (.slice (some ⟨go, 0, none⟩) OL cap) := c1
      have d2 : (w1.drewN 1).cell? ⟨gr, 2, none⟩ = some (.int .i64 0) := c2
      have hRB2 : RB (w1.drewN 1) (w1.drewN 1).heap.size (some ⟨go, 0, none⟩) OL out := hRB
      rw [← hwc] at hM2 hB2 hOw2 d1 d2 hRB2
      clear hwc hMh hB1 c1 c2 hRB hown2
      obtain ⟨i0, hi0, hz0, hz1, hz2⟩ := info_parts byte_info
      obtain ⟨vg, w3, hrun, hg1, hg2, hg3⟩ := run_append_any (P := Tryz.prog) wc.drew wc.heap.size 22 22 5 i0 _ 1 1 Tryz.underlying22 hi0 hz0 hz1 hz2 rfl (by omega) (.slice none 0 0) 0 [] ⟨by simp, .inl ⟨rfl, rfl⟩⟩ wc.heap.size (some ⟨go, 0, none⟩) OL cap (bv out) hRB2 (bv_one _) (by simp only [maxLen]; omega) (by omega) (Nat.le_refl _)
      have hb3 : Below wc.heap.size wc w3 := ((Below.refl _ _).drew).trans ((Below.refl _ _).grown hg2 (Nat.le_refl _) fun k hk => by cases hk)
      have hM3 := hide (hM2.out.of_below hb3)
      have hB3 : Hid (Below B w w3) := hB2.out.trans (hb3.mono (Nat.le_trans hB hB2.out.size))
      have hOg : Hid (OB w3 w.heap.size vg out.length out) := by
        have h9 : OB w3 wc.heap.size vg (0 + OL) ([] ++ out) := hg1
        rw [List.nil_append, Nat.zero_add, hOL.out] at h9
        exact h9.more hOw2.out.size
      have hcapI : (OL : Int) ≤ (cap : Int) := by omega
      clear hg1 hg2 hg3 hb3 hRB2
      go_upto_region 6 with (fail)
      go_cut [8] (fun v8 wx => v8 = vg ∧ wx = w3)
      case first =>
        go_region_law (refine Lib.wp_append_run _ (.const (.slice none 0 0)) (.tmp 43) 22 22 rfl _ _ rfl rfl _ _ hrun ?_)
        all_goals go_wp2_with fail
        all_goals go_meet
        all_goals exact ⟨rfl, rfl⟩
      case rest =>
        obtain ⟨rfl, rfl⟩ := hcut
        clear hrun d1 d2
        have e2 : wc.cell? ⟨gr, 2, none⟩ = some (.int .i64 0) := hM3.out.rd.cell 2
        have q2 := hM3.out.rd.frozen 2
        have hMf := hM3.out.set_ 2 (.int .i64 (OL : Int)) (at2 := OL) (st2 := st) (last2 := last) (left2 := left) (back2 := back) (pl2 := pl) (pd2 := pd) rfl
        have hOf := OB.setGr (i := 2) hOg.out hM3.out.rd (.int .i64 (OL : Int))
        have hBf := hide (hB3.out.setCell (p := ⟨gr, 2, none⟩) hgB (.int .i64 (OL : Int)))
        have hsl := hide (slide_any _ B gr gb vb _ l p out OL st last left back pl pd hMf (by omega))
        have hMf' := hide hMf
        replace hOf := hide hOf
        clear hMf
        go_upto_region 8 with (fail)
        generalize wc.setCell ⟨gr, 2, none⟩ (.int .i64 (OL : Int)) = wf at *
        clear e2 q2
        go_wp2_with fail
        refine hsl.out.mono ?_
        rintro e w9 ⟨rfl, rfl⟩
        go_wp2_with fail
        go_ret2
        refine ⟨u8, .slice (some ⟨go, 0, none⟩) out.length cap, e1, p, out, st, last, left, back, pl, pd, rfl, ?_, hBf.out, ?_, by omega, hp, hcase.out⟩
        · have h9 := hMf'.out
          rw [hOL.out] at h9
          exact h9
        · exact hOf.out
end Go.Proofs.YtbchaomnjbkdhaaGreat
namespace Go.Proofs.YtbchaomnjbkdhaaGreat
open Go.RowKit Go.Sort Go.Proofs
set_option linter.unusedVariables false
def lastOf (wx : World) (gr : Nat) : Nat := match wx.cell? ⟨gr, 4, none⟩ with
  | some (.bool true) => 0
  | _ => 1
def AllRet (w : World) (l b : List UInt8) (m : Nat) (e : Ending) (w' : World) : Prop :=
  Below w.heap.size w w' ∧
    ((m ≤ 8 * l.length ∧ ∃ v, e = .returned (.tuple #[v, .int .i64 ((l.length - (8 * l.length - m) / 8 : Nat) : Int), .int .i64 0]) ∧ OB w' w.heap.size v b.length b) ∨
     (¬ m ≤ 8 * l.length ∧ e = .returned (.tuple #[.slice none 0 0, .int .i64 0, .int .i64 3])))
set_option maxRecDepth 100000 in
set_option maxHeartbeats 4000000 in
theorem all_any (w : World) (A : Option Addr) (n c : Nat) (l b : List UInt8) (K nn : Nat) (its : List Item) (ls ds : List Nat) (m mh : Nat)
    (hb : RB w w.heap.size A n l) (hC : StepC l b K nn its ls ds m mh) (hbl : b.length ≤ 20000) :
    Calls Tryz.prog 7 #[.slice A n c, .int .i64 (b.length : Int)] w (AllRet w l b m) := by
  have hln := hb.len
  have hll := hC.hl
  replace hb := hide hb
  replace hC := hide hC
  obtain ⟨M, hM⟩ : ∃ M, M = b.length := ⟨_, rfl⟩
  rw [← hM] at hbl ⊢
  have hmin : min (M : Int) 16777216 = (M : Int) := by omega
  have hmin2 : min (65536 : Int) ((M : Int) + 1) = ((M + 1 : Nat) : Int) := by omega
  have hM1 : ((M + 1 : Nat) : Int) = (M : Int) + 1 := by push_cast; rfl
  replace hM := hide hM
  replace hln := hide hln
  go_enter Tryz.func7, Tryz.ntmps7
  go_wp2_with fail
  refine (inew_any w).mono ?_
  rintro e w1 ⟨gr, gb, rfl, hM1', hb1⟩
  have hB := hb1.size
  have hpt := hide (iput_any w1 w.heap.size gr gb A n c l hM1' hB ((hb.out.below hb1).more hB) (by have := hln.out; omega))
  have hb1h := hide hb1
  clear hM1' hb1
  go_wp2_with fail
  refine hpt.out.mono ?_
  rintro e w2 ⟨rfl, g2, vb, hM2, hb2⟩
  have hB2 : Hid (Below w.heap.size w w2) := hb1h.out.trans hb2
  replace hM2 := hide hM2
  clear hpt hb2 hb1h
  go_wp2_with fail
  go_loopw [8] (fun v8 wx => Hid (Below w.heap.size w wx) ∧ ((v8 = .slice none 0 0 ∧ lastOf wx gr = 1 ∧ Hid (Mach wx w.heap.size gr g2 vb (.slice none 0 0) l 0 [] 0 0 false 0 0 (.pointer none) (.pointer none))) ∨
      (lastOf wx gr = 0 ∧ m ≤ 8 * l.length ∧ ∃ vo left back pl pd, Hid (Mach wx w.heap.size gr g2 vb vo l m b b.length 4 true left back pl pd) ∧ Hid (OB wx w.heap.size v8 b.length b)))) (fun _ wx => lastOf wx gr)
  case atStart => exact ⟨hB2, .inl ⟨rfl, by unfold lastOf; rw [hM2.out.rd.cell 4]; rfl, hM2⟩⟩
  case round =>
    obtain ⟨hBr, hcase⟩ := hrel
    have hBs := hBr.out.size
    clear hB2 hM2
    rcases hcase with ⟨rfl, hl1, hMr⟩ | ⟨hl0, hmm, vo, left, back, pl, pd, hMr, hOr⟩
    · have hdn := hide (done_any wr w.heap.size gr g2 vb _ l 0 [] 0 false 0 0 _ _ hMr.out (by simp) (.inr ⟨rfl, rfl⟩))
      have hgt : Hid (∀ q, Calls Tryz.prog 19 #[.pointer (some ⟨gr, 0, none⟩), .int .i64 ((M + 1 : Nat) : Int)] (wr.drewN q) (GetRet (wr.drewN q) w.heap.size gr g2 vb l b m)) := fun q => get_any (wr.drewN q) w.heap.size gr g2 vb l b K nn its ls ds m mh (M + 1) (hMr.out.drewN q) hBs hC.out (by have := hM.out; omega) (by omega)
      replace hl1 := hide hl1
      go_wp2_with fail
      refine hdn.out.mono ?_
      rintro e w3 ⟨rfl, q, rfl⟩
      have hg3 := hide (hgt.out q)
      have hB3 : Hid (Below w.heap.size w (wr.drewN q)) := hBr.out.trans (below_drewN (Below.refl _ _) q)
      have hs3 : wr.heap.size = (wr.drewN q).heap.size := rfl
      have hlast : Hid (lastOf (wr.drewN q) gr = 1) := hl1.out
      generalize hw3 : wr.drewN q = w3 at *
      clear hgt hdn hMr hBr
      rw [hM1] at hg3
      go_wp2_with fail
      refine hg3.out.mono ?_
      rintro e w4 ⟨vg, vo, e1, p, out, st, last, left, back, pl, pd, rfl, hM4, hB4, hO4, hob, hp, hcase⟩
      have hB5 := hide (hB3.out.trans hB4)
      obtain ⟨Ag, cg, rfl, hRg, -, hcg, -⟩ := hO4.form
      replace hM4 := hide hM4
      replace hO4 := hide hO4
      have hNil : Hid (OB w4 w.heap.size (.slice none 0 0) 0 []) := OB.nil _ _
      have hRg' := hide hRg
      replace hcase := hide hcase
      have hobM : out.length ≤ M := by have := hM.out; omega
      clear hRg hg3 hB4 hw3
      have hbig : decide (M < out.length) = false := by rw [decide_eq_false_iff_not]; omega
      rcases hcase.out with ⟨rfl, k1, rfl, rfl, rfl, rfl⟩ | ⟨rfl, hnm⟩
      · clear hcase
        go_wp2_with (at_builtin; refine wpList_app_b rfl (.tmp 32) (.tmp 33) rfl w.heap.size _ 0 [] hNil.out rfl w4.heap.size Ag out.length cg out rfl hRg'.out (by omega) hB5.out.size ?_; intro v2 w5 ho2 _ hg2 _; obtain ⟨A2, c2, hv2, -⟩ := ho2.form; subst hv2; replace ho2 := hide ho2; replace hg2 := hide hg2)
        have hb5 : Below w4.heap.size w4 w5 := (Below.refl _ _).grown hg2.out (Nat.le_refl _) fun k hk => by cases hk
        have hM5 := hide (hM4.out.of_below hb5)
        have hB6 := hide (hB5.out.trans (hb5.mono hB5.out.size))
        have hO6 : Hid (OB w5 w.heap.size (.slice A2 (0 + out.length) c2) out.length out) := by
          have h9 := ho2.out
          rw [List.nil_append] at h9
          have e9 : 0 + out.length = out.length := Nat.zero_add _
          rw [e9] at h9 ⊢
          exact h9
        have hl5 : lastOf w5 gr = 0 := by unfold lastOf; rw [hM5.out.rd.cell 4]; rfl
        go_roundw
        case rel => exact ⟨hB6, .inr ⟨hl5, k1, vo, left, back, pl, pd, hM5, by have h9 := hO6.out; rw [Nat.zero_add] at h9; exact h9⟩⟩
        case measure => rw [hl5]; have := hl1.out; omega
      · clear hcase
        go_wp2_with (at_builtin; refine wpList_app_b rfl (.tmp 32) (.tmp 33) rfl w.heap.size _ 0 [] hNil.out rfl w4.heap.size Ag out.length cg out rfl hRg'.out (by omega) hB5.out.size ?_; intro v2 w5 ho2 _ hg2 _; obtain ⟨A2, c2, hv2, -⟩ := ho2.form; subst hv2; replace ho2 := hide ho2; replace hg2 := hide hg2)
        have hb5 : Below w4.heap.size w4 w5 := (Below.refl _ _).grown hg2.out (Nat.le_refl _) fun k hk => by cases hk
        have hB6 := hB5.out.trans (hb5.mono hB5.out.size)
        go_ret3
        exact ⟨hB6, .inr ⟨hnm, rfl⟩⟩
    · have hdn := hide (done_any wr w.heap.size gr g2 vb vo l m b 4 true left back pl pd hMr.out (by have := hM.out; omega) (.inl ⟨rfl, rfl⟩))
      have hrs : Hid (∀ q, Calls Tryz.prog 20 #[.pointer (some ⟨gr, 0, none⟩)] (wr.drewN q) fun e w' => e = .returned (.int .i64 (((8 * l.length - m) / 8 : Nat) : Int)) ∧ ∃ k, w' = (wr.drewN q).drewN k) := fun q => rest_any (wr.drewN q) w.heap.size gr g2 vb vo l m b left back pl pd (hMr.out.drewN q) (by have := hM.out; omega) hmm hll
      obtain ⟨D, hD⟩ : ∃ D, D = (8 * l.length - m) / 8 := ⟨_, rfl⟩
      rw [← hD] at hrs
      have hDl : D ≤ n := by have := hln.out; omega
      have hnI : (n : Int) - (D : Int) = ((n - D : Nat) : Int) := by omega
      have hnb : n ≤ 10000000 := by have := hln.out; omega
      replace hD := hide hD
      replace hl0 := hide hl0
      go_wp2_with fail
      refine hdn.out.mono ?_
      rintro e w3 ⟨rfl, q, rfl⟩
      go_wp2_with fail
      refine (hrs.out q).mono ?_
      rintro e w4 ⟨rfl, k, rfl⟩
      go_wp2_with fail
      go_ret3
      refine ⟨hBr.out.trans (below_drewN (Below.refl _ _) (q + k)), .inl ⟨hmm, _, ?_, hOr.out.drewN (q + k)⟩⟩
      rw [← hD.out, hln.out]
      rfl
end Go.Proofs.YtbchaomnjbkdhaaGreat
