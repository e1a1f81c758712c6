/-
  Contract of the reference lexer's Tokens.
-/
import Derived.Test.YtnbfblikpoblgaaDoorRefB
import Derived.Test.YtnbfblikpoblgaaDoorLexF
namespace Go.Proofs.YtnbfblikpoblgaaDoor
open Go.RowKit
set_option linter.unusedVariables false

/-- What the reference's Tokens returns: a struct of tokens of the call's own, a place, an error. -/
def RRet (W : World) (l : List Tok) (p : Nat) (e : Int) (en : Ending) (w' : World) : Prop :=
  ∃ v, en = .returned (.agg #[v, .int .i64 (p : Int), .int .i64 e]) ∧ OT w' W.heap.size v l.length l ∧ Below W.heap.size W w'
theorem RRet.mk {W w' : World} {l l' : List Tok} {p p' : Nat} {e e' : Int} {v : Value} {n : Nat} (h : OT w' W.heap.size v n l') (hl : l = l') (hp : p = p') (he : e = e') (hb : Below W.heap.size W w') :
    RRet W l p e (.returned (.agg #[v, .int .i64 (p' : Int), .int .i64 e'])) w' := by
  subst hl hp he
  exact ⟨v, rfl, by rw [h.len]; exact h, hb⟩

theorem OT.own_lt {w : World} {base n : Nat} {v : Value} {l : List Tok} (h : OT w base v n l) (k : Nat) (hk : v.ownBlock = some k) : k < w.heap.size := by
  rcases h.parts with ⟨rfl, _, _⟩ | ⟨g, cap, rfl, _, _, _, hg⟩
  · simp [Value.ownBlock] at hk
  · simp [Value.ownBlock] at hk; omega
theorem TRel.blank1 {L : List UInt8} {p : Nat} {done : List Tok} (h : TRel L p done) (hp : p < L.length) (hb : blankB L[p] = true) : TRel L (p + 1) done := by
  obtain ⟨h1, h2, h3⟩ := h
  have e1 := toksF_blank L.length p (L.drop p) (by simp)
  have e2 := toksF_blank L.length (p + 1) (L.drop (p + 1)) (by simp)
  have hr := runL_drop blankB L p hp
  rw [if_pos hb] at hr
  rw [List.drop_drop] at e1 e2
  rw [show p + runL blankB (L.drop p) = p + 1 + runL blankB (L.drop (p + 1)) from by omega, ← e2] at e1
  rw [e1] at h2 h3
  exact ⟨by omega, h2, h3⟩

set_option maxHeartbeats 4000000 in
set_option maxRecDepth 100000 in
theorem rtokens_any (s : ByteArray) (w : World) (hs : s.size ≤ 1000000) :
    Calls Tryd.prog 44 #[.string s] w (RRet w (lexL s.data.toList) (lexAt s.data.toList) (lexE s.data.toList)) := by
  have hlen := hide (data_len s)
  by_cases h4 : s.size ≤ 400
  · go_enter Tryd.func44, Tryd.ntmps44
    go_wp2_with fail
    go_loopw [4] (fun v4 wr => ∃ (p : Nat) (v : Value) (done : List Tok), TRel s.data.toList p done ∧ OT wr (w.heap.size + 2) v done.length done ∧ done.length ≤ p ∧
      Blk wr (w.heap.size + 1) 84 #[v, .int .i64 (p : Int), .int .i64 0] ∧ Blk wr w.heap.size 84 #[.slice none 0 0, .int .i64 0, .int .i64 0] ∧ Below w.heap.size w wr ∧ w.heap.size + 2 ≤ wr.heap.size)
      (fun _ wr => s.size - (intOf ((wr.cell? ⟨w.heap.size + 1, 1, none⟩).getD undef)).toNat)
    case atStart =>
      refine ⟨0, _, [], TRel.start _, OT.nil _ _, Nat.le_refl _, ?_, ?_, ?_, by simp⟩
      · have h := Blk.new (w.alloc (.cells #[.slice none 0 0, .int .i64 0, .int .i64 0] 84)) 84 #[.slice none 0 0, .int .i64 0, .int .i64 0]
        simpa using h
      · exact (Blk.new w 84 #[.slice none 0 0, .int .i64 0, .int .i64 0]).alloc _
      · exact ((Below.refl _ _).alloc (Nat.le_refl _) _).alloc (by simp) _
    case round =>
      obtain ⟨p, v, done, ht, ho, hdl, hx, hg, hb, hsz⟩ := hrel
      have hpl : p ≤ s.size := by have := ht.1; have := hlen.out; omega
      have HT := hide ht
      have HO := hide ho
      have HX := hide hx
      have HG := hide hg
      have hq0 := hx.cell 0
      have hq1 := hx.cell 1
      have hq2 := hx.cell 2
      have hf0 := hx.frozen 0
      have hf1 := hx.frozen 1
      have hf2 := hx.frozen 2
      clear ht ho hx hg
      by_cases hp : p < s.size
      · have hpL : p < s.data.toList.length := by have := hlen.out; omega
        have hget := hide (str_get s p hp hpL)
        by_cases hbl : blankB s.data.toList[p] = true
        · have HT2 := hide (HT.out.blank1 hpL hbl)
          have e32 : ((s[p].toNat : Int) == 32) = true := by rw [hget.out]; exact hbl
          clear HT hget hbl
          go_wp2_with fail
          go_roundw
          case rel =>
            refine ⟨p + 1, v, done, HT2.out, HO.out.setAt (by omega) _, by omega, ?_, HG.out.far (by simp) _, hb.trans (below_set (Below.refl _ _) (by omega) _), by simpa using hsz⟩
            have := HX.out.set_ 1 (.int .i64 ((p + 1 : Nat) : Int))
            simpa using this
          case measure =>
            have m1 := (HX.out.set_ 1 (.int .i64 ((p : Int) + 1))).cell 1
            rw [m1, hq1]
            simp [intOf]
            omega
        · have hbl' : blankB s.data.toList[p] = false := by simpa using hbl
          have h0 : Hid (runL blankB (s.data.toList.drop p) = 0) := by rw [Hid, runL_head blankB s.data.toList p hpL]; exact hbl'
          have e32 : ((s[p].toNat : Int) == 32) = false := by rw [hget.out]; exact hbl'
          clear hget hbl hbl'
          go_wp2_with fail
          refine (token_any s p wr hs hp).mono ?_
          rintro e w2 ⟨rfl, hb2⟩
          have hsz2 := hb2.size
          have hlt0 : w.heap.size < w2.heap.size := by omega
          have hlt1 : w.heap.size + 1 < w2.heap.size := by omega
          have HX2 := hide (HX.out.below hb2 (by omega))
          have HG2 := hide (HG.out.below hb2 (by omega))
          have HO2 := hide (HO.out.below hb2 (Nat.le_refl _))
          have hown := hide HO.out.own_lt
          have hbw := hb.trans (hb2.mono (by omega))
          have HM := hide hq1
          clear hq0 hq1 hq2 hf0 hf1 hf2 HX HG HO
          have hq0 := HX2.out.cell 0
          have hq1 := HX2.out.cell 1
          have hq2 := HX2.out.cell 2
          have hf0 := HX2.out.frozen 0
          have hf1 := HX2.out.frozen 1
          have hf2 := HX2.out.frozen 2
          obtain ⟨r, hr⟩ : ∃ r, r = tokL (s.data.toList.drop p) p := ⟨_, rfl⟩
          rw [← hr]
          replace hr := hide hr.symm
          cases r with
          | none =>
            simp only [oneT, oneE, oneV, str]
            have hst := hide (HT.out.bad hpL h0.out hr.out)
            have hg0 := HG2.out.cell 0
            have hg1 := HG2.out.cell 1
            have hg2 := HG2.out.cell 2
            have hh0 := HG2.out.frozen 0
            have hh1 := HG2.out.frozen 1
            have hh2 := HG2.out.frozen 2
            have e4 : ¬ 400 < s.data.toList.length := by have := hlen.out; omega
            have n1 : Hid (lexL s.data.toList = []) := by rw [Hid, lexL, if_neg e4, hst.out]; rfl
            have n2 : Hid (lexAt s.data.toList = p) := by rw [Hid, lexAt, if_neg e4, hst.out]
            have n3 : Hid (lexE s.data.toList = 19) := by rw [Hid, lexE, if_neg e4, hst.out]; rfl
            clear HT hr h0 e4
            go_wp2_with fail
            obtain ⟨w3, hw3⟩ : ∃ x, x = ((((w2.setCell ⟨w.heap.size, 0, none⟩ (.slice none 0 0)).setCell ⟨w.heap.size, 1, none⟩ (.int .i64 (p : Int))).setCell ⟨w.heap.size, 2, none⟩ (.int .i64 19)).alloc (.cells #[.int .i64 0, .string ⟨#[]⟩, .int .i64 0, .int .i64 0, .int .i64 (-1)] 97)) := ⟨_, rfl⟩
            rw [← hw3]
            have hbw3 : Below w.heap.size w w3 := by
              rw [hw3]
              refine (below_set (below_set (below_set hbw (Nat.le_refl _) _) (Nat.le_refl _) _) (Nat.le_refl _) _).alloc ?_ _
              simp; omega
            have hbk3 : Blk w3 w.heap.size 84 #[.slice none 0 0, .int .i64 (p : Int), .int .i64 19] := by
              rw [hw3]
              exact (((HG2.out.set_ 0 _).set_ 1 _).set_ 2 _).alloc _
            clear hw3 hg0 hg1 hg2
            have hg0 := hbk3.cell 0
            have hg1 := hbk3.cell 1
            have hg2 := hbk3.cell 2
            refine bodyPost_ret (v := .agg #[.slice none 0 0, .int .i64 (p : Int), .int .i64 19]) ?_ rfl (RRet.mk (OT.nil _ _) n1.out n2.out n3.out hbw3)
            simp [results, Tryd.results44, go_sem, hg0, hg1, hg2]
          | some x =>
            obtain ⟨t, k⟩ := x
            simp only [oneT, oneE, oneV]
            have HT2 := hide (HT.out.token hpL h0.out hr.out)
            have hk := tokL_len _ _ _ hr.out
            simp at hk
            obtain ⟨hk1, hk2, hkp⟩ := hk
            have hk3 : p + k ≤ s.size := by omega
            have hsa : ∀ o, (w2.alloc o).heap.size = w2.heap.size + 1 := fun o => by simp
            have hne : some w2.heap.size ≠ v.ownBlock := fun h => by have := hown.out _ h.symm; omega
            clear HT hr h0 hkp
            go_wp2_with (at_builtin; refine wpList_app_t t ?_ ?_ ?_ ?_ ?_ (.tmp 35) (.tmp 38) ?_ (w.heap.size + 2) v done.length done ?_ ?_ 1 ?_ ?_ ?_ ?_)
            iterate 6 rfl
            exact HO2.out.alloc _
            rfl
            rw [hsa]; rfl
            omega
            rw [hsa]; omega
            intro v4 w4 ho4 hb4 hg4
            obtain ⟨v4A, v4c, rfl, _, _, _, _⟩ := ho4.form
            have ht4 := (Blk.new w2 97 #[.int .i64 t.kind, .string (str t.text), .int .i64 t.n, .int .i64 (t.pos : Int), .int .i64 ((p : Int) + (k : Int))]).grown hg4 hne
            have hx4 := hide ((HX2.out.alloc (.cells #[.int .i64 t.kind, .string (str t.text), .int .i64 t.n, .int .i64 (t.pos : Int), .int .i64 ((p : Int) + (k : Int))] 97)).below hb4 (by omega))
            have hg4' := hide ((HG2.out.alloc (.cells #[.int .i64 t.kind, .string (str t.text), .int .i64 t.n, .int .i64 (t.pos : Int), .int .i64 ((p : Int) + (k : Int))] 97)).below hb4 (by omega))
            have hbw4 := (hbw.alloc (by omega) (.cells #[.int .i64 t.kind, .string (str t.text), .int .i64 t.n, .int .i64 (t.pos : Int), .int .i64 ((p : Int) + (k : Int))] 97)).trans (hb4.mono (by omega))
            have hsz4 := hb4.size
            rw [hsa] at hsz4
            replace ho4 := hide ho4
            clear hb4 hg4 hq0 hq1 hq2 hf0 hf1 hf2
            have hq0 := hx4.out.cell 0
            have hq1 := hx4.out.cell 1
            have hf0 := hx4.out.frozen 0
            have hf1 := hx4.out.frozen 1
            have ht0 := ht4.cell 4
            replace ht4 := hide ht4
            go_wp2_with fail
            go_roundw
            case rel =>
              refine ⟨p + k, .slice v4A (done.length + 1) v4c, done ++ [t], HT2.out, ?_, ?_, ?_, ?_, ?_, ?_⟩
              · rw [List.length_append]
                exact (ho4.out.setAt (by omega) _).setAt (by omega) _
              · rw [List.length_append]; simp; omega
              · have := (hx4.out.set_ 0 (.slice v4A (done.length + 1) v4c)).set_ 1 (.int .i64 ((p + k : Nat) : Int))
                simpa using this
              · refine Blk.far (Blk.far hg4'.out ?_ _) ?_ _ <;> simp
              · exact below_set (below_set hbw4 (by omega) _) (by omega) _
              · simp; omega
            case measure =>
              have m1 := ((hx4.out.set_ 0 (.slice v4A (done.length + 1) v4c)).set_ 1 (.int .i64 ((p : Int) + (k : Int)))).cell 1
              have m2 := hx4.out
              rw [m1]
              have m3 := HM.out
              rw [m3]
              simp [intOf]
              omega
      · have hpe : p = s.size := by omega
        have hst := hide (HT.out.stop (by have := hlen.out; omega))
        have hg0 := HG.out.cell 0
        have hg1 := HG.out.cell 1
        have hg2 := HG.out.cell 2
        have hh0 := HG.out.frozen 0
        have hh1 := HG.out.frozen 1
        have hh2 := HG.out.frozen 2
        have e4 : ¬ 400 < s.data.toList.length := by have := hlen.out; omega
        have n1 : Hid (lexL s.data.toList = done) := by rw [Hid, lexL, if_neg e4, hst.out]; rfl
        have n2 : Hid (lexAt s.data.toList = p) := by rw [Hid, lexAt, if_neg e4, hst.out]
        have n3 : Hid (lexE s.data.toList = 0) := by rw [Hid, lexE, if_neg e4, hst.out]; rfl
        clear HT e4 hst
        obtain ⟨vA, vc, rfl, _, _, _, _⟩ := HO.out.form
        clear hdl hpe
        go_wp2_with fail
        obtain ⟨w3, hw3⟩ : ∃ x, x = (((wr.setCell ⟨w.heap.size, 0, none⟩ (.slice vA done.length vc)).setCell ⟨w.heap.size, 1, none⟩ (.int .i64 (p : Int))).setCell ⟨w.heap.size, 2, none⟩ (.int .i64 0)) := ⟨_, rfl⟩
        rw [← hw3]
        have hbw3 : Below w.heap.size w w3 := by
          rw [hw3]
          exact below_set (below_set (below_set hb (Nat.le_refl _) _) (Nat.le_refl _) _) (Nat.le_refl _) _
        have hbk3 : Blk w3 w.heap.size 84 #[.slice vA done.length vc, .int .i64 (p : Int), .int .i64 0] := by
          rw [hw3]
          exact ((HG.out.set_ 0 _).set_ 1 _).set_ 2 _
        have ho3 : OT w3 w.heap.size (.slice vA done.length vc) done.length done := by
          rw [hw3]
          exact (((HO.out.setAt (by omega) _).setAt (by omega) _).setAt (by omega) _).more (by omega)
        clear hw3 hg0 hg1 hg2
        have hg0 := hbk3.cell 0
        have hg1 := hbk3.cell 1
        have hg2 := hbk3.cell 2
        refine bodyPost_ret (v := .agg #[.slice vA done.length vc, .int .i64 (p : Int), .int .i64 0]) ?_ rfl (RRet.mk ho3 n1.out n2.out n3.out hbw3)
        simp [results, Tryd.results44, go_sem, hg0, hg1, hg2]
  · have e1 : Hid (lexL s.data.toList = []) := by rw [Hid, lexL, if_pos (by have := hlen.out; omega)]
    have e2 : Hid (lexAt s.data.toList = 0) := by rw [Hid, lexAt, if_pos (by have := hlen.out; omega)]
    have e3 : Hid (lexE s.data.toList = 10) := by rw [Hid, lexE, if_pos (by have := hlen.out; omega)]
    go_enter Tryd.func44, Tryd.ntmps44
    go_wp2_with fail
    have hbk3 := Blk.new w 84 #[.slice none 0 0, .int .i64 0, .int .i64 10]
    have hbw3 : Below w.heap.size w (w.alloc (.cells #[.slice none 0 0, .int .i64 0, .int .i64 10] 84)) := (Below.refl _ _).alloc (Nat.le_refl _) _
    generalize w.alloc (.cells #[.slice none 0 0, .int .i64 0, .int .i64 10] 84) = w3 at *
    have hg0 := hbk3.cell 0
    have hg1 := hbk3.cell 1
    have hg2 := hbk3.cell 2
    refine bodyPost_ret (v := .agg #[.slice none 0 0, .int .i64 0, .int .i64 10]) ?_ rfl (RRet.mk (p' := 0) (OT.nil _ _) e1.out e2.out e3.out hbw3)
    simp [results, Tryd.results44, go_sem, hg0, hg1, hg2]
end Go.Proofs.YtnbfblikpoblgaaDoor
