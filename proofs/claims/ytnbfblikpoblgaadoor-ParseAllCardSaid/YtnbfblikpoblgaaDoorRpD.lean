/-
  The reference's parser: contract of term.
-/
import Derived.Test.YtnbfblikpoblgaaDoorRpB
import Derived.Test.YtnbfblikpoblgaaDoorRpC
namespace Go.Proofs.YtnbfblikpoblgaaDoor
open Go.RowKit
set_option linter.unusedVariables false

section
variable {w w' : World} {b : Nat} {v : Value} {T : List Tok} {out : List Ask} {well : Bool}
theorem RSt.own_lt (h : RSt w b v T out well) (k : Nat) (hk : v.ownBlock = some k) : k < w.heap.size := by
  obtain ⟨A, c, hB, hT, hc1, hc2, hO⟩ := h
  exact hO.own_lt k hk
theorem RSt.far {g i : Nat} (h : RSt w b v T out well) (hg : b < g) (hv : v.ownBlock ≠ some g) (u : Value) : RSt (w.setCell ⟨g, i, none⟩ u) b v T out well := by
  obtain ⟨A, c, hB, hT, hc1, hc2, hO⟩ := h
  exact ⟨A, c, hB.far (by simp; omega) _, Reads.setCell hT (by simp; omega) _, hc1, hc2, hO.far hv _⟩
theorem RSt.toks2 (h : RSt w b v T out well) (hne : 0 < T.length) : ∃ ad c, w.cell? ⟨b, 0, none⟩ = some (.slice (some ad) T.length c) ∧ ∀ k (hk : k < T.length), (ad.add (k * 4)).block < b ∧ TokAt w (ad.add (k * 4)) T[k] := by
  obtain ⟨A, c, h0, hk⟩ := h.toks
  obtain ⟨ad, rfl, -⟩ := hk 0 hne
  refine ⟨ad, c, h0, fun k hk' => ?_⟩
  obtain ⟨ad', e, h1, h2⟩ := hk k hk'
  cases e
  exact ⟨h1, h2⟩
end
/-- What term hands back. -/
def RTRet (w : World) (b : Nat) (T : List Tok) (out : List Ask) (well : Bool) (o : Option Ask) (e : Ending) (w' : World) : Prop :=
  Below b w w' ∧ match o with
  | none => e = .returned (.int .i64 (-1)) ∧ ∃ v', RSt w' b v' T out false
  | some x => e = .returned (.int .i64 (out.length : Int)) ∧ ∃ v', RSt w' b v' T (out ++ [x]) well
theorem RTRet.no {w w' : World} {b : Nat} {v' : Value} {T : List Tok} {out : List Ask} {well : Bool} {o : Option Ask} {r : Int} (ho : o = none) (hr : r = -1) (hP : RSt w' b v' T out false) (hb : Below b w w') : RTRet w b T out well o (.returned (.int .i64 r)) w' := by
  subst ho; subst hr
  exact ⟨hb, rfl, v', hP⟩
theorem RTRet.yes {w w' : World} {b : Nat} {v' : Value} {T : List Tok} {out : List Ask} {well : Bool} {o : Option Ask} {x : Ask} {r : Int} (ho : o = some x) (hr : r = out.length) (hP : RSt w' b v' T (out ++ [x]) well) (hb : Below b w w') : RTRet w b T out well o (.returned (.int .i64 r)) w' := by
  subst ho; subst hr
  exact ⟨hb, rfl, v', hP⟩
theorem rterm_none (T : List Tok) (h2 : T.length ≠ 2) (h3 : T.length ≠ 3) : rterm T = none := by
  match T with
  | [] => rfl
  | [_] => rfl
  | [_, _] => exact absurd rfl h2
  | [_, _, _] => exact absurd rfl h3
  | _ :: _ :: _ :: _ :: _ => rfl
theorem seg_len (T : List Tok) (i j : Nat) (hij : i ≤ j) (hj : j ≤ T.length) : ((T.drop i).take (j - i)).length = j - i := by
  rw [List.length_take, List.length_drop]; omega
theorem seg2 (T : List Tok) (i j : Nat) (h : j = i + 2) (hj : j ≤ T.length) : (T.drop i).take (j - i) = [T[i], T[i + 1]] := by
  rw [seg_cons T i j (by omega) hj, seg_cons T (i + 1) j (by omega) hj, show j - (i + 1 + 1) = 0 from by omega, List.take_zero]
theorem seg3 (T : List Tok) (i j : Nat) (h : j = i + 3) (hj : j ≤ T.length) : (T.drop i).take (j - i) = [T[i], T[i + 1], T[i + 2]] := by
  rw [seg_cons T i j (by omega) hj, seg_cons T (i + 1) j (by omega) hj, seg_cons T (i + 1 + 1) j (by omega) hj, show j - (i + 1 + 1 + 1) = 0 from by omega, List.take_zero]

set_option maxRecDepth 100000 in
set_option maxHeartbeats 2000000 in
theorem rterm_any (w : World) (b : Nat) (v : Value) (T : List Tok) (out : List Ask) (well : Bool) (h : RSt w b v T out well) (i j : Nat) (hij : i ≤ j) (hj : j ≤ T.length) (hT : T.length ≤ 100000) (hl : out.length ≤ 100000) :
    Calls Tryd.prog 58 #[.pointer (some ⟨b, 0, none⟩), .int .i64 (i : Int), .int .i64 (j : Int)] w (RTRet w b T out well (rterm ((T.drop i).take (j - i)))) := by
  have hlt := h.lt
  have hvo : v.ownBlock ≠ some w.heap.size := fun e => by have := h.own_lt _ e; omega
  go_enter Tryd.func58, Tryd.ntmps58
  go_upto_region 2 with (fail)
  obtain ⟨w1, hw1⟩ : ∃ x, x = w.alloc (.cells #[.int .i64 0, .int .i64 0, .int .i64 (-1), .int .i64 (-1), .int .i64 0, .string ⟨#[]⟩, .bool false] 52) := ⟨_, rfl⟩
  rw [← hw1]
  have hP1 : Hid (RSt w1 b v T out well) := by rw [hw1]; exact h.newer ((Below.refl _ _).alloc (Nat.le_refl _) _)
  have hB1 : Hid (Blk w1 w.heap.size 52 #[.int .i64 0, .int .i64 0, .int .i64 (-1), .int .i64 (-1), .int .i64 0, .string ⟨#[]⟩, .bool false]) := by rw [hw1]; exact Blk.new _ _ _
  have hb1 : Below b w w1 := by rw [hw1]; exact (Below.refl b w).alloc (by omega) _
  clear hw1 h
  have hsz1 := hB1.out.lt
  by_cases j2 : j = i + 2
  · have hji : Hid ((j : Int) = (i : Int) + 2) := by show _ = _; omega
    rw [hji.out]
    have hseg := hide (seg2 T i j j2 hj)
    have hi1 : i < T.length := by omega
    have hi2 : i + 1 < T.length := by omega
    replace j2 := hide j2
    obtain ⟨ad, c, c0, hk⟩ := hP1.out.toks2 (by omega)
    obtain ⟨ab, t0, t1, t2, t3⟩ := hk i (by omega)
    obtain ⟨ab', s0, s1, s2, s3⟩ := hk (i + 1) (by omega)
    clear hk
    have hi1 : i < T.length := by omega
    have hi2 : i + 1 < T.length := by omega
    obtain ⟨t, hgt⟩ : ∃ x, x = T[i] := ⟨_, rfl⟩
    obtain ⟨u, hgu⟩ : ∃ x, x = T[i + 1] := ⟨_, rfl⟩
    rw [← hgt] at t0 t1 t2 t3 hseg
    rw [← hgu] at s0 s1 s2 s3 hseg
    replace hgt := hide hgt
    replace hgu := hide hgu
    go_cut [35] (fun v35 wx => v35 = .bool (isW t 1 hasW && (u.kind == 3)) ∧ RSt wx b v T out well ∧ Blk wx w.heap.size 52 #[.int .i64 0, .int .i64 0, .int .i64 (-1), .int .i64 (-1), .int .i64 0, .string ⟨#[]⟩, .bool false] ∧ Below b w wx)
    case first =>
      go_wp2_with fail
      refine (ris_any w1 t 1 ⟨#[104, 97, 115]⟩).mono ?_
      rintro e w2 ⟨rfl, hb2⟩
      rw [show (ByteArray.mk #[104, 97, 115]).data.toList = hasW from rfl]
      have hP2 := hide (hP1.out.newer hb2)
      have hB2 := hide (hB1.out.below hb2 hsz1)
      have hbw2 := hb1.trans (hb2.mono (by omega))
      clear hP1 hB1 hb1 hb2 c0 t0 t1 t2 t3 s0 s1 s2 s3 ab ab'
      obtain ⟨ad, c, c0, hk⟩ := hP2.out.toks2 (by omega)
      obtain ⟨ab', s0, s1, s2, s3⟩ := hk (i + 1) (by omega)
      rw [← hgu.out] at s0 s1 s2 s3
      clear hk
      cases hw : isW t 1 hasW
      all_goals
        go_wp2_with fail
        go_meet
        exact ⟨by rw [hw]; rfl, hP2.out, hB2.out, hbw2⟩
    case rest =>
      obtain ⟨rfl, hP2, hB2, hbw2⟩ := hcut
      clear hP1 hB1 hb1 c0 t0 t1 t2 t3 s0 s1 s2 s3 ab ab'
      replace hP2 := hide hP2
      replace hB2 := hide hB2
      have hr : Hid (rterm ((T.drop i).take (j - i)) = if (isW t 1 hasW && (u.kind == 3)) = true then some ⟨9, 1, -1, -1, 0, u.text, true⟩ else none) := by
        rw [Hid, hseg.out, rterm]
        simp
      clear hseg
      cases hw : (isW t 1 hasW && (u.kind == 3))
      · rw [hw, if_neg (by simp)] at hr
        clear hw
        go_wp2_with fail
        refine (bad_any _ b v T out well hP2.out).mono ?_
        rintro e w3 ⟨rfl, hP3, hb3⟩
        go_wp2_with fail
        go_ret
        exact .no hr.out rfl hP3 (hbw2.trans hb3)
      · rw [hw, if_pos rfl] at hr
        clear hw
        obtain ⟨ad, c, c0, hk⟩ := hP2.out.toks2 (by omega)
        obtain ⟨ab', s0, s1, s2, s3⟩ := hk (i + 1) (by omega)
        rw [← hgu.out] at s0 s1 s2 s3
        clear hk
        have q0 := hB2.out.cell 0
        have f0 := hB2.out.frozen 0
        have f1 := hB2.out.frozen 1
        have f5 := hB2.out.frozen 5
        have f6 := hB2.out.frozen 6
        have q1 := hB2.out.cell 1
        have q2 := hB2.out.cell 2
        have q3 := hB2.out.cell 3
        have q4 := hB2.out.cell 4
        have q5 := hB2.out.cell 5
        have q6 := hB2.out.cell 6
        go_upto_region 7 with (fail)
        obtain ⟨w3, hw3⟩ : ∃ x, x = ((((wc.setCell ⟨w.heap.size, 0, none⟩ (.int .i64 9)).setCell ⟨w.heap.size, 1, none⟩ (.int .i64 1)).setCell ⟨w.heap.size, 5, none⟩ (.string (str u.text))).setCell ⟨w.heap.size, 6, none⟩ (.bool true)) := ⟨_, rfl⟩
        rw [← hw3]
        have hP3 : Hid (RSt w3 b v T out well) := by
          rw [hw3]
          exact (((hP2.out.far hlt hvo _).far hlt hvo _).far hlt hvo _).far hlt hvo _
        have hB3 : Hid (Blk w3 w.heap.size 52 #[.int .i64 9, .int .i64 1, .int .i64 (-1), .int .i64 (-1), .int .i64 0, .string (str u.text), .bool true]) := by
          rw [hw3]
          exact (((hB2.out.set_ 0 _).set_ 1 _).set_ 5 _).set_ 6 _
        have hb3 : Below b w w3 := by
          rw [hw3]
          exact below_set (below_set (below_set (below_set hbw2 (by omega) _) (by omega) _) (by omega) _) (by omega) _
        clear hw3 hP2 hB2 hbw2 q0 q1 q2 q3 q4 q5 q6 f0 f1 f5 f6 c0 s0 s1 s2 s3 ab'
        have q0 := hB3.out.cell 0
        have q1 := hB3.out.cell 1
        have q2 := hB3.out.cell 2
        have q3 := hB3.out.cell 3
        have q4 := hB3.out.cell 4
        have q5 := hB3.out.cell 5
        have q6 := hB3.out.cell 6
        go_wp2_with fail
        refine (rput_any w3 b v T out well ⟨9, 1, -1, -1, 0, u.text, true⟩ hP3.out hl).mono ?_
        rintro e w4 ⟨rfl, ⟨v', hP4⟩, hb4⟩
        go_wp2_with fail
        go_ret
        exact .yes hr.out rfl hP4 (hb3.trans hb4)
  · by_cases j3 : j = i + 3
    · have hji : Hid ((j : Int) = (i : Int) + 3) := by show _ = _; omega
      rw [hji.out]
      have hseg := hide (seg3 T i j j3 hj)
      have hi1 : i < T.length := by omega
      have hi2 : i + 1 < T.length := by omega
      have hi3 : i + 2 < T.length := by omega
      replace j3 := hide j3
      obtain ⟨t, hgt⟩ : ∃ x, x = T[i] := ⟨_, rfl⟩
      obtain ⟨m, hgm⟩ : ∃ x, x = T[i + 1] := ⟨_, rfl⟩
      obtain ⟨u, hgu⟩ : ∃ x, x = T[i + 2] := ⟨_, rfl⟩
      rw [← hgt, ← hgm, ← hgu] at hseg
      replace hgt := hide hgt
      replace hgm := hide hgm
      replace hgu := hide hgu
      have hr : Hid (rterm ((T.drop i).take (j - i)) = if kindT t = 0 ∨ opOf m = 0 ∨ (u.kind ≠ 2 ∧ u.kind ≠ 3) then none else if u.kind = 3 then some ⟨kindT t, opOf m, -1, -1, 0, u.text, true⟩ else some ⟨kindT t, opOf m, -1, -1, u.n, [], false⟩) := by
        rw [Hid, hseg.out]; simp only [rterm, kindT]
        by_cases ht : t.kind = 1 <;> simp [ht]
      clear hseg
      obtain ⟨ad, c, c0, hk⟩ := hP1.out.toks2 (by omega)
      obtain ⟨ab, t0, t1, t2, t3⟩ := hk i (by omega)
      rw [← hgt.out] at t0 t1 t2 t3
      clear hk
      go_wp2_with fail
      refine (rkind_any w1 t).mono ?_
      rintro e w2 ⟨rfl, hb2⟩
      have hP2 := hide ((hP1.out.newer hb2).far (i := 0) hlt hvo (.int .i64 (kindT t)))
      have hB2 := hide ((hB1.out.below hb2 hsz1).set_ 0 (.int .i64 (kindT t)))
      have hbw2 := below_set (hb1.trans (hb2.mono (by omega))) (g := w.heap.size) (i := 0) (by omega) (.int .i64 (kindT t))
      have hsz2 := hb2.size
      have f0 := (hB1.out.below hb2 hsz1).frozen 0
      have q0 := (hB1.out.below hb2 hsz1).cell 0
      clear hP1 hB1 hb1 hb2 c0 t0 t1 t2 t3 ab
      go_upto_region 11 with (fail)
      obtain ⟨w3, hw3⟩ : ∃ x, x = w2.setCell ⟨w.heap.size, 0, none⟩ (.int .i64 (kindT t)) := ⟨_, rfl⟩
      rw [← hw3] at hP2 hB2 hbw2 ⊢
      have hsz3 : w2.heap.size = w3.heap.size := by rw [hw3]; simp
      clear hw3 f0 q0
      obtain ⟨ad, c, c0, hk⟩ := hP2.out.toks2 (by omega)
      obtain ⟨ab, t0, t1, t2, t3⟩ := hk (i + 1) (by omega)
      rw [← hgm.out] at t0 t1 t2 t3
      clear hk
      go_wp2_with fail
      refine (rop_any w3 m).mono ?_
      rintro e w4 ⟨rfl, hb4⟩
      have hB3 := hide (hB2.out.below hb4 hB2.out.lt)
      have f1 := hB3.out.frozen 1
      have q1 := hB3.out.cell 1
      have hP4 := hide ((hP2.out.newer hb4).far (i := 1) hlt hvo (.int .i64 (opOf m)))
      have hB4 := hide (hB3.out.set_ 1 (.int .i64 (opOf m)))
      have hbw4 := below_set (hbw2.trans (hb4.mono (by omega))) (g := w.heap.size) (i := 1) (by omega) (.int .i64 (opOf m))
      have hsz4 := hb4.size
      clear hP2 hB2 hB3 hbw2 hb4 c0 t0 t1 t2 t3 ab
      go_upto_region 12 with (fail)
      obtain ⟨w5, hw5⟩ : ∃ x, x = w4.setCell ⟨w.heap.size, 1, none⟩ (.int .i64 (opOf m)) := ⟨_, rfl⟩
      rw [← hw5] at hP4 hB4 hbw4 ⊢
      have hsz5 : w4.heap.size = w5.heap.size := by rw [hw5]; simp
      clear hw5 f1 q1
      obtain ⟨ad, c, c0, hk⟩ := hP4.out.toks2 (by omega)
      obtain ⟨ab, t0, t1, t2, t3⟩ := hk (i + 2) (by omega)
      rw [← hgu.out] at t0 t1 t2 t3
      clear hk
      go_upto_region 13 with (fail)
      obtain ⟨w6, hw6⟩ : ∃ x, x = w5.alloc (.cells #[.int .i64 u.kind, .string (str u.text), .int .i64 u.n, .int .i64 (u.pos : Int)] 45) := ⟨_, rfl⟩
      rw [← hw6]
      have hP6 : Hid (RSt w6 b v T out well) := by rw [hw6]; exact hP4.out.newer ((Below.refl _ _).alloc (Nat.le_refl _) _)
      have hB6 : Hid (Blk w6 w.heap.size 52 #[.int .i64 (kindT t), .int .i64 (opOf m), .int .i64 (-1), .int .i64 (-1), .int .i64 0, .string ⟨#[]⟩, .bool false]) := by rw [hw6]; exact hB4.out.alloc _
      have hC6 : Hid (Blk w6 w5.heap.size 45 #[.int .i64 u.kind, .string (str u.text), .int .i64 u.n, .int .i64 (u.pos : Int)]) := by rw [hw6]; exact Blk.new _ _ _
      have hb6 : Below b w w6 := by rw [hw6]; exact hbw4.alloc (by omega) _
      have hne : w.heap.size ≠ w5.heap.size := by omega
      clear hw6 hP4 hB4 hbw4 c0 t0 t1 t2 t3 ab
      have q0 := hB6.out.cell 0
      have q1 := hB6.out.cell 1
      have p0 := hC6.out.cell 0
      go_cut [102] (fun v wx => v = .bool ((kindT t == 0) || ((opOf m == 0) || ((u.kind != 2) && (u.kind != 3)))) ∧ w6 = wx)
      case first =>
        cases e1 : kindT t == 0 <;> cases e2 : opOf m == 0 <;> cases e3 : u.kind != 2 <;> cases e4 : u.kind != 3
        all_goals
          clear hr hP6 hB6 hC6
          go_wp2_with fail
          go_meet
          exact ⟨by (try rw [e1]); (try rw [e2]); (try rw [e3]); (try rw [e4]); first | done | rfl, rfl⟩
      case rest =>
        obtain ⟨rfl, rfl⟩ := hcut
        clear q0 q1 p0
        cases hw : ((kindT t == 0) || ((opOf m == 0) || ((u.kind != 2) && (u.kind != 3))))
        · have hn : Hid (¬ (kindT t = 0 ∨ opOf m = 0 ∨ (u.kind ≠ 2 ∧ u.kind ≠ 3))) := by
            intro h
            have : ((kindT t == 0) || ((opOf m == 0) || ((u.kind != 2) && (u.kind != 3)))) = true := by simpa using h
            rw [hw] at this
            exact absurd this (by simp)
          rw [Hid, if_neg hn.out] at hr
          replace hr := hide hr
          clear hw
          have q0 := hB6.out.cell 0
          have q1 := hB6.out.cell 1
          have q2 := hB6.out.cell 2
          have q3 := hB6.out.cell 3
          have q4 := hB6.out.cell 4
          have q5 := hB6.out.cell 5
          have q6 := hB6.out.cell 6
          have f4 := hB6.out.frozen 4
          have f5 := hB6.out.frozen 5
          have f6 := hB6.out.frozen 6
          have p0 := hC6.out.cell 0
          have p1 := hC6.out.cell 1
          have p2 := hC6.out.cell 2
          by_cases e3 : u.kind = 3
          · have n3 : (u.kind == 3) = true := by simp [e3]
            have hr2 := hr.out
            rw [if_pos e3] at hr2
            replace hr2 := hide hr2
            clear hr hn e3
            go_upto_region 19 with (fail)
            obtain ⟨w7, hw7⟩ : ∃ x, x = (w6.setCell ⟨w.heap.size, 5, none⟩ (.string (str u.text))).setCell ⟨w.heap.size, 6, none⟩ (.bool true) := ⟨_, rfl⟩
            rw [← hw7]
            have hP7 : Hid (RSt w7 b v T out well) := by rw [hw7]; exact (hP6.out.far hlt hvo _).far hlt hvo _
            have hB7 : Hid (Blk w7 w.heap.size 52 #[.int .i64 (kindT t), .int .i64 (opOf m), .int .i64 (-1), .int .i64 (-1), .int .i64 0, .string (str u.text), .bool true]) := by rw [hw7]; exact (hB6.out.set_ 5 _).set_ 6 _
            have hb7 : Below b w w7 := by rw [hw7]; exact below_set (below_set hb6 (by omega) _) (by omega) _
            clear hw7 hP6 hB6 hC6 hb6 q0 q1 q2 q3 q4 q5 q6 f4 f5 f6 p0 p1 p2
            have q0 := hB7.out.cell 0
            have q1 := hB7.out.cell 1
            have q2 := hB7.out.cell 2
            have q3 := hB7.out.cell 3
            have q4 := hB7.out.cell 4
            have q5 := hB7.out.cell 5
            have q6 := hB7.out.cell 6
            go_wp2_with fail
            refine (rput_any w7 b v T out well ⟨kindT t, opOf m, -1, -1, 0, u.text, true⟩ hP7.out hl).mono ?_
            rintro e w8 ⟨rfl, ⟨v', hP8⟩, hb8⟩
            go_wp2_with fail
            go_ret
            exact .yes hr2.out rfl hP8 (hb7.trans hb8)
          · have n3 : (u.kind == 3) = false := by simp [e3]
            have hr2 := hr.out
            rw [if_neg e3] at hr2
            replace hr2 := hide hr2
            clear hr hn e3
            go_upto_region 19 with (fail)
            obtain ⟨w7, hw7⟩ : ∃ x, x = w6.setCell ⟨w.heap.size, 4, none⟩ (.int .i64 u.n) := ⟨_, rfl⟩
            rw [← hw7]
            have hP7 : Hid (RSt w7 b v T out well) := by rw [hw7]; exact hP6.out.far hlt hvo _
            have hB7 : Hid (Blk w7 w.heap.size 52 #[.int .i64 (kindT t), .int .i64 (opOf m), .int .i64 (-1), .int .i64 (-1), .int .i64 u.n, .string ⟨#[]⟩, .bool false]) := by rw [hw7]; exact hB6.out.set_ 4 _
            have hb7 : Below b w w7 := by rw [hw7]; exact below_set hb6 (by omega) _
            clear hw7 hP6 hB6 hC6 hb6 q0 q1 q2 q3 q4 q5 q6 f4 f5 f6 p0 p1 p2
            have q0 := hB7.out.cell 0
            have q1 := hB7.out.cell 1
            have q2 := hB7.out.cell 2
            have q3 := hB7.out.cell 3
            have q4 := hB7.out.cell 4
            have q5 := hB7.out.cell 5
            have q6 := hB7.out.cell 6
            go_wp2_with fail
            refine (rput_any w7 b v T out well ⟨kindT t, opOf m, -1, -1, u.n, [], false⟩ hP7.out hl).mono ?_
            rintro e w8 ⟨rfl, ⟨v', hP8⟩, hb8⟩
            go_wp2_with fail
            go_ret
            exact .yes hr2.out rfl hP8 (hb7.trans hb8)
        · have hn : Hid (kindT t = 0 ∨ opOf m = 0 ∨ (u.kind ≠ 2 ∧ u.kind ≠ 3)) := by
            refine hide ?_
            simpa using hw
          rw [Hid, if_pos hn.out] at hr
          replace hr := hide hr
          clear hw hn
          go_wp2_with fail
          refine (bad_any _ b v T out well hP6.out).mono ?_
          rintro e w7 ⟨rfl, hP7, hb7⟩
          go_wp2_with fail
          go_ret
          exact .no hr.out rfl hP7 (hb6.trans hb7)
    · have n2 : ((j : Int) - (i : Int) == 2) = false := by simp; omega
      have n3 : ((j : Int) - (i : Int) != 3) = true := by simp; omega
      have hr := hide (rterm_none ((T.drop i).take (j - i)) (by rw [seg_len T i j hij hj]; omega) (by rw [seg_len T i j hij hj]; omega))
      replace j2 := hide j2
      replace j3 := hide j3
      go_wp2_with fail
      refine (bad_any _ b v T out well hP1.out).mono ?_
      rintro e w7 ⟨rfl, hP7, hb7⟩
      go_wp2_with fail
      go_ret
      exact .no hr.out rfl hP7 (hb1.trans hb7)
end Go.Proofs.YtnbfblikpoblgaaDoor
