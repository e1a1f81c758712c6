/-
  The reference's parser: contracts of last and closed.
-/
import Derived.Test.YtnbfblikpoblgaaDoorRpA
namespace Go.Proofs.YtnbfblikpoblgaaDoor
open Go.RowKit
set_option linter.unusedVariables false

theorem seg_cons (T : List Tok) (k j : Nat) (h : k < j) (hj : j ≤ T.length) : (T.drop k).take (j - k) = T[k]'(by omega) :: (T.drop (k + 1)).take (j - (k + 1)) := by
  rw [List.drop_eq_getElem_cons (by omega), show j - k = (j - (k + 1)) + 1 from by omega, List.take_succ_cons]
theorem lastF_cons (word : List UInt8) (t : Tok) (T : List Tok) (d at_ i : Int) : lastF word (t :: T) d at_ i =
    if isLp t = true then lastF word T (d + 1) at_ (i + 1) else if isRp t = true then lastF word T (d - 1) at_ (i + 1) else lastF word T d (if d = 0 ∧ isW t 1 word = true then i else at_) (i + 1) := rfl

set_option maxRecDepth 100000 in
set_option maxHeartbeats 2000000 in
theorem last_any (w : World) (b : Nat) (v : Value) (T : List Tok) (out : List Ask) (well : Bool) (h : RSt w b v T out well) (i j : Nat) (hij : i ≤ j) (hj : j ≤ T.length) (hT : T.length ≤ 100000) (s : ByteArray) :
    Calls Tryd.prog 56 #[.pointer (some ⟨b, 0, none⟩), .int .i64 (i : Int), .int .i64 (j : Int), .string s] w
      fun e w' => e = .returned (.int .i64 (lastF s.data.toList ((T.drop i).take (j - i)) 0 (-1) (i : Int))) ∧ Below w.heap.size w w' := by
  have hlt := h.lt
  obtain ⟨A, c, c0, hk⟩ := h.toks
  replace hk := hide hk
  replace h := hide h
  go_enter Tryd.func56, Tryd.ntmps56
  go_wp2_with fail
  go_loopw [9, 10, 11] (fun u9 u10 u11 wr => ∃ (k : Nat) (d at_ : Int), i ≤ k ∧ k ≤ j ∧ u11 = .int .i64 (k : Int) ∧ u9 = .int .i64 d ∧ u10 = .int .i64 at_ ∧ Hid (lastF s.data.toList ((T.drop i).take (j - i)) 0 (-1) (i : Int) = lastF s.data.toList ((T.drop k).take (j - k)) d at_ (k : Int)) ∧ -(k : Int) ≤ d ∧ d ≤ (k : Int) ∧ Below w.heap.size w wr)
    (fun _ _ u11 _ => j - (intOf u11).toNat)
  case atStart => exact ⟨i, 0, -1, Nat.le_refl _, hij, rfl, rfl, rfl, rfl, by omega, by omega, Below.refl _ _⟩
  case round =>
    obtain ⟨k, d, at_, hik, hkj, rfl, rfl, rfl, HF, hd1, hd2, hbl⟩ := hrel
    have hsz := hbl.size
    by_cases h1 : k < j
    · have hkT : k < T.length := by omega
      obtain ⟨ad, rfl, hab, t0, t1, t2, t3⟩ := hk.out k hkT
      have hab2 : (ad.add (k * 4)).block < w.heap.size := by omega
      have d0 := (hbl.cell (p := ⟨b, 0, none⟩) hlt).trans c0
      have p0 := (hbl.cell (p := ad.add (k * 4)) hab2).trans t0
      have p1 := (hbl.cell (p := ⟨(ad.add (k * 4)).block, (ad.add (k * 4)).off + 1, none⟩) hab2).trans t1
      have p2 := (hbl.cell (p := ⟨(ad.add (k * 4)).block, (ad.add (k * 4)).off + 2, none⟩) hab2).trans t2
      have p3 := (hbl.cell (p := ⟨(ad.add (k * 4)).block, (ad.add (k * 4)).off + 3, none⟩) hab2).trans t3
      have hs := HF.out
      rw [seg_cons T k j h1 hj, lastF_cons] at hs
      clear HF t0 t1 t2 t3
      generalize T[k] = t at *
      generalize hseg : (T.drop (k + 1)).take (j - (k + 1)) = S at *
      replace hseg := hide hseg
      replace hs := hide hs
      go_wp2_with fail
      refine (ris_any wr t 4 ⟨#[40]⟩).mono ?_
      rintro e w2 ⟨rfl, hb2⟩
      rw [show isW t 4 (ByteArray.mk #[40]).data.toList = isLp t from rfl]
      have hbl2 := hbl.trans (hb2.mono hsz)
      by_cases cl : isLp t = true
      · have hn := hs.out
        rw [if_pos cl] at hn
        rw [cl]
        rw [← hseg.out] at hn
        replace hn := hide hn
        clear hs cl p0 p1 p2 p3 d0 hb2 hbl
        go_wp2_with fail
        go_roundw
        case rel => exact ⟨k + 1, d + 1, at_, by omega, by omega, by go_num, (by first | rfl | trivial), (by first | rfl | trivial), by rw [Hid, hn.out]; rfl, by omega, by omega, hbl2⟩
        case measure => simp [intOf]; omega
      · rw [Bool.not_eq_true] at cl
        have hs2 := hs.out
        rw [cl] at hs2 ⊢
        rw [if_neg (by simp)] at hs2
        have hlt2 : b < w.heap.size := hlt
        have d0' := (hbl2.cell (p := ⟨b, 0, none⟩) hlt).trans c0
        have q0 := (hb2.cell (p := ad.add (k * 4)) (by omega)).trans p0
        have q1 := (hb2.cell (p := ⟨(ad.add (k * 4)).block, (ad.add (k * 4)).off + 1, none⟩) (by simp; omega)).trans p1
        have q2 := (hb2.cell (p := ⟨(ad.add (k * 4)).block, (ad.add (k * 4)).off + 2, none⟩) (by simp; omega)).trans p2
        have q3 := (hb2.cell (p := ⟨(ad.add (k * 4)).block, (ad.add (k * 4)).off + 3, none⟩) (by simp; omega)).trans p3
        replace hs2 := hide hs2
        have hsz2 := hbl2.size
        clear hs cl p0 p1 p2 p3 d0 hb2 hbl
        go_wp2_with fail
        refine (ris_any w2 t 4 ⟨#[41]⟩).mono ?_
        rintro e w3 ⟨rfl, hb3⟩
        rw [show isW t 4 (ByteArray.mk #[41]).data.toList = isRp t from rfl]
        have hbl3 := hbl2.trans (hb3.mono hsz2)
        by_cases cr : isRp t = true
        · have hn := hs2.out
          rw [if_pos cr] at hn
          rw [cr]
          rw [← hseg.out] at hn
          replace hn := hide hn
          clear hs2 cr q0 q1 q2 q3 d0' hb3 hbl2
          go_wp2_with fail
          go_roundw
          case rel => exact ⟨k + 1, d - 1, at_, by omega, by omega, by go_num, (by first | rfl | trivial), (by first | rfl | trivial), by rw [Hid, hn.out]; rfl, by omega, by omega, hbl3⟩
          case measure => simp [intOf]; omega
        · rw [Bool.not_eq_true] at cr
          have hs3 := hs2.out
          rw [cr] at hs3 ⊢
          rw [if_neg (by simp)] at hs3
          have e0 := (hbl3.cell (p := ⟨b, 0, none⟩) hlt).trans c0
          have r0 := (hb3.cell (p := ad.add (k * 4)) (by omega)).trans q0
          have r1 := (hb3.cell (p := ⟨(ad.add (k * 4)).block, (ad.add (k * 4)).off + 1, none⟩) (by simp; omega)).trans q1
          have r2 := (hb3.cell (p := ⟨(ad.add (k * 4)).block, (ad.add (k * 4)).off + 2, none⟩) (by simp; omega)).trans q2
          have r3 := (hb3.cell (p := ⟨(ad.add (k * 4)).block, (ad.add (k * 4)).off + 3, none⟩) (by simp; omega)).trans q3
          have hsz3 := hbl3.size
          replace hs3 := hide hs3
          clear hs2 cr q0 q1 q2 q3 d0' hb3 hbl2
          by_cases cd : d = 0
          · subst cd
            go_wp2_with fail
            refine (ris_any w3 t 1 s).mono ?_
            rintro e w4 ⟨rfl, hb4⟩
            have hbl4 := hbl3.trans (hb4.mono hsz3)
            by_cases cw : isW t 1 s.data.toList = true
            · have hn := hs3.out
              rw [if_pos (by first | exact ⟨rfl, cw⟩ | exact ⟨trivial, cw⟩)] at hn
              rw [cw]
              rw [← hseg.out] at hn
              replace hn := hide hn
              clear hs3 cw r0 r1 r2 r3 e0 hb4 hbl3
              go_wp2_with fail
              go_roundw
              case rel => exact ⟨k + 1, 0, (k : Int), by omega, by omega, by go_num, (by first | rfl | trivial), (by first | rfl | trivial), by rw [Hid, hn.out]; rfl, by omega, by omega, hbl4⟩
              case measure => simp [intOf]; omega
            · have hn := hs3.out
              rw [if_neg (fun h => cw h.2)] at hn
              rw [Bool.not_eq_true] at cw
              rw [cw]
              rw [← hseg.out] at hn
              replace hn := hide hn
              clear hs3 cw r0 r1 r2 r3 e0 hb4 hbl3
              go_wp2_with fail
              go_roundw
              case rel => exact ⟨k + 1, 0, at_, by omega, by omega, by go_num, (by first | rfl | trivial), (by first | rfl | trivial), by rw [Hid, hn.out]; rfl, by omega, by omega, hbl4⟩
              case measure => simp [intOf]; omega
          · have n0 : (d == 0) = false := by simp [cd]
            have hn := hs3.out
            rw [if_neg (fun h => cd h.1)] at hn
            rw [← hseg.out] at hn
            replace hn := hide hn
            clear hs3 cd r0 r1 r2 r3 e0
            go_wp2_with fail
            go_roundw
            case rel => exact ⟨k + 1, d, at_, by omega, by omega, by go_num, (by first | rfl | trivial), (by first | rfl | trivial), by rw [Hid, hn.out]; rfl, by omega, by omega, hbl3⟩
            case measure => simp [intOf]; omega
    · have hkj2 : k = j := by omega
      have hf : Hid (lastF s.data.toList ((T.drop i).take (j - i)) 0 (-1) (i : Int) = at_) := by
        rw [Hid, HF.out, hkj2, Nat.sub_self, List.take_zero]; rfl
      clear HF
      go_wp2_with fail
      go_ret
      exact ⟨ret_int hf.out.symm, hbl⟩

theorem closedF_cons (t : Tok) (T : List Tok) (d : Int) : closedF (t :: T) d = if dStep d t < 0 then false else closedF T (dStep d t) := rfl
theorem drop_one (T : List Tok) (k : Nat) (h : k < T.length) : T.drop k = T[k] :: T.drop (k + 1) := List.drop_eq_getElem_cons h
set_option maxRecDepth 100000 in
set_option maxHeartbeats 2000000 in
theorem closed_any (w : World) (b : Nat) (v : Value) (T : List Tok) (out : List Ask) (well : Bool) (h : RSt w b v T out well) (hT : T.length ≤ 100000) :
    Calls Tryd.prog 45 #[.pointer (some ⟨b, 0, none⟩)] w fun e w' => e = .returned (.bool (closedP T)) ∧ Below w.heap.size w w' := by
  have hlt := h.lt
  obtain ⟨A, c, c0, hk⟩ := h.toks
  replace hk := hide hk
  replace h := hide h
  go_enter Tryd.func45, Tryd.ntmps45
  go_wp2_with fail
  go_loopw [3, 4] (fun u3 u4 wr => ∃ (k : Nat) (d : Int), k ≤ T.length ∧ u4 = .int .i64 (k : Int) ∧ u3 = .int .i64 d ∧ Hid (closedP T = closedF (T.drop k) d) ∧ 0 ≤ d ∧ d ≤ (k : Int) ∧ Below w.heap.size w wr)
    (fun _ u4 _ => T.length - (intOf u4).toNat)
  case atStart => exact ⟨0, 0, by omega, rfl, rfl, rfl, by omega, by omega, Below.refl _ _⟩
  case round =>
    obtain ⟨k, d, hkT, rfl, rfl, HF, hd1, hd2, hbl⟩ := hrel
    have hsz := hbl.size
    have d0 := (hbl.cell (p := ⟨b, 0, none⟩) hlt).trans c0
    by_cases h1 : k < T.length
    · obtain ⟨ad, rfl, hab, t0, t1, t2, t3⟩ := hk.out k h1
      have hab2 : (ad.add (k * 4)).block < w.heap.size := by omega
      have p0 := (hbl.cell (p := ad.add (k * 4)) hab2).trans t0
      have p1 := (hbl.cell (p := ⟨(ad.add (k * 4)).block, (ad.add (k * 4)).off + 1, none⟩) hab2).trans t1
      have p2 := (hbl.cell (p := ⟨(ad.add (k * 4)).block, (ad.add (k * 4)).off + 2, none⟩) hab2).trans t2
      have p3 := (hbl.cell (p := ⟨(ad.add (k * 4)).block, (ad.add (k * 4)).off + 3, none⟩) hab2).trans t3
      have hs := HF.out
      rw [drop_one T k h1, closedF_cons] at hs
      clear HF t0 t1 t2 t3
      generalize T[k] = t at *
      generalize hseg : T.drop (k + 1) = S at *
      replace hseg := hide hseg
      replace hs := hide hs
      go_wp2_with fail
      refine (ris_any wr t 4 ⟨#[40]⟩).mono ?_
      rintro e w2 ⟨rfl, hb2⟩
      rw [show isW t 4 (ByteArray.mk #[40]).data.toList = isLp t from rfl]
      have hbl2 := hbl.trans (hb2.mono hsz)
      by_cases cl : isLp t = true
      · have hn := hs.out
        rw [show dStep d t = d + 1 from by unfold dStep; rw [if_pos cl], if_neg (by omega)] at hn
        rw [cl]
        rw [← hseg.out] at hn
        replace hn := hide hn
        clear hs cl p0 p1 p2 p3 d0 hb2 hbl
        go_wp2_with fail
        go_roundw
        case rel => exact ⟨k + 1, d + 1, by omega, by go_num, rfl, hn, by omega, by omega, hbl2⟩
        case measure => simp [intOf]; omega
      · rw [Bool.not_eq_true] at cl
        rw [cl]
        have d0' := (hbl2.cell (p := ⟨b, 0, none⟩) hlt).trans c0
        have q0 := (hb2.cell (p := ad.add (k * 4)) (by omega)).trans p0
        have q1 := (hb2.cell (p := ⟨(ad.add (k * 4)).block, (ad.add (k * 4)).off + 1, none⟩) (by simp; omega)).trans p1
        have q2 := (hb2.cell (p := ⟨(ad.add (k * 4)).block, (ad.add (k * 4)).off + 2, none⟩) (by simp; omega)).trans p2
        have q3 := (hb2.cell (p := ⟨(ad.add (k * 4)).block, (ad.add (k * 4)).off + 3, none⟩) (by simp; omega)).trans p3
        have hsz2 := hbl2.size
        replace cl := hide cl
        clear p0 p1 p2 p3 d0 hb2 hbl
        go_wp2_with fail
        refine (ris_any w2 t 4 ⟨#[41]⟩).mono ?_
        rintro e w3 ⟨rfl, hb3⟩
        rw [show isW t 4 (ByteArray.mk #[41]).data.toList = isRp t from rfl]
        have hbl3 := hbl2.trans (hb3.mono hsz2)
        by_cases cr : isRp t = true
        · have hn := hs.out
          rw [show dStep d t = d - 1 from by unfold dStep; rw [cl.out, if_neg (by simp), if_pos cr]] at hn
          rw [cr]
          by_cases cz : d = 0
          · subst cz
            rw [if_pos (by omega)] at hn
            replace hn := hide hn
            clear hs cr cl q0 q1 q2 q3 d0' hb3 hbl2
            go_wp2_with fail
            go_ret
            exact ⟨ret_bool hn.out.symm, hbl3⟩
          · rw [if_neg (by omega), ← hseg.out] at hn
            replace hn := hide hn
            have hge : 1 ≤ d := by omega
            clear hs cr cl q0 q1 q2 q3 d0' hb3 hbl2 cz
            go_wp2_with fail
            go_roundw
            case rel => exact ⟨k + 1, d - 1, by omega, by go_num, rfl, hn, by omega, by omega, hbl3⟩
            case measure => simp [intOf]; omega
        · rw [Bool.not_eq_true] at cr
          have hn := hs.out
          rw [show dStep d t = d from by unfold dStep; rw [cl.out, cr]; simp, if_neg (by omega), ← hseg.out] at hn
          rw [cr]
          replace hn := hide hn
          clear hs cr cl q0 q1 q2 q3 d0' hb3 hbl2
          go_wp2_with fail
          go_roundw
          case rel => exact ⟨k + 1, d, by omega, by go_num, rfl, hn, by omega, by omega, hbl3⟩
          case measure => simp [intOf]; omega
    · have hf : Hid (closedP T = decide (d = 0)) := by
        rw [Hid, HF.out, List.drop_of_length_le (by omega)]; rfl
      clear HF
      go_wp2_with fail
      go_ret
      exact ⟨ret_bool (by rw [hf.out]; rfl), hbl⟩
end Go.Proofs.YtnbfblikpoblgaaDoor
