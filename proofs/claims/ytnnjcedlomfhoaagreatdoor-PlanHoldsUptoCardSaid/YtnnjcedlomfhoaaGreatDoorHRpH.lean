/-
  The reference's parser: contracts of last and closed.
  The reference's parser: contracts of kind and op.
  The reference's parser: contract of term.
  The reference's parser: plain laws of the places and sizes; contract of part.
  The reference's parser: contract of part.
  The reference's Parse: any text is the question that the grammar says, or refused.
-/
import Derived.Test.YtnnjcedlomfhoaaGreatDoorHRpA
import Derived.Test.YtnnjcedlomfhoaaGreatDoorHB
import Derived.Test.YtnnjcedlomfhoaaGreatDoorHRpG
import Derived.Test.YtnnjcedlomfhoaaGreatDoorHA
import Derived.Test.YtnnjcedlomfhoaaGreatDoorHRefC
import Derived.IntWalk
import Derived.BigQuiet
import Derived.Deep.QuietTactic
namespace Go.Proofs.YtnnjcedlomfhoaaGreatDoor
open Go.RowKit
set_option linter.unusedVariables false
theorem seg_cons (T : List Tok) (k j : Nat) (h : k < j) (hj : j ≤ T.length) : (T.drop k).take (j - k) = T[k]'(by omega) :: (T.drop (k + 1)).take (j - (k + 1)) := by
  rw [List.drop_eq_getElem_cons (by omega), show j - k = (j - (k + 1)) + 1 from by omega, List.take_succ_cons]
theorem lastF_cons (word : List UInt8) (t : Tok) (T : List Tok) (d at_ i : Int) : lastF word (t :: T) d at_ i =
    if isLp t = true then lastF word T (d + 1) at_ (i + 1) else if isRp t = true then lastF word T (d - 1) at_ (i + 1) else lastF word T d (if d = 0 ∧ isW t 1 word = true then i else at_) (i + 1) := rfl
set_option maxRecDepth 100000 in
set_option maxHeartbeats 2000000 in
theorem last_any (w : World) (b : Nat) (v : Value) (T : List Tok) (out : List Ask) (well : Bool) (h : RSt w b v T out well) (i j : Nat) (hij : i ≤ j) (hj : j ≤ T.length) (hT : T.length ≤ 100000) (s : ByteArray) :
    Calls Tryz.prog 48 #[.pointer (some ⟨b, 0, none⟩), .int .i64 (i : Int), .int .i64 (j : Int), .string s] w
      fun e w' => e = .returned (.int .i64 (lastF s.data.toList ((T.drop i).take (j - i)) 0 (-1) (i : Int))) ∧ Below w.heap.size w w' := by
  have hlt := h.lt
  obtain ⟨A, c, c0, hk⟩ := h.toks
  replace hk := hide hk
  replace h := hide h
  go_enter Tryz.func48, Tryz.ntmps48
  go_wp2_with fail
  go_loopw [9, 10, 11] (fun u9 u10 u11 wr => ∃ (k : Nat) (d at_ : Int), i ≤ k ∧ k ≤ j ∧ u11 = .int .i64 (k : Int) ∧ u9 = .int .i64 d ∧ u10 = .int .i64 at_ ∧ Hid (lastF s.data.toList ((T.drop i).take (j - i)) 0 (-1) (i : Int) = lastF s.data.toList ((T.drop k).take (j - k)) d at_ (k : Int)) ∧ -(k : Int) ≤ d ∧ d ≤ (k : Int) ∧ Below w.heap.size w wr)
    (fun _ _ u11 _ => j - (intOf u11).toNat)
  case atStart => exact ⟨i, 0, -1, Nat.le_refl _, hij, rfl, rfl, rfl, rfl, by omega, by omega, Below.refl _ _⟩
  case round =>
    obtain ⟨k, d, at_, hik, hkj, rfl, rfl, rfl, HF, hd1, hd2, hbl⟩ := hrel
    have hsz := hbl.size
    by_cases h1 : k < j
    · have hkT : k < T.length := by omega
      obtain ⟨ad, rfl, hab, t0, t1, t2, t3⟩ := hk.out k hkT
      have hab2 : (ad.add (k * 4)).block < w.heap.size := by omega
      have d0 := (hbl.cell (p := ⟨b, 0, none⟩) hlt).trans c0
      have p0 := (hbl.cell (p := ad.add (k * 4)) hab2).trans t0
      have p1 := (hbl.cell (p := ⟨(ad.add (k * 4)).block, (ad.add (k * 4)).off + 1, none⟩) hab2).trans t1
      have p2 := (hbl.cell (p := ⟨(ad.add (k * 4)).block, (ad.add (k * 4)).off + 2, none⟩) hab2).trans t2
      have p3 := (hbl.cell (p := ⟨(ad.add (k * 4)).block, (ad.add (k * 4)).off + 3, none⟩) hab2).trans t3
      have hs := HF.out
      rw [seg_cons T k j h1 hj, lastF_cons] at hs
      clear HF t0 t1 t2 t3
      generalize T[k] = t at *
      generalize hseg : (T.drop (k + 1)).take (j - (k + 1)) = S at *
      replace hseg := hide hseg
      replace hs := hide hs
      go_wp2_with fail
      refine (ris_any wr t 4 ⟨#[40]⟩).mono ?_
      rintro e w2 ⟨rfl, hb2⟩
      rw [show isW t 4 (ByteArray.mk #[40]).data.toList = isLp t from rfl]
      have hbl2 := hbl.trans (hb2.mono hsz)
      by_cases cl : isLp t = true
      · have hn := hs.out
        rw [if_pos cl] at hn
        rw [cl]
        rw [← hseg.out] at hn
        replace hn := hide hn
        clear hs cl p0 p1 p2 p3 d0 hb2 hbl
        go_wp2_with fail
        go_roundw
        case rel => exact ⟨k + 1, d + 1, at_, by omega, by omega, by go_num, (by first | rfl | trivial), (by first | rfl | trivial), by rw [Hid, hn.out]; rfl, by omega, by omega, hbl2⟩
        case measure => simp [intOf]; omega
      · rw [Bool.not_eq_true] at cl
        have hs2 := hs.out
        rw [cl] at hs2 ⊢
        rw [if_neg (by simp)] at hs2
        have hlt2 : b < w.heap.size := hlt
        have d0' := (hbl2.cell (p := ⟨b, 0, none⟩) hlt).trans c0
        have q0 := (hb2.cell (p := ad.add (k * 4)) (by omega)).trans p0
        have q1 := (hb2.cell (p := ⟨(ad.add (k * 4)).block, (ad.add (k * 4)).off + 1, none⟩) (by simp; omega)).trans p1
        have q2 := (hb2.cell (p := ⟨(ad.add (k * 4)).block, (ad.add (k * 4)).off + 2, none⟩) (by simp; omega)).trans p2
        have q3 := (hb2.cell (p := ⟨(ad.add (k * 4)).block, (ad.add (k * 4)).off + 3, none⟩) (by simp; omega)).trans p3
        replace hs2 := hide hs2
        have hsz2 := hbl2.size
        clear hs cl p0 p1 p2 p3 d0 hb2 hbl
        go_wp2_with fail
        refine (ris_any w2 t 4 ⟨#[41]⟩).mono ?_
        rintro e w3 ⟨rfl, hb3⟩
        rw [show isW t 4 (ByteArray.mk #[41]).data.toList = isRp t from rfl]
        have hbl3 := hbl2.trans (hb3.mono hsz2)
        by_cases cr : isRp t = true
        · have hn := hs2.out
          rw [if_pos cr] at hn
          rw [cr]
          rw [← hseg.out] at hn
          replace hn := hide hn
          clear hs2 cr q0 q1 q2 q3 d0' hb3 hbl2
          go_wp2_with fail
          go_roundw
          case rel => exact ⟨k + 1, d - 1, at_, by omega, by omega, by go_num, (by first | rfl | trivial), (by first | rfl | trivial), by rw [Hid, hn.out]; rfl, by omega, by omega, hbl3⟩
          case measure => simp [intOf]; omega
        · rw [Bool.not_eq_true] at cr
          have hs3 := hs2.out
          rw [cr] at hs3 ⊢
          rw [if_neg (by simp)] at hs3
          have e0 := (hbl3.cell (p := ⟨b, 0, none⟩) hlt).trans c0
          have r0 := (hb3.cell (p := ad.add (k * 4)) (by omega)).trans q0
          have r1 := (hb3.cell (p := ⟨(ad.add (k * 4)).block, (ad.add (k * 4)).off + 1, none⟩) (by simp; omega)).trans q1
          have r2 := (hb3.cell (p := ⟨(ad.add (k * 4)).block, (ad.add (k * 4)).off + 2, none⟩) (by simp; omega)).trans q2
          have r3 := (hb3.cell (p := ⟨(ad.add (k * 4)).block, (ad.add (k * 4)).off + 3, none⟩) (by simp; omega)).trans q3
          have hsz3 := hbl3.size
          replace hs3 := hide hs3
          clear hs2 cr q0 q1 q2 q3 d0' hb3 hbl2
          by_cases cd : d = 0
          · subst cd
            go_wp2_with fail
            refine (ris_any w3 t 1 s).mono ?_
            rintro e w4 ⟨rfl, hb4⟩
            have hbl4 := hbl3.trans (hb4.mono hsz3)
            by_cases cw : isW t 1 s.data.toList = true
            · have hn := hs3.out
              rw [if_pos (by first | exact ⟨rfl, cw⟩ | exact ⟨trivial, cw⟩)] at hn
              rw [cw]
              rw [← hseg.out] at hn
              replace hn := hide hn
              clear hs3 cw r0 r1 r2 r3 e0 hb4 hbl3
              go_wp2_with fail
              go_roundw
              case rel => exact ⟨k + 1, 0, (k : Int), by omega, by omega, by go_num, (by first | rfl | trivial), (by first | rfl | trivial), by rw [Hid, hn.out]; rfl, by omega, by omega, hbl4⟩
              case measure => simp [intOf]; omega
            · have hn := hs3.out
              rw [if_neg (fun h => cw h.2)] at hn
              rw [Bool.not_eq_true] at cw
              rw [cw]
              rw [← hseg.out] at hn
              replace hn := hide hn
              clear hs3 cw r0 r1 r2 r3 e0 hb4 hbl3
              go_wp2_with fail
              go_roundw
              case rel => exact ⟨k + 1, 0, at_, by omega, by omega, by go_num, (by first | rfl | trivial), (by first | rfl | trivial), by rw [Hid, hn.out]; rfl, by omega, by omega, hbl4⟩
              case measure => simp [intOf]; omega
          · have n0 : (d == 0) = false := by simp [cd]
            have hn := hs3.out
            rw [if_neg (fun h => cd h.1)] at hn
            rw [← hseg.out] at hn
            replace hn := hide hn
            clear hs3 cd r0 r1 r2 r3 e0
            go_wp2_with fail
            go_roundw
            case rel => exact ⟨k + 1, d, at_, by omega, by omega, by go_num, (by first | rfl | trivial), (by first | rfl | trivial), by rw [Hid, hn.out]; rfl, by omega, by omega, hbl3⟩
            case measure => simp [intOf]; omega
    · have hkj2 : k = j := by omega
      have hf : Hid (lastF s.data.toList ((T.drop i).take (j - i)) 0 (-1) (i : Int) = at_) := by
        rw [Hid, HF.out, hkj2, Nat.sub_self, List.take_zero]; rfl
      clear HF
      go_wp2_with fail
      go_ret
      exact ⟨ret_int hf.out.symm, hbl⟩
theorem closedF_cons (t : Tok) (T : List Tok) (d : Int) : closedF (t :: T) d = if dStep d t < 0 then false else closedF T (dStep d t) := rfl
theorem drop_one (T : List Tok) (k : Nat) (h : k < T.length) : T.drop k = T[k] :: T.drop (k + 1) := List.drop_eq_getElem_cons h
set_option maxRecDepth 100000 in
set_option maxHeartbeats 2000000 in
theorem closed_any (w : World) (b : Nat) (v : Value) (T : List Tok) (out : List Ask) (well : Bool) (h : RSt w b v T out well) (hT : T.length ≤ 100000) :
    Calls Tryz.prog 28 #[.pointer (some ⟨b, 0, none⟩)] w fun e w' => e = .returned (.bool (closedP T)) ∧ Below w.heap.size w w' := by
  have hlt := h.lt
  obtain ⟨A, c, c0, hk⟩ := h.toks
  replace hk := hide hk
  replace h := hide h
  go_enter Tryz.func28, Tryz.ntmps28
  go_wp2_with fail
  go_loopw [3, 4] (fun u3 u4 wr => ∃ (k : Nat) (d : Int), k ≤ T.length ∧ u4 = .int .i64 (k : Int) ∧ u3 = .int .i64 d ∧ Hid (closedP T = closedF (T.drop k) d) ∧ 0 ≤ d ∧ d ≤ (k : Int) ∧ Below w.heap.size w wr)
    (fun _ u4 _ => T.length - (intOf u4).toNat)
  case atStart => exact ⟨0, 0, by omega, rfl, rfl, rfl, by omega, by omega, Below.refl _ _⟩
  case round =>
    obtain ⟨k, d, hkT, rfl, rfl, HF, hd1, hd2, hbl⟩ := hrel
    have hsz := hbl.size
    have d0 := (hbl.cell (p := ⟨b, 0, none⟩) hlt).trans c0
    by_cases h1 : k < T.length
    · obtain ⟨ad, rfl, hab, t0, t1, t2, t3⟩ := hk.out k h1
      have hab2 : (ad.add (k * 4)).block < w.heap.size := by omega
      have p0 := (hbl.cell (p := ad.add (k * 4)) hab2).trans t0
      have p1 := (hbl.cell (p := ⟨(ad.add (k * 4)).block, (ad.add (k * 4)).off + 1, none⟩) hab2).trans t1
      have p2 := (hbl.cell (p := ⟨(ad.add (k * 4)).block, (ad.add (k * 4)).off + 2, none⟩) hab2).trans t2
      have p3 := (hbl.cell (p := ⟨(ad.add (k * 4)).block, (ad.add (k * 4)).off + 3, none⟩) hab2).trans t3
      have hs := HF.out
      rw [drop_one T k h1, closedF_cons] at hs
      clear HF t0 t1 t2 t3
      generalize T[k] = t at *
      generalize hseg : T.drop (k + 1) = S at *
      replace hseg := hide hseg
      replace hs := hide hs
      go_wp2_with fail
      refine (ris_any wr t 4 ⟨#[40]⟩).mono ?_
      rintro e w2 ⟨rfl, hb2⟩
      rw [show isW t 4 (ByteArray.mk #[40]).data.toList = isLp t from rfl]
      have hbl2 := hbl.trans (hb2.mono hsz)
      by_cases cl : isLp t = true
      · have hn := hs.out
        rw [show dStep d t = d + 1 from by unfold dStep; rw [if_pos cl], if_neg (by omega)] at hn
        rw [cl]
        rw [← hseg.out] at hn
        replace hn := hide hn
        clear hs cl p0 p1 p2 p3 d0 hb2 hbl
        go_wp2_with fail
        go_roundw
        case rel => exact ⟨k + 1, d + 1, by omega, by go_num, rfl, hn, by omega, by omega, hbl2⟩
        case measure => simp [intOf]; omega
      · rw [Bool.not_eq_true] at cl
        rw [cl]
        have d0' := (hbl2.cell (p := ⟨b, 0, none⟩) hlt).trans c0
        have q0 := (hb2.cell (p := ad.add (k * 4)) (by omega)).trans p0
        have q1 := (hb2.cell (p := ⟨(ad.add (k * 4)).block, (ad.add (k * 4)).off + 1, none⟩) (by simp; omega)).trans p1
        have q2 := (hb2.cell (p := ⟨(ad.add (k * 4)).block, (ad.add (k * 4)).off + 2, none⟩) (by simp; omega)).trans p2
        have q3 := (hb2.cell (p := ⟨(ad.add (k * 4)).block, (ad.add (k * 4)).off + 3, none⟩) (by simp; omega)).trans p3
        have hsz2 := hbl2.size
        replace cl := hide cl
        clear p0 p1 p2 p3 d0 hb2 hbl
        go_wp2_with fail
        refine (ris_any w2 t 4 ⟨#[41]⟩).mono ?_
        rintro e w3 ⟨rfl, hb3⟩
        rw [show isW t 4 (ByteArray.mk #[41]).data.toList = isRp t from rfl]
        have hbl3 := hbl2.trans (hb3.mono hsz2)
        by_cases cr : isRp t = true
        · have hn := hs.out
          rw [show dStep d t = d - 1 from by unfold dStep; rw [cl.out, if_neg (by simp), if_pos cr]] at hn
          rw [cr]
          by_cases cz : d = 0
          · subst cz
            rw [if_pos (by omega)] at hn
            replace hn := hide hn
            clear hs cr cl q0 q1 q2 q3 d0' hb3 hbl2
            go_wp2_with fail
            go_ret
            exact ⟨ret_bool hn.out.symm, hbl3⟩
          · rw [if_neg (by omega), ← hseg.out] at hn
            replace hn := hide hn
            have hge : 1 ≤ d := by omega
            clear hs cr cl q0 q1 q2 q3 d0' hb3 hbl2 cz
            go_wp2_with fail
            go_roundw
            case rel => exact ⟨k + 1, d - 1, by omega, by go_num, rfl, hn, by omega, by omega, hbl3⟩
            case measure => simp [intOf]; omega
        · rw [Bool.not_eq_true] at cr
          have hn := hs.out
          rw [show dStep d t = d from by unfold dStep; rw [cl.out, cr]; simp, if_neg (by omega), ← hseg.out] at hn
          rw [cr]
          replace hn := hide hn
          clear hs cr cl q0 q1 q2 q3 d0' hb3 hbl2
          go_wp2_with fail
          go_roundw
          case rel => exact ⟨k + 1, d, by omega, by go_num, rfl, hn, by omega, by omega, hbl3⟩
          case measure => simp [intOf]; omega
    · have hf : Hid (closedP T = decide (d = 0)) := by
        rw [Hid, HF.out, List.drop_of_length_le (by omega)]; rfl
      clear HF
      go_wp2_with fail
      go_ret
      exact ⟨ret_bool (by rw [hf.out]; rfl), hbl⟩
end Go.Proofs.YtnnjcedlomfhoaaGreatDoor
namespace Go.Proofs.YtnnjcedlomfhoaaGreatDoor
open Go.RowKit
set_option linter.unusedVariables false
def wordL : List (List UInt8) := [nameW, sizeW, dateW, crcW, methodW]
theorem of_isW {t : Tok} {k : Int} {s : List UInt8} (h : isW t k s = true) : t.kind = k ∧ t.text = s := by
  simpa [isW] using h
def kindT (t : Tok) : Int := if t.kind = 1 then kindOf t.text else 0
theorem kindOf_findK (t : Tok) : kindT t = if t.kind = 1 then findK wordL t.text 4 else 0 := rfl
set_option maxRecDepth 100000 in
set_option maxHeartbeats 1000000 in
theorem rkind_any (w : World) (t : Tok) : Calls Tryz.prog 69 #[tokV t] w fun e w' => e = .returned (.int .i64 (kindT t)) ∧ Below w.heap.size w w' := by
  unfold tokV
  go_enter Tryz.func69, Tryz.ntmps69
  go_wp2_with fail
  obtain ⟨w1, hw1⟩ : ∃ x, x = ((w.alloc (.cells #[.int .i64 t.kind, .string (str t.text), .int .i64 t.n, .int .i64 (t.pos : Int)] 92)).alloc (.cells (wordL.map fun l => Value.string ⟨l.toArray⟩).toArray 9)) := ⟨_, rfl⟩
  have hbl : Below w.heap.size w w1 := by
    rw [hw1]
    exact ((Below.refl _ _).alloc (Nat.le_refl _) _).alloc (by simp) _
  have hc : ∀ k (hk : k < wordL.length), w1.cell? ⟨w.heap.size + 1, k, none⟩ = some (.string (str wordL[k])) := by
    intro k hk
    rw [hw1]
    have := cell_of_row _ _ k _ 9 (0, 0) (heap_alloc_new (w.alloc (.cells #[.int .i64 t.kind, .string (str t.text), .int .i64 t.n, .int .i64 (t.pos : Int)] 92)) (.cells (wordL.map fun l => Value.string ⟨l.toArray⟩).toArray 9))
    rw [show (w.alloc (.cells #[.int .i64 t.kind, .string (str t.text), .int .i64 t.n, .int .i64 (t.pos : Int)] 92)).heap.size = w.heap.size + 1 from by simp] at this
    rw [this]
    simp [hk, str]
  have ht0 : w1.cell? ⟨w.heap.size, 0, none⟩ = some (.int .i64 t.kind) := by rw [hw1]; simp
  have ht1 : w1.cell? ⟨w.heap.size, 1, none⟩ = some (.string (str t.text)) := by rw [hw1]; simp
  have ht2 : w1.cell? ⟨w.heap.size, 2, none⟩ = some (.int .i64 t.n) := by rw [hw1]; simp
  have ht3 : w1.cell? ⟨w.heap.size, 3, none⟩ = some (.int .i64 (t.pos : Int)) := by rw [hw1]; simp
  have hs1 : w1.heap.size = w.heap.size + 2 := by rw [hw1]; simp
  try rw [show (w.alloc (.cells #[.int .i64 t.kind, .string (str t.text), .int .i64 t.n, .int .i64 (t.pos : Int)] 92)).heap.size = w.heap.size + 1 from by simp]
  rw [show (#[Value.string ⟨#[110, 97, 109, 101]⟩, Value.string ⟨#[115, 105, 122, 101]⟩, Value.string ⟨#[100, 97, 116, 101]⟩, Value.string ⟨#[99, 114, 99]⟩, Value.string ⟨#[109, 101, 116, 104, 111, 100]⟩] : Array Value) = (wordL.map fun l => Value.string ⟨l.toArray⟩).toArray from rfl, ← hw1]
  clear hw1
  replace hc := hide hc
  go_wp2_with fail
  go_loopw [4] (fun i wr => ∃ k : Nat, k ≤ 5 ∧ i = .int .i64 k ∧ Below w1.heap.size w1 wr ∧ Hid (t.kind = 1 → ∀ i (hi : i < k) (h7 : i < wordL.length), wordL[i] ≠ t.text)) (fun i _ => 5 - (intOf i).toNat)
  case atStart => exact ⟨0, by omega, rfl, Below.refl _ _, fun _ i hi => absurd hi (by omega)⟩
  case round =>
    obtain ⟨k, hk, rfl, hbr, HN⟩ := hrel
    have hszr := hbr.size
    by_cases h1 : k < 5
    · have hL : k < wordL.length := h1
      have hck := (hbr.cell (p := ⟨w.heap.size + 1, k, none⟩) (by simp; omega)).trans (hc.out k hL)
      have p0 := (hbr.cell (p := ⟨w.heap.size, 0, none⟩) (by simp; omega)).trans ht0
      have p1 := (hbr.cell (p := ⟨w.heap.size, 1, none⟩) (by simp; omega)).trans ht1
      have p2 := (hbr.cell (p := ⟨w.heap.size, 2, none⟩) (by simp; omega)).trans ht2
      have p3 := (hbr.cell (p := ⟨w.heap.size, 3, none⟩) (by simp; omega)).trans ht3
      have HW : Hid (∀ wx, Calls Tryz.prog 46 #[tokV t, .int .i64 1, .string (str (wordL[k]'hL))] wx fun e w' => e = .returned (.bool (isW t 1 (wordL[k]'hL))) ∧ Below wx.heap.size wx w') := by
        intro wx
        have := ris_any wx t 1 (str (wordL[k]'hL))
        rw [str_toList] at this
        exact this
      have HB : Hid (isW t 1 (wordL[k]'hL) = true → (kindT t) = 4 + (k : Int)) := by
        intro h
        obtain ⟨e1, e2⟩ := of_isW h
        rw [kindOf_findK, if_pos e1, findK_at t.text wordL k hL 4 e2.symm (fun i hi => HN.out e1 i hi (by have : wordL.length = 5 := rfl; omega))]
      have HN2 : Hid (isW t 1 (wordL[k]'hL) = false → t.kind = 1 → ∀ i (hi : i < k + 1) (h7 : i < wordL.length), wordL[i] ≠ t.text) := by
        intro h e i hi h7
        by_cases hik : i = k
        · subst hik
          intro e2
          rw [isW_both e e2.symm] at h
          exact absurd h (by simp)
        · exact HN.out e i (by omega) h7
      clear HN ht0 ht1 ht2 ht3 hc
      generalize (wordL[k]'hL) = s at *
      unfold tokV at HW
      go_wp2_with fail
      go_cut [17] (fun v wx => v = .bool (isW t 1 s) ∧ Below w1.heap.size w1 wx)
      case first =>
        go_region_with (first | (go_at_call 46; refine (HW.out _).mono ?_; rintro e w2 ⟨rfl, hb2⟩))
        all_goals
          go_wp2_with fail
          go_meet
          refine ⟨rfl, ?_⟩
          first | exact hbr.trans (hb2.mono hszr) | exact hbr.trans (((below_drewN (Below.refl _ _) 1).trans hb2).mono hszr) | exact below_drewN (hbr.trans (hb2.mono hszr)) 1
      obtain ⟨rfl, hbx⟩ := hcut
      by_cases ew : isW t 1 s = true
      · have hr := hide (HB.out ew)
        rw [ew]
        clear HB HN2 ew HW
        go_wp2_with fail
        go_ret
        exact ⟨ret_int (by rw [hr.out]; omega), hbl.trans (hbx.mono (by omega))⟩
      · rw [Bool.not_eq_true] at ew
        have HN3 := hide (HN2.out ew)
        rw [ew]
        clear HB HN2 ew HW
        go_wp2_with fail
        go_roundw
        case rel => exact ⟨k + 1, by omega, by go_num, hbx, HN3.out⟩
        case measure => simp [intOf]; omega
    · have hr : Hid ((kindT t) = 0) := by
        show _ = _
        by_cases e1 : t.kind = 1
        · rw [kindOf_findK, if_pos e1, findK_none t.text wordL 4 (fun i hi => HN.out e1 i (by have : wordL.length = 5 := rfl; omega) hi)]
        · rw [kindOf_findK, if_neg e1]
      clear HN
      go_wp2_with fail
      go_ret
      exact ⟨ret_int hr.out.symm, hbl.trans (hbr.mono (by omega))⟩
set_option maxRecDepth 100000 in
set_option maxHeartbeats 1000000 in
theorem rop_any (w : World) (t : Tok) : Calls Tryz.prog 70 #[tokV t] w fun e w' => e = .returned (.int .i64 (opOf t)) ∧ Below w.heap.size w w' := by
  unfold tokV
  go_enter Tryz.func70, Tryz.ntmps70
  go_wp2_with fail
  obtain ⟨w1, hw1⟩ : ∃ x, x = ((w.alloc (.cells #[.int .i64 t.kind, .string (str t.text), .int .i64 t.n, .int .i64 (t.pos : Int)] 92)).alloc (.cells (cmpL.map fun l => Value.string ⟨l.toArray⟩).toArray 9)) := ⟨_, rfl⟩
  have hbl : Below w.heap.size w w1 := by
    rw [hw1]
    exact ((Below.refl _ _).alloc (Nat.le_refl _) _).alloc (by simp) _
  have hc : ∀ k (hk : k < cmpL.length), w1.cell? ⟨w.heap.size + 1, k, none⟩ = some (.string (str cmpL[k])) := by
    intro k hk
    rw [hw1]
    have := cell_of_row _ _ k _ 9 (0, 0) (heap_alloc_new (w.alloc (.cells #[.int .i64 t.kind, .string (str t.text), .int .i64 t.n, .int .i64 (t.pos : Int)] 92)) (.cells (cmpL.map fun l => Value.string ⟨l.toArray⟩).toArray 9))
    rw [show (w.alloc (.cells #[.int .i64 t.kind, .string (str t.text), .int .i64 t.n, .int .i64 (t.pos : Int)] 92)).heap.size = w.heap.size + 1 from by simp] at this
    rw [this]
    simp [hk, str]
  have ht0 : w1.cell? ⟨w.heap.size, 0, none⟩ = some (.int .i64 t.kind) := by rw [hw1]; simp
  have ht1 : w1.cell? ⟨w.heap.size, 1, none⟩ = some (.string (str t.text)) := by rw [hw1]; simp
  have ht2 : w1.cell? ⟨w.heap.size, 2, none⟩ = some (.int .i64 t.n) := by rw [hw1]; simp
  have ht3 : w1.cell? ⟨w.heap.size, 3, none⟩ = some (.int .i64 (t.pos : Int)) := by rw [hw1]; simp
  have hs1 : w1.heap.size = w.heap.size + 2 := by rw [hw1]; simp
  try rw [show (w.alloc (.cells #[.int .i64 t.kind, .string (str t.text), .int .i64 t.n, .int .i64 (t.pos : Int)] 92)).heap.size = w.heap.size + 1 from by simp]
  rw [show (#[Value.string ⟨#[61]⟩, Value.string ⟨#[33, 61]⟩, Value.string ⟨#[60]⟩, Value.string ⟨#[60, 61]⟩, Value.string ⟨#[62]⟩, Value.string ⟨#[62, 61]⟩, Value.string ⟨#[126]⟩] : Array Value) = (cmpL.map fun l => Value.string ⟨l.toArray⟩).toArray from rfl, ← hw1]
  clear hw1
  replace hc := hide hc
  go_wp2_with fail
  go_loopw [4] (fun i wr => ∃ k : Nat, k ≤ 7 ∧ i = .int .i64 k ∧ Below w1.heap.size w1 wr ∧ Hid (t.kind = 4 → ∀ i (hi : i < k) (h7 : i < cmpL.length), cmpL[i] ≠ t.text)) (fun i _ => 7 - (intOf i).toNat)
  case atStart => exact ⟨0, by omega, rfl, Below.refl _ _, fun _ i hi => absurd hi (by omega)⟩
  case round =>
    obtain ⟨k, hk, rfl, hbr, HN⟩ := hrel
    have hszr := hbr.size
    by_cases h1 : k < 7
    · have hL : k < cmpL.length := h1
      have hck := (hbr.cell (p := ⟨w.heap.size + 1, k, none⟩) (by simp; omega)).trans (hc.out k hL)
      have p0 := (hbr.cell (p := ⟨w.heap.size, 0, none⟩) (by simp; omega)).trans ht0
      have p1 := (hbr.cell (p := ⟨w.heap.size, 1, none⟩) (by simp; omega)).trans ht1
      have p2 := (hbr.cell (p := ⟨w.heap.size, 2, none⟩) (by simp; omega)).trans ht2
      have p3 := (hbr.cell (p := ⟨w.heap.size, 3, none⟩) (by simp; omega)).trans ht3
      have HW : Hid (∀ wx, Calls Tryz.prog 46 #[tokV t, .int .i64 4, .string (str (cmpL[k]'hL))] wx fun e w' => e = .returned (.bool (isW t 4 (cmpL[k]'hL))) ∧ Below wx.heap.size wx w') := by
        intro wx
        have := ris_any wx t 4 (str (cmpL[k]'hL))
        rw [str_toList] at this
        exact this
      have HB : Hid (isW t 4 (cmpL[k]'hL) = true → (opOf t) = 1 + (k : Int)) := by
        intro h
        obtain ⟨e1, e2⟩ := of_isW h
        rw [opOf, if_pos e1, findK_at t.text cmpL k hL 1 e2.symm (fun i hi => HN.out e1 i hi (by have : cmpL.length = 7 := rfl; omega))]
      have HN2 : Hid (isW t 4 (cmpL[k]'hL) = false → t.kind = 4 → ∀ i (hi : i < k + 1) (h7 : i < cmpL.length), cmpL[i] ≠ t.text) := by
        intro h e i hi h7
        by_cases hik : i = k
        · subst hik
          intro e2
          rw [isW_both e e2.symm] at h
          exact absurd h (by simp)
        · exact HN.out e i (by omega) h7
      clear HN ht0 ht1 ht2 ht3 hc
      generalize (cmpL[k]'hL) = s at *
      unfold tokV at HW
      go_wp2_with fail
      go_cut [17] (fun v wx => v = .bool (isW t 4 s) ∧ Below w1.heap.size w1 wx)
      case first =>
        go_region_with (first | (go_at_call 46; refine (HW.out _).mono ?_; rintro e w2 ⟨rfl, hb2⟩))
        all_goals
          go_wp2_with fail
          go_meet
          refine ⟨rfl, ?_⟩
          first | exact hbr.trans (hb2.mono hszr) | exact hbr.trans (((below_drewN (Below.refl _ _) 1).trans hb2).mono hszr) | exact below_drewN (hbr.trans (hb2.mono hszr)) 1
      obtain ⟨rfl, hbx⟩ := hcut
      by_cases ew : isW t 4 s = true
      · have hr := hide (HB.out ew)
        rw [ew]
        clear HB HN2 ew HW
        go_wp2_with fail
        go_ret
        exact ⟨ret_int (by rw [hr.out]; omega), hbl.trans (hbx.mono (by omega))⟩
      · rw [Bool.not_eq_true] at ew
        have HN3 := hide (HN2.out ew)
        rw [ew]
        clear HB HN2 ew HW
        go_wp2_with fail
        go_roundw
        case rel => exact ⟨k + 1, by omega, by go_num, hbx, HN3.out⟩
        case measure => simp [intOf]; omega
    · have hr : Hid ((opOf t) = 0) := by
        show _ = _
        by_cases e1 : t.kind = 4
        · rw [opOf, if_pos e1, findK_none t.text cmpL 1 (fun i hi => HN.out e1 i (by have : cmpL.length = 7 := rfl; omega) hi)]
        · rw [opOf, if_neg e1]
      clear HN
      go_wp2_with fail
      go_ret
      exact ⟨ret_int hr.out.symm, hbl.trans (hbr.mono (by omega))⟩
end Go.Proofs.YtnnjcedlomfhoaaGreatDoor
namespace Go.Proofs.YtnnjcedlomfhoaaGreatDoor
open Go.RowKit
set_option linter.unusedVariables false
section
variable {w w' : World} {b : Nat} {v : Value} {T : List Tok} {out : List Ask} {well : Bool}
theorem RSt.own_lt (h : RSt w b v T out well) (k : Nat) (hk : v.ownBlock = some k) : k < w.heap.size := by
  obtain ⟨A, c, hB, hT, hc1, hc2, hO⟩ := h
  exact hO.own_lt k hk
theorem RSt.far {g i : Nat} (h : RSt w b v T out well) (hg : b < g) (hv : v.ownBlock ≠ some g) (u : Value) : RSt (w.setCell ⟨g, i, none⟩ u) b v T out well := by
  obtain ⟨A, c, hB, hT, hc1, hc2, hO⟩ := h
  exact ⟨A, c, hB.far (by simp; omega) _, Reads.setCell hT (by simp; omega) _, hc1, hc2, hO.far hv _⟩
theorem RSt.toks2 (h : RSt w b v T out well) (hne : 0 < T.length) : ∃ ad c, w.cell? ⟨b, 0, none⟩ = some (.slice (some ad) T.length c) ∧ ∀ k (hk : k < T.length), (ad.add (k * 4)).block < b ∧ TokAt w (ad.add (k * 4)) T[k] := by
  obtain ⟨A, c, h0, hk⟩ := h.toks
  obtain ⟨ad, rfl, -⟩ := hk 0 hne
  refine ⟨ad, c, h0, fun k hk' => ?_⟩
  obtain ⟨ad', e, h1, h2⟩ := hk k hk'
  cases e
  exact ⟨h1, h2⟩
end
/-- What term hands back. -/
def RTRet (w : World) (b : Nat) (T : List Tok) (out : List Ask) (well : Bool) (o : Option Ask) (e : Ending) (w' : World) : Prop :=
  Below b w w' ∧ match o with
  | none => e = .returned (.int .i64 (-1)) ∧ ∃ v', RSt w' b v' T out false
  | some x => e = .returned (.int .i64 (out.length : Int)) ∧ ∃ v', RSt w' b v' T (out ++ [x]) well
theorem RTRet.no {w w' : World} {b : Nat} {v' : Value} {T : List Tok} {out : List Ask} {well : Bool} {o : Option Ask} {r : Int} (ho : o = none) (hr : r = -1) (hP : RSt w' b v' T out false) (hb : Below b w w') : RTRet w b T out well o (.returned (.int .i64 r)) w' := by
  subst ho; subst hr
  exact ⟨hb, rfl, v', hP⟩
theorem RTRet.yes {w w' : World} {b : Nat} {v' : Value} {T : List Tok} {out : List Ask} {well : Bool} {o : Option Ask} {x : Ask} {r : Int} (ho : o = some x) (hr : r = out.length) (hP : RSt w' b v' T (out ++ [x]) well) (hb : Below b w w') : RTRet w b T out well o (.returned (.int .i64 r)) w' := by
  subst ho; subst hr
  exact ⟨hb, rfl, v', hP⟩
theorem rterm_none (T : List Tok) (h2 : T.length ≠ 2) (h3 : T.length ≠ 3) : rterm T = none := by
  match T with
  | [] => rfl
  | [_] => rfl
  | [_, _] => exact absurd rfl h2
  | [_, _, _] => exact absurd rfl h3
  | _ :: _ :: _ :: _ :: _ => rfl
theorem seg_len (T : List Tok) (i j : Nat) (hij : i ≤ j) (hj : j ≤ T.length) : ((T.drop i).take (j - i)).length = j - i := by
  rw [List.length_take, List.length_drop]; omega
theorem seg2 (T : List Tok) (i j : Nat) (h : j = i + 2) (hj : j ≤ T.length) : (T.drop i).take (j - i) = [T[i], T[i + 1]] := by
  rw [seg_cons T i j (by omega) hj, seg_cons T (i + 1) j (by omega) hj, show j - (i + 1 + 1) = 0 from by omega, List.take_zero]
theorem seg3 (T : List Tok) (i j : Nat) (h : j = i + 3) (hj : j ≤ T.length) : (T.drop i).take (j - i) = [T[i], T[i + 1], T[i + 2]] := by
  rw [seg_cons T i j (by omega) hj, seg_cons T (i + 1) j (by omega) hj, seg_cons T (i + 1 + 1) j (by omega) hj, show j - (i + 1 + 1 + 1) = 0 from by omega, List.take_zero]
set_option maxRecDepth 100000 in
set_option maxHeartbeats 2000000 in
theorem rterm_any (w : World) (b : Nat) (v : Value) (T : List Tok) (out : List Ask) (well : Bool) (h : RSt w b v T out well) (i j : Nat) (hij : i ≤ j) (hj : j ≤ T.length) (hT : T.length ≤ 100000) (hl : out.length ≤ 100000) :
    Calls Tryz.prog 50 #[.pointer (some ⟨b, 0, none⟩), .int .i64 (i : Int), .int .i64 (j : Int)] w (RTRet w b T out well (rterm ((T.drop i).take (j - i)))) := by
  have hlt := h.lt
  have hvo : v.ownBlock ≠ some w.heap.size := fun e => by have := h.own_lt _ e; omega
  go_enter Tryz.func50, Tryz.ntmps50
  go_upto_region 2 with (fail)
  obtain ⟨w1, hw1⟩ : ∃ x, x = w.alloc (.cells #[.int .i64 0, .int .i64 0, .int .i64 (-1), .int .i64 (-1), .int .i64 0, .string ⟨#[]⟩, .bool false] 54) := ⟨_, rfl⟩
  rw [← hw1]
  have hP1 : Hid (RSt w1 b v T out well) := by rw [hw1]; exact h.newer ((Below.refl _ _).alloc (Nat.le_refl _) _)
  have hB1 : Hid (Blk w1 w.heap.size 54 #[.int .i64 0, .int .i64 0, .int .i64 (-1), .int .i64 (-1), .int .i64 0, .string ⟨#[]⟩, .bool false]) := by rw [hw1]; exact Blk.new _ _ _
  have hb1 : Below b w w1 := by rw [hw1]; exact (Below.refl b w).alloc (by omega) _
  clear hw1 h
  have hsz1 := hB1.out.lt
  by_cases j2 : j = i + 2
  · have hji : Hid ((j : Int) = (i : Int) + 2) := by show _ = _; omega
    rw [hji.out]
    have hseg := hide (seg2 T i j j2 hj)
    have hi1 : i < T.length := by omega
    have hi2 : i + 1 < T.length := by omega
    replace j2 := hide j2
    obtain ⟨ad, c, c0, hk⟩ := hP1.out.toks2 (by omega)
    obtain ⟨ab, t0, t1, t2, t3⟩ := hk i (by omega)
    obtain ⟨ab', s0, s1, s2, s3⟩ := hk (i + 1) (by omega)
    clear hk
    have hi1 : i < T.length := by omega
    have hi2 : i + 1 < T.length := by omega
    obtain ⟨t, hgt⟩ : ∃ x, x = T[i] := ⟨_, rfl⟩
    obtain ⟨u, hgu⟩ : ∃ x, x = T[i + 1] := ⟨_, rfl⟩
    rw [← hgt] at t0 t1 t2 t3 hseg
    rw [← hgu] at s0 s1 s2 s3 hseg
    replace hgt := hide hgt
    replace hgu := hide hgu
    go_cut [35] (fun v35 wx => v35 = .bool (isW t 1 hasW && (u.kind == 3)) ∧ RSt wx b v T out well ∧ Blk wx w.heap.size 54 #[.int .i64 0, .int .i64 0, .int .i64 (-1), .int .i64 (-1), .int .i64 0, .string ⟨#[]⟩, .bool false] ∧ Below b w wx)
    case first =>
      go_wp2_with fail
      refine (ris_any w1 t 1 ⟨#[104, 97, 115]⟩).mono ?_
      rintro e w2 ⟨rfl, hb2⟩
      rw [show (ByteArray.mk #[104, 97, 115]).data.toList = hasW from rfl]
      have hP2 := hide (hP1.out.newer hb2)
      have hB2 := hide (hB1.out.below hb2 hsz1)
      have hbw2 := hb1.trans (hb2.mono (by omega))
      clear hP1 hB1 hb1 hb2 c0 t0 t1 t2 t3 s0 s1 s2 s3 ab ab'
      obtain ⟨ad, c, c0, hk⟩ := hP2.out.toks2 (by omega)
      obtain ⟨ab', s0, s1, s2, s3⟩ := hk (i + 1) (by omega)
      rw [← hgu.out] at s0 s1 s2 s3
      clear hk
      cases hw : isW t 1 hasW
      all_goals
        go_wp2_with fail
        go_meet
        exact ⟨by rw [hw]; rfl, hP2.out, hB2.out, hbw2⟩
    case rest =>
      obtain ⟨rfl, hP2, hB2, hbw2⟩ := hcut
      clear hP1 hB1 hb1 c0 t0 t1 t2 t3 s0 s1 s2 s3 ab ab'
      replace hP2 := hide hP2
      replace hB2 := hide hB2
      have hr : Hid (rterm ((T.drop i).take (j - i)) = if (isW t 1 hasW && (u.kind == 3)) = true then some ⟨9, 1, -1, -1, 0, u.text, true⟩ else none) := by
        rw [Hid, hseg.out, rterm]
        simp
      clear hseg
      cases hw : (isW t 1 hasW && (u.kind == 3))
      · rw [hw, if_neg (by simp)] at hr
        clear hw
        go_wp2_with fail
        refine (bad_any _ b v T out well hP2.out).mono ?_
        rintro e w3 ⟨rfl, hP3, hb3⟩
        go_wp2_with fail
        go_ret
        exact .no hr.out rfl hP3 (hbw2.trans hb3)
      · rw [hw, if_pos rfl] at hr
        clear hw
        obtain ⟨ad, c, c0, hk⟩ := hP2.out.toks2 (by omega)
        obtain ⟨ab', s0, s1, s2, s3⟩ := hk (i + 1) (by omega)
        rw [← hgu.out] at s0 s1 s2 s3
        clear hk
        have q0 := hB2.out.cell 0
        have f0 := hB2.out.frozen 0
        have f1 := hB2.out.frozen 1
        have f5 := hB2.out.frozen 5
        have f6 := hB2.out.frozen 6
        have q1 := hB2.out.cell 1
        have q2 := hB2.out.cell 2
        have q3 := hB2.out.cell 3
        have q4 := hB2.out.cell 4
        have q5 := hB2.out.cell 5
        have q6 := hB2.out.cell 6
        go_upto_region 7 with (fail)
        obtain ⟨w3, hw3⟩ : ∃ x, x = ((((wc.setCell ⟨w.heap.size, 0, none⟩ (.int .i64 9)).setCell ⟨w.heap.size, 1, none⟩ (.int .i64 1)).setCell ⟨w.heap.size, 5, none⟩ (.string (str u.text))).setCell ⟨w.heap.size, 6, none⟩ (.bool true)) := ⟨_, rfl⟩
        rw [← hw3]
        have hP3 : Hid (RSt w3 b v T out well) := by
          rw [hw3]
          exact (((hP2.out.far hlt hvo _).far hlt hvo _).far hlt hvo _).far hlt hvo _
        have hB3 : Hid (Blk w3 w.heap.size 54 #[.int .i64 9, .int .i64 1, .int .i64 (-1), .int .i64 (-1), .int .i64 0, .string (str u.text), .bool true]) := by
          rw [hw3]
          exact (((hB2.out.set_ 0 _).set_ 1 _).set_ 5 _).set_ 6 _
        have hb3 : Below b w w3 := by
          rw [hw3]
          exact below_set (below_set (below_set (below_set hbw2 (by omega) _) (by omega) _) (by omega) _) (by omega) _
        clear hw3 hP2 hB2 hbw2 q0 q1 q2 q3 q4 q5 q6 f0 f1 f5 f6 c0 s0 s1 s2 s3 ab'
        have q0 := hB3.out.cell 0
        have q1 := hB3.out.cell 1
        have q2 := hB3.out.cell 2
        have q3 := hB3.out.cell 3
        have q4 := hB3.out.cell 4
        have q5 := hB3.out.cell 5
        have q6 := hB3.out.cell 6
        go_wp2_with fail
        refine (rput_any w3 b v T out well ⟨9, 1, -1, -1, 0, u.text, true⟩ hP3.out hl).mono ?_
        rintro e w4 ⟨rfl, ⟨v', hP4⟩, hb4⟩
        go_wp2_with fail
        go_ret
        exact .yes hr.out rfl hP4 (hb3.trans hb4)
  · by_cases j3 : j = i + 3
    · have hji : Hid ((j : Int) = (i : Int) + 3) := by show _ = _; omega
      rw [hji.out]
      have hseg := hide (seg3 T i j j3 hj)
      have hi1 : i < T.length := by omega
      have hi2 : i + 1 < T.length := by omega
      have hi3 : i + 2 < T.length := by omega
      replace j3 := hide j3
      obtain ⟨t, hgt⟩ : ∃ x, x = T[i] := ⟨_, rfl⟩
      obtain ⟨m, hgm⟩ : ∃ x, x = T[i + 1] := ⟨_, rfl⟩
      obtain ⟨u, hgu⟩ : ∃ x, x = T[i + 2] := ⟨_, rfl⟩
      rw [← hgt, ← hgm, ← hgu] at hseg
      replace hgt := hide hgt
      replace hgm := hide hgm
      replace hgu := hide hgu
      have hr : Hid (rterm ((T.drop i).take (j - i)) = if kindT t = 0 ∨ opOf m = 0 ∨ (u.kind ≠ 2 ∧ u.kind ≠ 3) then none else if u.kind = 3 then some ⟨kindT t, opOf m, -1, -1, 0, u.text, true⟩ else some ⟨kindT t, opOf m, -1, -1, u.n, [], false⟩) := by
        rw [Hid, hseg.out]; simp only [rterm, kindT]
        by_cases ht : t.kind = 1 <;> simp [ht]
      clear hseg
      obtain ⟨ad, c, c0, hk⟩ := hP1.out.toks2 (by omega)
      obtain ⟨ab, t0, t1, t2, t3⟩ := hk i (by omega)
      rw [← hgt.out] at t0 t1 t2 t3
      clear hk
      go_wp2_with fail
      refine (rkind_any w1 t).mono ?_
      rintro e w2 ⟨rfl, hb2⟩
      have hP2 := hide ((hP1.out.newer hb2).far (i := 0) hlt hvo (.int .i64 (kindT t)))
      have hB2 := hide ((hB1.out.below hb2 hsz1).set_ 0 (.int .i64 (kindT t)))
      have hbw2 := below_set (hb1.trans (hb2.mono (by omega))) (g := w.heap.size) (i := 0) (by omega) (.int .i64 (kindT t))
      have hsz2 := hb2.size
      have f0 := (hB1.out.below hb2 hsz1).frozen 0
      have q0 := (hB1.out.below hb2 hsz1).cell 0
      clear hP1 hB1 hb1 hb2 c0 t0 t1 t2 t3 ab
      go_upto_region 11 with (fail)
      obtain ⟨w3, hw3⟩ : ∃ x, x = w2.setCell ⟨w.heap.size, 0, none⟩ (.int .i64 (kindT t)) := ⟨_, rfl⟩
      rw [← hw3] at hP2 hB2 hbw2 ⊢
      have hsz3 : w2.heap.size = w3.heap.size := by rw [hw3]; simp
      clear hw3 f0 q0
      obtain ⟨ad, c, c0, hk⟩ := hP2.out.toks2 (by omega)
      obtain ⟨ab, t0, t1, t2, t3⟩ := hk (i + 1) (by omega)
      rw [← hgm.out] at t0 t1 t2 t3
      clear hk
      go_wp2_with fail
      refine (rop_any w3 m).mono ?_
      rintro e w4 ⟨rfl, hb4⟩
      have hB3 := hide (hB2.out.below hb4 hB2.out.lt)
      have f1 := hB3.out.frozen 1
      have q1 := hB3.out.cell 1
      have hP4 := hide ((hP2.out.newer hb4).far (i := 1) hlt hvo (.int .i64 (opOf m)))
      have hB4 := hide (hB3.out.set_ 1 (.int .i64 (opOf m)))
      have hbw4 := below_set (hbw2.trans (hb4.mono (by omega))) (g := w.heap.size) (i := 1) (by omega) (.int .i64 (opOf m))
      have hsz4 := hb4.size
      clear hP2 hB2 hB3 hbw2 hb4 c0 t0 t1 t2 t3 ab
      go_upto_region 12 with (fail)
      obtain ⟨w5, hw5⟩ : ∃ x, x = w4.setCell ⟨w.heap.size, 1, none⟩ (.int .i64 (opOf m)) := ⟨_, rfl⟩
      rw [← hw5] at hP4 hB4 hbw4 ⊢
      have hsz5 : w4.heap.size = w5.heap.size := by rw [hw5]; simp
      clear hw5 f1 q1
      obtain ⟨ad, c, c0, hk⟩ := hP4.out.toks2 (by omega)
      obtain ⟨ab, t0, t1, t2, t3⟩ := hk (i + 2) (by omega)
      rw [← hgu.out] at t0 t1 t2 t3
      clear hk
      go_upto_region 13 with (fail)
      obtain ⟨w6, hw6⟩ : ∃ x, x = w5.alloc (.cells #[.int .i64 u.kind, .string (str u.text), .int .i64 u.n, .int .i64 (u.pos : Int)] 92) := ⟨_, rfl⟩
      rw [← hw6]
      have hP6 : Hid (RSt w6 b v T out well) := by rw [hw6]; exact hP4.out.newer ((Below.refl _ _).alloc (Nat.le_refl _) _)
      have hB6 : Hid (Blk w6 w.heap.size 54 #[.int .i64 (kindT t), .int .i64 (opOf m), .int .i64 (-1), .int .i64 (-1), .int .i64 0, .string ⟨#[]⟩, .bool false]) := by rw [hw6]; exact hB4.out.alloc _
      have hC6 : Hid (Blk w6 w5.heap.size 92 #[.int .i64 u.kind, .string (str u.text), .int .i64 u.n, .int .i64 (u.pos : Int)]) := by rw [hw6]; exact Blk.new _ _ _
      have hb6 : Below b w w6 := by rw [hw6]; exact hbw4.alloc (by omega) _
      have hne : w.heap.size ≠ w5.heap.size := by omega
      clear hw6 hP4 hB4 hbw4 c0 t0 t1 t2 t3 ab
      have q0 := hB6.out.cell 0
      have q1 := hB6.out.cell 1
      have p0 := hC6.out.cell 0
      go_cut [102] (fun v wx => v = .bool ((kindT t == 0) || ((opOf m == 0) || ((u.kind != 2) && (u.kind != 3)))) ∧ w6 = wx)
      case first =>
        cases e1 : kindT t == 0 <;> cases e2 : opOf m == 0 <;> cases e3 : u.kind != 2 <;> cases e4 : u.kind != 3
        all_goals
          clear hr hP6 hB6 hC6
          go_wp2_with fail
          go_meet
          exact ⟨by (try rw [e1]); (try rw [e2]); (try rw [e3]); (try rw [e4]); first | done | rfl, rfl⟩
      case rest =>
        obtain ⟨rfl, rfl⟩ := hcut
        clear q0 q1 p0
        cases hw : ((kindT t == 0) || ((opOf m == 0) || ((u.kind != 2) && (u.kind != 3))))
        · have hn : Hid (¬ (kindT t = 0 ∨ opOf m = 0 ∨ (u.kind ≠ 2 ∧ u.kind ≠ 3))) := by
            intro h
            have : ((kindT t == 0) || ((opOf m == 0) || ((u.kind != 2) && (u.kind != 3)))) = true := by simpa using h
            rw [hw] at this
            exact absurd this (by simp)
          rw [Hid, if_neg hn.out] at hr
          replace hr := hide hr
          clear hw
          have q0 := hB6.out.cell 0
          have q1 := hB6.out.cell 1
          have q2 := hB6.out.cell 2
          have q3 := hB6.out.cell 3
          have q4 := hB6.out.cell 4
          have q5 := hB6.out.cell 5
          have q6 := hB6.out.cell 6
          have f4 := hB6.out.frozen 4
          have f5 := hB6.out.frozen 5
          have f6 := hB6.out.frozen 6
          have p0 := hC6.out.cell 0
          have p1 := hC6.out.cell 1
          have p2 := hC6.out.cell 2
          by_cases e3 : u.kind = 3
          · have n3 : (u.kind == 3) = true := by simp [e3]
            have hr2 := hr.out
            rw [if_pos e3] at hr2
            replace hr2 := hide hr2
            clear hr hn e3
            go_upto_region 19 with (fail)
            obtain ⟨w7, hw7⟩ : ∃ x, x = (w6.setCell ⟨w.heap.size, 5, none⟩ (.string (str u.text))).setCell ⟨w.heap.size, 6, none⟩ (.bool true) := ⟨_, rfl⟩
            rw [← hw7]
            have hP7 : Hid (RSt w7 b v T out well) := by rw [hw7]; exact (hP6.out.far hlt hvo _).far hlt hvo _
            have hB7 : Hid (Blk w7 w.heap.size 54 #[.int .i64 (kindT t), .int .i64 (opOf m), .int .i64 (-1), .int .i64 (-1), .int .i64 0, .string (str u.text), .bool true]) := by rw [hw7]; exact (hB6.out.set_ 5 _).set_ 6 _
            have hb7 : Below b w w7 := by rw [hw7]; exact below_set (below_set hb6 (by omega) _) (by omega) _
            clear hw7 hP6 hB6 hC6 hb6 q0 q1 q2 q3 q4 q5 q6 f4 f5 f6 p0 p1 p2
            have q0 := hB7.out.cell 0
            have q1 := hB7.out.cell 1
            have q2 := hB7.out.cell 2
            have q3 := hB7.out.cell 3
            have q4 := hB7.out.cell 4
            have q5 := hB7.out.cell 5
            have q6 := hB7.out.cell 6
            go_wp2_with fail
            refine (rput_any w7 b v T out well ⟨kindT t, opOf m, -1, -1, 0, u.text, true⟩ hP7.out hl).mono ?_
            rintro e w8 ⟨rfl, ⟨v', hP8⟩, hb8⟩
            go_wp2_with fail
            go_ret
            exact .yes hr2.out rfl hP8 (hb7.trans hb8)
          · have n3 : (u.kind == 3) = false := by simp [e3]
            have hr2 := hr.out
            rw [if_neg e3] at hr2
            replace hr2 := hide hr2
            clear hr hn e3
            go_upto_region 19 with (fail)
            obtain ⟨w7, hw7⟩ : ∃ x, x = w6.setCell ⟨w.heap.size, 4, none⟩ (.int .i64 u.n) := ⟨_, rfl⟩
            rw [← hw7]
            have hP7 : Hid (RSt w7 b v T out well) := by rw [hw7]; exact hP6.out.far hlt hvo _
            have hB7 : Hid (Blk w7 w.heap.size 54 #[.int .i64 (kindT t), .int .i64 (opOf m), .int .i64 (-1), .int .i64 (-1), .int .i64 u.n, .string ⟨#[]⟩, .bool false]) := by rw [hw7]; exact hB6.out.set_ 4 _
            have hb7 : Below b w w7 := by rw [hw7]; exact below_set hb6 (by omega) _
            clear hw7 hP6 hB6 hC6 hb6 q0 q1 q2 q3 q4 q5 q6 f4 f5 f6 p0 p1 p2
            have q0 := hB7.out.cell 0
            have q1 := hB7.out.cell 1
            have q2 := hB7.out.cell 2
            have q3 := hB7.out.cell 3
            have q4 := hB7.out.cell 4
            have q5 := hB7.out.cell 5
            have q6 := hB7.out.cell 6
            go_wp2_with fail
            refine (rput_any w7 b v T out well ⟨kindT t, opOf m, -1, -1, u.n, [], false⟩ hP7.out hl).mono ?_
            rintro e w8 ⟨rfl, ⟨v', hP8⟩, hb8⟩
            go_wp2_with fail
            go_ret
            exact .yes hr2.out rfl hP8 (hb7.trans hb8)
        · have hn : Hid (kindT t = 0 ∨ opOf m = 0 ∨ (u.kind ≠ 2 ∧ u.kind ≠ 3)) := by
            refine hide ?_
            simpa using hw
          rw [Hid, if_pos hn.out] at hr
          replace hr := hide hr
          clear hw hn
          go_wp2_with fail
          refine (bad_any _ b v T out well hP6.out).mono ?_
          rintro e w7 ⟨rfl, hP7, hb7⟩
          go_wp2_with fail
          go_ret
          exact .no hr.out rfl hP7 (hb6.trans hb7)
    · have n2 : ((j : Int) - (i : Int) == 2) = false := by simp; omega
      have n3 : ((j : Int) - (i : Int) != 3) = true := by simp; omega
      have hr := hide (rterm_none ((T.drop i).take (j - i)) (by rw [seg_len T i j hij hj]; omega) (by rw [seg_len T i j hij hj]; omega))
      replace j2 := hide j2
      replace j3 := hide j3
      go_wp2_with fail
      refine (bad_any _ b v T out well hP1.out).mono ?_
      rintro e w7 ⟨rfl, hP7, hb7⟩
      go_wp2_with fail
      go_ret
      exact .no hr.out rfl hP7 (hb1.trans hb7)
end Go.Proofs.YtnnjcedlomfhoaaGreatDoor
namespace Go.Proofs.YtnnjcedlomfhoaaGreatDoor
open Go.RowKit
set_option linter.unusedVariables false
theorem lastF_bound (word : List UInt8) : ∀ (T : List Tok) (d at_ k : Int), lastF word T d at_ k = at_ ∨ (k ≤ lastF word T d at_ k ∧ lastF word T d at_ k < k + T.length)
  | [], d, at_, k => .inl rfl
  | t :: T, d, at_, k => by
    rw [lastF_cons]
    have ih := fun d a => lastF_bound word T d a (k + 1)
    rw [List.length_cons]
    by_cases c1 : isLp t = true
    · rw [if_pos c1]
      rcases ih (d + 1) at_ with h | h
      · exact .inl h
      · exact .inr (by omega)
    · rw [if_neg c1]
      by_cases c2 : isRp t = true
      · rw [if_pos c2]
        rcases ih (d - 1) at_ with h | h
        · exact .inl h
        · exact .inr (by omega)
      · rw [if_neg c2]
        by_cases c3 : d = 0 ∧ isW t 1 word = true
        · rw [if_pos c3]
          rcases ih d k with h | h
          · exact .inr (by rw [h]; omega)
          · exact .inr (by omega)
        · rw [if_neg c3]
          rcases ih d at_ with h | h
          · exact .inl h
          · exact .inr (by omega)
/-- A place counted from i, of a place counted from 0. -/
def shiftI (i r : Int) : Int := if r < 0 then -1 else r + i
theorem lastF_shift (word : List UInt8) (i : Int) : ∀ (T : List Tok) (d at_ k : Int), 0 ≤ k → lastF word T d (shiftI i at_) (k + i) = shiftI i (lastF word T d at_ k)
  | [], d, at_, k, hk => rfl
  | t :: T, d, at_, k, hk => by
    rw [lastF_cons, lastF_cons]
    have ih := fun d a => lastF_shift word i T d a (k + 1) (by omega)
    have e : k + 1 + i = k + i + 1 := by omega
    rw [e] at ih
    by_cases c1 : isLp t = true
    · rw [if_pos c1, if_pos c1]; exact ih _ _
    · rw [if_neg c1, if_neg c1]
      by_cases c2 : isRp t = true
      · rw [if_pos c2, if_pos c2]; exact ih _ _
      · rw [if_neg c2, if_neg c2]
        by_cases c3 : d = 0 ∧ isW t 1 word = true
        · rw [if_pos c3, if_pos c3, ← ih d k]
          rw [show shiftI i k = k + i from by unfold shiftI; rw [if_neg (by omega)]]
        · rw [if_neg c3, if_neg c3]; exact ih _ _
theorem last_shift (word : List UInt8) (T : List Tok) (i : Int) : lastF word T 0 (-1) i = shiftI i (lastW word T 0) := by
  have h := lastF_shift word i T 0 (-1) 0 (by omega)
  have e : shiftI i (-1) = -1 := by unfold shiftI; rw [if_pos (by omega)]
  rw [e, Int.zero_add] at h
  rw [h]; rfl
theorem lastW_bound (word : List UInt8) (T : List Tok) : lastW word T 0 = -1 ∨ (0 ≤ lastW word T 0 ∧ lastW word T 0 < T.length) := by
  rcases lastF_bound word T 0 (-1) 0 with h | h
  · exact .inl h
  · exact .inr (by unfold lastW; omega)
/-- Its parts are no more than its tokens. -/
theorem partP_size : ∀ (f : Nat) (T : List Tok) (q : Q), partP f T = some q → q.size ≤ T.length
  | 0, T, q, h => by simp [partP] at h
  | f + 1, T, q, h => by
    have ih := partP_size f
    rw [partP] at h
    by_cases hT : T = []
    · rw [if_pos hT] at h; simp at h
    · rw [if_neg hT] at h
      have hpos : 0 < T.length := List.length_pos_iff.2 hT
      have hb1 := lastW_bound orW T
      have hb2 := lastW_bound andW T
      dsimp only at h
      split at h
      · rename_i c
        split at h
        · simp at h
        · rename_i x hx
          obtain ⟨y, hy, rfl⟩ := Option.map_eq_some_iff.1 h
          have h1 := ih _ _ hx
          have h2 := ih _ _ hy
          rw [List.length_take] at h1
          rw [List.length_drop] at h2
          simp only [Q.size]
          omega
      · split at h
        · split at h
          · simp at h
          · rename_i x hx
            obtain ⟨y, hy, rfl⟩ := Option.map_eq_some_iff.1 h
            have h1 := ih _ _ hx
            have h2 := ih _ _ hy
            rw [List.length_take] at h1
            rw [List.length_drop] at h2
            simp only [Q.size]
            omega
        · split at h
          · obtain ⟨y, hy, rfl⟩ := Option.map_eq_some_iff.1 h
            have h1 := ih _ _ hy
            rw [List.length_tail] at h1
            simp only [Q.size]
            omega
          · split at h
            · have h1 := ih _ _ h
              rw [List.length_dropLast, List.length_tail] at h1
              omega
            · obtain ⟨y, hy, rfl⟩ := Option.map_eq_some_iff.1 h
              simp only [Q.size]
              omega
end Go.Proofs.YtnnjcedlomfhoaaGreatDoor
namespace Go.Proofs.YtnnjcedlomfhoaaGreatDoor
open Go.RowKit
set_option linter.unusedVariables false
/-- The tokens between two places. -/
def segT (T : List Tok) (i j : Nat) : List Tok := (T.drop i).take (j - i)
theorem segT_len {T : List Tok} {i j : Nat} (hij : i ≤ j) (hj : j ≤ T.length) : (segT T i j).length = j - i := seg_len T i j hij hj
theorem segT_take {T : List Tok} {i m j : Nat} (him : i ≤ m) (hmj : m ≤ j) : (segT T i j).take (m - i) = segT T i m := by
  unfold segT; rw [List.take_take, Nat.min_eq_left (by omega)]
theorem segT_drop {T : List Tok} {i m j : Nat} (him : i ≤ m) (hmj : m < j) : (segT T i j).drop (m - i + 1) = segT T (m + 1) j := by
  unfold segT
  rw [List.drop_take, List.drop_drop, show j - i - (m - i + 1) = j - (m + 1) from by omega, show i + (m - i + 1) = m + 1 from by omega]
theorem segT_nil {T : List Tok} {i : Nat} : segT T i i = [] := by unfold segT; rw [Nat.sub_self, List.take_zero]
theorem segT_cons {T : List Tok} {i j : Nat} (h : i < j) (hj : j ≤ T.length) : segT T i j = T[i]'(by omega) :: segT T (i + 1) j := seg_cons T i j h hj
theorem segT_last {T : List Tok} {i j : Nat} (h : i < j) (hj : j ≤ T.length) : segT T i j = segT T i (j - 1) ++ [T[j - 1]'(by omega)] := by
  have e := List.take_append_drop (j - 1 - i) (segT T i j)
  rw [segT_take (by omega) (by omega)] at e
  rw [← e]
  congr 1
  unfold segT
  rw [List.drop_take, List.drop_drop, show j - i - (j - 1 - i) = 1 from by omega, show i + (j - 1 - i) = j - 1 from by omega, List.drop_eq_getElem_cons (by omega)]
  rfl
/-- What part hands back. -/
def RNRet (w : World) (b : Nat) (T : List Tok) (out : List Ask) (m : Nat) (o : Option Q) (e : Ending) (w' : World) : Prop :=
  match o with
  | some q => e = .returned (.int .i64 ((out.length : Int) + (q.size : Int) - 1)) ∧ (∃ v', RSt w' b v' T (out ++ q.parts out.length) true) ∧ Below b w w'
  | none => ∃ r v' out', e = .returned (.int .i64 r) ∧ RSt w' b v' T out' false ∧ out'.length ≤ out.length + m ∧ Below b w w'
theorem RNRet.yes {w w' : World} {b m : Nat} {v' : Value} {T : List Tok} {out : List Ask} {o : Option Q} {q : Q} {r : Int} (hr : o = some q) (he : r = (out.length : Int) + (q.size : Int) - 1)
    (hP : RSt w' b v' T (out ++ q.parts out.length) true) (hb : Below b w w') : RNRet w b T out m o (.returned (.int .i64 r)) w' := by
  subst hr he; exact ⟨rfl, ⟨v', hP⟩, hb⟩
theorem RNRet.no {w w' : World} {b m : Nat} {v' : Value} {T : List Tok} {out out' : List Ask} {o : Option Q} {r : Int} (hr : o = none)
    (hP : RSt w' b v' T out' false) (h2 : out'.length ≤ out.length + m) (hb : Below b w w') : RNRet w b T out m o (.returned (.int .i64 r)) w' := by
  subst hr; exact ⟨r, v', out', rfl, hP, h2, hb⟩
set_option maxRecDepth 100000 in
set_option maxHeartbeats 2000000 in
theorem part_bad (w : World) (b : Nat) (v : Value) (T : List Tok) (out : List Ask) (h : RSt w b v T out false) (I J : Int) :
    Calls Tryz.prog 29 #[.pointer (some ⟨b, 0, none⟩), .int .i64 I, .int .i64 J] w fun e w' => e = .returned (.int .i64 (-1)) ∧ RSt w' b v T out false ∧ Below b w w' := by
  obtain ⟨qw, fw⟩ := h.well_
  replace h := hide h
  go_enter Tryz.func29, Tryz.ntmps29
  go_wp2_with fail
  refine (bad_any _ b v T out false h.out).mono ?_
  rintro e w2 ⟨rfl, hP2, hb2⟩
  go_wp2_with fail
  go_ret
  exact ⟨rfl, hP2, hb2⟩
theorem part_two (n : Nat) {T : List Tok} {i m j : Nat} (him : i ≤ m) (hmj : m < j) (hj : j ≤ T.length) (h : lastW orW (segT T i j) 0 = (m : Int) - i) :
    partP (n + 1) (segT T i j) = match partP n (segT T i m) with | none => none | some x => (partP n (segT T (m + 1) j)).map fun y => .two 1 x y := by
  have hne : segT T i j ≠ [] := by rw [segT_cons (by omega) hj]; simp
  rw [partP, if_neg hne]
  dsimp only
  rw [if_pos (by omega), h, show ((m : Int) - i).toNat = m - i from by omega, segT_take him (by omega), segT_drop him hmj]
  cases partP n (segT T i m) <;> rfl
theorem part_and (n : Nat) {T : List Tok} {i m j : Nat} (him : i ≤ m) (hmj : m < j) (hj : j ≤ T.length) (h0 : lastW orW (segT T i j) 0 = -1) (h : lastW andW (segT T i j) 0 = (m : Int) - i) :
    partP (n + 1) (segT T i j) = match partP n (segT T i m) with | none => none | some x => (partP n (segT T (m + 1) j)).map fun y => .two 2 x y := by
  have hne : segT T i j ≠ [] := by rw [segT_cons (by omega) hj]; simp
  rw [partP, if_neg hne]
  dsimp only
  rw [if_neg (by omega), if_pos (by omega), h, show ((m : Int) - i).toNat = m - i from by omega, segT_take him (by omega), segT_drop him hmj]
  cases partP n (segT T i m) <;> rfl
theorem part_rest (n : Nat) {T : List Tok} {i j : Nat} (hij : i < j) (hj : j ≤ T.length) (h0 : lastW orW (segT T i j) 0 = -1) (h : lastW andW (segT T i j) 0 = -1) :
    partP (n + 1) (segT T i j) = if isW (T[i]'(by omega)) 1 notW = true then (partP n (segT T (i + 1) j)).map Q.neg
      else if isLp (T[i]'(by omega)) = true ∧ isRp (T[j - 1]'(by omega)) = true then partP n (segT T (i + 1) (j - 1)) else (rterm (segT T i j)).map Q.term := by
  have hne : segT T i j ≠ [] := by rw [segT_cons (by omega) hj]; simp
  have hl : (segT T i j).getLast? = some (T[j - 1]'(by omega)) := by rw [segT_last hij hj, List.getLast?_concat]
  rw [partP, if_neg hne]
  dsimp only
  rw [if_neg (by omega), if_neg (by omega), hl]
  have ha : ∀ k s, atW (segT T i j) k s = isW (T[i]'(by omega)) k s := fun k s => by rw [segT_cons hij hj]; rfl
  have ht : (segT T i j).tail = segT T (i + 1) j := by rw [segT_cons hij hj, List.tail_cons]
  rw [ha, ha, ht, show isW (T[i]'(by omega)) 4 lpW = isLp (T[i]'(by omega)) from rfl]
  simp only [Option.map_some, Option.some.injEq]
  by_cases c : isLp (T[i]'(by omega)) = true ∧ isRp (T[j - 1]'(by omega)) = true
  · rw [if_pos c, if_pos c]
    have hlt : i + 1 < j := by
      rcases Nat.lt_or_ge (i + 1) j with h | h
      · exact h
      · exfalso
        have e : j - 1 = i := by omega
        obtain ⟨c1, c2⟩ := c
        simp only [e] at c2
        have h1 := of_isW c1
        have h2 := of_isW c2
        rw [h1.2] at h2
        exact absurd h2.2 (by decide)
    rw [segT_last hlt hj, List.dropLast_concat]
  · rw [if_neg c, if_neg c]
set_option maxRecDepth 100000 in
set_option maxHeartbeats 4000000 in
theorem part_any (n : Nat) : ∀ (w : World) (b : Nat) (v : Value) (T : List Tok) (out : List Ask) (i j : Nat) (I J : Int), RSt w b v T out true → I = (i : Int) → J = (j : Int) → i ≤ j → j ≤ T.length → T.length ≤ 100000 → out.length + (j - i) ≤ 100000 → j - i < n →
    Calls Tryz.prog 29 #[.pointer (some ⟨b, 0, none⟩), .int .i64 I, .int .i64 J] w (RNRet w b T out (j - i) (partP n (segT T i j))) := by
  induction n with
  | zero => intro w b v T out i j I J h hI hJ hij hj hT hl hn; exact absurd hn (Nat.not_lt_zero _)
  | succ n ih =>
    intro w b v T out i j I J h hI hJ hij hj hT hl hn
    replace ih := hide ih
    subst hI; subst hJ
    have hlt := h.lt
    obtain ⟨qw, fw⟩ := h.well_
    replace h := hide h
    by_cases h1 : i < j
    · go_enter Tryz.func29, Tryz.ntmps29
      go_wp2_with fail
      refine (last_any w b v T out true h.out i j hij hj hT ⟨#[111, 114]⟩).mono ?_
      rintro e w1 ⟨rfl, hb1⟩
      rw [show (ByteArray.mk #[111, 114]).data.toList = orW from rfl, show (T.drop i).take (j - i) = segT T i j from rfl, last_shift]
      have hP1 := hide (h.out.newer hb1)
      have hB1 := hb1.mono (Nat.le_of_lt hlt)
      clear h hb1 qw fw
      have bo := lastW_bound orW (segT T i j)
      rw [segT_len hij hj] at bo
      obtain ⟨O, hO⟩ : ∃ x, x = shiftI i (lastW orW (segT T i j) 0) := ⟨_, rfl⟩
      rw [← hO]
      replace hO := hide hO
      replace bo := hide bo
      go_wp2_with fail
      refine (last_any w1 b v T out true hP1.out i j hij hj hT ⟨#[97, 110, 100]⟩).mono ?_
      rintro e w2 ⟨rfl, hb2⟩
      rw [show (ByteArray.mk #[97, 110, 100]).data.toList = andW from rfl, show (T.drop i).take (j - i) = segT T i j from rfl, last_shift]
      have hP2 := hide (hP1.out.newer hb2)
      have hB2 := hB1.trans (hb2.mono (Nat.le_of_lt hP1.out.lt))
      clear hP1 hb2 hB1
      have ba := lastW_bound andW (segT T i j)
      rw [segT_len hij hj] at ba
      obtain ⟨N, hN⟩ : ∃ x, x = shiftI i (lastW andW (segT T i j) 0) := ⟨_, rfl⟩
      rw [← hN]
      replace hN := hide hN
      replace ba := hide ba
      by_cases co : lastW orW (segT T i j) 0 = -1
      · by_cases ca : lastW andW (segT T i j) 0 = -1
        · have eO : O = -1 := by rw [hO.out, co]; rfl
          have eN : N = -1 := by rw [hN.out, ca]; rfl
          have hstep := hide (part_rest n h1 hj co ca)
          subst eO eN
          clear hO hN bo ba co ca
          have hi : i < T.length := by omega
          have hj1 : j - 1 < T.length := by omega
          obtain ⟨t, hgt⟩ : ∃ x, x = T[i] := ⟨_, rfl⟩
          obtain ⟨l, hgl⟩ : ∃ x, x = T[j - 1] := ⟨_, rfl⟩
          have hs1 := hstep.out
          rw [← hgt, ← hgl] at hs1
          replace hs1 := hide hs1
          clear hstep
          replace hgt := hide hgt
          replace hgl := hide hgl
          obtain ⟨ad, c, c0, hk⟩ := hP2.out.toks2 (by omega)
          obtain ⟨ab, t0, t1, t2, t3⟩ := hk i (by omega)
          rw [← hgt.out] at t0 t1 t2 t3
          clear hk
          go_wp2_with fail
          refine (ris_any w2 t 1 ⟨#[110, 111, 116]⟩).mono ?_
          rintro e w3 ⟨rfl, hb3⟩
          rw [show (ByteArray.mk #[110, 111, 116]).data.toList = notW from rfl]
          have hP3 := hide (hP2.out.newer hb3)
          have hB3 := hB2.trans (hb3.mono (Nat.le_of_lt hP2.out.lt))
          clear hP2 hb3 hB2 c0 t0 t1 t2 t3 ab
          by_cases cn : isW t 1 notW = true
          · have hs2 := hs1.out
            rw [if_pos cn] at hs2
            rw [cn]
            replace hs2 := hide hs2
            clear hs1 cn
            go_wp2_with fail
            refine (ih.out w3 b v T out (i + 1) j _ _ hP3.out (by omega) rfl (by omega) hj hT (by omega) (by omega)).mono ?_
            intro e w4 h4
            unfold RNRet at h4
            cases hx : partP n (segT T (i + 1) j) with
            | none =>
              rw [hx] at h4
              obtain ⟨r, v4, out4, rfl, hP4, hl4, hb4⟩ := h4
              have hnone : Hid (partP (n + 1) (segT T i j) = none) := by rw [Hid, hs2.out, hx]; rfl
              have hB4 := hB3.trans hb4
              obtain ⟨qw, fw⟩ := hP4.well_
              replace hP4 := hide hP4
              clear hs2 hx hP3 hB3 hb4
              go_wp2_with fail
              go_ret
              exact .no hnone.out hP4.out (by omega) hB4
            | some x =>
              rw [hx] at h4
              obtain ⟨rfl, ⟨v4, hP4⟩, hb4⟩ := h4
              have hxs := partP_size n _ x hx
              rw [segT_len (by omega) hj] at hxs
              have hlen : Hid ((out ++ x.parts out.length).length = out.length + x.size) := by rw [Hid, List.length_append, Q.parts_len]
              have hyes : Hid (partP (n + 1) (segT T i j) = some (.neg x)) := by rw [Hid, hs2.out, hx]; rfl
              have hparts : Hid (out ++ x.parts out.length ++ [⟨3, 0, (out.length : Int) + (x.size : Int) - 1, -1, 0, [], false⟩] = out ++ (Q.neg x).parts out.length) := by
                rw [Hid, Q.parts, List.append_assoc]
              have hB4 := hB3.trans hb4
              obtain ⟨qw, fw⟩ := hP4.well_
              have hxp := x.size_pos
              replace hP4 := hide hP4
              clear hs2 hx hP3 hB3 hb4
              go_wp2_with fail
              refine (rput_any _ b v4 T _ true ⟨3, 0, (out.length : Int) + (x.size : Int) - 1, -1, 0, [], false⟩ hP4.out (by rw [hlen.out]; omega)).mono ?_
              rintro e w5 ⟨rfl, ⟨v5, hP5⟩, hb5⟩
              have hB5 := hB4.trans hb5
              rw [hparts.out] at hP5
              rw [hlen.out]
              replace hP5 := hide hP5
              clear hb5 hB4 hP4 hlen hparts
              go_wp2_with fail
              go_ret
              exact .yes hyes.out (by simp [Q.size]; omega) hP5.out hB5
          · have hs2 := hs1.out
            rw [if_neg cn] at hs2
            rw [Bool.not_eq_true] at cn
            rw [cn]
            replace hs2 := hide hs2
            clear hs1 cn
            obtain ⟨ad, c, c0, hk⟩ := hP3.out.toks2 (by omega)
            obtain ⟨ab, t0, t1, t2, t3⟩ := hk i (by omega)
            rw [← hgt.out] at t0 t1 t2 t3
            clear hk
            go_upto_region 21 with (fail)
            go_cut [104] (fun v104 wx => v104 = .bool (isLp t && isRp l) ∧ RSt wx b v T out true ∧ Below b w wx)
            case first =>
              go_wp2_with fail
              refine (ris_any w3 t 4 ⟨#[40]⟩).mono ?_
              rintro e w4 ⟨rfl, hb4⟩
              rw [show isW t 4 (ByteArray.mk #[40]).data.toList = isLp t from rfl]
              have hP4 := hide (hP3.out.newer hb4)
              have hB4 := hB3.trans (hb4.mono (Nat.le_of_lt hP3.out.lt))
              clear hP3 hb4 hB3 c0 t0 t1 t2 t3 ab
              cases cl : isLp t
              · go_wp2_with fail
                go_meet
                exact ⟨by rw [cl]; rfl, hP4.out, hB4⟩
              · obtain ⟨ad, c, c0, hk⟩ := hP4.out.toks2 (by omega)
                obtain ⟨ab, t0, t1, t2, t3⟩ := hk (j - 1) hj1
                rw [← hgl.out] at t0 t1 t2 t3
                clear hk
                have hjj : ((j : Int) - 1).toNat = j - 1 := by omega
                have hj0 : (0 : Int) ≤ (j : Int) - 1 := by omega
                have hj2 : (j : Int) - 1 < (T.length : Int) := by omega
                go_wp2_with fail
                refine (ris_any w4 l 4 ⟨#[41]⟩).mono ?_
                rintro e w5 ⟨rfl, hb5⟩
                rw [show isW l 4 (ByteArray.mk #[41]).data.toList = isRp l from rfl]
                have hP5 := hide (hP4.out.newer hb5)
                have hB5 := hB4.trans (hb5.mono (Nat.le_of_lt hP4.out.lt))
                clear hP4 hb5 hB4 c0 t0 t1 t2 t3 ab
                go_wp2_with fail
                go_meet
                exact ⟨by rw [cl]; rfl, hP5.out, hB5⟩
            case rest =>
              obtain ⟨rfl, hP4, hB4⟩ := hcut
              clear hP3 hB3 c0 t0 t1 t2 t3 ab
              replace hP4 := hide hP4
              cases cc : (isLp t && isRp l)
              · have hs3 := hs2.out
                rw [if_neg (by intro h; rw [h.1, h.2] at cc; exact absurd cc (by decide))] at hs3
                replace hs3 := hide hs3
                clear hs2 cc
                go_wp2_with fail
                refine (rterm_any _ b v T out true hP4.out i j hij hj hT (by omega)).mono ?_
                intro e w5 h5
                rw [show (T.drop i).take (j - i) = segT T i j from rfl] at h5
                obtain ⟨hb5, h5⟩ := h5
                have hB5 := hB4.trans hb5
                cases hx : rterm (segT T i j) with
                | none =>
                  rw [hx] at h5
                  obtain ⟨rfl, v5, hP5⟩ := h5
                  have hnone : Hid (partP (n + 1) (segT T i j) = none) := by rw [Hid, hs3.out, hx]; rfl
                  clear hs3 hx hP4 hB4 hb5
                  go_wp2_with fail
                  go_ret
                  exact .no hnone.out hP5 (by omega) hB5
                | some x =>
                  rw [hx] at h5
                  obtain ⟨rfl, v5, hP5⟩ := h5
                  have hyes : Hid (partP (n + 1) (segT T i j) = some (.term x)) := by rw [Hid, hs3.out, hx]; rfl
                  clear hs3 hx hP4 hB4 hb5
                  go_wp2_with fail
                  go_ret
                  exact .yes hyes.out (by simp [Q.size]) hP5 hB5
              · have cc2 : isLp t = true ∧ isRp l = true := by simpa using cc
                have hs3 := hs2.out
                rw [if_pos cc2] at hs3
                have hij2 : i + 1 ≤ j - 1 := by
                  rcases Nat.lt_or_ge (i + 1) j with h | h
                  · omega
                  · exfalso
                    have e1 : l = t := by
                      rw [hgl.out, hgt.out]
                      congr 1
                      omega
                    obtain ⟨c1, c2⟩ := cc2
                    rw [e1] at c2
                    have h1 := of_isW c1
                    have h2 := of_isW c2
                    rw [h1.2] at h2
                    exact absurd h2.2 (by decide)
                replace hs3 := hide hs3
                clear hs2 cc cc2
                go_wp2_with fail
                refine (ih.out _ b v T out (i + 1) (j - 1) _ _ hP4.out (by omega) (by omega) hij2 (by omega) hT (by omega) (by omega)).mono ?_
                intro e w5 h5
                unfold RNRet at h5
                rw [← hs3.out] at h5
                cases hx : partP (n + 1) (segT T i j) with
                | none =>
                  rw [hx] at h5
                  obtain ⟨r, v5, out5, rfl, hP5, hl5, hb5⟩ := h5
                  have hB5 := hB4.trans hb5
                  replace hx := hide hx
                  clear hs3 hP4 hB4 hb5
                  go_wp2_with fail
                  go_ret
                  exact .no hx.out hP5 (by omega) hB5
                | some x =>
                  rw [hx] at h5
                  obtain ⟨rfl, ⟨v5, hP5⟩, hb5⟩ := h5
                  have hB5 := hB4.trans hb5
                  replace hx := hide hx
                  clear hs3 hP4 hB4 hb5
                  go_wp2_with fail
                  go_ret
                  exact .yes hx.out rfl hP5 hB5
        · have hb := ba.out.resolve_left ca
          obtain ⟨m, hm⟩ : ∃ m : Nat, (m : Int) = lastW andW (segT T i j) 0 + i := ⟨(lastW andW (segT T i j) 0 + i).toNat, by omega⟩
          have him : i ≤ m := by omega
          have hmj : m < j := by omega
          have eN : N = (m : Int) := by rw [hN.out, shiftI, if_neg (by omega)]; omega
          have eO : O = -1 := by rw [hO.out, co]; rfl
          have hstep := hide (part_and n him hmj hj co (by omega))
          subst eN
          clear hO bo ba co ca hb hm
          subst eO
          clear hN
          go_wp2_with fail
          refine (ih.out w2 b v T out i m _ _ hP2.out rfl rfl him (by omega) hT (by omega) (by omega)).mono ?_
          intro e w3 h3
          unfold RNRet at h3
          cases hx : partP n (segT T i m) with
          | none =>
            rw [hx] at h3
            obtain ⟨r, v3, out3, rfl, hP3, hl3, hb3⟩ := h3
            have hnone : Hid (partP (n + 1) (segT T i j) = none) := by rw [Hid, hstep.out, hx]
            have hB3 := hB2.trans hb3
            replace hP3 := hide hP3
            clear hstep hx hP2 hB2 hb3
            go_wp2_with fail
            refine (part_bad w3 b v3 T out3 hP3.out _ _).mono ?_
            rintro e w4 ⟨rfl, hP4, hb4⟩
            have hB4 := hB3.trans hb4
            obtain ⟨qw, fw⟩ := hP4.well_
            replace hP4 := hide hP4
            clear hP3 hB3 hb4
            go_wp2_with fail
            go_ret
            exact .no hnone.out hP4.out (by omega) hB4
          | some x =>
            rw [hx] at h3
            obtain ⟨rfl, ⟨v3, hP3⟩, hb3⟩ := h3
            have hxs := partP_size n _ x hx
            rw [segT_len him (by omega)] at hxs
            have hlen : Hid ((out ++ x.parts out.length).length = out.length + x.size) := by rw [Hid, List.length_append, Q.parts_len]
            have hB3 := hB2.trans hb3
            replace hP3 := hide hP3
            clear hP2 hB2 hb3
            go_wp2_with fail
            refine (ih.out w3 b v3 T _ (m + 1) j _ _ hP3.out (by omega) rfl (by omega) hj hT (by rw [hlen.out]; omega) (by omega)).mono ?_
            intro e w4 h4
            unfold RNRet at h4
            cases hy : partP n (segT T (m + 1) j) with
            | none =>
              rw [hy] at h4
              obtain ⟨r, v4, out4, rfl, hP4, hl4, hb4⟩ := h4
              rw [hlen.out] at hl4
              have hnone : Hid (partP (n + 1) (segT T i j) = none) := by rw [Hid, hstep.out, hx, hy]; rfl
              have hB4 := hB3.trans hb4
              obtain ⟨qw, fw⟩ := hP4.well_
              replace hP4 := hide hP4
              clear hstep hx hy hP3 hB3 hb4
              go_wp2_with fail
              go_ret
              exact .no hnone.out hP4.out (by omega) hB4
            | some y =>
              rw [hy] at h4
              rw [hlen.out] at h4
              obtain ⟨rfl, ⟨v4, hP4⟩, hb4⟩ := h4
              have hys := partP_size n _ y hy
              rw [segT_len (by omega) hj] at hys
              have hyes : Hid (partP (n + 1) (segT T i j) = some (.two 2 x y)) := by rw [Hid, hstep.out, hx, hy]; rfl
              have hB4 := hB3.trans hb4
              have hlen2 : Hid ((out ++ x.parts out.length ++ y.parts (out.length + x.size)).length = out.length + x.size + y.size) := by rw [Hid, List.length_append, hlen.out, Q.parts_len]
              have hparts : Hid (out ++ x.parts out.length ++ y.parts (out.length + x.size) ++ [⟨2, 0, (out.length : Int) + (x.size : Int) - 1, (out.length : Int) + (x.size : Int) + (y.size : Int) - 1, 0, [], false⟩] = out ++ (Q.two 2 x y).parts out.length) := by
                rw [Hid, Q.parts, List.append_assoc, List.append_assoc]
              obtain ⟨qw, fw⟩ := hP4.well_
              replace hP4 := hide hP4
              have hxp := x.size_pos
              have hyp := y.size_pos
              clear hstep hx hy hP3 hB3 hb4
              go_wp2_with fail
              refine (rput_any _ b v4 T _ true ⟨2, 0, (out.length : Int) + (x.size : Int) - 1, (out.length : Int) + (x.size : Int) + (y.size : Int) - 1, 0, [], false⟩ hP4.out (by rw [hlen2.out]; omega)).mono ?_
              rintro e w5 ⟨rfl, ⟨v5, hP5⟩, hb5⟩
              have hB5 := hB4.trans hb5
              rw [hparts.out] at hP5
              rw [hlen2.out]
              replace hP5 := hide hP5
              clear hb5 hB4 hP4 hlen hlen2 hparts
              go_wp2_with fail
              go_ret
              exact .yes hyes.out (by simp [Q.size]; omega) hP5.out hB5
      · have hb := bo.out.resolve_left co
        obtain ⟨m, hm⟩ : ∃ m : Nat, (m : Int) = lastW orW (segT T i j) 0 + i := ⟨(lastW orW (segT T i j) 0 + i).toNat, by omega⟩
        have him : i ≤ m := by omega
        have hmj : m < j := by omega
        have eO : O = (m : Int) := by rw [hO.out, shiftI, if_neg (by omega)]; omega
        have hstep := hide (part_two n him hmj hj (by omega))
        clear hO bo ba co hb hm
        subst eO
        clear hN
        go_wp2_with fail
        refine (ih.out w2 b v T out i m _ _ hP2.out rfl rfl him (by omega) hT (by omega) (by omega)).mono ?_
        intro e w3 h3
        unfold RNRet at h3
        cases hx : partP n (segT T i m) with
        | none =>
          rw [hx] at h3
          obtain ⟨r, v3, out3, rfl, hP3, hl3, hb3⟩ := h3
          have hnone : Hid (partP (n + 1) (segT T i j) = none) := by rw [Hid, hstep.out, hx]
          have hB3 := hB2.trans hb3
          replace hP3 := hide hP3
          clear hstep hx hP2 hB2 hb3
          go_wp2_with fail
          refine (part_bad w3 b v3 T out3 hP3.out _ _).mono ?_
          rintro e w4 ⟨rfl, hP4, hb4⟩
          have hB4 := hB3.trans hb4
          obtain ⟨qw, fw⟩ := hP4.well_
          replace hP4 := hide hP4
          clear hP3 hB3 hb4
          go_wp2_with fail
          go_ret
          exact .no hnone.out hP4.out (by omega) hB4
        | some x =>
          rw [hx] at h3
          obtain ⟨rfl, ⟨v3, hP3⟩, hb3⟩ := h3
          have hxs := partP_size n _ x hx
          rw [segT_len him (by omega)] at hxs
          have hlen : Hid ((out ++ x.parts out.length).length = out.length + x.size) := by rw [Hid, List.length_append, Q.parts_len]
          have hB3 := hB2.trans hb3
          replace hP3 := hide hP3
          clear hP2 hB2 hb3
          go_wp2_with fail
          refine (ih.out w3 b v3 T _ (m + 1) j _ _ hP3.out (by omega) rfl (by omega) hj hT (by rw [hlen.out]; omega) (by omega)).mono ?_
          intro e w4 h4
          unfold RNRet at h4
          cases hy : partP n (segT T (m + 1) j) with
          | none =>
            rw [hy] at h4
            obtain ⟨r, v4, out4, rfl, hP4, hl4, hb4⟩ := h4
            rw [hlen.out] at hl4
            have hnone : Hid (partP (n + 1) (segT T i j) = none) := by rw [Hid, hstep.out, hx, hy]; rfl
            have hB4 := hB3.trans hb4
            obtain ⟨qw, fw⟩ := hP4.well_
            replace hP4 := hide hP4
            clear hstep hx hy hP3 hB3 hb4
            go_wp2_with fail
            go_ret
            exact .no hnone.out hP4.out (by omega) hB4
          | some y =>
            rw [hy] at h4
            rw [hlen.out] at h4
            obtain ⟨rfl, ⟨v4, hP4⟩, hb4⟩ := h4
            have hys := partP_size n _ y hy
            rw [segT_len (by omega) hj] at hys
            have hyes : Hid (partP (n + 1) (segT T i j) = some (.two 1 x y)) := by rw [Hid, hstep.out, hx, hy]; rfl
            have hB4 := hB3.trans hb4
            have hlen2 : Hid ((out ++ x.parts out.length ++ y.parts (out.length + x.size)).length = out.length + x.size + y.size) := by rw [Hid, List.length_append, hlen.out, Q.parts_len]
            have hparts : Hid (out ++ x.parts out.length ++ y.parts (out.length + x.size) ++ [⟨1, 0, (out.length : Int) + (x.size : Int) - 1, (out.length : Int) + (x.size : Int) + (y.size : Int) - 1, 0, [], false⟩] = out ++ (Q.two 1 x y).parts out.length) := by
              rw [Hid, Q.parts, List.append_assoc, List.append_assoc]
            obtain ⟨qw, fw⟩ := hP4.well_
            replace hP4 := hide hP4
            have hxp := x.size_pos
            have hyp := y.size_pos
            clear hstep hx hy hP3 hB3 hb4
            go_wp2_with fail
            refine (rput_any _ b v4 T _ true ⟨1, 0, (out.length : Int) + (x.size : Int) - 1, (out.length : Int) + (x.size : Int) + (y.size : Int) - 1, 0, [], false⟩ hP4.out (by rw [hlen2.out]; omega)).mono ?_
            rintro e w5 ⟨rfl, ⟨v5, hP5⟩, hb5⟩
            have hB5 := hB4.trans hb5
            rw [hparts.out] at hP5
            rw [hlen2.out]
            replace hP5 := hide hP5
            clear hb5 hB4 hP4 hlen hlen2 hparts
            go_wp2_with fail
            go_ret
            exact .yes hyes.out (by simp [Q.size]; omega) hP5.out hB5
    · have e : i = j := by omega
      subst e
      have hnone : Hid (partP (n + 1) (segT T i i) = none) := by rw [Hid, segT_nil, partP, if_pos rfl]
      go_enter Tryz.func29, Tryz.ntmps29
      go_wp2_with fail
      refine (bad_any _ b v T out true h.out).mono ?_
      rintro e w2 ⟨rfl, hP2, hb2⟩
      go_wp2_with fail
      go_ret
      exact .no hnone.out hP2 (by omega) hb2
end Go.Proofs.YtnnjcedlomfhoaaGreatDoor
namespace Go.Proofs.YtnnjcedlomfhoaaGreatDoor
open Go.RowKit
set_option linter.unusedVariables false
/-- What the reference's Parse answers. -/
def RPRet (W : World) (l : List Ask) (e : Int) (en : Ending) (w' : World) : Prop :=
  ∃ v, en = .returned (.agg #[v, .int .i64 e]) ∧ OA w' W.heap.size v l.length l ∧ Below W.heap.size W w'
theorem RPRet.mk {W w' : World} {l l' : List Ask} {e e' : Int} {v : Value} {n : Nat} (h : OA w' W.heap.size v n l') (hl : l = l') (he : e = e') (hb : Below W.heap.size W w') :
    RPRet W l e (.returned (.agg #[v, .int .i64 e'])) w' := by
  subst hl he
  exact ⟨v, rfl, by rw [h.len]; exact h, hb⟩
set_option maxRecDepth 100000 in
set_option maxHeartbeats 2000000 in
theorem rparse_any (s : ByteArray) (w : World) (hs : s.size ≤ 1000000) :
    Calls Tryz.prog 15 #[.string s] w (RPRet w (parsedL s.data.toList) (parsedE s.data.toList)) := by
  have hlx := hide (lexT_len s.data.toList)
  go_enter Tryz.func15, Tryz.ntmps15
  go_wp2_with fail
  have hR0 := Blk.new w 46 #[.slice none 0 0, .int .i64 0]
  have hb0 : Below w.heap.size w (w.alloc (.cells #[.slice none 0 0, .int .i64 0] 46)) := (Below.refl _ _).alloc (Nat.le_refl _) _
  have hs0 : w.heap.size < (w.alloc (.cells #[.slice none 0 0, .int .i64 0] 46)).heap.size := by simp
  generalize w.alloc (.cells #[.slice none 0 0, .int .i64 0] 46) = w0 at *
  refine (rtokens_any s w0 hs).mono ?_
  rintro e w1 ⟨v, rfl, ho, hb1⟩
  have hR1 := hide (hR0.below hb1 hs0)
  have hbw1 := hb0.trans (hb1.mono (Nat.le_of_lt hs0))
  have hs1 := hb1.size
  have hlt1 : w.heap.size < w1.heap.size := by omega
  obtain ⟨tA, tc, rfl, hRT, -, htc1, htc2⟩ := ho.form
  clear ho
  have q0 := hR1.out.cell 0
  have q1 := hR1.out.cell 1
  have f0 := hR1.out.frozen 0
  have f1 := hR1.out.frozen 1
  by_cases hE : lexE s.data.toList = 0
  · have hl : Hid (parsedL s.data.toList = parseL (lexL s.data.toList)) := by rw [Hid, parsedL, if_pos hE]
    have he : Hid (parsedE s.data.toList = parseE (lexL s.data.toList)) := by rw [Hid, parsedE, if_pos hE]
    have hok := hide (lexL_ok s.data.toList)
    rw [hE]
    obtain ⟨hT1, -⟩ := hlx.out
    generalize lexL s.data.toList = T at *
    generalize lexAt s.data.toList = at_ at *
    replace hRT := hide hRT
    clear hE hlx
    obtain ⟨w2, hw2⟩ : ∃ x, x = w1.alloc (.cells #[.slice tA T.length tc, .int .i64 (at_ : Int), .int .i64 0] 68) := ⟨_, rfl⟩
    have hs2 : w2.heap.size = w1.heap.size + 1 := by rw [hw2]; simp
    have hR2 : Hid (Blk w2 w.heap.size 46 #[.slice none 0 0, .int .i64 0]) := by rw [hw2]; exact hR1.out.alloc _
    have hT2 : Hid (RT w2 w1.heap.size tA T.length T) := by rw [hw2]; exact Reads.alloc hRT.out (Nat.le_refl _) _
    have hbw2 : Below w.heap.size w w2 := by rw [hw2]; exact hbw1.alloc (by omega) _
    have hP : Hid (RSt (w2.alloc (.cells #[.slice tA T.length tc, .slice none 0 0, .bool true] 72)) w2.heap.size (.slice none 0 0) T [] true) :=
      ⟨tA, tc, Blk.new w2 72 _, Reads.alloc (hT2.out.more (by omega)) (Nat.le_refl _) _, htc1, htc2, OA.nil _ _⟩
    obtain ⟨w3, hw3⟩ : ∃ x, x = w2.alloc (.cells #[.slice tA T.length tc, .slice none 0 0, .bool true] 72) := ⟨_, rfl⟩
    have hR3 : Hid (Blk w3 w.heap.size 46 #[.slice none 0 0, .int .i64 0]) := by rw [hw3]; exact hR2.out.alloc _
    have hbw3 : Below w.heap.size w w3 := by rw [hw3]; exact hbw2.alloc (by omega) _
    rw [← hw3] at hP
    have hlt2 : w.heap.size < w2.heap.size := by omega
    obtain ⟨b, hb⟩ : ∃ b, b = w2.heap.size := ⟨_, rfl⟩
    replace hw2 := hide hw2
    replace hw3 := hide hw3
    replace hs2 := hide hs2
    rw [← hb] at hP hlt2
    replace hb := hide hb
    clear q0 q1 f0 f1 hR1 hR2 hT2 hRT
    go_wp2_with fail
    rw [← hw2.out, ← hs2.out, ← hb.out, ← hw3.out]
    refine (closed_any w3 b _ T [] true hP.out (by omega)).mono ?_
    rintro e w4 ⟨rfl, hb4⟩
    have hP4 := hide (hP.out.newer hb4)
    have hbw4 := hbw3.trans (hb4.mono hbw3.size)
    have HR := hide (hR3.out.below hb4 hR3.out.lt)
    clear hP hb4 hR3 hw2 hw3 hs2 hb hR0 hb0
    cases hc : closedP T with
    | false =>
      have hq := parse_open hok.out hc
      have hl2 : Hid (parsedL s.data.toList = []) := by rw [Hid, hl.out, parseL, hq]
      have he2 : Hid (parsedE s.data.toList = 19) := by rw [Hid, he.out, parseE, hq]
      have q0 := HR.out.cell 0
      have q1 := HR.out.cell 1
      have f0 := HR.out.frozen 0
      have f1 := HR.out.frozen 1
      clear hq hc hl he hP4
      go_wp2_with fail
      obtain ⟨wz, hwz⟩ : ∃ x, x = ((w4.setCell ⟨w.heap.size, 0, none⟩ (.slice none 0 0)).setCell ⟨w.heap.size, 1, none⟩ (.int .i64 19)) := ⟨_, rfl⟩
      rw [← hwz]
      have hRz : Blk wz w.heap.size 46 #[.slice none 0 0, .int .i64 19] := by rw [hwz]; exact (HR.out.set_ 0 _).set_ 1 _
      have hbz : Below w.heap.size w wz := by rw [hwz]; exact below_set (below_set hbw4 (Nat.le_refl _) _) (Nat.le_refl _) _
      have hoz : OA wz w.heap.size (.slice none 0 0) 0 [] := OA.nil _ _
      clear hwz
      have g0 := hRz.cell 0
      have g1 := hRz.cell 1
      refine bodyPost_ret (v := .agg #[.slice none 0 0, .int .i64 19]) ?_ rfl (RPRet.mk hoz hl2.out he2.out hbz)
      simp [results, Tryz.results15, go_sem, g0, g1]
    | true =>
      have hpq := hide (parse_eq hok.out (T.length + 1) (Nat.lt_succ_self _))
      obtain ⟨A4, c4, cc0, -⟩ := hP4.out.toks
      clear hc
      go_wp2_with fail
      refine (part_any (T.length + 1) w4 b _ T [] 0 T.length _ _ hP4.out rfl rfl (Nat.zero_le _) (Nat.le_refl _) (by omega) (by simp; omega) (by omega)).mono ?_
      intro e w5 h5
      unfold RNRet at h5
      rw [show segT T 0 T.length = T from by unfold segT; simp, ← hpq.out] at h5
      have hlb := hP4.out.lt
      clear hpq hP4 cc0
      cases hq : parseQ T with
      | none =>
        rw [hq] at h5
        obtain ⟨r, v5, out5, rfl, hP5, -, hb5⟩ := h5
        have hl2 : Hid (parsedL s.data.toList = []) := by rw [Hid, hl.out, parseL, hq]
        have he2 : Hid (parsedE s.data.toList = 19) := by rw [Hid, he.out, parseE, hq]
        have hbw5 := hbw4.trans (hb5.mono (Nat.le_of_lt hlt2))
        replace HR := hide (HR.out.below hb5 hlt2)
        have q0 := HR.out.cell 0
        have q1 := HR.out.cell 1
        have f0 := HR.out.frozen 0
        have f1 := HR.out.frozen 1
        obtain ⟨qw, -⟩ := hP5.well_
        clear hq hl he hP5 hb5
        go_wp2_with fail
        obtain ⟨wz, hwz⟩ : ∃ x, x = ((w5.setCell ⟨w.heap.size, 0, none⟩ (.slice none 0 0)).setCell ⟨w.heap.size, 1, none⟩ (.int .i64 19)) := ⟨_, rfl⟩
        rw [← hwz]
        have hRz : Blk wz w.heap.size 46 #[.slice none 0 0, .int .i64 19] := by rw [hwz]; exact (HR.out.set_ 0 _).set_ 1 _
        have hbz : Below w.heap.size w wz := by rw [hwz]; exact below_set (below_set hbw5 (Nat.le_refl _) _) (Nat.le_refl _) _
        have hoz : OA wz w.heap.size (.slice none 0 0) 0 [] := OA.nil _ _
        clear hwz
        have g0 := hRz.cell 0
        have g1 := hRz.cell 1
        refine bodyPost_ret (v := .agg #[.slice none 0 0, .int .i64 19]) ?_ rfl (RPRet.mk hoz hl2.out he2.out hbz)
        simp [results, Tryz.results15, go_sem, g0, g1]
      | some q =>
        rw [hq] at h5
        obtain ⟨rfl, ⟨v5, hP5⟩, hb5⟩ := h5
        have hpl := hide (parseQ_plain T q hq)
        have hsz := G_size ((parseQ_iff hok.out q).1 hq)
        have hl2 : Hid (parsedL s.data.toList = if 16 < q.depth then [] else if 8 < patsL (q.parts 0) then [] else q.parts 0) := by rw [Hid, hl.out, parseL, hq]
        have he2 : Hid (parsedE s.data.toList = if 16 < q.depth then 11 else if 8 < patsL (q.parts 0) then 17 else 0) := by rw [Hid, he.out, parseE, hq]
        have hlen : Hid ((q.parts 0).length = q.size) := Q.parts_len q 0
        have hqp := q.size_pos
        have hdp := depth_size q
        have hbw5 := hbw4.trans (hb5.mono (Nat.le_of_lt hlt2))
        replace HR := hide (HR.out.below hb5 hlt2)
        obtain ⟨qw, -⟩ := hP5.well_
        obtain ⟨A5, c5, hB5, -, -, -, hO5⟩ := hP5
        rw [List.nil_append, List.length_nil] at hO5
        rw [hlen.out] at hO5
        have q1 := hB5.cell 1
        obtain ⟨oA, oc, rfl, hRO, -, hoc1, hoc2⟩ := hO5.form
        replace hO5 := hide hO5
        replace hRO := hide hRO
        have hwr : IntKind.i64.wrap ((q.size : Int) - 1) = (q.size : Int) - 1 := IntWalk.i64_in _ (by omega)
        have HD : Hid (∀ n, Calls Tryz.prog 30 #[.slice oA q.size oc, .int .i64 ((q.size : Int) - 1)] (w5.drewN n) fun e w' => e = .returned (.int .i64 (q.depth : Int)) ∧ w' = w5.drewN n) :=
          fun n => rdeep_any (w5.drewN n) _ oA q.size oc (q.parts 0) hRO.out (by omega) q [] [] _ hpl.out (by simp) (by simp)
        clear hq hl he hb5 hB5
        go_wp2_with fail
        go_quiet ((go_at_call 30; exact Calls.quiet_of_same (HD.out _)))
        obtain ⟨w6, hw6⟩ : ∃ x, x = w5.drewN nq := ⟨_, rfl⟩
        rw [← hw6]
        replace HR : Hid (Blk w6 w.heap.size 46 #[.slice none 0 0, .int .i64 0]) := by rw [hw6]; exact HR.out.drewN nq
        replace hO5 : Hid (OA w6 (b + 1) (.slice oA q.size oc) q.size (q.parts 0)) := by rw [hw6]; exact hO5.out.drewN nq
        replace q1 : w6.cell? ⟨b, 1, none⟩ = some (.slice oA q.size oc) := by rw [hw6]; exact q1
        replace hRO : Hid (RA w6 w6.heap.size oA q.size (q.parts 0)) := by rw [hw6]; exact hRO.out
        replace hbw5 : Below w.heap.size w w6 := by rw [hw6]; exact below_drewN hbw5 nq
        have q0 := HR.out.cell 0
        have q2 := HR.out.cell 1
        have f0 := HR.out.frozen 0
        have f1 := HR.out.frozen 1
        clear hw6 HD qw hwr hpl
        have hN : q.size ≤ 400 := by omega
        generalize q.parts 0 = l at *
        generalize q.depth = dd at *
        generalize q.size = N at *
        by_cases cd : 16 < dd
        · have hl3 : Hid (parsedL s.data.toList = []) := by rw [Hid, hl2.out, if_pos cd]
          have he3 : Hid (parsedE s.data.toList = 11) := by rw [Hid, he2.out, if_pos cd]
          clear hl2 he2 hO5 hRO
          go_wp2_with fail
          obtain ⟨wz, hwz⟩ : ∃ x, x = ((w6.setCell ⟨w.heap.size, 0, none⟩ (.slice none 0 0)).setCell ⟨w.heap.size, 1, none⟩ (.int .i64 11)) := ⟨_, rfl⟩
          rw [← hwz]
          have hRz : Blk wz w.heap.size 46 #[.slice none 0 0, .int .i64 11] := by rw [hwz]; exact (HR.out.set_ 0 _).set_ 1 _
          have hbz : Below w.heap.size w wz := by rw [hwz]; exact below_set (below_set hbw5 (Nat.le_refl _) _) (Nat.le_refl _) _
          have hoz : OA wz w.heap.size (.slice none 0 0) 0 [] := OA.nil _ _
          clear hwz
          have g0 := hRz.cell 0
          have g1 := hRz.cell 1
          refine bodyPost_ret (v := .agg #[.slice none 0 0, .int .i64 11]) ?_ rfl (RPRet.mk hoz hl3.out he3.out hbz)
          simp [results, Tryz.results15, go_sem, g0, g1]
        · have hl3 : Hid (parsedL s.data.toList = if 8 < patsL l then [] else l) := by rw [Hid, hl2.out, if_neg cd]
          have he3 : Hid (parsedE s.data.toList = if 8 < patsL l then 17 else 0) := by rw [Hid, he2.out, if_neg cd]
          clear hl2 he2
          go_wp2_with fail
          go_loop [5, 6] (fun u i => ∃ k : Nat, k ≤ N ∧ i = .int .i64 k ∧ u = .int .i64 (patsL (l.take k) : Int)) (fun _ i => N - (intOf i).toNat)
          case atStart => exact ⟨0, by omega, rfl, rfl⟩
          case round =>
            obtain ⟨k, hk, rfl, rfl⟩ := hrel
            have hple : patsL (l.take k) ≤ 100000 := by
              have := List.countP_le_length (p := isPat) (l := l.take k)
              have h2 : (l.take k).length ≤ N := by simp; omega
              unfold patsL; omega
            by_cases h1 : k < N
            · have hkl : k < l.length := by have := hlen.out; omega
              obtain ⟨ad, rfl, hab, c0, c1, c2, c3, c4, c5, c6⟩ := hRO.out.elem h1 hkl
              have hs := hide (pats_next l k hkl)
              generalize l[k] = x at *
              by_cases e1 : x.kind = 9
              · have n1 : (x.kind == 9) = true := by simp [e1]
                have hi : Hid (patsL (l.take (k + 1)) = patsL (l.take k) + 1) := by rw [Hid, hs.out, if_pos (by simp [isPat, e1])]
                clear e1 hs c2 c3 c4 c5 c6
                go_wp2_with fail
                go_round
                case rel => exact ⟨k + 1, by omega, by go_num, by rw [hi.out]; go_num⟩
                case measure => simp [intOf]; omega
              · have n1 : (x.kind == 9) = false := by simp [e1]
                by_cases e2 : x.op = 7
                · have n2 : (x.op == 7) = true := by simp [e2]
                  have hi : Hid (patsL (l.take (k + 1)) = patsL (l.take k) + 1) := by rw [Hid, hs.out, if_pos (by simp [isPat, e2])]
                  clear e1 e2 hs c2 c3 c4 c5 c6
                  go_wp2_with fail
                  go_round
                  case rel => exact ⟨k + 1, by omega, by go_num, by rw [hi.out]; go_num⟩
                  case measure => simp [intOf]; omega
                · have n2 : (x.op == 7) = false := by simp [e2]
                  have hi : Hid (patsL (l.take (k + 1)) = patsL (l.take k)) := by rw [Hid, hs.out, if_neg (by simp [isPat, e1, e2])]; rfl
                  clear e1 e2 hs c2 c3 c4 c5 c6
                  go_wp2_with fail
                  go_round
                  case rel => exact ⟨k + 1, by omega, by go_num, by rw [hi.out]⟩
                  case measure => simp [intOf]; omega
            · have hd : Hid (l.take k = l) := by
                show _ = _
                rw [List.take_of_length_le (by have := hlen.out; omega)]
              rw [hd.out] at hple ⊢
              clear hd
              by_cases cp : 8 < patsL l
              · rw [if_pos cp] at hl3 he3
                clear hO5 hRO
                go_wp2_with fail
                obtain ⟨wz, hwz⟩ : ∃ x, x = ((w6.setCell ⟨w.heap.size, 0, none⟩ (.slice none 0 0)).setCell ⟨w.heap.size, 1, none⟩ (.int .i64 17)) := ⟨_, rfl⟩
                rw [← hwz]
                have hRz : Blk wz w.heap.size 46 #[.slice none 0 0, .int .i64 17] := by rw [hwz]; exact (HR.out.set_ 0 _).set_ 1 _
                have hbz : Below w.heap.size w wz := by rw [hwz]; exact below_set (below_set hbw5 (Nat.le_refl _) _) (Nat.le_refl _) _
                have hoz : OA wz w.heap.size (.slice none 0 0) 0 [] := OA.nil _ _
                clear hwz
                have g0 := hRz.cell 0
                have g1 := hRz.cell 1
                refine bodyPost_ret (v := .agg #[.slice none 0 0, .int .i64 17]) ?_ rfl (RPRet.mk hoz hl3.out he3.out hbz)
                simp [results, Tryz.results15, go_sem, g0, g1]
              · rw [if_neg cp] at hl3 he3
                clear hRO
                go_wp2_with fail
                obtain ⟨wz, hwz⟩ : ∃ x, x = ((w6.setCell ⟨w.heap.size, 0, none⟩ (.slice oA N oc)).setCell ⟨w.heap.size, 1, none⟩ (.int .i64 0)) := ⟨_, rfl⟩
                rw [← hwz]
                have hRz : Blk wz w.heap.size 46 #[.slice oA N oc, .int .i64 0] := by rw [hwz]; exact (HR.out.set_ 0 _).set_ 1 _
                have hbz : Below w.heap.size w wz := by rw [hwz]; exact below_set (below_set hbw5 (Nat.le_refl _) _) (Nat.le_refl _) _
                have hoz : OA wz w.heap.size (.slice oA N oc) N l := by rw [hwz]; exact ((hO5.out.setOther (Nat.lt_succ_of_lt hlt2) _).setOther (Nat.lt_succ_of_lt hlt2) _).more (by omega)
                clear hwz
                have g0 := hRz.cell 0
                have g1 := hRz.cell 1
                refine bodyPost_ret (v := .agg #[.slice oA N oc, .int .i64 0]) ?_ rfl (RPRet.mk hoz hl3.out he3.out hbz)
                simp [results, Tryz.results15, go_sem, g0, g1]
  · have hl : Hid (parsedL s.data.toList = []) := by rw [Hid, parsedL, if_neg hE]
    have he : Hid (parsedE s.data.toList = lexE s.data.toList) := by rw [Hid, parsedE, if_neg hE]
    have n1 : (lexE s.data.toList != 0) = true := by simp [hE]
    generalize lexE s.data.toList = ee at *
    generalize lexL s.data.toList = T at *
    generalize lexAt s.data.toList = at_ at *
    clear hE hRT
    go_wp2_with fail
    obtain ⟨w3, hw3⟩ : ∃ x, x = ((w1.setCell ⟨w.heap.size, 0, none⟩ (.slice none 0 0)).setCell ⟨w.heap.size, 1, none⟩ (.int .i64 ee)).alloc (.cells #[.slice tA T.length tc, .int .i64 (at_ : Int), .int .i64 ee] 68) := ⟨_, rfl⟩
    rw [← hw3]
    have hR3 : Blk w3 w.heap.size 46 #[.slice none 0 0, .int .i64 ee] := by rw [hw3]; exact ((hR1.out.set_ 0 _).set_ 1 _).alloc _
    have hb3 : Below w.heap.size w w3 := by rw [hw3]; exact (below_set (below_set hbw1 (Nat.le_refl _) _) (Nat.le_refl _) _).alloc (by simp; omega) _
    clear hw3
    have g0 := hR3.cell 0
    have g1 := hR3.cell 1
    refine bodyPost_ret (v := .agg #[.slice none 0 0, .int .i64 ee]) ?_ rfl (RPRet.mk (OA.nil _ _) hl.out he.out hb3)
    simp [results, Tryz.results15, go_sem, g0, g1]
end Go.Proofs.YtnnjcedlomfhoaaGreatDoor
