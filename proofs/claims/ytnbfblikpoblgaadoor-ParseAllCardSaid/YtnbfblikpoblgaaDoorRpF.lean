/-
  The reference's parser: plain laws of the places and sizes; contract of part.
  The reference's parser: contract of part.
-/
import Derived.Test.YtnbfblikpoblgaaDoorRpD
namespace Go.Proofs.YtnbfblikpoblgaaDoor
open Go.RowKit
set_option linter.unusedVariables false

theorem lastF_bound (word : List UInt8) : ∀ (T : List Tok) (d at_ k : Int), lastF word T d at_ k = at_ ∨ (k ≤ lastF word T d at_ k ∧ lastF word T d at_ k < k + T.length)
  | [], d, at_, k => .inl rfl
  | t :: T, d, at_, k => by
    rw [lastF_cons]
    have ih := fun d a => lastF_bound word T d a (k + 1)
    rw [List.length_cons]
    by_cases c1 : isLp t = true
    · rw [if_pos c1]
      rcases ih (d + 1) at_ with h | h
      · exact .inl h
      · exact .inr (by omega)
    · rw [if_neg c1]
      by_cases c2 : isRp t = true
      · rw [if_pos c2]
        rcases ih (d - 1) at_ with h | h
        · exact .inl h
        · exact .inr (by omega)
      · rw [if_neg c2]
        by_cases c3 : d = 0 ∧ isW t 1 word = true
        · rw [if_pos c3]
          rcases ih d k with h | h
          · exact .inr (by rw [h]; omega)
          · exact .inr (by omega)
        · rw [if_neg c3]
          rcases ih d at_ with h | h
          · exact .inl h
          · exact .inr (by omega)
/-- A place counted from i, of a place counted from 0. -/
def shiftI (i r : Int) : Int := if r < 0 then -1 else r + i
theorem lastF_shift (word : List UInt8) (i : Int) : ∀ (T : List Tok) (d at_ k : Int), 0 ≤ k → lastF word T d (shiftI i at_) (k + i) = shiftI i (lastF word T d at_ k)
  | [], d, at_, k, hk => rfl
  | t :: T, d, at_, k, hk => by
    rw [lastF_cons, lastF_cons]
    have ih := fun d a => lastF_shift word i T d a (k + 1) (by omega)
    have e : k + 1 + i = k + i + 1 := by omega
    rw [e] at ih
    by_cases c1 : isLp t = true
    · rw [if_pos c1, if_pos c1]; exact ih _ _
    · rw [if_neg c1, if_neg c1]
      by_cases c2 : isRp t = true
      · rw [if_pos c2, if_pos c2]; exact ih _ _
      · rw [if_neg c2, if_neg c2]
        by_cases c3 : d = 0 ∧ isW t 1 word = true
        · rw [if_pos c3, if_pos c3, ← ih d k]
          rw [show shiftI i k = k + i from by unfold shiftI; rw [if_neg (by omega)]]
        · rw [if_neg c3, if_neg c3]; exact ih _ _
theorem last_shift (word : List UInt8) (T : List Tok) (i : Int) : lastF word T 0 (-1) i = shiftI i (lastW word T 0) := by
  have h := lastF_shift word i T 0 (-1) 0 (by omega)
  have e : shiftI i (-1) = -1 := by unfold shiftI; rw [if_pos (by omega)]
  rw [e, Int.zero_add] at h
  rw [h]; rfl
theorem lastW_bound (word : List UInt8) (T : List Tok) : lastW word T 0 = -1 ∨ (0 ≤ lastW word T 0 ∧ lastW word T 0 < T.length) := by
  rcases lastF_bound word T 0 (-1) 0 with h | h
  · exact .inl h
  · exact .inr (by unfold lastW; omega)
/-- Its parts are no more than its tokens. -/
theorem partP_size : ∀ (f : Nat) (T : List Tok) (q : Q), partP f T = some q → q.size ≤ T.length
  | 0, T, q, h => by simp [partP] at h
  | f + 1, T, q, h => by
    have ih := partP_size f
    rw [partP] at h
    by_cases hT : T = []
    · rw [if_pos hT] at h; simp at h
    · rw [if_neg hT] at h
      have hpos : 0 < T.length := List.length_pos_iff.2 hT
      have hb1 := lastW_bound orW T
      have hb2 := lastW_bound andW T
      dsimp only at h
      split at h
      · rename_i c
        split at h
        · simp at h
        · rename_i x hx
          obtain ⟨y, hy, rfl⟩ := Option.map_eq_some_iff.1 h
          have h1 := ih _ _ hx
          have h2 := ih _ _ hy
          rw [List.length_take] at h1
          rw [List.length_drop] at h2
          simp only [Q.size]
          omega
      · split at h
        · split at h
          · simp at h
          · rename_i x hx
            obtain ⟨y, hy, rfl⟩ := Option.map_eq_some_iff.1 h
            have h1 := ih _ _ hx
            have h2 := ih _ _ hy
            rw [List.length_take] at h1
            rw [List.length_drop] at h2
            simp only [Q.size]
            omega
        · split at h
          · obtain ⟨y, hy, rfl⟩ := Option.map_eq_some_iff.1 h
            have h1 := ih _ _ hy
            rw [List.length_tail] at h1
            simp only [Q.size]
            omega
          · split at h
            · have h1 := ih _ _ h
              rw [List.length_dropLast, List.length_tail] at h1
              omega
            · obtain ⟨y, hy, rfl⟩ := Option.map_eq_some_iff.1 h
              simp only [Q.size]
              omega
end Go.Proofs.YtnbfblikpoblgaaDoor
namespace Go.Proofs.YtnbfblikpoblgaaDoor
open Go.RowKit
set_option linter.unusedVariables false

/-- The tokens between two places. -/
def segT (T : List Tok) (i j : Nat) : List Tok := (T.drop i).take (j - i)
theorem segT_len {T : List Tok} {i j : Nat} (hij : i ≤ j) (hj : j ≤ T.length) : (segT T i j).length = j - i := seg_len T i j hij hj
theorem segT_take {T : List Tok} {i m j : Nat} (him : i ≤ m) (hmj : m ≤ j) : (segT T i j).take (m - i) = segT T i m := by
  unfold segT; rw [List.take_take, Nat.min_eq_left (by omega)]
theorem segT_drop {T : List Tok} {i m j : Nat} (him : i ≤ m) (hmj : m < j) : (segT T i j).drop (m - i + 1) = segT T (m + 1) j := by
  unfold segT
  rw [List.drop_take, List.drop_drop, show j - i - (m - i + 1) = j - (m + 1) from by omega, show i + (m - i + 1) = m + 1 from by omega]
theorem segT_nil {T : List Tok} {i : Nat} : segT T i i = [] := by unfold segT; rw [Nat.sub_self, List.take_zero]
theorem segT_cons {T : List Tok} {i j : Nat} (h : i < j) (hj : j ≤ T.length) : segT T i j = T[i]'(by omega) :: segT T (i + 1) j := seg_cons T i j h hj
theorem segT_last {T : List Tok} {i j : Nat} (h : i < j) (hj : j ≤ T.length) : segT T i j = segT T i (j - 1) ++ [T[j - 1]'(by omega)] := by
  have e := List.take_append_drop (j - 1 - i) (segT T i j)
  rw [segT_take (by omega) (by omega)] at e
  rw [← e]
  congr 1
  unfold segT
  rw [List.drop_take, List.drop_drop, show j - i - (j - 1 - i) = 1 from by omega, show i + (j - 1 - i) = j - 1 from by omega, List.drop_eq_getElem_cons (by omega)]
  rfl

/-- What part hands back. -/
def RNRet (w : World) (b : Nat) (T : List Tok) (out : List Ask) (m : Nat) (o : Option Q) (e : Ending) (w' : World) : Prop :=
  match o with
  | some q => e = .returned (.int .i64 ((out.length : Int) + (q.size : Int) - 1)) ∧ (∃ v', RSt w' b v' T (out ++ q.parts out.length) true) ∧ Below b w w'
  | none => ∃ r v' out', e = .returned (.int .i64 r) ∧ RSt w' b v' T out' false ∧ out'.length ≤ out.length + m ∧ Below b w w'
theorem RNRet.yes {w w' : World} {b m : Nat} {v' : Value} {T : List Tok} {out : List Ask} {o : Option Q} {q : Q} {r : Int} (hr : o = some q) (he : r = (out.length : Int) + (q.size : Int) - 1)
    (hP : RSt w' b v' T (out ++ q.parts out.length) true) (hb : Below b w w') : RNRet w b T out m o (.returned (.int .i64 r)) w' := by
  subst hr he; exact ⟨rfl, ⟨v', hP⟩, hb⟩
theorem RNRet.no {w w' : World} {b m : Nat} {v' : Value} {T : List Tok} {out out' : List Ask} {o : Option Q} {r : Int} (hr : o = none)
    (hP : RSt w' b v' T out' false) (h2 : out'.length ≤ out.length + m) (hb : Below b w w') : RNRet w b T out m o (.returned (.int .i64 r)) w' := by
  subst hr; exact ⟨r, v', out', rfl, hP, h2, hb⟩

set_option maxRecDepth 100000 in
set_option maxHeartbeats 2000000 in
theorem part_bad (w : World) (b : Nat) (v : Value) (T : List Tok) (out : List Ask) (h : RSt w b v T out false) (I J : Int) :
    Calls Tryd.prog 46 #[.pointer (some ⟨b, 0, none⟩), .int .i64 I, .int .i64 J] w fun e w' => e = .returned (.int .i64 (-1)) ∧ RSt w' b v T out false ∧ Below b w w' := by
  obtain ⟨qw, fw⟩ := h.well_
  replace h := hide h
  go_enter Tryd.func46, Tryd.ntmps46
  go_wp2_with fail
  refine (bad_any _ b v T out false h.out).mono ?_
  rintro e w2 ⟨rfl, hP2, hb2⟩
  go_wp2_with fail
  go_ret
  exact ⟨rfl, hP2, hb2⟩

theorem part_two (n : Nat) {T : List Tok} {i m j : Nat} (him : i ≤ m) (hmj : m < j) (hj : j ≤ T.length) (h : lastW orW (segT T i j) 0 = (m : Int) - i) :
    partP (n + 1) (segT T i j) = match partP n (segT T i m) with | none => none | some x => (partP n (segT T (m + 1) j)).map fun y => .two 1 x y := by
  have hne : segT T i j ≠ [] := by rw [segT_cons (by omega) hj]; simp
  rw [partP, if_neg hne]
  dsimp only
  rw [if_pos (by omega), h, show ((m : Int) - i).toNat = m - i from by omega, segT_take him (by omega), segT_drop him hmj]
  cases partP n (segT T i m) <;> rfl
theorem part_and (n : Nat) {T : List Tok} {i m j : Nat} (him : i ≤ m) (hmj : m < j) (hj : j ≤ T.length) (h0 : lastW orW (segT T i j) 0 = -1) (h : lastW andW (segT T i j) 0 = (m : Int) - i) :
    partP (n + 1) (segT T i j) = match partP n (segT T i m) with | none => none | some x => (partP n (segT T (m + 1) j)).map fun y => .two 2 x y := by
  have hne : segT T i j ≠ [] := by rw [segT_cons (by omega) hj]; simp
  rw [partP, if_neg hne]
  dsimp only
  rw [if_neg (by omega), if_pos (by omega), h, show ((m : Int) - i).toNat = m - i from by omega, segT_take him (by omega), segT_drop him hmj]
  cases partP n (segT T i m) <;> rfl
theorem part_rest (n : Nat) {T : List Tok} {i j : Nat} (hij : i < j) (hj : j ≤ T.length) (h0 : lastW orW (segT T i j) 0 = -1) (h : lastW andW (segT T i j) 0 = -1) :
    partP (n + 1) (segT T i j) = if isW (T[i]'(by omega)) 1 notW = true then (partP n (segT T (i + 1) j)).map Q.neg
      else if isLp (T[i]'(by omega)) = true ∧ isRp (T[j - 1]'(by omega)) = true then partP n (segT T (i + 1) (j - 1)) else (rterm (segT T i j)).map Q.term := by
  have hne : segT T i j ≠ [] := by rw [segT_cons (by omega) hj]; simp
  have hl : (segT T i j).getLast? = some (T[j - 1]'(by omega)) := by rw [segT_last hij hj, List.getLast?_concat]
  rw [partP, if_neg hne]
  dsimp only
  rw [if_neg (by omega), if_neg (by omega), hl]
  have ha : ∀ k s, atW (segT T i j) k s = isW (T[i]'(by omega)) k s := fun k s => by rw [segT_cons hij hj]; rfl
  have ht : (segT T i j).tail = segT T (i + 1) j := by rw [segT_cons hij hj, List.tail_cons]
  rw [ha, ha, ht, show isW (T[i]'(by omega)) 4 lpW = isLp (T[i]'(by omega)) from rfl]
  simp only [Option.map_some, Option.some.injEq]
  by_cases c : isLp (T[i]'(by omega)) = true ∧ isRp (T[j - 1]'(by omega)) = true
  · rw [if_pos c, if_pos c]
    have hlt : i + 1 < j := by
      rcases Nat.lt_or_ge (i + 1) j with h | h
      · exact h
      · exfalso
        have e : j - 1 = i := by omega
        obtain ⟨c1, c2⟩ := c
        simp only [e] at c2
        have h1 := of_isW c1
        have h2 := of_isW c2
        rw [h1.2] at h2
        exact absurd h2.2 (by decide)
    rw [segT_last hlt hj, List.dropLast_concat]
  · rw [if_neg c, if_neg c]

set_option maxRecDepth 100000 in
set_option maxHeartbeats 4000000 in
theorem part_any (n : Nat) : ∀ (w : World) (b : Nat) (v : Value) (T : List Tok) (out : List Ask) (i j : Nat) (I J : Int), RSt w b v T out true → I = (i : Int) → J = (j : Int) → i ≤ j → j ≤ T.length → T.length ≤ 100000 → out.length + (j - i) ≤ 100000 → j - i < n →
    Calls Tryd.prog 46 #[.pointer (some ⟨b, 0, none⟩), .int .i64 I, .int .i64 J] w (RNRet w b T out (j - i) (partP n (segT T i j))) := by
  induction n with
  | zero => intro w b v T out i j I J h hI hJ hij hj hT hl hn; exact absurd hn (Nat.not_lt_zero _)
  | succ n ih =>
    intro w b v T out i j I J h hI hJ hij hj hT hl hn
    replace ih := hide ih
    subst hI; subst hJ
    have hlt := h.lt
    obtain ⟨qw, fw⟩ := h.well_
    replace h := hide h
    by_cases h1 : i < j
    · go_enter Tryd.func46, Tryd.ntmps46
      go_wp2_with fail
      refine (last_any w b v T out true h.out i j hij hj hT ⟨#[111, 114]⟩).mono ?_
      rintro e w1 ⟨rfl, hb1⟩
      rw [show (ByteArray.mk #[111, 114]).data.toList = orW from rfl, show (T.drop i).take (j - i) = segT T i j from rfl, last_shift]
      have hP1 := hide (h.out.newer hb1)
      have hB1 := hb1.mono (Nat.le_of_lt hlt)
      clear h hb1 qw fw
      have bo := lastW_bound orW (segT T i j)
      rw [segT_len hij hj] at bo
      obtain ⟨O, hO⟩ : ∃ x, x = shiftI i (lastW orW (segT T i j) 0) := ⟨_, rfl⟩
      rw [← hO]
      replace hO := hide hO
      replace bo := hide bo
      go_wp2_with fail
      refine (last_any w1 b v T out true hP1.out i j hij hj hT ⟨#[97, 110, 100]⟩).mono ?_
      rintro e w2 ⟨rfl, hb2⟩
      rw [show (ByteArray.mk #[97, 110, 100]).data.toList = andW from rfl, show (T.drop i).take (j - i) = segT T i j from rfl, last_shift]
      have hP2 := hide (hP1.out.newer hb2)
      have hB2 := hB1.trans (hb2.mono (Nat.le_of_lt hP1.out.lt))
      clear hP1 hb2 hB1
      have ba := lastW_bound andW (segT T i j)
      rw [segT_len hij hj] at ba
      obtain ⟨N, hN⟩ : ∃ x, x = shiftI i (lastW andW (segT T i j) 0) := ⟨_, rfl⟩
      rw [← hN]
      replace hN := hide hN
      replace ba := hide ba
      by_cases co : lastW orW (segT T i j) 0 = -1
      · by_cases ca : lastW andW (segT T i j) 0 = -1
        · have eO : O = -1 := by rw [hO.out, co]; rfl
          have eN : N = -1 := by rw [hN.out, ca]; rfl
          have hstep := hide (part_rest n h1 hj co ca)
          subst eO eN
          clear hO hN bo ba co ca
          have hi : i < T.length := by omega
          have hj1 : j - 1 < T.length := by omega
          obtain ⟨t, hgt⟩ : ∃ x, x = T[i] := ⟨_, rfl⟩
          obtain ⟨l, hgl⟩ : ∃ x, x = T[j - 1] := ⟨_, rfl⟩
          have hs1 := hstep.out
          rw [← hgt, ← hgl] at hs1
          replace hs1 := hide hs1
          clear hstep
          replace hgt := hide hgt
          replace hgl := hide hgl
          obtain ⟨ad, c, c0, hk⟩ := hP2.out.toks2 (by omega)
          obtain ⟨ab, t0, t1, t2, t3⟩ := hk i (by omega)
          rw [← hgt.out] at t0 t1 t2 t3
          clear hk
          go_wp2_with fail
          refine (ris_any w2 t 1 ⟨#[110, 111, 116]⟩).mono ?_
          rintro e w3 ⟨rfl, hb3⟩
          rw [show (ByteArray.mk #[110, 111, 116]).data.toList = notW from rfl]
          have hP3 := hide (hP2.out.newer hb3)
          have hB3 := hB2.trans (hb3.mono (Nat.le_of_lt hP2.out.lt))
          clear hP2 hb3 hB2 c0 t0 t1 t2 t3 ab
          by_cases cn : isW t 1 notW = true
          · have hs2 := hs1.out
            rw [if_pos cn] at hs2
            rw [cn]
            replace hs2 := hide hs2
            clear hs1 cn
            go_wp2_with fail
            refine (ih.out w3 b v T out (i + 1) j _ _ hP3.out (by omega) rfl (by omega) hj hT (by omega) (by omega)).mono ?_
            intro e w4 h4
            unfold RNRet at h4
            cases hx : partP n (segT T (i + 1) j) with
            | none =>
              rw [hx] at h4
              obtain ⟨r, v4, out4, rfl, hP4, hl4, hb4⟩ := h4
              have hnone : Hid (partP (n + 1) (segT T i j) = none) := by rw [Hid, hs2.out, hx]; rfl
              have hB4 := hB3.trans hb4
              obtain ⟨qw, fw⟩ := hP4.well_
              replace hP4 := hide hP4
              clear hs2 hx hP3 hB3 hb4
              go_wp2_with fail
              go_ret
              exact .no hnone.out hP4.out (by omega) hB4
            | some x =>
              rw [hx] at h4
              obtain ⟨rfl, ⟨v4, hP4⟩, hb4⟩ := h4
              have hxs := partP_size n _ x hx
              rw [segT_len (by omega) hj] at hxs
              have hlen : Hid ((out ++ x.parts out.length).length = out.length + x.size) := by rw [Hid, List.length_append, Q.parts_len]
              have hyes : Hid (partP (n + 1) (segT T i j) = some (.neg x)) := by rw [Hid, hs2.out, hx]; rfl
              have hparts : Hid (out ++ x.parts out.length ++ [⟨3, 0, (out.length : Int) + (x.size : Int) - 1, -1, 0, [], false⟩] = out ++ (Q.neg x).parts out.length) := by
                rw [Hid, Q.parts, List.append_assoc]
              have hB4 := hB3.trans hb4
              obtain ⟨qw, fw⟩ := hP4.well_
              have hxp := x.size_pos
              replace hP4 := hide hP4
              clear hs2 hx hP3 hB3 hb4
              go_wp2_with fail
              refine (rput_any _ b v4 T _ true ⟨3, 0, (out.length : Int) + (x.size : Int) - 1, -1, 0, [], false⟩ hP4.out (by rw [hlen.out]; omega)).mono ?_
              rintro e w5 ⟨rfl, ⟨v5, hP5⟩, hb5⟩
              have hB5 := hB4.trans hb5
              rw [hparts.out] at hP5
              rw [hlen.out]
              replace hP5 := hide hP5
              clear hb5 hB4 hP4 hlen hparts
              go_wp2_with fail
              go_ret
              exact .yes hyes.out (by simp [Q.size]; omega) hP5.out hB5
          · have hs2 := hs1.out
            rw [if_neg cn] at hs2
            rw [Bool.not_eq_true] at cn
            rw [cn]
            replace hs2 := hide hs2
            clear hs1 cn
            obtain ⟨ad, c, c0, hk⟩ := hP3.out.toks2 (by omega)
            obtain ⟨ab, t0, t1, t2, t3⟩ := hk i (by omega)
            rw [← hgt.out] at t0 t1 t2 t3
            clear hk
            go_upto_region 21 with (fail)
            go_cut [104] (fun v104 wx => v104 = .bool (isLp t && isRp l) ∧ RSt wx b v T out true ∧ Below b w wx)
            case first =>
              go_wp2_with fail
              refine (ris_any w3 t 4 ⟨#[40]⟩).mono ?_
              rintro e w4 ⟨rfl, hb4⟩
              rw [show isW t 4 (ByteArray.mk #[40]).data.toList = isLp t from rfl]
              have hP4 := hide (hP3.out.newer hb4)
              have hB4 := hB3.trans (hb4.mono (Nat.le_of_lt hP3.out.lt))
              clear hP3 hb4 hB3 c0 t0 t1 t2 t3 ab
              cases cl : isLp t
              · go_wp2_with fail
                go_meet
                exact ⟨by rw [cl]; rfl, hP4.out, hB4⟩
              · obtain ⟨ad, c, c0, hk⟩ := hP4.out.toks2 (by omega)
                obtain ⟨ab, t0, t1, t2, t3⟩ := hk (j - 1) hj1
                rw [← hgl.out] at t0 t1 t2 t3
                clear hk
                have hjj : ((j : Int) - 1).toNat = j - 1 := by omega
                have hj0 : (0 : Int) ≤ (j : Int) - 1 := by omega
                have hj2 : (j : Int) - 1 < (T.length : Int) := by omega
                go_wp2_with fail
                refine (ris_any w4 l 4 ⟨#[41]⟩).mono ?_
                rintro e w5 ⟨rfl, hb5⟩
                rw [show isW l 4 (ByteArray.mk #[41]).data.toList = isRp l from rfl]
                have hP5 := hide (hP4.out.newer hb5)
                have hB5 := hB4.trans (hb5.mono (Nat.le_of_lt hP4.out.lt))
                clear hP4 hb5 hB4 c0 t0 t1 t2 t3 ab
                go_wp2_with fail
                go_meet
                exact ⟨by rw [cl]; rfl, hP5.out, hB5⟩
            case rest =>
              obtain ⟨rfl, hP4, hB4⟩ := hcut
              clear hP3 hB3 c0 t0 t1 t2 t3 ab
              replace hP4 := hide hP4
              cases cc : (isLp t && isRp l)
              · have hs3 := hs2.out
                rw [if_neg (by intro h; rw [h.1, h.2] at cc; exact absurd cc (by decide))] at hs3
                replace hs3 := hide hs3
                clear hs2 cc
                go_wp2_with fail
                refine (rterm_any _ b v T out true hP4.out i j hij hj hT (by omega)).mono ?_
                intro e w5 h5
                rw [show (T.drop i).take (j - i) = segT T i j from rfl] at h5
                obtain ⟨hb5, h5⟩ := h5
                have hB5 := hB4.trans hb5
                cases hx : rterm (segT T i j) with
                | none =>
                  rw [hx] at h5
                  obtain ⟨rfl, v5, hP5⟩ := h5
                  have hnone : Hid (partP (n + 1) (segT T i j) = none) := by rw [Hid, hs3.out, hx]; rfl
                  clear hs3 hx hP4 hB4 hb5
                  go_wp2_with fail
                  go_ret
                  exact .no hnone.out hP5 (by omega) hB5
                | some x =>
                  rw [hx] at h5
                  obtain ⟨rfl, v5, hP5⟩ := h5
                  have hyes : Hid (partP (n + 1) (segT T i j) = some (.term x)) := by rw [Hid, hs3.out, hx]; rfl
                  clear hs3 hx hP4 hB4 hb5
                  go_wp2_with fail
                  go_ret
                  exact .yes hyes.out (by simp [Q.size]) hP5 hB5
              · have cc2 : isLp t = true ∧ isRp l = true := by simpa using cc
                have hs3 := hs2.out
                rw [if_pos cc2] at hs3
                have hij2 : i + 1 ≤ j - 1 := by
                  rcases Nat.lt_or_ge (i + 1) j with h | h
                  · omega
                  · exfalso
                    have e1 : l = t := by
                      rw [hgl.out, hgt.out]
                      congr 1
                      omega
                    obtain ⟨c1, c2⟩ := cc2
                    rw [e1] at c2
                    have h1 := of_isW c1
                    have h2 := of_isW c2
                    rw [h1.2] at h2
                    exact absurd h2.2 (by decide)
                replace hs3 := hide hs3
                clear hs2 cc cc2
                go_wp2_with fail
                refine (ih.out _ b v T out (i + 1) (j - 1) _ _ hP4.out (by omega) (by omega) hij2 (by omega) hT (by omega) (by omega)).mono ?_
                intro e w5 h5
                unfold RNRet at h5
                rw [← hs3.out] at h5
                cases hx : partP (n + 1) (segT T i j) with
                | none =>
                  rw [hx] at h5
                  obtain ⟨r, v5, out5, rfl, hP5, hl5, hb5⟩ := h5
                  have hB5 := hB4.trans hb5
                  replace hx := hide hx
                  clear hs3 hP4 hB4 hb5
                  go_wp2_with fail
                  go_ret
                  exact .no hx.out hP5 (by omega) hB5
                | some x =>
                  rw [hx] at h5
                  obtain ⟨rfl, ⟨v5, hP5⟩, hb5⟩ := h5
                  have hB5 := hB4.trans hb5
                  replace hx := hide hx
                  clear hs3 hP4 hB4 hb5
                  go_wp2_with fail
                  go_ret
                  exact .yes hx.out rfl hP5 hB5
        · have hb := ba.out.resolve_left ca
          obtain ⟨m, hm⟩ : ∃ m : Nat, (m : Int) = lastW andW (segT T i j) 0 + i := ⟨(lastW andW (segT T i j) 0 + i).toNat, by omega⟩
          have him : i ≤ m := by omega
          have hmj : m < j := by omega
          have eN : N = (m : Int) := by rw [hN.out, shiftI, if_neg (by omega)]; omega
          have eO : O = -1 := by rw [hO.out, co]; rfl
          have hstep := hide (part_and n him hmj hj co (by omega))
          subst eN
          clear hO bo ba co ca hb hm
          subst eO
          clear hN
          go_wp2_with fail
          refine (ih.out w2 b v T out i m _ _ hP2.out rfl rfl him (by omega) hT (by omega) (by omega)).mono ?_
          intro e w3 h3
          unfold RNRet at h3
          cases hx : partP n (segT T i m) with
          | none =>
            rw [hx] at h3
            obtain ⟨r, v3, out3, rfl, hP3, hl3, hb3⟩ := h3
            have hnone : Hid (partP (n + 1) (segT T i j) = none) := by rw [Hid, hstep.out, hx]
            have hB3 := hB2.trans hb3
            replace hP3 := hide hP3
            clear hstep hx hP2 hB2 hb3
            go_wp2_with fail
            refine (part_bad w3 b v3 T out3 hP3.out _ _).mono ?_
            rintro e w4 ⟨rfl, hP4, hb4⟩
            have hB4 := hB3.trans hb4
            obtain ⟨qw, fw⟩ := hP4.well_
            replace hP4 := hide hP4
            clear hP3 hB3 hb4
            go_wp2_with fail
            go_ret
            exact .no hnone.out hP4.out (by omega) hB4
          | some x =>
            rw [hx] at h3
            obtain ⟨rfl, ⟨v3, hP3⟩, hb3⟩ := h3
            have hxs := partP_size n _ x hx
            rw [segT_len him (by omega)] at hxs
            have hlen : Hid ((out ++ x.parts out.length).length = out.length + x.size) := by rw [Hid, List.length_append, Q.parts_len]
            have hB3 := hB2.trans hb3
            replace hP3 := hide hP3
            clear hP2 hB2 hb3
            go_wp2_with fail
            refine (ih.out w3 b v3 T _ (m + 1) j _ _ hP3.out (by omega) rfl (by omega) hj hT (by rw [hlen.out]; omega) (by omega)).mono ?_
            intro e w4 h4
            unfold RNRet at h4
            cases hy : partP n (segT T (m + 1) j) with
            | none =>
              rw [hy] at h4
              obtain ⟨r, v4, out4, rfl, hP4, hl4, hb4⟩ := h4
              rw [hlen.out] at hl4
              have hnone : Hid (partP (n + 1) (segT T i j) = none) := by rw [Hid, hstep.out, hx, hy]; rfl
              have hB4 := hB3.trans hb4
              obtain ⟨qw, fw⟩ := hP4.well_
              replace hP4 := hide hP4
              clear hstep hx hy hP3 hB3 hb4
              go_wp2_with fail
              go_ret
              exact .no hnone.out hP4.out (by omega) hB4
            | some y =>
              rw [hy] at h4
              rw [hlen.out] at h4
              obtain ⟨rfl, ⟨v4, hP4⟩, hb4⟩ := h4
              have hys := partP_size n _ y hy
              rw [segT_len (by omega) hj] at hys
              have hyes : Hid (partP (n + 1) (segT T i j) = some (.two 2 x y)) := by rw [Hid, hstep.out, hx, hy]; rfl
              have hB4 := hB3.trans hb4
              have hlen2 : Hid ((out ++ x.parts out.length ++ y.parts (out.length + x.size)).length = out.length + x.size + y.size) := by rw [Hid, List.length_append, hlen.out, Q.parts_len]
              have hparts : Hid (out ++ x.parts out.length ++ y.parts (out.length + x.size) ++ [⟨2, 0, (out.length : Int) + (x.size : Int) - 1, (out.length : Int) + (x.size : Int) + (y.size : Int) - 1, 0, [], false⟩] = out ++ (Q.two 2 x y).parts out.length) := by
                rw [Hid, Q.parts, List.append_assoc, List.append_assoc]
              obtain ⟨qw, fw⟩ := hP4.well_
              replace hP4 := hide hP4
              have hxp := x.size_pos
              have hyp := y.size_pos
              clear hstep hx hy hP3 hB3 hb4
              go_wp2_with fail
              refine (rput_any _ b v4 T _ true ⟨2, 0, (out.length : Int) + (x.size : Int) - 1, (out.length : Int) + (x.size : Int) + (y.size : Int) - 1, 0, [], false⟩ hP4.out (by rw [hlen2.out]; omega)).mono ?_
              rintro e w5 ⟨rfl, ⟨v5, hP5⟩, hb5⟩
              have hB5 := hB4.trans hb5
              rw [hparts.out] at hP5
              rw [hlen2.out]
              replace hP5 := hide hP5
              clear hb5 hB4 hP4 hlen hlen2 hparts
              go_wp2_with fail
              go_ret
              exact .yes hyes.out (by simp [Q.size]; omega) hP5.out hB5
      · have hb := bo.out.resolve_left co
        obtain ⟨m, hm⟩ : ∃ m : Nat, (m : Int) = lastW orW (segT T i j) 0 + i := ⟨(lastW orW (segT T i j) 0 + i).toNat, by omega⟩
        have him : i ≤ m := by omega
        have hmj : m < j := by omega
        have eO : O = (m : Int) := by rw [hO.out, shiftI, if_neg (by omega)]; omega
        have hstep := hide (part_two n him hmj hj (by omega))
        clear hO bo ba co hb hm
        subst eO
        clear hN
        go_wp2_with fail
        refine (ih.out w2 b v T out i m _ _ hP2.out rfl rfl him (by omega) hT (by omega) (by omega)).mono ?_
        intro e w3 h3
        unfold RNRet at h3
        cases hx : partP n (segT T i m) with
        | none =>
          rw [hx] at h3
          obtain ⟨r, v3, out3, rfl, hP3, hl3, hb3⟩ := h3
          have hnone : Hid (partP (n + 1) (segT T i j) = none) := by rw [Hid, hstep.out, hx]
          have hB3 := hB2.trans hb3
          replace hP3 := hide hP3
          clear hstep hx hP2 hB2 hb3
          go_wp2_with fail
          refine (part_bad w3 b v3 T out3 hP3.out _ _).mono ?_
          rintro e w4 ⟨rfl, hP4, hb4⟩
          have hB4 := hB3.trans hb4
          obtain ⟨qw, fw⟩ := hP4.well_
          replace hP4 := hide hP4
          clear hP3 hB3 hb4
          go_wp2_with fail
          go_ret
          exact .no hnone.out hP4.out (by omega) hB4
        | some x =>
          rw [hx] at h3
          obtain ⟨rfl, ⟨v3, hP3⟩, hb3⟩ := h3
          have hxs := partP_size n _ x hx
          rw [segT_len him (by omega)] at hxs
          have hlen : Hid ((out ++ x.parts out.length).length = out.length + x.size) := by rw [Hid, List.length_append, Q.parts_len]
          have hB3 := hB2.trans hb3
          replace hP3 := hide hP3
          clear hP2 hB2 hb3
          go_wp2_with fail
          refine (ih.out w3 b v3 T _ (m + 1) j _ _ hP3.out (by omega) rfl (by omega) hj hT (by rw [hlen.out]; omega) (by omega)).mono ?_
          intro e w4 h4
          unfold RNRet at h4
          cases hy : partP n (segT T (m + 1) j) with
          | none =>
            rw [hy] at h4
            obtain ⟨r, v4, out4, rfl, hP4, hl4, hb4⟩ := h4
            rw [hlen.out] at hl4
            have hnone : Hid (partP (n + 1) (segT T i j) = none) := by rw [Hid, hstep.out, hx, hy]; rfl
            have hB4 := hB3.trans hb4
            obtain ⟨qw, fw⟩ := hP4.well_
            replace hP4 := hide hP4
            clear hstep hx hy hP3 hB3 hb4
            go_wp2_with fail
            go_ret
            exact .no hnone.out hP4.out (by omega) hB4
          | some y =>
            rw [hy] at h4
            rw [hlen.out] at h4
            obtain ⟨rfl, ⟨v4, hP4⟩, hb4⟩ := h4
            have hys := partP_size n _ y hy
            rw [segT_len (by omega) hj] at hys
            have hyes : Hid (partP (n + 1) (segT T i j) = some (.two 1 x y)) := by rw [Hid, hstep.out, hx, hy]; rfl
            have hB4 := hB3.trans hb4
            have hlen2 : Hid ((out ++ x.parts out.length ++ y.parts (out.length + x.size)).length = out.length + x.size + y.size) := by rw [Hid, List.length_append, hlen.out, Q.parts_len]
            have hparts : Hid (out ++ x.parts out.length ++ y.parts (out.length + x.size) ++ [⟨1, 0, (out.length : Int) + (x.size : Int) - 1, (out.length : Int) + (x.size : Int) + (y.size : Int) - 1, 0, [], false⟩] = out ++ (Q.two 1 x y).parts out.length) := by
              rw [Hid, Q.parts, List.append_assoc, List.append_assoc]
            obtain ⟨qw, fw⟩ := hP4.well_
            replace hP4 := hide hP4
            have hxp := x.size_pos
            have hyp := y.size_pos
            clear hstep hx hy hP3 hB3 hb4
            go_wp2_with fail
            refine (rput_any _ b v4 T _ true ⟨1, 0, (out.length : Int) + (x.size : Int) - 1, (out.length : Int) + (x.size : Int) + (y.size : Int) - 1, 0, [], false⟩ hP4.out (by rw [hlen2.out]; omega)).mono ?_
            rintro e w5 ⟨rfl, ⟨v5, hP5⟩, hb5⟩
            have hB5 := hB4.trans hb5
            rw [hparts.out] at hP5
            rw [hlen2.out]
            replace hP5 := hide hP5
            clear hb5 hB4 hP4 hlen hlen2 hparts
            go_wp2_with fail
            go_ret
            exact .yes hyes.out (by simp [Q.size]; omega) hP5.out hB5
    · have e : i = j := by omega
      subst e
      have hnone : Hid (partP (n + 1) (segT T i i) = none) := by rw [Hid, segT_nil, partP, if_pos rfl]
      go_enter Tryd.func46, Tryd.ntmps46
      go_wp2_with fail
      refine (bad_any _ b v T out true h.out).mono ?_
      rintro e w2 ⟨rfl, hP2, hb2⟩
      go_wp2_with fail
      go_ret
      exact .no hnone.out hP2 (by omega) hb2
end Go.Proofs.YtnbfblikpoblgaaDoor
