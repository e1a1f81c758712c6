/-
  Contract of parse.Parse: any text is the question that the grammar says, or refused.
-/
import Derived.Test.YtnhcamkccnaeeaaGreatDoorParF
import Derived.Test.YtnhcamkccnaeeaaGreatDoorParG
import Derived.Test.YtnhcamkccnaeeaaGreatDoorParH
import Derived.Test.YtnhcamkccnaeeaaGreatDoorLexF
namespace Go.Proofs.YtnhcamkccnaeeaaGreatDoor
open Go.RowKit
set_option linter.unusedVariables false

theorem quotedL_text (n : Nat) (l : List UInt8) (hn : l.length ≤ n) (x : List UInt8 × Nat) (h : quotedL l = some x) : x.1.length ≤ l.length := by
  induction n generalizing l x with
  | zero =>
    have : l = [] := List.eq_nil_of_length_eq_zero (by omega)
    subst this
    simp [quotedL_nil] at h
  | succ n ih =>
    cases l with
    | nil => simp [quotedL_nil] at h
    | cons c r =>
      by_cases h1 : c = 34
      · subst h1
        rw [quotedL_end] at h
        simp at h; subst h; simp
      · by_cases h2 : c = 92
        · subst h2
          cases r with
          | nil => rw [quotedL_back] at h; simp at h
          | cons d r =>
            rw [quotedL_esc] at h
            split at h
            · simp at h
              obtain ⟨a, b, hq, rfl⟩ := h
              have := ih r (by simp at hn; omega) _ hq
              simp at *; omega
            · simp at h
        · rw [quotedL_byte c r h1 h2] at h
          simp at h
          obtain ⟨a, b, hq, rfl⟩ := h
          have := ih r (by simp at hn; omega) _ hq
          simp at *; omega
theorem tokL_text (l : List UInt8) (p : Nat) (x : Tok × Nat) (h : tokL l p = some x) : x.1.text.length ≤ l.length := by
  unfold tokL at h
  split at h
  · simp at h; subst h
    exact takeWhile_len smallB l
  · split at h
    · split at h
      · cases h
      · simp at h; subst h; simp
    · split at h
      · simp at h
        obtain ⟨a, b, hq, rfl⟩ := h
        have := quotedL_text _ _ (Nat.le_refl _) _ hq
        simp at *; omega
      · split at h
        · cases h
        · simp at h; subst h
          exact (markL_len l).1
theorem toksF_text (f p : Nat) (l : List UInt8) : (toksF f p l).1.length ≤ l.length ∧ ∀ t ∈ (toksF f p l).1, t.text.length ≤ l.length := by
  induction f generalizing p l with
  | zero => simp [toksF]
  | succ f ih =>
    cases l with
    | nil => simp [toksF]
    | cons c r =>
      rw [toksF]
      split
      · have := ih (p + 1) r
        refine ⟨by simp; omega, fun t ht => ?_⟩
        have := this.2 t ht
        simp; omega
      · cases ht : tokL (c :: r) p with
        | none => simp
        | some x =>
          obtain ⟨t, k⟩ := x
          have hk := tokL_len _ _ _ ht
          have hx := tokL_text _ _ _ ht
          have h2 := ih (p + k) ((c :: r).drop k)
          simp only [List.length_drop] at h2
          refine ⟨by simp at *; omega, fun t' ht' => ?_⟩
          simp only [List.mem_cons] at ht'
          rcases ht' with rfl | ht'
          · exact hx
          · have := h2.2 t' ht'; omega
theorem lexT_len (L : List UInt8) : (lexL L).length ≤ 400 ∧ ∀ t ∈ lexL L, t.text.length ≤ 400 := by
  unfold lexL
  split
  · simp
  · split
    · have := toksF_text L.length 0 L
      refine ⟨?_, fun t ht => ?_⟩
      · show (toksF L.length 0 L).1.length ≤ _; omega
      · have := this.2 t ht; omega
    · simp

/-- What Parse answers of a text. -/
def parsedL (L : List UInt8) : List Ask := if lexE L = 0 then parseL (lexL L) else []
def parsedE (L : List UInt8) : Int := if lexE L = 0 then parseE (lexL L) else lexE L
def PRet (W : World) (l : List Ask) (e : Int) (en : Ending) (w' : World) : Prop :=
  ∃ v, en = .returned (.tuple #[v, .int .i64 e]) ∧ OA w' W.heap.size v l.length l ∧ Below W.heap.size W w'
theorem PRet.mk {W w' : World} {l l' : List Ask} {e e' : Int} {v : Value} {n : Nat} (h : OA w' W.heap.size v n l') (hl : l = l') (he : e = e') (hb : Below W.heap.size W w') :
    PRet W l e (.returned (.tuple #[v, .int .i64 e'])) w' := by
  subst hl he
  exact ⟨v, rfl, by rw [h.len]; exact h, hb⟩

set_option maxRecDepth 100000 in
set_option maxHeartbeats 2000000 in
theorem parse_any (s : ByteArray) (w : World) (hs : s.size ≤ 1000000) (hA : Asp w) (hgb : 4 < w.heap.size) :
    Calls Tryz.prog 29 #[.string s] w (PRet w (parsedL s.data.toList) (parsedE s.data.toList)) := by
  have hA' := hide hA
  clear hA
  have hlx := hide (lexT_len s.data.toList)
  go_enter Tryz.func29, Tryz.ntmps29
  go_wp2_with fail
  refine (tokens_any s w hs).mono ?_
  rintro e w1 ⟨v, rfl, ho, hb1⟩
  by_cases hE : lexE s.data.toList = 0
  · have hl : Hid (parsedL s.data.toList = parseL (lexL s.data.toList)) := by rw [Hid, parsedL, if_pos hE]
    have he : Hid (parsedE s.data.toList = parseE (lexL s.data.toList)) := by rw [Hid, parsedE, if_pos hE]
    rw [hE]
    obtain ⟨hT1, hT2⟩ := hlx.out
    generalize lexL s.data.toList = T at *
    obtain ⟨tA, tc, rfl, hRT, -, htc1, htc2⟩ := ho.form
    have hRT' := hide hRT
    clear hE ho hlx hRT
    replace hT2 := hide hT2
    go_wp2_with fail
    refine (kinds_any w1).mono ?_
    rintro e w2 ⟨rfl, hK, hb2⟩
    have hsz2 : w1.heap.size < w2.heap.size := by
      obtain ⟨es, clock, h1, _⟩ := hK
      rcases Nat.lt_or_ge w1.heap.size w2.heap.size with h | h
      · exact h
      · rw [Array.getElem?_eq_none h] at h1; cases h1
    have hbw2 := hb1.trans (hb2.mono hb1.size)
    have hP : Hid (PSt (w2.alloc (.cells #[.slice tA T.length tc, .slice none 0 0, .map (some w1.heap.size), .bool true] 101)) w2.heap.size (.slice none 0 0) T [] true) :=
      ⟨tA, tc, w1.heap.size, Blk.new w2 101 _, Reads.alloc ((hRT'.out.below hb2).more (Nat.le_of_lt hsz2)) (Nat.le_refl _) _, htc1, htc2, OA.nil _ _, hsz2, hK.keep (Below.heap_alloc w2 _ _ hsz2), fun t ht => by have := hT2.out t ht; omega⟩
    have hb3 := hbw2.alloc hbw2.size (.cells #[.slice tA T.length tc, .slice none 0 0, .map (some w1.heap.size), .bool true] 101)
    have hA3 := asp_below hA'.out hb3 hgb
    have hgb3 : 4 < w2.heap.size := Nat.lt_of_lt_of_le hgb hbw2.size
    have hsz3 := hbw2.size
    replace hA3 := hide hA3
    clear hK hRT' hb1 hb2 hA'
    go_wp2_with fail
    refine (ors_serve (T.length + 1) _ _ _ T [] hP.out (Nat.lt_succ_self _) (by simp; omega) hA3.out hgb3).mono ?_
    intro e w4 h4
    unfold NRet at h4
    have hpq : Hid (∀ q, orsP (T.length + 1) T = some (q, []) → parseQ T = some q) := by
      intro q h; unfold parseQ; rw [h]
    cases hres : orsP (T.length + 1) T with
    | none =>
      rw [hres] at h4
      obtain ⟨r, v4, T4, out4, rfl, hP4, -, -, hb4⟩ := h4
      have hq : parseQ T = none := by unfold parseQ; rw [hres]
      have hl2 : Hid (parsedL s.data.toList = []) := by rw [Hid, hl.out, parseL, hq]
      have he2 : Hid (parsedE s.data.toList = 19) := by rw [Hid, he.out, parseE, hq]
      have hbw4 := hb3.trans (hb4.mono hsz3)
      obtain ⟨qw, -⟩ := hP4.well_
      clear hres hq hpq hl he hP4 hP hb4 hb3 hA3
      go_wp2_with fail
      go_ret2
      exact PRet.mk (OA.nil _ _) hl2.out he2.out hbw4
    | some x =>
      obtain ⟨q, T4⟩ := x
      rw [hres] at h4
      obtain ⟨rfl, ⟨v4, hP4⟩, hb4⟩ := h4
      have hbw4 := hb3.trans (hb4.mono hsz3)
      obtain ⟨qw, -⟩ := hP4.well_
      obtain ⟨A4, c4, km, hB4, -, -, -, hO4, -⟩ := hP4
      have q0 := hB4.cell 0
      cases T4 with
      | cons t4 r4 =>
        have hq : parseQ T = none := by unfold parseQ; rw [hres]
        have hl2 : Hid (parsedL s.data.toList = []) := by rw [Hid, hl.out, parseL, hq]
        have he2 : Hid (parsedE s.data.toList = 19) := by rw [Hid, he.out, parseE, hq]
        clear hres hq hpq hl he hB4 hO4 hP hb4 hb3 hA3
        go_wp2_with fail
        go_ret2
        exact PRet.mk (OA.nil _ _) hl2.out he2.out hbw4
      | nil =>
        have hq := hpq.out q hres
        have hpl := hide (parseQ_plain T q hq)
        have hsize := (orsP_takes (T.length + 1)) _ _ _ hres
        have hl2 : Hid (parsedL s.data.toList = if 16 < q.depth then [] else if 8 < patsL (q.parts 0) then [] else q.parts 0) := by rw [Hid, hl.out, parseL, hq]
        have he2 : Hid (parsedE s.data.toList = if 16 < q.depth then 11 else if 8 < patsL (q.parts 0) then 17 else 0) := by rw [Hid, he.out, parseE, hq]
        have hdp : Hid (deepL (q.parts 0) = q.depth) := deepL_tree q hpl.out
        have hlen : (q.parts 0).length ≤ 400 := by rw [Q.parts_len]; omega
        rw [List.nil_append, List.length_nil] at hO4
        have q1 := hB4.cell 1
        have hgb4 : w.heap.size ≤ w2.heap.size := hsz3
        clear hres hq hpq hl he hP hb4 hb3 hA3 hpl hsize
        generalize q.parts 0 = l at *
        generalize q.depth = dd at *
        obtain ⟨oA, oc, rfl, hRO, -, hoc1, hoc2⟩ := hO4.form
        replace hB4 := hide hB4
        replace hO4 := hide hO4
        have hsz4 := hbw4.size
        go_wp2_with fail
        refine (deep_any w4 oA l.length oc l hRO (by omega)).mono ?_
        rintro e w5 ⟨rfl, hb5⟩
        rw [hdp.out]
        have hbw5 := hbw4.trans (hb5.mono hsz4)
        have hB5 := hide (hB4.out.below hb5 hB4.out.lt)
        have hO5 := hide (hO4.out.below hb5 (Nat.le_refl _))
        have hRO5 := hide ((hRO.below hb5).more hb5.size)
        have q1 := hB5.out.cell 1
        clear hB4 hO4 hb5 hbw4 qw q0
        by_cases cd : 16 < dd
        · have hl3 : Hid (parsedL s.data.toList = []) := by rw [Hid, hl2.out, if_pos cd]
          have he3 : Hid (parsedE s.data.toList = 11) := by rw [Hid, he2.out, if_pos cd]
          clear hl2 he2 hdp hB5 hO5 hRO5 hRO
          go_wp2_with fail
          go_ret2
          exact PRet.mk (OA.nil _ _) hl3.out he3.out hbw5
        · rw [if_neg cd] at hl2 he2
          go_wp2_with fail
          refine (patterns_any w5 oA l.length oc l hRO5.out (by omega)).mono ?_
          rintro e w6 ⟨rfl, hb6⟩
          have hbw6 := hbw5.trans (hb6.mono hbw5.size)
          have hB6 := hide (hB5.out.below hb6 hB5.out.lt)
          have hO6 := hide (hO5.out.below hb6 (Nat.le_refl _))
          have q1 := hB6.out.cell 1
          clear hB5 hO5 hb6 hbw5 hRO5 hRO
          by_cases cp : 8 < patsL l
          · have hl3 : Hid (parsedL s.data.toList = []) := by rw [Hid, hl2.out, if_pos cp]
            have he3 : Hid (parsedE s.data.toList = 17) := by rw [Hid, he2.out, if_pos cp]
            clear hl2 he2 hdp hO6
            go_wp2_with fail
            go_ret2
            exact PRet.mk (OA.nil _ _) hl3.out he3.out hbw6
          · rw [if_neg cp] at hl2 he2
            go_wp2_with fail
            go_ret2
            exact PRet.mk (hO6.out.more (by omega)) hl2.out he2.out hbw6
  · have hl : Hid (parsedL s.data.toList = []) := by rw [Hid, parsedL, if_neg hE]
    have he : Hid (parsedE s.data.toList = lexE s.data.toList) := by rw [Hid, parsedE, if_neg hE]
    have n1 : (lexE s.data.toList != 0) = true := by simp [hE]
    generalize lexE s.data.toList = ee at *
    clear hE ho
    go_wp2_with fail
    go_ret2
    exact PRet.mk (OA.nil _ _) hl.out he.out hb1
end Go.Proofs.YtnhcamkccnaeeaaGreatDoor
