/-
  The plain law of plans: an entry that holds for a question stands in a span of its plan, or that is all. No program in sight.
-/
import Derived.Test.YtnnjcedlomfhoaaGreatDoorHPlanQ
import Derived.Test.YtnnjcedlomfhoaaGreatDoorHHeadLaw
import Derived.Test.YtnnjcedlomfhoaaGreatDoorHA
namespace Go.Proofs.YtnnjcedlomfhoaaGreatDoor
set_option linter.unusedVariables false
def inSpan (k : List UInt8) (s : SpanV) : Bool := !lessB k s.from_ && (s.to_.isEmpty || lessB k s.to_)
def hit (K : Int → List UInt8) (p : PlanV) : Prop := p.all = true ∨ ∃ s ∈ p.spans, inSpan (K s.by_) s = true
theorem lessB_pre : ∀ b r : List UInt8, lessB (b ++ r) b = false
  | [], [] => rfl
  | [], _ :: _ => rfl
  | a :: b, r => by rw [List.cons_append, lessB, if_pos rfl]; exact lessB_pre b r
theorem lessB_nil (r : List UInt8) : lessB r [] = false := by cases r <;> rfl
theorem begins_hit (K : Int → List UInt8) (b r : List UInt8) (c : Cost) (h : K 0 = b ++ r) : hit K (beginsP b c) := by
  refine .inr ⟨⟨0, b, aboveB b⟩, by simp [beginsP], ?_⟩
  unfold inSpan
  dsimp only
  rw [h, lessB_pre, Bool.not_false, Bool.true_and]
  cases hf : allFF b with
  | true => rw [aboveB_ones b hf]; rfl
  | false => rw [above_more b r hf, Bool.or_true]
theorem held_in {v : Int} (h0 : 0 ≤ v) (h1 : v ≤ 281474976710655) : heldI v = v := by unfold heldI; rw [if_neg (by omega), if_neg (by omega)]
theorem numsB_one (v : Int) : numsB [v] = numB (heldI v) := by simp [numsB]
theorem numbers_hit (K : Int → List UInt8) (by_ fr tt v : Int) (c : Cost) (r : List UInt8) (h : K by_ = numB (heldI v) ++ r) (h0 : 0 ≤ v) (h1 : v ≤ 281474976710655) (h2 : fr ≤ v) (h3 : v ≤ tt) : hit K (numbersP by_ fr tt c) := by
  unfold numbersP
  rw [if_neg (by omega)]
  refine .inr ⟨_, List.mem_singleton.2 rfl, ?_⟩
  unfold inSpan
  dsimp only
  rw [h, numsB_one, ← List.append_nil (numB (heldI (max fr 0))), lessB_numB, held_in h0 h1, held_in (v := max fr 0) (by omega) (by omega)]
  have e1 : (if v = max fr 0 then lessB r [] else decide (v < max fr 0)) = false := by
    split
    · exact lessB_nil r
    · exact decide_eq_false (by omega)
  rw [e1, Bool.not_false, Bool.true_and]
  split
  · rename_i hlt
    have e2 := lessB_numB v (min tt 281474976710655 + 1) r []
    rw [held_in h0 h1, held_in (v := min tt 281474976710655 + 1) (by omega) (by omega), if_neg (by omega), decide_eq_true (by omega), List.append_nil] at e2
    rw [numsB_one, held_in (v := min tt 281474976710655 + 1) (by omega) (by omega), e2, Bool.or_true]
  · rfl
theorem compared_hit (K : Int → List UInt8) (by_ op n v : Int) (r : List UInt8) (h : K by_ = numB (heldI v) ++ r) (h0 : 0 ≤ v) (h1 : v ≤ 281474976710655) (hc : cmpI v op n = true) : hit K (comparedP by_ op n) := by
  unfold comparedP
  unfold cmpI at hc
  split
  · rename_i e
    rw [if_pos e] at hc
    have : v = n := by simpa using hc
    exact numbers_hit K _ _ _ v _ r h h0 h1 (by omega) (by omega)
  split
  · rename_i e1 e
    rw [if_neg e1, if_neg (by omega), if_pos e] at hc
    have : v < n := by simpa using hc
    exact numbers_hit K _ _ _ v _ r h h0 h1 (by omega) (by omega)
  split
  · rename_i e1 e2 e
    rw [if_neg e1, if_neg (by omega), if_neg e2, if_pos e] at hc
    have : v ≤ n := by simpa using hc
    exact numbers_hit K _ _ _ v _ r h h0 h1 (by omega) (by omega)
  split
  · rename_i e1 e2 e3 e
    rw [if_neg e1, if_neg (by omega), if_neg e2, if_neg e3, if_pos e] at hc
    have : n < v := by simpa using hc
    exact numbers_hit K _ _ _ v _ r h h0 h1 (by omega) (by omega)
  split
  · rename_i e1 e2 e3 e4 e
    rw [if_neg e1, if_neg (by omega), if_neg e2, if_neg e3, if_neg e4] at hc
    have : n ≤ v := by simpa [e] using hc
    exact numbers_hit K _ _ _ v _ r h h0 h1 (by omega) (by omega)
  · exact .inl rfl
theorem flatMap_pre {a b : List UInt8} (h : a <+: b) : a.flatMap txtF <+: b.flatMap txtF := by
  obtain ⟨t, rfl⟩ := h
  exact ⟨t.flatMap txtF, by rw [List.flatMap_append]⟩
/-- What an entry must be to be in a catalogue. -/
def okF (f : FileV) : Prop := Lib.validD f.name = true ∧ (0 ≤ f.size ∧ f.size ≤ 281474976710655) ∧ (0 ≤ f.dos ∧ f.dos ≤ 4294967295) ∧ (0 ≤ f.crc ∧ f.crc ≤ 4294967295)
/-- An entry's keys in each order, whatever follows. -/
def keyF (f : FileV) (r : List UInt8) (by_ : Int) : List UInt8 :=
  if by_ = 0 then textB f.name ++ r else if by_ = 1 then numB (heldI f.size) ++ r else if by_ = 2 then numB (heldI f.dos) ++ r else numB (heldI f.crc) ++ r
theorem named_hit (f : FileV) (r : List UInt8) (x : Ask) (hv : Lib.validD f.name = true) (ht : namedN f.name x = true) : hit (keyF f r) (namedP x) := by
  unfold namedP
  unfold namedN at ht
  by_cases h7 : x.op = 7
  · rw [if_neg (by omega)] at ht
    rw [if_pos h7]
    cases hg : globP x.text with
    | none => exact .inl rfl
    | some ps =>
      dsimp only
      have hm : matchP ps (runesG (str f.name)) = true := by
        rw [globM, hg] at ht
        simp only [Bool.and_eq_true, h7] at ht
        simpa using ht.2
      obtain ⟨h1, h2⟩ := head_law ps f.name hv hm
      split
      · rename_i ha
        refine begins_hit _ _ r _ ?_
        rw [← h2 ha]; rfl
      · split
        · exact .inl rfl
        · obtain ⟨t, ht2⟩ := flatMap_pre h1
          refine begins_hit _ _ (t ++ [0, 1] ++ r) _ ?_
          show textB f.name ++ r = _
          unfold textB
          rw [← ht2]
          simp only [List.append_assoc]
  · rw [if_neg h7]
    split
    · rename_i h1
      rw [if_pos (by omega)] at ht
      refine begins_hit _ _ r _ ?_
      have : f.name = x.text := by simpa [h1] using ht
      rw [← this]; rfl
    · exact .inl rfl
theorem term_hit (f : FileV) (r : List UInt8) (found : List (List UInt8)) (x : Ask) (hf : okF f) (ht : termN f found x = true) : hit (keyF f r) (planTP x) := by
  obtain ⟨hv, hs, hd, hc⟩ := hf
  unfold planTP
  unfold termN at ht
  split
  · rename_i h
    rw [if_pos h] at ht
    exact named_hit f r x hv ht
  split
  · rename_i h4 h
    rw [if_neg h4, if_pos h] at ht
    exact compared_hit _ _ _ _ f.size r rfl hs.1 hs.2 ht
  split
  · rename_i h4 h5 h
    rw [if_neg h4, if_neg h5, if_pos h] at ht
    exact compared_hit _ _ _ _ f.dos r rfl hd.1 (by omega) ht
  split
  · rename_i h4 h5 h6 h
    rw [if_neg h4, if_neg h5, if_neg h6, if_pos h.1] at ht
    exact compared_hit _ _ _ _ f.crc r rfl hc.1 (by omega) ht
  · exact .inl rfl
theorem join_hit_and {K : Int → List UInt8} {p q : PlanV} (hp : hit K p) (hq : hit K q) : hit K (joinP 2 p q) := by
  unfold joinP
  rw [if_pos rfl]
  split
  · exact hq
  · exact hp
theorem join_hit_or {K : Int → List UInt8} {k : Int} (hk : k ≠ 2) {p q : PlanV} (h : hit K p ∨ hit K q) : hit K (joinP k p q) := by
  unfold joinP
  rw [if_neg hk]
  split
  · exact .inl rfl
  · rename_i ha
    have ha' : p.all = false ∧ q.all = false := by simpa using ha
    rcases h with (h | ⟨s, hs, h⟩) | (h | ⟨s, hs, h⟩)
    · rw [ha'.1] at h; cases h
    · exact .inr ⟨s, List.mem_append_left _ hs, h⟩
    · rw [ha'.2] at h; cases h
    · exact .inr ⟨s, List.mem_append_right _ hs, h⟩
theorem plan_hit (f : FileV) (r : List UInt8) (found : List (List UInt8)) (hf : okF f) : ∀ q : Q, flatQ q → evN f found q = true → hit (keyF f r) (planQ q)
  | .term a, _, h => term_hit f r found a hf h
  | .neg q, h, _ => h.elim
  | .two k x y, hq, h => by
    rw [evN] at h
    rcases hq.1 with e | e
    · subst e
      rw [if_pos rfl, Bool.or_eq_true] at h
      refine join_hit_or (by decide) ?_
      rcases h with h | h
      · exact .inl (plan_hit f r found hf x hq.2.1 h)
      · exact .inr (plan_hit f r found hf y hq.2.2 h)
    · subst e
      rw [if_neg (by decide), Bool.and_eq_true] at h
      exact join_hit_and (plan_hit f r found hf x hq.2.1 h.1) (plan_hit f r found hf y hq.2.2 h.2)
end Go.Proofs.YtnnjcedlomfhoaaGreatDoor
