/-
  The spans of two plans, the one's behind the other's.
-/
import Derived.Test.YtnnjcedlomfhoaaGreatDoorHPlanG
namespace Go.Proofs.YtnnjcedlomfhoaaGreatDoor
open Go.RowKit
set_option linter.unusedVariables false
theorem span_info : (Tryz.prog.info? 34).map (fun i => (i.zero, i.size, i.bytes)) = some (some (.agg #[.int .i64 0, .slice none 0 0, .slice none 0 0]), 3, 56) := by kernel_rfl
theorem append_none_run (A B : Option Addr) (n d : Nat) (w : World) : (Builtin.append_ #[25, 25] 25 #[.slice A n n, .slice B 0 d]).run Tryz.prog w = .ok (.slice A n n) w := by
  obtain ⟨i, hi, he⟩ := Option.map_eq_some_iff.1 span_info
  simp [Builtin.append_, run_underlying Tryz.underlying25, sizeOf, typeInfo, hi, Builtin.lenOf]
  have hf : (Builtin.firstCells i.size 0 (.slice B 0 d)).run Tryz.prog w = .ok #[] w := by
    cases B with
    | none => exact run_firstCells_none w i.size 0 0 d
    | some b => exact run_firstCells_some w i.size 0 b 0 d [] (by simp) (fun j v h => by simp at h)
  rw [hf]
  cases A <;> simp [storeCells]
theorem spans_join {w w' : World} {A B : Option Addr} {n m : Nat} {l r : List SpanV} (hp : SpansAt w A n l) (hq : SpansAt w B m r) {vs1 vs2 : List (List Value)} (h1 : vs1.length = l.length) (h2 : vs2.length = r.length)
    (hs1 : ∀ (k : Nat) (cs : List Value) (s : SpanV), vs1[k]? = some cs → l[k]? = some s → SpanR w cs s) (hs2 : ∀ (k : Nat) (cs : List Value) (s : SpanV), vs2[k]? = some cs → r[k]? = some s → SpanR w cs s)
    (hb : Below w.heap.size w w') {v : Value} (ho : w'.ownsRow w.heap.size 34 3 v (n + m) (vs1.flatten ++ vs2.flatten)) : ∃ A' k', v = .slice A' (n + m) k' ∧ n + m ≤ k' ∧ SpansAt w' A' (n + m) (l ++ r) := by
  have hl : n + m = (l ++ r).length := by rw [List.length_append, ← hp.1, ← hq.1]
  have hT : ∃ A' k', v = .slice A' (n + m) k' ∧ n + m ≤ k' ∧ TB w' 34 A' := by
    rcases ho.2 with ⟨rfl, e⟩ | ⟨g, cap, cur, rfl, _, hh, hc, _⟩
    · exact ⟨none, 0, by rw [e], by omega, TB.none_ _ _⟩
    · exact ⟨_, cap, rfl, hc, fun ad e => by cases e; exact ⟨_, _, hh⟩⟩
  obtain ⟨A', k', rfl, hk, hT⟩ := hT
  have hR := Reads.of_own ho
  refine ⟨A', k', rfl, hk, hl, hT, vs1 ++ vs2, by rw [List.length_append, List.length_append, h1, h2], by rw [List.flatten_append]; exact hR, fun k cs s e1 e2 => ?_⟩
  rcases Nat.lt_or_ge k vs1.length with hlt | hge
  · rw [List.getElem?_append_left hlt] at e1
    rw [List.getElem?_append_left (by omega)] at e2
    exact (hs1 k cs s e1 e2).below hb
  · rw [List.getElem?_append_right hge] at e1
    rw [List.getElem?_append_right (by omega), ← h1] at e2
    exact (hs2 _ cs s e1 e2).below hb
theorem spans_one {w : World} {vs : List (List Value)} {l : List SpanV} (hl : vs.length = l.length) (hs : ∀ (k : Nat) (cs : List Value) (s : SpanV), vs[k]? = some cs → l[k]? = some s → SpanR w cs s) : ∀ u ∈ vs.flatten, u.oneCell' = true := by
  intro u hu
  obtain ⟨cs, hcs, hu⟩ := List.mem_flatten.1 hu
  obtain ⟨k, hk, e⟩ := List.getElem_of_mem hcs
  obtain ⟨fA, fn, fc, tA, tn, tc, e2, -, -⟩ := hs k cs (l[k]'(by omega)) (by rw [List.getElem?_eq_getElem hk, e]) (List.getElem?_eq_getElem (by omega))
  subst e2
  simp at hu
  rcases hu with rfl | rfl | rfl <;> rfl
theorem append_spans (w : World) {A B : Option Addr} {n m d : Nat} {l r : List SpanV} (hp : SpansAt w A n l) (hq : SpansAt w B m r) (hn : n ≤ 1000) (hm : m ≤ 1000) :
    ∃ A' k' w', (Builtin.append_ #[25, 25] 25 #[.slice A n n, .slice B m d]).run Tryz.prog w = .ok (.slice A' (n + m) k') w' ∧ n + m ≤ k' ∧ SpansAt w' A' (n + m) (l ++ r) ∧ Below w.heap.size w w' := by
  obtain ⟨i, hi, he⟩ := Option.map_eq_some_iff.1 span_info
  have hz : i.zero = some (.agg #[.int .i64 0, .slice none 0 0, .slice none 0 0]) := congrArg (·.1) he
  have hsz : i.size = 3 := congrArg (·.2.1) he
  have hby : i.bytes = 56 := congrArg (·.2.2) he
  obtain ⟨h0, hT, vs1, h1, hr1, hs1⟩ := id hp
  obtain ⟨h0', hT', vs2, h2, hr2, hs2⟩ := id hq
  by_cases hm0 : m = 0
  · subst hm0
    have e : r = [] := List.eq_nil_of_length_eq_zero h0'.symm
    subst e
    refine ⟨A, n, w, append_none_run A B n d w, by omega, ?_, Below.refl _ _⟩
    rw [List.append_nil]
    exact hp
  · obtain ⟨ad, rfl, hab, hc2⟩ := hr2.2 (by omega)
    have key : ∃ v' w', (Builtin.append_ #[25, 25] 25 #[.slice A n n, .slice (some ad) m d]).run Tryz.prog w = .ok v' w' ∧ w'.ownsRow w.heap.size 34 3 v' (n + m) (vs1.flatten ++ vs2.flatten) ∧ w.grownBy w' none := by
      cases A with
      | some a =>
        refine run_append_arg_grows (P := Tryz.prog) w 25 25 34 i _ 3 56 Tryz.underlying25 hi hz hsz hby rfl (by decide) a n n _ hr1.1 (fun j u hj => ?_) ad m d _ hr2.1 hc2 (by omega) (by unfold maxLen; omega) (by omega)
        have hn0 : 0 < n := by
          have := (List.getElem?_eq_some_iff.1 hj).1
          have := hr1.1
          omega
        obtain ⟨a', e, -, hc⟩ := hr1.2 hn0
        cases e
        exact hc j u hj
      | none =>
        have hn0 : n = 0 := by
          rcases Nat.eq_zero_or_pos n with h | h
          · exact h
          · obtain ⟨a', e, -⟩ := hr1.2 h
            cases e
        subst hn0
        have e1 : vs1.flatten = [] := List.eq_nil_of_length_eq_zero (by rw [hr1.1])
        rw [e1]
        obtain ⟨v', w', hrun, r1, r2, _⟩ := run_append_own (P := Tryz.prog) w w.heap.size 25 25 34 i _ 3 56 Tryz.underlying25 hi hz hsz hby rfl (by decide) (.slice none 0 0) 0 [] (World.ownsRow_nil w _ 34 3) ad m d _ hr2.1 hc2 (spans_one h2 hs2) (by unfold maxLen; omega) (by omega) (Nat.le_refl _)
        exact ⟨v', w', hrun, r1, r2⟩
    obtain ⟨v', w', hrun, ho, hg⟩ := key
    have hb := (Below.refl w.heap.size w).grown hg (Nat.le_refl _) (fun k hk => by cases hk)
    obtain ⟨A', k', rfl, hk, hS⟩ := spans_join hp hq h1 h2 hs1 hs2 hb ho
    exact ⟨A', k', w', hrun, hk, hS, hb⟩
end Go.Proofs.YtnnjcedlomfhoaaGreatDoor
