/-
  The law of a scope whose run comes to one label, jumps back to it, and leaves by another.
-/
import Derived.ScopeJumps
import Derived.WalkMore
import Derived.Test.YtnhcamkccnaeeaaGreatDoorBase
namespace Go.Proofs.YtnhcamkccnaeeaaGreatDoor

/-- As Q; by a goto to l0: J; by a goto to l1: D. -/
def jump2 (l0 : Nat) (J : Act → World → Prop) (l1 : Nat) (D : Act → World → Prop) (Q : Exit → Act → World → Prop) : Exit → Act → World → Prop
  | .goto l, a, w => (l = l0 ∧ J a w) ∨ (l = l1 ∧ D a w)
  | e, a, w => Q e a w

section
variable {P : Program} {a : Act} {w : World} {Q : Exit → Act → World → Prop}
theorem wp_scope_two {c rb r1 : Code} (l0 l1 : Nat) (h0 : findLabel c l0 = some (.seq .skip rb)) (h1 : findLabel c l1 = some r1) (J D : Act → World → Prop) (μ : Act → World → Nat)
    (passb : ∀ a w, J a w → rb.wp P (jump2 l0 (fun a' w' => J a' w' ∧ μ a' w' < μ a w) l1 D Q) a w)
    (bad : ∀ a w, D a w → r1.wp P (Exit.noGoto Q) a w)
    (first : (∀ a w, J a w → rb.wp P (jump2 l0 J l1 D Q) a w) → c.wp P (jump2 l0 J l1 D Q) a w) : (Code.scope c).wp P Q a w := by
  intro b k cs
  have pass : ∀ a w, J a w → (Code.seq .skip rb).wp P (jump2 l0 (fun a' w' => J a' w' ∧ μ a' w' < μ a w) l1 D Q) a w := fun a w hJ => wp_seq (wp_skip (passb a w hJ))
  generalize hr0 : Code.seq .skip rb = r0 at *
  have g0 : gotoIn l0 (.inScope c :: k) = some (.code r0 :: .inScope c :: k) := by simp [gotoIn, h0]
  have g1 : gotoIn l1 (.inScope c :: k) = some (.code r1 :: .inScope c :: k) := by simp [gotoIn, h1]
  have keyD : ∀ a w, D a w → ∃ e a' w', Q e a' w' ∧ Arrives P (lone (b.at a (.code r1 :: .inScope c :: k)) cs w) b k cs e a' w' := by
    intro a w hD
    obtain ⟨e, a₁, w₁, hq, harr⟩ := bad a w hD b (.inScope c :: k) cs
    cases e with
    | normal => exact ⟨.normal, a₁, w₁, hq, Steps.trans harr (.one step_inScope)⟩
    | exit id => exact ⟨.exit id, a₁, w₁, hq, fun k' hk => harr k' (by simp [exitTo, hk])⟩
    | goto l' => exact hq.elim
    | ret => exact ⟨_, a₁, w₁, hq, harr⟩
    | panic ch => exact ⟨_, a₁, w₁, hq, harr⟩
    | outgrown => exact ⟨_, a₁, w₁, hq, harr⟩
  have key : ∀ n a w, μ a w = n → J a w → ∃ e a' w', Q e a' w' ∧ Arrives P (lone (b.at a (.code r0 :: .inScope c :: k)) cs w) b k cs e a' w' := by
    intro n
    induction n using Nat.strongRecOn with
    | _ n ih =>
      intro a w hn hJ
      obtain ⟨e, a₁, w₁, hq, harr⟩ := pass a w hJ b (.inScope c :: k) cs
      cases e with
      | normal => exact ⟨.normal, a₁, w₁, hq, Steps.trans harr (.one step_inScope)⟩
      | exit id => exact ⟨.exit id, a₁, w₁, hq, fun k' hk => harr k' (by simp [exitTo, hk])⟩
      | goto l' =>
        rcases hq with ⟨rfl, hJ', hlt⟩ | ⟨rfl, hD⟩
        · obtain ⟨e₂, a₂, w₂, hq₂, harr₂⟩ := ih _ (by omega) a₁ w₁ rfl hJ'
          exact ⟨e₂, a₂, w₂, hq₂, .of_steps (harr _ g0) harr₂⟩
        · obtain ⟨e₂, a₂, w₂, hq₂, harr₂⟩ := keyD a₁ w₁ hD
          exact ⟨e₂, a₂, w₂, hq₂, .of_steps (harr _ g1) harr₂⟩
      | ret => exact ⟨_, a₁, w₁, hq, harr⟩
      | panic ch => exact ⟨_, a₁, w₁, hq, harr⟩
      | outgrown => exact ⟨_, a₁, w₁, hq, harr⟩
  have weak : ∀ a w, J a w → rb.wp P (jump2 l0 J l1 D Q) a w := fun a w hJ => Code.wp_mono (fun e a' w' hq => by
    cases e with
    | goto l' =>
      rcases hq with ⟨rfl, hJ', _⟩ | hD
      · exact .inl ⟨rfl, hJ'⟩
      · exact .inr hD
    | normal => exact hq
    | exit id => exact hq
    | ret => exact hq
    | panic ch => exact hq
    | outgrown => exact hq) (passb a w hJ)
  obtain ⟨e, a₁, w₁, hq, harr⟩ := first weak b (.inScope c :: k) cs
  cases e with
  | normal => exact ⟨.normal, a₁, w₁, hq, .head step_scope (Steps.trans harr (.one step_inScope))⟩
  | exit id => exact ⟨.exit id, a₁, w₁, hq, fun k' hk => .head step_scope (harr k' (by simp [exitTo, hk]))⟩
  | goto l' =>
    rcases hq with ⟨rfl, hJ⟩ | ⟨rfl, hD⟩
    · obtain ⟨e₂, a₂, w₂, hq₂, harr₂⟩ := key _ a₁ w₁ rfl hJ
      exact ⟨e₂, a₂, w₂, hq₂, .of_steps (.head step_scope (harr _ g0)) harr₂⟩
    · obtain ⟨e₂, a₂, w₂, hq₂, harr₂⟩ := keyD a₁ w₁ hD
      exact ⟨e₂, a₂, w₂, hq₂, .of_steps (.head step_scope (harr _ g1)) harr₂⟩
  | ret => exact ⟨_, a₁, w₁, hq, .of_steps (.one step_scope) harr⟩
  | panic ch => exact ⟨_, a₁, w₁, hq, .of_steps (.one step_scope) harr⟩
  | outgrown => exact ⟨_, a₁, w₁, hq, .of_steps (.one step_scope) harr⟩
end
end Go.Proofs.YtnhcamkccnaeeaaGreatDoor
