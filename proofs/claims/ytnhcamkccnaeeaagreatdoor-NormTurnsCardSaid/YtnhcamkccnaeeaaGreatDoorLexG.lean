/-
  The example of layer 23 holds: the contract of inquestlaw23.wakes.
-/
import Derived.Test.YtnhcamkccnaeeaaGreatDoorLexF
namespace Go.Proofs.YtnhcamkccnaeeaaGreatDoor
open Go.RowKit
set_option linter.unusedVariables false

/-- A row of tokens that some call has made reads as a list. -/
def RO (w : World) (B : Nat) (A : Option Addr) (n : Nat) (l : List Tok) : Prop :=
  l.length = n ∧ (0 < n → ∃ g, A = some ⟨g, 0, none⟩ ∧ g < B ∧ ∀ (k j : Nat) (hk : k < l.length), j < 4 → w.cell? ⟨g, k * 4 + j, none⟩ = (tv l[k])[j]?)
section
variable {w w' : World} {base B B' n : Nat} {v : Value} {l : List Tok} {A : Option Addr}
theorem OT.reads (h : OT w base v n l) : ∃ A c, v = .slice A n c ∧ RO w w.heap.size A n l ∧ n ≤ c ∧ c ≤ maxLen := by
  rcases h.parts with ⟨rfl, rfl, rfl⟩ | ⟨g, cap, rfl, h1, h2, h3, h4⟩
  · exact ⟨none, 0, rfl, ⟨rfl, fun h => absurd h (by omega)⟩, Nat.le_refl _, Nat.zero_le _⟩
  · exact ⟨_, _, rfl, ⟨h.len, fun _ => ⟨g, rfl, h4, fun k j hk hj => h.cell (by have := h.len; omega) hk hj⟩⟩, h1, h2⟩
theorem RO.keep (h : RO w B A n l) (hk : ∀ p : Addr, p.block < B → w'.cell? p = w.cell? p) : RO w' B A n l :=
  ⟨h.1, fun hn => by
    obtain ⟨g, e, hg, hc⟩ := h.2 hn
    exact ⟨g, e, hg, fun k j h1 h2 => (hk ⟨g, k * 4 + j, none⟩ hg).trans (hc k j h1 h2)⟩⟩
theorem RO.more (h : RO w B A n l) (hB : B ≤ B') : RO w B' A n l :=
  ⟨h.1, fun hn => by
    obtain ⟨g, e, hg, hc⟩ := h.2 hn
    exact ⟨g, e, by omega, hc⟩⟩
theorem RO.below (h : RO w B A n l) (hb : Below B w w') : RO w' B A n l := h.keep fun _ hp => hb.cell hp
theorem RO.elem (h : RO w B A n l) {k : Nat} (hk : k < n) (hl : k < l.length) : ∃ g, A = some ⟨g, 0, none⟩ ∧ g < B ∧
    w.cell? ⟨g, k * 4, none⟩ = some (.int .i64 l[k].kind) ∧ w.cell? ⟨g, k * 4 + 1, none⟩ = some (.string (str l[k].text)) ∧
    w.cell? ⟨g, k * 4 + 2, none⟩ = some (.int .i64 l[k].n) ∧ w.cell? ⟨g, k * 4 + 3, none⟩ = some (.int .i64 (l[k].pos : Int)) := by
  obtain ⟨g, e, hg, hc⟩ := h.2 (by omega)
  exact ⟨g, e, hg, hc k 0 hl (by omega), hc k 1 hl (by omega), hc k 2 hl (by omega), hc k 3 hl (by omega)⟩
end
def exampleL : List UInt8 := [115, 105, 122, 101, 32, 62, 61, 32, 49, 48]
theorem example_lex : lexL exampleL = [⟨1, [115, 105, 122, 101], 0, 0⟩, ⟨4, [62, 61], 0, 5⟩, ⟨2, [], 10, 8⟩] := by kernel_rfl
theorem example_at : lexAt exampleL = 10 := by kernel_rfl
theorem example_err : lexE exampleL = 0 := by kernel_rfl

end Go.Proofs.YtnhcamkccnaeeaaGreatDoor
