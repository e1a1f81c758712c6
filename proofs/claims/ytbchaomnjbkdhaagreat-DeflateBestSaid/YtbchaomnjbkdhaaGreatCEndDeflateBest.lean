/-
  Proved: DeflateBest, for every input the law returns true and leaves its arguments as they were. No condition.
-/
import Derived.Test.YtbchaomnjbkdhaaGreatCB
import Derived.SizedLaws
import Derived.Deep.Slices
import Derived.Test.YtbchaomnjbkdhaaGreatCP
namespace Go.Proofs.YtbchaomnjbkdhaaGreat
open Go.ChangeShapes Go.WideShapes Go.ChangeAt Go.RowKit
open Go.ChangeMaps (open_string shut_string)
set_option linter.unusedVariables false
/-- A slice of slices of bytes, opened. -/
theorem open_rbb {H : Type} {enc : TypeId × Value → H} {W : World} {fuel : Nat} {cs : List Value} {x : DataW H × List MemPlace} (h : DataW.trod enc Tryz.prog W 0 (fun _ => true) true fuel 34 cs = some x) :
    ∃ A n c L, cs = [.slice A n c] ∧ RBB W W.heap.size A n L ∧ n ≤ c ∧ c ≤ maxLen := by
  rcases Go.Deep.open_slice1 Tryz.underlying34 (by kernel_rfl) h with ⟨rfl, _⟩ | ⟨a, len, cap, m, n, V, D, Pl, rfl, _, hl, hc, hm, _, hV⟩
  · exact ⟨none, 0, 0, [], rfl, ⟨rfl, fun i hi => by omega⟩, Nat.le_refl _, Nat.zero_le _⟩
  · have hm2 : m = cap := by rw [hm]; rfl
    have hrow : ∀ i, i < len → ∃ Li : List UInt8, ∃ Ai ci, W.cell? (a.add i) = some (.slice Ai Li.length ci) ∧ RB W W.heap.size Ai Li.length Li ∧ Li.length ≤ ci ∧ ci ≤ maxLen := by
      intro i hi
      obtain ⟨h1, h2⟩ := hV i (by omega)
      rcases open_ints Tryz.underlying22 Tryz.underlying5 (by kernel_rfl) h2 with ⟨hcs, _⟩ | ⟨y, l, c, zs, hcs, _, hly, hmy, hz, _, hcell, hwz⟩
      · have e : V i = .slice none 0 0 := by simpa using hcs
        rw [e] at h1
        exact ⟨[], none, 0, h1, RB.nil _ _, Nat.le_refl _, Nat.zero_le _⟩
      · have e : V i = .slice (some y) l c := by simpa using hcs
        rw [e] at h1
        have hr : IsRow .u8 W (some y) l c zs := .inr ⟨_, rfl, hly, hmy, by simpa using hz, hcell, hwz⟩
        obtain ⟨Li, hLi⟩ := hr.rb
        have hll := hLi.len
        subst hll
        exact ⟨Li, some y, c, h1, hLi, hly, hmy⟩
    obtain ⟨f, hf⟩ := Go.Deep.choose_lt hrow
    refine ⟨some a, len, cap, (List.range len).map f, rfl, ⟨by simp, fun i hi => ?_⟩, hl, hc⟩
    obtain ⟨Ai, ci, h1, h2, h3, h4⟩ := hf i hi
    have hg : ((List.range len).map f).getD i [] = f i := by
      rw [List.getD_eq_getElem?_getD, List.getElem?_map, List.getElem?_range hi]; rfl
    rw [hg]
    refine ⟨a, Ai, ci, rfl, ?_, h1, h2, h3, h4⟩
    have := cell_block_lt h1
    rwa [block_of_add] at this
set_option maxRecDepth 100000 in
theorem deflateBest_lifted (os : Os) (started : os.Started) (H : Type) (enc : TypeId × Value → H) :
    ReturnsInHanded {} Tryz.checked os 4 .any (Rows.deflateBestSpec.pre6 enc Tryz.prog Tryz.f4 Rows.deflateBestRow.domain false) (Rows.deflateBestSpec.post enc Tryz.prog Tryz.f4 false true false false) := by
  refine returnsInHanded_of_change_sized (C := Tryz.checked) seat_own started (by kernel_rfl) Tryz.func4
    (ChangeSpec.witness6 (enc := enc) (C := Tryz.checked) false ⟨#[], #[.slice none 0 0], []⟩ 8 (by kernel_rfl) (by kernel_rfl) (by kernel_rfl) (by kernel_rfl)) ?_
  intro W base args ds gs before hval0 hW hcnd hsz0 _
  have hval : ∀ (j : Nat) t v, Tryz.f4.params[j]? = some t → args[j]? = some v → Value.okWide Tryz.prog W .any base t v := hval0
  have hW' := hW
  obtain ⟨p, q, hA0, hV, rfl, hfz, hnd⟩ := hW
  have hA : DataW.TrodAll enc Tryz.prog W 0 (fun _ => true) true Tryz.f4.params.toList args.toList ds p := hA0
  rw [Tryz.params4] at hA hval
  obtain ⟨v0, vs0, d0, ds0, p0, q0, hargs, rfl, rfl, h0, r0⟩ := trodAll_cons hA
  obtain ⟨rfl, rfl, rfl⟩ := trodAll_nil r0
  obtain rfl : args = #[v0] := by cases args; simp_all
  obtain ⟨rfl, rfl⟩ := trodVars_none hV
  obtain ⟨a0, len0, cap0, rfl⟩ := okWide_slice Tryz.underlying34 (hval 0 34 v0 rfl rfl)
  have k0 := h0
  have lt0 : ∀ x ∈ p0, x.block < W.heap.size := by obtain ⟨m, hm⟩ := k0; exact DataW.trod_lt m _ _ _ hm
  obtain ⟨L0, b0, hle0⟩ : ∃ L, RBB W W.heap.size a0 len0 L ∧ len0 ≤ maxLen := by
    obtain ⟨fuel, hf⟩ := h0
    obtain ⟨A, n, c, L, hcs, hL, h1, h2⟩ := open_rbb hf
    simp [Value.cells] at hcs
    obtain ⟨rfl, rfl, rfl⟩ := hcs
    exact ⟨L, hL, by omega⟩
  clear hA0 hval0
  refine (deflateBest_walk W _ _ _ L0 b0 hle0).mono fun e W' ⟨he, bel⟩ => ?_
  subst he
  exact ⟨_, rfl, _, _, _, [], _, [], hW', trodAll_mk1 (shut_bool Tryz.underlying4 _), (trodAll_cons_mk (Below.trod seat_laidOut (by kernel_rfl) (of_decide_eq_true (by kernel_rfl)) k0 bel lt0) trodAll_mk0), rfl, bel.frame _, fun h => by cases h⟩
theorem deflateBest_holds : Rows.DeflateBestSaid :=
  OpenClaim.holds_of_wide 4 Tryz.f4 rfl rfl rfl rfl rfl rfl rfl ⟨rfl, rfl, rfl, rfl, rfl⟩ rfl rfl rfl rfl rfl (by kernel_rfl) Tryz.func4 (by kernel_rfl)
    (of_decide_eq_true (by kernel_rfl)) (by unfold Func.isWrapper; first | (rw [if_pos (by decide +kernel)]; kernel_rfl) | (rw [if_neg (by decide +kernel)]; exact ⟨rfl, rfl⟩))
    (fun os started H enc _ => deflateBest_lifted os started H enc)
#print axioms deflateBest_holds
end Go.Proofs.YtbchaomnjbkdhaaGreat
