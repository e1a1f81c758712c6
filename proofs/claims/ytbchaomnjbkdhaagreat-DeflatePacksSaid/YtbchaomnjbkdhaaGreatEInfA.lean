/-
  The unpacker's small parts: contracts of emit, need, span.
-/
import Derived.Test.YtbchaomnjbkdhaaGreatEB
import Derived.Test.YtbchaomnjbkdhaaGreatEA
namespace Go.Proofs.YtbchaomnjbkdhaaGreat
open Go.RowKit
set_option linter.unusedVariables false
set_option maxRecDepth 100000 in
theorem span_any (w : World) (s g first : Nat) (hg : 0 < g) (hg4 : g ≤ 4) (hs : s ≤ 64) (hf : first ≤ 3) (hk5 : s / g - 1 ≤ 20) :
    Calls Tryz.prog 89 #[.int .i64 (s : Int), .int .i64 (g : Int), .int .i64 (first : Int)] w fun e w' => e = .returned (.tuple #[.int .i64 ((spanP s g first).1 : Int), .int .i64 ((spanP s g first).2 : Int)]) ∧ w' = w := by
  by_cases h : s < 2 * g
  · have hsp : Hid (spanP s g first = (first + s, 0)) := by rw [Hid, spanP, if_pos h]
    have hI : (s : Int) < 2 * (g : Int) := by omega
    have hfs : Hid (IntKind.i64.wrap ((first : Int) + (s : Int)) = ((first + s : Nat) : Int)) := by rw [Hid, IntWalk.i64_in _ (by omega)]; push_cast; rfl
    rw [hsp.out]
    go_enter Tryz.func89, Tryz.ntmps89
    go_wp2_with fail
    go_ret2
    exact ⟨by dsimp only; congr 3, rfl⟩
  · have hsp : Hid (spanP s g first = (first + (g + s % g) * 2 ^ (s / g - 1), s / g - 1)) := by rw [Hid, spanP, if_neg h]
    rw [hsp.out]
    dsimp only
    have h2 : 2 ≤ s / g := (Nat.le_div_iff_mul_le hg).2 (by omega)
    obtain ⟨D, hD⟩ : ∃ D, D = s / g := ⟨_, rfl⟩
    obtain ⟨R, hR⟩ : ∃ R, R = s % g := ⟨_, rfl⟩
    have hRg : R < g := by rw [hR]; exact Nat.mod_lt _ hg
    have eD : (s : Int) / (g : Int) = (D : Int) := by rw [hD]; exact (Int.natCast_ediv s g).symm
    have eR : (s : Int) % (g : Int) = (R : Int) := by rw [hR]; exact (Int.natCast_emod s g).symm
    rw [← hD] at hk5 h2 ⊢
    rw [← hR]
    obtain ⟨K, hK⟩ : ∃ K, K = D - 1 := ⟨_, rfl⟩
    rw [← hK] at hk5 ⊢
    obtain ⟨P, hP⟩ : ∃ P, P = 2 ^ K := ⟨_, rfl⟩
    have hPI : (2 : Int) ^ K = (P : Int) := by rw [hP]; push_cast; rfl
    have hPb : P ≤ 1048576 := by
      have h3 : 2 ^ K ≤ 2 ^ 20 := Nat.pow_le_pow_right (by omega) hk5
      have e20 : (2 : Nat) ^ 20 = 1048576 := by decide
      omega
    have hmul : (g + R) * P ≤ 8 * 1048576 := Nat.mul_le_mul (by omega) hPb
    have hDb : D ≤ 22 := by omega
    have eK : (D : Int) - 1 = (K : Int) := by omega
    rw [← hP]
    have hmI : Hid (((g : Int) + (R : Int)) * (P : Int) = (((g + R) * P : Nat) : Int)) := by rw [Hid]; push_cast; rfl
    have hI : ¬ (s : Int) < 2 * (g : Int) := by omega
    have hg0 : ¬ (g : Int) = 0 := by omega
    obtain ⟨M, hM⟩ : ∃ M, M = (g + R) * P := ⟨_, rfl⟩
    rw [← hM] at hmI hmul ⊢
    have ht : (s : Int).tdiv (g : Int) = (D : Int) := by rw [Int.tdiv_eq_ediv_of_nonneg (by omega)]; exact eD
    have ht2 : (s : Int).tmod (g : Int) = (R : Int) := by rw [Int.tmod_eq_emod_of_nonneg (by omega)]; exact eR
    replace hD := hide hD
    replace hR := hide hR
    replace hK := hide hK
    replace hP := hide hP
    replace hM := hide hM
    replace hmI2 := hmI.out
    clear h hsp
    go_enter Tryz.func89, Tryz.ntmps89
    go_wp2_with fail
    go_ret2
    exact ⟨by congr 3, rfl⟩
/-- What taking bits leaves, where the errors add up. -/
def NeedRet (w : World) (gb ge : Nat) (v : Value) (l : List UInt8) (p n e0 : Nat) (e : Ending) (w' : World) : Prop :=
  (p + n ≤ 8 * l.length ∧ e = .returned (.int .i64 (leN (((bytesB l).drop p).take n) : Int)) ∧ BRAt w' gb v l (p + n) ∧ Blk w' ge 24 #[.int .i64 (e0 : Int)] ∧ Only (· = gb) w w') ∨
  (¬ p + n ≤ 8 * l.length ∧ e = .returned (.int .i64 0) ∧ BRAt w' gb v l p ∧ Blk w' ge 24 #[.int .i64 ((if e0 = 0 then 3 else e0 : Nat) : Int)] ∧ Only (fun k => k = gb ∨ k = ge) w w')
set_option maxRecDepth 100000 in
theorem need_any (w : World) (gr gb ge : Nat) (v : Value) (cs : Array Value) (l : List UInt8) (p n e0 : Nat) (hR : Blk w gr 85 cs) (h0 : cs[0]? = some (.pointer (some ⟨gb, 0, none⟩))) (hb : BRAt w gb v l p) (hE : Blk w ge 24 #[.int .i64 (e0 : Int)]) (hp : p ≤ 8 * l.length) (hl : l.length ≤ 10000000) (hn : n ≤ 24) (he0 : e0 = 0 ∨ e0 = 3) (hne : gb ≠ ge) :
    Calls Tryz.prog 84 #[.pointer (some ⟨gr, 0, none⟩), .int .i64 (n : Int), .pointer (some ⟨ge, 0, none⟩)] w (NeedRet w gb ge v l p n e0) := by
  have c0 := hR.cell 0
  rw [h0] at c0
  have hT := hide (rbits_any w gb v l p n hb hp hl hn)
  obtain ⟨X, hX⟩ : ∃ X, X = leN (((bytesB l).drop p).take n) := ⟨_, rfl⟩
  replace hR := hide hR
  replace hE := hide hE
  replace hb := hide hb
  replace hX := hide hX
  go_enter Tryz.func84, Tryz.ntmps84
  go_wp2_with fail
  refine hT.out.mono ?_
  rintro e w1 (⟨hpn, rfl, hb1, hO1⟩ | ⟨hpn, rfl, hb1, hO1⟩)
  · have hE1 := hO1.blk hE.out (fun e => hne e.symm)
    rw [← hX.out]
    replace hE1 := hide hE1
    replace hb1 := hide hb1
    replace hO1 := hide hO1
    go_wp2_with fail
    go_ret
    exact .inl ⟨hpn, by rw [← hX.out]; rfl, hb1.out, hE1.out, hO1.out⟩
  · have hE1 := hO1.blk hE.out (fun e => hne e.symm)
    have d0 := hE1.cell 0
    have f0 := hE1.frozen 0
    replace hE1 := hide hE1
    replace hb1 := hide hb1
    replace hO1 := hide hO1
    have hbv := hb1.out
    rcases he0 with rfl | rfl
    · go_wp2_with fail
      go_ret
      refine .inr ⟨hpn, rfl, ?_, hE1.out.set_ 0 _, ?_⟩
      · exact hb1.out.only ((Only.refl (· = ge) w1).setCell (p := ⟨ge, 0, none⟩) (fun _ => rfl) _) hne (fun k hk e => by
          subst e
          exact own_blk_ne hb1.out.2 hE1.out (by decide) hk)
      · exact (hO1.out.mono (fun _ _ h => .inl h)).setCell (p := ⟨ge, 0, none⟩) (fun _ => .inr rfl) _
    · go_wp2_with fail
      go_ret
      exact .inr ⟨hpn, rfl, hb1.out, hE1.out, hO1.out.mono (fun _ _ h => .inl h)⟩
section
variable {ops : Array Oper} {rest : List Oper} {o : Oper} {a : Act} {Q : Exit → Act → World → Prop}
/-- One byte more; the row stays in its block, or moves into a new one. -/
theorem wpList_app_1x {w : World} {x' : Int} {t : TypeId} (b : UInt8) (hbx : x' = (b.toNat : Int)) (hgd : o.guard = none) (s x : Operand) (ho : o.op = .call { callee := .builtin .append, args := #[s, x], argTypes := #[22, 22] })
    (base : Nat) (v : Value) (n : Nat) (l : List UInt8) (hown : OB w base v n l) (hs : a.eval s = v) (c : Nat)
    (hx : a.eval x = .slice (some ⟨w.heap.size, 0, none⟩) 1 c)
    (hlen : n + 1 ≤ 140737488351232) (hbase : base ≤ w.heap.size)
    (h : ∀ v' w', OB w' base v' (n + 1) (l ++ [b]) → Below base w w' → w.grownBy w' v.ownBlock → (∀ k, v'.ownBlock = some k → v.ownBlock = some k ∨ w.heap.size ≤ k) → wpList Tryz.prog ops Q rest (a.put o.dst v') w') :
    wpList Tryz.prog ops Q (o :: rest) a (w.alloc (.cells #[.int .u8 x'] t)) := by
  subst hbx
  refine wpList_app_b hgd s x ho base v n l (hown.alloc _) hs _ _ 1 c [b] hx (RB.one_new w b t) hlen (by simp; omega) fun v' w' h1 h2 h3 h4 => ?_
  refine h v' w' h1 ?_ ⟨h3.os, h3.tape, h3.output, ?_, fun k hk hne => ?_⟩ ?_
  · exact ((Below.refl _ _).alloc hbase _).trans h2
  · have := h3.size; simp at this; omega
  · rw [h3.block k (by simp; omega) hne]
    exact Below.heap_alloc _ _ _ hk
  · intro k hk
    rcases h4 with h4 | h4
    · rw [h4] at hk; exact .inl hk
    · rw [h4] at hk; cases hk; exact .inr (by simp)
end
theorem emit_ne {w : World} {gr n : Nat} {v : Value} {cs : Array Value} {l : List UInt8} (hB : Blk w gr 85 cs) (hO : OB w 0 v n l) : v.ownBlock ≠ some gr := own_blk_ne hO hB (by decide)
set_option maxRecDepth 100000 in
theorem emit_any (w : World) (gr n : Nat) (v : Value) (cs : Array Value) (l : List UInt8) (c : UInt8) (hB : Blk w gr 85 cs) (h1 : cs[1]? = some v) (hO : OB w 0 v n l) (hl : n ≤ 10000000) :
    Calls Tryz.prog 69 #[.pointer (some ⟨gr, 0, none⟩), .int .u8 (c.toNat : Int)] w fun e w' => e = .returned (.tuple #[]) ∧ ∃ v', Blk w' gr 85 (cs.setIfInBounds 1 v') ∧ OB w' 0 v' (n + 1) (l ++ [c]) ∧ Only (fun k => k = gr ∨ v.ownBlock = some k) w w' ∧ (∀ k, v'.ownBlock = some k → v.ownBlock = some k ∨ w.heap.size ≤ k) := by
  have c1 := hB.cell 1
  have f1 := hB.frozen 1
  rw [h1] at c1
  have hne : Hid (v.ownBlock ≠ some gr) := emit_ne hB hO
  obtain ⟨vA, vc, rfl, -, -, -, -⟩ := hO.form
  obtain ⟨v0, hv0⟩ : ∃ v0, v0 = Value.slice vA n vc := ⟨_, rfl⟩
  replace hB := hide hB
  replace hO := hide hO
  replace hv0 := hide hv0
  go_enter Tryz.func69, Tryz.ntmps69
  go_wp2_with (at_builtin; refine wpList_app_1x c rfl rfl (.tmp 8) (.tmp 10) rfl 0 _ n l hO.out rfl 1 rfl (by omega) (Nat.zero_le _) ?_; intro v2 w2 ho2 hb2 hg2 hk2; obtain ⟨A2, c2, hv2, -⟩ := ho2.form; subst hv2; replace ho2 := hide ho2; have hB2 := hide (hB.out.grown hg2 (fun e => hne.out e.symm)); have d1 := hB2.out.cell 1; have e1 := hB2.out.frozen 1; replace hg2 := hide hg2)
  go_end0
  obtain ⟨v2, hv2⟩ : ∃ v2, v2 = Value.slice A2 (n + 1) c2 := ⟨_, rfl⟩
  rw [← hv2] at ho2 hk2 ⊢
  have h5 : Only (fun k => k = gr ∨ Value.ownBlock (.slice vA n vc) = some k) w w2 := (Only.refl _ w).grown hg2.out fun k hk _ => .inr hk
  refine ⟨rfl, v2, hB2.out.set_ 1 v2, ?_, h5.setCell (p := ⟨gr, 1, none⟩) (fun _ => .inl rfl) v2, hk2⟩
  have hne2 := emit_ne hB2.out ho2.out
  exact Only.row (S := fun k => k = gr) ((Only.refl (· = gr) w2).setCell (p := ⟨gr, 1, none⟩) (fun _ => rfl) v2) ho2.out fun k hk e => hne2 (by rw [hk, e])
end Go.Proofs.YtbchaomnjbkdhaaGreat
