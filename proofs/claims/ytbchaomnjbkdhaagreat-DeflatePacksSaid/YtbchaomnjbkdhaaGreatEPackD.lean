/-
  Contract of deflate.Pack by codes.
-/
import Derived.Test.YtbchaomnjbkdhaaGreatEPack
import Derived.Test.YtbchaomnjbkdhaaGreatEDynW
import Derived.Test.YtbchaomnjbkdhaaGreatEA
namespace Go.Proofs.YtbchaomnjbkdhaaGreat
open Go.RowKit
set_option linter.unusedVariables false
theorem encIt_le (lits dist : List Nat) (hl : ∀ x ∈ lits, x ≤ 15) (hd : ∀ x ∈ dist, x ≤ 15) (x : Item) (hx : okI x) : (encIt lits dist x).length ≤ 48 := by
  unfold encIt
  have h1 := getD_le lits 15 hl (litP x).symbol
  have h2 := getD_le dist 15 hd (farP x).symbol
  have h3 := (lit_small x hx).2.1
  have h4 := (far_small x hx).2.1
  rw [List.length_append, partB_len]
  split
  · rw [List.length_nil]; omega
  · rw [partB_len]; omega
theorem encL_le (lits dist : List Nat) (hl : ∀ x ∈ lits, x ≤ 15) (hd : ∀ x ∈ dist, x ≤ 15) (l : List Item) (hx : ∀ x ∈ l, okI x) : (encL lits dist l).length ≤ 48 * l.length + 15 := by
  unfold encL
  have h1 := getD_le lits 15 hl 256
  have h2 : (l.flatMap (encIt lits dist)).length ≤ 48 * l.length := by
    clear h1
    induction l with
    | nil => exact Nat.le_refl _
    | cons x l ih =>
      rw [List.flatMap_cons, List.length_append, List.length_cons]
      have := ih fun y hy => hx y (.tail _ hy)
      have := encIt_le lits dist hl hd x (hx x (.head _))
      omega
  rw [List.length_append, encS_len]
  omega
theorem fixB_le (b : List UInt8) : (fixB b).length ≤ 48 * b.length + 20 := by
  unfold fixB
  have h1 := encL_le fixedLits fixedDist lits_code.1 dist_code.1 (itemsL b) (items_ok b _ _)
  have h2 := items_len b
  simp only [List.length_append, loB_len]
  omega
theorem dynB_le (b : List UInt8) (hb : b.length ≤ 100000) : (dynB b).length ≤ 48 * b.length + 20000 := by
  have hi := items_len b
  have hlo := lits_code_ok (itemsL b) (by omega)
  have hdo := dist_code_ok (itemsL b) (by omega)
  have h1 := encL_le _ _ hlo.2 hdo.2 (itemsL b) (items_ok b _ _)
  have h2 := head_len (itemsL b) (by omega)
  have hll := (litsL_len (itemsL b) (by omega)).2
  have hdl := (distL_len (itemsL b) (by omega)).2
  have hr : (runsL (itemsL b)).length ≤ 632 := by
    unfold runsL shortL
    have := short_len (litsL (itemsL b) ++ distL (itemsL b)).length (litsL (itemsL b) ++ distL (itemsL b))
    rw [List.length_append] at this ⊢
    omega
  have hrs : ∀ p ∈ runsL (itemsL b), p.wide ≤ 7 := fun p hp => (short_more _ _ p hp).1
  have hco := (codes_code_ok (runsL (itemsL b)) (by omega)).1.1
  have hsum : ((runsL (itemsL b)).map fun p => (codesL (itemsL b)).getD p.symbol 0 + p.wide).sum ≤ 22 * (runsL (itemsL b)).length := by
    have hg : ∀ (r : List Part), (∀ p ∈ r, p.wide ≤ 7) → (r.map fun p => (codesL (itemsL b)).getD p.symbol 0 + p.wide).sum ≤ 22 * r.length := by
      intro r
      induction r with
      | nil => intro _; exact Nat.le_refl _
      | cons p r ih =>
        intro h
        rw [List.map_cons, List.sum_cons, List.length_cons]
        have := ih fun q hq => h q (.tail _ hq)
        have := h p (.head _)
        have := getD_le (codesL (itemsL b)) 15 hco p.symbol
        omega
    exact hg _ hrs
  unfold dynB
  simp only [List.length_append, loB_len]
  omega
set_option maxRecDepth 100000 in
theorem bbytesW_any (w : World) (g : Nat) (bs : List Nat) (h : WA w g bs) (hl : bs.length ≤ 90000000) :
    Calls Tryz.prog 15 #[.pointer (some ⟨g, 0, none⟩)] w (RetB w (stB bs).1) := by
  obtain ⟨v, hB, hO, hk⟩ := h
  have c0 := hB.cell 0
  have hlt := hB.lt
  have hsl := stB_len bs
  obtain ⟨vA, vc, hv, hR, -, -, -⟩ := hO.form
  subst hv
  obtain ⟨l, hle⟩ : ∃ l, l = (stB bs).1 := ⟨_, rfl⟩
  rw [← hle] at hR hsl ⊢
  rw [← hle] at c0
  replace hle := hide hle
  replace hR := hide hR
  replace hk := hide hk
  obtain ⟨m, hm⟩ : ∃ m, m = l.length := ⟨_, rfl⟩
  rw [← hm] at hR c0 hsl
  have hml := hide hm
  have hmb : m ≤ 100000000 := by omega
  clear hB hO hm hsl
  go_enter Tryz.func15, Tryz.ntmps15
  go_wp2_with (at_builtin; refine wpList_app_b rfl (.const (.slice none 0 0)) (.tmp 8) rfl w.heap.size _ 0 [] (OB.nil w _) rfl w.heap.size vA _ vc l rfl hR.out (by omega) (Nat.le_refl _) ?_; intro v2 w2 ho2 hb2 hg2 _)
  go_ret
  rw [Nat.zero_add, List.nil_append, hml.out] at ho2
  exact RetB.mk ho2 hb2
theorem WB.toWA {w : World} {g : Nat} (h : WB w g []) : WA w g [] := by
  obtain ⟨v, h⟩ := h
  exact ⟨v, h⟩
set_option maxRecDepth 100000 in
set_option maxHeartbeats 1000000 in
theorem packF_any (w : World) (A : Option Addr) (n c : Nat) (b : List UInt8) (hb : RB w w.heap.size A n b) (hnc : n ≤ c) (hn : n ≤ 1000000) :
    Calls Tryz.prog 6 #[.slice A n c, .int .i64 1] w (PackRet w (stB (fixB b)).1) := by
  have hlen := hb.len
  replace hb := hide hb
  replace hlen := hide hlen
  go_enter Tryz.func6, Tryz.ntmps6
  go_wp2_with fail
  refine (bwrite_any w).mono ?_
  rintro e w1 ⟨rfl, hW1, hb1⟩
  replace hW1 := hide hW1.toWA
  have hix : ∀ wx, (Instr.index 41 (.agg #[.func (Fn.func 12) #[] #[], .func (Fn.func 13) #[] #[], .func (Fn.func 14) #[] #[]]) (.int .i64 1)).run Tryz.prog wx = .ok (.func (Fn.func 13) #[] #[]) wx := fun _ => by kernel_rfl
  go_wp2_with fail
  refine (fixed_any w1 w.heap.size A n c b hW1.out (hb.out.below hb1) hn hnc).mono ?_
  rintro e w2 ⟨rfl, hW2, hb2, -⟩
  have hsl := fixB_le b
  have hb12 := hb1.trans hb2
  rw [hlen.out] at hsl
  generalize fixB b = L at *
  replace hW2 := hide hW2
  clear hW1 hix hb1 hb2
  go_wp2_with fail
  refine (bbytesW_any w2 w.heap.size L hW2.out (by omega)).mono ?_
  rintro e w3 ⟨v3, rfl, ho3, hb3⟩
  have hb13 := hb12.trans (hb3.mono hb12.size)
  replace ho3 := hide (ho3.more hb12.size)
  clear hb3 hW2
  go_wp2_with fail
  go_ret2
  exact ⟨v3, rfl, ho3.out, hb13⟩
set_option maxRecDepth 100000 in
set_option maxHeartbeats 1000000 in
theorem packD_any (w : World) (A : Option Addr) (n c : Nat) (b : List UInt8) (hb : RB w w.heap.size A n b) (hnc : n ≤ c) (hn : n ≤ 100000) :
    Calls Tryz.prog 6 #[.slice A n c, .int .i64 2] w (PackRet w (stB (dynB b)).1) := by
  have hlen := hb.len
  replace hb := hide hb
  replace hlen := hide hlen
  go_enter Tryz.func6, Tryz.ntmps6
  go_wp2_with fail
  refine (bwrite_any w).mono ?_
  rintro e w1 ⟨rfl, hW1, hb1⟩
  replace hW1 := hide hW1.toWA
  have hix : ∀ wx, (Instr.index 41 (.agg #[.func (Fn.func 12) #[] #[], .func (Fn.func 13) #[] #[], .func (Fn.func 14) #[] #[]]) (.int .i64 2)).run Tryz.prog wx = .ok (.func (Fn.func 14) #[] #[]) wx := fun _ => by kernel_rfl
  go_wp2_with fail
  refine (dynamic_any w1 w.heap.size A n c b hW1.out (hb.out.below hb1) hn hnc).mono ?_
  rintro e w2 ⟨rfl, hW2, hb2, -⟩
  have hsl := dynB_le b (by rw [hlen.out]; exact hn)
  have hb12 := hb1.trans hb2
  rw [hlen.out] at hsl
  generalize dynB b = L at *
  replace hW2 := hide hW2
  clear hW1 hix hb1 hb2
  go_wp2_with fail
  refine (bbytesW_any w2 w.heap.size L hW2.out (by omega)).mono ?_
  rintro e w3 ⟨v3, rfl, ho3, hb3⟩
  have hb13 := hb12.trans (hb3.mono hb12.size)
  replace ho3 := hide (ho3.more hb12.size)
  clear hb3 hW2
  go_wp2_with fail
  go_ret2
  exact ⟨v3, rfl, ho3.out, hb13⟩
end Go.Proofs.YtbchaomnjbkdhaaGreat
