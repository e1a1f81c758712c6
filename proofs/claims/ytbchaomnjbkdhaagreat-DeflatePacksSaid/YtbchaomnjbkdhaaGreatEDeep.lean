/-
  Contract of heap.deep: the leaves' depths.
-/
import Derived.Test.YtbchaomnjbkdhaaGreatEHpW
import Derived.Test.YtbchaomnjbkdhaaGreatEA
namespace Go.Proofs.YtbchaomnjbkdhaaGreat
open Go.RowKit Go.Sort
set_option linter.unusedVariables false
def deepD (h : Hp) (d : Nat) : List (Nat × Nat) := (h.deep d).map fun x => (x.1, max x.2 1)
theorem setAll_app (a b : List (Nat × Nat)) (out : List Nat) : setAll (a ++ b) out = setAll b (setAll a out) := by rw [setAll, List.foldl_append]; rfl
/-- What a call leaves that only sets places of a row. -/
def DRet (w : World) (base go n c : Nat) (out : List Nat) (e : Ending) (w' : World) : Prop :=
  e = .returned (.tuple #[]) ∧ ON w' base (.slice (some ⟨go, 0, none⟩) n c) n out ∧ KeepT 128 w w' ∧ w.grownBy w' (some go)
theorem grownBy_trans {w w' w'' : World} {row : Option Nat} (h : w.grownBy w' row) (h' : w'.grownBy w'' row) : w.grownBy w'' row :=
  ⟨h'.os.trans h.os, h'.tape.trans h.tape, h'.output.trans h.output, Nat.le_trans h.size h'.size, fun k hk hr => (h'.block k (Nat.lt_of_lt_of_le hk h.size) hr).trans (h.block k hk hr)⟩
theorem grownBy_set (w : World) (g j : Nat) (u : Value) : w.grownBy (w.setCell ⟨g, j, none⟩ u) (some g) :=
  ⟨rfl, rfl, rfl, by simp, fun k hk hr => Below.heap_setCell w ⟨g, j, none⟩ u k (fun e => hr (congrArg some e))⟩
theorem ON.blkc {w : World} {base g n c : Nat} {l : List Nat} (h : ON w base (.slice (some ⟨g, 0, none⟩) n c) n l) : ∃ cur, Blk w g 3 cur := by
  rcases h.2 with ⟨h0, _⟩ | ⟨g', cap', cur, hv, _, hh, _⟩
  · cases h0
  · cases hv; exact ⟨cur, hh⟩
set_option maxRecDepth 100000 in
set_option maxHeartbeats 1000000 in
theorem deep_any (h : Hp) : ∀ (w : World) (g d : Nat) (D : Int) (hD : D = (d : Int)) (base go n c : Nat) (out : List Nat) (hh : HpAt w h g) (ho : ON w base (.slice (some ⟨go, 0, none⟩) n c) n out) (hs : ∀ s ∈ h.syms, s < n) (hd : d + h.dep ≤ 1000),
    Calls Tryz.prog 63 #[.pointer (some ⟨g, 0, none⟩), .int .i64 D, .slice (some ⟨go, 0, none⟩) n c] w (DRet w base go n c (setAll (deepD h d) out)) := by
  induction h with
  | leaf ct s =>
    intro w g d D hD base go n c out hh ho hs hd
    subst hD
    have c1 := Blk.cell hh 1
    have c2 := Blk.cell hh 2
    have hsn : s < n := hs s (by simp [Hp.syms])
    have hlen := ho.len
    have hf : ∀ j, w.frozen? ⟨go, j, none⟩ = false := fun j => OE.froz (k := j) ho
    have hcs := OE.cell ho (show s < out.length by omega)
    obtain ⟨cur, hblk⟩ := ho.blkc
    have f1 := hf s
    have hmx : max (d : Int) 1 = ((max d 1 : Nat) : Int) := by omega
    have hfin : Hid (ON (w.setCell ⟨go, s, none⟩ (.int .i64 ((max d 1 : Nat) : Int))) base (.slice (some ⟨go, 0, none⟩) n c) n (setAll (deepD (.leaf ct s) d) out)) := OE.stored ho s (max d 1)
    have hk : Hid (KeepT 128 w (w.setCell ⟨go, s, none⟩ (.int .i64 ((max d 1 : Nat) : Int)))) := (KeepT.refl _ _).set_ (p := ⟨go, s, none⟩) hblk (by decide) _
    have hg : Hid (w.grownBy (w.setCell ⟨go, s, none⟩ (.int .i64 ((max d 1 : Nat) : Int))) (some go)) := grownBy_set _ _ _ _
    replace hlen := hide hlen
    replace hblk := hide hblk
    replace hh := hide hh
    clear ho hf
    go_enter Tryz.func63, Tryz.ntmps63
    go_wp2_with fail
    go_end0
    exact ⟨rfl, hfin.out, hk.out, hg.out⟩
  | node ct a b iha ihb =>
    intro w g d D hD base go n c out hh ho hs hd
    subst hD
    obtain ⟨ga, gb, hB, ha, hb⟩ := hh
    have c2 := Blk.cell hB 2
    have c3 := Blk.cell hB 3
    have hdep : Hp.dep (.node ct a b) = max a.dep b.dep + 1 := rfl
    rw [hdep] at hd
    have hsa : Hid (∀ s ∈ a.syms, s < n) := fun s h => hs s (by simp [Hp.syms, h])
    have hsb : Hid (∀ s ∈ b.syms, s < n) := fun s h => hs s (by simp [Hp.syms, h])
    have hset : Hid (setAll (deepD (.node ct a b) d) out = setAll (deepD b (d + 1)) (setAll (deepD a (d + 1)) out)) := by
      rw [Hid, ← setAll_app]; simp [deepD, Hp.deep]
    replace hB := hide hB
    replace ho := hide ho
    replace hs := hide hs
    clear hdep
    go_enter Tryz.func63, Tryz.ntmps63
    go_wp2_with fail
    refine (iha w ga (d + 1) _ (by go_num) base go n c out ha ho.out hsa.out (by omega)).mono ?_
    rintro e w1 ⟨rfl, ho1, hk1, hg1⟩
    have hb1 := HpAt.keep hk1 hb
    have hB1 := hk1 _ _ hB.out
    have c3 := Blk.cell hB1 3
    replace ho1 := hide ho1
    replace hg1 := hide hg1
    replace hk1 := hide hk1
    clear hB1
    go_wp2_with fail
    refine (ihb w1 gb (d + 1) _ (by go_num) base go n c _ hb1 ho1.out hsb.out (by omega)).mono ?_
    rintro e w2 ⟨rfl, ho2, hk2, hg2⟩
    replace ho2 := hide ho2
    replace hg2 := hide hg2
    replace hk2 := hide hk2
    go_wp2_with fail
    go_end0
    exact ⟨rfl, by rw [hset.out]; exact ho2.out, hk1.out.trans hk2.out, grownBy_trans hg1.out hg2.out⟩
end Go.Proofs.YtbchaomnjbkdhaaGreat
