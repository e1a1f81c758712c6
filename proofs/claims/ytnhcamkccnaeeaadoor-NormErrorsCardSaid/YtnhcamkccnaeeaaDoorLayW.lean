/-
  Norm: contract of lay at any place of any list that is parts: how many are laid.
-/
import Derived.Test.YtnhcamkccnaeeaaDoorNormH
namespace Go.Proofs.YtnhcamkccnaeeaaDoor
open Go.RowKit
set_option linter.unusedVariables false

def LayS (w : World) (ob : Nat) (v : Value) (m s : Nat) (e : Ending) (w' : World) : Prop :=
  e = .returned (.int .i64 ((m : Int) + (s : Int) - 1)) ∧ ∃ v' outL, Blk w' ob 22 #[v'] ∧ OA w' (ob + 1) v' (m + s) outL ∧ LayE ob v v' w w'
def LayW (w : World) (ob : Nat) (v : Value) (m N : Nat) (e : Ending) (w' : World) : Prop := ∃ s, 1 ≤ s ∧ s ≤ N ∧ LayS w ob v m s e w'
theorem LayW.mk {w : World} {ob : Nat} {v : Value} {m N : Nat} (s : Nat) (i : Int) (h1 : 1 ≤ s) (h2 : s ≤ N) (hi : i = (m : Int) + (s : Int) - 1) {w' : World} {v' : Value} {n : Nat} {outL : List Ask} (hn : n = m + s)
    (hB : Blk w' ob 22 #[v']) (hO : OA w' (ob + 1) v' n outL) (hE : LayE ob v v' w w') : LayW w ob v m N (.returned (.int .i64 i)) w' := by
  subst hi hn
  exact ⟨s, h1, h2, rfl, v', outL, hB, hO, hE⟩

set_option maxRecDepth 100000 in
set_option maxHeartbeats 8000000 in
theorem lay_w_term (ob n c k N : Nat) (l : List Ask) (hlen : l.length = n) (hgt : 0 < ob) (hkn : k < n) (hkl : k < l.length) (x : Ask) (hx : l[k] = x) (hok : okT x) (hN : 1 ≤ N)
    (w : World) (A : Option Addr) (t : Bool) (v : Value) (m : Nat) (outL : List Ask) (h : RA w ob A n l) (hT : TurnT w) (hBo : Blk w ob 22 #[v]) (hO : OA w (ob + 1) v m outL) (hm1 : m + 1 ≤ 1000000) :
    Calls Tryd.prog 19 #[.slice A n c, .int .i64 k, .bool t, .pointer (some ⟨ob, 0, none⟩)] w (LayW w ob v m N) := by
  obtain ⟨ad, rfl, hab, c0, c1, c2, c3, c4, c5, c6⟩ := h.elem hkn hkl
  rw [hx] at c0 c1 c2 c3 c4 c5 c6
  obtain ⟨k1, k2, k3, k4⟩ := hok
  have n3 : (x.kind == 3) = false := by simp; omega
  have hj : jointB x = false := by simp [jointB]; omega
  have hlo := hBo.lt
  obtain ⟨la, hla⟩ : ∃ la, la = w.heap.size := ⟨_, rfl⟩
  have hA0 := Blk.new w 37 #[.int .i64 x.kind, .int .i64 x.op, .int .i64 x.a, .int .i64 x.b, .int .i64 x.n, .string (str x.text), .bool x.isText]
  have hBo0 := hBo.alloc (.cells #[.int .i64 x.kind, .int .i64 x.op, .int .i64 x.a, .int .i64 x.b, .int .i64 x.n, .string (str x.text), .bool x.isText] 37)
  have hO0 := hO.alloc (.cells #[.int .i64 x.kind, .int .i64 x.op, .int .i64 x.a, .int .i64 x.b, .int .i64 x.n, .string (str x.text), .bool x.isText] 37)
  have hE0 := (LayE.refl ob v w).alloc (Nat.le_of_lt hlo) (.cells #[.int .i64 x.kind, .int .i64 x.op, .int .i64 x.a, .int .i64 x.b, .int .i64 x.n, .string (str x.text), .bool x.isText] 37)
  have hT0 := hT.below (((Below.refl w.heap.size w).alloc (Nat.le_refl _) (.cells #[.int .i64 x.kind, .int .i64 x.op, .int .i64 x.a, .int .i64 x.b, .int .i64 x.n, .string (str x.text), .bool x.isText] 37))) hT.2
  have hz0 : (w.alloc (.cells #[.int .i64 x.kind, .int .i64 x.op, .int .i64 x.a, .int .i64 x.b, .int .i64 x.n, .string (str x.text), .bool x.isText] 37)).heap.size = la + 1 := by simp [hla]
  rw [← hla] at hA0
  replace hla := hide hla
  replace hA0 := hide hA0
  replace hBo0 := hide hBo0
  replace hO0 := hide hO0
  replace hE0 := hide hE0
  replace hT0 := hide hT0
  have hz00 := hide hz0
  have hvl : Hid (v.ownBlock ≠ some la) := fun e => by have := hO.own_lt _ e; have := hla.out; omega
  have hlal : Hid (ob < la) := by rw [Hid, hla.out]; exact hlo
  clear h hx hBo hO hT hz0 k1 k2
  go_enter Tryd.func19, Tryd.ntmps19
  go_wp2_with fail
  obtain ⟨W, hW⟩ : ∃ W, W = w.alloc (.cells #[.int .i64 x.kind, .int .i64 x.op, .int .i64 x.a, .int .i64 x.b, .int .i64 x.n, .string (str x.text), .bool x.isText] 37) := ⟨_, rfl⟩
  rw [← hW] at hA0 hBo0 hO0 hE0 hT0 hz00 ⊢
  rw [← hla.out]
  clear hW c0 c1 c2 c3 c4 c5 c6
  refine (joint_any _ x).mono ?_
  rintro e w1 ⟨rfl, hb1⟩
  rw [hj]
  have hA1 := hA0.out.below hb1 (by rw [hz00.out]; omega)
  have hBo1 := hide (hBo0.out.below hb1 (by have := hBo0.out.lt; omega))
  have hO1 := hide (hO0.out.below hb1 (Nat.le_refl _))
  have hE1 : Hid (LayE ob v v w w1) := hE0.out.trans ⟨hb1.mono (by have := hBo0.out.lt; omega), fun k h1 _ _ => hb1.block k h1, fun k h => .inl h⟩
  have hT1 := hT0.out.below hb1 hT0.out.2
  clear hb1 hj hA0 hBo0 hO0 hE0 hT0
  cases t with
  | true =>
    obtain ⟨o, ho⟩ := Int.eq_ofNat_of_zero_le k3
    have hoo : Hid (turnedI x.op = turnedI (o : Int)) := by rw [Hid, ho]
    have ho9 : (o : Int) < 9 := by omega
    have ct := hT1.1 o (by omega)
    have q1 : w1.cell? ⟨la, 1, none⟩ = some (.int .i64 x.op) := hA1.cell 1
    have g1 := hA1.frozen 1
    have hA2 := hide (hA1.set_ 1 (.int .i64 (turnedI x.op)))
    have hBo2 := hide (hBo1.out.far (p := ⟨la, 1, none⟩) (by simp; have := hlal.out; omega) (.int .i64 (turnedI x.op)))
    have hO2 := hide (hO1.out.far (i := 1) hvl.out (.int .i64 (turnedI x.op)))
    have hE2 := hide (hE1.out.setNew (g := la) (i := 1) (by rw [hla.out]; exact Nat.le_refl _) (Nat.le_of_lt hlal.out) (.int .i64 (turnedI x.op)))
    clear hA1 hBo1 hO1 hE1 hT1
    rw [ho] at q1 hA2 hBo2 hO2 hE2 k3 k4 ⊢
    clear ho
    go_upto_region 11 with (fail)
    obtain ⟨w2, hw2⟩ : ∃ x, x = w1.setCell ⟨la, 1, none⟩ (.int .i64 (turnedI (o : Int))) := ⟨_, rfl⟩
    rw [← hw2] at hA2 hBo2 hO2 hE2 ⊢
    clear hw2 q1 g1 ct
    have hBa : Hid (Blk w2 la 37 #[.int .i64 x.kind, .int .i64 (turnedI (o : Int)), .int .i64 x.a, .int .i64 x.b, .int .i64 x.n, .string (str x.text), .bool x.isText]) := hA2.out
    have hBo := hBo2
    have hO := hO2
    have hLE := hE2
    clear hA2 hBo2 hO2 hE2
    have p0 : w2.cell? ⟨la, 0, none⟩ = some (.int .i64 (x.kind)) := hBa.out.cell 0
    have p1 : w2.cell? ⟨la, 1, none⟩ = some (.int .i64 (turnedI (o : Int))) := hBa.out.cell 1
    have p2 : w2.cell? ⟨la, 2, none⟩ = some (.int .i64 (x.a)) := hBa.out.cell 2
    have p3 : w2.cell? ⟨la, 3, none⟩ = some (.int .i64 (x.b)) := hBa.out.cell 3
    have p4 : w2.cell? ⟨la, 4, none⟩ = some (.int .i64 (x.n)) := hBa.out.cell 4
    have p5 : w2.cell? ⟨la, 5, none⟩ = some (.string (str x.text)) := hBa.out.cell 5
    have p6 : w2.cell? ⟨la, 6, none⟩ = some (.bool x.isText) := hBa.out.cell 6
    have po : w2.cell? ⟨ob, 0, none⟩ = some v := hBo.out.cell 0
    have hlo2 : ob < w2.heap.size := hBo.out.lt
    have hcb : Hid (Blk (w2.alloc (.cells #[.int .i64 (x.kind), .int .i64 (turnedI (o : Int)), .int .i64 (x.a), .int .i64 (x.b), .int .i64 (x.n), .string (str x.text), .bool x.isText] 37)) w2.heap.size 37 (av ⟨x.kind, turnedI (o : Int), x.a, x.b, x.n, x.text, x.isText⟩).toArray) := Blk.new w2 37 #[.int .i64 (x.kind), .int .i64 (turnedI (o : Int)), .int .i64 (x.a), .int .i64 (x.b), .int .i64 (x.n), .string (str x.text), .bool x.isText]
    have hbs : ob + 1 ≤ (w2.alloc (.cells #[.int .i64 (x.kind), .int .i64 (turnedI (o : Int)), .int .i64 (x.a), .int .i64 (x.b), .int .i64 (x.n), .string (str x.text), .bool x.isText] 37)).heap.size := by simp; omega
    have hO9 := hide (hO.out.alloc (.cells #[.int .i64 (x.kind), .int .i64 (turnedI (o : Int)), .int .i64 (x.a), .int .i64 (x.b), .int .i64 (x.n), .string (str x.text), .bool x.isText] 37))
    have hBo9 := hide (hBo.out.alloc (.cells #[.int .i64 (x.kind), .int .i64 (turnedI (o : Int)), .int .i64 (x.a), .int .i64 (x.b), .int .i64 (x.n), .string (str x.text), .bool x.isText] 37))
    have hown : Hid (∀ k, (v).ownBlock = some k → k < w2.heap.size) := fun k hk => hO.out.own_lt k hk
    have hown1 : Hid (∀ k, (v).ownBlock = some k → ob + 1 ≤ k) := fun k hk => hO.out.block_lt k hk
    go_region_law (refine step_app_a2 ⟨x.kind, turnedI (o : Int), x.a, x.b, x.n, x.text, x.isText⟩ rfl (.tmp 57) (.tmp 59) rfl (ob + 1) v (m) (outL) hO9.out rfl w2.heap.size 1 (by simp) rfl hcb.out (by omega) hbs ?_; intro v9 w9 ho9 hb9 hg9 hv9; have hst := hide (LayE.tail (i := 0) hLE.out hlo2 hown.out hown1.out hO9.out hg9 ho9 (by simpa using hv9)); obtain ⟨vA, vc, rfl, -, -, -, -⟩ := ho9.form; have hB9 := hide (hBo9.out.drew.below hb9 (Nat.lt_succ_self _)); have hf9 := hB9.out.frozen 0; have hd9 := hB9.out.cell 0; replace ho9 := hide ho9)
    all_goals
      have hoF := hide (ho9.out.setOther (p := ⟨ob, 0, none⟩) (Nat.lt_succ_self _) (.slice vA (m + 1) vc))
      have hBF := hide (hB9.out.set_ 0 (.slice vA (m + 1) vc))
      clear hcb hbs hO9 hBo9 hg9 hv9 hb9 hown hown1 hLE hBo hBa hO p0 p1 p2 p3 p4 p5 p6 po ho9 hB9
      go_wp2_with fail
      go_ret
      exact LayW.mk 1 _ (Nat.le_refl _) hN (by omega) rfl hBF.out hoF.out hst.out
  | false =>
    clear hT1
    go_upto_region 11 with (fail)
    have hBa : Hid (Blk w1 la 37 #[.int .i64 x.kind, .int .i64 x.op, .int .i64 x.a, .int .i64 x.b, .int .i64 x.n, .string (str x.text), .bool x.isText]) := hA1
    have hBo := hBo1
    have hO := hO1
    have hLE := hE1
    clear hA1 hBo1 hO1 hE1
    have p0 : w1.cell? ⟨la, 0, none⟩ = some (.int .i64 (x.kind)) := hBa.out.cell 0
    have p1 : w1.cell? ⟨la, 1, none⟩ = some (.int .i64 (x.op)) := hBa.out.cell 1
    have p2 : w1.cell? ⟨la, 2, none⟩ = some (.int .i64 (x.a)) := hBa.out.cell 2
    have p3 : w1.cell? ⟨la, 3, none⟩ = some (.int .i64 (x.b)) := hBa.out.cell 3
    have p4 : w1.cell? ⟨la, 4, none⟩ = some (.int .i64 (x.n)) := hBa.out.cell 4
    have p5 : w1.cell? ⟨la, 5, none⟩ = some (.string (str x.text)) := hBa.out.cell 5
    have p6 : w1.cell? ⟨la, 6, none⟩ = some (.bool x.isText) := hBa.out.cell 6
    have po : w1.cell? ⟨ob, 0, none⟩ = some v := hBo.out.cell 0
    have hlo2 : ob < w1.heap.size := hBo.out.lt
    have hcb : Hid (Blk (w1.alloc (.cells #[.int .i64 (x.kind), .int .i64 (x.op), .int .i64 (x.a), .int .i64 (x.b), .int .i64 (x.n), .string (str x.text), .bool x.isText] 37)) w1.heap.size 37 (av ⟨x.kind, x.op, x.a, x.b, x.n, x.text, x.isText⟩).toArray) := Blk.new w1 37 #[.int .i64 (x.kind), .int .i64 (x.op), .int .i64 (x.a), .int .i64 (x.b), .int .i64 (x.n), .string (str x.text), .bool x.isText]
    have hbs : ob + 1 ≤ (w1.alloc (.cells #[.int .i64 (x.kind), .int .i64 (x.op), .int .i64 (x.a), .int .i64 (x.b), .int .i64 (x.n), .string (str x.text), .bool x.isText] 37)).heap.size := by simp; omega
    have hO9 := hide (hO.out.alloc (.cells #[.int .i64 (x.kind), .int .i64 (x.op), .int .i64 (x.a), .int .i64 (x.b), .int .i64 (x.n), .string (str x.text), .bool x.isText] 37))
    have hBo9 := hide (hBo.out.alloc (.cells #[.int .i64 (x.kind), .int .i64 (x.op), .int .i64 (x.a), .int .i64 (x.b), .int .i64 (x.n), .string (str x.text), .bool x.isText] 37))
    have hown : Hid (∀ k, (v).ownBlock = some k → k < w1.heap.size) := fun k hk => hO.out.own_lt k hk
    have hown1 : Hid (∀ k, (v).ownBlock = some k → ob + 1 ≤ k) := fun k hk => hO.out.block_lt k hk
    go_region_law (refine step_app_a2 ⟨x.kind, x.op, x.a, x.b, x.n, x.text, x.isText⟩ rfl (.tmp 57) (.tmp 59) rfl (ob + 1) v (m) (outL) hO9.out rfl w1.heap.size 1 (by simp) rfl hcb.out (by omega) hbs ?_; intro v9 w9 ho9 hb9 hg9 hv9; have hst := hide (LayE.tail (i := 0) hLE.out hlo2 hown.out hown1.out hO9.out hg9 ho9 (by simpa using hv9)); obtain ⟨vA, vc, rfl, -, -, -, -⟩ := ho9.form; have hB9 := hide (hBo9.out.drew.below hb9 (Nat.lt_succ_self _)); have hf9 := hB9.out.frozen 0; have hd9 := hB9.out.cell 0; replace ho9 := hide ho9)
    all_goals
      have hoF := hide (ho9.out.setOther (p := ⟨ob, 0, none⟩) (Nat.lt_succ_self _) (.slice vA (m + 1) vc))
      have hBF := hide (hB9.out.set_ 0 (.slice vA (m + 1) vc))
      clear hcb hbs hO9 hBo9 hg9 hv9 hb9 hown hown1 hLE hBo hBa hO p0 p1 p2 p3 p4 p5 p6 po ho9 hB9
      go_wp2_with fail
      go_ret
      exact LayW.mk 1 _ (Nat.le_refl _) hN (by omega) rfl hBF.out hoF.out hst.out

set_option maxRecDepth 100000 in
set_option maxHeartbeats 8000000 in
theorem lay_w_neg (ob n c k N : Nat) (l : List Ask) (hlen : l.length = n) (hgt : 0 < ob) (hkn : k < n) (hkl : k < l.length) (x : Ask) (hx : l[k] = x) (h3 : x.kind = 3)
    (w : World) (A : Option Addr) (t : Bool) (v : Value) (m : Nat) (outL : List Ask) (h : RA w ob A n l) (hT : TurnT w) (hBo : Blk w ob 22 #[v]) (hO : OA w (ob + 1) v m outL)
    (IH : ∀ w1 : World, RA w1 ob A n l → TurnT w1 → Blk w1 ob 22 #[v] → OA w1 (ob + 1) v m outL → Calls Tryd.prog 19 #[.slice A n c, .int .i64 x.a, .bool (!t), .pointer (some ⟨ob, 0, none⟩)] w1 (LayW w1 ob v m N)) :
    Calls Tryd.prog 19 #[.slice A n c, .int .i64 k, .bool t, .pointer (some ⟨ob, 0, none⟩)] w (LayW w ob v m N) := by
  have hlo := hBo.lt
  obtain ⟨ad, rfl, hab, c0, c1, c2, c3, c4, c5, c6⟩ := h.elem hkn hkl
  rw [hx] at c0 c1 c2 c3 c4 c5 c6
  obtain ⟨kind, op, a, b, nn, text, isText⟩ := x
  dsimp only at h3 IH c0 c1 c2 c3 c4 c5 c6
  subst h3
  have hb0 := (Below.refl w.heap.size w).alloc (Nat.le_refl _) (.cells #[.int .i64 3, .int .i64 op, .int .i64 a, .int .i64 b, .int .i64 nn, .string (str text), .bool isText] 37)
  have IH2 := hide (IH _ (Reads.alloc h (Nat.le_of_lt hlo) (.cells #[.int .i64 3, .int .i64 op, .int .i64 a, .int .i64 b, .int .i64 nn, .string (str text), .bool isText] 37)) (hT.below hb0 hT.2) (hBo.alloc _) (hO.alloc _))
  have hE0 := hide ((LayE.refl ob v w).alloc (Nat.le_of_lt hlo) (.cells #[.int .i64 3, .int .i64 op, .int .i64 a, .int .i64 b, .int .i64 nn, .string (str text), .bool isText] 37))
  clear h hx hT hBo hO hb0 IH
  go_enter Tryd.func19, Tryd.ntmps19
  go_wp2_with fail
  refine IH2.out.mono ?_
  rintro e w2 ⟨s, hs1, hs2, rfl, v2, outL2, hB2, hO2, hE2⟩
  replace hB2 := hide hB2
  replace hO2 := hide hO2
  replace hE2 := hide (hE0.out.trans hE2)
  clear c0 c1 c2 c3 c4 c5 c6 IH2 hE0
  go_wp2_with fail
  go_ret
  exact LayW.mk s _ hs1 hs2 rfl rfl hB2.out hO2.out hE2.out

set_option maxRecDepth 100000 in
set_option maxHeartbeats 8000000 in
theorem lay_w_two (ob n c k N : Nat) (l : List Ask) (hlen : l.length = n) (hgt : 0 < ob) (hkn : k < n) (hkl : k < l.length) (x : Ask) (hx : l[k] = x) (hok1 : x.kind = 1 ∨ x.kind = 2)
    (w : World) (A : Option Addr) (t : Bool) (v : Value) (m : Nat) (outL : List Ask) (h : RA w ob A n l) (hT : TurnT w) (hBo : Blk w ob 22 #[v]) (hO : OA w (ob + 1) v m outL) (hm : m + 2 * N + 1 ≤ 1000000)
    (IX0 : ∀ w1 : World, RA w1 ob A n l → TurnT w1 → Blk w1 ob 22 #[v] → OA w1 (ob + 1) v m outL → Calls Tryd.prog 19 #[.slice A n c, .int .i64 x.a, .bool t, .pointer (some ⟨ob, 0, none⟩)] w1 (LayW w1 ob v m N))
    (IY0 : ∀ (w1 : World) (v1 : Value) (m1 : Nat) (outL1 : List Ask), m1 ≤ m + N → RA w1 ob A n l → TurnT w1 → Blk w1 ob 22 #[v1] → OA w1 (ob + 1) v1 m1 outL1 → Calls Tryd.prog 19 #[.slice A n c, .int .i64 x.b, .bool t, .pointer (some ⟨ob, 0, none⟩)] w1 (LayW w1 ob v1 m1 N)) :
    Calls Tryd.prog 19 #[.slice A n c, .int .i64 k, .bool t, .pointer (some ⟨ob, 0, none⟩)] w (LayW w ob v m (2 * N + 1)) := by
  have hlo := hBo.lt
  have hRA := hide h
  obtain ⟨ad, rfl, hab, c0, c1, c2, c3, c4, c5, c6⟩ := h.elem hkn hkl
  rw [hx] at c0 c1 c2 c3 c4 c5 c6
  obtain ⟨kk, op, P, R, nn, text, isText⟩ := x
  dsimp only at hok1 IX0 IY0 c0 c1 c2 c3 c4 c5 c6
  have IX := hide IX0
  have IY := hide IY0
  clear IX0 IY0
  have hj : jointB ⟨kk, op, P, R, nn, text, isText⟩ = true := by rcases hok1 with e | e <;> simp [jointB, e]
  have hkk : 1 ≤ kk ∧ kk ≤ 2 := by rcases hok1 with e | e <;> omega
  have n3 : (kk == 3) = false := by rcases hok1 with e | e <;> simp [e]
  obtain ⟨la, hla⟩ : ∃ la, la = w.heap.size := ⟨_, rfl⟩
  have hA0 := Blk.new w 37 #[.int .i64 kk, .int .i64 op, .int .i64 P, .int .i64 R, .int .i64 nn, .string (str text), .bool isText]
  have hBo0 := hBo.alloc (.cells #[.int .i64 kk, .int .i64 op, .int .i64 P, .int .i64 R, .int .i64 nn, .string (str text), .bool isText] 37)
  have hO0 := hO.alloc (.cells #[.int .i64 kk, .int .i64 op, .int .i64 P, .int .i64 R, .int .i64 nn, .string (str text), .bool isText] 37)
  have hE0 := (LayE.refl ob v w).alloc (Nat.le_of_lt hlo) (.cells #[.int .i64 kk, .int .i64 op, .int .i64 P, .int .i64 R, .int .i64 nn, .string (str text), .bool isText] 37)
  have hz0 : (w.alloc (.cells #[.int .i64 kk, .int .i64 op, .int .i64 P, .int .i64 R, .int .i64 nn, .string (str text), .bool isText] 37)).heap.size = la + 1 := by simp [hla]
  rw [← hla] at hA0
  have hvl : Hid (v.ownBlock ≠ some la) := fun e => by have := hO.own_lt _ e; omega
  have hlal : Hid (ob < la) := by rw [Hid, hla]; exact hlo
  replace hla := hide hla
  replace hA0 := hide hA0
  replace hBo0 := hide hBo0
  replace hO0 := hide hO0
  replace hE0 := hide hE0
  have hT0 := hide hT
  have hz00 := hide hz0
  replace hm := hide hm
  clear h hx hBo hO hT hz0 hok1
  go_enter Tryd.func19, Tryd.ntmps19
  go_wp2_with fail
  obtain ⟨W, hW⟩ : ∃ W, W = w.alloc (.cells #[.int .i64 kk, .int .i64 op, .int .i64 P, .int .i64 R, .int .i64 nn, .string (str text), .bool isText] 37) := ⟨_, rfl⟩
  rw [← hW] at hA0 hBo0 hO0 hE0 hz00 ⊢
  rw [← hla.out]
  clear hW c0 c1 c2 c3 c4 c5 c6
  refine (joint_any _ ⟨kk, op, P, R, nn, text, isText⟩).mono ?_
  rintro e w1 ⟨rfl, hb1⟩
  rw [hj]
  have hA1 := hA0.out.below hb1 (by rw [hz00.out]; omega)
  have hBo1 := hBo0.out.below hb1 (by have := hBo0.out.lt; omega)
  have hO1 := hO0.out.below hb1 (Nat.le_refl _)
  have hE1 : LayE ob v v w w1 := hE0.out.trans ⟨hb1.mono (by have := hBo0.out.lt; omega), fun k h1 _ _ => hb1.block k h1, fun k h => .inl h⟩
  have hT1 := hT0.out.below hE1.1 hgt
  have hR1 : RA w1 ob (some ad) n l := Reads.keep hRA.out (fun p hp => hE1.1.cell hp)
  have hlt1 : la < w1.heap.size := hA1.lt
  have hX := IX.out w1 hR1 hT1 hBo1 hO1
  clear hb1 hj hA0 hBo0 hO0 hE0 hT0 hRA hz00 IX
  have p2 : w1.cell? ⟨la, 2, none⟩ = some (.int .i64 P) := hA1.cell 2
  replace hR1 := hide hR1
  replace hT1 := hide hT1
  replace hE1 := hide hE1
  replace hA1 := hide hA1
  clear hBo1 hO1
  go_wp2_with fail
  refine hX.mono ?_
  rintro e w2 ⟨sx, hsx1, hsx2, rfl, v1, ol1, hBo2, hO2, hE2⟩
  have hA2 := hE2.blk hA1.out (by have := hlal.out; omega) hvl.out
  have hv1l : Hid (v1.ownBlock ≠ some la) := fun e => by
    rcases hE2.2.2 la e with h | h
    · exact hvl.out h
    · omega
  have hE12 := hE1.out.trans hE2
  have hlt2 : la < w2.heap.size := hA2.lt
  have q2 : w2.cell? ⟨la, 2, none⟩ = some (.int .i64 P) := hA2.cell 2
  have q3 : w2.cell? ⟨la, 3, none⟩ = some (.int .i64 R) := hA2.cell 3
  have g2 := hA2.frozen 2
  have hA3 := hide (hA2.set_ 2 (.int .i64 ((m : Int) + (sx : Int) - 1)))
  have hBo3 := hBo2.far (p := ⟨la, 2, none⟩) (by simp; have := hlal.out; omega) (.int .i64 ((m : Int) + (sx : Int) - 1))
  have hO3 := hO2.far (i := 2) hv1l.out (.int .i64 ((m : Int) + (sx : Int) - 1))
  have hE3 := hE12.setNew (g := la) (i := 2) (by rw [hla.out]; exact Nat.le_refl _) (Nat.le_of_lt hlal.out) (.int .i64 ((m : Int) + (sx : Int) - 1))
  have hb13 : Below ob w1 (w2.setCell ⟨la, 2, none⟩ (.int .i64 ((m : Int) + (sx : Int) - 1))) := below_set hE2.1 (Nat.le_of_lt hlal.out) _
  have hT3 := hT1.out.below hb13 hgt
  have hR3 : RA (w2.setCell ⟨la, 2, none⟩ (.int .i64 ((m : Int) + (sx : Int) - 1))) ob (some ad) n l := Reads.keep hR1.out (fun p hp => hb13.cell hp)
  have hY := hide (IY.out _ v1 (m + sx) ol1 (by omega) hR3 hT3 hBo3 hO3)
  replace hE3 := hide hE3
  clear hA2 hE12 hBo2 hO2 hE2 hBo3 hO3 hT3 hR3 hR1 hT1 hE1 hA1 p2 IY hX hb13
  go_wp2_with fail
  obtain ⟨w3, hw3⟩ : ∃ x, x = w2.setCell ⟨la, 2, none⟩ (.int .i64 ((m : Int) + (sx : Int) - 1)) := ⟨_, rfl⟩
  rw [← hw3] at hY hA3 hE3 ⊢
  have hlt3 : la < w3.heap.size := hA3.out.lt
  clear hw3 q2 q3 g2
  refine hY.out.mono ?_
  rintro e w4 ⟨sy, hsy1, hsy2, rfl, v2, ol2, hBo4, hO4, hE4⟩
  have hA4 := hE4.blk hA3.out (by have := hlal.out; omega) hv1l.out
  have hv2l : Hid (v2.ownBlock ≠ some la) := fun e => by
    rcases hE4.2.2 la e with h | h
    · exact hv1l.out h
    · omega
  have hE34 := hE3.out.trans hE4
  have hlt4 : la < w4.heap.size := hA4.lt
  have r0 : w4.cell? ⟨la, 0, none⟩ = some (.int .i64 kk) := hA4.cell 0
  have r3 : w4.cell? ⟨la, 3, none⟩ = some (.int .i64 R) := hA4.cell 3
  have g0 := hA4.frozen 0
  have g3 := hA4.frozen 3
  have ecast : ((m + sx : Nat) : Int) + (sy : Int) - 1 = (m : Int) + (sx : Int) + (sy : Int) - 1 := by omega
  rw [ecast]
  have hA5 := hide (hA4.set_ 3 (.int .i64 ((m : Int) + (sx : Int) + (sy : Int) - 1)))
  have hBo5 := hide (hBo4.far (p := ⟨la, 3, none⟩) (by simp; have := hlal.out; omega) (.int .i64 ((m : Int) + (sx : Int) + (sy : Int) - 1)))
  have hO5 := hide (hO4.far (i := 3) hv2l.out (.int .i64 ((m : Int) + (sx : Int) + (sy : Int) - 1)))
  have hE5 := hide (hE34.setNew (g := la) (i := 3) (by rw [hla.out]; exact Nat.le_refl _) (Nat.le_of_lt hlal.out) (.int .i64 ((m : Int) + (sx : Int) + (sy : Int) - 1)))
  have hm2 : m + sx + sy + 1 ≤ 1000000 := by have := hm.out; omega
  clear hA4 hE34 hBo4 hO4 hE4 hE3 hA3 hY ecast
  cases t with
  | true =>
    obtain ⟨ki, hki⟩ : ∃ ki : Int, ki = 3 - kk := ⟨_, rfl⟩
    have hw : IntKind.i64.wrap (3 - kk) = ki := by rw [hki]; exact IntWalk.i64_in _ (by omega)
    have hki2 : 0 ≤ ki ∧ ki ≤ 3 := by omega
    have hA6 := hide (hA5.out.set_ 0 (.int .i64 ki))
    have hBo6 := hide (hBo5.out.far (p := ⟨la, 0, none⟩) (by simp; have := hlal.out; omega) (.int .i64 ki))
    have hO6 := hide (hO5.out.far (i := 0) hv2l.out (.int .i64 ki))
    have hE6 := hide (hE5.out.setNew (g := la) (i := 0) (by rw [hla.out]; exact Nat.le_refl _) (Nat.le_of_lt hlal.out) (.int .i64 ki))
    clear hA5 hBo5 hO5 hE5
    replace hki := hide hki
    go_upto_region 11 with (fail)
    obtain ⟨w5, hw5⟩ : ∃ x, x = (w4.setCell ⟨la, 3, none⟩ (.int .i64 ((m : Int) + (sx : Int) + (sy : Int) - 1))).setCell ⟨la, 0, none⟩ (.int .i64 ki) := ⟨_, rfl⟩
    rw [← hw5] at hA6 hBo6 hO6 hE6 ⊢
    clear hw5 r0 r3 g0 g3
    have hBa : Hid (Blk w5 la 37 #[.int .i64 ki, .int .i64 op, .int .i64 ((m : Int) + (sx : Int) - 1), .int .i64 ((m : Int) + (sx : Int) + (sy : Int) - 1), .int .i64 nn, .string (str text), .bool isText]) := hA6.out
    have hBo := hBo6
    have hO := hO6
    have hLE := hE6
    clear hA6 hBo6 hO6 hE6
    have p0 : w5.cell? ⟨la, 0, none⟩ = some (.int .i64 (ki)) := hBa.out.cell 0
    have p1 : w5.cell? ⟨la, 1, none⟩ = some (.int .i64 (op)) := hBa.out.cell 1
    have p2 : w5.cell? ⟨la, 2, none⟩ = some (.int .i64 ((m : Int) + (sx : Int) - 1)) := hBa.out.cell 2
    have p3 : w5.cell? ⟨la, 3, none⟩ = some (.int .i64 ((m : Int) + (sx : Int) + (sy : Int) - 1)) := hBa.out.cell 3
    have p4 : w5.cell? ⟨la, 4, none⟩ = some (.int .i64 (nn)) := hBa.out.cell 4
    have p5 : w5.cell? ⟨la, 5, none⟩ = some (.string (str text)) := hBa.out.cell 5
    have p6 : w5.cell? ⟨la, 6, none⟩ = some (.bool isText) := hBa.out.cell 6
    have po : w5.cell? ⟨ob, 0, none⟩ = some v2 := hBo.out.cell 0
    have hlo2 : ob < w5.heap.size := hBo.out.lt
    have hcb : Hid (Blk (w5.alloc (.cells #[.int .i64 (ki), .int .i64 (op), .int .i64 ((m : Int) + (sx : Int) - 1), .int .i64 ((m : Int) + (sx : Int) + (sy : Int) - 1), .int .i64 (nn), .string (str text), .bool isText] 37)) w5.heap.size 37 (av ⟨ki, op, (m : Int) + (sx : Int) - 1, (m : Int) + (sx : Int) + (sy : Int) - 1, nn, text, isText⟩).toArray) := Blk.new w5 37 #[.int .i64 (ki), .int .i64 (op), .int .i64 ((m : Int) + (sx : Int) - 1), .int .i64 ((m : Int) + (sx : Int) + (sy : Int) - 1), .int .i64 (nn), .string (str text), .bool isText]
    have hbs : ob + 1 ≤ (w5.alloc (.cells #[.int .i64 (ki), .int .i64 (op), .int .i64 ((m : Int) + (sx : Int) - 1), .int .i64 ((m : Int) + (sx : Int) + (sy : Int) - 1), .int .i64 (nn), .string (str text), .bool isText] 37)).heap.size := by simp; omega
    have hO9 := hide (hO.out.alloc (.cells #[.int .i64 (ki), .int .i64 (op), .int .i64 ((m : Int) + (sx : Int) - 1), .int .i64 ((m : Int) + (sx : Int) + (sy : Int) - 1), .int .i64 (nn), .string (str text), .bool isText] 37))
    have hBo9 := hide (hBo.out.alloc (.cells #[.int .i64 (ki), .int .i64 (op), .int .i64 ((m : Int) + (sx : Int) - 1), .int .i64 ((m : Int) + (sx : Int) + (sy : Int) - 1), .int .i64 (nn), .string (str text), .bool isText] 37))
    have hown : Hid (∀ k, (v2).ownBlock = some k → k < w5.heap.size) := fun k hk => hO.out.own_lt k hk
    have hown1 : Hid (∀ k, (v2).ownBlock = some k → ob + 1 ≤ k) := fun k hk => hO.out.block_lt k hk
    go_region_law (refine step_app_a2 ⟨ki, op, (m : Int) + (sx : Int) - 1, (m : Int) + (sx : Int) + (sy : Int) - 1, nn, text, isText⟩ rfl (.tmp 57) (.tmp 59) rfl (ob + 1) v2 (m + sx + sy) ol2 hO9.out rfl w5.heap.size 1 (by simp) rfl hcb.out (by omega) hbs ?_; intro v9 w9 ho9 hb9 hg9 hv9; have hst := hide (LayE.tail (i := 0) hLE.out hlo2 hown.out hown1.out hO9.out hg9 ho9 (by simpa using hv9)); obtain ⟨vA, vc, rfl, -, -, -, -⟩ := ho9.form; have hB9 := hide (hBo9.out.drew.below hb9 (Nat.lt_succ_self _)); have hf9 := hB9.out.frozen 0; have hd9 := hB9.out.cell 0; replace ho9 := hide ho9)
    all_goals
      have hoF := hide (ho9.out.setOther (p := ⟨ob, 0, none⟩) (Nat.lt_succ_self _) (.slice vA (m + sx + sy + 1) vc))
      have hBF := hide (hB9.out.set_ 0 (.slice vA (m + sx + sy + 1) vc))
      clear hcb hbs hO9 hBo9 hg9 hv9 hb9 hown hown1 hLE hBo hBa hO p0 p1 p2 p3 p4 p5 p6 po ho9 hB9
      go_wp2_with fail
      go_ret
      exact LayW.mk (sx + sy + 1) _ (by omega) (by omega) (by push_cast; omega) (by omega) hBF.out hoF.out hst.out
  | false =>
    go_upto_region 11 with (fail)
    obtain ⟨w5, hw5⟩ : ∃ x, x = w4.setCell ⟨la, 3, none⟩ (.int .i64 ((m : Int) + (sx : Int) + (sy : Int) - 1)) := ⟨_, rfl⟩
    rw [← hw5] at hA5 hBo5 hO5 hE5 ⊢
    clear hw5 r0 r3 g0 g3
    have hBa : Hid (Blk w5 la 37 #[.int .i64 kk, .int .i64 op, .int .i64 ((m : Int) + (sx : Int) - 1), .int .i64 ((m : Int) + (sx : Int) + (sy : Int) - 1), .int .i64 nn, .string (str text), .bool isText]) := hA5.out
    have hBo := hBo5
    have hO := hO5
    have hLE := hE5
    clear hA5 hBo5 hO5 hE5
    have p0 : w5.cell? ⟨la, 0, none⟩ = some (.int .i64 (kk)) := hBa.out.cell 0
    have p1 : w5.cell? ⟨la, 1, none⟩ = some (.int .i64 (op)) := hBa.out.cell 1
    have p2 : w5.cell? ⟨la, 2, none⟩ = some (.int .i64 ((m : Int) + (sx : Int) - 1)) := hBa.out.cell 2
    have p3 : w5.cell? ⟨la, 3, none⟩ = some (.int .i64 ((m : Int) + (sx : Int) + (sy : Int) - 1)) := hBa.out.cell 3
    have p4 : w5.cell? ⟨la, 4, none⟩ = some (.int .i64 (nn)) := hBa.out.cell 4
    have p5 : w5.cell? ⟨la, 5, none⟩ = some (.string (str text)) := hBa.out.cell 5
    have p6 : w5.cell? ⟨la, 6, none⟩ = some (.bool isText) := hBa.out.cell 6
    have po : w5.cell? ⟨ob, 0, none⟩ = some v2 := hBo.out.cell 0
    have hlo2 : ob < w5.heap.size := hBo.out.lt
    have hcb : Hid (Blk (w5.alloc (.cells #[.int .i64 (kk), .int .i64 (op), .int .i64 ((m : Int) + (sx : Int) - 1), .int .i64 ((m : Int) + (sx : Int) + (sy : Int) - 1), .int .i64 (nn), .string (str text), .bool isText] 37)) w5.heap.size 37 (av ⟨kk, op, (m : Int) + (sx : Int) - 1, (m : Int) + (sx : Int) + (sy : Int) - 1, nn, text, isText⟩).toArray) := Blk.new w5 37 #[.int .i64 (kk), .int .i64 (op), .int .i64 ((m : Int) + (sx : Int) - 1), .int .i64 ((m : Int) + (sx : Int) + (sy : Int) - 1), .int .i64 (nn), .string (str text), .bool isText]
    have hbs : ob + 1 ≤ (w5.alloc (.cells #[.int .i64 (kk), .int .i64 (op), .int .i64 ((m : Int) + (sx : Int) - 1), .int .i64 ((m : Int) + (sx : Int) + (sy : Int) - 1), .int .i64 (nn), .string (str text), .bool isText] 37)).heap.size := by simp; omega
    have hO9 := hide (hO.out.alloc (.cells #[.int .i64 (kk), .int .i64 (op), .int .i64 ((m : Int) + (sx : Int) - 1), .int .i64 ((m : Int) + (sx : Int) + (sy : Int) - 1), .int .i64 (nn), .string (str text), .bool isText] 37))
    have hBo9 := hide (hBo.out.alloc (.cells #[.int .i64 (kk), .int .i64 (op), .int .i64 ((m : Int) + (sx : Int) - 1), .int .i64 ((m : Int) + (sx : Int) + (sy : Int) - 1), .int .i64 (nn), .string (str text), .bool isText] 37))
    have hown : Hid (∀ k, (v2).ownBlock = some k → k < w5.heap.size) := fun k hk => hO.out.own_lt k hk
    have hown1 : Hid (∀ k, (v2).ownBlock = some k → ob + 1 ≤ k) := fun k hk => hO.out.block_lt k hk
    go_region_law (refine step_app_a2 ⟨kk, op, (m : Int) + (sx : Int) - 1, (m : Int) + (sx : Int) + (sy : Int) - 1, nn, text, isText⟩ rfl (.tmp 57) (.tmp 59) rfl (ob + 1) v2 (m + sx + sy) ol2 hO9.out rfl w5.heap.size 1 (by simp) rfl hcb.out (by omega) hbs ?_; intro v9 w9 ho9 hb9 hg9 hv9; have hst := hide (LayE.tail (i := 0) hLE.out hlo2 hown.out hown1.out hO9.out hg9 ho9 (by simpa using hv9)); obtain ⟨vA, vc, rfl, -, -, -, -⟩ := ho9.form; have hB9 := hide (hBo9.out.drew.below hb9 (Nat.lt_succ_self _)); have hf9 := hB9.out.frozen 0; have hd9 := hB9.out.cell 0; replace ho9 := hide ho9)
    all_goals
      have hoF := hide (ho9.out.setOther (p := ⟨ob, 0, none⟩) (Nat.lt_succ_self _) (.slice vA (m + sx + sy + 1) vc))
      have hBF := hide (hB9.out.set_ 0 (.slice vA (m + sx + sy + 1) vc))
      clear hcb hbs hO9 hBo9 hg9 hv9 hb9 hown hown1 hLE hBo hBa hO p0 p1 p2 p3 p4 p5 p6 po ho9 hB9
      go_wp2_with fail
      go_ret
      exact LayW.mk (sx + sy + 1) _ (by omega) (by omega) (by push_cast; omega) (by omega) hBF.out hoF.out hst.out

/-! ### Plain: how deep a list's parts are -/
theorem deeps_prefix (l : List Ask) : ∀ ds, ∃ es, deeps ds l = ds ++ es := by
  induction l with
  | nil => intro ds; exact ⟨[], by simp [deeps]⟩
  | cons x l ih =>
    intro ds
    obtain ⟨es, h⟩ := ih (ds ++ [deepNext ds x])
    exact ⟨deepNext ds x :: es, by rw [deeps, h, List.append_assoc]; rfl⟩
/-- How deep the part at a place is. -/
def dep (l : List Ask) (k : Nat) : Nat := (deeps [] l).getD k 0
theorem dep_take (l : List Ask) (k j : Nat) (hk : k ≤ l.length) (hj : j < k) : (deeps [] (l.take k)).getD j 0 = dep l j := by
  obtain ⟨es, h⟩ := deeps_prefix (l.drop k) (deeps [] (l.take k))
  have e : deeps [] l = deeps [] (l.take k) ++ es := by rw [← h, ← deeps_append, List.take_append_drop]
  have hl : (deeps [] (l.take k)).length = k := by rw [deeps_len]; simp; omega
  unfold dep
  rw [e, List.getD_eq_getElem?_getD, List.getD_eq_getElem?_getD, List.getElem?_append_left (by omega)]
theorem dep_at (l : List Ask) (k : Nat) (hk : k < l.length) : dep l k = max (if 0 ≤ l[k].a ∧ l[k].a < k then dep l l[k].a.toNat else 0) (if 0 ≤ l[k].b ∧ l[k].b < k then dep l l[k].b.toNat else 0) + 1 := by
  have hl : (deeps [] (l.take k)).length = k := by rw [deeps_len]; simp; omega
  have h1 := dep_take l (k + 1) k (by omega) (by omega)
  rw [List.take_succ_eq_append_getElem hk, deeps_append, deeps, deeps, List.getD_eq_getElem?_getD, List.getElem?_append_right (by omega), hl, Nat.sub_self] at h1
  have h2 : ∀ z : Int, deepAt (deeps [] (l.take k)) z = if 0 ≤ z ∧ z < k then dep l z.toNat else 0 := by
    intro z
    unfold deepAt
    rw [hl]
    split
    · rw [dep_take l k _ (by omega) (by omega)]
    · rfl
  rw [← h1]
  show deepNext _ _ = _
  unfold deepNext
  rw [h2, h2]
theorem deepL_dep (l : List Ask) : deepL l = dep l (l.length - 1) := by
  unfold deepL dep
  rw [List.getLastD_eq_getLast?, List.getLast?_eq_getElem?, deeps_len, List.getD_eq_getElem?_getD]
  simp
theorem shapedL_at : ∀ (l : List Ask) (i : Int), shapedL l i = true → ∀ (k : Nat) (h : k < l.length), shapedB l[k] (i + k) = true
  | [], _, _, k, h => absurd h (by simp)
  | a :: l, i, hs, 0, h => by
    rw [shapedL, Bool.and_eq_true] at hs
    simpa using hs.1
  | a :: l, i, hs, k + 1, h => by
    rw [shapedL, Bool.and_eq_true] at hs
    have := shapedL_at l (i + 1) hs.2 k (by simpa using h)
    simp only [List.getElem_cons_succ]
    rw [show i + ((k + 1 : Nat) : Int) = i + 1 + (k : Int) from by push_cast; omega]
    exact this
theorem shaped_cases {x : Ask} {k : Nat} (h : shapedB x k = true) :
    ((x.kind = 1 ∨ x.kind = 2) ∧ (∃ p : Nat, x.a = p ∧ p < k) ∧ (∃ p : Nat, x.b = p ∧ p < k) ∧ x.a ≠ x.b) ∨ (x.kind = 3 ∧ (∃ p : Nat, x.a = p ∧ p < k) ∧ x.b = -1) ∨ (4 ≤ x.kind ∧ x.kind ≤ 9 ∧ x.a = -1 ∧ x.b = -1 ∧ 1 ≤ x.op ∧ x.op ≤ 7 ∧ (x.kind = 9 → x.op = 1 ∧ x.isText = true)) := by
  have hb : ∀ z : Int, belowB z k = true → ∃ p : Nat, z = p ∧ p < k := by
    intro z hz
    simp [belowB] at hz
    exact ⟨z.toNat, by omega, by omega⟩
  unfold shapedB at h
  split at h
  · rename_i hj
    simp [jointB] at hj
    simp only [Bool.and_eq_true, decide_eq_true_eq] at h
    exact .inl ⟨hj, hb _ h.1.1, hb _ h.1.2, h.2⟩
  · split at h
    · rename_i h3
      simp only [Bool.and_eq_true, decide_eq_true_eq] at h
      exact .inr (.inl ⟨h3, hb _ h.1, h.2⟩)
    · split at h
      · rename_i h9
        simp only [Bool.and_eq_true, decide_eq_true_eq] at h
        obtain ⟨⟨⟨h1, h2⟩, h3⟩, h4⟩ := h
        exact .inr (.inr ⟨by omega, by omega, h1, h2, by omega, by omega, fun _ => ⟨h3, h4⟩⟩)
      · rename_i h9
        simp only [Bool.and_eq_true, decide_eq_true_eq] at h
        obtain ⟨⟨⟨⟨⟨h1, h2⟩, h3⟩, h4⟩, h5⟩, h6⟩ := h
        exact .inr (.inr ⟨h1, by omega, h3, h4, h5, h6, fun e => absurd e (by omega)⟩)

theorem lay_w (ob n c : Nat) (l : List Ask) (hlen : l.length = n) (hgt : 0 < ob) (hsh : shapedL l 0 = true) :
    ∀ (d : Nat), d ≤ 16 → ∀ (k : Nat) (w : World) (A : Option Addr) (t : Bool) (v : Value) (m : Nat) (outL : List Ask), k < n → dep l k ≤ d → RA w ob A n l → TurnT w → Blk w ob 22 #[v] → OA w (ob + 1) v m outL → m + 2 ^ d ≤ 1000000 →
    Calls Tryd.prog 19 #[.slice A n c, .int .i64 k, .bool t, .pointer (some ⟨ob, 0, none⟩)] w (LayW w ob v m (2 ^ d - 1)) := by
  intro d
  induction d with
  | zero =>
    intro hd k w A t v m outL hk hdk
    have := dep_at l k (by omega)
    omega
  | succ d ih =>
    intro hd k w A t v m outL hk hdk h hT hBo hO hm
    have hkl : k < l.length := by omega
    have hs := shapedL_at l 0 hsh k hkl
    rw [Int.zero_add] at hs
    have hd1 := dep_at l k hkl
    have hp : 2 ^ (d + 1) = 2 * 2 ^ d := by rw [Nat.pow_succ]; omega
    have hp1 : 1 ≤ 2 ^ d := Nat.one_le_two_pow
    have hp2 : 2 ^ d ≤ 2 ^ 16 := Nat.pow_le_pow_right (by omega) (by omega)
    have hp3 : (2 : Nat) ^ 16 = 65536 := by decide
    rcases shaped_cases hs with ⟨hk1, ⟨p, hpa, hpk⟩, ⟨q, hqb, hqk⟩, -⟩ | ⟨hk3, ⟨p, hpa, hpk⟩, hb⟩ | ⟨hk4, hk9, ha, hb, ho1, ho7, -⟩
    · rw [hpa, hqb, if_pos ⟨by omega, by omega⟩, if_pos ⟨by omega, by omega⟩] at hd1
      rw [Int.toNat_natCast, Int.toNat_natCast] at hd1
      have e : 2 ^ (d + 1) - 1 = 2 * (2 ^ d - 1) + 1 := by omega
      rw [e]
      refine lay_w_two ob n c k (2 ^ d - 1) l hlen hgt hk hkl l[k] rfl hk1 w A t v m outL h hT hBo hO (by omega) (fun w1 a1 a2 a3 a4 => ?_) fun w1 v1 m1 outL1 hm1 a1 a2 a3 a4 => ?_
      · rw [hpa]; exact ih (by omega) p w1 A t v m outL (by omega) (by omega) a1 a2 a3 a4 (by omega)
      · rw [hqb]; exact ih (by omega) q w1 A t v1 m1 outL1 (by omega) (by omega) a1 a2 a3 a4 (by omega)
    · rw [hpa, if_pos ⟨by omega, by omega⟩, Int.toNat_natCast] at hd1
      have hi := lay_w_neg ob n c k (2 ^ d - 1) l hlen hgt hk hkl l[k] rfl hk3 w A t v m outL h hT hBo hO (fun w1 a1 a2 a3 a4 => by
        rw [hpa]; exact ih (by omega) p w1 A (!t) v m outL (by omega) (by omega) a1 a2 a3 a4 (by omega))
      refine hi.mono ?_
      rintro e w' ⟨s, s1, s2, s3⟩
      exact ⟨s, s1, by omega, s3⟩
    · exact lay_w_term ob n c k _ l hlen hgt hk hkl l[k] rfl ⟨hk4, hk9, by omega, by omega⟩ (by omega) w A t v m outL h hT hBo hO (by omega)

/-! ### Plain: the told list -/
theorem told1_ab (a : Ask) : (told1 a).kind = a.kind ∧ (told1 a).op = a.op ∧ (told1 a).a = a.a ∧ (told1 a).b = a.b ∧ (a.kind ≠ 6 → told1 a = a) := by
  unfold told1 toldR
  split
  · exact ⟨rfl, rfl, rfl, rfl, fun _ => rfl⟩
  · split
    · rename_i h; exact ⟨rfl, rfl, rfl, rfl, fun e => absurd h.1 e⟩
    · split <;> exact ⟨rfl, rfl, rfl, rfl, fun _ => rfl⟩
theorem deeps_map (l : List Ask) : ∀ ds, deeps ds (l.map told1) = deeps ds l := by
  induction l with
  | nil => intro ds; rfl
  | cons x l ih =>
    intro ds
    have h := told1_ab x
    rw [List.map_cons, deeps, deeps, ih, deepNext, deepNext, h.2.2.1, h.2.2.2.1]
theorem shapedB_told (x : Ask) (i : Int) : shapedB (told1 x) i = shapedB x i := by
  by_cases h6 : x.kind = 6
  · obtain ⟨h1, h2, h3, h4, -⟩ := told1_ab x
    have n9 : ¬ (6 : Int) = 9 := by decide
    unfold shapedB jointB
    rw [h1, h2, h3, h4, h6]
    rfl
  · rw [(told1_ab x).2.2.2.2 h6]
theorem shapedL_map (l : List Ask) : ∀ i, shapedL (l.map told1) i = shapedL l i := by
  induction l with
  | nil => intro i; rfl
  | cons x l ih => intro i; rw [List.map_cons, shapedL, shapedL, ih, shapedB_told]

/-! ### Norm at any list -/
/-- Norm's error, of any list. -/
def normErrL (l : List Ask) : Int := if partsB l = false then 1 else if 16 < deepL l then 11 else errsL globG dosP l
def NormW (w : World) (E : Int) (e : Ending) (w' : World) : Prop :=
  (∃ A m c, e = .returned (.tuple #[.slice A m c, .int .i64 E]) ∧ (E ≠ 0 → m = 0) ∧ (E = 0 → 1 ≤ m) ∧ m ≤ 65535) ∧ Below w.heap.size w w'
theorem NormW.bad {w : World} {E E' : Int} (h : E = E') (h0 : E' ≠ 0) {w' : World} (hb : Below w.heap.size w w') : NormW w E (.returned (.tuple #[.slice none 0 0, .int .i64 E'])) w' := by
  subst h
  exact ⟨⟨none, 0, 0, rfl, fun _ => rfl, fun e => absurd e h0, by omega⟩, hb⟩
theorem NormW.good {w : World} {E : Int} (h : E = 0) {A : Option Addr} {m c : Nat} (h1 : 1 ≤ m) (h2 : m ≤ 65535) {w' : World} (hb : Below w.heap.size w w') : NormW w E (.returned (.tuple #[.slice A m c, .int .i64 0])) w' := by
  subst h
  exact ⟨⟨A, m, c, rfl, fun e => absurd rfl e, fun _ => h1, h2⟩, hb⟩
set_option maxRecDepth 100000 in
set_option maxHeartbeats 8000000 in
theorem norm_w (w : World) (A : Option Addr) (n c : Nat) (l : List Ask) (h : RA w w.heap.size A n l) (hn : n ≤ 10000) (hT : Utf8T w) (hTT : TurnT w) :
    Calls Tryd.prog 7 #[.slice A n c] w (NormW w (normErrL l)) := by
  have hll := hide h.len
  have hH := hide h
  go_enter Tryd.func7, Tryd.ntmps7
  go_wp2_with fail
  refine (parts_any w A n c _ h (by omega)).mono ?_
  rintro e w1 ⟨rfl, hb1⟩
  cases hpb : partsB l with
  | false =>
    have he : Hid (normErrL l = 1) := by rw [Hid, normErrL, if_pos hpb]
    clear hpb h hH
    go_wp2_with fail
    go_ret2
    exact NormW.bad he.out (by decide) hb1
  | true =>
  have hq1 : 1 ≤ n := by
    have h1 := hpb
    simp [partsB] at h1
    have := hll.out; have := h1.1.2; omega
  have hsh : Hid (shapedL l 0 = true) := by
    have h1 := hpb
    simp only [partsB, Bool.and_eq_true] at h1
    exact h1.1.1
  have hR1 := (h.below hb1).more hb1.size
  have hsz1 := hb1.size
  clear h
  go_wp2_with fail
  refine (deep_any w1 A n c _ hR1 (by omega)).mono ?_
  rintro e w2 ⟨rfl, hb2⟩
  have hR2 := (hR1.below hb2).more hb2.size
  have hbw2 := hb1.trans (hb2.mono hsz1)
  have hsz2 := hbw2.size
  clear hR1 hb1 hb2 hsz1
  by_cases hd : 16 < deepL l
  · have he : Hid (normErrL l = 11) := by rw [Hid, normErrL, if_neg (by rw [hpb]; decide), if_pos hd]
    have hd2 : (16 : Int) < (deepL l : Int) := by omega
    clear hd hR2 hpb
    go_wp2_with fail
    go_ret2
    exact NormW.bad he.out (by decide) hbw2
  · have hd2 : ¬ (16 : Int) < (deepL l : Int) := by omega
    have hdd : Hid (deepL l ≤ 16) := by rw [Hid]; omega
    have hE : Hid (normErrL l = errsL globG dosP l) := by rw [Hid, normErrL, if_neg (by rw [hpb]; decide), if_neg hd]
    clear hd hpb
    go_wp2_with fail
    refine (clone_any w2 A n c _ hR2 (by omega)).mono ?_
    rintro e w3 ⟨v, rfl, hO3, hb3⟩
    have hbw3 := hbw2.trans (hb3.mono hsz2)
    have hO3' : OA w3 w.heap.size v n l := hO3.more hsz2
    rcases hO3'.parts with ⟨_, h0, _⟩ | ⟨g, cap, rfl, hnc, hcm, hgw, hg3⟩
    · omega
    have hT3 := hide (hT.below hbw3)
    have hTT3 := hide (hTT.below hbw3 hTT.2)
    have hgt : 0 < w.heap.size := hTT.2
    have hgf : 1 < w.heap.size := hT.2.1
    have hga : 2 < w.heap.size := hT.2.2
    replace hO3' := hide hO3'
    clear hR2 hO3 hb3 hbw2 hsz2 hT hTT hH
    go_wp2_with fail
    go_loopw [21] (fun vi wr => ∃ k : Nat, k ≤ n ∧ vi = .int .i64 k ∧ errsL globG dosP (l.take k) = 0 ∧ OA wr w.heap.size (.slice (some ⟨g, 0, none⟩) n cap) n (toldTo l k) ∧ Utf8T wr ∧ TurnT wr ∧ Below w.heap.size w wr) (fun vi _ => n - (intOf vi).toNat)
    case atStart => exact ⟨0, by omega, rfl, rfl, by rw [toldTo_zero]; exact hO3'.out, hT3.out, hTT3.out, hbw3⟩
    case round =>
      clear hT3 hTT3 hbw3 hO3'
      obtain ⟨k, hk, rfl, herr, hO, hT, hTT, hbw⟩ := hrel
      have hsz := hbw.size
      have hgl := hO.own_lt g rfl
      by_cases h1 : k < n
      · have hkl : k < l.length := by have := hll.out; omega
        have htl : k < (toldTo l k).length := by rw [toldTo_len]; exact hkl
        have hat := toldTo_at l k hkl htl
        have p0 := hO.cell (k := k) (j := 0) h1 htl (by decide)
        have p1 := hO.cell (k := k) (j := 1) h1 htl (by decide)
        have p2 := hO.cell (k := k) (j := 2) h1 htl (by decide)
        have p3 := hO.cell (k := k) (j := 3) h1 htl (by decide)
        have p4 := hO.cell (k := k) (j := 4) h1 htl (by decide)
        have p5 := hO.cell (k := k) (j := 5) h1 htl (by decide)
        have p6 := hO.cell (k := k) (j := 6) h1 htl (by decide)
        rw [hat] at p0 p1 p2 p3 p4 p5 p6
        have het := hide (errs_take l k hkl herr)
        have hew := hide (errs_whole l (k + 1))
        have hset := hide (toldTo_set l k hkl)
        generalize l[k] = x at *
        replace p0 : wr.cell? ⟨g, k * 7, none⟩ = some (.int .i64 x.kind) := p0
        replace p1 : wr.cell? ⟨g, k * 7 + 1, none⟩ = some (.int .i64 x.op) := p1
        replace p2 : wr.cell? ⟨g, k * 7 + 2, none⟩ = some (.int .i64 x.a) := p2
        replace p3 : wr.cell? ⟨g, k * 7 + 3, none⟩ = some (.int .i64 x.b) := p3
        replace p4 : wr.cell? ⟨g, k * 7 + 4, none⟩ = some (.int .i64 x.n) := p4
        replace p5 : wr.cell? ⟨g, k * 7 + 5, none⟩ = some (.string (str x.text)) := p5
        replace p6 : wr.cell? ⟨g, k * 7 + 6, none⟩ = some (.bool x.isText) := p6
        have hO' := hide hO
        have hT' := hide hT
        have hTT' := hide hTT
        have hbw' := hide hbw
        replace herr := hide herr
        clear hO hT hTT hbw hat
        go_wp2_with fail
        have hA4 := Blk.new wr 37 #[.int .i64 x.kind, .int .i64 x.op, .int .i64 x.a, .int .i64 x.b, .int .i64 x.n, .string (str x.text), .bool x.isText]
        have hz4 : (wr.alloc (.cells #[.int .i64 x.kind, .int .i64 x.op, .int .i64 x.a, .int .i64 x.b, .int .i64 x.n, .string (str x.text), .bool x.isText] 37)).heap.size = wr.heap.size + 1 := by simp
        have hb0 := (Below.refl wr.heap.size wr).alloc (Nat.le_refl _) (.cells #[.int .i64 x.kind, .int .i64 x.op, .int .i64 x.a, .int .i64 x.b, .int .i64 x.n, .string (str x.text), .bool x.isText] 37)
        refine (typed_any _ x).mono ?_
        rintro e w4 ⟨rfl, hb4⟩
        have hb04 := hb0.trans (hb4.mono (by omega))
        replace hA4 := hA4.below hb4 (by omega)
        have hbw4 := hbw'.out.trans (hb04.mono hsz)
        have hO4 := hide (hO'.out.below hb04 (Nat.le_refl _))
        have hT4 := hT'.out.below hb04
        have hTT4 := hide (hTT'.out.below hb04 (Nat.lt_of_lt_of_le hgt hsz))
        have hsz4 := hbw4.size
        clear hO' hT' hTT' hbw' hb4 hb0 hb04 hz4 p0 p1 p2 p3 p4 p5 p6
        cases hty : typedB x with
        | false =>
          have herl : Hid (errsL globG dosP l = 16) := by
            have e1 : errsL globG dosP [x] = 16 := by rw [errs_one, if_pos hty]
            rw [Hid, hew.out (by rw [het.out, e1]; decide), het.out, e1]
          have he : Hid (normErrL l = 16) := by rw [Hid, hE.out, herl.out]
          clear hty hA4 hT4
          go_wp2_with fail
          go_ret2
          exact NormW.bad he.out (by decide) hbw4
        | true =>
          have r0 : w4.cell? ⟨wr.heap.size, 0, none⟩ = some (.int .i64 x.kind) := hA4.cell 0
          have r1 : w4.cell? ⟨wr.heap.size, 1, none⟩ = some (.int .i64 x.op) := hA4.cell 1
          have r2 : w4.cell? ⟨wr.heap.size, 2, none⟩ = some (.int .i64 x.a) := hA4.cell 2
          have r3 : w4.cell? ⟨wr.heap.size, 3, none⟩ = some (.int .i64 x.b) := hA4.cell 3
          have r4 : w4.cell? ⟨wr.heap.size, 4, none⟩ = some (.int .i64 x.n) := hA4.cell 4
          have r5 : w4.cell? ⟨wr.heap.size, 5, none⟩ = some (.string (str x.text)) := hA4.cell 5
          have r6 : w4.cell? ⟨wr.heap.size, 6, none⟩ = some (.bool x.isText) := hA4.cell 6
          replace hT4 := hide hT4
          replace hbw4 := hide hbw4
          clear hA4
          go_wp2_with fail
          refine (told_any w4 x hT4.out).mono ?_
          rintro e w5 ⟨rfl, hb5⟩
          have he1 : Hid (errsL globG dosP [x] = if (toldR globG dosP x).2 = false then 4 else 0) := by rw [Hid, errs_one, if_neg (by rw [hty]; exact Bool.noConfusion)]
          have hbw5 := hbw4.out.trans (hb5.mono hsz4)
          have hO5 := hO4.out.below hb5 (Nat.le_refl _)
          have hT5 := hT4.out.below hb5
          have hTT5 := hTT4.out.below (hb5.mono hsz4) hgt
          have htl : k < (toldTo l k).length := by rw [toldTo_len]; exact hkl
          have hO6 := hO5.put7 (told1 x) htl
          rw [hset.out] at hO6
          have hy : told1 x = (toldR globG dosP x).1 := rfl
          rw [hy] at hO6
          clear hO4 hT4 hTT4 hbw4 hb5 hty r0 r1 r2 r3 r4 r5 r6 hy hset
          unfold askV
          generalize (toldR globG dosP x).1 = y at *
          generalize (toldR globG dosP x).2 = is at *
          obtain ⟨s0, p0⟩ : ∃ s, w5.cell? ⟨g, k * 7, none⟩ = some s := ⟨_, hO5.cell (k := k) (j := 0) h1 htl (by decide)⟩
          obtain ⟨s1, p1⟩ : ∃ s, w5.cell? ⟨g, k * 7 + 1, none⟩ = some s := ⟨_, hO5.cell (k := k) (j := 1) h1 htl (by decide)⟩
          obtain ⟨s2, p2⟩ : ∃ s, w5.cell? ⟨g, k * 7 + 2, none⟩ = some s := ⟨_, hO5.cell (k := k) (j := 2) h1 htl (by decide)⟩
          obtain ⟨s3, p3⟩ : ∃ s, w5.cell? ⟨g, k * 7 + 3, none⟩ = some s := ⟨_, hO5.cell (k := k) (j := 3) h1 htl (by decide)⟩
          obtain ⟨s4, p4⟩ : ∃ s, w5.cell? ⟨g, k * 7 + 4, none⟩ = some s := ⟨_, hO5.cell (k := k) (j := 4) h1 htl (by decide)⟩
          obtain ⟨s5, p5⟩ : ∃ s, w5.cell? ⟨g, k * 7 + 5, none⟩ = some s := ⟨_, hO5.cell (k := k) (j := 5) h1 htl (by decide)⟩
          obtain ⟨s6, p6⟩ : ∃ s, w5.cell? ⟨g, k * 7 + 6, none⟩ = some s := ⟨_, hO5.cell (k := k) (j := 6) h1 htl (by decide)⟩
          have f0 : w5.frozen? ⟨g, k * 7, none⟩ = false := World.ownsRow.frozenAt hO5 _
          have f1 : w5.frozen? ⟨g, k * 7 + 1, none⟩ = false := World.ownsRow.frozenAt hO5 _
          have f2 : w5.frozen? ⟨g, k * 7 + 2, none⟩ = false := World.ownsRow.frozenAt hO5 _
          have f3 : w5.frozen? ⟨g, k * 7 + 3, none⟩ = false := World.ownsRow.frozenAt hO5 _
          have f4 : w5.frozen? ⟨g, k * 7 + 4, none⟩ = false := World.ownsRow.frozenAt hO5 _
          have f5 : w5.frozen? ⟨g, k * 7 + 5, none⟩ = false := World.ownsRow.frozenAt hO5 _
          have f6 : w5.frozen? ⟨g, k * 7 + 6, none⟩ = false := World.ownsRow.frozenAt hO5 _
          obtain ⟨w6, hw6⟩ : ∃ x, x = (((((((w5.setCell ⟨g, k * 7, none⟩ (.int .i64 y.kind)).setCell ⟨g, k * 7 + 1, none⟩ (.int .i64 y.op)).setCell ⟨g, k * 7 + 2, none⟩ (.int .i64 y.a)).setCell ⟨g, k * 7 + 3, none⟩ (.int .i64 y.b)).setCell ⟨g, k * 7 + 4, none⟩ (.int .i64 y.n)).setCell ⟨g, k * 7 + 5, none⟩ (.string (str y.text))).setCell ⟨g, k * 7 + 6, none⟩ (.bool y.isText)) := ⟨_, rfl⟩
          rw [← hw6] at hO6
          have hbw6 : Below w.heap.size w w6 := by
            rw [hw6]
            exact below_set (below_set (below_set (below_set (below_set (below_set (below_set hbw5 hgw _) hgw _) hgw _) hgw _) hgw _) hgw _) hgw _
          have hb56 : Below g w5 w6 := by
            rw [hw6]
            exact below_set (below_set (below_set (below_set (below_set (below_set (below_set (Below.refl _ _) (Nat.le_refl _) _) (Nat.le_refl _) _) (Nat.le_refl _) _) (Nat.le_refl _) _) (Nat.le_refl _) _) (Nat.le_refl _) _) (Nat.le_refl _) _
          have hTT6 : TurnT w6 := hTT5.below hb56 (by omega)
          have hT6 : Utf8T w6 := hT5.far hb56 (by omega) (by omega)
          replace hO6 := hide hO6
          replace hT6 := hide hT6
          replace hTT6 := hide hTT6
          replace hbw6 := hide hbw6
          replace hw6 := hide hw6
          clear hO5 hT5 hTT5 hbw5 htl hb56
          cases is with
          | true =>
            have he2 : Hid (errsL globG dosP (l.take (k + 1)) = 0) := by rw [Hid, het.out, he1.out]; rfl
            go_wp2_with fail
            rw [← hw6.out]
            go_roundw
            case rel => exact ⟨k + 1, by omega, by go_num, he2.out, hO6.out, hT6.out, hTT6.out, hbw6.out⟩
            case measure => simp [intOf]; omega
          | false =>
            have herl : Hid (errsL globG dosP l = 4) := by
              have e1 : errsL globG dosP [x] = 4 := by rw [he1.out]; rfl
              rw [Hid, hew.out (by rw [het.out, e1]; decide), het.out, e1]
            have he : Hid (normErrL l = 4) := by rw [Hid, hE.out, herl.out]
            go_wp2_with fail
            rw [← hw6.out]
            go_ret2
            exact NormW.bad he.out (by decide) hbw6.out
      · obtain rfl : k = n := by omega
        have htk : l.take k = l := List.take_of_length_le (by have := hll.out; omega)
        rw [htk] at herr
        rw [toldTo_all l k (by have := hll.out; omega)] at hO
        have he : Hid (normErrL l = 0) := by rw [Hid, hE.out, herr]
        have hRA : RA (wr.alloc (.cells #[.slice none 0 0] 22)) wr.heap.size (some ⟨g, 0, none⟩) k (l.map told1) := Reads.alloc (Reads.of_own hO) (Nat.le_refl _) _
        have hdl : dep (l.map told1) (k - 1) ≤ 16 := by
          have h1 := deepL_dep l
          rw [hll.out] at h1
          have h2 : dep (l.map told1) (k - 1) = dep l (k - 1) := by unfold dep; rw [deeps_map]
          have := hdd.out
          omega
        have hL0 := lay_w wr.heap.size k cap (l.map told1) (by rw [List.length_map]; exact hll.out) (by omega) (by rw [shapedL_map]; exact hsh.out) 16 (Nat.le_refl _) (k - 1) (wr.alloc (.cells #[.slice none 0 0] 22)) (some ⟨g, 0, none⟩) false (.slice none 0 0) 0 []
          (by omega) hdl hRA (hTT.below ((Below.refl wr.heap.size wr).alloc (Nat.le_refl _) _) hTT.2) (Blk.new wr 22 _) (OA.nil _ _) (by decide)
        have ek : ((k - 1 : Nat) : Int) = (k : Int) - 1 := by omega
        rw [ek] at hL0
        have hL := hide hL0
        have hb0 := hide (hbw.alloc hsz (.cells #[.slice none 0 0] 22))
        have k1 : (1 : Int) ≤ (k : Int) := by omega
        clear htk herr hO hT hTT hbw hRA h1 hdl hL0 ek
        go_wp2_with fail
        refine hL.out.mono ?_
        rintro e w7 ⟨s, hs1, hs2, rfl, v7, oL, hB7, hO7, hE7⟩
        rw [Nat.zero_add] at hO7
        have hbw7 := hb0.out.trans (hE7.1.mono hsz)
        have c7 : w7.cell? ⟨wr.heap.size, 0, none⟩ = some v7 := hB7.cell 0
        obtain ⟨A8, n8, rfl, -, -, -, -⟩ := hO7.form
        have hs3 : s ≤ 65535 := hs2
        clear hB7 hO7 hE7 hL hb0
        go_wp2_with fail
        go_ret2
        exact NormW.good he.out hs1 hs3 hbw7
end Go.Proofs.YtnhcamkccnaeeaaDoor
