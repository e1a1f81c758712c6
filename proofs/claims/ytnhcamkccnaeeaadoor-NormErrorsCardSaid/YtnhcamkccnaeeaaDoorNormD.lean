/-
  Norm: contracts of joint, typed.
  Norm: contracts of shaped and its closure.
  Norm: contracts of ContainsFunc (as parts calls it), of Clone of parts, of parts.
  Norm: contract of parts.
-/
import Derived.Test.YtnhcamkccnaeeaaDoorNormSpec
import Derived.Test.YtnhcamkccnaeeaaDoorParH
import Derived.WalkSpells
namespace Go.Proofs.YtnhcamkccnaeeaaDoor
open Go.RowKit
set_option linter.unusedVariables false

def askV (x : Ask) : Value := .agg #[.int .i64 x.kind, .int .i64 x.op, .int .i64 x.a, .int .i64 x.b, .int .i64 x.n, .string (str x.text), .bool x.isText]
set_option maxRecDepth 100000 in
theorem joint_any (w : World) (x : Ask) : Calls Tryd.prog 33 #[askV x] w fun e w' => e = .returned (.bool (jointB x)) ∧ Below w.heap.size w w' := by
  unfold askV
  by_cases h1 : x.kind = 1
  · have n1 : (x.kind == 1) = true := by simp [h1]
    have hr : Hid (jointB x = true) := by rw [Hid]; simp [jointB, h1]
    clear h1
    go_enter Tryd.func33, Tryd.ntmps33
    go_wp2_with fail
    go_ret
    exact ⟨ret_bool hr.out.symm, (Below.refl _ _).alloc (Nat.le_refl _) _⟩
  · have n1 : (x.kind == 1) = false := by simp [h1]
    have hr : Hid ((x.kind == 2) = jointB x) := by
      rw [Hid]
      by_cases h2 : x.kind = 2
      · simp [jointB, h2]
      · simp [jointB, h1, h2]
    clear h1
    go_enter Tryd.func33, Tryd.ntmps33
    go_wp2_with fail
    go_ret
    exact ⟨ret_bool hr.out, (Below.refl _ _).alloc (Nat.le_refl _) _⟩
set_option maxRecDepth 100000 in
set_option maxHeartbeats 1000000 in
theorem typed_any (w : World) (x : Ask) : Calls Tryd.prog 17 #[askV x] w fun e w' => e = .returned (.bool (typedB x)) ∧ Below w.heap.size w w' := by
  obtain ⟨kind, op, a, b, n, text, isText⟩ := x
  unfold askV
  dsimp only
  have ho : ((op == 1) = true ∨ (op == 1) = false) ∧ ((op == 2) = true ∨ (op == 2) = false) ∧ ((op == 7) = true ∨ (op == 7) = false) := by
    refine ⟨?_, ?_, ?_⟩ <;> (cases (op == _) <;> simp)
  obtain ⟨hr, hhr⟩ : ∃ r, r = typedB ⟨kind, op, a, b, n, text, isText⟩ := ⟨_, rfl⟩
  rw [← hhr]
  unfold typedB at hhr
  dsimp only at hhr
  by_cases k4 : kind = 4
  · subst k4
    rw [if_pos rfl] at hhr
    obtain ⟨o1, o2, o7⟩ := ho
    cases isText
    all_goals rcases o1 with o1 | o1
    all_goals rcases o2 with o2 | o2
    all_goals rcases o7 with o7 | o7
    all_goals
      have hf : Hid (hr = _) := hhr
      clear hhr
      go_enter Tryd.func17, Tryd.ntmps17
      go_wp2_with fail
      go_ret
      exact ⟨ret_bool (by rw [hf.out]; simp_all), (Below.refl _ _).alloc (Nat.le_refl _) _⟩
  have n4 : (kind == 4) = false := by simp [k4]
  rw [if_neg k4] at hhr
  by_cases k5 : kind = 5
  · subst k5
    rw [if_pos rfl] at hhr
    obtain ⟨o1, o2, o7⟩ := ho
    cases isText
    all_goals rcases o1 with o1 | o1
    all_goals rcases o2 with o2 | o2
    all_goals rcases o7 with o7 | o7
    all_goals
      have hf : Hid (hr = _) := hhr
      clear hhr
      go_enter Tryd.func17, Tryd.ntmps17
      go_wp2_with fail
      go_ret
      exact ⟨ret_bool (by rw [hf.out]; simp_all), (Below.refl _ _).alloc (Nat.le_refl _) _⟩
  have n5 : (kind == 5) = false := by simp [k5]
  rw [if_neg k5] at hhr
  by_cases k6 : kind = 6
  · subst k6
    rw [if_pos rfl] at hhr
    obtain ⟨o1, o2, o7⟩ := ho
    cases isText
    all_goals rcases o1 with o1 | o1
    all_goals rcases o2 with o2 | o2
    all_goals rcases o7 with o7 | o7
    all_goals
      have hf : Hid (hr = _) := hhr
      clear hhr
      go_enter Tryd.func17, Tryd.ntmps17
      go_wp2_with fail
      go_ret
      exact ⟨ret_bool (by rw [hf.out]; simp_all), (Below.refl _ _).alloc (Nat.le_refl _) _⟩
  have n6 : (kind == 6) = false := by simp [k6]
  rw [if_neg k6] at hhr
  by_cases k7 : kind = 7
  · subst k7
    rw [if_pos (.inl rfl)] at hhr
    obtain ⟨o1, o2, -⟩ := ho
    cases isText
    all_goals rcases o1 with o1 | o1
    all_goals rcases o2 with o2 | o2
    all_goals
      have hf : Hid (hr = _) := hhr
      clear hhr
      go_enter Tryd.func17, Tryd.ntmps17
      go_wp2_with fail
      go_ret
      exact ⟨ret_bool (by rw [hf.out]; simp_all), (Below.refl _ _).alloc (Nat.le_refl _) _⟩
  have n7 : (kind == 7) = false := by simp [k7]
  by_cases k8 : kind = 8
  · subst k8
    rw [if_pos (.inr rfl)] at hhr
    obtain ⟨o1, o2, -⟩ := ho
    cases isText
    all_goals rcases o1 with o1 | o1
    all_goals rcases o2 with o2 | o2
    all_goals
      have hf : Hid (hr = _) := hhr
      clear hhr
      go_enter Tryd.func17, Tryd.ntmps17
      go_wp2_with fail
      go_ret
      exact ⟨ret_bool (by rw [hf.out]; simp_all), (Below.refl _ _).alloc (Nat.le_refl _) _⟩
  have n8 : (kind == 8) = false := by simp [k8]
  rw [if_neg (by omega)] at hhr
  clear k4 k5 k6 k7 k8
  obtain ⟨o1, o2, -⟩ := ho
  cases isText
  all_goals rcases o1 with o1 | o1
  all_goals rcases o2 with o2 | o2
  all_goals
    have hf : Hid (hr = _) := hhr
    clear hhr
    go_enter Tryd.func17, Tryd.ntmps17
    go_wp2_with fail
    go_ret
    exact ⟨ret_bool hf.out.symm, (Below.refl _ _).alloc (Nat.le_refl _) _⟩
end Go.Proofs.YtnhcamkccnaeeaaDoor
namespace Go.Proofs.YtnhcamkccnaeeaaDoor
open Go.RowKit
set_option linter.unusedVariables false

theorem below_any (w : World) (n i : Int) (b : Nat) (hc : w.cell? ⟨b, 0, none⟩ = some (.int .i64 i)) :
    Calls Tryd.prog 51 #[.int .i64 n, .pointer (some ⟨b, 0, none⟩)] w fun e w' => e = .returned (.bool (belowB n i)) ∧ w = w' := by
  by_cases h1 : 0 ≤ n
  · by_cases h2 : n < i
    · have hr : Hid (belowB n i = true) := by simp [Hid, belowB, h1, h2]
      rw [hr.out]
      go_enter Tryd.func51, Tryd.ntmps51
      go_wp2_with fail
      go_ret
      exact ⟨rfl, rfl⟩
    · have hr : Hid (belowB n i = false) := by simp [Hid, belowB, h2]
      rw [hr.out]
      go_enter Tryd.func51, Tryd.ntmps51
      go_wp2_with fail
      go_ret
      exact ⟨rfl, rfl⟩
  · have hr : Hid (belowB n i = false) := by simp [Hid, belowB, h1]
    rw [hr.out]
    go_enter Tryd.func51, Tryd.ntmps51
    go_wp2_with fail
    go_ret
    exact ⟨rfl, rfl⟩

theorem jointB_of {x : Ask} (h1 : x.kind ≠ 1) (h2 : x.kind ≠ 2) : jointB x = false := by simp [jointB, h1, h2]
theorem eqb_true {a b : Int} (h : a = b) : (a == b) = true := by simp [h]
theorem eqb_false {a b : Int} (h : ¬ a = b) : (a == b) = false := by simp [h]
theorem neb_true {a b : Int} (h : ¬ a = b) : (a != b) = true := by simp [h]
theorem neb_false {a b : Int} (h : a = b) : (a != b) = false := by simp [h]

set_option maxRecDepth 100000 in
set_option maxHeartbeats 2000000 in
theorem shaped_joint (w : World) (x : Ask) (i : Int) (hj : jointB x = true) : Calls Tryd.prog 28 #[askV x, .int .i64 i] w fun e w' => e = .returned (.bool (shapedB x i)) ∧ Below w.heap.size w w' := by
  have hS : Hid (shapedB x i = (belowB x.a i && belowB x.b i && decide (x.a ≠ x.b))) := by rw [Hid, shapedB, if_pos hj]
  obtain ⟨r, hr⟩ : ∃ r, r = shapedB x i := ⟨_, rfl⟩
  rw [← hr]
  replace hr := hide hr
  have hmf : ∀ (fn : Fn) (first cap : Array Value) (w : World), (Instr.makeFunc fn first cap).run Tryd.prog w = .ok (.func fn first cap) w := fun _ _ _ _ => rfl
  unfold askV
  go_enter Tryd.func28, Tryd.ntmps28
  go_wp2_with fail
  refine (joint_any _ x).mono ?_
  rintro e w1 ⟨rfl, hb1⟩
  rw [hj]
  clear hj
  have hB1 := (Blk.new w 37 #[.int .i64 x.kind, .int .i64 x.op, .int .i64 x.a, .int .i64 x.b, .int .i64 x.n, .string (str x.text), .bool x.isText]).alloc (.cells #[.int .i64 i] 3)
  have hB2 := Blk.new (w.alloc (.cells #[.int .i64 x.kind, .int .i64 x.op, .int .i64 x.a, .int .i64 x.b, .int .i64 x.n, .string (str x.text), .bool x.isText] 37)) 3 #[.int .i64 i]
  have hbw : Below w.heap.size w ((w.alloc (.cells #[.int .i64 x.kind, .int .i64 x.op, .int .i64 x.a, .int .i64 x.b, .int .i64 x.n, .string (str x.text), .bool x.isText] 37)).alloc (.cells #[.int .i64 i] 3)) := ((Below.refl _ _).alloc (Nat.le_refl _) _).alloc (by simp) _
  have hC1 := hB1.below hb1 (by simp; omega)
  have hC2 := hB2.below hb1 (by simp)
  have hbw1 := hbw.trans (hb1.mono (by simp; omega))
  rw [show (w.alloc (.cells #[.int .i64 x.kind, .int .i64 x.op, .int .i64 x.a, .int .i64 x.b, .int .i64 x.n, .string (str x.text), .bool x.isText] 37)).heap.size = w.heap.size + 1 from by simp] at hC2
  have c2 : w1.cell? ⟨w.heap.size, 2, none⟩ = some (.int .i64 x.a) := hC1.cell 2
  have c3 : w1.cell? ⟨w.heap.size, 3, none⟩ = some (.int .i64 x.b) := hC1.cell 3
  have ci : w1.cell? ⟨w.heap.size + 1, 0, none⟩ = some (.int .i64 i) := hC2.cell 0
  clear hB1 hB2 hbw hb1 hC1 hC2
  generalize x.a = xa at *
  generalize x.b = xb at *
  by_cases ba : belowB xa i = true
  · by_cases bb : belowB xb i = true
    · by_cases hab : xa = xb
      · have n1 := neb_false hab
        have hres : Hid (false = r) := by rw [Hid, hr.out, hS.out, ba, bb]; simp [hab]
        clear hab
        go_wp2_with fail
        refine (below_any _ xa i _ ci).mono ?_
        rintro e w2 ⟨rfl, rfl⟩
        rw [ba]
        go_wp2_with fail
        refine (below_any _ xb i _ ci).mono ?_
        rintro e w2 ⟨rfl, rfl⟩
        rw [bb]
        go_wp2_with fail
        go_ret
        exact ⟨ret_bool hres.out, hbw1⟩
      · have n1 := neb_true hab
        have hres : Hid (true = r) := by rw [Hid, hr.out, hS.out, ba, bb]; simp [hab]
        clear hab
        go_wp2_with fail
        refine (below_any _ xa i _ ci).mono ?_
        rintro e w2 ⟨rfl, rfl⟩
        rw [ba]
        go_wp2_with fail
        refine (below_any _ xb i _ ci).mono ?_
        rintro e w2 ⟨rfl, rfl⟩
        rw [bb]
        go_wp2_with fail
        go_ret
        exact ⟨ret_bool hres.out, hbw1⟩
    · rw [Bool.not_eq_true] at bb
      have hres : Hid (false = r) := by rw [Hid, hr.out, hS.out, ba, bb]; rfl
      go_wp2_with fail
      refine (below_any _ xa i _ ci).mono ?_
      rintro e w2 ⟨rfl, rfl⟩
      rw [ba]
      go_wp2_with fail
      refine (below_any _ xb i _ ci).mono ?_
      rintro e w2 ⟨rfl, rfl⟩
      rw [bb]
      go_wp2_with fail
      go_ret
      exact ⟨ret_bool hres.out, hbw1⟩
  · rw [Bool.not_eq_true] at ba
    have hres : Hid (false = r) := by rw [Hid, hr.out, hS.out, ba]; rfl
    go_wp2_with fail
    refine (below_any _ xa i _ ci).mono ?_
    rintro e w2 ⟨rfl, rfl⟩
    rw [ba]
    go_wp2_with fail
    go_ret
    exact ⟨ret_bool hres.out, hbw1⟩

/-- What lies ready behind the call of joint. -/
def ShapedAt (w : World) (x : Ask) (i : Int) (w1 : World) : Prop :=
  Below w.heap.size w w1 ∧ Blk w1 w.heap.size 37 #[.int .i64 x.kind, .int .i64 x.op, .int .i64 x.a, .int .i64 x.b, .int .i64 x.n, .string (str x.text), .bool x.isText] ∧ w1.cell? ⟨w.heap.size + 1, 0, none⟩ = some (.int .i64 i)
theorem shapedAt_of (w : World) (x : Ask) (i : Int) {w1 : World} (hb1 : Below ((w.alloc (.cells #[.int .i64 x.kind, .int .i64 x.op, .int .i64 x.a, .int .i64 x.b, .int .i64 x.n, .string (str x.text), .bool x.isText] 37)).alloc (.cells #[.int .i64 i] 3)).heap.size ((w.alloc (.cells #[.int .i64 x.kind, .int .i64 x.op, .int .i64 x.a, .int .i64 x.b, .int .i64 x.n, .string (str x.text), .bool x.isText] 37)).alloc (.cells #[.int .i64 i] 3)) w1) : ShapedAt w x i w1 := by
  have hB1 := (Blk.new w 37 #[.int .i64 x.kind, .int .i64 x.op, .int .i64 x.a, .int .i64 x.b, .int .i64 x.n, .string (str x.text), .bool x.isText]).alloc (.cells #[.int .i64 i] 3)
  have hB2 := Blk.new (w.alloc (.cells #[.int .i64 x.kind, .int .i64 x.op, .int .i64 x.a, .int .i64 x.b, .int .i64 x.n, .string (str x.text), .bool x.isText] 37)) 3 #[.int .i64 i]
  have hbw : Below w.heap.size w ((w.alloc (.cells #[.int .i64 x.kind, .int .i64 x.op, .int .i64 x.a, .int .i64 x.b, .int .i64 x.n, .string (str x.text), .bool x.isText] 37)).alloc (.cells #[.int .i64 i] 3)) := ((Below.refl _ _).alloc (Nat.le_refl _) _).alloc (by simp) _
  have hC1 := hB1.below hb1 (by simp; omega)
  have hC2 := hB2.below hb1 (by simp)
  rw [show (w.alloc (.cells #[.int .i64 x.kind, .int .i64 x.op, .int .i64 x.a, .int .i64 x.b, .int .i64 x.n, .string (str x.text), .bool x.isText] 37)).heap.size = w.heap.size + 1 from by simp] at hC2
  exact ⟨hbw.trans (hb1.mono (by simp; omega)), hC1, hC2.cell 0⟩
set_option maxRecDepth 100000 in
set_option maxHeartbeats 4000000 in
theorem shaped_has (w : World) (x : Ask) (i : Int) (hj : jointB x = false) (h9 : x.kind = 9) : Calls Tryd.prog 28 #[askV x, .int .i64 i] w fun e w' => e = .returned (.bool (shapedB x i)) ∧ Below w.heap.size w w' := by
  have hmf : ∀ (fn : Fn) (first cap : Array Value) (w : World), (Instr.makeFunc fn first cap).run Tryd.prog w = .ok (.func fn first cap) w := fun _ _ _ _ => rfl
  obtain ⟨r, hr⟩ : ∃ r, r = shapedB x i := ⟨_, rfl⟩
  rw [← hr]
  rw [shapedB, if_neg (by rw [hj]; exact Bool.false_ne_true)] at hr
  have k3 : (x.kind == 3) = false := by rw [h9]; rfl
  have k9 : (x.kind == 9) = true := by rw [h9]; rfl
  rw [if_neg (by rw [h9]; decide), if_pos h9] at hr
  clear h9
  replace hr := hide hr
  unfold askV
  go_enter Tryd.func28, Tryd.ntmps28
  go_wp2_with fail
  refine (joint_any _ x).mono ?_
  rintro e w1 ⟨rfl, hb1⟩
  rw [hj]
  clear hj
  obtain ⟨hbw1, hC1, ci⟩ := shapedAt_of w x i hb1
  clear hb1
  have c0 : w1.cell? ⟨w.heap.size, 0, none⟩ = some (.int .i64 x.kind) := hC1.cell 0
  have c1 : w1.cell? ⟨w.heap.size, 1, none⟩ = some (.int .i64 x.op) := hC1.cell 1
  have c2 : w1.cell? ⟨w.heap.size, 2, none⟩ = some (.int .i64 x.a) := hC1.cell 2
  have c3 : w1.cell? ⟨w.heap.size, 3, none⟩ = some (.int .i64 x.b) := hC1.cell 3
  have c6 : w1.cell? ⟨w.heap.size, 6, none⟩ = some (.bool x.isText) := hC1.cell 6
  clear hC1
  have c0 : w1.cell? ⟨w.heap.size, 0, none⟩ = some (.int .i64 x.kind) := c0
  generalize x.kind = xkind at *
  generalize x.op = xop at *
  generalize x.a = xa at *
  generalize x.b = xb at *
  generalize x.isText = xisText at *
  by_cases t1 : xa = -1
  · have na := eqb_true t1
    by_cases t2 : xb = -1
    · have nb := eqb_true t2
      by_cases t3 : xop = 1
      · have no := eqb_true t3
        by_cases t4 : xisText = true
        · subst t4
          have hres : Hid (true = r) := by rw [Hid, hr.out]; simp_all <;> omega
          go_wp2_with fail
          go_ret
          exact ⟨ret_bool hres.out, hbw1⟩
        · rw [Bool.not_eq_true] at t4; subst t4
          have hres : Hid (false = r) := by rw [Hid, hr.out]; simp_all <;> omega
          go_wp2_with fail
          go_ret
          exact ⟨ret_bool hres.out, hbw1⟩
      · have no := eqb_false t3
        have hres : Hid (false = r) := by rw [Hid, hr.out]; simp_all <;> omega
        go_wp2_with fail
        go_ret
        exact ⟨ret_bool hres.out, hbw1⟩
    · have nb := eqb_false t2
      have hres : Hid (false = r) := by rw [Hid, hr.out]; simp_all <;> omega
      go_wp2_with fail
      go_ret
      exact ⟨ret_bool hres.out, hbw1⟩
  · have na := eqb_false t1
    have hres : Hid (false = r) := by rw [Hid, hr.out]; simp_all <;> omega
    go_wp2_with fail
    go_ret
    exact ⟨ret_bool hres.out, hbw1⟩
set_option maxRecDepth 100000 in
set_option maxHeartbeats 4000000 in
theorem shaped_other (w : World) (x : Ask) (i : Int) (hj : jointB x = false) (h3 : ¬ x.kind = 3) (h9 : ¬ x.kind = 9) : Calls Tryd.prog 28 #[askV x, .int .i64 i] w fun e w' => e = .returned (.bool (shapedB x i)) ∧ Below w.heap.size w w' := by
  have hmf : ∀ (fn : Fn) (first cap : Array Value) (w : World), (Instr.makeFunc fn first cap).run Tryd.prog w = .ok (.func fn first cap) w := fun _ _ _ _ => rfl
  obtain ⟨r, hr⟩ : ∃ r, r = shapedB x i := ⟨_, rfl⟩
  rw [← hr]
  rw [shapedB, if_neg (by rw [hj]; exact Bool.false_ne_true)] at hr
  have k3 : (x.kind == 3) = false := eqb_false h3
  have k9 : (x.kind == 9) = false := eqb_false h9
  rw [if_neg h3, if_neg h9] at hr
  clear h9 h3
  replace hr := hide hr
  unfold askV
  go_enter Tryd.func28, Tryd.ntmps28
  go_wp2_with fail
  refine (joint_any _ x).mono ?_
  rintro e w1 ⟨rfl, hb1⟩
  rw [hj]
  clear hj
  obtain ⟨hbw1, hC1, ci⟩ := shapedAt_of w x i hb1
  clear hb1
  have c0 : w1.cell? ⟨w.heap.size, 0, none⟩ = some (.int .i64 x.kind) := hC1.cell 0
  have c1 : w1.cell? ⟨w.heap.size, 1, none⟩ = some (.int .i64 x.op) := hC1.cell 1
  have c2 : w1.cell? ⟨w.heap.size, 2, none⟩ = some (.int .i64 x.a) := hC1.cell 2
  have c3 : w1.cell? ⟨w.heap.size, 3, none⟩ = some (.int .i64 x.b) := hC1.cell 3
  have c6 : w1.cell? ⟨w.heap.size, 6, none⟩ = some (.bool x.isText) := hC1.cell 6
  clear hC1
  have c0 : w1.cell? ⟨w.heap.size, 0, none⟩ = some (.int .i64 x.kind) := c0
  generalize x.kind = xkind at *
  generalize x.op = xop at *
  generalize x.a = xa at *
  generalize x.b = xb at *
  generalize x.isText = xisText at *
  by_cases t1 : 4 ≤ xkind
  · skip
    by_cases t2 : xkind ≤ 8
    · skip
      by_cases t3 : xa = -1
      · have na := eqb_true t3
        by_cases t4 : xb = -1
        · have nb := eqb_true t4
          by_cases t5 : 1 ≤ xop
          · skip
            have hres : Hid (decide (xop ≤ 7) = r) := by rw [Hid, hr.out]; simp_all <;> omega
            go_wp2_with fail
            go_ret
            exact ⟨ret_bool hres.out, hbw1⟩
          · skip
            have hres : Hid (false = r) := by rw [Hid, hr.out]; simp_all <;> omega
            go_wp2_with fail
            go_ret
            exact ⟨ret_bool hres.out, hbw1⟩
        · have nb := eqb_false t4
          have hres : Hid (false = r) := by rw [Hid, hr.out]; simp_all <;> omega
          go_wp2_with fail
          go_ret
          exact ⟨ret_bool hres.out, hbw1⟩
      · have na := eqb_false t3
        have hres : Hid (false = r) := by rw [Hid, hr.out]; simp_all <;> omega
        go_wp2_with fail
        go_ret
        exact ⟨ret_bool hres.out, hbw1⟩
    · skip
      have hres : Hid (false = r) := by rw [Hid, hr.out]; simp_all <;> omega
      go_wp2_with fail
      go_ret
      exact ⟨ret_bool hres.out, hbw1⟩
  · skip
    have hres : Hid (false = r) := by rw [Hid, hr.out]; simp_all <;> omega
    go_wp2_with fail
    go_ret
    exact ⟨ret_bool hres.out, hbw1⟩
set_option maxRecDepth 100000 in
set_option maxHeartbeats 2000000 in
theorem shaped_not (w : World) (x : Ask) (i : Int) (hj : jointB x = false) (h3 : x.kind = 3) : Calls Tryd.prog 28 #[askV x, .int .i64 i] w fun e w' => e = .returned (.bool (shapedB x i)) ∧ Below w.heap.size w w' := by
  have hmf : ∀ (fn : Fn) (first cap : Array Value) (w : World), (Instr.makeFunc fn first cap).run Tryd.prog w = .ok (.func fn first cap) w := fun _ _ _ _ => rfl
  obtain ⟨r, hr⟩ : ∃ r, r = shapedB x i := ⟨_, rfl⟩
  rw [← hr]
  rw [shapedB, if_neg (by rw [hj]; exact Bool.false_ne_true), if_pos h3] at hr
  have k3 : (x.kind == 3) = true := by rw [h3]; rfl
  clear h3
  replace hr := hide hr
  unfold askV
  go_enter Tryd.func28, Tryd.ntmps28
  go_wp2_with fail
  refine (joint_any _ x).mono ?_
  rintro e w1 ⟨rfl, hb1⟩
  rw [hj]
  clear hj
  obtain ⟨hbw1, hC1, ci⟩ := shapedAt_of w x i hb1
  clear hb1
  have c0 : w1.cell? ⟨w.heap.size, 0, none⟩ = some (.int .i64 x.kind) := hC1.cell 0
  have c2 : w1.cell? ⟨w.heap.size, 2, none⟩ = some (.int .i64 x.a) := hC1.cell 2
  have c3 : w1.cell? ⟨w.heap.size, 3, none⟩ = some (.int .i64 x.b) := hC1.cell 3
  clear hC1
  generalize x.a = xa at *
  generalize x.b = xb at *
  generalize x.kind = xk at *
  by_cases ba : belowB xa i = true
  · by_cases bb : xb = -1
    · have nb := eqb_true bb
      have hres : Hid (true = r) := by rw [Hid, hr.out, ba, bb]; rfl
      clear bb
      go_wp2_with fail
      refine (below_any _ xa i _ ci).mono ?_
      rintro e w2 ⟨rfl, rfl⟩
      rw [ba]
      go_wp2_with fail
      go_ret
      exact ⟨ret_bool hres.out, hbw1⟩
    · have nb := eqb_false bb
      have hres : Hid (false = r) := by rw [Hid, hr.out, ba]; simp [bb]
      clear bb
      go_wp2_with fail
      refine (below_any _ xa i _ ci).mono ?_
      rintro e w2 ⟨rfl, rfl⟩
      rw [ba]
      go_wp2_with fail
      go_ret
      exact ⟨ret_bool hres.out, hbw1⟩
  · rw [Bool.not_eq_true] at ba
    have hres : Hid (false = r) := by rw [Hid, hr.out, ba]; rfl
    go_wp2_with fail
    refine (below_any _ xa i _ ci).mono ?_
    rintro e w2 ⟨rfl, rfl⟩
    rw [ba]
    go_wp2_with fail
    go_ret
    exact ⟨ret_bool hres.out, hbw1⟩
theorem shaped_any (w : World) (x : Ask) (i : Int) : Calls Tryd.prog 28 #[askV x, .int .i64 i] w fun e w' => e = .returned (.bool (shapedB x i)) ∧ Below w.heap.size w w' := by
  cases hj : jointB x with
  | true => exact shaped_joint w x i hj
  | false =>
    by_cases h3 : x.kind = 3
    · exact shaped_not w x i hj h3
    · by_cases h9 : x.kind = 9
      · exact shaped_has w x i hj h9
      · exact shaped_other w x i hj h3 h9
end Go.Proofs.YtnhcamkccnaeeaaDoor
namespace Go.Proofs.YtnhcamkccnaeeaaDoor
open Go.RowKit
set_option linter.unusedVariables false

theorem pone_any (w : World) (n : Int) : Calls Tryd.prog 30 #[.int .i64 n] w fun e w' => e = .returned (.bool (n != 1)) ∧ w = w' := by
  go_enter Tryd.func30, Tryd.ntmps30
  go_wp2_with fail
  go_ret
  exact ⟨rfl, rfl⟩
def IdxRet (w : World) (l : List Int) (e : Ending) (w' : World) : Prop := ∃ r : Int, e = .returned (.int .i64 r) ∧ (0 ≤ r ↔ l.any (fun n => n != 1) = true) ∧ w = w'
set_option maxRecDepth 100000 in
set_option maxHeartbeats 1000000 in
theorem ifun_any (w : World) (B : Nat) (A : Option Addr) (n c : Nat) (l : List Int) (h : RI w B A n l) (hn : n ≤ 100000) :
    Calls Tryd.prog 52 #[.slice A n c, .func (.func 30) #[] #[]] w (IdxRet w l) := by
  have hlen := hide h.len
  replace h := hide h
  go_enter Tryd.func52, Tryd.ntmps52
  go_wp2_with fail
  go_loop [5, 8] (fun v i => ∃ k : Nat, k ≤ n ∧ i = .int .i64 k ∧ (l.take k).any (fun n => n != 1) = false) (fun _ i => n - (intOf i).toNat)
  case atStart => exact ⟨0, by omega, rfl, rfl⟩
  case round =>
    obtain ⟨k, hk, rfl, hany⟩ := hrel
    by_cases h1 : k < n
    · have hkl : k < l.length := by have := hlen.out; omega
      obtain ⟨ad, rfl, hab, c0⟩ := h.out.elem h1 hkl
      have hs := List.take_succ_eq_append_getElem hkl
      have hx : Hid (l[k] ∈ l) := List.getElem_mem hkl
      generalize l[k] = x at *
      by_cases e1 : x = 1
      · have n1 : (x != 1) = false := by simp [e1]
        have hany2 : Hid ((l.take (k + 1)).any (fun n => n != 1) = false) := by rw [Hid, hs, List.any_append, hany]; simp [e1]
        clear hs hany e1
        go_wp2_with fail
        refine (pone_any w x).mono ?_
        rintro e w2 ⟨rfl, rfl⟩
        rw [n1]
        go_wp2_with fail
        go_round
        case rel => exact ⟨k + 1, by omega, by go_num, hany2.out⟩
        case measure => simp [intOf]; omega
      · have n1 : (x != 1) = true := by simp [e1]
        have hres : Hid (l.any (fun n => n != 1) = true) := by rw [Hid, List.any_eq_true]; exact ⟨x, hx.out, n1⟩
        clear hs hany e1
        go_wp2_with fail
        refine (pone_any w x).mono ?_
        rintro e w2 ⟨rfl, rfl⟩
        rw [n1]
        go_wp2_with fail
        go_ret
        exact ⟨(k : Int), rfl, ⟨fun _ => hres.out, fun _ => by omega⟩, rfl⟩
    · have ht : l.take k = l := List.take_of_length_le (by have := hlen.out; omega)
      rw [ht] at hany
      replace hany := hide hany
      clear ht
      go_wp2_with fail
      go_ret
      exact ⟨-1, rfl, ⟨fun h => absurd h (by omega), fun h => by rw [hany.out] at h; cases h⟩, rfl⟩
set_option maxRecDepth 100000 in
theorem cfun_any (w : World) (B : Nat) (A : Option Addr) (n c : Nat) (l : List Int) (h : RI w B A n l) (hn : n ≤ 100000) :
    Calls Tryd.prog 29 #[.slice A n c, .func (.func 30) #[] #[]] w fun e w' => e = .returned (.bool (l.any fun n => n != 1)) ∧ w = w' := by
  go_enter Tryd.func29, Tryd.ntmps29
  go_wp2_with fail
  refine (ifun_any w B A n c l h hn).mono ?_
  rintro e w2 ⟨r, rfl, hr, rfl⟩
  have hd : Hid (decide (0 ≤ r) = l.any fun n => n != 1) := by rw [Hid, Bool.eq_iff_iff, decide_eq_true_eq]; exact hr
  clear h hr
  go_wp2_with fail
  go_ret
  exact ⟨ret_bool hd.out, rfl⟩

theorem OA.empty (w : World) {base : Nat} (h : base ≤ w.heap.size) : OA (w.alloc (.cells #[] 37)) base (.slice (some ⟨w.heap.size, 0, none⟩) 0 0) 0 [] :=
  ⟨by simp [avs], .inr ⟨w.heap.size, 0, #[], rfl, h, heap_alloc_new w _, Nat.le_refl _, Nat.zero_le _, rfl, rfl⟩⟩
def CloneRet (w : World) (n : Nat) (l : List Ask) (e : Ending) (w' : World) : Prop := ∃ v, e = .returned v ∧ OA w' w.heap.size v n l ∧ Below w.heap.size w w'
theorem avs_one (l : List Ask) : ∀ u ∈ avs l, u.oneCell' = true := by
  intro u hu
  obtain ⟨x, _, hx⟩ := List.mem_flatMap.1 hu
  exact av_one x u hx
set_option maxRecDepth 100000 in
set_option maxHeartbeats 1000000 in
theorem clone_any (w : World) (A : Option Addr) (n c : Nat) (l : List Ask) (h : RA w w.heap.size A n l) (hn : n ≤ 100000) :
    Calls Tryd.prog 16 #[.slice A n c] w (CloneRet w n l) := by
  have qT : ∀ (w : World) (a : Option Addr) (n c n' c' : Nat), (binOp .eql 22 (.slice a n c) (.slice none n' c')).run Tryd.prog w = .ok (.bool a.isNone) w := fun w a n c n' c' => Lib.run_eql_slice_nil w _ _ a n c n' c' Tryd.underlying22
  obtain ⟨i0, hi0, hz0, hz1, hz2⟩ := info_parts ask_info
  cases A with
  | none =>
    have hn0 : n = 0 := by
      rcases Nat.eq_zero_or_pos n with h0 | h0
      · exact h0
      · obtain ⟨ad, e, _⟩ := h.2 h0; cases e
    have hl0 : l = [] := List.eq_nil_of_length_eq_zero (by rw [h.len, hn0])
    subst hn0 hl0
    clear hz0 hz1 hz2 hi0
    go_enter Tryd.func16, Tryd.ntmps16
    go_wp2_with fail
    go_ret
    exact ⟨_, rfl, OA.nil _ _, Below.refl _ _⟩
  | some ad =>
    replace hz1 := hide hz1
    replace hz2 := hide hz2
    replace hz0 := hide hz0
    replace hi0 := hide hi0
    have hO := hide (OA.empty w (Nat.le_refl _))
    have hR := hide (Reads.alloc h (Nat.le_refl _) (.cells #[] 37))
    have hbl := hide ((Below.refl w.heap.size w).alloc (Nat.le_refl _) (.cells #[] 37))
    have hsz : w.heap.size ≤ (w.alloc (.cells #[] 37)).heap.size := by simp
    clear h
    go_enter Tryd.func16, Tryd.ntmps16
    go_wp2_with (refine wpList_append_any _ rfl _ _ 22 rfl w.heap.size 37 i0 _ 7 64 Tryd.underlying22 hi0.out hz0.out hz1.out hz2.out rfl (by omega) _ 0 _ rfl hO.out w.heap.size (some ad) n c (avs l) rfl hR.out (avs_one l) ?h1 ?h2 hsz ?_)
    case h1 => simp only [maxLen]; omega
    case h2 => omega
    intro v2 w2 o2 g2 _
    have hb2 := hbl.out.grown g2 hsz (fun k hk => by simp [Value.ownBlock] at hk; omega)
    have o3 : OA w2 w.heap.size v2 n l := by
      have e : avs [] ++ avs l = avs l := by simp [avs]
      rw [e] at o2
      exact o2
    clear o2 g2 hbl hO hR hsz
    replace o3 := hide o3
    go_wp2_with fail
    go_ret
    exact ⟨_, rfl, o3.out, hb2⟩
end Go.Proofs.YtnhcamkccnaeeaaDoor
namespace Go.Proofs.YtnhcamkccnaeeaaDoor
open Go.RowKit
set_option linter.unusedVariables false

/-! ### Plain -/
def bump (f : Nat → Nat) (x : Int) (j : Nat) : Nat := if (j : Int) = x then f j + 1 else f j
def uc (n : Nat) (f : Nat → Nat) : Array Value := ((List.range n).map fun j => Value.int .i64 (f j : Int)).toArray
theorem uc_get (n : Nat) (f : Nat → Nat) (j : Nat) (h : j < n) : (uc n f)[j]? = some (.int .i64 (f j : Int)) := by simp [uc, h]
theorem uc_bump (n : Nat) (f : Nat → Nat) (K : Nat) : (uc n f).setIfInBounds K (.int .i64 ((f K : Int) + 1)) = uc n (bump f (K : Int)) := by
  unfold uc
  rw [List.setIfInBounds_toArray]
  congr 1
  apply List.ext_getElem
  · simp
  · intro i h1 h2
    simp only [List.getElem_set, List.getElem_map, List.getElem_range, bump]
    by_cases e : K = i
    · subst e; simp
    · rw [if_neg e, if_neg (by omega)]
theorem uc_zero (n : Nat) : dz [] n = uc n (fun _ => 0) := by
  unfold dz uc
  congr 1
  apply List.ext_getElem
  · simp
  · intro i h1 h2; simp
def inU (f : Nat → Nat) (x y : Int) (i : Nat) : Nat → Nat := if i = 0 then f else if i = 1 then bump f x else bump (bump f x) y
theorem used_next (l : List Ask) (k : Nat) (h : k < l.length) : (fun j : Nat => usedC (l.take (k + 1)) (j : Int)) = inU (fun j : Nat => usedC (l.take k) (j : Int)) (l[k].a) (l[k].b) 2 := by
  funext j
  rw [List.take_succ_eq_append_getElem h, usedC_append, usedC_one]
  show _ = bump (bump (fun j : Nat => usedC (l.take k) (j : Int)) l[k].a) l[k].b j
  unfold bump
  have e1 : (l[k].a = (j : Int)) ↔ ((j : Int) = l[k].a) := eq_comm
  have e2 : (l[k].b = (j : Int)) ↔ ((j : Int) = l[k].b) := eq_comm
  simp only [e1, e2]
  split <;> split <;> omega
theorem usedC_le (l : List Ask) (k : Int) : usedC l k ≤ 2 * l.length := by
  have h1 := List.countP_le_length (p := fun a : Ask => decide (a.a = k)) (l := l)
  have h2 := List.countP_le_length (p := fun a : Ask => decide (a.b = k)) (l := l)
  unfold usedC; omega
theorem inU_le (f : Nat → Nat) (x y : Int) (i : Nat) (j : Nat) : inU f x y i j ≤ f j + 2 := by
  unfold inU
  split
  · omega
  · split
    · unfold bump; split <;> omega
    · unfold bump; split <;> split <;> omega
theorem shaped_lt {x : Ask} {i : Int} (hi : 0 ≤ i) (h : shapedB x i = true) : x.a < i ∧ x.b < i := by
  unfold shapedB at h
  split at h
  · simp [belowB] at h; omega
  · split at h
    · simp [belowB] at h; omega
    · split at h
      · simp at h; omega
      · simp at h; omega
theorem shapedL_take (l : List Ask) (k : Nat) (h : k < l.length) : shapedL (l.take (k + 1)) 0 = (shapedL (l.take k) 0 && shapedB l[k] (k : Int)) := by
  rw [List.take_succ_eq_append_getElem h, shapedL_append, shapedL, shapedL, Bool.and_true]
  congr 2
  simp; omega
theorem shapedL_bad (l : List Ask) (k : Nat) (h : shapedL (l.take k) 0 = false) : partsB l = false := by
  have : shapedL l 0 = false := by
    rw [← List.take_append_drop k l, shapedL_append, h]; rfl
  unfold partsB; rw [this]; rfl
theorem any_all (n : Nat) (f : Nat → Nat) : (((List.range n).map fun j => ((f j : Nat) : Int)).any fun n => n != 1) = !((List.range n).all fun k => decide (f k = 1)) := by
  rw [List.any_map, Bool.eq_iff_iff]
  simp only [List.any_eq_true, List.mem_range, Function.comp, bne_iff_ne, Bool.not_eq_true', List.all_eq_false, decide_eq_true_eq]
  constructor
  · rintro ⟨x, h1, h2⟩; exact ⟨x, h1, by omega⟩
  · rintro ⟨x, h1, h2⟩; exact ⟨x, h1, by omega⟩
theorem RI.of_uc {w : World} {g n m : Nat} {f : Nat → Nat} (h : Blk w g 3 (uc n f)) (hm : m ≤ n) : RI w w.heap.size (some ⟨g, 0, none⟩) m ((List.range m).map fun j => ((f j : Nat) : Int)) := by
  refine ⟨by simp [iv], fun _ => ⟨_, rfl, h.lt, fun j u hu => ?_⟩⟩
  have hj : j < m := by
    have := (List.getElem?_eq_some_iff.1 hu).1
    simpa [iv] using this
  rw [show (⟨g, 0, none⟩ : Addr).add j = ⟨g, j, none⟩ from by unfold Addr.add; split <;> simp_all, h.cell, uc_get n f j (by omega), ← hu]
  simp [iv, hj]

set_option maxRecDepth 100000 in
set_option maxHeartbeats 4000000 in
theorem parts_any (w : World) (A : Option Addr) (n c : Nat) (l : List Ask) (h : RA w w.heap.size A n l) (hn : n ≤ 100000) :
    Calls Tryd.prog 14 #[.slice A n c] w fun e w' => e = .returned (.bool (partsB l)) ∧ Below w.heap.size w w' := by
  have hlen := hide h.len
  replace h := hide h
  have hmk := make_ints n hn
  rw [uc_zero] at hmk
  go_enter Tryd.func14, Tryd.ntmps14
  go_wp2_with fail
  clear hmk
  go_loopw [13] (fun i wr => ∃ k : Nat, k ≤ n ∧ i = .int .i64 k ∧ Blk wr w.heap.size 3 (uc n (fun j => usedC (l.take k) (j : Int))) ∧ shapedL (l.take k) 0 = true ∧ Below w.heap.size w wr) (fun i _ => n - (intOf i).toNat)
  case atStart => exact ⟨0, by omega, rfl, Blk.new w 3 (uc n (fun _ => 0)), rfl, (Below.refl _ _).alloc (Nat.le_refl _) _⟩
  case round =>
    obtain ⟨k, hk, rfl, hB, hsh, hbl⟩ := hrel
    have hsz := hB.lt
    by_cases h1 : k < n
    · have hkl : k < l.length := by have := hlen.out; omega
      obtain ⟨ad, rfl, hab, c0, c1, c2, c3, c4, c5, c6⟩ := (h.out.below hbl).elem h1 hkl
      have hs := hide (used_next l k hkl)
      have hst := hide (shapedL_take l k hkl)
      have hub : Hid (∀ j : Nat, usedC (l.take k) (j : Int) ≤ 200000) := fun j => by
        have := usedC_le (l.take k) (j : Int)
        have h2 : (l.take k).length ≤ k := by simp; omega
        omega
      generalize l[k] = x at *
      have hab2 : (ad.add (k * 7)).block < wr.heap.size := by omega
      have hB0 := hide (hB.alloc (.cells #[.int .i64 x.kind, .int .i64 x.op, .int .i64 x.a, .int .i64 x.b, .int .i64 x.n, .string (str x.text), .bool x.isText] 37))
      have hA0 := hide (Blk.new wr 37 #[.int .i64 x.kind, .int .i64 x.op, .int .i64 x.a, .int .i64 x.b, .int .i64 x.n, .string (str x.text), .bool x.isText])
      have hbl0 := hide (hbl.alloc (by omega) (.cells #[.int .i64 x.kind, .int .i64 x.op, .int .i64 x.a, .int .i64 x.b, .int .i64 x.n, .string (str x.text), .bool x.isText] 37))
      have hsz0 : Hid (w.heap.size < wr.heap.size + 1 ∧ (wr.alloc (.cells #[.int .i64 x.kind, .int .i64 x.op, .int .i64 x.a, .int .i64 x.b, .int .i64 x.n, .string (str x.text), .bool x.isText] 37)).heap.size = wr.heap.size + 1) := ⟨by omega, by simp⟩
      replace hB := hide hB
      replace hsh := hide hsh
      replace hbl := hide hbl
      go_wp2_with fail
      refine (shaped_any _ x (k : Int)).mono ?_
      rintro e w2 ⟨rfl, hb2⟩
      obtain ⟨hz1, hz2⟩ := hsz0.out
      have hB2 := hB0.out.below hb2 (by omega)
      have hA2 := hA0.out.below hb2 (by omega)
      have hbw2 := hbl0.out.trans (hb2.mono (by omega))
      clear hb2 hB0 hA0 hbl0 hB hbl c0 c1 c2 c3 c4 c5 c6 hsz0 hz1 hz2
      cases hsx : shapedB x (k : Int) with
      | false =>
        have hres : Hid (partsB l = false) := shapedL_bad l (k + 1) (by rw [hst.out, hsx]; simp)
        clear hsx hst hs hub hsh hB2 hA2
        go_wp2_with fail
        go_ret
        exact ⟨ret_bool hres.out.symm, hbw2⟩
      | true =>
        have hsh2 : Hid (shapedL (l.take (k + 1)) 0 = true) := by rw [Hid, hst.out, hsx, hsh.out]; rfl
        obtain ⟨la, lb⟩ := shaped_lt (by omega) hsx
        have c2 : w2.cell? ⟨wr.heap.size, 2, none⟩ = some (.int .i64 x.a) := hA2.cell 2
        have c3 : w2.cell? ⟨wr.heap.size, 3, none⟩ = some (.int .i64 x.b) := hA2.cell 3
        generalize x.a = xa at *
        generalize x.b = xb at *
        clear hsx hst hsh hA2
        generalize hf : (fun j : Nat => usedC (l.take k) (j : Int)) = f at *
        have hfb : Hid (∀ j, f j ≤ 200000) := by rw [← hf]; exact hub.out
        clear hub hf
        replace hB2 := hide hB2
        replace hbw2 := hide hbw2
        go_wp2_with fail
        clear c2 c3
        go_loopw [27] (fun j wi => ∃ i : Nat, i ≤ 2 ∧ j = .int .i64 i ∧ Blk wi w.heap.size 3 (uc n (inU f xa xb i)) ∧ Below w.heap.size w wi) (fun j _ => 2 - (intOf j).toNat)
        case atStart => exact ⟨0, by omega, rfl, hB2.out, hbw2.out⟩
        case round =>
          clear hB2 hbw2
          obtain ⟨i, hi, rfl, hB, hbl⟩ := hrel
          by_cases h2 : i < 2
          · obtain ⟨K, hK, hM, hKn⟩ : ∃ K : Int, (∀ w, (Instr.index 63 (.agg #[.int .i64 xa, .int .i64 xb]) (.int .i64 (i : Int))).run Tryd.prog w = .ok (.int .i64 K) w) ∧ Hid (inU f xa xb (i + 1) = bump (inU f xa xb i) K) ∧ K < k := by
              match i, h2 with
              | 0, _ => exact ⟨xa, idx2_0 xa xb, rfl, la⟩
              | 1, _ => exact ⟨xb, idx2_1 xa xb, rfl, lb⟩
            have hfz := hB.frozen K.toNat
            have hMle : Hid (∀ j, inU f xa xb i j ≤ 200002) := fun j => by
              have h3 := inU_le f xa xb i j
              have h4 := hfb.out j
              omega
            generalize inU f xa xb i = u at *
            by_cases k0 : 0 ≤ K
            · obtain ⟨kk, rfl⟩ := Int.eq_ofNat_of_zero_le k0
              have hkk : kk < n := by omega
              have hcj := (hB.cell kk).trans (uc_get n u kk hkk)
              have hle := hMle.out kk
              have hu := hide (uc_bump n u kk)
              simp only [Int.toNat_natCast] at hfz
              replace hB := hide hB
              generalize u kk = m at *
              go_wp2_with fail
              go_roundw
              case rel =>
                refine ⟨i + 1, by omega, by go_num, ?_, below_set hbl (Nat.le_refl _) _⟩
                rw [hM.out, ← hu.out]
                exact hB.out.set_ kk _
              case measure => simp [intOf]; omega
            · have hMs : Hid (inU f xa xb (i + 1) = u) := by
                rw [Hid, hM.out]; funext j; rw [bump, if_neg (by omega)]
              replace hB := hide hB
              clear hM hfz
              go_wp2_with fail
              go_roundw
              case rel => exact ⟨i + 1, by omega, by go_num, by rw [hMs.out]; exact hB.out, hbl⟩
              case measure => simp [intOf]; omega
          · have hi2 : i = 2 := by omega
            subst hi2
            replace hB := hide hB
            go_wp2_with fail
            go_roundw
            case rel => exact ⟨k + 1, by omega, by go_num, by rw [hs.out]; exact hB.out, hsh2.out, hbl⟩
            case measure => simp [intOf]; omega
    · have hkn : k = n := by omega
      subst hkn
      have htk : l.take k = l := by rw [List.take_of_length_le (by have := hlen.out; omega)]
      rw [htk] at hB hsh
      by_cases hz : k = 0
      · subst hz
        have hr : Hid (partsB l = false) := by
          have : l = [] := List.eq_nil_of_length_eq_zero hlen.out
          subst this; rfl
        clear hB hsh htk
        go_wp2_with fail
        go_ret
        exact ⟨ret_bool hr.out.symm, hbl⟩
      · have hR := hide (RI.of_uc (m := k - 1) hB (by omega))
        have hr : Hid ((!(((List.range (k - 1)).map fun j : Nat => ((usedC l (j : Int) : Nat) : Int)).any fun n => n != 1)) = partsB l) := by
          rw [Hid, any_all (k - 1) (fun j : Nat => usedC l (j : Int)), Bool.not_not, partsB, hsh]
          have := hlen.out
          rw [this]
          simp; omega
        have k0 : 0 < k := by omega
        clear hB hsh htk
        obtain ⟨k1, rfl⟩ : ∃ k1, k = k1 + 1 := ⟨k - 1, by omega⟩
        have q1 : (((k1 + 1 : Nat) : Int) - 1) = (k1 : Int) := by omega
        go_wp2_with fail
        refine (cfun_any _ _ _ _ _ _ hR.out (by omega)).mono ?_
        rintro e w2 ⟨rfl, rfl⟩
        go_wp2_with fail
        go_ret
        exact ⟨ret_bool (by rw [← hr.out, List.any_map]; rfl), hbl⟩
end Go.Proofs.YtnhcamkccnaeeaaDoor
