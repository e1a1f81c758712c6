/-
  Norm: contracts of joint, typed.
  Norm: contracts of shaped and its closure.
  Norm: contracts of ContainsFunc (as parts calls it), of Clone of parts, of parts.
  Norm: contract of parts.
  The question of 'not not (text)'; what Norm answers of a question; behind two nots the same. No program in sight.
  Norm: contract of told.
  Norm: contract of lay, at any place of a list that holds a question's parts.
  Norm: contract of told at every part; plain laws of the told list.
  Norm: contract of Norm at a question's parts.
-/
import Derived.Test.YtnnjcedlomfhoaaGreatDoorHB
import Derived.WalkSpells
import Derived.Test.YtnnjcedlomfhoaaGreatDoorHDosB
import Derived.Test.YtnnjcedlomfhoaaGreatDoorHGlobE
import Derived.Test.YtnnjcedlomfhoaaGreatDoorHRpG
namespace Go.Proofs.YtnnjcedlomfhoaaGreatDoor
open Go.RowKit
set_option linter.unusedVariables false
def askV (x : Ask) : Value := .agg #[.int .i64 x.kind, .int .i64 x.op, .int .i64 x.a, .int .i64 x.b, .int .i64 x.n, .string (str x.text), .bool x.isText]
set_option maxRecDepth 100000 in
theorem joint_any (w : World) (x : Ask) : Calls Tryz.prog 23 #[askV x] w fun e w' => e = .returned (.bool (jointB x)) ∧ Below w.heap.size w w' := by
  unfold askV
  by_cases h1 : x.kind = 1
  · have n1 : (x.kind == 1) = true := by simp [h1]
    have hr : Hid (jointB x = true) := by rw [Hid]; simp [jointB, h1]
    clear h1
    go_enter Tryz.func23, Tryz.ntmps23
    go_wp2_with fail
    go_ret
    exact ⟨ret_bool hr.out.symm, (Below.refl _ _).alloc (Nat.le_refl _) _⟩
  · have n1 : (x.kind == 1) = false := by simp [h1]
    have hr : Hid ((x.kind == 2) = jointB x) := by
      rw [Hid]
      by_cases h2 : x.kind = 2
      · simp [jointB, h2]
      · simp [jointB, h1, h2]
    clear h1
    go_enter Tryz.func23, Tryz.ntmps23
    go_wp2_with fail
    go_ret
    exact ⟨ret_bool hr.out, (Below.refl _ _).alloc (Nat.le_refl _) _⟩
set_option maxRecDepth 100000 in
set_option maxHeartbeats 1000000 in
theorem typed_any (w : World) (x : Ask) : Calls Tryz.prog 35 #[askV x] w fun e w' => e = .returned (.bool (typedB x)) ∧ Below w.heap.size w w' := by
  obtain ⟨kind, op, a, b, n, text, isText⟩ := x
  unfold askV
  dsimp only
  have ho : ((op == 1) = true ∨ (op == 1) = false) ∧ ((op == 2) = true ∨ (op == 2) = false) ∧ ((op == 7) = true ∨ (op == 7) = false) := by
    refine ⟨?_, ?_, ?_⟩ <;> (cases (op == _) <;> simp)
  obtain ⟨hr, hhr⟩ : ∃ r, r = typedB ⟨kind, op, a, b, n, text, isText⟩ := ⟨_, rfl⟩
  rw [← hhr]
  unfold typedB at hhr
  dsimp only at hhr
  by_cases k4 : kind = 4
  · subst k4
    rw [if_pos rfl] at hhr
    obtain ⟨o1, o2, o7⟩ := ho
    cases isText
    all_goals rcases o1 with o1 | o1
    all_goals rcases o2 with o2 | o2
    all_goals rcases o7 with o7 | o7
    all_goals
      have hf : Hid (hr = _) := hhr
      clear hhr
      go_enter Tryz.func35, Tryz.ntmps35
      go_wp2_with fail
      go_ret
      exact ⟨ret_bool (by rw [hf.out]; simp_all), (Below.refl _ _).alloc (Nat.le_refl _) _⟩
  have n4 : (kind == 4) = false := by simp [k4]
  rw [if_neg k4] at hhr
  by_cases k5 : kind = 5
  · subst k5
    rw [if_pos rfl] at hhr
    obtain ⟨o1, o2, o7⟩ := ho
    cases isText
    all_goals rcases o1 with o1 | o1
    all_goals rcases o2 with o2 | o2
    all_goals rcases o7 with o7 | o7
    all_goals
      have hf : Hid (hr = _) := hhr
      clear hhr
      go_enter Tryz.func35, Tryz.ntmps35
      go_wp2_with fail
      go_ret
      exact ⟨ret_bool (by rw [hf.out]; simp_all), (Below.refl _ _).alloc (Nat.le_refl _) _⟩
  have n5 : (kind == 5) = false := by simp [k5]
  rw [if_neg k5] at hhr
  by_cases k6 : kind = 6
  · subst k6
    rw [if_pos rfl] at hhr
    obtain ⟨o1, o2, o7⟩ := ho
    cases isText
    all_goals rcases o1 with o1 | o1
    all_goals rcases o2 with o2 | o2
    all_goals rcases o7 with o7 | o7
    all_goals
      have hf : Hid (hr = _) := hhr
      clear hhr
      go_enter Tryz.func35, Tryz.ntmps35
      go_wp2_with fail
      go_ret
      exact ⟨ret_bool (by rw [hf.out]; simp_all), (Below.refl _ _).alloc (Nat.le_refl _) _⟩
  have n6 : (kind == 6) = false := by simp [k6]
  rw [if_neg k6] at hhr
  by_cases k7 : kind = 7
  · subst k7
    rw [if_pos (.inl rfl)] at hhr
    obtain ⟨o1, o2, -⟩ := ho
    cases isText
    all_goals rcases o1 with o1 | o1
    all_goals rcases o2 with o2 | o2
    all_goals
      have hf : Hid (hr = _) := hhr
      clear hhr
      go_enter Tryz.func35, Tryz.ntmps35
      go_wp2_with fail
      go_ret
      exact ⟨ret_bool (by rw [hf.out]; simp_all), (Below.refl _ _).alloc (Nat.le_refl _) _⟩
  have n7 : (kind == 7) = false := by simp [k7]
  by_cases k8 : kind = 8
  · subst k8
    rw [if_pos (.inr rfl)] at hhr
    obtain ⟨o1, o2, -⟩ := ho
    cases isText
    all_goals rcases o1 with o1 | o1
    all_goals rcases o2 with o2 | o2
    all_goals
      have hf : Hid (hr = _) := hhr
      clear hhr
      go_enter Tryz.func35, Tryz.ntmps35
      go_wp2_with fail
      go_ret
      exact ⟨ret_bool (by rw [hf.out]; simp_all), (Below.refl _ _).alloc (Nat.le_refl _) _⟩
  have n8 : (kind == 8) = false := by simp [k8]
  rw [if_neg (by omega)] at hhr
  clear k4 k5 k6 k7 k8
  obtain ⟨o1, o2, -⟩ := ho
  cases isText
  all_goals rcases o1 with o1 | o1
  all_goals rcases o2 with o2 | o2
  all_goals
    have hf : Hid (hr = _) := hhr
    clear hhr
    go_enter Tryz.func35, Tryz.ntmps35
    go_wp2_with fail
    go_ret
    exact ⟨ret_bool hf.out.symm, (Below.refl _ _).alloc (Nat.le_refl _) _⟩
end Go.Proofs.YtnnjcedlomfhoaaGreatDoor
namespace Go.Proofs.YtnnjcedlomfhoaaGreatDoor
open Go.RowKit
set_option linter.unusedVariables false
theorem below_any (w : World) (n i : Int) (b : Nat) (hc : w.cell? ⟨b, 0, none⟩ = some (.int .i64 i)) :
    Calls Tryz.prog 75 #[.int .i64 n, .pointer (some ⟨b, 0, none⟩)] w fun e w' => e = .returned (.bool (belowB n i)) ∧ w = w' := by
  by_cases h1 : 0 ≤ n
  · by_cases h2 : n < i
    · have hr : Hid (belowB n i = true) := by simp [Hid, belowB, h1, h2]
      rw [hr.out]
      go_enter Tryz.func75, Tryz.ntmps75
      go_wp2_with fail
      go_ret
      exact ⟨rfl, rfl⟩
    · have hr : Hid (belowB n i = false) := by simp [Hid, belowB, h2]
      rw [hr.out]
      go_enter Tryz.func75, Tryz.ntmps75
      go_wp2_with fail
      go_ret
      exact ⟨rfl, rfl⟩
  · have hr : Hid (belowB n i = false) := by simp [Hid, belowB, h1]
    rw [hr.out]
    go_enter Tryz.func75, Tryz.ntmps75
    go_wp2_with fail
    go_ret
    exact ⟨rfl, rfl⟩
theorem eqb_true {a b : Int} (h : a = b) : (a == b) = true := by simp [h]
theorem eqb_false {a b : Int} (h : ¬ a = b) : (a == b) = false := by simp [h]
theorem neb_true {a b : Int} (h : ¬ a = b) : (a != b) = true := by simp [h]
theorem neb_false {a b : Int} (h : a = b) : (a != b) = false := by simp [h]
set_option maxRecDepth 100000 in
set_option maxHeartbeats 2000000 in
theorem shaped_joint (w : World) (x : Ask) (i : Int) (hj : jointB x = true) : Calls Tryz.prog 53 #[askV x, .int .i64 i] w fun e w' => e = .returned (.bool (shapedB x i)) ∧ Below w.heap.size w w' := by
  have hS : Hid (shapedB x i = (belowB x.a i && belowB x.b i && decide (x.a ≠ x.b))) := by rw [Hid, shapedB, if_pos hj]
  obtain ⟨r, hr⟩ : ∃ r, r = shapedB x i := ⟨_, rfl⟩
  rw [← hr]
  replace hr := hide hr
  have hmf : ∀ (fn : Fn) (first cap : Array Value) (w : World), (Instr.makeFunc fn first cap).run Tryz.prog w = .ok (.func fn first cap) w := fun _ _ _ _ => rfl
  unfold askV
  go_enter Tryz.func53, Tryz.ntmps53
  go_wp2_with fail
  refine (joint_any _ x).mono ?_
  rintro e w1 ⟨rfl, hb1⟩
  rw [hj]
  clear hj
  have hB1 := (Blk.new w 54 #[.int .i64 x.kind, .int .i64 x.op, .int .i64 x.a, .int .i64 x.b, .int .i64 x.n, .string (str x.text), .bool x.isText]).alloc (.cells #[.int .i64 i] 3)
  have hB2 := Blk.new (w.alloc (.cells #[.int .i64 x.kind, .int .i64 x.op, .int .i64 x.a, .int .i64 x.b, .int .i64 x.n, .string (str x.text), .bool x.isText] 54)) 3 #[.int .i64 i]
  have hbw : Below w.heap.size w ((w.alloc (.cells #[.int .i64 x.kind, .int .i64 x.op, .int .i64 x.a, .int .i64 x.b, .int .i64 x.n, .string (str x.text), .bool x.isText] 54)).alloc (.cells #[.int .i64 i] 3)) := ((Below.refl _ _).alloc (Nat.le_refl _) _).alloc (by simp) _
  have hC1 := hB1.below hb1 (by simp; omega)
  have hC2 := hB2.below hb1 (by simp)
  have hbw1 := hbw.trans (hb1.mono (by simp; omega))
  rw [show (w.alloc (.cells #[.int .i64 x.kind, .int .i64 x.op, .int .i64 x.a, .int .i64 x.b, .int .i64 x.n, .string (str x.text), .bool x.isText] 54)).heap.size = w.heap.size + 1 from by simp] at hC2
  have c2 : w1.cell? ⟨w.heap.size, 2, none⟩ = some (.int .i64 x.a) := hC1.cell 2
  have c3 : w1.cell? ⟨w.heap.size, 3, none⟩ = some (.int .i64 x.b) := hC1.cell 3
  have ci : w1.cell? ⟨w.heap.size + 1, 0, none⟩ = some (.int .i64 i) := hC2.cell 0
  clear hB1 hB2 hbw hb1 hC1 hC2
  generalize x.a = xa at *
  generalize x.b = xb at *
  by_cases ba : belowB xa i = true
  · by_cases bb : belowB xb i = true
    · by_cases hab : xa = xb
      · have n1 := neb_false hab
        have hres : Hid (false = r) := by rw [Hid, hr.out, hS.out, ba, bb]; simp [hab]
        clear hab
        go_wp2_with fail
        refine (below_any _ xa i _ ci).mono ?_
        rintro e w2 ⟨rfl, rfl⟩
        rw [ba]
        go_wp2_with fail
        refine (below_any _ xb i _ ci).mono ?_
        rintro e w2 ⟨rfl, rfl⟩
        rw [bb]
        go_wp2_with fail
        go_ret
        exact ⟨ret_bool hres.out, hbw1⟩
      · have n1 := neb_true hab
        have hres : Hid (true = r) := by rw [Hid, hr.out, hS.out, ba, bb]; simp [hab]
        clear hab
        go_wp2_with fail
        refine (below_any _ xa i _ ci).mono ?_
        rintro e w2 ⟨rfl, rfl⟩
        rw [ba]
        go_wp2_with fail
        refine (below_any _ xb i _ ci).mono ?_
        rintro e w2 ⟨rfl, rfl⟩
        rw [bb]
        go_wp2_with fail
        go_ret
        exact ⟨ret_bool hres.out, hbw1⟩
    · rw [Bool.not_eq_true] at bb
      have hres : Hid (false = r) := by rw [Hid, hr.out, hS.out, ba, bb]; rfl
      go_wp2_with fail
      refine (below_any _ xa i _ ci).mono ?_
      rintro e w2 ⟨rfl, rfl⟩
      rw [ba]
      go_wp2_with fail
      refine (below_any _ xb i _ ci).mono ?_
      rintro e w2 ⟨rfl, rfl⟩
      rw [bb]
      go_wp2_with fail
      go_ret
      exact ⟨ret_bool hres.out, hbw1⟩
  · rw [Bool.not_eq_true] at ba
    have hres : Hid (false = r) := by rw [Hid, hr.out, hS.out, ba]; rfl
    go_wp2_with fail
    refine (below_any _ xa i _ ci).mono ?_
    rintro e w2 ⟨rfl, rfl⟩
    rw [ba]
    go_wp2_with fail
    go_ret
    exact ⟨ret_bool hres.out, hbw1⟩
/-- What lies ready behind the call of joint. -/
def ShapedAt (w : World) (x : Ask) (i : Int) (w1 : World) : Prop :=
  Below w.heap.size w w1 ∧ Blk w1 w.heap.size 54 #[.int .i64 x.kind, .int .i64 x.op, .int .i64 x.a, .int .i64 x.b, .int .i64 x.n, .string (str x.text), .bool x.isText] ∧ w1.cell? ⟨w.heap.size + 1, 0, none⟩ = some (.int .i64 i)
theorem shapedAt_of (w : World) (x : Ask) (i : Int) {w1 : World} (hb1 : Below ((w.alloc (.cells #[.int .i64 x.kind, .int .i64 x.op, .int .i64 x.a, .int .i64 x.b, .int .i64 x.n, .string (str x.text), .bool x.isText] 54)).alloc (.cells #[.int .i64 i] 3)).heap.size ((w.alloc (.cells #[.int .i64 x.kind, .int .i64 x.op, .int .i64 x.a, .int .i64 x.b, .int .i64 x.n, .string (str x.text), .bool x.isText] 54)).alloc (.cells #[.int .i64 i] 3)) w1) : ShapedAt w x i w1 := by
  have hB1 := (Blk.new w 54 #[.int .i64 x.kind, .int .i64 x.op, .int .i64 x.a, .int .i64 x.b, .int .i64 x.n, .string (str x.text), .bool x.isText]).alloc (.cells #[.int .i64 i] 3)
  have hB2 := Blk.new (w.alloc (.cells #[.int .i64 x.kind, .int .i64 x.op, .int .i64 x.a, .int .i64 x.b, .int .i64 x.n, .string (str x.text), .bool x.isText] 54)) 3 #[.int .i64 i]
  have hbw : Below w.heap.size w ((w.alloc (.cells #[.int .i64 x.kind, .int .i64 x.op, .int .i64 x.a, .int .i64 x.b, .int .i64 x.n, .string (str x.text), .bool x.isText] 54)).alloc (.cells #[.int .i64 i] 3)) := ((Below.refl _ _).alloc (Nat.le_refl _) _).alloc (by simp) _
  have hC1 := hB1.below hb1 (by simp; omega)
  have hC2 := hB2.below hb1 (by simp)
  rw [show (w.alloc (.cells #[.int .i64 x.kind, .int .i64 x.op, .int .i64 x.a, .int .i64 x.b, .int .i64 x.n, .string (str x.text), .bool x.isText] 54)).heap.size = w.heap.size + 1 from by simp] at hC2
  exact ⟨hbw.trans (hb1.mono (by simp; omega)), hC1, hC2.cell 0⟩
set_option maxRecDepth 100000 in
set_option maxHeartbeats 4000000 in
theorem shaped_has (w : World) (x : Ask) (i : Int) (hj : jointB x = false) (h9 : x.kind = 9) : Calls Tryz.prog 53 #[askV x, .int .i64 i] w fun e w' => e = .returned (.bool (shapedB x i)) ∧ Below w.heap.size w w' := by
  have hmf : ∀ (fn : Fn) (first cap : Array Value) (w : World), (Instr.makeFunc fn first cap).run Tryz.prog w = .ok (.func fn first cap) w := fun _ _ _ _ => rfl
  obtain ⟨r, hr⟩ : ∃ r, r = shapedB x i := ⟨_, rfl⟩
  rw [← hr]
  rw [shapedB, if_neg (by rw [hj]; exact Bool.false_ne_true)] at hr
  have k3 : (x.kind == 3) = false := by rw [h9]; rfl
  have k9 : (x.kind == 9) = true := by rw [h9]; rfl
  rw [if_neg (by rw [h9]; decide), if_pos h9] at hr
  clear h9
  replace hr := hide hr
  unfold askV
  go_enter Tryz.func53, Tryz.ntmps53
  go_wp2_with fail
  refine (joint_any _ x).mono ?_
  rintro e w1 ⟨rfl, hb1⟩
  rw [hj]
  clear hj
  obtain ⟨hbw1, hC1, ci⟩ := shapedAt_of w x i hb1
  clear hb1
  have c0 : w1.cell? ⟨w.heap.size, 0, none⟩ = some (.int .i64 x.kind) := hC1.cell 0
  have c1 : w1.cell? ⟨w.heap.size, 1, none⟩ = some (.int .i64 x.op) := hC1.cell 1
  have c2 : w1.cell? ⟨w.heap.size, 2, none⟩ = some (.int .i64 x.a) := hC1.cell 2
  have c3 : w1.cell? ⟨w.heap.size, 3, none⟩ = some (.int .i64 x.b) := hC1.cell 3
  have c6 : w1.cell? ⟨w.heap.size, 6, none⟩ = some (.bool x.isText) := hC1.cell 6
  clear hC1
  have c0 : w1.cell? ⟨w.heap.size, 0, none⟩ = some (.int .i64 x.kind) := c0
  generalize x.kind = xkind at *
  generalize x.op = xop at *
  generalize x.a = xa at *
  generalize x.b = xb at *
  generalize x.isText = xisText at *
  by_cases t1 : xa = -1
  · have na := eqb_true t1
    by_cases t2 : xb = -1
    · have nb := eqb_true t2
      by_cases t3 : xop = 1
      · have no := eqb_true t3
        by_cases t4 : xisText = true
        · subst t4
          have hres : Hid (true = r) := by rw [Hid, hr.out]; simp_all <;> omega
          go_wp2_with fail
          go_ret
          exact ⟨ret_bool hres.out, hbw1⟩
        · rw [Bool.not_eq_true] at t4; subst t4
          have hres : Hid (false = r) := by rw [Hid, hr.out]; simp_all <;> omega
          go_wp2_with fail
          go_ret
          exact ⟨ret_bool hres.out, hbw1⟩
      · have no := eqb_false t3
        have hres : Hid (false = r) := by rw [Hid, hr.out]; simp_all <;> omega
        go_wp2_with fail
        go_ret
        exact ⟨ret_bool hres.out, hbw1⟩
    · have nb := eqb_false t2
      have hres : Hid (false = r) := by rw [Hid, hr.out]; simp_all <;> omega
      go_wp2_with fail
      go_ret
      exact ⟨ret_bool hres.out, hbw1⟩
  · have na := eqb_false t1
    have hres : Hid (false = r) := by rw [Hid, hr.out]; simp_all <;> omega
    go_wp2_with fail
    go_ret
    exact ⟨ret_bool hres.out, hbw1⟩
set_option maxRecDepth 100000 in
set_option maxHeartbeats 4000000 in
theorem shaped_other (w : World) (x : Ask) (i : Int) (hj : jointB x = false) (h3 : ¬ x.kind = 3) (h9 : ¬ x.kind = 9) : Calls Tryz.prog 53 #[askV x, .int .i64 i] w fun e w' => e = .returned (.bool (shapedB x i)) ∧ Below w.heap.size w w' := by
  have hmf : ∀ (fn : Fn) (first cap : Array Value) (w : World), (Instr.makeFunc fn first cap).run Tryz.prog w = .ok (.func fn first cap) w := fun _ _ _ _ => rfl
  obtain ⟨r, hr⟩ : ∃ r, r = shapedB x i := ⟨_, rfl⟩
  rw [← hr]
  rw [shapedB, if_neg (by rw [hj]; exact Bool.false_ne_true)] at hr
  have k3 : (x.kind == 3) = false := eqb_false h3
  have k9 : (x.kind == 9) = false := eqb_false h9
  rw [if_neg h3, if_neg h9] at hr
  clear h9 h3
  replace hr := hide hr
  unfold askV
  go_enter Tryz.func53, Tryz.ntmps53
  go_wp2_with fail
  refine (joint_any _ x).mono ?_
  rintro e w1 ⟨rfl, hb1⟩
  rw [hj]
  clear hj
  obtain ⟨hbw1, hC1, ci⟩ := shapedAt_of w x i hb1
  clear hb1
  have c0 : w1.cell? ⟨w.heap.size, 0, none⟩ = some (.int .i64 x.kind) := hC1.cell 0
  have c1 : w1.cell? ⟨w.heap.size, 1, none⟩ = some (.int .i64 x.op) := hC1.cell 1
  have c2 : w1.cell? ⟨w.heap.size, 2, none⟩ = some (.int .i64 x.a) := hC1.cell 2
  have c3 : w1.cell? ⟨w.heap.size, 3, none⟩ = some (.int .i64 x.b) := hC1.cell 3
  have c6 : w1.cell? ⟨w.heap.size, 6, none⟩ = some (.bool x.isText) := hC1.cell 6
  clear hC1
  have c0 : w1.cell? ⟨w.heap.size, 0, none⟩ = some (.int .i64 x.kind) := c0
  generalize x.kind = xkind at *
  generalize x.op = xop at *
  generalize x.a = xa at *
  generalize x.b = xb at *
  generalize x.isText = xisText at *
  by_cases t1 : 4 ≤ xkind
  · skip
    by_cases t2 : xkind ≤ 8
    · skip
      by_cases t3 : xa = -1
      · have na := eqb_true t3
        by_cases t4 : xb = -1
        · have nb := eqb_true t4
          by_cases t5 : 1 ≤ xop
          · skip
            have hres : Hid (decide (xop ≤ 7) = r) := by rw [Hid, hr.out]; simp_all <;> omega
            go_wp2_with fail
            go_ret
            exact ⟨ret_bool hres.out, hbw1⟩
          · skip
            have hres : Hid (false = r) := by rw [Hid, hr.out]; simp_all <;> omega
            go_wp2_with fail
            go_ret
            exact ⟨ret_bool hres.out, hbw1⟩
        · have nb := eqb_false t4
          have hres : Hid (false = r) := by rw [Hid, hr.out]; simp_all <;> omega
          go_wp2_with fail
          go_ret
          exact ⟨ret_bool hres.out, hbw1⟩
      · have na := eqb_false t3
        have hres : Hid (false = r) := by rw [Hid, hr.out]; simp_all <;> omega
        go_wp2_with fail
        go_ret
        exact ⟨ret_bool hres.out, hbw1⟩
    · skip
      have hres : Hid (false = r) := by rw [Hid, hr.out]; simp_all <;> omega
      go_wp2_with fail
      go_ret
      exact ⟨ret_bool hres.out, hbw1⟩
  · skip
    have hres : Hid (false = r) := by rw [Hid, hr.out]; simp_all <;> omega
    go_wp2_with fail
    go_ret
    exact ⟨ret_bool hres.out, hbw1⟩
set_option maxRecDepth 100000 in
set_option maxHeartbeats 2000000 in
theorem shaped_not (w : World) (x : Ask) (i : Int) (hj : jointB x = false) (h3 : x.kind = 3) : Calls Tryz.prog 53 #[askV x, .int .i64 i] w fun e w' => e = .returned (.bool (shapedB x i)) ∧ Below w.heap.size w w' := by
  have hmf : ∀ (fn : Fn) (first cap : Array Value) (w : World), (Instr.makeFunc fn first cap).run Tryz.prog w = .ok (.func fn first cap) w := fun _ _ _ _ => rfl
  obtain ⟨r, hr⟩ : ∃ r, r = shapedB x i := ⟨_, rfl⟩
  rw [← hr]
  rw [shapedB, if_neg (by rw [hj]; exact Bool.false_ne_true), if_pos h3] at hr
  have k3 : (x.kind == 3) = true := by rw [h3]; rfl
  clear h3
  replace hr := hide hr
  unfold askV
  go_enter Tryz.func53, Tryz.ntmps53
  go_wp2_with fail
  refine (joint_any _ x).mono ?_
  rintro e w1 ⟨rfl, hb1⟩
  rw [hj]
  clear hj
  obtain ⟨hbw1, hC1, ci⟩ := shapedAt_of w x i hb1
  clear hb1
  have c0 : w1.cell? ⟨w.heap.size, 0, none⟩ = some (.int .i64 x.kind) := hC1.cell 0
  have c2 : w1.cell? ⟨w.heap.size, 2, none⟩ = some (.int .i64 x.a) := hC1.cell 2
  have c3 : w1.cell? ⟨w.heap.size, 3, none⟩ = some (.int .i64 x.b) := hC1.cell 3
  clear hC1
  generalize x.a = xa at *
  generalize x.b = xb at *
  generalize x.kind = xk at *
  by_cases ba : belowB xa i = true
  · by_cases bb : xb = -1
    · have nb := eqb_true bb
      have hres : Hid (true = r) := by rw [Hid, hr.out, ba, bb]; rfl
      clear bb
      go_wp2_with fail
      refine (below_any _ xa i _ ci).mono ?_
      rintro e w2 ⟨rfl, rfl⟩
      rw [ba]
      go_wp2_with fail
      go_ret
      exact ⟨ret_bool hres.out, hbw1⟩
    · have nb := eqb_false bb
      have hres : Hid (false = r) := by rw [Hid, hr.out, ba]; simp [bb]
      clear bb
      go_wp2_with fail
      refine (below_any _ xa i _ ci).mono ?_
      rintro e w2 ⟨rfl, rfl⟩
      rw [ba]
      go_wp2_with fail
      go_ret
      exact ⟨ret_bool hres.out, hbw1⟩
  · rw [Bool.not_eq_true] at ba
    have hres : Hid (false = r) := by rw [Hid, hr.out, ba]; rfl
    go_wp2_with fail
    refine (below_any _ xa i _ ci).mono ?_
    rintro e w2 ⟨rfl, rfl⟩
    rw [ba]
    go_wp2_with fail
    go_ret
    exact ⟨ret_bool hres.out, hbw1⟩
theorem shaped_any (w : World) (x : Ask) (i : Int) : Calls Tryz.prog 53 #[askV x, .int .i64 i] w fun e w' => e = .returned (.bool (shapedB x i)) ∧ Below w.heap.size w w' := by
  cases hj : jointB x with
  | true => exact shaped_joint w x i hj
  | false =>
    by_cases h3 : x.kind = 3
    · exact shaped_not w x i hj h3
    · by_cases h9 : x.kind = 9
      · exact shaped_has w x i hj h9
      · exact shaped_other w x i hj h3 h9
end Go.Proofs.YtnnjcedlomfhoaaGreatDoor
namespace Go.Proofs.YtnnjcedlomfhoaaGreatDoor
open Go.RowKit
set_option linter.unusedVariables false
theorem pone_any (w : World) (n : Int) : Calls Tryz.prog 55 #[.int .i64 n] w fun e w' => e = .returned (.bool (n != 1)) ∧ w = w' := by
  go_enter Tryz.func55, Tryz.ntmps55
  go_wp2_with fail
  go_ret
  exact ⟨rfl, rfl⟩
def IdxRet (w : World) (l : List Int) (e : Ending) (w' : World) : Prop := ∃ r : Int, e = .returned (.int .i64 r) ∧ (0 ≤ r ↔ l.any (fun n => n != 1) = true) ∧ w = w'
set_option maxRecDepth 100000 in
set_option maxHeartbeats 1000000 in
theorem ifun_any (w : World) (B : Nat) (A : Option Addr) (n c : Nat) (l : List Int) (h : RI w B A n l) (hn : n ≤ 100000) :
    Calls Tryz.prog 76 #[.slice A n c, .func (.func 55) #[] #[]] w (IdxRet w l) := by
  have hlen := hide h.len
  replace h := hide h
  go_enter Tryz.func76, Tryz.ntmps76
  go_wp2_with fail
  go_loop [5, 8] (fun v i => ∃ k : Nat, k ≤ n ∧ i = .int .i64 k ∧ (l.take k).any (fun n => n != 1) = false) (fun _ i => n - (intOf i).toNat)
  case atStart => exact ⟨0, by omega, rfl, rfl⟩
  case round =>
    obtain ⟨k, hk, rfl, hany⟩ := hrel
    by_cases h1 : k < n
    · have hkl : k < l.length := by have := hlen.out; omega
      obtain ⟨ad, rfl, hab, c0⟩ := h.out.elem h1 hkl
      have hs := List.take_succ_eq_append_getElem hkl
      have hx : Hid (l[k] ∈ l) := List.getElem_mem hkl
      generalize l[k] = x at *
      by_cases e1 : x = 1
      · have n1 : (x != 1) = false := by simp [e1]
        have hany2 : Hid ((l.take (k + 1)).any (fun n => n != 1) = false) := by rw [Hid, hs, List.any_append, hany]; simp [e1]
        clear hs hany e1
        go_wp2_with fail
        refine (pone_any w x).mono ?_
        rintro e w2 ⟨rfl, rfl⟩
        rw [n1]
        go_wp2_with fail
        go_round
        case rel => exact ⟨k + 1, by omega, by go_num, hany2.out⟩
        case measure => simp [intOf]; omega
      · have n1 : (x != 1) = true := by simp [e1]
        have hres : Hid (l.any (fun n => n != 1) = true) := by rw [Hid, List.any_eq_true]; exact ⟨x, hx.out, n1⟩
        clear hs hany e1
        go_wp2_with fail
        refine (pone_any w x).mono ?_
        rintro e w2 ⟨rfl, rfl⟩
        rw [n1]
        go_wp2_with fail
        go_ret
        exact ⟨(k : Int), rfl, ⟨fun _ => hres.out, fun _ => by omega⟩, rfl⟩
    · have ht : l.take k = l := List.take_of_length_le (by have := hlen.out; omega)
      rw [ht] at hany
      replace hany := hide hany
      clear ht
      go_wp2_with fail
      go_ret
      exact ⟨-1, rfl, ⟨fun h => absurd h (by omega), fun h => by rw [hany.out] at h; cases h⟩, rfl⟩
set_option maxRecDepth 100000 in
theorem cfun_any (w : World) (B : Nat) (A : Option Addr) (n c : Nat) (l : List Int) (h : RI w B A n l) (hn : n ≤ 100000) :
    Calls Tryz.prog 54 #[.slice A n c, .func (.func 55) #[] #[]] w fun e w' => e = .returned (.bool (l.any fun n => n != 1)) ∧ w = w' := by
  go_enter Tryz.func54, Tryz.ntmps54
  go_wp2_with fail
  refine (ifun_any w B A n c l h hn).mono ?_
  rintro e w2 ⟨r, rfl, hr, rfl⟩
  have hd : Hid (decide (0 ≤ r) = l.any fun n => n != 1) := by rw [Hid, Bool.eq_iff_iff, decide_eq_true_eq]; exact hr
  clear h hr
  go_wp2_with fail
  go_ret
  exact ⟨ret_bool hd.out, rfl⟩
theorem OA.empty (w : World) {base : Nat} (h : base ≤ w.heap.size) : OA (w.alloc (.cells #[] 54)) base (.slice (some ⟨w.heap.size, 0, none⟩) 0 0) 0 [] :=
  ⟨by simp [avs], .inr ⟨w.heap.size, 0, #[], rfl, h, heap_alloc_new w _, Nat.le_refl _, Nat.zero_le _, rfl, rfl⟩⟩
def CloneRet (w : World) (n : Nat) (l : List Ask) (e : Ending) (w' : World) : Prop := ∃ v, e = .returned v ∧ OA w' w.heap.size v n l ∧ Below w.heap.size w w'
theorem avs_one (l : List Ask) : ∀ u ∈ avs l, u.oneCell' = true := by
  intro u hu
  obtain ⟨x, _, hx⟩ := List.mem_flatMap.1 hu
  exact av_one x u hx
set_option maxRecDepth 100000 in
set_option maxHeartbeats 1000000 in
theorem aclone_any (w : World) (A : Option Addr) (n c : Nat) (l : List Ask) (h : RA w w.heap.size A n l) (hn : n ≤ 100000) :
    Calls Tryz.prog 34 #[.slice A n c] w (CloneRet w n l) := by
  have qT : ∀ (w : World) (a : Option Addr) (n c n' c' : Nat), (binOp .eql 23 (.slice a n c) (.slice none n' c')).run Tryz.prog w = .ok (.bool a.isNone) w := fun w a n c n' c' => Lib.run_eql_slice_nil w _ _ a n c n' c' Tryz.underlying23
  obtain ⟨i0, hi0, hz0, hz1, hz2⟩ := info_parts ask_info
  cases A with
  | none =>
    have hn0 : n = 0 := by
      rcases Nat.eq_zero_or_pos n with h0 | h0
      · exact h0
      · obtain ⟨ad, e, _⟩ := h.2 h0; cases e
    have hl0 : l = [] := List.eq_nil_of_length_eq_zero (by rw [h.len, hn0])
    subst hn0 hl0
    clear hz0 hz1 hz2 hi0
    go_enter Tryz.func34, Tryz.ntmps34
    go_wp2_with fail
    go_ret
    exact ⟨_, rfl, OA.nil _ _, Below.refl _ _⟩
  | some ad =>
    replace hz1 := hide hz1
    replace hz2 := hide hz2
    replace hz0 := hide hz0
    replace hi0 := hide hi0
    have hO := hide (OA.empty w (Nat.le_refl _))
    have hR := hide (Reads.alloc h (Nat.le_refl _) (.cells #[] 54))
    have hbl := hide ((Below.refl w.heap.size w).alloc (Nat.le_refl _) (.cells #[] 54))
    have hsz : w.heap.size ≤ (w.alloc (.cells #[] 54)).heap.size := by simp
    clear h
    go_enter Tryz.func34, Tryz.ntmps34
    go_wp2_with (refine wpList_append_any _ rfl _ _ 23 rfl w.heap.size 54 i0 _ 7 64 Tryz.underlying23 hi0.out hz0.out hz1.out hz2.out rfl (by omega) _ 0 _ rfl hO.out w.heap.size (some ad) n c (avs l) rfl hR.out (avs_one l) ?h1 ?h2 hsz ?_)
    case h1 => simp only [maxLen]; omega
    case h2 => omega
    intro v2 w2 o2 g2 _
    have hb2 := hbl.out.grown g2 hsz (fun k hk => by simp [Value.ownBlock] at hk; omega)
    have o3 : OA w2 w.heap.size v2 n l := by
      have e : avs [] ++ avs l = avs l := by simp [avs]
      rw [e] at o2
      exact o2
    clear o2 g2 hbl hO hR hsz
    replace o3 := hide o3
    go_wp2_with fail
    go_ret
    exact ⟨_, rfl, o3.out, hb2⟩
end Go.Proofs.YtnnjcedlomfhoaaGreatDoor
namespace Go.Proofs.YtnnjcedlomfhoaaGreatDoor
open Go.RowKit
set_option linter.unusedVariables false
def bump (f : Nat → Nat) (x : Int) (j : Nat) : Nat := if (j : Int) = x then f j + 1 else f j
def uc (n : Nat) (f : Nat → Nat) : Array Value := ((List.range n).map fun j => Value.int .i64 (f j : Int)).toArray
theorem uc_get (n : Nat) (f : Nat → Nat) (j : Nat) (h : j < n) : (uc n f)[j]? = some (.int .i64 (f j : Int)) := by simp [uc, h]
theorem uc_bump (n : Nat) (f : Nat → Nat) (K : Nat) : (uc n f).setIfInBounds K (.int .i64 ((f K : Int) + 1)) = uc n (bump f (K : Int)) := by
  unfold uc
  rw [List.setIfInBounds_toArray]
  congr 1
  apply List.ext_getElem
  · simp
  · intro i h1 h2
    simp only [List.getElem_set, List.getElem_map, List.getElem_range, bump]
    by_cases e : K = i
    · subst e; simp
    · rw [if_neg e, if_neg (by omega)]
theorem uc_zero (n : Nat) : dz [] n = uc n (fun _ => 0) := by
  unfold dz uc
  congr 1
  apply List.ext_getElem
  · simp
  · intro i h1 h2; simp
def inU (f : Nat → Nat) (x y : Int) (i : Nat) : Nat → Nat := if i = 0 then f else if i = 1 then bump f x else bump (bump f x) y
theorem used_next (l : List Ask) (k : Nat) (h : k < l.length) : (fun j : Nat => usedC (l.take (k + 1)) (j : Int)) = inU (fun j : Nat => usedC (l.take k) (j : Int)) (l[k].a) (l[k].b) 2 := by
  funext j
  rw [List.take_succ_eq_append_getElem h, usedC_append, usedC_one]
  show _ = bump (bump (fun j : Nat => usedC (l.take k) (j : Int)) l[k].a) l[k].b j
  unfold bump
  have e1 : (l[k].a = (j : Int)) ↔ ((j : Int) = l[k].a) := eq_comm
  have e2 : (l[k].b = (j : Int)) ↔ ((j : Int) = l[k].b) := eq_comm
  simp only [e1, e2]
  split <;> split <;> omega
theorem usedC_le (l : List Ask) (k : Int) : usedC l k ≤ 2 * l.length := by
  have h1 := List.countP_le_length (p := fun a : Ask => decide (a.a = k)) (l := l)
  have h2 := List.countP_le_length (p := fun a : Ask => decide (a.b = k)) (l := l)
  unfold usedC; omega
theorem inU_le (f : Nat → Nat) (x y : Int) (i : Nat) (j : Nat) : inU f x y i j ≤ f j + 2 := by
  unfold inU
  split
  · omega
  · split
    · unfold bump; split <;> omega
    · unfold bump; split <;> split <;> omega
theorem shaped_lt {x : Ask} {i : Int} (hi : 0 ≤ i) (h : shapedB x i = true) : x.a < i ∧ x.b < i := by
  unfold shapedB at h
  split at h
  · simp [belowB] at h; omega
  · split at h
    · simp [belowB] at h; omega
    · split at h
      · simp at h; omega
      · simp at h; omega
theorem shapedL_take (l : List Ask) (k : Nat) (h : k < l.length) : shapedL (l.take (k + 1)) 0 = (shapedL (l.take k) 0 && shapedB l[k] (k : Int)) := by
  rw [List.take_succ_eq_append_getElem h, shapedL_append, shapedL, shapedL, Bool.and_true]
  congr 2
  simp; omega
theorem shapedL_bad (l : List Ask) (k : Nat) (h : shapedL (l.take k) 0 = false) : partsB l = false := by
  have : shapedL l 0 = false := by
    rw [← List.take_append_drop k l, shapedL_append, h]; rfl
  unfold partsB; rw [this]; rfl
theorem any_all (n : Nat) (f : Nat → Nat) : (((List.range n).map fun j => ((f j : Nat) : Int)).any fun n => n != 1) = !((List.range n).all fun k => decide (f k = 1)) := by
  rw [List.any_map, Bool.eq_iff_iff]
  simp only [List.any_eq_true, List.mem_range, Function.comp, bne_iff_ne, Bool.not_eq_true', List.all_eq_false, decide_eq_true_eq]
  constructor
  · rintro ⟨x, h1, h2⟩; exact ⟨x, h1, by omega⟩
  · rintro ⟨x, h1, h2⟩; exact ⟨x, h1, by omega⟩
theorem RI.of_uc {w : World} {g n m : Nat} {f : Nat → Nat} (h : Blk w g 3 (uc n f)) (hm : m ≤ n) : RI w w.heap.size (some ⟨g, 0, none⟩) m ((List.range m).map fun j => ((f j : Nat) : Int)) := by
  refine ⟨by simp [iv], fun _ => ⟨_, rfl, h.lt, fun j u hu => ?_⟩⟩
  have hj : j < m := by
    have := (List.getElem?_eq_some_iff.1 hu).1
    simpa [iv] using this
  rw [show (⟨g, 0, none⟩ : Addr).add j = ⟨g, j, none⟩ from by unfold Addr.add; split <;> simp_all, h.cell, uc_get n f j (by omega), ← hu]
  simp [iv, hj]
set_option maxRecDepth 100000 in
set_option maxHeartbeats 4000000 in
theorem parts_any (w : World) (A : Option Addr) (n c : Nat) (l : List Ask) (h : RA w w.heap.size A n l) (hn : n ≤ 100000) :
    Calls Tryz.prog 32 #[.slice A n c] w fun e w' => e = .returned (.bool (partsB l)) ∧ Below w.heap.size w w' := by
  have hlen := hide h.len
  replace h := hide h
  have hmk := make_ints n hn
  rw [uc_zero] at hmk
  go_enter Tryz.func32, Tryz.ntmps32
  go_wp2_with fail
  clear hmk
  go_loopw [13] (fun i wr => ∃ k : Nat, k ≤ n ∧ i = .int .i64 k ∧ Blk wr w.heap.size 3 (uc n (fun j => usedC (l.take k) (j : Int))) ∧ shapedL (l.take k) 0 = true ∧ Below w.heap.size w wr) (fun i _ => n - (intOf i).toNat)
  case atStart => exact ⟨0, by omega, rfl, Blk.new w 3 (uc n (fun _ => 0)), rfl, (Below.refl _ _).alloc (Nat.le_refl _) _⟩
  case round =>
    obtain ⟨k, hk, rfl, hB, hsh, hbl⟩ := hrel
    have hsz := hB.lt
    by_cases h1 : k < n
    · have hkl : k < l.length := by have := hlen.out; omega
      obtain ⟨ad, rfl, hab, c0, c1, c2, c3, c4, c5, c6⟩ := (h.out.below hbl).elem h1 hkl
      have hs := hide (used_next l k hkl)
      have hst := hide (shapedL_take l k hkl)
      have hub : Hid (∀ j : Nat, usedC (l.take k) (j : Int) ≤ 200000) := fun j => by
        have := usedC_le (l.take k) (j : Int)
        have h2 : (l.take k).length ≤ k := by simp; omega
        omega
      generalize l[k] = x at *
      have hab2 : (ad.add (k * 7)).block < wr.heap.size := by omega
      have hB0 := hide (hB.alloc (.cells #[.int .i64 x.kind, .int .i64 x.op, .int .i64 x.a, .int .i64 x.b, .int .i64 x.n, .string (str x.text), .bool x.isText] 54))
      have hA0 := hide (Blk.new wr 54 #[.int .i64 x.kind, .int .i64 x.op, .int .i64 x.a, .int .i64 x.b, .int .i64 x.n, .string (str x.text), .bool x.isText])
      have hbl0 := hide (hbl.alloc (by omega) (.cells #[.int .i64 x.kind, .int .i64 x.op, .int .i64 x.a, .int .i64 x.b, .int .i64 x.n, .string (str x.text), .bool x.isText] 54))
      have hsz0 : Hid (w.heap.size < wr.heap.size + 1 ∧ (wr.alloc (.cells #[.int .i64 x.kind, .int .i64 x.op, .int .i64 x.a, .int .i64 x.b, .int .i64 x.n, .string (str x.text), .bool x.isText] 54)).heap.size = wr.heap.size + 1) := ⟨by omega, by simp⟩
      replace hB := hide hB
      replace hsh := hide hsh
      replace hbl := hide hbl
      go_wp2_with fail
      refine (shaped_any _ x (k : Int)).mono ?_
      rintro e w2 ⟨rfl, hb2⟩
      obtain ⟨hz1, hz2⟩ := hsz0.out
      have hB2 := hB0.out.below hb2 (by omega)
      have hA2 := hA0.out.below hb2 (by omega)
      have hbw2 := hbl0.out.trans (hb2.mono (by omega))
      clear hb2 hB0 hA0 hbl0 hB hbl c0 c1 c2 c3 c4 c5 c6 hsz0 hz1 hz2
      cases hsx : shapedB x (k : Int) with
      | false =>
        have hres : Hid (partsB l = false) := shapedL_bad l (k + 1) (by rw [hst.out, hsx]; simp)
        clear hsx hst hs hub hsh hB2 hA2
        go_wp2_with fail
        go_ret
        exact ⟨ret_bool hres.out.symm, hbw2⟩
      | true =>
        have hsh2 : Hid (shapedL (l.take (k + 1)) 0 = true) := by rw [Hid, hst.out, hsx, hsh.out]; rfl
        obtain ⟨la, lb⟩ := shaped_lt (by omega) hsx
        have c2 : w2.cell? ⟨wr.heap.size, 2, none⟩ = some (.int .i64 x.a) := hA2.cell 2
        have c3 : w2.cell? ⟨wr.heap.size, 3, none⟩ = some (.int .i64 x.b) := hA2.cell 3
        generalize x.a = xa at *
        generalize x.b = xb at *
        clear hsx hst hsh hA2
        generalize hf : (fun j : Nat => usedC (l.take k) (j : Int)) = f at *
        have hfb : Hid (∀ j, f j ≤ 200000) := by rw [← hf]; exact hub.out
        clear hub hf
        replace hB2 := hide hB2
        replace hbw2 := hide hbw2
        go_wp2_with fail
        clear c2 c3
        go_loopw [27] (fun j wi => ∃ i : Nat, i ≤ 2 ∧ j = .int .i64 i ∧ Blk wi w.heap.size 3 (uc n (inU f xa xb i)) ∧ Below w.heap.size w wi) (fun j _ => 2 - (intOf j).toNat)
        case atStart => exact ⟨0, by omega, rfl, hB2.out, hbw2.out⟩
        case round =>
          clear hB2 hbw2
          obtain ⟨i, hi, rfl, hB, hbl⟩ := hrel
          by_cases h2 : i < 2
          · obtain ⟨K, hK, hM, hKn⟩ : ∃ K : Int, (∀ w, (Instr.index 105 (.agg #[.int .i64 xa, .int .i64 xb]) (.int .i64 (i : Int))).run Tryz.prog w = .ok (.int .i64 K) w) ∧ Hid (inU f xa xb (i + 1) = bump (inU f xa xb i) K) ∧ K < k := by
              match i, h2 with
              | 0, _ => exact ⟨xa, idx2_0 xa xb, rfl, la⟩
              | 1, _ => exact ⟨xb, idx2_1 xa xb, rfl, lb⟩
            have hfz := hB.frozen K.toNat
            have hMle : Hid (∀ j, inU f xa xb i j ≤ 200002) := fun j => by
              have h3 := inU_le f xa xb i j
              have h4 := hfb.out j
              omega
            generalize inU f xa xb i = u at *
            by_cases k0 : 0 ≤ K
            · obtain ⟨kk, rfl⟩ := Int.eq_ofNat_of_zero_le k0
              have hkk : kk < n := by omega
              have hcj := (hB.cell kk).trans (uc_get n u kk hkk)
              have hle := hMle.out kk
              have hu := hide (uc_bump n u kk)
              simp only [Int.toNat_natCast] at hfz
              replace hB := hide hB
              generalize u kk = m at *
              go_wp2_with fail
              go_roundw
              case rel =>
                refine ⟨i + 1, by omega, by go_num, ?_, below_set hbl (Nat.le_refl _) _⟩
                rw [hM.out, ← hu.out]
                exact hB.out.set_ kk _
              case measure => simp [intOf]; omega
            · have hMs : Hid (inU f xa xb (i + 1) = u) := by
                rw [Hid, hM.out]; funext j; rw [bump, if_neg (by omega)]
              replace hB := hide hB
              clear hM hfz
              go_wp2_with fail
              go_roundw
              case rel => exact ⟨i + 1, by omega, by go_num, by rw [hMs.out]; exact hB.out, hbl⟩
              case measure => simp [intOf]; omega
          · have hi2 : i = 2 := by omega
            subst hi2
            replace hB := hide hB
            go_wp2_with fail
            go_roundw
            case rel => exact ⟨k + 1, by omega, by go_num, by rw [hs.out]; exact hB.out, hsh2.out, hbl⟩
            case measure => simp [intOf]; omega
    · have hkn : k = n := by omega
      subst hkn
      have htk : l.take k = l := by rw [List.take_of_length_le (by have := hlen.out; omega)]
      rw [htk] at hB hsh
      by_cases hz : k = 0
      · subst hz
        have hr : Hid (partsB l = false) := by
          have : l = [] := List.eq_nil_of_length_eq_zero hlen.out
          subst this; rfl
        clear hB hsh htk
        go_wp2_with fail
        go_ret
        exact ⟨ret_bool hr.out.symm, hbl⟩
      · have hR := hide (RI.of_uc (m := k - 1) hB (by omega))
        have hr : Hid ((!(((List.range (k - 1)).map fun j : Nat => ((usedC l (j : Int) : Nat) : Int)).any fun n => n != 1)) = partsB l) := by
          rw [Hid, any_all (k - 1) (fun j : Nat => usedC l (j : Int)), Bool.not_not, partsB, hsh]
          have := hlen.out
          rw [this]
          simp; omega
        have k0 : 0 < k := by omega
        clear hB hsh htk
        obtain ⟨k1, rfl⟩ : ∃ k1, k = k1 + 1 := ⟨k - 1, by omega⟩
        have q1 : (((k1 + 1 : Nat) : Int) - 1) = (k1 : Int) := by omega
        go_wp2_with fail
        refine (cfun_any _ _ _ _ _ _ hR.out (by omega)).mono ?_
        rintro e w2 ⟨rfl, rfl⟩
        go_wp2_with fail
        go_ret
        exact ⟨ret_bool (by rw [← hr.out, List.any_map]; rfl), hbl⟩
end Go.Proofs.YtnnjcedlomfhoaaGreatDoor
namespace Go.Proofs.YtnnjcedlomfhoaaGreatDoor
set_option linter.unusedVariables false
section
variable (G : List UInt8 → Bool) (D : List UInt8 → Option Int)
/-- What Norm answers of a question: its error; its parts. -/
def normErr (q : Q) : Int := if 16 < q.depth then 11 else errsL G D (q.parts 0)
def normRes (q : Q) : List Ask := if normErr G D q = 0 then normL G D q else []
end
end Go.Proofs.YtnnjcedlomfhoaaGreatDoor
namespace Go.Proofs.YtnnjcedlomfhoaaGreatDoor
open Go.RowKit
set_option linter.unusedVariables false
def globG (t : List UInt8) : Bool := (globP t).isSome
theorem globE_ne {s : List UInt8} (h : globP s = none) : (globE s == 0) = false := by
  unfold globE
  split
  · rfl
  · split
    · rfl
    · rw [h]; rfl
/-- The two blocks that told begins with, behind a call. -/
def TBlk (w : World) (x : Ask) (w1 : World) : Prop := Below w.heap.size w w1 ∧ Blk w1 w.heap.size 54 (av x).toArray ∧ Blk w1 (w.heap.size + 1) 54 #[.int .i64 0, .int .i64 0, .int .i64 0, .int .i64 0, .int .i64 0, .string ⟨#[]⟩, .bool false]
theorem TBlk.of (w : World) (x : Ask) {w1 : World}
    (hb : Below ((w.alloc (.cells #[.int .i64 x.kind, .int .i64 x.op, .int .i64 x.a, .int .i64 x.b, .int .i64 x.n, .string (str x.text), .bool x.isText] 54)).alloc (.cells #[.int .i64 0, .int .i64 0, .int .i64 0, .int .i64 0, .int .i64 0, .string ⟨#[]⟩, .bool false] 54)).heap.size
      ((w.alloc (.cells #[.int .i64 x.kind, .int .i64 x.op, .int .i64 x.a, .int .i64 x.b, .int .i64 x.n, .string (str x.text), .bool x.isText] 54)).alloc (.cells #[.int .i64 0, .int .i64 0, .int .i64 0, .int .i64 0, .int .i64 0, .string ⟨#[]⟩, .bool false] 54)) w1) : TBlk w x w1 := by
  have h1 := (Blk.new w 54 #[.int .i64 x.kind, .int .i64 x.op, .int .i64 x.a, .int .i64 x.b, .int .i64 x.n, .string (str x.text), .bool x.isText]).alloc (.cells #[.int .i64 0, .int .i64 0, .int .i64 0, .int .i64 0, .int .i64 0, .string ⟨#[]⟩, .bool false] 54)
  have h2 := Blk.new (w.alloc (.cells #[.int .i64 x.kind, .int .i64 x.op, .int .i64 x.a, .int .i64 x.b, .int .i64 x.n, .string (str x.text), .bool x.isText] 54)) 54 #[.int .i64 0, .int .i64 0, .int .i64 0, .int .i64 0, .int .i64 0, .string ⟨#[]⟩, .bool false]
  rw [show (w.alloc (.cells #[.int .i64 x.kind, .int .i64 x.op, .int .i64 x.a, .int .i64 x.b, .int .i64 x.n, .string (str x.text), .bool x.isText] 54)).heap.size = w.heap.size + 1 from by simp] at h2
  refine ⟨(((Below.refl _ _).alloc (Nat.le_refl _) _).alloc (by simp) _).trans (hb.mono (by simp; omega)), h1.below hb (by simp; omega), h2.below hb (by simp)⟩
def ToldRet (w : World) (x : Ask) (b : Bool) (e : Ending) (w' : World) : Prop := e = .returned (.tuple #[askV x, .bool b]) ∧ Below w.heap.size w w'
set_option maxRecDepth 100000 in
set_option maxHeartbeats 4000000 in
theorem told_like (w : World) (x : Ask) (hT : Utf8T w) (h4 : x.kind = 4) (h7 : x.op = 7) : Calls Tryz.prog 36 #[askV x] w (ToldRet w x (globG x.text)) := by
  obtain ⟨kind, op, a, b, n, text, isText⟩ := x
  dsimp only at h4 h7 ⊢
  subst h4 h7
  unfold askV
  dsimp only
  go_enter Tryz.func36, Tryz.ntmps36
  go_wp2_with fail
  have hT0 : Utf8T ((w.alloc (.cells #[.int .i64 4, .int .i64 7, .int .i64 a, .int .i64 b, .int .i64 n, .string (str text), .bool isText] 54)).alloc (.cells #[.int .i64 0, .int .i64 0, .int .i64 0, .int .i64 0, .int .i64 0, .string ⟨#[]⟩, .bool false] 54)) :=
    hT.below (((Below.refl _ _).alloc (Nat.le_refl _) _).alloc (by simp) _)
  refine (gnew_any _ _ hT0).mono ?_
  rintro e w1 ⟨hb1, hr⟩
  rw [str_toList] at hr
  obtain ⟨hbw, hB1, hB2⟩ := TBlk.of w ⟨4, 7, a, b, n, text, isText⟩ hb1
  clear hb1 hT0 hT
  have p0 : w1.cell? ⟨w.heap.size, 0, none⟩ = some (.int .i64 4) := hB1.cell 0
  have p1 : w1.cell? ⟨w.heap.size, 1, none⟩ = some (.int .i64 7) := hB1.cell 1
  have p2 : w1.cell? ⟨w.heap.size, 2, none⟩ = some (.int .i64 a) := hB1.cell 2
  have p3 : w1.cell? ⟨w.heap.size, 3, none⟩ = some (.int .i64 b) := hB1.cell 3
  have p4 : w1.cell? ⟨w.heap.size, 4, none⟩ = some (.int .i64 n) := hB1.cell 4
  have p5 : w1.cell? ⟨w.heap.size, 5, none⟩ = some (.string (str text)) := hB1.cell 5
  have p6 : w1.cell? ⟨w.heap.size, 6, none⟩ = some (.bool isText) := hB1.cell 6
  have q0 : w1.cell? ⟨w.heap.size + 1, 0, none⟩ = some (.int .i64 0) := hB2.cell 0
  have q1 : w1.cell? ⟨w.heap.size + 1, 1, none⟩ = some (.int .i64 0) := hB2.cell 1
  have q2 : w1.cell? ⟨w.heap.size + 1, 2, none⟩ = some (.int .i64 0) := hB2.cell 2
  have q3 : w1.cell? ⟨w.heap.size + 1, 3, none⟩ = some (.int .i64 0) := hB2.cell 3
  have q4 : w1.cell? ⟨w.heap.size + 1, 4, none⟩ = some (.int .i64 0) := hB2.cell 4
  have q5 : w1.cell? ⟨w.heap.size + 1, 5, none⟩ = some (.string ⟨#[]⟩) := hB2.cell 5
  have q6 : w1.cell? ⟨w.heap.size + 1, 6, none⟩ = some (.bool false) := hB2.cell 6
  have f0 := hB2.frozen 0
  have f1 := hB2.frozen 1
  have f2 := hB2.frozen 2
  have f3 := hB2.frozen 3
  have f4 := hB2.frozen 4
  have f5 := hB2.frozen 5
  have f6 := hB2.frozen 6
  rcases hr with ⟨ps, g, hg, rfl, -, -⟩ | ⟨hg, rfl⟩
  · have hG : Hid (globG text = true) := by rw [Hid, globG, hg]; rfl
    clear hg hB1 hB2
    go_wp2_with fail
    refine bodyPost_ret (v := .tuple #[.agg #[.int .i64 4, .int .i64 7, .int .i64 a, .int .i64 b, .int .i64 n, .string (str text), .bool isText], .bool true]) (by simp [results, Tryz.results36, go_sem, q0, q1, q2, q3, q4, q5, q6]) rfl ⟨by rw [hG.out]; rfl, ?_⟩
    repeat refine below_set ?_ (by omega) _
    exact hbw
  · have hG : Hid (globG text = false) := by rw [Hid, globG, hg]; rfl
    have hE := globE_ne hg
    generalize globE text = ee at *
    clear hg hB1 hB2
    go_wp2_with fail
    refine bodyPost_ret (v := .tuple #[.agg #[.int .i64 4, .int .i64 7, .int .i64 a, .int .i64 b, .int .i64 n, .string (str text), .bool isText], .bool false]) (by simp [results, Tryz.results36, go_sem, q0, q1, q2, q3, q4, q5, q6]) rfl ⟨by rw [hG.out]; rfl, ?_⟩
    repeat refine below_set ?_ (by omega) _
    exact hbw
set_option maxRecDepth 100000 in
set_option maxHeartbeats 4000000 in
theorem told_date (w : World) (x : Ask) (h6 : x.kind = 6) (ht : x.isText = true) : Calls Tryz.prog 36 #[askV x] w (ToldRet w ⟨x.kind, x.op, x.a, x.b, (dosP x.text).getD 0, [], false⟩ (dosP x.text).isSome) := by
  obtain ⟨kind, op, a, b, n, text, isText⟩ := x
  dsimp only at h6 ht ⊢
  subst h6 ht
  unfold askV
  dsimp only
  go_enter Tryz.func36, Tryz.ntmps36
  go_wp2_with fail
  refine (dparse_any _ (str text)).mono ?_
  rintro e w1 ⟨rfl, hb1⟩
  rw [str_toList]
  obtain ⟨hbw, hB1, hB2⟩ := TBlk.of w ⟨6, op, a, b, n, text, true⟩ hb1
  clear hb1
  generalize (dosP text).getD 0 = N at *
  generalize (dosP text).isSome = is at *
  have p0 : w1.cell? ⟨w.heap.size, 0, none⟩ = some (.int .i64 6) := hB1.cell 0
  have p1 : w1.cell? ⟨w.heap.size, 1, none⟩ = some (.int .i64 op) := hB1.cell 1
  have p2 : w1.cell? ⟨w.heap.size, 2, none⟩ = some (.int .i64 a) := hB1.cell 2
  have p3 : w1.cell? ⟨w.heap.size, 3, none⟩ = some (.int .i64 b) := hB1.cell 3
  have p4 : w1.cell? ⟨w.heap.size, 4, none⟩ = some (.int .i64 n) := hB1.cell 4
  have p5 : w1.cell? ⟨w.heap.size, 5, none⟩ = some (.string (str text)) := hB1.cell 5
  have p6 : w1.cell? ⟨w.heap.size, 6, none⟩ = some (.bool true) := hB1.cell 6
  have g4 := hB1.frozen 4
  have g5 := hB1.frozen 5
  have g6 := hB1.frozen 6
  have q0 : w1.cell? ⟨w.heap.size + 1, 0, none⟩ = some (.int .i64 0) := hB2.cell 0
  have q1 : w1.cell? ⟨w.heap.size + 1, 1, none⟩ = some (.int .i64 0) := hB2.cell 1
  have q2 : w1.cell? ⟨w.heap.size + 1, 2, none⟩ = some (.int .i64 0) := hB2.cell 2
  have q3 : w1.cell? ⟨w.heap.size + 1, 3, none⟩ = some (.int .i64 0) := hB2.cell 3
  have q4 : w1.cell? ⟨w.heap.size + 1, 4, none⟩ = some (.int .i64 0) := hB2.cell 4
  have q5 : w1.cell? ⟨w.heap.size + 1, 5, none⟩ = some (.string ⟨#[]⟩) := hB2.cell 5
  have q6 : w1.cell? ⟨w.heap.size + 1, 6, none⟩ = some (.bool false) := hB2.cell 6
  have f0 := hB2.frozen 0
  have f1 := hB2.frozen 1
  have f2 := hB2.frozen 2
  have f3 := hB2.frozen 3
  have f4 := hB2.frozen 4
  have f5 := hB2.frozen 5
  have f6 := hB2.frozen 6
  clear hB1 hB2
  go_wp2_with fail
  refine bodyPost_ret (v := .tuple #[.agg #[.int .i64 6, .int .i64 op, .int .i64 a, .int .i64 b, .int .i64 N, .string ⟨#[]⟩, .bool false], .bool is]) (by simp [results, Tryz.results36, go_sem, q0, q1, q2, q3, q4, q5, q6]) rfl ⟨rfl, ?_⟩
  repeat refine below_set ?_ (by omega) _
  exact hbw
set_option maxRecDepth 100000 in
set_option maxHeartbeats 4000000 in
theorem told_has (w : World) (x : Ask) (h9 : x.kind = 9) : Calls Tryz.prog 36 #[askV x] w (ToldRet w x (decide (1 ≤ x.text.length) && decide (x.text.length ≤ 64))) := by
  obtain ⟨kind, op, a, b, n, text, isText⟩ := x
  dsimp only at h9 ⊢
  subst h9
  unfold askV
  dsimp only
  have hsz : Hid ((str text).size = text.length) := str_size text
  by_cases h1 : (1 : Int) ≤ ((str text).size : Int)
  · have hr : Hid (decide (((str text).size : Int) ≤ 64) = (decide (1 ≤ text.length) && decide (text.length ≤ 64))) := by
      rw [Hid, hsz.out]
      have : 1 ≤ text.length := by have := hsz.out; omega
      rw [Bool.eq_iff_iff]; simp; omega
    go_enter Tryz.func36, Tryz.ntmps36
    go_wp2_with fail
    go_region
    go_wp2_with fail
    refine bodyPost_ret (v := .tuple #[.agg #[.int .i64 9, .int .i64 op, .int .i64 a, .int .i64 b, .int .i64 n, .string (str text), .bool isText], .bool (decide (((str text).size : Int) ≤ 64))]) (by simp [results, Tryz.results36, go_sem]) rfl ⟨by rw [hr.out]; rfl, ?_⟩
    exact (((Below.refl _ _).alloc (Nat.le_refl _) _).alloc (by simp) _).drew
  · have hr : Hid ((decide (1 ≤ text.length) && decide (text.length ≤ 64)) = false) := by
      have : ¬ 1 ≤ text.length := by have := hsz.out; omega
      rw [Hid]; simp; omega
    have hd : decide ((1 : Int) ≤ ((str text).size : Int)) = false := by simpa using h1
    go_enter Tryz.func36, Tryz.ntmps36
    go_wp2_with fail
    go_region
    go_wp2_with fail
    refine bodyPost_ret (v := .tuple #[.agg #[.int .i64 9, .int .i64 op, .int .i64 a, .int .i64 b, .int .i64 n, .string (str text), .bool isText], .bool false]) (by simp [results, Tryz.results36, go_sem]) rfl ⟨by rw [hr.out]; rfl, ?_⟩
    exact (((Below.refl _ _).alloc (Nat.le_refl _) _).alloc (by simp) _).drew
end Go.Proofs.YtnnjcedlomfhoaaGreatDoor
namespace Go.Proofs.YtnnjcedlomfhoaaGreatDoor
open Go.RowKit
set_option linter.unusedVariables false
def okT (a : Ask) : Prop := 4 ≤ a.kind ∧ a.kind ≤ 9 ∧ 0 ≤ a.op ∧ a.op ≤ 8
def okL : Q → Prop
  | .term a => okT a
  | .neg q => okL q
  | .two k x y => (k = 1 ∨ k = 2) ∧ okL x ∧ okL y
def turnQ (q : Q) (t : Bool) : Q := layQ (fun a => a) q t
theorem turnQ_size (q : Q) : ∀ t, (turnQ q t).size ≤ q.size := by
  induction q with
  | term a => intro t; exact Nat.le_refl _
  | neg q ih => intro t; have := ih (!t); show (turnQ q (!t)).size ≤ q.size + 1; omega
  | two k x y ihx ihy => intro t; have h1 := ihx t; have h2 := ihy t; show (turnQ x t).size + (turnQ y t).size + 1 ≤ x.size + y.size + 1; omega
/-- The table of turned comparisons. -/
def TurnT (w : World) : Prop := (∀ o : Nat, o < 9 → w.cell? ⟨0, o, none⟩ = some (.int .i64 (turnedI (o : Int)))) ∧ 0 < w.heap.size
theorem TurnT.below {w w' : World} {B : Nat} (h : TurnT w) (hb : Below B w w') (hB : 0 < B) : TurnT w' :=
  ⟨fun o ho => (hb.cell (p := ⟨0, o, none⟩) hB).trans (h.1 o ho), Nat.lt_of_lt_of_le h.2 hb.size⟩
/-- What lay does to memory: the cell of the row, the row's own block, new blocks. -/
def LayE (ob : Nat) (v v' : Value) (w w' : World) : Prop :=
  Below ob w w' ∧ (∀ k, k < w.heap.size → k ≠ ob → v.ownBlock ≠ some k → w'.heap[k]? = w.heap[k]?) ∧ ∀ k, v'.ownBlock = some k → v.ownBlock = some k ∨ w.heap.size ≤ k
theorem LayE.refl (ob : Nat) (v : Value) (w : World) : LayE ob v v w w := ⟨Below.refl _ _, fun _ _ _ _ => rfl, fun k h => .inl h⟩
theorem LayE.trans {ob : Nat} {v v1 v2 : Value} {w w1 w2 : World} (h : LayE ob v v1 w w1) (k : LayE ob v1 v2 w1 w2) : LayE ob v v2 w w2 := by
  have hsz := h.1.size
  refine ⟨h.1.trans k.1, fun i h1 h2 h3 => (k.2.1 i (by omega) h2 (fun e => ?_)).trans (h.2.1 i h1 h2 h3), fun i hi => ?_⟩
  · rcases h.2.2 i e with e | e
    · exact h3 e
    · omega
  · rcases k.2.2 i hi with e | e
    · exact h.2.2 i e
    · exact .inr (by omega)
theorem LayE.alloc {ob : Nat} {v v' : Value} {w w' : World} (h : LayE ob v v' w w') (hb : ob ≤ w'.heap.size) (o : Obj) : LayE ob v v' w (w'.alloc o) :=
  ⟨h.1.alloc hb o, fun k h1 h2 h3 => (Below.heap_alloc w' o k (by have := h.1.size; omega)).trans (h.2.1 k h1 h2 h3), h.2.2⟩
theorem LayE.setNew {ob g i : Nat} {v v' : Value} {w w' : World} (h : LayE ob v v' w w') (hg : w.heap.size ≤ g) (hb : ob ≤ g) (u : Value) : LayE ob v v' w (w'.setCell ⟨g, i, none⟩ u) :=
  ⟨below_set h.1 hb u, fun k h1 h2 h3 => (Below.heap_setCell w' ⟨g, i, none⟩ u k (by simp; omega)).trans (h.2.1 k h1 h2 h3), h.2.2⟩
theorem LayE.blk {ob g : Nat} {t : TypeId} {cs : Array Value} {v v' : Value} {w w' : World} (h : LayE ob v v' w w') (hB : Blk w g t cs) (hne : g ≠ ob) (hv : v.ownBlock ≠ some g) : Blk w' g t cs :=
  (h.2.1 g hB.lt hne hv).trans hB
/-- The last statement: one part is appended, the row's cell is written. -/
theorem LayE.tail {ob n n' i : Nat} {v0 v v2 : Value} {w W w2 : World} {o : Obj} {l l' : List Ask} (h : LayE ob v0 v w W) (hlo : ob < W.heap.size) (hown : ∀ k, v.ownBlock = some k → k < W.heap.size) (hown1 : ∀ k, v.ownBlock = some k → ob + 1 ≤ k)
    (hO : OA (W.alloc o) (ob + 1) v n l) (hg : (W.alloc o).drew.grownBy w2 v.ownBlock) (h2 : OA w2 (ob + 1) v2 n' l') (hv : v2.ownBlock = v.ownBlock ∨ v2.ownBlock = some (W.heap.size + 1)) : LayE ob v0 v2 w (w2.setCell ⟨ob, i, none⟩ v2) := by
  have hz := h.1.size
  have hz2 := hg.size
  simp at hz2
  have hb : Below (ob + 1) W w2 := (((Below.refl _ _).alloc (by omega) o).drew).grown hg (by simp; omega) hown1
  refine ⟨below_set (h.1.trans (hb.mono (Nat.le_succ _))) (Nat.le_refl _) _, fun k h3 h4 h5 => ?_, fun k hk => ?_⟩
  · rw [Below.heap_setCell w2 ⟨ob, i, none⟩ v2 k (by simpa using h4)]
    have hne : v.ownBlock ≠ some k := fun e => by
      rcases h.2.2 k e with e | e
      · exact h5 e
      · omega
    rw [hg.block k (by simp; omega) (fun e => hne e.symm)]
    exact (Below.heap_alloc W o k (by omega)).trans (h.2.1 k h3 h4 h5)
  · rcases hv with hv | hv
    · rw [hv] at hk; exact h.2.2 k hk
    · rw [hv] at hk; cases hk; exact .inr (by omega)
def LayRet (w : World) (ob : Nat) (v : Value) (m : Nat) (outL : List Ask) (R : Q) (e : Ending) (w' : World) : Prop :=
  e = .returned (.int .i64 ((m : Int) + (R.size : Int) - 1)) ∧ ∃ v', Blk w' ob 23 #[v'] ∧ OA w' (ob + 1) v' (m + R.size) (outL ++ R.parts m) ∧ LayE ob v v' w w'
section
variable {ops : Array Oper} {o : Oper} {a : Act} {Q : Exit → Act → World → Prop}
theorem step_app_a2 {K : Act → World → Prop} {E : Prop} {w : World} (x : Ask) (hgd : o.guard = none) (s y : Operand)
    (ho : o.op = .call { callee := .builtin .append, args := #[s, y], argTypes := #[23, 23] })
    (base : Nat) (v : Value) (n : Nat) (l : List Ask) (hown : OA w base v n l) (hs : a.eval s = v) (g c : Nat) (hg : g < w.heap.size)
    (hx : a.eval y = .slice (some ⟨g, 0, none⟩) 1 c) (hc : Blk w g 54 (av x).toArray)
    (hlen : n + 1 ≤ 1000000000) (hbase : base ≤ w.heap.size)
    (h : ∀ v' w', OA w' base v' (n + 1) (l ++ [x]) → Below base w w' → w.grownBy w' v.ownBlock → (v'.ownBlock = v.ownBlock ∨ v'.ownBlock = some w.heap.size) → K (a.put o.dst v') w') :
    if Region.wanted o (yielded ops a.tmps) = true then Oper.wp Tryz.prog o a w K Q else E := by
  obtain ⟨i0, hi0, hz0, hz1, hz2⟩ := info_parts ask_info
  refine step_append_any w hgd s y 23 ho base 54 i0 _ 7 64 Tryz.underlying23 hi0 hz0 hz1 hz2 rfl (by omega) v n (avs l) hs hown (g + 1) (some ⟨g, 0, none⟩) 1 c (av x) hx
    ⟨rfl, fun _ => ⟨_, rfl, Nat.lt_succ_self _, fun j u hj => ?_⟩⟩ (av_one x) (by simp only [maxLen]; omega) (by omega) hbase fun v' w' h1 h2 h3 => ?_
  · rw [show (⟨g, 0, none⟩ : Addr).add j = ⟨g, j, none⟩ from by unfold Addr.add; split <;> simp_all, hc.cell]
    simpa using hj
  · have e : avs l ++ av x = avs (l ++ [x]) := by rw [avs_append]; simp [avs]
    rw [e] at h1
    exact h v' w' h1 ((Below.refl _ _).grown h2 hbase fun k hk => hown.block_lt k hk) h2 h3
end
set_option maxRecDepth 100000 in
set_option maxHeartbeats 8000000 in
theorem lay_any (ob n c : Nat) (l : List Ask) (hn : n ≤ 100000) (hlen : l.length = n) (hgt : 0 < ob) :
    ∀ (q : Q) (w : World) (A : Option Addr) (pre post : List Ask) (J : Int) (t : Bool) (v : Value) (m : Nat) (outL : List Ask), okL q → RA w ob A n l → l = pre ++ (q.parts pre.length ++ post) → J = (pre.length : Int) + (q.size : Int) - 1 →
    TurnT w → Blk w ob 23 #[v] → OA w (ob + 1) v m outL → m + q.size ≤ 100000 →
    Calls Tryz.prog 37 #[.slice A n c, .int .i64 J, .bool t, .pointer (some ⟨ob, 0, none⟩)] w (LayRet w ob v m outL (turnQ q t)) := by
  intro q
  induction q with
  | term x =>
    intro w A pre post J t v m outL hok h hl hJ hT hBo hO hm
    have hl2 : l = pre ++ x :: post := by rw [hl]; rfl
    obtain ⟨k, hk⟩ : ∃ k, k = pre.length := ⟨_, rfl⟩
    have hJ2 : J = (k : Int) := by rw [hJ, hk]; simp [Q.size]
    have hkl : k < l.length := by rw [hl2, hk]; simp
    have hkn : k < n := by omega
    have hx : l[k] = x := by
      have := at_mid pre x post k hk (by rw [← hl2]; exact hkl)
      simp only [hl2]; exact this
    obtain ⟨ad, rfl, hab, c0, c1, c2, c3, c4, c5, c6⟩ := h.elem hkn hkl
    rw [hx] at c0 c1 c2 c3 c4 c5 c6
    subst hJ2
    obtain ⟨k1, k2, k3, k4⟩ := hok
    have n3 : (x.kind == 3) = false := by simp; omega
    have hj : jointB x = false := by simp [jointB]; omega
    have hlo := hBo.lt
    have hm1 : m + 1 ≤ 100000 := hm
    have hR : Hid (turnQ (.term x) t = .term (if t = true then ⟨x.kind, turnedI x.op, x.a, x.b, x.n, x.text, x.isText⟩ else x)) := rfl
    obtain ⟨la, hla⟩ : ∃ la, la = w.heap.size := ⟨_, rfl⟩
    have hA0 := Blk.new w 54 #[.int .i64 x.kind, .int .i64 x.op, .int .i64 x.a, .int .i64 x.b, .int .i64 x.n, .string (str x.text), .bool x.isText]
    have hBo0 := hBo.alloc (.cells #[.int .i64 x.kind, .int .i64 x.op, .int .i64 x.a, .int .i64 x.b, .int .i64 x.n, .string (str x.text), .bool x.isText] 54)
    have hO0 := hO.alloc (.cells #[.int .i64 x.kind, .int .i64 x.op, .int .i64 x.a, .int .i64 x.b, .int .i64 x.n, .string (str x.text), .bool x.isText] 54)
    have hE0 := (LayE.refl ob v w).alloc (Nat.le_of_lt hlo) (.cells #[.int .i64 x.kind, .int .i64 x.op, .int .i64 x.a, .int .i64 x.b, .int .i64 x.n, .string (str x.text), .bool x.isText] 54)
    have hT0 := hT.below (((Below.refl w.heap.size w).alloc (Nat.le_refl _) (.cells #[.int .i64 x.kind, .int .i64 x.op, .int .i64 x.a, .int .i64 x.b, .int .i64 x.n, .string (str x.text), .bool x.isText] 54))) hT.2
    have hz0 : (w.alloc (.cells #[.int .i64 x.kind, .int .i64 x.op, .int .i64 x.a, .int .i64 x.b, .int .i64 x.n, .string (str x.text), .bool x.isText] 54)).heap.size = la + 1 := by simp [hla]
    rw [← hla] at hA0
    replace hla := hide hla
    replace hA0 := hide hA0
    replace hBo0 := hide hBo0
    replace hO0 := hide hO0
    replace hE0 := hide hE0
    replace hT0 := hide hT0
    have hz00 := hide hz0
    have hvl : Hid (v.ownBlock ≠ some la) := fun e => by have := hO.own_lt _ e; have := hla.out; omega
    have hlal : Hid (ob < la) := by rw [Hid, hla.out]; exact hlo
    clear h hl hl2 hx hJ hk hBo hO hT hm hz0 k1 k2
    go_enter Tryz.func37, Tryz.ntmps37
    go_wp2_with fail
    obtain ⟨W, hW⟩ : ∃ W, W = w.alloc (.cells #[.int .i64 x.kind, .int .i64 x.op, .int .i64 x.a, .int .i64 x.b, .int .i64 x.n, .string (str x.text), .bool x.isText] 54) := ⟨_, rfl⟩
    rw [← hW] at hA0 hBo0 hO0 hE0 hT0 hz00 ⊢
    rw [← hla.out]
    clear hW c0 c1 c2 c3 c4 c5 c6
    refine (joint_any _ x).mono ?_
    rintro e w1 ⟨rfl, hb1⟩
    rw [hj]
    have hA1 := hA0.out.below hb1 (by rw [hz00.out]; omega)
    have hBo1 := hide (hBo0.out.below hb1 (by have := hBo0.out.lt; omega))
    have hO1 := hide (hO0.out.below hb1 (Nat.le_refl _))
    have hE1 : Hid (LayE ob v v w w1) := hE0.out.trans ⟨hb1.mono (by have := hBo0.out.lt; omega), fun k h1 _ _ => hb1.block k h1, fun k h => .inl h⟩
    have hT1 := hT0.out.below hb1 hT0.out.2
    clear hb1 hj hA0 hBo0 hO0 hE0 hT0
    cases t with
    | true =>
      rw [if_pos rfl] at hR
      obtain ⟨o, ho⟩ := Int.eq_ofNat_of_zero_le k3
      have hoo : Hid (turnedI x.op = turnedI (o : Int)) := by rw [Hid, ho]
      have ho9 : (o : Int) < 9 := by omega
      have ct := hT1.1 o (by omega)
      have q1 : w1.cell? ⟨la, 1, none⟩ = some (.int .i64 x.op) := hA1.cell 1
      have g1 := hA1.frozen 1
      have hA2 := hide (hA1.set_ 1 (.int .i64 (turnedI x.op)))
      have hBo2 := hide (hBo1.out.far (p := ⟨la, 1, none⟩) (by simp; have := hlal.out; omega) (.int .i64 (turnedI x.op)))
      have hO2 := hide (hO1.out.far (i := 1) hvl.out (.int .i64 (turnedI x.op)))
      have hE2 := hide (hE1.out.setNew (g := la) (i := 1) (by rw [hla.out]; exact Nat.le_refl _) (Nat.le_of_lt hlal.out) (.int .i64 (turnedI x.op)))
      clear hA1 hBo1 hO1 hE1 hT1
      rw [ho] at q1 hA2 hBo2 hO2 hE2 k3 k4 ⊢
      clear ho
      go_upto_region 11 with (fail)
      obtain ⟨w2, hw2⟩ : ∃ x, x = w1.setCell ⟨la, 1, none⟩ (.int .i64 (turnedI (o : Int))) := ⟨_, rfl⟩
      rw [← hw2] at hA2 hBo2 hO2 hE2 ⊢
      clear hw2 q1 g1 ct
      have hBa : Hid (Blk w2 la 54 #[.int .i64 x.kind, .int .i64 (turnedI (o : Int)), .int .i64 x.a, .int .i64 x.b, .int .i64 x.n, .string (str x.text), .bool x.isText]) := hA2.out
      have hBo := hBo2
      have hO := hO2
      have hLE := hE2
      clear hA2 hBo2 hO2 hE2
      have p0 : w2.cell? ⟨la, 0, none⟩ = some (.int .i64 (x.kind)) := hBa.out.cell 0
      have p1 : w2.cell? ⟨la, 1, none⟩ = some (.int .i64 (turnedI (o : Int))) := hBa.out.cell 1
      have p2 : w2.cell? ⟨la, 2, none⟩ = some (.int .i64 (x.a)) := hBa.out.cell 2
      have p3 : w2.cell? ⟨la, 3, none⟩ = some (.int .i64 (x.b)) := hBa.out.cell 3
      have p4 : w2.cell? ⟨la, 4, none⟩ = some (.int .i64 (x.n)) := hBa.out.cell 4
      have p5 : w2.cell? ⟨la, 5, none⟩ = some (.string (str x.text)) := hBa.out.cell 5
      have p6 : w2.cell? ⟨la, 6, none⟩ = some (.bool x.isText) := hBa.out.cell 6
      have po : w2.cell? ⟨ob, 0, none⟩ = some v := hBo.out.cell 0
      have hlo2 : ob < w2.heap.size := hBo.out.lt
      have hcb : Hid (Blk (w2.alloc (.cells #[.int .i64 (x.kind), .int .i64 (turnedI (o : Int)), .int .i64 (x.a), .int .i64 (x.b), .int .i64 (x.n), .string (str x.text), .bool x.isText] 54)) w2.heap.size 54 (av ⟨x.kind, turnedI (o : Int), x.a, x.b, x.n, x.text, x.isText⟩).toArray) := Blk.new w2 54 #[.int .i64 (x.kind), .int .i64 (turnedI (o : Int)), .int .i64 (x.a), .int .i64 (x.b), .int .i64 (x.n), .string (str x.text), .bool x.isText]
      have hbs : ob + 1 ≤ (w2.alloc (.cells #[.int .i64 (x.kind), .int .i64 (turnedI (o : Int)), .int .i64 (x.a), .int .i64 (x.b), .int .i64 (x.n), .string (str x.text), .bool x.isText] 54)).heap.size := by simp; omega
      have hO9 := hide (hO.out.alloc (.cells #[.int .i64 (x.kind), .int .i64 (turnedI (o : Int)), .int .i64 (x.a), .int .i64 (x.b), .int .i64 (x.n), .string (str x.text), .bool x.isText] 54))
      have hBo9 := hide (hBo.out.alloc (.cells #[.int .i64 (x.kind), .int .i64 (turnedI (o : Int)), .int .i64 (x.a), .int .i64 (x.b), .int .i64 (x.n), .string (str x.text), .bool x.isText] 54))
      have hown : Hid (∀ k, (v).ownBlock = some k → k < w2.heap.size) := fun k hk => hO.out.own_lt k hk
      have hown1 : Hid (∀ k, (v).ownBlock = some k → ob + 1 ≤ k) := fun k hk => hO.out.block_lt k hk
      go_region_law (refine step_app_a2 ⟨x.kind, turnedI (o : Int), x.a, x.b, x.n, x.text, x.isText⟩ rfl (.tmp 57) (.tmp 59) rfl (ob + 1) v (m) (outL) hO9.out rfl w2.heap.size 1 (by simp) rfl hcb.out (by omega) hbs ?_; intro v9 w9 ho9 hb9 hg9 hv9; have hst := hide (LayE.tail (i := 0) hLE.out hlo2 hown.out hown1.out hO9.out hg9 ho9 (by simpa using hv9)); obtain ⟨vA, vc, rfl, -, -, -, -⟩ := ho9.form; have hB9 := hide (hBo9.out.drew.below hb9 (Nat.lt_succ_self _)); have hf9 := hB9.out.frozen 0; have hd9 := hB9.out.cell 0; replace ho9 := hide ho9)
      all_goals
        have hoF := hide (ho9.out.setOther (p := ⟨ob, 0, none⟩) (Nat.lt_succ_self _) (.slice vA (m + 1) vc))
        have hBF := hide (hB9.out.set_ 0 (.slice vA (m + 1) vc))
        clear hcb hbs hO9 hBo9 hg9 hv9 hb9 hown hown1 hLE hBo hBa hO p0 p1 p2 p3 p4 p5 p6 po ho9 hB9
        go_wp2_with fail
        go_ret
        exact ⟨ret_int (by rw [hR.out]; simp [Q.size]), _, hBF.out, by rw [hR.out, hoo.out]; exact hoF.out, hst.out⟩
    | false =>
      rw [if_neg Bool.false_ne_true] at hR
      clear hT1
      go_upto_region 11 with (fail)
      have hBa : Hid (Blk w1 la 54 #[.int .i64 x.kind, .int .i64 x.op, .int .i64 x.a, .int .i64 x.b, .int .i64 x.n, .string (str x.text), .bool x.isText]) := hA1
      have hBo := hBo1
      have hO := hO1
      have hLE := hE1
      clear hA1 hBo1 hO1 hE1
      have p0 : w1.cell? ⟨la, 0, none⟩ = some (.int .i64 (x.kind)) := hBa.out.cell 0
      have p1 : w1.cell? ⟨la, 1, none⟩ = some (.int .i64 (x.op)) := hBa.out.cell 1
      have p2 : w1.cell? ⟨la, 2, none⟩ = some (.int .i64 (x.a)) := hBa.out.cell 2
      have p3 : w1.cell? ⟨la, 3, none⟩ = some (.int .i64 (x.b)) := hBa.out.cell 3
      have p4 : w1.cell? ⟨la, 4, none⟩ = some (.int .i64 (x.n)) := hBa.out.cell 4
      have p5 : w1.cell? ⟨la, 5, none⟩ = some (.string (str x.text)) := hBa.out.cell 5
      have p6 : w1.cell? ⟨la, 6, none⟩ = some (.bool x.isText) := hBa.out.cell 6
      have po : w1.cell? ⟨ob, 0, none⟩ = some v := hBo.out.cell 0
      have hlo2 : ob < w1.heap.size := hBo.out.lt
      have hcb : Hid (Blk (w1.alloc (.cells #[.int .i64 (x.kind), .int .i64 (x.op), .int .i64 (x.a), .int .i64 (x.b), .int .i64 (x.n), .string (str x.text), .bool x.isText] 54)) w1.heap.size 54 (av ⟨x.kind, x.op, x.a, x.b, x.n, x.text, x.isText⟩).toArray) := Blk.new w1 54 #[.int .i64 (x.kind), .int .i64 (x.op), .int .i64 (x.a), .int .i64 (x.b), .int .i64 (x.n), .string (str x.text), .bool x.isText]
      have hbs : ob + 1 ≤ (w1.alloc (.cells #[.int .i64 (x.kind), .int .i64 (x.op), .int .i64 (x.a), .int .i64 (x.b), .int .i64 (x.n), .string (str x.text), .bool x.isText] 54)).heap.size := by simp; omega
      have hO9 := hide (hO.out.alloc (.cells #[.int .i64 (x.kind), .int .i64 (x.op), .int .i64 (x.a), .int .i64 (x.b), .int .i64 (x.n), .string (str x.text), .bool x.isText] 54))
      have hBo9 := hide (hBo.out.alloc (.cells #[.int .i64 (x.kind), .int .i64 (x.op), .int .i64 (x.a), .int .i64 (x.b), .int .i64 (x.n), .string (str x.text), .bool x.isText] 54))
      have hown : Hid (∀ k, (v).ownBlock = some k → k < w1.heap.size) := fun k hk => hO.out.own_lt k hk
      have hown1 : Hid (∀ k, (v).ownBlock = some k → ob + 1 ≤ k) := fun k hk => hO.out.block_lt k hk
      go_region_law (refine step_app_a2 ⟨x.kind, x.op, x.a, x.b, x.n, x.text, x.isText⟩ rfl (.tmp 57) (.tmp 59) rfl (ob + 1) v (m) (outL) hO9.out rfl w1.heap.size 1 (by simp) rfl hcb.out (by omega) hbs ?_; intro v9 w9 ho9 hb9 hg9 hv9; have hst := hide (LayE.tail (i := 0) hLE.out hlo2 hown.out hown1.out hO9.out hg9 ho9 (by simpa using hv9)); obtain ⟨vA, vc, rfl, -, -, -, -⟩ := ho9.form; have hB9 := hide (hBo9.out.drew.below hb9 (Nat.lt_succ_self _)); have hf9 := hB9.out.frozen 0; have hd9 := hB9.out.cell 0; replace ho9 := hide ho9)
      all_goals
        have hoF := hide (ho9.out.setOther (p := ⟨ob, 0, none⟩) (Nat.lt_succ_self _) (.slice vA (m + 1) vc))
        have hBF := hide (hB9.out.set_ 0 (.slice vA (m + 1) vc))
        clear hcb hbs hO9 hBo9 hg9 hv9 hb9 hown hown1 hLE hBo hBa hO p0 p1 p2 p3 p4 p5 p6 po ho9 hB9
        go_wp2_with fail
        go_ret
        exact ⟨ret_int (by rw [hR.out]; simp [Q.size]), _, hBF.out, by rw [hR.out]; exact hoF.out, hst.out⟩
  | neg x ih =>
    intro w A pre post J t v m outL hok h hl hJ hT hBo hO hm
    have hpl := x.parts_len pre.length
    have hxp := x.size_pos
    have hm1 : m + (x.size + 1) ≤ 100000 := hm
    have hl1 : l = pre ++ (x.parts pre.length ++ (⟨3, 0, (pre.length : Int) + (x.size : Int) - 1, -1, 0, [], false⟩ :: post)) := by rw [hl, Q.parts, List.append_assoc]; rfl
    have hl2 : l = (pre ++ x.parts pre.length) ++ (⟨3, 0, (pre.length : Int) + (x.size : Int) - 1, -1, 0, [], false⟩ :: post) := by rw [hl1, List.append_assoc]
    obtain ⟨k, hk⟩ : ∃ k, k = (pre ++ x.parts pre.length).length := ⟨_, rfl⟩
    have hk2 : k = pre.length + x.size := by rw [hk, List.length_append, hpl]
    have hJ2 : J = (k : Int) := by rw [hJ, hk2]; simp [Q.size]; omega
    have hkl : k < l.length := by rw [hl2, hk]; simp
    have hkn : k < n := by omega
    have hx : l[k] = ⟨3, 0, (pre.length : Int) + (x.size : Int) - 1, -1, 0, [], false⟩ := by
      have := at_mid _ _ post k hk (by rw [← hl2]; exact hkl)
      simp only [hl2]; exact this
    have hlo := hBo.lt
    obtain ⟨ad, rfl, hab, c0, c1, c2, c3, c4, c5, c6⟩ := h.elem hkn hkl
    rw [hx] at c0 c1 c2 c3 c4 c5 c6
    obtain ⟨P, hP⟩ : ∃ P : Int, P = (pre.length : Int) + (x.size : Int) - 1 := ⟨_, rfl⟩
    rw [← hP] at c2 hl1
    dsimp only at c0 c1 c2 c3 c4 c5 c6
    have hb0 := (Below.refl w.heap.size w).alloc (Nat.le_refl _) (.cells #[.int .i64 3, .int .i64 0, .int .i64 P, .int .i64 (-1), .int .i64 0, .string (str []), .bool false] 54)
    have IH := hide (ih _ (some ad) pre _ P (!t) v m outL hok (Reads.alloc h (Nat.le_of_lt hlo) (.cells #[.int .i64 3, .int .i64 0, .int .i64 P, .int .i64 (-1), .int .i64 0, .string (str []), .bool false] 54)) hl1 hP (hT.below hb0 hT.2) (hBo.alloc _) (hO.alloc _) (by omega))
    have hE0 := hide ((LayE.refl ob v w).alloc (Nat.le_of_lt hlo) (.cells #[.int .i64 3, .int .i64 0, .int .i64 P, .int .i64 (-1), .int .i64 0, .string (str []), .bool false] 54))
    have hR : Hid (turnQ (.neg x) t = turnQ x (!t)) := rfl
    subst hJ2
    clear h hl hl1 hl2 hx hJ hk hP hk2 ih hpl hT hBo hO hb0
    go_enter Tryz.func37, Tryz.ntmps37
    go_wp2_with fail
    refine IH.out.mono ?_
    rintro e w2 ⟨rfl, v2, hB2, hO2, hE2⟩
    replace hB2 := hide hB2
    replace hO2 := hide hO2
    replace hE2 := hide (hE0.out.trans hE2)
    clear c0 c1 c2 c3 c4 c5 c6 IH hE0
    go_wp2_with fail
    go_ret
    exact ⟨by rw [hR.out]; rfl, v2, hB2.out, by rw [hR.out]; exact hO2.out, hE2.out⟩
  | two kk x y ihx ihy =>
    intro w A pre post J t v m outL hok h hl hJ hT hBo hO hm
    have hxp := x.size_pos
    have hyp := y.size_pos
    have hm1 : m + (x.size + y.size + 1) ≤ 100000 := hm
    have hpl := x.parts_len pre.length
    have hpl2 : (pre ++ x.parts pre.length).length = pre.length + x.size := by rw [List.length_append, hpl]
    have hpl3 := y.parts_len (pre.length + x.size)
    have hl1 : l = pre ++ (x.parts pre.length ++ (y.parts (pre.length + x.size) ++ (⟨kk, 0, (pre.length : Int) + (x.size : Int) - 1, (pre.length : Int) + (x.size : Int) + (y.size : Int) - 1, 0, [], false⟩ :: post))) := by
      rw [hl, Q.parts]; simp only [List.append_assoc, List.cons_append, List.nil_append]
    have hl2 : l = (pre ++ x.parts pre.length) ++ (y.parts (pre ++ x.parts pre.length).length ++ (⟨kk, 0, (pre.length : Int) + (x.size : Int) - 1, (pre.length : Int) + (x.size : Int) + (y.size : Int) - 1, 0, [], false⟩ :: post)) := by
      rw [hl1, hpl2, List.append_assoc]
    have hl3 : l = (pre ++ x.parts pre.length ++ y.parts (pre.length + x.size)) ++ (⟨kk, 0, (pre.length : Int) + (x.size : Int) - 1, (pre.length : Int) + (x.size : Int) + (y.size : Int) - 1, 0, [], false⟩ :: post) := by
      rw [hl1]; simp only [List.append_assoc]
    obtain ⟨k, hk⟩ : ∃ k, k = (pre ++ x.parts pre.length ++ y.parts (pre.length + x.size)).length := ⟨_, rfl⟩
    have hk2 : k = pre.length + x.size + y.size := by rw [hk, List.length_append, hpl2, hpl3]
    have hJ2 : J = (k : Int) := by rw [hJ, hk2]; simp [Q.size]; omega
    have hkl : k < l.length := by rw [hl3, hk]; simp
    have hkn : k < n := by omega
    have hx : l[k] = ⟨kk, 0, (pre.length : Int) + (x.size : Int) - 1, (pre.length : Int) + (x.size : Int) + (y.size : Int) - 1, 0, [], false⟩ := by
      have := at_mid _ _ post k hk (by rw [← hl3]; exact hkl)
      simp only [hl3]; exact this
    have hlo := hBo.lt
    have hRA := hide h
    obtain ⟨ad, rfl, hab, c0, c1, c2, c3, c4, c5, c6⟩ := h.elem hkn hkl
    rw [hx] at c0 c1 c2 c3 c4 c5 c6
    dsimp only at c0 c1 c2 c3 c4 c5 c6
    obtain ⟨P, hP⟩ : ∃ P : Int, P = (pre.length : Int) + (x.size : Int) - 1 := ⟨_, rfl⟩
    obtain ⟨R, hRq⟩ : ∃ R : Int, R = ((pre ++ x.parts pre.length).length : Int) + (y.size : Int) - 1 := ⟨_, rfl⟩
    have hRq2 : (pre.length : Int) + (x.size : Int) + (y.size : Int) - 1 = R := by rw [hRq, hpl2]; omega
    rw [← hP] at c2
    rw [hRq2] at c3
    have hok1 := hok.1
    have hokx := hok.2.1
    have hoky := hok.2.2
    have hR : Hid (turnQ (.two kk x y) t = .two (if t = true then 3 - kk else kk) (turnQ x t) (turnQ y t)) := rfl
    have hsx := turnQ_size x t
    have hsy := turnQ_size y t
    have hj : jointB ⟨kk, 0, P, R, 0, [], false⟩ = true := by rcases hok1 with e | e <;> simp [jointB, e]
    have IX : Hid (∀ w1 : World, RA w1 ob (some ad) n l → TurnT w1 → Blk w1 ob 23 #[v] → OA w1 (ob + 1) v m outL → Calls Tryz.prog 37 #[.slice (some ad) n c, .int .i64 P, .bool t, .pointer (some ⟨ob, 0, none⟩)] w1 (LayRet w1 ob v m outL (turnQ x t))) :=
      fun w1 a1 a2 a3 a4 => ihx w1 (some ad) pre _ P t v m outL hokx a1 hl1 hP a2 a3 a4 (by omega)
    have IY : Hid (∀ (w1 : World) (v1 : Value), RA w1 ob (some ad) n l → TurnT w1 → Blk w1 ob 23 #[v1] → OA w1 (ob + 1) v1 (m + (turnQ x t).size) (outL ++ (turnQ x t).parts m) → Calls Tryz.prog 37 #[.slice (some ad) n c, .int .i64 R, .bool t, .pointer (some ⟨ob, 0, none⟩)] w1 (LayRet w1 ob v1 (m + (turnQ x t).size) (outL ++ (turnQ x t).parts m) (turnQ y t))) :=
      fun w1 v1 a1 a2 a3 a4 => ihy w1 (some ad) _ _ R t v1 _ _ hoky a1 hl2 hRq a2 a3 a4 (by omega)
    subst hJ2
    generalize turnQ x t = Rx at *
    generalize turnQ y t = Ry at *
    have hRp : Hid (∀ K : Int, (Q.two K Rx Ry).parts m = Rx.parts m ++ (Ry.parts (m + Rx.size) ++ [⟨K, 0, (m : Int) + (Rx.size : Int) - 1, (m : Int) + (Rx.size : Int) + (Ry.size : Int) - 1, 0, [], false⟩])) := fun K => rfl
    have hRs : Hid (∀ K : Int, (Q.two K Rx Ry).size = Rx.size + Ry.size + 1) := fun K => rfl
    generalize hsxe : Rx.size = sx at *
    generalize hsye : Ry.size = sy at *
    generalize hpxe : Rx.parts m = px at *
    generalize hpye : Ry.parts (m + sx) = py at *
    replace hsxe := hide hsxe
    replace hsye := hide hsye
    replace hpxe := hide hpxe
    replace hpye := hide hpye
    have hkk : 1 ≤ kk ∧ kk ≤ 2 := by rcases hok1 with e | e <;> omega
    have n3 : (kk == 3) = false := by rcases hok1 with e | e <;> simp [e]
    obtain ⟨la, hla⟩ : ∃ la, la = w.heap.size := ⟨_, rfl⟩
    have hA0 := Blk.new w 54 #[.int .i64 kk, .int .i64 0, .int .i64 P, .int .i64 R, .int .i64 0, .string (str []), .bool false]
    have hBo0 := hBo.alloc (.cells #[.int .i64 kk, .int .i64 0, .int .i64 P, .int .i64 R, .int .i64 0, .string (str []), .bool false] 54)
    have hO0 := hO.alloc (.cells #[.int .i64 kk, .int .i64 0, .int .i64 P, .int .i64 R, .int .i64 0, .string (str []), .bool false] 54)
    have hE0 := (LayE.refl ob v w).alloc (Nat.le_of_lt hlo) (.cells #[.int .i64 kk, .int .i64 0, .int .i64 P, .int .i64 R, .int .i64 0, .string (str []), .bool false] 54)
    have hz0 : (w.alloc (.cells #[.int .i64 kk, .int .i64 0, .int .i64 P, .int .i64 R, .int .i64 0, .string (str []), .bool false] 54)).heap.size = la + 1 := by simp [hla]
    rw [← hla] at hA0
    have hvl : Hid (v.ownBlock ≠ some la) := fun e => by have := hO.own_lt _ e; omega
    have hlal : Hid (ob < la) := by rw [Hid, hla]; exact hlo
    replace hla := hide hla
    replace hA0 := hide hA0
    replace hBo0 := hide hBo0
    replace hO0 := hide hO0
    replace hE0 := hide hE0
    have hT0 := hide hT
    have hz00 := hide hz0
    clear h hl hl1 hl2 hl3 hx hJ hk hBo hO hT hm hz0 hok hok1 hokx hoky hP hRq hRq2 hk2 ihx ihy hpl hpl2 hpl3
    go_enter Tryz.func37, Tryz.ntmps37
    go_wp2_with fail
    obtain ⟨W, hW⟩ : ∃ W, W = w.alloc (.cells #[.int .i64 kk, .int .i64 0, .int .i64 P, .int .i64 R, .int .i64 0, .string (str []), .bool false] 54) := ⟨_, rfl⟩
    rw [← hW] at hA0 hBo0 hO0 hE0 hz00 ⊢
    rw [← hla.out]
    clear hW c0 c1 c2 c3 c4 c5 c6
    refine (joint_any _ ⟨kk, 0, P, R, 0, [], false⟩).mono ?_
    rintro e w1 ⟨rfl, hb1⟩
    rw [hj]
    have hA1 := hA0.out.below hb1 (by rw [hz00.out]; omega)
    have hBo1 := hBo0.out.below hb1 (by have := hBo0.out.lt; omega)
    have hO1 := hO0.out.below hb1 (Nat.le_refl _)
    have hE1 : LayE ob v v w w1 := hE0.out.trans ⟨hb1.mono (by have := hBo0.out.lt; omega), fun k h1 _ _ => hb1.block k h1, fun k h => .inl h⟩
    have hT1 := hT0.out.below hE1.1 hgt
    have hR1 : RA w1 ob (some ad) n l := Reads.keep hRA.out (fun p hp => hE1.1.cell hp)
    have hlt1 : la < w1.heap.size := hA1.lt
    have hX := IX.out w1 hR1 hT1 hBo1 hO1
    clear hb1 hj hA0 hBo0 hO0 hE0 hT0 hRA hz00 IX
    have p2 : w1.cell? ⟨la, 2, none⟩ = some (.int .i64 P) := hA1.cell 2
    replace hR1 := hide hR1
    replace hT1 := hide hT1
    replace hE1 := hide hE1
    replace hA1 := hide hA1
    clear hBo1 hO1
    go_wp2_with fail
    refine hX.mono ?_
    rintro e w2 ⟨rfl, v1, hBo2, hO2, hE2⟩
    rw [hsxe.out] at hO2 ⊢
    rw [hpxe.out] at hO2
    have hA2 := hE2.blk hA1.out (by have := hlal.out; omega) hvl.out
    have hv1l : Hid (v1.ownBlock ≠ some la) := fun e => by
      rcases hE2.2.2 la e with h | h
      · exact hvl.out h
      · omega
    have hE12 := hE1.out.trans hE2
    have hlt2 : la < w2.heap.size := hA2.lt
    have q2 : w2.cell? ⟨la, 2, none⟩ = some (.int .i64 P) := hA2.cell 2
    have q3 : w2.cell? ⟨la, 3, none⟩ = some (.int .i64 R) := hA2.cell 3
    have g2 := hA2.frozen 2
    have hA3 := hide (hA2.set_ 2 (.int .i64 ((m : Int) + (sx : Int) - 1)))
    have hBo3 := hBo2.far (p := ⟨la, 2, none⟩) (by simp; have := hlal.out; omega) (.int .i64 ((m : Int) + (sx : Int) - 1))
    have hO3 := hO2.far (i := 2) hv1l.out (.int .i64 ((m : Int) + (sx : Int) - 1))
    have hE3 := hE12.setNew (g := la) (i := 2) (by rw [hla.out]; exact Nat.le_refl _) (Nat.le_of_lt hlal.out) (.int .i64 ((m : Int) + (sx : Int) - 1))
    have hb13 : Below ob w1 (w2.setCell ⟨la, 2, none⟩ (.int .i64 ((m : Int) + (sx : Int) - 1))) := below_set hE2.1 (Nat.le_of_lt hlal.out) _
    have hT3 := hT1.out.below hb13 hgt
    have hR3 : RA (w2.setCell ⟨la, 2, none⟩ (.int .i64 ((m : Int) + (sx : Int) - 1))) ob (some ad) n l := Reads.keep hR1.out (fun p hp => hb13.cell hp)
    have hY := hide (IY.out _ v1 hR3 hT3 hBo3 hO3)
    replace hE3 := hide hE3
    clear hA2 hE12 hBo2 hO2 hE2 hBo3 hO3 hT3 hR3 hR1 hT1 hE1 hA1 p2 IY hX hb13
    go_wp2_with fail
    obtain ⟨w3, hw3⟩ : ∃ x, x = w2.setCell ⟨la, 2, none⟩ (.int .i64 ((m : Int) + (sx : Int) - 1)) := ⟨_, rfl⟩
    rw [← hw3] at hY hA3 hE3 ⊢
    have hlt3 : la < w3.heap.size := hA3.out.lt
    clear hw3 q2 q3 g2
    refine hY.out.mono ?_
    rintro e w4 ⟨rfl, v2, hBo4, hO4, hE4⟩
    rw [hsye.out] at hO4 ⊢
    rw [hpye.out] at hO4
    have hA4 := hE4.blk hA3.out (by have := hlal.out; omega) hv1l.out
    have hv2l : Hid (v2.ownBlock ≠ some la) := fun e => by
      rcases hE4.2.2 la e with h | h
      · exact hv1l.out h
      · omega
    have hE34 := hE3.out.trans hE4
    have hlt4 : la < w4.heap.size := hA4.lt
    have r0 : w4.cell? ⟨la, 0, none⟩ = some (.int .i64 kk) := hA4.cell 0
    have r3 : w4.cell? ⟨la, 3, none⟩ = some (.int .i64 R) := hA4.cell 3
    have g0 := hA4.frozen 0
    have g3 := hA4.frozen 3
    have ecast : ((m + sx : Nat) : Int) + (sy : Int) - 1 = (m : Int) + (sx : Int) + (sy : Int) - 1 := by omega
    rw [ecast]
    have hA5 := hide (hA4.set_ 3 (.int .i64 ((m : Int) + (sx : Int) + (sy : Int) - 1)))
    have hBo5 := hide (hBo4.far (p := ⟨la, 3, none⟩) (by simp; have := hlal.out; omega) (.int .i64 ((m : Int) + (sx : Int) + (sy : Int) - 1)))
    have hO5 := hide (hO4.far (i := 3) hv2l.out (.int .i64 ((m : Int) + (sx : Int) + (sy : Int) - 1)))
    have hE5 := hide (hE34.setNew (g := la) (i := 3) (by rw [hla.out]; exact Nat.le_refl _) (Nat.le_of_lt hlal.out) (.int .i64 ((m : Int) + (sx : Int) + (sy : Int) - 1)))
    have hm2 : m + sx + sy + 1 ≤ 100000 := by omega
    clear hA4 hE34 hBo4 hO4 hE4 hE3 hA3 hY ecast
    cases t with
    | true =>
      rw [if_pos rfl] at hR
      obtain ⟨ki, hki⟩ : ∃ ki : Int, ki = 3 - kk := ⟨_, rfl⟩
      rw [← hki] at hR
      have hw : IntKind.i64.wrap (3 - kk) = ki := by rw [hki]; exact IntWalk.i64_in _ (by omega)
      have hki2 : 0 ≤ ki ∧ ki ≤ 3 := by omega
      have hA6 := hide (hA5.out.set_ 0 (.int .i64 ki))
      have hBo6 := hide (hBo5.out.far (p := ⟨la, 0, none⟩) (by simp; have := hlal.out; omega) (.int .i64 ki))
      have hO6 := hide (hO5.out.far (i := 0) hv2l.out (.int .i64 ki))
      have hE6 := hide (hE5.out.setNew (g := la) (i := 0) (by rw [hla.out]; exact Nat.le_refl _) (Nat.le_of_lt hlal.out) (.int .i64 ki))
      clear hA5 hBo5 hO5 hE5
      replace hki := hide hki
      go_upto_region 11 with (fail)
      obtain ⟨w5, hw5⟩ : ∃ x, x = (w4.setCell ⟨la, 3, none⟩ (.int .i64 ((m : Int) + (sx : Int) + (sy : Int) - 1))).setCell ⟨la, 0, none⟩ (.int .i64 ki) := ⟨_, rfl⟩
      rw [← hw5] at hA6 hBo6 hO6 hE6 ⊢
      clear hw5 r0 r3 g0 g3
      have hBa : Hid (Blk w5 la 54 #[.int .i64 ki, .int .i64 0, .int .i64 ((m : Int) + (sx : Int) - 1), .int .i64 ((m : Int) + (sx : Int) + (sy : Int) - 1), .int .i64 0, .string (str []), .bool false]) := hA6.out
      have hBo := hBo6
      have hO := hO6
      have hLE := hE6
      clear hA6 hBo6 hO6 hE6
      have p0 : w5.cell? ⟨la, 0, none⟩ = some (.int .i64 (ki)) := hBa.out.cell 0
      have p1 : w5.cell? ⟨la, 1, none⟩ = some (.int .i64 (0)) := hBa.out.cell 1
      have p2 : w5.cell? ⟨la, 2, none⟩ = some (.int .i64 ((m : Int) + (sx : Int) - 1)) := hBa.out.cell 2
      have p3 : w5.cell? ⟨la, 3, none⟩ = some (.int .i64 ((m : Int) + (sx : Int) + (sy : Int) - 1)) := hBa.out.cell 3
      have p4 : w5.cell? ⟨la, 4, none⟩ = some (.int .i64 (0)) := hBa.out.cell 4
      have p5 : w5.cell? ⟨la, 5, none⟩ = some (.string (str [])) := hBa.out.cell 5
      have p6 : w5.cell? ⟨la, 6, none⟩ = some (.bool false) := hBa.out.cell 6
      have po : w5.cell? ⟨ob, 0, none⟩ = some v2 := hBo.out.cell 0
      have hlo2 : ob < w5.heap.size := hBo.out.lt
      have hcb : Hid (Blk (w5.alloc (.cells #[.int .i64 (ki), .int .i64 (0), .int .i64 ((m : Int) + (sx : Int) - 1), .int .i64 ((m : Int) + (sx : Int) + (sy : Int) - 1), .int .i64 (0), .string (str []), .bool false] 54)) w5.heap.size 54 (av ⟨ki, 0, (m : Int) + (sx : Int) - 1, (m : Int) + (sx : Int) + (sy : Int) - 1, 0, [], false⟩).toArray) := Blk.new w5 54 #[.int .i64 (ki), .int .i64 (0), .int .i64 ((m : Int) + (sx : Int) - 1), .int .i64 ((m : Int) + (sx : Int) + (sy : Int) - 1), .int .i64 (0), .string (str []), .bool false]
      have hbs : ob + 1 ≤ (w5.alloc (.cells #[.int .i64 (ki), .int .i64 (0), .int .i64 ((m : Int) + (sx : Int) - 1), .int .i64 ((m : Int) + (sx : Int) + (sy : Int) - 1), .int .i64 (0), .string (str []), .bool false] 54)).heap.size := by simp; omega
      have hO9 := hide (hO.out.alloc (.cells #[.int .i64 (ki), .int .i64 (0), .int .i64 ((m : Int) + (sx : Int) - 1), .int .i64 ((m : Int) + (sx : Int) + (sy : Int) - 1), .int .i64 (0), .string (str []), .bool false] 54))
      have hBo9 := hide (hBo.out.alloc (.cells #[.int .i64 (ki), .int .i64 (0), .int .i64 ((m : Int) + (sx : Int) - 1), .int .i64 ((m : Int) + (sx : Int) + (sy : Int) - 1), .int .i64 (0), .string (str []), .bool false] 54))
      have hown : Hid (∀ k, (v2).ownBlock = some k → k < w5.heap.size) := fun k hk => hO.out.own_lt k hk
      have hown1 : Hid (∀ k, (v2).ownBlock = some k → ob + 1 ≤ k) := fun k hk => hO.out.block_lt k hk
      go_region_law (refine step_app_a2 ⟨ki, 0, (m : Int) + (sx : Int) - 1, (m : Int) + (sx : Int) + (sy : Int) - 1, 0, [], false⟩ rfl (.tmp 57) (.tmp 59) rfl (ob + 1) v2 (m + sx + sy) (outL ++ px ++ py) hO9.out rfl w5.heap.size 1 (by simp) rfl hcb.out (by omega) hbs ?_; intro v9 w9 ho9 hb9 hg9 hv9; have hst := hide (LayE.tail (i := 0) hLE.out hlo2 hown.out hown1.out hO9.out hg9 ho9 (by simpa using hv9)); obtain ⟨vA, vc, rfl, -, -, -, -⟩ := ho9.form; have hB9 := hide (hBo9.out.drew.below hb9 (Nat.lt_succ_self _)); have hf9 := hB9.out.frozen 0; have hd9 := hB9.out.cell 0; replace ho9 := hide ho9)
      all_goals
        have hoF := hide (ho9.out.setOther (p := ⟨ob, 0, none⟩) (Nat.lt_succ_self _) (.slice vA (m + sx + sy + 1) vc))
        have hBF := hide (hB9.out.set_ 0 (.slice vA (m + sx + sy + 1) vc))
        clear hcb hbs hO9 hBo9 hg9 hv9 hb9 hown hown1 hLE hBo hBa hO p0 p1 p2 p3 p4 p5 p6 po ho9 hB9
        go_wp2_with fail
        go_ret
        exact ⟨ret_int (by rw [hR.out, hRs.out]; simp; omega), _, hBF.out, by rw [hR.out, hRs.out, hRp.out]; have h := hoF.out; simpa [List.append_assoc, Nat.add_assoc] using h, hst.out⟩
    | false =>
      rw [if_neg Bool.false_ne_true] at hR
      go_upto_region 11 with (fail)
      obtain ⟨w5, hw5⟩ : ∃ x, x = w4.setCell ⟨la, 3, none⟩ (.int .i64 ((m : Int) + (sx : Int) + (sy : Int) - 1)) := ⟨_, rfl⟩
      rw [← hw5] at hA5 hBo5 hO5 hE5 ⊢
      clear hw5 r0 r3 g0 g3
      have hBa : Hid (Blk w5 la 54 #[.int .i64 kk, .int .i64 0, .int .i64 ((m : Int) + (sx : Int) - 1), .int .i64 ((m : Int) + (sx : Int) + (sy : Int) - 1), .int .i64 0, .string (str []), .bool false]) := hA5.out
      have hBo := hBo5
      have hO := hO5
      have hLE := hE5
      clear hA5 hBo5 hO5 hE5
      have p0 : w5.cell? ⟨la, 0, none⟩ = some (.int .i64 (kk)) := hBa.out.cell 0
      have p1 : w5.cell? ⟨la, 1, none⟩ = some (.int .i64 (0)) := hBa.out.cell 1
      have p2 : w5.cell? ⟨la, 2, none⟩ = some (.int .i64 ((m : Int) + (sx : Int) - 1)) := hBa.out.cell 2
      have p3 : w5.cell? ⟨la, 3, none⟩ = some (.int .i64 ((m : Int) + (sx : Int) + (sy : Int) - 1)) := hBa.out.cell 3
      have p4 : w5.cell? ⟨la, 4, none⟩ = some (.int .i64 (0)) := hBa.out.cell 4
      have p5 : w5.cell? ⟨la, 5, none⟩ = some (.string (str [])) := hBa.out.cell 5
      have p6 : w5.cell? ⟨la, 6, none⟩ = some (.bool false) := hBa.out.cell 6
      have po : w5.cell? ⟨ob, 0, none⟩ = some v2 := hBo.out.cell 0
      have hlo2 : ob < w5.heap.size := hBo.out.lt
      have hcb : Hid (Blk (w5.alloc (.cells #[.int .i64 (kk), .int .i64 (0), .int .i64 ((m : Int) + (sx : Int) - 1), .int .i64 ((m : Int) + (sx : Int) + (sy : Int) - 1), .int .i64 (0), .string (str []), .bool false] 54)) w5.heap.size 54 (av ⟨kk, 0, (m : Int) + (sx : Int) - 1, (m : Int) + (sx : Int) + (sy : Int) - 1, 0, [], false⟩).toArray) := Blk.new w5 54 #[.int .i64 (kk), .int .i64 (0), .int .i64 ((m : Int) + (sx : Int) - 1), .int .i64 ((m : Int) + (sx : Int) + (sy : Int) - 1), .int .i64 (0), .string (str []), .bool false]
      have hbs : ob + 1 ≤ (w5.alloc (.cells #[.int .i64 (kk), .int .i64 (0), .int .i64 ((m : Int) + (sx : Int) - 1), .int .i64 ((m : Int) + (sx : Int) + (sy : Int) - 1), .int .i64 (0), .string (str []), .bool false] 54)).heap.size := by simp; omega
      have hO9 := hide (hO.out.alloc (.cells #[.int .i64 (kk), .int .i64 (0), .int .i64 ((m : Int) + (sx : Int) - 1), .int .i64 ((m : Int) + (sx : Int) + (sy : Int) - 1), .int .i64 (0), .string (str []), .bool false] 54))
      have hBo9 := hide (hBo.out.alloc (.cells #[.int .i64 (kk), .int .i64 (0), .int .i64 ((m : Int) + (sx : Int) - 1), .int .i64 ((m : Int) + (sx : Int) + (sy : Int) - 1), .int .i64 (0), .string (str []), .bool false] 54))
      have hown : Hid (∀ k, (v2).ownBlock = some k → k < w5.heap.size) := fun k hk => hO.out.own_lt k hk
      have hown1 : Hid (∀ k, (v2).ownBlock = some k → ob + 1 ≤ k) := fun k hk => hO.out.block_lt k hk
      go_region_law (refine step_app_a2 ⟨kk, 0, (m : Int) + (sx : Int) - 1, (m : Int) + (sx : Int) + (sy : Int) - 1, 0, [], false⟩ rfl (.tmp 57) (.tmp 59) rfl (ob + 1) v2 (m + sx + sy) (outL ++ px ++ py) hO9.out rfl w5.heap.size 1 (by simp) rfl hcb.out (by omega) hbs ?_; intro v9 w9 ho9 hb9 hg9 hv9; have hst := hide (LayE.tail (i := 0) hLE.out hlo2 hown.out hown1.out hO9.out hg9 ho9 (by simpa using hv9)); obtain ⟨vA, vc, rfl, -, -, -, -⟩ := ho9.form; have hB9 := hide (hBo9.out.drew.below hb9 (Nat.lt_succ_self _)); have hf9 := hB9.out.frozen 0; have hd9 := hB9.out.cell 0; replace ho9 := hide ho9)
      all_goals
        have hoF := hide (ho9.out.setOther (p := ⟨ob, 0, none⟩) (Nat.lt_succ_self _) (.slice vA (m + sx + sy + 1) vc))
        have hBF := hide (hB9.out.set_ 0 (.slice vA (m + sx + sy + 1) vc))
        clear hcb hbs hO9 hBo9 hg9 hv9 hb9 hown hown1 hLE hBo hBa hO p0 p1 p2 p3 p4 p5 p6 po ho9 hB9
        go_wp2_with fail
        go_ret
        exact ⟨ret_int (by rw [hR.out, hRs.out]; simp; omega), _, hBF.out, by rw [hR.out, hRs.out, hRp.out]; have h := hoF.out; simpa [List.append_assoc, Nat.add_assoc] using h, hst.out⟩
end Go.Proofs.YtnnjcedlomfhoaaGreatDoor
namespace Go.Proofs.YtnnjcedlomfhoaaGreatDoor
open Go.RowKit
set_option linter.unusedVariables false
set_option maxRecDepth 100000 in
set_option maxHeartbeats 4000000 in
theorem told_plain (w : World) (x : Ask) (h4 : ¬ (x.kind = 4 ∧ x.op = 7)) (h6 : ¬ (x.kind = 6 ∧ x.isText = true)) (h9 : ¬ x.kind = 9) : Calls Tryz.prog 36 #[askV x] w (ToldRet w x true) := by
  obtain ⟨kind, op, a, b, n, text, isText⟩ := x
  dsimp only at h4 h6 h9 ⊢
  unfold askV
  dsimp only
  by_cases k4 : kind = 4
  · subst k4
    have o7 : (op == 7) = false := eqb_false (fun e => h4 ⟨rfl, e⟩)
    clear h4 h6 h9
    go_enter Tryz.func36, Tryz.ntmps36
    go_wp2_with fail
    refine bodyPost_ret (v := .tuple #[.agg #[.int .i64 4, .int .i64 op, .int .i64 a, .int .i64 b, .int .i64 n, .string (str text), .bool isText], .bool true]) (by simp [results, Tryz.results36, go_sem]) rfl ⟨rfl, ?_⟩
    exact ((Below.refl _ _).alloc (Nat.le_refl _) _).alloc (by simp) _
  · by_cases k6 : kind = 6
    · subst k6
      have ht : isText = false := by cases isText with
        | false => rfl
        | true => exact absurd ⟨rfl, rfl⟩ h6
      subst ht
      clear h4 h6 h9 k4
      go_enter Tryz.func36, Tryz.ntmps36
      go_wp2_with fail
      refine bodyPost_ret (v := .tuple #[.agg #[.int .i64 6, .int .i64 op, .int .i64 a, .int .i64 b, .int .i64 n, .string (str text), .bool false], .bool true]) (by simp [results, Tryz.results36, go_sem]) rfl ⟨rfl, ?_⟩
      exact ((Below.refl _ _).alloc (Nat.le_refl _) _).alloc (by simp) _
    · have n4 := eqb_false k4
      have n6 := eqb_false k6
      have n9 := eqb_false h9
      clear h4 h6 h9 k4 k6
      go_enter Tryz.func36, Tryz.ntmps36
      go_wp2_with fail
      refine bodyPost_ret (v := .tuple #[.agg #[.int .i64 kind, .int .i64 op, .int .i64 a, .int .i64 b, .int .i64 n, .string (str text), .bool isText], .bool true]) (by simp [results, Tryz.results36, go_sem]) rfl ⟨rfl, ?_⟩
      exact ((Below.refl _ _).alloc (Nat.le_refl _) _).alloc (by simp) _
theorem told_any (w : World) (x : Ask) (hT : Utf8T w) : Calls Tryz.prog 36 #[askV x] w (ToldRet w (toldR globG dosP x).1 (toldR globG dosP x).2) := by
  by_cases h4 : x.kind = 4 ∧ x.op = 7
  · rw [toldR, if_pos h4]; exact told_like w x hT h4.1 h4.2
  · by_cases h6 : x.kind = 6 ∧ x.isText = true
    · rw [toldR, if_neg h4, if_pos h6]; exact told_date w x h6.1 h6.2
    · by_cases h9 : x.kind = 9
      · rw [toldR, if_neg h4, if_neg h6, if_pos h9]; exact told_has w x h9
      · rw [toldR, if_neg h4, if_neg h6, if_neg h9]; exact told_plain w x h4 h6 h9
def told1 (a : Ask) : Ask := (toldR globG dosP a).1
def mapQ (T : Ask → Ask) : Q → Q
  | .term a => .term (T a)
  | .neg q => .neg (mapQ T q)
  | .two k x y => .two k (mapQ T x) (mapQ T y)
theorem mapQ_size (T : Ask → Ask) (q : Q) : (mapQ T q).size = q.size := by
  induction q with
  | term a => rfl
  | neg q ih => simp [mapQ, Q.size, ih]
  | two k x y ihx ihy => simp [mapQ, Q.size, ihx, ihy]
theorem told1_joint (k a b : Int) (hk : k = 1 ∨ k = 2 ∨ k = 3) : told1 ⟨k, 0, a, b, 0, [], false⟩ = ⟨k, 0, a, b, 0, [], false⟩ := by
  unfold told1 toldR
  rw [if_neg (by show ¬ (k = 4 ∧ _); omega), if_neg (by show ¬ (k = 6 ∧ _); omega), if_neg (by show ¬ k = 9; omega)]
theorem told1_keep (a : Ask) : (told1 a).kind = a.kind ∧ (told1 a).op = a.op := by
  unfold told1 toldR
  split
  · exact ⟨rfl, rfl⟩
  · split
    · exact ⟨rfl, rfl⟩
    · split <;> exact ⟨rfl, rfl⟩
theorem mapQ_parts : ∀ (q : Q) (p : Nat), okQ q → (q.parts p).map told1 = (mapQ told1 q).parts p
  | .term a, p, h => rfl
  | .neg q, p, h => by
    rw [Q.parts, List.map_append, mapQ_parts q p h, List.map_singleton, told1_joint _ _ _ (.inr (.inr rfl)), mapQ, Q.parts, mapQ_size]
  | .two k x y, p, h => by
    rw [Q.parts, List.map_append, List.map_append, mapQ_parts x p h.2.1, mapQ_parts y _ h.2.2, List.map_singleton, told1_joint _ _ _ (by rcases h.1 with e | e <;> simp [e]), mapQ, Q.parts, mapQ_size, mapQ_size]
theorem okL_map : ∀ q : Q, okQ q → okL (mapQ told1 q)
  | .term a, h => by
    obtain ⟨h1, -⟩ := h
    have hk := told1_keep a
    show okT (told1 a)
    unfold okT
    rw [hk.1, hk.2]
    omega
  | .neg q, h => okL_map q h
  | .two k x y, h => ⟨h.1, okL_map x h.2.1, okL_map y h.2.2⟩
theorem layQ_map : ∀ (q : Q) (t : Bool), layQ told1 q t = turnQ (mapQ told1 q) t
  | .term a, t => rfl
  | .neg q, t => layQ_map q (!t)
  | .two k x y, t => by
    show Q.two _ (layQ told1 x t) (layQ told1 y t) = Q.two _ (turnQ (mapQ told1 x) t) (turnQ (mapQ told1 y) t)
    rw [layQ_map x t, layQ_map y t]
/-- The list, told up to a place. -/
def toldTo (l : List Ask) (k : Nat) : List Ask := (l.take k).map told1 ++ l.drop k
theorem toldTo_zero (l : List Ask) : toldTo l 0 = l := by simp [toldTo]
theorem toldTo_all (l : List Ask) (k : Nat) (h : l.length ≤ k) : toldTo l k = l.map told1 := by simp [toldTo, List.take_of_length_le h, List.drop_eq_nil_of_le h]
theorem toldTo_len (l : List Ask) (k : Nat) : (toldTo l k).length = l.length := by simp [toldTo]; omega
theorem toldTo_at (l : List Ask) (k : Nat) (h : k < l.length) (h2 : k < (toldTo l k).length) : (toldTo l k)[k] = l[k] := by
  have e : (toldTo l k)[k]? = some l[k] := by
    unfold toldTo
    rw [List.getElem?_append_right (by simp; omega)]
    simp
    rw [show k - min k l.length = 0 from by omega]
    simp [h]
  rw [List.getElem?_eq_getElem h2] at e
  exact Option.some.inj e
theorem toldTo_set (l : List Ask) (k : Nat) (h : k < l.length) : (toldTo l k).set k (told1 l[k]) = toldTo l (k + 1) := by
  unfold toldTo
  rw [List.set_append_right _ _ (by simp; omega)]
  rw [List.take_succ_eq_append_getElem h, List.map_append, List.append_assoc]
  congr 1
  have e : k - ((l.take k).map told1).length = 0 := by simp; omega
  rw [e, List.drop_eq_getElem_cons h]
  rfl
theorem errs_take (l : List Ask) (k : Nat) (h : k < l.length) (h0 : errsL globG dosP (l.take k) = 0) : errsL globG dosP (l.take (k + 1)) = errsL globG dosP [l[k]] := by
  rw [List.take_succ_eq_append_getElem h, errsL_append, if_pos h0]
theorem errs_whole (l : List Ask) (k : Nat) (h0 : errsL globG dosP (l.take k) ≠ 0) : errsL globG dosP l = errsL globG dosP (l.take k) := by
  conv => lhs; rw [← List.take_append_drop k l]
  rw [errsL_append, if_neg h0]
theorem errs_one (a : Ask) : errsL globG dosP [a] = if typedB a = false then 16 else if (toldR globG dosP a).2 = false then 4 else 0 := rfl
theorem avs_set (l : List Ask) (k : Nat) (x : Ask) (h : k < l.length) :
    avs (l.set k x) = ((((((((avs l).set (k * 7) (.int .i64 x.kind)).set (k * 7 + 1) (.int .i64 x.op)).set (k * 7 + 2) (.int .i64 x.a)).set (k * 7 + 3) (.int .i64 x.b)).set (k * 7 + 4) (.int .i64 x.n)).set (k * 7 + 5) (.string (str x.text))).set (k * 7 + 6) (.bool x.isText)) := by
  induction l generalizing k with
  | nil => simp at h
  | cons a l ih =>
    cases k with
    | zero => simp [avs, av]
    | succ k =>
      have e : avs ((a :: l).set (k + 1) x) = av a ++ avs (l.set k x) := by simp [avs]
      have e2 : avs (a :: l) = av a ++ avs l := by simp [avs]
      rw [e, e2, ih k (by simpa using h)]
      have hl : (av a).length = 7 := rfl
      simp only [List.set_append_right _ _ (show (av a).length ≤ (k + 1) * 7 by rw [hl]; omega), List.set_append_right _ _ (show (av a).length ≤ (k + 1) * 7 + 1 by rw [hl]; omega), List.set_append_right _ _ (show (av a).length ≤ (k + 1) * 7 + 2 by rw [hl]; omega),
        List.set_append_right _ _ (show (av a).length ≤ (k + 1) * 7 + 3 by rw [hl]; omega), List.set_append_right _ _ (show (av a).length ≤ (k + 1) * 7 + 4 by rw [hl]; omega), List.set_append_right _ _ (show (av a).length ≤ (k + 1) * 7 + 5 by rw [hl]; omega), List.set_append_right _ _ (show (av a).length ≤ (k + 1) * 7 + 6 by rw [hl]; omega)]
      congr 1
      have f0 : (k + 1) * 7 - (av a).length = k * 7 := by rw [hl]; omega
      have f1 : (k + 1) * 7 + 1 - (av a).length = k * 7 + 1 := by rw [hl]; omega
      have f2 : (k + 1) * 7 + 2 - (av a).length = k * 7 + 2 := by rw [hl]; omega
      have f3 : (k + 1) * 7 + 3 - (av a).length = k * 7 + 3 := by rw [hl]; omega
      have f4 : (k + 1) * 7 + 4 - (av a).length = k * 7 + 4 := by rw [hl]; omega
      have f5 : (k + 1) * 7 + 5 - (av a).length = k * 7 + 5 := by rw [hl]; omega
      have f6 : (k + 1) * 7 + 6 - (av a).length = k * 7 + 6 := by rw [hl]; omega
      rw [f0, f1, f2, f3, f4, f5, f6]
theorem OA.put7 {w : World} {base g n cap k : Nat} {l : List Ask} (h : OA w base (.slice (some ⟨g, 0, none⟩) n cap) n l) (x : Ask) (hk : k < l.length) :
    OA (((((((w.setCell ⟨g, k * 7, none⟩ (.int .i64 x.kind)).setCell ⟨g, k * 7 + 1, none⟩ (.int .i64 x.op)).setCell ⟨g, k * 7 + 2, none⟩ (.int .i64 x.a)).setCell ⟨g, k * 7 + 3, none⟩ (.int .i64 x.b)).setCell ⟨g, k * 7 + 4, none⟩ (.int .i64 x.n)).setCell ⟨g, k * 7 + 5, none⟩ (.string (str x.text))).setCell ⟨g, k * 7 + 6, none⟩ (.bool x.isText))
      base (.slice (some ⟨g, 0, none⟩) n cap) n (l.set k x) := by
  unfold OA
  rw [avs_set l k x hk]
  have h1 := (World.ownsRow.stored h (k * 7) (.int .i64 x.kind)).1
  have h2 := (World.ownsRow.stored h1 (k * 7 + 1) (.int .i64 x.op)).1
  have h3 := (World.ownsRow.stored h2 (k * 7 + 2) (.int .i64 x.a)).1
  have h4 := (World.ownsRow.stored h3 (k * 7 + 3) (.int .i64 x.b)).1
  have h5 := (World.ownsRow.stored h4 (k * 7 + 4) (.int .i64 x.n)).1
  have h6 := (World.ownsRow.stored h5 (k * 7 + 5) (.string (str x.text))).1
  exact (World.ownsRow.stored h6 (k * 7 + 6) (.bool x.isText)).1
end Go.Proofs.YtnnjcedlomfhoaaGreatDoor
namespace Go.Proofs.YtnnjcedlomfhoaaGreatDoor
open Go.RowKit
set_option linter.unusedVariables false
theorem Utf8T.far {w w' : World} {B : Nat} (h : Utf8T w) (hb : Below B w w') (h1 : 1 < B) (h2 : 2 < B) : Utf8T w' := by
  obtain ⟨⟨t1, t2⟩, h3, h4⟩ := h
  refine ⟨⟨fun c hc => (hb.cell (p := ⟨1, c, none⟩) h1).trans (t1 c hc), fun i hi => ⟨(hb.cell (p := ⟨2, 2 * i, none⟩) h2).trans (t2 i hi).1, (hb.cell (p := ⟨2, 2 * i + 1, none⟩) h2).trans (t2 i hi).2⟩⟩, ?_, ?_⟩
  · exact Nat.lt_of_lt_of_le h3 hb.size
  · exact Nat.lt_of_lt_of_le h4 hb.size
set_option maxRecDepth 100000 in
set_option maxHeartbeats 8000000 in
theorem norm_any (w : World) (A : Option Addr) (n c : Nat) (q : Q) (h : RA w w.heap.size A n (q.parts 0)) (ho : okQ q) (hp : q.plain) (hn : n ≤ 10000) (hT : Utf8T w) (hTT : TurnT w) :
    Calls Tryz.prog 17 #[.slice A n c] w (PRet w (normRes globG dosP q) (normErr globG dosP q)) := by
  have hlen : n = q.size := by rw [← h.len, q.parts_len]
  have hq1 := q.size_pos
  have hH := hide h
  replace hlen := hide hlen
  go_enter Tryz.func17, Tryz.ntmps17
  go_wp2_with fail
  refine (parts_any w A n c _ h (by omega)).mono ?_
  rintro e w1 ⟨rfl, hb1⟩
  rw [parts_ok q ho hp]
  have hR1 := (h.below hb1).more hb1.size
  have hsz1 := hb1.size
  clear h
  go_wp2_with fail
  refine (deep_any w1 A n c _ hR1 (by omega)).mono ?_
  rintro e w2 ⟨rfl, hb2⟩
  rw [deepL_tree q hp]
  have hR2 := (hR1.below hb2).more hb2.size
  have hbw2 := hb1.trans (hb2.mono hsz1)
  have hsz2 := hbw2.size
  clear hR1 hb1 hb2 hsz1
  by_cases hd : 16 < q.depth
  · have he : Hid (normErr globG dosP q = 11) := by rw [Hid, normErr, if_pos hd]
    have hr : Hid (normRes globG dosP q = []) := by rw [Hid, normRes, he.out]; rfl
    have hd2 : (16 : Int) < (q.depth : Int) := by omega
    clear hd hR2
    go_wp2_with fail
    go_ret2
    exact PRet.mk (OA.nil _ _) hr.out he.out hbw2
  · have hd2 : ¬ (16 : Int) < (q.depth : Int) := by omega
    have hE : Hid (normErr globG dosP q = errsL globG dosP (q.parts 0)) := by rw [Hid, normErr, if_neg hd]
    clear hd
    go_wp2_with fail
    refine (aclone_any w2 A n c _ hR2 (by omega)).mono ?_
    rintro e w3 ⟨v, rfl, hO3, hb3⟩
    have hbw3 := hbw2.trans (hb3.mono hsz2)
    have hO3' : OA w3 w.heap.size v n (q.parts 0) := hO3.more hsz2
    rcases hO3'.parts with ⟨_, h0, _⟩ | ⟨g, cap, rfl, hnc, hcm, hgw, hg3⟩
    · have := hlen.out; omega
    have hT3 := hide (hT.below hbw3)
    have hTT3 := hide (hTT.below hbw3 hTT.2)
    have hgt : 0 < w.heap.size := hTT.2
    have hgf : 1 < w.heap.size := hT.2.1
    have hga : 2 < w.heap.size := hT.2.2
    replace hO3' := hide hO3'
    clear hR2 hO3 hb3 hbw2 hsz2 hT hTT hH
    obtain ⟨l, hl⟩ : ∃ l, l = q.parts 0 := ⟨_, rfl⟩
    rw [← hl] at hO3' hE
    have hll : Hid (l.length = n) := by rw [Hid, hl, q.parts_len, hlen.out]
    have hml : Hid (l.map told1 = (mapQ told1 q).parts 0) := by rw [Hid, hl]; exact mapQ_parts q 0 ho
    replace hl := hide hl
    go_wp2_with fail
    go_loopw [21] (fun vi wr => ∃ k : Nat, k ≤ n ∧ vi = .int .i64 k ∧ errsL globG dosP (l.take k) = 0 ∧ OA wr w.heap.size (.slice (some ⟨g, 0, none⟩) n cap) n (toldTo l k) ∧ Utf8T wr ∧ TurnT wr ∧ Below w.heap.size w wr) (fun vi _ => n - (intOf vi).toNat)
    case atStart => exact ⟨0, by omega, rfl, rfl, by rw [toldTo_zero]; exact hO3'.out, hT3.out, hTT3.out, hbw3⟩
    case round =>
      clear hT3 hTT3 hbw3 hO3'
      obtain ⟨k, hk, rfl, herr, hO, hT, hTT, hbw⟩ := hrel
      have hsz := hbw.size
      have hgl := hO.own_lt g rfl
      by_cases h1 : k < n
      · have hkl : k < l.length := by have := hll.out; omega
        have htl : k < (toldTo l k).length := by rw [toldTo_len]; exact hkl
        have hat := toldTo_at l k hkl htl
        have p0 := hO.cell (k := k) (j := 0) h1 htl (by decide)
        have p1 := hO.cell (k := k) (j := 1) h1 htl (by decide)
        have p2 := hO.cell (k := k) (j := 2) h1 htl (by decide)
        have p3 := hO.cell (k := k) (j := 3) h1 htl (by decide)
        have p4 := hO.cell (k := k) (j := 4) h1 htl (by decide)
        have p5 := hO.cell (k := k) (j := 5) h1 htl (by decide)
        have p6 := hO.cell (k := k) (j := 6) h1 htl (by decide)
        rw [hat] at p0 p1 p2 p3 p4 p5 p6
        have het := hide (errs_take l k hkl herr)
        have hew := hide (errs_whole l (k + 1))
        have hset := hide (toldTo_set l k hkl)
        generalize l[k] = x at *
        replace p0 : wr.cell? ⟨g, k * 7, none⟩ = some (.int .i64 x.kind) := p0
        replace p1 : wr.cell? ⟨g, k * 7 + 1, none⟩ = some (.int .i64 x.op) := p1
        replace p2 : wr.cell? ⟨g, k * 7 + 2, none⟩ = some (.int .i64 x.a) := p2
        replace p3 : wr.cell? ⟨g, k * 7 + 3, none⟩ = some (.int .i64 x.b) := p3
        replace p4 : wr.cell? ⟨g, k * 7 + 4, none⟩ = some (.int .i64 x.n) := p4
        replace p5 : wr.cell? ⟨g, k * 7 + 5, none⟩ = some (.string (str x.text)) := p5
        replace p6 : wr.cell? ⟨g, k * 7 + 6, none⟩ = some (.bool x.isText) := p6
        have hO' := hide hO
        have hT' := hide hT
        have hTT' := hide hTT
        have hbw' := hide hbw
        replace herr := hide herr
        clear hO hT hTT hbw hat
        go_wp2_with fail
        have hA4 := Blk.new wr 54 #[.int .i64 x.kind, .int .i64 x.op, .int .i64 x.a, .int .i64 x.b, .int .i64 x.n, .string (str x.text), .bool x.isText]
        have hz4 : (wr.alloc (.cells #[.int .i64 x.kind, .int .i64 x.op, .int .i64 x.a, .int .i64 x.b, .int .i64 x.n, .string (str x.text), .bool x.isText] 54)).heap.size = wr.heap.size + 1 := by simp
        have hb0 := (Below.refl wr.heap.size wr).alloc (Nat.le_refl _) (.cells #[.int .i64 x.kind, .int .i64 x.op, .int .i64 x.a, .int .i64 x.b, .int .i64 x.n, .string (str x.text), .bool x.isText] 54)
        refine (typed_any _ x).mono ?_
        rintro e w4 ⟨rfl, hb4⟩
        have hb04 := hb0.trans (hb4.mono (by omega))
        replace hA4 := hA4.below hb4 (by omega)
        have hbw4 := hbw'.out.trans (hb04.mono hsz)
        have hO4 := hide (hO'.out.below hb04 (Nat.le_refl _))
        have hT4 := hT'.out.below hb04
        have hTT4 := hide (hTT'.out.below hb04 (Nat.lt_of_lt_of_le hgt hsz))
        have hsz4 := hbw4.size
        clear hO' hT' hTT' hbw' hb4 hb0 hb04 hz4 p0 p1 p2 p3 p4 p5 p6
        cases hty : typedB x with
        | false =>
          have herl : Hid (errsL globG dosP l = 16) := by
            have e1 : errsL globG dosP [x] = 16 := by rw [errs_one, if_pos hty]
            rw [Hid, hew.out (by rw [het.out, e1]; decide), het.out, e1]
          have he : Hid (normErr globG dosP q = 16) := by rw [Hid, hE.out, herl.out]
          have hr : Hid (normRes globG dosP q = []) := by rw [Hid, normRes, he.out]; rfl
          clear hty hA4 hT4
          go_wp2_with fail
          go_ret2
          exact PRet.mk (OA.nil _ _) hr.out he.out hbw4
        | true =>
          have r0 : w4.cell? ⟨wr.heap.size, 0, none⟩ = some (.int .i64 x.kind) := hA4.cell 0
          have r1 : w4.cell? ⟨wr.heap.size, 1, none⟩ = some (.int .i64 x.op) := hA4.cell 1
          have r2 : w4.cell? ⟨wr.heap.size, 2, none⟩ = some (.int .i64 x.a) := hA4.cell 2
          have r3 : w4.cell? ⟨wr.heap.size, 3, none⟩ = some (.int .i64 x.b) := hA4.cell 3
          have r4 : w4.cell? ⟨wr.heap.size, 4, none⟩ = some (.int .i64 x.n) := hA4.cell 4
          have r5 : w4.cell? ⟨wr.heap.size, 5, none⟩ = some (.string (str x.text)) := hA4.cell 5
          have r6 : w4.cell? ⟨wr.heap.size, 6, none⟩ = some (.bool x.isText) := hA4.cell 6
          replace hT4 := hide hT4
          replace hbw4 := hide hbw4
          clear hA4
          go_wp2_with fail
          refine (told_any w4 x hT4.out).mono ?_
          rintro e w5 ⟨rfl, hb5⟩
          have he1 : Hid (errsL globG dosP [x] = if (toldR globG dosP x).2 = false then 4 else 0) := by rw [Hid, errs_one, if_neg (by rw [hty]; exact Bool.noConfusion)]
          have hbw5 := hbw4.out.trans (hb5.mono hsz4)
          have hO5 := hO4.out.below hb5 (Nat.le_refl _)
          have hT5 := hT4.out.below hb5
          have hTT5 := hTT4.out.below (hb5.mono hsz4) hgt
          have htl : k < (toldTo l k).length := by rw [toldTo_len]; exact hkl
          have hO6 := hO5.put7 (told1 x) htl
          rw [hset.out] at hO6
          have hy : told1 x = (toldR globG dosP x).1 := rfl
          rw [hy] at hO6
          clear hO4 hT4 hTT4 hbw4 hb5 hty r0 r1 r2 r3 r4 r5 r6 hy hset
          unfold askV
          generalize (toldR globG dosP x).1 = y at *
          generalize (toldR globG dosP x).2 = is at *
          obtain ⟨s0, p0⟩ : ∃ s, w5.cell? ⟨g, k * 7, none⟩ = some s := ⟨_, hO5.cell (k := k) (j := 0) h1 htl (by decide)⟩
          obtain ⟨s1, p1⟩ : ∃ s, w5.cell? ⟨g, k * 7 + 1, none⟩ = some s := ⟨_, hO5.cell (k := k) (j := 1) h1 htl (by decide)⟩
          obtain ⟨s2, p2⟩ : ∃ s, w5.cell? ⟨g, k * 7 + 2, none⟩ = some s := ⟨_, hO5.cell (k := k) (j := 2) h1 htl (by decide)⟩
          obtain ⟨s3, p3⟩ : ∃ s, w5.cell? ⟨g, k * 7 + 3, none⟩ = some s := ⟨_, hO5.cell (k := k) (j := 3) h1 htl (by decide)⟩
          obtain ⟨s4, p4⟩ : ∃ s, w5.cell? ⟨g, k * 7 + 4, none⟩ = some s := ⟨_, hO5.cell (k := k) (j := 4) h1 htl (by decide)⟩
          obtain ⟨s5, p5⟩ : ∃ s, w5.cell? ⟨g, k * 7 + 5, none⟩ = some s := ⟨_, hO5.cell (k := k) (j := 5) h1 htl (by decide)⟩
          obtain ⟨s6, p6⟩ : ∃ s, w5.cell? ⟨g, k * 7 + 6, none⟩ = some s := ⟨_, hO5.cell (k := k) (j := 6) h1 htl (by decide)⟩
          have f0 : w5.frozen? ⟨g, k * 7, none⟩ = false := World.ownsRow.frozenAt hO5 _
          have f1 : w5.frozen? ⟨g, k * 7 + 1, none⟩ = false := World.ownsRow.frozenAt hO5 _
          have f2 : w5.frozen? ⟨g, k * 7 + 2, none⟩ = false := World.ownsRow.frozenAt hO5 _
          have f3 : w5.frozen? ⟨g, k * 7 + 3, none⟩ = false := World.ownsRow.frozenAt hO5 _
          have f4 : w5.frozen? ⟨g, k * 7 + 4, none⟩ = false := World.ownsRow.frozenAt hO5 _
          have f5 : w5.frozen? ⟨g, k * 7 + 5, none⟩ = false := World.ownsRow.frozenAt hO5 _
          have f6 : w5.frozen? ⟨g, k * 7 + 6, none⟩ = false := World.ownsRow.frozenAt hO5 _
          obtain ⟨w6, hw6⟩ : ∃ x, x = (((((((w5.setCell ⟨g, k * 7, none⟩ (.int .i64 y.kind)).setCell ⟨g, k * 7 + 1, none⟩ (.int .i64 y.op)).setCell ⟨g, k * 7 + 2, none⟩ (.int .i64 y.a)).setCell ⟨g, k * 7 + 3, none⟩ (.int .i64 y.b)).setCell ⟨g, k * 7 + 4, none⟩ (.int .i64 y.n)).setCell ⟨g, k * 7 + 5, none⟩ (.string (str y.text))).setCell ⟨g, k * 7 + 6, none⟩ (.bool y.isText)) := ⟨_, rfl⟩
          rw [← hw6] at hO6
          have hbw6 : Below w.heap.size w w6 := by
            rw [hw6]
            exact below_set (below_set (below_set (below_set (below_set (below_set (below_set hbw5 hgw _) hgw _) hgw _) hgw _) hgw _) hgw _) hgw _
          have hb56 : Below g w5 w6 := by
            rw [hw6]
            exact below_set (below_set (below_set (below_set (below_set (below_set (below_set (Below.refl _ _) (Nat.le_refl _) _) (Nat.le_refl _) _) (Nat.le_refl _) _) (Nat.le_refl _) _) (Nat.le_refl _) _) (Nat.le_refl _) _) (Nat.le_refl _) _
          have hTT6 : TurnT w6 := hTT5.below hb56 (by omega)
          have hT6 : Utf8T w6 := hT5.far hb56 (by omega) (by omega)
          replace hO6 := hide hO6
          replace hT6 := hide hT6
          replace hTT6 := hide hTT6
          replace hbw6 := hide hbw6
          replace hw6 := hide hw6
          clear hO5 hT5 hTT5 hbw5 htl hb56
          cases is with
          | true =>
            have he2 : Hid (errsL globG dosP (l.take (k + 1)) = 0) := by rw [Hid, het.out, he1.out]; rfl
            go_wp2_with fail
            rw [← hw6.out]
            go_roundw
            case rel => exact ⟨k + 1, by omega, by go_num, he2.out, hO6.out, hT6.out, hTT6.out, hbw6.out⟩
            case measure => simp [intOf]; omega
          | false =>
            have herl : Hid (errsL globG dosP l = 4) := by
              have e1 : errsL globG dosP [x] = 4 := by rw [he1.out]; rfl
              rw [Hid, hew.out (by rw [het.out, e1]; decide), het.out, e1]
            have he : Hid (normErr globG dosP q = 4) := by rw [Hid, hE.out, herl.out]
            have hr : Hid (normRes globG dosP q = []) := by rw [Hid, normRes, he.out]; rfl
            go_wp2_with fail
            rw [← hw6.out]
            go_ret2
            exact PRet.mk (OA.nil _ _) hr.out he.out hbw6.out
      · obtain rfl : k = n := by omega
        have htk : l.take k = l := List.take_of_length_le (by have := hll.out; omega)
        rw [htk] at herr
        rw [toldTo_all l k (by have := hll.out; omega), hml.out] at hO
        have he : Hid (normErr globG dosP q = 0) := by rw [Hid, hE.out, herr]
        have hr : Hid (normRes globG dosP q = (turnQ (mapQ told1 q) false).parts 0) := by
          rw [Hid, normRes, if_pos he.out, normL]
          show (layQ told1 q false).parts 0 = _
          rw [layQ_map]
        have hRA : RA (wr.alloc (.cells #[.slice none 0 0] 23)) wr.heap.size (some ⟨g, 0, none⟩) k ((mapQ told1 q).parts 0) := Reads.alloc (Reads.of_own hO) (Nat.le_refl _) _
        have hJ : ((k : Int) - 1) = (([] : List Ask).length : Int) + ((mapQ told1 q).size : Int) - 1 := by
          rw [mapQ_size]; have := hlen.out; simp; omega
        have hL := hide (lay_any wr.heap.size k cap ((mapQ told1 q).parts 0) (by omega) (by rw [Q.parts_len, mapQ_size]; exact hlen.out.symm) (by omega) (mapQ told1 q) (wr.alloc (.cells #[.slice none 0 0] 23)) (some ⟨g, 0, none⟩) [] [] _ false (.slice none 0 0) 0 []
          (okL_map q ho) hRA (by simp) hJ (hTT.below ((Below.refl wr.heap.size wr).alloc (Nat.le_refl _) _) hTT.2) (Blk.new wr 23 _) (OA.nil _ _) (by rw [mapQ_size]; have := hlen.out; omega))
        have hb0 := hide (hbw.alloc hsz (.cells #[.slice none 0 0] 23))
        have k1 : (1 : Int) ≤ (k : Int) := by have := hlen.out; omega
        clear htk herr hO hT hTT hbw hRA hJ h1
        go_wp2_with fail
        refine hL.out.mono ?_
        rintro e w7 ⟨rfl, v7, hB7, hO7, hE7⟩
        rw [Nat.zero_add, List.nil_append] at hO7
        have hbw7 := hb0.out.trans (hE7.1.mono hsz)
        have c7 : w7.cell? ⟨wr.heap.size, 0, none⟩ = some v7 := hB7.cell 0
        have hO8 := hide (hO7.more (show w.heap.size ≤ wr.heap.size + 1 by omega))
        obtain ⟨A8, n8, rfl, -, -, -, -⟩ := hO7.form
        clear hB7 hO7 hE7 hL hb0
        go_wp2_with fail
        go_ret2
        exact PRet.mk hO8.out hr.out he.out hbw7
end Go.Proofs.YtnnjcedlomfhoaaGreatDoor
