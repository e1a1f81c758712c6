/-
  The walk of the law KeyOrder.
-/
import Derived.Test.YtnbfblikpoblgaaDoorText
import Derived.Test.YtnbfblikpoblgaaDoorLess
import Derived.Test.YtnbfblikpoblgaaDoorKeyE
import Derived.Test.YtnbfblikpoblgaaDoorRegion
import Derived.Test.YtnbfblikpoblgaaDoorOrdB
import GoSem.ClaimJoined
namespace Go.Proofs.YtnbfblikpoblgaaDoor
open Go.RowKit
set_option linter.unusedVariables false

def rowS (w : World) (s : ByteArray) (v : Value) : Prop := ∃ g, v = .slice (some ⟨g, 0, none⟩) 1 1 ∧ g < w.heap.size ∧ w.cell? ⟨g, 0, none⟩ = some (.string s)
def rowI (w : World) (n : Int) (v : Value) : Prop := ∃ g, v = .slice (some ⟨g, 0, none⟩) 1 1 ∧ g < w.heap.size ∧ w.cell? ⟨g, 0, none⟩ = some (.int .i64 n)
def rowB (w : World) (l : List UInt8) (v : Value) : Prop := ∃ A c, v = .slice A l.length c ∧ RB w w.heap.size A l.length l ∧ l.length ≤ c ∧ c ≤ maxLen
section
variable {w w' : World} {s : ByteArray} {n : Int} {l : List UInt8} {v : Value}
theorem rowS.below (h : rowS w s v) (hb : Below w.heap.size w w') : rowS w' s v := by
  obtain ⟨g, h1, h2, h3⟩ := h
  exact ⟨g, h1, Nat.lt_of_lt_of_le h2 hb.size, (hb.cell (p := ⟨g, 0, none⟩) h2).trans h3⟩
theorem rowI.below (h : rowI w n v) (hb : Below w.heap.size w w') : rowI w' n v := by
  obtain ⟨g, h1, h2, h3⟩ := h
  exact ⟨g, h1, Nat.lt_of_lt_of_le h2 hb.size, (hb.cell (p := ⟨g, 0, none⟩) h2).trans h3⟩
theorem rowB.below (h : rowB w l v) (hb : Below w.heap.size w w') : rowB w' l v := by
  obtain ⟨A, c, h1, h2, h3, h4⟩ := h
  exact ⟨A, c, h1, (h2.below hb).more hb.size, h3, h4⟩
end
/-- What the slot of an operation of the region holds, once it came up. -/
def spec (a b : ByteArray) (n0 n1 : Int) (g5 : Nat) (w : World) (v : Value) : Nat → Prop
  | 0 => v = .string a
  | 1 => rowS w a v
  | 2 => rowB w (textB a.data.toList) v
  | 3 => v = .pointer (some ⟨g5, 0, none⟩)
  | 4 => v = .int .i64 n0
  | 5 => rowI w n0 v
  | 6 => rowB w (textB a.data.toList ++ numB (heldI n0)) v
  | 7 => v = .string b
  | 8 => rowS w b v
  | 9 => rowB w (textB b.data.toList) v
  | 10 => v = .pointer (some ⟨g5, 1, none⟩)
  | 11 => v = .int .i64 n1
  | 12 => rowI w n1 v
  | 13 => rowB w (textB b.data.toList ++ numB (heldI n1)) v
  | 14 => rowB w (textB a.data.toList ++ numB (heldI n0)) v
  | 15 => rowB w (textB b.data.toList ++ numB (heldI n1)) v
  | _ => True
theorem spec.below {a b : ByteArray} {n0 n1 : Int} {g5 : Nat} {w w' : World} {v : Value} (k : Nat) (h : spec a b n0 n1 g5 w v k) (hb : Below w.heap.size w w') : spec a b n0 n1 g5 w' v k := by
  match k, h with
  | 0, h => exact h
  | 1, h => exact rowS.below h hb
  | 2, h => exact rowB.below h hb
  | 3, h => exact h
  | 4, h => exact h
  | 5, h => exact rowI.below h hb
  | 6, h => exact rowB.below h hb
  | 7, h => exact h
  | 8, h => exact rowS.below h hb
  | 9, h => exact rowB.below h hb
  | 10, h => exact h
  | 11, h => exact h
  | 12, h => exact rowI.below h hb
  | 13, h => exact rowB.below h hb
  | 14, h => exact rowB.below h hb
  | 15, h => exact rowB.below h hb
  | k + 16, _ => trivial
def slotOf (k : Nat) : Nat := if k = 14 then 7 else if k = 15 then 8 else 20 + k

def KI (a b : ByteArray) (n0 n1 : Int) (w0 : World) (g5 : Nat) (t12 t13 t14 t15 t16 t17 t18 t19 : Value) (listed : Array Bool) (x : Act) (w : World) : Prop :=
  ∃ U : Nat → Value, x = { tmps := #[.string a, .string b, .agg #[.int .i64 n0, .int .i64 n1], undef, undef, .pointer (some ⟨g5, 0, none⟩), .bool false, U 7, U 8, undef, .bool true, .bool false, t12, t13, t14, t15, t16, t17, t18, t19, U 20, U 21, U 22, U 23, U 24, U 25, U 26, U 27, U 28, U 29, U 30, U 31, U 32, U 33, undef, undef, undef, undef, undef, undef, undef, undef, undef, undef, undef, undef, undef, undef, undef, undef, undef, undef, undef, undef, undef, undef], defers := [] } ∧
    Below w0.heap.size w0 w ∧ ∀ k, k < 16 → listed.getD k false = true → spec a b n0 n1 g5 w (U (slotOf k)) k

theorem slotOf_inj {j k : Nat} (hj : j < 16) (hk : k < 16) (h : slotOf j = slotOf k) : j = k := by
  unfold slotOf at h
  split at h <;> split at h <;> (try split at h) <;> (try split at h) <;> omega
/-- What the specification of the region's slots says, one operation later. -/
theorem spec_next {a b : ByteArray} {n0 n1 : Int} {g5 : Nat} {listed : Array Bool} {U : Nat → Value} {w1 w2 : World} {k : Nat} {v : Value} (hk : k < 16) (hb : Below w1.heap.size w1 w2)
    (hsp : ∀ j, j < 16 → listed.getD j false = true → spec a b n0 n1 g5 w1 (U (slotOf j)) j) (hs : spec a b n0 n1 g5 w2 v k) :
    ∀ j, j < 16 → (listed.setIfInBounds k true).getD j false = true → spec a b n0 n1 g5 w2 ((fun n => if n = slotOf k then v else U n) (slotOf j)) j := by
  intro j hj hl
  by_cases e : j = k
  · subst e
    simpa using hs
  · have hne : slotOf j ≠ slotOf k := fun h => e (slotOf_inj hj hk h)
    have hl2 : listed.getD j false = true := by
      rw [Array.getD_eq_getD_getElem?] at hl ⊢
      rw [Array.getElem?_setIfInBounds_ne (Ne.symm e)] at hl
      exact hl
    simp only [if_neg hne]
    exact (hsp j hj hl2).below j hb

theorem KI_next {a b : ByteArray} {n0 n1 : Int} {w0 w1 w2 : World} {g5 : Nat} {t12 t13 t14 t15 t16 t17 t18 t19 : Value} {listed : Array Bool} {x : Act} {U : Nat → Value} {Q : Exit → Act → World → Prop} (k : Nat) (v : Value) (hk : k < 16)
    (hbl : Below w0.heap.size w0 w1) (hb : Below w1.heap.size w1 w2) (hsp : ∀ j, j < 16 → listed.getD j false = true → spec a b n0 n1 g5 w1 (U (slotOf j)) j) (hs : spec a b n0 n1 g5 w2 v k)
    (hx : x = (fun V : Nat → Value => ({ tmps := #[.string a, .string b, .agg #[.int .i64 n0, .int .i64 n1], undef, undef, .pointer (some ⟨g5, 0, none⟩), .bool false, V 7, V 8, undef, .bool true, .bool false, t12, t13, t14, t15, t16, t17, t18, t19, V 20, V 21, V 22, V 23, V 24, V 25, V 26, V 27, V 28, V 29, V 30, V 31, V 32, V 33, undef, undef, undef, undef, undef, undef, undef, undef, undef, undef, undef, undef, undef, undef, undef, undef, undef, undef, undef, undef, undef, undef], defers := [] } : Act)) (fun n => if n = slotOf k then v else U n)) :
    withK (fun a' w' => KI a b n0 n1 w0 g5 t12 t13 t14 t15 t16 t17 t18 t19 (listed.setIfInBounds k true) a' w') Q .normal x w2 :=
  ⟨fun n => if n = slotOf k then v else U n, hx, hbl.trans (hb.mono hbl.size), spec_next hk hb hsp hs⟩

set_option maxHeartbeats 1000000 in
theorem keyOrder_true (m : Int) (w : World) (hg : 2 < w.heap.size) (hm : w.cell? ⟨2, 0, none⟩ = some (.int .i64 m)) (a : ByteArray) (ha : a.size ≤ reachBytes) (b : ByteArray) (hb : b.size ≤ reachBytes) (n0 n1 : Int) :
    Calls Tryd.prog 3 #[.string a, .string b, .agg #[.int .i64 n0, .int .i64 n1]] w fun e w' => e = .returned (.bool true) ∧ Below w.heap.size w w' := by
  unfold reachBytes at ha hb
  by_cases h1 : a.size ≤ 100
  · by_cases h2 : b.size ≤ 100
    · go_enter Tryd.func3, Tryd.ntmps3
      go_wp2_with fail
      refine (wakes20_any _).mono ?_
      rintro e w0 ⟨rfl, hb0⟩
      have hA0 : w0.cell? ⟨w.heap.size, 0, none⟩ = some (.int .i64 n0) := (hb0.cell (p := ⟨w.heap.size, 0, none⟩) (by simp)).trans (by simp)
      have hA1 : w0.cell? ⟨w.heap.size, 1, none⟩ = some (.int .i64 n1) := (hb0.cell (p := ⟨w.heap.size, 1, none⟩) (by simp)).trans (by simp)
      have hlt0 : w.heap.size < w0.heap.size := by have := hb0.size; simp at this; omega
      replace hb0 : Below w.heap.size w w0 := ((Below.refl _ _).alloc (Nat.le_refl _) _).trans (hb0.mono (by simp))
      have hm0 : w0.cell? ⟨2, 0, none⟩ = some (.int .i64 m) := (hb0.cell (p := ⟨2, 0, none⟩) hg).trans hm
      have hsz0 := hb0.size
      go_wp2_with fail
      refine wp_region_any (by kernel_rfl) ?_
      refine wpAny_inv (KI a b n0 n1 w0 w.heap.size _ _ _ _ _ _ _ _) (by kernel_rfl) ?_ ?_ _ _ _ _ (by simp) (by decide) ⟨fun _ => undef, rfl, ?_, ?_⟩
      · rintro listed i x w1 hls ⟨U, rfl, hbl, hsp⟩ hi
        obtain ⟨hi1, hi2⟩ := List.mem_filter.1 hi
        have hi16 : i < 16 := List.mem_range.1 hi1
        clear hi hi1
        match i, hi16, hi2 with
        | 0, _, hd =>
          refine wpOp_list rfl ?_
          go_wp2_with fail
          exact KI_next 0 (.string a) (by decide) hbl (Below.refl _ _) hsp rfl rfl
        | 7, _, hd =>
          refine wpOp_list rfl ?_
          go_wp2_with fail
          exact KI_next 7 (.string b) (by decide) hbl (Below.refl _ _) hsp rfl rfl
        | 1, _, hd =>
          have hd0 : listed.getD 0 false = true := by rw [Array.getD_eq_getD_getElem?]; simp [Region.binds] at hd; exact hd.2
          have hv0 : U 20 = .string a := hsp 0 (by decide) hd0
          have hsz1 := hbl.size
          refine wpOp_list rfl ?_
          go_wp2_with fail
          refine KI_next 1 _ (by decide) hbl ((Below.refl _ _).alloc (Nat.le_refl _) (.cells #[.string a] 9)) hsp ⟨w1.heap.size, rfl, by simp, by simp⟩ (by simp [slotOf, hv0])
        | 3, _, hd =>
          refine wpOp_list rfl ?_
          go_wp2_with fail
          exact KI_next 3 _ (by decide) hbl (Below.refl _ _) hsp rfl rfl
        | 8, _, hd =>
          have hd0 : listed.getD 7 false = true := by rw [Array.getD_eq_getD_getElem?]; simp [Region.binds] at hd; exact hd.2
          have hv0 : U 27 = .string b := hsp 7 (by decide) hd0
          have hsz1 := hbl.size
          refine wpOp_list rfl ?_
          go_wp2_with fail
          refine KI_next 8 _ (by decide) hbl ((Below.refl _ _).alloc (Nat.le_refl _) (.cells #[.string b] 9)) hsp ⟨w1.heap.size, rfl, by simp, by simp⟩ (by simp [slotOf, hv0])
        | 10, _, hd =>
          refine wpOp_list rfl ?_
          go_wp2_with fail
          exact KI_next 10 _ (by decide) hbl (Below.refl _ _) hsp rfl rfl
        | 4, _, hd =>
          have hd0 : listed.getD 3 false = true := by rw [Array.getD_eq_getD_getElem?]; simp [Region.binds] at hd; exact hd.2
          have hv0 : U 23 = .pointer (some ⟨w.heap.size, 0, none⟩) := hsp 3 (by decide) hd0
          have hc0 := (hbl.cell (p := ⟨w.heap.size, 0, none⟩) hlt0).trans hA0
          refine wpOp_list rfl ?_
          go_wp2_with fail
          exact KI_next 4 (.int .i64 n0) (by decide) hbl (Below.refl _ _) hsp rfl (by simp [slotOf, hv0])
        | 11, _, hd =>
          have hd0 : listed.getD 10 false = true := by rw [Array.getD_eq_getD_getElem?]; simp [Region.binds] at hd; exact hd.2
          have hv0 : U 30 = .pointer (some ⟨w.heap.size, 1, none⟩) := hsp 10 (by decide) hd0
          have hc0 := (hbl.cell (p := ⟨w.heap.size, 1, none⟩) hlt0).trans hA1
          refine wpOp_list rfl ?_
          go_wp2_with fail
          exact KI_next 11 (.int .i64 n1) (by decide) hbl (Below.refl _ _) hsp rfl (by simp [slotOf, hv0])
        | 5, _, hd =>
          have hd0 : listed.getD 4 false = true := by rw [Array.getD_eq_getD_getElem?]; simp [Region.binds] at hd; exact hd.2
          have hv0 : U 24 = .int .i64 n0 := hsp 4 (by decide) hd0
          have hsz1 := hbl.size
          refine wpOp_list rfl ?_
          go_wp2_with fail
          refine KI_next 5 _ (by decide) hbl ((Below.refl _ _).alloc (Nat.le_refl _) (.cells #[.int .i64 n0] 3)) hsp ⟨w1.heap.size, rfl, by simp, by simp⟩ (by simp [slotOf, hv0])
        | 12, _, hd =>
          have hd0 : listed.getD 11 false = true := by rw [Array.getD_eq_getD_getElem?]; simp [Region.binds] at hd; exact hd.2
          have hv0 : U 31 = .int .i64 n1 := hsp 11 (by decide) hd0
          have hsz1 := hbl.size
          refine wpOp_list rfl ?_
          go_wp2_with fail
          refine KI_next 12 _ (by decide) hbl ((Below.refl _ _).alloc (Nat.le_refl _) (.cells #[.int .i64 n1] 3)) hsp ⟨w1.heap.size, rfl, by simp, by simp⟩ (by simp [slotOf, hv0])
        | 2, _, hd =>
          have hd0 : listed.getD 1 false = true := by rw [Array.getD_eq_getD_getElem?]; simp [Region.binds] at hd; exact hd.2
          obtain ⟨g, hv0, hgl, hgc⟩ := hsp 1 (by decide) hd0
          replace hv0 : U 21 = .slice (some ⟨g, 0, none⟩) 1 1 := hv0
          have hsz1 := hbl.size
          have hm1 : w1.cell? ⟨2, 0, none⟩ = some (.int .i64 m) := (hbl.cell (p := ⟨2, 0, none⟩) (Nat.lt_of_lt_of_le hg hsz0)).trans hm0
          refine wpOp_list rfl ?_
          go_wp2_with fail
          have hRS : RS w1 w1.heap.size (some ⟨g, 0, none⟩) 1 [a] := ⟨by simp, fun _ => ⟨_, rfl, hgl, fun j u hj => by
            match j, hj with
            | 0, hj => simp at hj; rw [← hj]; exact hgc⟩⟩
          refine (text_any2 none (some ⟨g, 0, none⟩) 0 1 0 1 [] [a] m w1 Reads.none_ hRS (by decide) (by decide) (by intro t ht; simp at ht; rw [ht]; omega) (Nat.lt_of_lt_of_le hg (Nat.le_trans hsz0 hsz1)) hm1).mono ?_
          rintro e w2 ⟨v, rfl, ho, hb2⟩
          have htx : ([] : List UInt8) ++ textsB [a] = textB a.data.toList := by simp [textsB]
          rw [htx] at ho
          obtain ⟨vA, vc, rfl, hr, _, hv1, hv2⟩ := ho.form
          go_wp2_with fail
          exact KI_next 2 _ (by decide) hbl hb2 hsp ⟨vA, vc, rfl, hr, hv1, hv2⟩ (by simp [slotOf, hv0])
        | 9, _, hd =>
          have hd0 : listed.getD 8 false = true := by rw [Array.getD_eq_getD_getElem?]; simp [Region.binds] at hd; exact hd.2.1
          obtain ⟨g, hv0, hgl, hgc⟩ := hsp 8 (by decide) hd0
          replace hv0 : U 28 = .slice (some ⟨g, 0, none⟩) 1 1 := hv0
          have hsz1 := hbl.size
          have hm1 : w1.cell? ⟨2, 0, none⟩ = some (.int .i64 m) := (hbl.cell (p := ⟨2, 0, none⟩) (Nat.lt_of_lt_of_le hg hsz0)).trans hm0
          refine wpOp_list rfl ?_
          go_wp2_with fail
          have hRS : RS w1 w1.heap.size (some ⟨g, 0, none⟩) 1 [b] := ⟨by simp, fun _ => ⟨_, rfl, hgl, fun j u hj => by
            match j, hj with
            | 0, hj => simp at hj; rw [← hj]; exact hgc⟩⟩
          refine (text_any2 none (some ⟨g, 0, none⟩) 0 1 0 1 [] [b] m w1 Reads.none_ hRS (by decide) (by decide) (by intro t ht; simp at ht; rw [ht]; omega) (Nat.lt_of_lt_of_le hg (Nat.le_trans hsz0 hsz1)) hm1).mono ?_
          rintro e w2 ⟨v, rfl, ho, hb2⟩
          have htx : ([] : List UInt8) ++ textsB [b] = textB b.data.toList := by simp [textsB]
          rw [htx] at ho
          obtain ⟨vA, vc, rfl, hr, _, hv1, hv2⟩ := ho.form
          go_wp2_with fail
          exact KI_next 9 _ (by decide) hbl hb2 hsp ⟨vA, vc, rfl, hr, hv1, hv2⟩ (by simp [slotOf, hv0])
        | 6, _, hd =>
          have hd0 : listed.getD 2 false = true ∧ listed.getD 5 false = true := by rw [Array.getD_eq_getD_getElem?, Array.getD_eq_getD_getElem?]; simp [Region.binds] at hd; exact ⟨hd.2.1, hd.2.2.1⟩
          obtain ⟨pA, pc, hv0, hp, hpc1, hpc2⟩ := hsp 2 (by decide) hd0.1
          obtain ⟨g, hv1, hgl, hgc⟩ := hsp 5 (by decide) hd0.2
          replace hv0 : U 22 = .slice pA (textB a.data.toList).length pc := hv0
          replace hv1 : U 25 = .slice (some ⟨g, 0, none⟩) 1 1 := hv1
          have hla := text_len a.data.toList
          have hda := data_len a
          refine wpOp_list rfl ?_
          go_wp2_with fail
          have hRI : RI w1 w1.heap.size (some ⟨g, 0, none⟩) 1 [n0] := ⟨by simp [iv], fun _ => ⟨_, rfl, hgl, fun j u hj => by
            match j, hj with
            | 0, hj => simp [iv] at hj; rw [← hj]; exact hgc⟩⟩
          refine (num_any pA (some ⟨g, 0, none⟩) _ 1 pc 1 (textB a.data.toList) [n0] w1 hp hRI (by omega) (by decide)).mono ?_
          rintro e w2 ⟨v, rfl, ho, hb2⟩
          have htx : numsB [n0] = numB (heldI n0) := by simp [numsB]
          rw [htx] at ho
          obtain ⟨vA, vc, rfl, hr, _, hw1, hw2⟩ := ho.form
          go_wp2_with fail
          exact KI_next 6 _ (by decide) hbl hb2 hsp ⟨vA, vc, rfl, hr, hw1, hw2⟩ (by simp [slotOf, hv0, hv1])
        | 13, _, hd =>
          have hd0 : listed.getD 9 false = true ∧ listed.getD 12 false = true := by rw [Array.getD_eq_getD_getElem?, Array.getD_eq_getD_getElem?]; simp [Region.binds] at hd; exact ⟨hd.2.1, hd.2.2.1⟩
          obtain ⟨pA, pc, hv0, hp, hpc1, hpc2⟩ := hsp 9 (by decide) hd0.1
          obtain ⟨g, hv1, hgl, hgc⟩ := hsp 12 (by decide) hd0.2
          replace hv0 : U 29 = .slice pA (textB b.data.toList).length pc := hv0
          replace hv1 : U 32 = .slice (some ⟨g, 0, none⟩) 1 1 := hv1
          have hla := text_len b.data.toList
          have hda := data_len b
          refine wpOp_list rfl ?_
          go_wp2_with fail
          have hRI : RI w1 w1.heap.size (some ⟨g, 0, none⟩) 1 [n1] := ⟨by simp [iv], fun _ => ⟨_, rfl, hgl, fun j u hj => by
            match j, hj with
            | 0, hj => simp [iv] at hj; rw [← hj]; exact hgc⟩⟩
          refine (num_any pA (some ⟨g, 0, none⟩) _ 1 pc 1 (textB b.data.toList) [n1] w1 hp hRI (by omega) (by decide)).mono ?_
          rintro e w2 ⟨v, rfl, ho, hb2⟩
          have htx : numsB [n1] = numB (heldI n1) := by simp [numsB]
          rw [htx] at ho
          obtain ⟨vA, vc, rfl, hr, _, hw1, hw2⟩ := ho.form
          go_wp2_with fail
          exact KI_next 13 _ (by decide) hbl hb2 hsp ⟨vA, vc, rfl, hr, hw1, hw2⟩ (by simp [slotOf, hv0, hv1])
        | 14, _, hd =>
          have hd0 : listed.getD 6 false = true := by rw [Array.getD_eq_getD_getElem?]; simp [Region.binds] at hd; exact hd.2.1
          have hr := hsp 6 (by decide) hd0
          obtain ⟨pA, pc, hv0, hp, hpc1, hpc2⟩ := hr
          replace hv0 : U 26 = .slice pA (textB a.data.toList ++ numB (heldI n0)).length pc := hv0
          refine wpOp_list rfl ?_
          go_wp2_with fail
          exact KI_next 14 _ (by decide) hbl (Below.refl _ _) hsp ⟨pA, pc, rfl, hp, hpc1, hpc2⟩ (by simp [slotOf, hv0])
        | 15, _, hd =>
          have hd0 : listed.getD 13 false = true := by rw [Array.getD_eq_getD_getElem?]; simp [Region.binds] at hd; exact hd.2.1
          have hr := hsp 13 (by decide) hd0
          obtain ⟨pA, pc, hv0, hp, hpc1, hpc2⟩ := hr
          replace hv0 : U 33 = .slice pA (textB b.data.toList ++ numB (heldI n1)).length pc := hv0
          refine wpOp_list rfl ?_
          go_wp2_with fail
          exact KI_next 15 _ (by decide) hbl (Below.refl _ _) hsp ⟨pA, pc, rfl, hp, hpc1, hpc2⟩ (by simp [slotOf, hv0])
        | k + 16, hk, _ => omega
      · rintro listed x w1 hls ⟨U, rfl, hbl, hsp⟩ hall
        have hbit : ∀ k, k < 16 → listed.getD k false = true := fun k hk => by
          have h := hall k hk
          have hk2 : k < listed.size := by rw [hls]; exact hk
          rw [Array.getD_eq_getD_getElem?, Array.getElem?_eq_getElem hk2] at h ⊢
          exact h
        obtain ⟨xA, xc, hx0, hxr, hxc1, hxc2⟩ := hsp 14 (by decide) (hbit 14 (by decide))
        obtain ⟨yA, yc, hy0, hyr, hyc1, hyc2⟩ := hsp 15 (by decide) (hbit 15 (by decide))
        replace hx0 : U 7 = .slice xA (textB a.data.toList ++ numB (heldI n0)).length xc := hx0
        replace hy0 : U 8 = .slice yA (textB b.data.toList ++ numB (heldI n1)).length yc := hy0
        rw [hx0, hy0]
        clear hsp hbit hall hls
        have hlx := hide hxr.len
        have hA0' := (hbl.cell (p := ⟨w.heap.size, 0, none⟩) hlt0).trans hA0
        have hA1' := (hbl.cell (p := ⟨w.heap.size, 1, none⟩) hlt0).trans hA1
        replace hxr := hide hxr
        replace hyr := hide hyr
        have hkey := hide (lessB_key a b n0 n1)
        clear hlx
        have hlx : (textB a.data.toList ++ numB (heldI n0)).length ≤ 1000 := by
          have := text_len a.data.toList; have := data_len a; rw [List.length_append, show (numB (heldI n0)).length = 6 from rfl]; omega
        have hly : (textB b.data.toList ++ numB (heldI n1)).length ≤ 1000 := by
          have := text_len b.data.toList; have := data_len b; rw [List.length_append, show (numB (heldI n1)).length = 6 from rfl]; omega
        generalize textB a.data.toList ++ numB (heldI n0) = X at *
        generalize textB b.data.toList ++ numB (heldI n1) = Y at *
        clear hx0 hy0 hm0 hm hA0 hA1
        have hbl2 := hb0.trans (hbl.mono hsz0)
        clear hb0 hbl
        by_cases c1 : Op.bytesLess a.toList b.toList = true
        · have hk2 : Hid (lessB X Y = true) := by have := hkey.out; rw [c1, Bool.true_or] at this; exact this
          clear hkey
          go_wp2_with fail
          go_quiet (first | (go_at_call 13; exact quiet_left (held_any _ _)))
          clear c1
          go_wp2_with fail
          refine (less_any _ _ _ _ _ _ _ _ _ (hxr.out.drewN _) (hyr.out.drewN _) hlx hly).mono ?_
          rintro e w2 ⟨rfl, hq⟩
          rw [hk2.out]
          have hbl3 := (below_drewN hbl2 _).trans (hq.below _)
          go_wp2_with fail
          go_ret
          exact ⟨rfl, hbl3⟩
        · rw [Bool.not_eq_true] at c1
          by_cases c2 : (a.toList == b.toList) = true
          · have hk2 : Hid (lessB X Y = decide (heldI n0 < heldI n1)) := by have := hkey.out; rw [c1, c2, Bool.false_or, Bool.true_and] at this; exact this
            clear hkey
            go_wp2_with fail
            go_quiet (first | (go_at_call 13; exact quiet_left (held_any _ _)))
            clear c1 c2
            go_wp2_with fail
            refine (less_any _ _ _ _ _ _ _ _ _ (hxr.out.drewN _) (hyr.out.drewN _) hlx hly).mono ?_
            rintro e w2 ⟨rfl, hq⟩
            rw [hk2.out]
            have hbl3 := (below_drewN hbl2 _).trans (hq.below _)
            go_wp2_with fail
            go_ret
            exact ⟨ret_bool (by simp), hbl3⟩
          · rw [Bool.not_eq_true] at c2
            have hk2 : Hid (lessB X Y = false) := by have := hkey.out; rw [c1, c2, Bool.false_or, Bool.false_and] at this; exact this
            clear hkey
            go_wp2_with fail
            go_quiet (first | (go_at_call 13; exact quiet_left (held_any _ _)))
            clear c1 c2
            go_wp2_with fail
            refine (less_any _ _ _ _ _ _ _ _ _ (hxr.out.drewN _) (hyr.out.drewN _) hlx hly).mono ?_
            rintro e w2 ⟨rfl, hq⟩
            rw [hk2.out]
            have hbl3 := (below_drewN hbl2 _).trans (hq.below _)
            go_wp2_with fail
            go_ret
            exact ⟨rfl, hbl3⟩
      · exact (Below.refl _ w0).drew
      · intro k hk h
        exfalso
        rw [Array.getD_eq_getD_getElem?, Array.getElem?_replicate] at h
        split at h <;> cases h
    · go_enter Tryd.func3, Tryd.ntmps3
      go_wp2_with fail
      refine (wakes20_any _).mono ?_
      rintro e w0 ⟨rfl, hb0⟩
      replace hb0 : Below w.heap.size w w0 := ((Below.refl _ _).alloc (Nat.le_refl _) _).trans (hb0.mono (by simp))
      go_wp2_with fail
      go_ret
      exact ⟨rfl, hb0⟩
  · go_enter Tryd.func3, Tryd.ntmps3
    go_wp2_with fail
    refine (wakes20_any _).mono ?_
    rintro e w0 ⟨rfl, hb0⟩
    replace hb0 : Below w.heap.size w w0 := ((Below.refl _ _).alloc (Nat.le_refl _) _).trans (hb0.mono (by simp))
    go_wp2_with fail
    go_ret
    exact ⟨rfl, hb0⟩
end Go.Proofs.YtnbfblikpoblgaaDoor
