/-
  Contract of parse.op: what a mark compares by.
-/
import Derived.Test.YtnbfblikpoblgaaDoorParB
import Derived.Test.YtnbfblikpoblgaaDoorShelf
import Derived.Lib.SmallJoins
namespace Go.Proofs.YtnbfblikpoblgaaDoor
open Go.RowKit
set_option linter.unusedVariables false

/-- The library's table of blanks is as its text lays it. -/
def Asp (w : World) : Prop := Lib.TabIs Tryd.prog w "strings.asciiSpace" .u8 Lib.asciiSpaceTab
theorem asp_below {w w' : World} {b : Nat} (h : Asp w) (hb : Below b w w') (hg : 0 < b) : Asp w' := by
  have e : Tryd.prog.globalNamed "strings.asciiSpace" = some 0 := by kernel_rfl
  unfold Asp Lib.TabIs World.var? at h ⊢
  rw [e, Option.bind_some] at h ⊢
  rw [hb.block _ hg]
  exact h
def marksT : List UInt8 := [61, 32, 33, 61, 32, 60, 32, 60, 61, 32, 62, 32, 62, 61, 32, 126]
theorem fields_marks : Lib.fields marksT = cmpL := by decide +kernel
theorem marks_ascii : ∀ (j : Nat) (b : UInt8), marksT[j]? = some b → b.toNat < 128 := by
  intro j b h
  have hm : b ∈ marksT := List.mem_of_getElem? h
  have hall : ∀ c ∈ marksT, c.toNat < 128 := by decide
  exact hall b hm
theorem findK_at (t : List UInt8) : ∀ (l : List (List UInt8)) (k : Nat) (hk : k < l.length) (j : Int), l[k] = t → (∀ i (hi : i < k), l[i] ≠ t) → findK l t j = j + k
  | m :: r, 0, _, j, h, _ => by
    simp at h
    rw [findK, if_pos h.symm]; simp
  | m :: r, k + 1, hk, j, h, hn => by
    have h0 := hn 0 (by omega)
    simp at h0
    rw [findK, if_neg (Ne.symm h0), findK_at t r k (by simpa using hk) (j + 1) (by simpa using h) (fun i hi => by have := hn (i + 1) (by omega); simpa using this)]
    omega
theorem findK_none (t : List UInt8) : ∀ (l : List (List UInt8)) (j : Int), (∀ i (hi : i < l.length), l[i] ≠ t) → findK l t j = 0
  | [], _, _ => rfl
  | m :: r, j, hn => by
    have h0 := hn 0 (by simp)
    simp at h0
    rw [findK, if_neg (Ne.symm h0), findK_none t r (j + 1) (fun i hi => by have := hn (i + 1) (by simpa using hi); simpa using this)]

set_option maxRecDepth 100000 in
set_option maxHeartbeats 1000000 in
theorem op_any (w : World) (t : Tok) (hA : Asp w) : Calls Tryd.prog 93 #[tokV t] w fun e w' => e = .returned (.int .i64 (opOf t)) ∧ Below w.heap.size w w' := by
  have hA2 : Asp (w.alloc (.cells #[.int .i64 t.kind, .string (str t.text), .int .i64 t.n, .int .i64 (t.pos : Int)] 45)) := Lib.tabIs_alloc hA _
  unfold Asp at hA2
  replace hA2 := hide hA2
  clear hA
  unfold tokV
  go_enter Tryd.func93, Tryd.ntmps93
  go_wp2_with fail
  refine (Tryd.strings_Fields_laid ⟨#[61, 32, 33, 61, 32, 60, 32, 60, 61, 32, 62, 32, 62, 61, 32, 126]⟩ _ (by decide) marks_ascii hA2.out).mono ?_
  rintro e w1 ⟨rfl, hw1⟩
  rw [show Lib.fields (ByteArray.mk #[61, 32, 33, 61, 32, 60, 32, 60, 61, 32, 62, 32, 62, 61, 32, 126]).data.toList = cmpL from fields_marks] at hw1 ⊢
  have hbl : Below w.heap.size w w1 := by
    rw [hw1]
    exact ((Below.refl _ _).alloc (Nat.le_refl _) _).alloc (by simp) _
  have hc : ∀ k (hk : k < cmpL.length), w1.cell? ⟨w.heap.size + 1, k, none⟩ = some (.string (str cmpL[k])) := by
    intro k hk
    rw [hw1]
    have := cell_of_row _ _ k _ 9 (0, 0) (heap_alloc_new (w.alloc (.cells #[.int .i64 t.kind, .string (str t.text), .int .i64 t.n, .int .i64 (t.pos : Int)] 45)) (.cells (cmpL.map fun l => Value.string ⟨l.toArray⟩).toArray 9))
    rw [show (w.alloc (.cells #[.int .i64 t.kind, .string (str t.text), .int .i64 t.n, .int .i64 (t.pos : Int)] 45)).heap.size = w.heap.size + 1 from by simp] at this
    rw [this]
    simp [hk, str]
  have ht0 : w1.cell? ⟨w.heap.size, 0, none⟩ = some (.int .i64 t.kind) := by rw [hw1]; simp
  have ht1 : w1.cell? ⟨w.heap.size, 1, none⟩ = some (.string (str t.text)) := by rw [hw1]; simp
  rw [show (w.alloc (.cells #[.int .i64 t.kind, .string (str t.text), .int .i64 t.n, .int .i64 (t.pos : Int)] 45)).heap.size = w.heap.size + 1 from by simp]
  clear hw1 hA2
  replace hc := hide hc
  rw [show cmpL.length = 7 from rfl]
  go_wp2_with fail
  go_loopw [7] (fun i wr => ∃ k : Nat, k ≤ 7 ∧ i = .int .i64 k ∧ wr = w1 ∧ Hid (t.kind = 4 → ∀ i (hi : i < k) (h7 : i < cmpL.length), cmpL[i] ≠ t.text)) (fun i _ => 7 - (intOf i).toNat)
  case atStart => exact ⟨0, by omega, rfl, rfl, fun _ i hi => absurd hi (by omega)⟩
  case round =>
    obtain ⟨k, hk, rfl, rfl, HN⟩ := hrel
    by_cases h1 : k < 7
    · have hck := hc.out k h1
      by_cases e1 : t.kind = 4
      · have n1 : (t.kind == 4) = true := by simp [e1]
        by_cases e2 : t.text = cmpL[k]
        · have n2 : ((str t.text).toList == (str cmpL[k]).toList) = true := by rw [str_bytes, str_bytes, e2]; simp
          have hr : Hid (opOf t = 1 + (k : Int)) := by
            show _ = _
            rw [opOf, if_pos e1, findK_at t.text cmpL k h1 1 e2.symm (fun i hi => HN.out e1 i hi (by have : cmpL.length = 7 := rfl; omega))]
          clear e1 e2 HN
          generalize str cmpL[k] = s at *
          go_wp2_with fail
          go_ret
          exact ⟨ret_int hr.out.symm, hbl⟩
        · have n2 : ((str t.text).toList == (str cmpL[k]).toList) = false := by rw [str_bytes, str_bytes, beq_eq_false_iff_ne]; exact e2
          have HN2 : Hid (t.kind = 4 → ∀ i (hi : i < k + 1) (h7 : i < cmpL.length), cmpL[i] ≠ t.text) := by
            intro e i hi h7
            by_cases hik : i = k
            · subst hik; exact Ne.symm e2
            · exact HN.out e i (by omega) h7
          clear e1 e2 HN
          generalize str cmpL[k] = s at *
          go_wp2_with fail
          go_roundw
          case rel => exact ⟨k + 1, by omega, by go_num, trivial, HN2⟩
          case measure => simp [intOf]; omega
      · have n1 : (t.kind == 4) = false := by simp [e1]
        have HN2 : Hid (t.kind = 4 → ∀ i (hi : i < k + 1) (h7 : i < cmpL.length), cmpL[i] ≠ t.text) := fun e => absurd e e1
        clear e1 HN
        generalize str cmpL[k] = s at *
        go_wp2_with fail
        go_roundw
        case rel => exact ⟨k + 1, by omega, by go_num, trivial, HN2⟩
        case measure => simp [intOf]; omega
    · have hr : Hid (opOf t = 0) := by
        show _ = _
        by_cases e1 : t.kind = 4
        · rw [opOf, if_pos e1, findK_none t.text cmpL 1 (fun i hi => HN.out e1 i (by have : cmpL.length = 7 := rfl; omega) hi)]
        · rw [opOf, if_neg e1]
      clear HN
      go_wp2_with fail
      go_ret
      exact ⟨ret_int hr.out.symm, hbl⟩
end Go.Proofs.YtnbfblikpoblgaaDoor
