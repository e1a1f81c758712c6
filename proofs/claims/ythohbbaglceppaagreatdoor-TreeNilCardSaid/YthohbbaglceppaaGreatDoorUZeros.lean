/-
  append(b, make([]byte, n)...): zeros behind a row of the call's own.
-/
import Derived.Test.YthohbbaglceppaaGreatDoorUMine
import Derived.Lib.AppendZeros
namespace Go.Proofs.YthohbbaglceppaaGreatDoor
open Go.RowKit
set_option linter.unusedVariables false
set_option linter.unusedSimpArgs false
def zeroB (n : Nat) : List UInt8 := List.replicate n 0
theorem zeroB_len (n : Nat) : (zeroB n).length = n := by simp [zeroB]
theorem zeroCells_b (n : Nat) : Builtin.zeroCells (Value.int .u8 0).cells n = (bv (zeroB n)).toArray := by
  apply Array.ext
  · simp [Builtin.zeroCells, bv, zeroB, Value.cells]
  · intro i h1 h2
    simp [Builtin.zeroCells, bv, zeroB, Value.cells, Nat.mod_one]
theorem run_app_zero (w : World) (base : Nat) (v : Value) (n : Nat) (l : List UInt8) (hown : OB w base v n l) (m : Nat) (ty : TypeId) (hlen : n + m ≤ 1000000000) (hbase : base ≤ w.heap.size) :
    ∃ v' w', (Builtin.append_ #[37, 3] ty #[v, .int .i64 (m : Int)]).run Tryz.prog w = .ok v' w' ∧ OB w' base v' (n + m) (l ++ zeroB m) ∧ w.grownBy w' v.ownBlock ∧ (v'.ownBlock = v.ownBlock ∨ v'.ownBlock = some w.heap.size) := by
  obtain ⟨i, hi, hz, hz1, hz2⟩ := info_parts byte_info
  have ht := Tryz.underlying37
  have htn := Tryz.underlying3
  have hw : IntKind.i64.wrap (m : Int) = m := by rw [IntKind.wrap_i64]; omega
  have hw0 : IntKind.i64.wrap 0 = 0 := by rw [IntKind.wrap_i64]; omega
  have h48i : ¬ (281474976710656 < (m : Int)) := by omega
  have hneg : ¬ ((m : Int) < 0) := by omega
  have hl := hown.len
  have hll : (bv (l ++ zeroB m)).length = (n + m) * 1 := by rw [bv_length, List.length_append, zeroB_len, hl, Nat.mul_one]
  have grown : ∀ (old : Nat), old < n + m → ∀ (row : Option Nat),
      OB (w.drew.alloc (.cells ((bv l).toArray ++ (bv (zeroB m)).toArray ++ Builtin.zeroCells (Value.int .u8 0).cells (grownCap w (n + m) old 5 - (n + m))) 5)) base (.slice (some ⟨w.heap.size, 0, none⟩) (n + m) (grownCap w (n + m) old 5)) (n + m) (l ++ zeroB m) ∧
      w.grownBy (w.drew.alloc (.cells ((bv l).toArray ++ (bv (zeroB m)).toArray ++ Builtin.zeroCells (Value.int .u8 0).cells (grownCap w (n + m) old 5 - (n + m))) 5)) row := by
    intro old ho row
    have hge := grownCap_ge w (n + m) old 5
    have hcm : grownCap w (n + m) old 5 ≤ maxLen := grownCap_le_maxLen w (n + m) old 5 (by simp only [maxLen]; omega)
    refine ⟨⟨hll, .inr ⟨w.heap.size, _, _, rfl, hbase, heap_alloc_new w.drew _, hge, hcm, ?_, ?_⟩⟩, ⟨rfl, rfl, rfl, by simp, fun k hk _ => Below.heap_alloc w.drew _ k hk⟩⟩
    · simp only [Array.size_append, List.size_toArray, size_zeroCells, bv_length, hl, zeroB_len]
      show _ + _ * 1 = _ * 1
      omega
    · simp only [Array.toList_append, List.append_assoc]
      rw [← List.append_assoc, ← bv_append, ← hll]
      exact List.take_left
  rcases hown.2 with ⟨rfl, rfl⟩ | ⟨g, cap, cur, rfl, hbg, hg, hnc, hcm, hcs, htake⟩
  · have hx : l = [] := List.eq_nil_of_length_eq_zero hl
    subst hx
    by_cases hm : m = 0
    · subst hm
      refine ⟨.slice none 0 0, w, ?_, OB.nil w base, ⟨rfl, rfl, rfl, Nat.le_refl _, fun _ _ _ => rfl⟩, Or.inl rfl⟩
      simp [Builtin.append_, run_underlying ht, run_underlying htn, sizeOf, typeInfo, zeroValue, hi, hz, asInt, asIntOf, hz2, hz1, hw0]
    · have hr := Lib.run_append_nil_zeros (P := Tryz.prog) w 37 3 ty 5 i (.int .u8 0) .i64 .i64 ht htn hi hz m (by omega) (by omega) (by omega) (by rw [hz2]; omega)
      have hgr := grown 0 (by omega) (Value.ownBlock (.slice none 0 0))
      simp only [Nat.zero_add, List.nil_append, Array.empty_append, bv, List.map_nil, zeroCells_b] at hgr hr ⊢
      exact ⟨_, _, hr, hgr.1, hgr.2, Or.inr rfl⟩
  · by_cases hroom : n + m ≤ cap
    · have hz0 := zeroCells_b m
      have hst := run_storeCells_at Tryz.prog g (n * 1) 5 (bv (zeroB m)) 0 cur w hg (by rw [bv_length, zeroB_len, hcs]; omega) (bv_one _)
      simp only [Nat.add_zero, Nat.mul_one] at hst
      refine ⟨.slice (some ⟨g, 0, none⟩) (n + m) cap, w.setRow g (cur.toList.take (n * 1) ++ bv (zeroB m) ++ cur.toList.drop (n * 1 + (bv (zeroB m)).length)).toArray, ?_, ⟨hll, .inr ⟨g, cap, _, rfl, hbg, setRow_heap w g cur _ 5 _ hg, hroom, hcm, ?_, ?_⟩⟩, ⟨rfl, rfl, rfl, by simp, fun k _ hk => setRow_other w g k _ (fun e => hk (by simp [Value.ownBlock, e]))⟩, Or.inl rfl⟩
      · by_cases hm : m = 0
        · subst hm
          have e0 : zeroB 0 = [] := rfl
          simp [e0, bv] at hst
          simp [Builtin.append_, run_underlying ht, run_underlying htn, sizeOf, typeInfo, zeroValue, hi, hz, asInt, asIntOf, hz2, hz1, hw0, hnc, e0, bv, Addr.add_lit, hst]
        · have hm2 : ¬ (m * 1 = 0) := by omega
          simp [Builtin.append_, run_underlying ht, run_underlying htn, sizeOf, typeInfo, zeroValue, hi, hz, asInt, asIntOf, hw, hm, hneg, h48i, hz2, hz1, hroom, hz0, Addr.add_lit]
          simp only [List.append_assoc] at hst
          rw [hst]
          rfl
      · simp only [List.size_toArray, List.length_append, List.length_take, List.length_drop, Array.length_toList, bv_length, zeroB_len]
        omega
      · rw [htake, ← bv_append, ← hll]
        exact List.take_left
    · have hm : ¬ m = 0 := by omega
      have hm2 : ¬ (m * 1 = 0) := by omega
      have hn : ¬ (n + m ≤ cap) := hroom
      have h63' : ¬ (9223372036854775807 < ((n : Int) + (m : Int))) := by omega
      have h48' : ¬ (281474976710656 < Builtin.nextslicecap (n + m) cap) := by
        have := growslice_fits (need := n + m) (old := cap) (bytes := 1) (by omega) (by omega)
        omega
      have hfo := run_firstCells_some (P := Tryz.prog) w.drew 1 n ⟨g, 0, none⟩ n cap (bv l) (by rw [bv_length, hl]; omega) (by simpa using World.ownsRow.cells (g := g) hown rfl)
      have hgr := grown cap (by omega) (Value.ownBlock (.slice (some ⟨g, 0, none⟩) n cap))
      refine ⟨_, _, ?_, hgr.1, hgr.2, Or.inr rfl⟩
      simp [Builtin.append_, run_underlying ht, run_underlying htn, sizeOf, typeInfo, zeroValue, hi, hz, asInt, asIntOf, hw, hm, hm2, hneg, h48i, hz2, hz1, hn, h63', h48', Question.forced, hfo, newRow, grownCap, zeroCells_b]
end Go.Proofs.YthohbbaglceppaaGreatDoor
