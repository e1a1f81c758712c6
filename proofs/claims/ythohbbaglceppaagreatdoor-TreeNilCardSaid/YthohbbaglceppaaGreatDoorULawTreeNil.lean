/-
  The walk of inquestlaw19.TreeNil: it returns true for every input.
-/
import Derived.Test.YthohbbaglceppaaGreatDoorUWkB
import Derived.Test.YthohbbaglceppaaGreatDoorUA
namespace Go.Proofs.YthohbbaglceppaaGreatDoor
open Go.RowKit Go.Maps
set_option linter.unusedVariables false
theorem row_short {k : IntKind} {w : World} {a : Option Addr} {len cap : Nat} {zs : List Int} (h : IsRow k w a len cap zs) : len ≤ 9223372036854775807 := by
  rcases h with ⟨_, rfl, _⟩ | ⟨x, _, h1, h2, _⟩
  · omega
  · have h3 : maxLen ≤ 9223372036854775807 := by decide
    omega
set_option maxRecDepth 100000 in
theorem get_nil (w : World) (v : Value) : Calls Tryz.prog 17 #[.pointer none, v] w fun e w' => e = .returned (.tuple #[.slice none 0 0, .bool false, .int .i64 2]) ∧ Below w.heap.size w w' := by
  go_enter Tryz.func17, Tryz.ntmps17
  go_wp2_with fail
  go_ret3
  exact ⟨rfl, Below.refl _ _⟩
set_option maxRecDepth 100000 in
theorem del_nil (w : World) (v : Value) : Calls Tryz.prog 26 #[.pointer none, v] w fun e w' => e = .returned (.tuple #[.bool false, .int .i64 2]) ∧ Below w.heap.size w w' := by
  go_enter Tryz.func26, Tryz.ntmps26
  go_wp2_with fail
  go_ret2
  exact ⟨rfl, (Below.refl _ _).alloc (Nat.le_refl _) _⟩
set_option maxRecDepth 100000 in
theorem height_nil (w : World) : Calls Tryz.prog 24 #[.pointer none] w fun e w' => e = .returned (.tuple #[.int .i64 0, .int .i64 2]) ∧ Below w.heap.size w w' := by
  go_enter Tryz.func24, Tryz.ntmps24
  go_wp2_with fail
  go_ret2
  exact ⟨rfl, Below.refl _ _⟩
set_option maxRecDepth 100000 in
theorem pages_nil (w : World) : Calls Tryz.prog 30 #[.pointer none] w fun e w' => e = .returned (.tuple #[.slice none 0 0, .int .i64 2]) ∧ Below w.heap.size w w' := by
  go_enter Tryz.func30, Tryz.ntmps30
  go_wp2_with fail
  go_ret2
  exact ⟨rfl, (Below.refl _ _).alloc (Nat.le_refl _) _⟩
set_option maxRecDepth 100000 in
theorem cnext_nil (w : World) : Calls Tryz.prog 31 #[.pointer none] w fun e w' => e = .returned (.tuple #[.slice none 0 0, .slice none 0 0, .int .i64 2]) ∧ Below w.heap.size w w' := by
  go_enter Tryz.func31, Tryz.ntmps31
  go_wp2_with fail
  go_ret3
  exact ⟨rfl, Below.refl _ _⟩
set_option maxRecDepth 100000 in
theorem put_nil (w : World) (v u : Value) : Calls Tryz.prog 14 #[.pointer none, v, u] w fun e w' => e = .returned (.int .i64 2) ∧ Below w.heap.size w w' := by
  go_enter Tryz.func14, Tryz.ntmps14
  go_wp2_with fail
  go_ret
  exact ⟨rfl, (Below.refl _ _).alloc (Nat.le_refl _) _⟩
set_option maxRecDepth 100000 in
theorem check_nil (w : World) : Calls Tryz.prog 22 #[.pointer none] w fun e w' => e = .returned (.int .i64 2) ∧ Below w.heap.size w w' := by
  go_enter Tryz.func22, Tryz.ntmps22
  go_wp2_with fail
  refine (height_nil w).mono ?_
  rintro e w1 ⟨rfl, hB⟩
  have hB1 := hide (hB.alloc hB.size (.cells #[.int .i64 0] 3))
  go_wp2_with fail
  go_ret
  exact ⟨rfl, hB1.out⟩
set_option maxRecDepth 100000 in
theorem seek_nil (w : World) (v : Value) : Calls Tryz.prog 32 #[.pointer none, v] w fun e w' => e = .returned (.pointer none) ∧ Below w.heap.size w w' := by
  go_enter Tryz.func32, Tryz.ntmps32
  go_wp2_with fail
  go_ret
  exact ⟨rfl, Below.refl _ _⟩
set_option maxRecDepth 100000 in
theorem tnew_nil (w : World) : Calls Tryz.prog 12 #[.pointer none, .int .i64 0] w fun e w' => e = .returned (.tuple #[.pointer none, .int .i64 2]) ∧ Below w.heap.size w w' := by
  go_enter Tryz.func12, Tryz.ntmps12
  go_wp2_with fail
  go_ret2
  exact ⟨rfl, Below.refl _ _⟩
set_option maxRecDepth 100000 in
theorem tnew_high (w : World) (gp : Nat) : Calls Tryz.prog 12 #[.pointer (some ⟨gp, 0, none⟩), .int .i64 8] w fun e w' => e = .returned (.tuple #[.pointer none, .int .i64 1]) ∧ Below w.heap.size w w' := by
  go_enter Tryz.func12, Tryz.ntmps12
  go_wp2_with fail
  go_ret2
  exact ⟨rfl, Below.refl _ _⟩
set_option maxRecDepth 100000 in
theorem tnew_low (w : World) (gp : Nat) : Calls Tryz.prog 12 #[.pointer (some ⟨gp, 0, none⟩), .int .i64 (-1)] w fun e w' => e = .returned (.tuple #[.pointer none, .int .i64 1]) ∧ Below w.heap.size w w' := by
  go_enter Tryz.func12, Tryz.ntmps12
  go_wp2_with fail
  go_ret2
  exact ⟨rfl, Below.refl _ _⟩
set_option maxRecDepth 100000 in
theorem less_same (A : Option Addr) (n c : Nat) (xs : List UInt8) (w : World) (ha : RB w w.heap.size A n xs) (hn : n ≤ 9223372036854775807) :
    Calls Tryz.prog 33 #[.slice A n c, .slice A n c] w fun e w' => e = .returned (.bool false) ∧ Below w.heap.size w w' := by
  have hxl := hide ha.len
  have HA := hide ha
  clear ha
  go_enter Tryz.func33, Tryz.ntmps33
  go_wp2
  go_loopw [5] (fun i wr => ∃ k q : Nat, k ≤ n ∧ i = .int .i64 k ∧ wr = w.drewN q) (fun i _ => n - (intOf i).toNat)
  case atStart => exact ⟨0, 0, by omega, rfl, rfl⟩
  case round =>
    obtain ⟨k, q, hk, rfl, rfl⟩ := hrel
    by_cases h1 : k < n
    · have hx1 : k < xs.length := by have := hxl.out; omega
      obtain ⟨ad, rfl, _, ca⟩ := HA.out.elem h1 hx1
      clear HA
      generalize (xs[k].toNat : Int) = x at ca
      go_wp2
      go_quiet (fail)
      go_wp2
      go_roundw
      case rel => exact ⟨k + 1, _, by omega, by go_num, rfl⟩
      case measure => simp [intOf]; omega
    · have hkn : k = n := by omega
      subst hkn
      go_wp2
      go_ret
      exact ⟨by simp, below_drewN (Below.refl _ _) _⟩
set_option maxRecDepth 100000 in
set_option maxHeartbeats 1000000 in
theorem treeNil_true (w : World) (A : Option Addr) (n c : Nat) (xs : List UInt8) (ha : RB w w.heap.size A n xs) (hn : n ≤ 9223372036854775807) :
    Calls Tryz.prog 7 #[.slice A n c] w fun e w' => e = .returned (.bool true) ∧ Below w.heap.size w w' := by
  replace ha := hide ha
  go_enter Tryz.func7, Tryz.ntmps7
  go_wp2_with fail
  refine (wakes_any w).mono ?_
  rintro e w1 ⟨rfl, b1⟩
  replace b1 := hide b1
  go_wp2_with fail
  refine (get_nil w1 _).mono ?_
  rintro e w2 ⟨rfl, b2⟩
  replace b2 := hide (b1.out.trans (b2.mono b1.out.size))
  clear b1
  go_wp2_with fail
  refine (del_nil w2 _).mono ?_
  rintro e w3 ⟨rfl, b3⟩
  replace b3 := hide (b2.out.trans (b3.mono b2.out.size))
  clear b2
  go_wp2_with fail
  refine (height_nil w3).mono ?_
  rintro e w4 ⟨rfl, b4⟩
  replace b4 := hide (b3.out.trans (b4.mono b3.out.size))
  clear b3
  go_wp2_with fail
  refine (pages_nil w4).mono ?_
  rintro e w5 ⟨rfl, b5⟩
  replace b5 := hide (b4.out.trans (b5.mono b4.out.size))
  clear b4
  go_wp2_with fail
  refine (cnext_nil w5).mono ?_
  rintro e w6 ⟨rfl, b6⟩
  replace b6 := hide (b5.out.trans (b6.mono b5.out.size))
  clear b5
  have hnew : Hid (Calls Tryz.prog 11 #[.int .i64 1000] w6 (FNewRet w6 1000)) := hide (fnew_any w6 1000 (by omega) (by omega))
  go_wp2_with fail
  refine hnew.out.mono ?_
  rintro e w7 ⟨gf, bm, rfl, hfs, b7⟩
  have hf0 := hfs (dbN [120]) (logN [120]) (db_ne [120])
  have hf : FSAt w7 0 gf bm 1000 0 (dbN [120]) (logN [120]) none none := ⟨hf0.st, hf0.mp, hf0.ne, Nat.zero_le _, Nat.zero_le _⟩
  have hg1 := hf0.gB
  have hg2 := hf0.bB
  have hop : Hid (Calls Tryz.prog 10 #[.pointer (some ⟨gf, 0, none⟩), .string ⟨#[120]⟩] w7 (OpRet w7 gf bm [120])) := hide (open_new w7 gf bm 1000 0 [120] hf name_d name_l (by decide) (by decide) (by omega) (by omega) (by omega))
  have hs6 := b6.out.size
  have hs7 := b7.size
  replace b7 := hide (b6.out.trans (b7.mono hs6))
  replace hfs := hide hfs
  replace hf0 := hide hf0
  replace hf := hide hf
  clear hnew b6
  go_wp2_with fail
  refine hop.out.mono ?_
  rintro e w8 ⟨gp, gm, gc0, rfl, g1, g2, hbp, him, hFr⟩
  have b8 := hide (b7.out.trans (Only.below hFr (fun k hk => by
    rcases hk with rfl | rfl | hk <;> omega) b7.out.size))
  clear hbp him hFr hop hfs hf0 hf b7
  go_wp2_with fail
  refine (tnew_nil w8).mono ?_
  rintro e w9 ⟨rfl, b9⟩
  replace b9 := hide (b8.out.trans (b9.mono b8.out.size))
  clear b8
  go_wp2_with fail
  refine (tnew_high w9 gp).mono ?_
  rintro e w10 ⟨rfl, b10⟩
  replace b10 := hide (b9.out.trans (b10.mono b9.out.size))
  clear b9
  go_wp2_with fail
  refine (tnew_low w10 gp).mono ?_
  rintro e w11 ⟨rfl, b11⟩
  replace b11 := hide (b10.out.trans (b11.mono b10.out.size))
  clear b10
  go_wp2_with fail
  refine (put_nil w11 _ _).mono ?_
  rintro e w12 ⟨rfl, b12⟩
  replace b12 := hide (b11.out.trans (b12.mono b11.out.size))
  clear b11
  go_wp2_with fail
  refine (check_nil w12).mono ?_
  rintro e w13 ⟨rfl, b13⟩
  replace b13 := hide (b12.out.trans (b13.mono b12.out.size))
  clear b12
  go_wp2_with fail
  refine (seek_nil w13 _).mono ?_
  rintro e w14 ⟨rfl, b14⟩
  replace b14 := hide (b13.out.trans (b14.mono b13.out.size))
  clear b13
  have hls := hide (less_same A n c xs w14 ((ha.out.below b14.out).more b14.out.size) hn)
  go_wp2_with fail
  refine hls.out.mono ?_
  rintro e w15 ⟨rfl, b15⟩
  replace b15 := hide (b14.out.trans (b15.mono b14.out.size))
  clear b14 hls
  go_wp2_with fail
  go_ret
  exact ⟨rfl, b15.out⟩
end Go.Proofs.YthohbbaglceppaaGreatDoor
