/-
  Rows of bytes that a call owns, over this seat's program: append in three shapes.
-/
import Derived.Test.YtiffnfgmkkoaeaaGreatDoorChecked
import Derived.Test.YtiffnfgmkkoaeaaGreatDoorBnGr0
import Derived.WalkSpells
import Derived.Test.YtiffnfgmkkoaeaaGreatDoorBnGr1
import Derived.Deep.DeepCutAuto
import Derived.Maps.OwnSet
import Derived.Maps.Views
import Derived.Maps.Range
namespace Go.Proofs.YtiffnfgmkkoaeaaGreatDoor
open Go.RowKit
set_option linter.unusedVariables false
theorem byte_info : (Tryz.prog.info? 5).map (fun i => (i.zero, i.size, i.bytes)) = some (some (.int .u8 0), 1, 1) := by kernel_rfl
/-- The call owns the row of bytes: nil, or at the head of a block from 'base' on. -/
def OB (w : World) (base : Nat) (v : Value) (n : Nat) (l : List UInt8) : Prop := w.ownsRow base 5 1 v n (bv l)
section
variable {w w' : World} {base n : Nat} {v : Value} {l : List UInt8}
theorem OB.nil (w : World) (base : Nat) : OB w base (.slice none 0 0) 0 [] := ⟨by simp [bv], .inl ⟨rfl, rfl⟩⟩
theorem OB.empty (w : World) {base : Nat} (h : base ≤ w.heap.size) : OB (w.alloc (.cells #[] 5)) base (.slice (some ⟨w.heap.size, 0, none⟩) 0 0) 0 [] :=
  ⟨by simp [bv], .inr ⟨w.heap.size, 0, #[], rfl, h, heap_alloc_new w _, Nat.le_refl _, Nat.zero_le _, rfl, rfl⟩⟩
theorem OB.len (h : OB w base v n l) : l.length = n := by have := h.1; simpa [bv] using this
theorem OB.form (h : OB w base v n l) : ∃ A c, v = .slice A n c ∧ RB w w.heap.size A n l ∧ (A = none → n = 0) ∧ n ≤ c ∧ c ≤ maxLen := by
  have h2 := h.2
  rcases h2 with ⟨rfl, rfl⟩ | ⟨g, cap, cur, rfl, _, _, h3, h4, _⟩
  · exact ⟨none, 0, rfl, Reads.of_own h, fun _ => rfl, Nat.le_refl _, Nat.zero_le _⟩
  · exact ⟨_, _, rfl, Reads.of_own h, (fun e => by cases e), h3, h4⟩
theorem OB.below {B : Nat} (h : OB w base v n l) (hb : Below B w w') (hs : w.heap.size ≤ B) : OB w' base v n l := by
  obtain ⟨h1, h2⟩ := h
  refine ⟨h1, ?_⟩
  rcases h2 with h2 | ⟨g, cap, cur, hv, hg, hh, r⟩
  · exact Or.inl h2
  · have hlt : g < w.heap.size := by
      rcases Nat.lt_or_ge g w.heap.size with hlt | hge
      · exact hlt
      · rw [Array.getElem?_eq_none hge] at hh; cases hh
    exact Or.inr ⟨g, cap, cur, hv, hg, by rw [hb.block g (by omega)]; exact hh, r⟩
theorem OB.more {b' : Nat} (h : OB w base v n l) (hb : b' ≤ base) : OB w b' v n l := by
  obtain ⟨h1, h2⟩ := h
  refine ⟨h1, ?_⟩
  rcases h2 with h2 | ⟨g, cap, cur, hv, hg, hh, r⟩
  · exact Or.inl h2
  · exact Or.inr ⟨g, cap, cur, hv, by omega, hh, r⟩
theorem OB.alloc (h : OB w base v n l) (o : Obj) : OB (w.alloc o) base v n l := World.ownsRow.alloc h o
theorem OB.drew (h : OB w base v n l) : OB w.drew base v n l := h
theorem OB.drewN (h : OB w base v n l) (k : Nat) : OB (w.drewN k) base v n l := h
theorem OB.block_lt (h : OB w base v n l) (k : Nat) (hk : v.ownBlock = some k) : base ≤ k := by
  rcases h.2 with ⟨rfl, rfl⟩ | ⟨g, cap, cur, rfl, hg, _⟩
  · simp [Value.ownBlock] at hk
  · simp [Value.ownBlock] at hk; omega
theorem OB.cut {g cap k : Nat} (h : OB w base (.slice (some ⟨g, 0, none⟩) n cap) n l) (hk : k ≤ n) : OB w base (.slice (some ⟨g, 0, none⟩) k cap) k (l.take k) := by
  obtain ⟨h1, h2⟩ := h
  rcases h2 with ⟨h0, _⟩ | ⟨g', cap', cur, hv, hg, hh, hn, hcap, hsz, htake⟩
  · cases h0
  · cases hv
    refine ⟨?_, .inr ⟨g, cap, cur, rfl, hg, hh, by omega, hcap, hsz, ?_⟩⟩
    · rw [bv_length] at h1 ⊢
      rw [List.length_take]; omega
    · have h3 : (cur.toList.take (n * 1)).take (k * 1) = (bv l).take (k * 1) := by rw [htake]
      rw [List.take_take, Nat.min_eq_left (by omega)] at h3
      rw [h3, bv, bv, List.map_take, Nat.mul_one]
theorem OB.cell {g cap k : Nat} (h : OB w base (.slice (some ⟨g, 0, none⟩) n cap) n l) (hk : k < n) (hl : k < l.length) : w.cell? ⟨g, k, none⟩ = some (.int .u8 ((l[k]).toNat : Int)) := by
  rw [World.ownsRow.cellAt h k (by omega), bv_get hl]
theorem OB.base_le {g cap : Nat} (h : OB w base (.slice (some ⟨g, 0, none⟩) n cap) n l) : base ≤ g := h.block_lt g rfl
/-- nil, or the head of a block. -/
theorem OB.parts (h : OB w base v n l) : (v = .slice none 0 0 ∧ n = 0 ∧ l = []) ∨ ∃ g cap, v = .slice (some ⟨g, 0, none⟩) n cap ∧ n ≤ cap ∧ cap ≤ maxLen := by
  rcases h.2 with ⟨rfl, rfl⟩ | ⟨g, cap, cur, rfl, _, _, h3, h4, _⟩
  · exact .inl ⟨rfl, rfl, List.eq_nil_of_length_eq_zero h.len⟩
  · exact .inr ⟨g, cap, rfl, h3, h4⟩
end
theorem RB.one_new (w : World) (b : UInt8) (t : TypeId) : RB (w.alloc (.cells #[.int .u8 (b.toNat : Int)] t)) (w.heap.size + 1) (some ⟨w.heap.size, 0, none⟩) 1 [b] := by
  refine ⟨by simp [bv], fun _ => ⟨_, rfl, by simp, fun j u hj => ?_⟩⟩
  match j, hj with
  | 0, hj => simp [bv] at hj; subst hj; simp [Addr.add]
/-- The call returns a row of bytes of its own; what was there is as it was. -/
def RetB (W : World) (l : List UInt8) (e : Ending) (w' : World) : Prop := ∃ v, e = .returned v ∧ OB w' W.heap.size v l.length l ∧ Below W.heap.size W w'
theorem RetB.mk {W w' : World} {l : List UInt8} {v : Value} {n : Nat} (h : OB w' W.heap.size v n l) (hb : Below W.heap.size W w') : RetB W l (.returned v) w' :=
  ⟨v, rfl, by rw [h.len]; exact h, hb⟩
section
variable {ops : Array Oper} {rest : List Oper} {o : Oper} {a : Act} {Q : Exit → Act → World → Prop}
/-- append(v, x...) -/
theorem wpList_app_b {w : World} (hgd : o.guard = none) (s x : Operand) (ho : o.op = .call { callee := .builtin .append, args := #[s, x], argTypes := #[62, 62] })
    (base : Nat) (v : Value) (n : Nat) (l : List UInt8) (hown : OB w base v n l) (hs : a.eval s = v)
    (B : Nat) (A : Option Addr) (m c : Nat) (news : List UInt8) (hx : a.eval x = .slice A m c) (hr : RB w B A m news)
    (hlen : n + m ≤ 140737488351232) (hbase : base ≤ w.heap.size)
    (h : ∀ v' w', OB w' base v' (n + m) (l ++ news) → Below base w w' → w.grownBy w' v.ownBlock → (v'.ownBlock = v.ownBlock ∨ v'.ownBlock = some w.heap.size) → wpList Tryz.prog ops Q rest (a.put o.dst v') w') :
    wpList Tryz.prog ops Q (o :: rest) a w := by
  obtain ⟨i0, hi0, hz0, hz1, hz2⟩ := info_parts byte_info
  refine wpList_append_any w hgd s x _ ho base 5 i0 _ 1 1 Tryz.underlying62 hi0 hz0 hz1 hz2 rfl (by omega) v n (bv l) hs hown B A m c (bv news) hx hr (bv_one _)
    (by simp only [maxLen]; omega) (by omega) hbase fun v' w' h1 h2 h3 => ?_
  rw [← bv_append] at h1
  exact h v' w' h1 ((Below.refl _ _).grown h2 hbase fun k hk => hown.block_lt k hk) h2 h3
/-- append(v, x), one byte. -/
theorem wpList_app_1 {w : World} {x' : Int} {t : TypeId} (b : UInt8) (hbx : x' = (b.toNat : Int)) (hgd : o.guard = none) (s x : Operand) (ho : o.op = .call { callee := .builtin .append, args := #[s, x], argTypes := #[62, 62] })
    (base : Nat) (v : Value) (n : Nat) (l : List UInt8) (hown : OB w base v n l) (hs : a.eval s = v) (c : Nat)
    (hx : a.eval x = .slice (some ⟨w.heap.size, 0, none⟩) 1 c)
    (hlen : n + 1 ≤ 140737488351232) (hbase : base ≤ w.heap.size)
    (h : ∀ v' w', OB w' base v' (n + 1) (l ++ [b]) → Below base w w' → w.grownBy w' v.ownBlock → wpList Tryz.prog ops Q rest (a.put o.dst v') w') :
    wpList Tryz.prog ops Q (o :: rest) a (w.alloc (.cells #[.int .u8 x'] t)) := by
  subst hbx
  refine wpList_app_b hgd s x ho base v n l (hown.alloc _) hs _ _ 1 c [b] hx (RB.one_new w b t) hlen (by simp; omega) fun v' w' h1 h2 h3 h4 => ?_
  refine h v' w' h1 ?_ ⟨h3.os, h3.tape, h3.output, ?_, fun k hk hne => ?_⟩
  · exact ((Below.refl _ _).alloc hbase _).trans h2
  · have := h3.size; simp at this; omega
  · rw [h3.block k (by simp; omega) hne]
    exact Below.heap_alloc _ _ _ hk
end
end Go.Proofs.YtiffnfgmkkoaeaaGreatDoor
namespace Go.Proofs.YtiffnfgmkkoaeaaGreatDoor
open Go.RowKit
set_option linter.unusedVariables false
set_option maxHeartbeats 400000 in
theorem bclone_any (A : Option Addr) (n c : Nat) (xs : List UInt8) (w : World) (ha : RB w w.heap.size A n xs) (hn : n ≤ 140737488351232) :
    Calls Tryz.prog 55 #[.slice A n c] w (RetB w xs) := by
  have hnil := fun wx => Lib.run_eql_slice_nil (P := Tryz.prog) wx 62 5 A n c 0 0 Tryz.underlying62
  rcases A with _ | ad
  · have hn0 : n = 0 := by
      rcases Nat.eq_zero_or_pos n with h0 | h0
      · exact h0
      · obtain ⟨ad, h, _⟩ := ha.2 h0; cases h
    subst hn0
    have hx : xs = [] := List.eq_nil_of_length_eq_zero ha.len
    subst hx
    clear ha
    go_enter Tryz.func55, Tryz.ntmps55
    go_wp2
    go_ret
    exact RetB.mk (OB.nil _ _) (Below.refl _ _)
  · have HA := hide ha
    clear ha
    go_enter Tryz.func55, Tryz.ntmps55
    go_wp2_with (at_builtin; refine wpList_app_b rfl (.tmp 5) (.tmp 6) rfl w.heap.size _ 0 [] (OB.empty w (Nat.le_refl _)) rfl w.heap.size (some ad) n c xs rfl (HA.out.alloc (Nat.le_refl _) _) (by omega) (by simp) ?_; intro v1 w1 hown1 hb1 hg1 hat1)
    go_ret
    exact RetB.mk hown1 (((Below.refl _ _).alloc (Nat.le_refl _) _).trans hb1)
end Go.Proofs.YtiffnfgmkkoaeaaGreatDoor
namespace Go.Proofs.YtiffnfgmkkoaeaaGreatDoor
open Go.RowKit
set_option linter.unusedVariables false
def byteN (z : Int) (k : Nat) : UInt8 := UInt8.ofNat (z.toNat / 256 ^ k)
def numB (z : Int) : List UInt8 := [byteN z 5, byteN z 4, byteN z 3, byteN z 2, byteN z 1, byteN z 0]
/-- the bytes of one number that have been put when the inner loop stands at k (5 .. -1): the first 5 - k. -/
def numsB (l : List Int) : List UInt8 := l.flatMap fun z => numB (heldI z)
theorem byteN_eq (z : Int) (i : Nat) (h0 : 0 ≤ z) (hi : i < 6) : z / 2 ^ (8 * (5 - i)) % 256 = ((byteN z (5 - i)).toNat : Int) := by
  obtain ⟨n, rfl⟩ := Int.eq_ofNat_of_zero_le h0
  unfold byteN
  rw [UInt8.toNat_ofNat', Int.toNat_natCast, show (256 : Nat) = 2 ^ 8 from rfl, ← Nat.pow_mul, Int.natCast_emod, Int.natCast_ediv, Int.natCast_pow]
  rfl
theorem numB_take (z : Int) (i : Nat) (hi : i < 6) : (numB z).take (i + 1) = (numB z).take i ++ [byteN z (5 - i)] := by
  match i, hi with
  | 0, _ => rfl
  | 1, _ => rfl
  | 2, _ => rfl
  | 3, _ => rfl
  | 4, _ => rfl
  | 5, _ => rfl
theorem numsB_snoc (zs : List Int) (k : Nat) (h : k < zs.length) : numsB (zs.take (k + 1)) = numsB (zs.take k) ++ numB (heldI zs[k]) := by
  unfold numsB
  rw [List.take_succ_eq_append_getElem h, List.flatMap_append]
  simp
set_option maxHeartbeats 400000 in
theorem num_any (A B : Option Addr) (n m c d : Nat) (xs : List UInt8) (zs : List Int) (w : World) (ha : RB w w.heap.size A n xs) (hb : RI w w.heap.size B m zs)
    (hn : n ≤ 100000) (hm : m ≤ 100000) :
    Calls Tryz.prog 24 #[.slice A n c, .slice B m d] w (RetB w (xs ++ numsB zs)) := by
  have hnl := hide ha.len
  have hzl := hide hb.len
  have HA := hide ha
  have HB := hide hb
  clear ha hb
  go_enter Tryz.func24, Tryz.ntmps24
  go_wp2_with fail
  refine (bclone_any _ _ _ _ _ HA.out (by omega)).mono ?_
  rintro e w1 ⟨v1, rfl, hown1, hb1⟩
  rw [hnl.out] at hown1
  replace hown1 := hide hown1
  go_wp2_with fail
  go_loopw [5, 13] (fun v i wr => ∃ k : Nat, k ≤ m ∧ i = .int .i64 k ∧ Hid (OB wr w.heap.size v (n + 6 * k) (xs ++ numsB (zs.take k))) ∧ Below w.heap.size w wr) (fun _ i _ => m - (intOf i).toNat)
  case atStart => exact ⟨0, by omega, rfl, by simpa [numsB] using hown1, hb1⟩
  case round =>
    obtain ⟨k, hk, rfl, HO, hbl⟩ := hrel
    by_cases h1 : k < m
    · have hz1 : k < zs.length := by have := hzl.out; omega
      obtain ⟨bd, rfl, hbb, cb⟩ := (HB.out.below hbl).elem h1 hz1
      go_upto_region 5 with (fail)
      go_cut [7] (fun v wx => v = .int .i64 (heldI zs[k]) ∧ wx = wr)
      case first =>
        by_cases c1 : zs[k] < 0
        · have hc : heldI zs[k] = 0 := by simp [heldI, c1]
          have hc := hide hc
          go_wp2
          go_meet
          exact ⟨by rw [hc.out], rfl⟩
        · by_cases c2 : 281474976710655 < zs[k]
          · have hc : heldI zs[k] = 281474976710655 := by simp [heldI, c1, c2]
            have hc := hide hc
            go_wp2
            go_meet
            exact ⟨by rw [hc.out], rfl⟩
          · have hc : heldI zs[k] = zs[k] := by simp [heldI, c1, c2]
            have hc := hide hc
            go_wp2
            go_meet
            exact ⟨by rw [hc.out], rfl⟩
      case rest =>
        obtain ⟨rfl, rfl⟩ := hcut
        have b0 := heldI_0 zs[k]
        have b1 := heldI_1 zs[k]
        have HS : Hid (numsB (zs.take (k + 1)) = numsB (zs.take k) ++ numB (heldI zs[k])) := by
          exact numsB_snoc zs k hz1
        generalize heldI zs[k] = z at *
        go_wp2_with fail
        go_loopw [5, 8] (fun v j wr => ∃ i : Nat, i ≤ 6 ∧ j = .int .i64 (5 - (i : Int)) ∧ Hid (OB wr w.heap.size v (n + 6 * k + i) (xs ++ numsB (zs.take k) ++ (numB z).take i)) ∧ Below w.heap.size w wr) (fun _ j _ => (intOf j + 1).toNat)
        case atStart => exact ⟨0, by omega, by go_num, by simpa using HO, hbl⟩
        case round =>
          clear hbl HO cb
          obtain ⟨i, hi, rfl, HO, hbl⟩ := hrel
          have hsz := hbl.size
          by_cases hi6 : i < 6
          · have hbyte := hide (byteN_eq z i b0 hi6)
            go_wp2_with (at_builtin; refine wpList_app_1 (byteN z (5 - i)) hbyte.out rfl (.tmp 24) (.tmp 30) rfl w.heap.size _ _ _ HO.out rfl _ rfl (by omega) hsz ?_; intro v2 w2 hown2 hb2 hg2)
            replace hown2 := hide hown2
            have hbl2 := hbl.trans hb2
            clear hbl hb2 hg2
            go_wp2
            go_roundw
            case rel => exact ⟨i + 1, by omega, by go_num, by have := hown2.out; rw [List.append_assoc, ← numB_take z i hi6] at this; exact this, hbl2⟩
            case measure => simp [intOf]; omega
          · have hi6' : i = 6 := by omega
            subst hi6'
            have HO2 : Hid (OB wr w.heap.size u5 (n + 6 * (k + 1)) (xs ++ numsB (zs.take (k + 1)))) := by
              show OB _ _ _ _ _
              rw [HS.out, ← List.append_assoc, show n + 6 * (k + 1) = n + 6 * k + 6 from by omega]
              exact HO.out
            clear HO HS
            go_wp2
            go_roundw
            case rel => exact ⟨k + 1, by omega, by go_num, HO2, hbl⟩
            case measure => simp [intOf]; omega
    · have hkm : k = m := by omega
      have HO2 : Hid (OB wr w.heap.size u5 (n + 6 * m) (xs ++ numsB zs)) := by
        subst hkm
        have := HO.out
        rw [List.take_of_length_le (by have := hzl.out; omega)] at this
        exact this
      clear HO
      have hk2 : m ≤ k := by omega
      clear hkm
      go_wp2
      go_ret
      exact RetB.mk HO2.out hbl
end Go.Proofs.YtiffnfgmkkoaeaaGreatDoor
namespace Go.Proofs.YtiffnfgmkkoaeaaGreatDoor
set_option linter.unusedVariables false
/-- So many bytes of a number, the lowest first. -/
def leB : Nat → Nat → List UInt8
  | 0, _ => []
  | k + 1, n => UInt8.ofNat (n % 256) :: leB k (n / 256)
/-- The number of bytes. -/
def numL : List UInt8 → Nat
  | [] => 0
  | b :: r => b.toNat + 256 * numL r
theorem leB_len : ∀ k n, (leB k n).length = k
  | 0, _ => rfl
  | k + 1, n => by rw [leB, List.length_cons, leB_len]
theorem byte_of (n : Nat) : (UInt8.ofNat (n % 256)).toNat = n % 256 := by rw [UInt8.toNat_ofNat']; omega
theorem numL_leB : ∀ k n, numL (leB k n) = n % 256 ^ k
  | 0, n => by rw [leB, numL, Nat.pow_zero, Nat.mod_one]
  | k + 1, n => by
    rw [leB, numL, numL_leB k, byte_of, Nat.pow_succ, Nat.mul_comm (256 ^ k) 256, Nat.mod_mul]
theorem leB_snoc : ∀ k n, leB (k + 1) n = leB k n ++ [UInt8.ofNat (n / 256 ^ k % 256)]
  | 0, n => by rw [leB, leB, leB, Nat.pow_zero, Nat.div_one]; rfl
  | k + 1, n => by
    rw [leB, leB_snoc k (n / 256), leB, List.cons_append, Nat.div_div_eq_div_mul, Nat.pow_succ, Nat.mul_comm (256 ^ k) 256]
theorem numL_lt : ∀ l, numL l < 256 ^ l.length
  | [] => by simp [numL]
  | b :: r => by
    have h := numL_lt r
    have hb := b.toNat_lt
    rw [numL, List.length_cons, Nat.pow_succ]
    omega
theorem numL_drop (l : List UInt8) (k : Nat) (hk : k < l.length) : numL (l.drop k) = l[k].toNat + 256 * numL (l.drop (k + 1)) := by
  rw [List.drop_eq_getElem_cons hk, numL]
/-- Bytes of numbers. -/
def leBs (k : Nat) (ns : List Nat) : List UInt8 := ns.flatMap (leB k)
theorem leBs_snoc (k : Nat) (ns : List Nat) (i : Nat) (hi : i < ns.length) : leBs k (ns.take (i + 1)) = leBs k (ns.take i) ++ leB k (ns.getD i 0) := by
  rw [List.take_succ_eq_append_getElem hi, leBs, leBs, List.flatMap_append, List.getD_eq_getElem?_getD, List.getElem?_eq_getElem hi]
  simp
theorem leBs_len (k : Nat) : ∀ ns, (leBs k ns).length = k * ns.length
  | [] => by simp [leBs]
  | n :: r => by
    have := leBs_len k r
    unfold leBs at *
    rw [List.flatMap_cons, List.length_append, leB_len, this, List.length_cons, Nat.mul_succ]; omega
end Go.Proofs.YtiffnfgmkkoaeaaGreatDoor
namespace Go.Proofs.YtiffnfgmkkoaeaaGreatDoor
open Go.RowKit
set_option linter.unusedVariables false
/-- A block of the caller's. -/
def Mine (F : Nat → Prop) (w : World) (k : Nat) : Prop := k < w.heap.size ∧ ¬ F k
/-- From one world to another one: only blocks of F were written; F has grown by new blocks alone. -/
structure Ev (F : Nat → Prop) (w : World) (F' : Nat → Prop) (w' : World) : Prop where
  only : Only F w w'
  grow : ∀ k, F' k → F k ∨ w.heap.size ≤ k
/-- One block more. -/
def plus (F : Nat → Prop) (g : Nat) : Nat → Prop := fun k => F k ∨ k = g
section
variable {F F' F'' X : Nat → Prop} {w w' w'' : World} {k : Nat}
theorem Ev.size (h : Ev F w F' w') : w.heap.size ≤ w'.heap.size := h.only.size
theorem Ev.refl (F : Nat → Prop) (w : World) : Ev F w F w := ⟨Only.refl F w, fun _ h => .inl h⟩
theorem Ev.trans (h : Ev F w F' w') (h2 : Ev F' w' F'' w'') : Ev F w F'' w'' :=
  ⟨h.only.trans h2.only fun i hi hF => (h.grow i hF).elim id fun hge => absurd hge (by omega),
   fun k hk => (h2.grow k hk).elim (fun h3 => h.grow k h3) fun h3 => .inr (Nat.le_trans h.size h3)⟩
theorem Ev.mono (h : Ev F w F' w') (hs : ∀ k, F'' k → F' k) : Ev F w F'' w' := ⟨h.only, fun k hk => h.grow k (hs k hk)⟩
theorem Ev.more (h : Ev F w F' w') (hs : ∀ k, F k → F'' k) (hs2 : ∀ k, F'' k → F k ∨ F' k ∨ w.heap.size ≤ k) : Ev F w F' w' := h
theorem Ev.add (h : Ev F w F' w') (X : Nat → Prop) : Ev (fun k => F k ∨ X k) w (fun k => F' k ∨ X k) w' :=
  ⟨h.only.mono fun _ _ h => .inl h, fun k hk => hk.elim (fun h1 => (h.grow k h1).imp .inl id) fun h1 => .inl (.inr h1)⟩
theorem Ev.plus (h : Ev F w F' w') (g : Nat) : Ev (plus F g) w (Go.Proofs.YtiffnfgmkkoaeaaGreatDoor.plus F' g) w' := h.add _
theorem Ev.wide (h : Ev F w F' w') (hs : ∀ k, F k → X k) : Ev X w (fun k => F' k ∨ X k) w' :=
  ⟨h.only.mono fun k _ h => hs k h, fun k hk => hk.elim (fun h1 => (h.grow k h1).imp (hs k) id) .inl⟩
theorem Ev.of_below (h : Below w.heap.size w w') : Ev F w F w' := ⟨(Only.of_below h), fun _ h => .inl h⟩
theorem Ev.drew (h : Ev F w F' w') : Ev F w F' w'.drew := ⟨h.only.drew, h.grow⟩
theorem Ev.drewN (h : Ev F w F' w') (n : Nat) : Ev F w F' (w'.drewN n) := ⟨h.only.drewN n, h.grow⟩
theorem Ev.alloc (h : Ev F w F' w') (o : Obj) : Ev F w (Go.Proofs.YtiffnfgmkkoaeaaGreatDoor.plus F' w'.heap.size) (w'.alloc o) :=
  ⟨h.only.alloc o, fun k hk => hk.elim (h.grow k) fun e => .inr (by rw [e]; exact h.size)⟩
theorem Ev.alloc_ (h : Ev F w F' w') (o : Obj) : Ev F w F' (w'.alloc o) := ⟨h.only.alloc o, h.grow⟩
theorem Ev.set_ (h : Ev F w F' w') {p : Addr} (hp : F' p.block) (u : Value) : Ev F w F' (w'.setCell p u) :=
  h.trans ⟨(Only.refl F' w').setCell (fun _ => hp) u, fun _ h => .inl h⟩
theorem Ev.below (h : Ev F w F' w') (hb : Below w'.heap.size w' w'') : Ev F w F' w'' := h.trans (Ev.of_below hb)
theorem Ev.grown (h : Ev F w F' w') {row : Option Nat} (hg : w'.grownBy w'' row) (hr : ∀ k, row = some k → F' k) : Ev F w F' w'' :=
  h.trans ⟨(Only.refl F' w').grown hg fun k hk _ => hr k hk, fun _ h => .inl h⟩
theorem Ev.block (h : Ev F w F' w') (hk : Mine F w k) : w'.heap[k]? = w.heap[k]? := h.only.block k hk.1 hk.2
theorem Ev.mine (h : Ev F w F' w') (hk : Mine F w k) : Mine F' w' k := ⟨Nat.lt_of_lt_of_le hk.1 h.size, fun hF => (h.grow k hF).elim hk.2 fun hge => absurd hge (by have := hk.1; omega)⟩
theorem Ev.blk (h : Ev F w F' w') {t : TypeId} {cs : Array Value} (hb : Blk w k t cs) (hk : ¬ F k) : Blk w' k t cs := h.only.blk hb hk
theorem Ev.cell (h : Ev F w F' w') {p : Addr} (hk : Mine F w p.block) : w'.cell? p = w.cell? p := World.cell?_of_block (h.block hk)
theorem Ev.new (h : Ev F w F' w') (hk : ¬ F k) (hl : k < w.heap.size) : ¬ F' k := (h.mine ⟨hl, hk⟩).2
end
/-- A slice that reads as a list, in a block of a kind G. -/
def Rd (G : Nat → Prop) (w : World) (size : Nat) (A : Option Addr) (n : Nat) (xs : List Value) : Prop :=
  xs.length = n * size ∧ (0 < n → ∃ ad, A = some ad ∧ G ad.block ∧ ∀ j u, xs[j]? = some u → w.cell? (ad.add j) = some u)
section
variable {G G' F F' : Nat → Prop} {w w' : World} {size n : Nat} {A : Option Addr} {xs : List Value}
theorem Rd.none_ : Rd G w size A 0 [] := ⟨by simp, fun h => absurd h (by omega)⟩
theorem Rd.keep (h : Rd G w size A n xs) (hk : ∀ k, G k → G' k ∧ w'.heap[k]? = w.heap[k]?) : Rd G' w' size A n xs :=
  ⟨h.1, fun hn => by
    obtain ⟨ad, e, hb, hc⟩ := h.2 hn
    exact ⟨ad, e, (hk _ hb).1, fun j u hu => (World.cell?_of_block (by rw [block_of_add]; exact (hk _ hb).2)).trans (hc j u hu)⟩⟩
theorem Rd.ev (h : Rd (Mine F w) w size A n xs) (he : Ev F w F' w') : Rd (Mine F' w') w' size A n xs := h.keep fun k hk => ⟨he.mine hk, he.block hk⟩
theorem Rd.reads (h : Rd G w size A n xs) {B : Nat} (hB : ∀ k, G k → k < B) : Reads w B size A n xs :=
  ⟨h.1, fun hn => by
    obtain ⟨ad, e, hb, hc⟩ := h.2 hn
    exact ⟨ad, e, hB _ hb, hc⟩⟩
theorem Rd.readsM (h : Rd (Mine F w) w size A n xs) : Reads w w.heap.size size A n xs := h.reads fun _ hk => hk.1
theorem Rd.of_own {base : Nat} {e : TypeId} {c : Nat} (h : w.ownsRow base e size (.slice A n c) n xs) (hG : ∀ k, base ≤ k → k < w.heap.size → G k) : Rd G w size A n xs := by
  refine ⟨h.1, fun hn => ?_⟩
  obtain ⟨g, cap, hv, hb, hlt⟩ := h.form hn
  have hA : A = some ⟨g, 0, none⟩ := by injection hv
  subst hA
  exact ⟨_, rfl, hG g hb hlt, h.cells (g := g) rfl⟩
theorem Rd.cut (h : Rd G w size A n xs) {k cap : Nat} (hk : k ≤ n) (hc : n ≤ cap) :
    Rd G w size (if cap = k then A else A.map (·.add (k * size))) (n - k) (xs.drop (k * size)) := by
  refine ⟨by rw [List.length_drop, h.1, Nat.sub_mul], fun hn => ?_⟩
  obtain ⟨ad, rfl, hb, hcell⟩ := h.2 (by omega)
  rw [if_neg (by omega)]
  refine ⟨ad.add (k * size), rfl, by rw [block_of_add]; exact hb, fun j u hu => ?_⟩
  rw [add_of_add]
  exact hcell _ u (by rw [← hu, List.getElem?_drop])
theorem Rd.take (h : Rd G w size A n xs) {k : Nat} (hk : k ≤ n) : Rd G w size A k (xs.take (k * size)) := by
  refine ⟨by rw [List.length_take, h.1]; exact Nat.min_eq_left (Nat.mul_le_mul_right _ hk), fun h0 => ?_⟩
  obtain ⟨ad, e, hb, hc⟩ := h.2 (by omega)
  refine ⟨ad, e, hb, fun j u hu => hc j u ?_⟩
  have hj := (List.getElem?_eq_some_iff.1 hu).1
  rw [List.length_take] at hj
  rw [← hu, List.getElem?_take, if_pos (by omega)]
end
/-- A slice of bytes of the caller's. -/
def MB (F : Nat → Prop) (w : World) (A : Option Addr) (n : Nat) (l : List UInt8) : Prop := Rd (Mine F w) w 1 A n (bv l)
section
variable {F F' : Nat → Prop} {w w' : World} {n : Nat} {A : Option Addr} {l : List UInt8}
theorem MB.nil (A : Option Addr) : MB F w A 0 [] := ⟨by simp [bv], fun h => absurd h (by omega)⟩
theorem MB.len (h : MB F w A n l) : l.length = n := by have := h.1; simpa [bv] using this
theorem MB.ev (h : MB F w A n l) (he : Ev F w F' w') : MB F' w' A n l := Rd.ev h he
theorem MB.rb (h : MB F w A n l) : RB w w.heap.size A n l := Rd.readsM h
theorem MB.drewN (h : MB F w A n l) (k : Nat) : MB F (w.drewN k) A n l := h
theorem MB.drew (h : MB F w A n l) : MB F w.drew A n l := h
theorem MB.of_own {base c : Nat} (h : OB w base (.slice A n c) n l) (hG : ∀ k, base ≤ k → ¬ F k) : MB F w A n l := Rd.of_own h fun k hb hl => ⟨hl, hG k hb⟩
/-- What a call made that only makes bytes. -/
theorem MB.made {base c : Nat} (h : OB w' base (.slice A n c) n l) (hF : ∀ k, F k → k < base) : MB F w' A n l := MB.of_own h fun k hb hk => by have := hF k hk; omega
theorem MB.take (h : MB F w A n l) {k : Nat} (hk : k ≤ n) : MB F w A k (l.take k) := by
  have := Rd.take h hk
  rw [Nat.mul_one] at this
  unfold MB bv at *
  rw [List.map_take]
  exact this
theorem MB.cut (h : MB F w A n l) {k cap : Nat} (hk : k ≤ n) (hc : n ≤ cap) : MB F w (if cap = k then A else A.map (·.add k)) (n - k) (l.drop k) := by
  have := Rd.cut h hk hc
  rw [Nat.mul_one] at this
  unfold MB bv at *
  rw [List.map_drop]
  exact this
end
end Go.Proofs.YtiffnfgmkkoaeaaGreatDoor
namespace Go.Proofs.YtiffnfgmkkoaeaaGreatDoor
open Go.RowKit Go.Maps
set_option linter.unusedVariables false
/-- An element of a map as it is. -/
def heldE (v : Value) : Option (DataW Value × List MemPlace) := some (.held v, [])
def nilS : Value := .slice none 0 0
def updO (m : Nat → Option Value) (k : Nat) (v : Option Value) : Nat → Option Value := fun j => if j = k then v else m j
/-- What the map reads as, by numbers below N. -/
structure Keys (D : DataW Value) (N : Nat) (m : Nat → Option Value) : Prop where
  tidy : Tidy D
  only : ∀ kl, Maps.has D kl = true → ∃ k : Nat, k < N ∧ kl = .int .i64 (k : Int)
  some_ : ∀ k v, k < N → m k = some v → Maps.has D (.int .i64 (k : Int)) = true ∧ ∀ z, D.atKey (.int .i64 (k : Int)) z = .held v
  none_ : ∀ k, k < N → m k = none → Maps.has D (.int .i64 (k : Int)) = false
def IMap (w : World) (b N : Nat) (m : Nat → Option Value) : Prop := ∃ nn D, w.ownsMap Tryz.prog 3 heldE b nn D ∧ Keys D N m
theorem nodup_below : ∀ (N : Nat) (l : List Nat), l.Nodup → (∀ x ∈ l, x < N) → l.length ≤ N
  | 0, [], _, _ => Nat.le_refl _
  | 0, a :: r, _, h => absurd (h a (.head _)) (by omega)
  | N + 1, l, hd, h => by
    have h1 := nodup_below N (l.filter (fun x => x != N)) (hd.filter _) (fun x hx => by
      have h2 := List.mem_filter.1 hx
      have h3 := h x h2.1
      have h4 : x ≠ N := by simpa using h2.2
      omega)
    have h5 : l.length ≤ (l.filter (fun x => x != N)).length + 1 := by
      clear h1 h
      induction l with
      | nil => simp
      | cons a r ih =>
        have hd2 := List.nodup_cons.1 hd
        by_cases e : a = N
        · subst e
          have : r.filter (fun x => x != a) = r := List.filter_eq_self.2 fun x hx => by
            simp only [bne_iff_ne, ne_eq]; rintro rfl; exact hd2.1 hx
          rw [List.filter_cons_of_neg (by simp), this, List.length_cons]
          omega
        · rw [List.filter_cons_of_pos (by simpa using e), List.length_cons, List.length_cons]
          have := ih hd2.2
          omega
    omega
def keyN (p : Lit × DataW Value) : Nat := match p.1 with | .int _ a => a.toNat | _ => 0
theorem keys_size {D : DataW Value} {N : Nat} {m : Nat → Option Value} (h : Keys D N m) (he : ∃ es, D = .map es ∧ es.Pairwise (fun p q => p.1 ≠ q.1) ∧ ∀ p ∈ es, WideAt.IsKeyLit p.1) : Maps.size D ≤ N := by
  obtain ⟨es, rfl, hp, hlit⟩ := he
  rw [Maps.size_eq]
  have hk : ∀ p ∈ es, ∃ k : Nat, k < N ∧ p.1 = .int .i64 (k : Int) := fun p hp => h.only p.1 (by
    rw [Maps.has_eq]
    refine List.any_eq_true.2 ⟨p, hp, ?_⟩
    cases hs : p.1.sameKey p.1 with
    | true => rfl
    | false => exfalso; have hl := hlit p hp; cases e : p.1 <;> rw [e] at hs hl <;> simp [Lit.sameKey, WideAt.IsKeyLit] at hs hl)
  have hn : (es.map keyN).Nodup := by
    rw [List.Nodup, List.pairwise_map]
    refine List.Pairwise.imp_of_mem (fun {a b} ha hb hne => ?_) hp
    obtain ⟨i, _, ei⟩ := hk a ha
    obtain ⟨j, _, ej⟩ := hk b hb
    intro e
    apply hne
    unfold keyN at e
    rw [ei, ej] at e
    simp at e
    rw [ei, ej, e]
  have h := nodup_below N (es.map keyN) hn (fun x hx => by
    obtain ⟨p, hp, rfl⟩ := List.mem_map.1 hx
    obtain ⟨i, hi, ei⟩ := hk p hp
    unfold keyN
    rw [ei]
    simpa using hi)
  rw [List.length_map] at h
  exact h
theorem own_tight {w : World} {b nn : Nat} {D : DataW Value} (h : w.ownsMap Tryz.prog 3 heldE b nn D) : w.ownsMap Tryz.prog 3 heldE b (Maps.size D) D := by
  obtain ⟨es, clock, hb, F, hs, rfl⟩ := h
  refine ⟨es, clock, hb, F, ?_, rfl⟩
  simp [Maps.size, length_sorted]
section
variable {w w' : World} {b N : Nat} {m : Nat → Option Value}
theorem ikey (k : Nat) (hk : k < 9000000000000000000) : keyOf Tryz.prog 3 (.int .i64 (k : Int)) = some (.int .i64 (k : Int)) := keyOf_int_mk Tryz.underlying3 (WalkArith.wf_i64 (by omega))
theorem zero_bs (w : World) : (zeroValue 62).run Tryz.prog w = .ok nilS w := by kernel_rfl
theorem IMap.new (w : World) (N : Nat) : IMap (w.alloc (.map #[] 0)) w.heap.size N (fun _ => none) :=
  ⟨0, _, World.ownsMap_made w Tryz.prog 3 heldE, tidy_empty, fun kl h => (by cases h), fun k v _ h => (by cases h), fun _ _ _ => rfl⟩
theorem IMap.keep (h : IMap w b N m) (hb : w'.heap[b]? = w.heap[b]?) : IMap w' b N m := by
  obtain ⟨nn, D, ⟨es, clock, h1, r⟩, hk⟩ := h
  exact ⟨nn, D, ⟨es, clock, hb.trans h1, r⟩, hk⟩
theorem IMap.lt (h : IMap w b N m) : b < w.heap.size := by
  obtain ⟨nn, D, ho, _⟩ := h
  exact ho.lt
theorem IMap.ne (h : IMap w b N m) {g : Nat} {t : TypeId} {cs : Array Value} (hb : Blk w g t cs) : b ≠ g := by
  obtain ⟨nn, D, ⟨es, clock, h1, r⟩, hk⟩ := h
  rintro rfl
  unfold Blk at hb
  rw [h1] at hb
  cases hb
theorem IMap.look (h : IMap w b N m) (k : Nat) (hk : k < N) (hN : N ≤ 9000000000000000000) :
    (Instr.lookup 128 (.map (some b)) (.int .i64 (k : Int)) true).run Tryz.prog w = .ok (.tuple #[(m k).getD nilS, .bool (m k).isSome]) w := by
  obtain ⟨nn, D, ho, hK⟩ := h
  obtain ⟨v, ps, hr, hv⟩ := ho.look_ok (int_keyed Tryz.underlying3) Tryz.underlying128 (zero_bs w) (zd := .held nilS) (zp := []) rfl (ikey k (by omega))
  rw [hr]
  cases hm : m k with
  | none =>
    have h1 := hK.none_ k hk hm
    rw [atKey_of_not_has h1] at hv
    simp only [heldE, Option.some.injEq, Prod.mk.injEq, DataW.held.injEq] at hv
    rw [h1, hv.1]; rfl
  | some x =>
    obtain ⟨h1, h2⟩ := hK.some_ k x hk hm
    rw [h2] at hv
    simp only [heldE, Option.some.injEq, Prod.mk.injEq, DataW.held.injEq] at hv
    rw [h1, hv.1]; rfl
theorem isKey_i (k : Nat) : WideAt.IsKeyLit (.int .i64 (k : Int)) := trivial
theorem lit_ne {j k : Nat} (h : j ≠ k) : (Lit.int .i64 (j : Int)) ≠ .int .i64 (k : Int) := fun e => by injection e with _ e; omega
theorem Keys.put {D : DataW Value} (h : Keys D N m) (k : Nat) (hk : k < N) (v : Value) : Keys (D.put (.int .i64 (k : Int)) (.held v)) N (updO m k (some v)) := by
  refine ⟨h.tidy.put (isKey_i k) _, fun kl hkl => ?_, fun j u hj hu => ?_, fun j hj hu => ?_⟩
  · by_cases e : kl = .int .i64 (k : Int)
    · exact ⟨k, hk, e⟩
    · rw [has_put_other e] at hkl; exact h.only kl hkl
  · unfold updO at hu
    by_cases e : j = k
    · subst e
      rw [if_pos rfl] at hu
      injection hu with hu
      subst hu
      exact ⟨has_put_same h.tidy.isMap (isKey_i j) _, fun z => atKey_put_same h.tidy.isMap (isKey_i j) _ z⟩
    · rw [if_neg e] at hu
      obtain ⟨h1, h2⟩ := h.some_ j u hj hu
      exact ⟨by rw [has_put_other (lit_ne e)]; exact h1, fun z => by rw [atKey_put_other (lit_ne e)]; exact h2 z⟩
  · unfold updO at hu
    by_cases e : j = k
    · rw [if_pos e] at hu; cases hu
    · rw [if_neg e] at hu
      rw [has_put_other (lit_ne e)]; exact h.none_ j hj hu
theorem Keys.del {D : DataW Value} (h : Keys D N m) (k : Nat) : Keys (D.del (.int .i64 (k : Int))) N (updO m k none) := by
  refine ⟨h.tidy.del _, fun kl hkl => ?_, fun j u hj hu => ?_, fun j hj hu => ?_⟩
  · by_cases e : kl = .int .i64 (k : Int)
    · rw [e, has_del_same] at hkl; cases hkl
    · rw [has_del_other e] at hkl; exact h.only kl hkl
  · unfold updO at hu
    by_cases e : j = k
    · rw [if_pos e] at hu; cases hu
    · rw [if_neg e] at hu
      obtain ⟨h1, h2⟩ := h.some_ j u hj hu
      exact ⟨by rw [has_del_other (lit_ne e)]; exact h1, fun z => by rw [atKey_del_other (lit_ne e)]; exact h2 z⟩
  · unfold updO at hu
    by_cases e : j = k
    · subst e; exact has_del_same
    · rw [if_neg e] at hu
      rw [has_del_other (lit_ne e)]; exact h.none_ j hj hu
theorem IMap.update (h : IMap w b N m) (k : Nat) (hk : k < N) (hN : N ≤ 1000000000) (v : Value) :
    ∃ w', (Instr.mapUpdate 128 (.map (some b)) (.int .i64 (k : Int)) v).run Tryz.prog w = .ok () w' ∧ IMap w' b N (updO m k (some v)) ∧ w.grownBy w' (some b) := by
  obtain ⟨nn, D, ho, hK⟩ := h
  have hs := keys_size hK (ho.entries (int_keyed Tryz.underlying3))
  obtain ⟨w', hr, ho', hg⟩ := (own_tight ho).update (int_keyed Tryz.underlying3) Tryz.underlying128 (by unfold maxLen; omega) (ikey k (by omega)) (val := v) (d := .held v) (ps := []) rfl
  exact ⟨w', hr, ⟨_, _, ho', hK.put k hk v⟩, hg⟩
theorem IMap.drop (h : IMap w b N m) (k : Nat) (hk : k < 9000000000000000000) (ty : TypeId) :
    ∃ w', (Builtin.delete_ #[128, 3] ty #[.map (some b), .int .i64 (k : Int)]).run Tryz.prog w = .ok (.tuple #[]) w' ∧ IMap w' b N (updO m k none) ∧ w.grownBy w' (some b) := by
  obtain ⟨nn, D, ho, hK⟩ := h
  obtain ⟨w', hr, ho', hg⟩ := ho.drop (int_keyed Tryz.underlying3) Tryz.underlying128 (ikey k hk) ty
  exact ⟨w', hr, ⟨_, _, ho', hK.del k⟩, hg.grown⟩
end
end Go.Proofs.YtiffnfgmkkoaeaaGreatDoor
namespace Go.Proofs.YtiffnfgmkkoaeaaGreatDoor
set_option linter.unusedVariables false
/-- Keys, in order. -/
def ltK : List UInt8 → List UInt8 → Bool
  | _, [] => false
  | [], _ :: _ => true
  | a :: r, b :: s => if a.toNat < b.toNat then true else if b.toNat < a.toNat then false else ltK r s
theorem ltK_nil (a : List UInt8) : ltK a [] = false := by cases a <;> rfl
theorem ltK_irrefl : ∀ a, ltK a a = false
  | [] => rfl
  | a :: r => by rw [ltK, if_neg (by omega), if_neg (by omega), ltK_irrefl r]
theorem ltK_trans : ∀ a b c, ltK a b = true → ltK b c = true → ltK a c = true
  | _, _, [], _, h => by rw [ltK_nil] at h; cases h
  | _, [], _ :: _, h, _ => by rw [ltK_nil] at h; cases h
  | [], _ :: _, _ :: _, _, _ => rfl
  | a :: r, b :: s, c :: t, h, k => by
    rw [ltK] at h k ⊢
    by_cases h1 : a.toNat < b.toNat
    · by_cases h2 : b.toNat < c.toNat
      · rw [if_pos (by omega)]
      · rw [if_neg h2] at k
        by_cases h3 : c.toNat < b.toNat
        · rw [if_pos h3] at k; cases k
        · rw [if_pos (by omega)]
    · rw [if_neg h1] at h
      by_cases h2 : b.toNat < a.toNat
      · rw [if_pos h2] at h; cases h
      · rw [if_neg h2] at h
        by_cases h3 : b.toNat < c.toNat
        · rw [if_pos (by omega)]
        · rw [if_neg h3] at k
          by_cases h4 : c.toNat < b.toNat
          · rw [if_pos h4] at k; cases k
          · rw [if_neg h4] at k
            rw [if_neg (by omega), if_neg (by omega)]
            exact ltK_trans r s t h k
theorem ltK_asymm (a b : List UInt8) (h : ltK a b = true) : ltK b a = false := by
  cases hb : ltK b a with
  | false => rfl
  | true => have := ltK_trans a b a h hb; rw [ltK_irrefl] at this; cases this
theorem ltK_total : ∀ a b, ltK a b = false → ltK b a = false → a = b
  | [], [], _, _ => rfl
  | [], _ :: _, h, _ => by cases h
  | _ :: _, [], _, h => by cases h
  | a :: r, b :: s, h, k => by
    rw [ltK] at h k
    by_cases h1 : a.toNat < b.toNat
    · rw [if_pos h1] at h; cases h
    · rw [if_neg h1] at h
      by_cases h2 : b.toNat < a.toNat
      · rw [if_pos h2] at k; cases k
      · rw [if_neg h2] at h k
        rw [if_neg h1] at k
        have e : a = b := UInt8.toNat_inj.1 (by omega)
        rw [e, ltK_total r s h k]
theorem ltK_le_trans (a b c : List UInt8) (h : ltK a b = true) (k : ltK c b = false) : ltK a c = true := by
  cases hac : ltK a c with
  | true => rfl
  | false =>
    cases hca : ltK c a with
    | true => have := ltK_trans c a b hca h; rw [this] at k; cases k
    | false => have := ltK_total a c hac hca; subst this; rw [h] at k; cases k
theorem le_ltK_trans (a b c : List UInt8) (h : ltK b a = false) (k : ltK b c = true) : ltK a c = true := by
  cases hac : ltK a c with
  | true => rfl
  | false =>
    cases hab : ltK a b with
    | true => have := ltK_trans a b c hab k; rw [this] at hac; cases hac
    | false => have := ltK_total a b hab h; subst this; rw [k] at hac; cases hac
structure CellP where
  key : List UInt8
  val : List UInt8
  over : Nat
  long : Nat
structure NodeP where
  leaf : Bool
  cells : List CellP
  kids : List Nat
def childN (n : Nat) : Prop := 1 ≤ n ∧ n < 16777216
/-- What a leaf's cell has. -/
def CellOk (c : CellP) : Prop := (c.over = 0 ∧ c.long = 0 ∧ c.val.length ≤ 64) ∨ (childN c.over ∧ 64 < c.long ∧ c.long ≤ 20000 ∧ c.val = [])
/-- What an inner node's cell has. -/
def BareCell (c : CellP) : Prop := c.over = 0 ∧ c.long = 0 ∧ c.val = []
/-- Keys rise. -/
def RiseC : List CellP → Prop
  | [] => True
  | c :: r => (∀ d ∈ r, ltK c.key d.key = true) ∧ RiseC r
structure RightP (n : NodeP) : Prop where
  kidsLeaf : n.leaf = true → n.kids = []
  kidsIn : n.leaf = false → n.kids.length = n.cells.length + 1
  many : n.cells.length < 65536
  keys : ∀ c ∈ n.cells, 1 ≤ c.key.length ∧ c.key.length ≤ 120
  rise : RiseC n.cells
  vals : ∀ c ∈ n.cells, if n.leaf = true then CellOk c else BareCell c
  kidsOk : ∀ k ∈ n.kids, childN k
/-- A cell's bytes. -/
def cellB (leaf : Bool) (c : CellP) (kid : Nat) : List UInt8 :=
  UInt8.ofNat c.key.length :: (c.key ++ (if leaf = true then (if c.over = 0 then leB 2 c.val.length ++ c.val else leB 2 c.long ++ leB 3 c.over) else leB 3 kid))
def cellsB (leaf : Bool) : List CellP → List Nat → List UInt8
  | [], _ => []
  | c :: r, ks => cellB leaf c (ks.headD 0) ++ cellsB leaf r ks.tail
def headB (n : NodeP) : List UInt8 := (if n.leaf = true then 1 else 2) :: (leB 2 n.cells.length ++ (if n.leaf = true then [] else leB 3 (n.kids.headD 0)))
/-- A node's bytes. -/
def packP (n : NodeP) : List UInt8 := headB n ++ cellsB n.leaf n.cells n.kids.tail
/-- How many bytes a cell has. -/
def cellZ (leaf : Bool) (c : CellP) : Nat := 1 + c.key.length + (if leaf = true then (if c.over = 0 then 2 + c.val.length else 5) else 3)
def cellsZ (leaf : Bool) : List CellP → Nat
  | [] => 0
  | c :: r => cellZ leaf c + cellsZ leaf r
def sizeP (n : NodeP) : Nat := (if n.leaf = true then 3 else 6) + cellsZ n.leaf n.cells
theorem cellB_len (leaf : Bool) (c : CellP) (kid : Nat) : (cellB leaf c kid).length = cellZ leaf c := by
  unfold cellB cellZ
  cases leaf with
  | false => simp [leB_len]; omega
  | true =>
    by_cases h : c.over = 0
    · simp [leB_len, h]; omega
    · simp [leB_len, h]; omega
theorem cellsB_len (leaf : Bool) : ∀ cs ks, (cellsB leaf cs ks).length = cellsZ leaf cs
  | [], _ => rfl
  | c :: r, ks => by rw [cellsB, cellsZ, List.length_append, cellB_len, cellsB_len leaf r]
theorem packP_len (n : NodeP) : (packP n).length = sizeP n := by
  unfold packP sizeP headB
  rw [List.length_append, cellsB_len]
  cases n.leaf <;> simp [leB_len] <;> omega
theorem cellsB_append (leaf : Bool) : ∀ a b ks, cellsB leaf (a ++ b) ks = cellsB leaf a ks ++ cellsB leaf b (ks.drop a.length)
  | [], b, ks => by simp [cellsB]
  | c :: r, b, ks => by
    rw [List.cons_append, cellsB, cellsB, cellsB_append leaf r b, List.append_assoc, List.length_cons]
    congr 2
    cases ks <;> simp
/-- The bytes ahead of a cell. -/
def preB (n : NodeP) (i : Nat) : List UInt8 := headB n ++ cellsB n.leaf (n.cells.take i) n.kids.tail
theorem preB_zero (n : NodeP) : preB n 0 = headB n := by unfold preB; rw [List.take_zero, cellsB, List.append_nil]
theorem preB_succ (n : NodeP) (i : Nat) (hi : i < n.cells.length) : preB n (i + 1) = preB n i ++ cellB n.leaf n.cells[i] (n.kids.getD (i + 1) 0) := by
  unfold preB
  rw [List.take_succ_eq_append_getElem hi, cellsB_append, List.append_assoc, cellsB, cellsB, List.append_nil, List.length_take, Nat.min_eq_left (Nat.le_of_lt hi)]
  congr 3
  cases h : n.kids with
  | nil => simp
  | cons k r => simp [List.headD_eq_head?_getD, List.head?_drop]
theorem preB_all (n : NodeP) : preB n n.cells.length = packP n := by unfold preB packP; rw [List.take_length]
/-- What is behind a cell's beginning. -/
theorem packP_at (n : NodeP) (i : Nat) (hi : i < n.cells.length) : ∃ rest, packP n = preB n i ++ (cellB n.leaf n.cells[i] (n.kids.getD (i + 1) 0) ++ rest) := by
  refine ⟨cellsB n.leaf (n.cells.drop (i + 1)) (n.kids.tail.drop (i + 1)), ?_⟩
  have h := preB_succ n i hi
  have e : packP n = preB n (i + 1) ++ cellsB n.leaf (n.cells.drop (i + 1)) (n.kids.tail.drop (i + 1)) := by
    unfold packP preB
    rw [List.append_assoc]
    congr 1
    have := cellsB_append n.leaf (n.cells.take (i + 1)) (n.cells.drop (i + 1)) n.kids.tail
    rw [List.take_append_drop, List.length_take, Nat.min_eq_left (by omega)] at this
    exact this
  rw [e, h, List.append_assoc]
end Go.Proofs.YtiffnfgmkkoaeaaGreatDoor
namespace Go.Proofs.YtiffnfgmkkoaeaaGreatDoor
set_option linter.unusedVariables false
def zB (n : Nat) : List UInt8 := List.replicate n 0
theorem zB_len (n : Nat) : (zB n).length = n := by simp [zB]
/-- What a pager holds now: how many pages, the first free one, roots, pages. -/
structure PgS where
  many : Nat
  free : Nat
  roots : Nat → Nat
  page : Nat → List UInt8
def PgS.upd (st : PgS) (no : Nat) (b : List UInt8) : PgS := { st with page := fun k => if k = no then b else st.page k }
/-- A page that may be changed. -/
def PgS.has (st : PgS) (no : Nat) : Prop := 1 ≤ no ∧ no < st.many
/-- As it must be. -/
structure PgS.ok (st : PgS) : Prop where
  one : 1 ≤ st.many
  most : st.many ≤ 65536
  free : st.free < st.many
  roots : ∀ k, st.roots k < st.many
  len : ∀ no, st.has no → (st.page no).length = 508
def CanAlloc (st : PgS) : Prop := (st.free = 0 ∧ st.many < 65536) ∨ (st.free ≠ 0 ∧ numL ((st.page st.free).take 4) < st.many)
def allocN (st : PgS) : Nat := if st.free = 0 then st.many else st.free
def allocS (st : PgS) : PgS :=
  if st.free = 0 then { st.upd st.many (zB 508) with many := st.many + 1 } else { st.upd st.free (zB 508) with free := numL ((st.page st.free).take 4) }
def freeS (st : PgS) (no : Nat) : PgS := { st.upd no (leB 4 st.free ++ zB 504) with free := no }
def writeS (st : PgS) (no : Nat) (b : List UInt8) : PgS := st.upd no (b ++ zB (508 - b.length))
def setRootS (st : PgS) (k no : Nat) : PgS := { st with roots := fun j => if j = k then no else st.roots j }
theorem PgS.ok.upd {st : PgS} (h : st.ok) (no : Nat) (b : List UInt8) (hb : b.length = 508) : (st.upd no b).ok := by
  refine ⟨h.one, h.most, h.free, h.roots, fun k hk => ?_⟩
  show (if k = no then b else st.page k).length = 508
  split
  · exact hb
  · exact h.len k hk
theorem PgS.ok.freed {st : PgS} (h : st.ok) (no : Nat) (hn : st.has no) : (freeS st no).ok := by
  have h1 := h.upd no (leB 4 st.free ++ zB 504) (by rw [List.length_append, zB_len, leB_len])
  exact ⟨h1.one, h1.most, hn.2, h1.roots, h1.len⟩
theorem PgS.ok.set {st : PgS} (h : st.ok) (k no : Nat) (hn : no < st.many) : (setRootS st k no).ok := by
  refine ⟨h.one, h.most, h.free, fun j => ?_, h.len⟩
  show (if j = k then no else st.roots j) < st.many
  split
  · exact hn
  · exact h.roots j
theorem PgS.ok.alloc {st : PgS} (h : st.ok) (hc : CanAlloc st) : (allocS st).ok ∧ (allocS st).has (allocN st) := by
  unfold allocS allocN
  by_cases h0 : st.free = 0
  · rw [if_pos h0, if_pos h0]
    rcases hc with hc | hc
    · refine ⟨⟨by show 1 ≤ st.many + 1; omega, by show st.many + 1 ≤ 65536; omega, by show st.free < st.many + 1; have := h.free; omega, fun k => by show st.roots k < st.many + 1; have := h.roots k; omega, fun k hk => ?_⟩, by have := h.one; exact this, Nat.lt_succ_self _⟩
      show (if k = st.many then zB 508 else st.page k).length = 508
      by_cases e : k = st.many
      · rw [if_pos e, zB_len]
      · rw [if_neg e]
        exact h.len k ⟨hk.1, by have h2 : k < st.many + 1 := hk.2; omega⟩
    · exact absurd h0 hc.1
  · rw [if_neg h0, if_neg h0]
    rcases hc with hc | hc
    · exact absurd hc.1 h0
    · have h1 := h.upd st.free (zB 508) (zB_len _)
      exact ⟨⟨h1.one, h1.most, hc.2, h1.roots, h1.len⟩, by have := h.free; exact ⟨by omega, this⟩⟩
def IsNode (b : List UInt8) (n : NodeP) : Prop := RightP n ∧ ∃ z, b = packP n ++ zB z
def LoadR (st : PgS) (no : Nat) (n : NodeP) : Prop := st.has no ∧ IsNode (st.page no) n
/-- A node that may be laid on a page. -/
def CanSave (st : PgS) (no : Nat) (n : NodeP) : Prop := st.has no ∧ RightP n ∧ sizeP n ≤ 508
def saveS (st : PgS) (no : Nat) (n : NodeP) : PgS := writeS st no (packP n)
theorem load_saved {st : PgS} {no : Nat} {n : NodeP} (hc : CanSave st no n) : LoadR (saveS st no n) no n := by
  refine ⟨hc.1, hc.2.1, 508 - (packP n).length, ?_⟩
  show (if no = no then _ else _) = _
  rw [if_pos rfl]
/-- Where a key belongs. -/
def findI (cs : List CellP) (key : List UInt8) : Nat := (cs.takeWhile fun c => ltK c.key key).length
def keyAt (cs : List CellP) (i : Nat) (key : List UInt8) : Bool := match cs[i]? with | some c => c.key == key | none => false
def findP (n : NodeP) (key : List UInt8) : Nat × Bool :=
  if keyAt n.cells (findI n.cells key) key = true then (if n.leaf = true then findI n.cells key else findI n.cells key + 1, true) else (findI n.cells key, false)
inductive ChainR (st : PgS) : Nat → Nat → List (Nat × List UInt8) → Prop
  | nil (no : Nat) : ChainR st no 0 []
  | cons (no long : Nat) (l : List (Nat × List UInt8)) (h0 : 0 < long) (hn : st.has no) (hr : ChainR st (numL ((st.page no).take 3)) (long - 505) l) :
      ChainR st no long ((no, ((st.page no).drop 3).take (min long 505)) :: l)
def ValueR (st : PgS) (c : CellP) (b : List UInt8) : Prop := (c.over = 0 ∧ b = c.val) ∨ (c.over ≠ 0 ∧ ∃ l, ChainR st c.over c.long l ∧ b = l.flatMap (·.2))
def partP (n : NodeP) (a b : Nat) : NodeP := ⟨n.leaf, (n.cells.drop a).take (b - a), if n.leaf = true then [] else (n.kids.drop a).take (b + 1 - a)⟩
def skipN (n : NodeP) : Nat := if n.leaf = true then 0 else 1
def bigAt (n : NodeP) (m : Nat) : Nat := max (sizeP (partP n 0 m)) (sizeP (partP n (m + skipN n) n.cells.length))
/-- The best place to part a node, of those below j: how great, and where. -/
def bestTo (n : NodeP) : Nat → Nat × Nat
  | 0 => (0, 0)
  | j + 1 => if (1 ≤ j ∧ j + skipN n < n.cells.length) ∧ ((bestTo n j).1 = 0 ∨ bigAt n j < (bestTo n j).1) then (bigAt n j, j) else bestTo n j
def cutAt (n : NodeP) : Nat := (bestTo n n.cells.length).2
def keyOfC (cs : List CellP) (i : Nat) : List UInt8 := match cs[i]? with | some c => c.key | none => []
end Go.Proofs.YtiffnfgmkkoaeaaGreatDoor
namespace Go.Proofs.YtiffnfgmkkoaeaaGreatDoor
set_option linter.unusedVariables false
abbrev KeyB := List UInt8
/-- Between bounds: at or above the one, below the other. -/
def inB (lo : KeyB) (hi : Option KeyB) (x : KeyB) : Prop := ltK x lo = false ∧ ∀ t, hi = some t → ltK x t = true
/-- Strictly between. -/
def sepB (lo : KeyB) (hi : Option KeyB) (x : KeyB) : Prop := ltK lo x = true ∧ ∀ t, hi = some t → ltK x t = true
theorem sepB.inB {lo : KeyB} {hi : Option KeyB} {x : KeyB} (h : sepB lo hi x) : inB lo hi x := ⟨ltK_asymm _ _ h.1, h.2⟩
theorem le_ltK (a b c : KeyB) (h : ltK b a = false) (k : ltK c b = false) : ltK c a = false := by
  cases hca : ltK c a with
  | false => rfl
  | true => have := ltK_le_trans c a b hca h; rw [this] at k; cases k
/-- The kids of an inner node, with the keys between. -/
inductive Kids (T : KeyB → Option KeyB → Nat → List CellP → List Nat → Prop) : List CellP → List Nat → KeyB → Option KeyB → List CellP → List Nat → Prop
  | one (k : Nat) (lo : KeyB) (hi : Option KeyB) (L : List CellP) (P : List Nat) (h : T lo hi k L P) : Kids T [] [k] lo hi L P
  | more (c : CellP) (cs : List CellP) (k : Nat) (ks : List Nat) (lo : KeyB) (hi : Option KeyB) (l : List CellP) (p : List Nat) (L : List CellP) (P : List Nat) (hb : sepB lo hi c.key) (h : T lo (some c.key) k l p) (hr : Kids T cs ks c.key hi L P) :
      Kids T (c :: cs) (k :: ks) lo hi (l ++ L) (p ++ P)
section
variable {T T' : KeyB → Option KeyB → Nat → List CellP → List Nat → Prop} {cs : List CellP} {ks : List Nat} {lo : KeyB} {hi : Option KeyB} {L : List CellP} {P : List Nat}
theorem Kids.len (h : Kids T cs ks lo hi L P) : ks.length = cs.length + 1 := by
  induction h with
  | one => rfl
  | more _ _ _ _ _ _ _ _ _ _ _ _ _ ih => rw [List.length_cons, List.length_cons, ih]
theorem Kids.imp (h : Kids T cs ks lo hi L P) (f : ∀ lo hi k l p, (∀ x ∈ p, x ∈ P) → k ∈ ks → T lo hi k l p → T' lo hi k l p) : Kids T' cs ks lo hi L P := by
  induction h with
  | one k lo hi L P h => exact .one _ _ _ _ _ (f _ _ _ _ _ (fun _ h => h) (.head _) h)
  | more c cs k ks lo hi l p L P hb h hr ih =>
    exact .more _ _ _ _ _ _ _ _ _ _ hb (f _ _ _ _ _ (fun x hx => List.mem_append_left _ hx) (.head _) h) (ih fun lo hi k l q hq hk => f lo hi k l q (fun x hx => List.mem_append_right _ (hq x hx)) (.tail _ hk))
theorem Kids.keys (h : Kids T cs ks lo hi L P) (hT : ∀ lo hi k l p, T lo hi k l p → ∀ x ∈ l, inB lo hi x.key) : ∀ x ∈ L, inB lo hi x.key := by
  induction h with
  | one k lo hi L P h => exact hT _ _ _ _ _ h
  | more c cs k ks lo hi l p L P hb h hr ih =>
    intro x hx
    rcases List.mem_append.1 hx with hx | hx
    · have h1 := hT _ _ _ _ _ h x hx
      exact ⟨h1.1, fun t ht => ltK_trans _ _ _ (h1.2 _ rfl) (hb.2 t ht)⟩
    · have h1 := ih x hx
      exact ⟨le_ltK _ _ _ (ltK_asymm _ _ hb.1) h1.1, h1.2⟩
theorem Kids.seps (h : Kids T cs ks lo hi L P) : ∀ c ∈ cs, sepB lo hi c.key := by
  induction h with
  | one => intro c hc; cases hc
  | more c cs k ks lo hi l p L P hb h hr ih =>
    intro d hd
    rcases List.mem_cons.1 hd with rfl | hd
    · exact hb
    · have h1 := ih d hd
      exact ⟨ltK_trans _ _ _ hb.1 h1.1, h1.2⟩
theorem Kids.rise (h : Kids T cs ks lo hi L P) : RiseC cs := by
  induction h with
  | one => trivial
  | more c cs k ks lo hi l p L P hb h hr ih => exact ⟨fun d hd => (hr.seps d hd).1, ih⟩
theorem Kids.cut (h : Kids T cs ks lo hi L P) : ∀ (i : Nat) (c : CellP), cs[i]? = some c → ∃ L1 L2 P1 P2, L = L1 ++ L2 ∧ P = P1 ++ P2 ∧ Kids T (cs.take i) (ks.take (i + 1)) lo (some c.key) L1 P1 ∧ Kids T (cs.drop (i + 1)) (ks.drop (i + 1)) c.key hi L2 P2 ∧ sepB lo hi c.key := by
  induction h with
  | one => intro i c hc; simp at hc
  | more c cs k ks lo hi l p L P hb h hr ih =>
    intro i d hd
    cases i with
    | zero =>
      simp at hd
      subst hd
      exact ⟨l, L, p, P, rfl, rfl, .one _ _ _ _ _ h, hr, hb⟩
    | succ i =>
      rw [List.getElem?_cons_succ] at hd
      obtain ⟨L1, L2, P1, P2, rfl, rfl, h1, h2, h3⟩ := ih i d hd
      have hd2 := hr.seps d (List.mem_of_getElem? hd)
      exact ⟨l ++ L1, L2, p ++ P1, P2, (List.append_assoc ..).symm, (List.append_assoc ..).symm, .more _ _ _ _ _ _ _ _ _ _ ⟨hb.1, fun t ht => by injection ht with ht; rw [← ht]; exact hd2.1⟩ h h1, h2, ⟨ltK_trans _ _ _ hb.1 h3.1, h3.2⟩⟩
end
/-- A tree of a height: which page is its first, what its leaves have in order, its pages. -/
def TreeR (st : PgS) : Nat → Nat → KeyB → Option KeyB → Nat → List CellP → List Nat → Prop
  | 0, m, lo, hi, no, L, P => ∃ n, LoadR st no n ∧ m ≤ sizeP n ∧ (n.leaf = true ∧ L = n.cells ∧ ∀ c ∈ n.cells, inB lo hi c.key) ∧ P = [no]
  | h + 1, m, lo, hi, no, L, P => ∃ n Q, LoadR st no n ∧ m ≤ sizeP n ∧ (n.leaf = false ∧ Kids (fun lo hi k l p => TreeR st h 127 lo hi k l p) n.cells n.kids lo hi L Q) ∧ P = no :: Q
/-- What stands on a tree's first page. -/
def NodeT (st : PgS) : Nat → NodeP → KeyB → Option KeyB → List CellP → List Nat → Prop
  | 0, n, lo, hi, L, Q => n.leaf = true ∧ L = n.cells ∧ (∀ c ∈ n.cells, inB lo hi c.key) ∧ Q = []
  | h + 1, n, lo, hi, L, Q => n.leaf = false ∧ Kids (fun lo hi k l p => TreeR st h 127 lo hi k l p) n.cells n.kids lo hi L Q
section
variable {st st' : PgS} {h m no : Nat} {lo : KeyB} {hi : Option KeyB} {L : List CellP} {P : List Nat}
theorem TreeR.node (ht : TreeR st h m lo hi no L P) : ∃ n Q, LoadR st no n ∧ m ≤ sizeP n ∧ NodeT st h n lo hi L Q ∧ P = no :: Q := by
  cases h with
  | zero => obtain ⟨n, h1, h2, ⟨h3, h4, h5⟩, h6⟩ := ht; exact ⟨n, [], h1, h2, ⟨h3, h4, h5, rfl⟩, h6⟩
  | succ h => obtain ⟨n, Q, h1, h2, h3, h4⟩ := ht; exact ⟨n, Q, h1, h2, h3, h4⟩
theorem NodeT.tree {n : NodeP} {Q : List Nat} (ht : NodeT st h n lo hi L Q) (hl : LoadR st no n) (hm : m ≤ sizeP n) : TreeR st h m lo hi no L (no :: Q) := by
  cases h with
  | zero => obtain ⟨h1, h2, h3, rfl⟩ := ht; exact ⟨n, hl, hm, ⟨h1, h2, h3⟩, rfl⟩
  | succ h => exact ⟨n, Q, hl, hm, ht, rfl⟩
theorem TreeR.mem (ht : TreeR st h m lo hi no L P) : no ∈ P := by
  obtain ⟨n, Q, _, _, _, rfl⟩ := ht.node
  exact .head _
theorem TreeR.has (ht : TreeR st h m lo hi no L P) : st.has no := by
  obtain ⟨n, Q, h1, _⟩ := ht.node
  exact h1.1
theorem TreeR.mono {m' : Nat} (ht : TreeR st h m lo hi no L P) (hm : m' ≤ m) : TreeR st h m' lo hi no L P := by
  obtain ⟨n, Q, h1, h2, h3, rfl⟩ := ht.node
  exact h3.tree h1 (Nat.le_trans hm h2)
end
theorem TreeR.keys {st : PgS} : ∀ {h m : Nat} {lo : KeyB} {hi : Option KeyB} {no : Nat} {L : List CellP} {P : List Nat}, TreeR st h m lo hi no L P → ∀ x ∈ L, inB lo hi x.key
  | 0, _, _, _, _, _, _, ⟨n, _, _, ⟨_, rfl, h5⟩, _⟩ => h5
  | h + 1, _, _, _, _, _, _, ⟨n, Q, _, _, ⟨_, h4⟩, _⟩ => h4.keys fun _ _ _ _ _ ht => TreeR.keys ht
theorem TreeR.frame {st st' : PgS} (hm : st.many ≤ st'.many) : ∀ {h m : Nat} {lo : KeyB} {hi : Option KeyB} {no : Nat} {L : List CellP} {P : List Nat}, TreeR st h m lo hi no L P → (∀ x ∈ P, st'.page x = st.page x) → TreeR st' h m lo hi no L P
  | 0, _, _, _, no, _, _, ⟨n, h1, h2, h3, rfl⟩, hp => ⟨n, ⟨⟨h1.1.1, Nat.lt_of_lt_of_le h1.1.2 hm⟩, by rw [hp no (.head _)]; exact h1.2⟩, h2, h3, rfl⟩
  | h + 1, _, _, _, no, _, _, ⟨n, Q, h1, h2, ⟨h3, h4⟩, rfl⟩, hp =>
    ⟨n, Q, ⟨⟨h1.1.1, Nat.lt_of_lt_of_le h1.1.2 hm⟩, by rw [hp no (.head _)]; exact h1.2⟩, h2, ⟨h3, h4.imp fun _ _ _ _ p hq _ ht => TreeR.frame hm ht fun x hx => hp x (.tail _ (hq x hx))⟩, rfl⟩
theorem NodeT.frame {st st' : PgS} (hm : st.many ≤ st'.many) {h : Nat} {n : NodeP} {lo : KeyB} {hi : Option KeyB} {L : List CellP} {Q : List Nat} (ht : NodeT st h n lo hi L Q) (hp : ∀ x ∈ Q, st'.page x = st.page x) : NodeT st' h n lo hi L Q := by
  cases h with
  | zero => exact ht
  | succ h => exact ⟨ht.1, ht.2.imp fun _ _ _ _ p hq _ h2 => TreeR.frame hm h2 fun x hx => hp x (hq x hx)⟩
theorem NodeT.keys {st : PgS} {h : Nat} {n : NodeP} {lo : KeyB} {hi : Option KeyB} {L : List CellP} {Q : List Nat} (ht : NodeT st h n lo hi L Q) : ∀ x ∈ L, inB lo hi x.key := by
  cases h with
  | zero => obtain ⟨_, rfl, h3, _⟩ := ht; exact h3
  | succ h => exact ht.2.keys fun _ _ _ _ _ h2 => h2.keys
/-- What is read is between the bounds of a tree; lists in order. -/
theorem RiseC.append {a b : List CellP} (ha : RiseC a) (hb : RiseC b) (h : ∀ x ∈ a, ∀ y ∈ b, ltK x.key y.key = true) : RiseC (a ++ b) := by
  induction a with
  | nil => exact hb
  | cons c r ih =>
    refine ⟨fun d hd => ?_, ih ha.2 fun x hx => h x (.tail _ hx)⟩
    rcases List.mem_append.1 hd with hd | hd
    · exact ha.1 d hd
    · exact h c (.head _) d hd
theorem RiseC.left {a b : List CellP} (h : RiseC (a ++ b)) : RiseC a := by
  induction a with
  | nil => trivial
  | cons c r ih => exact ⟨fun d hd => h.1 d (List.mem_append_left _ hd), ih h.2⟩
theorem RiseC.right {a b : List CellP} (h : RiseC (a ++ b)) : RiseC b := by
  induction a with
  | nil => exact h
  | cons c r ih => exact ih h.2
theorem RiseC.between {a b : List CellP} (h : RiseC (a ++ b)) : ∀ x ∈ a, ∀ y ∈ b, ltK x.key y.key = true := by
  induction a with
  | nil => intro x hx; cases hx
  | cons c r ih =>
    intro x hx y hy
    rcases List.mem_cons.1 hx with rfl | hx
    · exact h.1 y (List.mem_append_right _ hy)
    · exact ih h.2 x hx y hy
theorem Kids.riseL {T : KeyB → Option KeyB → Nat → List CellP → List Nat → Prop} {cs : List CellP} {ks : List Nat} {lo : KeyB} {hi : Option KeyB} {L : List CellP} {P : List Nat} (h : Kids T cs ks lo hi L P)
    (hT : ∀ lo hi k l p, T lo hi k l p → ∀ x ∈ l, inB lo hi x.key) (hR : ∀ lo hi k l p, T lo hi k l p → RiseC l) : RiseC L := by
  induction h with
  | one k lo hi L P h => exact hR _ _ _ _ _ h
  | more c cs k ks lo hi l p L P hb h hr ih =>
    refine (hR _ _ _ _ _ h).append ih fun x hx y hy => ?_
    have h1 := (hT _ _ _ _ _ h x hx).2 _ rfl
    exact ltK_le_trans _ _ _ h1 (hr.keys hT y hy).1
theorem TreeR.rise {st : PgS} : ∀ {h m : Nat} {lo : KeyB} {hi : Option KeyB} {no : Nat} {L : List CellP} {P : List Nat}, TreeR st h m lo hi no L P → RiseC L
  | 0, _, _, _, _, _, _, ⟨n, h1, _, ⟨_, rfl, _⟩, _⟩ => h1.2.1.rise
  | h + 1, _, _, _, _, _, _, ⟨n, Q, _, _, ⟨_, h4⟩, _⟩ => h4.riseL (fun _ _ _ _ _ ht => TreeR.keys ht) fun _ _ _ _ _ ht => TreeR.rise ht
end Go.Proofs.YtiffnfgmkkoaeaaGreatDoor
namespace Go.Proofs.YtiffnfgmkkoaeaaGreatDoor
set_option linter.unusedVariables false
theorem exists_least (P : Nat → Prop) : ∀ n, P n → ∃ m, P m ∧ ∀ k, P k → m ≤ k := by
  intro n
  induction n using Nat.strongRecOn with
  | ind n ih =>
    intro hn
    by_cases h : ∃ k, k < n ∧ P k
    · obtain ⟨k, h1, h2⟩ := h
      exact ih k h1 h2
    · exact ⟨n, hn, fun k hk => by
        rcases Nat.lt_or_ge k n with h9 | h9
        · exact absurd ⟨k, h9, hk⟩ h
        · exact h9⟩
theorem least_fun {α : Type} (R : α → Nat → Prop) : ∃ mu : α → Nat, ∀ a, (∃ N, R a N) → R a (mu a) ∧ ∀ N, R a N → mu a ≤ N := by
  have h : ∀ a, ∃ m, (∃ N, R a N) → R a m ∧ ∀ N, R a N → m ≤ N := by
    intro a
    by_cases h : ∃ N, R a N
    · obtain ⟨N, hN⟩ := h
      obtain ⟨m, h1, h2⟩ := exists_least (R a) N hN
      exact ⟨m, fun _ => ⟨h1, h2⟩⟩
    · exact ⟨0, fun h2 => absurd h2 h⟩
  exact ⟨fun a => (h a).choose, fun a => (h a).choose_spec⟩
end Go.Proofs.YtiffnfgmkkoaeaaGreatDoor
namespace Go.Proofs.YtiffnfgmkkoaeaaGreatDoor
open Go.RowKit Go.Maps
set_option linter.unusedVariables false
theorem IMap.clear {w : World} {b N : Nat} {m : Nat → Option Value} (h : IMap w b N m) (ty : TypeId) :
    ∃ w', (Builtin.clear_ #[128] ty #[.map (some b)]).run Tryz.prog w = .ok (.tuple #[]) w' ∧ IMap w' b N (fun _ => none) ∧ w.grownBy w' (some b) := by
  obtain ⟨nn, D, ⟨es, clock, hb, hF, hs, rfl⟩, hK⟩ := h
  have hlt : b < w.heap.size := (Array.getElem?_eq_some_iff.1 hb).1
  refine ⟨{ w with heap := w.heap.setIfInBounds b (.map #[] clock) }, ?_, ⟨0, .map [], ⟨#[], clock, ?_, ⟨by simp, MapKept.stamped_empty clock, by simp⟩, Nat.le_refl _, rfl⟩, tidy_empty, fun kl h => (by cases h), fun k v _ h => (by cases h), fun _ _ _ => rfl⟩, ⟨rfl, rfl, rfl, by simp, fun i hi hne => ?_⟩⟩
  · simp [Builtin.clear_, run_underlying Tryz.underlying128, MapKept.run_getObj_map hb, MapKept.run_setObj_map _ hb]
  · simp [hlt]
  · show (w.heap.setIfInBounds b _)[i]? = _
    rw [Array.getElem?_setIfInBounds, if_neg (fun e => hne (by rw [e]))]
/-- No key is there. -/
theorem keys_none {D : DataW Value} {N : Nat} (h : Keys D N (fun _ => none)) (kl : Lit) : Maps.has D kl = false := by
  cases hh : Maps.has D kl with
  | false => rfl
  | true =>
    obtain ⟨k, hk, e⟩ := h.only kl hh
    have := h.none_ k hk rfl
    rw [← e, hh] at this; cases this
end Go.Proofs.YtiffnfgmkkoaeaaGreatDoor
namespace Go.Proofs.YtiffnfgmkkoaeaaGreatDoor
open Go.RowKit
set_option linter.unusedVariables false
theorem RI.one_new (w : World) (b : Int) (t : TypeId) : RI (w.alloc (.cells #[.int .i64 b] t)) (w.alloc (.cells #[.int .i64 b] t)).heap.size (some ⟨w.heap.size, 0, none⟩) 1 [b] := by
  refine ⟨by simp [iv], fun _ => ⟨_, rfl, by simp, fun j u hj => ?_⟩⟩
  match j, hj with
  | 0, hj => simp [iv] at hj; subst hj; simp [Addr.add]
end Go.Proofs.YtiffnfgmkkoaeaaGreatDoor
