/-
  Contracts of parse.patterns and parse.Deep.
-/
import Derived.Test.YtnhcamkccnaeeaaGreatDoorParA
namespace Go.Proofs.YtnhcamkccnaeeaaGreatDoor
open Go.RowKit
set_option linter.unusedVariables false

/-- A part lies at an address. -/
def AskAt (w : World) (p : Addr) (x : Ask) : Prop :=
  w.cell? p = some (.int .i64 x.kind) ∧ w.cell? ⟨p.block, p.off + 1, none⟩ = some (.int .i64 x.op) ∧ w.cell? ⟨p.block, p.off + 2, none⟩ = some (.int .i64 x.a) ∧ w.cell? ⟨p.block, p.off + 3, none⟩ = some (.int .i64 x.b) ∧
  w.cell? ⟨p.block, p.off + 4, none⟩ = some (.int .i64 x.n) ∧ w.cell? ⟨p.block, p.off + 5, none⟩ = some (.string (str x.text)) ∧ w.cell? ⟨p.block, p.off + 6, none⟩ = some (.bool x.isText)
theorem add_pos (p : Addr) (j : Nat) (h : j ≠ 0) : p.add j = ⟨p.block, p.off + j, none⟩ := by
  unfold Addr.add; rw [if_neg h]
theorem RA.elem {w : World} {B n : Nat} {A : Option Addr} {l : List Ask} (h : RA w B A n l) {k : Nat} (hk : k < n) (hl : k < l.length) : ∃ ad, A = some ad ∧ (ad.add (k * 7)).block < B ∧ AskAt w (ad.add (k * 7)) l[k] := by
  obtain ⟨ad, e, hb, hc⟩ := h.2 (by omega)
  have hc2 : ∀ j u, j < 7 → (av l[k])[j]? = some u → w.cell? (ad.add (k * 7 + j)) = some u := fun j u hj hu => hc _ u (by rw [avs_get l k j hl hj]; exact hu)
  have h0 := hc2 0 _ (by omega) rfl
  have h1 := hc2 1 _ (by omega) rfl
  have h2 := hc2 2 _ (by omega) rfl
  have h3 := hc2 3 _ (by omega) rfl
  have h4 := hc2 4 _ (by omega) rfl
  have h5 := hc2 5 _ (by omega) rfl
  have h6 := hc2 6 _ (by omega) rfl
  rw [← add_of_add, add_pos _ _ (by decide)] at h1 h2 h3 h4 h5 h6
  exact ⟨ad, e, by rw [block_of_add]; exact hb, h0, h1, h2, h3, h4, h5, h6⟩
theorem pats_next (l : List Ask) (k : Nat) (h : k < l.length) : patsL (l.take (k + 1)) = patsL (l.take k) + if isPat l[k] = true then 1 else 0 := by
  unfold patsL
  rw [List.take_succ_eq_append_getElem h, List.countP_append]
  simp [List.countP_cons]

set_option maxRecDepth 100000 in
set_option maxHeartbeats 1000000 in
theorem patterns_any (w : World) (A : Option Addr) (n c : Nat) (l : List Ask) (h : RA w w.heap.size A n l) (hn : n ≤ 100000) :
    Calls Tryz.prog 56 #[.slice A n c] w fun e w' => e = .returned (.int .i64 (patsL l : Int)) ∧ Below w.heap.size w w' := by
  have hlen := hide h.len
  replace h := hide h
  go_enter Tryz.func56, Tryz.ntmps56
  go_wp2_with fail
  go_loopw [3, 8] (fun v i wr => ∃ k : Nat, k ≤ n ∧ i = .int .i64 k ∧ v = .int .i64 (patsL (l.take k) : Int) ∧ Below w.heap.size w wr) (fun _ i _ => n - (intOf i).toNat)
  case atStart => exact ⟨0, by omega, rfl, rfl, Below.refl _ _⟩
  case round =>
    obtain ⟨k, hk, rfl, rfl, hbl⟩ := hrel
    have hsz := hbl.size
    by_cases h1 : k < n
    · have hkl : k < l.length := by have := hlen.out; omega
      obtain ⟨ad, rfl, hab, c0, c1, c2, c3, c4, c5, c6⟩ := (h.out.below hbl).elem h1 hkl
      have hs := hide (pats_next l k hkl)
      have hple : patsL (l.take k) ≤ 100000 := by
        have := List.countP_le_length (p := isPat) (l := l.take k)
        have h2 : (l.take k).length ≤ n := by simp; omega
        unfold patsL; omega
      generalize l[k] = x at *
      have hab2 : (ad.add (k * 7)).block < wr.heap.size := by omega
      by_cases e1 : x.kind = 9
      · have n1 : (x.kind == 9) = true := by simp [e1]
        have hi : Hid (patsL (l.take (k + 1)) = patsL (l.take k) + 1) := by rw [Hid, hs.out, if_pos (by simp [isPat, e1])]
        clear e1 hs
        go_wp2_with fail
        go_roundw
        case rel => exact ⟨k + 1, by omega, by go_num, by rw [hi.out]; go_num, hbl.alloc hsz _⟩
        case measure => simp [intOf]; omega
      · have n1 : (x.kind == 9) = false := by simp [e1]
        by_cases e2 : x.op = 7
        · have n2 : (x.op == 7) = true := by simp [e2]
          have hi : Hid (patsL (l.take (k + 1)) = patsL (l.take k) + 1) := by rw [Hid, hs.out, if_pos (by simp [isPat, e2])]
          clear e1 e2 hs
          go_wp2_with fail
          go_roundw
          case rel => exact ⟨k + 1, by omega, by go_num, by rw [hi.out]; go_num, hbl.alloc hsz _⟩
          case measure => simp [intOf]; omega
        · have n2 : (x.op == 7) = false := by simp [e2]
          have hi : Hid (patsL (l.take (k + 1)) = patsL (l.take k)) := by rw [Hid, hs.out, if_neg (by simp [isPat, e1, e2])]; rfl
          clear e1 e2 hs
          go_wp2_with fail
          go_roundw
          case rel => exact ⟨k + 1, by omega, by go_num, by rw [hi.out], hbl.alloc hsz _⟩
          case measure => simp [intOf]; omega
    · have hd : Hid (l.take k = l) := by
        show _ = _
        rw [List.take_of_length_le (by have := hlen.out; omega)]
      rw [hd.out]
      clear hd
      go_wp2_with fail
      go_ret
      exact ⟨rfl, hbl⟩

/-- The cells of the depths: those that are told, one that is being told, the rest. -/
def dc (ds : List Nat) (m r : Nat) : Array Value := (ds.map (fun d : Nat => Value.int .i64 (d : Int)) ++ (Value.int .i64 (m : Int) :: List.replicate r (Value.int .i64 0))).toArray
def dz (ds : List Nat) (r : Nat) : Array Value := (ds.map (fun d : Nat => Value.int .i64 (d : Int)) ++ List.replicate r (Value.int .i64 0)).toArray
theorem dz_dc (ds : List Nat) (r : Nat) : dz ds (r + 1) = dc ds 0 r := rfl
theorem dc_dz (ds : List Nat) (m r : Nat) : dc ds m r = dz (ds ++ [m]) r := by simp [dc, dz]
theorem dc_at (ds : List Nat) (m r : Nat) : (dc ds m r)[ds.length]? = some (.int .i64 (m : Int)) := by simp [dc]
theorem dc_lt (ds : List Nat) (m r k : Nat) (h : k < ds.length) : (dc ds m r)[k]? = some (.int .i64 ((ds[k] : Nat) : Int)) := by
  simp [dc, List.getElem?_append_left, h]
theorem dc_set (ds : List Nat) (m m' r : Nat) : (dc ds m r).setIfInBounds ds.length (.int .i64 (m' : Int)) = dc ds m' r := by
  simp [dc]
theorem dz_at (ds : List Nat) (r k : Nat) (h : k < ds.length) : (dz ds r)[k]? = some (.int .i64 ((ds[k] : Nat) : Int)) := by
  simp [dz, List.getElem?_append_left, h]
theorem made_dz (n : Nat) : madeCells (Value.int .i64 0).cells (n * 1) = dz [] n := by
  unfold madeCells dz
  apply Array.ext
  · simp
  · intro i h1 h2
    simp [Value.cells, Nat.mod_one]
theorem int_info : (Tryz.prog.info? 3).map (fun i => (i.zero, i.size, i.bytes)) = some (some (.int .i64 0), 1, 8) := by kernel_rfl
theorem make_ints (n : Nat) (hn : n ≤ 100000) (w : World) : (Instr.makeSlice 40 (.int .i64 (n : Int)) (.int .i64 (n : Int))).run Tryz.prog w = .ok (.slice (some ⟨w.heap.size, 0, none⟩) n n) (w.alloc (.cells (dz [] n) 3)) := by
  obtain ⟨i0, hi, hz0, hz1, hz2⟩ := info_parts int_info
  rw [run_make_rowN 40 3 i0 (.int .i64 0) Tryz.underlying40 hi hz0 .i64 .i64 n n (Nat.le_refl _) (by rw [hz2]; omega) (by omega) w, hz1, made_dz]
theorem idx2_0 (x y : Int) (w : World) : (Instr.index 116 (.agg #[.int .i64 x, .int .i64 y]) (.int .i64 ((0 : Nat) : Int))).run Tryz.prog w = .ok (.int .i64 x) w := by kernel_rfl
theorem idx2_1 (x y : Int) (w : World) : (Instr.index 116 (.agg #[.int .i64 x, .int .i64 y]) (.int .i64 ((1 : Nat) : Int))).run Tryz.prog w = .ok (.int .i64 y) w := by kernel_rfl
def inM (ds : List Nat) (x y : Int) (j : Nat) : Nat := if j = 0 then 0 else if j = 1 then deepAt ds x else max (deepAt ds x) (deepAt ds y)
theorem deepAt_out (ds : List Nat) (k : Int) (h : ¬ (0 ≤ k ∧ k < ds.length)) : deepAt ds k = 0 := by
  unfold deepAt; rw [if_neg h]
theorem deeps_next (l : List Ask) (k : Nat) (h : k < l.length) : deeps [] (l.take (k + 1)) = deeps [] (l.take k) ++ [deepNext (deeps [] (l.take k)) l[k]] := by
  rw [List.take_succ_eq_append_getElem h, deeps_append]; rfl
theorem deepAt_le (ds : List Nat) (k : Int) (b : Nat) (h : ∀ d ∈ ds, d ≤ b) : deepAt ds k ≤ b := by
  unfold deepAt
  split
  · rename_i hk
    have h2 : k.toNat < ds.length := by omega
    simp only [List.getD, List.getElem?_eq_getElem h2, Option.getD_some]
    exact h _ (List.getElem_mem _)
  · omega

theorem deeps_le (l : List Ask) : ∀ (ds : List Nat), (∀ d ∈ ds, d ≤ ds.length) → ∀ d ∈ deeps ds l, d ≤ (deeps ds l).length := by
  induction l with
  | nil => intro ds h; exact h
  | cons x l ih =>
    intro ds h
    refine ih _ fun d hd => ?_
    rw [List.length_append, List.length_singleton]
    rcases List.mem_append.1 hd with hd | hd
    · have := h d hd; omega
    · simp at hd
      subst hd
      have h1 := deepAt_le ds x.a ds.length h
      have h2 := deepAt_le ds x.b ds.length h
      unfold deepNext; omega

set_option maxRecDepth 100000 in
set_option maxHeartbeats 2000000 in
theorem deep_any (w : World) (A : Option Addr) (n c : Nat) (l : List Ask) (h : RA w w.heap.size A n l) (hn : n ≤ 100000) :
    Calls Tryz.prog 38 #[.slice A n c] w fun e w' => e = .returned (.int .i64 (deepL l : Int)) ∧ Below w.heap.size w w' := by
  have hlen := hide h.len
  replace h := hide h
  have hmk := make_ints n hn
  go_enter Tryz.func38, Tryz.ntmps38
  go_wp2_with fail
  clear hmk
  go_loopw [13] (fun i wr => ∃ k : Nat, k ≤ n ∧ i = .int .i64 k ∧ Blk wr w.heap.size 3 (dz (deeps [] (l.take k)) (n - k)) ∧ Below w.heap.size w wr) (fun i _ => n - (intOf i).toNat)
  case atStart => exact ⟨0, by omega, rfl, Blk.new w 3 (dz [] n), (Below.refl _ _).alloc (Nat.le_refl _) _⟩
  case round =>
    obtain ⟨k, hk, rfl, hB, hbl⟩ := hrel
    have hsz := hB.lt
    have hdl : (deeps [] (l.take k)).length = k := by rw [deeps_len]; simp; have := hlen.out; omega
    have hdb := deeps_le (l.take k) [] (fun _ h => by cases h)
    rw [hdl] at hdb
    by_cases h1 : k < n
    · have hkl : k < l.length := by have := hlen.out; omega
      obtain ⟨ad, rfl, hab, c0, c1, c2, c3, c4, c5, c6⟩ := (h.out.below hbl).elem h1 hkl
      have hs := hide (deeps_next l k hkl)
      generalize l[k] = x at *
      generalize deeps [] (l.take k) = ds at *
      have hab2 : (ad.add (k * 7)).block < wr.heap.size := by omega
      obtain ⟨r, hr⟩ : ∃ r, n - k = r + 1 := ⟨n - k - 1, by omega⟩
      rw [hr, dz_dc] at hB
      replace hB := hide hB
      replace hdl := hide hdl
      replace hdb := hide hdb
      replace hr := hide hr
      go_wp2_with fail
      obtain ⟨xa, hxa⟩ : ∃ a, a = x.a := ⟨_, rfl⟩
      obtain ⟨xb, hxb⟩ : ∃ a, a = x.b := ⟨_, rfl⟩
      rw [← hxa, ← hxb]
      replace hxa := hide hxa
      replace hxb := hide hxb
      have hB0 := hide (hB.out.alloc (.cells #[.int .i64 x.kind, .int .i64 x.op, .int .i64 xa, .int .i64 xb, .int .i64 x.n, .string (str x.text), .bool x.isText] 54))
      have hbl0 := hbl.alloc (by omega) (.cells #[.int .i64 x.kind, .int .i64 x.op, .int .i64 xa, .int .i64 xb, .int .i64 x.n, .string (str x.text), .bool x.isText] 54)
      obtain ⟨wo, hwo⟩ : ∃ o, o = wr.alloc (.cells #[.int .i64 x.kind, .int .i64 x.op, .int .i64 xa, .int .i64 xb, .int .i64 x.n, .string (str x.text), .bool x.isText] 54) := ⟨_, rfl⟩
      rw [← hwo]
      rw [← hwo] at hB0 hbl0
      clear hwo hB hbl c0 c1 c2 c3 c4 c5 c6 hab2
      go_loopw [23] (fun j wi => ∃ i : Nat, i ≤ 2 ∧ j = .int .i64 i ∧ Blk wi w.heap.size 3 (dc ds (inM ds xa xb i) r) ∧ Below w.heap.size w wi) (fun j _ => 2 - (intOf j).toNat)
      case atStart => exact ⟨0, by omega, rfl, hB0.out, hbl0⟩
      case round =>
        clear hB0 hbl0
        obtain ⟨i, hi, rfl, hB, hbl⟩ := hrel
        by_cases h2 : i < 2
        · obtain ⟨K, hK, hM⟩ : ∃ K : Int, (∀ w, (Instr.index 116 (.agg #[.int .i64 xa, .int .i64 xb]) (.int .i64 (i : Int))).run Tryz.prog w = .ok (.int .i64 K) w) ∧ Hid (inM ds xa xb (i + 1) = max (inM ds xa xb i) (deepAt ds K)) := by
            match i, h2 with
            | 0, _ => exact ⟨xa, idx2_0 xa xb, by simp [Hid, inM]⟩
            | 1, _ => exact ⟨xb, idx2_1 xa xb, by simp [Hid, inM]⟩
          have hfz := hB.frozen k
          have hck := hB.cell k
          rw [← hdl.out] at hck
          rw [dc_at, hdl.out] at hck
          by_cases k0 : 0 ≤ K
          · by_cases k1 : K < k
            · obtain ⟨kk, rfl⟩ := Int.eq_ofNat_of_zero_le k0
              have hkk : kk < ds.length := by rw [hdl.out]; omega
              have hcj := hB.cell kk
              rw [dc_lt ds _ r kk hkk] at hcj
              have hdA := deepAt_in ds kk hkk
              have hdle := deepAt_le ds (kk : Int) k hdb.out
              have hMle : inM ds xa xb i ≤ 100000 := by
                have h3 := deepAt_le ds xa k hdb.out
                have h4 := deepAt_le ds xb k hdb.out
                unfold inM
                split
                · omega
                · split <;> omega
              rw [← hdA] at hcj
              replace hB := hide hB
              clear hdA
              generalize deepAt ds (kk : Int) = dk at *
              generalize inM ds xa xb i = mm at *
              go_wp2_with fail
              go_region
              go_wp2_with fail
              go_roundw
              case rel =>
                refine ⟨i + 1, by omega, by go_num, ?_, (below_set hbl (Nat.le_refl _) _).drew⟩
                rw [show max (mm : Int) (dk : Int) = ((max mm dk : Nat) : Int) from by omega, hM.out, ← dc_set ds mm (max mm dk) r, hdl.out]
                exact (hB.out.set_ k _).drew
              case measure => simp [intOf]; omega
            · have hMs : Hid (inM ds xa xb (i + 1) = inM ds xa xb i) := by rw [Hid, hM.out, deepAt_out ds K (by rw [hdl.out]; omega)]; simp
              replace hB := hide hB
              clear hM
              go_wp2_with fail
              go_roundw
              case rel => exact ⟨i + 1, by omega, by go_num, by rw [hMs.out]; exact hB.out, hbl⟩
              case measure => simp [intOf]; omega
          · have hMs : Hid (inM ds xa xb (i + 1) = inM ds xa xb i) := by rw [Hid, hM.out, deepAt_out ds K (by omega)]; simp
            replace hB := hide hB
            clear hM
            go_wp2_with fail
            go_roundw
            case rel => exact ⟨i + 1, by omega, by go_num, by rw [hMs.out]; exact hB.out, hbl⟩
            case measure => simp [intOf]; omega
        · have hi2 : i = 2 := by omega
          subst hi2
          have hfz := hB.frozen k
          have hck := hB.cell k
          rw [← hdl.out] at hck
          rw [dc_at, hdl.out] at hck
          have hMle : inM ds xa xb 2 ≤ 100000 := by
            have h3 := deepAt_le ds xa k hdb.out
            have h4 := deepAt_le ds xb k hdb.out
            show max _ _ ≤ _
            omega
          have hnx : Hid (deepNext ds x = inM ds xa xb 2 + 1) := by rw [Hid, hxa.out, hxb.out]; rfl
          replace hB := hide hB
          generalize inM ds xa xb 2 = mm at *
          go_wp2_with fail
          go_roundw
          case rel =>
            refine ⟨k + 1, by omega, by go_num, ?_, below_set hbl (Nat.le_refl _) _⟩
            rw [hs.out, hnx.out, show n - (k + 1) = r from by have := hr.out; omega, ← dc_dz, ← dc_set ds mm (mm + 1) r, hdl.out]
            exact hB.out.set_ k _
          case measure => simp [intOf]; omega
    · have hkn : k = n := by omega
      subst hkn
      have htk : l.take k = l := by rw [List.take_of_length_le (by have := hlen.out; omega)]
      rw [htk] at hB hdl
      by_cases hz : k = 0
      · subst hz
        have hr : Hid (deepL l = 0) := by
          have : l = [] := List.eq_nil_of_length_eq_zero hlen.out
          subst this; rfl
        clear hB hdl hdb
        go_wp2_with fail
        go_ret
        exact ⟨ret_int (by rw [hr.out]; rfl), hbl⟩
      · have hck := hB.cell (k - 1)
        rw [dz_at _ _ (k - 1) (by omega)] at hck
        have hr : Hid (deepL l = (deeps [] l)[k - 1]'(by omega)) := by
          show _ = _
          unfold deepL
          rw [List.getLastD_eq_getLast?, List.getLast?_eq_getElem?]
          have e : (deeps [] l).length - 1 = k - 1 := by rw [hdl]
          simp only [e]
          rw [List.getElem?_eq_getElem (by omega)]; rfl
        rw [← hr.out] at hck
        clear hB hdl hdb hr
        go_wp2_with fail
        go_ret
        exact ⟨rfl, hbl⟩
end Go.Proofs.YtnhcamkccnaeeaaGreatDoor
