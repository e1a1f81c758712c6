/-
  Contract of vfs.put: bytes go into the slots; what the slots hold is left open.
-/
import Derived.Test.YthohbbaglceppaaGreatDoorUVM
import Derived.Laws.CopyOwn
namespace Go.Proofs.YthohbbaglceppaaGreatDoor
open Go.RowKit Go.Maps
set_option linter.unusedVariables false
theorem slice_sector (w : World) (gs o r : Nat) (hr : r < 64) : (Instr.sliceAt 179 (.pointer (some ⟨gs, o, none⟩)) (some (.int .i64 (r : Int))) none none).run Tryz.prog w = .ok (.slice (some ⟨gs, o + r, none⟩) (64 - r) (64 - r)) w := by
  have hl : Tryz.prog.arrayLen 179 = 64 := by kernel_rfl
  have h := run_sliceAt_array_l (P := Tryz.prog) w 179 ⟨gs, o, none⟩ (by kernel_rfl) .i64 (r : Int) (by omega) (by rw [hl]; omega)
  have hz : (sizeOf (Tryz.prog.elem 179)).run Tryz.prog w = .ok 1 w := by kernel_rfl
  rw [h, hz, hl]
  show Result.ok _ w = _
  unfold slicedAt
  have e1 : ((r : Int)).toNat = r := by omega
  rw [e1, if_neg (by omega), Nat.mul_one]
  unfold Addr.add
  split
  · rename_i h0; subst h0; rfl
  · rfl
def PutRel (w : World) (B g k n stx gs cap gb ao n0 c0 at0 : Nat) (v1 v2 : Value) (wx : World) : Prop :=
  ∃ (i X : Nat) (A' : Option Addr) (c' : Nat), X = at0 + i ∧ v1 = .int .i64 (X : Int) ∧ v2 = .slice A' (n0 - i) c' ∧ i ≤ n0 ∧ (i < n0 → A' = some ⟨gb, ao + i, none⟩ ∧ c' = c0 - i) ∧
    Blk wx g 175 #[.slice (some ⟨gs, 0, none⟩) k cap, .int .i64 (n : Int), .int .i64 (stx : Int)] ∧ Only (fun j => j = gs) w wx ∧ (∃ cur : List Value, wx.heap[gs]? = some (.cells cur.toArray 181 (0, 0)) ∧ cur.length = cap * 129 ∧ OneL (cur.take (k * 129)))
def remOf (v : Value) : Nat := match v with | .slice _ n _ => n | _ => 0
set_option maxRecDepth 100000 in
set_option maxHeartbeats 2000000 in
theorem put_any (w : World) (B g k n gs cap gb ao n0 c0 at0 stx : Nat) (b : List UInt8) (hb : Blk w g 175 #[.slice (some ⟨gs, 0, none⟩) k cap, .int .i64 (n : Int), .int .i64 (stx : Int)])
    (cur0 : List Value) (hs : w.heap[gs]? = some (.cells cur0.toArray 181 (0, 0))) (hcur : cur0.length = cap * 129) (hone0 : OneL (cur0.take (k * 129))) (hkc : k ≤ cap) (hk : k ≤ 100000) (hn0 : n0 ≤ c0) (hc0 : c0 ≤ 9223372036854775807) (hat : at0 + n0 ≤ 64 * k) (hgs : gb ≠ gs) (hne : g ≠ gs)
    (hrb : ∀ i, i < n0 → ∃ x : UInt8, w.cell? ⟨gb, ao + i, none⟩ = some (.int .u8 (x.toNat : Int))) :
    Calls Tryz.prog 159 #[.pointer (some ⟨g, 0, none⟩), .int .i64 (at0 : Int), .slice (some ⟨gb, ao, none⟩) n0 c0] w fun e w' => e = .returned (.tuple #[]) ∧
      Blk w' g 175 #[.slice (some ⟨gs, 0, none⟩) k cap, .int .i64 (n : Int), .int .i64 (stx : Int)] ∧ Only (fun j => j = gs) w w' ∧ (∃ cur : List Value, w'.heap[gs]? = some (.cells cur.toArray 181 (0, 0)) ∧ cur.length = cap * 129 ∧ OneL (cur.take (k * 129))) := by
  have hrel0 : Hid (PutRel w B g k n stx gs cap gb ao n0 c0 at0 (.int .i64 (at0 : Int)) (.slice (some ⟨gb, ao, none⟩) n0 c0) w) :=
    hide ⟨0, at0, some ⟨gb, ao, none⟩, c0, by simp, rfl, by simp, by omega, fun _ => ⟨by simp, by simp⟩, hb, Only.refl _ w, ⟨cur0, hs, hcur, hone0⟩⟩
  replace hb := hide hb
  replace hs := hide hs
  replace hcur := hide hcur
  replace hrb := hide hrb
  replace hone0 := hide hone0
  go_enter Tryz.func159, Tryz.ntmps159
  go_wp2_with fail
  go_loopw [1, 2] (fun v1 v2 wx => Hid (PutRel w B g k n stx gs cap gb ao n0 c0 at0 v1 v2 wx)) (fun _ v2 _ => remOf v2)
  case atStart => exact hrel0
  case round =>
    obtain ⟨i, X, A', c', hX, rfl, rfl, hi, hA, hbx, hOx, curx, hsx, hcx, hox⟩ := hrel.out
    replace hox := hide hox
    clear hrel
    have d0 := hbx.cell 0
    rcases Nat.lt_or_ge i n0 with hlt | hge
    · obtain ⟨rfl, rfl⟩ := hA hlt
      clear hA
      obtain ⟨R, hR⟩ : ∃ R, R = n0 - i := ⟨_, rfl⟩
      obtain ⟨C, hC⟩ : ∃ C, C = c0 - i := ⟨_, rfl⟩
      obtain ⟨q, hq⟩ : ∃ q, q = X / 64 := ⟨_, rfl⟩
      obtain ⟨r, hr⟩ : ∃ r, r = X % 64 := ⟨_, rfl⟩
      rw [← hR, ← hC]
      have hRp : 0 < R := by omega
      have hRI : (0 : Int) < (R : Int) := by omega
      have hqk : q < k := by omega
      have hr64 : r < 64 := by omega
      have hqI : (X : Int).tdiv 64 = (q : Int) := by rw [Int.tdiv_eq_ediv_of_nonneg (by omega)]; omega
      have hrI : (X : Int).tmod 64 = (r : Int) := by rw [Int.tmod_eq_emod_of_nonneg (by omega)]; omega
      have hqI2 : (X : Int) / 64 = (q : Int) := by omega
      have hrI2 : (X : Int) % 64 = (r : Int) := by omega
      have hsl := slice_sector wr gs (q * 129) r hr64
      obtain ⟨L, hL⟩ : ∃ L, L = Nat.min R (64 - r) := ⟨_, rfl⟩
      have hLR : L ≤ R ∧ L ≤ 64 - r ∧ 0 < L := by rw [hL]; show min R (64 - r) ≤ R ∧ min R (64 - r) ≤ 64 - r ∧ 0 < min R (64 - r); omega
      obtain ⟨cs, hcs⟩ : ∃ cs : List Value, cs = (List.range L).map fun j => (wr.cell? ⟨gb, ao + i + j, none⟩).getD undef := ⟨_, rfl⟩
      have hcl : cs.length = L := by rw [hcs]; simp
      have hby : ∀ j, j < L → ∃ x : UInt8, wr.cell? ⟨gb, ao + i + j, none⟩ = some (.int .u8 (x.toNat : Int)) := by
        intro j hj
        obtain ⟨x, hx⟩ := hrb.out (i + j) (by omega)
        have hbl : gb < w.heap.size := by
          rcases Nat.lt_or_ge gb w.heap.size with h | h
          · exact h
          · unfold World.cell? at hx; simp [Array.getElem?_eq_none h] at hx
        refine ⟨x, ?_⟩
        rw [World.cell?_of_block (w := w) (hOx.block gb hbl hgs), ← hx, Nat.add_assoc]
      have hsrc : ∀ j v, cs[j]? = some v → wr.cell? ((⟨gb, ao + i, none⟩ : Addr).add j) = some v := by
        intro j v hj
        have hjl : j < L := by
          rcases Nat.lt_or_ge j L with h | h
          · exact h
          · rw [List.getElem?_eq_none (by omega)] at hj; cases hj
        obtain ⟨x, hx⟩ := hby j hjl
        have e : (⟨gb, ao + i, none⟩ : Addr).add j = ⟨gb, ao + i + j, none⟩ := by
          unfold Addr.add
          split
          · rename_i h0; subst h0; rfl
          · rfl
        rw [e, hx]
        rw [hcs] at hj
        simp [hjl, hx] at hj
        rw [hj]
      have hone : ∀ v ∈ cs, v.oneCell' = true := by
        intro v hv
        rw [hcs] at hv
        obtain ⟨j, hj, rfl⟩ := List.mem_map.1 hv
        obtain ⟨x, hx⟩ := hby j (List.mem_range.1 hj)
        rw [hx]; rfl
      replace hcs := hide hcs
      replace hby := hide hby
      replace hL := hide hL
      have hfit : q * 129 + r + cs.length ≤ curx.toArray.size := by simp; omega
      obtain ⟨N1, hN1⟩ : ∃ N1, N1 = (List.take (q * 129 + r) curx ++ (cs ++ List.drop (q * 129 + r + L) curx)).toArray := ⟨_, rfl⟩
      have hNs : N1.size = cap * 129 := by rw [hN1]; simp; omega
      have hB2 : Blk (wr.setRow gs N1) gs 181 N1 := setRow_heap wr gs _ N1 181 (0, 0) hsx
      have hq129 : q * 129 + 128 < cap * 129 := by omega
      have e128 := hB2.cell (q * 129 + 128)
      obtain ⟨u128, hu128⟩ : ∃ u, N1[q * 129 + 128]? = some u := ⟨_, Array.getElem?_eq_getElem (by omega)⟩
      rw [hu128] at e128
      replace hu128 := hide hu128
      have f128 := hB2.frozen (q * 129 + 128)
      have hB3 := hB2.set_ (q * 129 + 128) (.bool true)
      have hOs : Only (fun j => j = gs) wr (wr.setRow gs N1) := ⟨rfl, rfl, rfl, by simp [World.setRow], fun k hk hne => setRow_other wr gs k N1 hne⟩
      have hO3 : Only (fun j => j = gs) w ((wr.setRow gs N1).setCell ⟨gs, q * 129 + 128, none⟩ (.bool true)) :=
        (hOx.trans hOs fun i _ h => h).setCell (p := ⟨gs, q * 129 + 128, none⟩) (fun _ => rfl) _
      have hbx3 : Blk ((wr.setRow gs N1).setCell ⟨gs, q * 129 + 128, none⟩ (.bool true)) g 175 #[.slice (some ⟨gs, 0, none⟩) k cap, .int .i64 (n : Int), .int .i64 (stx : Int)] :=
        Blk.far (p := ⟨gs, q * 129 + 128, none⟩) (show Blk (wr.setRow gs N1) g _ _ from (setRow_other wr gs g N1 hne).trans hbx) hne _
      have hcur3 : ∃ cur : List Value, ((wr.setRow gs N1).setCell ⟨gs, q * 129 + 128, none⟩ (.bool true)).heap[gs]? = some (.cells cur.toArray 181 (0, 0)) ∧ cur.length = cap * 129 ∧ OneL (cur.take (k * 129)) := by
        refine ⟨(N1.setIfInBounds (q * 129 + 128) (.bool true)).toList, by rw [Array.toArray_toList]; exact hB3, by simp; omega, fun j u hj => ?_⟩
        rw [List.getElem?_take] at hj
        split at hj
        · rename_i hjk
          rw [Array.toList_setIfInBounds, List.getElem?_set] at hj
          split at hj
          · split at hj
            · injection hj with hj; rw [← hj]; rfl
            · cases hj
          · rw [hN1] at hj
            have hj2 : (List.take (q * 129 + r) curx ++ (cs ++ List.drop (q * 129 + r + L) curx))[j]? = some u := by simpa using hj
            have hlt : (List.take (q * 129 + r) curx).length = q * 129 + r := by rw [List.length_take]; omega
            rcases Nat.lt_or_ge j (q * 129 + r) with h1 | h1
            · rw [List.getElem?_append_left (by omega), List.getElem?_take, if_pos h1] at hj2
              exact hox.out j u (by rw [List.getElem?_take, if_pos hjk]; exact hj2)
            · rw [List.getElem?_append_right (by omega), hlt] at hj2
              rcases Nat.lt_or_ge (j - (q * 129 + r)) cs.length with h2 | h2
              · rw [List.getElem?_append_left h2] at hj2
                exact hone u (List.mem_of_getElem? hj2)
              · rw [List.getElem?_append_right h2, List.getElem?_drop] at hj2
                refine hox.out j u ?_
                rw [List.getElem?_take, if_pos hjk, ← hj2]
                congr 1; omega
        · cases hj
      obtain ⟨Y, hY⟩ : ∃ Y, Y = X + L := ⟨_, rfl⟩
      have hrelN : Hid (∀ nq A2 c2, (L < R → A2 = some ⟨gb, ao + i + L, none⟩ ∧ c2 = C - L) → PutRel w B g k n stx gs cap gb ao n0 c0 at0 (.int .i64 (Y : Int)) (.slice A2 (R - L) c2) (((wr.setRow gs N1).setCell ⟨gs, q * 129 + 128, none⟩ (.bool true)).drewN nq)) := by
        refine hide fun nq A2 c2 h2 => ⟨i + L, Y, A2, c2, by omega, rfl, by rw [hR, Nat.sub_sub], by omega, fun h => ?_, hbx3, hO3.drewN nq, hcur3⟩
        obtain ⟨h3, h4⟩ := h2 (by omega)
        exact ⟨by rw [h3, Nat.add_assoc], by rw [h4]; omega⟩
      have hXL : (X : Int) + (L : Int) = (Y : Int) := by omega
      have hYI : (Y : Int) ≤ 6400000 := by omega
      replace hY := hide hY
      have hLRI : (L : Int) ≤ (R : Int) := by omega
      have hRC : (R : Int) ≤ (C : Int) := by omega
      rw [hN1] at e128 f128
      replace hB2 := hide hB2
      replace hB3 := hide hB3
      replace hO3 := hide hO3
      replace hbx3 := hide hbx3
      replace hcur3 := hide hcur3
      replace hNs := hide hNs
      replace hN1 := hide hN1
      replace hX := hide hX
      replace hq := hide hq
      replace hr := hide hr
      replace hR := hide hR
      replace hC := hide hC
      replace hbx := hide hbx
      replace hOx := hide hOx
      replace hsx := hide hsx
      replace hcx := hide hcx
      go_wp2_with (refine wpList_copy_own rfl _ _ 37 37 rfl 5 Tryz.underlying37 ?p1 gs (q * 129 + r) (64 - r) (64 - r) ⟨gb, ao + i, none⟩ R C rfl rfl curx.toArray 181 hsx.out cs ?p2 hsrc hfit hone ?_)
      case p1 => kernel_rfl
      case p2 => rw [hcl, hL.out]
      go_quiet (fail)
      go_wp2_with fail
      go_roundw
      case rel =>
        rw [← hN1.out]
        exact hide (hrelN.out _ _ _ (fun h => ⟨by rw [if_neg (by omega)], rfl⟩))
      case measure => show R - L < R; omega
    · have hR : n0 - i = 0 := by omega
      rw [hR]
      replace hbx := hide hbx
      replace hOx := hide hOx
      replace hsx := hide hsx
      replace hcx := hide hcx
      go_wp2_with fail
      go_end0
      exact ⟨rfl, hbx.out, hOx.out, ⟨curx, hsx.out, hcx.out, hox.out⟩⟩
end Go.Proofs.YthohbbaglceppaaGreatDoor
namespace Go.Proofs.YthohbbaglceppaaGreatDoor
open Go.RowKit Go.Maps
set_option linter.unusedVariables false
/-- What Write leaves. -/
def WrRet (w : World) (B gf bm most stamp : Nat) (da la : List UInt8) (gd gl g K N : Nat) (v : Value) (e : Ending) (w' : World) : Prop :=
  e = .returned (.int .i64 0) ∧ FSAt w' B gf bm most (stamp + 1) da la (some gd) (some gl) ∧ ∃ v', FileX w' B g K N v' ∧ Only (fun j => j = gf ∨ j = g ∨ v.ownBlock = some j) w w' ∧ (v'.ownBlock = v.ownBlock ∨ ∃ j, v'.ownBlock = some j ∧ w.heap.size ≤ j)
set_option maxRecDepth 100000 in
set_option maxHeartbeats 1500000 in
theorem fwrite_any (w : World) (B gf bm most stamp gd kd nd gl kl nl g k n gb ao n0 c0 at0 : Nat) (da la nm : List UInt8) (vd vl v : Value) (h : FSAt w B gf bm most stamp da la (some gd) (some gl)) (hd : FileX w B gd kd nd vd) (hl : FileX w B gl kl nl vl)
    (hn : Names nm da la (some gd) (some gl) (some g)) (hnl : nm.length ≤ 24) (hf : FileX w B g k n v) (hmost : most ≤ 65536) (hk : kd + kl ≤ most) (hkk : k ≤ most) (hnn : n ≤ 2000000) (hst : stamp ≤ 1000000) (hB : B ≤ w.heap.size)
    (hat : at0 ≤ n) (h0 : 0 < n0) (hn0 : n0 ≤ c0) (hc0 : c0 ≤ 9223372036854775807) (hn00 : n0 ≤ 1000000) (hroom : (max n (at0 + n0) + 63) / 64 - k ≤ most - kd - kl)
    (hgb : gb < w.heap.size) (hgv : v.ownBlock ≠ some gb) (hgg : gb ≠ g)
    (hrb : ∀ i, i < n0 → ∃ x : UInt8, w.cell? ⟨gb, ao + i, none⟩ = some (.int .u8 (x.toNat : Int))) :
    Calls Tryz.prog 111 #[.pointer (some ⟨gf, 0, none⟩), .string (str nm), .int .i64 (at0 : Int), .slice (some ⟨gb, ao, none⟩) n0 c0] w (WrRet w B gf bm most stamp da la gd gl g (max k ((max n (at0 + n0) + 63) / 64)) (max n (at0 + n0)) v) := by
  have ha := hide (fat_some w B gf bm most stamp g da la nm (some gd) (some gl) h hn (by omega))
  obtain ⟨E, hE⟩ : ∃ E, E = at0 + n0 := ⟨_, rfl⟩
  obtain ⟨N, hN⟩ : ∃ N, N = max n E := ⟨_, rfl⟩
  obtain ⟨D, hD⟩ : ∃ D, D = (N + 63) / 64 := ⟨_, rfl⟩
  obtain ⟨R, hR⟩ : ∃ R, R = most - kd - kl := ⟨_, rfl⟩
  rw [← hE, ← hN, ← hD]
  rw [← hE, ← hN, ← hD, ← hR] at hroom
  have hEI : (at0 : Int) + (n0 : Int) = (E : Int) := by omega
  have hmx : max (n : Int) (E : Int) = (N : Int) := by omega
  have hNb : N ≤ 5000000 := by omega
  have hDb : D ≤ 80000 := by omega
  have hnd : Hid (∀ wz, Calls Tryz.prog 133 #[.int .i64 (N : Int)] wz fun e w' => e = .returned (.int .i64 (D : Int)) ∧ wz = w') := hide fun wz => by rw [hD]; exact need_any wz N (by omega)
  have hro : Hid (∀ wz, Below w.heap.size w wz → Calls Tryz.prog 109 #[.pointer (some ⟨gf, 0, none⟩)] wz fun e w' => e = .returned (.int .i64 (R : Int)) ∧ Below wz.heap.size wz w') := hide fun wz hz => by
    have hzo : Only (fun _ => False) w wz := Only.of_below hz
    rw [hR]
    exact room_any wz B gf bm most stamp gd gl kd nd kl nl da la vd vl (h.only hzo (fun h => h) (fun h => h)) (hd.only hzo (fun h => h) (fun _ _ h => h)) (hl.only hzo (fun h => h) (fun _ _ h => h)) hmost hk
  obtain ⟨st, hb⟩ := hf.st
  obtain ⟨xs, hr, _⟩ := hf.row
  obtain ⟨ov, capv, hv⟩ := ownsRow_slice hr
  have x0 := hb.cell 0
  have x1 := hb.cell 1
  rw [hv] at x0 x1
  have hkeep : Hid (∀ wz, Below w.heap.size w wz → (wz.cell? ⟨g, 0, none⟩ = some (.slice ov k capv) ∧ wz.cell? ⟨g, 1, none⟩ = some (.int .i64 (n : Int)))) := hide fun wz hz =>
    ⟨(hz.cell (p := ⟨g, 0, none⟩) hb.lt).trans x0, (hz.cell (p := ⟨g, 1, none⟩) hb.lt).trans x1⟩
  have hDk : (D : Int) - (k : Int) ≤ (R : Int) := by omega
  have hW1 : IntKind.i64.wrap (E : Int) = (E : Int) := IntWalk.i64_in _ (by omega)
  have hW2 : IntKind.i64.wrap ((D : Int) - (k : Int)) = (D : Int) - (k : Int) := IntWalk.i64_in _ (by omega)
  have hA0 : decide ((at0 : Int) < 0) = false := by rw [decide_eq_false_iff_not]; omega
  have hA1 : decide (n < at0) = false := by rw [decide_eq_false_iff_not]; omega
  have hA2 : decide ((n : Int) < (at0 : Int)) = false := by rw [decide_eq_false_iff_not]; omega
  have hatI : (at0 : Int) ≤ (n : Int) := by omega
  have h0I : (0 : Int) < (n0 : Int) := by omega
  have hD2 : decide ((R : Int) < (D : Int) - (k : Int)) = false := by rw [decide_eq_false_iff_not]; omega
  replace h := hide h
  replace hd := hide hd
  replace hl := hide hl
  replace hf := hide hf
  replace hb := hide hb
  replace hr := hide hr
  replace hv := hide hv
  replace hE := hide hE
  replace hN := hide hN
  replace hD := hide hD
  replace hR := hide hR
  replace hn := hide hn
  replace hrb := hide hrb
  go_enter Tryz.func111, Tryz.ntmps111
  go_upto_region 2 with ((go_at_call 127; refine ha.out.mono ?_; rintro e w1 ⟨rfl, rfl⟩))
  go_upto_region 6 with (fail)
  go_cut [32] (fun v32 wx => v32 = .bool false ∧ Hid (Below w.heap.size w wx))
  case first =>
    go_region_held3 (fun w' => w'.cell? ⟨g, 0, none⟩ = some (.slice ov k capv) ∧ w'.cell? ⟨g, 1, none⟩ = some (.int .i64 (n : Int))) (first | exact ⟨x0, x1⟩ | exact hkeep.out _ hbA | exact hkeep.out _ (below_drewN hbA _)) ((first
        | (go_at_call 133; refine (hnd.out _).mono ?_; rintro e w2 ⟨rfl, rfl⟩)
        | (go_at_call 109; refine (hro.out _ ((Below.refl _ w).drew)).mono ?_; rintro e w2 ⟨rfl, hX⟩; have hbA : Below w.heap.size w w2 := (Below.refl _ w).drew.trans hX; replace hX := hide hX)))
    all_goals go_wp2_with fail
    all_goals go_meet
    all_goals exact ⟨rfl, hide hbA⟩
  case rest =>
    obtain ⟨rfl, hbw⟩ := hcut
    clear hro hnd hkeep ha
    have hO1 := Only.of_below (S := fun _ => False) hbw.out
    have hF1 := hide (h.out.only hO1 (fun h => h) (fun h => h))
    have hbu := hide (burn_any _ B gf bm most stamp da la (some gd) (some gl) hF1.out)
    go_wp2_with fail
    refine hbu.out.mono ?_
    rintro e w3 ⟨rfl, rfl⟩
    go_wp2_with fail
    have hwc : w.heap.size ≤ wc.heap.size := hbw.out.size
    have hgr := grow_any wc B g k n E v (hf.out.only hO1 (fun h => h) (fun _ _ h => h)) (by omega) (by omega) (by have := hE.out; omega) (by omega)
    rw [← hN.out, ← hD.out] at hgr
    replace hgr := hide hgr
    refine hgr.out.mono ?_
    rintro e w4 ⟨rfl, v4, hF4, hO4, hv4⟩
    have hgneq : g ≠ 0 ∨ True := .inr trivial
    obtain ⟨st4, hb4⟩ := hF4.st
    obtain ⟨xs4, hr4, ho4⟩ := hF4.row
    have hD1 : 1 ≤ D := by have := hD.out; have := hN.out; have := hE.out; omega
    have hE64 : E ≤ 64 * max k D := by have := hD.out; have := hN.out; omega
    rcases hr4.2 with ⟨_, hz⟩ | ⟨gs, cap, cur, rfl, hgs, hh, hkc, hcm, hcs, ht⟩
    · exfalso; omega
    · have hgbs : gb ≠ gs := by
        rintro rfl
        rcases hv4 with e | ⟨j, e, hj⟩
        · exact hgv (by rw [← e]; rfl)
        · have e2 : gb = j := by simpa [Value.ownBlock] using e
          omega
      have hgne : g ≠ gs := fun e => hF4.gvs (by rw [e]; rfl)
      have hpu := hide (put_any w4 B g (max k D) N gs cap gb ao n0 c0 at0 st4 [] hb4 cur.toList (by simpa using hh) (by simpa using hcs) (by rw [ht]; exact ho4) hkc (by omega) hn0 (by omega) (by have := hE.out; omega) hgbs hgne (fun i hi => by
        obtain ⟨x, hx⟩ := hrb.out i hi
        refine ⟨x, ?_⟩
        rw [World.cell?_of_block (w := w) ((hO4.block gb (by omega) (fun e => e.elim (fun e => hgg e) (fun e => hgv e))).trans (hO1.block gb hgb (fun h => h)))]
        exact hx))
      replace hF4 := hide hF4
      replace hO4 := hide hO4
      replace hv4 := hide hv4
      replace hb4 := hide hb4
      replace hr4 := hide hr4
      replace hh := hide hh
      clear hgr
      go_wp2_with fail
      refine hpu.out.mono ?_
      rintro e w5 ⟨rfl, hb5, hO5, cur5, hh5, hc5, ho5⟩
      have hF1w := hF1.out
      have hS4 : FSAt w4 B gf bm most stamp da la (some gd) (some gl) := hF1w.only hO4.out
        (fun e => e.elim (fun e => ((hf.out.ngf h.out).1 e)) (fun e => (hf.out.ngf h.out).2 e))
        (fun e => e.elim (fun e => h.out.bmNe hb.out e) (fun e => by
          rcases hr.out.2 with ⟨e2, _⟩ | ⟨g2, c2, cu2, e2, _, hh2, _⟩
          · rw [e2] at e; cases e
          · rw [e2] at e; exact h.out.bmNe (show Blk w g2 _ _ from hh2) (by simpa [Value.ownBlock] using e.symm)))
      have hS5 : FSAt w5 B gf bm most stamp da la (some gd) (some gl) := hS4.only hO5 (Blk.ne_ hS4.st (show Blk w4 gs _ _ from hh.out) (by decide)) (hS4.bmNe (show Blk w4 gs _ _ from hh.out))
      have hF5 : FileX w5 B g (max k D) N (.slice (some ⟨gs, 0, none⟩) (max k D) cap) := ⟨⟨st4, hb5⟩, ⟨cur5.take (max k D * 129), ⟨by
        rw [List.length_take, hc5]; exact Nat.min_eq_left (Nat.mul_le_mul_right _ hkc), .inr ⟨gs, cap, cur5.toArray, rfl, hgs, hh5, hkc, hcm, by simpa using hc5, rfl⟩⟩, ho5⟩, hF4.out.gB⟩
      have hch := hide (changed_any w5 B gf bm most stamp g (max k D) N da la (some gd) (some gl) _ hS5 hF5 hst)
      have hO15 : Only (fun j => j = gf ∨ j = g ∨ v.ownBlock = some j) w w5 := (((hO1.mono (S := fun j => j = gf ∨ j = g ∨ v.ownBlock = some j) (fun _ _ h => h.elim)).trans hO4.out (fun i _ e => .inr e)).trans hO5 (fun i hi e => by
        rcases hv4.out with e2 | ⟨j, e2, hj⟩
        · exact .inr (.inr (by rw [← e2, e]; rfl))
        · have e3 : gs = j := by simpa [Value.ownBlock] using e2
          omega))
      replace hS5 := hide hS5
      replace hF5 := hide hF5
      replace hO15 := hide hO15
      clear hS4 hpu hbu
      go_wp2_with fail
      refine hch.out.mono ?_
      rintro e w6 ⟨rfl, h6, h7, h8⟩
      replace h6 := hide h6
      replace h7 := hide h7
      replace h8 := hide h8
      go_wp2_with fail
      go_ret
      exact ⟨rfl, h6.out, _, h7.out, hO15.out.trans h8.out (fun i _ e => e.elim .inl (fun e => .inr (.inl e))), hv4.out.imp id (fun ⟨j, e, hj⟩ => ⟨j, e, by omega⟩)⟩
end Go.Proofs.YthohbbaglceppaaGreatDoor
