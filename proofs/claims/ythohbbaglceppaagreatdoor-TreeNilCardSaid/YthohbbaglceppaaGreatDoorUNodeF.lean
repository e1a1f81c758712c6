/-
  Contracts of node.Size, node.Put, sort.Search, node.Find.
-/
import Derived.Test.YthohbbaglceppaaGreatDoorUNodeP
import Derived.Test.YthohbbaglceppaaGreatDoorUN
namespace Go.Proofs.YthohbbaglceppaaGreatDoor
open Go.RowKit
set_option linter.unusedVariables false
theorem NodeM.below {w w' : World} {v : Value} {n : NodeP} (h : NodeM (Old w) w v n) (hb : Below w.heap.size w w') : NodeM (Old w') w' v n := h.keep fun k hk => ⟨Nat.lt_of_lt_of_le hk hb.size, hb.block k hk⟩
theorem NodeM.box {G : Nat → Prop} {w : World} {v : Value} {n : NodeP} (h : NodeM G w v n) : ∃ A c B d, v = .agg #[.bool n.leaf, .slice A n.cells.length c, .slice B n.kids.length d] := by
  obtain ⟨A, c, B, d, e, _⟩ := h
  exact ⟨A, c, B, d, e⟩
set_option maxRecDepth 100000 in
theorem size_any (w : World) (v : Value) (n : NodeP) (hn : NodeM (Old w) w v n) (hr : RightP n) (hz : sizeP n ≤ 100000) : Calls Tryz.prog 61 #[v] w fun e w' => e = .returned (.int .i64 (sizeP n : Int)) ∧ Below w.heap.size w w' := by
  obtain ⟨A, c, B, d, rfl⟩ := hn.box
  obtain ⟨lf, hlf⟩ : ∃ lf, lf = n.leaf := ⟨_, rfl⟩
  obtain ⟨M, hM⟩ : ∃ M, M = n.cells.length := ⟨_, rfl⟩
  obtain ⟨K, hK⟩ : ∃ K, K = n.kids.length := ⟨_, rfl⟩
  rw [← hlf, ← hM, ← hK] at hn ⊢
  have hB0 := (Below.refl w.heap.size w).alloc (Nat.le_refl _) (.cells #[.bool lf, .slice A M c, .slice B K d] 101)
  have hb0 := Blk.new w 101 #[.bool lf, .slice A M c, .slice B K d]
  have hn0 := hn.below hB0
  have hri := hide (right_any _ _ n hn0 hr)
  replace hlf := hide hlf
  replace hM := hide hM
  replace hK := hide hK
  replace hr := hide hr
  replace hz := hide hz
  replace hn0 := hide hn0
  replace hB0 := hide hB0
  replace hb0 := hide hb0
  clear hn
  go_enter Tryz.func61, Tryz.ntmps61
  go_wp2_with fail
  refine hri.out.mono ?_
  rintro e w2 ⟨rfl, hb2⟩
  have hb := hb0.out.below hb2 (Blk.lt hb0.out)
  have c0 := hb.cell 0
  have c1 := hb.cell 1
  have c2 := hb.cell 2
  have hpa := hide (pack_any w2 _ n (hn0.out.below hb2) hr.out hz.out)
  have hB2 := hide (hB0.out.trans (hb2.mono hB0.out.size))
  replace hb := hide hb
  replace hb2 := hide hb2
  go_wp2_with fail
  refine hpa.out.mono ?_
  rintro e w3 ⟨v3, rfl, hO3, hb3⟩
  rw [packP_len] at hO3
  obtain ⟨A3, c3, rfl, _⟩ := hO3.form
  replace hO3 := hide hO3
  have hB3 := hide (hB2.out.trans (hb3.mono hB2.out.size))
  replace hb3 := hide hb3
  go_wp2_with fail
  go_ret
  exact ⟨rfl, hB3.out⟩
/-- What node.Put returns. -/
def NPutRet (w : World) (l : List UInt8) (e : Ending) (w' : World) : Prop := ∃ v, e = .returned (.tuple #[v, .int .i64 0]) ∧ OB w' w.heap.size v l.length l ∧ Below w.heap.size w w'
set_option maxRecDepth 100000 in
theorem nput_any (w : World) (v : Value) (n : NodeP) (hn : NodeM (Old w) w v n) (hr : RightP n) (hz : sizeP n ≤ 508) : Calls Tryz.prog 137 #[v] w (NPutRet w (packP n)) := by
  obtain ⟨A, c, B, d, rfl⟩ := hn.box
  obtain ⟨lf, hlf⟩ : ∃ lf, lf = n.leaf := ⟨_, rfl⟩
  obtain ⟨M, hM⟩ : ∃ M, M = n.cells.length := ⟨_, rfl⟩
  obtain ⟨K, hK⟩ : ∃ K, K = n.kids.length := ⟨_, rfl⟩
  rw [← hlf, ← hM, ← hK] at hn ⊢
  have hB0 := (Below.refl w.heap.size w).alloc (Nat.le_refl _) (.cells #[.bool lf, .slice A M c, .slice B K d] 101)
  have hb0 := Blk.new w 101 #[.bool lf, .slice A M c, .slice B K d]
  have hn0 := hn.below hB0
  have hri := hide (right_any _ _ n hn0 hr)
  have hzI : (sizeP n : Int) ≤ 508 := by omega
  replace hlf := hide hlf
  replace hM := hide hM
  replace hK := hide hK
  replace hr := hide hr
  replace hz := hide hz
  replace hn0 := hide hn0
  replace hB0 := hide hB0
  replace hb0 := hide hb0
  clear hn
  go_enter Tryz.func137, Tryz.ntmps137
  go_wp2_with fail
  refine hri.out.mono ?_
  rintro e w2 ⟨rfl, hb2⟩
  have hb := hb0.out.below hb2 (Blk.lt hb0.out)
  have c0 := hb.cell 0
  have c1 := hb.cell 1
  have c2 := hb.cell 2
  have hpa := hide (pack_any w2 _ n (hn0.out.below hb2) hr.out (by have := hz.out; omega))
  have hB2 := hide (hB0.out.trans (hb2.mono hB0.out.size))
  replace hb := hide hb
  replace hb2 := hide hb2
  go_wp2_with fail
  refine hpa.out.mono ?_
  rintro e w3 ⟨v3, rfl, hO3, hb3⟩
  have hO4 : Hid (OB w3 w.heap.size v3 (packP n).length (packP n)) := hide (hO3.more hB2.out.size)
  rw [packP_len] at hO3
  obtain ⟨A3, c3, rfl, _⟩ := hO3.form
  replace hO3 := hide hO3
  have hB3 := hide (hB2.out.trans (hb3.mono hB2.out.size))
  replace hb3 := hide hb3
  go_wp2_with fail
  go_ret2
  exact ⟨_, rfl, hO4.out, hB3.out⟩
/-- What Search finds. -/
def FoundAt (n : Nat) (p : Nat → Bool) (L : Nat) : Prop := L ≤ n ∧ (∀ j, j < L → p j = false) ∧ (L < n → p L = true)
set_option maxRecDepth 100000 in
set_option maxHeartbeats 1000000 in
theorem search_any (w : World) (a b n : Nat) (p : Nat → Bool) (hn : n ≤ 1000000) (hmono : ∀ i j, i ≤ j → j < n → p i = true → p j = true)
    (hf : ∀ q i, i < n → Calls Tryz.prog 100 #[.int .i64 (i : Int), .pointer (some ⟨a, 0, none⟩), .pointer (some ⟨b, 0, none⟩)] (w.drewN q) fun e w' => e = .returned (.bool (p i)) ∧ ∃ m, w' = w.drewN m) :
    Calls Tryz.prog 99 #[.int .i64 (n : Int), .func (.func 100) #[] #[.pointer (some ⟨a, 0, none⟩), .pointer (some ⟨b, 0, none⟩)]] w fun e w' => (∃ L : Nat, e = .returned (.int .i64 (L : Int)) ∧ FoundAt n p L) ∧ ∃ m, w' = w.drewN m := by
  have hf2 := hide hf
  have hmono2 := hide hmono
  clear hf hmono
  go_enter Tryz.func99, Tryz.ntmps99
  go_wp2_with fail
  go_loopw [5, 6] (fun v5 v6 wx => ∃ lo hi m : Nat, v5 = .int .i64 (lo : Int) ∧ v6 = .int .i64 (hi : Int) ∧ lo ≤ hi ∧ hi ≤ n ∧ Hid (∀ j, j < lo → p j = false) ∧ Hid (hi < n → p hi = true) ∧ wx = w.drewN m) (fun v5 v6 _ => (intOf v6).toNat - (intOf v5).toNat)
  case atStart => exact ⟨0, n, 0, rfl, rfl, Nat.zero_le _, Nat.le_refl _, hide (fun j h => absurd h (by omega)), hide (fun h => absurd h (by omega)), rfl⟩
  case round =>
    obtain ⟨lo, hi, m, rfl, rfl, h1, h2, h3, h4, hwr⟩ := hrel
    subst hwr
    rcases Nat.lt_or_ge lo hi with hlt | hge
    · obtain ⟨H, hH⟩ : ∃ H, H = (lo + hi) / 2 := ⟨_, rfl⟩
      obtain ⟨S, hS⟩ : ∃ S, S = lo + hi := ⟨_, rfl⟩
      have hSI : (lo : Int) + (hi : Int) = (S : Int) := by omega
      have hSb : (S : Int) ≤ 2000000 := by omega
      have hSh : (S : Int) / 2 = (H : Int) := by omega
      obtain ⟨pv, hpv⟩ : ∃ pv, pv = p H := ⟨_, rfl⟩
      have hcl := hf2.out m H (by omega)
      rw [← hpv] at hcl
      replace hcl := hide hcl
      have hHb : H < hi ∧ lo ≤ H := by omega
      have hHI : (H : Int) < (hi : Int) := by omega
      have hHB : (H : Int) ≤ 1000000 := by omega
      replace hH := hide hH
      replace hS := hide hS
      replace hpv := hide hpv
      go_wp2_with fail
      refine hcl.out.mono ?_
      rintro e w2 ⟨rfl, m2, rfl⟩
      cases pv with
      | true =>
        go_wp2_with fail
        go_roundw
        case rel => exact ⟨lo, H, m2, rfl, rfl, hHb.2, by omega, h3, hide (fun _ => hpv.out.symm), by first | rfl | trivial⟩
        case measure => simp [intOf]; omega
      | false =>
        go_wp2_with fail
        go_roundw
        case rel => exact ⟨H + 1, hi, m2, by simp, rfl, by omega, h2, hide (fun j hj => by
          cases hpj : p j with
          | false => rfl
          | true => have h := hmono2.out j H (by omega) (by omega) hpj; rw [← hpv.out] at h; cases h), h4, by first | rfl | trivial⟩
        case measure => simp [intOf]; omega
    · have hge2 : ¬ (lo : Int) < (hi : Int) := by omega
      have hge3 : (hi : Int) ≤ (lo : Int) := by omega
      go_wp2_with fail
      go_ret
      refine ⟨⟨lo, rfl, by omega, h3.out, fun hl => ?_⟩, m, rfl⟩
      have e : lo = hi := by omega
      rw [e]
      exact h4.out (by omega)
theorem found_findI (cs : List CellP) (key : List UInt8) (L : Nat) (hr : RiseC cs) (h : FoundAt cs.length (fun i => !ltK (keyOfC cs i) key) L) : L = findI cs key := by
  obtain ⟨h1, h2, h3⟩ := h
  unfold findI
  induction cs generalizing L with
  | nil => simp at h1; simp [h1]
  | cons c r ih =>
    cases L with
    | zero =>
      have h4 := h3 (by simp)
      have h5 : ltK c.key key = false := by simpa [keyOfC] using h4
      simp [List.takeWhile, h5]
    | succ L =>
      have h4 := h2 0 (by omega)
      have h5 : ltK c.key key = true := by simpa [keyOfC] using h4
      have h6 := ih L hr.2 (by simp at h1; omega) (fun j hj => by have := h2 (j + 1) (by omega); simpa [keyOfC] using this) (fun hl => by have := h3 (by simp; omega); simpa [keyOfC] using this)
      simp [List.takeWhile, h5, h6]
theorem keyOfC_at {cs : List CellP} {i : Nat} {c : CellP} (h : cs[i]? = some c) : keyOfC cs i = c.key := by unfold keyOfC; rw [h]
theorem rise_mono (cs : List CellP) (hr : RiseC cs) (key : List UInt8) (i j : Nat) (hij : i ≤ j) (hj : j < cs.length) (h : (!ltK (keyOfC cs i) key) = true) : (!ltK (keyOfC cs j) key) = true := by
  rcases Nat.lt_or_ge i j with hlt | hge
  · have h1 : ltK (keyOfC cs i) (keyOfC cs j) = true := by
      rw [keyOfC_at (List.getElem?_eq_getElem (by omega : i < cs.length)), keyOfC_at (List.getElem?_eq_getElem hj)]
      clear h
      induction cs generalizing i j with
      | nil => simp at hj
      | cons c r ih =>
        cases j with
        | zero => omega
        | succ j =>
          cases i with
          | zero => exact hr.1 _ (List.getElem_mem (by simp at hj; omega))
          | succ i => exact ih hr.2 i j (by omega) (by simp at hj; omega) (by omega)
    cases h2 : ltK (keyOfC cs j) key with
    | false => rfl
    | true => have := ltK_trans _ _ _ h1 h2; rw [this] at h; cases h
  · have e : i = j := by omega
    subst e; exact h
set_option maxRecDepth 100000 in
theorem lamF_any (w : World) (a b : Nat) (n : NodeP) (v0 : Value) (A : Option Addr) (c : Nat) (B : Option Addr) (d : Nat) (hcs : CellsM (Old w) w A n.cells) (hb : Blk w a 101 #[v0, .slice A n.cells.length c, .slice B n.kids.length d])
    (kA : Option Addr) (kc : Nat) (key : List UInt8) (hkb : Blk w b 37 #[.slice kA key.length kc]) (hk : RB w w.heap.size kA key.length key) (i : Nat) (hi : i < n.cells.length) (hil : i < 100000) (q : Nat) :
    Calls Tryz.prog 100 #[.int .i64 (i : Int), .pointer (some ⟨a, 0, none⟩), .pointer (some ⟨b, 0, none⟩)] (w.drewN q) fun e w' => e = .returned (.bool (!ltK (keyOfC n.cells i) key)) ∧ ∃ m, w' = w.drewN m := by
  obtain ⟨ad, xA, yA, xc, yc, rfl, hh⟩ := hcs.at_ i hi
  obtain ⟨x, hx⟩ : ∃ x, x = n.cells[i] := ⟨_, rfl⟩
  rw [← hx] at hh
  have hkey : keyOfC n.cells i = x.key := by rw [hx]; exact keyOfC_at (List.getElem?_eq_getElem hi)
  rw [hkey]
  obtain ⟨M, hM⟩ : ∃ M, M = n.cells.length := ⟨_, rfl⟩
  rw [← hM] at hb hi
  have c1 : w.cell? ⟨a, 1, none⟩ = some (.slice (some ad) M c) := hb.cell 1
  have k0 : w.cell? ⟨b, 0, none⟩ = some (.slice kA key.length kc) := hkb.cell 0
  have x0 := hh.c0
  have hcm : Hid (∀ p, Calls Tryz.prog 62 #[.slice xA x.key.length xc, .slice kA key.length kc] (w.drewN (q + p)) fun e w' => e = .returned (.int .i64 (Lib.compareBytes x.key key)) ∧ w.drewN (q + p) = w') := hide fun p => cmp_any _ w.heap.size w.heap.size xA kA _ xc _ kc x.key key (RB.drewN (Rd.reads hh.key fun k hk => hk) _) (hk.drewN _)
  have hge := cmp_ge x.key key
  obtain ⟨r, hr⟩ : ∃ r, r = !ltK x.key key := ⟨_, rfl⟩
  obtain ⟨XL, hXL⟩ : ∃ XL, XL = x.key.length := ⟨_, rfl⟩
  obtain ⟨KL, hKL⟩ : ∃ KL, KL = key.length := ⟨_, rfl⟩
  obtain ⟨cv, hcv⟩ : ∃ cv, cv = Lib.compareBytes x.key key := ⟨_, rfl⟩
  rw [← hr, ← hcv] at hge
  rw [← hXL, ← hKL, ← hcv] at hcm
  rw [← hXL] at x0
  rw [← hKL] at k0
  rw [← hr]
  have hiI : (i : Int) < (M : Int) := by omega
  have hiB : (i : Int) ≤ 100000 := by omega
  replace hh := hide hh
  replace hx := hide hx
  replace hkey := hide hkey
  replace hM := hide hM
  replace hr := hide hr
  replace hXL := hide hXL
  replace hKL := hide hKL
  replace hcv := hide hcv
  replace hcs := hide hcs
  clear hb hkb hk
  go_enter Tryz.func100, Tryz.ntmps100
  go_wp2_with fail
  go_quiet (first | (go_at_call 62; exact quiet_add_left (hcm.out _)))
  go_wp2_with fail
  go_ret
  exact ⟨rfl, q + nq, World.drewN_drewN ..⟩
theorem findP_at (n : NodeP) (key : List UInt8) (L : Nat) (x : CellP) (hL : L = findI n.cells key) (hx : n.cells[L]? = some x) : findP n key = if (x.key == key) = true then (if n.leaf = true then L else L + 1, true) else (L, false) := by
  unfold findP keyAt
  rw [← hL, hx]
theorem findP_end (n : NodeP) (key : List UInt8) (L : Nat) (hL : L = findI n.cells key) (hx : n.cells.length ≤ L) : findP n key = (L, false) := by
  unfold findP keyAt
  rw [← hL, List.getElem?_eq_none hx]
  rfl
set_option maxRecDepth 100000 in
set_option maxHeartbeats 1000000 in
theorem find_any (w : World) (v : Value) (n : NodeP) (hn : NodeM (Old w) w v n) (hrise : RiseC n.cells) (hmany : n.cells.length ≤ 70000) (kA : Option Addr) (kc : Nat) (key : List UInt8) (hk : RB w w.heap.size kA key.length key) :
    Calls Tryz.prog 57 #[v, .slice kA key.length kc] w fun e w' => e = .returned (.tuple #[.int .i64 ((findP n key).1 : Int), .bool (findP n key).2]) ∧ Below w.heap.size w w' := by
  obtain ⟨A, c, B, d, rfl, hc, hd, hcs, hks⟩ := hn
  have hB0 := ((Below.refl w.heap.size w).alloc (Nat.le_refl _) (.cells #[.bool n.leaf, .slice A n.cells.length c, .slice B n.kids.length d] 101)).alloc (by simp) (.cells #[.slice kA key.length kc] 37)
  have hbN := (Blk.new w 101 #[.bool n.leaf, .slice A n.cells.length c, .slice B n.kids.length d]).alloc (.cells #[.slice kA key.length kc] 37)
  have hbK : Blk ((w.alloc (.cells #[.bool n.leaf, .slice A n.cells.length c, .slice B n.kids.length d] 101)).alloc (.cells #[.slice kA key.length kc] 37)) (w.heap.size + 1) 37 #[.slice kA key.length kc] := by
    simpa using Blk.new (w.alloc (.cells #[.bool n.leaf, .slice A n.cells.length c, .slice B n.kids.length d] 101)) 37 #[.slice kA key.length kc]
  have hcs1 : CellsM (Old ((w.alloc (.cells #[.bool n.leaf, .slice A n.cells.length c, .slice B n.kids.length d] 101)).alloc (.cells #[.slice kA key.length kc] 37))) _ A n.cells := hcs.keep fun k hk => ⟨Nat.lt_of_lt_of_le hk hB0.size, hB0.block k hk⟩
  have hk1 : RB ((w.alloc (.cells #[.bool n.leaf, .slice A n.cells.length c, .slice B n.kids.length d] 101)).alloc (.cells #[.slice kA key.length kc] 37)) _ kA key.length key := (hk.below hB0).more hB0.size
  obtain ⟨W, hW⟩ : ∃ W, W = (w.alloc (.cells #[.bool n.leaf, .slice A n.cells.length c, .slice B n.kids.length d] 101)).alloc (.cells #[.slice kA key.length kc] 37) := ⟨_, rfl⟩
  rw [← hW] at hB0 hbN hbK hcs1 hk1
  have hse := search_any W w.heap.size (w.heap.size + 1) n.cells.length (fun i => !ltK (keyOfC n.cells i) key) (by omega) (rise_mono n.cells hrise key) (fun q i hi => lamF_any W w.heap.size (w.heap.size + 1) n _ A c B d hcs1 hbN kA kc key hbK hk1 i hi (by omega) q)
  have hat : Hid (∀ L x, n.cells[L]? = some x → ∃ ad xA xc, A = some ad ∧ W.cell? (ad.add (L * 4)) = some (.slice xA x.key.length xc) ∧ ∀ q, Calls Tryz.prog 101 #[.slice xA x.key.length xc, .slice kA key.length kc] (W.drewN q) fun e w' => e = .returned (.bool (x.key == key)) ∧ W.drewN q = w') := hide fun L x hx => by
    obtain ⟨hl, e⟩ := List.getElem?_eq_some_iff.1 hx
    obtain ⟨ad, xA, yA, xc, yc, eA, hh⟩ := hcs1.at_ L hl
    rw [e] at hh
    exact ⟨ad, xA, xc, eA, hh.c0, fun q => equal_any _ W.heap.size W.heap.size xA kA _ xc _ kc x.key key (RB.drewN (Rd.reads hh.key fun k hk => hk) q) (hk1.drewN q)⟩
  have hfi : Hid (∀ L, FoundAt n.cells.length (fun i => !ltK (keyOfC n.cells i) key) L → L = findI n.cells key) := hide fun L h => found_findI n.cells key L hrise h
  have n0 : W.cell? ⟨w.heap.size, 0, none⟩ = some (.bool n.leaf) := hbN.cell 0
  have k0 : W.cell? ⟨w.heap.size + 1, 0, none⟩ = some (.slice kA key.length kc) := hbK.cell 0
  have n10 : W.cell? ⟨w.heap.size, 1, none⟩ = some (.slice A n.cells.length c) := hbN.cell 1
  obtain ⟨M, hM⟩ : ∃ M, M = n.cells.length := ⟨_, rfl⟩
  obtain ⟨KL, hKL⟩ : ∃ KL, KL = key.length := ⟨_, rfl⟩
  obtain ⟨lf, hlf⟩ : ∃ lf, lf = n.leaf := ⟨_, rfl⟩
  obtain ⟨KK, hKK⟩ : ∃ KK, KK = n.kids.length := ⟨_, rfl⟩
  rw [← hM, ← hlf, ← hKK, ← hKL] at hW
  rw [← hM] at n10 hse hfi
  rw [← hlf] at n0
  rw [← hKL] at k0 hat
  rw [← hM, ← hlf, ← hKK, ← hKL]
  replace hse := hide hse
  have hmI : (M : Int) ≤ 70000 := by omega
  replace hM := hide hM
  replace hKL := hide hKL
  replace hlf := hide hlf
  replace hKK := hide hKK
  replace hcs := hide hcs
  replace hcs1 := hide hcs1
  replace hks := hide hks
  replace hk := hide hk
  replace hk1 := hide hk1
  replace hB0 := hide hB0
  replace hbN := hide hbN
  replace hbK := hide hbK
  replace hW := hide hW
  replace hrise := hide hrise
  clear hc hd
  go_enter Tryz.func57, Tryz.ntmps57
  go_wp2_with fail
  rw [← hW.out]
  refine hse.out.mono ?_
  rintro e w2 ⟨⟨L, rfl, hL⟩, m, rfl⟩
  have hLe := hide (hfi.out L hL)
  have hLM := hL.1
  have hLI : (L : Int) ≤ 70000 := by omega
  replace hL := hide hL
  cases hx : n.cells[L]? with
  | none =>
    have hge : n.cells.length ≤ L := List.getElem?_eq_none_iff.1 hx
    have hMI : (M : Int) ≤ (L : Int) := by have := hM.out; omega
    have hMD : decide ((L : Int) < (M : Int)) = false := by rw [decide_eq_false_iff_not]; omega
    have hMD2 : decide (L < M) = false := by rw [decide_eq_false_iff_not]; omega
    have hfp := hide (findP_end n key L hLe.out hge)
    replace hx := hide hx
    clear hat
    go_wp2_with fail
    go_quiet (fail)
    go_wp2_with fail
    go_ret2
    exact ⟨by rw [hfp.out]; rfl, below_drewN hB0.out _⟩
  | some x =>
    have hlt : L < n.cells.length := (List.getElem?_eq_some_iff.1 hx).1
    have hMI : (L : Int) < (M : Int) := by have := hM.out; omega
    have hMD : decide ((L : Int) < (M : Int)) = true := by rw [decide_eq_true_eq]; omega
    obtain ⟨ad, xA, xc, rfl, x0, heq⟩ := hat.out L x hx
    have hfp := hide (findP_at n key L x hLe.out hx)
    obtain ⟨E, hE⟩ : ∃ E, E = (x.key == key) := ⟨_, rfl⟩
    obtain ⟨XL, hXL⟩ : ∃ XL, XL = x.key.length := ⟨_, rfl⟩
    rw [← hE] at heq hfp
    rw [← hXL] at heq x0
    rw [← hlf.out] at hfp
    replace heq := hide heq
    replace hx := hide hx
    replace hE := hide hE
    replace hXL := hide hXL
    clear hat
    go_wp2_with fail
    go_quiet (first | (go_at_call 101; exact quiet_add_left (heq.out _)))
    cases E with
    | false =>
      go_wp2_with fail
      go_ret2
      exact ⟨by rw [hfp.out]; rfl, below_drewN hB0.out _⟩
    | true =>
      cases lf with
      | true =>
        go_wp2_with fail
        go_ret2
        exact ⟨by rw [hfp.out]; rfl, below_drewN hB0.out _⟩
      | false =>
        go_wp2_with fail
        go_ret2
        exact ⟨by rw [hfp.out]; rfl, below_drewN hB0.out _⟩
end Go.Proofs.YthohbbaglceppaaGreatDoor
