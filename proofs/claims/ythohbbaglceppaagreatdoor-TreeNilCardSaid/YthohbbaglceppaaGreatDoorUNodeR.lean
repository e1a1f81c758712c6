/-
  Contract of node.Right at a node that is right.
-/
import Derived.Test.YthohbbaglceppaaGreatDoorUNodeM
import Derived.IntWalk
namespace Go.Proofs.YthohbbaglceppaaGreatDoor
open Go.RowKit
set_option linter.unusedVariables false
theorem Rd.shape {G : Nat → Prop} {w : World} {size n : Nat} {A : Option Addr} {xs : List Value} (h : Rd G w size A n xs) (h0 : 0 < n) (hs : 0 < size) : ∃ b o, A = some ⟨b, o, none⟩ ∧ G b := by
  obtain ⟨ad, rfl, hb, hc⟩ := h.2 h0
  have hl : 0 < xs.length := by rw [h.1]; exact Nat.mul_pos h0 hs
  have hx := hc 0 _ (List.getElem?_eq_getElem hl)
  obtain ⟨b, o, s⟩ := ad
  cases s with
  | none => exact ⟨b, o, rfl, hb⟩
  | some s =>
    exfalso
    have e : (Addr.mk b o (some s)).add 0 = ⟨b, o, some s⟩ := rfl
    rw [e] at hx
    unfold World.cell? at hx
    cases hw : w.heap[b]? with
    | none => simp [hw] at hx
    | some ob => cases ob <;> simp [hw] at hx
set_option maxRecDepth 100000 in
theorem lamR_any (w : World) (k : Nat) (hk : childN k) : Calls Tryz.prog 153 #[.int .i64 (k : Int)] w fun e w' => e = .returned (.bool false) ∧ w = w' := by
  have hc := hide (child_any w k hk)
  go_enter Tryz.func153, Tryz.ntmps153
  go_wp2_with fail
  refine hc.out.mono ?_
  rintro e w2 ⟨rfl, rfl⟩
  go_wp2_with fail
  go_ret
  exact ⟨rfl, rfl⟩
set_option maxRecDepth 100000 in
theorem indexF_any (w : World) (B : Nat) (A : Option Addr) (n c : Nat) (ks : List Nat) (hr : RN w B A n ks) (hk : ∀ k ∈ ks, childN k) (hn : n ≤ 70000) :
    Calls Tryz.prog 160 #[.slice A n c, .func (.func 153) #[] #[]] w fun e w' => e = .returned (.int .i64 (-1)) ∧ w = w' := by
  have hl := hide hr.len
  have hk2 : Hid (∀ i, i < n → childN (ks.getD i 0)) := hide fun i hi => by
    have h1 : i < ks.length := by have := hl.out; omega
    rw [List.getD_eq_getElem?_getD, List.getElem?_eq_getElem h1]
    exact hk _ (List.getElem_mem h1)
  have hr2 := hide hr
  clear hr hk
  go_enter Tryz.func160, Tryz.ntmps160
  go_wp2_with fail
  go_loopw [8] (fun v8 wx => ∃ i : Nat, v8 = .int .i64 (i : Int) ∧ i ≤ n ∧ wx = w) (fun v8 _ => n - (intOf v8).toNat)
  case atStart => exact ⟨0, rfl, Nat.zero_le _, rfl⟩
  case round =>
    obtain ⟨i, rfl, hi, hwx⟩ := hrel
    subst hwx
    rcases Nat.lt_or_ge i n with hlt | hge
    · have hI : (i : Int) < (n : Int) := by omega
      obtain ⟨ad, rfl, hb, hc⟩ := hr2.out.elem hlt
      have hcl := hide (lamR_any wr (ks.getD i 0) (hk2.out i hlt))
      have hiI : (i : Int) ≤ 70000 := by omega
      go_wp2_with fail
      refine hcl.out.mono ?_
      rintro e w2 ⟨rfl, rfl⟩
      go_wp2_with fail
      go_roundw
      case rel => exact ⟨i + 1, by simp, by omega, by first | rfl | trivial⟩
      case measure => simp [intOf]; omega
    · have hI : ¬ (i : Int) < (n : Int) := by omega
      have hI2 : (n : Int) ≤ (i : Int) := by omega
      go_wp2_with fail
      go_ret
      exact ⟨rfl, rfl⟩
set_option maxRecDepth 100000 in
theorem contains_any (w : World) (B : Nat) (A : Option Addr) (n c : Nat) (ks : List Nat) (hr : RN w B A n ks) (hk : ∀ k ∈ ks, childN k) (hn : n ≤ 70000) :
    Calls Tryz.prog 152 #[.slice A n c, .func (.func 153) #[] #[]] w fun e w' => e = .returned (.bool false) ∧ w = w' := by
  have hc := hide (indexF_any w B A n c ks hr hk hn)
  clear hr hk
  go_enter Tryz.func152, Tryz.ntmps152
  go_wp2_with fail
  refine hc.out.mono ?_
  rintro e w2 ⟨rfl, rfl⟩
  go_wp2_with fail
  go_ret
  exact ⟨rfl, rfl⟩
theorem rise_at : ∀ (cs : List CellP), RiseC cs → ∀ (i : Nat) (h : i + 1 < cs.length), ltK cs[i].key cs[i + 1].key = true
  | [], _, i, h => by simp at h
  | c :: r, hr, 0, h => hr.1 _ (List.getElem_mem (by simp at h; omega))
  | c :: r, hr, i + 1, h => rise_at r hr.2 i (by simp at h; omega)
/-- The bound of what is there. -/
def Old (w : World) (k : Nat) : Prop := k < w.heap.size
theorem CellHere.below {w w' : World} {p : Addr} {c : CellP} {kA vA : Option Addr} {kc vc : Nat} {B : Nat} (h : CellHere (fun k => k < B) w p c kA vA kc vc) (hb : Below B w w') : CellHere (fun k => k < B) w' p c kA vA kc vc :=
  ⟨(hb.cell (p := p) h.blk).trans h.c0, (hb.cell (p := ⟨p.block, p.off + 1, none⟩) h.blk).trans h.c1, (hb.cell (p := ⟨p.block, p.off + 2, none⟩) h.blk).trans h.c2, (hb.cell (p := ⟨p.block, p.off + 3, none⟩) h.blk).trans h.c3, h.kle, h.vle,
    h.key.keep fun k hk => ⟨hk, hb.block k hk⟩, h.val.keep fun k hk => ⟨hk, hb.block k hk⟩, h.blk⟩
set_option maxRecDepth 100000 in
set_option maxHeartbeats 2000000 in
theorem right_any (w : World) (v : Value) (n : NodeP) (hn : NodeM (Old w) w v n) (hr : RightP n) : Calls Tryz.prog 103 #[v] w fun e w' => e = .returned (.bool true) ∧ Below w.heap.size w w' := by
  obtain ⟨A, c, B, d, rfl, hc, hd, hcs, hks⟩ := hn
  obtain ⟨M, hM⟩ : ∃ M, M = n.cells.length := ⟨_, rfl⟩
  obtain ⟨K, hK⟩ : ∃ K, K = n.kids.length := ⟨_, rfl⟩
  obtain ⟨lf, hlf⟩ : ∃ lf, lf = n.leaf := ⟨_, rfl⟩
  have hmany := hr.many
  rw [← hM, ← hK, ← hlf]
  rw [← hM] at hc hmany
  have hkl := hr.kidsLeaf
  have hki := hr.kidsIn
  rw [← hlf] at hkl hki
  have hK1 : lf = true → (K : Int) = 0 := fun h => by rw [hK, hkl h]; rfl
  have hK2 : lf = false → (K : Int) = (M : Int) + 1 := fun h => by rw [hK, hki h, hM]; omega
  have hMI : decide ((65536 : Int) ≤ (M : Int)) = false := by rw [decide_eq_false_iff_not]; omega
  have hMI2 : decide (65536 ≤ M) = false := by rw [decide_eq_false_iff_not]; omega
  have hKB : K ≤ 70000 := by
    cases lf with
    | true => have := hK1 rfl; omega
    | false => have := hK2 rfl; omega
  have hco : Hid (∀ wz, Below w.heap.size w wz → Calls Tryz.prog 152 #[.slice B K d, .func (.func 153) #[] #[]] wz fun e w' => e = .returned (.bool false) ∧ wz = w') := hide fun wz hb => by
    have h1 : RN w w.heap.size B K n.kids := by rw [hK]; exact hks.reads fun k hk => hk
    exact contains_any wz _ B K d n.kids (h1.below hb) hr.kidsOk hKB
  have hat : Hid (∀ i, i < M → ∃ x ad kA vA kc vc, n.cells[i]? = some x ∧ x ∈ n.cells ∧ A = some ad ∧ CellHere (Old w) w (ad.add (i * 4)) x kA vA kc vc) := hide fun i hi => by
    have hil : i < n.cells.length := by omega
    obtain ⟨ad, kA, vA, kc, vc, h1, h2⟩ := hcs.at_ i hil
    exact ⟨n.cells[i], ad, kA, vA, kc, vc, List.getElem?_eq_getElem hil, List.getElem_mem hil, h1, h2⟩
  replace hr := hide hr
  replace hM := hide hM
  replace hK := hide hK
  replace hlf := hide hlf
  replace hcs := hide hcs
  replace hks := hide hks
  replace hmany := hide hmany
  replace hKB := hide hKB
  clear hkl hki hd hc
  cases lf with
  | true =>
    have hK0 := hK1 rfl
    clear hK1 hK2
    have hB0 : Hid (Below w.heap.size w (w.alloc (.cells #[.bool true, .slice A M c, .slice B K d] 101))) := hide ((Below.refl _ _).alloc (Nat.le_refl _) _)
    have hN0 : Hid (Blk (w.alloc (.cells #[.bool true, .slice A M c, .slice B K d] 101)) w.heap.size 101 #[.bool true, .slice A M c, .slice B K d]) := hide (Blk.new _ _ _)
    go_enter Tryz.func103, Tryz.ntmps103
    go_wp2_with fail
    go_loopw [37] (fun v37 wx => ∃ i : Nat, v37 = .int .i64 (i : Int) ∧ i ≤ M ∧ Hid (Below w.heap.size w wx) ∧ Hid (Blk wx w.heap.size 101 #[.bool true, .slice A M c, .slice B K d])) (fun v37 _ => M - (intOf v37).toNat)
    case atStart => exact ⟨0, rfl, Nat.zero_le _, hB0, hN0⟩
    case round =>
      clear hB0 hN0
      obtain ⟨i, rfl, hi, hbr, hnb⟩ := hrel
      have n0 := hnb.out.cell 0
      have n1 := hnb.out.cell 1
      have n2 := hnb.out.cell 2
      rcases Nat.lt_or_ge i M with hlt | hge
      · have hI : (i : Int) < (M : Int) := by omega
        have hiB : (i : Int) ≤ 70000 := by have := hmany.out; omega
        obtain ⟨x, ad, kA, vA, kc, vc, hx, hxm, eA, hh⟩ := hat.out i hlt
        have hw := CellHere.below (B := w.heap.size) hh hbr.out
        have hkey := hr.out.keys x hxm
        have hval := hr.out.vals x hxm
        rw [← hlf.out] at hval
        replace hx := hide hx
        replace hxm := hide hxm
        have c0 := hw.c0
        have c1 := hw.c1
        have c2 := hw.c2
        have c3 := hw.c3
        have hk1 : (1 : Int) ≤ (x.key.length : Int) := by omega
        have hk2 : (x.key.length : Int) ≤ 120 := by omega
        obtain ⟨KL, hKL⟩ : ∃ KL, KL = x.key.length := ⟨_, rfl⟩
        have hkey2 := hh.key
        rw [← hKL] at c0 hk1 hk2 hkey2
        obtain ⟨VL, hVL⟩ : ∃ VL, VL = x.val.length := ⟨_, rfl⟩
        rw [← hVL] at c1
        have hce := hide (fun wz => ncell_any wz x (by simpa using hval) kA vA KL kc vc)
        rw [← hVL] at hce
        replace hVL := hide hVL
        have hB1 : Hid (Below w.heap.size w (wr.alloc (.cells #[.slice kA KL kc, .slice vA VL vc, .int .i64 (x.over : Int), .int .i64 (x.long : Int)] 95))) := hide (hbr.out.alloc (hbr.out.size) _)
        have hN1 : Hid (Blk (wr.alloc (.cells #[.slice kA KL kc, .slice vA VL vc, .int .i64 (x.over : Int), .int .i64 (x.long : Int)] 95)) w.heap.size 101 #[.bool true, .slice A M c, .slice B K d]) := hide (hnb.out.alloc _)
        have hkb : Hid (RB (wr.alloc (.cells #[.slice kA KL kc, .slice vA VL vc, .int .i64 (x.over : Int), .int .i64 (x.long : Int)] 95)) w.heap.size kA KL x.key) := hide (RB.below (Rd.reads hkey2 fun k hk => hk) hB1.out)
        have e0 : (wr.alloc (.cells #[.slice kA KL kc, .slice vA VL vc, .int .i64 (x.over : Int), .int .i64 (x.long : Int)] 95)).cell? ⟨w.heap.size, 0, none⟩ = some (.bool true) := hN1.out.cell 0
        have e1 : (wr.alloc (.cells #[.slice kA KL kc, .slice vA VL vc, .int .i64 (x.over : Int), .int .i64 (x.long : Int)] 95)).cell? ⟨w.heap.size, 1, none⟩ = some (.slice A M c) := hN1.out.cell 1
        replace hkey2 := hide hkey2
        replace hkey := hide hkey
        replace hw := hide hw
        replace hh := hide hh
        replace hKL := hide hKL
        clear hval
        subst eA
        rcases Nat.eq_zero_or_pos i with h0 | h0
        · have h0I : (i : Int) ≤ 0 := by omega
          have h0D : decide ((0 : Int) < (i : Int)) = false := by rw [decide_eq_false_iff_not]; omega
          have h0E : decide (0 < i) = false := by rw [decide_eq_false_iff_not]; omega
          replace h0 := hide h0
          go_wp2_with fail
          go_quiet (fail)
          go_wp2_with (first | (go_at_call 151; refine (hce.out _).mono ?_; rintro e w3 ⟨rfl, hb3⟩; have hB3 : Hid (Below w.heap.size w w3) := hide ((below_drewN hB1.out _).trans (hb3.mono hB1.out.size)); have hN3 := hide ((hN1.out.drewN nq).below hb3 (Blk.lt hN1.out)); have g0 : w3.cell? ⟨w.heap.size, 0, none⟩ = some (.bool true) := hN3.out.cell 0; replace hb3 := hide hb3))
          go_roundw
          case rel => exact ⟨i + 1, by simp, by omega, hB3, hN3⟩
          case measure => simp [intOf]; omega
        · obtain ⟨j, hj⟩ : ∃ j, j = i - 1 := ⟨_, rfl⟩
          obtain ⟨y, ad2, pA, qA, pc, qc, hy, hym, eA2, hp⟩ := hat.out j (by omega)
          obtain rfl : ad = ad2 := by simpa using eA2
          have hpw := CellHere.below (B := w.heap.size) hp hB1.out
          have hris : ltK y.key x.key = true := by
            have hj1 : j + 1 = i := by omega
            have hx2 := hx.out
            rw [← hj1] at hx2
            have hy2 := List.getElem?_eq_some_iff.1 hy
            have hx3 := List.getElem?_eq_some_iff.1 hx2
            have := rise_at n.cells hr.out.rise j hx3.1
            rw [hy2.2, hx3.2] at this
            exact this
          have p0 := hpw.c0
          have hjI : (i : Int) - 1 = (j : Int) := by omega
          have hjW : IntKind.i64.wrap (j : Int) = (j : Int) := IntWalk.i64_in _ (by omega)
          have hjM : (j : Int) < (M : Int) := by omega
          have hcm : Hid (∀ q, Calls Tryz.prog 62 #[.slice pA y.key.length pc, .slice kA KL kc] ((wr.alloc (.cells #[.slice kA KL kc, .slice vA VL vc, .int .i64 (x.over : Int), .int .i64 (x.long : Int)] 95)).drewN q) fun e w' => e = .returned (.int .i64 (Lib.compareBytes y.key x.key)) ∧ (wr.alloc (.cells #[.slice kA KL kc, .slice vA VL vc, .int .i64 (x.over : Int), .int .i64 (x.long : Int)] 95)).drewN q = w') := hide fun q => cmp_any _ w.heap.size w.heap.size pA kA y.key.length pc KL kc y.key x.key (RB.drewN (Rd.reads hpw.key fun k hk => hk) q) (hkb.out.drewN q)
          have hlt0 : Lib.compareBytes y.key x.key < 0 := by have := cmp_lt y.key x.key; rw [hris] at this; simpa using this
          obtain ⟨cv, hcv⟩ : ∃ cv, cv = Lib.compareBytes y.key x.key := ⟨_, rfl⟩
          rw [← hcv] at hcm hlt0
          have hltD : decide ((0 : Int) ≤ cv) = false := by rw [decide_eq_false_iff_not]; omega
          obtain ⟨YL, hYL⟩ : ∃ YL, YL = y.key.length := ⟨_, rfl⟩
          rw [← hYL] at hcm p0
          replace hYL := hide hYL
          replace hpw := hide hpw
          replace hp := hide hp
          replace hy := hide hy
          replace hj := hide hj
          replace hcv := hide hcv
          replace hris := hide hris
          replace hym := hide hym
          clear eA2
          have h0I : (0 : Int) < (i : Int) := by omega
          have h0D : decide ((0 : Int) < (i : Int)) = true := by rw [decide_eq_true_eq]; omega
          go_wp2_with fail
          go_quiet (first | (go_at_call 62; exact quiet_left (hcm.out _)))
          go_wp2_with (first | (go_at_call 151; refine (hce.out _).mono ?_; rintro e w3 ⟨rfl, hb3⟩; have hB3 : Hid (Below w.heap.size w w3) := hide ((below_drewN hB1.out _).trans (hb3.mono hB1.out.size)); have hN3 := hide ((hN1.out.drewN nq).below hb3 (Blk.lt hN1.out)); have g0 : w3.cell? ⟨w.heap.size, 0, none⟩ = some (.bool true) := hN3.out.cell 0; replace hb3 := hide hb3))
          go_roundw
          case rel => exact ⟨i + 1, by simp, by omega, hB3, hN3⟩
          case measure => simp [intOf]; omega
      · have hI : ¬ (i : Int) < (M : Int) := by omega
        have hI2 : (M : Int) ≤ (i : Int) := by omega
        have hcc := hide (hco.out wr hbr.out)
        go_wp2_with fail
        refine hcc.out.mono ?_
        rintro e w2 ⟨rfl, rfl⟩
        go_wp2_with fail
        go_ret
        exact ⟨rfl, hbr.out⟩
  | false =>
    have hK0 := hK2 rfl
    clear hK1 hK2
    obtain ⟨M1, hM1⟩ : ∃ M1, M1 = M + 1 := ⟨_, rfl⟩
    have hMJ : (M : Int) + 1 = (M1 : Int) := by omega
    have hMW : IntKind.i64.wrap (M1 : Int) = (M1 : Int) := IntWalk.i64_in _ (by have := hmany.out; omega)
    have hKM : ((K : Int) != (M1 : Int)) = false := by rw [bne_eq_false_iff_eq]; omega
    have hKM2 : (K == M1) = true := by rw [beq_iff_eq]; omega
    replace hK0 := hide hK0
    replace hM1 := hide hM1
    have hB0 : Hid (Below w.heap.size w (w.alloc (.cells #[.bool false, .slice A M c, .slice B K d] 101))) := hide ((Below.refl _ _).alloc (Nat.le_refl _) _)
    have hN0 : Hid (Blk (w.alloc (.cells #[.bool false, .slice A M c, .slice B K d] 101)) w.heap.size 101 #[.bool false, .slice A M c, .slice B K d]) := hide (Blk.new _ _ _)
    go_enter Tryz.func103, Tryz.ntmps103
    go_wp2_with fail
    go_loopw [37] (fun v37 wx => ∃ i : Nat, v37 = .int .i64 (i : Int) ∧ i ≤ M ∧ Hid (Below w.heap.size w wx) ∧ Hid (Blk wx w.heap.size 101 #[.bool false, .slice A M c, .slice B K d])) (fun v37 _ => M - (intOf v37).toNat)
    case atStart => exact ⟨0, rfl, Nat.zero_le _, hB0, hN0⟩
    case round =>
      clear hB0 hN0
      obtain ⟨i, rfl, hi, hbr, hnb⟩ := hrel
      have n0 := hnb.out.cell 0
      have n1 := hnb.out.cell 1
      have n2 := hnb.out.cell 2
      rcases Nat.lt_or_ge i M with hlt | hge
      · have hI : (i : Int) < (M : Int) := by omega
        have hiB : (i : Int) ≤ 70000 := by have := hmany.out; omega
        obtain ⟨x, ad, kA, vA, kc, vc, hx, hxm, eA, hh⟩ := hat.out i hlt
        have hw := CellHere.below (B := w.heap.size) hh hbr.out
        have hkey := hr.out.keys x hxm
        have hval := hr.out.vals x hxm
        rw [← hlf.out] at hval
        replace hx := hide hx
        replace hxm := hide hxm
        have c0 := hw.c0
        have c1 := hw.c1
        have c2 := hw.c2
        have c3 := hw.c3
        have hk1 : (1 : Int) ≤ (x.key.length : Int) := by omega
        have hk2 : (x.key.length : Int) ≤ 120 := by omega
        obtain ⟨KL, hKL⟩ : ∃ KL, KL = x.key.length := ⟨_, rfl⟩
        have hkey2 := hh.key
        rw [← hKL] at c0 hk1 hk2 hkey2
        have hbare : BareCell x := by simpa using hval
        have hV0 : x.val.length = 0 := by rw [hbare.2.2]; rfl
        rw [hV0] at c1
        rw [hbare.1] at c2
        rw [hbare.2.1] at c3
        replace hV0 := hide hV0
        replace hbare := hide hbare
        have hB1 : Hid (Below w.heap.size w (wr.alloc (.cells #[.slice kA KL kc, .slice vA 0 vc, .int .i64 0, .int .i64 0] 95))) := hide (hbr.out.alloc (hbr.out.size) _)
        have hN1 : Hid (Blk (wr.alloc (.cells #[.slice kA KL kc, .slice vA 0 vc, .int .i64 0, .int .i64 0] 95)) w.heap.size 101 #[.bool false, .slice A M c, .slice B K d]) := hide (hnb.out.alloc _)
        have hkb : Hid (RB (wr.alloc (.cells #[.slice kA KL kc, .slice vA 0 vc, .int .i64 0, .int .i64 0] 95)) w.heap.size kA KL x.key) := hide (RB.below (Rd.reads hkey2 fun k hk => hk) hB1.out)
        have e0 : (wr.alloc (.cells #[.slice kA KL kc, .slice vA 0 vc, .int .i64 0, .int .i64 0] 95)).cell? ⟨w.heap.size, 0, none⟩ = some (.bool false) := hN1.out.cell 0
        have e1 : (wr.alloc (.cells #[.slice kA KL kc, .slice vA 0 vc, .int .i64 0, .int .i64 0] 95)).cell? ⟨w.heap.size, 1, none⟩ = some (.slice A M c) := hN1.out.cell 1
        replace hkey2 := hide hkey2
        replace hkey := hide hkey
        replace hw := hide hw
        replace hh := hide hh
        replace hKL := hide hKL
        clear hval
        subst eA
        rcases Nat.eq_zero_or_pos i with h0 | h0
        · have h0I : (i : Int) ≤ 0 := by omega
          have h0D : decide ((0 : Int) < (i : Int)) = false := by rw [decide_eq_false_iff_not]; omega
          have h0E : decide (0 < i) = false := by rw [decide_eq_false_iff_not]; omega
          replace h0 := hide h0
          go_wp2_with fail
          go_quiet (fail)
          go_wp2_with fail
          go_roundw
          case rel => exact ⟨i + 1, by simp, by omega, hide (below_drewN hB1.out _), hide (hN1.out.drewN nq)⟩
          case measure => simp [intOf]; omega
        · obtain ⟨j, hj⟩ : ∃ j, j = i - 1 := ⟨_, rfl⟩
          obtain ⟨y, ad2, pA, qA, pc, qc, hy, hym, eA2, hp⟩ := hat.out j (by omega)
          obtain rfl : ad = ad2 := by simpa using eA2
          have hpw := CellHere.below (B := w.heap.size) hp hB1.out
          have hris : ltK y.key x.key = true := by
            have hj1 : j + 1 = i := by omega
            have hx2 := hx.out
            rw [← hj1] at hx2
            have hy2 := List.getElem?_eq_some_iff.1 hy
            have hx3 := List.getElem?_eq_some_iff.1 hx2
            have := rise_at n.cells hr.out.rise j hx3.1
            rw [hy2.2, hx3.2] at this
            exact this
          have p0 := hpw.c0
          have hjI : (i : Int) - 1 = (j : Int) := by omega
          have hjW : IntKind.i64.wrap (j : Int) = (j : Int) := IntWalk.i64_in _ (by omega)
          have hjM : (j : Int) < (M : Int) := by omega
          have hcm : Hid (∀ q, Calls Tryz.prog 62 #[.slice pA y.key.length pc, .slice kA KL kc] ((wr.alloc (.cells #[.slice kA KL kc, .slice vA 0 vc, .int .i64 0, .int .i64 0] 95)).drewN q) fun e w' => e = .returned (.int .i64 (Lib.compareBytes y.key x.key)) ∧ (wr.alloc (.cells #[.slice kA KL kc, .slice vA 0 vc, .int .i64 0, .int .i64 0] 95)).drewN q = w') := hide fun q => cmp_any _ w.heap.size w.heap.size pA kA y.key.length pc KL kc y.key x.key (RB.drewN (Rd.reads hpw.key fun k hk => hk) q) (hkb.out.drewN q)
          have hlt0 : Lib.compareBytes y.key x.key < 0 := by have := cmp_lt y.key x.key; rw [hris] at this; simpa using this
          obtain ⟨cv, hcv⟩ : ∃ cv, cv = Lib.compareBytes y.key x.key := ⟨_, rfl⟩
          rw [← hcv] at hcm hlt0
          have hltD : decide ((0 : Int) ≤ cv) = false := by rw [decide_eq_false_iff_not]; omega
          obtain ⟨YL, hYL⟩ : ∃ YL, YL = y.key.length := ⟨_, rfl⟩
          rw [← hYL] at hcm p0
          replace hYL := hide hYL
          replace hpw := hide hpw
          replace hp := hide hp
          replace hy := hide hy
          replace hj := hide hj
          replace hcv := hide hcv
          replace hris := hide hris
          replace hym := hide hym
          clear eA2
          have h0I : (0 : Int) < (i : Int) := by omega
          have h0D : decide ((0 : Int) < (i : Int)) = true := by rw [decide_eq_true_eq]; omega
          go_wp2_with fail
          go_quiet (first | (go_at_call 62; exact quiet_left (hcm.out _)))
          go_wp2_with fail
          go_roundw
          case rel => exact ⟨i + 1, by simp, by omega, hide (below_drewN hB1.out _), hide (hN1.out.drewN nq)⟩
          case measure => simp [intOf]; omega
      · have hI : ¬ (i : Int) < (M : Int) := by omega
        have hI2 : (M : Int) ≤ (i : Int) := by omega
        have hcc := hide (hco.out wr hbr.out)
        go_wp2_with fail
        refine hcc.out.mono ?_
        rintro e w2 ⟨rfl, rfl⟩
        go_wp2_with fail
        go_ret
        exact ⟨rfl, hbr.out⟩
end Go.Proofs.YthohbbaglceppaaGreatDoor
