/-
  Contract of the unpacker's symbol.
-/
import Derived.Test.YtbchaomnjbkdhaaGreatEN
namespace Go.Proofs.YtbchaomnjbkdhaaGreat
open Go.RowKit Go.Sort Go.Proofs
set_option linter.unusedVariables false
def SymRet (w : World) (B gr gb : Nat) (vb vo : Value) (l : List UInt8) (p n : Nat) (out : List UInt8) (at_ st : Nat) (last : Bool) (left back : Nat) (pl pd : Value) (out' : List UInt8) (st' left' back' : Nat) (e : Ending) (w' : World) : Prop :=
  ∃ vo', (∀ k, vo'.ownBlock = some k → vo.ownBlock = some k ∨ w.heap.size ≤ k) ∧ Only (SM gr gb vo) w w' ∧
    ((p + n ≤ 8 * l.length ∧ e = .returned (.int .i64 0) ∧ Mach w' B gr gb vb vo' l (p + n) out' at_ st' last left' back' pl pd) ∨
     (¬ p + n ≤ 8 * l.length ∧ e = .returned (.int .i64 3) ∧ ∃ p', p ≤ p' ∧ p' ≤ 8 * l.length ∧ Mach w' B gr gb vb vo' l p' out at_ st last left back pl pd))
/-- The symbol was taken. -/
def SymA (w : World) (B gr gb : Nat) (vb vo : Value) (l : List UInt8) (p N s : Nat) (out : List UInt8) (at_ st : Nat) (last : Bool) (left back : Nat) (pl pd : Value) (v3 v4 : Value) (wx : World) : Prop :=
  ∃ ge, v4 = .pointer (some ⟨ge, 0, none⟩) ∧ w.heap.size ≤ ge ∧ Only (SM gr gb vo) w wx ∧
    ((p + N ≤ 8 * l.length ∧ v3 = .int .i64 (s : Int) ∧ Blk wx ge 24 #[.int .i64 0] ∧ Mach wx B gr gb vb vo l (p + N) out at_ st last left back pl pd) ∨
     (¬ p + N ≤ 8 * l.length ∧ v3 = .int .i64 0 ∧ Blk wx ge 24 #[.int .i64 3] ∧ Mach wx B gr gb vb vo l p out at_ st last left back pl pd))
theorem SymA.a {w w2 : World} {B gr gb : Nat} {vb vo : Value} {l : List UInt8} {p N s : Nat} {out : List UInt8} {at_ st : Nat} {last : Bool} {left back : Nat} {pl pd : Value} {a b : Nat}
    (h : Mach w B gr gb vb vo l p out at_ st last left back pl pd) (hX : NextX (w.drewN 1) gb vb l p N s a b w2) :
    SymA w B gr gb vb vo l p N s out at_ st last left back pl pd (.int .i64 (a : Int)) (.pointer (some ⟨w2.heap.size, 0, none⟩)) (w2.alloc (.cells #[.int .i64 (b : Int)] 24)) := by
  rcases hX with ⟨k1, rfl, rfl, k2, k3⟩ | ⟨k1, rfl, rfl, k2, k3⟩
  · exact ⟨w2.heap.size, rfl, k3.size, (((Only.refl _ w).drewN 1).trans k3 fun _ _ h => .inr (.inl h)).alloc _, .inl ⟨k1, rfl, Blk.new _ _ _, ((h.drewN 1).read k2 k3).alloc _⟩⟩
  · exact ⟨w2.heap.size, rfl, k3.size, (((Only.refl _ w).drewN 1).trans k3 fun _ _ h => .inr (.inl h)).alloc _, .inr ⟨k1, rfl, Blk.new _ _ _, ((h.drewN 1).read k2 k3).alloc _⟩⟩
theorem Mach.setE {w : World} {B gr gb : Nat} {vb vo : Value} {l : List UInt8} {p : Nat} {out : List UInt8} {at_ st : Nat} {last : Bool} {left back : Nat} {pl pd : Value}
    (h : Mach w B gr gb vb vo l p out at_ st last left back pl pd) {ge : Nat} {cs : Array Value} (hE : Blk w ge 24 cs) (u : Value) : Mach (w.setCell ⟨ge, 0, none⟩ u) B gr gb vb vo l p out at_ st last left back pl pd :=
  h.other ((Only.refl (· = ge) w).setCell (p := ⟨ge, 0, none⟩) (fun _ => rfl) u) hE fun _ _ h => h
theorem SymA.b {w w2 : World} {B gr gb : Nat} {vb vo : Value} {l : List UInt8} {p N s : Nat} {out : List UInt8} {at_ st : Nat} {last : Bool} {left back : Nat} {pl pd : Value} {a b : Nat}
    (h : Mach w B gr gb vb vo l p out at_ st last left back pl pd) (hX : NextX ((w.drewN 1).alloc (.cells #[.int .i64 0] 24)) gb vb l p N s a b w2) :
    SymA w B gr gb vb vo l p N s out at_ st last left back pl pd (.int .i64 (a : Int)) (.pointer (some ⟨w.heap.size, 0, none⟩)) (w2.setCell ⟨w.heap.size, 0, none⟩ (.int .i64 (b : Int))) := by
  have hE0 := NextX.new hX (h.br.1.lt)
  have hE : Blk w2 w.heap.size 24 #[.int .i64 0] := hE0
  have hO1 : Only (SM gr gb vo) w ((w.drewN 1).alloc (.cells #[.int .i64 0] 24)) := ((Only.refl _ w).drewN 1).alloc _
  rcases hX with ⟨k1, rfl, rfl, k2, k3⟩ | ⟨k1, rfl, rfl, k2, k3⟩
  · exact ⟨w.heap.size, rfl, Nat.le_refl _, (hO1.trans k3 fun _ _ h => .inr (.inl h)).setCell (p := ⟨w.heap.size, 0, none⟩) (fun h => absurd h (Nat.lt_irrefl _)) _, .inl ⟨k1, rfl, hE.set_ 0 _, (((h.drewN 1).alloc _).read k2 k3).setE hE _⟩⟩
  · exact ⟨w.heap.size, rfl, Nat.le_refl _, (hO1.trans k3 fun _ _ h => .inr (.inl h)).setCell (p := ⟨w.heap.size, 0, none⟩) (fun h => absurd h (Nat.lt_irrefl _)) _, .inr ⟨k1, rfl, hE.set_ 0 _, (((h.drewN 1).alloc _).read k2 k3).setE hE _⟩⟩
/-- The distance's symbol was taken. -/
def SymB (w : World) (B gr gb ge : Nat) (vb vo : Value) (l : List UInt8) (p N s : Nat) (out : List UInt8) (at_ st : Nat) (last : Bool) (left back : Nat) (pl pd : Value) (v7 : Value) (wx : World) : Prop :=
  Only (SE gr gb vo ge) w wx ∧
    ((p + N ≤ 8 * l.length ∧ v7 = .int .i64 (s : Int) ∧ Blk wx ge 24 #[.int .i64 0] ∧ Mach wx B gr gb vb vo l (p + N) out at_ st last left back pl pd) ∨
     (¬ p + N ≤ 8 * l.length ∧ v7 = .int .i64 0 ∧ Blk wx ge 24 #[.int .i64 3] ∧ Mach wx B gr gb vb vo l p out at_ st last left back pl pd))
theorem SymB.mk_ {w w2 : World} {B gr gb ge : Nat} {vb vo : Value} {l : List UInt8} {p N s : Nat} {out : List UInt8} {at_ st : Nat} {last : Bool} {left back : Nat} {pl pd : Value} {a b : Nat}
    (h : Mach w B gr gb vb vo l p out at_ st last left back pl pd) (hE : Blk w ge 24 #[.int .i64 0]) (hX : NextX (w.drewN 1) gb vb l p N s a b w2) :
    SymB w B gr gb ge vb vo l p N s out at_ st last left back pl pd (.int .i64 (a : Int)) (w2.setCell ⟨ge, 0, none⟩ (.int .i64 (b : Int))) := by
  have hne : ge ≠ gb := Blk.ne_ hE h.br.1 (by decide)
  have hE2 := hX.blk (hE.drewN 1) hne
  rcases hX with ⟨k1, rfl, rfl, k2, k3⟩ | ⟨k1, rfl, rfl, k2, k3⟩
  · exact ⟨((((Only.refl _ w).drewN 1).trans k3 fun _ _ h => .inl (.inr (.inl h)))).setCell (p := ⟨ge, 0, none⟩) (fun _ => .inr rfl) _, .inl ⟨k1, rfl, hE2.set_ 0 _, ((h.drewN 1).read k2 k3).setE hE2 _⟩⟩
  · exact ⟨((((Only.refl _ w).drewN 1).trans k3 fun _ _ h => .inl (.inr (.inl h)))).setCell (p := ⟨ge, 0, none⟩) (fun _ => .inr rfl) _, .inr ⟨k1, rfl, hE2.set_ 0 _, ((h.drewN 1).read k2 k3).setE hE2 _⟩⟩
/-- What a symbol does. -/
def SymK (ds : List Nat) (out : List UInt8) (st left back s : Nat) (F : List Nat) (out' : List UInt8) (st' left' back' : Nat) : Prop :=
  (s < 256 ∧ F = [] ∧ out' = out ++ [UInt8.ofNat s] ∧ st' = st ∧ left' = left ∧ back' = back) ∨
  (s = 256 ∧ F = [] ∧ out' = out ∧ st' = 0 ∧ left' = left ∧ back' = back) ∨
  (∃ x, okI x ∧ x.far ≠ 0 ∧ s = (litP x).symbol ∧ F = loB (litP x).wide (litP x).more ++ (encS ds (farP x).symbol ++ loB (farP x).wide (farP x).more) ∧ x.far ≤ out.length ∧ (farP x).symbol < ds.length ∧ 1 ≤ ds.getD (farP x).symbol 0 ∧ out' = out ∧ st' = 3 ∧ left' = x.long ∧ back' = x.far)
set_option maxRecDepth 100000 in
set_option maxHeartbeats 4000000 in
theorem symbol_any (w : World) (B gr gb gl gd : Nat) (vb vo : Value) (l : List UInt8) (p : Nat) (out : List UInt8) (at_ st : Nat) (last : Bool) (left back : Nat) (ls ds : List Nat) (s : Nat) (F : List Nat) (out' : List UInt8) (st' left' back' : Nat)
    (h : Mach w B gr gb vb vo l p out at_ st last left back (.pointer (some ⟨gl, 0, none⟩)) (.pointer (some ⟨gd, 0, none⟩))) (hB : B ≤ w.heap.size) (hc : CodeAt w B gl ls) (hok : codeOk ls) (hcd : CodeAt w B gd ds) (hokd : codeOk ds) (hs : s < ls.length) (h1 : 1 ≤ ls.getD s 0)
    (hp : p ≤ 8 * l.length) (hl : l.length ≤ 10000000) (ho : out.length ≤ 10000000) (hA : Agr l p (encS ls s ++ F)) (hk : SymK ds out st left back s F out' st' left' back') :
    Calls Tryz.prog 70 #[.pointer (some ⟨gr, 0, none⟩)] w (SymRet w B gr gb vb vo l p (ls.getD s 0 + F.length) out at_ st last left back (.pointer (some ⟨gl, 0, none⟩)) (.pointer (some ⟨gd, 0, none⟩)) out' st' left' back') := by
  have c0 := h.rd.cell 0
  have c7 := h.rd.cell 7
  have hN : Hid (∀ wz : World, CodeAt wz B gl ls → BRAt wz gb vb l p → Calls Tryz.prog 88 #[.pointer (some ⟨gl, 0, none⟩), .pointer (some ⟨gb, 0, none⟩)] wz fun e w' => ∃ a b : Nat, e = .returned (.tuple #[.int .i64 (a : Int), .int .i64 (b : Int)]) ∧ NextX wz gb vb l p (ls.getD s 0) s a b w') := fun wz k1 k2 => next_x wz B gl gb s p vb l ls k1 hok hs h1 k2 hp hl hA.left
  have hA2 := hide hA.right
  rw [encS_len] at hA2
  have hgr := hide h.rd.lt
  have hgb := hide h.br.1.lt
  obtain ⟨N, hNe⟩ : ∃ N, N = ls.getD s 0 := ⟨_, rfl⟩
  rw [← hNe] at hN hA2 ⊢
  replace h := hide h
  replace hc := hide hc
  replace hcd := hide hcd
  replace hok := hide hok
  replace hokd := hide hokd
  replace hA := hide hA
  replace hNe := hide hNe
  replace hk := hide hk
  have c0' : w.cell? ⟨gr, 0, none⟩ = some (.pointer (some ⟨gb, 0, none⟩)) := c0
  have c7' : w.cell? ⟨gr, 7, none⟩ = some (.pointer (some ⟨gl, 0, none⟩)) := c7
  have b0 : (w.alloc (.cells #[.int .i64 0] 24)).cell? ⟨gr, 0, none⟩ = some (.pointer (some ⟨gb, 0, none⟩)) := (World.cell?_alloc_lt w _ ⟨gr, 0, none⟩ hgr.out).trans c0'
  have b7 : (w.alloc (.cells #[.int .i64 0] 24)).cell? ⟨gr, 7, none⟩ = some (.pointer (some ⟨gl, 0, none⟩)) := (World.cell?_alloc_lt w _ ⟨gr, 7, none⟩ hgr.out).trans c7'
  clear c0 c7 hs h1
  go_enter Tryz.func70, Tryz.ntmps70
  go_wp2_with fail
  go_cut [3, 4] (fun v3 v4 wx => SymA w B gr gb vb vo l p N s out at_ st last left back (.pointer (some ⟨gl, 0, none⟩)) (.pointer (some ⟨gd, 0, none⟩)) v3 v4 wx)
  case first =>
    go_region_with (go_at_call 88; first
      | (refine (hN.out _ (hc.out.drewN 1) (h.out.br.drewN 1)).mono ?_; rintro e w2 ⟨a, b, rfl, hX⟩; replace hX := hide hX)
      | (refine (hN.out _ ((hc.out.drewN 1).alloc _) ((h.out.br.drewN 1).alloc _)).mono ?_; rintro e w2 ⟨a, b, rfl, hX⟩; have hnf : w2.frozen? ⟨w.heap.size, 0, none⟩ = false := (NextX.new hX hgb.out).frozen 0; have hnc : w2.cell? ⟨w.heap.size, 0, none⟩ = some (.int .i64 0) := (NextX.new hX hgb.out).cell 0; replace hX := hide hX))
    all_goals go_wp2_with fail
    all_goals go_meet
    all_goals
      first
      | exact SymA.a h.out hX.out
      | exact SymA.b h.out hX.out
  case rest =>
    obtain ⟨ge, rfl, hge, hO1, hcase⟩ := hcut
    clear b0 b7 hN
    rcases hcase with ⟨hpn, rfl, hE, hM⟩ | ⟨hpn, rfl, hE, hM⟩
    · have e0 := hE.cell 0
      have hO1h := hide hO1
      rcases hk.out with ⟨k1, rfl, rfl, rfl, rfl, rfl⟩ | ⟨rfl, rfl, rfl, rfl, rfl, rfl⟩ | ⟨x, x1, x2, hS, rfl, x4, x5, x6, rfl, rfl, rfl, rfl⟩
      · have hem := hide (emit_any wc gr out.length vo _ out (UInt8.ofNat s) hM.rd rfl (hM.ou.more (Nat.zero_le _)) ho)
        have hu : (UInt8.ofNat s).toNat = s := by rw [UInt8.toNat_ofNat']; omega
        rw [hu] at hem
        have hM2 := hide hM
        have hBc : Hid (B ≤ wc.heap.size) := Nat.le_trans hB hO1.size
        have hsI : (s : Int) < 256 := by omega
        clear hM hO1 hu
        replace hE := hide hE
        go_wp2_with fail
        refine hem.out.mono ?_
        rintro e w3 ⟨rfl, vo', hr', ho', hO2, hk'⟩
        have hM3 := hide (hM2.out.emit hBc.out hr' ho' hO2 hk')
        have hk2 : Hid (∀ k, vo'.ownBlock = some k → vo.ownBlock = some k ∨ w.heap.size ≤ k) := fun k hk => by
          rcases hk' k hk with h5 | h5
          · exact .inl h5
          · exact .inr (Nat.le_trans hO1h.out.size h5)
        have hO3 := hide (SM.trans hO1h.out (hO2.mono (T := fun k => k = gr ∨ vo.ownBlock = some k) (S := SM gr gb vo) fun _ _ h => h.elim .inl fun h => .inr (.inr h)) fun k hk => .inl hk)
        clear hO2 hk' hem hr' ho'
        go_wp2_with fail
        go_ret
        exact ⟨vo', hk2.out, hO3.out, .inl ⟨hpn, rfl, hM3.out⟩⟩
      · have f3 := hM.rd.frozen 3
        have c3 := hM.rd.cell 3
        have hM3 := hide (hM.set_ 3 (.int .i64 0) (st2 := 0) (at2 := at_) (last2 := last) (left2 := left') (back2 := back') rfl)
        have hO3 := hide (SM.trans hO1 (hM.setO 3 (.int .i64 0)) fun k hk => .inl hk)
        clear hM hO1
        replace hE := hide hE
        go_wp2_with fail
        go_ret
        exact ⟨vo, fun k hk => .inl hk, hO3.out, .inl ⟨hpn, rfl, hM3.out⟩⟩
      · have hcp := copy_ok x x1 x2
        have hcI := hcp
        have hM2 := hide hM
        have hBc : Hid (B ≤ wc.heap.size) := Nat.le_trans hB hO1.size
        have hAm := hA2.out.left
        have hAd := hA2.out.right
        rw [loB_len] at hAd
        have hgbe : gb ≠ ge := by have := hgb.out; intro e; subst e; exact absurd hge (by have h5 := this; unfold Hid at h5; omega)
        obtain ⟨W, hW⟩ : ∃ W, W = (litP x).wide := ⟨_, rfl⟩
        obtain ⟨M, hMo⟩ : ∃ M, M = (litP x).more := ⟨_, rfl⟩
        have q1 := hcp.s1
        have q2 := hcp.s2
        have q3 := hcp.w5
        have q4 := hcp.more
        have q5 := hcp.top
        have q6 := hcp.mid
        rw [← hW, ← hMo] at hAm q4
        rw [← hS] at q1 q2 q5 q6
        rw [← hW] at q3 hAd q5 q6
        rw [← hMo] at q5 q6
        obtain ⟨K, hK⟩ : ∃ K, K = s - 257 := ⟨_, rfl⟩
        rw [← hK] at q6
        have hKI : (s : Int) - 257 = (K : Int) := by omega
        have hsp := hide (fun wz => span_any wz K 4 3 (by omega) (by omega) (by omega) (by omega) (by omega))
        have hned := hide (fun wz (k1 : Mach wz B gr gb vb vo l (p + N) out' at_ st last left back (.pointer (some ⟨gl, 0, none⟩)) (.pointer (some ⟨gd, 0, none⟩))) (k2 : Blk wz ge 24 #[.int .i64 ((0 : Nat) : Int)]) => need_m wz ge W 0 k1 k2 hpn hl (by omega) (.inl rfl))
        have s1 : ¬ (s : Int) < 256 := by omega
        have s2 : ((s : Int) == 256) = false := by rw [beq_eq_false_iff_ne]; omega
        have s3 : ¬ (285 : Int) < (s : Int) := by omega
        clear hM hO1 hcI
        replace hS := hide hS
        replace hW := hide hW
        replace hMo := hide hMo
        replace hK := hide hK
        have hE2 := hide hE
        obtain ⟨L1, hL1⟩ : ∃ L1, L1 = (spanP K 4 3).1 := ⟨_, rfl⟩
        obtain ⟨L2, hL2⟩ : ∃ L2, L2 = (spanP K 4 3).2 := ⟨_, rfl⟩
        rw [← hL1, ← hL2] at q6 hsp
        clear hE
        go_wp2_with fail
        refine (hsp.out wc).mono ?_
        rintro e w3 ⟨rfl, rfl⟩
        go_upto_if 48 with (fail)
        have hLB : Hid (x.long - M + M = x.long) := by
          by_cases h5 : s = 285
          · have := q5 h5; show _ = _; omega
          · have := q6 h5; show _ = _; omega
        have hlong : x.long ≤ 258 := by
          rcases x1 with x1 | x1 <;> omega
        obtain ⟨LB, hLBe⟩ : ∃ LB, LB = x.long - M := ⟨_, rfl⟩
        rw [← hLBe] at hLB
        have hLB2 := hLB.out
        replace hLBe := hide hLBe
        go_cut [5, 6] (fun v5 v6 wx => v5 = .int .i64 (LB : Int) ∧ v6 = .int .i64 (W : Int) ∧ wx = w3)
        case first =>
          by_cases h5 : s = 285
          · have h6 := q5 h5
            have s4 : ((s : Int) == 285) = true := by rw [beq_iff_eq]; omega
            go_wp2_with fail
            go_meet
            case rel => exact ⟨by congr 1; omega, by congr 1; omega, rfl⟩
          · have h6 := q6 h5
            have s4 : ((s : Int) == 285) = false := by rw [beq_eq_false_iff_ne]; omega
            go_wp2_with fail
            go_meet
            case rel => exact ⟨by congr 1; omega, by congr 1; omega, rfl⟩
        case rest =>
          obtain ⟨rfl, rfl, rfl⟩ := hcut
          have hnd := hide (hned.out wc hM2.out hE2.out)
          have hlow : Hid (p + N + W ≤ 8 * l.length → leN (((bytesB l).drop (p + N)).take W) = M) := fun h => hAm.low q4 h
          obtain ⟨G, hG⟩ : ∃ G, G = leN (((bytesB l).drop (p + N)).take W) := ⟨_, rfl⟩
          clear hsp hned q4 q5 q6 e0
          go_wp2_with fail
          refine hnd.out.mono ?_
          rintro e w4 ⟨v4, p4, e4, rfl, hM4, hE4, hO4, hcase⟩
          have hO5 := hide (SE.new hO1h.out hge hO4)
          have d0 := hE4.cell 0
          rcases hcase with ⟨hpn2, rfl, rfl, rfl⟩ | ⟨hpn2, rfl, rfl, rfl⟩
          · rw [hlow.out hpn2]
            have hsum : (LB : Int) + (M : Int) = (x.long : Int) := by omega
            have hBc4 : Hid (B ≤ w4.heap.size) := Nat.le_trans hBc.out hO4.size
            have hcd4 := hide (hM2.out.codeE hE2.out hO4 (hM2.out.code (w' := wc) (Only.refl _ _) (h.out.code hO1h.out hcd.out)))
            have hgr4 := hide hM4.rd.lt
            have hgb4 := hide hM4.br.1.lt
            have f4 := hE4.frozen 0
            have c40 : w4.cell? ⟨gr, 0, none⟩ = some (.pointer (some ⟨gb, 0, none⟩)) := hM4.rd.cell 0
            have c48 : w4.cell? ⟨gr, 8, none⟩ = some (.pointer (some ⟨gd, 0, none⟩)) := hM4.rd.cell 8
            have hne4 := hide (Blk.ne_ hE4 hM4.br.1 (by decide))
            obtain ⟨T, hT⟩ : ∃ T, T = (farP x).symbol := ⟨_, rfl⟩
            obtain ⟨Q, hQ⟩ : ∃ Q, Q = p + N + W := ⟨_, rfl⟩
            rw [← hT] at x5 x6
            rw [← hQ] at hM4 hpn2
            have hAd1 := hAd.left
            have hAd2 := hAd.right
            rw [← hQ, ← hT] at hAd1 hAd2
            rw [encS_len] at hAd2
            obtain ⟨ND, hND⟩ : ∃ ND, ND = ds.getD T 0 := ⟨_, rfl⟩
            have hN4 : Hid (∀ wz : World, CodeAt wz B gd ds → BRAt wz gb vb l Q → Calls Tryz.prog 88 #[.pointer (some ⟨gd, 0, none⟩), .pointer (some ⟨gb, 0, none⟩)] wz fun e w' => ∃ a b : Nat, e = .returned (.tuple #[.int .i64 (a : Int), .int .i64 (b : Int)]) ∧ NextX wz gb vb l Q ND T a b w') := fun wz k1 k2 => by rw [hND]; exact next_x wz B gd gb T Q vb l ds k1 hokd.out x5 x6 k2 hpn2 hl hAd1
            rw [← hND] at hAd2
            have hM5 := hide hM4
            have hE5 := hide hE4
            clear hM4 hO4 hE4 hnd hAd1
            replace hND := hide hND
            replace hQ := hide hQ
            replace hT := hide hT
            go_upto_region 18 with (fail)
            go_cut [7] (fun v7 wx => SymB w4 B gr gb ge vb vo l Q ND T out' at_ st last left back (.pointer (some ⟨gl, 0, none⟩)) (.pointer (some ⟨gd, 0, none⟩)) v7 wx)
            case first =>
              go_region_with (go_at_call 88; refine (hN4.out _ (hcd4.out.drewN 1) (hM5.out.br.drewN 1)).mono ?_; rintro e w5 ⟨a, b, rfl, hX⟩; have hnf : w5.frozen? ⟨ge, 0, none⟩ = false := (hX.blk (hE5.out.drewN 1) hne4.out).frozen 0; have hnc : w5.cell? ⟨ge, 0, none⟩ = some (.int .i64 0) := (hX.blk (hE5.out.drewN 1) hne4.out).cell 0; replace hX := hide hX)
              all_goals go_wp2_with fail
              all_goals go_meet
              all_goals exact SymB.mk_ hM5.out hE5.out hX.out
            case rest =>
              obtain ⟨hO6, hcase⟩ := hcut
              have hO7 := hide (SE.new hO5.out hge hO6)
              have hBc6 : Hid (B ≤ wc.heap.size) := Nat.le_trans hBc4.out hO6.size
              clear hN4 c40 c48 f4 d0
              rcases hcase with ⟨hpn3, rfl, hE6, hM6⟩ | ⟨hpn3, rfl, hE6, hM6⟩
              · have d6 := hE6.cell 0
                have y1 := hcp.f29
                have y2 := hcp.fw
                have y3 := hcp.fmore
                have y4 := hcp.far
                obtain ⟨FW, hFW⟩ : ∃ FW, FW = (farP x).wide := ⟨_, rfl⟩
                obtain ⟨FM, hFM⟩ : ∃ FM, FM = (farP x).more := ⟨_, rfl⟩
                rw [← hT.out] at y1 y4
                rw [← hFW] at y2 y3 y4 hAd2
                rw [← hFM] at y3 y4 hAd2
                have hsp6 := hide (fun wz => span_any wz T 2 1 (by omega) (by omega) (by omega) (by omega) (by omega))
                obtain ⟨R1, hR1⟩ : ∃ R1, R1 = (spanP T 2 1).1 := ⟨_, rfl⟩
                obtain ⟨R2, hR2⟩ : ∃ R2, R2 = (spanP T 2 1).2 := ⟨_, rfl⟩
                rw [← hR1, ← hR2] at y4 hsp6
                obtain ⟨y4, y5⟩ := y4
                subst y5
                have hx32 : x.far ≤ 32768 := by rcases x1 with x1 | x1 <;> omega
                have hT29 : ¬ (29 : Int) < (T : Int) := by omega
                have hned6 := hide (fun wz (k1 : Mach wz B gr gb vb vo l (Q + ND) out' at_ st last left back (.pointer (some ⟨gl, 0, none⟩)) (.pointer (some ⟨gd, 0, none⟩))) (k2 : Blk wz ge 24 #[.int .i64 ((0 : Nat) : Int)]) => need_m wz ge R2 0 k1 k2 hpn3 hl (by omega) (.inl rfl))
                have hlow6 : Hid (Q + ND + R2 ≤ 8 * l.length → leN (((bytesB l).drop (Q + ND)).take R2) = FM) := fun h => hAd2.low y3 h
                have hsum6 : (R1 : Int) + (FM : Int) = (x.far : Int) := by omega
                have hfar : ¬ (out'.length : Int) < (x.far : Int) := by omega
                replace hFW := hide hFW
                replace hFM := hide hFM
                replace hR1 := hide hR1
                replace hR2 := hide hR2
                have hM7 := hide hM6
                have hE7 := hide hE6
                clear hM6 hE6 hO6
                go_wp2_with fail
                refine (hsp6.out wc).mono ?_
                rintro e w7 ⟨rfl, rfl⟩
                have hnd6 := hide (hned6.out w7 hM7.out hE7.out)
                clear hned6 hsp6 d6
                go_wp2_with fail
                refine hnd6.out.mono ?_
                rintro e w8 ⟨v8, p8, e8, rfl, hM8, hE8, hO8, hcase⟩
                have hO9 := hide (SE.new hO7.out hge hO8)
                have d8 := hE8.cell 0
                rcases hcase with ⟨hpn4, rfl, rfl, rfl⟩ | ⟨hpn4, rfl, rfl, rfl⟩
                · rw [hlow6.out hpn4]
                  have c1 := hM8.rd.cell 1
                  have z3 := hM8.rd.cell 3
                  have z5 := hM8.rd.cell 5
                  have z6 := hM8.rd.cell 6
                  have g3 := hM8.rd.frozen 3
                  have g5 := hM8.rd.frozen 5
                  have g6 := hM8.rd.frozen 6
                  obtain ⟨vA, vc, hvo, -, -, -, -⟩ := hM8.ou.form
                  have c1' : w8.cell? ⟨gr, 1, none⟩ = some (.slice vA out'.length vc) := by rw [← hvo]; exact c1
                  clear c1
                  have hMa := hM8.set_ 3 (.int .i64 3) (at2 := at_) (st2 := 3) (last2 := last) (left2 := left) (back2 := back) (pl2 := .pointer (some ⟨gl, 0, none⟩)) (pd2 := .pointer (some ⟨gd, 0, none⟩)) rfl
                  have hMb := hMa.set_ 5 (.int .i64 (x.long : Int)) (at2 := at_) (st2 := 3) (last2 := last) (left2 := x.long) (back2 := back) (pl2 := .pointer (some ⟨gl, 0, none⟩)) (pd2 := .pointer (some ⟨gd, 0, none⟩)) rfl
                  have hMc := hide (hMb.set_ 6 (.int .i64 (x.far : Int)) (at2 := at_) (st2 := 3) (last2 := last) (left2 := x.long) (back2 := x.far) (pl2 := .pointer (some ⟨gl, 0, none⟩)) (pd2 := .pointer (some ⟨gd, 0, none⟩)) rfl)
                  have hOc := hide (SM.trans (SM.trans (SM.trans hO9.out (hM8.setO 3 (.int .i64 3)) fun k hk => .inl hk) (hMa.setO 5 (.int .i64 (x.long : Int))) fun k hk => .inl hk) (hMb.setO 6 (.int .i64 (x.far : Int))) fun k hk => .inl hk)
                  replace hvo := hide hvo
                  replace hM8 := hide hM8
                  replace hE8 := hide hE8
                  clear hMa hMb hO8
                  go_wp2_with fail
                  go_ret
                  have heq : p + (N + (loB (litP x).wide (litP x).more ++ (encS ds (farP x).symbol ++ loB (farP x).wide (farP x).more)).length) = Q + ND + R2 := by
                    have h9 := hND.out; rw [hT.out] at h9; have := hFW.out; have := hW.out; have := hQ.out; rw [List.length_append, List.length_append, loB_len, loB_len, encS_len]; omega
                  exact ⟨vo, fun k hk => .inl hk, hOc.out, .inl ⟨by rw [heq]; exact hpn4, rfl, by rw [heq]; exact hMc.out⟩⟩
                · have hM9 := hide hM8
                  clear hM8 hO8
                  replace hE8 := hide hE8
                  go_wp2_with fail
                  go_ret
                  exact ⟨vo, fun k hk => .inl hk, hO9.out, .inr ⟨by have := hW.out; have := hQ.out; have h9 := hND.out; rw [hT.out] at h9; have := hFW.out; rw [List.length_append, List.length_append, loB_len, loB_len, encS_len]; omega, rfl, Q + ND, by have := hQ.out; omega, hpn3, hM9.out⟩⟩
              · have d6 := hE6.cell 0
                have hM7 := hide hM6
                clear hM6 hO6
                replace hE6 := hide hE6
                go_wp2_with fail
                go_ret
                exact ⟨vo, fun k hk => .inl hk, hO7.out, .inr ⟨by have := hW.out; have := hQ.out; have h9 := hND.out; rw [hT.out] at h9; rw [List.length_append, List.length_append, loB_len, loB_len, encS_len]; omega, rfl, Q, by have := hQ.out; omega, hpn2, hM7.out⟩⟩
          · have hM5 := hide hM4
            clear hM4 hO4
            replace hE4 := hide hE4
            go_wp2_with fail
            go_ret
            exact ⟨vo, fun k hk => .inl hk, hO5.out, .inr ⟨by have := hW.out; rw [List.length_append, loB_len]; omega, rfl, p + N, by omega, hpn, hM5.out⟩⟩
    · have e0 := hE.cell 0
      replace hE := hide hE
      replace hO1 := hide hO1
      have hMh := hide hM
      clear hM
      go_wp2_with fail
      go_ret
      exact ⟨vo, fun k hk => .inl hk, hO1.out, .inr ⟨by omega, rfl, p, Nat.le_refl _, hp, hMh.out⟩⟩
end Go.Proofs.YtbchaomnjbkdhaaGreat
