/-
  Contract of the reference's stored.
-/
import Derived.Test.YtbchaomnjbkdhaaGreatERfI
import Derived.Test.YtbchaomnjbkdhaaGreatERfL
import Derived.Test.YtbchaomnjbkdhaaGreatEG
namespace Go.Proofs.YtbchaomnjbkdhaaGreat
open Go.RowKit Go.Sort Go.Proofs
set_option linter.unusedVariables false
theorem byte_at (b : List UInt8) (i : Nat) (hi : i < b.length) {l : List UInt8} {P : Nat} (hA : Agr l P (bytesB b)) (hp : P + 8 * b.length ≤ 8 * l.length) : leN (((bytesB l).drop (P + 8 * i)).take 8) = (b[i]).toNat := by
  have e : b = b.take i ++ b[i] :: b.drop (i + 1) := by rw [← List.drop_eq_getElem_cons hi, List.take_append_drop]
  rw [e, bytesB_app] at hA
  have h1 := hA.right
  rw [bytesB_len, List.length_take, Nat.min_eq_left (by omega)] at h1
  have h2 : Agr l (P + 8 * i) (loB 8 (b[i]).toNat ++ bytesB (b.drop (i + 1))) := h1
  have h3 := (b[i]).toNat_lt
  exact h2.left.low (by have e8 : (2 : Nat) ^ 8 = 256 := by decide
                        omega) (by omega)
set_option maxRecDepth 100000 in
set_option maxHeartbeats 4000000 in
theorem storedR_any (w : World) (B gs : Nat) (vb : Value) (l b : List UInt8) (h : StAt w B gs vb (.slice none 0 0) (bytesB l) 3 []) (hn : b.length ≤ 65535) (hA1 : Agr l 8 (loB 16 b.length ++ loB 16 (65535 - b.length))) (hA2 : Agr l 40 (bytesB b)) (hm : 40 + 8 * b.length ≤ 8 * l.length) (hl : l.length ≤ 10000000) :
    Calls Tryz.prog 23 #[.pointer (some ⟨gs, 0, none⟩), .int .i64 (b.length : Int)] w (CodR w B gs vb (bytesB l) (40 + 8 * b.length) b) := by
  have h2 := hide (bytesB_two l)
  have hLl : (bytesB l).length = 8 * l.length := bytesB_len l
  obtain ⟨M, hM⟩ : ∃ M, M = b.length := ⟨_, rfl⟩
  rw [← hM] at hn hA1 hm ⊢
  have e16 : (2 : Nat) ^ 16 = 65536 := by decide
  have hv1 : leN (((bytesB l).drop 8).take 16) = M := hA1.left.low (by omega) (by omega)
  have hA3 := hA1.right
  rw [loB_len] at hA3
  have hv2 : leN (((bytesB l).drop (8 + 16)).take 16) = 65535 - M := hA3.low (by omega) (by omega)
  have ht1 := hide (fun (wz : World) (hz : StAt wz B gs vb (.slice none 0 0) (bytesB l) 8 []) => take_any wz B gs vb (.slice none 0 0) (bytesB l) 8 16 [] 16 rfl hz (by omega) (by omega) (by omega) h2.out (by omega))
  have ht2 := hide (fun (wz : World) (hz : StAt wz B gs vb (.slice none 0 0) (bytesB l) (8 + 16) []) => take_any wz B gs vb (.slice none 0 0) (bytesB l) (8 + 16) 16 [] 16 rfl hz (by omega) (by omega) (by omega) h2.out (by omega))
  unfold TakeR at ht1 ht2
  rw [hv1] at ht1
  rw [hv2] at ht2
  have ht8 : Hid (∀ (wz : World) (vo : Value) (i : Nat) (hi : i < M), StAt wz B gs vb vo (bytesB l) (40 + 8 * i) (b.take i) → Calls Tryz.prog 22 #[.pointer (some ⟨gs, 0, none⟩), .int .i64 8] wz (TakeR wz B gs vb vo (bytesB l) (40 + 8 * i) 8 (b.take i))) := fun wz vo i hi hz =>
    take_any wz B gs vb vo (bytesB l) (40 + 8 * i) 8 (b.take i) 8 rfl hz (by omega) (by omega) (by omega) h2.out (by omega)
  have hby : Hid (∀ i (hi : i < b.length), leN (((bytesB l).drop (40 + 8 * i)).take 8) = (b[i]).toNat) := fun i hi => byte_at b i hi hA2 (by omega)
  have c1 := h.st.cell 1
  have f1 := h.st.frozen 1
  have hS1 := hide (h.move 8)
  have hE1 := hide (h.eff (EffR.refl B w) 1 (.int .i64 ((8 : Nat) : Int)))
  have hsum : (M : Int) + ((65535 - M : Nat) : Int) = 65535 := by omega
  replace hsum := hide hsum
  replace h := hide h
  replace hM := hide hM
  replace hLl := hide hLl
  clear hA1 hA2 hA3 hv1 hv2 e16
  have c1' : w.cell? ⟨gs, 1, none⟩ = some (.int .i64 3) := c1
  clear c1
  go_enter Tryz.func23, Tryz.ntmps23
  go_wp2_with fail
  obtain ⟨w1, hw1⟩ : ∃ w1, w1 = w.setCell ⟨gs, 1, none⟩ (.int .i64 ((8 : Nat) : Int)) := ⟨_, rfl⟩
  rw [← hw1] at hS1 hE1
  have hw1' : w1 = w.setCell ⟨gs, 1, none⟩ (.int .i64 8) := hw1
  rw [← hw1']
  clear hw1 hw1'
  refine (ht1.out w1 hS1.out).mono ?_
  rintro e w2 ⟨rfl, hS2, hE2⟩
  have hF2 := hide (hE1.out.trans hE2)
  have ht2' := hide (ht2.out w2 hS2)
  clear ht1 ht2 hE2 hS2 hS1 hE1
  go_wp2_with fail
  refine ht2'.out.mono ?_
  rintro e w3 ⟨rfl, hS3, hE3⟩
  have d3 : w3.cell? ⟨gs, 3, none⟩ = some (.int .i64 0) := hS3.st.cell 3
  have hF3 := hide (hF2.out.trans hE3)
  have hS3' : Hid (StAt w3 B gs vb (.slice none 0 0) (bytesB l) (40 + 8 * 0) []) := hS3
  obtain ⟨R, hR⟩ : ∃ R, R = 65535 - M := ⟨_, rfl⟩
  rw [← hR] at hsum ⊢
  have hsI := hsum.out
  have hR2 : R ≤ 65535 := by omega
  replace hR := hide hR
  clear ht2' hF2 hE3 hS3
  go_wp2_with fail
  go_loopw [6] (fun v6 wx => ∃ (i : Nat) (vo : Value), v6 = .int .i64 (i : Int) ∧ i ≤ M ∧ Hid (StAt wx B gs vb vo (bytesB l) (40 + 8 * i) (b.take i)) ∧ Hid (EffR B w wx)) (fun v6 _ => M - (intOf v6).toNat)
  case atStart => exact ⟨0, _, rfl, Nat.zero_le _, hS3', hF3⟩
  case round =>
    clear hS3' hF3 d3
    obtain ⟨i, vo, rfl, hi, hS, hE⟩ := hrel
    obtain ⟨vA, vc, hvo, -, -, -, -⟩ := hS.out.ou.form
    have hle : (b.take i).length = i := by rw [List.length_take]; have := hM.out; omega
    rw [hle] at hvo
    subst hvo
    have c2 : wr.cell? ⟨gs, 2, none⟩ = some (.slice vA i vc) := hS.out.st.cell 2
    have c3 : wr.cell? ⟨gs, 3, none⟩ = some (.int .i64 0) := hS.out.st.cell 3
    replace hle := hide hle
    by_cases hlt : i < M
    · have hbl : i < b.length := by have := hM.out; omega
      have htk := hide (ht8.out wr _ i hlt hS.out)
      have hby1 := hby.out i hbl
      unfold TakeR at htk
      rw [hby1] at htk
      have htake : Hid (b.take (i + 1) = b.take i ++ [b[i]]) := List.take_succ_eq_append_getElem hbl
      obtain ⟨X, hX⟩ : ∃ X, X = b[i] := ⟨_, rfl⟩
      rw [← hX] at htk htake
      have hX256 := X.toNat_lt
      obtain ⟨C, hC⟩ : ∃ C, C = X.toNat := ⟨_, rfl⟩
      rw [← hC] at htk hX256
      have hiI : (i : Int) < (M : Int) := by omega
      have hiI2 : (i : Int) ≤ (M : Int) := by omega
      have hdl : decide (i ≤ M) = true := by rw [decide_eq_true_iff]; omega
      replace hX := hide hX
      replace hC := hide hC
      clear hby1
      go_wp2_with fail
      refine htk.out.mono ?_
      rintro e w4 ⟨rfl, hS4, hE4⟩
      have d3 : w4.cell? ⟨gs, 3, none⟩ = some (.int .i64 0) := hS4.st.cell 3
      have d2 : w4.cell? ⟨gs, 2, none⟩ = some (.slice vA i vc) := hS4.st.cell 2
      have hE5 := hide (hE.out.trans hE4)
      have hS5 := hide hS4
      have hz5 := hS4.size
      have hou : Hid (OB w4 B (.slice vA i vc) i (b.take i)) := by have := hS4.ou; rw [hle.out] at this; exact this
      clear htk hS4 hE4 c2 c3
      go_wp2_with (at_builtin; refine wpList_app_1x X (by rw [← hC.out]) rfl (.tmp 67) (.tmp 70) rfl B _ i (b.take i) hou.out rfl 1 rfl (by omega) hz5 ?_; intro v2 w8 ho2 _ hg2 _; obtain ⟨A9, c9, hv9, -⟩ := ho2.form; subst hv9; have ho3 : OB w8 B (.slice A9 (i + 1) c9) ((b.take i).length + 1) (b.take i ++ [X]) := hle.out.symm ▸ ho2; have hS8 := hS5.out.emit ho3 hg2; rw [← htake.out] at hS8; replace hS8 := hide hS8; have hE8 := hide (hE5.out.emit hS5.out hg2 (.slice A9 (i + 1) c9)); have hB8 := hS5.out.st.grown hg2 (fun e => hS5.out.vos e.symm); have d8 := hB8.cell 2; have f8 := hB8.frozen 2; replace hB8 := hide hB8; clear ho2 ho3 hg2)
      go_roundw
      case rel => exact ⟨i + 1, _, by go_num, hlt, hS8, hE8⟩
      case measure => simp [intOf]; omega
    · obtain rfl : i = M := by omega
      have hall : b.take i = b := List.take_of_length_le (by have := hM.out; omega)
      have hS9 : Hid (StAt wr B gs vb (.slice vA i vc) (bytesB l) (40 + 8 * i) b) := by have := hS.out; rw [hall] at this; exact this
      clear hS hall
      go_wp2_with fail
      go_end0
      exact ⟨rfl, _, hS9.out, hE.out⟩
end Go.Proofs.YtbchaomnjbkdhaaGreat
namespace Go.Proofs.YtbchaomnjbkdhaaGreat
open Go.RowKit Go.Sort Go.Proofs
set_option linter.unusedVariables false
theorem RN.farSet {w : World} {B n g o : Nat} {l : List Nat} {q : Addr} {u : Value} (h : RN w B (some ⟨g, o, none⟩) n l) (hq : q.block ≠ g) : RN (w.setCell q u) B (some ⟨g, o, none⟩) n l := by
  refine ⟨h.1, fun h0 => ?_⟩
  obtain ⟨ad, e, hb, hc⟩ := h.2 h0
  cases e
  refine ⟨_, rfl, hb, fun j x hx => (World.cell?_setCell_other _ _ _ _ (fun e => hq ?_)).trans (hc j x hx)⟩
  rw [e, block_of_add]
/-- What codes leave. -/
def CodesR (w : World) (B gs : Nat) (vb vo : Value) (L : List Nat) (q : Nat) (its : List Item) (out : List UInt8) (e : Ending) (w' : World) : Prop :=
  ∃ A1 A2 n1 n2 c1 c2, e = .returned (.agg #[.slice A1 n1 c1, .slice A2 n2 c2]) ∧ RN w' w'.heap.size A1 n1 (litsL its) ∧ RN w' w'.heap.size A2 n2 (distL its) ∧ StAt w' B gs vb vo L q out ∧ EffR B w w'
def orderZ : List Int := [16, 17, 18, 0, 8, 7, 9, 6, 10, 5, 11, 4, 12, 3, 13, 2, 14, 1, 15]
theorem orderZ_at (j : Nat) (hj : j < 19) : ((orderZ.map (Value.int .i64)).toArray)[j]? = some (.int .i64 ((orderL.getD j 0 : Nat) : Int)) := by
  have h : ∀ j, j < 19 → orderZ.getD j 0 = ((orderL.getD j 0 : Nat) : Int) := by decide
  rw [tab_at orderZ j hj, h j hj]
theorem order_lt2 (j : Nat) (hj : j < 19) : orderL.getD j 0 < 19 := by
  have h : ∀ j, j < 19 → orderL.getD j 0 < 19 := by decide
  exact h j hj
set_option maxRecDepth 100000 in
set_option maxHeartbeats 4000000 in
theorem codesR_any (w : World) (B gs : Nat) (vb vo : Value) (l : List UInt8) (p : Nat) (out : List UInt8) (its : List Item) (h : StAt w B gs vb vo (bytesB l) p out) (hH : HeadOk its) (hA : Agr l p (headB its)) (hp : p + (headB its).length < 8 * l.length) (hl : l.length ≤ 10000000) :
    Calls Tryz.prog 27 #[.pointer (some ⟨gs, 0, none⟩)] w (CodesR w B gs vb vo (bytesB l) (p + (headB its).length) its out) := by
  have hA0 := hide hA
  unfold headB at hA
  rw [List.append_assoc, List.append_assoc, List.append_assoc] at hA
  have hA1 := hA.left
  have hA' := hA.right
  rw [loB_len] at hA'
  have hA2 := hA'.left
  have hA'' := hA'.right
  rw [loB_len] at hA''
  have hA3 := hA''.left
  have hA4 := hA''.right
  rw [loB_len] at hA4
  have hA5 := hA4.left
  have hA6 := hA4.right
  rw [loRow_len] at hA6
  have hlen : (headB its).length = 14 + 3 * tellK (codesL its) 19 + ((runsL its).flatMap (partB (codesL its))).length := by
    have hk := hH.k19
    unfold headB
    rw [List.length_append, List.length_append, List.length_append, List.length_append, loB_len, loB_len, loB_len, loRow_len, List.length_take, show orderL.length = 19 from rfl, Nat.min_eq_left hk]
  rw [List.length_take, show orderL.length = 19 from rfl, Nat.min_eq_left hH.k19] at hA6
  rw [hlen] at hp ⊢
  obtain ⟨RL, hRL⟩ : ∃ RL, RL = ((runsL its).flatMap (partB (codesL its))).length := ⟨_, rfl⟩
  rw [← hRL] at hp ⊢
  obtain ⟨k, hk⟩ : ∃ k, k = tellK (codesL its) 19 := ⟨_, rfl⟩
  have hk4 := hH.k4
  have hk19 := hH.k19
  rw [← hk] at hA3 hA5 hA6 hk4 hk19 hp ⊢
  have hll1 := hH.ll1
  have hll2 := hH.ll2
  have hdl1 := hH.dl1
  have hdl2 := hH.dl2
  obtain ⟨nn, hnn⟩ : ∃ nn, nn = (litsL its).length := ⟨_, rfl⟩
  obtain ⟨dd, hdd⟩ : ∃ dd, dd = (distL its).length := ⟨_, rfl⟩
  rw [← hnn] at hll1 hll2 hA1
  rw [← hdd] at hdl1 hdl2 hA2
  have hv1 : leN (((bytesB l).drop p).take 5) = nn - 257 := hA1.low (by omega) (by omega)
  have hv2 : leN (((bytesB l).drop (p + 5)).take 5) = dd - 1 := hA2.low (by omega) (by omega)
  have hv3 : leN (((bytesB l).drop (p + 5 + 5)).take 4) = k - 4 := hA3.low (by omega) (by omega)
  have h2 := hide (bytesB_two l)
  have hLl : (bytesB l).length = 8 * l.length := bytesB_len l
  have hsz := hide h.size
  obtain ⟨w1, hw1⟩ : ∃ w1, w1 = w.alloc (.cells #[.slice none 0 0, .slice none 0 0] 58) := ⟨_, rfl⟩
  have hS1 := h.alloc (.cells #[.slice none 0 0, .slice none 0 0] 58)
  have hE1 := (EffR.refl B w).alloc hsz.out (.cells #[.slice none 0 0, .slice none 0 0] 58)
  have hP1 := Blk.new w 58 #[.slice none 0 0, .slice none 0 0]
  rw [← hw1] at hS1 hE1 hP1
  have ht1 := hide (take_any w1 B gs vb vo (bytesB l) p 5 out 5 rfl hS1 (by omega) (by omega) (by omega) h2.out (by omega))
  have ht2 := hide (fun (wz : World) (hz : StAt wz B gs vb vo (bytesB l) (p + 5) out) => take_any wz B gs vb vo (bytesB l) (p + 5) 5 out 5 rfl hz (by omega) (by omega) (by omega) h2.out (by omega))
  have ht3 := hide (fun (wz : World) (hz : StAt wz B gs vb vo (bytesB l) (p + 5 + 5) out) => take_any wz B gs vb vo (bytesB l) (p + 5 + 5) 4 out 4 rfl hz (by omega) (by omega) (by omega) h2.out (by omega))
  unfold TakeR at ht1 ht2 ht3
  rw [hv1] at ht1
  rw [hv2] at ht2
  rw [hv3] at ht3
  replace h := hide h
  replace hH := hide hH
  replace hA5 := hide hA5
  replace hA6 := hide hA6
  replace hRL := hide hRL
  replace hk := hide hk
  replace hnn := hide hnn
  replace hdd := hide hdd
  replace hS1 := hide hS1
  replace hE1 := hide hE1
  replace hP1 := hide hP1
  replace hLl := hide hLl
  clear hA hA1 hA2 hA3 hA' hA'' hA4 hv1 hv2 hv3 hlen
  obtain ⟨ga, hga⟩ : ∃ ga, ga = w.heap.size := ⟨_, rfl⟩
  rw [← hga] at hP1
  obtain ⟨V1, hV1⟩ : ∃ V1, V1 = nn - 257 := ⟨_, rfl⟩
  obtain ⟨V2, hV2⟩ : ∃ V2, V2 = dd - 1 := ⟨_, rfl⟩
  obtain ⟨V3, hV3⟩ : ∃ V3, V3 = k - 4 := ⟨_, rfl⟩
  have I1 : (257 : Int) + (V1 : Int) = (nn : Int) := by omega
  have I2 : (1 : Int) + (V2 : Int) = (dd : Int) := by omega
  have I3 : (4 : Int) + (V3 : Int) = (k : Int) := by omega
  rw [← hV1] at ht1
  rw [← hV2] at ht2
  rw [← hV3] at ht3
  have hV1b : V1 ≤ 286 := by omega
  have hV2b : V2 ≤ 30 := by omega
  have hV3b : V3 ≤ 19 := by omega
  have J1 : ¬ (286 : Int) < (nn : Int) := by omega
  have J2 : ¬ (30 : Int) < (dd : Int) := by omega
  have J1b : decide ((286 : Int) < (nn : Int)) = false := by rw [decide_eq_false_iff_not]; exact J1
  have J2b : decide ((30 : Int) < (dd : Int)) = false := by rw [decide_eq_false_iff_not]; exact J2
  have hvb : Hid (∀ k, vb.ownBlock = some k → k < w.heap.size) := fun k hk => (OE.lt h.out.bi k hk).2
  replace hV1 := hide hV1
  replace hV2 := hide hV2
  replace hV3 := hide hV3
  replace hw1 := hide hw1
  replace hga := hide hga
  obtain ⟨OZ, hOZ⟩ : ∃ C, C = (orderZ.map (Value.int .i64)).toArray := ⟨_, rfl⟩
  obtain ⟨Z19, hZ⟩ : ∃ C, C = (((List.replicate 19 0).map encI).toArray) := ⟨_, rfl⟩
  have hmk : ∀ wz : World, (Instr.makeSlice 49 (.int .i64 19) (.int .i64 19)).run Tryz.prog wz = .ok (.slice (some ⟨wz.heap.size, 0, none⟩) 19 19) (wz.alloc (.cells Z19 3)) := fun wz => by rw [hZ]; exact make_ints' 19 (by omega) wz
  replace hOZ := hide hOZ
  replace hZ := hide hZ
  replace hmk := hide hmk
  go_enter Tryz.func27, Tryz.ntmps27
  go_wp2_with fail
  rw [← hw1.out, ← hga.out]
  clear hw1
  refine ht1.out.mono ?_
  rintro e w2 ⟨rfl, hS2, hE2⟩
  have ht2' := hide (ht2.out w2 hS2)
  have hP2 := hide (hE2.blk hP1.out (by decide) (by decide))
  have hF2 := hide (hE1.out.trans hE2)
  clear ht1 ht2 hS1 hE1 hP1 hS2 hE2
  go_wp2_with fail
  refine ht2'.out.mono ?_
  rintro e w3 ⟨rfl, hS3, hE3⟩
  have ht3' := hide (ht3.out w3 hS3)
  have hP3 := hide (hE3.blk hP2.out (by decide) (by decide))
  have hF3 := hide (hF2.out.trans hE3)
  clear ht2' ht3 hP2 hF2 hS3 hE3
  go_wp2_with fail
  refine ht3'.out.mono ?_
  rintro e w4 ⟨rfl, hS4, hE4⟩
  have hP4 := hide (hE4.blk hP3.out (by decide) (by decide))
  have hF4 := hide (hF3.out.trans hE4)
  obtain ⟨P, hP⟩ : ∃ P, P = p + 5 + 5 + 4 := ⟨_, rfl⟩
  rw [← hP] at hS4 hA5 hA6
  have hpP : P + 3 * k + RL < 8 * l.length := by omega
  have hS4' := hide hS4
  have hz4 := hF4.out.size
  have hmk5 := hmk.out (w4.alloc (.cells OZ 3))
  have hs5 : (w4.alloc (.cells OZ 3)).heap.size = w4.heap.size + 1 := World.size_alloc _ _
  replace hP := hide hP
  replace hs5 := hide hs5
  clear ht3' hP3 hF3 hS4 hE4
  go_wp2_with (first
    | refine wpList_tabI rfl 19 _ rfl orderZ rfl rfl (by omega) (by omega) (some 27) rfl OZ hOZ.out ?_
    | fail)
  have hO5b := (Blk.new w4 3 OZ).alloc (.cells Z19 3)
  have hL5 : ON ((w4.alloc (.cells OZ 3)).alloc (.cells Z19 3)) w4.heap.size (.slice (some ⟨w4.heap.size + 1, 0, none⟩) 19 19) 19 (lensA (codesL its) 0) := by
    have := ON.made (w4.alloc (.cells OZ 3)) w4.heap.size 19 (List.replicate 19 0) (by simp) (by rw [hs5.out]; omega) (by simp [maxLen])
    rw [← hZ.out, hs5.out] at this
    exact this
  have hS5 := (hS4'.out.alloc (.cells OZ 3)).alloc (.cells Z19 3)
  have hE5 := (hF4.out.alloc hsz.out (.cells OZ 3)).alloc hsz.out (.cells Z19 3)
  have hP5 := (hP4.out.alloc (.cells OZ 3)).alloc (.cells Z19 3)
  generalize (w4.alloc (.cells OZ 3)).alloc (.cells Z19 3) = w5 at *
  obtain ⟨gL, hgL⟩ : ∃ gL, gL = w4.heap.size + 1 := ⟨_, rfl⟩
  rw [← hgL] at hL5 ⊢
  obtain ⟨gO, hgO⟩ : ∃ gO, gO = w4.heap.size := ⟨_, rfl⟩
  rw [← hgO] at hL5 hO5b hgL hz4 ⊢
  have hOL : gO ≠ gL := by omega
  have hzO : w.heap.size ≤ gO := hz4
  have hzL : w.heap.size ≤ gL := by omega
  have hgaw : ga < w.heap.size + 1 := by rw [hga.out]; omega
  have hgaL : ga ≠ gL := by omega
  replace hO5b := hide hO5b
  replace hL5 := hide hL5
  replace hS5 := hide hS5
  replace hE5 := hide hE5
  replace hP5 := hide hP5
  clear hmk5 hmk hs5 hS4' hF4 hP4 hgO hgL
  obtain ⟨CL, hCL⟩ : ∃ CL, CL = codesL its := ⟨_, rfl⟩
  rw [← hCL] at hL5 hA5 hA6 hRL hk
  have h7 : Hid (∀ s, CL.getD s 0 ≤ 7) := by rw [hCL]; exact hH.out.c7
  replace hCL := hide hCL
  go_loopw [8] (fun v8 wx => ∃ j : Nat, v8 = .int .i64 (j : Int) ∧ j ≤ k ∧ Hid (ON wx gO (.slice (some ⟨gL, 0, none⟩) 19 19) 19 (lensA CL j)) ∧ Hid (StAt wx B gs vb vo (bytesB l) (P + 3 * j) out) ∧ Hid (EffR B w wx) ∧ Hid (Blk wx gO 3 OZ) ∧ Hid (Blk wx ga 58 #[.slice none 0 0, .slice none 0 0])) (fun v8 _ => k - (intOf v8).toNat)
  case atStart => exact ⟨0, rfl, Nat.zero_le _, hL5, hS5, hE5, hO5b, hP5⟩
  case round =>
    clear hL5 hS5 hE5 hO5b hP5
    obtain ⟨j, rfl, hj, hL, hS, hE, hO, hPr⟩ := hrel
    by_cases hlt : j < k
    · have hoz : OZ[j]? = some (.int .i64 ((orderL.getD j 0 : Nat) : Int)) := by rw [hOZ.out]; exact orderZ_at j (by omega)
      have hS19 := order_lt2 j (by omega)
      have hn := Agr.nth (fun s => CL.getD s 0) (orderL.take k) j P hA5.out (by rw [List.length_take, show orderL.length = 19 from rfl]; omega)
      have hg : (orderL.take k).getD j 0 = orderL.getD j 0 := by
        rw [List.getD_eq_getElem?_getD, List.getElem?_take, if_pos hlt, ← List.getD_eq_getElem?_getD]
      rw [hg] at hn
      have hlow := hn.low (by have := h7.out (orderL.getD j 0); omega) (by omega)
      have hsuc := lensA_succ CL j (by omega)
      obtain ⟨S, hSe⟩ : ∃ S, S = orderL.getD j 0 := ⟨_, rfl⟩
      rw [← hSe] at hoz hS19 hlow hsuc
      obtain ⟨V, hV⟩ : ∃ V, V = CL.getD S 0 := ⟨_, rfl⟩
      rw [← hV] at hlow hsuc
      have htk : Hid (Calls Tryz.prog 22 #[.pointer (some ⟨gs, 0, none⟩), .int .i64 3] wr.drew (TakeR wr.drew B gs vb vo (bytesB l) (P + 3 * j) 3 out)) :=
        take_any _ B gs vb vo (bytesB l) (P + 3 * j) 3 out 3 rfl (hS.out.drewN 1) (by rw [hLl.out]; omega) (by rw [hLl.out]; omega) (by omega) h2.out (by rw [hLl.out]; omega)
      unfold TakeR at htk
      rw [hlow] at htk
      have c6 : wr.cell? ⟨gO, j, none⟩ = some (.int .i64 (S : Int)) := by rw [hO.out.cell]; exact hoz
      have hd : Hid (∀ wy, EffR B wr.drew wy → (wy.cell? ⟨gO, j, none⟩ = some (.int .i64 (S : Int)) ∧ wy.cell? ⟨gL, S, none⟩ = some (.int .i64 (((lensA CL j).getD S 0 : Nat) : Int)) ∧ wy.frozen? ⟨gL, S, none⟩ = false)) := fun wy hy => by
        have hOy := hy.blk (show Blk wr.drew gO 3 OZ from hO.out) (by decide) (by decide)
        have hLy := hy.ints (show ON wr.drew gO (.slice (some ⟨gL, 0, none⟩) 19 19) 19 (lensA CL j) from hL.out)
        exact ⟨by rw [hOy.cell]; exact hoz, ON.getD hLy hS19, OE.froz hLy⟩
      obtain ⟨OV, hOV⟩ : ∃ OV, OV = (lensA CL j).getD S 0 := ⟨_, rfl⟩
      rw [← hOV] at hd
      have hSI : (S : Int) < 19 := by omega
      have hS0 : (0 : Int) ≤ (S : Int) := by omega
      have hjI : (j : Int) < (k : Int) := by omega
      have hj19 : (j : Int) < 19 := by omega
      have hj0 : (0 : Int) ≤ (j : Int) := by omega
      have hjN : j < 19 := by omega
      have hoth : Hid (∀ (wy : World) (u : Value), wy.cell? ⟨gO, j, none⟩ = some (.int .i64 (S : Int)) → (wy.setCell ⟨gL, S, none⟩ u).cell? ⟨gO, j, none⟩ = some (.int .i64 (S : Int))) := fun wy u hy => by
        rw [World.cell?_setCell_other _ _ _ _ (fun e => hOL (congrArg Addr.block e).symm)]; exact hy
      replace hSe := hide hSe
      replace hV := hide hV
      replace hOV := hide hOV
      replace hsuc := hide hsuc
      clear hn hg hlow hoz
      go_wp2_with fail
      go_region_held3 (fun w' => w'.cell? ⟨gO, j, none⟩ = some (.int .i64 (S : Int))) (first | exact c6 | exact d6 | exact hoth.out _ _ d6) ((go_at_call 22; refine htk.out.mono ?_; rintro e w6 ⟨rfl, hS6, hE6⟩; obtain ⟨d6, d7, d8⟩ := hd.out w6 hE6; replace hS6 := hide hS6; replace hE6 := hide hE6))
      all_goals
        have hLy := hE6.out.ints (show ON wr.drew gO (.slice (some ⟨gL, 0, none⟩) 19 19) 19 (lensA CL j) from hL.out)
        obtain ⟨cur, hcur⟩ := own_blk hLy (k := gL) rfl
        have hv : vb.ownBlock ≠ some gL := fun e => by have := hvb.out _ e; omega
        have r1 : Hid (ON (w6.setCell ⟨gL, S, none⟩ (.int .i64 (V : Int))) gO (.slice (some ⟨gL, 0, none⟩) 19 19) 19 (lensA CL (j + 1))) := by rw [hsuc.out]; exact OE.stored hLy S V
        have r2 : Hid (StAt (w6.setCell ⟨gL, S, none⟩ (.int .i64 (V : Int))) B gs vb vo (bytesB l) (P + 3 * (j + 1)) out) := hS6.out.setNew hcur (by decide) (by decide) hv _
        have r3 : Hid (EffR B w (w6.setCell ⟨gL, S, none⟩ (.int .i64 (V : Int)))) := ((hE.out.drewN 1).trans hE6.out).setNew hsz.out (q := ⟨gL, S, none⟩) hzL _
        have r4 : Hid (Blk (w6.setCell ⟨gL, S, none⟩ (.int .i64 (V : Int))) gO 3 OZ) := (hE6.out.blk (show Blk wr.drew gO 3 OZ from hO.out) (by decide) (by decide)).far (p := ⟨gL, S, none⟩) hOL _
        have r5 : Hid (Blk (w6.setCell ⟨gL, S, none⟩ (.int .i64 (V : Int))) ga 58 #[.slice none 0 0, .slice none 0 0]) := (hE6.out.blk (show Blk wr.drew ga 58 _ from hPr.out) (by decide) (by decide)).far (p := ⟨gL, S, none⟩) hgaL _
        clear hLy hcur hv d6 d7 d8
        go_wp2_with fail
        go_roundw
        case rel => exact ⟨j + 1, by go_num, hlt, r1, r2, r3, r4, r5⟩
        case measure => simp [intOf]; omega
    · obtain rfl : j = k := by omega
      have hcl : lensA CL j = CL := by rw [hk.out]; exact codes_back CL (by rw [hCL.out]; exact hH.out.cl19)
      have hokc : codeOk CL := by rw [hCL.out]; exact hH.out.okc
      have hmayc := hH.out.mayc
      rw [← hCL.out] at hmayc
      have hLc := hL.out
      rw [hcl] at hLc
      have hmy := hide (may_any wr (some ⟨gL, 0, none⟩) 19 19 CL false (ON.toRN hLc) hokc (by omega) (by omega) (by rcases hmayc with h | h; exact .inl h; exact .inr (.inl h)))
      obtain ⟨Q, hQ⟩ : ∃ Q, Q = P + 3 * j := ⟨_, rfl⟩
      rw [← hQ] at hS hA6
      have hpQ : Q + RL < 8 * l.length := by omega
      have c3 := hS.out.st.cell 3
      replace hLc := hide hLc
      replace hokc := hide hokc
      replace hQ := hide hQ
      clear hcl hmayc hL hO
      go_wp2_with fail
      refine hmy.out.mono ?_
      rintro e w6 ⟨rfl, hb6⟩
      have hS6 := hide (hS.out.of_below hb6)
      have hE6 := hide (hE.out.of_below hsz.out hb6)
      have hP6 := hide (hPr.out.below hb6 hPr.out.lt)
      have hL6 := OE.below hLc.out hb6 (Nat.le_refl _)
      have hnw := hide (new5_any w6 (some ⟨gL, 0, none⟩) 19 19 CL (ON.toRN hL6) hokc.out (by omega) (by omega))
      have d3 := hS6.out.st.cell 3
      clear hmy hb6 hS hE hPr hL6 c3 hLc
      go_wp2_with fail
      refine hnw.out.mono ?_
      rintro e w7 ⟨g7, f7, rfl, hC7, -, hb7⟩
      have hS7 := hide (hS6.out.of_below hb7)
      have hE7 := hide (hE6.out.of_below hsz.out hb7)
      have hP7 := hide (hP6.out.below hb7 hP6.out.lt)
      obtain ⟨r, hr⟩ := hA6.out.split (by rw [← hRL.out]; omega)
      have hrl := drop_len hr
      rw [hLl.out, List.length_append, ← hRL.out] at hrl
      obtain ⟨Ls, hLs⟩ : ∃ Ls, Ls = litsL its ++ distL its := ⟨_, rfl⟩
      have hLsl : Ls.length = nn + dd := by rw [hLs, List.length_append, hnn.out, hdd.out]
      have hRR : RunsR CL (bytesB l) Q [] (runsL its) r Ls := ⟨hr, by rw [hCL.out]; exact hH.out.runs, hH.out.runok, by rw [hLs]; exact hH.out.back⟩
      have hlg := hide (lengthsR_any w7 B gs vb vo (bytesB l) Q out _ g7 19 19 f7 CL (runsL its) r Ls hS7.out hC7 hokc.out (by omega) (by omega) (by omega) hRR (by omega) h2.out (by rw [hLl.out]; omega))
      unfold RlR at hlg
      rw [← hRL.out] at hlg
      obtain ⟨LN, hLN⟩ : ∃ LN, LN = nn + dd := ⟨_, rfl⟩
      rw [← hLN] at hLsl
      rw [hLsl] at hlg
      have hLNI : (nn : Int) + (dd : Int) = (LN : Int) := by omega
      have hddN : LN - nn = dd := by omega
      have hddI : (LN : Int) - (nn : Int) = (dd : Int) := by omega
      have hLN1 : LN ≤ 316 := by omega
      have hLN2 : 257 < LN := by omega
      have hnLN : nn ≤ LN := by omega
      replace hLs := hide hLs
      replace hLN := hide hLN
      replace hLsl := hide hLsl
      replace hddI := hide hddI
      replace hddN := hide hddN
      clear hnw hb7 hS6 hE6 hP6 d3 hr hrl hRR hC7
      go_wp2_with fail
      refine hlg.out.mono ?_
      rintro e w8 ⟨v8, rfl, hO8, hS8, hE8⟩
      obtain ⟨gv, cv, rfl, hgv, hcv1, hcv2⟩ : ∃ gv cv, v8 = .slice (some ⟨gv, 0, none⟩) LN cv ∧ w7.heap.size ≤ gv ∧ LN ≤ cv ∧ cv ≤ maxLen := by
        rcases OE.parts hO8 with ⟨_, h5, _⟩ | ⟨g5, k5, h5, h6, h7, h8⟩
        · omega
        · exact ⟨g5, k5, h5, h6, h7, h8⟩
      unfold maxLen at hcv2
      have hgav : ga ≠ gv := by have := hP7.out.lt; omega
      have d3 : w8.cell? ⟨gs, 3, none⟩ = some (.int .i64 0) := hS8.st.cell 3
      have cE := ON.getD hO8 (k := 256) (by omega)
      have hE256 : 1 ≤ Ls.getD 256 0 := by
        have := hH.out.end_
        rw [hLs.out, List.getD_eq_getElem?_getD, List.getElem?_append_left (by rw [← hnn.out]; omega), ← List.getD_eq_getElem?_getD]
        exact this
      obtain ⟨E, hEe⟩ : ∃ E, E = Ls.getD 256 0 := ⟨_, rfl⟩
      rw [← hEe] at cE hE256
      have hE0 : ((E : Int) == 0) = false := by rw [beq_eq_false_iff_ne]; omega
      have hRl := (RN.take (ON.toRN hO8) (k := nn) hnLN)
      have hRd := (RN.drop (ON.toRN hO8) (k := nn) hnLN)
      have e1 : Ls.take nn = litsL its := by rw [hLs.out, hnn.out, List.take_left]
      have e2 : Ls.drop nn = distL its := by rw [hLs.out, hnn.out, List.drop_left]
      rw [e1] at hRl
      rw [e2, hddN.out] at hRd
      have hml := hide (may_any w8 (some ⟨gv, 0, none⟩) nn cv (litsL its) false hRl hH.out.okl (by omega) (by omega) (by rcases hH.out.mayl with h | h; exact .inl h; exact .inr (.inl h)))
      have hmd : Hid (∀ wy, Below w8.heap.size w8 wy → Calls Tryz.prog 54 #[.slice (some ⟨gv, nn, none⟩) dd (cv - nn), .bool true] wy fun e w' => e = .returned (.bool true) ∧ Below wy.heap.size wy w') := fun wy hy =>
        may_any wy (some ⟨gv, nn, none⟩) dd (cv - nn) (distL its) true ((hRd.below hy).more hy.size) hH.out.okd (by omega) (by omega) (by rcases hH.out.mayd with h | h | h; exact .inl h; exact .inr (.inl h); exact .inr (.inr ⟨rfl, h⟩))
      have hE9 := hide (hE7.out.trans hE8)
      have hP8 := hide (hE8.blk hP7.out (by decide) (by decide))
      have hS8' := hide hS8
      have hcvn : ¬ cv = nn := by omega
      have hcvI : (cv : Int) - (nn : Int) = ((cv - nn : Nat) : Int) := by omega
      have hnnC : nn ≤ cv := by omega
      have hRl' := hide hRl
      have hRd' := hide hRd
      replace hEe := hide hEe
      have hddI2 := hddI.out
      have hddN2 := hddN.out
      clear hlg hS7 hE7 hP7 hO8 hS8 hE8 e1 e2 hRl hRd
      go_wp2_with fail
      refine hml.out.mono ?_
      rintro e w9 ⟨rfl, hb9⟩
      have hmd9 := hide (hmd.out w9 hb9)
      have hb9h := hide hb9
      clear hml hmd hb9 cE d3
      go_wp2_with fail
      refine hmd9.out.mono ?_
      rintro e wa ⟨rfl, hba⟩
      have hbb := hb9h.out.trans (hba.mono hb9h.out.size)
      have hSa := hide (hS8'.out.of_below hbb)
      have hEa := hide (hE9.out.of_below hsz.out hbb)
      have hPa := hP8.out.below hbb hP8.out.lt
      have hRa := hide ((hRl'.out.below hbb).more hbb.size)
      have hRb := hide ((hRd'.out.below hbb).more hbb.size)
      have a0 := hPa.cell 0
      have a1 := hPa.cell 1
      have z0 := hPa.frozen 0
      have z1 := hPa.frozen 1
      replace hPa := hide hPa
      clear hmd9 hba hbb hS8' hE9 hP8 hb9h hRl' hRd'
      go_upto_region 22 with (fail)
      go_still_tail 7, (by kernel_rfl)
      change wpList _ _ _ _ _ wa.drew
      have hSd : Hid (StAt wa.drew B gs vb vo (bytesB l) (Q + RL) out) := hSa.out.drewN 1
      have hEd : Hid (EffR B w wa.drew) := hEa.out.drewN 1
      have hPd : Hid (Blk wa.drew ga 58 #[.slice none 0 0, .slice none 0 0]) := hPa.out
      have hRad : Hid (RN wa.drew wa.drew.heap.size (some ⟨gv, 0, none⟩) nn (litsL its)) := hRa.out
      have hRbd : Hid (RN wa.drew wa.drew.heap.size (some ⟨gv, nn, none⟩) dd (distL its)) := hRb.out
      clear a0 a1 z0 z1 hSa hEa hPa hRa hRb
      generalize wa.drew = wd at *
      have a0 := hPd.out.cell 0
      have a1 := hPd.out.cell 1
      have z0 := hPd.out.frozen 0
      have z1 := hPd.out.frozen 1
      go_wp2_with fail
      have x1 := hPd.out.set_ 0 (.slice (some ⟨gv, 0, none⟩) nn cv)
      have x2 : Blk _ ga 58 #[.slice (some ⟨gv, 0, none⟩) nn cv, .slice (some ⟨gv, nn, none⟩) dd (cv - nn)] := x1.set_ 1 (.slice (some ⟨gv, nn, none⟩) dd (cv - nn))
      have d0 := x2.cell 0
      have d1 := x2.cell 1
      have hv : vb.ownBlock ≠ some ga := fun e => by have := hvb.out _ e; have := hga.out; omega
      have hgq : w.heap.size ≤ ga := by have := hga.out; omega
      have hend : Q + RL = p + (14 + 3 * j + RL) := by have := hQ.out; have := hP.out; omega
      refine bodyPost_ret (v := .agg #[.slice (some ⟨gv, 0, none⟩) nn cv, .slice (some ⟨gv, nn, none⟩) dd (cv - nn)]) (by simp [results, Tryz.results27, go_sem, d0, d1]) rfl ⟨_, _, _, _, _, _, rfl, ?_, ?_, ?_, ?_⟩
      · exact ((hRad.out.farSet hgav).farSet hgav).more (by simp [World.setCell])
      · exact ((hRbd.out.farSet hgav).farSet hgav).more (by simp [World.setCell])
      · rw [← hend]
        exact (hSd.out.setNew hPd.out (by decide) (by decide) hv _).setNew x1 (by decide) (by decide) hv _
      · exact (hEd.out.setNew hsz.out (q := ⟨ga, 0, none⟩) hgq _).setNew hsz.out (q := ⟨ga, 1, none⟩) hgq _
end Go.Proofs.YtbchaomnjbkdhaaGreat
