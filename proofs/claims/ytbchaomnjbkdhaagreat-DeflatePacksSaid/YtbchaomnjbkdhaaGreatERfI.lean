/-
  Contract of the reference's coded.
-/
import Derived.Test.YtbchaomnjbkdhaaGreatEG
import Derived.Test.YtbchaomnjbkdhaaGreatEA
import Derived.Test.YtbchaomnjbkdhaaGreatEInfC
namespace Go.Proofs.YtbchaomnjbkdhaaGreat
open Go.RowKit Go.Sort Go.Proofs
set_option linter.unusedVariables false
theorem Agr.split {l : List UInt8} {p : Nat} {E : List Nat} (h : Agr l p E) (hp : p + E.length ≤ 8 * l.length) : ∃ r, (bytesB l).drop p = E ++ r := by
  refine ⟨((bytesB l).drop p).drop E.length, ?_⟩
  conv => lhs; rw [← List.take_append_drop E.length ((bytesB l).drop p)]
  rw [h.take hp]
section
variable {ops : Array Oper} {o : Oper} {a : Act} {Q : Exit → Act → World → Prop}
/-- append(v, x), one byte, as a step of a region. -/
theorem step_app_1x {K : Act → World → Prop} {E : Prop} {w : World} {x' : Int} {t : TypeId} (b : UInt8) (hbx : x' = (b.toNat : Int)) (hgd : o.guard = none) (s y : Operand)
    (ho : o.op = .call { callee := .builtin .append, args := #[s, y], argTypes := #[22, 22] })
    (base : Nat) (v : Value) (n : Nat) (l : List UInt8) (hown : OB w base v n l) (hs : a.eval s = v) (c : Nat) (hx : a.eval y = .slice (some ⟨w.heap.size, 0, none⟩) 1 c)
    (hlen : n + 1 ≤ 140737488351232) (hbase : base ≤ w.heap.size)
    (h : ∀ v' w', OB w' base v' (n + 1) (l ++ [b]) → w.grownBy w' v.ownBlock → K (a.put o.dst v') w') :
    if Region.wanted o (yielded ops a.tmps) = true then Oper.wp Tryz.prog o a (w.alloc (.cells #[.int .u8 x'] t)) K Q else E := by
  subst hbx
  obtain ⟨i0, hi0, hz0, hz1, hz2⟩ := info_parts byte_info
  refine step_append_any _ hgd s y 22 ho base 5 i0 _ 1 1 Tryz.underlying22 hi0 hz0 hz1 hz2 rfl (by omega) v n (bv l) hs (OB.alloc hown _) (w.heap.size + 1) (some ⟨w.heap.size, 0, none⟩) 1 c (bv [b]) hx (RB.one_new w b t) (bv_one _)
    (by simp only [maxLen]; omega) (by omega) (by simp; omega) fun v' w' h1 h2 h3 => ?_
  rw [← bv_append] at h1
  refine h v' w' h1 ⟨h2.os, h2.tape, h2.output, ?_, fun k hk hne => ?_⟩
  · have := h2.size; simp at this; omega
  · rw [h2.block k (by simp; omega) hne]
    exact Below.heap_alloc _ _ _ hk
end
section
variable {w w' w'' : World} {B gs : Nat} {vb vo vo' : Value} {L : List Nat} {p : Nat} {out : List UInt8} {c : UInt8}
/-- A byte came out. -/
theorem StAt.emit (h : StAt w B gs vb vo L p out) (h2 : OB w' B vo' (out.length + 1) (out ++ [c])) (hg : w.grownBy w' vo.ownBlock) : StAt (w'.setCell ⟨gs, 2, none⟩ vo') B gs vb vo' L p (out ++ [c]) := by
  have h1 := h.st.grown hg (fun e => h.vos e.symm)
  have hO : Only (fun k => vo.ownBlock = some k) w w' := (Only.refl _ w).grown hg fun _ hk _ => hk
  have h3 := hO.row h.bi (fun k hk hs => h.vbo k hk hs)
  have hS : Only (· = gs) w' (w'.setCell ⟨gs, 2, none⟩ vo') := (Only.refl (· = gs) w').setCell (p := ⟨gs, 2, none⟩) (fun _ => rfl) _
  refine ⟨h1.set_ 2 _, hS.row h3 (fun k hk e => h.vbs (by rw [hk, e])), ?_, h.gB⟩
  rw [List.length_append]
  exact Only.row (S := fun k => k = gs) hS h2 fun k hk e => own_blk_ne h2 h1 (by decide) (by rw [hk, e])
theorem EffR.emit (hE : EffR B w w') (h : StAt w' B gs vb vo L p out) (hg : w'.grownBy w'' vo.ownBlock) (u : Value) : EffR B w (w''.setCell ⟨gs, 2, none⟩ u) := by
  have h1 := h.st.grown hg (fun e => h.vos e.symm)
  refine ⟨(hE.bel.trans ((Below.refl _ _).grown hg h.size fun k hk => (World.ownsRow.lt h.ou k hk).1)).setCell (p := ⟨gs, 2, none⟩) h.gB u, fun t a b => ?_⟩
  exact ((hE.keep t a b).grown_own hg h.ou (fun e => b e.symm)).set_ (p := ⟨gs, 2, none⟩) h1 (fun e => a e) u
end
def atOf (wx : World) (gs : Nat) : Nat := match wx.cell? ⟨gs, 1, none⟩ with
  | some (.int _ p) => p.toNat
  | _ => 0
theorem StAt.atOf {w : World} {B gs : Nat} {vb vo : Value} {L : List Nat} {p : Nat} {out : List UInt8} (h : StAt w B gs vb vo L p out) : Go.Proofs.YtbchaomnjbkdhaaGreat.atOf w gs = p := by
  unfold Go.Proofs.YtbchaomnjbkdhaaGreat.atOf
  rw [h.st.cell 1]
  simp
/-- What coded leaves. -/
def CodR (w : World) (B gs : Nat) (vb : Value) (L : List Nat) (m : Nat) (b : List UInt8) (e : Ending) (w' : World) : Prop :=
  e = .returned (.tuple #[]) ∧ ∃ vo', StAt w' B gs vb vo' L m b ∧ EffR B w w'
set_option maxRecDepth 100000 in
set_option maxHeartbeats 8000000 in
theorem codedR_any (w : World) (B gs : Nat) (vb vo : Value) (l b : List UInt8) (ls ds : List Nat) (m : Nat) (its : List Item) (p : Nat) (out : List UInt8) (A1 A2 : Option Addr) (n1 n2 c1 c2 : Nat)
    (h : StAt w B gs vb vo (bytesB l) p out) (hCo : Coded l b ls ds m its out p) (hm : m ≤ 8 * l.length) (hl : l.length ≤ 10000000)
    (hls : RN w w.heap.size A1 n1 ls) (hds : RN w w.heap.size A2 n2 ds) (okl : codeOk ls) (okd : codeOk ds) (hn1 : n1 ≤ 320) (hn2 : n2 ≤ 320) (h02 : 0 < n2) (h256 : 256 < ls.length) (h1 : 1 ≤ ls.getD 256 0) (hb : b.length ≤ 1000000) :
    Calls Tryz.prog 24 #[.pointer (some ⟨gs, 0, none⟩), .agg #[.slice A1 n1 c1, .slice A2 n2 c2], .int .i64 (b.length : Int)] w (CodR w B gs vb (bytesB l) m b) := by
  have hlen1 := hls.len
  have hlen2 := hds.len
  have h2 := hide (bytesB_two l)
  have hLl : Hid ((bytesB l).length = 8 * l.length) := bytesB_len l
  have hsz := hide h.size
  have hnew1 := hide (fun (wz : World) (hz : Below w.heap.size w wz) => new5_any wz A1 n1 c1 ls ((hls.below hz).more hz.size) okl (by omega) hn1)
  have hnew2 := hide (fun (wz : World) (hz : Below w.heap.size w wz) => new5_any wz A2 n2 c2 ds ((hds.below hz).more hz.size) okd h02 hn2)
  clear hls hds
  replace okl := hide okl
  replace okd := hide okd
  replace hCo := hide hCo
  replace h := hide h
  replace h1 := hide h1
  obtain ⟨M, hM⟩ : ∃ M, M = b.length := ⟨_, rfl⟩
  rw [← hM] at hb ⊢
  replace hM := hide hM
  replace hlen1 := hide hlen1
  replace hlen2 := hide hlen2
  go_enter Tryz.func24, Tryz.ntmps24
  go_wp2_with fail
  have hb1 : Below w.heap.size w (w.alloc (.cells #[.slice A1 n1 c1, .slice A2 n2 c2] 58)) := (Below.refl _ _).alloc (Nat.le_refl _) _
  have hx1 := (Blk.new w 58 #[.slice A1 n1 c1, .slice A2 n2 c2])
  have hS1 := hide (h.out.alloc (.cells #[.slice A1 n1 c1, .slice A2 n2 c2] 58))
  generalize w.alloc (.cells #[.slice A1 n1 c1, .slice A2 n2 c2] 58) = w1 at *
  refine (hnew1.out w1 hb1).mono ?_
  rintro e w2 ⟨g1, f1, rfl, hC1, -, hb2⟩
  have hx2 := hx1.below hb2 hx1.lt
  have d1 := hx2.cell 1
  have hB2 := hb1.trans (hb2.mono hb1.size)
  have hS2 := hide (hS1.out.of_below hb2)
  go_upto_region 2 with (fail)
  have hx3 := hx2.alloc (.cells #[.slice (some ⟨g1, 0, none⟩) n1 n1, .int .i64 (f1 : Int)] 93)
  have hK3 := (Blk.new w2 93 #[.slice (some ⟨g1, 0, none⟩) n1 n1, .int .i64 (f1 : Int)])
  have hb3 : Below w2.heap.size w2 (w2.alloc (.cells #[.slice (some ⟨g1, 0, none⟩) n1 n1, .int .i64 (f1 : Int)] 93)) := (Below.refl _ _).alloc (Nat.le_refl _) _
  have hB3 := hB2.trans (hb3.mono hB2.size)
  have hC3 := hC1.below hb3
  have hS3 := hide (hS2.out.of_below hb3)
  generalize w2.alloc (.cells #[.slice (some ⟨g1, 0, none⟩) n1 n1, .int .i64 (f1 : Int)] 93) = w3 at *
  obtain ⟨k6, hk6⟩ : ∃ k6, k6 = w2.heap.size := ⟨_, rfl⟩
  rw [← hk6] at hK3 ⊢
  obtain ⟨gx, hgx⟩ : ∃ gx, gx = w.heap.size := ⟨_, rfl⟩
  rw [← hgx] at hx3 ⊢
  have e1 := hx3.cell 1
  clear d1 hk6 hgx hx2 hx1 hb1 hb2 hb3 hC1 hS1 hS2 hB2
  replace hx3 := hide hx3
  replace hK3 := hide hK3
  replace hC3 := hide hC3
  replace hB3 := hide hB3
  go_wp2_with fail
  refine (hnew2.out w3 hB3.out).mono ?_
  rintro e w4 ⟨g2, f2, rfl, hC2, -, hb4⟩
  have hK4 := hK3.out.below hb4 hK3.out.lt
  have hB4 := hB3.out.trans (hb4.mono hB3.out.size)
  have hS4 := hS3.out.of_below hb4
  have hC4 := hC3.out.below hb4
  clear hx3 hK3 hC3 hB3 hS3 e1
  obtain ⟨b1, hb1⟩ : ∃ b1, b1 = w1.heap.size := ⟨_, rfl⟩
  rw [← hb1] at hC4
  obtain ⟨b2, hb2⟩ : ∃ b2, b2 = w3.heap.size := ⟨_, rfl⟩
  rw [← hb2] at hC2
  clear hb1 hb2
  replace hC2 := hide hC2
  go_upto_region 3 with (fail)
  have hb5 : Below w4.heap.size w4 (w4.alloc (.cells #[.slice (some ⟨g2, 0, none⟩) n2 n2, .int .i64 (f2 : Int)] 93)) := (Below.refl _ _).alloc (Nat.le_refl _) _
  have hL5 := hide (Blk.new w4 93 #[.slice (some ⟨g2, 0, none⟩) n2 n2, .int .i64 (f2 : Int)])
  have hK5 := hide (hK4.below hb5 hK4.lt)
  have hB5 := hB4.trans (hb5.mono hB4.size)
  have hS5 := hide (hS4.of_below hb5)
  have hC5 := hide (hC4.below hb5)
  have hD5 := hide (hC2.out.below hb5)
  generalize w4.alloc (.cells #[.slice (some ⟨g2, 0, none⟩) n2 n2, .int .i64 (f2 : Int)] 93) = w5 at *
  obtain ⟨k7, hk7⟩ : ∃ k7, k7 = w4.heap.size := ⟨_, rfl⟩
  rw [← hk7] at hL5 ⊢
  have hE5 : Hid (EffR B w w5) := EffR.of_below (EffR.refl B w) hsz.out hB5
  clear hk7 hB5 hb5 hB4 hS4 hC4 hC2 hK4 hb4 hnew1 hnew2
  go_loopw [8] (fun v8 wx => ∃ p xs out vo, Hid (StAt wx B gs vb vo (bytesB l) p out) ∧ Hid (Coded l b ls ds m xs out p) ∧ Hid (EffR B w5 wx)) (fun v8 wx => m - atOf wx gs)
  case atStart => exact ⟨p, its, out, vo, hS5, hCo, EffR.refl _ _⟩
  case round =>
    clear hS5 hCo h p its out vo
    obtain ⟨p, xs, out, vo, hS, hCo, hE⟩ := hrel
    have hle : out.length ≤ M := by have := hCo.out.le; have := hM.out; omega
    obtain ⟨vA, vc, hvo, -, -, -, -⟩ := hS.out.ou.form
    subst hvo
    have c2 : wr.cell? ⟨gs, 2, none⟩ = some (.slice vA out.length vc) := hS.out.st.cell 2
    have c3 : wr.cell? ⟨gs, 3, none⟩ = some (.int .i64 0) := hS.out.st.cell 3
    have hK := hE.out.blk hK5.out (by decide) (by decide)
    have k0 := hK.cell 0
    have k1 := hK.cell 1
    have hcl := hCo.out.len
    obtain ⟨r, hr⟩ := hCo.out.agr.split (by omega)
    have hleI : (out.length : Int) ≤ (M : Int) := by omega
    have hleD : decide (out.length ≤ M) = true := by rw [decide_eq_true_iff]; exact hle
    have hat := hS.out.atOf
    have hz := hS.out.size
    replace hK := hide hK
    replace hat := hide hat
    cases xs with
    | nil =>
      rw [List.flatMap_nil, List.nil_append] at hr hcl
      rw [encS_len] at hcl
      have hnx := hide (nextR_any wr B gs vb _ (bytesB l) p out b1 g1 n1 n1 f1 256 ls r hS.out (hE.out.cs hC5.out) okl.out hn1 (by have := hlen1.out; omega) h1.out hr (by have := hLl.out; omega))
      unfold NextR at hnx
      have hout : out = b := hCo.out.rest
      rw [hcl] at hnx
      replace hr := hide hr
      replace hcl := hide hcl
      replace hout := hide hout
      go_wp2_with fail
      refine hnx.out.mono ?_
      rintro e w6 ⟨rfl, hS6, hE6⟩
      have d3 : w6.cell? ⟨gs, 3, none⟩ = some (.int .i64 0) := hS6.st.cell 3
      have hEz := hide ((hE5.out.trans hE.out).trans hE6)
      replace hS6 := hide hS6
      clear hnx hE6 c2 c3 k0 k1
      go_wp2_with fail
      go_end0
      exact ⟨rfl, _, by rw [← hout.out]; exact hS6.out, hEz.out⟩
    | cons x xs =>
      obtain ⟨o1, o2, o3, o4⟩ := hCo.out.ok x (.head _)
      have hnxt := hCo.out.next
      rw [List.flatMap_cons, List.append_assoc, List.append_assoc] at hr
      rw [List.flatMap_cons, List.append_assoc, List.length_append] at hcl
      have hrl : 1 ≤ (xs.flatMap (encIt ls ds) ++ (encS ls 256 ++ r)).length := by
        rw [List.length_append, List.length_append, encS_len]; have := h1.out; omega
      obtain ⟨R, hR⟩ : ∃ R, R = xs.flatMap (encIt ls ds) ++ (encS ls 256 ++ r) := ⟨_, rfl⟩
      rw [← hR] at hr hrl
      replace hR := hide hR
      by_cases hf : x.far = 0
      · have el : litP x = ⟨x.c.toNat, 0, 0⟩ := by rw [litP, if_pos hf]
        rw [enc_lit hf] at hr hcl hnxt
        rw [encS_len] at hcl hnxt
        rw [put_lit hf] at hnxt
        have h3 : x.c.toNat < ls.length := by rw [el] at o3; exact o3
        have h4 : 1 ≤ ls.getD x.c.toNat 0 := by have := o2.lit; rw [el] at this; exact this
        have hnx := hide (nextR_any wr B gs vb _ (bytesB l) p out b1 g1 n1 n1 f1 x.c.toNat ls _ hS.out (hE.out.cs hC5.out) okl.out hn1 (by have := hlen1.out; omega) h4 hr (by have := hLl.out; omega))
        unfold NextR at hnx
        have hc256 := x.c.toNat_lt
        obtain ⟨K, hKK⟩ : ∃ K, K = ls.getD x.c.toNat 0 := ⟨_, rfl⟩
        rw [← hKK] at hnx hnxt hcl h4
        obtain ⟨C, hC⟩ : ∃ C, C = x.c.toNat := ⟨_, rfl⟩
        rw [← hC] at hnx hc256
        have hCI : (C : Int) < 256 := by omega
        have hCn : ((C : Int) == 256) = false := by rw [beq_eq_false_iff_ne]; omega
        replace hKK := hide hKK
        replace hC := hide hC
        replace hnxt := hide hnxt
        clear hr el
        go_wp2_with fail
        refine hnx.out.mono ?_
        rintro e w6 ⟨rfl, hS6, hE6⟩
        have d3 : w6.cell? ⟨gs, 3, none⟩ = some (.int .i64 0) := hS6.st.cell 3
        have d2 : w6.cell? ⟨gs, 2, none⟩ = some (.slice vA out.length vc) := hS6.st.cell 2
        have hE7 := hide (hE.out.trans hE6)
        have hS7 := hide hS6
        have hz6 := hS6.size
        clear hnx hE6 c2 c3 k0 k1 hS6
        go_wp2_with (at_builtin; refine wpList_app_1x x.c (by rw [← hC.out]) rfl (.tmp 51) (.tmp 54) rfl B _ out.length out hS7.out.ou rfl 1 rfl (by omega) hz6 ?_; intro v2 w8 ho2 _ hg2 _; obtain ⟨A9, c9, hv9, -⟩ := ho2.form; subst hv9; have hS8 := hide (hS7.out.emit ho2 hg2); have hE8 := hide (hE7.out.emit hS7.out hg2 (.slice A9 (out.length + 1) c9)); have hB8 := hS7.out.st.grown hg2 (fun e => hS7.out.vos e.symm); have d8 := hB8.cell 2; have f8 := hB8.frozen 2; replace hB8 := hide hB8; clear ho2 hg2)
        go_roundw
        case rel => exact ⟨p + K, xs, out ++ [x.c], _, hS8, hnxt, hE8⟩
        case measure =>
          have a1 := hat.out
          have a2 := hS8.out.atOf
          rw [a1, a2]; omega
      · have hcp := copy_ok x o1 hf
        obtain ⟨q1, q2, q3, q4, q5, q6, q7, q8, q9, q10⟩ := hcp
        rw [enc_copy hf, List.append_assoc, List.append_assoc, List.append_assoc] at hr
        have hlx : (encIt ls ds x).length = ls.getD (litP x).symbol 0 + ((litP x).wide + (ds.getD (farP x).symbol 0 + (farP x).wide)) := by
          rw [enc_copy hf, List.length_append, List.length_append, List.length_append, encS_len, encS_len, loB_len, loB_len]
        rw [hlx] at hcl hnxt
        rw [put_copy hf] at hnxt
        have hfo : x.far ≤ out.length := hCo.out.far.1
        have hx32 : x.far ≤ 32768 ∧ 1 ≤ x.far ∧ x.long ≤ 258 := by rcases o1 with o1 | o1 <;> omega
        obtain ⟨hx32, hx1, hx258⟩ := hx32
        have o4' := o4 hf
        have o5' := o2.far hf
        have o6' := o2.lit
        have hnx := hide (nextR_any wr B gs vb _ (bytesB l) p out b1 g1 n1 n1 f1 (litP x).symbol ls _ hS.out (hE.out.cs hC5.out) okl.out hn1 (by have := hlen1.out; omega) o6' hr (by have := hLl.out; omega))
        unfold NextR at hnx
        have hr1 := drop_step hr (encS_len ls (litP x).symbol)
        obtain ⟨S, hS0⟩ : ∃ S, S = (litP x).symbol := ⟨_, rfl⟩
        obtain ⟨W, hW⟩ : ∃ W, W = (litP x).wide := ⟨_, rfl⟩
        obtain ⟨MO, hMO⟩ : ∃ MO, MO = (litP x).more := ⟨_, rfl⟩
        obtain ⟨T, hT⟩ : ∃ T, T = (farP x).symbol := ⟨_, rfl⟩
        obtain ⟨FW, hFW⟩ : ∃ FW, FW = (farP x).wide := ⟨_, rfl⟩
        obtain ⟨FM, hFM⟩ : ∃ FM, FM = (farP x).more := ⟨_, rfl⟩
        rw [← hS0] at q1 q2 q5 q6 hcl hnxt hnx hr1 o3 o6'
        rw [← hW] at q3 q4 q5 q6 hcl hnxt hr1
        rw [← hMO] at q4 q5 q6 hr1
        rw [← hT] at q7 q10 hcl hnxt hr1 o4' o5'
        rw [← hFW] at q8 q9 q10 hcl hnxt hr1
        rw [← hFM] at q9 q10 hr1
        obtain ⟨K1, hK1⟩ : ∃ K1, K1 = ls.getD S 0 := ⟨_, rfl⟩
        obtain ⟨K2, hK2⟩ : ∃ K2, K2 = ds.getD T 0 := ⟨_, rfl⟩
        rw [← hK1] at hcl hnxt hnx hr1 o6'
        rw [← hK2] at hcl hnxt o5'
        have hwm := low_step hr1 q4
        have hr2 := drop_step hr1 (loB_len W MO)
        have hr3 := drop_step hr2 (encS_len ds T)
        rw [← hK2] at hr3
        have hfm := low_step hr3 q9
        have hr4 := drop_step hr3 (loB_len FW FM)
        have hl4 := drop_len hr4
        rw [hLl.out] at hl4
        obtain ⟨p1, hp1⟩ : ∃ p1, p1 = p + K1 := ⟨_, rfl⟩
        rw [← hp1] at hwm hfm hr2 hr3 hr4 hl4 hnx
        obtain ⟨p2, hp2⟩ : ∃ p2, p2 = p1 + W := ⟨_, rfl⟩
        rw [← hp2] at hfm hr2 hr3 hr4 hl4
        obtain ⟨p3, hp3⟩ : ∃ p3, p3 = p2 + K2 := ⟨_, rfl⟩
        rw [← hp3] at hfm hr3 hr4 hl4
        obtain ⟨p4, hp4⟩ : ∃ p4, p4 = p3 + FW := ⟨_, rfl⟩
        rw [← hp4] at hl4
        have hpe : p + (K1 + (W + (K2 + FW))) = p4 := by omega
        rw [hpe] at hnxt
        obtain ⟨kk, hkk⟩ : ∃ kk, kk = S - 257 := ⟨_, rfl⟩
        have hkkI : (S : Int) - 257 = (kk : Int) := by omega
        have hlb : ∃ bb : Nat, longB.getD kk 0 = (bb : Int) ∧ longM.getD kk 0 = (W : Int) ∧ bb ≤ 300 ∧ bb + MO = x.long := by
          by_cases h285 : S = 285
          · obtain ⟨e1, e2, e3⟩ := q5 h285
            have ek : kk = 28 := by omega
            refine ⟨258, by rw [ek]; rfl, by rw [ek, e1]; rfl, by omega, by omega⟩
          · obtain ⟨e1, e2⟩ := q6 h285
            rw [← hkk] at e1 e2
            have hsp := long_span kk (by omega)
            exact ⟨(spanP kk 4 3).1, hsp.1, by rw [← e2]; exact hsp.2, by omega, e1⟩
        obtain ⟨bb, hbb1, hbb2, hbb3, hbb4⟩ := hlb
        have hfs := far_span T (by omega)
        rw [q10.2] at hfs
        obtain ⟨bf, hbf⟩ : ∃ bf, bf = (spanP T 2 1).1 := ⟨_, rfl⟩
        have hbf2 : bf + FM = x.far := by rw [hbf]; exact q10.1
        rw [← hbf] at hfs
        have hlg := hide (fun (wz : World) (hz : StAt wz B gs vb (.slice vA out.length vc) (bytesB l) p1 out) => long_any wz B gs vb _ (bytesB l) p1 kk bb W out hz (by rw [hLl.out]; omega) (by rw [hLl.out]; omega) (by omega) hbb1 hbb2 hbb3 q3 h2.out (by rw [hLl.out]; omega))
        have hnd := hide (fun (wz : World) (hz : StAt wz B gs vb (.slice vA out.length vc) (bytesB l) p2 out) (hc : CsAt wz b2 g2 n2 n2 ds) => nextR_any wz B gs vb _ (bytesB l) p2 out b2 g2 n2 n2 f2 T ds _ hz hc okd.out hn2 (by have := hlen2.out; omega) (by omega) hr2 (by rw [hLl.out]; omega))
        have hfr := hide (fun (wz : World) (hz : StAt wz B gs vb (.slice vA out.length vc) (bytesB l) p3 out) => far_any wz B gs vb _ (bytesB l) p3 T bf FW out hz (by rw [hLl.out]; omega) (by rw [hLl.out]; omega) (by omega) hfs.1 hfs.2 (by omega) h2.out (by rw [hLl.out]; omega))
        unfold SpanR at hlg hfr
        unfold NextR at hnd
        rw [hwm, hbb4] at hlg
        rw [hfm, hbf2] at hfr
        rw [← hp2] at hlg
        rw [← hK2, ← hp3] at hnd
        rw [← hp4] at hfr
        obtain ⟨LO, hLO⟩ : ∃ LO, LO = x.long := ⟨_, rfl⟩
        obtain ⟨FA, hFA⟩ : ∃ FA, FA = x.far := ⟨_, rfl⟩
        rw [← hLO] at hlg hnxt hx258
        rw [← hFA] at hfr hnxt hx32 hx1 hfo
        have s1 : ((S : Int) == 256) = false := by rw [beq_eq_false_iff_ne]; omega
        have s2 : ¬ (S : Int) < 256 := by omega
        have s3 : ¬ (285 : Int) < (S : Int) := by omega
        have s4 : ¬ (29 : Int) < (T : Int) := by omega
        have s5 : ¬ (out.length : Int) < (FA : Int) := by omega
        have s6 : ¬ (32768 : Int) < (FA : Int) := by omega
        have s7 : decide (out.length < FA) = false := by rw [decide_eq_false_iff_not]; omega
        have hpp : p < p4 := by omega
        have hp4m : p4 ≤ m := by omega
        have hlo2 : (copyN FA LO out).length ≤ b.length := hnxt.le
        rw [copyN_len] at hlo2
        replace hnxt := hide hnxt
        clear hr hr1 hr2 hr3 hr4 hl4 q1 q2 q3 q4 q5 q6 q7 q8 q9 q10 hwm hfm hbb1 hbb2 hbb3 hbb4 hfs hcl hlx o2 o3 o4 o4' o5' o6' hp1 hp2 hp3 hp4 hpe hkk hbf hbf2 hK1 hK2
        replace hS0 := hide hS0
        replace hW := hide hW
        replace hMO := hide hMO
        replace hT := hide hT
        replace hFW := hide hFW
        replace hFM := hide hFM
        replace hLO := hide hLO
        replace hFA := hide hFA
        go_wp2_with fail
        refine hnx.out.mono ?_
        rintro e w6 ⟨rfl, hS6, hE6⟩
        have d3 : w6.cell? ⟨gs, 3, none⟩ = some (.int .i64 0) := hS6.st.cell 3
        have hlg6 := hide (hlg.out w6 hS6)
        have hE7 := hide (hE.out.trans hE6)
        clear hnx hE6 c2 c3 k0 k1 hS6 hlg
        go_wp2_with fail
        refine hlg6.out.mono ?_
        rintro e w7 ⟨rfl, hS7, hE7'⟩
        have hE8 := hide (hE7.out.trans hE7')
        have hL7 := hE8.out.blk hL5.out (by decide) (by decide)
        have l0 := hL7.cell 0
        have l1 := hL7.cell 1
        have hnd7 := hide (hnd.out w7 hS7 (hE8.out.cs hD5.out))
        replace hL7 := hide hL7
        clear hlg6 hE7 hE7' hS7 hnd d3
        go_wp2_with fail
        refine hnd7.out.mono ?_
        rintro e w8 ⟨rfl, hS8, hE8'⟩
        have d3 : w8.cell? ⟨gs, 3, none⟩ = some (.int .i64 0) := hS8.st.cell 3
        have hE9 := hide (hE8.out.trans hE8')
        have hfr8 := hide (hfr.out w8 hS8)
        clear hnd7 hE8 hE8' hS8 hfr l0 l1
        go_wp2_with fail
        refine hfr8.out.mono ?_
        rintro e w9 ⟨rfl, hS9, hE9'⟩
        have d3' : w9.cell? ⟨gs, 3, none⟩ = some (.int .i64 0) := hS9.st.cell 3
        have d2' : w9.cell? ⟨gs, 2, none⟩ = some (.slice vA out.length vc) := hS9.st.cell 2
        have hE10 := hide (hE9.out.trans hE9')
        replace hS9 := hide hS9
        clear hfr8 hE9 hE9' d3
        go_wp2_with fail
        go_loopw [12] (fun v12 wx => ∃ (i : Nat) (o2 : List UInt8) (v2 : Value), v12 = .int .i64 (i : Int) ∧ i ≤ LO ∧ Hid (o2.length = out.length + i) ∧ Hid (copyN FA (LO - i) o2 = copyN FA LO out) ∧ Hid (StAt wx B gs vb v2 (bytesB l) p4 o2) ∧ Hid (EffR B w5 wx)) (fun v12 _ => LO - (intOf v12).toNat)
        case atStart => exact ⟨0, out, _, rfl, Nat.zero_le _, rfl, rfl, hS9, hE10⟩
        case round =>
          clear hS9 hE10 d2' d3'
          obtain ⟨i, o2, v2, rfl, hi, hol, hcp, hSi, hEi⟩ := hrel
          have e3 : wr.cell? ⟨gs, 3, none⟩ = some (.int .i64 0) := hSi.out.st.cell 3
          by_cases hlt : i < LO
          · have hFo : FA ≤ o2.length := by have := hol.out; omega
            obtain ⟨gv, cv, hv2, hvc, -⟩ : ∃ gv cv, v2 = .slice (some ⟨gv, 0, none⟩) o2.length cv ∧ o2.length ≤ cv ∧ cv ≤ maxLen := by
              rcases hSi.out.ou.parts with ⟨_, h5, _⟩ | ⟨g5, k5, h5, h6, h7⟩
              · omega
              · exact ⟨g5, k5, h5, h6, h7⟩
            subst hv2
            obtain ⟨J, hJ⟩ : ∃ J, J = o2.length - FA := ⟨_, rfl⟩
            have hJl : J < o2.length := by omega
            have hJI : (o2.length : Int) - (FA : Int) = (J : Int) := by omega
            have cj := OB.cell hSi.out.ou (k := J) hJl hJl
            have hlen2 : o2.length ≤ 2000000 := by have := hol.out; omega
            have hst : Hid (copyN FA (LO - (i + 1)) (o2 ++ [o2[J]]) = copyN FA LO out) := by
              rw [Hid, ← hcp.out, show LO - i = (LO - (i + 1)) + 1 by omega, copyN]
              congr 2
              rw [← hJ, List.getD_eq_getElem?_getD, List.getElem?_eq_getElem hJl]; rfl
            obtain ⟨X, hX⟩ : ∃ X, X = o2[J] := ⟨_, rfl⟩
            rw [← hX] at cj hst
            have hX256 := X.toNat_lt
            have e2 : wr.cell? ⟨gs, 2, none⟩ = some (.slice (some ⟨gv, 0, none⟩) o2.length cv) := hSi.out.st.cell 2
            have hJw : IntKind.i64.wrap ((o2.length : Int) - (FA : Int)) = (J : Int) := by rw [IntWalk.i64_in _ (by omega)]; exact hJI
            have hJ0 : (0 : Int) ≤ (J : Int) := by omega
            have hJw2 : IntKind.i64.wrap (J : Int) = (J : Int) := IntWalk.i64_in _ (by omega)
            have hJlI : (J : Int) < (o2.length : Int) := by omega
            have hiI : (i : Int) < (LO : Int) := by omega
            have hzi := hSi.out.size
            replace hX := hide hX
            replace hJ := hide hJ
            go_upto_region 21 with (fail)
            have hSk : Hid (StAt wr.drew B gs vb (.slice (some ⟨gv, 0, none⟩) o2.length cv) (bytesB l) p4 o2) := hSi.out.drewN 1
            have hEk : Hid (EffR B w5 wr.drew) := hEi.out.drewN 1
            have hzk : B ≤ wr.drew.heap.size := hzi
            have e2a : (wr.alloc (.cells #[.int .u8 (X.toNat : Int)] 5)).cell? ⟨gs, 2, none⟩ = some (.slice (some ⟨gv, 0, none⟩) o2.length cv) := (World.cell?_alloc_lt wr _ ⟨gs, 2, none⟩ hSi.out.st.lt).trans e2
            clear hJI
            replace hzk := hide hzk
            go_region_law (refine step_app_1x X rfl rfl (.tmp 124) (.tmp 138) rfl B _ o2.length o2 hSk.out.ou rfl 1 rfl (by omega) hzk.out ?_; intro v2 w8 ho2 hg2; obtain ⟨A9, c9, hv9, -⟩ := ho2.form; subst hv9; have hS8 := hide (hSk.out.emit ho2 hg2); have hE8 := hide (hEk.out.emit hSk.out hg2 (.slice A9 (o2.length + 1) c9)); have hB8 := hSk.out.st.grown hg2 (fun e => hSk.out.vos e.symm); have d8 := hB8.cell 2; have f8 := hB8.frozen 2; replace hB8 := hide hB8; clear ho2 hg2)
            all_goals
              go_wp2_with fail
              go_roundw
              case rel => exact ⟨i + 1, o2 ++ [X], _, by go_num, hlt, by rw [Hid, List.length_append, hol.out]; rfl, hst, hS8, hE8⟩
              case measure => simp [intOf]; omega
          · obtain rfl : i = LO := by omega
            have ho2 : Hid (o2 = copyN FA i out) := by
              rw [Hid, ← hcp.out, Nat.sub_self]; rfl
            have hnx2 : Hid (Coded l b ls ds m xs o2 p4) := by rw [ho2.out]; exact hnxt.out
            go_wp2_with fail
            go_roundw
            case rel => exact ⟨p4, xs, o2, _, hSi, hnx2, hEi⟩
            case measure =>
              have a1 := hat.out
              have a2 := hSi.out.atOf
              rw [a1, a2]; omega
end Go.Proofs.YtbchaomnjbkdhaaGreat
