/-
  The walk of the law PlanHolds.
-/
import Derived.Test.YtnnjcedlomfhoaaGreatDoorHLawPlanOrs
import Derived.Test.YtnnjcedlomfhoaaGreatDoorHPlanLaw
import Derived.Test.YtnnjcedlomfhoaaGreatDoorHRKey
namespace Go.Proofs.YtnnjcedlomfhoaaGreatDoor
open Go.RowKit
set_option linter.unusedVariables false
def FileAt (w : World) (p : Addr) (f : FileV) : Prop :=
  w.cell? p = some (.string (str f.name)) ∧ w.cell? ⟨p.block, p.off + 1, none⟩ = some (.int .i64 f.method) ∧ w.cell? ⟨p.block, p.off + 2, none⟩ = some (.int .i64 f.dos) ∧ w.cell? ⟨p.block, p.off + 3, none⟩ = some (.int .u32 f.crc) ∧
  w.cell? ⟨p.block, p.off + 4, none⟩ = some (.int .i64 f.x4) ∧ w.cell? ⟨p.block, p.off + 5, none⟩ = some (.int .i64 f.size) ∧ w.cell? ⟨p.block, p.off + 6, none⟩ = some (.int .i64 f.x6)
def FilesAt (w : World) (A : Option Addr) (n : Nat) : Prop := ∀ i, i < n → ∃ ad f, A = some ad ∧ (ad.add (i * 7)).block < w.heap.size ∧ FileAt w (ad.add (i * 7)) f ∧ (0 ≤ f.crc ∧ f.crc ≤ 4294967295) ∧ f.name.length ≤ 1048576
theorem FilesAt.below {w w' : World} {A : Option Addr} {n : Nat} (h : FilesAt w A n) (hb : Below w.heap.size w w') : FilesAt w' A n := fun i hi => by
  obtain ⟨ad, f, e, hl, ⟨h0, h1, h2, h3, h4, h5, h6⟩, hc, hn⟩ := h i hi
  have hc2 : ∀ (o : Nat) (u : Value), w.cell? ⟨(ad.add (i * 7)).block, o, none⟩ = some u → w'.cell? ⟨(ad.add (i * 7)).block, o, none⟩ = some u := fun o u hu => (hb.cell (p := ⟨(ad.add (i * 7)).block, o, none⟩) hl).trans hu
  exact ⟨ad, f, e, Nat.lt_of_lt_of_le hl hb.size, ⟨(hb.cell hl).trans h0, hc2 _ _ h1, hc2 _ _ h2, hc2 _ _ h3, hc2 _ _ h4, hc2 _ _ h5, hc2 _ _ h6⟩, hc, hn⟩
def hitF (f : FileV) (r : List UInt8) (s : SpanV) : Bool := inSpan (keyF f r s.by_) s
theorem any_next {α : Type} (P : α → Bool) (l : List α) (j : Nat) (h : j < l.length) : (l.take (j + 1)).any P = ((l.take j).any P || P l[j]) := by
  rw [List.take_succ_eq_append_getElem h, List.any_append, List.any_cons, List.any_nil, Bool.or_false]
theorem any_hit {f : FileV} {r : List UInt8} {p : PlanV} (h : hit (keyF f r) p) (ha : p.all = false) : p.spans.any (hitF f r) = true := by
  rcases h with h | ⟨s, hs, h⟩
  · rw [ha] at h; cases h
  · exact List.any_eq_true.2 ⟨s, hs, h⟩
theorem key_len (f : FileV) (a b by_ : Int) (h : f.name.length ≤ 40) : (keyF f (numB (heldI a) ++ numB (heldI b)) by_).length ≤ 200 := by
  have h1 := txt_short f.name
  have h2 : ∀ z : Int, (numB z).length = 6 := fun _ => rfl
  unfold keyF
  split
  · unfold textB
    simp only [List.length_append, List.length_cons, List.length_nil, h2]
    omega
  split
  · simp only [List.length_append, h2]; omega
  split
  · simp only [List.length_append, h2]; omega
  · simp only [List.length_append, h2]; omega
set_option maxRecDepth 100000 in
set_option maxHeartbeats 8000000 in
theorem planHolds_walk (w : World) (hA : Tabs26 w) (s : ByteArray) (A2 : Option Addr) (n2 c2 : Nat) (hF : FilesAt w A2 n2) (B : Option Addr) (m d : Nat) (found : List (List UInt8)) (hL : RSL w w.heap.size B m found) :
    Calls Tryz.prog 5 #[.string s, .slice A2 n2 c2, .slice B m d] w fun e w' => e = .returned (.bool true) ∧ Below w.heap.size w w' := by
  have hsc := run_store_complex
  have hnil := eq_nil
  have hA' := hide hA
  replace hF := hide hF
  replace hL := hide hL
  clear hA
  go_enter Tryz.func5, Tryz.ntmps5
  go_wp2_with fail
  refine (wakes26_any w hA'.out).mono ?_
  rintro e w1 ⟨rfl, hb1⟩
  have hA1 := hide (hA'.out.below hb1)
  have hsz1 := hb1.size
  replace hF := hide (hF.out.below hb1)
  replace hL := hide ((hL.out.below hb1).more hb1.size)
  replace hb1 := hide hb1
  clear hA'
  by_cases h500 : 500 < s.size
  · have i0 : (500 : Int) < (s.size : Int) := by omega
    clear h500
    go_wp2_with fail
    go_ret
    exact ⟨rfl, hb1.out⟩
  have i0 : ¬ (500 : Int) < (s.size : Int) := by omega
  by_cases h50 : 50 < n2
  · have i1 : (50 : Int) < (n2 : Int) := by omega
    clear h500 h50
    go_wp2_with fail
    go_ret
    exact ⟨rfl, hb1.out⟩
  have i1 : ¬ (50 : Int) < (n2 : Int) := by omega
  by_cases h20 : 20 < m
  · have i2 : (20 : Int) < (m : Int) := by omega
    clear h500 h50 h20
    go_wp2_with fail
    go_ret
    exact ⟨rfl, hb1.out⟩
  have i2 : ¬ (20 : Int) < (m : Int) := by omega
  have hm20 : m ≤ 20 := by omega
  have hn50 : n2 ≤ 50 := by omega
  have hs500 : s.size ≤ 1000000 := by omega
  clear h500 h50 h20
  go_wp2_with fail
  refine (form_any w1 hA1.out.2.1 hA1.out.2.2 s hs500).mono ?_
  rintro e w2 ⟨A1, n1, c1, rfl, hF1, hb2⟩
  have hA2 := hA1.out.below hb2
  have hbw2 := hb1.out.trans (hb2.mono hsz1)
  have hsz2 := hbw2.size
  replace hF := hide (hF.out.below hb2)
  replace hL := hide ((hL.out.below hb2).more hb2.size)
  clear hb1 hA1 hb2
  rcases hF1 with ⟨-, rfl⟩ | ⟨q, ad1, hq, rfl, rfl, hR1⟩
  · clear hF hL hA2
    go_wp2_with fail
    go_ret
    exact ⟨rfl, hbw2⟩
  obtain ⟨g1, g2, g3⟩ := formQ_fine hq
  have hsh := hide (planQ_short q 0 (formQ_short hq))
  have hfi := (planQ_fine q).1
  obtain ⟨m1, hm1⟩ : ∃ m, m = q.size := ⟨_, rfl⟩
  rw [← hm1] at hR1 g2 hfi ⊢
  have hN := hide (pnew_any w2 (some ad1) m1 c1 q hR1 g1 (by omega) g3 hA2.1 hA2.2.1)
  have hhit := hide (fun f r hf he => plan_hit f r found hf q g1 he)
  replace g1 := hide g1
  replace hR1 := hide hR1
  replace hA2 := hide hA2
  replace hbw2 := hide hbw2
  clear hm1 g3 hq
  go_wp2_with fail
  refine hN.out.mono ?_
  rintro e w3 ⟨⟨A3, n3, k3, rfl, hnk3, hS3⟩, hb3⟩
  have hX := Blk.new w3 28 (pcs A3 n3 k3 (planQ q))
  have hbX := (Below.refl w3.heap.size w3).alloc (Nat.le_refl _) (.cells (pcs A3 n3 k3 (planQ q)) 28)
  have hb4 := hb3.trans (hbX.mono hb3.size)
  have hbw4 := hide (hbw2.out.trans (hb4.mono hsz2))
  replace hS3 := hide (hS3.below hbX)
  replace hF := hide (hF.out.below hb4)
  replace hL := hide ((hL.out.below hb4).more hb4.size)
  replace hR1 := hide ((hR1.out.below hb4).more hb4.size)
  have hU4 := hide (hA2.out.2.1.below hb4)
  have hsz4 := hbw4.out.size
  have hS31 := hS3.out.1
  obtain ⟨p, hp⟩ : ∃ p, p = planQ q := ⟨_, rfl⟩
  rw [← hp] at hX hbX hb4 hbw4 hS3 hF hL hR1 hU4 hsz4 hhit hsh hfi hS31 ⊢
  have hn3 : n3 ≤ 400 := by omega
  replace hS31 := hide hS31
  clear hp hN hb3 hbX hb4 hA2 hbw2 hfi
  go_upto_region 9 with (fail)
  obtain ⟨w4, hw4⟩ : ∃ y, y = w3.alloc (.cells #[.slice A3 n3 k3, .bool p.all, .complex .f64 p.cost.re p.cost.im] 28) := ⟨_, rfl⟩
  rw [show w3.alloc (.cells (pcs A3 n3 k3 p) 28) = w4 from hw4.symm] at hX hbw4 hS3 hF hL hR1 hU4 hsz4
  rw [← hw4]
  have hgl := hX.lt
  replace hX := hide hX
  clear hw4
  go_wp2_with fail
  go_loopw [38] (fun v38 wr => ∃ i : Nat, v38 = .int .i64 i ∧ i ≤ n2 ∧ Below w4.heap.size w4 wr) (fun v38 _ => n2 - (intOf v38).toNat)
  case atStart => exact ⟨0, rfl, by omega, Below.refl _ _⟩
  case round =>
    obtain ⟨i, rfl, hi, hbr⟩ := hrel
    have hsz := hbr.size
    by_cases h1 : i < n2
    · have h1' : (i : Int) < (n2 : Int) := by omega
      obtain ⟨ad2, f, rfl, hdl, ⟨d0, d1, d2, d3, d4, d5, d6⟩, hcr, hnm⟩ := (hF.out.below hbr) i h1
      have hB0 := file_box wr f
      have hb0 := (Below.refl wr.heap.size wr).alloc (Nat.le_refl _) (.cells #[.string (str f.name), .int .i64 f.method, .int .i64 f.dos, .int .u32 f.crc, .int .i64 f.x4, .int .i64 f.size, .int .i64 f.x6] 40)
      go_upto_region 12 with (fail)
      obtain ⟨wa, hwa⟩ : ∃ y, y = wr.alloc (.cells #[.string (str f.name), .int .i64 f.method, .int .i64 f.dos, .int .u32 f.crc, .int .i64 f.x4, .int .i64 f.size, .int .i64 f.x6] 40) := ⟨_, rfl⟩
      rw [← hwa] at hB0 hb0 ⊢
      have hba := hbr.trans (hb0.mono hsz)
      clear hwa d0 d1 d2 d3 d4 d5 d6 hdl
      have x0 : wa.cell? ⟨wr.heap.size, 0, none⟩ = some (.string (str f.name)) := hB0.cell 0
      have x1 : wa.cell? ⟨wr.heap.size, 1, none⟩ = some (.int .i64 f.method) := hB0.cell 1
      have x2 : wa.cell? ⟨wr.heap.size, 2, none⟩ = some (.int .i64 f.dos) := hB0.cell 2
      have x3 : wa.cell? ⟨wr.heap.size, 3, none⟩ = some (.int .u32 f.crc) := hB0.cell 3
      have x4 : wa.cell? ⟨wr.heap.size, 4, none⟩ = some (.int .i64 f.x4) := hB0.cell 4
      have x5 : wa.cell? ⟨wr.heap.size, 5, none⟩ = some (.int .i64 f.size) := hB0.cell 5
      have x6 : wa.cell? ⟨wr.heap.size, 6, none⟩ = some (.int .i64 f.x6) := hB0.cell 6
      have hM := may21_any wa f hnm
      unfold fileV at hM
      replace hM := hide hM
      replace hB0 := hide hB0
      replace hba := hide hba
      replace hbr := hide hbr
      replace hb0 := hide hb0
      go_wp2_with fail
      refine hM.out.mono ?_
      rintro e wb ⟨b1, rfl, hb1, hbx⟩
      have hBb := hide (hB0.out.below hbx hB0.out.lt)
      have hbb := hide (hba.out.trans (hbx.mono hba.out.size))
      have hrb := hide (hb0.out.trans (hbx.mono hb0.out.size))
      clear x0 x1 x2 x3 x4 x5 x6 hM hB0 hba hbx hb0
      cases b1 with
      | false =>
        clear hb1
        go_wp2_with fail
        go_roundw
        case rel => exact ⟨i + 1, by go_num, by omega, hbb.out⟩
        case measure => simp [intOf]; omega
      | true =>
        have hok := hb1 rfl
        clear hb1
        have hXb := hX.out.below hbb.out hgl
        have y1 : wb.cell? ⟨w3.heap.size, 1, none⟩ = some (.bool p.all) := hXb.cell 1
        clear hXb
        obtain ⟨pa, hpa⟩ : ∃ b, b = p.all := ⟨_, rfl⟩
        rw [← hpa] at y1
        cases pa with
        | true =>
          clear hpa
          go_wp2_with fail
          go_roundw
          case rel => exact ⟨i + 1, by go_num, by omega, hbb.out⟩
          case measure => simp [intOf]; omega
        | false =>
          obtain ⟨hv, hl40, hsz', hdos'⟩ := hok
          have hokF : okF f := ⟨hv, hsz', hdos', hcr⟩
          have hNh := nholds_any wb (some ad1) m1 c1 q ((hR1.out.below hbb.out).more hbb.out.size) g1.out (by omega) f B m d found ((hL.out.below hbb.out).more hbb.out.size) (by omega) (hU4.out.below hbb.out) (by omega) hcr
          unfold fileV at hNh
          replace hNh := hide hNh
          have x0 : wb.cell? ⟨wr.heap.size, 0, none⟩ = some (.string (str f.name)) := hBb.out.cell 0
          have x1 : wb.cell? ⟨wr.heap.size, 1, none⟩ = some (.int .i64 f.method) := hBb.out.cell 1
          have x2 : wb.cell? ⟨wr.heap.size, 2, none⟩ = some (.int .i64 f.dos) := hBb.out.cell 2
          have x3 : wb.cell? ⟨wr.heap.size, 3, none⟩ = some (.int .u32 f.crc) := hBb.out.cell 3
          have x4 : wb.cell? ⟨wr.heap.size, 4, none⟩ = some (.int .i64 f.x4) := hBb.out.cell 4
          have x5 : wb.cell? ⟨wr.heap.size, 5, none⟩ = some (.int .i64 f.size) := hBb.out.cell 5
          have x6 : wb.cell? ⟨wr.heap.size, 6, none⟩ = some (.int .i64 f.x6) := hBb.out.cell 6
          have hpl := hide (fun (he : evN f found q = true) => any_hit (hhit.out f (numB (heldI 1) ++ numB (heldI (i : Int))) hokF he) hpa.symm)
          replace hokF := hide hokF
          replace hpa := hide hpa
          go_wp2_with fail
          refine hNh.out.mono ?_
          rintro e wc ⟨rfl, hbx⟩
          have hBc := hide (hBb.out.below hbx hBb.out.lt)
          have hbc := hide (hbb.out.trans (hbx.mono hbb.out.size))
          clear x0 x1 x2 x3 x4 x5 x6 y1 hNh hBb hbb hbx hrb
          obtain ⟨ev, hev⟩ : ∃ b, b = evN f found q := ⟨_, rfl⟩
          rw [← hev] at hpl ⊢
          replace hev := hide hev
          cases ev with
          | false =>
            clear hpl
            go_wp2_with fail
            go_roundw
            case rel => exact ⟨i + 1, by go_num, by omega, hbc.out⟩
            case measure => simp [intOf]; omega
          | true =>
            have hany := hide (hpl.out rfl)
            have hXc := hX.out.below hbc.out hgl
            have y0 : wc.cell? ⟨w3.heap.size, 0, none⟩ = some (.slice A3 n3 k3) := hXc.cell 0
            have hszc := hbc.out.size
            clear hpl hev hXc
            obtain ⟨R, hR⟩ : ∃ R, R = numB (heldI 1) ++ numB (heldI (i : Int)) := ⟨_, rfl⟩
            rw [← hR] at hany
            replace hR := hide hR
            go_wp2_with fail
            obtain ⟨wo, rfl⟩ : ∃ y : World, y = wr := ⟨_, rfl⟩
            go_loopw [11, 60] (fun v11 v60 wr => ∃ j : Nat, v60 = .int .i64 j ∧ j ≤ n3 ∧ v11 = .bool ((p.spans.take j).any (hitF f R)) ∧ Below wc.heap.size wc wr) (fun _ v60 _ => n3 - (intOf v60).toNat)
            case atStart => exact ⟨0, rfl, by omega, rfl, Below.refl _ _⟩
            case round =>
              clear y0
              obtain ⟨j, rfl, hj, rfl, hbi⟩ := hrel
              have hszi := hbi.size
              by_cases hjn : j < n3
              · have hjI : (j : Int) < (n3 : Int) := by omega
                have hjl : j < p.spans.length := by rw [← hS31.out]; exact hjn
                have hb4i := hbc.out.trans (hbi.mono hszc)
                have hnx := hide (any_next (hitF f R) p.spans j hjl)
                obtain ⟨d3, fA, fn, fc, tA, tn, tc, rfl, hdb, c0, c1', c2', hRf, hRt⟩ := (hS3.out.below hb4i).elem hjn hjl
                have hsp := hide (hsh.out _ (List.getElem_mem hjl))
                obtain ⟨fb1, fb2⟩ := hsp.out
                have hfn : fn ≤ 1000 := by rw [← hRf.1.len]; exact fb1
                have htn : tn ≤ 1000 := by rw [← hRt.1.len]; exact fb2
                have htl := hRt.1.len
                clear fb1 fb2 hsp
                generalize p.spans[j] = sp at *
                generalize (p.spans.take j).any (hitF f R) = is0 at *
                have hY := Blk.new wr 34 #[.int .i64 sp.by_, .slice fA fn fc, .slice tA tn tc]
                have hbY := (Below.refl wr.heap.size wr).alloc (Nat.le_refl _) (.cells #[.int .i64 sp.by_, .slice fA fn fc, .slice tA tn tc] 34)
                go_upto_region 17 with (fail)
                obtain ⟨wj, hwj⟩ : ∃ y, y = wr.alloc (.cells #[.int .i64 sp.by_, .slice fA fn fc, .slice tA tn tc] 34) := ⟨_, rfl⟩
                rw [← hwj] at hY hbY ⊢
                have hcj := hbi.trans (hbY.mono hszi)
                have hBj := hBc.out.below hcj hBc.out.lt
                have x0 : wj.cell? ⟨wo.heap.size, 0, none⟩ = some (.string (str f.name)) := hBj.cell 0
                have x1 : wj.cell? ⟨wo.heap.size, 1, none⟩ = some (.int .i64 f.method) := hBj.cell 1
                have x2 : wj.cell? ⟨wo.heap.size, 2, none⟩ = some (.int .i64 f.dos) := hBj.cell 2
                have x3 : wj.cell? ⟨wo.heap.size, 3, none⟩ = some (.int .u32 f.crc) := hBj.cell 3
                have x4 : wj.cell? ⟨wo.heap.size, 4, none⟩ = some (.int .i64 f.x4) := hBj.cell 4
                have x5 : wj.cell? ⟨wo.heap.size, 5, none⟩ = some (.int .i64 f.size) := hBj.cell 5
                have x6 : wj.cell? ⟨wo.heap.size, 6, none⟩ = some (.int .i64 f.x6) := hBj.cell 6
                have z0 : wj.cell? ⟨wr.heap.size, 0, none⟩ = some (.int .i64 sp.by_) := hY.cell 0
                have hK := rkey_any wj sp.by_ f 1 (i : Int) (by omega) hcr
                rw [← hR.out] at hK
                unfold fileV at hK
                replace hK := hide hK
                have hkl := key_len f 1 (i : Int) sp.by_ hl40
                rw [← hR.out] at hkl
                replace hRf := hRf.below hbY
                replace hRt := hRt.below hbY
                replace hY := hide hY
                replace hcj := hide hcj
                replace hRf := hide hRf
                replace hRt := hide hRt
                clear hwj c0 c1' c2' hBj hbY hbi hb4i hdb
                go_wp2_with fail
                refine hK.out.mono ?_
                rintro e wk ⟨vk, rfl, hok2, hbk⟩
                obtain ⟨Ak, ck, rfl, hRk, -, -, -⟩ := hok2.form
                obtain ⟨key, hkey⟩ : ∃ l, l = keyF f R sp.by_ := ⟨_, rfl⟩
                rw [← hkey] at hRk hkl ⊢
                obtain ⟨kn, hkn⟩ : ∃ n, n = key.length := ⟨_, rfl⟩
                rw [← hkn] at hRk hkl ⊢
                have hYk := hY.out.below hbk hY.out.lt
                have hck := hide (hcj.out.trans (hbk.mono hcj.out.size))
                replace hRf := hRf.out.below hbk
                replace hRt := hRt.out.below hbk
                have z1 : wk.cell? ⟨wr.heap.size, 1, none⟩ = some (.slice fA fn fc) := hYk.cell 1
                have z2 : wk.cell? ⟨wr.heap.size, 2, none⟩ = some (.slice tA tn tc) := hYk.cell 2
                have hzi := hYk.lt
                have hLs1 := hide (less_any Ak fA kn fn ck fc _ _ wk hRk hRf.1 (by omega) hfn)
                have hLs2 := hide (fun (wx : World) (hb : Below wk.heap.size wk wx) => less_any Ak tA kn tn ck tc _ _ wx ((hRk.below hb).more hb.size) (hRt.below hb).1 (by omega) htn)
                have hht : Hid (hitF f R sp = (!lessB key sp.from_ && (sp.to_.isEmpty || lessB key sp.to_))) := by
                  rw [Hid, hitF, inSpan, ← hkey]
                have hte : sp.to_.isEmpty = decide (tn = 0) := by
                  rw [← htl]
                  cases sp.to_ <;> simp
                rw [hte] at hht
                replace hkn := hide hkn
                replace hkey := hide hkey
                generalize lessB key sp.from_ = l1 at *
                generalize lessB key sp.to_ = l2 at *
                clear x0 x1 x2 x3 x4 x5 x6 z0 hK hok2 hbk hY hcj hRf hRt hRk hYk htl hte
                cases is0 with
                | true =>
                  have hnx2 : Hid (((p.spans.take (j + 1)).any (hitF f R)) = true) := by rw [Hid, hnx.out, Bool.true_or]
                  clear hLs1 hLs2 z1 z2
                  go_wp2_with fail
                  go_roundw
                  case rel => exact ⟨j + 1, by go_num, by omega, by rw [hnx2.out], hck.out⟩
                  case measure => simp [intOf]; omega
                | false =>
                  have hnx2 := hide (hnx.out.trans (Bool.false_or _))
                  clear hnx
                  go_wp2_with fail
                  refine hLs1.out.mono ?_
                  rintro e wl ⟨rfl, hql⟩
                  have hbl := hql.below wk.heap.size
                  have z2 : wl.cell? ⟨wr.heap.size, 2, none⟩ = some (.slice tA tn tc) := (hbl.cell (p := ⟨wr.heap.size, 2, none⟩) hzi).trans z2
                  have hcl := hide (hck.out.trans (hql.below wc.heap.size))
                  replace hLs2 := hide (hLs2.out wl hbl)
                  clear hLs1 z1 hql hbl hck
                  cases l1 with
                  | true =>
                    have hnx3 : Hid (((p.spans.take (j + 1)).any (hitF f R)) = false) := by rw [Hid, hnx2.out, hht.out]; rfl
                    clear hLs2 z2
                    go_wp2_with fail
                    go_roundw
                    case rel => exact ⟨j + 1, by go_num, by omega, by rw [hnx3.out], hcl.out⟩
                    case measure => simp [intOf]; omega
                  | false =>
                    by_cases ht0 : tn = 0
                    · have ht0' : ((tn : Int) == 0) = true := by rw [ht0]; rfl
                      have hnx3 : Hid (((p.spans.take (j + 1)).any (hitF f R)) = true) := by rw [Hid, hnx2.out, hht.out, decide_eq_true ht0]; rfl
                      clear hLs2 ht0
                      go_wp2_with fail
                      go_roundw
                      case rel => exact ⟨j + 1, by go_num, by omega, by rw [hnx3.out], hcl.out⟩
                      case measure => simp [intOf]; omega
                    · have ht0' : ((tn : Int) == 0) = false := by simpa using ht0
                      have hnx3 : Hid (((p.spans.take (j + 1)).any (hitF f R)) = l2) := by rw [Hid, hnx2.out, hht.out, decide_eq_false ht0]; simp
                      clear ht0
                      go_wp2_with fail
                      refine hLs2.out.mono ?_
                      rintro e wm ⟨rfl, hqm⟩
                      have hcm := hide (hcl.out.trans (hqm.below wc.heap.size))
                      clear hLs2 z2 hqm hcl
                      go_wp2_with fail
                      go_roundw
                      case rel => exact ⟨j + 1, by go_num, by omega, by rw [hnx3.out], hcm.out⟩
                      case measure => simp [intOf]; omega
              · have hjI : ¬ (j : Int) < (n3 : Int) := by omega
                have htk : (p.spans.take j).any (hitF f R) = true := by
                  rw [List.take_of_length_le (by rw [← hS31.out]; omega)]
                  exact hany.out
                rw [htk]
                have hbe := hide (hbc.out.trans (hbi.mono hszc))
                clear htk hbi
                go_wp2_with fail
                go_roundw
                case rel => exact ⟨i + 1, by go_num, by omega, hbe.out⟩
                case measure => simp [intOf]; omega
    · have h1' : ¬ (i : Int) < (n2 : Int) := by omega
      replace hbr := hide (hbw4.out.trans (hbr.mono hsz4))
      go_wp2_with fail
      go_ret
      exact ⟨rfl, hbr.out⟩
end Go.Proofs.YtnnjcedlomfhoaaGreatDoor
