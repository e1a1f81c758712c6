/-
  Contract of deflate.write: items by codes.
-/
import Derived.Test.YtbchaomnjbkdhaaGreatECodeC
import Derived.Test.YtbchaomnjbkdhaaGreatECodeB
import Derived.Test.YtbchaomnjbkdhaaGreatEPartW
namespace Go.Proofs.YtbchaomnjbkdhaaGreat
open Go.RowKit
set_option linter.unusedVariables false
theorem WA.drewN {w : World} {g : Nat} {bs : List Nat} (h : WA w g bs) (n : Nat) : WA (w.drewN n) g bs := h
theorem WA.far {w : World} {g : Nat} {bs : List Nat} (h : WA w g bs) (o : Obj) : WA (w.alloc o) g bs := by
  obtain ⟨v, h1, h2, h3⟩ := h
  exact ⟨v, h1.alloc o, World.ownsRow.alloc h2 o, h3⟩
theorem OE.keepT {α : Type} {enc : α → Value} {e : TypeId} {w w' : World} {base n : Nat} {v : Value} {l : List α} (h : OE enc e w base v n l) (hk : KeepT e w w') : OE enc e w' base v n l := by
  obtain ⟨h1, h2⟩ := h
  refine ⟨h1, ?_⟩
  rcases h2 with h2 | ⟨g, cap, cur, rfl, hg, hh, r⟩
  · exact Or.inl h2
  · exact Or.inr ⟨g, cap, cur, rfl, hg, hk g cur hh, r⟩
theorem CodeAt.keepX {w w' : World} {base g : Nat} {ls : List Nat} (h : CodeAt w base g ls) (hk : KeepX w w') : CodeAt w' base g ls := by
  obtain ⟨h0, V, vl, h1, h2, h3⟩ := h
  exact ⟨h0, V, vl, h1.keep (hk _ (by decide) (by decide)), ⟨fun n hn => OE.keepT (h2.1 n hn) (hk _ (by decide) (by decide)), h2.2⟩, OE.keepT h3 (hk _ (by decide) (by decide))⟩
theorem code_bits (ls : List Nat) (s : Nat) : hiB (ls.getD s 0) (codeV ls s) = encS ls s := by
  unfold encS codeV
  by_cases h : ls.getD s 0 = 0
  · rw [h]; rfl
  · rw [if_neg h]
theorem code_small (ls : List Nat) (hok : codeOk ls) (s : Nat) : ls.getD s 0 ≤ 15 ∧ codeV ls s < 32768 := by
  have h15 := getD_le ls 15 hok.1 s
  refine ⟨h15, ?_⟩
  unfold codeV
  by_cases h : ls.getD s 0 = 0
  · rw [if_pos h]; omega
  · rw [if_neg h]
    have hs : s < ls.length := by
      rcases Nat.lt_or_ge s ls.length with h1 | h1
      · exact h1
      · exact absurd (by rw [List.getD_eq_getElem?_getD, List.getElem?_eq_none h1]; rfl) h
    have h2 := rank_code ls hok s hs (by omega)
    have h3 : 2 ^ ls.getD s 0 ≤ 2 ^ 15 := Nat.pow_le_pow_right (by omega) h15
    have e15 : (2 : Nat) ^ 15 = 32768 := by decide
    omega
set_option maxRecDepth 100000 in
set_option maxHeartbeats 2000000 in
theorem put_any (w : World) (pw g cg base : Nat) (bs ls : List Nat) (p : Part) (hp : Blk w pw 38 #[.pointer (some ⟨g, 0, none⟩)]) (hW : WA w g bs) (hC : CodeAt w base cg ls) (hok : codeOk ls) (hn : ls.length ≤ 1000) (h1 : p.symbol ≤ 1000) (h2 : p.wide ≤ 24) (h3 : p.more < 65536) (hl : bs.length ≤ 80000000) :
    Calls Tryz.prog 59 #[.pointer (some ⟨cg, 0, none⟩), partV p, .pointer (some ⟨pw, 0, none⟩)] w (WrRet w g (bs ++ partB ls p)) := by
  obtain ⟨ps, pm, px⟩ := p
  dsimp only at h1 h2 h3
  have hsm := code_small ls hok ps
  have hgl := hW.lt
  have hpl := hp.lt
  have hres : Hid (bs ++ partB ls ⟨ps, pm, px⟩ = (bs ++ hiB (ls.getD ps 0) (codeV ls ps)) ++ loB pm px) := by
    rw [Hid, List.append_assoc, code_bits]; rfl
  obtain ⟨N, hN⟩ : ∃ N, N = ls.getD ps 0 := ⟨_, rfl⟩
  obtain ⟨X, hX⟩ : ∃ X, X = codeV ls ps := ⟨_, rfl⟩
  rw [← hN, ← hX] at hres hsm
  replace hN := hide hN
  replace hX := hide hX
  unfold partV
  dsimp only
  have hB1 := Blk.new w 79 #[.int .i64 (ps : Int), .int .i64 (pm : Int), .int .i64 (px : Int)]
  have hpA := hp.alloc (.cells #[.int .i64 (ps : Int), .int .i64 (pm : Int), .int .i64 (px : Int)] 79)
  have hWA := hW.far (.cells #[.int .i64 (ps : Int), .int .i64 (pm : Int), .int .i64 (px : Int)] 79)
  have hCA := hide (CodeAt.below hC ((Below.refl _ _).alloc (Nat.le_refl _) (.cells #[.int .i64 (ps : Int), .int .i64 (pm : Int), .int .i64 (px : Int)] 79)) (Nat.le_refl _))
  have hbA := hide ((Below.refl g w).alloc (Nat.le_of_lt hgl) (.cells #[.int .i64 (ps : Int), .int .i64 (pm : Int), .int .i64 (px : Int)] 79))
  have hkA := hide ((KeepX.refl w).alloc (.cells #[.int .i64 (ps : Int), .int .i64 (pm : Int), .int .i64 (px : Int)] 79))
  replace hok := hide hok
  replace hsm := hide hsm
  go_enter Tryz.func59, Tryz.ntmps59
  go_upto_region 1 with (fail)
  generalize w.alloc (.cells #[.int .i64 (ps : Int), .int .i64 (pm : Int), .int .i64 (px : Int)] 79) = wa at *
  obtain ⟨pb, hpb⟩ : ∃ pb, pb = w.heap.size := ⟨_, rfl⟩
  rw [← hpb] at hB1 ⊢
  replace hpb := hide hpb
  have cW : wa.cell? ⟨pw, 0, none⟩ = some (.pointer (some ⟨g, 0, none⟩)) := hpA.cell 0
  have c0 : wa.cell? ⟨pb, 0, none⟩ = some (.int .i64 (ps : Int)) := hB1.cell 0
  have c1 : wa.cell? ⟨pb, 1, none⟩ = some (.int .i64 (pm : Int)) := hB1.cell 1
  have c2 : wa.cell? ⟨pb, 2, none⟩ = some (.int .i64 (px : Int)) := hB1.cell 2
  replace hpA := hide hpA
  replace hWA := hide hWA
  replace hB1 := hide hB1
  clear hp hW hC
  have hcc : Hid (∀ k, Calls Tryz.prog 39 #[.pointer (some ⟨cg, 0, none⟩), .int .i64 (ps : Int)] (wa.drewN k) fun e w' => e = .returned (.tuple #[.int .i64 (N : Int), .int .i64 (X : Int)]) ∧ ∃ q, w' = (wa.drewN k).drewN q) := fun k => by
    have := codec_any (wa.drewN k) base cg ps ls (hCA.out.drewN k) hok.out hn h1
    unfold CodeRet at this
    rw [← hN.out, ← hX.out] at this
    exact this
  have hwc : Hid (∀ k, Calls Tryz.prog 38 #[.pointer (some ⟨g, 0, none⟩), .int .i64 (N : Int), .int .i64 (X : Int)] (wa.drewN k) (WrRet (wa.drewN k) g (bs ++ hiB N X))) := fun k => wcode_any (wa.drewN k) g bs _ _ _ _ rfl rfl (hWA.out.drewN k) (by have := hsm.out.1; omega) (by have := hsm.out.2; omega) (by omega)
  go_region_with (first | (go_at_call 39; refine (hcc.out 1).mono ?_; rintro e w2 ⟨rfl, k, rfl⟩; have cW' : ((wa.drewN 1).drewN k).cell? ⟨pw, 0, none⟩ = some (.pointer (some ⟨g, 0, none⟩)) := cW) | (go_at_call 38; refine (hwc.out _).mono ?_; rintro e w3 ⟨rfl, hW3, hb3, hk3⟩))
  all_goals
    have d0 : w3.cell? ⟨pw, 0, none⟩ = some (.pointer (some ⟨g, 0, none⟩)) := (hk3 _ (by decide) (by decide) _ _ hpA.out).cell 0
    have d1 : w3.cell? ⟨pb, 1, none⟩ = some (.int .i64 (pm : Int)) := (hk3 _ (by decide) (by decide) _ _ hB1.out).cell 1
    have d2 : w3.cell? ⟨pb, 2, none⟩ = some (.int .i64 (px : Int)) := (hk3 _ (by decide) (by decide) _ _ hB1.out).cell 2
    have hbl : (bs ++ hiB N X).length ≤ 90000000 := by
      rw [List.length_append, hiB_len]; have := hsm.out.1; omega
    have hb33 := hide ((below_drewN hbA.out _).trans hb3)
    have hk33 := hide ((hkA.out.drewN _).trans hk3)
    replace hW3 := hide hW3
    clear hb3 hk3
    go_wp2_with fail
    refine (wbits_any w3 g _ _ _ pm px rfl rfl hW3.out h2 (by omega) hbl).mono ?_
    rintro e w4 ⟨rfl, hW4, hb4, hk4⟩
    have hb44 := hide (hb33.out.trans hb4)
    have hk44 := hide (hk33.out.trans hk4)
    replace hW4 := hide hW4
    clear hb4 hk4
    go_wp2_with fail
    go_end0
    exact ⟨rfl, by rw [hres.out]; exact hW4.out, hb44.out, hk44.out⟩
theorem scale_small (n g first K : Nat) (hg : 0 < g) (h : (n - first) / 2 ^ K < 2 * g) (hn : n - first < 65536) : (scaleP n g first).symbol < K * g + 2 * g ∧ (scaleP n g first).wide ≤ K ∧ (scaleP n g first).more < 2 ^ K := by
  have h1 := scaleK_le (n - first) g K hg h 64 0 (Nat.zero_le _)
  have h3 := scaleK_end (n - first) g 64 0 (by
    have e : (2 : Nat) ^ (0 + 64) = 18446744073709551616 := by decide
    rw [e]
    have : 2 * 1 * 18446744073709551616 ≤ 2 * g * 18446744073709551616 := Nat.mul_le_mul_right _ (by omega)
    omega)
  unfold scaleP
  dsimp only
  refine ⟨?_, h1, ?_⟩
  · have := Nat.mul_le_mul_right g h1
    omega
  · have h4 : 2 ^ scaleK (n - first) g 64 0 ≤ 2 ^ K := Nat.pow_le_pow_right (by omega) h1
    have h5 := Nat.mod_lt (n - first) (Nat.two_pow_pos (scaleK (n - first) g 64 0))
    omega
theorem lit_small (x : Item) (hx : okI x) : (litP x).symbol ≤ 285 ∧ (litP x).wide ≤ 5 ∧ (litP x).more < 65536 := by
  unfold litP
  split
  · have := x.c.toNat_lt; dsimp only; omega
  · split
    · dsimp only; omega
    · rename_i h0 h1
      have hx2 : 3 ≤ x.long ∧ x.long ≤ 258 := by
        rcases hx with h | h
        · exact absurd h.1 h0
        · exact ⟨h.1, h.2.1⟩
      have h := scale_small x.long 4 3 5 (by omega) (by have e : (2 : Nat) ^ 5 = 32 := by decide
                                                        rw [e]; omega) (by omega)
      have e : (2 : Nat) ^ 5 = 32 := by decide
      dsimp only
      omega
theorem far_small (x : Item) (hx : okI x) : (farP x).symbol ≤ 29 ∧ (farP x).wide ≤ 13 ∧ (farP x).more < 65536 := by
  unfold farP
  split
  · dsimp only; omega
  · rename_i h0
    have hx2 : 1 ≤ x.far ∧ x.far ≤ 32768 := by
      rcases hx with h | h
      · exact absurd h.1 h0
      · exact ⟨h.2.2.1, h.2.2.2⟩
    have e : (2 : Nat) ^ 13 = 8192 := by decide
    have h := scale_small x.far 2 1 13 (by omega) (by rw [e]; omega) (by omega)
    omega
theorem KeepX.of_below {w w' : World} (h : Below w.heap.size w w') : KeepX w w' := fun t _ _ g cs hb => hb.below h hb.lt
theorem WA.below {w w' : World} {g : Nat} {bs : List Nat} (h : WA w g bs) (hb : Below w.heap.size w w') : WA w' g bs := by
  obtain ⟨v, h1, h2, h3⟩ := h
  refine ⟨v, h1.below hb h1.lt, ?_, h3⟩
  obtain ⟨k1, k2⟩ := h2
  refine ⟨k1, ?_⟩
  rcases k2 with k2 | ⟨g', cap, cur, hv, hg, hh, r⟩
  · exact Or.inl k2
  · have hlt : g' < w.heap.size := by
      rcases Nat.lt_or_ge g' w.heap.size with hlt | hge
      · exact hlt
      · rw [Array.getElem?_eq_none hge] at hh; cases hh
    exact Or.inr ⟨g', cap, cur, hv, hg, (hb.block g' hlt).trans hh, r⟩
/-- A row of items. -/
def ItemsAt (w : World) (A : Option Addr) (n : Nat) (l : List Item) : Prop :=
  l.length = n ∧ (0 < n → ∃ gi cur, A = some ⟨gi, 0, none⟩ ∧ Blk w gi 107 cur ∧ ∀ j x, l[j]? = some x → cur[j * 3]? = some (.int .u8 (x.c.toNat : Int)) ∧ cur[j * 3 + 1]? = some (.int .i64 (x.long : Int)) ∧ cur[j * 3 + 2]? = some (.int .i64 (x.far : Int)))
theorem ItemsAt.keep {w w' : World} {A : Option Addr} {n : Nat} {l : List Item} (h : ItemsAt w A n l) (hk : KeepT 107 w w') : ItemsAt w' A n l := by
  refine ⟨h.1, fun h0 => ?_⟩
  obtain ⟨gi, cur, e, hb, hc⟩ := h.2 h0
  exact ⟨gi, cur, e, hk _ _ hb, hc⟩
theorem ItemsAt.elem {w : World} {A : Option Addr} {n : Nat} {l : List Item} (h : ItemsAt w A n l) {j : Nat} (hj : j < n) (hl : j < l.length) : ∃ gi, A = some ⟨gi, 0, none⟩ ∧
    w.cell? ⟨gi, j * 3, none⟩ = some (.int .u8 (l[j].c.toNat : Int)) ∧ w.cell? ⟨gi, j * 3 + 1, none⟩ = some (.int .i64 (l[j].long : Int)) ∧ w.cell? ⟨gi, j * 3 + 2, none⟩ = some (.int .i64 (l[j].far : Int)) := by
  obtain ⟨gi, cur, e, hb, hc⟩ := h.2 (by omega)
  obtain ⟨h1, h2, h3⟩ := hc j _ (List.getElem?_eq_getElem hl)
  exact ⟨gi, e, by rw [hb.cell]; exact h1, by rw [hb.cell]; exact h2, by rw [hb.cell]; exact h3⟩
set_option maxRecDepth 100000 in
set_option maxHeartbeats 4000000 in
theorem write_any (w : World) (g lc dc base : Nat) (A : Option Addr) (n c : Nat) (bs lits dist : List Nat) (l : List Item) (hW : WA w g bs) (hI : ItemsAt w A n l) (hx : ∀ x ∈ l, okI x) (hL : CodeAt w base lc lits) (hLo : codeOk lits) (hLn : lits.length ≤ 1000) (hD : CodeAt w base dc dist) (hDo : codeOk dist) (hDn : dist.length ≤ 1000) (hn : n ≤ 1000000) (hl : bs.length ≤ 1000000) :
    Calls Tryz.prog 32 #[.pointer (some ⟨g, 0, none⟩), .slice A n c, .pointer (some ⟨lc, 0, none⟩), .pointer (some ⟨dc, 0, none⟩)] w (WrRet w g (bs ++ encL lits dist l)) := by
  have hgl := hW.lt
  have hlen := hide hI.1
  have hP := Blk.new w 38 #[.pointer (some ⟨g, 0, none⟩)]
  have hW1 := hide (hW.far (.cells #[.pointer (some ⟨g, 0, none⟩)] 38))
  have hk1 := (KeepX.refl w).alloc (.cells #[.pointer (some ⟨g, 0, none⟩)] 38)
  have hL1 := hide (hL.keepX hk1)
  have hD1 := hide (hD.keepX hk1)
  have hI1 := hide (hI.keep (hk1 _ (by decide) (by decide)))
  have hb1 := hide ((Below.refl g w).alloc (Nat.le_of_lt hgl) (.cells #[.pointer (some ⟨g, 0, none⟩)] 38))
  replace hk1 := hide hk1
  replace hx := hide hx
  replace hLo := hide hLo
  replace hDo := hide hDo
  clear hW hI hL hD
  go_enter Tryz.func32, Tryz.ntmps32
  go_wp2_with fail
  generalize w.alloc (.cells #[.pointer (some ⟨g, 0, none⟩)] 38) = wb at *
  obtain ⟨pw, hpw⟩ : ∃ pw, pw = w.heap.size := ⟨_, rfl⟩
  rw [← hpw] at hP ⊢
  replace hpw := hide hpw
  replace hP := hide hP
  go_loopw [16] (fun vi wr => ∃ i : Nat, vi = .int .i64 i ∧ i ≤ n ∧ Hid (WA wr g (bs ++ (l.take i).flatMap (encIt lits dist))) ∧ Hid (Below g w wr) ∧ Hid (KeepX wb wr) ∧ Hid ((bs ++ (l.take i).flatMap (encIt lits dist)).length ≤ bs.length + 60 * i)) (fun vi _ => n - (intOf vi).toNat)
  case atStart => exact ⟨0, rfl, Nat.zero_le _, by simpa using hW1, hb1, KeepX.refl _, by simp [Hid]⟩
  case round =>
    obtain ⟨i, rfl, hi, hW, hb, hk, hbl⟩ := hrel
    by_cases hlt : i < n
    · have hil : i < l.length := by have := hlen.out; omega
      obtain ⟨gi, rfl, c0, c1, c2⟩ := (hI1.out.keep (hk.out _ (by decide) (by decide))).elem hlt hil
      have hxi := hx.out _ (List.getElem_mem hil)
      have hnx : Hid (bs ++ (l.take (i + 1)).flatMap (encIt lits dist) = (bs ++ (l.take i).flatMap (encIt lits dist)) ++ encIt lits dist l[i]) := by
        rw [Hid, List.take_succ_eq_append_getElem hil, List.flatMap_append, List.append_assoc]; simp
      have hls := hide (lit_small _ hxi)
      have hfs := hide (far_small _ hxi)
      obtain ⟨x, hxe⟩ : ∃ x, x = l[i] := ⟨_, rfl⟩
      rw [← hxe] at c0 c1 c2 hxi hnx hls hfs
      replace hxe := hide hxe
      obtain ⟨bi, hbi⟩ : ∃ bi, bi = bs ++ (l.take i).flatMap (encIt lits dist) := ⟨_, rfl⟩
      rw [← hbi] at hW hbl hnx
      replace hbi := hide hbi
      have hparts0 : ∀ wz : World, Calls Tryz.prog 60 #[itemV x] wz (PartsRet wz x) := fun wz => parts_any wz x hxi
      replace hxi := hide hxi
      obtain ⟨xc, xl, xf⟩ := x
      dsimp only [itemV] at c0 c1 c2 hparts0
      obtain ⟨cn, hcn⟩ : ∃ cn, cn = xc.toNat := ⟨_, rfl⟩
      rw [← hcn] at c0 hparts0
      have hparts := hide hparts0
      clear hparts0
      replace hcn := hide hcn
      have hgw : g < wr.heap.size := hW.out.lt
      have hbx : Below wr.heap.size wr (wr.alloc (.cells #[.int .u8 (cn : Int), .int .i64 (xl : Int), .int .i64 (xf : Int)] 107)) := (Below.refl _ _).alloc (Nat.le_refl _) _
      have hWi := hide (hW.out.below hbx)
      have hki := hide (hk.out.trans (KeepX.of_below hbx))
      have hbi2 := hide (hb.out.trans (hbx.mono (Nat.le_of_lt hgw)))
      have hBi := Blk.new wr 107 #[.int .u8 (cn : Int), .int .i64 (xl : Int), .int .i64 (xf : Int)]
      clear hbx hgw
      go_upto_region 5 with (fail)
      generalize wr.alloc (.cells #[.int .u8 (cn : Int), .int .i64 (xl : Int), .int .i64 (xf : Int)] 107) = wi at *
      obtain ⟨ib, hib⟩ : ∃ ib, ib = wr.heap.size := ⟨_, rfl⟩
      rw [← hib] at hBi ⊢
      have e0 : wi.cell? ⟨ib, 0, none⟩ = some (.int .u8 (cn : Int)) := hBi.cell 0
      have e1 : wi.cell? ⟨ib, 1, none⟩ = some (.int .i64 (xl : Int)) := hBi.cell 1
      have e2 : wi.cell? ⟨ib, 2, none⟩ = some (.int .i64 (xf : Int)) := hBi.cell 2
      replace hBi := hide hBi
      clear hib c0 c1 c2 hW hb hk
      go_wp2_with fail
      refine (hparts.out wi).mono ?_
      rintro e w2 ⟨rfl, hb2⟩
      have hW2 := hWi.out.below hb2
      have hk2 := hki.out.trans (KeepX.of_below hb2)
      have hbb2 := hbi2.out.trans (hb2.mono (Nat.le_of_lt hWi.out.lt))
      have hBi2 := hBi.out.below hb2 hBi.out.lt
      obtain ⟨pa, hpa⟩ : ∃ pa, pa = litP ⟨xc, xl, xf⟩ := ⟨_, rfl⟩
      obtain ⟨pd, hpd⟩ : ∃ pd, pd = farP ⟨xc, xl, xf⟩ := ⟨_, rfl⟩
      have henc : Hid (encIt lits dist ⟨xc, xl, xf⟩ = partB lits pa ++ if xf = 0 then [] else partB dist pd) := by rw [Hid, encIt, hpa, hpd]
      rw [← hpa] at hls ⊢
      rw [← hpd] at hfs ⊢
      obtain ⟨as_, aw, am⟩ := pa
      obtain ⟨ds, dw, dm⟩ := pd
      clear hpa hpd hb2 hWi hki hbi2 hBi hparts e0 e1 e2
      unfold partV
      dsimp only
      have hA3 := Blk.new w2 79 #[.int .i64 (as_ : Int), .int .i64 (aw : Int), .int .i64 (am : Int)]
      have hA4 := hide (hA3.alloc (.cells #[.int .i64 (ds : Int), .int .i64 (dw : Int), .int .i64 (dm : Int)] 79))
      have hD4 := Blk.new (w2.alloc (.cells #[.int .i64 (as_ : Int), .int .i64 (aw : Int), .int .i64 (am : Int)] 79)) 79 #[.int .i64 (ds : Int), .int .i64 (dw : Int), .int .i64 (dm : Int)]
      have hb4 : Below w2.heap.size w2 ((w2.alloc (.cells #[.int .i64 (as_ : Int), .int .i64 (aw : Int), .int .i64 (am : Int)] 79)).alloc (.cells #[.int .i64 (ds : Int), .int .i64 (dw : Int), .int .i64 (dm : Int)] 79)) := ((Below.refl _ _).alloc (Nat.le_refl _) _).alloc (by simp) _
      have hW4 := hide (hW2.below hb4)
      have hk4 := hide (hk2.trans (KeepX.of_below hb4))
      have hbb4 := hide (hbb2.trans (hb4.mono (Nat.le_of_lt hW2.lt)))
      have hBi4 := hide (hBi2.below hb4 hBi2.lt)
      rw [show (w2.alloc (.cells #[.int .i64 (as_ : Int), .int .i64 (aw : Int), .int .i64 (am : Int)] 79)).heap.size = w2.heap.size + 1 from by simp] at hD4
      replace hD4 := hide hD4
      clear hA3 hb4 hW2 hk2 hbb2 hBi2
      go_upto_region 6 with (fail)
      generalize (w2.alloc (.cells #[.int .i64 (as_ : Int), .int .i64 (aw : Int), .int .i64 (am : Int)] 79)).alloc (.cells #[.int .i64 (ds : Int), .int .i64 (dw : Int), .int .i64 (dm : Int)] 79) = w4 at *
      obtain ⟨ab, hab⟩ : ∃ ab, ab = w2.heap.size := ⟨_, rfl⟩
      rw [← hab] at hA4 hD4 ⊢
      clear hab
      have a0 : w4.cell? ⟨ab, 0, none⟩ = some (.int .i64 (as_ : Int)) := hA4.out.cell 0
      have a1 : w4.cell? ⟨ab, 1, none⟩ = some (.int .i64 (aw : Int)) := hA4.out.cell 1
      have a2 : w4.cell? ⟨ab, 2, none⟩ = some (.int .i64 (am : Int)) := hA4.out.cell 2
      have hbl1 : bi.length ≤ bs.length + 60 * i := hbl.out
      have hput : Calls Tryz.prog 59 #[.pointer (some ⟨lc, 0, none⟩), .agg #[.int .i64 (as_ : Int), .int .i64 (aw : Int), .int .i64 (am : Int)], .pointer (some ⟨pw, 0, none⟩)] w4 (WrRet w4 g (bi ++ partB lits ⟨as_, aw, am⟩)) :=
        put_any w4 pw g lc base bi lits ⟨as_, aw, am⟩ (hk4.out _ (by decide) (by decide) _ _ hP.out) hW4.out (hL1.out.keepX hk4.out) hLo.out hLn (by have := hls.out.1; dsimp only at this ⊢; omega) (by have := hls.out.2.1; dsimp only at this ⊢; omega) (by have := hls.out.2.2; dsimp only at this ⊢; omega) (by omega)
      have hpl1 : (partB lits ⟨as_, aw, am⟩).length ≤ 20 := by
        rw [partB_len]
        have h1 := getD_le lits 15 hLo.out.1 as_
        have h2 := hls.out.2.1
        dsimp only at h2 ⊢
        omega
      have hpl2 : (partB dist ⟨ds, dw, dm⟩).length ≤ 28 := by
        rw [partB_len]
        have h1 := getD_le dist 15 hDo.out.1 ds
        have h2 := hfs.out.2.1
        dsimp only at h2 ⊢
        omega
      generalize hB1e : partB lits ⟨as_, aw, am⟩ = B1 at *
      generalize hB2e : partB dist ⟨ds, dw, dm⟩ = B2 at *
      replace hB1e := hide hB1e
      replace hB2e := hide hB2e
      clear hbl1
      go_wp2_with fail
      refine hput.mono ?_
      rintro e w5 ⟨rfl, hW5, hb5, hk5⟩
      have hk55 := hide (hk4.out.trans hk5)
      have hbb5 := hide (hbb4.out.trans hb5)
      have hBi5 := hk5 _ (by decide) (by decide) _ _ hBi4.out
      have hD5 := hk5 _ (by decide) (by decide) _ _ hD4.out
      have f2 : w5.cell? ⟨ib, 2, none⟩ = some (.int .i64 (xf : Int)) := hBi5.cell 2
      have g0 : w5.cell? ⟨ab + 1, 0, none⟩ = some (.int .i64 (ds : Int)) := hD5.cell 0
      have g1 : w5.cell? ⟨ab + 1, 1, none⟩ = some (.int .i64 (dw : Int)) := hD5.cell 1
      have g2 : w5.cell? ⟨ab + 1, 2, none⟩ = some (.int .i64 (dm : Int)) := hD5.cell 2
      replace hW5 := hide hW5
      clear hput hb5 hk5 hBi5 hD5 a0 a1 a2 hW4 hk4 hbb4 hA4 hBi4 hD4
      by_cases hf0 : xf = 0
      · subst hf0
        have hnx2 : Hid (bs ++ (l.take (i + 1)).flatMap (encIt lits dist) = bi ++ B1) := by
          rw [Hid, hnx.out, henc.out, if_pos rfl, List.append_nil]
        go_wp2_with fail
        go_roundw
        case rel => exact ⟨i + 1, by go_num, hlt, by rw [hnx2.out]; exact hW5, hbb5, hk55, by
          rw [hnx2.out, Hid, List.length_append]; have := hbl.out; omega⟩
        case measure => simp [intOf]; omega
      · have hf0' : (0 : Int) < (xf : Int) := by omega
        have hnx2 : Hid (bs ++ (l.take (i + 1)).flatMap (encIt lits dist) = (bi ++ B1) ++ B2) := by
          rw [Hid, hnx.out, henc.out, if_neg hf0, List.append_assoc]
        have hput2 : Calls Tryz.prog 59 #[.pointer (some ⟨dc, 0, none⟩), .agg #[.int .i64 (ds : Int), .int .i64 (dw : Int), .int .i64 (dm : Int)], .pointer (some ⟨pw, 0, none⟩)] w5 (WrRet w5 g ((bi ++ B1) ++ B2)) := by
          rw [← hB2e.out]
          exact put_any w5 pw g dc base (bi ++ B1) dist ⟨ds, dw, dm⟩ (hk55.out _ (by decide) (by decide) _ _ hP.out) hW5.out (hD1.out.keepX hk55.out) hDo.out hDn (by have := hfs.out.1; dsimp only at this ⊢; omega) (by have := hfs.out.2.1; dsimp only at this ⊢; omega) (by have := hfs.out.2.2; dsimp only at this ⊢; omega) (by rw [List.length_append]; have := hbl.out; omega)
        have hff : decide ((0 : Int) < (xf : Int)) = true := by simp; omega
        go_wp2_with fail
        refine hput2.mono ?_
        rintro e w6 ⟨rfl, hW6, hb6, hk6⟩
        have hk66 := hide (hk55.out.trans hk6)
        have hbb6 := hide (hbb5.out.trans hb6)
        replace hW6 := hide hW6
        clear hput2 hb6 hk6 hW5 hk55 hbb5
        go_wp2_with fail
        go_roundw
        case rel => exact ⟨i + 1, by go_num, hlt, by rw [hnx2.out]; exact hW6, hbb6, hk66, by
          rw [hnx2.out, Hid, List.length_append, List.length_append]; have := hbl.out; omega⟩
        case measure => simp [intOf]; omega
    · obtain rfl : i = n := by omega
      rw [List.take_of_length_le (by have := hlen.out; omega)] at hW hbl
      have hsm := hide (code_small lits hLo.out 256)
      have hres : Hid (bs ++ encL lits dist l = (bs ++ l.flatMap (encIt lits dist)) ++ hiB (lits.getD 256 0) (codeV lits 256)) := by
        rw [Hid, code_bits, List.append_assoc]; rfl
      obtain ⟨N, hN⟩ : ∃ N, N = lits.getD 256 0 := ⟨_, rfl⟩
      obtain ⟨X, hX⟩ : ∃ X, X = codeV lits 256 := ⟨_, rfl⟩
      rw [← hN, ← hX] at hres hsm
      replace hN := hide hN
      replace hX := hide hX
      obtain ⟨bf, hbf⟩ : ∃ bf, bf = bs ++ l.flatMap (encIt lits dist) := ⟨_, rfl⟩
      rw [← hbf] at hW hbl hres
      replace hbf := hide hbf
      have hbl1 : bf.length ≤ bs.length + 60 * i := hbl.out
      have cW : wr.cell? ⟨pw, 0, none⟩ = some (.pointer (some ⟨g, 0, none⟩)) := (hk.out _ (by decide) (by decide) _ _ hP.out).cell 0
      have hcc : Hid (∀ k, Calls Tryz.prog 39 #[.pointer (some ⟨lc, 0, none⟩), .int .i64 256] (wr.drewN k) fun e w' => e = .returned (.tuple #[.int .i64 (N : Int), .int .i64 (X : Int)]) ∧ ∃ q, w' = (wr.drewN k).drewN q) := fun k => by
        have := codec_any (wr.drewN k) base lc 256 lits ((hL1.out.keepX hk.out).drewN k) hLo.out hLn (by omega)
        unfold CodeRet at this
        rw [← hN.out, ← hX.out] at this
        exact this
      have hwc : Hid (∀ k, Calls Tryz.prog 38 #[.pointer (some ⟨g, 0, none⟩), .int .i64 (N : Int), .int .i64 (X : Int)] (wr.drewN k) (WrRet (wr.drewN k) g (bf ++ hiB N X))) := fun k => wcode_any (wr.drewN k) g bf _ _ _ _ rfl rfl (hW.out.drewN k) (by have := hsm.out.1; omega) (by have := hsm.out.2; omega) (by omega)
      clear hbl1
      go_upto_region 10 with (fail)
      go_region_with (first | (go_at_call 39; refine (hcc.out 1).mono ?_; rintro e w2 ⟨rfl, k, rfl⟩; have cW' : ((wr.drewN 1).drewN k).cell? ⟨pw, 0, none⟩ = some (.pointer (some ⟨g, 0, none⟩)) := cW) | (go_at_call 38; refine (hwc.out _).mono ?_; rintro e w3 ⟨rfl, hW3, hb3, hk3⟩))
      all_goals
        have hb33 := hide ((below_drewN hb.out _).trans hb3)
        have hk33 := hide (hk1.out.trans ((hk.out.drewN _).trans hk3))
        replace hW3 := hide hW3
        clear hb3 hk3
        go_wp2_with fail
        go_end0
        exact ⟨rfl, by rw [hres.out]; exact hW3.out, hb33.out, hk33.out⟩
end Go.Proofs.YtbchaomnjbkdhaaGreat
