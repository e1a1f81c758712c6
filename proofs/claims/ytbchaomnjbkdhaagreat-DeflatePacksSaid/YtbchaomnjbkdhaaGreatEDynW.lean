/-
  Contract of deflate.dynamic.
-/
import Derived.Test.YtbchaomnjbkdhaaGreatEFixW
import Derived.Test.YtbchaomnjbkdhaaGreatEQ
import Derived.Test.YtbchaomnjbkdhaaGreatEShortW
import Derived.Test.YtbchaomnjbkdhaaGreatEA
import Derived.Deep.WholeRow
import Derived.Great.BuildSlice
namespace Go.Proofs.YtbchaomnjbkdhaaGreat
open Go.RowKit
set_option linter.unusedVariables false
theorem ON.toRN {w : World} {base g n c : Nat} {l : List Nat} (h : ON w base (.slice (some ⟨g, 0, none⟩) n c) n l) : RN w w.heap.size (some ⟨g, 0, none⟩) n l := by
  obtain ⟨A', c', e', hR', _⟩ := OE.reads h
  cases e'
  exact hR'
theorem ON.empty (w : World) {base : Nat} (h : base ≤ w.heap.size) : ON (w.alloc (.cells #[] 3)) base (.slice (some ⟨w.heap.size, 0, none⟩) 0 0) 0 [] :=
  ⟨by simp, .inr ⟨w.heap.size, 0, #[], rfl, h, heap_alloc_new w _, Nat.le_refl _, Nat.zero_le _, rfl, by simp⟩⟩
section
variable {ops : Array Oper} {rest : List Oper} {o : Oper} {a : Act} {Q : Exit → Act → World → Prop}
/-- append(v, row...). -/
theorem wpList_app_row {w : World} (hgd : o.guard = none) (s y : Operand) (ho : o.op = .call { callee := .builtin .append, args := #[s, y], argTypes := #[49, 49] })
    (base : Nat) (v : Value) (n : Nat) (l : List Nat) (hown : ON w base v n l) (hs : a.eval s = v) (B : Nat) (A : Option Addr) (m c : Nat) (r : List Nat) (hy : a.eval y = .slice A m c) (hr : RN w B A m r) (hlen : n + m ≤ 10000000) (hbase : base ≤ w.heap.size)
    (h : ∀ v' w', ON w' base v' (n + m) (l ++ r) → Below base w w' → w.grownBy w' v.ownBlock → wpList Tryz.prog ops Q rest (a.put o.dst v') w') :
    wpList Tryz.prog ops Q (o :: rest) a w := by
  obtain ⟨i0, hi0, hz0, hz1, hz2⟩ := info_parts int_info
  refine wpList_append_any w hgd s y _ ho base 3 i0 _ 1 8 Tryz.underlying49 hi0 hz0 hz1 hz2 rfl (by omega) v n (l.map encI) hs hown B A m c (r.map encI) hy hr (by intro u hu; obtain ⟨x, _, rfl⟩ := List.mem_map.1 hu; rfl)
    (by simp only [maxLen]; omega) (by omega) hbase fun v' w' h1 h2 h3 => ?_
  have e : l.map encI ++ r.map encI = (l ++ r).map encI := by simp
  rw [e] at h1
  exact h v' w' h1 ((Below.refl _ _).grown h2 hbase fun k hk => (OE.lt hown k hk).1) h2
end
theorem lits_code_ok (l : List Item) (hn : l.length ≤ 1000000) : codeOk (litsL l) ∧ ∀ x ∈ litsL l, x ≤ 15 := by
  have h := lits_ok l hn
  have hl : 257 ≤ (lengthsL (countA l) 15).length := by rw [h.1.len, countA_len]; omega
  have hm := (mayBe_cut (mayBe_of h.1 h.2) 257 hl).ok
  exact ⟨hm, hm.1⟩
theorem dist_code_ok (l : List Item) (hn : l.length ≤ 1000000) : codeOk (distL l) ∧ ∀ x ∈ distL l, x ≤ 15 := by
  have h := dist_ok l hn
  have hl : 1 ≤ (lengthsL (countD l) 15).length := by rw [h.1.len, countD_len]; omega
  have hm := (mayBe_cut (mayBe_of h.1 h.2) 1 hl).ok
  exact ⟨hm, hm.1⟩
theorem codes_code_ok (r : List Part) (hn : r.length ≤ 1000000) : codeOk (lengthsL (oftenL r) 7) ∧ (lengthsL (oftenL r) 7).length = 19 := by
  have h := codes_ok r hn
  exact ⟨(mayBe_of h.1 (fun n hn => by have := h.2 n hn; omega)).ok, by rw [h.1.len, oftenL_len]⟩
/-- Small runs. -/
theorem short_more : ∀ (f : Nat) (l : List Nat), ∀ p ∈ shortF f l, p.wide ≤ 7 ∧ p.more < 128
  | 0, l, p, h => by cases h
  | f + 1, [], p, h => by cases h
  | f + 1, a :: r, p, h => by
    have hd : ∀ k, ∀ p ∈ shortF f ((a :: r).drop k), p.wide ≤ 7 ∧ p.more < 128 := fun k => short_more f _
    have hr138 := (headRun_cons a r).2.1
    rw [shortF] at h
    split at h
    · rcases List.mem_cons.1 h with rfl | h
      · dsimp only; omega
      · exact hd _ p h
    · split at h
      · rcases List.mem_cons.1 h with rfl | h
        · dsimp only; omega
        · exact hd _ p h
      · split at h
        · rcases List.mem_cons.1 h with rfl | h
          · dsimp only; omega
          · rcases List.mem_cons.1 h with rfl | h
            · dsimp only; omega
            · exact hd _ p h
        · rcases List.mem_cons.1 h with rfl | h
          · dsimp only; omega
          · exact hd 1 p (by rw [List.drop_succ_cons, List.drop_zero]; exact h)
theorem runs_small (f : Nat) (l : List Nat) (h : ∀ x ∈ l, x ≤ 15) : ∀ p ∈ shortF f l, p.symbol ≤ 18 ∧ p.wide ≤ 7 ∧ p.more < 128 := by
  intro p hp
  have h1 := short_more f l p hp
  rcases short_syms f l p hp with h2 | h2 | h2 | h2
  · have := h _ h2; omega
  · omega
  · omega
  · omega
/-- The cells of often. -/
def oftC (r : List Part) : Array Value := ((oftenL r).map encI).toArray
theorem oftC_nil : oftC [] = #[.int .i64 0, .int .i64 0, .int .i64 0, .int .i64 0, .int .i64 0, .int .i64 0, .int .i64 0, .int .i64 0, .int .i64 0, .int .i64 0, .int .i64 0, .int .i64 0, .int .i64 0, .int .i64 0, .int .i64 0, .int .i64 0, .int .i64 0, .int .i64 0, .int .i64 0] := rfl
theorem oftC_size (r : List Part) : (oftC r).size = 19 := by simp [oftC, oftenL_len]
theorem oftC_at (r : List Part) (s : Nat) (hs : s < 19) : (oftC r)[s]? = some (.int .i64 ((oftenL r).getD s 0 : Int)) := by
  unfold oftC
  rw [List.getElem?_toArray, List.getElem?_map, List.getD_eq_getElem?_getD, List.getElem?_eq_getElem (by rw [oftenL_len]; exact hs)]; rfl
theorem oftC_snoc (r : List Part) (p : Part) (hp : p.symbol < 19) : oftC (r ++ [p]) = (oftC r).setIfInBounds p.symbol (.int .i64 (((oftenL r).getD p.symbol 0 + 1 : Nat) : Int)) := by
  refine Array.ext_getElem? fun s => ?_
  by_cases hs : s < 19
  · rw [Array.getElem?_setIfInBounds, oftC_at _ s hs, oftC_at r s hs, oftenL_at _ s hs, oftenL_at r s hs, List.countP_append, List.countP_singleton]
    by_cases h : p.symbol = s
    · rw [if_pos (show (p.symbol == s) = true by simpa using h), if_pos h, if_pos (by rw [oftC_size]; exact hp), h, oftenL_at r s hs]
    · rw [if_neg (show ¬ (p.symbol == s) = true by simpa using h), if_neg h, Nat.add_zero]
  · rw [Array.getElem?_eq_none (by rw [oftC_size]; omega), Array.getElem?_eq_none (by rw [Array.size_setIfInBounds, oftC_size]; omega)]
def ordC : Array Value := (orderL.map encI).toArray
theorem wpList_ordC {ops : Array Oper} {rest : List Oper} {o : Oper} {a : Act} {w : World} {Q : Exit → Act → World → Prop} (hg : o.guard = none) (ho : o.op = .build 77 #[(0, .const (.int .i64 16)), (1, .const (.int .i64 17)), (2, .const (.int .i64 18)), (3, .const (.int .i64 0)), (4, .const (.int .i64 8)), (5, .const (.int .i64 7)), (6, .const (.int .i64 9)), (7, .const (.int .i64 6)), (8, .const (.int .i64 10)), (9, .const (.int .i64 5)), (10, .const (.int .i64 11)), (11, .const (.int .i64 4)), (12, .const (.int .i64 12)), (13, .const (.int .i64 3)), (14, .const (.int .i64 13)), (15, .const (.int .i64 2)), (16, .const (.int .i64 14)), (17, .const (.int .i64 1)), (18, .const (.int .i64 15))]) (d : Option Tmp) (hd : o.dst = d) (OC : Array Value) (hOC : OC = ordC)
    (h : wpList Tryz.prog ops Q rest (a.put d (.agg OC)) w) : wpList Tryz.prog ops Q (o :: rest) a w := by
  subst hOC
  exact wpList_buildFlatArrTo hg 77 3 19 _ ho .i64 [16, 17, 18, 0, 8, 7, 9, 6, 10, 5, 11, 4, 12, 3, 13, 2, 14, 1, 15] d hd (by kernel_rfl) (by kernel_rfl) (by kernel_rfl) rfl h
theorem ord_one : ordC.all (·.oneCell') = true := by kernel_rfl
theorem ordC_at (j : Nat) (hj : j < 19) : ordC[j]? = some (.int .i64 (orderL.getD j 0 : Int)) := by
  unfold ordC
  rw [List.getElem?_toArray, List.getElem?_map, List.getD_eq_getElem?_getD, List.getElem?_eq_getElem (show j < orderL.length from hj)]; rfl
theorem ord_lt (j : Nat) : orderL.getD j 0 < 19 := by
  by_cases hj : j < orderL.length
  · rw [List.getD_eq_getElem?_getD, List.getElem?_eq_getElem hj]; exact order_lt _ (List.getElem_mem hj)
  · rw [List.getD_eq_getElem?_getD, List.getElem?_eq_none (by omega)]; decide
/-- What stands while the bits are written. -/
structure DynS (w wx : World) (g : Nat) (bs : List Nat) (A1 A7 : Option Addr) (L : List Item) (M : Nat) (R : List Part) (lc dc kc gr gc cc : Nat) (CL : List Nat) : Prop where
  wr : WA wx g bs
  bel : Below g w wx
  kx : KeepX w wx
  it : ItemsAt wx A1 L.length L
  pt : PartsAt wx A7 M R
  lt : CodeAt wx 0 lc (litsL L)
  dt : CodeAt wx 0 dc (distL L)
  ct : CodeAt wx 0 kc CL
  od : Blk wx gr 77 ordC
  cl : ON wx 0 (.slice (some ⟨gc, 0, none⟩) 19 cc) 19 CL
section
variable {w wx w' : World} {g : Nat} {bs bs' : List Nat} {A1 A7 : Option Addr} {L : List Item} {M : Nat} {R : List Part} {lc dc kc gr gc cc : Nat} {CL : List Nat}
theorem DynS.step {e : Ending} (h : DynS w wx g bs A1 A7 L M R lc dc kc gr gc cc CL) (hr : WrRet wx g bs' e w') : DynS w w' g bs' A1 A7 L M R lc dc kc gr gc cc CL := by
  obtain ⟨_, h1, h2, h3⟩ := hr
  exact ⟨h1, h.bel.trans h2, h.kx.trans h3, h.it.keep (h3 _ (by decide) (by decide)), h.pt.keep (h3 _ (by decide) (by decide)), h.lt.keepX h3, h.dt.keepX h3, h.ct.keepX h3, h3 _ (by decide) (by decide) _ _ h.od, OE.keepT h.cl (h3 _ (by decide) (by decide))⟩
theorem DynS.alloc (h : DynS w wx g bs A1 A7 L M R lc dc kc gr gc cc CL) (o : Obj) : DynS w (wx.alloc o) g bs A1 A7 L M R lc dc kc gr gc cc CL :=
  h.step (e := .returned (.tuple #[])) ⟨rfl, h.wr.far o, (Below.refl _ _).alloc (Nat.le_of_lt h.wr.lt) _, (KeepX.refl _).alloc _⟩
theorem DynS.drewN (h : DynS w wx g bs A1 A7 L M R lc dc kc gr gc cc CL) (q : Nat) : DynS w (wx.drewN q) g bs A1 A7 L M R lc dc kc gr gc cc CL :=
  h.step (e := .returned (.tuple #[])) ⟨rfl, h.wr.drewN q, below_drewN (Below.refl _ _) q, (KeepX.refl _).drewN q⟩
end
theorem come_286 (l : List Nat) (n L : Nat) (hl : l.length = n) (h : n ≤ 2 ^ L) : (comeF l 0).length ≤ 2 ^ L := by
  have := come_le l n (fun s hs => by have := pos_lt hs; omega)
  omega
theorem getD_small (l : List Nat) (m : Nat) (h : ∀ x ∈ l, x ≤ m) (hm : m ≤ 1073741824) : ∀ k, l.getD k 0 ≤ 1073741824 := fun k => by have := getD_le l m h k; omega
set_option maxRecDepth 100000 in
set_option maxHeartbeats 16000000 in
theorem dynamic_any (w : World) (g : Nat) (A : Option Addr) (n c : Nat) (b : List UInt8) (hW : WA w g []) (hb : RB w g A n b) (hn : n ≤ 100000) (hnc : n ≤ c) :
    Calls Tryz.prog 14 #[.pointer (some ⟨g, 0, none⟩), .slice A n c] w (WrRet w g (dynB b)) := by
  have hgl := hW.lt
  have hil : (itemsL b).length ≤ 100000 := by
    have := items_len b
    have := hb.len
    omega
  have hix := hide (items_ok b b.length 0)
  have hit := items_any w A n c b (hb.more (Nat.le_of_lt hgl)) (by omega) hnc
  have hfin : Hid (dynB b = loB 1 1 ++ loB 2 2 ++ headB (itemsL b) ++ encL (litsL (itemsL b)) (distL (itemsL b)) (itemsL b)) := rfl
  have hix2 : Hid (∀ x ∈ itemsL b, okI x) := hix.out
  obtain ⟨L, hL⟩ : ∃ L, L = itemsL b := ⟨_, rfl⟩
  rw [← hL] at hil hit hfin hix2
  clear hix hL
  have hlo := lits_code_ok L (by omega)
  have hdo := dist_code_ok L (by omega)
  have hll := litsL_len L (by omega)
  have hdl := distL_len L (by omega)
  have hAl := (lits_ok L (by omega)).1.len
  have hDl := (dist_ok L (by omega)).1.len
  rw [countA_len] at hAl
  rw [countD_len] at hDl
  have hcA := hide (getD_small (countA L) 1000000 (fun x hx => by have := countA_le L x hx; omega) (by omega))
  have hcD := hide (getD_small (countD L) 1000000 (fun x hx => by have := countD_le L x hx; omega) (by omega))
  have h15 : (2 : Nat) ^ 15 = 32768 := by decide
  have hmA := hide (come_286 (countA L) 286 15 (countA_len L) (by omega))
  have hmD := hide (come_286 (countD L) 30 15 (countD_len L) (by omega))
  have hlits : Hid (litsL L = cutL 257 (lengthsL (countA L) 15).length (lengthsL (countA L) 15)) := rfl
  have hdist : Hid (distL L = cutL 1 (lengthsL (countD L) 15).length (lengthsL (countD L) 15)) := rfl
  replace hlo := hide hlo
  replace hdo := hide hdo
  replace hAl := hide hAl
  replace hDl := hide hDl
  replace hW := hide hW
  replace hb := hide hb
  obtain ⟨hll1, hll2⟩ := hll
  obtain ⟨hdl1, hdl2⟩ := hdl
  clear h15
  go_enter Tryz.func14, Tryz.ntmps14
  go_wp2_with fail
  refine hit.mono ?_
  rintro e w1 ⟨A1, c1, rfl, hI1, hb1⟩
  clear hit
  have hcnt := count_any w1 A1 L.length c1 L hI1 hix2.out (by omega)
  replace hI1 := hide hI1
  replace hb1 := hide hb1
  go_wp2_with fail
  refine hcnt.mono ?_
  rintro e w2 ⟨g1, g2, rfl, hO1, hO2, hb2⟩
  clear hcnt
  have hlen1 := lengths_any w2 g1 0 286 286 15 (countA L) (ON.toRN hO1) (by omega) (by omega) hcA.out (by omega) (by omega) hmA.out
  have hI2 := hide (hI1.out.keep (KeepX.of_below hb2 _ (by decide) (by decide)))
  have hb02 := hide (hb1.out.trans (hb2.mono hb1.out.size))
  replace hO2 := hide hO2
  clear hO1 hb2 hI1 hb1
  go_wp2_with fail
  refine hlen1.mono ?_
  rintro e w3 ⟨g3, c3, rfl, hO3, hb3⟩
  clear hlen1
  have hcut1 := cut_any w3 w2.heap.size g3 286 c3 257 257 rfl _ hO3 (by omega) (by omega) (by omega)
  rw [← hlits.out] at hcut1
  have hI3 := hide (hI2.out.keep (KeepX.of_below hb3 _ (by decide) (by decide)))
  have hb03 := hide (hb02.out.trans (hb3.mono hb02.out.size))
  have hO23 := hide (OE.below hO2.out hb3 (Nat.le_refl _))
  clear hO3 hb3 hI2 hb02 hO2
  go_wp2_with fail
  refine hcut1.mono ?_
  rintro e w3' ⟨rfl, hO3, rfl⟩
  clear hcut1
  have hlen2 := lengths_any w3' g2 0 30 30 15 (countD L) (ON.toRN hO23.out) (by omega) (by omega) hcD.out (by omega) (by omega) hmD.out
  replace hO3 := hide (OE.more hO3 (Nat.zero_le _))
  clear hO23
  go_wp2_with fail
  refine hlen2.mono ?_
  rintro e w4 ⟨g4, c4, rfl, hO4, hb4⟩
  clear hlen2
  have hcut2 := cut_any w4 w3'.heap.size g4 30 c4 1 1 rfl _ hO4 (by omega) (by omega) (by omega)
  rw [← hdist.out] at hcut2
  have hI4 := hide (hI3.out.keep (KeepX.of_below hb4 _ (by decide) (by decide)))
  have hb04 := hide (hb03.out.trans (hb4.mono hb03.out.size))
  have hO34 := hide (OE.below hO3.out hb4 (Nat.le_refl _))
  clear hO4 hb4 hI3 hb03 hO3
  go_wp2_with fail
  refine hcut2.mono ?_
  rintro e w4' ⟨rfl, hO4, rfl⟩
  clear hcut2
  have hO4' := hide (OE.more hO4 (Nat.zero_le _))
  clear hO4
  obtain ⟨N1, hN1⟩ : ∃ N1, N1 = (litsL L).length := ⟨_, rfl⟩
  obtain ⟨N2, hN2⟩ : ∃ N2, N2 = (distL L).length := ⟨_, rfl⟩
  rw [← hN1] at hO34 hll1 hll2 ⊢
  rw [← hN2] at hO4' hdl1 hdl2 ⊢
  replace hN1 := hide hN1
  replace hN2 := hide hN2
  have hnew1 := new_any w4' g3 0 N1 c3 (litsL L) (ON.toRN hO34.out) (by omega) (by omega) hlo.out.1
  go_wp2_with fail
  refine hnew1.mono ?_
  rintro e w5 ⟨lc, rfl, hC5, hb5⟩
  clear hnew1
  have hI5 := hide (hI4.out.keep (KeepX.of_below hb5 _ (by decide) (by decide)))
  have hb05 := hide (hb04.out.trans (hb5.mono hb04.out.size))
  have hO35 := hide (OE.below hO34.out hb5 (Nat.le_refl _))
  have hO45 := hide (OE.below hO4'.out hb5 (Nat.le_refl _))
  have hL5 := hide (hC5.more (Nat.zero_le _))
  clear hC5 hb5 hI4 hb04 hO34 hO4'
  have hnew2 := new_any w5 g4 0 N2 c4 (distL L) (ON.toRN hO45.out) (by omega) (by omega) hdo.out.1
  go_wp2_with fail
  refine hnew2.mono ?_
  rintro e w6 ⟨dc, rfl, hC6, hb6⟩
  clear hnew2
  have hI6 := hide (hI5.out.keep (KeepX.of_below hb6 _ (by decide) (by decide)))
  have hb06 := hide (hb05.out.trans (hb6.mono hb05.out.size))
  have hO36 := hide (OE.below hO35.out hb6 (Nat.le_refl _))
  have hO46 := hide (OE.below hO45.out hb6 (Nat.le_refl _))
  have hL6 := hide (CodeAt.below hL5.out hb6 (Nat.le_refl _))
  have hD6 := hide (hC6.more (Nat.zero_le _))
  clear hC6 hb6 hI5 hb05 hO35 hO45 hL5
  have hv : Hid (∀ k, (litsL L ++ distL L).getD k 0 ≤ 1000) := getD_le _ 1000 (fun x hx => by
    rcases List.mem_append.1 hx with h | h
    · have := hlo.out.2 x h; omega
    · have := hdo.out.2 x h; omega)
  have hbR : (w6.alloc (.cells #[] 3)).heap.size = w6.heap.size + 1 := by simp
  have hR3 := hide (RN.alloc (ON.toRN hO36.out) (Nat.le_refl _) (.cells #[] 3))
  have hR4 := hide (RN.alloc (ON.toRN hO46.out) (Nat.le_refl _) (.cells #[] 3))
  have hbE := hide ((Below.refl w6.heap.size w6).alloc (Nat.le_refl _) (.cells #[] 3))
  obtain ⟨R, hR⟩ : ∃ R, R = runsL L := ⟨_, rfl⟩
  replace hR := hide hR
  go_upto_region 5 with (fail)
  go_cut [13] (fun v13 wx => ∃ A5 c5, v13 = .slice A5 R.length c5 ∧ PartsAt wx A5 R.length R ∧ Below w6.heap.size w6 wx)
  case first =>
    go_wp2_with (first
      | (at_builtin; refine wpList_app_row rfl (.tmp 49) (.tmp 50) rfl w6.heap.size _ 0 [] (ON.empty w6 (Nat.le_refl _)) rfl w6.heap.size _ N1 c3 (litsL L) rfl hR3.out (by omega) (by omega) ?_; intro v1 w7 ho1 hb1 _; replace ho1 := hide ho1; have hbE1 := hide (hbE.out.trans hb1); clear hb1)
      | (at_builtin; refine wpList_app_row rfl (.tmp 51) (.tmp 52) rfl w6.heap.size v1 _ _ ho1.out rfl w6.heap.size _ N2 c4 (distL L) rfl (RN.below (ON.toRN hO46.out) hbE1.out) (by omega) (hbE1.out.size) ?_; intro v2 w8 ho2 hb2 _; replace ho2 := hide ho2; have hbE2 := hide (hbE1.out.trans hb2); clear hb2)
      | fail)
    obtain ⟨A5, c5, rfl, hR5, _⟩ := ON.rn ho2.out
    have hsh := shorter_any w8 A5 _ c5 _ hR5 (by omega) hv.out
    rw [show shortL ([] ++ litsL L ++ distL L) = R from hR.out.symm] at hsh
    replace hsh := hide hsh
    clear hR5 ho1 ho2
    go_wp2_with fail
    refine hsh.out.mono ?_
    rintro e w9 ⟨A6, c6, rfl, hP6, hb6⟩
    have hb66 := hide (hbE2.out.trans (hb6.mono hbE2.out.size))
    replace hP6 := hide hP6
    clear hb6
    go_wp2_with fail
    go_meet
    case rel => exact ⟨A6, c6, rfl, hP6.out, hb66.out⟩
  case rest =>
    obtain ⟨A7, c7, rfl, hP7, hb7⟩ := hcut
    have hI7 := hide (hI6.out.keep (KeepX.of_below hb7 _ (by decide) (by decide)))
    have hb07 := hide (hb06.out.trans (hb7.mono hb06.out.size))
    have hL7 := hide (CodeAt.below hL6.out hb7 (Nat.le_refl _))
    have hD7 := hide (CodeAt.below hD6.out hb7 (Nat.le_refl _))
    have hRn : R.length ≤ 632 := by
      rw [hR.out]
      have := short_len (litsL L ++ distL L).length (litsL L ++ distL L)
      rw [List.length_append] at this
      unfold runsL shortL
      have h1 := hN1.out
      have h2 := hN2.out
      rw [List.length_append]
      omega
    have hRs : Hid (∀ p ∈ R, p.symbol ≤ 18 ∧ p.wide ≤ 7 ∧ p.more < 128) := by
      rw [hR.out]
      exact runs_small _ _ fun x hx => by
        rcases List.mem_append.1 hx with h | h
        · exact hlo.out.2 x h
        · exact hdo.out.2 x h
    have hco := codes_code_ok R (by omega)
    replace hco := hide hco
    obtain ⟨M, hM⟩ : ∃ M, M = R.length := ⟨_, rfl⟩
    rw [← hM] at hP7 hRn ⊢
    replace hM := hide hM
    replace hP7 := hide hP7
    have hT0 := hide (Blk.new wc 77 (oftC []))
    have hb8 := hide ((Below.refl wc.heap.size wc).alloc (Nat.le_refl _) (.cells (oftC []) 77))
    rw [oftC_nil] at hT0 hb8
    clear hb7 hI6 hb06 hL6 hD6 hO36 hO46 hv hR3 hR4 hbE hbR
    go_upto_region 8 with (fail)
    rw [← oftC_nil] at *
    generalize wc.alloc (.cells (oftC []) 77) = wi at *
    obtain ⟨gt, hgt⟩ : ∃ gt, gt = wc.heap.size := ⟨_, rfl⟩
    rw [← hgt] at hT0 ⊢
    have hgtw : wc.heap.size ≤ gt := by rw [hgt]; exact Nat.le_refl _
    clear hgt
    go_loopw [57] (fun v57 wx => ∃ j : Nat, v57 = .int .i64 j ∧ j ≤ M ∧ Hid (Blk wx gt 77 (oftC (R.take j))) ∧ Hid (Below wc.heap.size wc wx)) (fun v57 _ => M - (intOf v57).toNat)
    case atStart => exact ⟨0, rfl, Nat.zero_le _, hT0, hb8⟩
    case round =>
      clear hT0 hb8
      obtain ⟨j, rfl, hj, hT, hB⟩ := hrel
      by_cases hlt : j < M
      · have hjl : j < R.length := by have := hM.out; omega
        obtain ⟨gi, rfl, c0, c1, c2⟩ := (hP7.out.keep (KeepX.of_below hB.out _ (by decide) (by decide))).elem hlt hjl
        have hps := hRs.out _ (List.getElem_mem hjl)
        have hnx : Hid (oftC (R.take (j + 1)) = oftC (R.take j ++ [R[j]])) := by rw [Hid, List.take_succ_eq_append_getElem hjl]
        obtain ⟨x, hxe⟩ : ∃ x, x = R[j] := ⟨_, rfl⟩
        rw [← hxe] at c0 c1 c2 hps hnx
        replace hxe := hide hxe
        obtain ⟨sy, wi_, mo⟩ := x
        dsimp only at c0 c1 c2 hps
        have hsn := hide (hnx.out.trans (oftC_snoc (R.take j) ⟨sy, wi_, mo⟩ (by dsimp only; omega)))
        dsimp only at hsn
        have hcs := oftC_at (R.take j) sy (by omega)
        obtain ⟨V, hV⟩ : ∃ V, V = (oftenL (R.take j)).getD sy 0 := ⟨_, rfl⟩
        rw [← hV] at hcs hsn
        have hVb : V ≤ 1000 := by
          rw [hV, oftenL_at _ _ (by omega)]
          have := List.countP_le_length (p := fun p : Part => p.symbol == sy) (l := R.take j)
          rw [List.length_take] at this
          omega
        replace hV := hide hV
        have hB1 := hide (hB.out.alloc hB.out.size (.cells #[.int .i64 (sy : Int), .int .i64 (wi_ : Int), .int .i64 (mo : Int)] 79))
        have hP1 := Blk.new wr 79 #[.int .i64 (sy : Int), .int .i64 (wi_ : Int), .int .i64 (mo : Int)]
        have hT1 := hide (hT.out.alloc (.cells #[.int .i64 (sy : Int), .int .i64 (wi_ : Int), .int .i64 (mo : Int)] 79))
        go_upto_region 10 with (fail)
        generalize wr.alloc (.cells #[.int .i64 (sy : Int), .int .i64 (wi_ : Int), .int .i64 (mo : Int)] 79) = wj at *
        obtain ⟨gp, hgp⟩ : ∃ gp, gp = wr.heap.size := ⟨_, rfl⟩
        rw [← hgp] at hP1 ⊢
        clear hgp c0 c1 c2 hT hB
        have d0 : wj.cell? ⟨gp, 0, none⟩ = some (.int .i64 (sy : Int)) := hP1.cell 0
        have e0 : wj.cell? ⟨gt, sy, none⟩ = some (.int .i64 (V : Int)) := by rw [hT1.out.cell, hcs]
        have f0 := hT1.out.frozen sy
        have hsy1 : (sy : Int) < 19 := by omega
        have hsy0 : (0 : Int) ≤ (sy : Int) := by omega
        have hT2 : Hid (Blk (wj.setCell ⟨gt, sy, none⟩ (.int .i64 ((V + 1 : Nat) : Int))) gt 77 (oftC (R.take (j + 1)))) := by
          rw [hsn.out]; exact hT1.out.set_ sy _
        have hB2 : Hid (Below wc.heap.size wc (wj.setCell ⟨gt, sy, none⟩ (.int .i64 ((V + 1 : Nat) : Int)))) := hB1.out.setCell (p := ⟨gt, sy, none⟩) hgtw _
        replace hP1 := hide hP1
        clear hcs hT1 hB1
        go_wp2_with fail
        go_roundw
        case rel => exact ⟨j + 1, by go_num, hlt, hT2, hB2⟩
        case measure => simp [intOf]; omega
      · obtain rfl : j = M := by omega
        rw [List.take_of_length_le (by have := hM.out; omega)] at hT
        have hRN := RN.of_blk (l := oftenL R) hT.out (oftenL_len R) hT.out.lt
        have hoft : ∀ x ∈ oftenL R, x ≤ 1000 := fun x hx => by
          obtain ⟨s, hs, rfl⟩ := List.mem_map.1 hx
          have := List.countP_le_length (p := fun p : Part => p.symbol == s) (l := R)
          have := hM.out
          omega
        have h7 : (2 : Nat) ^ 7 = 128 := by decide
        have hlen7 := lengths_any wr gt 0 19 19 7 (oftenL R) hRN (by omega) (by omega) (getD_small _ 1000 hoft (by omega)) (by omega) (by omega) (come_286 _ 19 7 (oftenL_len R) (by omega))
        have hI9 := hide (hI7.out.keep (KeepX.of_below hB.out _ (by decide) (by decide)))
        have hb09 := hide (hb07.out.trans (hB.out.mono hb07.out.size))
        have hL9 := hide (CodeAt.below hL7.out hB.out (Nat.le_refl _))
        have hD9 := hide (CodeAt.below hD7.out hB.out (Nat.le_refl _))
        have hP9 := hide (hP7.out.keep (KeepX.of_below hB.out _ (by decide) (by decide)))
        obtain ⟨CL, hCL⟩ : ∃ CL, CL = lengthsL (oftenL R) 7 := ⟨_, rfl⟩
        rw [← hCL] at hlen7 hco
        have hcl19 := hide hco.out.2
        have hclo := hide hco.out.1
        replace hCL := hide hCL
        clear hRN hoft h7 hT hB hco hL7 hD7 hI7 hb07 hP7
        go_wp2_with fail
        refine hlen7.mono ?_
        rintro e wl ⟨gc, cc, rfl, hOc, hbl⟩
        clear hlen7
        have hI10 := hide (hI9.out.keep (KeepX.of_below hbl _ (by decide) (by decide)))
        have hb10 := hide (hb09.out.trans (hbl.mono hb09.out.size))
        have hL10 := hide (CodeAt.below hL9.out hbl (Nat.le_refl _))
        have hD10 := hide (CodeAt.below hD9.out hbl (Nat.le_refl _))
        have hP10 := hide (hP9.out.keep (KeepX.of_below hbl _ (by decide) (by decide)))
        have hOc10 := hide (OE.more hOc (Nat.zero_le _))
        have hnew3 := new_any wl gc 0 19 cc CL (ON.toRN hOc10.out) (by omega) (by omega) hclo.out
        clear hbl hOc hI9 hb09 hL9 hD9 hP9
        go_wp2_with fail
        refine hnew3.mono ?_
        rintro e wn ⟨kc, rfl, hK, hbn⟩
        clear hnew3
        have hI11 := hide (hI10.out.keep (KeepX.of_below hbn _ (by decide) (by decide)))
        have hb11 := hide (hb10.out.trans (hbn.mono hb10.out.size))
        have hL11 := hide (CodeAt.below hL10.out hbn (Nat.le_refl _))
        have hD11 := hide (CodeAt.below hD10.out hbn (Nat.le_refl _))
        have hP11 := hide (hP10.out.keep (KeepX.of_below hbn _ (by decide) (by decide)))
        have hOc11 := hide (OE.below hOc10.out hbn (Nat.le_refl _))
        have hK11 := hide (hK.more (Nat.zero_le _))
        clear hK hbn hI10 hb10 hL10 hD10 hP10 hOc10
        have hon : Hid (∀ (t : TypeId) (c' : Array Value), (wn.alloc (.cells c' t)).heap[wn.heap.size]? = some (.cells c' t (0, 0))) := fun t c' => heap_alloc_last wn _
        have hsr : Hid ((wn.alloc (.cells (oftC []) 77)).setRow wn.heap.size ordC = wn.alloc (.cells ordC 77)) := World.setRow_alloc_new wn _ _ _
        have hbo := (Below.refl wn.heap.size wn).alloc (Nat.le_refl _) (.cells ordC 77)
        have hI12 := hide (hI11.out.keep (KeepX.of_below hbo _ (by decide) (by decide)))
        have hb12 := hide (hb11.out.trans (hbo.mono hb11.out.size))
        have hL12 := hide (CodeAt.below hL11.out hbo (Nat.le_refl _))
        have hD12 := hide (CodeAt.below hD11.out hbo (Nat.le_refl _))
        have hP12 := hide (hP11.out.keep (KeepX.of_below hbo _ (by decide) (by decide)))
        have hOc12 := hide (OE.below hOc11.out hbo (Nat.le_refl _))
        have hK12 := hide (CodeAt.below hK11.out hbo (Nat.le_refl _))
        have hR12 := hide (Blk.new wn 77 ordC)
        clear hbo hI11 hb11 hL11 hD11 hP11 hOc11 hK11
        rw [oftC_nil] at hsr
        obtain ⟨OC, hOC⟩ : ∃ OC, OC = ordC := ⟨_, rfl⟩
        have hos : Hid (OC.size = 19 ∧ OC.all (·.oneCell') = true) := by
          rw [hOC]; exact ⟨rfl, ord_one⟩
        rw [← hOC] at hsr hI12 hb12 hL12 hD12 hP12 hOc12 hK12 hR12
        replace hOC := hide hOC
        go_upto_region 14 with (fail)
        go_step
        refine wpList_ordC rfl rfl (some 75) rfl OC hOC.out ?_
        go_upto_region 15 with (refine wpList_store_rowTo rfl 77 (.tmp 20) (.tmp 75) rfl rfl wn.heap.size OC rfl rfl 77 _ (hon.out 77 _) (by rw [hos.out.1]; kernel_rfl) (by rw [hos.out.1]; rfl) hos.out.2 ?_)
        rw [hsr.out]
        have hS0 : Hid (DynS w (wn.alloc (.cells OC 77)) g [] A1 A7 L j R lc dc kc wn.heap.size gc cc CL) :=
          ⟨hW.out.below hb12.out, hb12.out.mono (Nat.le_of_lt hgl), KeepX.of_below hb12.out, hI12.out, hP12.out, hL12.out, hD12.out, hK12.out, by rw [← hOC.out]; exact hR12.out, hOc12.out⟩
        have hofg : ∀ k : Nat, k < 19 → OC[k]? = some (.int .i64 (orderL.getD k 0 : Int)) := fun k hk => by rw [hOC.out]; exact ordC_at k hk
        replace hofg := hide hofg
        generalize wn.alloc (.cells OC 77) = wo at *
        obtain ⟨gr, hgr⟩ : ∃ gr, gr = wn.heap.size := ⟨_, rfl⟩
        rw [← hgr] at hS0 ⊢
        clear hgr hon hsr hos hOC hI12 hb12 hL12 hD12 hP12 hOc12 hK12 hR12 hW hb
        have hCLb : Hid (∀ s, CL.getD s 0 ≤ 15) := getD_le CL 15 hclo.out.1
        go_upto_block 2 with (fail)
        go_cut [21] (fun v21 wx => ∃ (k : Nat) (q : Nat), v21 = .int .i64 (k : Int) ∧ 4 ≤ k ∧ k ≤ 19 ∧ Hid (tellK CL 19 = k) ∧ wx = wo.drewN q)
        case first =>
          go_wp2_with fail
          go_loopw [21] (fun v21 wx => ∃ (k : Nat) (q : Nat), v21 = .int .i64 (k : Int) ∧ 4 ≤ k ∧ k ≤ 19 ∧ Hid (tellK CL 19 = tellK CL k) ∧ Hid (wx = wo.drewN q)) (fun v21 _ => (intOf v21).toNat)
          case atStart => exact ⟨19, 0, rfl, by omega, by omega, rfl, rfl⟩
          case round =>
            obtain ⟨k, q, rfl, hk4, hk19, hte, hwx⟩ := hrel
            by_cases c1 : 4 < k
            · have e1 : decide ((4 : Int) < (k : Int)) = true := by simp; omega
              have e1' : (4 : Int) < (k : Int) := by omega
              have hsub : (k : Int) - 1 = ((k - 1 : Nat) : Int) := by omega
              have hge : (0 : Int) ≤ ((k - 1 : Nat) : Int) := by omega
              have hlt : ((k - 1 : Nat) : Int) < 19 := by omega
              have co : wr.cell? ⟨gr, k - 1, none⟩ = some (.int .i64 (orderL.getD (k - 1) 0 : Int)) := by
                rw [hwx.out]; exact (hS0.out.od.cell (k - 1)).trans (ordC_at _ (by omega))
              have hol := ord_lt (k - 1)
              have htk : tellK CL k = if CL.getD (orderL.getD (k - 1) 0) 0 = 0 then tellK CL (k - 1) else k := by
                obtain ⟨f, rfl⟩ : ∃ f, k = f + 1 := ⟨k - 1, by omega⟩
                rw [tellK, Nat.add_sub_cancel]
                by_cases h0 : CL.getD (orderL.getD f 0) 0 = 0
                · rw [if_pos ⟨c1, h0⟩, if_pos h0]
                · rw [if_neg (fun h => h0 h.2), if_neg h0]
              obtain ⟨s, hs⟩ : ∃ s, s = orderL.getD (k - 1) 0 := ⟨_, rfl⟩
              rw [← hs] at co hol htk
              have cc_ : wr.cell? ⟨gc, s, none⟩ = some (.int .i64 (CL.getD s 0 : Int)) := by
                rw [hwx.out]; exact ON.getD hS0.out.cl hol
              obtain ⟨V, hV⟩ : ∃ V, V = CL.getD s 0 := ⟨_, rfl⟩
              rw [← hV] at cc_ htk
              replace hs := hide hs
              replace hV := hide hV
              have hs0 : (0 : Int) ≤ (s : Int) := by omega
              have hs1 : (s : Int) < 19 := by omega
              by_cases c2 : V = 0
              · have e2 : ((V : Int) == 0) = true := by rw [beq_iff_eq]; omega
                have hte2 : Hid (tellK CL 19 = tellK CL (k - 1)) := by rw [Hid, hte.out, htk, if_pos c2]
                replace c2 := hide c2
                replace htk := hide htk
                generalize hk1 : k - 1 = k1 at *
                go_wp2_with fail
                go_roundw
                case rel => exact ⟨k1, q, rfl, by omega, by omega, hte2, hwx⟩
                case measure => simp [intOf]; omega
              · have e2 : ((V : Int) == 0) = false := by rw [beq_eq_false_iff_ne]; omega
                have hte2 : Hid (tellK CL 19 = k) := by rw [Hid, hte.out, htk, if_neg c2]
                replace c2 := hide c2
                replace htk := hide htk
                generalize hk1 : k - 1 = k1 at *
                go_wp2_with fail
                go_meet
                case rel => exact ⟨k, q, rfl, hk4, hk19, hte2, hwx.out⟩
            · have e1 : decide ((4 : Int) < (k : Int)) = false := by simp; omega
              have e1' : ¬ (4 : Int) < (k : Int) := by omega
              have e1'' : (k : Int) ≤ 4 := by omega
              have hte2 : Hid (tellK CL 19 = k) := by
                rw [Hid, hte.out]
                obtain rfl : k = 4 := by omega
                rw [tellK, if_neg (fun h => c1 h.1)]
              go_wp2_with fail
              go_meet
              case rel => exact ⟨k, q, rfl, hk4, hk19, hte2, hwx.out⟩
        case rest =>
          obtain ⟨k, q, rfl, hk4, hk19, hte, rfl⟩ := hcut
          have hS1 := hide (hS0.out.drewN q)
          have hofs : Hid (∀ k : Nat, k < 19 → (wo.drewN q).cell? ⟨gr, k, none⟩ = some (.int .i64 (orderL.getD k 0 : Int))) := fun k hk => (hS0.out.od.cell k).trans (ordC_at k hk)
          clear hS0 hofg hofs
          generalize wo.drewN q = wp at *
          go_wp2_with fail
          refine (wbits_any wp g [] 1 1 1 1 rfl rfl hS1.out.wr (by omega) (by omega) (by simp)).mono ?_
          intro e w2 hr2
          have hS2 := hide (hS1.out.step hr2)
          obtain ⟨rfl, -⟩ := hr2
          clear hS1
          go_wp2_with fail
          refine (wbits_any w2 g _ 2 2 2 2 rfl rfl hS2.out.wr (by omega) (by omega) (by simp [loB_len])).mono ?_
          intro e w3 hr3
          have hS3 := hide (hS2.out.step hr3)
          obtain ⟨rfl, -⟩ := hr3
          clear hS2
          go_wp2_with fail
          refine (wbits_any w3 g _ 5 _ 5 (N1 - 257) rfl (by omega) hS3.out.wr (by omega) (by omega) (by simp [loB_len])).mono ?_
          intro e w4 hr4
          have hS4 := hide (hS3.out.step hr4)
          obtain ⟨rfl, -⟩ := hr4
          clear hS3
          go_wp2_with fail
          refine (wbits_any w4 g _ 5 _ 5 (N2 - 1) rfl (by omega) hS4.out.wr (by omega) (by omega) (by simp [loB_len])).mono ?_
          intro e w5 hr5
          have hS5 := hide (hS4.out.step hr5)
          obtain ⟨rfl, -⟩ := hr5
          clear hS4
          go_wp2_with fail
          refine (wbits_any w5 g _ 4 _ 4 (k - 4) rfl (by omega) hS5.out.wr (by omega) (by omega) (by simp [loB_len])).mono ?_
          intro e w6' hr6
          have hS6 := hide (hS5.out.step hr6)
          obtain ⟨rfl, -⟩ := hr6
          clear hS5
          obtain ⟨B0, hB0⟩ : ∃ B0, B0 = ([] ++ loB 1 1 ++ loB 2 2 ++ loB 5 (N1 - 257) ++ loB 5 (N2 - 1) ++ loB 4 (k - 4)) := ⟨_, rfl⟩
          have hBl : B0.length ≤ 17 := by rw [hB0]; simp [loB_len]
          rw [← hB0] at hS6
          replace hB0 := hide hB0
          have hk19' : (k : Int) ≤ 19 := by omega
          have hk0' : (0 : Int) ≤ (k : Int) := by omega
          go_wp2_with fail
          go_loopw [112] (fun v wx => ∃ i : Nat, v = .int .i64 (i : Int) ∧ i ≤ k ∧ Hid (DynS w wx g (B0 ++ ((orderL.take i).flatMap fun s => loB 3 (CL.getD s 0))) A1 A7 L j R lc dc kc gr gc cc CL) ∧ Hid ((B0 ++ ((orderL.take i).flatMap fun s => loB 3 (CL.getD s 0))).length ≤ 17 + 3 * i)) (fun v _ => k - (intOf v).toNat)
          case atStart => exact ⟨0, rfl, Nat.zero_le _, by simpa using hS6, by simpa [Hid] using hBl⟩
          case round =>
            clear hS6
            obtain ⟨i, rfl, hi, hS, hl⟩ := hrel
            by_cases hlt : i < k
            · have ci : wr.cell? ⟨gr, i, none⟩ = some (.int .i64 (orderL.getD i 0 : Int)) := (hS.out.od.cell i).trans (ordC_at i (by omega))
              have hol := ord_lt i
              have hnx : Hid ((B0 ++ ((orderL.take (i + 1)).flatMap fun s => loB 3 (CL.getD s 0))) = (B0 ++ ((orderL.take i).flatMap fun s => loB 3 (CL.getD s 0))) ++ loB 3 (CL.getD (orderL.getD i 0) 0)) := by
                have hil : i < orderL.length := by show i < 19; omega
                rw [Hid, List.take_succ_eq_append_getElem hil, List.flatMap_append, List.append_assoc, List.getD_eq_getElem?_getD (l := orderL), List.getElem?_eq_getElem hil]
                simp
              obtain ⟨s, hs⟩ : ∃ s, s = orderL.getD i 0 := ⟨_, rfl⟩
              rw [← hs] at ci hol hnx
              have cs : wr.cell? ⟨gc, s, none⟩ = some (.int .i64 (CL.getD s 0 : Int)) := ON.getD hS.out.cl hol
              have hVb := hCLb.out s
              obtain ⟨V, hV⟩ : ∃ V, V = CL.getD s 0 := ⟨_, rfl⟩
              rw [← hV] at cs hnx hVb
              replace hs := hide hs
              replace hV := hide hV
              obtain ⟨Bi, hBi⟩ : ∃ Bi, Bi = B0 ++ ((orderL.take i).flatMap fun s => loB 3 (CL.getD s 0)) := ⟨_, rfl⟩
              rw [← hBi] at hS hl hnx
              replace hBi := hide hBi
              have hs0 : (0 : Int) ≤ (s : Int) := by omega
              have hs1 : (s : Int) < 19 := by omega
              have hik : (i : Int) < (k : Int) := by omega
              have hi0 : (0 : Int) ≤ (i : Int) := by omega
              go_wp2_with fail
              refine (wbits_any wr g Bi 3 _ 3 V rfl rfl hS.out.wr (by omega) (by omega) (by have := hl.out; omega)).mono ?_
              intro e w7 hr7
              have hS7 := hide (hS.out.step hr7)
              obtain ⟨rfl, -⟩ := hr7
              clear hS ci cs
              rw [← hnx.out] at hS7
              go_wp2_with fail
              go_roundw
              case rel => exact ⟨i + 1, by go_num, hlt, hS7, by rw [hnx.out, Hid, List.length_append, loB_len]; have := hl.out; omega⟩
              case measure => simp [intOf]; omega
            · obtain rfl : i = k := by omega
              obtain ⟨B1, hB1⟩ : ∃ B1, B1 = B0 ++ ((orderL.take i).flatMap fun s => loB 3 (CL.getD s 0)) := ⟨_, rfl⟩
              rw [← hB1] at hS hl
              replace hB1 := hide hB1
              have hl1 : B1.length ≤ 80 := by have := hl.out; omega
              clear hl
              go_wp2_with fail
              go_loopw [125] (fun v wx => ∃ m : Nat, v = .int .i64 (m : Int) ∧ m ≤ j ∧ Hid (DynS w wx g (B1 ++ (R.take m).flatMap (partB CL)) A1 A7 L j R lc dc kc gr gc cc CL) ∧ Hid ((B1 ++ (R.take m).flatMap (partB CL)).length ≤ 80 + 30 * m)) (fun v _ => j - (intOf v).toNat)
              case atStart => exact ⟨0, rfl, Nat.zero_le _, by simpa using hS, by simpa [Hid] using hl1⟩
              case round =>
                clear hS
                obtain ⟨m, rfl, hm, hS, hl⟩ := hrel
                by_cases hlm : m < j
                · have hml : m < R.length := by have := hM.out; omega
                  obtain ⟨gi, rfl, c0, c1, c2⟩ := hS.out.pt.elem hlm hml
                  have hps := hRs.out _ (List.getElem_mem hml)
                  have hnx : Hid ((B1 ++ (R.take (m + 1)).flatMap (partB CL)) = (B1 ++ (R.take m).flatMap (partB CL)) ++ partB CL R[m]) := by
                    rw [Hid, List.take_succ_eq_append_getElem hml, List.flatMap_append, List.append_assoc]; simp
                  obtain ⟨x, hxe⟩ : ∃ x, x = R[m] := ⟨_, rfl⟩
                  rw [← hxe] at c0 c1 c2 hps hnx
                  replace hxe := hide hxe
                  obtain ⟨sy, wi_, mo⟩ := x
                  dsimp only at c0 c1 c2 hps
                  obtain ⟨Bi, hBi⟩ : ∃ Bi, Bi = B1 ++ (R.take m).flatMap (partB CL) := ⟨_, rfl⟩
                  rw [← hBi] at hS hl hnx
                  replace hBi := hide hBi
                  have hsm := code_small CL hclo.out sy
                  have hres : Hid (Bi ++ partB CL ⟨sy, wi_, mo⟩ = (Bi ++ hiB (CL.getD sy 0) (codeV CL sy)) ++ loB wi_ mo) := by
                    rw [Hid, List.append_assoc, code_bits]; rfl
                  have hcc : Hid (∀ (wy : World), CodeAt wy 0 kc CL → Calls Tryz.prog 39 #[.pointer (some ⟨kc, 0, none⟩), .int .i64 (sy : Int)] wy (CodeRet wy CL sy)) := fun wy hy => codec_any wy 0 kc sy CL hy hclo.out (by rw [hcl19.out]; omega) (by omega)
                  unfold CodeRet at hcc
                  obtain ⟨N, hN⟩ : ∃ N, N = CL.getD sy 0 := ⟨_, rfl⟩
                  obtain ⟨X, hX⟩ : ∃ X, X = codeV CL sy := ⟨_, rfl⟩
                  rw [← hN, ← hX] at hres hsm hcc
                  replace hN := hide hN
                  replace hX := hide hX
                  have hS1 := hide (hS.out.alloc (.cells #[.int .i64 (sy : Int), .int .i64 (wi_ : Int), .int .i64 (mo : Int)] 79))
                  have hP1 := Blk.new wr 79 #[.int .i64 (sy : Int), .int .i64 (wi_ : Int), .int .i64 (mo : Int)]
                  go_upto_region 31 with (fail)
                  generalize wr.alloc (.cells #[.int .i64 (sy : Int), .int .i64 (wi_ : Int), .int .i64 (mo : Int)] 79) = wj at *
                  obtain ⟨gp, hgp⟩ : ∃ gp, gp = wr.heap.size := ⟨_, rfl⟩
                  rw [← hgp] at hP1 ⊢
                  clear hgp c0 c1 c2 hS
                  have d0 : wj.cell? ⟨gp, 0, none⟩ = some (.int .i64 (sy : Int)) := hP1.cell 0
                  replace hP1 := hide hP1
                  go_wp2_with fail
                  refine (hcc.out wj hS1.out.ct).mono ?_
                  rintro e w8 ⟨rfl, q8, hw8⟩
                  have hS2 := hide (hS1.out.drewN q8)
                  have hP2 := hide (hP1.out.drewN q8)
                  rw [← hw8] at hS2 hP2
                  replace hw8 := hide hw8
                  clear hS1 hP1 d0 hcc
                  go_wp2_with fail
                  refine (wcode_any w8 g Bi _ _ N X rfl rfl hS2.out.wr (by omega) (by omega) (by have := hl.out; omega)).mono ?_
                  intro e w9 hr9
                  have hS3 := hide (hS2.out.step hr9)
                  have hP3 := hr9.2.2.2 _ (by decide) (by decide) _ _ hP2.out
                  obtain ⟨rfl, -⟩ := hr9
                  have d1 : w9.cell? ⟨gp, 1, none⟩ = some (.int .i64 (wi_ : Int)) := hP3.cell 1
                  have d2 : w9.cell? ⟨gp, 2, none⟩ = some (.int .i64 (mo : Int)) := hP3.cell 2
                  replace hP3 := hide hP3
                  clear hS2 hP2
                  have hl3 : (Bi ++ hiB N X).length ≤ 90000000 := by
                    rw [List.length_append, hiB_len]; have := hl.out; omega
                  go_wp2_with fail
                  refine (wbits_any w9 g _ _ _ wi_ mo rfl rfl hS3.out.wr (by omega) (by omega) hl3).mono ?_
                  intro e w10 hr10
                  have hS4 := hide (hS3.out.step hr10)
                  obtain ⟨rfl, -⟩ := hr10
                  rw [← hres.out, ← hnx.out] at hS4
                  clear hS3 hP3 d1 d2
                  go_wp2_with fail
                  go_roundw
                  case rel => exact ⟨m + 1, by go_num, hlm, hS4, by rw [hnx.out, hres.out, Hid, List.length_append, List.length_append, hiB_len, loB_len]; have := hl.out; omega⟩
                  case measure => simp [intOf]; omega
                · obtain rfl : m = j := by omega
                  rw [List.take_of_length_le (by have := hM.out; omega)] at hS hl
                  have hres : Hid (dynB b = (B1 ++ R.flatMap (partB CL)) ++ encL (litsL L) (distL L) L) := by
                    rw [Hid, hfin.out]
                    unfold headB
                    have h1 : codesL L = CL := by unfold codesL; rw [← hR.out, hCL.out]
                    rw [h1, hte.out, ← hR.out, hB1.out, hB0.out, hN1.out, hN2.out]
                    simp only [List.nil_append, List.append_assoc]
                  obtain ⟨B2, hB2⟩ : ∃ B2, B2 = B1 ++ R.flatMap (partB CL) := ⟨_, rfl⟩
                  rw [← hB2] at hS hl hres
                  replace hB2 := hide hB2
                  have hwr := hide (write_any wr g lc dc 0 A1 L.length c1 B2 (litsL L) (distL L) L hS.out.wr hS.out.it hix2.out hS.out.lt hlo.out.1 (by have := hN1.out; omega) hS.out.dt hdo.out.1 (by have := hN2.out; omega) (by omega) (by have := hl.out; omega))
                  clear hl
                  go_wp2_with fail
                  refine hwr.out.mono ?_
                  intro e wz hrz
                  have hSz := hide (hS.out.step hrz)
                  obtain ⟨rfl, -⟩ := hrz
                  clear hwr hS
                  go_wp2_with fail
                  go_end0
                  exact ⟨rfl, by rw [hres.out]; exact hSz.out.wr, hSz.out.bel, hSz.out.kx⟩
end Go.Proofs.YtbchaomnjbkdhaaGreat
