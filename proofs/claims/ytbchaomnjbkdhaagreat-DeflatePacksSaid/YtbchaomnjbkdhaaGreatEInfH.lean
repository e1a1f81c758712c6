/-
  Contract of the unpacker's codes that stand ahead.
-/
import Derived.Test.YtbchaomnjbkdhaaGreatEInfL
import Derived.Test.YtbchaomnjbkdhaaGreatEN
import Derived.Test.YtbchaomnjbkdhaaGreatEA
import Derived.Test.YtbchaomnjbkdhaaGreatEDynW
import Derived.Deep.WholeRow
namespace Go.Proofs.YtbchaomnjbkdhaaGreat
open Go.RowKit Go.Sort Go.Proofs
set_option linter.unusedVariables false
set_option maxRecDepth 100000 in
theorem order_any (w : World) : Calls Tryz.prog 96 #[] w fun e w' => e = .returned (.agg ordC) ∧ ∃ o, w' = w.alloc o := by
  have hon : Hid (∀ (t : TypeId) (c' : Array Value), (w.alloc (.cells c' t)).heap[w.heap.size]? = some (.cells c' t (0, 0))) := fun t c' => heap_alloc_last w _
  obtain ⟨OC, hOC⟩ : ∃ OC, OC = ordC := ⟨_, rfl⟩
  have hos : Hid (OC.size = 19 ∧ OC.all (·.oneCell') = true) := by
    rw [hOC]; exact ⟨rfl, ord_one⟩
  rw [← hOC]
  have hl := hide (run_loadVar_new (P := Tryz.prog) w 77 OC 19 3 (by kernel_rfl) (by rw [hos.out.1]; kernel_rfl))
  replace hOC := hide hOC
  go_enter Tryz.func96, Tryz.ntmps96
  go_upto_region 1 with (fail)
  go_step
  refine wpList_ordC rfl rfl (some 1) rfl OC hOC.out ?_
  go_wp2_with (refine wpList_store_rowTo rfl 77 (.tmp 0) (.tmp 1) rfl rfl w.heap.size OC rfl rfl 77 _ (hon.out 77 _) (by rw [hos.out.1]; kernel_rfl) (by rw [hos.out.1]; rfl) hos.out.2 ?_)
  rw [World.setRow_alloc_new]
  refine bodyPost_ret (v := .agg OC) ?_ rfl ⟨rfl, _, rfl⟩
  have h0 := hl.out
  simp [results, Tryz.results96, Act.put, asAddr, Array.setIfInBounds, h0]
/-- Bits of a row of numbers of one width. -/
theorem Agr.nth {l : List UInt8} {n : Nat} (f : Nat → Nat) : ∀ (r : List Nat) (j P : Nat), Agr l P (r.flatMap fun s => loB n (f s)) → j < r.length → Agr l (P + n * j) (loB n (f (r.getD j 0)))
  | [], j, P, _, hj => by simp at hj
  | a :: r, 0, P, h, _ => by rw [List.flatMap_cons] at h; exact h.left
  | a :: r, j + 1, P, h, hj => by
    rw [List.flatMap_cons] at h
    have h2 := h.right
    rw [loB_len] at h2
    have := Agr.nth f r j (P + n) h2 (by simpa using hj)
    rw [show P + n * (j + 1) = P + n + n * j by rw [Nat.mul_succ]; omega]
    exact this
theorem loRow_len {n : Nat} (f : Nat → Nat) : ∀ r : List Nat, (r.flatMap fun s => loB n (f s)).length = n * r.length
  | [] => by simp
  | a :: r => by rw [List.flatMap_cons, List.length_append, loB_len, loRow_len f r, List.length_cons, Nat.mul_succ]; omega
section
variable {w w' : World} {B gr gb ge : Nat} {vb vo : Value} {l : List UInt8} {p : Nat} {out : List UInt8} {at_ st : Nat} {last : Bool} {left back : Nat} {pl pd : Value}
theorem Mach.of_below (h : Mach w B gr gb vb vo l p out at_ st last left back pl pd) (hb : Below w.heap.size w w') : Mach w' B gr gb vb vo l p out at_ st last left back pl pd :=
  h.only (Only.of_below (S := fun _ => False) hb) (fun h => h) (fun h => h) (fun _ _ h => h) (fun _ _ h => h)
end
/-- What codes leave. -/
def CodesRet (w : World) (B gr gb : Nat) (vb vo : Value) (l : List UInt8) (p m : Nat) (its : List Item) (out : List UInt8) (at_ st : Nat) (last : Bool) (left back : Nat) (e : Ending) (w' : World) : Prop :=
  ∃ pl' pd' p' e1, e = .returned (.int .i64 ((e1 : Nat) : Int)) ∧ p ≤ p' ∧ p' ≤ 8 * l.length ∧ Mach w' B gr gb vb vo l p' out at_ st last left back pl' pd' ∧ Only (SM gr gb vo) w w' ∧
    ((p + m ≤ 8 * l.length ∧ e1 = 0 ∧ p' = p + m ∧ ∃ gl gd, pl' = .pointer (some ⟨gl, 0, none⟩) ∧ pd' = .pointer (some ⟨gd, 0, none⟩) ∧ CodeAt w' w.heap.size gl (litsL its) ∧ CodeAt w' w.heap.size gd (distL its)) ∨
     (¬ p + m ≤ 8 * l.length ∧ e1 = 3))
theorem need_small {l : List UInt8} {p n v p' e0 e1 : Nat} (hp : p ≤ 8 * l.length) (hn : n ≤ 7) (he : e0 = 0 ∨ e0 = 3)
    (h : (p + n ≤ 8 * l.length ∧ v = leN (((bytesB l).drop p).take n) ∧ p' = p + n ∧ e1 = e0) ∨ (¬ p + n ≤ 8 * l.length ∧ v = 0 ∧ p' = p ∧ e1 = 3)) : v ≤ 127 ∧ p' ≤ 8 * l.length ∧ p ≤ p' ∧ (e1 = 0 ∨ e1 = 3) := by
  rcases h with ⟨h1, rfl, rfl, rfl⟩ | ⟨h1, rfl, rfl, rfl⟩
  · refine ⟨?_, h1, by omega, he⟩
    have h3 := leN_lt (((bytesB l).drop p).take n) fun b hb => bytesB_two l b (List.mem_of_mem_drop (List.mem_of_mem_take hb))
    have h4 : (((bytesB l).drop p).take n).length ≤ n := List.length_take_le _ _
    have h5 : 2 ^ (((bytesB l).drop p).take n).length ≤ 2 ^ 7 := Nat.pow_le_pow_right (by omega) (by omega)
    have e7 : (2 : Nat) ^ 7 = 128 := by decide
    omega
  · exact ⟨by omega, hp, Nat.le_refl _, .inr rfl⟩
theorem Mach.setT {w : World} {B gr gb : Nat} {vb vo : Value} {l : List UInt8} {p : Nat} {out : List UInt8} {at_ st : Nat} {last : Bool} {left back : Nat} {pl pd : Value}
    (h : Mach w B gr gb vb vo l p out at_ st last left back pl pd) {g i : Nat} {t : TypeId} {cs : Array Value} (hE : Blk w g t cs) (h1 : t ≠ 85) (h2 : t ≠ 118) (h3 : t ≠ 5) (u : Value) : Mach (w.setCell ⟨g, i, none⟩ u) B gr gb vb vo l p out at_ st last left back pl pd := by
  refine h.only (S := fun k => k = g) ((Only.refl (· = g) w).setCell (p := ⟨g, i, none⟩) (fun _ => rfl) u) (fun hs => ?_) (fun hs => ?_) (fun k hk hs => ?_) (fun k hk hs => ?_)
  · subst hs; exact Blk.ne_ hE h.rd h1 rfl
  · subst hs; exact Blk.ne_ hE h.br.1 h2 rfl
  · subst hs; exact own_blk_ne h.br.2 hE (fun e => h3 e.symm) hk
  · subst hs; exact own_blk_ne h.ou hE (fun e => h3 e.symm) hk
theorem CodeAt.setE {w : World} {base g : Nat} {ls : List Nat} (h : CodeAt w base g ls) {ge : Nat} {cs : Array Value} (hE : Blk w ge 24 cs) (u : Value) : CodeAt (w.setCell ⟨ge, 0, none⟩ u) base g ls :=
  h.keepT ((KeepT.refl _ w).set_ (p := ⟨ge, 0, none⟩) hE (by decide) u) ((KeepT.refl _ w).set_ (p := ⟨ge, 0, none⟩) hE (by decide) u)
theorem CodeAt.setR {w : World} {base g : Nat} {ls : List Nat} (h : CodeAt w base g ls) {gr i : Nat} {cs : Array Value} (hE : Blk w gr 85 cs) (u : Value) : CodeAt (w.setCell ⟨gr, i, none⟩ u) base g ls :=
  h.keepT ((KeepT.refl _ w).set_ (p := ⟨gr, i, none⟩) hE (by decide) u) ((KeepT.refl _ w).set_ (p := ⟨gr, i, none⟩) hE (by decide) u)
theorem ON.setE {w : World} {base n : Nat} {v : Value} {ls : List Nat} (h : ON w base v n ls) {ge : Nat} {cs : Array Value} (hE : Blk w ge 24 cs) (u : Value) : ON (w.setCell ⟨ge, 0, none⟩ u) base v n ls :=
  h.keepT ((KeepT.refl _ w).set_ (p := ⟨ge, 0, none⟩) hE (by decide) u)
theorem ON.setR {w : World} {base n : Nat} {v : Value} {ls : List Nat} (h : ON w base v n ls) {gr i : Nat} {cs : Array Value} (hE : Blk w gr 85 cs) (u : Value) : ON (w.setCell ⟨gr, i, none⟩ u) base v n ls :=
  h.keepT ((KeepT.refl _ w).set_ (p := ⟨gr, i, none⟩) hE (by decide) u)
theorem SM.setE {a w : World} {gr gb ge : Nat} {vo : Value} (h : Only (SM gr gb vo) a w) (hg : a.heap.size ≤ ge) (u : Value) : Only (SM gr gb vo) a (w.setCell ⟨ge, 0, none⟩ u) :=
  h.setCell (p := ⟨ge, 0, none⟩) (fun h => absurd h (by show ¬ ge < _; omega)) u
theorem SM.of_below {a w w' : World} {gr gb : Nat} {vo : Value} (h : Only (SM gr gb vo) a w) (hb : Below w.heap.size w w') : Only (SM gr gb vo) a w' := h.trans (Only.of_below (S := SM gr gb vo) hb) fun _ _ h => h
theorem RN.take {w : World} {B n : Nat} {A : Option Addr} {l : List Nat} (h : RN w B A n l) {k : Nat} (hk : k ≤ n) : RN w B A k (l.take k) := by
  have hl := h.len
  refine ⟨by simp; omega, fun h0 => ?_⟩
  obtain ⟨ad, e, hb, hc⟩ := h.2 (by omega)
  refine ⟨ad, e, hb, fun j u hu => hc j u ?_⟩
  have hj := (List.getElem?_eq_some_iff.1 hu).1
  rw [List.length_map, List.length_take] at hj
  rw [← hu, List.map_take, List.getElem?_take, if_pos (by omega)]
theorem RN.drop {w : World} {B n : Nat} {g : Nat} {l : List Nat} (h : RN w B (some ⟨g, 0, none⟩) n l) {k : Nat} (hk : k ≤ n) : RN w B (some ⟨g, k, none⟩) (n - k) (l.drop k) := by
  have hl := h.len
  refine ⟨by simp; omega, fun h0 => ?_⟩
  obtain ⟨ad, e, hb, hc⟩ := h.2 (by omega)
  cases e
  refine ⟨⟨g, k, none⟩, rfl, hb, fun j u hu => ?_⟩
  have := hc (k + j) u (by rw [← hu, List.map_drop, List.getElem?_drop])
  rw [Addr.add_lit] at this ⊢
  rw [Nat.zero_add] at this
  exact this
/-- The lengths of lengths, as far as they are read. -/
def lensA (cl : List Nat) (j : Nat) : List Nat := setAll ((orderL.take j).map fun s => (s, cl.getD s 0)) (List.replicate 19 0)
theorem lensA_succ (cl : List Nat) (j : Nat) (hj : j < 19) : lensA cl (j + 1) = (lensA cl j).set (orderL.getD j 0) (cl.getD (orderL.getD j 0) 0) := by
  have hl : j < orderL.length := hj
  unfold lensA
  rw [List.take_succ_eq_append_getElem hl, List.map_append, setAll, List.foldl_append, List.getD_eq_getElem?_getD, List.getElem?_eq_getElem hl]
  rfl
theorem lensA_set (cl : List Nat) (j : Nat) (hj : j < 19) : (((lensA cl j).map encI).toArray).setIfInBounds (orderL.getD j 0) (.int .i64 ((cl.getD (orderL.getD j 0) 0 : Nat) : Int)) = ((lensA cl (j + 1)).map encI).toArray := by
  rw [lensA_succ cl j hj, List.setIfInBounds_toArray]
  congr 1
  rw [List.map_set]; rfl
/-- What stands while they are read. -/
def CodesL (w wx : World) (B gr gb ge gL gO : Nat) (vb vo : Value) (l : List UInt8) (P k : Nat) (cl : List Nat) (out : List UInt8) (at_ st : Nat) (last : Bool) (left back : Nat) (pl pd : Value) (OC : Array Value) (j pj ej : Nat) : Prop :=
  ∃ cs : Array Value, cs.size = 19 ∧ Blk wx gL 77 cs ∧ Blk wx gO 77 OC ∧ Blk wx ge 24 #[.int .i64 (ej : Int)] ∧ Mach wx B gr gb vb vo l pj out at_ st last left back pl pd ∧ Only (SM gr gb vo) w wx ∧ pj ≤ 8 * l.length ∧ P ≤ pj ∧
    ((ej = 0 ∧ pj = P + 3 * j ∧ cs = ((lensA cl j).map encI).toArray) ∨ (ej = 3 ∧ ¬ P + 3 * k ≤ 8 * l.length))
theorem CodesL.step {w wx wy : World} {B gr gb ge gL gO : Nat} {vb vo : Value} {l : List UInt8} {P k : Nat} {cl : List Nat} {out : List UInt8} {at_ st : Nat} {last : Bool} {left back : Nat} {pl pd : Value} {OC : Array Value} {j pj ej v p' e' : Nat}
    (h : CodesL w wx B gr gb ge gL gO vb vo l P k cl out at_ st last left back pl pd OC j pj ej) (hj : j < k) (hk : k ≤ 19) (hge : w.heap.size ≤ ge) (hgL : w.heap.size ≤ gL) (hne : gL ≠ gO) (hA : Agr l P ((orderL.take k).flatMap fun s => loB 3 (cl.getD s 0))) (h7 : ∀ s, cl.getD s 0 ≤ 7)
    (hM : Mach wy B gr gb vb vo l p' out at_ st last left back pl pd) (hE : Blk wy ge 24 #[.int .i64 (e' : Int)]) (hO : Only (SE gr gb vo ge) wx wy)
    (hc : (pj + 3 ≤ 8 * l.length ∧ v = leN (((bytesB l).drop pj).take 3) ∧ p' = pj + 3 ∧ e' = ej) ∨ (¬ pj + 3 ≤ 8 * l.length ∧ v = 0 ∧ p' = pj ∧ e' = 3)) :
    CodesL w (wy.setCell ⟨gL, orderL.getD j 0, none⟩ (.int .i64 (v : Int))) B gr gb ge gL gO vb vo l P k cl out at_ st last left back pl pd OC (j + 1) p' e' := by
  obtain ⟨cs, h1, h2, h3, h4, h5, h6, h8, h9, h10⟩ := h
  have kt := h5.keepE h4 hO 77 (by decide) (by decide) (by decide) (by decide)
  have k2 := kt _ _ h2
  have k3 := kt _ _ h3
  refine ⟨cs.setIfInBounds (orderL.getD j 0) (.int .i64 (v : Int)), by rw [Array.size_setIfInBounds]; exact h1, k2.set_ _ _, k3.far (p := ⟨gL, orderL.getD j 0, none⟩) (fun e => hne e.symm) _, hE.far (p := ⟨gL, orderL.getD j 0, none⟩) (Blk.ne_ hE k2 (by decide)) _, hM.setT k2 (by decide) (by decide) (by decide) _, (SE.new h6 hge hO).setCell (p := ⟨gL, orderL.getD j 0, none⟩) (fun h => absurd h (by show ¬ gL < _; omega)) _, ?_, ?_, ?_⟩
  · rcases hc with hc | hc <;> omega
  · rcases hc with hc | hc <;> omega
  · rcases h10 with ⟨rfl, rfl, rfl⟩ | ⟨rfl, h11⟩
    · rcases hc with ⟨a1, a2, a3, a4⟩ | ⟨a1, a2, a3, a4⟩
      · refine .inl ⟨a4, by omega, ?_⟩
        have hn := Agr.nth (fun s => cl.getD s 0) (orderL.take k) j P hA (by rw [List.length_take, show orderL.length = 19 from rfl]; omega)
        have hg : (orderL.take k).getD j 0 = orderL.getD j 0 := by
          rw [List.getD_eq_getElem?_getD, List.getElem?_take, if_pos hj, ← List.getD_eq_getElem?_getD]
        rw [hg] at hn
        have hlow := hn.low (by have := h7 (orderL.getD j 0); omega) a1
        rw [a2, hlow]
        exact lensA_set cl j (by omega)
      · exact .inr ⟨a4, by omega⟩
    · refine .inr ⟨?_, h11⟩
      rcases hc with ⟨a1, a2, a3, a4⟩ | ⟨a1, a2, a3, a4⟩ <;> omega
set_option maxRecDepth 100000 in
set_option maxHeartbeats 4000000 in
theorem codes_any (w : World) (B gr gb : Nat) (vb vo : Value) (l : List UInt8) (p : Nat) (out : List UInt8) (at_ st : Nat) (last : Bool) (left back : Nat) (pl pd : Value) (its : List Item)
    (h : Mach w B gr gb vb vo l p out at_ st last left back pl pd) (hH : HeadOk its) (hp : p ≤ 8 * l.length) (hl : l.length ≤ 10000000) (hA : Agr l p (headB its)) :
    Calls Tryz.prog 87 #[.pointer (some ⟨gr, 0, none⟩)] w (CodesRet w B gr gb vb vo l p (headB its).length its out at_ st last left back) := by
  have hA0 := hide hA
  unfold headB at hA
  rw [List.append_assoc, List.append_assoc, List.append_assoc] at hA
  have hA1 := hA.left
  have hA' := hA.right
  rw [loB_len] at hA'
  have hA2 := hA'.left
  have hA'' := hA'.right
  rw [loB_len] at hA''
  have hA3 := hA''.left
  have hA4 := hA''.right
  rw [loB_len] at hA4
  have hA5 := hA4.left
  have hA6 := hA4.right
  rw [loRow_len] at hA6
  have hlen : (headB its).length = 14 + 3 * tellK (codesL its) 19 + ((runsL its).flatMap (partB (codesL its))).length := by
    have hk := hH.k19
    unfold headB
    rw [List.length_append, List.length_append, List.length_append, List.length_append, loB_len, loB_len, loB_len, loRow_len, List.length_take, show orderL.length = 19 from rfl, Nat.min_eq_left hk]
  rw [List.length_take, show orderL.length = 19 from rfl, Nat.min_eq_left hH.k19] at hA6
  rw [hlen]
  obtain ⟨RL, hRL⟩ : ∃ RL, RL = ((runsL its).flatMap (partB (codesL its))).length := ⟨_, rfl⟩
  rw [← hRL]
  obtain ⟨k, hk⟩ : ∃ k, k = tellK (codesL its) 19 := ⟨_, rfl⟩
  have hk4 := hH.k4
  have hk19 := hH.k19
  rw [← hk] at hA3 hA5 hA6 hk4 hk19 ⊢
  have hll1 := hH.ll1
  have hll2 := hH.ll2
  have hdl1 := hH.dl1
  have hdl2 := hH.dl2
  obtain ⟨nn, hnn⟩ : ∃ nn, nn = (litsL its).length := ⟨_, rfl⟩
  obtain ⟨dd, hdd⟩ : ∃ dd, dd = (distL its).length := ⟨_, rfl⟩
  rw [← hnn] at hll1 hll2 hA1
  rw [← hdd] at hdl1 hdl2 hA2
  have hv1 : Hid (p + 5 ≤ 8 * l.length → leN (((bytesB l).drop p).take 5) = nn - 257) := fun h => hA1.low (by omega) h
  have hv2 : Hid (p + 5 + 5 ≤ 8 * l.length → leN (((bytesB l).drop (p + 5)).take 5) = dd - 1) := fun h => hA2.low (by omega) h
  have hv3 : Hid (p + 5 + 5 + 4 ≤ 8 * l.length → leN (((bytesB l).drop (p + 5 + 5)).take 4) = k - 4) := fun h => hA3.low (by omega) h
  have hM1 := h.alloc (.cells #[.int .i64 0] 24)
  have hE1 := Blk.new w 24 #[.int .i64 0]
  have hO1 := hide ((Only.refl (SM gr gb vo) w).alloc (.cells #[.int .i64 0] 24))
  have hn1 := hide (need_m (w.alloc (.cells #[.int .i64 0] 24)) w.heap.size 5 0 hM1 hE1 hp hl (by omega) (.inl rfl))
  replace h := hide h
  replace hH := hide hH
  replace hA5 := hide hA5
  replace hA6 := hide hA6
  replace hRL := hide hRL
  replace hk := hide hk
  replace hnn := hide hnn
  replace hdd := hide hdd
  replace hM1 := hide hM1
  replace hE1 := hide hE1
  clear hA hA1 hA' hA2 hA'' hA3 hA4 hlen
  go_enter Tryz.func87, Tryz.ntmps87
  go_wp2_with fail
  generalize w.alloc (.cells #[.int .i64 0] 24) = w1 at *
  obtain ⟨ge, hge⟩ : ∃ ge, ge = w.heap.size := ⟨_, rfl⟩
  rw [← hge] at hn1 hE1 ⊢
  have hgew : w.heap.size ≤ ge := by omega
  replace hge := hide hge
  refine hn1.out.mono ?_
  rintro e w2 ⟨v1, p1, e1, rfl, hM2, hE2, hO2, hc1⟩
  obtain ⟨b1, q1, r1, s1⟩ := need_small hp (by omega) (.inl rfl) hc1
  have hn2 := hide (need_m w2 ge 5 e1 hM2 hE2 q1 hl (by omega) s1)
  have hS2 := hide (SE.new hO1.out hgew hO2)
  clear hn1 hM2 hE2 hO2 hO1
  go_wp2_with fail
  refine hn2.out.mono ?_
  rintro e w3 ⟨v2, p2, e2, rfl, hM3, hE3, hO3, hc2⟩
  obtain ⟨b2, q2, r2, s2⟩ := need_small q1 (by omega) s1 hc2
  have hn3 := hide (need_m w3 ge 4 e2 hM3 hE3 q2 hl (by omega) s2)
  have hS3 := hide (SE.new hS2.out hgew hO3)
  clear hn2 hM3 hE3 hO3 hS2
  go_wp2_with fail
  refine hn3.out.mono ?_
  rintro e w4 ⟨v3, p3, e3, rfl, hM4, hE4, hO4, hc3⟩
  obtain ⟨b3, q3, r3, s3⟩ := need_small q2 (by omega) s2 hc3
  have hS4 := hide (SE.new hS3.out hgew hO4)
  have f4 := hE4.cell 0
  clear hn3 hO4 hS3
  by_cases hp14 : p + 14 ≤ 8 * l.length
  · have hall : e3 = 0 ∧ p3 = p + 14 ∧ 257 + v1 = nn ∧ 1 + v2 = dd ∧ 4 + v3 = k := by
      have y1 := hv1.out
      have y2 := hv2.out
      have y3 := hv3.out
      rcases hc1 with ⟨a1, a2, rfl, rfl⟩ | ⟨a1, _⟩
      · rcases hc2 with ⟨a3, a4, rfl, rfl⟩ | ⟨a3, _⟩
        · rcases hc3 with ⟨a5, a6, rfl, rfl⟩ | ⟨a5, _⟩
          · rw [y1 a1] at a2
            rw [y2 a3] at a4
            rw [y3 a5] at a6
            omega
          · omega
        · omega
      · omega
    obtain ⟨rfl, rfl, z1, z2, z3⟩ := hall
    have I1 : (257 : Int) + (v1 : Int) = (nn : Int) := by omega
    have I2 : (1 : Int) + (v2 : Int) = (dd : Int) := by omega
    have I3 : (4 : Int) + (v3 : Int) = (k : Int) := by omega
    have J1 : ¬ (286 : Int) < (nn : Int) := by omega
    have J2 : ¬ (30 : Int) < (dd : Int) := by omega
    have hM5 := hide hM4
    have hE5 := hide hE4
    clear hM4 hE4 hc1 hc2 hc3 hv1 hv2 hv3 z1 z2 z3 q1 q2 r1 r2 r3 s1 s2 s3
    have ha1 := hide (Blk.new w4 77 (oftC []))
    have hM6 := hide (hM5.out.alloc (.cells (oftC []) 77))
    have hE6 := hide (hE5.out.alloc (.cells (oftC []) 77))
    have hS6 := hide (hS4.out.alloc (.cells (oftC []) 77))
    rw [oftC_nil] at ha1 hM6 hE6 hS6
    go_upto_region 8 with (fail)
    rw [← oftC_nil] at ha1 hM6 hE6 hS6 ⊢
    generalize w4.alloc (.cells (oftC []) 77) = w6 at *
    obtain ⟨gL, hgL⟩ : ∃ gL, gL = w4.heap.size := ⟨_, rfl⟩
    have hgLw : w.heap.size ≤ gL := by rw [hgL]; exact hS4.out.size
    rw [← hgL] at ha1 ⊢
    clear hM5 hE5 hS4 f4 hgL
    have hor := order_any w6
    obtain ⟨OC, hOC⟩ : ∃ OC, OC = ordC := ⟨_, rfl⟩
    have hos : Hid (OC.size = 19 ∧ OC.all (·.oneCell') = true) := by
      rw [hOC]; exact ⟨rfl, ord_one⟩
    have hoj : Hid (∀ j, j < 19 → OC[j]? = some (.int .i64 (orderL.getD j 0 : Int))) := fun j hj => by rw [hOC]; exact ordC_at j hj
    rw [← hOC] at hor
    replace hOC := hide hOC
    go_wp2_with fail
    refine hor.mono ?_
    rintro e w7 ⟨rfl, o, hw7⟩
    have hb7 : Below w6.heap.size w6 w7 := by rw [hw7]; exact (Below.refl _ _).alloc (Nat.le_refl _) _
    have ha7 := hide (ha1.out.below hb7 ha1.out.lt)
    have hM7 := hide (hM6.out.of_below hb7)
    have hE7 := hide (hE6.out.below hb7 hE6.out.lt)
    have hS7 := hide (hS6.out.trans (Only.of_below (S := SM gr gb vo) hb7) fun _ _ h => h)
    have hon : Hid (∀ (t : TypeId) (c' : Array Value), (w7.alloc (.cells c' t)).heap[w7.heap.size]? = some (.cells c' t (0, 0))) := fun t c' => heap_alloc_last w7 _
    have hsr : Hid ((w7.alloc (.cells (oftC []) 77)).setRow w7.heap.size OC = w7.alloc (.cells OC 77)) := World.setRow_alloc_new w7 _ _ _
    rw [oftC_nil] at hsr
    clear hw7 hb7 ha1 hM6 hE6 hS6 hor
    go_upto_region 9 with (refine wpList_store_rowTo rfl 77 (.tmp 8) (.tmp 31) rfl rfl w7.heap.size OC rfl rfl 77 _ (hon.out 77 _) (by rw [hos.out.1]; kernel_rfl) (by rw [hos.out.1]; rfl) hos.out.2 ?_)
    rw [hsr.out]
    have ha8 := hide (ha7.out.alloc (.cells OC 77))
    have hO8 := hide (Blk.new w7 77 OC)
    have hM8 := hide (hM7.out.alloc (.cells OC 77))
    have hE8 := hide (hE7.out.alloc (.cells OC 77))
    have hS8 := hide (hS7.out.alloc (.cells OC 77))
    generalize w7.alloc (.cells OC 77) = w8 at *
    obtain ⟨gO, hgO⟩ : ∃ gO, gO = w7.heap.size := ⟨_, rfl⟩
    rw [← hgO] at hO8 ⊢
    have hne : gL ≠ gO := by have := ha7.out.lt; omega
    have hgOw : w.heap.size ≤ gO := by rw [hgO]; exact hS7.out.size
    clear ha7 hM7 hE7 hS7 hon hsr hgO
    have hkI : (k : Int) ≤ 19 := by omega
    have hk0 : (0 : Int) ≤ (k : Int) := by omega
    go_wp2_with fail
    obtain ⟨CL, hCL⟩ : ∃ CL, CL = codesL its := ⟨_, rfl⟩
    rw [← hCL] at hA5 hA6 hRL hk
    replace hCL := hide hCL
    rw [show p + 5 + 5 + 4 = p + 14 by omega] at hA5 hA6
    obtain ⟨P, hP⟩ : ∃ P, P = p + 14 := ⟨_, rfl⟩
    rw [← hP] at hA5 hA6 hM8 hp14
    have h7 : Hid (∀ s, CL.getD s 0 ≤ 7) := by rw [hCL.out]; exact hH.out.c7
    have hin : Hid (CodesL w w8 B gr gb ge gL gO vb vo l P k CL out at_ st last left back pl pd OC 0 P 0) :=
      ⟨_, rfl, ha8.out, hO8.out, hE8.out, hM8.out, hS8.out, hp14, Nat.le_refl _, .inl ⟨rfl, by omega, rfl⟩⟩
    clear ha8 hM8 hE8 hS8 hO8
    go_loopw [35] (fun v35 wx => ∃ j pj ej : Nat, v35 = .int .i64 (j : Int) ∧ j ≤ k ∧ Hid (CodesL w wx B gr gb ge gL gO vb vo l P k CL out at_ st last left back pl pd OC j pj ej)) (fun v35 _ => k - (intOf v35).toNat)
    case atStart => exact ⟨0, P, 0, rfl, Nat.zero_le _, hin⟩
    case round =>
      clear hin
      obtain ⟨j, pj, ej, rfl, hj, hI⟩ := hrel
      by_cases hlt : j < k
      · obtain ⟨cs, x1, x2, x3, x4, x5, x6, x7, x8, x9⟩ := hI.out
        have cO : wr.cell? ⟨gO, j, none⟩ = some (.int .i64 (orderL.getD j 0 : Int)) := (x3.cell j).trans (hoj.out j (by omega))
        have hs19 := ord_lt j
        have hej : ej = 0 ∨ ej = 3 := by rcases x9 with x9 | x9 <;> omega
        have hnd := hide (need_m wr ge 3 ej x5 x4 x7 hl (by omega) hej)
        obtain ⟨S, hS⟩ : ∃ S, S = orderL.getD j 0 := ⟨_, rfl⟩
        rw [← hS] at cO hs19
        have hSI : (S : Int) < 19 := by omega
        have hS0 : (0 : Int) ≤ (S : Int) := by omega
        have hjI : (j : Int) < (k : Int) := by omega
        have hj0 : (0 : Int) ≤ (j : Int) := by omega
        have hx2 := hide x2
        have hx45 : Hid (∀ wy, Only (SE gr gb vo ge) wr wy → Blk wy gL 77 cs) := fun wy ho => x5.keepE x4 ho 77 (by decide) (by decide) (by decide) (by decide) _ _ x2
        replace hS := hide hS
        clear x2 x3 x4 x5 x6 x9
        go_wp2_with fail
        refine hnd.out.mono ?_
        rintro e w9 ⟨v, p9, e9, rfl, hM9, hE9, hO9, hc9⟩
        have hst : Hid (CodesL w (w9.setCell ⟨gL, S, none⟩ (.int .i64 (v : Int))) B gr gb ge gL gO vb vo l P k CL out at_ st last left back pl pd OC (j + 1) p9 e9) := by
          rw [hS.out]; exact CodesL.step hI.out hlt hk19 hgew hgLw hne hA5.out h7.out hM9 hE9 hO9 hc9
        have hb9 := hx45.out w9 hO9
        have f9 := hb9.frozen S
        have c9 := hb9.cell S
        rw [Array.getElem?_eq_getElem (by omega)] at c9
        generalize cs[S]'(by omega) = u9 at c9
        replace hb9 := hide hb9
        clear hM9 hE9 hO9 hc9 hx45 hnd
        go_wp2_with fail
        go_roundw
        case rel => exact ⟨j + 1, p9, e9, by go_num, hlt, hst⟩
        case measure => simp [intOf]; omega
      · obtain rfl : j = k := by omega
        obtain ⟨cs, x1, x2, x3, x4, x5, x6, x7, x8, x9⟩ := hI.out
        have f4 := x4.cell 0
        rcases x9 with ⟨rfl, rfl, rfl⟩ | ⟨rfl, x10⟩
        · have hcl : lensA CL j = CL := by rw [hk.out]; exact codes_back CL (by rw [hCL.out]; exact hH.out.cl19)
          have hokc : codeOk CL := by rw [hCL.out]; exact hH.out.okc
          have hmay : fillF CL = 0 ∨ CL.sum = 1 ∨ (false = true ∧ CL.sum = 0) := by
            have := hH.out.mayc
            rw [← hCL.out] at this
            rcases this with h | h
            · exact .inl (by unfold fillF; rw [if_pos h])
            · exact .inr (.inl h)
          have hlen19 : CL.length = 19 := by rw [hCL.out]; exact hH.out.cl19
          rw [hcl] at x2
          have hcd := hide (code_any wr gL 0 19 19 CL false (RN.of_blk x2 hlen19 x2.lt) (by omega) (by omega) hokc hmay)
          have hM9 := hide x5
          have hE9 := hide x4
          have hS9 := hide x6
          obtain ⟨Q, hQ⟩ : ∃ Q, Q = P + 3 * j := ⟨_, rfl⟩
          rw [← hQ] at hM9 hA6 x7
          replace hQ := hide hQ
          replace hP := hide hP
          replace hokc := hide hokc
          have hlen19h : Hid (19 ≤ CL.length) := by show _ ≤ _; omega
          clear x1 x2 x3 x4 x5 x6 x8 hcl hmay hlen19 hI f4 hA5
          have f4 : wr.cell? ⟨ge, 0, none⟩ = some (.int .i64 0) := hE9.out.cell 0
          go_wp2_with fail
          refine hcd.out.mono ?_
          rintro e wa ⟨gc, rfl, hC, hb⟩
          have hMa := hM9.out.of_below hb
          have hEa := hE9.out.below hb hE9.out.lt
          have hSa := SM.of_below hS9.out hb
          have fa := hEa.frozen 0
          have ca := hEa.cell 0
          have hMb := hide (hMa.setT (i := 0) hEa (by decide) (by decide) (by decide) (.int .i64 0))
          have hCb := hide (hC.setE hEa (.int .i64 0))
          have hSb := hide (SM.setE hSa hgew (.int .i64 0))
          have hEb := hide (hEa.set_ 0 (.int .i64 0))
          clear hMa hSa hcd hC hb hM9 hE9 hS9 f4
          replace hEa := hide hEa
          go_upto_region 17 with (fail)
          generalize wa.setCell ⟨ge, 0, none⟩ (.int .i64 0) = wb at *
          have fb : wb.cell? ⟨ge, 0, none⟩ = some (.int .i64 0) := hEb.out.cell 0
          obtain ⟨L, hL⟩ : ∃ L, L = litsL its ++ distL its := ⟨_, rfl⟩
          have hLl : L.length = nn + dd := by rw [hL, List.length_append, hnn.out, hdd.out]
          have hRA : RunsAt CL l Q [] (runsL its) L := ⟨hA6, by rw [hCL.out]; exact hH.out.runs, hH.out.runok, by rw [hL]; exact hH.out.back⟩
          have hlg := hide (rlengths_any wb B gr gb gc _ vb vo l Q out at_ st last left back pl pd CL (runsL its) L hMb.out hCb.out hokc.out x7 hl (by omega) hRA hlen19h.out)
          rw [← hRL.out, hLl] at hlg
          have I4 : (nn : Int) + (dd : Int) = ((nn + dd : Nat) : Int) := by push_cast; rfl
          obtain ⟨LN, hLN⟩ : ∃ LN, LN = nn + dd := ⟨_, rfl⟩
          rw [← hLN] at hlg hLl I4
          have hLNI : (LN : Int) ≤ 316 := by omega
          replace hL := hide hL
          replace hLN := hide hLN
          clear hRA ca fa hEa
          go_wp2_with fail
          refine hlg.out.mono ?_
          rintro e wd ⟨v, e1', p1', rfl, y1, y2, hMd, hOd, hcd⟩
          have hSd := SM.trans2 hSb.out hOd
          have hEd := hMb.out.keepT hOd _ (by decide) (by decide) (by decide) _ _ hEb.out
          have fd := hEd.frozen 0
          have cd := hEd.cell 0
          have hMe := hide (hMd.setT (i := 0) hEd (by decide) (by decide) (by decide) (.int .i64 (e1' : Int)))
          have hSe := hide (SM.setE hSd hgew (.int .i64 (e1' : Int)))
          have hEe := hide (hEd.set_ 0 (.int .i64 (e1' : Int)))
          have hdw : w.heap.size ≤ wb.heap.size := hSb.out.size
          rcases hcd with ⟨hpn, rfl, rfl, hON⟩ | ⟨hpn, rfl⟩
          · have hONe := hide (ON.setE hON hEd (.int .i64 ((0 : Nat) : Int)))
            obtain ⟨gv, cv, rfl, hgv, -⟩ := hON.ownb (by omega)
            rw [hLl] at hONe
            clear hlg hMd hOd hSd hON
            replace hEd := hide hEd
            have hMf : Hid (Mach (wd.setCell ⟨ge, 0, none⟩ (.int .i64 0)) B gr gb vb vo l (Q + RL) out at_ st last left back pl pd) := hMe
            have hSf : Hid (Only (SM gr gb vo) w (wd.setCell ⟨ge, 0, none⟩ (.int .i64 0))) := hSe
            have hEf : Hid (Blk (wd.setCell ⟨ge, 0, none⟩ (.int .i64 0)) ge 24 #[.int .i64 0]) := hEe
            have hNf : Hid (ON (wd.setCell ⟨ge, 0, none⟩ (.int .i64 0)) wb.heap.size (.slice (some ⟨gv, 0, none⟩) LN cv) LN L) := hONe
            clear hMe hSe hEe hONe
            go_upto_region 20 with (fail)
            generalize wd.setCell ⟨ge, 0, none⟩ (.int .i64 0) = wf at *
            have ff : wf.cell? ⟨ge, 0, none⟩ = some (.int .i64 0) := hEf.out.cell 0
            have h256 : 256 < L.length := by omega
            have c256 := OE.cell hNf.out (k := 256) h256
            have hx256 : 1 ≤ L[256] := by
              have h5 := hH.out.end_
              have h6 : (litsL its).getD 256 0 = L[256] := by
                have h7 : 256 < (litsL its).length := by rw [← hnn.out]; omega
                have h8 : L[256]? = (litsL its)[256]? := by rw [hL.out, List.getElem?_append_left h7]
                rw [List.getElem?_eq_getElem h256, List.getElem?_eq_getElem h7] at h8
                rw [List.getD_eq_getElem?_getD, List.getElem?_eq_getElem h7]
                exact (Option.some.inj h8).symm
              omega
            have c256' : wf.cell? ⟨gv, 256, none⟩ = some (.int .i64 ((L[256] : Nat) : Int)) := c256
            generalize L[256] = x256 at hx256 c256'
            have hcvl : LN ≤ cv ∧ cv ≤ maxLen := by
              obtain ⟨A', c', e', -, -, q1, q2⟩ := hNf.out.rn
              cases e'
              exact ⟨q1, q2⟩
            have hR := hNf.out.toRN
            have htl : L.take nn = litsL its := by rw [hL.out, hnn.out, List.take_left]
            have hdl : L.drop nn = distL its := by rw [hL.out, hnn.out, List.drop_left]
            have hRl := hR.take (k := nn) (by omega)
            rw [htl] at hRl
            have hRd := hide (hR.drop (k := nn) (by omega))
            rw [hdl] at hRd
            have hmayl : fillF (litsL its) = 0 ∨ (litsL its).sum = 1 ∨ (false = true ∧ (litsL its).sum = 0) := by
              rcases hH.out.mayl with h | h
              · exact .inl (by unfold fillF; rw [if_pos h])
              · exact .inr (.inl h)
            have hcl2 := hide (code_any wf gv 0 nn cv (litsL its) false hRl (by omega) (by omega) hH.out.okl hmayl)
            have hx0 : ((x256 : Int) == 0) = false := by rw [beq_eq_false_iff_ne]; omega
            have hnnc : (nn : Int) ≤ (cv : Int) := by omega
            have hnnl : (nn : Int) ≤ (LN : Int) := by omega
            have hnn0 : (0 : Int) ≤ (nn : Int) := by omega
            have h256I : (256 : Int) < (LN : Int) := by omega
            clear c256 hR hRl hmayl htl hdl fb fd cd
            go_upto_region 24 with (fail)
            go_wp2_with fail
            refine hcl2.out.mono ?_
            rintro e wg ⟨gl, rfl, hCl, hbg⟩
            have hMg := hMf.out.of_below hbg
            have hEg := hEf.out.below hbg hEf.out.lt
            have hSg := SM.of_below hSf.out hbg
            have hNg := OE.below hNf.out hbg (Nat.le_refl _)
            have r7 := hMg.rd.frozen 7
            have u7 := hMg.rd.cell 7
            have g0 := hEg.frozen 0
            have k0 := hEg.cell 0
            have hMh := hMg.set_ 7 (.pointer (some ⟨gl, 0, none⟩)) (at2 := at_) (st2 := st) (last2 := last) (left2 := left) (back2 := back) (pl2 := .pointer (some ⟨gl, 0, none⟩)) (pd2 := pd) rfl
            have hSh := SM.trans2 hSg (hMg.setO 7 (.pointer (some ⟨gl, 0, none⟩)))
            have hEh := hEg.far (p := ⟨gr, 7, none⟩) (Blk.ne_ hEg hMg.rd (by decide)) (.pointer (some ⟨gl, 0, none⟩))
            have hNh := ON.setR (i := 7) hNg hMg.rd (.pointer (some ⟨gl, 0, none⟩))
            have hCh := CodeAt.setR (i := 7) hCl hMg.rd (.pointer (some ⟨gl, 0, none⟩))
            have hMi := hide (hMh.setT (i := 0) hEh (by decide) (by decide) (by decide) (.int .i64 0))
            have hSi := hide (SM.setE hSh hgew (.int .i64 0))
            have hNi := ON.setE hNh hEh (.int .i64 0)
            have hCi := hide ((CodeAt.setE hCh hEh (.int .i64 0)).more hSf.out.size)
            have hEi := hide (hEh.set_ 0 (.int .i64 0))
            have hRi := (ON.toRN hNi).drop (k := nn) (by omega)
            rw [hL.out, hnn.out, List.drop_left, ← hnn.out] at hRi
            have hmayd : fillF (distL its) = 0 ∨ (distL its).sum = 1 ∨ (true = true ∧ (distL its).sum = 0) := by
              rcases hH.out.mayd with h | h | h
              · exact .inl (by unfold fillF; rw [if_pos h])
              · exact .inr (.inl h)
              · exact .inr (.inr ⟨rfl, h⟩)
            have hcl3 := hide (code_any _ gv nn (LN - nn) (cv - nn) (distL its) true hRi (by have := hLN.out; omega) (by omega) hH.out.okd hmayd)
            replace hEg := hide hEg
            clear hMg hSg hNg hMh hSh hEh hNh hCh hNi hRi hcl2 hRd hCl hbg hmayd hMf hSf hEf hNf ff
            go_upto_region 25 with (fail)
            generalize (wg.setCell ⟨gr, 7, none⟩ (.pointer (some ⟨gl, 0, none⟩))).setCell ⟨ge, 0, none⟩ (.int .i64 0) = wi at *
            have fi : wi.cell? ⟨ge, 0, none⟩ = some (.int .i64 0) := hEi.out.cell 0
            have hcvn : ¬ cv = nn := by omega
            have hcvI : (cv : Int) - (nn : Int) = ((cv - nn : Nat) : Int) := by omega
            have hddI : (LN : Int) - (nn : Int) = (dd : Int) := by omega
            clear r7 u7 g0 k0
            go_wp2_with fail
            refine hcl3.out.mono ?_
            rintro e wk ⟨gd, rfl, hCd, hbk⟩
            have hMk := hMi.out.of_below hbk
            have hEk := hEi.out.below hbk hEi.out.lt
            have hSk := SM.of_below hSi.out hbk
            have hCk := CodeAt.below hCi.out hbk (Nat.le_refl _)
            have r8 := hMk.rd.frozen 8
            have u8 := hMk.rd.cell 8
            have g0 := hEk.frozen 0
            have k0 := hEk.cell 0
            have hMl := hMk.set_ 8 (.pointer (some ⟨gd, 0, none⟩)) (at2 := at_) (st2 := st) (last2 := last) (left2 := left) (back2 := back) (pl2 := .pointer (some ⟨gl, 0, none⟩)) (pd2 := .pointer (some ⟨gd, 0, none⟩)) rfl
            have hSl := SM.trans2 hSk (hMk.setO 8 (.pointer (some ⟨gd, 0, none⟩)))
            have hEl := hEk.far (p := ⟨gr, 8, none⟩) (Blk.ne_ hEk hMk.rd (by decide)) (.pointer (some ⟨gd, 0, none⟩))
            have hCl := CodeAt.setR (i := 8) hCk hMk.rd (.pointer (some ⟨gd, 0, none⟩))
            have hDl := CodeAt.setR (i := 8) hCd hMk.rd (.pointer (some ⟨gd, 0, none⟩))
            have hMm := hide (hMl.setT (i := 0) hEl (by decide) (by decide) (by decide) (.int .i64 0))
            have hSm := hide (SM.setE hSl hgew (.int .i64 0))
            have hCm := hide (CodeAt.setE hCl hEl (.int .i64 0))
            have hDm := hide ((CodeAt.setE hDl hEl (.int .i64 0)).more hSi.out.size)
            have hEm := hide (hEl.set_ 0 (.int .i64 0))
            clear hMk hSk hCk hMl hSl hEl hCl hDl hcl3 hCd hbk hMi hSi hEi hCi fi
            replace hEk := hide hEk
            go_upto_region 28 with (fail)
            generalize (wk.setCell ⟨gr, 8, none⟩ (.pointer (some ⟨gd, 0, none⟩))).setCell ⟨ge, 0, none⟩ (.int .i64 0) = wm at *
            have fm : wm.cell? ⟨ge, 0, none⟩ = some (.int .i64 0) := hEm.out.cell 0
            clear r8 u8 g0 k0
            go_wp2_with fail
            go_ret
            have hend : p + (14 + 3 * j + RL) = Q + RL := by have := hP.out; have := hQ.out; omega
            exact ⟨_, _, Q + RL, 0, rfl, by omega, y1, hMm.out, hSm.out, .inl ⟨by omega, rfl, hend.symm, gl, gd, rfl, rfl, hCm.out, hDm.out⟩⟩
          · clear hlg hMd hOd hSd
            replace hEd := hide hEd
            go_wp2_with fail
            go_ret
            exact ⟨pl, pd, p1', 3, rfl, by have := hP.out; have := hQ.out; omega, y1, hMe.out, hSe.out, .inr ⟨by have := hP.out; have := hQ.out; omega, rfl⟩⟩
        · have hx5 := hide x5
          have hx6 := hide x6
          clear x5 x6 x2 x3
          replace x4 := hide x4
          go_wp2_with fail
          go_ret
          exact ⟨pl, pd, pj, 3, rfl, by omega, x7, hx5.out, hx6.out, .inr ⟨by omega, rfl⟩⟩
  · have he3 : e3 = 3 := by
      rcases hc1 with hc1 | hc1 <;> rcases hc2 with hc2 | hc2 <;> rcases hc3 with hc3 | hc3 <;> omega
    subst he3
    have hM5 := hide hM4
    clear hM4 hc1 hc2 hc3
    replace hE4 := hide hE4
    go_wp2_with fail
    go_ret
    exact ⟨pl, pd, p3, 3, rfl, by omega, q3, hM5.out, hS4.out, .inr ⟨by omega, rfl⟩⟩
end Go.Proofs.YtbchaomnjbkdhaaGreat
