/-
  Contract of deflate.shorter.
-/
import Derived.Test.YtbchaomnjbkdhaaGreatEQ
import Derived.BigQuiet
namespace Go.Proofs.YtbchaomnjbkdhaaGreat
open Go.RowKit
set_option linter.unusedVariables false
def ptC (p : Part) : List Value := [.int .i64 (p.symbol : Int), .int .i64 (p.wide : Int), .int .i64 (p.more : Int)]
/-- A row of parts of the call's own. -/
def OPt (w : World) (base : Nat) (v : Value) (l : List Part) : Prop := w.ownsRow base 79 3 v l.length (l.flatMap ptC)
theorem ptC_get (l : List Part) (j i : Nat) (x : Part) (h : l[j]? = some x) (hi : i < 3) : (l.flatMap ptC)[j * 3 + i]? = (ptC x)[i]? := by
  induction l generalizing j with
  | nil => cases h
  | cons y l ih =>
    rw [List.flatMap_cons]
    cases j with
    | zero =>
      have e : y = x := by simpa using h
      subst e
      rw [List.getElem?_append_left (by simp [ptC]; omega)]; congr 1; omega
    | succ j =>
      rw [List.getElem?_append_right (by simp [ptC]; omega)]
      have := ih j (by simpa using h)
      rw [← this]; congr 1; simp [ptC]; omega
/-- A row of parts. -/
def PartsAt (w : World) (A : Option Addr) (n : Nat) (l : List Part) : Prop :=
  l.length = n ∧ (0 < n → ∃ gi cur, A = some ⟨gi, 0, none⟩ ∧ Blk w gi 79 cur ∧ ∀ j x, l[j]? = some x → cur[j * 3]? = some (.int .i64 (x.symbol : Int)) ∧ cur[j * 3 + 1]? = some (.int .i64 (x.wide : Int)) ∧ cur[j * 3 + 2]? = some (.int .i64 (x.more : Int)))
theorem PartsAt.keep {w w' : World} {A : Option Addr} {n : Nat} {l : List Part} (h : PartsAt w A n l) (hk : KeepT 79 w w') : PartsAt w' A n l := by
  refine ⟨h.1, fun h0 => ?_⟩
  obtain ⟨gi, cur, e, hb, hc⟩ := h.2 h0
  exact ⟨gi, cur, e, hk _ _ hb, hc⟩
theorem PartsAt.elem {w : World} {A : Option Addr} {n : Nat} {l : List Part} (h : PartsAt w A n l) {j : Nat} (hj : j < n) (hl : j < l.length) : ∃ gi, A = some ⟨gi, 0, none⟩ ∧
    w.cell? ⟨gi, j * 3, none⟩ = some (.int .i64 (l[j].symbol : Int)) ∧ w.cell? ⟨gi, j * 3 + 1, none⟩ = some (.int .i64 (l[j].wide : Int)) ∧ w.cell? ⟨gi, j * 3 + 2, none⟩ = some (.int .i64 (l[j].more : Int)) := by
  obtain ⟨gi, cur, e, hb, hc⟩ := h.2 (by omega)
  obtain ⟨h1, h2, h3⟩ := hc j _ (List.getElem?_eq_getElem hl)
  exact ⟨gi, e, by rw [hb.cell]; exact h1, by rw [hb.cell]; exact h2, by rw [hb.cell]; exact h3⟩
theorem OPt.at_ {w : World} {base : Nat} {v : Value} {l : List Part} (h : OPt w base v l) : ∃ A c, v = .slice A l.length c ∧ PartsAt w A l.length l := by
  obtain ⟨h1, h2⟩ := h
  rcases h2 with ⟨rfl, h2⟩ | ⟨g, cap, cur, rfl, hg, hh, hn, hc, hs, ht⟩
  · exact ⟨none, 0, by rw [h2], rfl, fun h0 => by omega⟩
  · refine ⟨_, _, rfl, rfl, fun h0 => ⟨g, cur, rfl, hh, fun j x hj => ?_⟩⟩
    have hjl : j < l.length := by
      rcases Nat.lt_or_ge j l.length with h | h
      · exact h
      · rw [List.getElem?_eq_none h] at hj; cases hj
    have hget : ∀ i, i < 3 → cur[j * 3 + i]? = (ptC x)[i]? := by
      intro i hi
      rw [← ptC_get l j i x hj hi, ← ht, List.getElem?_take, if_pos (by omega), Array.getElem?_toList]
    exact ⟨hget 0 (by omega), hget 1 (by omega), hget 2 (by omega)⟩
theorem part_info : (Tryz.prog.info? 79).map (fun i => (i.zero, i.size, i.bytes)) = some (some (.agg #[.int .i64 0, .int .i64 0, .int .i64 0]), 3, 24) := by kernel_rfl
theorem reads_six (w : World) (a b c d e f : Value) (t : TypeId) : Reads (w.alloc (.cells #[a, b, c, d, e, f] t)) (w.heap.size + 1) 3 (some ⟨w.heap.size, 0, none⟩) 2 [a, b, c, d, e, f] := by
  refine ⟨by simp, fun _ => ⟨_, rfl, by simp, fun j x hj => ?_⟩⟩
  have hb := Blk.new w t #[a, b, c, d, e, f]
  have e : (Addr.mk w.heap.size 0 none).add j = ⟨w.heap.size, j, none⟩ := by
    unfold Addr.add
    by_cases h0 : j = 0
    · subst h0; rfl
    · rw [if_neg h0]; simp
  rw [e, hb.cell]
  simpa using hj
section
variable {ops : Array Oper} {rest : List Oper} {o : Oper} {a : Act} {Q : Exit → Act → World → Prop}
/-- append(v, p), one part. -/
theorem wpList_app_pt {w : World} {t : TypeId} (x : Part) {x0 x1 x2 : Int} (hc : x0 = (x.symbol : Int)) (hl : x1 = (x.wide : Int)) (hf : x2 = (x.more : Int)) (hgd : o.guard = none) (s y : Operand) (ho : o.op = .call { callee := .builtin .append, args := #[s, y], argTypes := #[75, 75] })
    (base : Nat) (v : Value) (l : List Part) (hown : OPt w base v l) (hs : a.eval s = v) (c : Nat) (hy : a.eval y = .slice (some ⟨w.heap.size, 0, none⟩) 1 c) (hlen : l.length + 1 ≤ 10000000) (hbase : base ≤ w.heap.size)
    (h : ∀ v' w', OPt w' base v' (l ++ [x]) → Below base w w' → wpList Tryz.prog ops Q rest (a.put o.dst v') w') :
    wpList Tryz.prog ops Q (o :: rest) a (w.alloc (.cells #[.int .i64 x0, .int .i64 x1, .int .i64 x2] t)) := by
  subst hc hl hf
  obtain ⟨i0, hi0, hz0, hz1, hz2⟩ := info_parts part_info
  refine wpList_append_any _ hgd s y _ ho base 79 i0 _ 3 24 Tryz.underlying75 hi0 hz0 hz1 hz2 rfl (by omega) v l.length (l.flatMap ptC) hs (World.ownsRow.alloc hown _) _ _ 1 c (ptC x) hy (reads_three w _ _ _ t) (by intro u hu; simp [ptC] at hu; rcases hu with rfl | rfl | rfl <;> rfl)
    (by simp only [maxLen]; omega) (by omega) (by simp; omega) fun v' w' h1 h2 h3 => ?_
  have e : l.flatMap ptC ++ ptC x = (l ++ [x]).flatMap ptC := by simp
  rw [e] at h1
  exact h v' w' (by unfold OPt; rw [List.length_append]; exact h1) (((Below.refl _ _).alloc hbase _).trans ((Below.refl _ _).grown h2 (by simp; omega) fun k hk => (World.ownsRow.lt hown k hk).1))
/-- append(v, p, q), two parts. -/
theorem wpList_app_pt2 {w : World} {t : TypeId} (x z : Part) {x0 x1 x2 z0 z1 z2 : Int} (hc : x0 = (x.symbol : Int)) (hl : x1 = (x.wide : Int)) (hf : x2 = (x.more : Int)) (hc' : z0 = (z.symbol : Int)) (hl' : z1 = (z.wide : Int)) (hf' : z2 = (z.more : Int)) (hgd : o.guard = none) (s y : Operand) (ho : o.op = .call { callee := .builtin .append, args := #[s, y], argTypes := #[75, 75] })
    (base : Nat) (v : Value) (l : List Part) (hown : OPt w base v l) (hs : a.eval s = v) (c : Nat) (hy : a.eval y = .slice (some ⟨w.heap.size, 0, none⟩) 2 c) (hlen : l.length + 2 ≤ 10000000) (hbase : base ≤ w.heap.size)
    (h : ∀ v' w', OPt w' base v' (l ++ [x, z]) → Below base w w' → wpList Tryz.prog ops Q rest (a.put o.dst v') w') :
    wpList Tryz.prog ops Q (o :: rest) a (w.alloc (.cells #[.int .i64 x0, .int .i64 x1, .int .i64 x2, .int .i64 z0, .int .i64 z1, .int .i64 z2] t)) := by
  subst hc hl hf hc' hl' hf'
  obtain ⟨i0, hi0, hz0, hz1, hz2⟩ := info_parts part_info
  refine wpList_append_any _ hgd s y _ ho base 79 i0 _ 3 24 Tryz.underlying75 hi0 hz0 hz1 hz2 rfl (by omega) v l.length (l.flatMap ptC) hs (World.ownsRow.alloc hown _) _ _ 2 c (ptC x ++ ptC z) hy (reads_six w _ _ _ _ _ _ t) (by intro u hu; simp [ptC] at hu; rcases hu with rfl | rfl | rfl | rfl | rfl | rfl <;> rfl)
    (by simp only [maxLen]; omega) (by omega) (by simp; omega) fun v' w' h1 h2 h3 => ?_
  have e : l.flatMap ptC ++ (ptC x ++ ptC z) = (l ++ [x, z]).flatMap ptC := by simp
  rw [e] at h1
  exact h v' w' (by unfold OPt; rw [List.length_append]; exact h1) (((Below.refl _ _).alloc hbase _).trans ((Below.refl _ _).grown h2 (by simp; omega) fun k hk => (World.ownsRow.lt hown k hk).1))
end
theorem tw_ge (a : Nat) : ∀ (l : List Nat) (r : Nat), (∀ j, j < r → l[j]? = some a) → r ≤ (l.takeWhile (· == a)).length
  | l, 0, _ => Nat.zero_le _
  | [], r + 1, h => by have := h 0 (by omega); cases this
  | b :: l, r + 1, h => by
    have hb : b = a := by simpa using h 0 (by omega)
    subst hb
    rw [List.takeWhile_cons_of_pos (by simp), List.length_cons]
    have := tw_ge b l r (fun j hj => by simpa using h (j + 1) (by omega))
    omega
theorem tw_le (a b : Nat) (hb : b ≠ a) : ∀ (l : List Nat) (r : Nat), l[r]? = some b → (l.takeWhile (· == a)).length ≤ r
  | [], r, h => by cases h
  | c :: l, 0, h => by
    have : c = b := by simpa using h
    subst this
    rw [List.takeWhile_cons_of_neg (by simpa using hb)]; simp
  | c :: l, r + 1, h => by
    rw [List.takeWhile_cons]
    split
    · rw [List.length_cons]
      have := tw_le a b hb l r (by simpa using h)
      omega
    · simp
theorem headRun_is (l : List Nat) (r : Nat) (hr : r ≤ l.length) (h138 : r ≤ 138) (hall : ∀ j, j < r → l[j]? = some (l.headD 0)) (hend : r = 138 ∨ r = l.length ∨ ∃ b, l[r]? = some b ∧ b ≠ l.headD 0) : headRun l = r := by
  unfold headRun
  have h1 := tw_ge (l.headD 0) l r hall
  have h2 : (l.takeWhile (· == l.headD 0)).length ≤ l.length := (List.takeWhile_sublist _).length_le
  rcases hend with h | h | ⟨b, h3, h4⟩
  · omega
  · omega
  · have := tw_le (l.headD 0) b h4 l r h3
    omega
theorem short_step (l : List Nat) (i : Nat) (hi : i < l.length) : shortF (l.length - i) (l.drop i) =
    if l.getD i 0 = 0 ∧ 11 ≤ headRun (l.drop i) then ⟨18, 7, headRun (l.drop i) - 11⟩ :: shortF (l.length - (i + headRun (l.drop i))) (l.drop (i + headRun (l.drop i)))
    else if l.getD i 0 = 0 ∧ 3 ≤ headRun (l.drop i) then ⟨17, 3, headRun (l.drop i) - 3⟩ :: shortF (l.length - (i + headRun (l.drop i))) (l.drop (i + headRun (l.drop i)))
    else if 0 < l.getD i 0 ∧ 4 ≤ headRun (l.drop i) then ⟨l.getD i 0, 0, 0⟩ :: ⟨16, 2, min (headRun (l.drop i)) 7 - 4⟩ :: shortF (l.length - (i + min (headRun (l.drop i)) 7)) (l.drop (i + min (headRun (l.drop i)) 7))
    else ⟨l.getD i 0, 0, 0⟩ :: shortF (l.length - (i + 1)) (l.drop (i + 1)) := by
  obtain ⟨f, hf⟩ : ∃ f, l.length - i = f + 1 := ⟨l.length - i - 1, by omega⟩
  have hd : l.drop i = l.getD i 0 :: l.drop (i + 1) := by
    rw [List.drop_eq_getElem_cons hi, List.getD_eq_getElem?_getD, List.getElem?_eq_getElem hi]; rfl
  have hb := headRun_cons (l.getD i 0) (l.drop (i + 1))
  have ht : ∀ k, 1 ≤ k → shortF f ((l.drop i).drop k) = shortF (l.length - (i + k)) (l.drop (i + k)) := by
    intro k hk
    rw [List.drop_drop]
    exact short_fuel _ _ _ (by rw [List.length_drop]; omega) (by rw [List.length_drop]; omega)
  have ht1 : shortF f (l.drop (i + 1)) = shortF (l.length - (i + 1)) (l.drop (i + 1)) := by
    have := ht 1 (Nat.le_refl _)
    rwa [List.drop_drop] at this
  rw [hf]
  conv => lhs; rw [hd, shortF]
  rw [← hd] at hb ⊢
  rw [ht _ hb.1, ht1]
  congr 1
  congr 1
  by_cases h3 : 0 < l.getD i 0 ∧ 4 ≤ headRun (l.drop i)
  · rw [if_pos h3, if_pos h3, ht _ (by omega)]
  · rw [if_neg h3, if_neg h3]
/-- What shorter returns. -/
def ShortRet (w : World) (l : List Part) (e : Ending) (w' : World) : Prop := ∃ A c, e = .returned (.slice A l.length c) ∧ PartsAt w' A l.length l ∧ Below w.heap.size w w'
structure ShI (w0 w : World) (v : Value) (l : List Nat) (ps : List Part) (i : Nat) : Prop where
  out : OPt w w0.heap.size v ps
  bel : Below w0.heap.size w0 w
  rest : shortL l = ps ++ shortF (l.length - i) (l.drop i)
  few : ps.length ≤ 2 * i
set_option maxRecDepth 100000 in
set_option maxHeartbeats 8000000 in
theorem shorter_any (w : World) (A : Option Addr) (n c : Nat) (l : List Nat) (hr : RN w w.heap.size A n l) (hn : n ≤ 400) (hv : ∀ k, l.getD k 0 ≤ 1000) :
    Calls Tryz.prog 37 #[.slice A n c] w (ShortRet w (shortL l)) := by
  have hlen := hide hr.len
  replace hr := hide hr
  replace hv := hide hv
  go_enter Tryz.func37, Tryz.ntmps37
  go_wp2_with fail
  go_loopw [3, 4] (fun v3 v4 wr => ∃ (i : Nat) (ps : List Part), v4 = .int .i64 i ∧ i ≤ n ∧ Hid (ShI w wr v3 l ps i)) (fun _ v4 _ => n - (intOf v4).toNat)
  case atStart => exact ⟨0, [], rfl, Nat.zero_le _, ⟨⟨by simp, .inl ⟨rfl, rfl⟩⟩, Below.refl _ _, by simp [shortL], Nat.le_refl _⟩⟩
  case round =>
    obtain ⟨i, ps, rfl, hi, hI⟩ := hrel
    by_cases hlt : i < n
    · have hil : i < l.length := by have := hlen.out; omega
      obtain ⟨A3, c3, rfl, _⟩ := hI.out.out.at_
      have hRN := hide (hr.out.below hI.out.bel)
      obtain ⟨ad, rfl, _, ci⟩ := hRN.out.elem hlt
      have hai := hv.out i
      have hdrop : Hid (l.drop i = l.getD i 0 :: l.drop (i + 1)) := by
        rw [Hid, List.drop_eq_getElem_cons hil, List.getD_eq_getElem?_getD, List.getElem?_eq_getElem hil]; rfl
      obtain ⟨R, hR⟩ : ∃ R, R = headRun (l.drop i) := ⟨_, rfl⟩
      have hRb := headRun_cons (l.getD i 0) (l.drop (i + 1))
      rw [← hdrop.out, ← hR, List.length_drop] at hRb
      obtain ⟨hR1, hR138, hRl, _⟩ := hRb
      replace hR := hide hR
      have hga : ∀ j, j < l.length → l[j]? = some (l.getD j 0) := fun j hj => by rw [List.getD_eq_getElem?_getD, List.getElem?_eq_getElem hj]; rfl
      replace hga := hide hga
      go_upto_block 2 with (fail)
      go_cut [5] (fun v5 wx => ∃ q, v5 = .int .i64 (R : Int) ∧ wx = wr.drewN q)
      case first =>
        go_wp2_with fail
        go_loopw [5] (fun v5 wx => ∃ r q, v5 = .int .i64 ((r : Nat) : Int) ∧ 1 ≤ r ∧ r ≤ 138 ∧ i + r ≤ n ∧ Hid (∀ j, j < r → l[i + j]? = some (l.getD i 0)) ∧ Hid (wx = wr.drewN q)) (fun v5 _ => 139 - (intOf v5).toNat)
        case atStart =>
          have hone : ∀ j, j < 1 → l[i + j]? = some (l.getD i 0) := by
            intro j hj
            have : j = 0 := by omega
            subst this
            exact hga.out i hil
          exact ⟨1, 0, rfl, Nat.le_refl _, by omega, by omega, hone, rfl⟩
        case round =>
          obtain ⟨r, q, rfl, hr1, hr138, hir, hall, hwx⟩ := hrel
          have hRis : Hid ((r = 138 ∨ i + r = n ∨ l.getD (i + r) 0 ≠ l.getD i 0 ∧ i + r < n) → R = r) := by
            intro h
            rw [hR.out]
            have hh : (l.drop i).headD 0 = l.getD i 0 := by rw [hdrop.out]; rfl
            refine headRun_is _ r (by rw [List.length_drop]; have := hlen.out; omega) hr138 (fun j hj => by rw [List.getElem?_drop, hh]; exact hall.out j hj) ?_
            rcases h with h | h | ⟨h1, h2⟩
            · exact .inl h
            · exact .inr (.inl (by rw [List.length_drop]; have := hlen.out; omega))
            · exact .inr (.inr ⟨_, by rw [List.getElem?_drop]; exact hga.out (i + r) (by have := hlen.out; omega), by rw [hh]; exact h1⟩)
          have ci' : wr.cell? (ad.add i) = some (.int .i64 ((l.getD i 0 : Nat) : Int)) := by rw [hwx.out]; exact ci
          have hw1 : IntKind.i64.wrap ((i : Int) + (r : Int)) = ((i + r : Nat) : Int) := by rw [IntWalk.i64_in _ (by omega)]; push_cast; rfl
          by_cases c1 : i + r < n
          · obtain ⟨ad', e', _, cr⟩ := hRN.out.elem c1
            cases e'
            have cr' : wr.cell? (ad.add (i + r)) = some (.int .i64 ((l.getD (i + r) 0 : Nat) : Int)) := by rw [hwx.out]; exact cr
            have hbr := hv.out (i + r)
            have hgr := hga.out (i + r) (by have := hlen.out; omega)
            have e1 : decide (((i + r : Nat) : Int) < (n : Int)) = true := by simp; omega
            have e1' : ((i + r : Nat) : Int) < (n : Int) := by omega
            have e10 : (0 : Int) ≤ ((i + r : Nat) : Int) := by omega
            have ei0 : (0 : Int) ≤ (i : Int) := by omega
            have him2 : i + (r + 1) ≤ n := by omega
            obtain ⟨x, hxe⟩ : ∃ x, x = l.getD (i + r) 0 := ⟨_, rfl⟩
            obtain ⟨a, hae⟩ : ∃ a, a = l.getD i 0 := ⟨_, rfl⟩
            rw [← hxe] at cr' hbr hgr hRis
            rw [← hae] at ci' hRis hall
            replace hxe := hide hxe
            replace hae := hide hae
            by_cases c2 : x = a
            · have e2 : ((x : Int) == (a : Int)) = true := by rw [beq_iff_eq]; omega
              have e2' : (x : Int) = (a : Int) := by omega
              by_cases c3 : r < 138
              · have e3 : decide ((r : Int) < 138) = true := by simp; omega
                have e3' : (r : Int) < 138 := by omega
                have hall2 : Hid (∀ j, j < r + 1 → l[i + j]? = some a) := fun j hj => by
                  by_cases hjr : j < r
                  · exact hall.out j hjr
                  · have : j = r := by omega
                    subst this
                    rw [hgr, c2]
                subst c2
                replace hgr := hide hgr
                generalize i + r = ir at *
                go_wp2_with fail
                go_quiet (fail)
                go_wp2_with fail
                go_roundw
                case rel => exact ⟨r + 1, q + nq, by go_num, by omega, by omega, him2, by rw [← hae.out]; exact hall2, by rw [Hid, hwx.out, World.drewN_drewN]⟩
                case measure => simp [intOf]; omega
              · have e3 : decide ((r : Int) < 138) = false := by simp; omega
                have e3' : ¬ (r : Int) < 138 := by omega
                have e3'' : (138 : Int) ≤ (r : Int) := by omega
                have hRr := hide (hRis.out (.inl (by omega)))
                subst c2
                replace hgr := hide hgr
                generalize i + r = ir at *
                go_wp2_with fail
                go_quiet (fail)
                go_wp2_with fail
                go_meet
                case rel => exact ⟨q + nq, by rw [hRr.out], by rw [hwx.out, World.drewN_drewN]⟩
            · have e2 : ((x : Int) == (a : Int)) = false := by rw [beq_eq_false_iff_ne]; omega
              have e2' : ¬ (x : Int) = (a : Int) := by omega
              have hRr := hide (hRis.out (.inr (.inr ⟨c2, c1⟩)))
              replace c2 := hide c2
              replace hgr := hide hgr
              generalize i + r = ir at *
              go_wp2_with fail
              go_quiet (fail)
              go_wp2_with fail
              go_meet
              case rel => exact ⟨q + nq, by rw [hRr.out], by rw [hwx.out, World.drewN_drewN]⟩
          · have e1 : decide (((i + r : Nat) : Int) < (n : Int)) = false := by simp; omega
            have e1' : ¬ ((i + r : Nat) : Int) < (n : Int) := by omega
            have e1'' : (n : Int) ≤ ((i + r : Nat) : Int) := by omega
            have hRr := hide (hRis.out (.inr (.inl (by omega))))
            generalize i + r = ir at *
            go_wp2_with fail
            go_quiet (fail)
            go_wp2_with fail
            go_meet
            case rel => exact ⟨q + nq, by rw [hRr.out], by rw [hwx.out, World.drewN_drewN]⟩
      case rest =>
        obtain ⟨q, rfl, rfl⟩ := hcut
        have hO : Hid (OPt (wr.drewN q) w.heap.size (.slice A3 ps.length c3) ps) := hI.out.out
        have hB : Hid (Below w.heap.size w (wr.drewN q)) := below_drewN hI.out.bel q
        have hst : Hid (shortL l = ps ++ shortF (l.length - i) (l.drop i)) := hI.out.rest
        have hss := hide (short_step l i hil)
        have hfew := hI.out.few
        have cq : (wr.drewN q).cell? (ad.add i) = some (.int .i64 ((l.getD i 0 : Nat) : Int)) := ci
        obtain ⟨wq, hwq⟩ : ∃ x, x = wr.drewN q := ⟨_, rfl⟩
        rw [← hwq] at hO hB cq ⊢
        clear hwq hI ci
        rw [← hR.out] at hss
        obtain ⟨a, hae⟩ : ∃ a, a = l.getD i 0 := ⟨_, rfl⟩
        rw [← hae] at cq hai hss
        replace hae := hide hae
        have hbs := hB.out.size
        by_cases ha : a = 0
        · subst ha
          by_cases h11 : 11 ≤ R
          · have hs2 : Hid (shortL l = (ps ++ [⟨18, 7, R - 11⟩]) ++ shortF (l.length - (i + R)) (l.drop (i + R))) := by
              rw [Hid, hst.out, hss.out, if_pos ⟨rfl, h11⟩]; simp
            have e1 : decide ((11 : Int) ≤ (R : Int)) = true := by simp; omega
            have e1' : (11 : Int) ≤ (R : Int) := by omega
            have hsub : (R : Int) - 11 = ((R - 11 : Nat) : Int) := by omega
            have hir : i + R ≤ n := by have := hlen.out; omega
            clear hst hss
            go_wp2_with (first | (at_builtin; refine wpList_app_pt ⟨18, 7, R - 11⟩ rfl rfl rfl rfl (.tmp 53) (.tmp 57) rfl w.heap.size _ ps hO.out rfl 1 rfl (by omega) (by omega) ?_; intro v2 w2 ho2 hb2) | fail)
            have hI3 : Hid (ShI w w2 v2 l (ps ++ [⟨18, 7, R - 11⟩]) (i + R)) := ⟨ho2, hB.out.trans hb2, hs2.out, by rw [List.length_append]; simp; omega⟩
            clear ho2 hb2 hO hB
            go_wp2_with fail
            go_roundw
            case rel => exact ⟨i + R, _, by go_num, hir, hI3⟩
            case measure => simp [intOf]; omega
          · have n11 : decide ((11 : Int) ≤ (R : Int)) = false := by simp; omega
            have n11' : ¬ (11 : Int) ≤ (R : Int) := by omega
            have n11'' : (R : Int) < 11 := by omega
            by_cases h3 : 3 ≤ R
            · have e1 : decide ((3 : Int) ≤ (R : Int)) = true := by simp; omega
              have e1' : (3 : Int) ≤ (R : Int) := by omega
              have hsub : (R : Int) - 3 = ((R - 3 : Nat) : Int) := by omega
              have hs2 : Hid (shortL l = (ps ++ [⟨17, 3, R - 3⟩]) ++ shortF (l.length - (i + R)) (l.drop (i + R))) := by
                rw [Hid, hst.out, hss.out, if_neg (fun h => h11 h.2), if_pos ⟨rfl, h3⟩]; simp
              have hir : i + R ≤ n := by have := hlen.out; omega
              clear hst hss
              go_wp2_with (first | (at_builtin; refine wpList_app_pt ⟨17, 3, R - 3⟩ rfl rfl rfl rfl (.tmp 69) (.tmp 73) rfl w.heap.size _ ps hO.out rfl 1 rfl (by omega) (by omega) ?_; intro v2 w2 ho2 hb2) | fail)
              have hI3 : Hid (ShI w w2 v2 l (ps ++ [⟨17, 3, R - 3⟩]) (i + R)) := ⟨ho2, hB.out.trans hb2, hs2.out, by rw [List.length_append]; simp; omega⟩
              clear ho2 hb2 hO hB
              go_wp2_with fail
              go_roundw
              case rel => exact ⟨i + R, _, by go_num, hir, hI3⟩
              case measure => simp [intOf]; omega
            · have e1 : decide ((3 : Int) ≤ (R : Int)) = false := by simp; omega
              have e1' : ¬ (3 : Int) ≤ (R : Int) := by omega
              have e1'' : (R : Int) < 3 := by omega
              have hs2 : Hid (shortL l = (ps ++ [⟨0, 0, 0⟩]) ++ shortF (l.length - (i + 1)) (l.drop (i + 1))) := by
                rw [Hid, hst.out, hss.out, if_neg (fun h => h11 h.2), if_neg (fun h => h3 h.2), if_neg (fun h => by omega)]; simp
              have hir : i + 1 ≤ n := by have := hlen.out; omega
              clear hst hss
              go_wp2_with (first | (at_builtin; refine wpList_app_pt ⟨0, 0, 0⟩ rfl rfl rfl rfl (.tmp 35) (.tmp 41) rfl w.heap.size _ ps hO.out rfl 1 rfl (by omega) (by omega) ?_; intro v2 w2 ho2 hb2) | fail)
              have hI3 : Hid (ShI w w2 v2 l (ps ++ [⟨0, 0, 0⟩]) (i + 1)) := ⟨ho2, hB.out.trans hb2, hs2.out, by rw [List.length_append]; simp; omega⟩
              clear ho2 hb2 hO hB
              go_wp2_with fail
              go_roundw
              case rel => exact ⟨i + 1, _, by go_num, hir, hI3⟩
              case measure => simp [intOf]; omega
        · have ha0 : ((a : Int) == 0) = false := by rw [beq_eq_false_iff_ne]; omega
          have hap : decide ((0 : Int) < (a : Int)) = true := by simp; omega
          have hap' : (0 : Int) < (a : Int) := by omega
          have hapn : 0 < a := by omega
          have hapd : decide (0 < a) = true := by simp; omega
          by_cases h4 : 4 ≤ R
          · have e1 : decide ((4 : Int) ≤ (R : Int)) = true := by simp; omega
            have e1' : (4 : Int) ≤ (R : Int) := by omega
            have hmin : min (R : Int) 7 = ((min R 7 : Nat) : Int) := by omega
            obtain ⟨R7, hR7⟩ : ∃ R7, R7 = min R 7 := ⟨_, rfl⟩
            have hR7b : R7 ≤ R ∧ 4 ≤ R7 ∧ R7 ≤ 7 := by omega
            obtain ⟨hR71, hR72, hR73⟩ := hR7b
            rw [← hR7] at hmin hss
            replace hR7 := hide hR7
            have hsub : (R7 : Int) - 4 = ((R7 - 4 : Nat) : Int) := by omega
            have hs2 : Hid (shortL l = (ps ++ [⟨a, 0, 0⟩, ⟨16, 2, R7 - 4⟩]) ++ shortF (l.length - (i + R7)) (l.drop (i + R7))) := by
              rw [Hid, hst.out, hss.out, if_neg (fun h => ha h.1), if_neg (fun h => ha h.1), if_pos ⟨by omega, h4⟩]; simp
            have hir : i + R7 ≤ n := by have := hlen.out; omega
            clear hst hss
            go_wp2_with (first | (at_builtin; refine wpList_app_pt2 ⟨a, 0, 0⟩ ⟨16, 2, R7 - 4⟩ rfl rfl rfl rfl rfl rfl rfl (.tmp 87) (.tmp 96) rfl w.heap.size _ ps hO.out rfl 2 rfl (by omega) (by omega) ?_; intro v2 w2 ho2 hb2) | fail)
            have hI3 : Hid (ShI w w2 v2 l (ps ++ [⟨a, 0, 0⟩, ⟨16, 2, R7 - 4⟩]) (i + R7)) := ⟨ho2, hB.out.trans hb2, hs2.out, by rw [List.length_append]; simp; omega⟩
            clear ho2 hb2 hO hB
            go_wp2_with fail
            go_roundw
            case rel => exact ⟨i + R7, _, by go_num, hir, hI3⟩
            case measure => simp [intOf]; omega
          · have e1 : decide ((4 : Int) ≤ (R : Int)) = false := by simp; omega
            have e1' : ¬ (4 : Int) ≤ (R : Int) := by omega
            have e1'' : (R : Int) < 4 := by omega
            have hs2 : Hid (shortL l = (ps ++ [⟨a, 0, 0⟩]) ++ shortF (l.length - (i + 1)) (l.drop (i + 1))) := by
              rw [Hid, hst.out, hss.out, if_neg (fun h => ha h.1), if_neg (fun h => ha h.1), if_neg (fun h => h4 h.2)]; simp
            have hir : i + 1 ≤ n := by have := hlen.out; omega
            clear hst hss
            go_wp2_with (first | (at_builtin; refine wpList_app_pt ⟨a, 0, 0⟩ rfl rfl rfl rfl (.tmp 35) (.tmp 41) rfl w.heap.size _ ps hO.out rfl 1 rfl (by omega) (by omega) ?_; intro v2 w2 ho2 hb2) | fail)
            have hI3 : Hid (ShI w w2 v2 l (ps ++ [⟨a, 0, 0⟩]) (i + 1)) := ⟨ho2, hB.out.trans hb2, hs2.out, by rw [List.length_append]; simp; omega⟩
            clear ho2 hb2 hO hB
            go_wp2_with fail
            go_roundw
            case rel => exact ⟨i + 1, _, by go_num, hir, hI3⟩
            case measure => simp [intOf]; omega
    · obtain rfl : i = n := by omega
      have hfin : Hid (shortL l = ps) := by
        have hln := hlen.out
        rw [Hid, hI.out.rest, ← hln, Nat.sub_self]; simp [shortF]
      obtain ⟨A3, c3, rfl, hat⟩ := hI.out.out.at_
      have hbel := hide hI.out.bel
      replace hat := hide hat
      clear hI
      go_wp2_with fail
      go_ret
      unfold ShortRet
      rw [hfin.out]
      exact ⟨A3, c3, rfl, hat.out, hbel.out⟩
end Go.Proofs.YtbchaomnjbkdhaaGreat
