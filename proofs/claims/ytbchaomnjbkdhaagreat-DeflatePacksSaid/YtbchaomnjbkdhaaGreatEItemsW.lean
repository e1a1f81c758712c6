/-
  Contract of deflate.items.
-/
import Derived.Test.YtbchaomnjbkdhaaGreatEMapW
import Derived.Test.YtbchaomnjbkdhaaGreatEWriteW
import Derived.BigQuiet
namespace Go.Proofs.YtbchaomnjbkdhaaGreat
open Go.RowKit
set_option linter.unusedVariables false
def itC (x : Item) : List Value := [.int .u8 (x.c.toNat : Int), .int .i64 (x.long : Int), .int .i64 (x.far : Int)]
/-- A row of items of the call's own. -/
def OIt (w : World) (base : Nat) (v : Value) (l : List Item) : Prop := w.ownsRow base 107 3 v l.length (l.flatMap itC)
theorem itC_get (l : List Item) (j i : Nat) (x : Item) (h : l[j]? = some x) (hi : i < 3) : (l.flatMap itC)[j * 3 + i]? = (itC x)[i]? := by
  induction l generalizing j with
  | nil => cases h
  | cons y l ih =>
    rw [List.flatMap_cons]
    cases j with
    | zero =>
      have e : y = x := by simpa using h
      subst e
      rw [List.getElem?_append_left (by simp [itC]; omega)]; congr 1; omega
    | succ j =>
      rw [List.getElem?_append_right (by simp [itC]; omega)]
      have := ih j (by simpa using h)
      rw [← this]; congr 1; simp [itC]; omega
theorem OIt.at_ {w : World} {base : Nat} {v : Value} {l : List Item} (h : OIt w base v l) : ∃ A c, v = .slice A l.length c ∧ ItemsAt w A l.length l := by
  obtain ⟨h1, h2⟩ := h
  rcases h2 with ⟨rfl, h2⟩ | ⟨g, cap, cur, rfl, hg, hh, hn, hc, hs, ht⟩
  · exact ⟨none, 0, by rw [h2], rfl, fun h0 => by omega⟩
  · refine ⟨_, _, rfl, rfl, fun h0 => ⟨g, cur, rfl, hh, fun j x hj => ?_⟩⟩
    have hjl : j < l.length := by
      rcases Nat.lt_or_ge j l.length with h | h
      · exact h
      · rw [List.getElem?_eq_none h] at hj; cases hj
    have hget : ∀ i, i < 3 → cur[j * 3 + i]? = (itC x)[i]? := by
      intro i hi
      rw [← itC_get l j i x hj hi, ← ht, List.getElem?_take, if_pos (by omega), Array.getElem?_toList]
    exact ⟨hget 0 (by omega), hget 1 (by omega), hget 2 (by omega)⟩
theorem item_info : (Tryz.prog.info? 107).map (fun i => (i.zero, i.size, i.bytes)) = some (some (.agg #[.int .u8 0, .int .i64 0, .int .i64 0]), 3, 24) := by kernel_rfl
theorem reads_three (w : World) (a b c : Value) (t : TypeId) : Reads (w.alloc (.cells #[a, b, c] t)) (w.heap.size + 1) 3 (some ⟨w.heap.size, 0, none⟩) 1 [a, b, c] := by
  refine ⟨by simp, fun _ => ⟨_, rfl, by simp, fun j x hj => ?_⟩⟩
  have hb := Blk.new w t #[a, b, c]
  have e : (Addr.mk w.heap.size 0 none).add j = ⟨w.heap.size, j, none⟩ := by
    unfold Addr.add
    by_cases h0 : j = 0
    · subst h0; rfl
    · rw [if_neg h0]; simp
  rw [e, hb.cell]
  simpa using hj
section
variable {ops : Array Oper} {rest : List Oper} {o : Oper} {a : Act} {Q : Exit → Act → World → Prop}
/-- append(v, x), one item. -/
theorem wpList_app_it {w : World} {t : TypeId} (x : Item) {cn xl xf : Int} (hc : cn = (x.c.toNat : Int)) (hl : xl = (x.long : Int)) (hf : xf = (x.far : Int)) (hgd : o.guard = none) (s y : Operand) (ho : o.op = .call { callee := .builtin .append, args := #[s, y], argTypes := #[70, 70] })
    (base : Nat) (v : Value) (l : List Item) (hown : OIt w base v l) (hs : a.eval s = v) (c : Nat) (hy : a.eval y = .slice (some ⟨w.heap.size, 0, none⟩) 1 c) (hlen : l.length + 1 ≤ 10000000) (hbase : base ≤ w.heap.size)
    (h : ∀ v' w', OIt w' base v' (l ++ [x]) → Below base w w' → w.grownBy w' v.ownBlock → wpList Tryz.prog ops Q rest (a.put o.dst v') w') :
    wpList Tryz.prog ops Q (o :: rest) a (w.alloc (.cells #[.int .u8 cn, .int .i64 xl, .int .i64 xf] t)) := by
  subst hc hl hf
  obtain ⟨i0, hi0, hz0, hz1, hz2⟩ := info_parts item_info
  refine wpList_append_any _ hgd s y _ ho base 107 i0 _ 3 24 Tryz.underlying70 hi0 hz0 hz1 hz2 rfl (by omega) v l.length (l.flatMap itC) hs (World.ownsRow.alloc hown _) _ _ 1 c (itC x) hy (reads_three w _ _ _ t) (by intro u hu; simp [itC] at hu; rcases hu with rfl | rfl | rfl <;> rfl)
    (by simp only [maxLen]; omega) (by omega) (by simp; omega) fun v' w' h1 h2 h3 => ?_
  have e : l.flatMap itC ++ itC x = (l ++ [x]).flatMap itC := by simp
  rw [e] at h1
  have hb : Below base w w' := ((Below.refl _ _).alloc hbase _).trans ((Below.refl _ _).grown h2 (by simp; omega) fun k hk => (World.ownsRow.lt hown k hk).1)
  refine h v' w' (by unfold OIt; rw [List.length_append]; exact h1) hb ⟨h2.os, h2.tape, h2.output, ?_, fun k hk hne => ?_⟩
  · have := h2.size; simp at this; omega
  · rw [h2.block k (by simp; omega) hne]
    exact Below.heap_alloc _ _ _ hk
end
theorem MapAt.ne_own {w : World} {km N i base n : Nat} {b : List UInt8} {e : TypeId} {size : Nat} {v : Value} {xs : List Value} (h : MapAt w km N b i) (ho : w.ownsRow base e size v n xs) : some km ≠ v.ownBlock := by
  obtain ⟨es, clock, hb, _⟩ := h
  rcases ho.2 with ⟨rfl, _⟩ | ⟨g, cap, cur, rfl, _, hh, _⟩
  · intro h; cases h
  · intro h
    cases h
    rw [hb] at hh
    cases hh
/-- What is seen of the map at three bytes. -/
def seenV (o : Option Nat) : Int := match o with | some k => (k : Int) | none => 0
theorem MapAt.look {w : World} {km N i : Nat} {b : List UInt8} (h : MapAt w km N b i) (j : Nat) (q : Nat) :
    (Instr.lookup 110 (.map (some km)) (tripV (b.getD j 0).toNat (b.getD (j + 1) 0).toNat (b.getD (j + 2) 0).toNat) true).run Tryz.prog (w.drewN q) = .ok (.tuple #[.int .i64 (seenV (came b i (tripAt b j))), .bool (came b i (tripAt b j)).isSome]) (w.drewN q) := by
  have hz : (zeroValue 3).run Tryz.prog (w.drewN q) = .ok (.int .i64 0) (w.drewN q) := by kernel_rfl
  have hw0 : (Lit.int .i64 0).wf = true := by decide
  obtain ⟨v, ps, hrun, hv⟩ := World.ownsMap.look_ok (w := w.drewN q) h keyed3 Tryz.underlying110 hz (plainElem_int Tryz.underlying3 hw0) (mapK_key (tripAt b j))
  obtain ⟨h1, h2⟩ := mapD_came b (tripAt b j) rfl i
  obtain ⟨c, rfl, hc, _⟩ := plainElem_int_inv Tryz.underlying3 hv
  simp only [Prod.mk.injEq] at hc
  rw [h1] at hrun
  have h3 := hc.1
  rw [h2] at h3
  have hcs : c = seenV (came b i (tripAt b j)) := by
    cases hk : came b i (tripAt b j) with
    | none =>
      rw [hk] at h3
      simp only [DataW.lit.injEq, Lit.int.injEq, true_and] at h3
      exact h3.symm
    | some k =>
      rw [hk] at h3
      simp only [DataW.lit.injEq, Lit.int.injEq, true_and] at h3
      exact h3.symm
  rw [← hcs]
  exact hrun
theorem zero_u8 : (0 : Int) = ((0 : UInt8).toNat : Int) := rfl
/-- What items returns. -/
def ItRet (w : World) (l : List Item) (e : Ending) (w' : World) : Prop := ∃ A c, e = .returned (.slice A l.length c) ∧ ItemsAt w' A l.length l ∧ Below w.heap.size w w'
/-- The memory in a round. -/
structure ItJ (w0 w : World) (p1 p2 km ab ao n c : Nat) (b : List UInt8) (v : Value) (l : List Item) (j : Nat) : Prop where
  box : Blk w p1 22 #[.slice (some ⟨ab, ao, none⟩) n c]
  mp : Blk w p2 110 #[.map (some km)]
  map : MapAt w km j b j
  out : OIt w w0.heap.size v l
  rb : RB w w0.heap.size (some ⟨ab, ao, none⟩) n b
  bel : Below w0.heap.size w0 w
  kml : w0.heap.size ≤ km
section
variable {w0 w w2 : World} {p1 p2 km ab ao n c j : Nat} {b : List UInt8} {v v' : Value} {l : List Item} {x : Item}
theorem ItJ.drewN (h : ItJ w0 w p1 p2 km ab ao n c b v l j) (q : Nat) : ItJ w0 (w.drewN q) p1 p2 km ab ao n c b v l j :=
  ⟨h.box, h.mp, h.map, h.out, h.rb, below_drewN h.bel q, h.kml⟩
theorem MapAt.ne_blk {N i g : Nat} {t : TypeId} {cs : Array Value} (h : MapAt w km N b i) (hb : Blk w g t cs) : some g ≠ some km := by
  obtain ⟨es, clock, hh, _⟩ := h
  intro e
  cases e
  unfold Blk at hb
  rw [hh] at hb
  cases hb
theorem ItJ.app (h : ItJ w0 w p1 p2 km ab ao n c b v l j) (ho : OIt w2 w0.heap.size v' (l ++ [x])) (hb : Below w0.heap.size w w2) (hg : w.grownBy w2 v.ownBlock) : ItJ w0 w2 p1 p2 km ab ao n c b v' (l ++ [x]) j :=
  ⟨h.box.grown hg (fun e => own_blk_ne h.out h.box (by decide) e.symm), h.mp.grown hg (fun e => own_blk_ne h.out h.mp (by decide) e.symm), World.ownsMap.kept h.map hg (h.map.ne_own h.out), ho, h.rb.below hb, h.bel.trans hb, h.kml⟩
theorem ItJ.note (h : ItJ w0 w p1 p2 km ab ao n c b v l j) (hm : MapAt w2 km (j + 1) b (j + 1)) (hg : w.grownBy w2 (some km)) : ItJ w0 w2 p1 p2 km ab ao n c b v l (j + 1) := by
  have hb : Below w0.heap.size w w2 := (Below.refl _ _).grown hg h.bel.size fun k hk => by cases hk; exact h.kml
  refine ⟨h.box.grown hg (h.map.ne_blk h.box), h.mp.grown hg (h.map.ne_blk h.mp), hm, ?_, h.rb.below hb, h.bel.trans hb, h.kml⟩
  refine World.ownsRow.kept h.out hg ?_
  cases hv : v.ownBlock with
  | none => exact .inl rfl
  | some g => exact .inr fun e => h.map.ne_own h.out (by rw [hv]; exact e.symm)
end
/-- The state ahead of a round. -/
structure ItI (w0 w : World) (p1 p2 km ab ao n c : Nat) (b : List UInt8) (v : Value) (l : List Item) (i : Nat) : Prop where
  j : ItJ w0 w p1 p2 km ab ao n c b v l i
  rest : itemsL b = l ++ itemsF b (n - i) i
  few : l.length ≤ i
set_option maxRecDepth 100000 in
set_option maxHeartbeats 8000000 in
theorem items_some (w : World) (ab ao n c : Nat) (b : List UInt8) (hb : RB w w.heap.size (some ⟨ab, ao, none⟩) n b) (h0 : 0 < n) (hn : n ≤ 1000000) (hnc : n ≤ c) :
    Calls Tryz.prog 33 #[.slice (some ⟨ab, ao, none⟩) n c] w (ItRet w (itemsL b)) := by
  have hlen := hide hb.len
  replace hb := hide hb
  have hmm := @run_makeMap Tryz.prog
  have hI : Hid (ItI w (((w.alloc (.cells #[.slice (some ⟨ab, ao, none⟩) n c] 22)).alloc (.map #[] 0)).alloc (.cells #[.map (some (w.heap.size + 1))] 110)) w.heap.size (w.heap.size + 1 + 1) (w.heap.size + 1) ab ao n c b (.slice none 0 0) [] 0) := by
    refine ⟨⟨((Blk.new w _ _).alloc _).alloc _, ?_, ?_, ⟨by simp, .inl ⟨rfl, rfl⟩⟩, ?_, ?_, by omega⟩, ?_, Nat.le_refl _⟩
    · have := Blk.new ((w.alloc (.cells #[.slice (some ⟨ab, ao, none⟩) n c] 22)).alloc (.map #[] 0)) 110 #[.map (some (w.heap.size + 1))]
      simpa using this
    · have := World.ownsMap.alloc (World.ownsMap_made (w.alloc (.cells #[.slice (some ⟨ab, ao, none⟩) n c] 22)) Tryz.prog 111 (plainElem (H := Unit) Tryz.prog 3)) (.cells #[.map (some (w.heap.size + 1))] 110)
      have e : (w.alloc (.cells #[.slice (some ⟨ab, ao, none⟩) n c] 22)).heap.size = w.heap.size + 1 := by simp
      rw [e] at this
      exact this
    · exact ((hb.out.alloc (Nat.le_refl _) _).alloc (by simp) _).alloc (by simp; omega) _
    · exact (((Below.refl _ _).alloc (Nat.le_refl _) _).alloc (by simp) _).alloc (by simp; omega) _
    · rw [itemsL, hlen.out, Nat.sub_zero]; rfl
  go_enter Tryz.func33, Tryz.ntmps33
  go_wp2_with fail
  generalize ((w.alloc (.cells #[.slice (some ⟨ab, ao, none⟩) n c] 22)).alloc (.map #[] 0)).alloc (.cells #[.map (some (w.heap.size + 1))] 110) = wa at *
  go_loopw [3, 6] (fun v3 v6 wr => ∃ (i : Nat) (l : List Item), v6 = .int .i64 i ∧ i ≤ n ∧ Hid (ItI w wr w.heap.size (w.heap.size + 1 + 1) (w.heap.size + 1) ab ao n c b v3 l i)) (fun _ v6 _ => n - (intOf v6).toNat)
  case atStart => exact ⟨0, [], rfl, Nat.zero_le _, hI⟩
  case round =>
    clear hI hmm
    obtain ⟨i, l, rfl, hi, hI⟩ := hrel
    by_cases hlt : i < n
    · obtain ⟨A3, c3, rfl, _⟩ := hI.out.j.out.at_
      have cB : wr.cell? ⟨w.heap.size, 0, none⟩ = some (.slice (some ⟨ab, ao, none⟩) n c) := hI.out.j.box.cell 0
      have cM : wr.cell? ⟨w.heap.size + 1 + 1, 0, none⟩ = some (.map (some (w.heap.size + 1))) := hI.out.j.mp.cell 0
      have hi3i : IntKind.i64.wrap ((i : Int) + 3) = (i : Int) + 3 := IntWalk.i64_in _ (by omega)
      go_upto_if 21 with (fail)
      go_cut [7, 8] (fun v7 v8 wx => ∃ q, v7 = .int .i64 ((matchAt b i).1 : Int) ∧ v8 = .int .i64 ((matchAt b i).2 : Int) ∧ wx = wr.drewN q)
      case first =>
        by_cases h3 : i + 3 ≤ n
        · have hb3 : i + 3 ≤ b.length := by have := hlen.out; omega
          have d0 := hI.out.j.rb.at3 (j := i) (by omega)
          have d1 : wr.cell? ⟨ab, ao + i + 1, none⟩ = some (.int .u8 ((b.getD (i + 1) 0).toNat : Int)) := hI.out.j.rb.at3 (j := i + 1) (by omega)
          have d2 : wr.cell? ⟨ab, ao + i + 2, none⟩ = some (.int .u8 ((b.getD (i + 2) 0).toNat : Int)) := hI.out.j.rb.at3 (j := i + 2) (by omega)
          have hlook := fun q => hI.out.j.map.look i q
          unfold tripV at hlook
          have hma : Hid (matchAt b i = match came b i (tripAt b i) with | some k => if i - k ≤ 32768 then (runL b k i 258 0, i - k) else (0, 0) | none => (0, 0)) := by rw [Hid, matchAt, if_pos hb3]; rfl
          have hclt := came_lt b (tripAt b i) i
          have hi0 : (0 : Int) ≤ (i : Int) := by omega
          have hin : (i : Int) ≤ (n : Int) := by omega
          have hnci : (n : Int) ≤ (c : Int) := by omega
          have hci : ¬ c = i := by omega
          have hci2 : ((c : Int) == (i : Int)) = false := by rw [beq_eq_false_iff_ne]; omega
          have hl3n : 3 ≤ n - i := by omega
          have harr := fun wz => run_arrayAt (P := Tryz.prog) wz 111 5 3 (some ⟨ab, ao + i, none⟩) (n - i) (c - i) Tryz.underlying111 hl3n
          have hdi : decide ((i : Int) + 3 ≤ (n : Int)) = true := by simp; omega
          have hdi1 : (i : Int) + 3 ≤ (n : Int) := by omega
          generalize (b.getD i 0).toNat = x0 at *
          generalize (b.getD (i + 1) 0).toNat = x1 at *
          generalize (b.getD (i + 2) 0).toNat = x2 at *
          generalize came b i (tripAt b i) = cm at *
          cases cm with
          | none =>
            have hm0 : Hid (matchAt b i = (0, 0)) := hma.out
            clear hma hclt
            go_upto_region 8 with (fail)
            go_quiet (fail)
            go_wp2_with fail
            go_meet
            case rel => exact ⟨nq, by rw [hm0.out]; rfl, by rw [hm0.out]; rfl, rfl⟩
          | some k =>
            obtain ⟨hk1, hk3, _⟩ := hclt k rfl
            have hseen : seenV (some k) = (k : Int) := rfl
            rw [hseen] at hlook
            have hsub : IntKind.i64.wrap ((i : Int) - (k : Int)) = ((i - k : Nat) : Int) := by rw [IntWalk.i64_in _ (by omega)]; omega
            have hsub2 : (i : Int) - (k : Int) = ((i - k : Nat) : Int) := by omega
            by_cases hfar : i - k ≤ 32768
            · have hmm : Hid (matchAt b i = (runL b k i 258 0, i - k)) := by rw [Hid, hma.out]; exact if_pos hfar
              have hfd : decide (((i - k : Nat) : Int) ≤ 32768) = true := by simp; omega
              have hfd2 : ((i - k : Nat) : Int) ≤ 32768 := by omega
              clear hma hclt
              go_upto_region 8 with (fail)
              go_quiet (fail)
              go_wp2_with fail
              go_loopw [7] (fun v7 wx => ∃ m q, v7 = .int .i64 ((m : Nat) : Int) ∧ m ≤ 258 ∧ i + m ≤ n ∧ Hid (runL b k i 258 0 = runL b k i (258 - m) m) ∧ Hid (wx = wr.drewN q)) (fun v7 _ => 259 - (intOf v7).toNat)
              case atStart => exact ⟨0, nq, rfl, by omega, by omega, rfl, rfl⟩
              case round =>
                obtain ⟨m, q, rfl, hm, him, hrl, hwx⟩ := hrel
                have cB' : wr.cell? ⟨w.heap.size, 0, none⟩ = some (.slice (some ⟨ab, ao, none⟩) n c) := by rw [hwx.out]; exact cB
                have hw1 : IntKind.i64.wrap ((i : Int) + (m : Int)) = ((i + m : Nat) : Int) := by rw [IntWalk.i64_in _ (by omega)]; push_cast; rfl
                have hw2 : IntKind.i64.wrap ((k : Int) + (m : Int)) = ((k + m : Nat) : Int) := by rw [IntWalk.i64_in _ (by omega)]; push_cast; rfl
                by_cases c1 : m < 258
                · have e1 : decide ((m : Int) < 258) = true := by simp; omega
                  have e1' : (m : Int) < 258 := by omega
                  have hfl : 258 - m = (258 - (m + 1)) + 1 := by omega
                  by_cases c2 : i + m < n
                  · have e2 : decide (((i + m : Nat) : Int) < (n : Int)) = true := by simp; omega
                    have e2' : ((i + m : Nat) : Int) < (n : Int) := by omega
                    have e3' : ((k + m : Nat) : Int) < (n : Int) := by omega
                    have e20 : (0 : Int) ≤ ((i + m : Nat) : Int) := by omega
                    have e30 : (0 : Int) ≤ ((k + m : Nat) : Int) := by omega
                    have y0 : wr.cell? ⟨ab, ao + (i + m), none⟩ = some (.int .u8 ((b.getD (i + m) 0).toNat : Int)) := by rw [hwx.out]; exact hI.out.j.rb.at3 c2
                    have z0 : wr.cell? ⟨ab, ao + (k + m), none⟩ = some (.int .u8 ((b.getD (k + m) 0).toNat : Int)) := by rw [hwx.out]; exact hI.out.j.rb.at3 (show k + m < n by omega)
                    have hstep : Hid (runL b k i (258 - m) m = if b.getD (k + m) 0 = b.getD (i + m) 0 then runL b k i (258 - (m + 1)) (m + 1) else m) := by
                      rw [Hid, hfl, runL]
                      by_cases h : b.getD (k + m) 0 = b.getD (i + m) 0
                      · rw [if_pos ⟨c1, by have := hlen.out; omega, h⟩, if_pos h]
                      · rw [if_neg (fun hh => h hh.2.2), if_neg h]
                    have him2 : i + (m + 1) ≤ n := by omega
                    clear hfl
                    by_cases c3 : b.getD (k + m) 0 = b.getD (i + m) 0
                    · have hnx : Hid (runL b k i 258 0 = runL b k i (258 - (m + 1)) (m + 1)) := by rw [Hid, hrl.out, hstep.out, if_pos c3]
                      have e4 : (((b.getD (k + m) 0).toNat : Int) == ((b.getD (i + m) 0).toNat : Int)) = true := by rw [c3]; simp
                      generalize (b.getD (k + m) 0).toNat = zk at *
                      generalize (b.getD (i + m) 0).toNat = zi at *
                      have e5 : (zk : Int) = (zi : Int) := by simpa using e4
                      clear hstep c3
                      generalize i + m = im at *
                      generalize k + m = km at *
                      go_wp2_with fail
                      go_quiet (fail)
                      go_wp2_with fail
                      go_roundw
                      case rel => exact ⟨m + 1, q + nq, by go_num, by omega, him2, hnx, by rw [Hid, hwx.out, World.drewN_drewN]⟩
                      case measure => simp [intOf]; omega
                    · have hend : Hid (runL b k i 258 0 = m) := by rw [Hid, hrl.out, hstep.out, if_neg c3]
                      have e4 : (((b.getD (k + m) 0).toNat : Int) == ((b.getD (i + m) 0).toNat : Int)) = false := by
                        rw [beq_eq_false_iff_ne]
                        intro h
                        exact c3 (UInt8.toNat_inj.1 (by omega))
                      generalize (b.getD (k + m) 0).toNat = zk at *
                      generalize (b.getD (i + m) 0).toNat = zi at *
                      have e5 : ¬ (zk : Int) = (zi : Int) := by simpa using e4
                      clear hstep c3
                      generalize i + m = im at *
                      generalize k + m = km at *
                      go_wp2_with fail
                      go_quiet (fail)
                      go_wp2_with fail
                      go_meet
                      case rel => exact ⟨q + nq, by rw [hmm.out, hend.out], by rw [hmm.out], by rw [hwx.out, World.drewN_drewN]⟩
                  · have hend : Hid (runL b k i 258 0 = m) := by
                      rw [Hid, hrl.out, hfl, runL, if_neg (fun hh => c2 (by have := hlen.out; omega))]
                    have e2 : decide (((i + m : Nat) : Int) < (n : Int)) = false := by simp; omega
                    have e2' : ¬ ((i + m : Nat) : Int) < (n : Int) := by omega
                    have e2'' : (n : Int) ≤ ((i + m : Nat) : Int) := by omega
                    clear hfl
                    generalize i + m = im at *
                    generalize k + m = km at *
                    go_wp2_with fail
                    go_quiet (fail)
                    go_wp2_with fail
                    go_meet
                    case rel => exact ⟨q + nq, by rw [hmm.out, hend.out], by rw [hmm.out], by rw [hwx.out, World.drewN_drewN]⟩
                · have hm258 : m = 258 := by omega
                  have hend : Hid (runL b k i 258 0 = m) := by rw [Hid, hrl.out, hm258]; rfl
                  have e1 : decide ((m : Int) < 258) = false := by simp; omega
                  have e1' : ¬ (m : Int) < 258 := by omega
                  have e1'' : (258 : Int) ≤ (m : Int) := by omega
                  replace hm258 := hide hm258
                  go_wp2_with fail
                  go_quiet (fail)
                  go_wp2_with fail
                  go_meet
                  case rel => exact ⟨q + nq, by rw [hmm.out, hend.out], by rw [hmm.out], by rw [hwx.out, World.drewN_drewN]⟩
            · have hm0 : Hid (matchAt b i = (0, 0)) := by rw [Hid, hma.out]; exact if_neg hfar
              have hfd : decide (((i - k : Nat) : Int) ≤ 32768) = false := by simp; omega
              have hfd2 : ¬ ((i - k : Nat) : Int) ≤ 32768 := by omega
              have hfd3 : (32768 : Int) < ((i - k : Nat) : Int) := by omega
              clear hma hclt
              go_upto_region 8 with (fail)
              go_quiet (fail)
              go_wp2_with fail
              go_meet
              case rel => exact ⟨nq, by rw [hm0.out]; rfl, by rw [hm0.out]; rfl, rfl⟩
        · have hm0 : Hid (matchAt b i = (0, 0)) := by rw [Hid, matchAt, if_neg (by have := hlen.out; omega)]
          have hdi : decide ((i : Int) + 3 ≤ (n : Int)) = false := by simp; omega
          have hdi1 : ¬ (i : Int) + 3 ≤ (n : Int) := by omega
          go_wp2_with fail
          go_meet
          case rel => exact ⟨0, by rw [hm0.out]; rfl, by rw [hm0.out]; rfl, rfl⟩
      case rest =>
        obtain ⟨q, rfl, rfl, rfl⟩ := hcut
        have hJ := hide (hI.out.j.drewN q)
        have hst : Hid (itemsL b = l ++ if (matchAt b i).1 < 3 then ⟨b.getD i 0, 0, 0⟩ :: itemsF b (n - (i + 1)) (i + 1) else ⟨0, (matchAt b i).1, (matchAt b i).2⟩ :: itemsF b (n - (i + (matchAt b i).1)) (i + (matchAt b i).1)) := by
          have h1 := items_step b i (by have := hlen.out; omega)
          rw [hlen.out] at h1
          rw [Hid, hI.out.rest, h1]
        have hfew := hI.out.few
        have hmok := matchAt_ok b i
        obtain ⟨M, hM⟩ : ∃ M, M = matchAt b i := ⟨_, rfl⟩
        rw [← hM] at hst hmok ⊢
        obtain ⟨mn, mf⟩ := M
        dsimp only at hst hmok ⊢
        replace hM := hide hM
        obtain ⟨wq, hwq⟩ : ∃ x, x = wr.drewN q := ⟨_, rfl⟩
        rw [← hwq] at hJ ⊢
        clear hwq hI cB cM
        have cB : wq.cell? ⟨w.heap.size, 0, none⟩ = some (.slice (some ⟨ab, ao, none⟩) n c) := hJ.out.box.cell 0
        have hbs := hJ.out.bel.size
        by_cases hm3 : mn < 3
        · have hmd : decide ((mn : Int) < 3) = true := by simp; omega
          have hmd2 : (mn : Int) < 3 := by omega
          have hst2 : Hid (itemsL b = (l ++ [⟨b.getD i 0, 0, 0⟩]) ++ itemsF b (n - (i + 1)) (i + 1)) := by rw [Hid, hst.out, if_pos hm3]; simp
          have d0 := hJ.out.rb.at3 (j := i) hlt
          have hu8 : ((b.getD i 0).toNat : Int) = ((b.getD i 0).toNat : Int) := rfl
          obtain ⟨bx, hbx⟩ : ∃ bx, bx = b.getD i 0 := ⟨_, rfl⟩
          rw [← hbx] at d0 hst2
          replace hbx := hide hbx
          clear hst hmok hu8
          go_wp2_with (first | (at_builtin; refine wpList_app_it ⟨bx, 0, 0⟩ rfl rfl rfl rfl (.tmp 71) (.tmp 77) rfl w.heap.size _ l hJ.out.out rfl 1 rfl (by omega) (by omega) ?_; intro v2 w2 ho2 hb2 hg2) | fail)
          have hJ2 := hide (hJ.out.app ho2 hb2 hg2)
          clear ho2 hb2 hg2
          refine (note_any w2 w.heap.size (w.heap.size + 1 + 1) (w.heap.size + 1) i w.heap.size ab ao n c i b _ rfl (hJ2.out.box.cell 0) (hJ2.out.mp.cell 0) hJ2.out.rb hJ2.out.map hlt (by omega) (by omega) hnc).mono ?_
          rintro e w3 ⟨rfl, hm4, hg4⟩
          have hI3 : Hid (ItI w w3 w.heap.size (w.heap.size + 1 + 1) (w.heap.size + 1) ab ao n c b v2 (l ++ [⟨bx, 0, 0⟩]) (i + 1)) := ⟨hJ2.out.note hm4 hg4, hst2.out, by rw [List.length_append]; simp; omega⟩
          clear hm4 hg4 hJ hJ2
          go_wp2_with fail
          go_roundw
          case rel => exact ⟨i + 1, l ++ [⟨bx, 0, 0⟩], by go_num, hlt, hI3⟩
          case measure => simp [intOf]; omega
        · obtain ⟨hm258, hmi, hf1, hf2, hf3⟩ := hmok (by omega)
          have hmi2 : i + mn ≤ n := by have := hlen.out; omega
          have hmd : decide ((mn : Int) < 3) = false := by simp; omega
          have hmd2 : ¬ (mn : Int) < 3 := by omega
          have hmd3 : (3 : Int) ≤ (mn : Int) := by omega
          have hst2 : Hid (itemsL b = (l ++ [⟨0, mn, mf⟩]) ++ itemsF b (n - (i + mn)) (i + mn)) := by rw [Hid, hst.out, if_neg hm3]; simp
          have hl7 : l.length + 1 ≤ 10000000 := by omega
          clear hst hmok
          go_wp2_with (first | (at_builtin; refine wpList_app_it ⟨0, mn, mf⟩ zero_u8 rfl rfl rfl (.tmp 84) (.tmp 88) rfl w.heap.size _ l hJ.out.out rfl 1 rfl hl7 hbs ?_; intro v2 w2 ho2 hb2 hg2) | fail)
          have hJ2 := hide (hJ.out.app ho2 hb2 hg2)
          clear ho2 hb2 hg2 hJ
          go_loopw [6, 91] (fun v6 v91 wx => ∃ t : Nat, v6 = .int .i64 ((i + t : Nat) : Int) ∧ v91 = .int .i64 (t : Int) ∧ t ≤ mn ∧ Hid (ItJ w wx w.heap.size (w.heap.size + 1 + 1) (w.heap.size + 1) ab ao n c b v2 (l ++ [⟨0, mn, mf⟩]) (i + t))) (fun _ v91 _ => mn - (intOf v91).toNat)
          case atStart => exact ⟨0, rfl, rfl, Nat.zero_le _, hJ2⟩
          case round =>
            clear hJ2 cB hbs
            obtain ⟨t, rfl, rfl, ht, hJ⟩ := hrel
            by_cases htl : t < mn
            · go_wp2_with fail
              refine (note_any wr w.heap.size (w.heap.size + 1 + 1) (w.heap.size + 1) (i + t) w.heap.size ab ao n c (i + t) b _ rfl (hJ.out.box.cell 0) (hJ.out.mp.cell 0) hJ.out.rb hJ.out.map (by omega) (by omega) (by omega) hnc).mono ?_
              rintro e w3 ⟨rfl, hm4, hg4⟩
              have hJ3 := hide (hJ.out.note hm4 hg4)
              clear hm4 hg4 hJ
              go_wp2_with fail
              go_roundw
              case rel => exact ⟨t + 1, by go_num, by go_num, htl, hJ3⟩
              case measure => simp [intOf]; omega
            · obtain rfl : t = mn := by omega
              have hI3 : Hid (ItI w wr w.heap.size (w.heap.size + 1 + 1) (w.heap.size + 1) ab ao n c b v2 (l ++ [⟨0, t, mf⟩]) (i + t)) := ⟨hJ.out, hst2.out, by rw [List.length_append]; simp; omega⟩
              clear hJ
              go_wp2_with fail
              go_roundw
              case rel => exact ⟨i + t, l ++ [⟨0, t, mf⟩], rfl, hmi2, hI3⟩
              case measure => simp [intOf]; omega
    · obtain rfl : i = n := by omega
      have hfin : Hid (itemsL b = l) := by rw [Hid, hI.out.rest, Nat.sub_self]; simp [itemsF]
      obtain ⟨A3, c3, rfl, hat⟩ := hI.out.j.out.at_
      have hbel := hide hI.out.j.bel
      have cB : wr.cell? ⟨w.heap.size, 0, none⟩ = some (.slice (some ⟨ab, ao, none⟩) i c) := hI.out.j.box.cell 0
      replace hat := hide hat
      clear hI
      go_wp2_with fail
      go_ret
      unfold ItRet
      rw [hfin.out]
      exact ⟨A3, c3, rfl, hat.out, hbel.out⟩
end Go.Proofs.YtbchaomnjbkdhaaGreat
