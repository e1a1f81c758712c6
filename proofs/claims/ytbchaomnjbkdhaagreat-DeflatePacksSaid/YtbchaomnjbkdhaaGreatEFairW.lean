/-
  Contract of huff.fair: the shorter lengths to what comes more often.
-/
import Derived.Test.YtbchaomnjbkdhaaGreatEHpW
import Derived.Test.YtbchaomnjbkdhaaGreatEI
import Derived.Test.YtbchaomnjbkdhaaGreatShelf
import Derived.Test.YtbchaomnjbkdhaaGreatEDeep
import Derived.Sort.OwnSortedInts
namespace Go.Proofs.YtbchaomnjbkdhaaGreat
open Go.RowKit Go.Sort Go.Proofs
set_option linter.unusedVariables false
theorem cmpcI_any (w : World) (x y : Int) : Calls Tryz.prog 78 #[.int .i64 x, .int .i64 y] w fun e w' => e = .returned (.int .i64 (Lib.compareInt x y)) ∧ w = w' := (Tryz.cmp_Compare_int x y w).mono fun _ _ h => ⟨h.1, h.2.symm⟩
def cfC (counts : List Nat) (x y : Nat) : Int := Lib.compareInt (counts.getD y 0) (counts.getD x 0)
theorem cfC_lt (counts : List Nat) : Go.Proofs.ltOf (cfC counts) = ltC counts := by
  funext x y
  unfold Go.Proofs.ltOf cfC Lib.compareInt ltC
  generalize counts.getD y 0 = a
  generalize counts.getD x 0 = b
  by_cases h1 : a < b
  · rw [if_pos (by omega)]; simp [h1]
  · rw [if_neg (by omega)]
    split
    · simp [h1]
    · simp [h1]
theorem lamI_any (w : World) (B : Nat) (A : Option Addr) (n c p : Nat) (counts : List Nat) (hr : RN w B A n counts) (hp : w.cell? ⟨p, 0, none⟩ = some (.slice A n c)) (x y : Nat) (hx : x < n) (hy : y < n) :
    Calls Tryz.prog 80 #[encI x, encI y, .pointer (some ⟨p, 0, none⟩)] w fun e w' => e = .returned (.int .i64 (cfC counts x y)) ∧ ∃ q, w' = w.drewN q := by
  obtain ⟨ad, rfl, _, cx⟩ := hr.elem hx
  obtain ⟨ad', e', _, cy⟩ := hr.elem hy
  cases e'
  replace hr := hide hr
  unfold encI
  go_enter Tryz.func80, Tryz.ntmps80
  go_wp2_with fail
  go_quiet (first | (go_at_call 78; exact quiet_left (cmpcI_any _ _ _)))
  go_wp2_with fail
  go_ret
  exact ⟨rfl, _, rfl⟩
theorem put_far {α : Type} [Inhabited α] {enc : α → Value} {w : World} {g off : Nat} {d : Array α} {p : Addr} (h : p.block ≠ g) : (putRow enc w g off d).cell? p = w.cell? p := by
  refine World.cell?_of_block ?_
  simp [putRow, mapBlock, Array.getElem?_modify, show g ≠ p.block from fun e => h e.symm]
theorem cmpI_of {w : World} {B g p : Nat} {A : Option Addr} {n c : Nat} {counts : List Nat} (hr : RN w B A n counts) (hp : w.cell? ⟨p, 0, none⟩ = some (.slice A n c)) (hB : B ≤ g) (hpg : p ≠ g) (m off : Nat) :
    CmpI w g off m ⟨p, 0, none⟩ (fun x => x < n) (cfC counts) := by
  intro k dk hs x y hx hy
  refine lamI_any _ B A n c p counts ?_ ?_ x y hx hy
  · exact Reads.keep hr fun q hq => put_far (by omega)
  · exact (put_far (p := ⟨p, 0, none⟩) hpg).trans hp
theorem come_snoc : ∀ (l : List Nat) (n s : Nat), comeF (l ++ [n]) s = comeF l s ++ if 0 < n then [s + l.length] else []
  | [], n, s => by simp [comeF]
  | a :: l, n, s => by
    rw [List.cons_append, comeF, comeF, come_snoc l n (s + 1)]
    split
    · simp only [List.cons_append, List.length_cons]
      rw [show s + 1 + l.length = s + (l.length + 1) by omega]
    · rw [List.length_cons, show s + 1 + l.length = s + (l.length + 1) by omega]
/-- slices.Sort at a row of the call's own. -/
theorem sortL_any (w : World) (base g cap n : Nat) (l : List Nat) (h : ON w base (.slice (some ⟨g, 0, none⟩) n cap) n l) (hn : n ≤ 1000000) :
    Calls Tryz.prog 81 #[.slice (some ⟨g, 0, none⟩) n cap] w fun e w' => e = .returned (.tuple #[]) ∧ ON w' base (.slice (some ⟨g, 0, none⟩) n cap) n (sortN l) ∧ w.grownBy w' (some g) := by
  have hl := h.len
  obtain ⟨h1, h2⟩ := h
  rcases h2 with ⟨h3, _⟩ | ⟨g', cap', cur, hv, hg, hh, hnc, hc, hs, ht⟩
  · cases h3
  · cases hv
    have hzs : (l.map (fun x : Nat => (x : Int))).length = n := by simpa using hl
    have hmap : (l.map (fun x : Nat => (x : Int))).map (Value.int .i64) = l.map encI := by rw [List.map_map]; rfl
    have hH := holds_of_blockI (ss := l.map (fun x : Nat => (x : Int))) hh (by rw [hmap, hzs]; rw [Nat.mul_one] at ht; exact ht)
    have hlt : g < w.heap.size := by
      rcases Nat.lt_or_ge g w.heap.size with hlt | hge
      · exact hlt
      · rw [Array.getElem?_eq_none hge] at hh; cases hh
    have hc := Tryz.slices_Sort_int g 0 cap (l.map (fun x : Nat => (x : Int))) w hH hlt (by omega)
    rw [hzs] at hc
    refine hc.mono ?_
    rintro e w' ⟨rfl, q, os, rfl⟩
    have hms : ((l.map (fun x : Nat => (x : Int))).mergeSort fun x y => decide (x ≤ y)) = (sortN l).map (fun x : Nat => (x : Int)) := by
      unfold sortN
      rw [List.map_mergeSort]
      intro a _ b _
      simp
    rw [hms]
    refine ⟨rfl, ?_, grownBy_sortedI _⟩
    have hsl : (sortN l).length = l.length := by unfold sortN; exact List.length_mergeSort _
    have := ownsRow_sortedI (w := w) (n := q) (os := os) (ss := l.map (fun x : Nat => (x : Int))) (ts := (sortN l).map (fun x : Nat => (x : Int))) (by simp [hsl]) hg hh (by rw [hzs]; exact hnc) (by assumption) hs
    rw [hzs, List.map_map] at this
    exact this
/-- Two rows of the call's own in blocks apart. -/
def Apart (a b : Value) : Prop := ∀ g, a.ownBlock = some g → b.ownBlock ≠ some g
theorem Apart.ne {a b : Value} (h : Apart a b) : b.ownBlock = none ∨ b.ownBlock ≠ a.ownBlock := by
  cases hb : b.ownBlock with
  | none => exact .inl rfl
  | some g => exact .inr fun e => h g e.symm hb
theorem Apart.symm {a b : Value} (h : Apart a b) : Apart b a := fun g hb ha => h g ha hb
/-- One of them has grown. -/
theorem Apart.grew {a b a' : Value} {S : Nat} (h : Apart a b) (hx : a'.ownBlock = a.ownBlock ∨ ∃ k, a'.ownBlock = some k ∧ S ≤ k) (hb : ∀ k, b.ownBlock = some k → k < S) : Apart a' b := by
  intro g ha hbg
  rcases hx with hx | ⟨k, hk, hs⟩
  · exact h g (hx.symm.trans ha) hbg
  · rw [hk] at ha
    cases ha
    have := hb g hbg
    omega
theorem OE.ownb {α : Type} {enc : α → Value} {e : TypeId} {w : World} {base n : Nat} {v : Value} {l : List α} (h : OE enc e w base v n l) (h0 : 0 < n) : ∃ g cap, v = .slice (some ⟨g, 0, none⟩) n cap ∧ base ≤ g ∧ g < w.heap.size := by
  rcases h.parts with ⟨_, h1, _⟩ | ⟨g, cap, hv, hg, _⟩
  · omega
  · subst hv
    exact ⟨g, cap, rfl, hg, (h.lt g rfl).2⟩
theorem setAll_take (z : List (Nat × Nat)) (out : List Nat) (i : Nat) (h : i < z.length) : setAll (z.take (i + 1)) out = (setAll (z.take i) out).set z[i].1 z[i].2 := by
  rw [List.take_succ_eq_append_getElem h, setAll_app]; rfl
theorem OE.of_heap {α : Type} {enc : α → Value} {e : TypeId} {w w' : World} {base n : Nat} {v : Value} {l : List α} (h : OE enc e w base v n l) (hk : ∀ k, v.ownBlock = some k → w'.heap[k]? = w.heap[k]?) : OE enc e w' base v n l := by
  obtain ⟨h1, h2⟩ := h
  refine ⟨h1, ?_⟩
  rcases h2 with h2 | ⟨g, cap, cur, rfl, hg, hh, r⟩
  · exact Or.inl h2
  · exact Or.inr ⟨g, cap, cur, rfl, hg, (hk g rfl).trans hh, r⟩
theorem put_heap {α : Type} [Inhabited α] {enc : α → Value} {w : World} {g off k : Nat} {d : Array α} (h : k ≠ g) : (putRow enc w g off d).heap[k]? = w.heap[k]? := by
  simp [putRow, mapBlock, Array.getElem?_modify, show g ≠ k from fun e => h e.symm]
theorem grownBy_refl (w : World) (row : Option Nat) : w.grownBy w row := ⟨rfl, rfl, rfl, Nat.le_refl _, fun _ _ _ => rfl⟩
/-- What fair leaves. -/
def FairRet (w : World) (base go n c : Nat) (out : List Nat) (e : Ending) (w' : World) : Prop :=
  e = .returned (.slice (some ⟨go, 0, none⟩) n c) ∧ ON w' base (.slice (some ⟨go, 0, none⟩) n c) n out ∧ w.grownBy w' (some go)
/-- The two rows that are built. -/
def Two (w0 w : World) (v1 v2 : Value) (l : List Nat) : Prop :=
  ON w (w0.heap.size + 1) v1 (comeF l 0).length (comeF l 0) ∧ ON w (w0.heap.size + 1) v2 (comeF l 0).length (l.filter fun n => decide (0 < n)) ∧ Apart v1 v2
set_option maxRecDepth 100000 in
set_option maxHeartbeats 4000000 in
theorem fair_any (w : World) (B : Nat) (A : Option Addr) (nc cc base go n c : Nat) (counts lens : List Nat) (hr : RN w B A nc counts) (hB : B ≤ w.heap.size) (hgo : ∀ ad, A = some ad → ad.block ≠ go) (ho : ON w base (.slice (some ⟨go, 0, none⟩) n c) n lens) (hn : n ≤ 320) (hnc : n ≤ nc) (hcn : nc ≤ 1000)
    (hne : comeF lens 0 ≠ []) (hL : ∀ k, lens.getD k 0 ≤ 1000) :
    Calls Tryz.prog 65 #[.slice A nc cc, .slice (some ⟨go, 0, none⟩) n c] w (FairRet w base go n c (fairL counts lens)) := by
  have hlen := hide ho.len
  have hgl : go < w.heap.size := (OE.lt ho go rfl).2
  have hcell : Hid (∀ wx : World, Below w.heap.size w wx → ON wx base (.slice (some ⟨go, 0, none⟩) n c) n lens) := fun wx hb => OE.below ho hb (Nat.le_refl _)
  replace hr := hide hr
  replace hgo := hide hgo
  replace ho := hide ho
  replace hne := hide hne
  replace hL := hide hL
  go_enter Tryz.func65, Tryz.ntmps65
  go_wp2_with fail
  have hp0 := Blk.new w 49 #[.slice A nc cc]
  obtain ⟨w1, hw1⟩ : ∃ x, x = w.alloc (.cells #[.slice A nc cc] 49) := ⟨_, rfl⟩
  rw [← hw1] at hp0 ⊢
  have hb1 : Hid (Below w.heap.size w w1) := by rw [Hid, hw1]; exact (Below.refl _ _).alloc (Nat.le_refl _) _
  have hz1 : Hid (w1.heap.size = w.heap.size + 1) := by rw [Hid, hw1]; simp
  replace hp0 := hide hp0
  clear hw1
  go_loopw [5, 6, 13] (fun v1 v2 vs wr => ∃ s : Nat, vs = .int .i64 s ∧ s ≤ n ∧ Hid (Two w wr v1 v2 (lens.take s)) ∧ Hid (Below w1.heap.size w1 wr)) (fun _ _ vs _ => n - (intOf vs).toNat)
  case atStart => exact ⟨0, rfl, Nat.zero_le _, ⟨OE.nil _ _, OE.nil _ _, fun g h => by cases h⟩, Below.refl _ _⟩
  case round =>
    obtain ⟨s, rfl, hs, hT, hB1⟩ := hrel
    have hbw := hb1.out.trans (hB1.out.mono (by rw [hz1.out]; omega))
    by_cases hlt : s < n
    · have hls : s < lens.length := by have := hlen.out; omega
      have cs := OE.cell (hcell.out _ hbw) hls
      have hq1000 := hL.out s
      have hsn : Hid (comeF (lens.take (s + 1)) 0 = comeF (lens.take s) 0 ++ if 0 < lens[s] then [s] else []) := by
        rw [Hid, List.take_succ_eq_append_getElem hls, come_snoc, List.length_take, Nat.min_eq_left (by omega), Nat.zero_add]
      have hfn : Hid ((lens.take (s + 1)).filter (fun n => decide (0 < n)) = (lens.take s).filter (fun n => decide (0 < n)) ++ if 0 < lens[s] then [lens[s]] else []) := by
        rw [Hid, List.take_succ_eq_append_getElem hls, List.filter_append]
        congr 1
        by_cases h0 : 0 < lens[s]
        · rw [if_pos h0, List.filter_cons_of_pos (by simpa using h0), List.filter_nil]
        · rw [if_neg h0, List.filter_cons_of_neg (by simpa using h0), List.filter_nil]
      have hsz : Hid ((comeF (lens.take s) 0).length ≤ s) := by
        have h1 := come_len (lens.take s) 0
        have h2 := List.length_filter_le (fun n => decide (0 < n)) (lens.take s)
        rw [List.length_take] at h2
        rw [Hid]; omega
      rw [List.getD_eq_getElem?_getD, List.getElem?_eq_getElem hls, Option.getD_some] at hq1000
      unfold encI at cs
      generalize lens[s] = q at *
      replace hbw := hide hbw
      obtain ⟨h1, h2, h3⟩ := hT.out
      by_cases h0 : 0 < q
      · rw [if_pos h0] at hsn hfn
        obtain ⟨C, hC⟩ : ∃ C, C = comeF (lens.take s) 0 := ⟨_, rfl⟩
        obtain ⟨F, hF⟩ : ∃ F, F = (lens.take s).filter (fun n => decide (0 < n)) := ⟨_, rfl⟩
        rw [← hC] at h1 h2 hsn hsz
        rw [← hF] at h2 hfn
        clear hC hF hT
        have hsz2 := hsz.out
        have hzw := hB1.out.size
        have hz1o := hz1.out
        go_wp2_with (first | (at_builtin; refine wpList_app_i s rfl rfl (.tmp 20) (.tmp 22) rfl (w.heap.size + 1) _ _ C h1 rfl 1 rfl (by omega) (by omega) ?_; intro v1 w2 ho1 hb2 hg1 hx1) | (at_builtin; refine wpList_app_i q rfl rfl (.tmp 24) (.tmp 26) rfl (w.heap.size + 1) _ _ F (OE.kept h2 hg1 h3.ne) rfl 1 rfl (by omega) (by have := hg1.size; omega) ?_; intro v2 w3 ho2 hb3 hg2 hx2))
        have hA1 := h3.grew hx1 fun k hk => (OE.lt h2 k hk).2
        have h2' := OE.kept h2 hg1 h3.ne
        have ho1' := OE.kept ho1 hg2 (hA1.symm.ne)
        have hA2 := (hA1.symm.grew hx2 fun k hk => (OE.lt ho1 k hk).2).symm
        have hT2 : Hid (Two w w3 v1 v2 (lens.take (s + 1))) := by
          rw [Hid, Two, hsn.out, hfn.out, List.length_append]
          exact ⟨ho1', ho2, hA2⟩
        have hBB : Hid (Below w1.heap.size w1 w3) := by
          rw [Hid, hz1o]
          have h0 := hB1.out
          rw [hz1o] at h0
          exact (h0.trans hb2).trans hb3
        clear ho1 ho2 ho1' h2' hb2 hb3 hg1 hg2 hx1 hx2 hA1 hA2 h1 h2 h3
        go_wp2_with fail
        go_roundw
        case rel => exact ⟨s + 1, by go_num, hlt, hT2, hBB⟩
        case measure => simp [intOf]; omega
      · rw [if_neg h0] at hsn hfn
        obtain rfl : q = 0 := by omega
        have hT2 : Hid (Two w wr u5 u6 (lens.take (s + 1))) := by
          rw [Hid, Two, hsn.out, hfn.out, List.append_nil, List.append_nil]
          exact ⟨h1, h2, h3⟩
        clear h1 h2 h3 hT
        go_wp2_with fail
        go_roundw
        case rel => exact ⟨s + 1, by go_num, hlt, hT2, hB1⟩
        case measure => simp [intOf]; omega
    · obtain rfl : s = n := by omega
      have htk : lens.take s = lens := List.take_of_length_le (by have := hlen.out; omega)
      rw [htk] at hT
      clear htk
      obtain ⟨h1, h2, h3⟩ := hT.out
      have hz1o := hz1.out
      have hpos : 0 < (comeF lens 0).length := List.length_pos_iff.2 hne.out
      obtain ⟨g1, k1, rfl, hg1, hl1⟩ := h1.ownb hpos
      obtain ⟨g2, k2, rfl, hg2, hl2⟩ := h2.ownb hpos
      have hg12 : g2 ≠ g1 := fun e => h3 g1 rfl (by rw [← e]; rfl)
      have hr1 : RN wr B A nc counts := hr.out.below (hbw.mono hB)
      have hpw : wr.cell? ⟨w.heap.size, 0, none⟩ = some (.slice A nc cc) := (hp0.out.below hB1.out (by omega)).cell 0
      have hCm := cmpI_of hr1 hpw (show B ≤ g1 by omega) (show w.heap.size ≠ g1 by omega) (comeF lens 0).toArray.size 0
      have hPl : AllP (fun x => x < nc) (comeF lens 0).toArray := by
        intro j hj
        rw [getElem!_pos _ j hj]
        have := (come_lt lens ((comeF lens 0).toArray[j]) (by simp)).1
        have := hlen.out
        omega
      have hm320 : (comeF lens 0).length ≤ 320 := by
        have h1 := come_len lens 0
        have h2 := List.length_filter_le (fun n => decide (0 < n)) lens
        have := hlen.out
        omega
      have hsort := sortI_any wr g1 0 k1 (comeF lens 0).length ⟨w.heap.size, 0, none⟩ (fun x => x < nc) (cfC counts) (by rw [cfC_lt]; exact swoC counts) (comeF lens 0).toArray (by simp) hCm hPl (RowAt.of_own h1).holds (by simp; omega)
      rw [cfC_lt] at hsort
      have hcs : (stableA (ltC counts) (comeF lens 0).toArray).toList = comeS counts lens := rfl
      have hcp := hide (comeS_perm counts lens)
      have hR1 := hide (RowAt.of_own h1)
      replace h1 := hide h1
      replace h2 := hide h2
      replace hT := hide hT
      have hbw2 := hide hbw
      obtain ⟨m, hm⟩ : ∃ m, m = (comeF lens 0).length := ⟨_, rfl⟩
      have hFl : Hid ((lens.filter fun n => decide (0 < n)).length = m) := by rw [Hid, hm, ← come_len]
      have hfin : Hid (fairL counts lens = setAll ((comeS counts lens).zip (sortN (lens.filter (fun n => decide (0 < n))))) lens) := rfl
      have hcl : Hid ((comeS counts lens).length = m) := by rw [Hid, hcp.out.length_eq, hm]
      have hcb : Hid (∀ x ∈ comeS counts lens, x < s) := fun x hx => by
        have := (come_lt lens x (hcp.out.mem_iff.1 hx)).1
        have := hlen.out
        omega
      obtain ⟨d1, hd1⟩ : ∃ d1, d1 = stableA (ltC counts) (comeF lens 0).toArray := ⟨_, rfl⟩
      rw [← hd1] at hsort hcs
      have hd1s : d1.size = m := by rw [← Array.length_toList, hcs]; exact hcl.out
      replace hcs := hide hcs
      rw [← hm] at hsort hpos hm320 ⊢
      replace hm := hide hm
      clear hCm hPl hd1 hcp hr1 hpw hbw hT
      go_wp2_with fail
      refine hsort.mono ?_
      rintro e w2 ⟨rfl, q2, hw2⟩
      clear hsort
      have hR2 : Hid (RowAt encI 3 w2 (w.heap.size + 1) g1 0 k1 (comeS counts lens)) := by
        rw [Hid, hw2, ← hcs.out]
        exact (hR1.out.put d1 (by rw [hd1s, hm.out])).drewN _
      have hF2 : ON w2 (w.heap.size + 1) (.slice (some ⟨g2, 0, none⟩) m k2) m (lens.filter fun n => decide (0 < n)) := by
        have := h2.out
        rw [← hm.out] at this
        refine OE.of_heap this fun k hk => ?_
        have hk2 : g2 = k := by injection hk
        subst hk2
        rw [hw2]; exact put_heap hg12
      have hB2 : Hid (Below (w.heap.size + 1) w1 w2) := by
        rw [Hid, hw2]
        have := hB1.out
        rw [hz1o] at this
        exact below_drewN (below_put this hg1) _
      clear hw2 hR1 h1 h2
      replace hF2 := hide hF2
      go_wp2_with fail
      refine (sortL_any w2 _ g2 k2 m _ hF2.out (by omega)).mono ?_
      rintro e w3 ⟨rfl, hF3, hgr3⟩
      have hR3 : Hid (RowAt encI 3 w3 (w.heap.size + 1) g1 0 k1 (comeS counts lens)) := by
        obtain ⟨a1, a2, a3, cur, a4, a5⟩ := hR2.out
        exact ⟨a1, a2, a3, cur, a4.grown hgr3 (by intro e; cases e; exact hg12 rfl), a5⟩
      have hB3 : Below (w.heap.size + 1) w1 w3 := hB2.out.trans ((Below.refl _ _).grown hgr3 (by have := hB2.out.size; omega) fun k hk => by cases hk; exact hg2)
      have hO3 : Hid (ON w3 base (.slice (some ⟨go, 0, none⟩) s c) s lens) := hcell.out _ (hb1.out.trans (hB3.mono (by omega)))
      have hG3 : Hid (w.grownBy w3 (some go)) := by
        have hbb := hb1.out.trans (hB3.mono (by omega))
        exact ⟨hbb.os, hbb.tape, hbb.output, hbb.size, fun k hk _ => hbb.block k hk⟩
      have hsl : Hid ((sortN (lens.filter fun n => decide (0 < n))).length = m) := by
        rw [Hid]; unfold sortN; rw [List.length_mergeSort]; exact hFl.out
      obtain ⟨S, hS⟩ : ∃ S, S = sortN (lens.filter fun n => decide (0 < n)) := ⟨_, rfl⟩
      obtain ⟨C, hC⟩ : ∃ C, C = comeS counts lens := ⟨_, rfl⟩
      rw [← hS] at hF3 hsl hfin
      rw [← hC] at hR3 hcl hcb hfin
      replace hF3 := hide hF3
      replace hgr3 := hide hgr3
      replace hB3 := hide hB3
      have hzl : Hid ((C.zip S).length = m) := by rw [Hid, List.length_zip, hcl.out, hsl.out]; omega
      clear hS hC hcs hF2 hR2 hB2 hp0 hFl
      have hgg1 : g1 ≠ go := by omega
      have hgg2 : g2 ≠ go := by omega
      go_wp2_with fail
      go_loopw [36] (fun vi wr => ∃ i : Nat, vi = .int .i64 i ∧ i ≤ m ∧ Hid (ON wr base (.slice (some ⟨go, 0, none⟩) s c) s (setAll ((C.zip S).take i) lens)) ∧ Hid (w3.grownBy wr (some go))) (fun vi _ => m - (intOf vi).toNat)
      case atStart => exact ⟨0, rfl, Nat.zero_le _, hO3, grownBy_refl _ _⟩
      case round =>
        obtain ⟨i, rfl, hi, hO, hG⟩ := hrel
        by_cases hlt : i < m
        · have hiC : i < C.length := by have := hcl.out; omega
          have hiS : i < S.length := by have := hsl.out; omega
          have hl3 : g1 < w3.heap.size := hR3.out.lt
          have cC : wr.cell? ⟨g1, i, none⟩ = some (.int .i64 (C[i] : Int)) := by
            have h1 := hR3.out.cell hiC
            rw [Nat.zero_add] at h1
            exact (World.cell?_of_block (a := ⟨g1, i, none⟩) (hG.out.block g1 hl3 (by intro e; cases e; exact hgg1 rfl))).trans h1
          have cS : wr.cell? ⟨g2, i, none⟩ = some (.int .i64 (S[i] : Int)) := by
            have h1 := OE.cell hF3.out hiS
            exact (World.cell?_of_block (a := ⟨g2, i, none⟩) (hG.out.block g2 (OE.lt hF3.out g2 rfl).2 (by intro e; cases e; exact hgg2 rfl))).trans h1
          have hxs : C[i] < s := hcb.out _ (List.getElem_mem _)
          have hst : Hid (setAll ((C.zip S).take (i + 1)) lens = (setAll ((C.zip S).take i) lens).set C[i] S[i]) := by
            rw [Hid, setAll_take _ _ _ (by rw [hzl.out]; exact hlt), List.getElem_zip]
          generalize C[i] = x at *
          generalize S[i] = y at *
          have hOl := hO.out.len
          have cx := OE.cell hO.out (show x < (setAll ((C.zip S).take i) lens).length by omega)
          have fx := OE.froz (k := x) hO.out
          have hO2 : Hid (ON (wr.setCell ⟨go, x, none⟩ (.int .i64 (y : Int))) base (.slice (some ⟨go, 0, none⟩) s c) s (setAll ((C.zip S).take (i + 1)) lens)) := by
            rw [hst.out]; exact OE.stored hO.out x y
          have hG2 : Hid (w3.grownBy (wr.setCell ⟨go, x, none⟩ (.int .i64 (y : Int))) (some go)) := grownBy_trans hG.out (grownBy_set _ _ _ _)
          replace hOl := hide hOl
          have hxi : (x : Int) < (s : Int) := by omega
          go_wp2_with fail
          go_roundw
          case rel => exact ⟨i + 1, by go_num, hlt, hO2, hG2⟩
          case measure => simp [intOf]; omega
        · obtain rfl : i = m := by omega
          have hall : Hid (fairL counts lens = setAll ((C.zip S).take i) lens) := by
            rw [Hid, hfin.out, List.take_of_length_le (by rw [hzl.out]; exact Nat.le_refl _)]
          go_wp2_with fail
          go_ret
          refine ⟨rfl, ?_, grownBy_trans hG3.out hG.out⟩
          rw [hall.out]
          exact hO.out
end Go.Proofs.YtbchaomnjbkdhaaGreat
