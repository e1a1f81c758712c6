/-
  Contract of huff.Lengths: lengths of codes.
-/
import Derived.Test.YtbchaomnjbkdhaaGreatETreeW
import Derived.Test.YtbchaomnjbkdhaaGreatEFairW
import Derived.Test.YtbchaomnjbkdhaaGreatEA
import Derived.Deep.LoopGhost
namespace Go.Proofs.YtbchaomnjbkdhaaGreat
open Go.RowKit Go.Sort Go.Proofs
set_option linter.unusedVariables false
theorem dep_lt : ∀ h : Hp, h.dep < h.syms.length
  | .leaf _ _ => by simp [Hp.dep, Hp.syms]
  | .node _ a b => by
    have h1 := dep_lt a
    have h2 := dep_lt b
    rw [Hp.dep, Hp.syms, List.length_append]
    omega
theorem foldl_maxI : ∀ (l : List Nat) (a : Nat), (l.map (fun x : Nat => (x : Int))).foldl max (a : Int) = ((l.foldl max a : Nat) : Int)
  | [], a => rfl
  | b :: l, a => by
    rw [List.map_cons, List.foldl_cons, List.foldl_cons, show max (a : Int) (b : Int) = ((max a b : Nat) : Int) by omega]
    exact foldl_maxI l _
theorem maxOf_nat (l : List Nat) : Lib.maxOf (l.map (fun x : Nat => (x : Int))) = (maxL l : Int) := by
  cases l with
  | nil => rfl
  | cons a l =>
    unfold Lib.maxOf maxL
    rw [List.map_cons, List.headD_cons, List.foldl_cons, List.foldl_cons, Int.max_self, foldl_maxI, Nat.zero_max]
/-- Half way through halving. -/
def halfTo (own : List Nat) (i : Nat) : List Nat := (own.take i).map (fun x => (x + 1) / 2) ++ own.drop i
theorem halfTo_len (own : List Nat) (i : Nat) : (halfTo own i).length = own.length := by simp [halfTo]; omega
theorem halfTo_at (own : List Nat) (i : Nat) (h : i < own.length) : (halfTo own i)[i]'(by rw [halfTo_len]; exact h) = own[i] := by
  simp only [halfTo]
  rw [List.getElem_append_right (by simp; omega)]
  simp [Nat.min_eq_left (Nat.le_of_lt h)]
theorem halfTo_set (own : List Nat) (i : Nat) (h : i < own.length) : (halfTo own i).set i ((own[i] + 1) / 2) = halfTo own (i + 1) := by
  unfold halfTo
  rw [List.set_append_right _ _ (by simp; omega), List.take_succ_eq_append_getElem h, List.map_append, List.append_assoc]
  congr 1
  rw [List.length_map, List.length_take, Nat.min_eq_left (Nat.le_of_lt h), Nat.sub_self, List.drop_eq_getElem_cons h]
  rfl
theorem halfTo_same (own : List Nat) (i : Nat) (h : i < own.length) (h0 : own[i] = 0) : halfTo own (i + 1) = halfTo own i := by
  unfold halfTo
  rw [List.take_succ_eq_append_getElem h, List.map_append, List.append_assoc, List.drop_eq_getElem_cons h, h0]
  rfl
theorem halfTo_zero (own : List Nat) : halfTo own 0 = own := by simp [halfTo]
theorem halfTo_all (own : List Nat) (n : Nat) (h : n = own.length) : halfTo own n = halfL own := by subst h; simp [halfTo, halfL]
theorem zi_eq (n : Nat) : madeCells (Value.int .i64 0).cells (n * 1) = (((List.replicate n 0).map encI).toArray) := by
  unfold madeCells
  apply Array.ext
  · simp
  · intro i h1 h2
    simp at h1
    simp [Value.cells, Nat.mod_one, encI]
theorem make_ints' (n : Nat) (hn : n ≤ 100000) (w : World) : (Instr.makeSlice 49 (.int .i64 (n : Int)) (.int .i64 (n : Int))).run Tryz.prog w = .ok (.slice (some ⟨w.heap.size, 0, none⟩) n n) (w.alloc (.cells (((List.replicate n 0).map encI).toArray) 3)) := by
  obtain ⟨i0, hi, hz0, hz1, hz2⟩ := info_parts int_info
  rw [run_make_rowN 49 3 i0 (.int .i64 0) Tryz.underlying49 hi hz0 .i64 .i64 n n (Nat.le_refl _) (by rw [hz2]; omega) (by omega) w, hz1, zi_eq]
theorem ON.made (w : World) (base n : Nat) (l : List Nat) (hl : l.length = n) (hb : base ≤ w.heap.size) (hn : n ≤ maxLen) : ON (w.alloc (.cells ((l.map encI).toArray) 3)) base (.slice (some ⟨w.heap.size, 0, none⟩) n n) n l := by
  refine ⟨by simpa using hl, .inr ⟨w.heap.size, n, _, rfl, hb, heap_alloc_new w _, Nat.le_refl _, hn, by simpa using hl, ?_⟩⟩
  rw [Nat.mul_one]
  exact List.take_of_length_le (by simpa using Nat.le_of_eq hl)
/-- What Lengths leaves. -/
def LenRet (w : World) (n : Nat) (l : List Nat) (e : Ending) (w' : World) : Prop := ∃ g c, e = .returned (.slice (some ⟨g, 0, none⟩) n c) ∧ ON w' w.heap.size (.slice (some ⟨g, 0, none⟩) n c) n l ∧ Below w.heap.size w w'
set_option maxRecDepth 100000 in
set_option maxHeartbeats 4000000 in
theorem clone_ints (w : World) (ab ao n c : Nat) (l : List Nat) (hr : RN w w.heap.size (some ⟨ab, ao, none⟩) n l) (h0 : 0 < n) (hn : n ≤ 1000000) :
    Calls Tryz.prog 58 #[.slice (some ⟨ab, ao, none⟩) n c] w fun e w' => ∃ g k, e = .returned (.slice (some ⟨g, 0, none⟩) n k) ∧ ON w' w.heap.size (.slice (some ⟨g, 0, none⟩) n k) n l ∧ Below w.heap.size w w' := by
  have hl := hr.len
  have hc := Tryz.slices_Clone_int ab ao n c (l.map (fun x : Nat => (x : Int))) w (by simp; omega) (by omega) (fun j hj => by
    have hj2 : j < n := by simpa [hl] using hj
    obtain ⟨ad, e, _, hcell⟩ := hr.elem hj2
    cases e
    rw [Addr.add_lit] at hcell
    rw [hcell, List.getD_eq_getElem?_getD, List.getD_eq_getElem?_getD, List.getElem?_map]
    cases l[j]? <;> rfl)
  refine hc.mono ?_
  rintro e w' ⟨v', rfl, ho, hne, hb⟩
  rw [List.take_of_length_le (by simp; omega), List.map_map] at ho
  have ho2 : ON w' w.heap.size v' n l := ho
  obtain ⟨g, k, rfl, _, _⟩ := ho2.ownb h0
  exact ⟨g, k, rfl, ho2, hb⟩
theorem max_ints (w : World) (g n c : Nat) (l : List Nat) (base : Nat) (h : ON w base (.slice (some ⟨g, 0, none⟩) n c) n l) (h0 : 0 < n) (hn : n ≤ 1000000) :
    Calls Tryz.prog 64 #[.slice (some ⟨g, 0, none⟩) n c] w fun e w' => e = .returned (.int .i64 (maxL l : Int)) ∧ w' = w := by
  have hl := h.len
  have hc := Tryz.slices_Max_int g 0 n c (l.map (fun x : Nat => (x : Int))) w h0 (by simp; omega) (by omega) (fun j hj => by
    have hj2 : j < l.length := by simpa using hj
    rw [Nat.zero_add, OE.cell h hj2, List.getD_eq_getElem?_getD, List.getElem?_map, List.getElem?_eq_getElem hj2]; rfl)
  rw [List.take_of_length_le (by simp; omega), maxOf_nat] at hc
  exact hc
set_option maxRecDepth 100000 in
set_option maxHeartbeats 4000000 in
theorem lengths_any (w : World) (ab ao n c L : Nat) (counts : List Nat) (hr : RN w w.heap.size (some ⟨ab, ao, none⟩) n counts) (h0 : 0 < n) (hn : n ≤ 320) (hc : ∀ k, counts.getD k 0 ≤ 1073741824) (hL1 : 1 ≤ L) (hL15 : L ≤ 15) (hcome : (comeF counts 0).length ≤ 2 ^ L) :
    Calls Tryz.prog 36 #[.slice (some ⟨ab, ao, none⟩) n c, .int .i64 (L : Int)] w (LenRet w n (lengthsL counts L)) := by
  have hlen := hide hr.len
  have hmx : max (L : Int) 1 = (L : Int) := by omega
  have hmn : min (L : Int) 15 = (L : Int) := by omega
  replace hr := hide hr
  replace hc := hide hc
  replace hcome := hide hcome
  go_enter Tryz.func36, Tryz.ntmps36
  go_wp2_with fail
  refine (clone_ints w ab ao n c counts hr.out h0 (by omega)).mono ?_
  rintro e w1 ⟨g5, k5, rfl, hO1, hB1⟩
  replace hO1 := hide hO1
  replace hB1 := hide hB1
  go_wp2_with fail
  go_loopw [6, 18] (fun v6 vi wr => ∃ i : Nat, vi = .int .i64 i ∧ v6 = .int .i64 ((comeF (counts.take i) 0).length : Int) ∧ i ≤ n ∧ Hid (ON wr w.heap.size (.slice (some ⟨g5, 0, none⟩) n k5) n counts) ∧ Hid (Below w.heap.size w wr)) (fun _ vi _ => n - (intOf vi).toNat)
  case atStart => exact ⟨0, rfl, rfl, Nat.zero_le _, hO1, hB1⟩
  case round =>
    obtain ⟨i, rfl, rfl, hi, hO, hB⟩ := hrel
    by_cases hlt : i < n
    · have hil : i < counts.length := by have := hlen.out; omega
      have ci := OE.cell hO.out hil
      have fi := OE.froz (k := i) hO.out
      have hci := hc.out i
      have hsn : Hid (comeF (counts.take (i + 1)) 0 = comeF (counts.take i) 0 ++ if 0 < counts[i] then [i] else []) := by
        rw [Hid, List.take_succ_eq_append_getElem hil, come_snoc, List.length_take, Nat.min_eq_left (by omega), Nat.zero_add]
      have hcz : Hid ((comeF (counts.take i) 0).length ≤ i) := by
        have h1 := come_len (counts.take i) 0
        have h2 := List.length_filter_le (fun n => decide (0 < n)) (counts.take i)
        rw [List.length_take] at h2
        rw [Hid]; omega
      have hst : Hid (ON (wr.setCell ⟨g5, i, none⟩ (.int .i64 (counts[i] : Int))) w.heap.size (.slice (some ⟨g5, 0, none⟩) n k5) n counts) := by
        have := OE.stored hO.out i counts[i]
        rw [List.set_getElem_self] at this
        exact this
      have hBs : Hid (Below w.heap.size w (wr.setCell ⟨g5, i, none⟩ (.int .i64 (counts[i] : Int)))) := hB.out.setCell (p := ⟨g5, i, none⟩) (OE.lt hO.out g5 rfl).1 _
      have cq : (wr.setCell ⟨g5, i, none⟩ (.int .i64 (counts[i] : Int))).cell? ⟨g5, i, none⟩ = some (.int .i64 (counts[i] : Int)) := OE.cell hst.out hil
      rw [List.getD_eq_getElem?_getD, List.getElem?_eq_getElem hil, Option.getD_some] at hci
      unfold encI at ci
      generalize counts[i] = q at *
      obtain ⟨K, hK⟩ : ∃ K, K = (comeF (counts.take i) 0).length := ⟨_, rfl⟩
      rw [← hK] at hcz ⊢
      have hcz2 := hcz.out
      have hmq : max (q : Int) 0 = (q : Int) := by omega
      have hnq : min (q : Int) 1073741824 = (q : Int) := by omega
      by_cases hq : 0 < q
      · rw [if_pos hq] at hsn
        have hK2 : Hid ((comeF (counts.take (i + 1)) 0).length = K + 1) := by rw [Hid, hsn.out, hK]; simp
        replace hK := hide hK
        clear hsn
        go_wp2_with fail
        go_roundw
        case rel => exact ⟨i + 1, by go_num, by rw [hK2.out]; go_num, hlt, hst, hBs⟩
        case measure => simp [intOf]; omega
      · rw [if_neg hq, List.append_nil] at hsn
        have hK2 : Hid ((comeF (counts.take (i + 1)) 0).length = K) := by rw [Hid, hsn.out, hK]
        replace hK := hide hK
        clear hsn
        obtain rfl : q = 0 := by omega
        go_wp2_with fail
        go_roundw
        case rel => exact ⟨i + 1, by go_num, by rw [hK2.out], hlt, hst, hBs⟩
        case measure => simp [intOf]; omega
    · obtain rfl : i = n := by omega
      have htk : counts.take i = counts := List.take_of_length_le (by have := hlen.out; omega)
      rw [htk]
      clear htk
      obtain ⟨K, hK⟩ : ∃ K, K = (comeF counts 0).length := ⟨_, rfl⟩
      have hcome2 : Hid (K ≤ 2 ^ L) := by rw [Hid, hK]; exact hcome.out
      rw [← hK]
      have hK320 : K ≤ 320 := by
        have h1 := come_len counts 0
        have h2 := List.length_filter_le (fun n => decide (0 < n)) counts
        have := hlen.out
        omega
      replace hK := hide hK
      have h320 : decide ((320 : Int) < (i : Int)) = false := by simp; omega
      have hshl : decide (wrap64 (2 ^ L) < (K : Int)) = false := by
        have hp2 : 2 ^ L ≤ 2 ^ 15 := Nat.pow_le_pow_right (by omega) hL15
        have e15 : (2 : Nat) ^ 15 = 32768 := by decide
        have hk2 := hcome2.out
        have hp : (2 : Int) ^ L = ((2 ^ L : Nat) : Int) := by push_cast; rfl
        rw [hp]
        generalize 2 ^ L = P at *
        unfold wrap64
        simp only [decide_eq_false_iff_not]
        omega
      have hmk := make_ints' i (by omega) wr
      have hO8 := ON.made wr w.heap.size i (List.replicate i 0) (by simp) hB.out.size (by simp only [maxLen]; omega)
      have hO5 := hide (OE.alloc hO.out (.cells (((List.replicate i 0).map encI).toArray) 3))
      have hB8 := hide (hB.out.alloc hB.out.size (.cells (((List.replicate i 0).map encI).toArray) 3))
      have hg58 : g5 < wr.heap.size := (OE.lt hO.out g5 rfl).2
      replace hO8 := hide hO8
      have hlen8 : wr.heap.size < (wr.alloc (.cells (((List.replicate i 0).map encI).toArray) 3)).heap.size := by simp
      generalize ((List.replicate i 0).map encI).toArray = zz at *
      go_wp2_with fail
      generalize wr.alloc (.cells zz 3) = wa at *
      obtain ⟨g8, hg8⟩ : ∃ g8, g8 = wr.heap.size := ⟨_, rfl⟩
      rw [← hg8] at hg58 hO8 ⊢
      have hgw : w.heap.size ≤ g8 := by rw [hg8]; exact hB.out.size
      clear hg8 hlen8 hmk hO hB
      by_cases hcz : comeF counts 0 = []
      · have hfin : Hid (lengthsL counts L = List.replicate i 0) := by rw [Hid, lengthsL, if_pos hcz, hlen.out]
        have hRN := hide ((OE.reads hO5.out))
        go_loopg [9] 1 (fun gk v9 wx => gk = 1 ∧ wx = wa)
        case atStart => exact ⟨rfl, rfl⟩
        case round =>
          obtain ⟨rfl, hwx⟩ := hrel
          subst hwx
          have hrr : RN wr wr.heap.size (some ⟨g5, 0, none⟩) i counts := by
            obtain ⟨A', c', e', hR', _⟩ := hRN.out
            cases e'
            exact hR'
          have htree := tree_any wr (some ⟨g5, 0, none⟩) i k5 counts hrr hn hc.out
          clear hrr
          go_wp2_with fail
          refine htree.mono ?_
          rintro e w2 ⟨hh, hb2⟩
          rcases hh with ⟨_, rfl⟩ | ⟨hbad, _⟩
          · have hO82 := hide (OE.below hO8.out hb2 (Nat.le_refl _))
            have hB82 := hide (hB8.out.trans (hb2.mono hB8.out.size))
            go_wp2_with fail
            go_ret
            exact ⟨g8, i, rfl, by rw [hfin.out]; exact hO82.out, hB82.out⟩
          · exact absurd hcz hbad
      · have hfin : Hid (lengthsL counts L = lengthsF counts L 30 counts (List.replicate i 0)) := by rw [Hid, lengthsL, if_neg hcz, hlen.out]
        have hstart : Hid (OwnOk counts counts (List.replicate i 0) 30) := by
          have := own_start counts (fun x hx => by
            obtain ⟨k, hk, rfl⟩ := List.getElem_of_mem hx
            have h1 := hc.out k
            rw [List.getD_eq_getElem?_getD, List.getElem?_eq_getElem hk, Option.getD_some] at h1
            have e30 : (2 : Nat) ^ 30 = 1073741824 := by decide
            omega)
          rw [hlen.out] at this
          exact this
        have hne := hide hcz
        have hlr : ∀ ls : List Nat, LenOk counts ls → ls.length = i := fun ls h => by rw [h.len, hlen.out]
        replace hlr := hide hlr
        go_loopg [9] 31 (fun gk v9 wx => ∃ (own out : List Nat) (f : Nat), gk = f + 1 ∧ f ≤ 30 ∧ Hid (OwnOk counts own out f) ∧ Hid (lengthsL counts L = lengthsF counts L f own out) ∧ Hid (ON wx w.heap.size (.slice (some ⟨g5, 0, none⟩) i k5) i own) ∧ Hid (ON wx w.heap.size (.slice (some ⟨g8, 0, none⟩) i i) i out) ∧ Hid (Below w.heap.size w wx))
        case atStart => exact ⟨counts, _, 30, rfl, Nat.le_refl _, hstart, hfin, hO5, hO8, hB8⟩
        case round =>
          obtain ⟨own, out, f, rfl, hf30, hok, hfl, hOw, hOu, hBw⟩ := hrel
          clear hfin hstart hO5 hO8 hB8 hcz
          have hg5w : w.heap.size ≤ g5 := (OE.lt hOw.out g5 rfl).1
          have hol := hok.out.len
          have hil := hlen.out
          have hrr : RN wr wr.heap.size (some ⟨g5, 0, none⟩) i own := by
            obtain ⟨A', c', e', hR', _⟩ := OE.reads hOw.out
            cases e'
            exact hR'
          have hco : comeF own 0 ≠ [] := by rw [hok.out.come]; exact hne.out
          have hsm : ∀ k, own.getD k 0 ≤ 1073741824 := by
            intro k
            have e30 : (2 : Nat) ^ 30 = 1073741824 := by decide
            have hpf : 2 ^ f ≤ 2 ^ 30 := Nat.pow_le_pow_right (by omega) hf30
            by_cases hk : k < own.length
            · have := hok.out.small _ (List.getElem_mem hk)
              rw [List.getD_eq_getElem?_getD, List.getElem?_eq_getElem hk, Option.getD_some]
              omega
            · rw [List.getD_eq_getElem?_getD, List.getElem?_eq_none (by omega)]
              exact Nat.zero_le _
          have htree := tree_any wr (some ⟨g5, 0, none⟩) i k5 own hrr hn hsm
          have hsy := tree_syms own hco
          have hsyn : Hid (∀ s ∈ (treeOf own).syms, s < i) := fun s hs => by
            have := (come_lt own s (hsy.mem_iff.1 hs)).1
            omega
          have hdp : 0 + (treeOf own).dep ≤ 1000 := by
            have h1 := dep_lt (treeOf own)
            rw [hsy.length_eq, come_len own 0] at h1
            have h2 := List.length_filter_le (fun n => decide (0 < n)) own
            omega
          have hrnd := hide (hok.out.round hne.out)
          have hlo : Hid ((roundL own out).length = i) := hlr.out _ hrnd.out
          replace hco := hide hco
          replace hsy := hide hsy
          clear hrr hsm
          replace hol := hide hol
          go_wp2_with fail
          refine htree.mono ?_
          rintro e w2 ⟨hh, hb2⟩
          rcases hh with ⟨hbad, _⟩ | ⟨_, g, rfl, hHp⟩
          · exact absurd hbad hco.out
          clear htree
          have hOw2 := hide (OE.below hOw.out hb2 (Nat.le_refl _))
          have hOu2 := hide (OE.below hOu.out hb2 (Nat.le_refl _))
          have hB2 := hide (hBw.out.trans (hb2.mono hBw.out.size))
          have hdeep := deep_any (treeOf own) w2 g 0 0 rfl w.heap.size g8 i i out hHp hOu2.out hsyn.out hdp
          clear hOw hOu hBw hb2 hHp
          go_wp2_with fail
          refine hdeep.mono ?_
          rintro e w3 ⟨rfl, hOu3, _, hG3⟩
          clear hdeep hOu2
          have hOw3 : Hid (ON w3 w.heap.size (.slice (some ⟨g5, 0, none⟩) i k5) i own) := by
            refine OE.of_heap hOw2.out fun k hk => ?_
            have hk2 : g5 = k := by injection hk
            subst hk2
            exact hG3.block g5 (OE.lt hOw2.out g5 rfl).2 (by intro e; cases e; omega)
          have hB3 : Hid (Below w.heap.size w w3) := hB2.out.trans ((Below.refl _ _).grown hG3 hB2.out.size fun k hk => by cases hk; exact hgw)
          replace hOu3 : Hid (ON w3 w.heap.size (.slice (some ⟨g8, 0, none⟩) i i) i (roundL own out)) := hOu3
          clear hG3 hB2 hOw2
          go_wp2_with fail
          refine (max_ints w3 g8 i i (roundL own out) w.heap.size hOu3.out h0 (by omega)).mono ?_
          rintro e w4 ⟨rfl, rfl⟩
          obtain ⟨R, hR⟩ : ∃ R, R = roundL own out := ⟨_, rfl⟩
          rw [← hR] at hOu3 hlo hrnd ⊢
          by_cases hmx2 : maxL R ≤ L
          · have hff : Hid (lengthsL counts L = fairL counts R) := by
              rw [Hid, hfl.out]
              cases f with
              | zero => rw [lengthsF, hR]
              | succ f => rw [lengthsF, ← hR, if_pos hmx2]
            have hrc : RN w4 w.heap.size (some ⟨ab, ao, none⟩) i counts := hr.out.below hB3.out
            have hnr : comeF R 0 ≠ [] := by
              rw [come_same hrnd.out.len hrnd.out.pos]; exact hne.out
            have hR1000 : ∀ k, R.getD k 0 ≤ 1000 := by
              intro k
              have h1 := come_len counts 0
              have h2 := List.length_filter_le (fun n => decide (0 < n)) counts
              have := getD_le R 1000 (fun x hx => by have := hrnd.out.low x hx; omega) k
              exact this
            have hab : ab < w.heap.size := by
              obtain ⟨ad, e', hb', _⟩ := hr.out.2 h0
              cases e'
              exact hb'
            have hfair := fair_any w4 w.heap.size (some ⟨ab, ao, none⟩) i c w.heap.size g8 i i counts R hrc hB3.out.size (fun ad e => by cases e; show ab ≠ g8; omega) hOu3.out hn (Nat.le_refl _) (by omega) hnr hR1000
            clear hrc hnr hR1000
            have hmi : decide ((maxL R : Int) ≤ (L : Int)) = true := by simp; omega
            have hmx3 : (maxL R : Int) ≤ (L : Int) := by omega
            obtain ⟨M, hM⟩ : ∃ M, M = maxL R := ⟨_, rfl⟩
            rw [← hM] at hmi hmx2 hmx3 ⊢
            replace hM := hide hM
            go_wp2_with fail
            refine hfair.mono ?_
            rintro e w5 ⟨rfl, hO5, hG5⟩
            have hB5 := hide (hB3.out.trans ((Below.refl _ _).grown hG5 hB3.out.size fun k hk => by cases hk; exact hgw))
            replace hO5 := hide hO5
            clear hfair hG5
            go_wp2_with fail
            go_ret
            exact ⟨g8, i, rfl, by rw [hff.out]; exact hO5.out, hB5.out⟩
          · obtain ⟨f, rfl⟩ : ∃ e, f = e + 1 := by
              cases f with
              | zero => exact absurd (by rw [hR]; exact hok.out.last hne.out L hcome.out hL1 (by omega)) hmx2
              | succ f => exact ⟨f, rfl⟩
            have hfl2 : Hid (lengthsL counts L = lengthsF counts L f (halfL own) R) := by
              rw [Hid, hfl.out, lengthsF, ← hR, if_neg hmx2]
            have hok2 : Hid (OwnOk counts (halfL own) R f) := by rw [hR]; exact hok.out.next hne.out
            have hmi : decide ((maxL R : Int) ≤ (L : Int)) = false := by simp; omega
            have hmx3 : ¬ (maxL R : Int) ≤ (L : Int) := by omega
            have holn := hol.out
            obtain ⟨M, hM⟩ : ∃ M, M = maxL R := ⟨_, rfl⟩
            rw [← hM] at hmi hmx2 hmx3 ⊢
            replace hM := hide hM
            have hmx4 : (L : Int) < (M : Int) := by omega
            go_wp2_with fail
            go_loopw [10, 67] (fun _ vj wx => ∃ j : Nat, vj = .int .i64 j ∧ j ≤ i ∧ Hid (ON wx w.heap.size (.slice (some ⟨g5, 0, none⟩) i k5) i (halfTo own j)) ∧ Hid (ON wx w.heap.size (.slice (some ⟨g8, 0, none⟩) i i) i R) ∧ Hid (Below w.heap.size w wx)) (fun _ vj _ => i - (intOf vj).toNat)
            case atStart => exact ⟨0, rfl, Nat.zero_le _, by rw [halfTo_zero]; exact hOw3, hOu3, hB3⟩
            case round =>
              clear hOw3 hOu3 hB3
              obtain ⟨j, rfl, hj, hOw, hOu, hBw⟩ := hrel
              by_cases hlt : j < i
              · have hjo : j < own.length := by omega
                have cj := OE.cell hOw.out (show j < (halfTo own j).length by rw [halfTo_len]; exact hjo)
                rw [halfTo_at own j hjo] at cj
                have fj := OE.froz (k := j) hOw.out
                have hst : Hid (ON (wr.setCell ⟨g5, j, none⟩ (.int .i64 (((own[j] + 1) / 2 : Nat) : Int))) w.heap.size (.slice (some ⟨g5, 0, none⟩) i k5) i (halfTo own (j + 1))) := by
                  have := OE.stored hOw.out j ((own[j] + 1) / 2)
                  rw [halfTo_set own j hjo] at this
                  exact this
                have hOu4 : Hid (ON (wr.setCell ⟨g5, j, none⟩ (.int .i64 (((own[j] + 1) / 2 : Nat) : Int))) w.heap.size (.slice (some ⟨g8, 0, none⟩) i i) i R) :=
                  OE.other hOu.out (p := ⟨g5, j, none⟩) (by intro e; injection e with e; simp at e; omega) _
                have hBs : Hid (Below w.heap.size w (wr.setCell ⟨g5, j, none⟩ (.int .i64 (((own[j] + 1) / 2 : Nat) : Int)))) := hBw.out.setCell (p := ⟨g5, j, none⟩) (OE.lt hOw.out g5 rfl).1 _
                have hsame : Hid (own[j] = 0 → halfTo own (j + 1) = halfTo own j) := halfTo_same own j hjo
                have hq30 : own[j] ≤ 1073741824 := by
                  have e30 : (2 : Nat) ^ 30 = 1073741824 := by decide
                  have hpf : 2 ^ (f + 1) ≤ 2 ^ 30 := Nat.pow_le_pow_right (by omega) hf30
                  have := hok.out.small _ (List.getElem_mem hjo)
                  omega
                unfold encI at cj
                generalize own[j] = q at *
                by_cases hq : 0 < q
                · have hq2 : ((q : Int) + 1) / 2 = (((q + 1) / 2 : Nat) : Int) := by omega
                  have hq3 : Int.tdiv ((q : Int) + 1) 2 = (((q + 1) / 2 : Nat) : Int) := by rw [Int.tdiv_eq_ediv_of_nonneg (by omega)]; omega
                  have hq4 : IntKind.i64.wrap (Int.tdiv ((q : Int) + 1) 2) = (((q + 1) / 2 : Nat) : Int) := by rw [hq3]; exact IntWalk.i64_in _ (by omega)
                  clear hq2 hq3
                  go_wp2_with fail
                  go_roundw
                  case rel => exact ⟨j + 1, by go_num, hlt, hst, hOu4, hBs⟩
                  case measure => simp [intOf]; omega
                · obtain rfl : q = 0 := by omega
                  go_wp2_with fail
                  go_roundw
                  case rel => exact ⟨j + 1, by go_num, hlt, by rw [hsame.out rfl]; exact hOw, hOu, hBw⟩
                  case measure => simp [intOf]; omega
              · obtain rfl : j = i := by omega
                rw [halfTo_all own j (by omega)] at hOw
                go_wp2_with fail
                go_roundg (f + 1)
                case rel => exact ⟨halfL own, R, f, rfl, by omega, hok2, hfl2, hOw, hOu, hBw⟩
                case measure => omega
end Go.Proofs.YtbchaomnjbkdhaaGreat
