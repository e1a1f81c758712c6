/-
  The walk of the law KeyPuts.
-/
import Derived.Test.YtnbfblikpoblgaaDoorText
import Derived.Test.YtnbfblikpoblgaaDoorPutB
namespace Go.Proofs.YtnbfblikpoblgaaDoor
open Go.RowKit
set_option linter.unusedVariables false

theorem textsB_nil : textsB [] = [] := rfl
theorem numsB_nil : numsB [] = [] := rfl
theorem textsB_take_0 (ts : List ByteArray) : textsB (ts.take 0) = [] := rfl
theorem numsB_take_0 (ns : List Int) : numsB (ns.take 0) = [] := rfl
theorem textsB_len (ts : List ByteArray) (h : ∀ t ∈ ts, t.size ≤ 100) : (textsB ts).length ≤ 202 * ts.length := by
  induction ts with
  | nil => simp [textsB]
  | cons t ts ih =>
    have h1 := ih fun x hx => h x (List.mem_cons_of_mem _ hx)
    have h2 := h t List.mem_cons_self
    have h3 := text_len t.data.toList
    have h4 := data_len t
    rw [show textsB (t :: ts) = textB t.data.toList ++ textsB ts from rfl, List.length_append, List.length_cons]
    omega
theorem numsB_len (ns : List Int) : (numsB ns).length = 6 * ns.length := by
  induction ns with
  | nil => rfl
  | cons n ns ih => rw [show numsB (n :: ns) = numB (heldI n) ++ numsB ns from rfl, List.length_append, ih, numB_len, List.length_cons]; omega

theorem drop_texts (xs N : List UInt8) (ts : List ByteArray) (k : Nat) (h : k < ts.length) :
    (xs ++ textsB ts ++ N).drop (xs ++ textsB (ts.take k)).length = textB ts[k].data.toList ++ (textsB (ts.drop (k + 1)) ++ N) := by
  have e : textsB ts = textsB (ts.take k) ++ (textB ts[k].data.toList ++ textsB (ts.drop (k + 1))) := by
    unfold textsB
    rw [← List.flatMap_cons (f := fun t : ByteArray => textB t.data.toList), ← List.drop_eq_getElem_cons h, ← List.flatMap_append, List.take_append_drop]
  have e2 : xs ++ textsB ts ++ N = (xs ++ textsB (ts.take k)) ++ (textB ts[k].data.toList ++ (textsB (ts.drop (k + 1)) ++ N)) := by
    rw [e]; simp only [List.append_assoc]
  rw [e2, List.drop_left]
theorem textsB_take_le (ts : List ByteArray) (k : Nat) : (textsB (ts.take k)).length ≤ (textsB ts).length := by
  have e : textsB ts = textsB (ts.take k) ++ textsB (ts.drop k) := by
    unfold textsB
    rw [← List.flatMap_append, List.take_append_drop]
  rw [e, List.length_append]; omega
theorem numsB_take_le (ns : List Int) (k : Nat) : (numsB (ns.take k)).length ≤ (numsB ns).length := by
  have e : numsB ns = numsB (ns.take k) ++ numsB (ns.drop k) := by
    unfold numsB
    rw [← List.flatMap_append, List.take_append_drop]
  rw [e, List.length_append]; omega
theorem drop_nums (X : List UInt8) (ns : List Int) (k : Nat) (h : k < ns.length) :
    (X ++ numsB ns).drop (X ++ numsB (ns.take k)).length = numB (heldI ns[k]) ++ numsB (ns.drop (k + 1)) := by
  have e : numsB ns = numsB (ns.take k) ++ (numB (heldI ns[k]) ++ numsB (ns.drop (k + 1))) := by
    unfold numsB
    rw [← List.flatMap_cons (f := fun z : Int => numB (heldI z)), ← List.drop_eq_getElem_cons h, ← List.flatMap_append, List.take_append_drop]
  have e2 : X ++ numsB ns = (X ++ numsB (ns.take k)) ++ (numB (heldI ns[k]) ++ numsB (ns.drop (k + 1))) := by
    rw [e]; simp only [List.append_assoc]
  rw [e2, List.drop_left]
theorem val_held (z : Int) : ((val (numB (heldI z)) : Nat) : Int) = heldI z := by
  have h0 := heldI_0 z
  rw [val_numB _ h0 (heldI_1 z)]; omega

set_option maxRecDepth 100000 in
set_option maxHeartbeats 4000000 in
theorem keyPuts_true (m : Int) (w : World) (hg : 2 < w.heap.size) (hm : w.cell? ⟨2, 0, none⟩ = some (.int .i64 m))
    (A : Option Addr) (n c : Nat) (xs : List UInt8) (ha : RB w w.heap.size A n xs) (B : Option Addr) (p d : Nat) (ts : List ByteArray) (hb : RS w w.heap.size B p ts) (C : Option Addr) (q e : Nat) (ns : List Int) (hc : RI w w.heap.size C q ns) :
    Calls Tryd.prog 4 #[.slice A n c, .slice B p d, .slice C q e] w fun e w' => e = .returned (.bool true) ∧ Below w.heap.size w w' := by
  have hxl := hide ha.len
  have htl := hide hb.len
  have hnl := hide hc.len
  replace ha := hide ha
  replace hb := hide hb
  replace hc := hide hc
  replace hm := hide hm
  go_enter Tryd.func4, Tryd.ntmps4
  go_wp2_with fail
  refine (wakes20_any _).mono ?_
  rintro e w0 ⟨rfl, hb0⟩
  by_cases h1 : n ≤ 100
  · by_cases h2 : p ≤ 20
    · by_cases h3 : q ≤ 20
      · have hsz0 := hb0.size
        have g1 : decide ((100 : Int) < (n : Int)) = false := by simp; omega
        have g2 : decide ((20 : Int) < (p : Int)) = false := by simp; omega
        have g3 : decide ((20 : Int) < (q : Int)) = false := by simp; omega
        have hA0 := hide ((ha.out.below hb0).more hsz0)
        go_wp2_with (at_builtin; refine wpList_app_b rfl (.tmp 37) (.tmp 38) rfl w.heap.size _ _ _ ((OB.empty w0 (Nat.le_refl _)).more hsz0) rfl _ _ _ _ _ rfl ((ha.out.below hb0).alloc hsz0 _) (by omega) (by simp; omega) ?_; intro v1 w1 ho1 hb1 hg1 _)
        have hbl1 := (hb0.alloc hsz0 (.cells #[] 5)).trans hb1
        clear hb0 hb1 hg1 g1 g2 g3 hA0
        rw [List.nil_append, Nat.zero_add] at ho1
        replace ho1 := hide ho1
        go_loopw [7, 42, 8] (fun v i _ wr => ∃ k : Nat, k ≤ p ∧ i = .int .i64 k ∧ Hid (∀ t ∈ ts.take k, t.size ≤ 100) ∧ Hid (OB wr w.heap.size v (xs ++ textsB (ts.take k)).length (xs ++ textsB (ts.take k))) ∧ Below w.heap.size w wr) (fun _ i _ _ => p - (intOf i).toNat)
        case atStart => exact ⟨0, by omega, rfl, fun t ht => (by simp at ht), (by show OB _ _ _ _ _; rw [textsB_take_0, List.append_nil, hxl.out]; exact ho1.out), hbl1⟩
        case round =>
          obtain ⟨k, hk, rfl, hsm, HO, hbl⟩ := hrel
          clear ho1 hbl1 hsz0
          have hsz := hbl.size
          by_cases h4 : k < p
          · have hz1 : k < ts.length := by have := htl.out; omega
            obtain ⟨bd, rfl, hbb, cb⟩ := (hb.out.below hbl).elem h4 hz1
            have HS := hide (textsB_snoc ts k hz1)
            have hsn : Hid (ts[k].size ≤ 100 → ∀ t ∈ ts.take (k + 1), t.size ≤ 100) := by
              intro h t ht
              rw [List.take_succ_eq_append_getElem hz1] at ht
              rcases List.mem_append.1 ht with ht | ht
              · exact hsm.out t ht
              · simp at ht; rw [ht]; exact h
            have hlen : (xs ++ textsB (ts.take k)).length ≤ 5000 := by
              have e1 := textsB_len (ts.take k) hsm.out
              have e2 := hxl.out
              have e3 : (ts.take k).length ≤ 20 := by simp; omega
              rw [List.length_append]; omega
            generalize hP : xs ++ textsB (ts.take k) = P at *
            replace hP := hide hP
            generalize ts[k] = tk at *
            by_cases h5 : tk.size ≤ 100
            · replace hsn := hide (hsn.out h5)
              go_wp2_with fail
              refine (refText_any tk _ (by omega)).mono ?_
              rintro e wx ⟨vx, rfl, hox, hbx⟩
              obtain ⟨xA, xc, rfl, hxr, -, -, -⟩ := hox.form
              have HO2 := hide (HO.out.below hbx (Nat.le_refl _))
              have hblx := hbl.trans (hbx.mono hsz)
              have hszx := hblx.size
              replace hxr := hide hxr
              have htlk := text_len tk.data.toList
              have hdk := data_len tk
              clear HO hbl hbx hox hsm cb
              go_wp2_with (at_builtin; refine wpList_app_b rfl (.tmp 51) (.tmp 56) rfl w.heap.size _ _ _ HO2.out rfl _ _ _ _ _ rfl hxr.out (by omega) (by omega) ?_; intro v2 w2 ho2 hb2 hg2 _)
              have hbl2 := hblx.trans hb2
              clear HO2 hxr hblx hb2 hg2 htlk hdk
              rw [← hP.out, List.append_assoc, ← HS.out] at ho2
              replace ho2 := hide ho2
              go_roundw
              case rel => exact ⟨k + 1, by omega, by go_num, hsn, by have := ho2.out; rw [this.len]; exact this, hbl2⟩
              case measure => simp [intOf]; omega
            · go_wp2_with fail
              go_ret
              exact ⟨rfl, hbl⟩
          · have hkp : k = p := by omega
            have HT : Hid (ts.take k = ts) := by
              show _ = _
              rw [List.take_of_length_le (by have := htl.out; omega)]
            rw [HT.out] at hsm HO
            clear HT hkp
            go_wp2_with fail
            obtain ⟨w3, rfl⟩ : ∃ w3 : World, w3 = wr := ⟨_, rfl⟩
            clear hk h4
            go_loopw [7, 61] (fun v i wr => ∃ k : Nat, k ≤ q ∧ i = .int .i64 k ∧ Hid (OB wr w.heap.size v (xs ++ textsB ts ++ numsB (ns.take k)).length (xs ++ textsB ts ++ numsB (ns.take k))) ∧ Below w.heap.size w wr) (fun _ i _ => q - (intOf i).toNat)
            case atStart => exact ⟨0, by omega, rfl, (by show OB _ _ _ _ _; rw [numsB_take_0, List.append_nil]; exact HO.out), hbl⟩
            case round =>
              clear HO hbl hsz
              obtain ⟨k, hk, rfl, HO, hbl⟩ := hrel
              have hsz := hbl.size
              have hlen : (xs ++ textsB ts ++ numsB (ns.take k)).length ≤ 5000 := by
                have e1 := textsB_len ts hsm.out
                have e2 := hxl.out
                have e3 := htl.out
                have e4 : (ns.take k).length ≤ 20 := by simp; omega
                have e5 := numsB_len (ns.take k)
                rw [List.length_append, List.length_append]; omega
              by_cases h4 : k < q
              · have hz1 : k < ns.length := by have := hnl.out; omega
                obtain ⟨bd, rfl, hbb, cb⟩ := (hc.out.below hbl).elem h4 hz1
                have HS := hide (numsB_snoc ns k hz1)
                generalize hP : xs ++ textsB ts ++ numsB (ns.take k) = P at *
                replace hP := hide hP
                generalize ns[k] = z at *
                go_wp2_with fail
                refine (refNum_any z _).mono ?_
                rintro e wx ⟨vx, rfl, hox, hbx⟩
                obtain ⟨xA, xc, rfl, hxr, -, -, -⟩ := hox.form
                have HO2 := hide (HO.out.below hbx (Nat.le_refl _))
                have hblx := hbl.trans (hbx.mono hsz)
                have hszx := hblx.size
                replace hxr := hide hxr
                have hl6 : (numB (heldI z)).length ≤ 6 := Nat.le_of_eq (numB_len (heldI z))
                clear HO hbl hbx hox cb
                generalize numB (heldI z) = Y at *
                go_wp2_with (at_builtin; refine wpList_app_b rfl (.tmp 65) (.tmp 67) rfl w.heap.size _ _ _ HO2.out rfl _ _ _ _ _ rfl hxr.out (by omega) (by omega) ?_; intro v2 w2 ho2 hb2 hg2 _)
                have hbl2 := hblx.trans hb2
                clear HO2 hxr hblx hb2 hg2
                have e7 : P ++ Y = xs ++ textsB ts ++ numsB (ns.take (k + 1)) := by rw [HS.out, ← List.append_assoc, hP.out]
                rw [e7] at ho2
                clear e7
                replace ho2 := hide ho2
                go_roundw
                case rel => exact ⟨k + 1, by omega, by go_num, by have := ho2.out; rw [this.len]; exact this, hbl2⟩
                case measure => simp [intOf]; omega
              · have hkq : k = q := by omega
                have HT : Hid (ns.take k = ns) := by
                  show _ = _
                  rw [List.take_of_length_le (by have := hnl.out; omega)]
                rw [HT.out] at HO hlen
                clear HT hkq
                obtain ⟨w4, rfl⟩ : ∃ w4 : World, w4 = wr := ⟨_, rfl⟩
                generalize hW : xs ++ textsB ts ++ numsB ns = L at *
                replace hW := hide hW
                obtain ⟨wA, wc, rfl, hwr, -, hw1, hw2⟩ := HO.out.form
                replace hwr := hide hwr
                clear HO
                have hA0 := hide ((ha.out.below hbl).alloc hsz (.cells #[] 5))
                go_wp2_with (at_builtin; refine wpList_app_b rfl (.tmp 70) (.tmp 71) rfl w4.heap.size _ _ _ (OB.empty w4 (Nat.le_refl _)) rfl _ _ _ _ _ rfl hA0.out (by omega) (by simp) ?_; intro v5 w5 ho5 hb5 _ _)
                have hbl5 := ((Below.refl w4.heap.size w4).alloc (Nat.le_refl _) (.cells #[] 5)).trans hb5
                rw [List.nil_append, Nat.zero_add] at ho5
                obtain ⟨bA, bc, rfl, hbr, -, -, -⟩ := ho5.form
                replace hbr := hide hbr
                have hbw5 := hbl.trans (hbl5.mono hsz)
                have hsz5 := hbw5.size
                have hm5 : w5.cell? ⟨2, 0, none⟩ = some (.int .i64 m) := (hbw5.cell (p := ⟨2, 0, none⟩) hg).trans hm.out
                replace hm5 := hide hm5
                have hwr5 := hide (hwr.out.below hbl5)
                clear ho5 hb5 hA0 hwr hbl
                refine (text_any2 _ _ n p bc d xs ts m w5 hbr.out ((hb.out.below hbw5).more hsz5) (by omega) (by omega) (fun t ht => Nat.le_trans (hsm.out t ht) (by decide)) (Nat.lt_of_lt_of_le hg hsz5) hm5.out).mono ?_
                rintro e w6 ⟨v6, rfl, ho6, hb6⟩
                obtain ⟨tA, tc, rfl, htr, -, -, -⟩ := ho6.form
                have hbw6 := hbw5.trans (hb6.mono hsz5)
                have hsz6 := hbw6.size
                have hs46 := Nat.le_trans hbl5.size hb6.size
                have hwr6 := hide (hwr5.out.below (hb6.mono hbl5.size))
                replace htr := hide htr
                have hlx : (xs ++ textsB ts).length ≤ 5000 := by
                  have e0 := congrArg List.length hW.out
                  rw [List.length_append] at e0; omega
                generalize hX : xs ++ textsB ts = X at *
                replace hX := hide hX
                clear ho6 hb6 hwr5 hbr hm5 hbw5
                go_wp2_with fail
                refine (num_any tA _ _ q tc e X ns w6 htr.out ((hc.out.below hbw6).more hsz6) (by omega) (by omega)).mono ?_
                rintro e w7 ⟨v7, rfl, ho7, hb7⟩
                rw [hW.out] at ho7
                obtain ⟨lA, lc, rfl, hlr, -, hl1, hl2⟩ := ho7.form
                have hbw7 := hbw6.trans (hb7.mono hsz6)
                have hsz7 := hbw7.size
                have hwr7 := hide ((hwr6.out.below (hb7.mono hs46)).more (Nat.le_trans hs46 hb7.size))
                replace hlr := hide hlr
                clear ho7 hb7 hwr6 htr hbw6
                go_wp2_with fail
                refine (same_any _ _ _ _ _ _ _ _ _ hlr.out hwr7.out (by omega) (by omega)).mono ?_
                rintro e w8 ⟨rfl, hq⟩
                rw [decide_eq_true rfl]
                have hbw8 := hbw7.trans (hq.below _)
                have hsz8 := hbw8.size
                have hlr8 := hide (hlr.out.below (hq.below _))
                have h78 := (hq.below w7.heap.size).size
                clear hwr7 hq hlr hbw7
                go_wp2_with fail
                clear hw1 hw2
                obtain ⟨z8, rfl⟩ : ∃ z8 : World, z8 = w8 := ⟨_, rfl⟩
                have hz1 := hide hlen
                go_loopw [12, 85] (fun v i wr => ∃ k : Nat, k ≤ p ∧ i = .int .i64 k ∧ Hid (v = .int .i64 ((xs ++ textsB (ts.take k)).length : Int)) ∧ Below z8.heap.size z8 wr) (fun _ i _ => p - (intOf i).toNat)
                case atStart => exact ⟨0, by omega, rfl, (by show _ = _; rw [textsB_take_0, List.append_nil, hxl.out]), Below.refl _ _⟩
                case round =>
                  obtain ⟨k, hk, rfl, HV, hbl⟩ := hrel
                  have hsz := hbl.size
                  by_cases h4 : k < p
                  · have hz1 : k < ts.length := by have := htl.out; omega
                    have hbw := hbw8.trans (hbl.mono hsz8)
                    obtain ⟨bd, rfl, hbb, cb⟩ := (hb.out.below hbw).elem h4 hz1
                    have HD := hide (drop_texts xs (numsB ns) ts k hz1)
                    have HS := hide (textsB_snoc ts k hz1)
                    have hat : (xs ++ textsB (ts.take k)).length ≤ L.length := by
                      rw [← hW.out, ← hX.out, List.length_append, List.length_append, List.length_append]
                      have := textsB_take_le ts k
                      omega
                    rw [hX.out, hW.out] at HD
                    have HV2 := HV.out
                    subst HV2
                    clear HV
                    have hsd := hide (str_eta ts[k])
                    have hP : Hid ((xs ++ textsB (ts.take (k + 1))).length = (xs ++ textsB (ts.take k)).length + (textB ts[k].data.toList).length) := by
                      show _ = _
                      rw [HS.out, ← List.append_assoc, List.length_append]
                    clear HS
                    generalize (xs ++ textsB (ts.take k)).length = at' at *
                    generalize ts[k] = tk at *
                    go_wp2_with fail
                    refine (getText_any lA L.length lc at' L _ tk.data.toList _ ((hlr8.out.below (hbl.mono h78)).more (by omega)) (by omega) hat HD.out).mono ?_
                    rintro e wx ⟨rfl, hbx⟩
                    rw [hsd.out, ← hP.out]
                    have cb2 : wx.cell? (bd.add k) = some (.string tk) := (hbx.cell (by rw [block_of_add]; omega)).trans cb
                    have hblx := hbl.trans (hbx.mono hsz)
                    clear hbx hbl cb HD hbw
                    go_wp2_with fail
                    go_roundw
                    case rel => exact ⟨k + 1, by omega, by go_num, (by show _ = _; simp), hblx⟩
                    case measure => simp [intOf]; omega
                  · have hkp : k = p := by omega
                    have HT : Hid (ts.take k = ts) := by
                      show _ = _
                      rw [List.take_of_length_le (by have := htl.out; omega)]
                    rw [HT.out, hX.out] at HV
                    have HV2 := HV.out
                    subst HV2
                    clear HT hkp HV hz1
                    obtain ⟨z9, rfl⟩ : ∃ z9 : World, z9 = wr := ⟨_, rfl⟩
                    go_wp2_with fail
                    have hb9 := hbw8.trans (hbl.mono hsz8)
                    have hlr9 := hide (hlr8.out.below (hbl.mono h78))
                    have h79 := Nat.le_trans h78 hsz
                    clear hbl hlr8 hbw8
                    go_loopw [12, 109] (fun v i wr => ∃ k : Nat, k ≤ q ∧ i = .int .i64 k ∧ Hid (v = .int .i64 ((X ++ numsB (ns.take k)).length : Int)) ∧ z9 = wr) (fun _ i _ => q - (intOf i).toNat)
                    case atStart => exact ⟨0, by omega, rfl, (by show _ = _; rw [numsB_take_0, List.append_nil]), rfl⟩
                    case round =>
                      obtain ⟨k, hk, rfl, HV, rfl⟩ := hrel
                      by_cases h4 : k < q
                      · have hz1 : k < ns.length := by have := hnl.out; omega
                        obtain ⟨bd, rfl, hbb, cb⟩ := (hc.out.below hb9).elem h4 hz1
                        have HD := hide (drop_nums X ns k hz1)
                        have HS := hide (numsB_snoc ns k hz1)
                        have hat : (X ++ numsB (ns.take k)).length + 6 ≤ L.length := by
                          rw [← hW.out, List.length_append, List.length_append, numsB_len, numsB_len]
                          have : (ns.take k).length = k := by simp; omega
                          omega
                        rw [hW.out] at HD
                        have HV2 := HV.out
                        subst HV2
                        clear HV
                        have hP : Hid ((X ++ numsB (ns.take (k + 1))).length = (X ++ numsB (ns.take k)).length + 6) := by
                          show _ = _
                          rw [HS.out, ← List.append_assoc, List.length_append (bs := numB _), numB_len]
                        have hv := hide (val_held ns[k])
                        clear HS
                        generalize (X ++ numsB (ns.take k)).length = at' at *
                        generalize ns[k] = z at *
                        go_wp2_with fail
                        refine (getNum_any lA L.length lc at' L _ (numB (heldI z)) _ (hlr9.out.more h79) (by omega) hl1 hl2 hat HD.out (numB_len _)).mono ?_
                        rintro e wx ⟨rfl, rfl⟩
                        rw [hv.out, ← hP.out]
                        clear HD
                        go_wp2_with fail
                        refine (held_any _ _).mono ?_
                        rintro e wx ⟨rfl, rfl⟩
                        go_wp2_with fail
                        go_roundw
                        case rel => exact ⟨k + 1, by omega, by go_num, (by show _ = _; simp), trivial⟩
                        case measure => simp [intOf]; omega
                      · have hkp : k = q := by omega
                        have HT : Hid (ns.take k = ns) := by
                          show _ = _
                          rw [List.take_of_length_le (by have := hnl.out; omega)]
                        rw [HT.out, hW.out] at HV
                        have HV2 := HV.out
                        subst HV2
                        clear HT hkp HV
                        go_wp2_with fail
                        go_ret
                        exact ⟨ret_bool (by simp), hb9⟩
      · go_wp2_with fail
        go_ret
        exact ⟨rfl, hb0⟩
    · go_wp2_with fail
      go_ret
      exact ⟨rfl, hb0⟩
  · go_wp2_with fail
    go_ret
    exact ⟨rfl, hb0⟩
end Go.Proofs.YtnbfblikpoblgaaDoor
