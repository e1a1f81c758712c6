/-
  The walk of the law NormTexts.
-/
import Derived.Test.YtnhcamkccnaeeaaGreatDoorNormW
import Derived.Test.YtnhcamkccnaeeaaGreatDoorRpH
import Derived.Test.YtnhcamkccnaeeaaGreatDoorRErr
namespace Go.Proofs.YtnhcamkccnaeeaaGreatDoor
open Go.RowKit
set_option linter.unusedVariables false

/-! ### Plain: the texts of the normal form are the question's -/
theorem uniqA_append : ∀ (l r : List Ask) (acc : List (List UInt8)), uniqA acc (l ++ r) = uniqA (uniqA acc l) r
  | [], r, acc => rfl
  | a :: l, r, acc => by rw [List.cons_append, uniqA, uniqA_append l r, uniqA]
theorem uniqA_joint (acc : List (List UInt8)) (a : Ask) (h : a.kind ≠ 9) : uniqA acc [a] = acc := by
  rw [uniqA, uniqA, if_neg (fun c => h c.1)]
theorem told_kind (G : List UInt8 → Bool) (D : List UInt8 → Option Int) (a : Ask) : (toldR G D a).1.kind = a.kind ∧ (a.kind = 9 → (toldR G D a).1.text = a.text) := by
  unfold toldR
  split
  · exact ⟨rfl, fun _ => rfl⟩
  · split
    · rename_i h; exact ⟨rfl, fun e => by omega⟩
    · split
      · exact ⟨rfl, fun _ => rfl⟩
      · exact ⟨rfl, fun _ => rfl⟩
theorem uniq_lay (T : Ask → Ask) (hT : ∀ a, (T a).kind = a.kind ∧ (a.kind = 9 → (T a).text = a.text)) : ∀ (q : Q) (t : Bool) (p p' : Nat) (acc : List (List UInt8)), okQ q →
    uniqA acc ((layQ T q t).parts p) = uniqA acc (q.parts p')
  | .term a, t, p, p', acc, h => by
    obtain ⟨h1, h2⟩ := hT a
    by_cases h9 : a.kind = 9
    · have h3 := h2 h9
      cases t
      · show uniqA acc [T a] = uniqA acc [a]
        rw [uniqA, uniqA, uniqA, uniqA, h1, h3]
      · show uniqA acc [⟨(T a).kind, _, _, _, _, (T a).text, _⟩] = uniqA acc [a]
        rw [uniqA, uniqA, uniqA, uniqA, h1, h3]
    · rw [show uniqA acc ((Q.term a).parts p') = acc from uniqA_joint acc a h9]
      cases t
      · exact uniqA_joint acc _ (by show (T a).kind ≠ 9; rw [h1]; exact h9)
      · exact uniqA_joint acc _ (by show (T a).kind ≠ 9; rw [h1]; exact h9)
  | .neg q, t, p, p', acc, h => by
    rw [layQ, uniq_lay T hT q (!t) p p' acc h, Q.parts, uniqA_append, uniqA_joint _ _ (by show (3 : Int) ≠ 9; decide)]
  | .two k x y, t, p, p', acc, h => by
    have hk := h.1
    rw [layQ, Q.parts, Q.parts, uniqA_append, uniqA_append, uniqA_append, uniqA_append, uniq_lay T hT x t p p' acc h.2.1, uniq_lay T hT y t _ (p' + x.size) _ h.2.2,
      uniqA_joint _ _ (by show (if t = true then 3 - k else k) ≠ 9; split <;> omega), uniqA_joint _ _ (by show k ≠ 9; omega)]
theorem uniq_norm (q : Q) (h : okQ q) : uniqA [] (normL globG dosP q) = uniqA [] (q.parts 0) := uniq_lay _ (told_kind globG dosP) q false 0 0 [] h
theorem okQ_ops : ∀ (q : Q) (p : Nat), okQ q → ∀ x ∈ q.parts p, 9 ≤ x.kind ∨ 1 ≤ x.op ∨ x.kind < 4
  | .term a, p, h, x, hx => by
    have e : x = a := by simpa [Q.parts] using hx
    subst e
    obtain ⟨h1, -⟩ := h
    rcases h1 with ⟨h4, -⟩ | ⟨h4, h5, h6, -⟩
    · omega
    · omega
  | .neg q, p, h, x, hx => by
    rw [Q.parts] at hx
    rcases List.mem_append.1 hx with hx | hx
    · exact okQ_ops q p h x hx
    · simp at hx; subst hx; right; right; show (3 : Int) < 4; omega
  | .two k y z, p, h, x, hx => by
    have hk := h.1
    rw [Q.parts, List.mem_append, List.mem_append] at hx
    rcases hx with hx | hx | hx
    · exact okQ_ops y p h.2.1 x hx
    · exact okQ_ops z _ h.2.2 x hx
    · simp at hx; subst hx; right; right; show k < 4; omega
theorem normRes_len (q : Q) (h : q.size ≤ 400) : (normRes globG dosP q).length ≤ 400 := by
  unfold normRes
  split
  · rw [normL, Q.parts_len]
    have := turnQ_size (mapQ told1 q) false
    rw [← layQ_map, mapQ_size] at this
    have h2 : (layQ (fun a => (toldR globG dosP a).1) q false).size = (layQ told1 q false).size := rfl
    rw [h2]; omega
  · simp
set_option maxRecDepth 100000 in
theorem nholds_nil (w : World) : Calls Tryz.prog 19 #[.slice none 0 0, .agg #[.string ⟨#[]⟩, .int .i64 0, .int .i64 0, .int .u32 0, .int .i64 0, .int .i64 0, .int .i64 0], .slice none 0 0] w fun e w' => e = .returned (.bool false) ∧ Below w.heap.size w w' := by
  have hmk := fun (wx : World) => make_bools 0 (by omega) wx
  simp only [Int.natCast_zero, Array.replicate_zero] at hmk
  go_enter Tryz.func19, Tryz.ntmps19
  go_wp2_with fail
  go_loopw [15] (fun v15 wr => v15 = .int .i64 0 ∧ Below w.heap.size w wr) (fun _ _ => 0)
  case atStart => exact ⟨rfl, ((Below.refl _ _).alloc (Nat.le_refl _) _).alloc (by simp) _⟩
  case round =>
    obtain ⟨rfl, hbl⟩ := hrel
    go_wp2_with fail
    go_ret
    exact ⟨rfl, hbl⟩
theorem pd_cells2 (w : World) (v : Value) (e : Int) : Blk (w.alloc (.cells #[v, .int .i64 e] 45)) w.heap.size 45 #[v, .int .i64 e] := Blk.new w 45 _
set_option maxRecDepth 100000 in
set_option maxHeartbeats 8000000 in
theorem normTexts_walk (w : World) (hA : Tabs w) (s : ByteArray) : Calls Tryz.prog 7 #[.string s] w fun e w' => e = .returned (.bool true) ∧ Below w.heap.size w w' := by
  have hdl := hide (data_len s)
  go_enter Tryz.func7, Tryz.ntmps7
  go_wp2_with fail
  refine (wakes25_any w hA).mono ?_
  rintro e w1 ⟨rfl, hb1⟩
  have hA1 := hide (hA.below hb1)
  have hsz1 := hb1.size
  clear hA
  by_cases h3 : 500 < s.size
  · have h3' : (500 : Int) < (s.size : Int) := by omega
    clear h3
    go_wp2_with fail
    go_ret
    exact ⟨rfl, hb1⟩
  · have h3' : ¬ (500 : Int) < (s.size : Int) := by omega
    go_wp2_with fail
    refine (rparse_any s w1 (by omega)).mono ?_
    rintro e w2 ⟨v2, rfl, ho2, hb2⟩
    have hbw2 := hb1.trans (hb2.mono hsz1)
    have hsz2 := hbw2.size
    have hA2 := hA1.out.below hb2
    clear hb1 hb2 hA1 hsz1
    obtain ⟨l, hl⟩ : ∃ l, l = s.data.toList := ⟨_, rfl⟩
    rw [← hl] at ho2 ⊢
    clear hl h3
    obtain ⟨A2, c2, rfl, hR2, -, -, -⟩ := ho2.form
    obtain ⟨n2, hn2⟩ : ∃ n, n = (parsedL l).length := ⟨_, rfl⟩
    rw [← hn2] at hR2 ⊢
    replace hn2 := hide hn2
    obtain ⟨e2, he2⟩ : ∃ e, e = parsedE l := ⟨_, rfl⟩
    rw [← he2]
    have hX := hide (pd_cells2 w2 (.slice A2 n2 c2) e2)
    have hb3 := (Below.refl w2.heap.size w2).alloc (Nat.le_refl _) (.cells #[.slice A2 n2 c2, .int .i64 e2] 45)
    have hA3 := hide (hA2.below hb3)
    have hR3 := hide ((hR2.below hb3).more hb3.size)
    have hbw3 := hbw2.trans (hb3.mono hsz2)
    clear ho2 hR2 hA2 hb3
    by_cases hE : parsedE l = 0
    · obtain ⟨q, hq, hpl, hdep, hpat, hplain⟩ := of_parsed hE
      have hok := textQ_ok hq
      have hqs := textQ_size hq
      rw [hE] at he2
      subst he2
      rw [hpl] at hR3 hn2
      have k2 : n2 = q.size := by rw [hn2.out, Q.parts_len]
      have hn400 : n2 ≤ 400 := by omega
      have hER : errsR (q.parts 0) = errsL globG dosP (q.parts 0) := errsR_told _ (okQ_ops q 0 hok)
      clear hE hq hpl hpat hn2 k2
      go_upto_region 6 with (fail)
      obtain ⟨w3, hw3⟩ : ∃ x, x = w2.alloc (.cells #[.slice A2 n2 c2, .int .i64 0] 45) := ⟨_, rfl⟩
      rw [← hw3] at hX hA3 hR3 hbw3 ⊢
      clear hw3
      have x0 : w3.cell? ⟨w2.heap.size, 0, none⟩ = some (.slice A2 n2 c2) := hX.out.cell 0
      have x1 : w3.cell? ⟨w2.heap.size, 1, none⟩ = some (.int .i64 0) := hX.out.cell 1
      have hxlt := hX.out.lt
      have hsz3 := hbw3.size
      go_wp2_with fail
      refine (rerrs_any w3 A2 n2 c2 (q.parts 0) hR3.out (by omega)).mono ?_
      rintro e w4 ⟨rfl, hb4⟩
      have hX4 := hX.out.below hb4 hxlt
      have hA4 := hA3.out.below hb4
      have hR4 := (hR3.out.below hb4).more hb4.size
      have hbw4 := hbw3.trans (hb4.mono hsz3)
      have hsz4 := hbw4.size
      have hlt4 := hX4.lt
      clear hX hA3 hR3 hbw3 x0 x1 hb4 hsz3 hxlt
      by_cases hEE : errsR (q.parts 0) = 0
      · have n0 : (errsR (q.parts 0) != 0) = false := by simp [hEE]
        have hne : normErr globG dosP q = 0 := by
          unfold normErr
          rw [if_neg (by omega), ← hER, hEE]
        have hnr : normRes globG dosP q = normL globG dosP q := by unfold normRes; rw [if_pos hne]
        have hnl := normRes_len q hqs
        have hun := hide (uniq_norm q hok)
        rw [hnr] at hnl
        have x0 : w4.cell? ⟨w2.heap.size, 0, none⟩ = some (.slice A2 n2 c2) := hX4.cell 0
        clear hEE hER
        go_wp2_with fail
        refine (norm_any w4 A2 n2 c2 q hR4 hok hplain (by omega) hA4.2.2.1 hA4.2.2.2).mono ?_
        rintro e w5 ⟨v5, rfl, ho5, hb5⟩
        rw [hne]
        rw [hnr] at ho5
        have hX5 := hX4.below hb5 hlt4
        have hR5 := hide ((hR4.below hb5).more hb5.size)
        have hbw5 := hbw4.trans (hb5.mono hsz4)
        have hsz5 := hbw5.size
        have x0 : w5.cell? ⟨w2.heap.size, 0, none⟩ = some (.slice A2 n2 c2) := hX5.cell 0
        obtain ⟨A5, c5, rfl, hRN, -, -, -⟩ := ho5.form
        obtain ⟨L, hL⟩ : ∃ L, L = q.parts 0 := ⟨_, rfl⟩
        obtain ⟨N, hN⟩ : ∃ N, N = normL globG dosP q := ⟨_, rfl⟩
        rw [← hL] at hR5 hun
        rw [← hN] at hRN hnl hun ⊢
        obtain ⟨n5, hn5⟩ : ∃ n, n = N.length := ⟨_, rfl⟩
        rw [← hn5] at hRN hnl ⊢
        replace hRN := hide hRN
        have hLl := hide hR5.out.len
        clear hX4 hX5 hA4 hR4 hbw4 hb5 ho5 hne hnr hok hplain hdep hqs hn5 hL hN
        go_wp2_with fail
        go_loopw [6, 37] (fun v6 v37 wr => ∃ (p m : Nat) (acc : List (List UInt8)), v37 = .int .i64 p ∧ p ≤ n2 ∧ m ≤ p ∧ OS wr w5.heap.size v6 m acc ∧ uniqA [] L = uniqA acc (L.drop p) ∧ Below w5.heap.size w5 wr) (fun _ v37 _ => n2 - (intOf v37).toNat)
        case atStart => exact ⟨0, 0, [], rfl, by omega, by omega, OS.nil _ _, rfl, Below.refl _ _⟩
        case round =>
          obtain ⟨p, m, acc, rfl, hp, hm, hO, hU, hbl⟩ := hrel
          have hsz := hbl.size
          by_cases h1 : p < n2
          · have hpl : p < L.length := by have := hLl.out; omega
            obtain ⟨ad, e, hab, c0, c1, c2, c3, c4, c5', c6⟩ := (hR5.out.below hbl).elem (k := p) h1 hpl
            subst e
            rw [uniq_drop acc hpl] at hU
            generalize L[p] = x at *
            have h1' : (p : Int) < (n2 : Int) := by omega
            have hOa := hO.below (Below.alloc (Below.refl wr.heap.size wr) (Nat.le_refl _) (.cells #[.int .i64 x.kind, .int .i64 x.op, .int .i64 x.a, .int .i64 x.b, .int .i64 x.n, .string (str x.text), .bool x.isText] 54)) (Nat.le_refl _)
            have hBx := Blk.new wr 54 #[.int .i64 x.kind, .int .i64 x.op, .int .i64 x.a, .int .i64 x.b, .int .i64 x.n, .string (str x.text), .bool x.isText]
            have hba := hbl.alloc hsz (.cells #[.int .i64 x.kind, .int .i64 x.op, .int .i64 x.a, .int .i64 x.b, .int .i64 x.n, .string (str x.text), .bool x.isText] 54)
            obtain ⟨A1, k1, rfl, hR1⟩ := hOa.form
            have hml := hOa.len
            replace hOa := hide hOa
            replace hBx := hide hBx
            replace hba := hide hba
            replace hR1 := hide hR1
            replace hU := hide hU
            clear hO hbl
            go_upto_region 13 with (fail)
            obtain ⟨wa, hwa⟩ : ∃ y, y = wr.alloc (.cells #[.int .i64 x.kind, .int .i64 x.op, .int .i64 x.a, .int .i64 x.b, .int .i64 x.n, .string (str x.text), .bool x.isText] 54) := ⟨_, rfl⟩
            rw [← hwa] at hOa hBx hba hR1 ⊢
            clear hwa
            have d0 : wa.cell? ⟨wr.heap.size, 0, none⟩ = some (.int .i64 x.kind) := hBx.out.cell 0
            have d5 : wa.cell? ⟨wr.heap.size, 5, none⟩ = some (.string (str x.text)) := hBx.out.cell 5
            clear c0 c1 c2 c3 c4 c5' c6
            go_wp2_with fail
            go_loopw [9, 43] (fun v9 v43 wi => ∃ j : Nat, v43 = .int .i64 j ∧ j ≤ m ∧ v9 = .bool (decide (x.text ∈ acc.take j)) ∧ wa = wi) (fun _ v43 _ => m - (intOf v43).toNat)
            case atStart => exact ⟨0, rfl, by omega, by simp, rfl⟩
            case round =>
              obtain ⟨j, rfl, hj, rfl, rfl⟩ := hrel
              by_cases hjm : j < m
              · have hja : j < acc.length := by omega
                have hjm' : (j : Int) < (m : Int) := by omega
                obtain ⟨ad2, e2, hb2', z0⟩ := hR1.out.elem (k := j) hjm hja
                subst e2
                have htk := List.take_succ_eq_append_getElem hja
                generalize acc[j] = y at *
                by_cases hin : x.text ∈ acc.take j
                · rw [decide_eq_true hin]
                  have hf : Hid (Value.bool true = .bool (decide (x.text ∈ acc.take (j + 1)))) := by
                    rw [Hid, htk, decide_eq_true (List.mem_append.2 (.inl hin))]
                  clear hin htk
                  go_wp2_with fail
                  go_roundw
                  case rel => exact ⟨j + 1, by go_num, by omega, hf.out, by trivial⟩
                  case measure => simp [intOf]; omega
                · rw [decide_eq_false hin]
                  by_cases hy : y = x.text
                  · have n2' : ((str y).toList == (str x.text).toList) = true := by rw [str_bytes, str_bytes, hy]; simp
                    have hf : Hid (Value.bool true = .bool (decide (x.text ∈ acc.take (j + 1)))) := by
                      rw [Hid, htk, decide_eq_true (List.mem_append.2 (.inr (by simp [hy])))]
                    clear hin htk hy
                    go_wp2_with fail
                    go_roundw
                    case rel => exact ⟨j + 1, by go_num, by omega, hf.out, by trivial⟩
                    case measure => simp [intOf]; omega
                  · have n2' : ((str y).toList == (str x.text).toList) = false := by rw [str_bytes, str_bytes, beq_eq_false_iff_ne]; exact hy
                    have hf : Hid (Value.bool false = .bool (decide (x.text ∈ acc.take (j + 1)))) := by
                      rw [Hid, htk, decide_eq_false (fun c => by
                        rcases List.mem_append.1 c with c | c
                        · exact hin c
                        · simp at c; exact hy c.symm)]
                    clear hin htk hy
                    go_wp2_with fail
                    go_roundw
                    case rel => exact ⟨j + 1, by go_num, by omega, hf.out, by trivial⟩
                    case measure => simp [intOf]; omega
              · have hjm' : ¬ (j : Int) < (m : Int) := by omega
                have htk : acc.take j = acc := List.take_of_length_le (by omega)
                rw [htk]
                clear htk
                by_cases h9 : x.kind = 9
                · have e9 : (x.kind == 9) = true := by simp [h9]
                  by_cases hin : x.text ∈ acc
                  · rw [decide_eq_true hin]
                    have hU2 : Hid (uniqA [] L = uniqA acc (L.drop (p + 1))) := by rw [Hid, hU.out, if_neg (fun c => c.2 hin)]
                    clear hU hin h9
                    go_wp2_with fail
                    go_roundw
                    case rel => exact ⟨p + 1, m, acc, by go_num, by omega, by omega, hOa.out, hU2.out, hba.out⟩
                    case measure => simp [intOf]; omega
                  · rw [decide_eq_false hin]
                    have hU2 : Hid (uniqA [] L = uniqA (acc ++ [x.text]) (L.drop (p + 1))) := by rw [Hid, hU.out, if_pos ⟨h9, hin⟩]
                    have hO2 := hide (hOa.out.below (Below.alloc (Below.refl wa.heap.size wa) (Nat.le_refl _) (.cells #[.string (str x.text)] 9)) (Nat.le_refl _))
                    have hnew := hide (Blk.new wa 9 #[.string (str x.text)])
                    have hba2 := hide (hba.out.alloc hba.out.size (.cells #[.string (str x.text)] 9))
                    have hm2 : m ≤ 100000 := by omega
                    have hszb := hba.out.size
                    clear hU hin h9
                    go_wp2_with (refine wpList_app_tt rfl _ _ rfl w5.heap.size _ m acc hO2.out rfl x.text wa.heap.size rfl hnew.out hm2 (by simp; omega) ?_)
                    intro v' w' hO' hb'
                    obtain ⟨A2', k2', rfl, -⟩ := hO'.form
                    have hO3 := hide hO'
                    have hb3 := hide (hba2.out.trans hb')
                    clear hO' hb' hO2 hnew hba2 d0 d5
                    go_wp2_with fail
                    go_roundw
                    case rel => exact ⟨p + 1, m + 1, acc ++ [x.text], by go_num, by omega, by omega, hO3.out, hU2.out, hb3.out⟩
                    case measure => simp [intOf]; omega
                · have e9 : (x.kind == 9) = false := by simp [h9]
                  have hU2 : Hid (uniqA [] L = uniqA acc (L.drop (p + 1))) := by rw [Hid, hU.out, if_neg (fun c => h9 c.1)]
                  clear hU h9
                  go_wp2_with fail
                  go_roundw
                  case rel => exact ⟨p + 1, m, acc, by go_num, by omega, by omega, hOa.out, hU2.out, hba.out⟩
                  case measure => simp [intOf]; omega
          · have h1' : ¬ (p : Int) < (n2 : Int) := by omega
            have hde : L.drop p = [] := List.drop_eq_nil_of_le (by have := hLl.out; omega)
            have hacc : acc = uniqA [] N := by rw [hun.out, hU, hde, uniqA]
            subst hacc
            have hRN2 := (hRN.out.below hbl).more hsz
            have hbwr := hbw5.trans (hbl.mono hsz5)
            obtain ⟨A1, k1, rfl, hR1⟩ := hO.form
            replace hO := hide hO
            replace hU := hide hU
            go_wp2_with fail
            refine (ntexts_any wr A5 n5 c5 N hRN2 (by omega)).mono ?_
            rintro e w6 ⟨v6, m6, rfl, hO6, hm6, hb6⟩
            have e6 : m6 = m := by rw [← hO6.len, ← hO.out.len]
            subst e6
            obtain ⟨A6, k6, rfl, hR6⟩ := hO6.form
            have hR1' := (hR1.below hb6).more hb6.size
            have hbw6 := hbwr.trans (hb6.mono hbwr.size)
            go_wp2_with fail
            refine (rtexts_same w6 A6 A1 m6 k6 k1 (uniqA [] N) hR6 hR1' (by omega)).mono ?_
            rintro e w7 ⟨rfl, hb7⟩
            have hbw7 := hbw6.trans (hb7.mono hbw6.size)
            clear hR6 hR1' hO6 hO hU hR1 hRN2 hb6
            go_wp2_with fail
            refine (nholds_nil w7).mono ?_
            rintro e w8 ⟨rfl, hb8⟩
            have hbw8 := hbw7.trans (hb8.mono hbw7.size)
            have hnil : RA w8 w8.heap.size none 0 [] := ⟨by simp [avs], fun h => absurd h (by decide)⟩
            go_wp2_with fail
            refine (ntexts_any w8 none 0 0 [] hnil (by omega)).mono ?_
            rintro e w9 ⟨v9, m9, rfl, hO9, hm9, hb9⟩
            have hbw9 := hbw8.trans (hb9.mono hbw8.size)
            have e9 : m9 = 0 := by omega
            subst e9
            obtain ⟨A9, k9, rfl, -⟩ := hO9.form
            clear hO9 hb8 hb9 hnil
            go_wp2_with fail
            go_ret
            exact ⟨rfl, hbw9⟩
      · have n0 : (errsR (q.parts 0) != 0) = true := by simp [hEE]
        clear hEE hER hX4 hA4 hR4
        go_wp2_with fail
        go_ret
        exact ⟨rfl, hbw4⟩
    · have n1 : (e2 != 0) = true := by rw [he2]; simp [hE]
      clear hE he2 hA3 hR3
      go_wp2_with fail
      go_ret
      exact ⟨rfl, hbw3⟩
end Go.Proofs.YtnhcamkccnaeeaaGreatDoor
