/-
  The walk of the law ParseJoins.
-/
import Derived.Test.YtnbfblikpoblgaaDoorLawParseMore
namespace Go.Proofs.YtnbfblikpoblgaaDoor
open Go.RowKit
set_option linter.unusedVariables false

/-- The word between, its part's kind. -/
def jw (o : Bool) : List UInt8 := if o = true then orW else andW
def jk (o : Bool) : Int := if o = true then 1 else 2
def joinT (o : Bool) (a b : List UInt8) : List UInt8 := [40] ++ a ++ [41, 32] ++ jw o ++ [32, 40] ++ b ++ [41]
theorem textQ_join (o : Bool) {a b : List UInt8} {p q : Q} (ha : textQ a = some p) (hb : textQ b = some q) (hl : a.length + b.length ≤ 300) : textQ (joinT o a b) = some (.two (jk o) p q) := by
  cases o with
  | true =>
    have h := textQ_or ha hb hl
    have e : joinT true a b = [40] ++ a ++ [41, 32, 111, 114, 32, 40] ++ b ++ [41] := by simp [joinT, jw, orW]
    rw [e, h]; rfl
  | false =>
    have h := textQ_and ha hb hl
    have e : joinT false a b = [40] ++ a ++ [41, 32, 97, 110, 100, 32, 40] ++ b ++ [41] := by simp [joinT, jw, andW]
    rw [e, h]; rfl
/-- The parts of a tree from a place on are those from the first place, their places moved. -/
def moveA (k : Nat) (x : Ask) : Ask := ⟨x.kind, x.op, if 0 ≤ x.a then x.a + k else x.a, if 0 ≤ x.b then x.b + k else x.b, x.n, x.text, x.isText⟩
theorem parts_move (k : Nat) : ∀ (q : Q) (p : Nat), q.plain → q.parts (p + k) = (q.parts p).map (moveA k)
  | .term x, p, h => by
    have h1 : moveA k x = x := by
      unfold moveA
      rw [if_neg (by rw [h.1]; decide), if_neg (by rw [h.2]; decide)]
    simp [Q.parts, h1]
  | .neg q, p, h => by
    have hs := q.size_pos
    rw [Q.parts, Q.parts, parts_move k q p h, List.map_append]
    congr 1
    simp only [List.map_cons, List.map_nil, moveA]
    rw [if_pos (by omega), if_neg (by decide)]
    congr 2
    omega
  | .two o x y, p, h => by
    have hx := x.size_pos
    have hy := y.size_pos
    rw [Q.parts, Q.parts, parts_move k x p h.1, show p + k + x.size = (p + x.size) + k from by omega, parts_move k y (p + x.size) h.2, List.map_append, List.map_append]
    congr 2
    simp only [List.map_cons, List.map_nil, moveA]
    rw [if_pos (by omega), if_pos (by omega)]
    congr 2
    · omega
    · omega
theorem parts_at (q : Q) (k i : Nat) (h : q.plain) (hi : i < (q.parts k).length) (hi0 : i < (q.parts 0).length) : (q.parts k)[i] = moveA k (q.parts 0)[i] := by
  have e := parts_move k q 0 h
  rw [Nat.zero_add] at e
  simp only [e, List.getElem_map]
theorem size_text {l : List UInt8} {q : Q} (h : textQ l = some q) : q.size ≤ 401 := by
  obtain ⟨h1, h2, h3⟩ := textQ_len h
  unfold parseQ at h3
  split at h3
  · rename_i q1 h4
    simp at h3; subst h3
    have h5 := orsP_takes _ _ _ _ h4
    have h7 : (sL l).1.length = (toksF l.length 0 l).1.length := by unfold sL sF; simp
    have h8 := toksF_text l.length 0 l
    omega
  · cases h3
theorem RA.take {w : World} {B n : Nat} {A : Option Addr} {l : List Ask} (h : RA w B A n l) {k : Nat} (hk : k ≤ n) : RA w B A k (l.take k) := by
  have hl := h.len
  refine ⟨by rw [avs_length]; simp; omega, fun h0 => ?_⟩
  obtain ⟨ad, e, hb, hc⟩ := h.2 (by omega)
  refine ⟨ad, e, hb, fun j u hu => hc j u ?_⟩
  have hj := (List.getElem?_eq_some_iff.1 hu).1
  rw [avs_length, List.length_take] at hj
  rw [← hu]
  have e2 : avs l = avs (l.take k) ++ avs (l.drop k) := by rw [← avs_append, List.take_append_drop]
  rw [e2, List.getElem?_append_left (by rw [avs_length, List.length_take]; exact hj)]

/-- The parts of two with a word between. -/
theorem join_last (kk : Int) (p q : Q) (h : p.size + q.size < ((Q.two kk p q).parts 0).length) : ((Q.two kk p q).parts 0)[p.size + q.size] = ⟨kk, 0, (p.size : Int) - 1, (p.size : Int) + (q.size : Int) - 1, 0, [], false⟩ := by
  have e : (Q.two kk p q).parts 0 = p.parts 0 ++ (q.parts (0 + p.size) ++ [⟨kk, 0, ((0 : Nat) : Int) + (p.size : Int) - 1, ((0 : Nat) : Int) + (p.size : Int) + (q.size : Int) - 1, 0, [], false⟩]) := rfl
  simp only [e]
  rw [List.getElem_append_right (by rw [Q.parts_len]; omega), List.getElem_append_right (by rw [Q.parts_len, Q.parts_len]; omega)]
  simp
theorem parts_lt : ∀ (q : Q) (p : Nat), q.plain → ∀ x ∈ q.parts p, x.a < (p : Int) + (q.size : Int) ∧ x.b < (p : Int) + (q.size : Int)
  | .term k, p, h, x, hx => by
    simp [Q.parts] at hx
    subst hx
    have := Q.size_pos (.term x)
    rw [h.1, h.2]; omega
  | .neg q, p, h, x, hx => by
    have hs := q.size_pos
    rw [Q.parts] at hx
    rw [show ((Q.neg q).size : Int) = (q.size : Int) + 1 from by simp [Q.size]]
    rcases List.mem_append.1 hx with hx | hx
    · have := parts_lt q p h x hx; omega
    · simp at hx; subst hx; constructor <;> (simp only []; omega)
  | .two o y z, p, h, x, hx => by
    have hy := y.size_pos
    have hz := z.size_pos
    rw [Q.parts] at hx
    rw [show ((Q.two o y z).size : Int) = (y.size : Int) + (z.size : Int) + 1 from by simp [Q.size]]
    rcases List.mem_append.1 hx with hx | hx
    · have := parts_lt y p h.1 x hx; omega
    · rcases List.mem_append.1 hx with hx | hx
      · have := parts_lt z (p + y.size) h.2 x hx
        simp only [Int.natCast_add] at this
        omega
      · simp at hx; subst hx; constructor <;> (simp only []; omega)
theorem join_head (kk : Int) (p q : Q) : ((Q.two kk p q).parts 0).take p.size = p.parts 0 := by
  rw [Q.parts, List.take_append_of_le_length (by rw [Q.parts_len]; exact Nat.le_refl _), List.take_of_length_le (by rw [Q.parts_len]; exact Nat.le_refl _)]
theorem join_rest (kk : Int) (p q : Q) (hq : q.plain) (i : Nat) (hi : i < (q.parts 0).length) (h : p.size + i < ((Q.two kk p q).parts 0).length) : ((Q.two kk p q).parts 0)[p.size + i] = moveA p.size (q.parts 0)[i] := by
  have e : (Q.two kk p q).parts 0 = p.parts 0 ++ (q.parts (0 + p.size) ++ [⟨kk, 0, ((0 : Nat) : Int) + (p.size : Int) - 1, ((0 : Nat) : Int) + (p.size : Int) + (q.size : Int) - 1, 0, [], false⟩]) := rfl
  have hq2 : i < q.size := by rw [Q.parts_len] at hi; exact hi
  simp only [e]
  rw [List.getElem_append_right (by rw [Q.parts_len]; omega)]
  have e3 : p.size + i - (p.parts 0).length = i := by rw [Q.parts_len]; omega
  simp only [e3]
  rw [List.getElem_append_left (by rw [Q.parts_len]; exact hq2)]
  have e2 := parts_at q p.size i hq (by rw [Q.parts_len]; exact hq2) hi
  simp only [Nat.zero_add]
  exact e2

set_option maxRecDepth 100000 in
set_option maxHeartbeats 4000000 in
theorem parseJoins_walk (w : World) (hA : Asp w) (hgb : 0 < w.heap.size) (a : ByteArray) (ha : a.size ≤ reachBytes) (b : ByteArray) (hb : b.size ≤ reachBytes) (o : Bool) :
    Calls Tryd.prog 6 #[.string a, .string b, .bool o] w fun e w' => e = .returned (.bool true) ∧ Below w.heap.size w w' := by
  unfold reachBytes at ha hb
  have hA' := hide hA
  clear hA
  go_enter Tryd.func6, Tryd.ntmps6
  go_wp2_with fail
  refine (wakes24_any w hA'.out hgb).mono ?_
  rintro e w1 ⟨rfl, hb1⟩
  have hA1 := hide (asp_below hA'.out hb1 hgb)
  have hsz1 := hb1.size
  by_cases h300 : a.size + b.size ≤ 300
  · have n300 : decide ((300 : Int) < (a.size : Int) + (b.size : Int)) = false := by simp; omega
    clear ha hb
    go_wp2_with fail
    refine (parse_all a w1 hA1.out (by omega)).mono ?_
    rintro e w2 ⟨v2, rfl, ho2, hb2⟩
    have hbw2 := hb1.trans (hb2.mono hsz1)
    have hsz2 := hbw2.size
    have hA2 := hide (asp_below hA1.out (hb2.mono hsz1) hgb)
    obtain ⟨xA, xc, rfl, hRX, -, -, -⟩ := ho2.form
    replace hRX := hide hRX
    clear ho2 hb2
    go_wp2_with fail
    refine (parse_all b w2 hA2.out (by omega)).mono ?_
    rintro e w3 ⟨v3, rfl, ho3, hb3⟩
    have hbw3 := hbw2.trans (hb3.mono hsz2)
    have hsz3 := hbw3.size
    have hA3 := hide (asp_below hA2.out (hb3.mono hsz2) hgb)
    have hRX3 := hide ((hRX.out.below hb3).more hb3.size)
    obtain ⟨yA, yc, rfl, hRY, -, -, -⟩ := ho3.form
    replace hRY := hide hRY
    clear ho3 hb3 hRX hA1 hA2 hA' hb1 hbw2 hsz1 hsz2
    by_cases hEa : parsedE a.data.toList = 0
    · by_cases hEb : parsedE b.data.toList = 0
      · obtain ⟨p, hp, hpl, hpd, hpp, hpp2⟩ := of_parsed hEa
        obtain ⟨q, hq, hql, hqd, hqp, hqp2⟩ := of_parsed hEb
        have hps := size_text hp
        have hqs := size_text hq
        rw [hEa, hEb]
        rw [hpl] at hRX3 ⊢
        rw [hql] at hRY ⊢
        rw [Q.parts_len] at hRX3 hRY
        rw [Q.parts_len, Q.parts_len]
        have hjoin := hide (textQ_join o hp hq (by rw [data_len, data_len]; omega))
        have hpa := hide (parsed_of hjoin.out)
        have hea := hide (str_eta a)
        have heb := hide (str_eta b)
        replace hpp2 := hide hpp2
        replace hqp2 := hide hqp2
        have hdp : Hid (deepL (p.parts 0) = p.depth) := deepL_tree p hpp2.out
        have hdq : Hid (deepL (q.parts 0) = q.depth) := deepL_tree q hqp2.out
        clear hEa hEb hp hq hpl hql hpp hqp
        have hcat : Hid (ByteArray.mk #[40] ++ a ++ ByteArray.mk #[41, 32] ++ str (jw o) ++ ByteArray.mk #[32, 40] ++ b ++ ByteArray.mk #[41] = str (joinT o a.data.toList b.data.toList)) := by
          show str [40] ++ a ++ str [41, 32] ++ str (jw o) ++ str [32, 40] ++ b ++ str [41] = _
          conv => lhs; rw [← hea.out, ← heb.out]
          simp only [str_append, joinT]
        have hwo : Hid (str (jw o) = if o = true then ⟨#[111, 114]⟩ else ⟨#[97, 110, 100]⟩) := by cases o <;> rfl
        have hjs : (str (jw o)).size ≤ 3 := by cases o <;> decide
        have hjl : (str (joinT o a.data.toList b.data.toList)).size ≤ 400 := by
          have := (textQ_len hjoin.out).1
          rw [str_size]; exact this
        go_upto_if 41 with (fail)
        go_cut [11, 12] (fun v11 v12 wx => v11 = .string (str (jw o)) ∧ v12 = .int .i64 (jk o) ∧ w3 = wx)
        case first =>
          cases o with
          | true =>
            have hx : Hid (str (jw true) = ⟨#[111, 114]⟩ ∧ jk true = 1) := ⟨rfl, rfl⟩
            clear hjoin hpa hcat hwo hjs hjl
            go_wp2_with fail
            go_meet
            exact ⟨by rw [hx.out.1], by rw [hx.out.2], rfl⟩
          | false =>
            have hx : Hid (str (jw false) = ⟨#[97, 110, 100]⟩ ∧ jk false = 2) := ⟨rfl, rfl⟩
            clear hjoin hpa hcat hwo hjs hjl
            go_wp2_with fail
            go_meet
            exact ⟨by rw [hx.out.1], by rw [hx.out.2], rfl⟩
        case rest =>
          obtain ⟨rfl, rfl, rfl⟩ := hcut
          clear hwo
          generalize jk o = kk at *
          generalize str (jw o) = ww at *
          go_wp2_with fail
          rw [hcat.out]
          generalize joinT o a.data.toList b.data.toList = J at *
          refine (parse_any (str J) w3 (by omega) hA3.out (by omega)).mono ?_
          rintro e w4 ⟨v4, rfl, ho4, hb4⟩
          rw [str_toList] at *
          rw [hpa.out.1]
          rw [hpa.out.2] at ho4
          have hbw4 := hbw3.trans (hb4.mono hsz3)
          have hsz4 := hbw4.size
          have hRX4 := hide ((hRX3.out.below hb4).more hb4.size)
          have hRY4 := hide ((hRY.out.below hb4).more hb4.size)
          clear hpa hjoin hcat hRX3 hRY hb4 hA3
          have hdep : Hid ((Q.two kk p q).depth = max p.depth q.depth + 1) := rfl
          by_cases cd : 16 < (Q.two kk p q).depth
          · have e1 : qE (Q.two kk p q) = 11 := by unfold qE; rw [if_pos cd]
            obtain ⟨lA, lc, rfl, -, -, -, -⟩ := ho4.form
            rw [hdep.out] at cd
            rw [e1]
            clear ho4 e1 hdep
            generalize (qL (Q.two kk p q)).length = ll
            go_wp2_with fail
            refine (deep_any w4 xA p.size xc (p.parts 0) hRX4.out (by omega)).mono ?_
            rintro e w5 ⟨rfl, hb5⟩
            rw [hdp.out]
            have hbw5 := hbw4.trans (hb5.mono hsz4)
            have hRY5 := hide ((hRY4.out.below hb5).more hb5.size)
            have hsz5 := hbw5.size
            clear hRX4 hRY4 hb5
            go_wp2_with fail
            refine (deep_any w5 yA q.size yc (q.parts 0) hRY5.out (by omega)).mono ?_
            rintro e w6 ⟨rfl, hb6⟩
            rw [hdq.out]
            have hbw6 := hbw5.trans (hb6.mono hsz5)
            clear hRY5 hb6 hdp hdq
            generalize p.depth = pd at *
            generalize q.depth = qd at *
            have hmx : (max (pd : Int) (qd : Int) == 16) = true := by rw [beq_iff_eq]; omega
            go_wp2_with fail
            go_ret
            exact ⟨rfl, hbw6⟩
          · by_cases cp : 8 < patsL ((Q.two kk p q).parts 0)
            · have e1 : qE (Q.two kk p q) = 17 := by unfold qE; rw [if_neg cd, if_pos cp]
              obtain ⟨lA, lc, rfl, -, -, -, -⟩ := ho4.form
              rw [e1]
              clear ho4 e1 hdep cd cp
              generalize (qL (Q.two kk p q)).length = ll
              go_wp2_with fail
              go_ret
              exact ⟨rfl, hbw4⟩
            · obtain ⟨e1, e2⟩ := qE_ok (q := Q.two kk p q) (by omega) (by omega)
              rw [e1]
              rw [e2] at ho4
              obtain ⟨lA, lc, rfl, hRL, -, hlc1, hlc2⟩ := ho4.form
              rw [Q.parts_len, show (Q.two kk p q).size = p.size + q.size + 1 from rfl] at hRL hlc1 ⊢
              replace hRL := hide hRL
              clear ho4 e1 e2
              go_upto_region 15 with (fail)
              have hLl : ((Q.two kk p q).parts 0).length = p.size + q.size + 1 := Q.parts_len _ _
              obtain ⟨ad, rfl, hab, c0, c1, c2, c3, c4, c5, c6⟩ := hRL.out.elem (k := p.size + q.size) (by omega) (by omega)
              rw [join_last] at c0 c1 c2 c3 c4 c5 c6
              simp only [show str [] = ⟨#[]⟩ from rfl] at c5
              have hRT := hRL.out.take (k := p.size) (by omega)
              rw [join_head] at hRT
              replace hRT := hide hRT
              have hjr := hide (fun i hi h => join_rest kk p q hqp2.out i hi h)
              have hdL : Hid (deepL ((Q.two kk p q).parts 0) = max p.depth q.depth + 1) := deepL_tree (Q.two kk p q) ⟨hpp2.out, hqp2.out⟩
              have hp1 := p.size_pos
              have hq1 := q.size_pos
              have hql := hide (q.parts_len 0)
              have hqb := hide (parts_lt q 0 hqp2.out)
              replace hLl := hide hLl
              clear hdep cd cp
              generalize (Q.two kk p q).parts 0 = L at *
              generalize hn1 : p.size = n1 at *
              generalize hn2 : q.size = n2 at *
              clear hn1 hn2
              go_wp2_with fail
              refine (sameAsks_any w4 (some ad) xA n1 lc xc (p.parts 0) hRT.out hRX4.out (by omega)).mono ?_
              rintro e w5 ⟨rfl, hb5⟩
              have hbw5 := hbw4.trans (hb5.mono hsz4)
              have hsz5 := hbw5.size
              have hRX5 := hide ((hRX4.out.below hb5).more hb5.size)
              have hRY5 := hide ((hRY4.out.below hb5).more hb5.size)
              have hRL5 := hide ((hRL.out.below hb5).more hb5.size)
              clear hRX4 hRY4 hRL hRT hb5 hab c0 c1 c2 c3 c4 c5 c6 n300 h300 hea heb hjs hjl
              go_wp2_with fail
              obtain ⟨z5, rfl⟩ : ∃ z5 : World, z5 = w5 := ⟨_, rfl⟩
              go_loopw [111] (fun i wr => ∃ k : Nat, k ≤ n2 ∧ i = .int .i64 k ∧ Below z5.heap.size z5 wr) (fun i _ => n2 - (intOf i).toNat)
              case atStart => exact ⟨0, by omega, rfl, Below.refl _ _⟩
              case round =>
                obtain ⟨k, hk, rfl, hbl⟩ := hrel
                have hszl := hbl.size
                by_cases h1 : k < n2
                · have hkq : k < (q.parts 0).length := by have := hql.out; omega
                  have hkL : n1 + k < L.length := by have := hLl.out; omega
                  obtain ⟨yd, rfl, hyb, y0, y1, y2, y3, y4, y5, y6⟩ := (hRY5.out.below hbl).elem h1 hkq
                  obtain ⟨ad', e', hab, l0, l1, l2, l3, l4, l5, l6⟩ := (hRL5.out.below hbl).elem (k := n1 + k) (by omega) hkL
                  obtain rfl := Option.some.inj e'
                  have hm := hjr.out k hkq hkL
                  rw [hm] at l0 l1 l2 l3 l4 l5 l6
                  clear hm e'
                  obtain ⟨bx1, bx2⟩ := hqb.out (q.parts 0)[k] (List.getElem_mem _)
                  generalize (q.parts 0)[k] = x at *
                  have hyb2 : (yd.add (k * 7)).block < wr.heap.size := by omega
                  have hab2 : (ad.add ((n1 + k) * 7)).block < wr.heap.size := by omega
                  simp only [moveA] at l0 l1 l2 l3 l4 l5 l6
                  by_cases ca : 0 ≤ x.a
                  · rw [if_pos ca] at l2
                    by_cases cb : 0 ≤ x.b
                    · rw [if_pos cb] at l3
                      go_wp2_with fail
                      go_quiet (fail)
                      go_wp2_with fail
                      go_roundw
                      case rel => exact ⟨k + 1, by omega, by go_num, below_drewN (hbl.alloc hszl _) _⟩
                      case measure => simp [intOf]; omega
                    · rw [if_neg cb] at l3
                      go_wp2_with fail
                      go_quiet (fail)
                      go_wp2_with fail
                      go_roundw
                      case rel => exact ⟨k + 1, by omega, by go_num, below_drewN (hbl.alloc hszl _) _⟩
                      case measure => simp [intOf]; omega
                  · rw [if_neg ca] at l2
                    by_cases cb : 0 ≤ x.b
                    · rw [if_pos cb] at l3
                      go_wp2_with fail
                      go_quiet (fail)
                      go_wp2_with fail
                      go_roundw
                      case rel => exact ⟨k + 1, by omega, by go_num, below_drewN (hbl.alloc hszl _) _⟩
                      case measure => simp [intOf]; omega
                    · rw [if_neg cb] at l3
                      go_wp2_with fail
                      go_quiet (fail)
                      go_wp2_with fail
                      go_roundw
                      case rel => exact ⟨k + 1, by omega, by go_num, below_drewN (hbl.alloc hszl _) _⟩
                      case measure => simp [intOf]; omega
                · have hkn : k = n2 := by omega
                  subst hkn
                  have hbw6 := hbw5.trans (hbl.mono hsz5)
                  have hsz6 := hbw6.size
                  have hRX6 := hide ((hRX5.out.below hbl).more hbl.size)
                  have hRY6 := hide ((hRY5.out.below hbl).more hbl.size)
                  have hRL6 := hide ((hRL5.out.below hbl).more hbl.size)
                  clear hRX5 hRY5 hRL5 hbl hjr
                  go_wp2_with fail
                  refine (deep_any wr (some ad) (n1 + k + 1) lc L hRL6.out (by omega)).mono ?_
                  rintro e w7 ⟨rfl, hb7⟩
                  rw [hdL.out]
                  have hbw7 := hbw6.trans (hb7.mono hsz6)
                  have hsz7 := hbw7.size
                  have hRX7 := hide ((hRX6.out.below hb7).more hb7.size)
                  have hRY7 := hide ((hRY6.out.below hb7).more hb7.size)
                  clear hRX6 hRY6 hRL6 hb7
                  go_wp2_with fail
                  refine (deep_any w7 xA n1 xc (p.parts 0) hRX7.out (by omega)).mono ?_
                  rintro e w8 ⟨rfl, hb8⟩
                  rw [hdp.out]
                  have hbw8 := hbw7.trans (hb8.mono hsz7)
                  have hsz8 := hbw8.size
                  have hRY8 := hide ((hRY7.out.below hb8).more hb8.size)
                  clear hRX7 hRY7 hb8
                  go_wp2_with fail
                  refine (deep_any w8 yA k yc (q.parts 0) hRY8.out (by omega)).mono ?_
                  rintro e w9 ⟨rfl, hb9⟩
                  rw [hdq.out]
                  have hbw9 := hbw8.trans (hb9.mono hsz8)
                  clear hRY8 hb9 hdp hdq hdL
                  generalize p.depth = pd at *
                  generalize q.depth = qd at *
                  go_wp2_with fail
                  go_ret
                  exact ⟨ret_bool (by rw [beq_iff_eq]; omega), hbw9⟩
      · have n2 : (parsedE b.data.toList != 0) = true := by simp [hEb]
        rw [hEa]
        generalize parsedE b.data.toList = eb at *
        clear hEa hEb hRX3 hRY
        go_wp2_with fail
        go_ret
        exact ⟨rfl, hbw3⟩
    · have n1 : (parsedE a.data.toList != 0) = true := by simp [hEa]
      generalize parsedE a.data.toList = ea at *
      clear hEa hRX3 hRY
      go_wp2_with fail
      go_ret
      exact ⟨rfl, hbw3⟩
  · have n300 : decide ((300 : Int) < (a.size : Int) + (b.size : Int)) = true := by simp; omega
    go_wp2_with fail
    go_ret
    exact ⟨rfl, hb1⟩
end Go.Proofs.YtnbfblikpoblgaaDoor
