/-
  Lists of texts: slices.Contains, norm.Texts, inquestref01.Texts; norm.Holds of nothing.
  The document's error of parts (inquestref25): Error, Errors.
-/
import Derived.Test.YtnnjcedlomfhoaaGreatDoorHNormH
import Derived.Test.YtnnjcedlomfhoaaGreatDoorHRGlobC
namespace Go.Proofs.YtnnjcedlomfhoaaGreatDoor
open Go.RowKit
set_option linter.unusedVariables false
def sv (l : List (List UInt8)) : List Value := l.map fun t => Value.string (str t)
def OS (w : World) (base : Nat) (v : Value) (n : Nat) (l : List (List UInt8)) : Prop := w.ownsRow base 9 1 v n (sv l)
def RSL (w : World) (B : Nat) (A : Option Addr) (n : Nat) (l : List (List UInt8)) : Prop := Reads w B 1 A n (sv l)
section
variable {w w' : World} {B B' n : Nat} {A : Option Addr} {l : List (List UInt8)}
theorem RSL.len (h : RSL w B A n l) : l.length = n := by have := h.1; simpa [sv] using this
theorem RSL.elem (h : RSL w B A n l) {k : Nat} (hk : k < n) (hl : k < l.length) : ∃ ad, A = some ad ∧ ad.block < B ∧ w.cell? (ad.add k) = some (.string (str l[k])) := by
  obtain ⟨ad, u, e, hb, hx, hc⟩ := Reads.at_ h hk
  unfold sv at hx
  rw [List.getElem?_map, List.getElem?_eq_getElem hl] at hx
  injection hx with hx
  subst hx
  exact ⟨ad, e, hb, hc⟩
theorem RSL.more {B' : Nat} (h : RSL w B A n l) (hB : B ≤ B') : RSL w B' A n l := Reads.more h hB
theorem RSL.below (h : RSL w B A n l) (hb : Below B w w') : RSL w' B A n l := Reads.below h hb
end
theorem OS.nil (w : World) (base : Nat) : OS w base (.slice none 0 0) 0 [] := ⟨by simp [sv], .inl ⟨rfl, rfl⟩⟩
theorem OS.len {w : World} {base n : Nat} {v : Value} {l : List (List UInt8)} (h : OS w base v n l) : l.length = n := by have := h.1; simpa [sv] using this
theorem OS.form {w : World} {base n : Nat} {v : Value} {l : List (List UInt8)} (h : OS w base v n l) : ∃ A c, v = .slice A n c ∧ RSL w w.heap.size A n l := by
  rcases h.2 with ⟨rfl, rfl⟩ | ⟨g, cap, cur, rfl, _⟩
  · exact ⟨none, 0, rfl, Reads.of_own h⟩
  · exact ⟨_, _, rfl, Reads.of_own h⟩
theorem OS.own {w : World} {base n : Nat} {v : Value} {l : List (List UInt8)} (h : OS w base v n l) {k : Nat} (hk : v.ownBlock = some k) : base ≤ k ∧ k < w.heap.size := by
  rcases h.2 with ⟨rfl, _⟩ | ⟨g', cap, cur, rfl, hg', hh, _⟩
  · simp [Value.ownBlock] at hk
  · simp [Value.ownBlock] at hk
    subst hk
    refine ⟨hg', ?_⟩
    rcases Nat.lt_or_ge g' w.heap.size with h | h
    · exact h
    · rw [Array.getElem?_eq_none h] at hh; cases hh
theorem OS.keep {w w' : World} {base n : Nat} {v : Value} {l : List (List UInt8)} (h : OS w base v n l) (hk : ∀ k, v.ownBlock = some k → w'.heap[k]? = w.heap[k]?) : OS w' base v n l := by
  obtain ⟨h1, h2⟩ := h
  refine ⟨h1, ?_⟩
  rcases h2 with h2 | ⟨g, cap, cur, rfl, hg', hh, r⟩
  · exact Or.inl h2
  · exact Or.inr ⟨g, cap, cur, rfl, hg', by rw [hk g rfl]; exact hh, r⟩
theorem OS.below {w w' : World} {base n : Nat} {v : Value} {l : List (List UInt8)} (h : OS w base v n l) {B : Nat} (hb : Below B w w') (hs : w.heap.size ≤ B) : OS w' base v n l :=
  h.keep fun k hk => hb.block k (by have := (h.own hk).2; omega)
theorem OS.more {w : World} {base b' n : Nat} {v : Value} {l : List (List UInt8)} (h : OS w base v n l) (hb : b' ≤ base) : OS w b' v n l := by
  obtain ⟨h1, h2⟩ := h
  refine ⟨h1, ?_⟩
  rcases h2 with h2 | ⟨g, cap, cur, rfl, hg', hh, r⟩
  · exact Or.inl h2
  · exact Or.inr ⟨g, cap, cur, rfl, by omega, hh, r⟩
set_option maxRecDepth 100000 in
set_option maxHeartbeats 4000000 in
theorem sidx_any (w : World) (A : Option Addr) (n c : Nat) (l : List (List UInt8)) (t : List UInt8) (h : RSL w w.heap.size A n l) (hn : n ≤ 100000) :
    Calls Tryz.prog 66 #[.slice A n c, .string (str t)] w fun e w' => (∃ k : Int, e = .returned (.int .i64 k) ∧ (0 ≤ k ↔ t ∈ l) ∧ -1 ≤ k) ∧ w = w' := by
  have hlen := hide h.len
  replace h := hide h
  go_enter Tryz.func66, Tryz.ntmps66
  go_wp2_with fail
  go_loopw [8] (fun v8 wr => ∃ p : Nat, v8 = .int .i64 p ∧ p ≤ n ∧ (∀ x ∈ l.take p, x ≠ t) ∧ w = wr) (fun v8 _ => n - (intOf v8).toNat)
  case atStart => exact ⟨0, rfl, by omega, by simp, rfl⟩
  case round =>
    obtain ⟨p, rfl, hp, hno, rfl⟩ := hrel
    by_cases h1 : p < n
    · have hpl : p < l.length := by have := hlen.out; omega
      obtain ⟨ad, e, hab, c0⟩ := h.out.elem (k := p) h1 hpl
      subst e
      have h1' : (p : Int) < (n : Int) := by omega
      have hmem : l[p] ∈ l := List.getElem_mem hpl
      have htk := List.take_succ_eq_append_getElem hpl
      generalize l[p] = x at *
      by_cases hx : t = x
      · have n2 : ((str t).toList == (str x).toList) = true := by rw [str_bytes, str_bytes, hx]; simp
        have hres : Hid (t ∈ l) := by rw [hx]; exact hmem
        clear hx hno htk hmem
        go_wp2_with fail
        go_ret
        exact ⟨⟨(p : Int), rfl, ⟨fun _ => hres.out, fun _ => by omega⟩, by omega⟩, rfl⟩
      · have n2 : ((str t).toList == (str x).toList) = false := by rw [str_bytes, str_bytes, beq_eq_false_iff_ne]; exact hx
        have hno2 : Hid (∀ y ∈ l.take (p + 1), y ≠ t) := by
          rw [Hid, htk]
          intro y hy
          rcases List.mem_append.1 hy with hy | hy
          · exact hno y hy
          · simp at hy; subst hy; exact fun c => hx c.symm
        clear hx hno htk hmem
        go_wp2_with fail
        go_roundw
        case rel => exact ⟨p + 1, by go_num, by omega, hno2.out, by trivial⟩
        case measure => simp [intOf]; omega
    · have h1' : ¬ (p : Int) < (n : Int) := by omega
      have hres : Hid (t ∉ l) := by
        have : l.take p = l := List.take_of_length_le (by have := hlen.out; omega)
        rw [this] at hno
        exact fun c => hno t c rfl
      clear hno
      go_wp2_with fail
      go_ret
      exact ⟨⟨-1, rfl, ⟨fun c => absurd c (by decide), fun c => absurd c hres.out⟩, by decide⟩, rfl⟩
theorem scont_any (w : World) (A : Option Addr) (n c : Nat) (l : List (List UInt8)) (t : List UInt8) (h : RSL w w.heap.size A n l) (hn : n ≤ 100000) :
    Calls Tryz.prog 43 #[.slice A n c, .string (str t)] w fun e w' => e = .returned (.bool (decide (t ∈ l))) ∧ w = w' := by
  go_enter Tryz.func43, Tryz.ntmps43
  go_wp2_with fail
  refine (sidx_any w A n c l t h hn).mono ?_
  rintro e w1 ⟨⟨k, rfl, hk, hk1⟩, rfl⟩
  have hf : Hid (decide (0 ≤ k) = decide (t ∈ l)) := by
    rw [Hid]
    by_cases h0 : 0 ≤ k
    · rw [decide_eq_true h0, decide_eq_true (hk.1 h0)]
    · rw [decide_eq_false h0, decide_eq_false (fun c => h0 (hk.2 c))]
  clear hk
  go_wp2_with fail
  go_ret
  exact ⟨ret_bool hf.out, rfl⟩
end Go.Proofs.YtnnjcedlomfhoaaGreatDoor
namespace Go.Proofs.YtnnjcedlomfhoaaGreatDoor
open Go.RowKit
set_option linter.unusedVariables false
def badR (x : Ask) : Bool :=
  if x.kind = 4 then !x.isText || (x.op != 1 && x.op != 2 && x.op != 7)
  else if x.kind = 5 then x.isText || (x.op == 7)
  else if x.kind = 6 then x.op == 7
  else if x.kind = 7 ∨ x.kind = 8 then x.isText || decide (2 < x.op)
  else false
/-- The document's error of a part. -/
def errR (x : Ask) : Int :=
  if badR x = true then 16
  else if x.kind = 4 ∧ x.op = 7 ∧ globE x.text ≠ 0 then 4
  else if x.kind = 6 ∧ x.isText = true ∧ refD x.text < 0 then 4
  else if x.kind = 9 ∧ (x.text.length < 1 ∨ 64 < x.text.length) then 4
  else 0
theorem beq_dec (a b : Int) : (a == b) = decide (a = b) := by rw [Bool.eq_iff_iff]; simp
theorem globE_0 (l : List UInt8) : globE l = 0 ↔ globG l = true := by
  unfold globE globG
  constructor
  · intro h
    split at h
    · cases h
    · split at h
      · cases h
      · split at h
        · assumption
        · cases h
  · intro h
    have hv : ¬ (100 < l.length ∨ Lib.validD l = false) := fun c => by rw [globP, if_pos c] at h; cases h
    rw [if_neg (fun c => hv (.inl c)), if_neg (fun c => hv (.inr c)), if_pos h]
theorem dosP_0 (l : List UInt8) : refD l < 0 ↔ (dosP l).isSome = false := by
  rw [dosP_ref, optD]
  split <;> simp <;> omega
/-- A part of a right list: the same error as the program's. -/
theorem errR_told (x : Ask) (h : 9 ≤ x.kind ∨ 1 ≤ x.op ∨ x.kind < 4) : errR x = if typedB x = false then 16 else if (toldR globG dosP x).2 = false then 4 else 0 := by
  have hb : badR x = !typedB x := by
    unfold badR typedB
    split
    · cases x.isText <;> simp [bne, Bool.not_or, Bool.and_assoc, beq_dec]
    · split
      · cases x.isText <;> simp [beq_dec]
      · split
        · simp [beq_dec]
        · split
          · rename_i hk
            have : decide (2 < x.op) = !(decide (x.op = 1) || decide (x.op = 2)) := by
              by_cases h1 : x.op = 1
              · simp [h1]
              · by_cases h2 : x.op = 2
                · simp [h2]
                · simp [h1, h2]; omega
            rw [this]
            cases x.isText <;> simp
          · rfl
  unfold errR
  rw [hb]
  cases ht : typedB x with
  | false => rfl
  | true =>
    simp only [Bool.not_true, Bool.false_eq_true, if_false, Bool.true_eq_false]
    unfold toldR
    by_cases k4 : x.kind = 4 ∧ x.op = 7
    · rw [if_pos k4]
      by_cases hg : globE x.text = 0
      · rw [if_neg (fun c => c.2.2 hg), if_neg (by omega), if_neg (by omega), if_neg (by simp [(globE_0 _).1 hg])]
      · have : globG x.text = false := by
          cases h : globG x.text with
          | false => rfl
          | true => exact absurd ((globE_0 _).2 h) hg
        rw [if_pos ⟨k4.1, k4.2, hg⟩, if_pos this]
    · rw [if_neg k4, if_neg (fun c => k4 ⟨c.1, c.2.1⟩)]
      by_cases k6 : x.kind = 6 ∧ x.isText = true
      · rw [if_pos k6]
        by_cases hd : refD x.text < 0
        · rw [if_pos ⟨k6.1, k6.2, hd⟩, if_pos ((dosP_0 _).1 hd)]
        · have hd2 : ¬ (dosP x.text).isSome = false := fun c => hd ((dosP_0 _).2 c)
          rw [if_neg (fun c => hd c.2.2), if_neg hd2, if_neg (by omega)]
      · rw [if_neg k6, if_neg (fun c => k6 ⟨c.1, c.2.1⟩)]
        by_cases k9 : x.kind = 9
        · rw [if_pos k9]
          by_cases hl : x.text.length < 1 ∨ 64 < x.text.length
          · rw [if_pos ⟨k9, hl⟩, if_pos (by simp; omega)]
          · rw [if_neg (fun c => hl c.2), if_neg (by simp; omega)]
        · rw [if_neg k9, if_neg (fun c => k9 c.1), if_neg (by simp)]
def errsR : List Ask → Int
  | [] => 0
  | a :: l => if errR a ≠ 0 then errR a else errsR l
theorem errsR_told : ∀ (l : List Ask), (∀ x ∈ l, 9 ≤ x.kind ∨ 1 ≤ x.op ∨ x.kind < 4) → errsR l = errsL globG dosP l
  | [], _ => rfl
  | a :: l, h => by
    rw [errsR, errsL, errsR_told l (fun x hx => h x (.tail _ hx)), errR_told a (h a (.head _))]
    split
    · rfl
    · split
      · rfl
      · rfl
theorem glob_E (wx : World) (v : Value) (e : Int) : (Instr.field 101 (.agg #[v, .int .i64 e]) 1).run Tryz.prog wx = .ok (.int .i64 e) wx := by
  simp [Instr.field, run_underlying Tryz.underlying101, go_sem, asAgg]
set_option maxRecDepth 100000 in
set_option maxHeartbeats 8000000 in
theorem rerror_any (w : World) (x : Ask) : Calls Tryz.prog 31 #[askV x] w fun e w' => e = .returned (.int .i64 (errR x)) ∧ Below w.heap.size w w' := by
  obtain ⟨kind, op, a, b, n, text, isText⟩ := x
  obtain ⟨R, hR⟩ : ∃ R, R = errR ⟨kind, op, a, b, n, text, isText⟩ := ⟨_, rfl⟩
  rw [← hR]
  obtain ⟨bd, hbd⟩ : ∃ r, r = badR ⟨kind, op, a, b, n, text, isText⟩ := ⟨_, rfl⟩
  unfold errR at hR
  rw [← hbd] at hR
  unfold badR at hbd
  dsimp only at hbd hR
  unfold askV
  dsimp only
  replace hR := hide hR
  go_enter Tryz.func31, Tryz.ntmps31
  go_upto_if 6 with (fail)
  go_cut [3] (fun v3 wx => v3 = .bool bd ∧ wx = w.alloc (.cells #[.int .i64 kind, .int .i64 op, .int .i64 a, .int .i64 b, .int .i64 n, .string (str text), .bool isText] 54))
  case first =>
    have o1 : ((op != 1) = true ∨ (op != 1) = false) := by cases (op != 1) <;> simp
    have o2 : ((op != 2) = true ∨ (op != 2) = false) := by cases (op != 2) <;> simp
    have o7 : ((op != 7) = true ∨ (op != 7) = false) := by cases (op != 7) <;> simp
    have p7 : ((op == 7) = true ∨ (op == 7) = false) := by cases (op == 7) <;> simp
    by_cases k4 : kind = 4
    · subst k4
      rw [if_pos rfl] at hbd
      cases isText
      all_goals rcases o1 with o1 | o1
      all_goals rcases o2 with o2 | o2
      all_goals rcases o7 with o7 | o7
      all_goals
        have hf : Hid (bd = _) := hbd
        clear hbd p7
        go_wp2_with fail
        all_goals (go_meet; exact ⟨by rw [hf.out]; simp_all, rfl⟩)
    have n4 : (kind == 4) = false := by simp [k4]
    rw [if_neg k4] at hbd
    by_cases k5 : kind = 5
    · subst k5
      rw [if_pos rfl] at hbd
      cases isText
      all_goals rcases p7 with p7 | p7
      all_goals
        have hf : Hid (bd = _) := hbd
        clear hbd o1 o2 o7
        go_wp2_with fail
        all_goals (go_meet; exact ⟨by rw [hf.out]; simp_all, rfl⟩)
    have n5 : (kind == 5) = false := by simp [k5]
    rw [if_neg k5] at hbd
    by_cases k6 : kind = 6
    · subst k6
      rw [if_pos rfl] at hbd
      rcases p7 with p7 | p7
      all_goals
        have hf : Hid (bd = _) := hbd
        clear hbd o1 o2 o7
        go_wp2_with fail
        all_goals (go_meet; exact ⟨by rw [hf.out]; simp_all, rfl⟩)
    have n6 : (kind == 6) = false := by simp [k6]
    rw [if_neg k6] at hbd
    by_cases k7 : kind = 7
    · subst k7
      rw [if_pos (.inl rfl)] at hbd
      cases isText
      all_goals by_cases h2 : 2 < op
      all_goals
        have hf : Hid (bd = _) := hbd
        clear hbd o1 o2 o7 p7
        go_wp2_with fail
        all_goals (go_meet; exact ⟨by rw [hf.out]; simp_all, rfl⟩)
    have n7 : (kind == 7) = false := by simp [k7]
    by_cases k8 : kind = 8
    · subst k8
      rw [if_pos (.inr rfl)] at hbd
      cases isText
      all_goals by_cases h2 : 2 < op
      all_goals
        have hf : Hid (bd = _) := hbd
        clear hbd o1 o2 o7 p7
        go_wp2_with fail
        all_goals (go_meet; exact ⟨by rw [hf.out]; simp_all, rfl⟩)
    have n8 : (kind == 8) = false := by simp [k8]
    rw [if_neg (by omega)] at hbd
    have hf : Hid (bd = _) := hbd
    clear hbd o1 o2 o7 p7 k4 k5 k6 k7 k8
    go_wp2_with fail
    go_meet
    exact ⟨by rw [hf.out], rfl⟩
  case rest =>
    obtain ⟨rfl, rfl⟩ := hcut
    clear hbd
    obtain ⟨wa, hwa⟩ : ∃ y, y = w.alloc (.cells #[.int .i64 kind, .int .i64 op, .int .i64 a, .int .i64 b, .int .i64 n, .string (str text), .bool isText] 54) := ⟨_, rfl⟩
    have hB : Blk wa w.heap.size 54 #[.int .i64 kind, .int .i64 op, .int .i64 a, .int .i64 b, .int .i64 n, .string (str text), .bool isText] := by rw [hwa]; exact Blk.new w 54 _
    have hbw : Below w.heap.size w wa := by rw [hwa]; exact (Below.refl _ _).alloc (Nat.le_refl _) _
    rw [← hwa]
    clear hwa
    have c0 : wa.cell? ⟨w.heap.size, 0, none⟩ = some (.int .i64 kind) := hB.cell 0
    have c1 : wa.cell? ⟨w.heap.size, 1, none⟩ = some (.int .i64 op) := hB.cell 1
    have c5 : wa.cell? ⟨w.heap.size, 5, none⟩ = some (.string (str text)) := hB.cell 5
    have c6 : wa.cell? ⟨w.heap.size, 6, none⟩ = some (.bool isText) := hB.cell 6
    have hlt := hB.lt
    cases bd with
    | true =>
      have hf : Hid ((16 : Int) = R) := by rw [Hid, hR.out]; rfl
      clear hB
      go_wp2_with fail
      go_ret
      exact ⟨ret_int hf.out, hbw⟩
    | false =>
      replace hR := hide (hR.out.trans (if_neg (by simp)))
      by_cases k4 : kind = 4 ∧ op = 7
      · obtain ⟨rfl, rfl⟩ := k4
        have hf : Hid (R = if globE text ≠ 0 then 4 else 0) := by
          rw [Hid, hR.out]; split
          · rename_i h; rw [if_pos h.2.2]
          · rename_i h
            rw [if_neg (by omega), if_neg (by omega), if_neg (fun c => h ⟨rfl, rfl, c⟩)]
        clear hR
        go_wp2_with fail
        refine (rgnew_any wa (str text)).mono ?_
        rintro e w2 hr
        obtain ⟨v, rfl⟩ := hr.err
        have hb2 := hr.1
        rw [str_toList]
        have hfd := fun (wx : World) => glob_E wx v (globE text)
        have hbw2 := hbw.trans (hb2.mono (by omega))
        have hB2 := hB.below hb2 (by omega)
        have c0' : w2.cell? ⟨w.heap.size, 0, none⟩ = some (.int .i64 4) := hB2.cell 0
        clear hr hB hB2 c0 c1 c5 c6 hb2
        by_cases hg : globE text = 0
        · have hg2 : (globE text != 0) = false := by simp [hg]
          have hf2 : Hid ((0 : Int) = R) := by rw [Hid, hf.out, if_neg (by omega)]
          clear hg hf
          go_wp2_with fail
          go_ret
          exact ⟨ret_int hf2.out, hbw2⟩
        · have hg2 : (globE text != 0) = true := by simp [hg]
          have hf2 : Hid ((4 : Int) = R) := by rw [Hid, hf.out, if_pos hg]
          clear hg hf
          go_wp2_with fail
          go_ret
          exact ⟨ret_int hf2.out, hbw2⟩
      · by_cases k6 : kind = 6 ∧ isText = true
        · obtain ⟨rfl, rfl⟩ := k6
          have hf : Hid (R = if refD text < 0 then 4 else 0) := by
            rw [Hid, hR.out, if_neg (by omega)]; split
            · rename_i h; rw [if_pos h.2.2]
            · rename_i h
              rw [if_neg (by omega), if_neg (fun c => h ⟨rfl, rfl, c⟩)]
          clear hR
          go_wp2_with fail
          refine (rdparse_any wa (str text)).mono ?_
          rintro e w2 ⟨rfl, hb2⟩
          rw [str_toList]
          have hbw2 := hbw.trans (hb2.mono (by omega))
          have hB2 := hB.below hb2 (by omega)
          have c0' : w2.cell? ⟨w.heap.size, 0, none⟩ = some (.int .i64 6) := hB2.cell 0
          clear hB hB2 c0 c1 c5 c6 hb2
          by_cases hg : refD text < 0
          · have hf2 : Hid ((4 : Int) = R) := by rw [Hid, hf.out, if_pos hg]
            clear hf
            go_wp2_with fail
            go_ret
            exact ⟨ret_int hf2.out, hbw2⟩
          · have hf2 : Hid ((0 : Int) = R) := by rw [Hid, hf.out, if_neg hg]
            clear hf
            go_wp2_with fail
            go_ret
            exact ⟨ret_int hf2.out, hbw2⟩
        · by_cases k9 : kind = 9
          · subst k9
            have hsz := hide (str_size text)
            have hf : Hid (R = if text.length < 1 ∨ 64 < text.length then 4 else 0) := by
              rw [Hid, hR.out, if_neg (by omega), if_neg (by omega)]; split
              · rename_i h; rw [if_pos h.2]
              · rename_i h; rw [if_neg (fun c => h ⟨rfl, c⟩)]
            clear hR hB k4 k6
            by_cases h1 : text.length < 1
            · have hf2 : Hid ((4 : Int) = R) := by rw [Hid, hf.out, if_pos (.inl h1)]
              have q1 : ((str text).size : Int) < 1 := by rw [hsz.out]; omega
              clear hf h1
              go_wp2_with fail
              go_ret
              exact ⟨ret_int hf2.out, hbw⟩
            · have q1 : ¬ ((str text).size : Int) < 1 := by rw [hsz.out]; omega
              by_cases h2 : 64 < text.length
              · have hf2 : Hid ((4 : Int) = R) := by rw [Hid, hf.out, if_pos (.inr h2)]
                have q2 : (64 : Int) < ((str text).size : Int) := by rw [hsz.out]; omega
                clear hf h1 h2
                go_wp2_with fail
                go_ret
                exact ⟨ret_int hf2.out, hbw⟩
              · have hf2 : Hid ((0 : Int) = R) := by rw [Hid, hf.out, if_neg (by omega)]
                have q2 : ¬ (64 : Int) < ((str text).size : Int) := by rw [hsz.out]; omega
                clear hf h1 h2
                go_wp2_with fail
                go_ret
                exact ⟨ret_int hf2.out, hbw⟩
          · have n9 : (kind == 9) = false := by simp [k9]
            have hf2 : Hid ((0 : Int) = R) := by
              rw [Hid, hR.out, if_neg (fun c => k4 ⟨c.1, c.2.1⟩), if_neg (fun c => k6 ⟨c.1, c.2.1⟩), if_neg (fun c => k9 c.1)]
            clear hR hB
            have m4 : (kind == 4) = false ∨ ((kind == 4) = true ∧ (op == 7) = false) := by
              by_cases h : kind = 4
              · exact .inr ⟨by simp [h], by simp; exact fun c => k4 ⟨h, c⟩⟩
              · exact .inl (by simp [h])
            have m6 : (kind == 6) = false ∨ ((kind == 6) = true ∧ isText = false) := by
              by_cases h : kind = 6
              · exact .inr ⟨by simp [h], by cases isText; rfl; exact absurd ⟨h, rfl⟩ k6⟩
              · exact .inl (by simp [h])
            clear k4 k6 k9
            rcases m4 with m4 | ⟨m4, m4'⟩
            all_goals rcases m6 with m6 | ⟨m6, m6'⟩
            all_goals
              try subst m6'
              go_wp2_with fail
              go_ret
              exact ⟨ret_int hf2.out, hbw⟩
theorem errsR_drop {l : List Ask} {i : Nat} (h : i < l.length) : errsR (l.drop i) = if errR l[i] ≠ 0 then errR l[i] else errsR (l.drop (i + 1)) := by
  rw [List.drop_eq_getElem_cons h, errsR]
theorem ask_eta (x : Ask) : askV x = .agg #[.int .i64 x.kind, .int .i64 x.op, .int .i64 x.a, .int .i64 x.b, .int .i64 x.n, .string (str x.text), .bool x.isText] := rfl
set_option maxRecDepth 100000 in
set_option maxHeartbeats 4000000 in
theorem rerrs_any (w : World) (A : Option Addr) (n c : Nat) (l : List Ask) (h : RA w w.heap.size A n l) (hn : n ≤ 100000) :
    Calls Tryz.prog 16 #[.slice A n c] w fun e w' => e = .returned (.int .i64 (errsR l)) ∧ Below w.heap.size w w' := by
  have hlen := hide h.len
  replace h := hide h
  go_enter Tryz.func16, Tryz.ntmps16
  go_wp2_with fail
  go_loopw [3] (fun v3 wr => ∃ p : Nat, v3 = .int .i64 p ∧ p ≤ n ∧ errsR l = errsR (l.drop p) ∧ Below w.heap.size w wr) (fun v3 _ => n - (intOf v3).toNat)
  case atStart => exact ⟨0, rfl, by omega, rfl, Below.refl _ _⟩
  case round =>
    obtain ⟨p, rfl, hp, hE, hbl⟩ := hrel
    by_cases h1 : p < n
    · have hpl : p < l.length := by have := hlen.out; omega
      obtain ⟨ad, e, hab, c0, c1, c2, c3, c4, c5, c6⟩ := (h.out.below hbl).elem (k := p) h1 hpl
      subst e
      rw [errsR_drop hpl] at hE
      generalize l[p] = x at *
      have hsz := hbl.size
      have h1' : (p : Int) < (n : Int) := by omega
      have hx := hide (ask_eta x)
      replace hE := hide hE
      go_wp2_with fail
      rw [← hx.out]
      refine (rerror_any wr x).mono ?_
      rintro e w2 ⟨rfl, hb2⟩
      have hbw2 := hbl.trans (hb2.mono hsz)
      clear c0 c1 c2 c3 c4 c5 c6 hb2
      by_cases he : errR x = 0
      · have e1 : (errR x != 0) = false := by simp [he]
        have hE2 : Hid (errsR l = errsR (l.drop (p + 1))) := by rw [Hid, hE.out, if_neg (by omega)]
        clear he hE
        go_wp2_with fail
        go_roundw
        case rel => exact ⟨p + 1, by go_num, by omega, hE2.out, hbw2⟩
        case measure => simp [intOf]; omega
      · have e1 : (errR x != 0) = true := by simp [he]
        have hE2 : Hid (errR x = errsR l) := by rw [Hid, hE.out, if_pos he]
        clear he hE
        go_wp2_with fail
        go_ret
        exact ⟨ret_int hE2.out, hbw2⟩
    · have hde : l.drop p = [] := List.drop_eq_nil_of_le (by have := hlen.out; omega)
      have hE2 : Hid ((0 : Int) = errsR l) := by rw [Hid, hE, hde]; rfl
      have h1' : ¬ (p : Int) < (n : Int) := by omega
      clear hE hde
      go_wp2_with fail
      go_ret
      exact ⟨ret_int hE2.out, hbl⟩
end Go.Proofs.YtnnjcedlomfhoaaGreatDoor
