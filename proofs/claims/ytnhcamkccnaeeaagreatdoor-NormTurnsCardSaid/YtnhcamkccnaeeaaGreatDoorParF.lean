/-
  Contracts of the parser's methods row, ands, ors, nots: a question is parsed.
  The parser's methods serve the grammar: nots, ands, ors.
-/
import Derived.Test.YtnhcamkccnaeeaaGreatDoorParD
namespace Go.Proofs.YtnhcamkccnaeeaaGreatDoor
open Go.RowKit
set_option linter.unusedVariables false

/-- What a part of the parser leaves: a question's parts, or the mark that all was not right. -/
def NRet (w : World) (b : Nat) (T : List Tok) (out : List Ask) (res : Option (Q × List Tok)) (e : Ending) (w' : World) : Prop :=
  match res with
  | some (q, T') => e = .returned (.int .i64 ((out.length : Int) + (q.size : Int) - 1)) ∧ (∃ v', PSt w' b v' T' (out ++ q.parts out.length) true) ∧ Below b w w'
  | none => ∃ r v' T' out', e = .returned (.int .i64 r) ∧ PSt w' b v' T' out' false ∧ T'.length ≤ T.length ∧ out'.length + 2 * T'.length ≤ out.length + 2 * T.length + 1 ∧ Below b w w'
theorem NRet.yes {w w' : World} {b : Nat} {v' : Value} {T T' : List Tok} {out : List Ask} {res : Option (Q × List Tok)} {q : Q} {r : Int} (hr : res = some (q, T')) (he : r = (out.length : Int) + (q.size : Int) - 1)
    (hP : PSt w' b v' T' (out ++ q.parts out.length) true) (hb : Below b w w') : NRet w b T out res (.returned (.int .i64 r)) w' := by
  subst hr he; exact ⟨rfl, ⟨v', hP⟩, hb⟩
theorem NRet.no {w w' : World} {b : Nat} {v' : Value} {T T' : List Tok} {out out' : List Ask} {res : Option (Q × List Tok)} {r : Int} (hr : res = none)
    (hP : PSt w' b v' T' out' false) (h1 : T'.length ≤ T.length) (h2 : out'.length + 2 * T'.length ≤ out.length + 2 * T.length + 1) (hb : Below b w w') : NRet w b T out res (.returned (.int .i64 r)) w' := by
  subst hr; exact ⟨r, v', T', out', rfl, hP, h1, h2, hb⟩

/-- 'the function serves this part of the grammar, at fewer than n tokens'. -/
def Serves (f : FuncId) (one : List Tok → Option (Q × List Tok)) (n : Nat) : Prop :=
  ∀ (w : World) (b : Nat) (v : Value) (T : List Tok) (out : List Ask), PSt w b v T out true → T.length < n → out.length + 2 * T.length ≤ 50000 → Asp w → 4 < b → Calls Tryz.prog f #[.pointer (some ⟨b, 0, none⟩)] w (NRet w b T out (one T))
def sliceLen (v : Value) : Nat := match v with | .slice _ n _ => n | _ => 0
theorem PSt.toks_ {w : World} {b : Nat} {v : Value} {T : List Tok} {out : List Ask} {well : Bool} (h : PSt w b v T out well) : sliceLen ((w.cell? ⟨b, 0, none⟩).getD undef) = T.length := by
  obtain ⟨A, c, km, hB, _⟩ := h
  rw [hB.cell 0]; rfl

/-- The state at the head of row's loop. -/
def RowRel (w : World) (b : Nat) (T : List Tok) (out : List Ask) (word : List UInt8) (kind : Int) (one : List Tok → Option (Q × List Tok)) (a : Value) (wr : World) : Prop :=
  (∃ q v' T' g, a = .int .i64 ((out.length : Int) + (q.size : Int) - 1) ∧ PSt wr b v' T' (out ++ q.parts out.length) true ∧ Below b w wr ∧ T'.length ≤ g ∧ q.size + T'.length ≤ T.length ∧ rowP word kind one T = loopP word kind one g q T') ∨
  (∃ r v' T' out', a = .int .i64 r ∧ PSt wr b v' T' out' false ∧ Below b w wr ∧ T'.length ≤ T.length ∧ out'.length + 2 * T'.length ≤ out.length + 2 * T.length + 1 ∧ rowP word kind one T = none)

theorem loopP_stop {word : List UInt8} {kind : Int} {one : List Tok → Option (Q × List Tok)} {g : Nat} {q : Q} {T : List Tok} (h : atW T 1 word = false) : loopP word kind one g q T = some (q, T) := by
  cases g with
  | zero => rfl
  | succ g => rw [loopP, h]; rfl
theorem loopP_step {word : List UInt8} {kind : Int} {one : List Tok → Option (Q × List Tok)} {g : Nat} {q : Q} {T : List Tok} (h : atW T 1 word = true) :
    loopP word kind one (g + 1) q T = match one T.tail with | some (b, T') => loopP word kind one g (.two kind q b) T' | none => none := by
  rw [loopP, if_pos h]
  cases one T.tail <;> rfl
theorem RowRel.first {w w1 : World} {b n : Nat} {T : List Tok} {out : List Ask} {word : List UInt8} {kind : Int} {one : List Tok → Option (Q × List Tok)} {e : Ending} (ht : Takes one) (h1 : NRet w b T out (one T) e w1) :
    ∃ a, e = .returned (.int .i64 a) ∧ RowRel w b T out word kind one (.int .i64 a) w1 := by
  unfold NRet at h1
  cases hres : one T with
  | none =>
    rw [hres] at h1
    obtain ⟨r, v', T', out', rfl, hP, l1, l2, hb⟩ := h1
    exact ⟨r, rfl, .inr ⟨r, v', T', out', rfl, hP, hb, l1, l2, by simp [rowP, hres]⟩⟩
  | some x =>
    obtain ⟨q, T'⟩ := x
    rw [hres] at h1
    obtain ⟨rfl, ⟨v', hP⟩, hb⟩ := h1
    have := ht _ _ _ hres
    exact ⟨_, rfl, .inl ⟨q, v', T', T'.length, rfl, hP, hb, Nat.le_refl _, by omega, by simp [rowP, hres]⟩⟩

set_option maxRecDepth 100000 in
set_option maxHeartbeats 2000000 in
theorem row_nots (n : Nat) (one : List Tok → Option (Q × List Tok)) (ht : Takes one) (hone : Serves 116 one n) (word : ByteArray) (kind : Int)
    (w : World) (b : Nat) (v : Value) (T : List Tok) (out : List Ask) (h : PSt w b v T out true) (hn : T.length < n) (hl : out.length + 2 * T.length ≤ 50000) (hA : Asp w) (hgb : 4 < b) :
    Calls Tryz.prog 89 #[.pointer (some ⟨b, 0, none⟩), .string word, .int .i64 kind, .func (.func 116) #[.pointer (some ⟨b, 0, none⟩)] #[]] w (NRet w b T out (rowP word.data.toList kind one T)) := by
  have HA := hide hA
  clear hA
  go_enter Tryz.func89, Tryz.ntmps89
  go_wp2_with fail
  refine (hone w b v T out h hn hl HA.out hgb).mono ?_
  intro e w1 h1
  obtain ⟨a, rfl, hrel0⟩ := RowRel.first (n := n) (word := word.data.toList) (kind := kind) ht h1
  clear h1 h
  replace hrel0 := hide hrel0
  go_wp2_with fail
  go_loopw [9] (fun a wr => RowRel w b T out word.data.toList kind one a wr) (fun _ wr => sliceLen ((wr.cell? ⟨b, 0, none⟩).getD undef))
  case atStart => exact hrel0.out
  case round =>
    clear hrel0
    rcases hrel with ⟨q, v', T', g, rfl, hP, hbl, hg, hq, hrow⟩ | ⟨r, v', T', out', rfl, hP, hbl, l1, l2, hrow⟩
    · have qw := hP.well_.1
      have hlt := hP.lt
      have hm := hide hP.toks_
      replace hP := hide hP
      replace hrow := hide hrow
      go_wp2_with fail
      refine (is_any _ b v' T' _ true 1 word hP.out).mono ?_
      rintro e w2 ⟨rfl, hP2, hb2, -⟩
      by_cases hw : atW T' 1 word.data.toList = true
      · rw [hw] at hP2 ⊢
        rw [if_pos rfl] at hP2
        have hstep := hide (fun g => loopP_step (kind := kind) (one := one) (g := g) (q := q) hw)
        obtain ⟨t, r, rfl, -⟩ := atW_cons hw
        rw [List.tail_cons] at hP2 hstep
        rw [List.length_cons] at hg hq hm
        have hbl2 := hbl.trans hb2
        have hlen := hide (show (out ++ q.parts out.length).length = out.length + (q.parts out.length).length from List.length_append)
        have hpl := hide (q.parts_len out.length)
        have hA2 := asp_below HA.out hbl2 hgb
        have hbnd : (out ++ q.parts out.length).length + 2 * r.length ≤ 50000 := by rw [hlen.out, hpl.out]; omega
        replace hP2 := hide hP2
        clear hw hP qw hb2 hbl
        go_wp2_with fail
        refine (hone w2 b v' r _ hP2.out (by omega) hbnd hA2 hgb).mono ?_
        intro e w3 h3
        unfold NRet at h3
        cases hres : one r with
        | none =>
          rw [hres] at h3
          obtain ⟨r3, v3, T3, out3, rfl, hP3, l1, l2, hb3⟩ := h3
          rw [hlen.out, hpl.out] at l2
          have hbl3 := hbl2.trans hb3
          have hnone : Hid (rowP word.data.toList kind one T = none) := by
            show _ = _
            obtain ⟨g', rfl⟩ : ∃ g', g = g' + 1 := ⟨g - 1, by omega⟩
            rw [hrow.out, hstep.out g', hres]
          replace hP3 := hide hP3
          clear hres hA2 hP2 hbl2 hb3 hstep hbnd hrow hlen hpl
          go_wp2_with fail
          refine (put_any _ b v3 T3 out3 false ⟨kind, 0, _, r3, 0, [], false⟩ hP3.out (by omega)).mono ?_
          rintro e w4 ⟨rfl, ⟨v4, hP4⟩, hb4⟩
          have hbl4 := hbl3.trans hb4
          replace hP4 := hide hP4
          have hm4 := hide hP4.out.toks_
          clear hP3 hb4 hbl3
          go_wp2_with fail
          go_roundw
          case rel => exact .inr ⟨_, v4, T3, _, rfl, hP4.out, hbl4, by omega, by rw [List.length_append, List.length_singleton]; omega, hnone.out⟩
          case measure => rw [hm4.out, hm.out]; omega
        | some x =>
          obtain ⟨q3, T3⟩ := x
          rw [hres] at h3
          obtain ⟨rfl, ⟨v3, hP3⟩, hb3⟩ := h3
          have ht3 := ht _ _ _ hres
          have hbl3 := hbl2.trans hb3
          obtain ⟨g', rfl⟩ : ∃ g', g = g' + 1 := ⟨g - 1, by omega⟩
          have hnext : Hid (rowP word.data.toList kind one T = loopP word.data.toList kind one g' (.two kind q q3) T3) := by
            show _ = _
            rw [hrow.out, hstep.out g', hres]
          have hparts : Hid (out ++ q.parts out.length ++ q3.parts (out ++ q.parts out.length).length ++ [⟨kind, 0, (out.length : Int) + (q.size : Int) - 1, ((out ++ q.parts out.length).length : Int) + (q3.size : Int) - 1, 0, [], false⟩] = out ++ (Q.two kind q q3).parts out.length) := by
            show _ = _
            rw [hlen.out, hpl.out, Q.parts]
            simp only [List.append_assoc, Int.natCast_add]
          have hlen3 : Hid ((out ++ q.parts out.length ++ q3.parts (out ++ q.parts out.length).length).length = out.length + q.size + q3.size) := by
            show _ = _
            rw [List.length_append, hlen.out, hpl.out, Q.parts_len]
          have hcast : Hid (((out ++ q.parts out.length).length : Int) + (q3.size : Int) - 1 = (out.length : Int) + (q.size : Int) + (q3.size : Int) - 1) := by
            show _ = _
            rw [hlen.out, hpl.out]; omega
          rw [hcast.out] at hparts ⊢
          replace hP3 := hide hP3
          clear hres hA2 hP2 hbl2 hb3 hstep hbnd hrow hlen hpl hcast
          go_wp2_with fail
          refine (put_any _ b v3 T3 _ true ⟨kind, 0, _, _, 0, [], false⟩ hP3.out (by rw [hlen3.out]; omega)).mono ?_
          rintro e w4 ⟨rfl, ⟨v4, hP4⟩, hb4⟩
          rw [hparts.out] at hP4
          rw [hlen3.out]
          have hbl4 := hbl3.trans hb4
          replace hP4 := hide hP4
          have hm4 := hide hP4.out.toks_
          clear hP3 hb4 hbl3 hparts hlen3
          go_wp2_with fail
          go_roundw
          case rel => exact .inl ⟨.two kind q q3, v4, T3, g', by rw [show ((Q.two kind q q3).size : Int) = (q.size : Int) + (q3.size : Int) + 1 from by simp [Q.size]]; go_num, hP4.out, hbl4, by omega, by simp [Q.size]; omega, hnext.out⟩
          case measure => rw [hm4.out, hm.out]; omega
      · rw [Bool.not_eq_true] at hw
        have hst : Hid (rowP word.data.toList kind one T = some (q, T')) := by rw [Hid, hrow.out]; exact loopP_stop hw
        rw [hw] at hP2 ⊢
        rw [if_neg (by simp)] at hP2
        have hbl2 := hbl.trans hb2
        replace hP2 := hide hP2
        clear hw hP qw hb2 hbl hrow hm
        go_wp2_with fail
        go_ret
        exact NRet.yes hst.out rfl hP2.out hbl2
    · have qw := hP.well_.1
      replace hP := hide hP
      replace hrow := hide hrow
      go_wp2_with fail
      go_ret
      exact NRet.no hrow.out hP.out l1 l2 hbl
set_option maxRecDepth 100000 in
set_option maxHeartbeats 2000000 in
theorem row_ands (n : Nat) (one : List Tok → Option (Q × List Tok)) (ht : Takes one) (hone : Serves 90 one n) (word : ByteArray) (kind : Int)
    (w : World) (b : Nat) (v : Value) (T : List Tok) (out : List Ask) (h : PSt w b v T out true) (hn : T.length < n) (hl : out.length + 2 * T.length ≤ 50000) (hA : Asp w) (hgb : 4 < b) :
    Calls Tryz.prog 89 #[.pointer (some ⟨b, 0, none⟩), .string word, .int .i64 kind, .func (.func 90) #[.pointer (some ⟨b, 0, none⟩)] #[]] w (NRet w b T out (rowP word.data.toList kind one T)) := by
  have HA := hide hA
  clear hA
  go_enter Tryz.func89, Tryz.ntmps89
  go_wp2_with fail
  refine (hone w b v T out h hn hl HA.out hgb).mono ?_
  intro e w1 h1
  obtain ⟨a, rfl, hrel0⟩ := RowRel.first (n := n) (word := word.data.toList) (kind := kind) ht h1
  clear h1 h
  replace hrel0 := hide hrel0
  go_wp2_with fail
  go_loopw [9] (fun a wr => RowRel w b T out word.data.toList kind one a wr) (fun _ wr => sliceLen ((wr.cell? ⟨b, 0, none⟩).getD undef))
  case atStart => exact hrel0.out
  case round =>
    clear hrel0
    rcases hrel with ⟨q, v', T', g, rfl, hP, hbl, hg, hq, hrow⟩ | ⟨r, v', T', out', rfl, hP, hbl, l1, l2, hrow⟩
    · have qw := hP.well_.1
      have hlt := hP.lt
      have hm := hide hP.toks_
      replace hP := hide hP
      replace hrow := hide hrow
      go_wp2_with fail
      refine (is_any _ b v' T' _ true 1 word hP.out).mono ?_
      rintro e w2 ⟨rfl, hP2, hb2, -⟩
      by_cases hw : atW T' 1 word.data.toList = true
      · rw [hw] at hP2 ⊢
        rw [if_pos rfl] at hP2
        have hstep := hide (fun g => loopP_step (kind := kind) (one := one) (g := g) (q := q) hw)
        obtain ⟨t, r, rfl, -⟩ := atW_cons hw
        rw [List.tail_cons] at hP2 hstep
        rw [List.length_cons] at hg hq hm
        have hbl2 := hbl.trans hb2
        have hlen := hide (show (out ++ q.parts out.length).length = out.length + (q.parts out.length).length from List.length_append)
        have hpl := hide (q.parts_len out.length)
        have hA2 := asp_below HA.out hbl2 hgb
        have hbnd : (out ++ q.parts out.length).length + 2 * r.length ≤ 50000 := by rw [hlen.out, hpl.out]; omega
        replace hP2 := hide hP2
        clear hw hP qw hb2 hbl
        go_wp2_with fail
        refine (hone w2 b v' r _ hP2.out (by omega) hbnd hA2 hgb).mono ?_
        intro e w3 h3
        unfold NRet at h3
        cases hres : one r with
        | none =>
          rw [hres] at h3
          obtain ⟨r3, v3, T3, out3, rfl, hP3, l1, l2, hb3⟩ := h3
          rw [hlen.out, hpl.out] at l2
          have hbl3 := hbl2.trans hb3
          have hnone : Hid (rowP word.data.toList kind one T = none) := by
            show _ = _
            obtain ⟨g', rfl⟩ : ∃ g', g = g' + 1 := ⟨g - 1, by omega⟩
            rw [hrow.out, hstep.out g', hres]
          replace hP3 := hide hP3
          clear hres hA2 hP2 hbl2 hb3 hstep hbnd hrow hlen hpl
          go_wp2_with fail
          refine (put_any _ b v3 T3 out3 false ⟨kind, 0, _, r3, 0, [], false⟩ hP3.out (by omega)).mono ?_
          rintro e w4 ⟨rfl, ⟨v4, hP4⟩, hb4⟩
          have hbl4 := hbl3.trans hb4
          replace hP4 := hide hP4
          have hm4 := hide hP4.out.toks_
          clear hP3 hb4 hbl3
          go_wp2_with fail
          go_roundw
          case rel => exact .inr ⟨_, v4, T3, _, rfl, hP4.out, hbl4, by omega, by rw [List.length_append, List.length_singleton]; omega, hnone.out⟩
          case measure => rw [hm4.out, hm.out]; omega
        | some x =>
          obtain ⟨q3, T3⟩ := x
          rw [hres] at h3
          obtain ⟨rfl, ⟨v3, hP3⟩, hb3⟩ := h3
          have ht3 := ht _ _ _ hres
          have hbl3 := hbl2.trans hb3
          obtain ⟨g', rfl⟩ : ∃ g', g = g' + 1 := ⟨g - 1, by omega⟩
          have hnext : Hid (rowP word.data.toList kind one T = loopP word.data.toList kind one g' (.two kind q q3) T3) := by
            show _ = _
            rw [hrow.out, hstep.out g', hres]
          have hparts : Hid (out ++ q.parts out.length ++ q3.parts (out ++ q.parts out.length).length ++ [⟨kind, 0, (out.length : Int) + (q.size : Int) - 1, ((out ++ q.parts out.length).length : Int) + (q3.size : Int) - 1, 0, [], false⟩] = out ++ (Q.two kind q q3).parts out.length) := by
            show _ = _
            rw [hlen.out, hpl.out, Q.parts]
            simp only [List.append_assoc, Int.natCast_add]
          have hlen3 : Hid ((out ++ q.parts out.length ++ q3.parts (out ++ q.parts out.length).length).length = out.length + q.size + q3.size) := by
            show _ = _
            rw [List.length_append, hlen.out, hpl.out, Q.parts_len]
          have hcast : Hid (((out ++ q.parts out.length).length : Int) + (q3.size : Int) - 1 = (out.length : Int) + (q.size : Int) + (q3.size : Int) - 1) := by
            show _ = _
            rw [hlen.out, hpl.out]; omega
          rw [hcast.out] at hparts ⊢
          replace hP3 := hide hP3
          clear hres hA2 hP2 hbl2 hb3 hstep hbnd hrow hlen hpl hcast
          go_wp2_with fail
          refine (put_any _ b v3 T3 _ true ⟨kind, 0, _, _, 0, [], false⟩ hP3.out (by rw [hlen3.out]; omega)).mono ?_
          rintro e w4 ⟨rfl, ⟨v4, hP4⟩, hb4⟩
          rw [hparts.out] at hP4
          rw [hlen3.out]
          have hbl4 := hbl3.trans hb4
          replace hP4 := hide hP4
          have hm4 := hide hP4.out.toks_
          clear hP3 hb4 hbl3 hparts hlen3
          go_wp2_with fail
          go_roundw
          case rel => exact .inl ⟨.two kind q q3, v4, T3, g', by rw [show ((Q.two kind q q3).size : Int) = (q.size : Int) + (q3.size : Int) + 1 from by simp [Q.size]]; go_num, hP4.out, hbl4, by omega, by simp [Q.size]; omega, hnext.out⟩
          case measure => rw [hm4.out, hm.out]; omega
      · rw [Bool.not_eq_true] at hw
        have hst : Hid (rowP word.data.toList kind one T = some (q, T')) := by rw [Hid, hrow.out]; exact loopP_stop hw
        rw [hw] at hP2 ⊢
        rw [if_neg (by simp)] at hP2
        have hbl2 := hbl.trans hb2
        replace hP2 := hide hP2
        clear hw hP qw hb2 hbl hrow hm
        go_wp2_with fail
        go_ret
        exact NRet.yes hst.out rfl hP2.out hbl2
    · have qw := hP.well_.1
      replace hP := hide hP
      replace hrow := hide hrow
      go_wp2_with fail
      go_ret
      exact NRet.no hrow.out hP.out l1 l2 hbl

set_option maxRecDepth 100000 in
theorem ands_of {n : Nat} {one : List Tok → Option (Q × List Tok)} (ht : Takes one) (hone : Serves 116 one n) : Serves 90 (rowP andW 2 one) n := by
  intro w b v T out h hn hl hA hgb
  have hmf : ∀ (fn : Fn) (first cap : Array Value) (w : World), (Instr.makeFunc fn first cap).run Tryz.prog w = .ok (.func fn first cap) w := fun _ _ _ _ => rfl
  have HP := hide h
  have HA := hide hA
  clear h hA
  go_enter Tryz.func90, Tryz.ntmps90
  go_wp2_with fail
  refine (row_nots n one ht hone ⟨#[97, 110, 100]⟩ 2 w b v T out HP.out hn hl HA.out hgb).mono ?_
  intro e w1 h1
  rw [show (ByteArray.mk #[97, 110, 100]).data.toList = andW from rfl] at h1
  have h2 : ∃ r, e = .returned (.int .i64 r) := by
    unfold NRet at h1
    split at h1
    · exact ⟨_, h1.1⟩
    · obtain ⟨r, _, _, _, he, _⟩ := h1
      exact ⟨r, he⟩
  obtain ⟨r, rfl⟩ := h2
  replace h1 := hide h1
  clear hmf
  go_wp2_with fail
  go_ret
  exact h1.out
set_option maxRecDepth 100000 in
theorem ors_of {n : Nat} {one : List Tok → Option (Q × List Tok)} (ht : Takes one) (hone : Serves 90 one n) : Serves 55 (rowP orW 1 one) n := by
  intro w b v T out h hn hl hA hgb
  have hmf : ∀ (fn : Fn) (first cap : Array Value) (w : World), (Instr.makeFunc fn first cap).run Tryz.prog w = .ok (.func fn first cap) w := fun _ _ _ _ => rfl
  have HP := hide h
  have HA := hide hA
  clear h hA
  go_enter Tryz.func55, Tryz.ntmps55
  go_wp2_with fail
  refine (row_ands n one ht hone ⟨#[111, 114]⟩ 1 w b v T out HP.out hn hl HA.out hgb).mono ?_
  intro e w1 h1
  rw [show (ByteArray.mk #[111, 114]).data.toList = orW from rfl] at h1
  have h2 : ∃ r, e = .returned (.int .i64 r) := by
    unfold NRet at h1
    split at h1
    · exact ⟨_, h1.1⟩
    · obtain ⟨r, _, _, _, he, _⟩ := h1
      exact ⟨r, he⟩
  obtain ⟨r, rfl⟩ := h2
  replace h1 := hide h1
  clear hmf
  go_wp2_with fail
  go_ret
  exact h1.out
end Go.Proofs.YtnhcamkccnaeeaaGreatDoor
namespace Go.Proofs.YtnhcamkccnaeeaaGreatDoor
open Go.RowKit
set_option linter.unusedVariables false

theorem R1_len (T : List Tok) : (R1 T).length ≤ T.length := by
  unfold R1
  split <;> simp
  omega
theorem notsP_not {n : Nat} {T : List Tok} (h : atW T 1 notW = true) : notsP (n + 1) T = match notsP n T.tail with | some (q, T') => some (.neg q, T') | none => none := by
  rw [notsP, if_pos h]
  cases notsP n T.tail <;> rfl
theorem notsP_par {n : Nat} {T : List Tok} (h : atW T 1 notW = false) (h2 : atW T 4 lpW = true) :
    notsP (n + 1) T = match rowP orW 1 (rowP andW 2 (notsP n)) T.tail with | some (q, T') => if atW T' 4 rpW = true then some (q, T'.tail) else none | none => none := by
  rw [notsP, h, h2]
  simp only [Bool.false_eq_true, if_false, if_true]
  cases rowP orW 1 (rowP andW 2 (notsP n)) T.tail <;> rfl
theorem notsP_term {n : Nat} {T : List Tok} (h : atW T 1 notW = false) (h2 : atW T 4 lpW = false) : notsP (n + 1) T = if wellF T = true then some (.term (askF T), (R1 T).tail) else none := by
  rw [notsP, h, h2]
  simp only [Bool.false_eq_true, if_false]
  rw [termP_eq]
  cases wellF T <;> rfl

set_option maxRecDepth 100000 in
set_option maxHeartbeats 2000000 in
theorem nots_serve : ∀ n, Serves 116 (notsP n) n := by
  intro n
  induction n with
  | zero => intro w b v T out h hn; omega
  | succ n ih =>
    have iho := hide (ors_of (rowP_takes (notsP_takes n)) (ands_of (notsP_takes n) ih))
    have ht := hide (notsP_takes n)
    have hto := hide (rowP_takes (word := orW) (kind := 1) (rowP_takes (word := andW) (kind := 2) (notsP_takes n)))
    replace ih := hide ih
    intro w b v T out h hn hl hA hgb
    have HA := hide hA
    have hlt := h.lt
    clear hA
    replace h := hide h
    go_enter Tryz.func116, Tryz.ntmps116
    go_wp2_with fail
    refine (is_any _ b v T out true 1 ⟨#[110, 111, 116]⟩ h.out).mono ?_
    rintro e w1 ⟨rfl, hP1, hb1, -⟩
    rw [show (ByteArray.mk #[110, 111, 116]).data.toList = notW from rfl] at hP1 ⊢
    have hA1 := hide (asp_below HA.out hb1 hgb)
    clear h HA
    by_cases c1 : atW T 1 notW = true
    · have hsp := hide (notsP_not (n := n) c1)
      rw [c1] at hP1 ⊢
      rw [if_pos rfl] at hP1
      obtain ⟨t, r, rfl, -⟩ := atW_cons c1
      rw [List.tail_cons] at hP1 hsp
      rw [List.length_cons] at hn hl
      replace hP1 := hide hP1
      clear c1
      go_wp2_with fail
      refine (ih.out w1 b v r out hP1.out (by omega) (by omega) hA1.out hgb).mono ?_
      intro e w2 h2
      unfold NRet at h2
      cases hres : notsP n r with
      | none =>
        rw [hres] at h2
        obtain ⟨r2, v2, T2, out2, rfl, hP2, l1, l2, hb2⟩ := h2
        have hno : Hid (notsP (n + 1) (t :: r) = none) := by rw [Hid, hsp.out, hres]
        have hbw := hb1.trans hb2
        replace hP2 := hide hP2
        clear hres hsp hP1 hb1 hb2 hA1
        go_wp2_with fail
        refine (put_any _ b v2 T2 out2 false ⟨3, 0, r2, -1, 0, [], false⟩ hP2.out (by omega)).mono ?_
        rintro e w3 ⟨rfl, ⟨v3, hP3⟩, hb3⟩
        have hbw3 := hbw.trans hb3
        replace hP3 := hide hP3
        clear hb3 hbw hP2
        go_wp2_with fail
        go_ret
        exact NRet.no hno.out hP3.out (by simp; omega) (by simp; omega) hbw3
      | some x =>
        obtain ⟨q, T2⟩ := x
        rw [hres] at h2
        obtain ⟨rfl, ⟨v2, hP2⟩, hb2⟩ := h2
        have htk := ht.out _ _ _ hres
        have hyes : Hid (notsP (n + 1) (t :: r) = some (.neg q, T2)) := by rw [Hid, hsp.out, hres]
        have hbw := hb1.trans hb2
        have hlen : Hid ((out ++ q.parts out.length).length = out.length + q.size) := by rw [Hid, List.length_append, Q.parts_len]
        have hparts : Hid (out ++ q.parts out.length ++ [⟨3, 0, (out.length : Int) + (q.size : Int) - 1, -1, 0, [], false⟩] = out ++ (Q.neg q).parts out.length) := by
          show _ = _
          rw [Q.parts, List.append_assoc]
        replace hP2 := hide hP2
        clear hres hsp hP1 hb1 hb2 hA1
        go_wp2_with fail
        refine (put_any _ b v2 T2 _ true ⟨3, 0, _, -1, 0, [], false⟩ hP2.out (by rw [hlen.out]; omega)).mono ?_
        rintro e w3 ⟨rfl, ⟨v3, hP3⟩, hb3⟩
        have hbw3 := hbw.trans hb3
        rw [hparts.out] at hP3
        rw [hlen.out]
        replace hP3 := hide hP3
        clear hb3 hbw hP2 hlen hparts
        go_wp2_with fail
        go_ret
        exact NRet.yes hyes.out (by simp [Q.size]; omega) hP3.out hbw3
    · rw [Bool.not_eq_true] at c1
      rw [c1] at hP1 ⊢
      rw [if_neg (by simp)] at hP1
      replace hP1 := hide hP1
      go_wp2_with fail
      refine (is_any _ b v T out true 4 ⟨#[40]⟩ hP1.out).mono ?_
      rintro e w2 ⟨rfl, hP2, hb2, -⟩
      rw [show (ByteArray.mk #[40]).data.toList = lpW from rfl] at hP2 ⊢
      have hbw2 := hb1.trans hb2
      have hA2 := hide (asp_below hA1.out hb2 hgb)
      clear hP1 hb1 hb2 hA1
      by_cases c2 : atW T 4 lpW = true
      · have hsp := hide (notsP_par (n := n) c1 c2)
        rw [c2] at hP2 ⊢
        rw [if_pos rfl] at hP2
        obtain ⟨t, r, rfl, -⟩ := atW_cons c2
        rw [List.tail_cons] at hP2 hsp
        rw [List.length_cons] at hn hl
        replace hP2 := hide hP2
        clear c1 c2
        go_wp2_with fail
        refine (iho.out w2 b v r out hP2.out (by omega) (by omega) hA2.out hgb).mono ?_
        intro e w3 h3
        unfold NRet at h3
        cases hres : rowP orW 1 (rowP andW 2 (notsP n)) r with
        | none =>
          rw [hres] at h3
          obtain ⟨r2, v3, T3, out3, rfl, hP3, l1, l2, hb3⟩ := h3
          have hno : Hid (notsP (n + 1) (t :: r) = none) := by rw [Hid, hsp.out, hres]
          have hbw3 := hbw2.trans hb3
          obtain ⟨qw, fw⟩ := hP3.well_
          replace hP3 := hide hP3
          clear hres hsp hP2 hb3 hbw2 hA2
          go_wp2_with fail
          go_ret
          exact NRet.no hno.out (hP3.out.mark _) (by simp; omega) (by simp; omega) (below_set hbw3 (Nat.le_refl _) _)
        | some x =>
          obtain ⟨q, T3⟩ := x
          rw [hres] at h3
          obtain ⟨rfl, ⟨v3, hP3⟩, hb3⟩ := h3
          have htk := hto.out _ _ _ hres
          have hbw3 := hbw2.trans hb3
          have hlen : Hid ((out ++ q.parts out.length).length = out.length + q.size) := by rw [Hid, List.length_append, Q.parts_len]
          rw [hres] at hsp
          obtain ⟨qw, fw⟩ := hP3.well_
          replace hP3 := hide hP3
          clear hres hP2 hb3 hbw2 hA2 fw
          go_wp2_with fail
          refine (is_any _ b v3 T3 _ true 4 ⟨#[41]⟩ hP3.out).mono ?_
          rintro e w4 ⟨rfl, hP4, hb4, -⟩
          rw [show (ByteArray.mk #[41]).data.toList = rpW from rfl] at hP4 ⊢
          have hbw4 := hbw3.trans hb4
          clear hP3 hbw3 hb4 qw
          by_cases c3 : atW T3 4 rpW = true
          · have hyes : Hid (notsP (n + 1) (t :: r) = some (q, T3.tail)) := by rw [Hid, hsp.out]; simp only [c3, if_true]
            rw [c3] at hP4 ⊢
            rw [if_pos rfl] at hP4
            obtain ⟨qw, fw⟩ := hP4.well_
            replace hP4 := hide hP4
            clear hsp c3
            go_wp2_with fail
            go_ret
            exact NRet.yes hyes.out rfl (hP4.out.mark _) (below_set hbw4 (Nat.le_refl _) _)
          · rw [Bool.not_eq_true] at c3
            have hno : Hid (notsP (n + 1) (t :: r) = none) := by rw [Hid, hsp.out]; simp [c3]
            rw [c3] at hP4 ⊢
            rw [if_neg (by simp)] at hP4
            obtain ⟨qw, fw⟩ := hP4.well_
            replace hP4 := hide hP4
            clear hsp c3
            go_wp2_with fail
            go_ret
            exact NRet.no hno.out (hP4.out.mark _) (by simp; omega) (by rw [hlen.out]; simp; omega) (below_set hbw4 (Nat.le_refl _) _)
      · rw [Bool.not_eq_true] at c2
        have hsp := hide (notsP_term (n := n) c1 c2)
        rw [c2] at hP2 ⊢
        rw [if_neg (by simp)] at hP2
        replace hP2 := hide hP2
        clear c1 c2
        go_wp2_with fail
        refine (term_any _ b v T out hP2.out (by omega) hA2.out hgb).mono ?_
        rintro e w3 ⟨rfl, ⟨v3, hP3⟩, hb3⟩
        have hbw3 := hbw2.trans hb3
        have hR := R1_len T
        replace hP3 := hide hP3
        clear hP2 hbw2 hb3 hA2
        go_wp2_with fail
        go_ret
        by_cases c3 : wellF T = true
        · have hyes : notsP (n + 1) T = some (.term (askF T), (R1 T).tail) := by rw [hsp.out, if_pos c3]
          have hP4 := hP3.out
          rw [c3] at hP4
          exact NRet.yes hyes (by simp [Q.size]) hP4 hbw3
        · have hno : notsP (n + 1) T = none := by rw [hsp.out, if_neg c3]
          have hP4 := hP3.out
          rw [Bool.not_eq_true] at c3
          rw [c3] at hP4
          exact NRet.no hno hP4 (by simp; omega) (by simp; omega) hbw3
theorem ors_serve (n : Nat) : Serves 55 (orsP n) n := ors_of (rowP_takes (notsP_takes n)) (ands_of (notsP_takes n) (nots_serve n))
end Go.Proofs.YtnhcamkccnaeeaaGreatDoor
