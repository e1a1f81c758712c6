/-
  Contract of the parser's method term.
-/
import Derived.Test.YtnhcamkccnaeeaaGreatDoorParC
import Derived.BigRegion
namespace Go.Proofs.YtnhcamkccnaeeaaGreatDoor
open Go.RowKit
set_option linter.unusedVariables false

def tok0 : Tok := ⟨0, [], 0, 0⟩
def hd0 (T : List Tok) : Tok := T.headD tok0
def hdK (T : List Tok) : Int := if (hd0 T).kind = 1 then kindOf (hd0 T).text else 0
def K1 (T : List Tok) : Int := if atW T 1 hasW = true then 9 else hdK T
def O1 (T : List Tok) : Int := if atW T 1 hasW = true then 1 else opOf (hd0 T.tail)
def R1 (T : List Tok) : List Tok := if atW T 1 hasW = true then T.tail else T.tail.tail
def ok1 (T : List Tok) : Bool := if atW T 1 hasW = true then true else !T.isEmpty && !T.tail.isEmpty
def askF (T : List Tok) : Ask := ⟨K1 T, O1 T, -1, -1, (hd0 (R1 T)).n, (hd0 (R1 T)).text, decide ((hd0 (R1 T)).kind = 3)⟩
def wellF (T : List Tok) : Bool := ok1 T && !(R1 T).isEmpty && decide (K1 T ≠ 0) && decide (O1 T ≠ 0) && (decide ((hd0 (R1 T)).kind = 3) || (decide ((hd0 (R1 T)).kind = 2) && decide (K1 T ≠ 9)))
theorem kindOf_9 (t : List UInt8) : kindOf t ≠ 9 := by
  unfold kindOf
  repeat' split
  all_goals decide
theorem termP_eq (T : List Tok) : termP T = if wellF T = true then some (askF T, (R1 T).tail) else none := by
  unfold termP wellF askF K1 O1 R1 ok1
  by_cases h : atW T 1 hasW = true
  · simp only [if_pos h]
    obtain ⟨t, r, rfl, _⟩ := atW_cons h
    cases r with
    | nil => simp
    | cons v r =>
      by_cases h3 : v.kind = 3
      · simp [hd0, h3]
      · simp [hd0, h3]
  · simp only [if_neg h]
    match T with
    | [] => simp
    | [t] => simp
    | [t, m] => simp
    | t :: m :: v :: r =>
      simp only [hdK, hd0, List.headD, List.tail]
      by_cases h1 : t.kind = 1
      · by_cases h3 : v.kind = 3
        · by_cases hk : kindOf t.text = 0 <;> by_cases ho : opOf m = 0 <;> simp [h1, h3, hk, ho]
        · by_cases h2 : v.kind = 2
          · have := kindOf_9 t.text
            by_cases hk : kindOf t.text = 0 <;> by_cases ho : opOf m = 0 <;> simp [h1, h2, hk, ho, this]
          · simp [h1, h3, h2]
      · simp [h1]

theorem next_any (w : World) (b : Nat) (v : Value) (T : List Tok) (out : List Ask) (well : Bool) (h : PSt w b v T out well) :
    Calls Tryz.prog 143 #[.pointer (some ⟨b, 0, none⟩)] w fun e w' => e = .returned (tokV (hd0 T)) ∧ PSt w' b v T.tail out (well && !T.isEmpty) ∧ Below b w w' ∧ w.grownBy w' (some b) := by
  cases T with
  | nil =>
    refine (next_nil w b v out well h).mono ?_
    rintro e w' ⟨rfl, h1, h2, h3⟩
    refine ⟨rfl, ?_, h2, h3⟩
    rw [show (well && !([] : List Tok).isEmpty) = false from by simp]
    exact h1
  | cons t r =>
    refine (next_cons w b v t r out well h).mono ?_
    rintro e w' ⟨rfl, h1, h2, h3⟩
    refine ⟨rfl, ?_, h2, h3⟩
    rw [show (well && !(t :: r).isEmpty) = well from by simp]
    exact h1
theorem PSt.map_ {w : World} {b : Nat} {v : Value} {T : List Tok} {out : List Ask} {well : Bool} (h : PSt w b v T out well) : ∃ km, w.cell? ⟨b, 2, none⟩ = some (.map (some km)) ∧ km < b ∧ KM w km := by
  obtain ⟨A, c, km, hB, hT, hc1, hc2, hO, hkm, hK, hx⟩ := h
  exact ⟨km, hB.cell 2, hkm, hK⟩
theorem PSt.well_ {w : World} {b : Nat} {v : Value} {T : List Tok} {out : List Ask} {well : Bool} (h : PSt w b v T out well) : w.cell? ⟨b, 3, none⟩ = some (.bool well) ∧ w.frozen? ⟨b, 3, none⟩ = false := by
  obtain ⟨A, c, km, hB, _⟩ := h
  exact ⟨hB.cell 3, hB.frozen 3⟩
theorem PSt.text_ {w : World} {b : Nat} {v : Value} {T : List Tok} {out : List Ask} {well : Bool} (h : PSt w b v T out well) : (str (hd0 T).text).size ≤ maxLen := by
  obtain ⟨A, c, km, hB, hT, hc1, hc2, hO, hkm, hK, hx⟩ := h
  rw [str_size]
  cases T with
  | nil => simp [hd0, tok0]
  | cons t r => have := hx t List.mem_cons_self; unfold maxLen; show t.text.length ≤ _; omega

set_option maxRecDepth 100000 in
set_option maxHeartbeats 2000000 in
theorem term_any (w : World) (b : Nat) (v : Value) (T : List Tok) (out : List Ask) (h : PSt w b v T out true) (hl : out.length ≤ 100000) (hA : Asp w) (hgb : 4 < b) :
    Calls Tryz.prog 132 #[.pointer (some ⟨b, 0, none⟩)] w fun e w' => e = .returned (.int .i64 (out.length : Int)) ∧ (∃ v', PSt w' b v' (R1 T).tail (out ++ [askF T]) (wellF T)) ∧ Below b w w' := by
  have hlt := h.lt
  have hvo : v.ownBlock ≠ some w.heap.size := fun e => by have := h.own_lt _ e; omega
  go_enter Tryz.func132, Tryz.ntmps132
  go_wp2_with fail
  have hP := hide (h.newer ((Below.refl _ _).alloc (Nat.le_refl _) (.cells #[.int .i64 0, .int .i64 0, .int .i64 (-1), .int .i64 (-1), .int .i64 0, .string ⟨#[]⟩, .bool false] 54)))
  refine (is_any _ b v T out true 1 ⟨#[104, 97, 115]⟩ hP.out).mono ?_
  rintro e w1 ⟨rfl, hP1, hb1, hg1⟩
  rw [show (ByteArray.mk #[104, 97, 115]).data.toList = hasW from rfl] at hP1 ⊢
  have hB1 := hide ((Blk.new w 54 #[.int .i64 0, .int .i64 0, .int .i64 (-1), .int .i64 (-1), .int .i64 0, .string ⟨#[]⟩, .bool false]).grown hg1 (by simp; omega))
  have hbw1 := ((Below.refl b w).alloc (by omega) (.cells #[.int .i64 0, .int .i64 0, .int .i64 (-1), .int .i64 (-1), .int .i64 0, .string ⟨#[]⟩, .bool false] 54)).trans hb1
  have hA1 := hide hA
  replace hP1 := hide hP1
  clear hb1 hg1 hP h hA
  go_upto_if 8 with (fail)
  go_cut [4] (fun v4 wx => PSt wx b v (R1 T) out (ok1 T) ∧ Blk wx w.heap.size 54 #[.int .i64 (K1 T), .int .i64 (O1 T), .int .i64 (-1), .int .i64 (-1), .int .i64 0, .string ⟨#[]⟩, .bool false] ∧ Below b w wx)
  case first =>
    by_cases hh : atW T 1 hasW = true
    · rw [hh] at hP1 ⊢
      rw [if_pos rfl] at hP1
      have q0 := hB1.out.cell 0
      have q1 := hB1.out.cell 1
      have f0 := hB1.out.frozen 0
      have f1 := hB1.out.frozen 1
      have e1 : Hid (K1 T = 9 ∧ O1 T = 1 ∧ R1 T = T.tail ∧ ok1 T = true) := by simp [Hid, K1, O1, R1, ok1, hh]
      clear hh
      go_wp2_with fail
      go_meet
      obtain ⟨e1, e2, e3, e4⟩ := e1.out
      rw [e1, e2, e3, e4]
      exact ⟨(hP1.out.far hlt hvo _).far hlt hvo _, (hB1.out.set_ 0 (.int .i64 9)).set_ 1 (.int .i64 1), below_set (below_set hbw1 (by omega) _) (by omega) _⟩
    · rw [Bool.not_eq_true] at hh
      rw [hh] at hP1 ⊢
      rw [if_neg (by simp)] at hP1
      have e1 : Hid (K1 T = hdK T ∧ O1 T = opOf (hd0 T.tail) ∧ R1 T = T.tail.tail ∧ ok1 T = ((true && !T.isEmpty) && !T.tail.isEmpty)) := by simp [Hid, K1, O1, R1, ok1, hh]
      have htx := hide hP1.out.text_
      clear hh
      go_wp2_with fail
      refine (next_any _ b v T out true hP1.out).mono ?_
      rintro e w2 ⟨rfl, hP2, hb2, hg2⟩
      have hB2 := hide (hB1.out.grown hg2 (by simp; omega))
      have hbw2 := hbw1.trans hb2
      have hsz2 := hB2.out.lt
      have hK : Hid (hdK T = if (hd0 T).kind = 1 then kindOf (hd0 T).text else 0) := rfl
      clear hb2 hg2 hB1 hP1 hbw1
      generalize hd0 T = t at *
      have hlt2 : b < w2.heap.size := hP2.lt
      obtain ⟨km, ckm, hkm, hKM⟩ := hP2.map_
      have hlook := (hKM.keep (w' := (w2.alloc (.cells #[.int .i64 t.kind, .string (str t.text), .int .i64 t.n, .int .i64 (t.pos : Int)] 104)).drew) (Below.heap_alloc w2 _ km (by omega))).look (str t.text) htx.out
      rw [str_toList] at hlook
      replace hP2 := hide hP2
      have q0 := hB2.out.cell 0
      have f0 := hB2.out.frozen 0
      clear hKM
      unfold tokV
      go_wp2_with fail
      go_region
      go_upto_region 6 with (fail)
      obtain ⟨w3, hw3⟩ : ∃ x, x = (((w2.setCell ⟨w.heap.size, 0, none⟩ (.int .i64 (kindOf t.text))).alloc (.cells #[.int .i64 t.kind, .string (str t.text), .int .i64 t.n, .int .i64 (t.pos : Int)] 104)).drew) := ⟨_, rfl⟩
      rw [← hw3]
      have hP3 : Hid (PSt w3 b v T.tail out (true && !T.isEmpty)) := by
        rw [hw3]
        exact (hP2.out.far hlt hvo _).newer ((Below.refl _ _).alloc (Nat.le_refl _) _).drew
      have hB3 : Hid (Blk w3 w.heap.size 54 #[.int .i64 (kindOf t.text), .int .i64 0, .int .i64 (-1), .int .i64 (-1), .int .i64 0, .string ⟨#[]⟩, .bool false]) := by
        rw [hw3]
        exact ((hB2.out.set_ 0 _).alloc _).drew
      have hbw3 : Below b w w3 := by
        rw [hw3]
        exact ((below_set hbw2 (by omega) _).alloc (by simp; omega) _).drew
      have ct : w3.cell? ⟨w2.heap.size, 0, none⟩ = some (.int .i64 t.kind) := by
        rw [hw3]
        have := ((Blk.new (w2.setCell ⟨w.heap.size, 0, none⟩ (.int .i64 (kindOf t.text))) 104 #[.int .i64 t.kind, .string (str t.text), .int .i64 t.n, .int .i64 (t.pos : Int)]).drew).cell 0
        rw [show (w2.setCell ⟨w.heap.size, 0, none⟩ (.int .i64 (kindOf t.text))).heap.size = w2.heap.size from by simp] at this
        exact this
      clear hw3 hP2 hB2 hbw2 q0 f0 ckm hlook hlt2 hsz2
      have q0 := hB3.out.cell 0
      have f0 := hB3.out.frozen 0
      go_upto_if 23 with (fail)
      go_cut [4] (fun v4 wx => PSt wx b v T.tail out (true && !T.isEmpty) ∧ Blk wx w.heap.size 54 #[.int .i64 (hdK T), .int .i64 0, .int .i64 (-1), .int .i64 (-1), .int .i64 0, .string ⟨#[]⟩, .bool false] ∧ Below b w wx)
      case first =>
        by_cases ek : t.kind = 1
        · have n1 : (t.kind != 1) = false := by simp [ek]
          have hK2 : Hid (hdK T = kindOf t.text) := by rw [Hid, hK.out, if_pos ek]
          clear ek
          go_wp2_with fail
          go_meet
          rw [hK2.out]
          exact ⟨hP3.out, hB3.out, hbw3⟩
        · have n1 : (t.kind != 1) = true := by simp [ek]
          have hK2 : Hid (hdK T = 0) := by rw [Hid, hK.out, if_neg ek]
          clear ek
          go_wp2_with fail
          go_meet
          rw [hK2.out]
          exact ⟨hP3.out.far hlt hvo _, hB3.out.set_ 0 _, below_set hbw3 (by omega) _⟩
      case rest =>
        obtain ⟨hP4, hB4, hbw4⟩ := hcut
        clear hP3 hB3 hbw3 q0 f0 ct hK htx
        go_wp2_with fail
        refine (next_any _ b v T.tail out _ hP4).mono ?_
        rintro e w5 ⟨rfl, hP5, hb5, hg5⟩
        have hB5 := hide (hB4.grown hg5 (by simp; omega))
        have hbw5 := hbw4.trans hb5
        have hA5 := asp_below hA1.out hbw5 hgb
        replace hP5 := hide hP5
        clear hP4 hB4 hbw4 hb5 hg5
        generalize hd0 T.tail = t2 at *
        go_wp2_with fail
        refine (op_any _ t2 hA5).mono ?_
        rintro e w6 ⟨rfl, hb6⟩
        have hP6 := hide (hP5.out.newer hb6)
        have hB6 := hide (hB5.out.below hb6 hB5.out.lt)
        have hbw6 := hbw5.trans (hb6.mono (by have := hP5.out.lt; omega))
        clear hP5 hB5 hbw5 hb6 hA5
        have q1 := hB6.out.cell 1
        have f1 := hB6.out.frozen 1
        go_wp2_with fail
        go_meet
        obtain ⟨e2, e3, e4, e5⟩ := e1.out
        rw [e2, e3, e4, e5]
        exact ⟨hP6.out.far hlt hvo _, hB6.out.set_ 1 _, below_set hbw6 (by omega) _⟩
  case rest =>
    obtain ⟨hP2, hB2, hbw2⟩ := hcut
    clear hP1 hB1 hbw1 hA1
    have e1 : Hid (wellF T = (((ok1 T && !(R1 T).isEmpty) && decide (K1 T ≠ 0)) && decide (O1 T ≠ 0) && (decide ((hd0 (R1 T)).kind = 3) || (decide ((hd0 (R1 T)).kind = 2) && decide (K1 T ≠ 9))))) := rfl
    have e2 : Hid (askF T = ⟨K1 T, O1 T, -1, -1, (hd0 (R1 T)).n, (hd0 (R1 T)).text, decide ((hd0 (R1 T)).kind = 3)⟩) := rfl
    go_wp2_with fail
    refine (next_any _ b v (R1 T) out _ hP2).mono ?_
    rintro e w3 ⟨rfl, hP3, hb3, hg3⟩
    have hB3 := hide (hB2.grown hg3 (by simp; omega))
    have hbw3 := hbw2.trans hb3
    have hsz3 := hB3.out.lt
    have hlt3 := hP3.lt
    replace hP3 := hide hP3
    clear hP2 hB2 hbw2 hb3 hg3
    generalize hd0 (R1 T) = t at *
    generalize K1 T = kk at *
    generalize O1 T = oo at *
    generalize (ok1 T && !(R1 T).isEmpty) = ww at *
    have f4 := hB3.out.frozen 4
    have f5 := hB3.out.frozen 5
    have f6 := hB3.out.frozen 6
    have q4 := hB3.out.cell 4
    have q5 := hB3.out.cell 5
    have q6 := hB3.out.cell 6
    unfold tokV
    go_wp2_with fail
    go_region
    go_upto_region 11 with (fail)
    obtain ⟨w4, hw4⟩ : ∃ x, x = (((((w3.setCell ⟨w.heap.size, 4, none⟩ (.int .i64 t.n)).setCell ⟨w.heap.size, 5, none⟩ (.string (str t.text))).setCell ⟨w.heap.size, 6, none⟩ (.bool (t.kind == 3))).alloc (.cells #[.int .i64 t.kind, .string (str t.text), .int .i64 t.n, .int .i64 (t.pos : Int)] 104)).drew) := ⟨_, rfl⟩
    rw [← hw4]
    have hP4 : Hid (PSt w4 b v (R1 T).tail out ww) := by
      rw [hw4]
      exact (((hP3.out.far hlt hvo _).far hlt hvo _).far hlt hvo _).newer ((Below.refl _ _).alloc (Nat.le_refl _) _).drew
    have hB4 : Hid (Blk w4 w.heap.size 54 #[.int .i64 kk, .int .i64 oo, .int .i64 (-1), .int .i64 (-1), .int .i64 t.n, .string (str t.text), .bool (t.kind == 3)]) := by
      rw [hw4]
      exact ((((hB3.out.set_ 4 _).set_ 5 _).set_ 6 _).alloc _).drew
    have hbw4 : Below b w w4 := by
      rw [hw4]
      exact ((below_set (below_set (below_set hbw3 (by omega) _) (by omega) _) (by omega) _).alloc (by simp; omega) _).drew
    have ct : w4.cell? ⟨w3.heap.size, 0, none⟩ = some (.int .i64 t.kind) := by
      rw [hw4]
      have := ((Blk.new (((w3.setCell ⟨w.heap.size, 4, none⟩ (.int .i64 t.n)).setCell ⟨w.heap.size, 5, none⟩ (.string (str t.text))).setCell ⟨w.heap.size, 6, none⟩ (.bool (t.kind == 3))) 104 #[.int .i64 t.kind, .string (str t.text), .int .i64 t.n, .int .i64 (t.pos : Int)]).drew).cell 0
      rw [show (((w3.setCell ⟨w.heap.size, 4, none⟩ (.int .i64 t.n)).setCell ⟨w.heap.size, 5, none⟩ (.string (str t.text))).setCell ⟨w.heap.size, 6, none⟩ (.bool (t.kind == 3))).heap.size = w3.heap.size from by simp] at this
      exact this
    clear hw4 hP3 hB3 hbw3 q4 q5 q6 f4 f5 f6 hsz3 hlt3
    obtain ⟨qw, fw⟩ := hP4.out.well_
    have q0 := hB4.out.cell 0
    have q1 := hB4.out.cell 1
    have q6 := hB4.out.cell 6
    go_cut [41] (fun v4 wx => PSt wx b v (R1 T).tail out (wellF T) ∧ Blk wx w.heap.size 54 #[.int .i64 kk, .int .i64 oo, .int .i64 (-1), .int .i64 (-1), .int .i64 t.n, .string (str t.text), .bool (t.kind == 3)] ∧ Below b w wx)
    case first =>
      cases ww with
      | false =>
        have hw : Hid (wellF T = false) := by rw [Hid, e1.out]; simp
        clear e1 e2
        go_wp2_with fail
        go_meet
        rw [hw.out]
        exact ⟨hP4.out.mark _, hB4.out.far (by simp; omega) _, below_set hbw4 (Nat.le_refl _) _⟩
      | true =>
        by_cases ck : kk = 0
        · have n1 : (kk != 0) = false := by simp [ck]
          have hw : Hid (wellF T = false) := by rw [Hid, e1.out]; simp [ck]
          clear e1 e2 ck
          go_wp2_with fail
          go_meet
          rw [hw.out]
          exact ⟨hP4.out.mark _, hB4.out.far (by simp; omega) _, below_set hbw4 (Nat.le_refl _) _⟩
        · have n1 : (kk != 0) = true := by simp [ck]
          by_cases co : oo = 0
          · have n2 : (oo != 0) = false := by simp [co]
            have hw : Hid (wellF T = false) := by rw [Hid, e1.out]; simp [co]
            clear e1 e2 ck co
            go_wp2_with fail
            go_meet
            rw [hw.out]
            exact ⟨hP4.out.mark _, hB4.out.far (by simp; omega) _, below_set hbw4 (Nat.le_refl _) _⟩
          · have n2 : (oo != 0) = true := by simp [co]
            by_cases c3 : t.kind = 3
            · have n3 : (t.kind == 3) = true := by simp [c3]
              have hw : Hid (wellF T = true) := by rw [Hid, e1.out]; simp [ck, co, c3]
              clear e1 e2 ck co c3
              go_wp2_with fail
              go_meet
              rw [hw.out]
              exact ⟨hP4.out.mark _, hB4.out.far (by simp; omega) _, below_set hbw4 (Nat.le_refl _) _⟩
            · have n3 : (t.kind == 3) = false := by simp [c3]
              by_cases c2 : t.kind = 2
              · have n4 : (t.kind == 2) = true := by simp [c2]
                by_cases c9 : kk = 9
                · have n5 : (kk != 9) = false := by simp [c9]
                  have hw : Hid (wellF T = false) := by rw [Hid, e1.out]; simp [c3, c9]
                  clear e1 e2 ck co c3 c2 c9
                  go_wp2_with fail
                  go_meet
                  rw [hw.out]
                  exact ⟨hP4.out.mark _, hB4.out.far (by simp; omega) _, below_set hbw4 (Nat.le_refl _) _⟩
                · have n5 : (kk != 9) = true := by simp [c9]
                  have hw : Hid (wellF T = true) := by rw [Hid, e1.out]; simp [ck, co, c2, c9]
                  clear e1 e2 ck co c3 c2 c9
                  go_wp2_with fail
                  go_meet
                  rw [hw.out]
                  exact ⟨hP4.out.mark _, hB4.out.far (by simp; omega) _, below_set hbw4 (Nat.le_refl _) _⟩
              · have n4 : (t.kind == 2) = false := by simp [c2]
                have hw : Hid (wellF T = false) := by rw [Hid, e1.out]; simp [c3, c2]
                clear e1 e2 ck co c3 c2
                go_wp2_with fail
                go_meet
                rw [hw.out]
                exact ⟨hP4.out.mark _, hB4.out.far (by simp; omega) _, below_set hbw4 (Nat.le_refl _) _⟩
    case rest =>
      clear hP4 hB4 hbw4 ct qw fw q0 q1 q6 e1
      obtain ⟨hP5, hB5, hbw5⟩ := hcut
      have q0 := hB5.cell 0
      have q1 := hB5.cell 1
      have q2 := hB5.cell 2
      have q3 := hB5.cell 3
      have q4 := hB5.cell 4
      have q5 := hB5.cell 5
      have q6 := hB5.cell 6
      have ha : Hid (askF T = ⟨kk, oo, -1, -1, t.n, t.text, t.kind == 3⟩) := e2.out
      replace hP5 := hide hP5
      clear e2 hB5
      go_wp2_with fail
      refine (put_any _ b v (R1 T).tail out (wellF T) ⟨kk, oo, -1, -1, t.n, t.text, t.kind == 3⟩ hP5.out hl).mono ?_
      rintro e w6 ⟨rfl, hP6, hb6⟩
      rw [← ha.out] at hP6
      have hbw6 := hbw5.trans hb6
      replace hP6 := hide hP6
      clear hb6 q0 q1 q2 q3 q4 q5 q6
      go_wp2_with fail
      go_ret
      exact ⟨rfl, hP6.out, hbw6⟩
end Go.Proofs.YtnhcamkccnaeeaaGreatDoor
