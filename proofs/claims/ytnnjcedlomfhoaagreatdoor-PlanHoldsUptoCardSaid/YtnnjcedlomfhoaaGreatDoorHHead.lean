/-
  Contracts of (*strings.Builder).WriteRune (at a builder that the call made) and (*glob.Glob).Head.
-/
import Derived.Test.YtnnjcedlomfhoaaGreatDoorHHoldP
import Derived.Test.YtnnjcedlomfhoaaGreatDoorHB
import Derived.Lib.RuneBytes
import Derived.Lib.FrozenHead2
namespace Go.Proofs.YtnnjcedlomfhoaaGreatDoor
open Go.RowKit
set_option linter.unusedVariables false
def headB : List Prt → List UInt8
  | .self c :: r => Lib.encodeRune c ++ headB r
  | _ => []
def headAll : List Prt → Bool
  | [] => true
  | .self _ :: r => headAll r
  | _ => false
/-- The call's own builder, its buffer's head frozen or not. -/
def BldF (B b : Nat) (l : List UInt8) (w : World) : Prop := Lib.IsBuilderF 152 5 B b (Lib.byteCells l) w
theorem copyF_any (B b : Nat) (l : List UInt8) (w : World) (h : BldF B b l w) :
    Calls Tryz.prog 93 #[.pointer (some ⟨b, 0, none⟩)] w fun e w' => e = .returned (.tuple #[]) ∧ (Lib.BuilderAtF 152 5 B b (.pointer (some ⟨b, 0, none⟩)) (Lib.byteCells l) w' ∧ Below B w w') := by
  rcases h with h | h
  · refine (copyCheck_fresh b w h.cell0 h.shape h.frozen0).mono ?_
    rintro e w' ⟨rfl, rfl⟩
    exact ⟨rfl, h.used _, (Below.refl B w).setCell (p := ⟨b, 0, none⟩) h.1 _⟩
  · refine (copyCheck_used b w h.cell0).mono ?_
    rintro e w' ⟨rfl, rfl⟩
    exact ⟨rfl, h, Below.refl B _⟩
theorem cells_enc (l : List UInt8) (r : Int) : Lib.byteCells (l ++ Lib.encodeRune r) = Lib.byteCells l ++ Lib.runeCells r := by
  rw [← Lib.byteCells_encodeRune]
  simp [Lib.byteCells]
theorem enc_len (r : Int) : 1 ≤ (Lib.encodeRune r).length ∧ (Lib.encodeRune r).length ≤ 4 := by
  rw [← Lib.runeCells_length]
  exact Lib.runeCells_le r
set_option maxRecDepth 100000 in
set_option maxHeartbeats 4000000 in
theorem writeRune_any (B b : Nat) (l : List UInt8) (r : Int) (hr0 : -2147483648 ≤ r) (hr1 : r ≤ 2147483647) (w : World) (h : BldF B b l w) (hlen : l.length ≤ 1000000) (hBw : B ≤ w.heap.size) :
    Calls Tryz.prog 81 #[.pointer (some ⟨b, 0, none⟩), .int .i32 r] w fun e w' => (∃ n, e = .returned (.tuple #[.int .i64 n, .nilIface])) ∧ BldF B b (l ++ Lib.encodeRune r) w' ∧ Below B w w' := by
  have HH := hide (copyF_any B b l w h)
  clear h
  go_enter Tryz.func81, Tryz.ntmps81
  go_wp2_with fail
  refine HH.out.mono ?_
  rintro e w1 ⟨rfl, h1, hb1⟩
  obtain ⟨hB, v, hbk, hown, hne⟩ := h1
  obtain ⟨bs, hbs⟩ : ∃ bs, bs = Lib.byteCells l := ⟨_, rfl⟩
  have hbl : bs.length = l.length := by rw [hbs]; simp [Lib.byteCells]
  have hce : Hid (Lib.byteCells (l ++ Lib.encodeRune r) = bs ++ Lib.runeCells r) := by rw [Hid, cells_enc, hbs]
  have hk4 := Lib.runeCells_le r
  rw [← hbs] at hown
  have hbm : bs.length ≤ 1000000 := by omega
  clear hbs HH hbl
  obtain ⟨ao, cap, rfl⟩ : ∃ ao cap, v = .slice ao bs.length cap := by
    rcases hown.2 with ⟨hv, h0⟩ | ⟨g, cap, cur, fz, hv, _⟩
    · exact ⟨none, 0, by rw [hv, h0]⟩
    · exact ⟨_, _, hv⟩
  have c0 : w1.cell? ⟨b, 0, none⟩ = some (.pointer (some ⟨b, 0, none⟩)) := by rw [Lib.cell_of_heap hbk]; rfl
  have c1 : w1.cell? ⟨b, 1, none⟩ = some (.slice ao bs.length cap) := by rw [Lib.cell_of_heap hbk]; rfl
  have hsz1 := hb1.size
  have hlt : b < w1.heap.size := by
    rcases Nat.lt_or_ge b w1.heap.size with h' | h'
    · exact h'
    · simp [Array.getElem?_eq_none h'] at hbk
  have hAp := hide (Tryz.utf8_AppendRune_row B _ bs.length bs r hr0 hr1 w1 hown (by omega) (by omega))
  replace hbk := hide hbk
  replace hown := hide hown
  replace hne := hide hne
  go_wp2_with fail
  refine hAp.out.mono ?_
  rintro e w2 ⟨v', rfl, hown', o, hgrow⟩
  have hb2 : w2.heap[b]? = some (.cells #[.pointer (some ⟨b, 0, none⟩), .slice ao bs.length cap] 152 (0, 0)) := by
    rw [hgrow.block b (by simp; omega) (fun e => hne.out e.symm), Lib.alloc_old w1 _ b hlt]
    exact hbk.out
  have d0 : w2.cell? ⟨b, 0, none⟩ = some (.pointer (some ⟨b, 0, none⟩)) := by rw [Lib.cell_of_heap hb2]; rfl
  have d1 : w2.cell? ⟨b, 1, none⟩ = some (.slice ao bs.length cap) := by rw [Lib.cell_of_heap hb2]; rfl
  have f1 : w2.frozen? ⟨b, 1, none⟩ = false := Lib.frozen_of_heap hb2 1
  obtain ⟨g, cap', rfl⟩ : ∃ g cap', v' = .slice (some ⟨g, 0, none⟩) (bs.length + (Lib.runeCells r).length) cap' := by
    rcases hown'.2 with ⟨_, h0⟩ | ⟨g, cap', cur, fz, hv, _⟩
    · omega
    · exact ⟨g, cap', hv⟩
  have hbF := hide (((hb1.alloc (by have := hb1.size; omega) o).grown hgrow (by have := hb1.size; simp; omega) (fun k hk => (hown.out.lt k hk).1)).setCell (p := ⟨b, 1, none⟩) hB (.slice (some ⟨g, 0, none⟩) (bs.length + (Lib.runeCells r).length) cap'))
  have hput := hide (Lib.BuilderAtF.put (T := 152) (e := 5) hB hb2 (bs' := bs ++ Lib.runeCells r) (by simpa using hown') (by decide))
  clear hAp hgrow hown' c0 c1 hb1 hsz1
  replace hb2 := hide hb2
  go_wp2_with fail
  go_ret2
  refine ⟨⟨_, rfl⟩, ?_, hbF.out⟩
  rw [BldF, hce.out]
  exact Or.inr hput.out
theorem his_self (c : Int) (xT : TypeId) (w : World) : (Instr.typeAssert (.iface 153 (.int .i32 c)) xT 153 true).run Tryz.prog w = .ok (.tuple #[.int .i32 c, .bool true]) w := by
  first | kernel_rfl | simp [Instr.typeAssert, run_underlying Tryz.underlying153]
theorem his_one (x : Value) (xT : TypeId) (w : World) : (Instr.typeAssert (.iface 174 x) xT 153 true).run Tryz.prog w = .ok (.tuple #[.int .i32 0, .bool false]) w := by
  first | kernel_rfl | simp [Instr.typeAssert, run_underlying Tryz.underlying153]
theorem his_stars (x : Value) (xT : TypeId) (w : World) : (Instr.typeAssert (.iface 166 x) xT 153 true).run Tryz.prog w = .ok (.tuple #[.int .i32 0, .bool false]) w := by
  first | kernel_rfl | simp [Instr.typeAssert, run_underlying Tryz.underlying153]
theorem his_cls (x : Value) (xT : TypeId) (w : World) : (Instr.typeAssert (.iface 188 x) xT 153 true).run Tryz.prog w = .ok (.tuple #[.int .i32 0, .bool false]) w := by
  first | kernel_rfl | simp [Instr.typeAssert, run_underlying Tryz.underlying153]
theorem prt_self {w : World} {base : Nat} {v : Value} {p : Prt} (h : PrtV w base v p) : (∃ c, p = .self c ∧ v = .iface 153 (.int .i32 c)) ∨ ((∀ r, headB (p :: r) = [] ∧ headAll (p :: r) = false) ∧ ∃ t x, v = .iface t x ∧ (t = 174 ∨ t = 166 ∨ t = 188)) := by
  cases p with
  | self c => exact .inl ⟨c, rfl, h⟩
  | one => exact .inr ⟨fun r => ⟨rfl, rfl⟩, _, _, h, .inl rfl⟩
  | stars d => exact .inr ⟨fun r => ⟨rfl, rfl⟩, _, _, h, .inr (.inl rfl)⟩
  | cls no l =>
    obtain ⟨vf, vt, e, h1, h2⟩ := h
    exact .inr ⟨fun r => ⟨rfl, rfl⟩, _, _, e, .inr (.inr rfl)⟩
def HeadRet (w : World) (ps : List Prt) (e : Ending) (w' : World) : Prop := e = .returned (.tuple #[.string (str (headB ps)), .bool (headAll ps)]) ∧ Below w.heap.size w w'
set_option maxRecDepth 100000 in
set_option maxHeartbeats 4000000 in
theorem head_any (w : World) (g : Nat) (ps : List Prt) (h : GlobAt w g ps) (hps : ps.length ≤ 100) (hru : ∀ c, Prt.self c ∈ ps → -2147483648 ≤ c ∧ c ≤ 2147483647) :
    Calls Tryz.prog 58 #[.pointer (some ⟨g, 0, none⟩)] w (HeadRet w ps) := by
  obtain ⟨A, c, q0, hgl, hel⟩ := h.form
  have hlow : Hid (∀ wr, Below w.heap.size w wr → ∀ k (hk : k < ps.length), ∃ ad u, A = some ad ∧ ad.block < wr.heap.size ∧ wr.cell? (ad.add k) = some u ∧ PrtV wr g u ps[k]) := by
    intro wr hbr k hk
    obtain ⟨A', c', q0', -, hel'⟩ := (h.below hbr).form
    have e2 := (hbr.cell (p := ⟨g, 0, none⟩) hgl).trans q0
    rw [q0'] at e2
    have e4 : A' = A := by injection e2 with e2; injection e2
    subst e4
    exact hel' k hk
  obtain ⟨n, hn⟩ : ∃ n, n = ps.length := ⟨_, rfl⟩
  rw [← hn] at q0 hps
  have hb1 := (Below.refl w.heap.size w).alloc (Nat.le_refl _) (.cells #[.pointer none, .slice none 0 0] 152)
  have hF : BldF w.heap.size w.heap.size [] (w.alloc (.cells #[.pointer none, .slice none 0 0] 152)) := Lib.IsBuilderF.of (Bld.fresh w)
  have q1 := (hb1.cell (p := ⟨g, 0, none⟩) hgl).trans q0
  have hn0 : ps.drop 0 = ps := rfl
  replace hn := hide hn
  replace hru := hide hru
  have hb1' := hide hb1
  have hF' := hide hF
  clear h hel hF
  go_enter Tryz.func58, Tryz.ntmps58
  go_upto_region 4 with (fail)
  obtain ⟨w1, hw1⟩ : ∃ y, y = w.alloc (.cells #[.pointer none, .slice none 0 0] 152) := ⟨_, rfl⟩
  rw [← hw1] at q1 hb1' hF' ⊢
  have hsz1 : w.heap.size ≤ w1.heap.size := hb1'.out.size
  clear hb1 hw1
  go_wp2_with fail
  go_loopw [16] (fun v16 wr => ∃ (k : Nat) (acc : List UInt8), v16 = .int .i64 k ∧ k ≤ n ∧ BldF w.heap.size w.heap.size acc wr ∧ Below w.heap.size w wr ∧ acc.length ≤ 4 * k ∧ headB ps = acc ++ headB (ps.drop k) ∧ headAll ps = headAll (ps.drop k)) (fun v16 _ => n - (intOf v16).toNat)
  case atStart => exact ⟨0, [], rfl, by omega, hF'.out, hb1'.out, by simp, by simp, by simp⟩
  case round =>
    obtain ⟨k, acc, rfl, hk, hBk, hbl, hal, hh, ha⟩ := hrel
    clear hb1' hF'
    by_cases h3 : k < n
    · have hkl : k < ps.length := by have := hn.out; omega
      have h3' : (k : Int) < (n : Int) := by omega
      obtain ⟨ad, u, e, hab, hc, hp⟩ := hlow.out wr hbl k hkl
      subst e
      have hab2 : (ad.add k).block < wr.heap.size := by rw [addr_block]; exact hab
      rw [List.drop_eq_getElem_cons hkl] at hh ha
      have hmem : ps[k] ∈ ps := List.getElem_mem hkl
      generalize ps[k] = p at *
      rcases prt_self hp with ⟨x, rfl, rfl⟩ | ⟨hnil, t, x, rfl, ht⟩
      · have ta := his_self x
        obtain ⟨hx0, hx1⟩ := hru.out x hmem
        have hW := hide (fun wq (hq : BldF w.heap.size w.heap.size acc wq) (hs : w.heap.size ≤ wq.heap.size) => writeRune_any w.heap.size w.heap.size acc x hx0 hx1 wq hq (by omega) hs)
        replace hh := hide hh
        replace ha := hide ha
        clear hp hmem
        replace hBk := hide hBk
        go_wp2_with fail
        refine (hW.out _ hBk.out hbl.size).mono ?_
        rintro e w2 ⟨⟨m, rfl⟩, hB2, hb2⟩
        have hbl2 := hbl.trans hb2
        have el := enc_len x
        replace hB2 := hide hB2
        clear hW hBk
        go_wp2_with fail
        go_roundw
        case rel => exact ⟨k + 1, acc ++ Lib.encodeRune x, by go_num, by omega, hB2.out, hbl2, by rw [List.length_append]; omega, by rw [List.append_assoc]; exact hh.out, ha.out⟩
        case measure => simp [intOf]; omega
      · obtain ⟨e1, e2⟩ := hnil (ps.drop (k + 1))
        rw [e1, List.append_nil] at hh
        rw [e2] at ha
        replace hh := hide hh
        replace ha := hide ha
        have t1 := his_one x
        have t2 := his_stars x
        have t3 := his_cls x
        rcases ht with rfl | rfl | rfl
        all_goals
          clear hp hmem
          replace hBk := hide hBk
          go_wp2_with fail
          refine (Tryz.Builder_String_any_f _ _ acc wr hBk.out hbl.size).mono ?_
          rintro e w2 ⟨rfl, -, hb2⟩
          have hbl2 := hide (hbl.trans hb2)
          go_wp2_with fail
          go_ret2
          exact ⟨by rw [hh.out, ha.out]; rfl, hbl2.out⟩
    · have hkn : k = n := by omega
      have hd : ps.drop k = [] := List.drop_eq_nil_of_le (by have := hn.out; omega)
      rw [hd, show headB [] = [] from rfl, List.append_nil] at hh
      rw [hd, show headAll [] = true from rfl] at ha
      replace hh := hide hh
      replace ha := hide ha
      have h3' : ¬ (k : Int) < (n : Int) := by omega
      replace hBk := hide hBk
      clear hd hkn
      go_wp2_with fail
      refine (Tryz.Builder_String_any_f _ _ acc wr hBk.out hbl.size).mono ?_
      rintro e w2 ⟨rfl, -, hb2⟩
      have hbl2 := hide (hbl.trans hb2)
      go_wp2_with fail
      go_ret2
      exact ⟨by rw [hh.out, ha.out]; rfl, hbl2.out⟩
end Go.Proofs.YtnnjcedlomfhoaaGreatDoor
