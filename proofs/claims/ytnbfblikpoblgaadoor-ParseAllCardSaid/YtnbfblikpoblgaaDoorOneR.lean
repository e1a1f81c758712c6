/-
  Contract of parse.one: a question's text.
  Contract of parse.one: a question's text, by its tree.
-/
import Derived.Test.YtnbfblikpoblgaaDoorOneQ
import Derived.Test.YtnbfblikpoblgaaDoorQuote
import Derived.Test.YtnbfblikpoblgaaDoorParC
import Derived.Test.YtnbfblikpoblgaaDoorParH
import Derived.Test.YtnbfblikpoblgaaDoorShelf
import Derived.Lib.ItoaLen
import Derived.IntWalk
import Derived.Lib.AppendIntMem
import Derived.Deep.RegionHeld3
import Derived.Test.YtnbfblikpoblgaaDoorRpG
namespace Go.Proofs.YtnbfblikpoblgaaDoor
open Go.RowKit
set_option linter.unusedVariables false

/-- The library's table of powers is as its text lays it. -/
def Pow (w : World) : Prop := Lib.TabIs Tryd.prog w "internal/strconv.uint64pow10" .u64 Lib.pow10Tab
theorem pow_below {w w' : World} {b : Nat} (h : Pow w) (hb : Below b w w') (hg : 5 < b) : Pow w' := by
  have e : Tryd.prog.globalNamed "internal/strconv.uint64pow10" = some 5 := by kernel_rfl
  unfold Pow Lib.TabIs World.var? at h ⊢
  rw [e, Option.bind_some] at h ⊢
  rw [hb.block _ hg]
  exact h
/-- What a question's text wants of the world: the parts lie below B, the library's tables are there. -/
def OneW (m : Int) (A : Option Addr) (n : Nat) (l : List Ask) (B : Nat) (w : World) : Prop :=
  RA w B A n l ∧ B ≤ w.heap.size ∧ Asp w ∧ Pow w ∧ w.cell? ⟨2, 0, none⟩ = some (.int .i64 m) ∧ 0 < B ∧ 5 < B ∧ 2 < B
theorem OneW.below {m : Int} {A : Option Addr} {n : Nat} {l : List Ask} {B B' : Nat} {w w' : World} (h : OneW m A n l B w) (hb : Below B' w w') (hB : B ≤ B') : OneW m A n l B w' := by
  obtain ⟨h1, h2, h3, h4, h5, h6, h7, h8⟩ := h
  have hb' := hb.mono hB
  exact ⟨h1.below hb', Nat.le_trans h2 hb.size, asp_below h3 hb' h6, pow_below h4 hb' h7, (hb'.cell (p := ⟨2, 0, none⟩) h8).trans h5, h6, h7, h8⟩

theorem kindW_len (k : Int) : (kindW k).length ≤ 6 := by
  unfold kindW
  split
  · decide
  split
  · decide
  split
  · decide
  split
  · decide
  split
  · decide
  · decide
theorem opW_len (o : Int) : (opW o).length ≤ 2 := by
  unfold opW
  have : ∀ k : Nat, ((cmpL[k]?).getD []).length ≤ 2 := by
    intro k
    rcases Nat.lt_or_ge k 7 with h | h
    · have : ∀ k, k < 7 → ((cmpL[k]?).getD []).length ≤ 2 := by decide
      exact this k h
    · rw [List.getElem?_eq_none (by exact h)]; simp
  exact this _
/-- What strings.Fields hands back of the marks. -/
def FRet (w1 : World) (e : Ending) (w2 : World) : Prop :=
  e = .returned (.slice (some ⟨w1.heap.size, 0, none⟩) 7 7) ∧ Below w1.heap.size w1 w2 ∧ ∀ k, k < 7 → w2.cell? ⟨w1.heap.size, k, none⟩ = some (.string (str ((cmpL[k]?).getD [])))
theorem termT_len {a : Ask} (h : okA a) : (termT a).length ≤ 1000 := by
  have h1 := kindW_len a.kind
  have h2 := opW_len a.op
  have h3 : (if a.isText = true then quoteL a.text else Lib.itoa a.n).length ≤ 802 := by
    split
    · have := escL_len a.text
      have := h.2.2.2.2.2.2.2
      simp [quoteL]; omega
    · have := Lib.itoa_length_le a.n (by have := h.2.2.2.2.2.1; omega) (by have := h.2.2.2.2.2.2.1; omega)
      omega
  unfold termT
  rw [List.length_append, List.length_append, List.length_cons]
  split
  · rw [List.length_cons]; omega
  · rw [List.length_nil]; omega
theorem qTxt_len : ∀ {q : Q}, okQ q → (qTxt q).length ≤ 1000 * q.size
  | .term a, h => by have := termT_len (a := a) h; simp only [qTxt, Q.size]; omega
  | .neg q, h => by have := qTxt_len (q := q) h; simp only [qTxt, Q.size, List.length_append, List.length_cons, List.length_nil]; omega
  | .two k x y, h => by
    have := qTxt_len (q := x) h.2.1
    have := qTxt_len (q := y) h.2.2
    simp only [qTxt, Q.size, List.length_append, List.length_cons, List.length_nil]
    split <;> simp <;> omega

set_option maxRecDepth 100000 in
set_option maxHeartbeats 2000000 in
theorem one_term (m : Int) (A : Option Addr) (n c : Nat) (l : List Ask) (B k : Nat) (w : World) (h : OneW m A n l B w) (hn : n ≤ 100000) (hkn : k < n) (hkl : k < l.length) (ho : okA l[k]) :
    Calls Tryd.prog 47 #[.slice A n c, .int .i64 (k : Int)] w fun e w' => e = .returned (.string (str (termT l[k]))) ∧ Below w.heap.size w w' := by
  obtain ⟨ad, rfl, hab, c0, c1, c2, c3, c4, c5, c6⟩ := (h.1.more h.2.1).elem hkn hkl
  replace h := hide h
  obtain ⟨x, hx⟩ : ∃ x, x = l[k] := ⟨_, rfl⟩
  rw [← hx] at ho c0 c1 c2 c3 c4 c5 c6 ⊢
  obtain ⟨h1, h2, h3, h4, h5, h6, h7, h8⟩ := ho
  clear hx
  rw [h2] at c2
  rw [h3] at c3
  have n1 : (x.kind == 1) = false := by rw [beq_eq_false_iff_ne]; omega
  have n2 : (x.kind == 2) = false := by rw [beq_eq_false_iff_ne]; omega
  have n3 : (x.kind == 3) = false := by rw [beq_eq_false_iff_ne]; omega
  replace h1 := hide h1
  replace h4 := hide h4
  replace h5 := hide h5
  clear h2 h3
  go_enter Tryd.func47, Tryd.ntmps47
  go_wp2_with fail
  refine (word_any x.kind _).mono ?_
  rintro e w1 ⟨rfl, hb1⟩
  have hX := hide (Blk.below (Blk.new w 52 #[.int .i64 x.kind, .int .i64 x.op, .int .i64 (-1), .int .i64 (-1), .int .i64 x.n, .string (str x.text), .bool x.isText]) hb1 (by simp))
  have hw1 := hide (h.out.below (((Below.refl _ _).alloc (Nat.le_refl _) _).trans (hb1.mono (by simp))) h.out.2.1)
  have hb1' : Below w.heap.size w w1 := ((Below.refl _ _).alloc (Nat.le_refl _) _).trans (hb1.mono (by simp))
  have hs1 : w.heap.size < w1.heap.size := by have := hb1.size; simp at this; omega
  clear h hb1 c0 c1 c2 c3 c4 c5 c6 hab
  have hkl6 := kindW_len x.kind
  obtain ⟨sk, hsk⟩ : ∃ s, s = str (kindW x.kind) := ⟨_, rfl⟩
  have hskz : sk.size ≤ 6 := by rw [hsk, str_size]; exact hkl6
  rw [← hsk]
  replace hsk := hide hsk
  have x0 := hX.out.cell 0
  have x1 := hX.out.cell 1
  have x4 := hX.out.cell 4
  have x5 := hX.out.cell 5
  have x6 := hX.out.cell 6
  by_cases h9 : x.kind = 9
  · have n4 : (x.kind != 9) = false := by simp [h9]
    have ht : x.isText = true := by
      rcases h1.out with h | h
      · exact h.2.2
      · omega
    have hfin : Hid (termT x = kindW x.kind ++ 32 :: quoteL x.text) := by
      rw [Hid, termT, if_neg (by omega), if_pos ht]; rfl
    rw [ht] at x6
    clear h9 h1 ht
    go_wp2_with fail
    refine (quote_any (str x.text) m w1 (by rw [str_size]; omega) (by have := hw1.out.2.2.2.2.2.2.2; have := hw1.out.2.1; omega) hw1.out.2.2.2.2.1).mono ?_
    rintro e w2 ⟨rfl, hb2⟩
    rw [str_toList, show (34 :: (escL x.text ++ [34])) = quoteL x.text from rfl]
    have hqz : (str (quoteL x.text)).size ≤ 1000 := by
      rw [str_size]; have := escL_len x.text; simp [quoteL]; omega
    obtain ⟨sq, hsq⟩ : ∃ s, s = str (quoteL x.text) := ⟨_, rfl⟩
    rw [← hsq] at hqz ⊢
    replace hsq := hide hsq
    go_wp2_with fail
    go_ret
    refine ⟨?_, hb1'.trans (hb2.mono (by omega))⟩
    show Ending.returned (.string (sk ++ ⟨#[32]⟩ ++ sq)) = _
    rw [hfin.out, hsk.out, hsq.out, show ByteArray.mk #[32] = str [32] from rfl, str_append, str_append, List.append_assoc]; rfl
  · have hk : 4 ≤ x.kind ∧ x.kind ≤ 8 ∧ 1 ≤ x.op ∧ x.op ≤ 7 := by
      rcases h1.out with h | h
      · exact absurd h.1 h9
      · exact h
    obtain ⟨-, -, ho1, ho7⟩ := hk
    have n4 : (x.kind != 9) = true := by simp [h9]
    have hfin : Hid (termT x = kindW x.kind ++ ((32 :: opW x.op) ++ 32 :: (if x.isText = true then quoteL x.text else Lib.itoa x.n))) := by
      rw [Hid, termT, if_pos ⟨h9, ho1, ho7⟩]
    clear h9 h1
    have hA1 := hide hw1.out.2.2.1
    have HF : Hid (∀ wx, Below w1.heap.size w1 wx → wx.heap.size = w1.heap.size → Asp wx → Calls Tryd.prog 60 #[.string ⟨#[61, 32, 33, 61, 32, 60, 32, 60, 61, 32, 62, 32, 62, 61, 32, 126]⟩] wx (FRet w1)) := by
      intro wx hbx hsx hAx
      refine (Tryd.strings_Fields_laid ⟨#[61, 32, 33, 61, 32, 60, 32, 60, 61, 32, 62, 32, 62, 61, 32, 126]⟩ wx (by decide) marks_ascii hAx).mono ?_
      rintro e w2 ⟨rfl, hw2⟩
      rw [show Lib.fields (ByteArray.mk #[61, 32, 33, 61, 32, 60, 32, 60, 61, 32, 62, 32, 62, 61, 32, 126]).data.toList = cmpL from fields_marks] at hw2 ⊢
      rw [hsx]
      refine ⟨rfl, ?_, ?_⟩
      · rw [hw2]
        exact hbx.alloc (by omega) _
      · intro k hk
        rw [hw2]
        have := cell_of_row _ _ k _ 9 (0, 0) (heap_alloc_new wx (.cells (cmpL.map fun l => Value.string ⟨l.toArray⟩).toArray 9))
        rw [hsx] at this
        rw [this]
        rw [List.getElem?_toArray, List.getElem?_map, List.getElem?_eq_getElem (show k < cmpL.length from hk)]; rfl
    obtain ⟨j, hj⟩ : ∃ j : Nat, x.op = (j : Int) + 1 := ⟨(x.op - 1).toNat, by omega⟩
    have hso : (opW x.op).length ≤ 2 := opW_len x.op
    have hj7 : j < 7 := by omega
    have hj1 : (1 : Int) ≤ (j : Int) + 1 := by omega
    have hj8 : (j : Int) + 1 ≤ 7 := by omega
    have hcell : Hid (∀ w2 : World, (∀ k, k < 7 → w2.cell? ⟨w1.heap.size, k, none⟩ = some (.string (str ((cmpL[k]?).getD [])))) → w2.cell? ⟨w1.heap.size, j, none⟩ = some (.string (str (opW x.op)))) := by
      intro w2 h
      rw [h _ hj7, opW, hj, show ((j : Int) + 1 - 1).toNat = j from by omega]
    have y1 : w1.cell? ⟨w.heap.size, 1, none⟩ = some (.int .i64 ((j : Int) + 1)) := by rw [← hj]; exact x1
    clear x1 hj ho1 ho7
    have hwr1 : IntKind.i64.wrap ((j : Int) + 1 - 1) = (j : Int) := by rw [IntWalk.i64_in _ (by omega)]; omega
    have hwr2 : IntKind.i64.wrap (j : Int) = (j : Int) := IntWalk.i64_in _ (by omega)
    have hj0 : (0 : Int) ≤ (j : Int) := by omega
    have hj9 : (j : Int) < 7 := by omega
    have hj10 : ¬ 7 ≤ j := by omega
    obtain ⟨so, hso'⟩ : ∃ s, s = str (opW x.op) := ⟨_, rfl⟩
    rw [← hso'] at hcell
    have hsoz : so.size ≤ 2 := by rw [hso', str_size]; exact hso
    replace hso' := hide hso'
    go_wp2_with fail
    have HF2 := hide (HF.out w1.drew (below_drewN (Below.refl _ w1) 1) rfl hA1.out)
    go_cut [6] (fun v wx => v = .string (sk ++ (⟨#[32]⟩ ++ so)) ∧ ∃ w2, w2 = wx ∧ Below w1.heap.size w1 w2)
    case first =>
      go_region_with (first | (go_at_call 60; refine HF2.out.mono ?_; rintro e w2 ⟨rfl, hb2, hc2⟩; have hc3 := hcell.out _ hc2; replace hc2 := hide hc2; have hx1 : w2.cell? ⟨w.heap.size, 1, none⟩ = some (.int .i64 ((j : Int) + 1)) := (hb2.cell (p := ⟨w.heap.size, 1, none⟩) hs1).trans y1))
      all_goals
        go_wp2_with fail
        go_meet
        exact ⟨rfl, _, rfl, hb2⟩
    obtain ⟨rfl, w2, rfl, hbx⟩ := hcut
    have hW2 := hide (hw1.out.below hbx (by have := hw1.out.2.1; exact this))
    have hX2 := hide (hX.out.below hbx hs1)
    have hb2' := hb1'.trans (hbx.mono (by omega))
    have hs2 := hbx.size
    have z4 := hX2.out.cell 4
    have z5 := hX2.out.cell 5
    have z6 := hX2.out.cell 6
    clear x0 x4 x5 x6 y1 hwr1 hwr2 HF HF2 hcell hA1 hb1' hbx hw1 hX hj1 hj8 hj0 hj9 hj10
    obtain ⟨s1, hs1'⟩ : ∃ s, s = sk ++ (⟨#[32]⟩ ++ so) := ⟨_, rfl⟩
    have hs1z : s1.size ≤ 20 := by
      have e1 : (⟨#[32]⟩ : ByteArray).size = 1 := rfl
      rw [hs1']; simp [e1]; omega
    rw [← hs1']
    have hfin2 : Hid (str (termT x) = s1 ++ ⟨#[32]⟩ ++ str (if x.isText = true then quoteL x.text else Lib.itoa x.n)) := by
      rw [Hid, hs1', hfin.out, hsk.out, hso'.out, show ByteArray.mk #[32] = str [32] from rfl, str_append, str_append, str_append, str_append]
      congr 1
      simp
    clear hs1' hfin hsk hso' hsoz hskz
    by_cases ht : x.isText = true
    · rw [ht] at z6
      rw [if_pos ht] at hfin2
      clear ht
      go_wp2_with fail
      refine (quote_any (str x.text) m w2 (by rw [str_size]; omega) (by have := hW2.out.2.2.2.2.2.2.2; have := hW2.out.2.1; omega) hW2.out.2.2.2.2.1).mono ?_
      rintro e w3 ⟨rfl, hb3⟩
      rw [str_toList, show (34 :: (escL x.text ++ [34])) = quoteL x.text from rfl]
      have hqz : (str (quoteL x.text)).size ≤ 1000 := by
        rw [str_size]; have := escL_len x.text; simp [quoteL]; omega
      obtain ⟨sq, hsq⟩ : ∃ s, s = str (quoteL x.text) := ⟨_, rfl⟩
      rw [← hsq] at hqz hfin2 ⊢
      clear hsq
      go_wp2_with fail
      go_ret
      exact ⟨by rw [hfin2.out]; rfl, hb2'.trans (hb3.mono (by omega))⟩
    · rw [Bool.not_eq_true] at ht
      rw [ht] at z6
      rw [if_neg (by rw [ht]; simp)] at hfin2
      clear ht
      go_wp2_with fail
      refine (Tryd.strconv_Itoa x.n (by omega) (by omega) w2 hW2.out.2.2.2.1).mono ?_
      rintro e w3 ⟨rfl, kk, os, hw3⟩
      have hb3 : Below w2.heap.size w2 w3 := by
        rw [hw3]
        exact Lib.below_grow _ w2 (Nat.le_refl _) kk os
      clear hw3
      have hqz : (str (Lib.itoa x.n)).size ≤ 1000 := by
        rw [str_size]; have := Lib.itoa_length_le x.n (by omega) (by omega); omega
      rw [show (ByteArray.mk (Lib.itoa x.n).toArray) = str (Lib.itoa x.n) from rfl]
      obtain ⟨sq, hsq⟩ : ∃ s, s = str (Lib.itoa x.n) := ⟨_, rfl⟩
      rw [← hsq] at hqz hfin2 ⊢
      clear hsq
      go_wp2_with fail
      go_ret
      exact ⟨by rw [hfin2.out]; rfl, hb2'.trans (hb3.mono (by omega))⟩
end Go.Proofs.YtnbfblikpoblgaaDoor
namespace Go.Proofs.YtnbfblikpoblgaaDoor
open Go.RowKit
set_option linter.unusedVariables false

theorem around (a : List UInt8) (l : List UInt8) (b : List UInt8) (s : ByteArray) (hs : s = str l) : (ByteArray.mk a.toArray) ++ s ++ (ByteArray.mk b.toArray) = str (a ++ l ++ b) := by
  rw [hs, show ByteArray.mk a.toArray = str a from rfl, show ByteArray.mk b.toArray = str b from rfl, str_append, str_append]
theorem around2 (a l b r d : List UInt8) (s t : ByteArray) (hs : s = str l) (ht : t = str r) : (ByteArray.mk a.toArray) ++ s ++ (ByteArray.mk b.toArray) ++ t ++ (ByteArray.mk d.toArray) = str (a ++ l ++ b ++ r ++ d) := by
  rw [hs, ht, show ByteArray.mk a.toArray = str a from rfl, show ByteArray.mk b.toArray = str b from rfl, show ByteArray.mk d.toArray = str d from rfl, str_append, str_append, str_append, str_append]

set_option maxRecDepth 100000 in
set_option maxHeartbeats 4000000 in
theorem one_any (m : Int) (A : Option Addr) (n c : Nat) (l : List Ask) (B : Nat) (hn : n ≤ 100000) :
    ∀ (q : Q) (pre post : List Ask) (J : Int) (w : World), okQ q → l = pre ++ (q.parts pre.length ++ post) → J = (pre.length : Int) + (q.size : Int) - 1 → OneW m A n l B w →
    Calls Tryd.prog 47 #[.slice A n c, .int .i64 J] w fun e w' => e = .returned (.string (str (qTxt q))) ∧ Below w.heap.size w w' := by
  intro q
  induction q with
  | term x =>
    intro pre post J w ho hl hJ hw
    have hl2 : l = pre ++ x :: post := by rw [hl]; rfl
    have hkl : pre.length < l.length := by rw [hl2]; simp
    have hkn : pre.length < n := by have := hw.1.len; omega
    have hx : l[pre.length] = x := by
      have := at_mid pre x post pre.length rfl (by rw [← hl2]; exact hkl)
      simp only [hl2]; exact this
    have hJ2 : J = (pre.length : Int) := by rw [hJ]; simp [Q.size]
    rw [hJ2]
    have := one_term m A n c l B pre.length w hw hn hkn hkl (by rw [hx]; exact ho)
    rw [hx] at this
    exact this
  | neg x ih =>
    intro pre post J w ho hl hJ hw
    have hxp := x.size_pos
    have hpl := x.parts_len pre.length
    have hl1 : l = pre ++ (x.parts pre.length ++ (⟨3, 0, (pre.length : Int) + (x.size : Int) - 1, -1, 0, [], false⟩ :: post)) := by rw [hl, Q.parts, List.append_assoc]; rfl
    have hl2 : l = (pre ++ x.parts pre.length) ++ (⟨3, 0, (pre.length : Int) + (x.size : Int) - 1, -1, 0, [], false⟩ :: post) := by rw [hl1, List.append_assoc]
    have IH := hide (fun wx => ih pre _ _ wx ho hl1 rfl)
    obtain ⟨k, hk⟩ : ∃ k, k = (pre ++ x.parts pre.length).length := ⟨_, rfl⟩
    have hk2 : k = pre.length + x.size := by rw [hk, List.length_append, hpl]
    have hJ2 : J = (k : Int) := by rw [hJ, hk2]; simp [Q.size]; omega
    have hkl : k < l.length := by rw [hl2, hk]; simp
    have hkn : k < n := by have := hw.1.len; omega
    have hx : l[k] = ⟨3, 0, (pre.length : Int) + (x.size : Int) - 1, -1, 0, [], false⟩ := by
      have := at_mid _ _ post k hk (by rw [← hl2]; exact hkl)
      simp only [hl2]; exact this
    obtain ⟨ad, rfl, hab, c0, c1, c2, c3, c4, c5, c6⟩ := (hw.1.more hw.2.1).elem hkn hkl
    rw [hx] at c0 c1 c2 c3 c4 c5 c6
    subst hJ2
    obtain ⟨P, hP⟩ : ∃ P : Int, P = (pre.length : Int) + (x.size : Int) - 1 := ⟨_, rfl⟩
    rw [← hP] at IH c2
    have hP0 : 0 ≤ P := by omega
    have hPk : P < (k : Int) := by omega
    have hsz : (qTxt x).length ≤ 100000000 := by
      have := qTxt_len (q := x) ho
      have : x.size ≤ 100000 := by omega
      omega
    replace hw := hide hw
    clear hl hl1 hl2 hx hJ hk hP hk2 ih hpl
    obtain ⟨w0, hw0⟩ : ∃ z, z = w.alloc (.cells #[.int .i64 3, .int .i64 0, .int .i64 P, .int .i64 (-1), .int .i64 0, .string (str []), .bool false] 52) := ⟨_, rfl⟩
    have hb0 : Below w.heap.size w w0 := by rw [hw0]; exact (Below.refl _ _).alloc (Nat.le_refl _) _
    have hW0 := hide (hw.out.below hb0 hw.out.2.1)
    replace hw0 := hide hw0
    go_enter Tryd.func47, Tryd.ntmps47
    go_wp2_with fail
    rw [← hw0.out]
    refine (IH.out w0 hW0.out).mono ?_
    rintro e w2 ⟨rfl, hb2⟩
    have hsz2 : (str (qTxt x)).size ≤ 100000000 := by rw [str_size]; exact hsz
    obtain ⟨s, hs⟩ : ∃ s, s = str (qTxt x) := ⟨_, rfl⟩
    rw [← hs] at hsz2 ⊢
    replace hs := hide hs
    go_wp2_with fail
    go_ret
    refine ⟨?_, hb0.trans (hb2.mono hb0.size)⟩
    exact congrArg (fun z => Ending.returned (.string z)) (around [40, 32, 110, 111, 116, 32] (qTxt x) [32, 41] s hs.out)
  | two kk x y ihx ihy =>
    intro pre post J w ho hl hJ hw
    obtain ⟨hkk, hox, hoy⟩ := ho
    have hxp := x.size_pos
    have hyp := y.size_pos
    have hpl := x.parts_len pre.length
    have hpl2 : (pre ++ x.parts pre.length).length = pre.length + x.size := by rw [List.length_append, hpl]
    have hpl3 := y.parts_len (pre.length + x.size)
    have hl1 : l = pre ++ (x.parts pre.length ++ (y.parts (pre.length + x.size) ++ (⟨kk, 0, (pre.length : Int) + (x.size : Int) - 1, (pre.length : Int) + (x.size : Int) + (y.size : Int) - 1, 0, [], false⟩ :: post))) := by
      rw [hl, Q.parts]; simp only [List.append_assoc, List.cons_append, List.nil_append]
    have hl2 : l = (pre ++ x.parts pre.length) ++ (y.parts (pre ++ x.parts pre.length).length ++ (⟨kk, 0, (pre.length : Int) + (x.size : Int) - 1, (pre.length : Int) + (x.size : Int) + (y.size : Int) - 1, 0, [], false⟩ :: post)) := by
      rw [hl1, hpl2, List.append_assoc]
    have hl3 : l = (pre ++ x.parts pre.length ++ y.parts (pre.length + x.size)) ++ (⟨kk, 0, (pre.length : Int) + (x.size : Int) - 1, (pre.length : Int) + (x.size : Int) + (y.size : Int) - 1, 0, [], false⟩ :: post) := by
      rw [hl1]; simp only [List.append_assoc]
    have IX := hide (fun wx => ihx pre _ _ wx hox hl1 rfl)
    have IY := hide (fun wx => ihy _ _ _ wx hoy hl2 rfl)
    rw [hpl2] at IY
    obtain ⟨k, hk⟩ : ∃ k, k = (pre ++ x.parts pre.length ++ y.parts (pre.length + x.size)).length := ⟨_, rfl⟩
    have hk2 : k = pre.length + x.size + y.size := by rw [hk, List.length_append, hpl2, hpl3]
    have hJ2 : J = (k : Int) := by rw [hJ, hk2]; simp [Q.size]; omega
    have hkl : k < l.length := by rw [hl3, hk]; simp
    have hkn : k < n := by have := hw.1.len; omega
    have hx : l[k] = ⟨kk, 0, (pre.length : Int) + (x.size : Int) - 1, (pre.length : Int) + (x.size : Int) + (y.size : Int) - 1, 0, [], false⟩ := by
      have := at_mid _ _ post k hk (by rw [← hl3]; exact hkl)
      simp only [hl3]; exact this
    obtain ⟨ad, rfl, hab, c0, c1, c2, c3, c4, c5, c6⟩ := (hw.1.more hw.2.1).elem hkn hkl
    rw [hx] at c0 c1 c2 c3 c4 c5 c6
    subst hJ2
    rw [show (((pre.length + x.size : Nat) : Int)) = (pre.length : Int) + (x.size : Int) from by omega] at IY
    obtain ⟨P, hP⟩ : ∃ P : Int, P = (pre.length : Int) + (x.size : Int) - 1 := ⟨_, rfl⟩
    obtain ⟨R, hR⟩ : ∃ P : Int, P = (pre.length : Int) + (x.size : Int) + (y.size : Int) - 1 := ⟨_, rfl⟩
    rw [← hP] at IX c2
    rw [← hR] at IY c3
    have hP0 : 0 ≤ P := by omega
    have hR0 : 0 ≤ R := by omega
    have hPk : P < (k : Int) := by omega
    have hRk : R < (k : Int) := by omega
    have hszx : (str (qTxt x)).size ≤ 100000000 := by
      have := qTxt_len (q := x) hox
      have : x.size ≤ 100000 := by omega
      rw [str_size]; omega
    have hszy : (str (qTxt y)).size ≤ 100000000 := by
      have := qTxt_len (q := y) hoy
      have : y.size ≤ 100000 := by omega
      rw [str_size]; omega
    obtain ⟨sx, hsx⟩ : ∃ s, s = str (qTxt x) := ⟨_, rfl⟩
    obtain ⟨sy, hsy⟩ : ∃ s, s = str (qTxt y) := ⟨_, rfl⟩
    simp only [← hsx] at IX
    simp only [← hsy] at IY
    rw [← hsx] at hszx
    rw [← hsy] at hszy
    replace hsx := hide hsx
    replace hsy := hide hsy
    replace hw := hide hw
    clear hl hl1 hl2 hl3 hx hJ hk hP hR hk2 ihx ihy hpl hpl2 hpl3 hox hoy
    obtain ⟨w0, hw0⟩ : ∃ z, z = w.alloc (.cells #[.int .i64 kk, .int .i64 0, .int .i64 P, .int .i64 R, .int .i64 0, .string (str []), .bool false] 52) := ⟨_, rfl⟩
    have hb0 : Below w.heap.size w w0 := by rw [hw0]; exact (Below.refl _ _).alloc (Nat.le_refl _) _
    have hs0 : w0.heap.size = w.heap.size + 1 := by rw [hw0]; simp
    have hX0 : Blk w0 w.heap.size 52 #[.int .i64 kk, .int .i64 0, .int .i64 P, .int .i64 R, .int .i64 0, .string (str []), .bool false] := by rw [hw0]; exact Blk.new _ _ _
    have hW0 := hide (hw.out.below hb0 hw.out.2.1)
    have HX : Hid (∀ wx, Below w0.heap.size w0 wx → Calls Tryd.prog 47 #[.slice (some ad) n c, .int .i64 P] wx fun e w' => e = .returned (.string sx) ∧ Below wx.heap.size wx w') :=
      fun wx h => IX.out wx (hW0.out.below h hW0.out.2.1)
    have HY : Hid (∀ wx, Below w0.heap.size w0 wx → Calls Tryd.prog 47 #[.slice (some ad) n c, .int .i64 R] wx fun e w' => e = .returned (.string sy) ∧ Below wx.heap.size wx w') :=
      fun wx h => IY.out wx (hW0.out.below h hW0.out.2.1)
    have HK : Hid (∀ wa wb : World, Below w0.heap.size w0 wa → Below wa.heap.size wa wb → wb.cell? ⟨w.heap.size, 2, none⟩ = some (.int .i64 P) ∧ wb.cell? ⟨w.heap.size, 3, none⟩ = some (.int .i64 R) ∧ Below w0.heap.size w0 wb) := by
      intro wa wb ha hb
      have h := ha.trans (hb.mono ha.size)
      have hB := hX0.below h (by omega)
      exact ⟨hB.cell 2, hB.cell 3, h⟩
    have hB0 : Below w0.heap.size w0 w0.drew := (Below.refl _ _).drew
    have d2 := hX0.cell 2
    have d3 := hX0.cell 3
    replace hw0 := hide hw0
    replace hs0 := hide hs0
    clear hX0 IX IY
    rcases hkk with rfl | rfl
    · have q1 : ¬ 9223372036854775807 < 2 + sx.size := by omega
      have q2 : ¬ 9223372036854775807 < 2 + sx.size + 4 := by omega
      have q3 : ¬ 9223372036854775807 < 2 + sx.size + 4 + sy.size := by omega
      have q4 : ¬ 9223372036854775807 < 2 + sx.size + 4 + sy.size + 2 := by omega
      go_enter Tryd.func47, Tryd.ntmps47
      go_wp2_with fail
      rw [← hw0.out]
      go_region_held3 (fun w' => w'.cell? ⟨w.heap.size, 2, none⟩ = some (.int .i64 P) ∧ w'.cell? ⟨w.heap.size, 3, none⟩ = some (.int .i64 R) ∧ Below w0.heap.size w0 w') (first | exact ⟨by assumption, by assumption, by assumption⟩ | exact ⟨d2, d3, hB0⟩)
        (first | ((with_reducible refine (HX.out _ (by assumption)).mono ?_); rintro e w2 ⟨rfl, hb2⟩; obtain ⟨hk2, hk3, hkb⟩ := HK.out _ _ (by assumption) hb2) | ((with_reducible refine (HY.out _ (by assumption)).mono ?_); rintro e w2 ⟨rfl, hb2⟩; obtain ⟨hk2, hk3, hkb⟩ := HK.out _ _ (by assumption) hb2))
      all_goals
        go_wp2_with fail
        go_ret
        refine ⟨?_, hb0.trans (hkb.mono hb0.size)⟩
        exact congrArg (fun z => Ending.returned (.string z)) (around2 [40, 32] (qTxt x) [32, 111, 114, 32] (qTxt y) [32, 41] sx sy hsx.out hsy.out)
    · have q1 : ¬ 9223372036854775807 < 2 + sx.size := by omega
      have q2 : ¬ 9223372036854775807 < 2 + sx.size + 5 := by omega
      have q3 : ¬ 9223372036854775807 < 2 + sx.size + 5 + sy.size := by omega
      have q4 : ¬ 9223372036854775807 < 2 + sx.size + 5 + sy.size + 2 := by omega
      go_enter Tryd.func47, Tryd.ntmps47
      go_wp2_with fail
      rw [← hw0.out]
      go_region_held3 (fun w' => w'.cell? ⟨w.heap.size, 2, none⟩ = some (.int .i64 P) ∧ w'.cell? ⟨w.heap.size, 3, none⟩ = some (.int .i64 R) ∧ Below w0.heap.size w0 w') (first | exact ⟨by assumption, by assumption, by assumption⟩ | exact ⟨d2, d3, hB0⟩)
        (first | ((with_reducible refine (HX.out _ (by assumption)).mono ?_); rintro e w2 ⟨rfl, hb2⟩; obtain ⟨hk2, hk3, hkb⟩ := HK.out _ _ (by assumption) hb2) | ((with_reducible refine (HY.out _ (by assumption)).mono ?_); rintro e w2 ⟨rfl, hb2⟩; obtain ⟨hk2, hk3, hkb⟩ := HK.out _ _ (by assumption) hb2))
      all_goals
        go_wp2_with fail
        go_ret
        refine ⟨?_, hb0.trans (hkb.mono hb0.size)⟩
        exact congrArg (fun z => Ending.returned (.string z)) (around2 [40, 32] (qTxt x) [32, 97, 110, 100, 32] (qTxt y) [32, 41] sx sy hsx.out hsy.out)
end Go.Proofs.YtnbfblikpoblgaaDoor
