/-
  Codes in memory; contract of huff.New.
-/
import Derived.Test.YtbchaomnjbkdhaaGreatELengthsW
import Derived.Test.YtbchaomnjbkdhaaGreatEA
import Derived.Deep.RegionWith
import Derived.Deep.RegionLaw
namespace Go.Proofs.YtbchaomnjbkdhaaGreat
open Go.RowKit Go.Sort Go.Proofs
set_option linter.unusedVariables false
/-- A code's own block: the rows' symbols, the rows' first codes, the lengths, how they are filled. -/
def CodeSt (w : World) (g : Nat) (V : Nat → Value) (F : Nat → Nat) (vl : Value) (fill : Nat) : Prop :=
  ∃ cs : Array Value, Blk w g 104 cs ∧ cs.size = 34 ∧ (∀ n, n < 16 → cs[n * 2]? = some (V n) ∧ cs[n * 2 + 1]? = some (.int .i64 (F n : Int))) ∧ cs[32]? = some vl ∧ cs[33]? = some (.int .i64 (fill : Int))
section
variable {w w' : World} {g : Nat} {V : Nat → Value} {F : Nat → Nat} {vl : Value} {fill : Nat}
theorem CodeSt.keep (h : CodeSt w g V F vl fill) (hk : KeepT 104 w w') : CodeSt w' g V F vl fill := by
  obtain ⟨cs, hb, r⟩ := h; exact ⟨cs, hk _ _ hb, r⟩
theorem CodeSt.grown {row : Option Nat} (h : CodeSt w g V F vl fill) (hg : w.grownBy w' row) (hr : some g ≠ row) : CodeSt w' g V F vl fill := by
  obtain ⟨cs, hb, r⟩ := h; exact ⟨cs, hb.grown hg hr, r⟩
theorem CodeSt.lt (h : CodeSt w g V F vl fill) : g < w.heap.size := by obtain ⟨cs, hb, r⟩ := h; exact hb.lt
theorem CodeSt.sym (h : CodeSt w g V F vl fill) {n : Nat} (hn : n < 16) : w.cell? ⟨g, n * 2, none⟩ = some (V n) := by
  obtain ⟨cs, hb, hs, hc, _⟩ := h; rw [hb.cell]; exact (hc n hn).1
theorem CodeSt.first (h : CodeSt w g V F vl fill) {n : Nat} (hn : n < 16) : w.cell? ⟨g, n * 2 + 1, none⟩ = some (.int .i64 (F n : Int)) := by
  obtain ⟨cs, hb, hs, hc, _⟩ := h; rw [hb.cell]; exact (hc n hn).2
theorem CodeSt.lens (h : CodeSt w g V F vl fill) : w.cell? ⟨g, 32, none⟩ = some vl := by
  obtain ⟨cs, hb, hs, hc, hl, _⟩ := h; rw [hb.cell]; exact hl
theorem CodeSt.fillc (h : CodeSt w g V F vl fill) : w.cell? ⟨g, 33, none⟩ = some (.int .i64 (fill : Int)) := by
  obtain ⟨cs, hb, hs, hc, hl, hf⟩ := h; rw [hb.cell]; exact hf
theorem CodeSt.froz (h : CodeSt w g V F vl fill) (i : Nat) : w.frozen? ⟨g, i, none⟩ = false := by
  obtain ⟨cs, hb, _⟩ := h; exact hb.frozen i
def upd {α : Type} (V : Nat → α) (n : Nat) (v : α) : Nat → α := fun m => if m = n then v else V m
theorem CodeSt.setV (h : CodeSt w g V F vl fill) {n : Nat} (hn : n < 16) (v : Value) : CodeSt (w.setCell ⟨g, n * 2, none⟩ v) g (upd V n v) F vl fill := by
  obtain ⟨cs, hb, hs, hc, hl, hf⟩ := h
  refine ⟨_, hb.set_ _ _, by simpa using hs, fun m hm => ⟨?_, ?_⟩, ?_, ?_⟩
  · rw [Array.getElem?_setIfInBounds]
    unfold upd
    by_cases h : m = n
    · subst h; rw [if_pos rfl, if_pos (by omega), if_pos rfl]
    · rw [if_neg (by omega), if_neg h]; exact (hc m hm).1
  · rw [Array.getElem?_setIfInBounds, if_neg (by omega)]; exact (hc m hm).2
  · rw [Array.getElem?_setIfInBounds, if_neg (by omega)]; exact hl
  · rw [Array.getElem?_setIfInBounds, if_neg (by omega)]; exact hf
theorem CodeSt.setF (h : CodeSt w g V F vl fill) {n : Nat} (hn : n < 16) (v : Nat) : CodeSt (w.setCell ⟨g, n * 2 + 1, none⟩ (.int .i64 (v : Int))) g V (upd F n v) vl fill := by
  obtain ⟨cs, hb, hs, hc, hl, hf⟩ := h
  refine ⟨_, hb.set_ _ _, by simpa using hs, fun m hm => ⟨?_, ?_⟩, ?_, ?_⟩
  · rw [Array.getElem?_setIfInBounds, if_neg (by omega)]; exact (hc m hm).1
  · rw [Array.getElem?_setIfInBounds]
    unfold upd
    by_cases h : m = n
    · subst h; rw [if_pos rfl, if_pos (by omega), if_pos rfl]
    · rw [if_neg (by omega), if_neg h]; exact (hc m hm).2
  · rw [Array.getElem?_setIfInBounds, if_neg (by omega)]; exact hl
  · rw [Array.getElem?_setIfInBounds, if_neg (by omega)]; exact hf
theorem CodeSt.setFill (h : CodeSt w g V F vl fill) (v : Nat) : CodeSt (w.setCell ⟨g, 33, none⟩ (.int .i64 (v : Int))) g V F vl v := by
  obtain ⟨cs, hb, hs, hc, hl, hf⟩ := h
  refine ⟨_, hb.set_ _ _, by simpa using hs, fun m hm => ⟨?_, ?_⟩, ?_, ?_⟩
  · rw [Array.getElem?_setIfInBounds, if_neg (by omega)]; exact (hc m hm).1
  · rw [Array.getElem?_setIfInBounds, if_neg (by omega)]; exact (hc m hm).2
  · rw [Array.getElem?_setIfInBounds, if_neg (by omega)]; exact hl
  · rw [Array.getElem?_setIfInBounds, if_pos rfl, if_pos (by omega)]
end
/-- The rows of symbols, in blocks apart. -/
def RowsAt (w : World) (base : Nat) (V : Nat → Value) (ls : List Nat) : Prop :=
  (∀ n, n < 16 → ON w base (V n) (symsL ls n).length (symsL ls n)) ∧ ∀ m n, m < 16 → n < 16 → m ≠ n → Apart (V m) (V n)
def firstF (ls : List Nat) (n : Nat) : Nat := if n = 0 then 0 else firstC ls n
def fillF (ls : List Nat) : Nat := if endC ls 15 = 32768 then 0 else 1
/-- A code of lengths stands at a block. -/
def CodeAt (w : World) (base g : Nat) (ls : List Nat) : Prop :=
  base ≤ g ∧ ∃ V vl, CodeSt w g V (firstF ls) vl (fillF ls) ∧ RowsAt w base V ls ∧ ON w base vl ls.length ls
theorem syms_snoc (l : List Nat) (q n : Nat) : symsL (l ++ [q]) n = symsL l n ++ if q = n then [l.length] else [] := by
  unfold symsL
  rw [List.length_append, List.length_singleton, List.range_succ, List.filter_append]
  congr 1
  · apply List.filter_congr
    intro t ht
    have := List.mem_range.1 ht
    rw [List.getD_eq_getElem?_getD, List.getD_eq_getElem?_getD, List.getElem?_append_left this]
  · have e : (l ++ [q]).getD l.length 0 = q := by rw [List.getD_eq_getElem?_getD, List.getElem?_append_right (Nat.le_refl _), Nat.sub_self]; rfl
    by_cases h : q = n
    · rw [if_pos h, List.filter_cons_of_pos (by rw [e]; simpa using h)]; rfl
    · rw [if_neg h, List.filter_cons_of_neg (by rw [e]; simpa using h)]; rfl
/-- append(v, x), one int: what runs. -/
theorem run_app_i {w : World} {t : TypeId} (x : Nat) (base : Nat) (v : Value) (n : Nat) (l : List Nat) (hown : ON w base v n l) (c : Nat) (hlen : n + 1 ≤ 10000000) (hbase : base ≤ w.heap.size) (ty : TypeId) :
    ∃ v' w', (Builtin.append_ #[49, 49] ty #[v, .slice (some ⟨w.heap.size, 0, none⟩) 1 c]).run Tryz.prog (w.alloc (.cells #[.int .i64 (x : Int)] t)) = .ok v' w' ∧
      ON w' base v' (n + 1) (l ++ [x]) ∧ Below base w w' ∧ w.grownBy w' v.ownBlock ∧ (v'.ownBlock = v.ownBlock ∨ ∃ k, v'.ownBlock = some k ∧ w.heap.size ≤ k) := by
  obtain ⟨i0, hi0, hz0, hz1, hz2⟩ := info_parts int_info
  obtain ⟨v', w', hrun, h1, h2, h3⟩ := run_append_any (P := Tryz.prog) (w.alloc (.cells #[.int .i64 (x : Int)] t)) base 49 ty 3 i0 _ 1 8 Tryz.underlying49 hi0 hz0 hz1 hz2 rfl (by omega) v n (l.map encI) (World.ownsRow.alloc hown _) _ _ 1 c [.int .i64 (x : Int)] (reads_one w _ t) (by intro u hu; simp at hu; subst hu; rfl)
    (by simp only [maxLen]; omega) (by omega) (by simp; omega)
  have e : l.map encI ++ [.int .i64 (x : Int)] = (l ++ [x]).map encI := by simp [encI]
  rw [e] at h1
  refine ⟨v', w', hrun, h1, ((Below.refl _ _).alloc hbase _).trans ((Below.refl _ _).grown h2 (by simp; omega) fun k hk => (OE.lt hown k hk).1), ⟨h2.os, h2.tape, h2.output, ?_, fun k hk hne => ?_⟩, ?_⟩
  · have := h2.size; simp at this; omega
  · rw [h2.block k (by simp; omega) hne]
    exact Below.heap_alloc _ _ _ hk
  · rcases h3 with h3 | h3
    · exact .inl h3
    · exact .inr ⟨_, h3, by simp⟩
theorem RowsAt.below {w w' : World} {base B : Nat} {V : Nat → Value} {ls : List Nat} (h : RowsAt w base V ls) (hb : Below B w w') (hB : w.heap.size ≤ B) : RowsAt w' base V ls :=
  ⟨fun n hn => OE.below (h.1 n hn) hb hB, h.2⟩
theorem CodeAt.below {w w' : World} {base B g : Nat} {ls : List Nat} (h : CodeAt w base g ls) (hb : Below B w w') (hB : w.heap.size ≤ B) : CodeAt w' base g ls := by
  obtain ⟨h0, V, vl, h1, h2, h3⟩ := h
  refine ⟨h0, V, vl, ?_, h2.below hb hB, OE.below h3 hb hB⟩
  obtain ⟨cs, hbk, r⟩ := h1
  exact ⟨cs, hbk.below hb (by have := hbk.lt; omega), r⟩
theorem CodeAt.more {w : World} {base b' g : Nat} {ls : List Nat} (h : CodeAt w base g ls) (hb : b' ≤ base) : CodeAt w b' g ls := by
  obtain ⟨h0, V, vl, h1, h2, h3⟩ := h
  exact ⟨by omega, V, vl, h1, ⟨fun n hn => OE.more (h2.1 n hn) hb, h2.2⟩, OE.more h3 hb⟩
theorem CodeAt.drewN {w : World} {base g : Nat} {ls : List Nat} (h : CodeAt w base g ls) (n : Nat) : CodeAt (w.drewN n) base g ls := h
/-- What New returns. -/
def NewRet (w : World) (ls : List Nat) (e : Ending) (w' : World) : Prop := ∃ g, e = .returned (.tuple #[.pointer (some ⟨g, 0, none⟩), .int .i64 0]) ∧ CodeAt w' w.heap.size g ls ∧ Below w.heap.size w w'
/-- The rows while they are built. -/
def NewI (w0 w : World) (g gl kl n : Nat) (ls : List Nat) (s : Nat) : Prop :=
  ∃ V, CodeSt w g V (fun _ => 0) (.slice (some ⟨gl, 0, none⟩) n kl) 1 ∧ RowsAt w w0.heap.size V (ls.take s) ∧ ON w w0.heap.size (.slice (some ⟨gl, 0, none⟩) n kl) n ls ∧ (∀ m, m < 16 → Apart (.slice (some ⟨gl, 0, none⟩) n kl) (V m)) ∧ Below w0.heap.size w0 w ∧ w0.heap.size ≤ g
theorem code_new (w : World) (vl : Value) : CodeSt (w.alloc (.cells #[.slice none 0 0, .int .i64 0, .slice none 0 0, .int .i64 0, .slice none 0 0, .int .i64 0, .slice none 0 0, .int .i64 0, .slice none 0 0, .int .i64 0, .slice none 0 0, .int .i64 0, .slice none 0 0, .int .i64 0, .slice none 0 0, .int .i64 0, .slice none 0 0, .int .i64 0, .slice none 0 0, .int .i64 0, .slice none 0 0, .int .i64 0, .slice none 0 0, .int .i64 0, .slice none 0 0, .int .i64 0, .slice none 0 0, .int .i64 0, .slice none 0 0, .int .i64 0, .slice none 0 0, .int .i64 0, vl, .int .i64 1] 104)) w.heap.size (fun _ => .slice none 0 0) (fun _ => 0) vl 1 := by
  refine ⟨_, Blk.new _ _ _, rfl, fun n hn => ?_, rfl, rfl⟩
  iterate 16 (rcases n with _ | n; · exact ⟨rfl, rfl⟩)
  omega
theorem ON.ne_code {w : World} {base n g : Nat} {v : Value} {l : List Nat} {V : Nat → Value} {F : Nat → Nat} {vl : Value} {fill : Nat} (h : ON w base v n l) (hc : CodeSt w g V F vl fill) : v.ownBlock ≠ some g := by
  obtain ⟨cs, hb, _⟩ := hc
  exact own_blk_ne h hb (by decide)
/-- One symbol more. -/
theorem NewI.step {w0 w w2 : World} {g gl kl n s q : Nat} {ls : List Nat} {V : Nat → Value} {v' : Value} (hs : s < ls.length) (hq : ls[s] = q) (hq15 : q < 16)
    (h1 : CodeSt w g V (fun _ => 0) (.slice (some ⟨gl, 0, none⟩) n kl) 1) (h2 : RowsAt w w0.heap.size V (ls.take s)) (h3 : ON w w0.heap.size (.slice (some ⟨gl, 0, none⟩) n kl) n ls) (h4 : ∀ m, m < 16 → Apart (.slice (some ⟨gl, 0, none⟩) n kl) (V m)) (h5 : Below w0.heap.size w0 w) (h6 : w0.heap.size ≤ g)
    (ho : ON w2 w0.heap.size v' ((symsL (ls.take s) q).length + 1) (symsL (ls.take s) q ++ [s])) (hb : Below w0.heap.size w w2) (hg : w.grownBy w2 (V q).ownBlock) (hx : v'.ownBlock = (V q).ownBlock ∨ ∃ k, v'.ownBlock = some k ∧ w.heap.size ≤ k) :
    NewI w0 (w2.setCell ⟨g, q * 2, none⟩ v') g gl kl n ls (s + 1) := by
  have hsn : ∀ m, symsL (ls.take (s + 1)) m = symsL (ls.take s) m ++ if q = m then [s] else [] := by
    intro m
    rw [List.take_succ_eq_append_getElem hs, syms_snoc, hq, List.length_take, Nat.min_eq_left (by omega)]
  have hgq : some g ≠ (V q).ownBlock := fun e => (h2.1 q hq15).ne_code h1 e.symm
  have hc2 := h1.grown hg hgq
  have hlt : ∀ m, m < 16 → ∀ k, (V m).ownBlock = some k → k < w.heap.size := fun m hm k hk => (OE.lt (h2.1 m hm) k hk).2
  have hgw : g < w.heap.size := h1.lt
  have hvg : v'.ownBlock ≠ some g := ho.ne_code hc2
  refine ⟨upd V q v', hc2.setV hq15 v', ⟨fun m hm => ?_, fun a b ha hb' hab => ?_⟩, ?_, fun m hm => ?_, (h5.trans hb).setCell (p := ⟨g, q * 2, none⟩) h6 _, h6⟩
  · rw [hsn]
    unfold upd
    by_cases h : m = q
    · subst h
      rw [if_pos rfl, if_pos rfl, List.length_append]
      exact OE.other ho (p := ⟨g, m * 2, none⟩) hvg _
    · rw [if_neg h, if_neg (fun e => h e.symm), List.append_nil]
      have h7 : ON w2 w0.heap.size (V m) _ _ := OE.kept (h2.1 m hm) hg (Apart.ne (h2.2 q m hq15 hm (fun e => h e.symm)))
      exact OE.other h7 (p := ⟨g, q * 2, none⟩) (h7.ne_code hc2) _
  · unfold upd
    by_cases h : a = q
    · subst h
      rw [if_pos rfl, if_neg (fun e => hab e.symm)]
      exact Apart.grew (h2.2 a b ha hb' hab) hx (hlt b hb')
    · rw [if_neg h]
      by_cases h' : b = q
      · subst h'
        rw [if_pos rfl]
        exact (Apart.grew (h2.2 b a hb' ha (fun e => hab e.symm)) hx (hlt a ha)).symm
      · rw [if_neg h']; exact h2.2 a b ha hb' hab
  · have h7 : ON w2 w0.heap.size _ n ls := OE.kept h3 hg (Apart.ne (h4 q hq15).symm)
    exact OE.other h7 (p := ⟨g, q * 2, none⟩) (h7.ne_code hc2) _
  · unfold upd
    by_cases h : m = q
    · subst h
      rw [if_pos rfl]
      exact (Apart.grew (h4 m hm).symm hx (fun k hk => (OE.lt h3 k hk).2)).symm
    · rw [if_neg h]; exact h4 m hm
def firstM (ls : List Nat) (m i : Nat) : Nat := if i = 0 ∨ m ≤ i then 0 else firstC ls i
theorem firstM_upd (ls : List Nat) (m : Nat) (hm : 1 ≤ m) : upd (firstM ls m) m (firstC ls m) = firstM ls (m + 1) := by
  funext i
  unfold upd firstM
  by_cases h : i = m
  · subst h
    rw [if_pos rfl, if_neg (by omega)]
  · rw [if_neg h]
    by_cases h2 : i = 0 ∨ m ≤ i
    · rw [if_pos h2, if_pos (by omega)]
    · rw [if_neg h2, if_neg (by omega)]
def codeM (ls : List Nat) (m : Nat) : Nat := if m = 1 then 0 else endC ls (m - 1)
theorem codeM_two (ls : List Nat) (m : Nat) (hm : 1 ≤ m) : codeM ls m * 2 = firstC ls m := by
  unfold codeM
  by_cases h : m = 1
  · subst h
    rw [if_pos rfl]; rfl
  · rw [if_neg h]
    obtain ⟨k, rfl⟩ : ∃ k, m = k + 1 := ⟨m - 1, by omega⟩
    rw [firstC_succ ls k (by omega), Nat.add_sub_cancel]; omega
/-- The rows while the first codes are laid. -/
def New2 (w0 w : World) (g gl kl n : Nat) (ls : List Nat) (F : Nat → Nat) (fill : Nat) : Prop :=
  ∃ V, CodeSt w g V F (.slice (some ⟨gl, 0, none⟩) n kl) fill ∧ RowsAt w w0.heap.size V ls ∧ ON w w0.heap.size (.slice (some ⟨gl, 0, none⟩) n kl) n ls ∧ Below w0.heap.size w0 w ∧ w0.heap.size ≤ g
theorem New2.setF {w0 w : World} {g gl kl n : Nat} {ls : List Nat} {F : Nat → Nat} {fill : Nat} (h : New2 w0 w g gl kl n ls F fill) {m : Nat} (hm : m < 16) (v : Nat) : New2 w0 (w.setCell ⟨g, m * 2 + 1, none⟩ (.int .i64 (v : Int))) g gl kl n ls (upd F m v) fill := by
  obtain ⟨V, h1, h2, h3, h4, h5⟩ := h
  exact ⟨V, h1.setF hm v, ⟨fun k hk => OE.other (h2.1 k hk) (p := ⟨g, m * 2 + 1, none⟩) ((h2.1 k hk).ne_code h1) _, h2.2⟩, OE.other h3 (p := ⟨g, m * 2 + 1, none⟩) (h3.ne_code h1) _, h4.setCell (p := ⟨g, m * 2 + 1, none⟩) h5 _, h5⟩
theorem New2.setFill {w0 w : World} {g gl kl n : Nat} {ls : List Nat} {F : Nat → Nat} {fill : Nat} (h : New2 w0 w g gl kl n ls F fill) (v : Nat) : New2 w0 (w.setCell ⟨g, 33, none⟩ (.int .i64 (v : Int))) g gl kl n ls F v := by
  obtain ⟨V, h1, h2, h3, h4, h5⟩ := h
  exact ⟨V, h1.setFill v, ⟨fun k hk => OE.other (h2.1 k hk) (p := ⟨g, 33, none⟩) ((h2.1 k hk).ne_code h1) _, h2.2⟩, OE.other h3 (p := ⟨g, 33, none⟩) (h3.ne_code h1) _, h4.setCell (p := ⟨g, 33, none⟩) h5 _, h5⟩
set_option maxRecDepth 100000 in
set_option maxHeartbeats 4000000 in
theorem new_any (w : World) (ab ao n c : Nat) (ls : List Nat) (hr : RN w w.heap.size (some ⟨ab, ao, none⟩) n ls) (h0 : 0 < n) (hn : n ≤ 320) (hok : codeOk ls) :
    Calls Tryz.prog 31 #[.slice (some ⟨ab, ao, none⟩) n c] w (NewRet w ls) := by
  have hlen := hide hr.len
  replace hr := hide hr
  replace hok := hide hok
  have h320 : decide ((320 : Int) < (n : Int)) = false := by simp; omega
  have h320' : (n : Int) ≤ 320 := by omega
  go_enter Tryz.func31, Tryz.ntmps31
  go_wp2_with fail
  refine (clone_ints w ab ao n c ls hr.out h0 (by omega)).mono ?_
  rintro e w1 ⟨gl, kl, rfl, hO1, hB1⟩
  replace hO1 := hide hO1
  replace hB1 := hide hB1
  go_wp2_with fail
  have hI : Hid (NewI w (w1.alloc (.cells #[.slice none 0 0, .int .i64 0, .slice none 0 0, .int .i64 0, .slice none 0 0, .int .i64 0, .slice none 0 0, .int .i64 0, .slice none 0 0, .int .i64 0, .slice none 0 0, .int .i64 0, .slice none 0 0, .int .i64 0, .slice none 0 0, .int .i64 0, .slice none 0 0, .int .i64 0, .slice none 0 0, .int .i64 0, .slice none 0 0, .int .i64 0, .slice none 0 0, .int .i64 0, .slice none 0 0, .int .i64 0, .slice none 0 0, .int .i64 0, .slice none 0 0, .int .i64 0, .slice none 0 0, .int .i64 0, .slice (some ⟨gl, 0, none⟩) n kl, .int .i64 1] 104)) w1.heap.size gl kl n ls 0) :=
    ⟨_, code_new w1 _, ⟨fun m hm => OE.nil _ _, fun a b _ _ _ g h => by cases h⟩, OE.alloc hO1.out _, (fun m hm k _ h => by cases h), hB1.out.alloc hB1.out.size _, hB1.out.size⟩
  obtain ⟨wa, hwa⟩ : ∃ x, x = w1.alloc (.cells #[.slice none 0 0, .int .i64 0, .slice none 0 0, .int .i64 0, .slice none 0 0, .int .i64 0, .slice none 0 0, .int .i64 0, .slice none 0 0, .int .i64 0, .slice none 0 0, .int .i64 0, .slice none 0 0, .int .i64 0, .slice none 0 0, .int .i64 0, .slice none 0 0, .int .i64 0, .slice none 0 0, .int .i64 0, .slice none 0 0, .int .i64 0, .slice none 0 0, .int .i64 0, .slice none 0 0, .int .i64 0, .slice none 0 0, .int .i64 0, .slice none 0 0, .int .i64 0, .slice none 0 0, .int .i64 0, .slice (some ⟨gl, 0, none⟩) n kl, .int .i64 1] 104) := ⟨_, rfl⟩
  rw [← hwa] at hI ⊢
  obtain ⟨g, hg⟩ : ∃ g, g = w1.heap.size := ⟨_, rfl⟩
  rw [← hg] at hI ⊢
  clear hwa hO1 hB1 hg
  go_loopw [18] (fun vs wr => ∃ s : Nat, vs = .int .i64 s ∧ s ≤ n ∧ Hid (NewI w wr g gl kl n ls s)) (fun vs _ => n - (intOf vs).toNat)
  case atStart => exact ⟨0, rfl, Nat.zero_le _, hI⟩
  case round =>
    clear hI
    obtain ⟨s, rfl, hs, hI⟩ := hrel
    by_cases hlt : s < n
    · have hsl : s < ls.length := by have := hlen.out; omega
      obtain ⟨V, k1, k2, k3, k4, k5, k6⟩ := hI.out
      obtain ⟨ad, e', _, cs⟩ := (hr.out.below k5).elem hlt
      cases e'
      rw [Addr.add_lit, List.getD_eq_getElem?_getD, List.getElem?_eq_getElem hsl, Option.getD_some] at cs
      have hq := hok.out.1 _ (List.getElem_mem hsl)
      obtain ⟨q, hqe⟩ : ∃ q, q = ls[s] := ⟨_, rfl⟩
      rw [← hqe] at cs hq
      have hq15 : decide ((15 : Int) < (q : Int)) = false := by simp; omega
      have hq16 : (q : Int) < 16 := by omega
      have hq0 : ¬ (q : Int) < 0 := by omega
      have csym := k1.sym (n := q) (by omega)
      have fsym := k1.froz (q * 2)
      have hlenq : (symsL (ls.take s) q).length ≤ s := by
        unfold symsL
        have := List.length_filter_le (fun t => (ls.take s).getD t 0 == q) (List.range (ls.take s).length)
        rw [List.length_range] at this
        have h3 : (ls.take s).length ≤ s := by rw [List.length_take]; omega
        omega
      obtain ⟨v', w2, hrun, p1, p2, p3, p4⟩ := run_app_i (w := wr.drew) (t := 3) s w.heap.size (V q) _ _ (k2.1 q (by omega)) 1 (by omega) k5.size 49
      obtain ⟨gv, kv, rfl, _, _⟩ := p1.ownb (by omega)
      have hst : Hid (NewI w (w2.setCell ⟨g, q * 2, none⟩ (.slice (some ⟨gv, 0, none⟩) ((symsL (ls.take s) q).length + 1) kv)) g gl kl n ls (s + 1)) := NewI.step hsl hqe.symm (by omega) k1 k2 k3 k4 k5 k6 p1 (((Below.refl _ _).drew).trans p2) ⟨p3.os, p3.tape, p3.output, p3.size, p3.block⟩ p4
      have hgq : some g ≠ (V q).ownBlock := fun e => (k2.1 q (by omega)).ne_code k1 e.symm
      have hc2 := k1.grown ⟨p3.os, p3.tape, p3.output, p3.size, p3.block⟩ hgq
      have hfw2 := hide (hc2.froz (q * 2))
      have hcw2 := hide (hc2.sym (n := q) (by omega))
      clear hgq hc2
      have hrun2 : (Builtin.append_ #[49, 49] 49 #[V q, .slice (some ⟨wr.heap.size, 0, none⟩) 1 1]).run Tryz.prog ((wr.alloc (.cells #[.int .i64 (s : Int)] 3)).drew) = .ok (.slice (some ⟨gv, 0, none⟩) ((symsL (ls.take s) q).length + 1) kv) w2 := hrun
      clear hrun
      replace hqe := hide hqe
      have hq00 : (0 : Int) ≤ (q : Int) := by omega
      generalize V q = vq at *
      go_upto_region 9 with (fail)
      have hgw := hide k1.lt
      have csym2 : (wr.alloc (.cells #[.int .i64 (s : Int)] 3)).cell? ⟨g, q * 2, none⟩ = some vq := (World.cell?_alloc_lt _ _ ⟨g, q * 2, none⟩ hgw.out).trans csym
      have fw2 : w2.frozen? ⟨g, q * 2, none⟩ = false := hfw2.out
      have cw2 : w2.cell? ⟨g, q * 2, none⟩ = some vq := hcw2.out
      clear k1 k2 k3 k4 k5 k6 p1 p2 p3 p4
      go_region_law (refine Lib.wp_append_run _ (.tmp 37) (.tmp 39) 49 49 rfl _ _ rfl rfl _ _ hrun2 ?_)
      all_goals
        go_wp2_with fail
        go_roundw
        case rel => exact ⟨s + 1, by go_num, hlt, hst⟩
        case measure => simp [intOf]; omega
    · obtain rfl : s = n := by omega
      have hI2 : Hid (New2 w wr g gl kl s ls (firstM ls 1) 1) := by
        obtain ⟨V, k1, k2, k3, k4, k5, k6⟩ := hI.out
        rw [show ls.take s = ls from List.take_of_length_le (by have := hlen.out; omega)] at k2
        refine ⟨V, ?_, k2, k3, k5, k6⟩
        have e : firstM ls 1 = fun _ => 0 := by funext i; unfold firstM; rw [if_pos (by omega)]
        rw [e]; exact k1
      clear hI
      go_wp2_with fail
      obtain ⟨wb, hwb⟩ : ∃ x, x = wr := ⟨_, rfl⟩
      rw [← hwb] at hI2 ⊢
      clear hwb
      go_loopw [7, 8] (fun v7 v8 wr => ∃ m : Nat, v8 = .int .i64 m ∧ v7 = .int .i64 (codeM ls m : Int) ∧ 1 ≤ m ∧ m ≤ 16 ∧ Hid (New2 w wr g gl kl s ls (firstM ls m) 1)) (fun _ v8 _ => 17 - (intOf v8).toNat)
      case atStart => exact ⟨1, rfl, rfl, Nat.le_refl _, by omega, hI2⟩
      case round =>
        clear hI2
        obtain ⟨m, rfl, rfl, hm1, hm2, hI⟩ := hrel
        by_cases hlt : m ≤ 15
        · have hend := hok.out.2 m hm1 hlt
          have e15 : (2 : Nat) ^ 15 = 32768 := by decide
          have hp15 : 2 ^ m ≤ 2 ^ 15 := Nat.pow_le_pow_right (by omega) hlt
          have h2c := codeM_two ls m hm1
          have hI2 : Hid (New2 w (wr.setCell ⟨g, m * 2 + 1, none⟩ (.int .i64 (firstC ls m : Int))) g gl kl s ls (firstM ls (m + 1)) 1) := by
            rw [← firstM_upd ls m hm1]; exact hI.out.setF (by omega) _
          obtain ⟨V, k1, k2, k3, k4, k5⟩ := hI2.out
          obtain ⟨V0, k1', _⟩ := hI.out
          have cF := k1'.first (n := m) (by omega)
          have fF := k1'.froz (m * 2 + 1)
          have cS := k1.sym (n := m) (by omega)
          obtain ⟨A, cc, hVm, _⟩ := (k2.1 m (by omega)).reads
          rw [syms_len] at hVm
          rw [hVm] at cS
          have hadd : firstC ls m + ls.count m = endC ls m := rfl
          have hnx : Hid (codeM ls (m + 1) = endC ls m) := by rw [Hid, codeM, if_neg (by omega), Nat.add_sub_cancel]
          obtain ⟨E, hE⟩ : ∃ E, E = endC ls m := ⟨_, rfl⟩
          rw [← hE] at hend hadd hnx
          obtain ⟨Fm, hFm⟩ : ∃ Fm, Fm = firstC ls m := ⟨_, rfl⟩
          rw [← hFm] at hadd h2c hI2 cS k1
          obtain ⟨Cm, hCm⟩ : ∃ Cm, Cm = codeM ls m := ⟨_, rfl⟩
          rw [← hCm] at h2c ⊢
          obtain ⟨Nm, hNm⟩ : ∃ Nm, Nm = ls.count m := ⟨_, rfl⟩
          rw [← hNm] at hadd cS
          replace hE := hide hE
          replace hFm := hide hFm
          replace hCm := hide hCm
          replace hNm := hide hNm
          have hshl : decide (wrap64 (2 ^ m) < (E : Int)) = false := by
            have hp : (2 : Int) ^ m = ((2 ^ m : Nat) : Int) := by push_cast; rfl
            rw [hp]
            generalize 2 ^ m = P at *
            unfold wrap64
            simp only [decide_eq_false_iff_not]
            omega
          have hE2 : E ≤ 32768 := by omega
          have h2i : (Cm : Int) * 2 = (Fm : Int) := by omega
          have hai : (Fm : Int) + (Nm : Int) = (E : Int) := by omega
          have hF2 : Fm ≤ 32768 := by omega
          clear hp15 hend e15 k1 k2 k3 k4 k5 k1' h2c hadd hVm
          have hm00 : (0 : Int) ≤ (m : Int) := by omega
          have hm16 : (m : Int) < 16 := by omega
          have hm15 : (m : Int) ≤ 15 := by omega
          go_wp2_with fail
          go_roundw
          case rel => exact ⟨m + 1, by go_num, by rw [hnx.out], by omega, by omega, hI2⟩
          case measure => simp [intOf]; omega
        · obtain rfl : m = 16 := by omega
          have hcm : codeM ls 16 = endC ls 15 := rfl
          rw [hcm]
          clear hcm
          have hI3 : Hid (New2 w wr g gl kl s ls (firstF ls) 1) := by
            obtain ⟨V, k1, r⟩ := hI.out
            obtain ⟨cs, q1, q2, q3, q4⟩ := k1
            refine ⟨V, ⟨cs, q1, q2, fun n hn => ?_, q4⟩, r⟩
            have h1 := q3 n hn
            have e : firstM ls 16 n = firstF ls n := by
              unfold firstM firstF
              by_cases hn0 : n = 0
              · rw [if_pos (.inl hn0), if_pos hn0]
              · rw [if_neg (by omega), if_neg hn0]
            rw [e] at h1
            exact h1
          have hend := hok.out.2 15 (by omega) (by omega)
          have e15 : (2 : Nat) ^ 15 = 32768 := by decide
          rw [e15] at hend
          obtain ⟨E, hE⟩ : ∃ E, E = endC ls 15 := ⟨_, rfl⟩
          rw [← hE] at hend ⊢
          have hfinal : ∀ (w' : World) (fill : Nat), fill = fillF ls → New2 w w' g gl kl s ls (firstF ls) fill → NewRet w ls (.returned (.tuple #[.pointer (some ⟨g, 0, none⟩), .int .i64 0])) w' := by
            intro w' fill hf h
            subst hf
            obtain ⟨V, k1, k2, k3, k4, k5⟩ := h
            exact ⟨g, rfl, ⟨k5, V, _, k1, k2, by rw [hlen.out]; exact k3⟩, k4⟩
          replace hfinal := hide hfinal
          clear hI
          by_cases hc : E = 32768
          · have hf : Hid (0 = fillF ls) := by rw [Hid, fillF, ← hE, if_pos hc]
            have hI4 : Hid (New2 w (wr.setCell ⟨g, 33, none⟩ (.int .i64 ((0 : Nat) : Int))) g gl kl s ls (firstF ls) 0) := hI3.out.setFill 0
            have c33 : ∃ v, wr.cell? ⟨g, 33, none⟩ = some v ∧ wr.frozen? ⟨g, 33, none⟩ = false := by
              obtain ⟨V, k1, _⟩ := hI3.out
              exact ⟨_, k1.fillc, k1.froz 33⟩
            obtain ⟨v33, c33, f33⟩ := c33
            replace hE := hide hE
            subst hc
            go_wp2_with fail
            go_ret2
            exact hfinal.out _ _ hf.out hI4.out
          · have hf : Hid (1 = fillF ls) := by rw [Hid, fillF, ← hE, if_neg hc]
            have hne : ((E : Int) == 32768) = false := by rw [beq_eq_false_iff_ne]; omega
            replace hE := hide hE
            go_wp2_with fail
            go_ret2
            exact hfinal.out _ _ hf.out hI3.out
end Go.Proofs.YtbchaomnjbkdhaaGreat
