/-
  Patterns: the reader of runes in memory; contracts of its methods next, is, plain.
  Patterns: a class's two rows in memory; the statement that appends to both, in whatever order.
  Patterns: contract of the reader's class.
  Patterns: contracts of the reader's part, and of New.
  Patterns: contract of New.
-/
import Derived.Test.YtnnjcedlomfhoaaGreatDoorHA
import Derived.Deep.LoopGhost
import Derived.Test.YtnnjcedlomfhoaaGreatDoorShelfV
namespace Go.Proofs.YtnnjcedlomfhoaaGreatDoor
open Go.RowKit
set_option linter.unusedVariables false
def rv (l : List Int) : List Value := l.map (Value.int .i32)
theorem rv_len (l : List Int) : (rv l).length = l.length := by simp [rv]
/-- The reader stands at block b: the runes that are to come. -/
def RdSt (w : World) (b : Nat) (l : List Int) : Prop := ∃ A c, Blk w b 140 #[.slice A l.length c] ∧ Reads w b 1 A l.length (rv l) ∧ l.length ≤ c ∧ c ≤ maxLen ∧ ∀ ad, A = some ad → ad.block + 1 = b
/-- Nothing below b is touched; nothing that was there but b. -/
def OnB (b : Nat) (w w' : World) : Prop := Below b w w' ∧ w.grownBy w' (some b)
section
variable {w w' w2 : World} {b : Nat} {l : List Int}
theorem OnB.refl (b : Nat) (w : World) : OnB b w w := ⟨Below.refl _ _, World.grownBy.refl _ _⟩
theorem OnB.size (h : OnB b w w') : w.heap.size ≤ w'.heap.size := h.1.size
theorem OnB.trans (h : OnB b w w') (k : OnB b w' w2) : OnB b w w2 :=
  ⟨h.1.trans k.1, ⟨k.2.os.trans h.2.os, k.2.tape.trans h.2.tape, k.2.output.trans h.2.output, Nat.le_trans h.2.size k.2.size, fun i hi hne => (k.2.block i (Nat.lt_of_lt_of_le hi h.2.size) hne).trans (h.2.block i hi hne)⟩⟩
theorem OnB.alloc (h : OnB b w w') (hb : b ≤ w'.heap.size) (o : Obj) : OnB b w (w'.alloc o) := ⟨h.1.alloc hb o, only_alloc h.2 o⟩
theorem OnB.setNew (h : OnB b w w') {p : Addr} (hp : w.heap.size ≤ p.block) (hb : b ≤ w.heap.size) (u : Value) : OnB b w (w'.setCell p u) :=
  ⟨h.1.setCell (by omega) u, only_setCell h.2 (.inr hp) u⟩
theorem OnB.drewN (h : OnB b w w') (n : Nat) : OnB b w (w'.drewN n) := ⟨below_drewN h.1 n, only_drewN h.2 n⟩
theorem OnB.new (hb : b ≤ w.heap.size) (h : Below w.heap.size w w') : OnB b w w' := ⟨h.mono hb, only_of_below h _⟩
theorem OnB.setB (b i : Nat) (w : World) (u : Value) : OnB b w (w.setCell ⟨b, i, none⟩ u) :=
  ⟨(Below.refl b w).setCell (p := ⟨b, i, none⟩) (Nat.le_refl b) u, only_setCell (p := ⟨b, i, none⟩) (World.grownBy.refl _ _) (.inl rfl) u⟩
/-- A block that is not b is as it was. -/
theorem OnB.blk {g : Nat} {t : TypeId} {cs : Array Value} (h : OnB b w w') (hg : Blk w g t cs) (hne : g ≠ b) : Blk w' g t cs := (h.2.block g hg.lt (by simp; omega)).trans hg
theorem OnB.cell {p : Addr} (h : OnB b w w') (hlt : p.block < w.heap.size) (hne : p.block ≠ b) : w'.cell? p = w.cell? p := World.cell?_of_block (h.2.block p.block hlt (by simp; omega))
theorem RdSt.lt (h : RdSt w b l) : b < w.heap.size := by
  obtain ⟨A, c, hB, _⟩ := h
  exact hB.lt
theorem RdSt.keep (h : RdSt w b l) (hk : Below (b + 1) w w') : RdSt w' b l := by
  obtain ⟨A, c, hB, hR, h1, h2, hA⟩ := h
  exact ⟨A, c, hB.below hk (Nat.lt_succ_self _), hR.below (hk.mono (Nat.le_succ _)), h1, h2, hA⟩
/-- A store into a block that is neither its own nor the runes'. -/
theorem RdSt.apart (h : RdSt w b l) {p : Addr} (h1 : p.block ≠ b) (h2 : p.block + 1 ≠ b) (u : Value) : RdSt (w.setCell p u) b l := by
  obtain ⟨A, c, hB, hR, h3, h4, hA⟩ := h
  refine ⟨A, c, hB.far (fun e => h1 e.symm) _, ⟨hR.1, fun hn => ?_⟩, h3, h4, hA⟩
  obtain ⟨ad, e, hb, hc⟩ := hR.2 hn
  have hbb := hA ad e
  refine ⟨ad, e, hb, fun j u hu => ?_⟩
  rw [World.cell?_setCell_other _ _ _ _ (fun e2 => by
    have := congrArg Addr.block e2
    rw [block_of_add] at this
    omega)]
  exact hc j u hu
theorem RdSt.head {x : Int} {r : List Int} (h : RdSt w b (x :: r)) : ∃ ad c, w.cell? ⟨b, 0, none⟩ = some (.slice (some ad) (r.length + 1) c) ∧ w.frozen? ⟨b, 0, none⟩ = false ∧ ad.block < b ∧ w.cell? ad = some (.int .i32 x) ∧ r.length + 1 ≤ c ∧ c ≤ maxLen ∧
    (c = 1 → r = [] ∧ RdSt (w.setCell ⟨b, 0, none⟩ (.slice (some ad) 0 0)) b []) ∧ RdSt (w.setCell ⟨b, 0, none⟩ (.slice (some ⟨ad.block, ad.off + 1, none⟩) r.length (c - 1))) b r := by
  obtain ⟨A, c, hB, hR, h1, h2, hA⟩ := h
  obtain ⟨ad, e, hb, hc⟩ := hR.2 (by simp)
  subst e
  have hA' := hA ad rfl
  have h1' : r.length + 1 ≤ c := by simpa using h1
  refine ⟨ad, c, hB.cell 0, hB.frozen 0, hb, ?_, h1', h2, fun e => ?_, ?_⟩
  · have := hc 0 (.int .i32 x) rfl
    simpa [Addr.add] using this
  · have hr : r = [] := List.eq_nil_of_length_eq_zero (by omega)
    subst hr
    exact ⟨rfl, some ad, 0, hB.set_ 0 _, ⟨by simp [rv], fun h => absurd h (by simp)⟩, by simp, by unfold maxLen; omega, hA⟩
  · refine ⟨some ⟨ad.block, ad.off + 1, none⟩, c - 1, hB.set_ 0 _, ⟨by simp [rv], fun hn => ⟨_, rfl, hb, fun j u hu => ?_⟩⟩, by omega, by omega, fun ad2 e2 => by cases e2; exact hA'⟩
    have := hc (j + 1) u (by simpa [rv] using hu)
    rw [World.cell?_setCell_other _ _ _ _ (fun e => by
      have := congrArg Addr.block e
      rw [block_of_add] at this
      simp at this; omega)]
    rw [← this]
    congr 1
    unfold Addr.add
    rw [if_neg (by omega : ¬ j + 1 = 0)]
    split
    · rename_i hj; subst hj; rfl
    · rw [Nat.add_assoc, Nat.add_comm 1 j]
theorem RdSt.nil_ (h : RdSt w b []) : ∃ A c, w.cell? ⟨b, 0, none⟩ = some (.slice A 0 c) := by
  obtain ⟨A, c, hB, _⟩ := h
  exact ⟨A, c, hB.cell 0⟩
end
set_option maxRecDepth 100000 in
theorem grnext_nil (w : World) (b : Nat) (h : RdSt w b []) :
    Calls Tryz.prog 100 #[.pointer (some ⟨b, 0, none⟩)] w fun e w' => e = .returned (.tuple #[.int .i32 0, .bool false]) ∧ w = w' := by
  obtain ⟨A, c, c0⟩ := h.nil_
  clear h
  go_enter Tryz.func100, Tryz.ntmps100
  go_wp2_with fail
  go_ret2
  exact ⟨rfl, rfl⟩
set_option maxRecDepth 100000 in
set_option maxHeartbeats 1000000 in
theorem grnext_cons (w : World) (b : Nat) (x : Int) (r : List Int) (h : RdSt w b (x :: r)) :
    Calls Tryz.prog 100 #[.pointer (some ⟨b, 0, none⟩)] w fun e w' => e = .returned (.tuple #[.int .i32 x, .bool true]) ∧ RdSt w' b r ∧ OnB b w w' := by
  obtain ⟨ad, c, c0, f0, hab, ca, h1, h2, h3, h4⟩ := h.head
  have hne : (((r.length : Int) + 1) == 0) = false := by rw [beq_eq_false_iff_ne]; omega
  clear h
  by_cases hc : c = 1
  · subst hc
    obtain ⟨rfl, h5⟩ := h3 rfl
    clear h3 h4
    replace h5 := hide h5
    go_enter Tryz.func100, Tryz.ntmps100
    go_wp2_with fail
    go_ret2
    exact ⟨rfl, h5.out, OnB.setB _ _ _ _⟩
  · have hcc : (c == 1) = false := by simp [hc]
    clear h3
    replace h4 := hide h4
    go_enter Tryz.func100, Tryz.ntmps100
    go_wp2_with fail
    go_ret2
    exact ⟨rfl, h4.out, OnB.setB _ _ _ _⟩
theorem isR_nil (c : Int) : isR c [] = false := by simp [isR]
theorem isR_cons (c x : Int) (r : List Int) : isR c (x :: r) = decide (x = c) := by
  simp only [isR, List.head?_cons]
  rw [Bool.eq_iff_iff]; simp
set_option maxRecDepth 100000 in
set_option maxHeartbeats 1000000 in
theorem gris_any (w : World) (b : Nat) (l : List Int) (k : Int) (h : RdSt w b l) :
    Calls Tryz.prog 89 #[.pointer (some ⟨b, 0, none⟩), .int .i32 k] w fun e w' => e = .returned (.bool (isR k l)) ∧ RdSt w' b (if isR k l = true then l.tail else l) ∧ OnB b w w' := by
  have H := hide h
  cases l with
  | nil =>
    obtain ⟨A, c, c0⟩ := h.nil_
    have hr : Hid (isR k [] = false) := isR_nil k
    rw [hr.out]
    clear h
    go_enter Tryz.func89, Tryz.ntmps89
    go_wp2_with fail
    go_ret
    exact ⟨rfl, H.out, OnB.refl _ _⟩
  | cons x r =>
    obtain ⟨ad, c, c0, f0, hab, ca, h1, h2, h3, h4⟩ := h.head
    have hne : (((r.length : Int) + 1) == 0) = false := by rw [beq_eq_false_iff_ne]; omega
    clear h
    by_cases e1 : x = k
    · have n1 : (x != k) = false := by simp [e1]
      have hr : Hid (isR k (x :: r) = true) := by rw [Hid, isR_cons]; simp [e1]
      rw [hr.out]
      clear e1 hr
      by_cases hc : c = 1
      · subst hc
        obtain ⟨rfl, h5⟩ := h3 rfl
        clear h3 h4
        replace h5 := hide h5
        go_enter Tryz.func89, Tryz.ntmps89
        go_wp2_with fail
        go_ret
        exact ⟨rfl, h5.out, OnB.setB _ _ _ _⟩
      · have hcc : (c == 1) = false := by simp [hc]
        clear h3
        replace h4 := hide h4
        go_enter Tryz.func89, Tryz.ntmps89
        go_wp2_with fail
        go_ret
        exact ⟨rfl, h4.out, OnB.setB _ _ _ _⟩
    · have n1 : (x != k) = true := by simp [e1]
      have hr : Hid (isR k (x :: r) = false) := by rw [Hid, isR_cons]; simp [e1]
      rw [hr.out]
      clear e1 hr h3 h4
      go_enter Tryz.func89, Tryz.ntmps89
      go_wp2_with fail
      go_ret
      exact ⟨rfl, H.out, OnB.refl _ _⟩
/-- What plain answers. -/
def PlainRet (w : World) (b : Nat) (l : List Int) (e : Ending) (w' : World) : Prop :=
  OnB b w w' ∧ ((∃ c r, plainR l = some (c, r) ∧ e = .returned (.tuple #[.int .i32 c, .bool true]) ∧ RdSt w' b r) ∨ (plainR l = none ∧ e = .returned (.tuple #[.int .i32 0, .bool false]) ∧ RdSt w' b []))
theorem plainR_ne {x : Int} (r : List Int) (h : x ≠ 92) : plainR (x :: r) = some (x, r) := by cases r <;> simp [plainR, h]
set_option maxRecDepth 100000 in
set_option maxHeartbeats 1000000 in
theorem grplain_any (w : World) (b : Nat) (l : List Int) (h : RdSt w b l) :
    Calls Tryz.prog 91 #[.pointer (some ⟨b, 0, none⟩)] w (PlainRet w b l) := by
  cases l with
  | nil =>
    have H := hide h
    go_enter Tryz.func91, Tryz.ntmps91
    go_wp2_with fail
    refine (grnext_nil _ b h).mono ?_
    rintro e w1 ⟨rfl, rfl⟩
    clear h
    go_wp2_with fail
    go_ret2
    exact ⟨OnB.refl _ _, .inr ⟨rfl, rfl, H.out⟩⟩
  | cons x r =>
    by_cases e1 : x = 92
    · subst e1
      cases r with
      | nil =>
        go_enter Tryz.func91, Tryz.ntmps91
        go_wp2_with fail
        refine (grnext_cons _ b _ _ h).mono ?_
        rintro e w1 ⟨rfl, h1, hb1⟩
        have H := hide h1
        clear h
        go_wp2_with fail
        refine (grnext_nil _ b h1).mono ?_
        rintro e w2 ⟨rfl, rfl⟩
        clear h1
        go_wp2_with fail
        go_ret2
        exact ⟨hb1, .inr ⟨rfl, rfl, H.out⟩⟩
      | cons y s =>
        go_enter Tryz.func91, Tryz.ntmps91
        go_wp2_with fail
        refine (grnext_cons _ b _ _ h).mono ?_
        rintro e w1 ⟨rfl, h1, hb1⟩
        clear h
        go_wp2_with fail
        refine (grnext_cons _ b _ _ h1).mono ?_
        rintro e w2 ⟨rfl, h2, hb2⟩
        clear h1
        go_wp2_with fail
        go_ret2
        exact ⟨hb1.trans hb2, .inl ⟨y, s, by simp [plainR], rfl, h2⟩⟩
    · have n1 : (x == 92) = false := by simp [e1]
      have hp := hide (plainR_ne r e1)
      clear e1
      go_enter Tryz.func91, Tryz.ntmps91
      go_wp2_with fail
      refine (grnext_cons _ b _ _ h).mono ?_
      rintro e w1 ⟨rfl, h1, hb1⟩
      clear h
      go_wp2_with fail
      go_ret2
      exact ⟨hb1, .inl ⟨x, r, hp.out, rfl, h1⟩⟩
end Go.Proofs.YtnnjcedlomfhoaaGreatDoor
namespace Go.Proofs.YtnnjcedlomfhoaaGreatDoor
open Go.RowKit
set_option linter.unusedVariables false
/-- The call owns a row of runes, from block q + 1 on. -/
def OR (w : World) (q : Nat) (v : Value) (l : List Int) : Prop := w.ownsRow (q + 1) 21 1 v l.length (rv l)
theorem rune_info : (Tryz.prog.info? 21).map (fun i => (i.zero, i.size, i.bytes)) = some (some (.int .i32 0), 1, 4) := by kernel_rfl
theorem rv_one (l : List Int) : ∀ u ∈ rv l, u.oneCell' = true := by
  intro u hu
  obtain ⟨_, _, rfl⟩ := List.mem_map.1 hu
  rfl
section
variable {w w' : World} {q : Nat} {v : Value} {l : List Int}
theorem OR.nil (w : World) (q : Nat) : OR w q (.slice none 0 0) [] := ⟨by simp [rv], .inl ⟨rfl, rfl⟩⟩
theorem OR.alloc (h : OR w q v l) (o : Obj) : OR (w.alloc o) q v l := World.ownsRow.alloc h o
theorem OR.drewN (h : OR w q v l) (k : Nat) : OR (w.drewN k) q v l := h
theorem OR.own (h : OR w q v l) (k : Nat) (hk : v.ownBlock = some k) : q + 1 ≤ k ∧ k < w.heap.size := by
  rcases h.2 with ⟨rfl, _⟩ | ⟨g, cap, cur, rfl, hg, hh, _⟩
  · simp [Value.ownBlock] at hk
  · simp [Value.ownBlock] at hk
    subst hk
    refine ⟨hg, ?_⟩
    rcases Nat.lt_or_ge g w.heap.size with hlt | hge
    · exact hlt
    · rw [Array.getElem?_eq_none hge] at hh; cases hh
/-- Its own block is as it was: it is what it was. -/
theorem OR.keep (h : OR w q v l) (hk : ∀ k, v.ownBlock = some k → w'.heap[k]? = w.heap[k]?) : OR w' q v l := by
  obtain ⟨h1, h2⟩ := h
  refine ⟨h1, ?_⟩
  rcases h2 with h2 | ⟨g, cap, cur, hv, hg, hh, r⟩
  · exact Or.inl h2
  · exact Or.inr ⟨g, cap, cur, hv, hg, by rw [hk g (by rw [hv]; rfl)]; exact hh, r⟩
theorem OR.grown {row : Option Nat} (h : OR w q v l) (hg : w.grownBy w' row) (hd : ∀ k, v.ownBlock = some k → row ≠ some k) : OR w' q v l :=
  h.keep fun k hk => hg.block k (h.own k hk).2 (fun e => hd k hk e.symm)
theorem OR.below {B : Nat} (h : OR w q v l) (hb : Below B w w') (hs : w.heap.size ≤ B) : OR w' q v l :=
  h.keep fun k hk => hb.block k (by have := (h.own k hk).2; omega)
theorem OR.set_ {g i : Nat} (h : OR w q v l) (hg : g ≤ q) (u : Value) : OR (w.setCell ⟨g, i, none⟩ u) q v l :=
  h.keep fun k hk => Below.heap_setCell w ⟨g, i, none⟩ u k (by have := (h.own k hk).1; simp; omega)
theorem OR.more {q' : Nat} (h : OR w q v l) (hq : q' ≤ q) : OR w q' v l := by
  obtain ⟨h1, h2⟩ := h
  refine ⟨h1, ?_⟩
  rcases h2 with h2 | ⟨g, cap, cur, hv, hg, hh, r⟩
  · exact Or.inl h2
  · exact Or.inr ⟨g, cap, cur, hv, by omega, hh, r⟩
theorem OR.form (h : OR w q v l) : ∃ A c, v = .slice A l.length c ∧ Reads w w.heap.size 1 A l.length (rv l) ∧ l.length ≤ c ∧ c ≤ maxLen := by
  have h2 := h.2
  rcases h2 with ⟨rfl, hl⟩ | ⟨g, cap, cur, rfl, _, _, h3, h4, _⟩
  · have : l = [] := by simpa [rv] using hl
    subst this
    exact ⟨none, 0, rfl, Reads.of_own h, Nat.le_refl _, Nat.zero_le _⟩
  · exact ⟨_, _, rfl, Reads.of_own h, h3, h4⟩
end
/-- Two rows that do not lie in one block. -/
def Dis (a b : Value) : Prop := ∀ g, a.ownBlock = some g → b.ownBlock ≠ some g
/-- A block of one rune, that is none of two rows' own. -/
def New1 (w : World) (q : Nat) (x : Int) (g : Nat) (a b : Value) : Prop := q < g ∧ Blk w g 21 #[.int .i32 x] ∧ a.ownBlock ≠ some g ∧ b.ownBlock ≠ some g
def cur (b : Bool) (a c : Value) : Value := if b = true then c else a
/-- The state in the midst of the statement: L: what came up; U: the slots. -/
structure CM (w0 : World) (q : Nat) (no : Bool) (x y : Int) (F T : List Int) (vf vt : Value) (L : Nat → Bool) (U : Nat → Value) (w : World) : Prop where
  s0 : L 0 = true → U 66 = .pointer (some ⟨q, 1, none⟩)
  s1 : L 1 = true → U 67 = vf
  s2 : L 2 = true → U 68 = .int .i32 x
  s3 : L 3 = true → ∃ g, U 69 = .slice (some ⟨g, 0, none⟩) 1 1 ∧ New1 w q x g (cur (L 4) vf (U 70)) (cur (L 9) vt (U 75))
  s5 : L 5 = true → U 71 = .pointer (some ⟨q, 2, none⟩)
  s6 : L 6 = true → U 72 = vt
  s7 : L 7 = true → U 73 = .int .i32 y
  s8 : L 8 = true → ∃ g, U 74 = .slice (some ⟨g, 0, none⟩) 1 1 ∧ New1 w q y g (cur (L 4) vf (U 70)) (cur (L 9) vt (U 75))
  s10 : L 10 = true → U 76 = .pointer (some ⟨q, 1, none⟩)
  s12 : L 12 = true → U 77 = .pointer (some ⟨q, 2, none⟩)
  own1 : OR w q (cur (L 4) vf (U 70)) (if L 4 = true then F ++ [x] else F)
  own2 : OR w q (cur (L 9) vt (U 75)) (if L 9 = true then T ++ [y] else T)
  dis : Dis (cur (L 4) vf (U 70)) (cur (L 9) vt (U 75))
  blk : Blk w q 188 #[.bool no, cur (L 11) vf (U 70), cur (L 13) vt (U 75)]
  low : Below q w0 w
  d4 : L 4 = true → L 1 = true
  d9 : L 9 = true → L 6 = true
  d11 : L 11 = true → L 4 = true
  d13 : L 13 = true → L 9 = true
def upL (L : Nat → Bool) (i : Nat) : Nat → Bool := fun j => if j = i then true else L j
def upU (U : Nat → Value) (s : Nat) (v : Value) : Nat → Value := fun n => if n = s then v else U n
section
variable {w0 w w' : World} {q : Nat} {no : Bool} {x y : Int} {F T : List Int} {vf vt : Value} {L : Nat → Bool} {U : Nat → Value}
theorem CM.pure0 (h : CM w0 q no x y F T vf vt L U w) : CM w0 q no x y F T vf vt (upL L 0) (upU U 66 (.pointer (some ⟨q, 1, none⟩))) w where
  s0 := fun _ => by simp [upU]
  s1 := by simpa [upL, upU] using h.s1
  s2 := by simpa [upL, upU] using h.s2
  s3 := by simpa [upL, upU] using h.s3
  s5 := by simpa [upL, upU] using h.s5
  s6 := by simpa [upL, upU] using h.s6
  s7 := by simpa [upL, upU] using h.s7
  s8 := by simpa [upL, upU] using h.s8
  s10 := by simpa [upL, upU] using h.s10
  s12 := by simpa [upL, upU] using h.s12
  own1 := by simpa [upL, upU] using h.own1
  own2 := by simpa [upL, upU] using h.own2
  dis := by simpa [upL, upU] using h.dis
  blk := by simpa [upL, upU] using h.blk
  low := h.low
  d4 := by simpa [upL, upU] using h.d4
  d9 := by simpa [upL, upU] using h.d9
  d11 := by simpa [upL, upU] using h.d11
  d13 := by simpa [upL, upU] using h.d13
theorem CM.pure1 (h : CM w0 q no x y F T vf vt L U w) : CM w0 q no x y F T vf vt (upL L 1) (upU U 67 (vf)) w where
  s0 := by simpa [upL, upU] using h.s0
  s1 := fun _ => by simp [upU]
  s2 := by simpa [upL, upU] using h.s2
  s3 := by simpa [upL, upU] using h.s3
  s5 := by simpa [upL, upU] using h.s5
  s6 := by simpa [upL, upU] using h.s6
  s7 := by simpa [upL, upU] using h.s7
  s8 := by simpa [upL, upU] using h.s8
  s10 := by simpa [upL, upU] using h.s10
  s12 := by simpa [upL, upU] using h.s12
  own1 := by simpa [upL, upU] using h.own1
  own2 := by simpa [upL, upU] using h.own2
  dis := by simpa [upL, upU] using h.dis
  blk := by simpa [upL, upU] using h.blk
  low := h.low
  d4 := fun _ => by simp [upL]
  d9 := by simpa [upL, upU] using h.d9
  d11 := by simpa [upL, upU] using h.d11
  d13 := by simpa [upL, upU] using h.d13
theorem CM.pure2 (h : CM w0 q no x y F T vf vt L U w) : CM w0 q no x y F T vf vt (upL L 2) (upU U 68 (.int .i32 x)) w where
  s0 := by simpa [upL, upU] using h.s0
  s1 := by simpa [upL, upU] using h.s1
  s2 := fun _ => by simp [upU]
  s3 := by simpa [upL, upU] using h.s3
  s5 := by simpa [upL, upU] using h.s5
  s6 := by simpa [upL, upU] using h.s6
  s7 := by simpa [upL, upU] using h.s7
  s8 := by simpa [upL, upU] using h.s8
  s10 := by simpa [upL, upU] using h.s10
  s12 := by simpa [upL, upU] using h.s12
  own1 := by simpa [upL, upU] using h.own1
  own2 := by simpa [upL, upU] using h.own2
  dis := by simpa [upL, upU] using h.dis
  blk := by simpa [upL, upU] using h.blk
  low := h.low
  d4 := by simpa [upL, upU] using h.d4
  d9 := by simpa [upL, upU] using h.d9
  d11 := by simpa [upL, upU] using h.d11
  d13 := by simpa [upL, upU] using h.d13
theorem CM.pure5 (h : CM w0 q no x y F T vf vt L U w) : CM w0 q no x y F T vf vt (upL L 5) (upU U 71 (.pointer (some ⟨q, 2, none⟩))) w where
  s0 := by simpa [upL, upU] using h.s0
  s1 := by simpa [upL, upU] using h.s1
  s2 := by simpa [upL, upU] using h.s2
  s3 := by simpa [upL, upU] using h.s3
  s5 := fun _ => by simp [upU]
  s6 := by simpa [upL, upU] using h.s6
  s7 := by simpa [upL, upU] using h.s7
  s8 := by simpa [upL, upU] using h.s8
  s10 := by simpa [upL, upU] using h.s10
  s12 := by simpa [upL, upU] using h.s12
  own1 := by simpa [upL, upU] using h.own1
  own2 := by simpa [upL, upU] using h.own2
  dis := by simpa [upL, upU] using h.dis
  blk := by simpa [upL, upU] using h.blk
  low := h.low
  d4 := by simpa [upL, upU] using h.d4
  d9 := by simpa [upL, upU] using h.d9
  d11 := by simpa [upL, upU] using h.d11
  d13 := by simpa [upL, upU] using h.d13
theorem CM.pure6 (h : CM w0 q no x y F T vf vt L U w) : CM w0 q no x y F T vf vt (upL L 6) (upU U 72 (vt)) w where
  s0 := by simpa [upL, upU] using h.s0
  s1 := by simpa [upL, upU] using h.s1
  s2 := by simpa [upL, upU] using h.s2
  s3 := by simpa [upL, upU] using h.s3
  s5 := by simpa [upL, upU] using h.s5
  s6 := fun _ => by simp [upU]
  s7 := by simpa [upL, upU] using h.s7
  s8 := by simpa [upL, upU] using h.s8
  s10 := by simpa [upL, upU] using h.s10
  s12 := by simpa [upL, upU] using h.s12
  own1 := by simpa [upL, upU] using h.own1
  own2 := by simpa [upL, upU] using h.own2
  dis := by simpa [upL, upU] using h.dis
  blk := by simpa [upL, upU] using h.blk
  low := h.low
  d4 := by simpa [upL, upU] using h.d4
  d9 := fun _ => by simp [upL]
  d11 := by simpa [upL, upU] using h.d11
  d13 := by simpa [upL, upU] using h.d13
theorem CM.pure7 (h : CM w0 q no x y F T vf vt L U w) : CM w0 q no x y F T vf vt (upL L 7) (upU U 73 (.int .i32 y)) w where
  s0 := by simpa [upL, upU] using h.s0
  s1 := by simpa [upL, upU] using h.s1
  s2 := by simpa [upL, upU] using h.s2
  s3 := by simpa [upL, upU] using h.s3
  s5 := by simpa [upL, upU] using h.s5
  s6 := by simpa [upL, upU] using h.s6
  s7 := fun _ => by simp [upU]
  s8 := by simpa [upL, upU] using h.s8
  s10 := by simpa [upL, upU] using h.s10
  s12 := by simpa [upL, upU] using h.s12
  own1 := by simpa [upL, upU] using h.own1
  own2 := by simpa [upL, upU] using h.own2
  dis := by simpa [upL, upU] using h.dis
  blk := by simpa [upL, upU] using h.blk
  low := h.low
  d4 := by simpa [upL, upU] using h.d4
  d9 := by simpa [upL, upU] using h.d9
  d11 := by simpa [upL, upU] using h.d11
  d13 := by simpa [upL, upU] using h.d13
theorem CM.pure10 (h : CM w0 q no x y F T vf vt L U w) : CM w0 q no x y F T vf vt (upL L 10) (upU U 76 (.pointer (some ⟨q, 1, none⟩))) w where
  s0 := by simpa [upL, upU] using h.s0
  s1 := by simpa [upL, upU] using h.s1
  s2 := by simpa [upL, upU] using h.s2
  s3 := by simpa [upL, upU] using h.s3
  s5 := by simpa [upL, upU] using h.s5
  s6 := by simpa [upL, upU] using h.s6
  s7 := by simpa [upL, upU] using h.s7
  s8 := by simpa [upL, upU] using h.s8
  s10 := fun _ => by simp [upU]
  s12 := by simpa [upL, upU] using h.s12
  own1 := by simpa [upL, upU] using h.own1
  own2 := by simpa [upL, upU] using h.own2
  dis := by simpa [upL, upU] using h.dis
  blk := by simpa [upL, upU] using h.blk
  low := h.low
  d4 := by simpa [upL, upU] using h.d4
  d9 := by simpa [upL, upU] using h.d9
  d11 := by simpa [upL, upU] using h.d11
  d13 := by simpa [upL, upU] using h.d13
theorem CM.pure12 (h : CM w0 q no x y F T vf vt L U w) : CM w0 q no x y F T vf vt (upL L 12) (upU U 77 (.pointer (some ⟨q, 2, none⟩))) w where
  s0 := by simpa [upL, upU] using h.s0
  s1 := by simpa [upL, upU] using h.s1
  s2 := by simpa [upL, upU] using h.s2
  s3 := by simpa [upL, upU] using h.s3
  s5 := by simpa [upL, upU] using h.s5
  s6 := by simpa [upL, upU] using h.s6
  s7 := by simpa [upL, upU] using h.s7
  s8 := by simpa [upL, upU] using h.s8
  s10 := by simpa [upL, upU] using h.s10
  s12 := fun _ => by simp [upU]
  own1 := by simpa [upL, upU] using h.own1
  own2 := by simpa [upL, upU] using h.own2
  dis := by simpa [upL, upU] using h.dis
  blk := by simpa [upL, upU] using h.blk
  low := h.low
  d4 := by simpa [upL, upU] using h.d4
  d9 := by simpa [upL, upU] using h.d9
  d11 := by simpa [upL, upU] using h.d11
  d13 := by simpa [upL, upU] using h.d13
theorem CM.build3 (h : CM w0 q no x y F T vf vt L U w) : CM w0 q no x y F T vf vt (upL L 3) (upU U 69 (.slice (some ⟨w.heap.size, 0, none⟩) 1 1)) (w.alloc (.cells #[.int .i32 x] 21)) where
  s0 := by simpa [upL, upU] using h.s0
  s1 := by simpa [upL, upU] using h.s1
  s2 := by simpa [upL, upU] using h.s2
  s3 := fun _ => by
    refine ⟨w.heap.size, by simp [upU], ?_⟩
    have h1 := h.own1
    have h2 := h.own2
    have hb := h.blk.lt
    simp only [upL, upU, show (4 : Nat) ≠ 3 from by decide, show (9 : Nat) ≠ 3 from by decide, show (70 : Nat) ≠ 69 from by decide, show (75 : Nat) ≠ 69 from by decide, if_false]
    exact ⟨hb, Blk.new _ _ _, fun e => by have := (h1.own _ e).2; omega, fun e => by have := (h2.own _ e).2; omega⟩
  s5 := by simpa [upL, upU] using h.s5
  s6 := by simpa [upL, upU] using h.s6
  s7 := by simpa [upL, upU] using h.s7
  s8 := by
    intro hl
    obtain ⟨g, e, n1, n2, n3, n4⟩ := h.s8 (by simpa [upL] using hl)
    exact ⟨g, by simpa [upU] using e, n1, n2.alloc _, by simpa [upL, upU] using n3, by simpa [upL, upU] using n4⟩
  s10 := by simpa [upL, upU] using h.s10
  s12 := by simpa [upL, upU] using h.s12
  own1 := by simpa [upL, upU] using h.own1.alloc (.cells #[.int .i32 x] 21)
  own2 := by simpa [upL, upU] using h.own2.alloc (.cells #[.int .i32 x] 21)
  dis := by simpa [upL, upU] using h.dis
  blk := by simpa [upL, upU] using h.blk.alloc (.cells #[.int .i32 x] 21)
  low := h.low.alloc (Nat.le_of_lt h.blk.lt) _
  d4 := by simpa [upL, upU] using h.d4
  d9 := by simpa [upL, upU] using h.d9
  d11 := by simpa [upL, upU] using h.d11
  d13 := by simpa [upL, upU] using h.d13
theorem CM.build8 (h : CM w0 q no x y F T vf vt L U w) : CM w0 q no x y F T vf vt (upL L 8) (upU U 74 (.slice (some ⟨w.heap.size, 0, none⟩) 1 1)) (w.alloc (.cells #[.int .i32 y] 21)) where
  s0 := by simpa [upL, upU] using h.s0
  s1 := by simpa [upL, upU] using h.s1
  s2 := by simpa [upL, upU] using h.s2
  s3 := by
    intro hl
    obtain ⟨g, e, n1, n2, n3, n4⟩ := h.s3 (by simpa [upL] using hl)
    exact ⟨g, by simpa [upU] using e, n1, n2.alloc _, by simpa [upL, upU] using n3, by simpa [upL, upU] using n4⟩
  s5 := by simpa [upL, upU] using h.s5
  s6 := by simpa [upL, upU] using h.s6
  s7 := by simpa [upL, upU] using h.s7
  s8 := fun _ => by
    refine ⟨w.heap.size, by simp [upU], ?_⟩
    have h1 := h.own1
    have h2 := h.own2
    have hb := h.blk.lt
    simp only [upL, upU, show (4 : Nat) ≠ 8 from by decide, show (9 : Nat) ≠ 8 from by decide, show (70 : Nat) ≠ 74 from by decide, show (75 : Nat) ≠ 74 from by decide, if_false]
    exact ⟨hb, Blk.new _ _ _, fun e => by have := (h1.own _ e).2; omega, fun e => by have := (h2.own _ e).2; omega⟩
  s10 := by simpa [upL, upU] using h.s10
  s12 := by simpa [upL, upU] using h.s12
  own1 := by simpa [upL, upU] using h.own1.alloc (.cells #[.int .i32 y] 21)
  own2 := by simpa [upL, upU] using h.own2.alloc (.cells #[.int .i32 y] 21)
  dis := by simpa [upL, upU] using h.dis
  blk := by simpa [upL, upU] using h.blk.alloc (.cells #[.int .i32 y] 21)
  low := h.low.alloc (Nat.le_of_lt h.blk.lt) _
  d4 := by simpa [upL, upU] using h.d4
  d9 := by simpa [upL, upU] using h.d9
  d11 := by simpa [upL, upU] using h.d11
  d13 := by simpa [upL, upU] using h.d13
theorem CM.app4 {v2 : Value} (h : CM w0 q no x y F T vf vt L U w) (hL : L 4 = false) (h1 : L 1 = true) (ho : OR w' q v2 (F ++ [x])) (hg : w.grownBy w' vf.ownBlock) (hv : v2.ownBlock = vf.ownBlock ∨ v2.ownBlock = some w.heap.size) (hst : L 11 = false) :
    CM w0 q no x y F T vf vt (upL L 4) (upU U 70 v2) w' := by
  have hme := h.own1
  have hot := h.own2
  have hdis := h.dis
  rw [show L 4 = false from hL] at hme
  rw [show L 4 = false from hL] at hdis
  simp only [cur, Bool.false_eq_true, if_false] at hme hdis
  have hq : vf.ownBlock ≠ some q := fun e => by have := (hme.own _ e).1; omega
  have hlow : ∀ k, vf.ownBlock = some k → q ≤ k := fun k e => by have := (hme.own _ e).1; omega
  have hnew : ∀ g, g < w.heap.size → vf.ownBlock ≠ some g → v2.ownBlock ≠ some g := fun g hg2 hne e => by
    rcases hv with hv | hv
    · exact hne (hv ▸ e)
    · rw [hv] at e; cases e; omega
  have hd2 : Dis v2 (cur (L 9) vt (U 75)) := by
    intro g e
    rcases hv with hv | hv
    · exact hdis g (hv ▸ e)
    · rw [hv] at e; cases e
      exact fun e => by have := (hot.own _ e).2; omega
  have hodis : ∀ k, (cur (L 9) vt (U 75)).ownBlock = some k → vf.ownBlock ≠ some k := fun k e e2 => hdis k e2 e
  refine { s0 := by simpa [upL, upU] using h.s0, s1 := by simpa [upL, upU] using h.s1, s2 := by simpa [upL, upU] using h.s2, s3 := ?_, s5 := by simpa [upL, upU] using h.s5, s6 := by simpa [upL, upU] using h.s6, s7 := by simpa [upL, upU] using h.s7, s8 := ?_, s10 := by simpa [upL, upU] using h.s10, s12 := by simpa [upL, upU] using h.s12, own1 := ?_, own2 := ?_, dis := ?_, blk := ?_, low := h.low.grown hg (Nat.le_of_lt h.blk.lt) hlow, d4 := ?_, d9 := ?_, d11 := ?_, d13 := ?_ }
  · intro hl
    obtain ⟨g, e, n1, n2, n3, n4⟩ := h.s3 (by simpa [upL] using hl)
    refine ⟨g, by simpa [upU] using e, n1, n2.grown hg (fun e => ?_), ?_, ?_⟩
    · rw [hL] at n3; exact n3 e.symm
    · simp only [upL, upU, cur, if_true]
      exact hnew g n2.lt (by rw [hL] at n3; exact n3)
    · simpa [upL, upU] using n4
  · intro hl
    obtain ⟨g, e, n1, n2, n3, n4⟩ := h.s8 (by simpa [upL] using hl)
    refine ⟨g, by simpa [upU] using e, n1, n2.grown hg (fun e => ?_), ?_, ?_⟩
    · rw [hL] at n3; exact n3 e.symm
    · simp only [upL, upU, cur, if_true]
      exact hnew g n2.lt (by rw [hL] at n3; exact n3)
    · simpa [upL, upU] using n4
  · simpa [upL, upU, cur] using ho
  · have := hot.grown hg (fun k e e2 => hodis k e e2)
    simpa [upL, upU] using this
  · simpa [upL, upU, cur] using hd2
  · have := h.blk.grown hg (fun e => hq e.symm)
    simpa [upL, upU, cur, hst] using this
  · intro _; simpa [upL] using h1
  · simpa [upL, upU] using h.d9
  · intro _; simp [upL]
  · simpa [upL, upU] using h.d13
theorem CM.app9 {v2 : Value} (h : CM w0 q no x y F T vf vt L U w) (hL : L 9 = false) (h1 : L 6 = true) (ho : OR w' q v2 (T ++ [y])) (hg : w.grownBy w' vt.ownBlock) (hv : v2.ownBlock = vt.ownBlock ∨ v2.ownBlock = some w.heap.size) (hst : L 13 = false) :
    CM w0 q no x y F T vf vt (upL L 9) (upU U 75 v2) w' := by
  have hme := h.own2
  have hot := h.own1
  have hdis := h.dis
  rw [show L 9 = false from hL] at hme
  rw [show L 9 = false from hL] at hdis
  simp only [cur, Bool.false_eq_true, if_false] at hme hdis
  have hq : vt.ownBlock ≠ some q := fun e => by have := (hme.own _ e).1; omega
  have hlow : ∀ k, vt.ownBlock = some k → q ≤ k := fun k e => by have := (hme.own _ e).1; omega
  have hnew : ∀ g, g < w.heap.size → vt.ownBlock ≠ some g → v2.ownBlock ≠ some g := fun g hg2 hne e => by
    rcases hv with hv | hv
    · exact hne (hv ▸ e)
    · rw [hv] at e; cases e; omega
  have hd2 : Dis (cur (L 4) vf (U 70)) v2 := by
    intro g e e2
    rcases hv with hv | hv
    · exact hdis g e (hv ▸ e2)
    · rw [hv] at e2; cases e2
      have := (hot.own _ e).2; omega
  have hodis : ∀ k, (cur (L 4) vf (U 70)).ownBlock = some k → vt.ownBlock ≠ some k := fun k e e2 => hdis k e e2
  refine { s0 := by simpa [upL, upU] using h.s0, s1 := by simpa [upL, upU] using h.s1, s2 := by simpa [upL, upU] using h.s2, s3 := ?_, s5 := by simpa [upL, upU] using h.s5, s6 := by simpa [upL, upU] using h.s6, s7 := by simpa [upL, upU] using h.s7, s8 := ?_, s10 := by simpa [upL, upU] using h.s10, s12 := by simpa [upL, upU] using h.s12, own1 := ?_, own2 := ?_, dis := ?_, blk := ?_, low := h.low.grown hg (Nat.le_of_lt h.blk.lt) hlow, d4 := ?_, d9 := ?_, d11 := ?_, d13 := ?_ }
  · intro hl
    obtain ⟨g, e, n1, n2, n3, n4⟩ := h.s3 (by simpa [upL] using hl)
    refine ⟨g, by simpa [upU] using e, n1, n2.grown hg (fun e => ?_), ?_, ?_⟩
    · rw [hL] at n4; exact n4 e.symm
    · simpa [upL, upU] using n3
    · simp only [upL, upU, cur, if_true]
      exact hnew g n2.lt (by rw [hL] at n4; exact n4)
  · intro hl
    obtain ⟨g, e, n1, n2, n3, n4⟩ := h.s8 (by simpa [upL] using hl)
    refine ⟨g, by simpa [upU] using e, n1, n2.grown hg (fun e => ?_), ?_, ?_⟩
    · rw [hL] at n4; exact n4 e.symm
    · simpa [upL, upU] using n3
    · simp only [upL, upU, cur, if_true]
      exact hnew g n2.lt (by rw [hL] at n4; exact n4)
  · have := hot.grown hg (fun k e e2 => hodis k e e2)
    simpa [upL, upU] using this
  · simpa [upL, upU, cur] using ho
  · simpa [upL, upU, cur] using hd2
  · have := h.blk.grown hg (fun e => hq e.symm)
    simpa [upL, upU, cur, hst] using this
  · simpa [upL, upU] using h.d4
  · intro _; simpa [upL] using h1
  · simpa [upL, upU] using h.d11
  · intro _; simp [upL]
theorem CM.store11 (h : CM w0 q no x y F T vf vt L U w) (hd : L 4 = true) : CM w0 q no x y F T vf vt (upL L 11) U (w.setCell ⟨q, 1, none⟩ (U 70)) where
  s0 := by simpa [upL] using h.s0
  s1 := by simpa [upL] using h.s1
  s2 := by simpa [upL] using h.s2
  s3 := by
    intro hl
    obtain ⟨g, e, n1, n2, n3, n4⟩ := h.s3 (by simpa [upL] using hl)
    exact ⟨g, e, n1, n2.far (by simp; omega) _, by simpa [upL] using n3, by simpa [upL] using n4⟩
  s5 := by simpa [upL] using h.s5
  s6 := by simpa [upL] using h.s6
  s7 := by simpa [upL] using h.s7
  s8 := by
    intro hl
    obtain ⟨g, e, n1, n2, n3, n4⟩ := h.s8 (by simpa [upL] using hl)
    exact ⟨g, e, n1, n2.far (by simp; omega) _, by simpa [upL] using n3, by simpa [upL] using n4⟩
  s10 := by simpa [upL] using h.s10
  s12 := by simpa [upL] using h.s12
  own1 := by simpa [upL] using h.own1.set_ (i := 1) (Nat.le_refl q) (U 70)
  own2 := by simpa [upL] using h.own2.set_ (i := 1) (Nat.le_refl q) (U 70)
  dis := by simpa [upL] using h.dis
  blk := by simpa [upL, cur] using h.blk.set_ 1 (U 70)
  low := h.low.setCell (p := ⟨q, 1, none⟩) (Nat.le_refl _) _
  d4 := by simpa [upL] using h.d4
  d9 := by simpa [upL] using h.d9
  d11 := fun _ => by simpa [upL] using hd
  d13 := by simpa [upL] using h.d13
theorem CM.store13 (h : CM w0 q no x y F T vf vt L U w) (hd : L 9 = true) : CM w0 q no x y F T vf vt (upL L 13) U (w.setCell ⟨q, 2, none⟩ (U 75)) where
  s0 := by simpa [upL] using h.s0
  s1 := by simpa [upL] using h.s1
  s2 := by simpa [upL] using h.s2
  s3 := by
    intro hl
    obtain ⟨g, e, n1, n2, n3, n4⟩ := h.s3 (by simpa [upL] using hl)
    exact ⟨g, e, n1, n2.far (by simp; omega) _, by simpa [upL] using n3, by simpa [upL] using n4⟩
  s5 := by simpa [upL] using h.s5
  s6 := by simpa [upL] using h.s6
  s7 := by simpa [upL] using h.s7
  s8 := by
    intro hl
    obtain ⟨g, e, n1, n2, n3, n4⟩ := h.s8 (by simpa [upL] using hl)
    exact ⟨g, e, n1, n2.far (by simp; omega) _, by simpa [upL] using n3, by simpa [upL] using n4⟩
  s10 := by simpa [upL] using h.s10
  s12 := by simpa [upL] using h.s12
  own1 := by simpa [upL] using h.own1.set_ (i := 2) (Nat.le_refl q) (U 75)
  own2 := by simpa [upL] using h.own2.set_ (i := 2) (Nat.le_refl q) (U 75)
  dis := by simpa [upL] using h.dis
  blk := by simpa [upL, cur] using h.blk.set_ 2 (U 75)
  low := h.low.setCell (p := ⟨q, 2, none⟩) (Nat.le_refl _) _
  d4 := by simpa [upL] using h.d4
  d9 := by simpa [upL] using h.d9
  d11 := by simpa [upL] using h.d11
  d13 := fun _ => by simpa [upL] using hd
end
end Go.Proofs.YtnnjcedlomfhoaaGreatDoor
namespace Go.Proofs.YtnnjcedlomfhoaaGreatDoor
open Go.RowKit
set_option linter.unusedVariables false
/-- The loop of class, at a round's head. -/
def ClsI (w : World) (b q : Nat) (no : Bool) (l0 : List Int) (gk : Nat) (wr : World) : Prop :=
  ∃ (acc : List (Int × Int)) (r : List Int) (vf vt : Value), r.length < gk ∧ acc.length + r.length ≤ l0.length ∧ RdSt wr b r ∧ Blk wr q 188 #[.bool no, vf, vt] ∧ OR wr q vf (acc.map (·.1)) ∧ OR wr q vt (acc.map (·.2)) ∧ Dis vf vt ∧ OnB b w wr ∧
    classR (l0.length + 1) [] l0 = classR (r.length + 1) acc r
def ClsV (w : World) (base : Nat) (v : Value) (no : Bool) (l : List (Int × Int)) : Prop :=
  ∃ vf vt, v = .iface 188 (.agg #[.bool no, vf, vt]) ∧ OR w base vf (l.map (·.1)) ∧ OR w base vt (l.map (·.2))
def rest33 (l : List Int) : List Int := if isR 33 l = true then l.tail else l
def ClsRet (w : World) (b : Nat) (l : List Int) (e : Ending) (w' : World) : Prop := OnB b w w' ∧
  ((∃ ps r v, classR (l.length + 1) [] (rest33 l) = some (ps, r) ∧ e = .returned (.tuple #[v, .bool true]) ∧ ClsV w' w.heap.size v (isR 33 l) ps ∧ RdSt w' b r) ∨
   (classR (l.length + 1) [] (rest33 l) = none ∧ e = .returned (.tuple #[.nilIface, .bool false])))
/-- What the test of a round answers, and leaves. -/
def stopR (acc : List (Int × Int)) (r : List Int) : Bool := !acc.isEmpty && isR 93 r
theorem OnB.or {w w' : World} {b q : Nat} {v : Value} {l : List Int} (ho : OnB b w w') (hb : b ≤ q) (h : OR w q v l) : OR w' q v l :=
  h.keep fun k hk => ho.2.block k (h.own k hk).2 (by have := (h.own k hk).1; simp; omega)
theorem RdSt.peek {w : World} {b : Nat} {l : List Int} (h : RdSt w b l) : ∃ A c, w.cell? ⟨b, 0, none⟩ = some (.slice A l.length c) ∧ (∀ x r, l = x :: r → ∃ ad, A = some ad ∧ w.cell? ad = some (.int .i32 x) ∧ ∀ y s, r = y :: s → w.cell? ⟨ad.block, ad.off + 1, none⟩ = some (.int .i32 y)) := by
  obtain ⟨A, c, hB, hR, h1, h2, -⟩ := h
  refine ⟨A, c, hB.cell 0, fun x r e => ?_⟩
  subst e
  obtain ⟨ad, e, hb, hc⟩ := hR.2 (by simp)
  refine ⟨ad, e, ?_, fun y s e => ?_⟩
  · have := hc 0 (.int .i32 x) rfl
    simpa [Addr.add] using this
  · subst e
    have := hc 1 (.int .i32 y) rfl
    simpa [Addr.add] using this
theorem spanR_two {l : List Int} (h : spanR l = true) : ∃ x r, l = x :: r := by
  cases l with
  | nil => simp [spanR] at h
  | cons x r => exact ⟨x, r, rfl⟩
theorem OnB.low {w w' w2 : World} {b q : Nat} (h : OnB b w w') (hl : Below q w' w2) (hq : w.heap.size ≤ q) (hb : b ≤ q) : OnB b w w2 :=
  ⟨h.1.trans (hl.mono hb), ⟨hl.os.trans h.2.os, hl.tape.trans h.2.tape, hl.output.trans h.2.output, Nat.le_trans h.2.size hl.size, fun k hk hne => (hl.block k (by omega)).trans (h.2.block k hk hne)⟩⟩
def CI (w0 : World) (b q : Nat) (no : Bool) (x y : Int) (F T : List Int) (vf vt : Value) (listed : Array Bool) (act : Act) (w : World) : Prop :=
  ∃ U : Nat → Value, act = { tmps := #[.pointer (some ⟨b, 0, none⟩), undef, U 2, U 3, .pointer (some ⟨q, 0, none⟩), .int .i32 x, U 6, .int .i32 y, .pointer (some ⟨b, 0, none⟩), .bool no, .agg #[.bool no, .slice none 0 0, .slice none 0 0], U 11, U 12, U 13, U 14, U 15, U 16, U 17, U 18, U 19, U 20, U 21, U 22, U 23, U 24, U 25, U 26, U 27, U 28, U 29, U 30, U 31, U 32, U 33, U 34, U 35, U 36, U 37, U 38, U 39, U 40, U 41, U 42, U 43, U 44, U 45, U 46, U 47, U 48, U 49, U 50, U 51, U 52, U 53, U 54, U 55, U 56, U 57, U 58, U 59, U 60, U 61, U 62, U 63, U 64, U 65, U 66, U 67, U 68, U 69, U 70, U 71, U 72, U 73, U 74, U 75, U 76, U 77, undef, undef], defers := [] } ∧
    CM w0 q no x y F T vf vt (fun j => listed.getD j false) U w
section
variable {w0 w w' : World} {b q : Nat} {no : Bool} {x y : Int} {F T : List Int} {vf vt : Value} {L : Nat → Bool} {U : Nat → Value} {listed : Array Bool} {act : Act}
theorem CM.start (U : Nat → Value) (hB : Blk w q 188 #[.bool no, vf, vt]) (h1 : OR w q vf F) (h2 : OR w q vt T) (hd : Dis vf vt) : CM w q no x y F T vf vt (fun _ => false) U w where
  s0 := fun h => by cases h
  s1 := fun h => by cases h
  s2 := fun h => by cases h
  s3 := fun h => by cases h
  s5 := fun h => by cases h
  s6 := fun h => by cases h
  s7 := fun h => by cases h
  s8 := fun h => by cases h
  s10 := fun h => by cases h
  s12 := fun h => by cases h
  own1 := h1
  own2 := h2
  dis := hd
  blk := hB
  low := Below.refl _ _
  d4 := fun h => by cases h
  d9 := fun h => by cases h
  d11 := fun h => by cases h
  d13 := fun h => by cases h
theorem CI.mk {u2 u3 u6 u11 u12 u13 u14 u15 u16 u17 u18 u19 u20 u21 u22 u23 u24 u25 u26 u27 u28 u29 u30 u31 u32 u33 u34 u35 u36 u37 u38 u39 u40 u41 u42 u43 u44 u45 u46 u47 u48 u49 u50 u51 u52 u53 u54 u55 u56 u57 u58 u59 u60 u61 u62 u63 u64 u65 u66 u67 u68 u69 u70 u71 u72 u73 u74 u75 u76 u77 : Value} (hB : Blk w q 188 #[.bool no, vf, vt]) (h1 : OR w q vf F) (h2 : OR w q vt T) (hd : Dis vf vt) :
    CI w b q no x y F T vf vt (Array.replicate 14 false) { tmps := #[.pointer (some ⟨b, 0, none⟩), undef, u2, u3, .pointer (some ⟨q, 0, none⟩), .int .i32 x, u6, .int .i32 y, .pointer (some ⟨b, 0, none⟩), .bool no, .agg #[.bool no, .slice none 0 0, .slice none 0 0], u11, u12, u13, u14, u15, u16, u17, u18, u19, u20, u21, u22, u23, u24, u25, u26, u27, u28, u29, u30, u31, u32, u33, u34, u35, u36, u37, u38, u39, u40, u41, u42, u43, u44, u45, u46, u47, u48, u49, u50, u51, u52, u53, u54, u55, u56, u57, u58, u59, u60, u61, u62, u63, u64, u65, u66, u67, u68, u69, u70, u71, u72, u73, u74, u75, u76, u77, undef, undef], defers := [] } w := by
  refine ⟨fun n => (#[undef, undef, u2, u3, undef, undef, u6, undef, undef, undef, undef, u11, u12, u13, u14, u15, u16, u17, u18, u19, u20, u21, u22, u23, u24, u25, u26, u27, u28, u29, u30, u31, u32, u33, u34, u35, u36, u37, u38, u39, u40, u41, u42, u43, u44, u45, u46, u47, u48, u49, u50, u51, u52, u53, u54, u55, u56, u57, u58, u59, u60, u61, u62, u63, u64, u65, u66, u67, u68, u69, u70, u71, u72, u73, u74, u75, u76, u77] : Array Value).getD n undef, rfl, ?_⟩
  rw [show (fun j => (Array.replicate 14 false).getD j false) = fun _ => false from by
    funext j
    rw [Array.getD_eq_getD_getElem?, Array.getElem?_replicate]
    split <;> rfl]
  exact CM.start _ hB h1 h2 hd
theorem listed_up (hs : listed.size = 14) (i : Nat) (hi : i < 14) : (fun j => (listed.setIfInBounds i true).getD j false) = upL (fun j => listed.getD j false) i := by
  funext j
  simp only [upL, Array.getD_eq_getD_getElem?]
  by_cases e : j = i
  · subst e
    rw [Array.getElem?_setIfInBounds_self_of_lt (by omega), if_pos rfl]; rfl
  · rw [Array.getElem?_setIfInBounds_ne (Ne.symm e), if_neg e]
theorem CI.next {Q : Exit → Act → World → Prop} (i : Nat) (hi : i < 14) (hs : listed.size = 14) (U' : Nat → Value)
    (hx : act = { tmps := #[.pointer (some ⟨b, 0, none⟩), undef, U' 2, U' 3, .pointer (some ⟨q, 0, none⟩), .int .i32 x, U' 6, .int .i32 y, .pointer (some ⟨b, 0, none⟩), .bool no, .agg #[.bool no, .slice none 0 0, .slice none 0 0], U' 11, U' 12, U' 13, U' 14, U' 15, U' 16, U' 17, U' 18, U' 19, U' 20, U' 21, U' 22, U' 23, U' 24, U' 25, U' 26, U' 27, U' 28, U' 29, U' 30, U' 31, U' 32, U' 33, U' 34, U' 35, U' 36, U' 37, U' 38, U' 39, U' 40, U' 41, U' 42, U' 43, U' 44, U' 45, U' 46, U' 47, U' 48, U' 49, U' 50, U' 51, U' 52, U' 53, U' 54, U' 55, U' 56, U' 57, U' 58, U' 59, U' 60, U' 61, U' 62, U' 63, U' 64, U' 65, U' 66, U' 67, U' 68, U' 69, U' 70, U' 71, U' 72, U' 73, U' 74, U' 75, U' 76, U' 77, undef, undef], defers := [] })
    (hC : CM w0 q no x y F T vf vt (upL (fun j => listed.getD j false) i) U' w) :
    withK (fun a' w' => CI w0 b q no x y F T vf vt (listed.setIfInBounds i true) a' w') Q .normal act w := by
  refine ⟨U', hx, ?_⟩
  rw [listed_up hs i hi]
  exact hC
theorem getD_false {i : Nat} (h : (!listed.getD i true) = true) : listed.getD i false = false := by
  rw [Array.getD_eq_getD_getElem?] at h ⊢
  cases hx : listed[i]? with
  | none => rfl
  | some v => rw [hx] at h; simpa using h
end
theorem getD_true {listed : Array Bool} {n : Nat} (hs : listed.size = n) (hall : ∀ i, i < n → listed.getD i true = true) (i : Nat) (hi : i < n) : listed.getD i false = true := by
  have h := hall i hi
  rw [Array.getD_eq_getD_getElem?, Array.getElem?_eq_getElem (by omega)] at h ⊢
  exact h
theorem reads_one {w : World} {g : Nat} {x : Int} (h : Blk w g 21 #[.int .i32 x]) : Reads w (g + 1) 1 (some ⟨g, 0, none⟩) 1 (rv [x]) := by
  refine ⟨by simp [rv], fun _ => ⟨_, rfl, by simp, fun j u hj => ?_⟩⟩
  match j, hj with
  | 0, hj =>
    simp [rv] at hj; subst hj
    simpa [Addr.add] using h.cell 0
set_option maxRecDepth 100000 in
set_option maxHeartbeats 8000000 in
theorem rclass_any (w : World) (b : Nat) (l : List Int) (h : RdSt w b l) (hl : l.length ≤ 1000) :
    Calls Tryz.prog 90 #[.pointer (some ⟨b, 0, none⟩)] w (ClsRet w b l) := by
  have hlt := h.lt
  go_enter Tryz.func90, Tryz.ntmps90
  go_wp2_with fail
  refine (gris_any _ b l 33 h).mono ?_
  rintro e w1 ⟨rfl, hR1, hb1⟩
  clear h
  have hsz1 := hb1.size
  obtain ⟨no, hno⟩ : ∃ no, no = isR 33 l := ⟨_, rfl⟩
  rw [← hno]
  replace hno := hide hno
  obtain ⟨l0, hl0⟩ : ∃ l0, l0 = rest33 l := ⟨_, rfl⟩
  have hR1' : RdSt w1 b l0 := by rw [hl0]; exact hR1
  have hl0l : l0.length ≤ l.length := by rw [hl0, rest33]; split <;> simp
  have hfu : Hid (classR (l.length + 1) [] (rest33 l) = classR (l0.length + 1) [] l0) := by rw [Hid, ← hl0]; exact classR_fuel _ _ _ _ (by omega) (by omega)
  replace hl0 := hide hl0
  clear hR1
  have hI : Hid (ClsI w b w1.heap.size no l0 (l0.length + 1) (w1.alloc (.cells #[.bool no, .slice none 0 0, .slice none 0 0] 188))) :=
    ⟨[], l0, .slice none 0 0, .slice none 0 0, by omega, by simp, hR1'.keep ((Below.refl _ _).alloc (by have := hR1'.lt; omega) _), Blk.new _ _ _, OR.nil _ _, OR.nil _ _, (fun g e => by simp [Value.ownBlock] at e), hb1.alloc (by omega) _, rfl⟩
  have hq : b < w1.heap.size := by omega
  have hq2 : w.heap.size ≤ w1.heap.size := hsz1
  clear hR1' hb1
  go_wp2_with fail
  generalize w1.heap.size = q at *
  clear hsz1
  go_loopg [5] (l0.length + 1) (fun gk v5 wr => ClsI w b q no l0 gk wr)
  case atStart => exact hI.out
  case round =>
    clear hI
    obtain ⟨acc, r, vf, vt, hgk, hal, hR, hB, ho1, ho2, hdis, hob, hcl⟩ := hrel
    go_upto_region 2 with (fail)
    go_cut [19] (fun v19 wx => v19 = .bool (!stopR acc r) ∧ RdSt wx b (if stopR acc r = true then r.tail else r) ∧ OnB b wr wx)
    case first =>
      obtain ⟨A, c, rfl, -, -, -⟩ := ho1.form
      have c1 : wr.cell? ⟨q, 1, none⟩ = some (.slice A (acc.map (·.1)).length c) := hB.cell 1
      cases acc with
      | nil =>
        have hs : Hid (stopR [] r = false) := rfl
        have n1 : (((([] : List (Int × Int)).map (·.1)).length : Int) == 0) = true := rfl
        replace hR := hide hR
        clear hB ho1 ho2 hdis hob hcl
        go_wp2_with fail
        go_meet
        rw [hs.out]
        exact ⟨rfl, hR.out, OnB.refl _ _⟩
      | cons p0 ps =>
        have hs : Hid (stopR (p0 :: ps) r = isR 93 r) := by simp [Hid, stopR]
        have n1 : (((ps.length : Int) + 1) == 0) = false := by rw [beq_eq_false_iff_ne]; omega
        clear hB ho1 ho2 hdis hob hcl
        go_wp2_with fail
        refine (gris_any _ b r 93 hR).mono ?_
        rintro e w2 ⟨rfl, hR2, hb2⟩
        replace hR2 := hide hR2
        go_wp2_with fail
        go_meet
        rw [hs.out]
        exact ⟨rfl, hR2.out, hb2⟩
    case rest =>
      obtain ⟨rfl, hR2, hb2⟩ := hcut
      have hB2 := hb2.blk hB (by omega)
      have ho12 := hb2.or (Nat.le_of_lt hq) ho1
      have ho22 := hb2.or (Nat.le_of_lt hq) ho2
      have hob2 := hob.trans hb2
      clear hB ho1 ho2 hob hb2 hR
      have hsz2 := hob2.size
      cases hst : stopR acc r with
      | true =>
        have hend : Hid (classR (l.length + 1) [] (rest33 l) = some (acc, r.tail)) := by
          rw [Hid, hfu.out, hcl, classR, if_pos (show (!acc.isEmpty && isR 93 r) = true from hst)]
        rw [hst, if_pos rfl] at hR2
        have cw := hB2
        obtain ⟨A1, k1, e1, -, -, -⟩ := ho12.form
        obtain ⟨A2, k2, e2, -, -, -⟩ := ho22.form
        rw [List.length_map] at e1 e2
        subst e1 e2
        have c0 : wc.cell? ⟨q, 0, none⟩ = some (.bool no) := hB2.cell 0
        have c1 : wc.cell? ⟨q, 1, none⟩ = some (.slice A1 acc.length k1) := hB2.cell 1
        have c2 : wc.cell? ⟨q, 2, none⟩ = some (.slice A2 acc.length k2) := hB2.cell 2
        replace hR2 := hide hR2
        replace hcl := hide hcl
        clear hst hB2 cw
        go_wp2_with fail
        go_ret2
        exact ⟨hob2, .inl ⟨acc, r.tail, _, hend.out, rfl, ⟨_, _, by rw [← hno.out]; rfl, ho12.more hq2, ho22.more hq2⟩, hR2.out⟩⟩
      | false =>
        rw [hst, if_neg Bool.false_ne_true] at hR2
        have hcl2 : Hid (classR (l.length + 1) [] (rest33 l) = match pairR r with | none => none | some (x, s) => classR r.length (acc ++ [x]) s) := by
          rw [Hid, hfu.out, hcl, classR, if_neg (by rw [show (!acc.isEmpty && isR 93 r) = false from hst]; exact Bool.false_ne_true)]
          cases pairR r <;> rfl
        clear hst hcl
        go_wp2_with fail
        refine (grplain_any _ b r hR2).mono ?_
        rintro e w3 ⟨hb3, hpl⟩
        clear hR2
        have hB3 := hb3.blk hB2 (by omega)
        have ho13 := hb3.or (Nat.le_of_lt hq) ho12
        have ho23 := hb3.or (Nat.le_of_lt hq) ho22
        have hob3 := hob2.trans hb3
        clear hB2 ho12 ho22 hob2 hb3
        rcases hpl with ⟨a, r1, hpl, rfl, hR3⟩ | ⟨hpl, rfl, hR3⟩
        · have hpr : Hid (pairR r = if spanR r1 = true then (match plainR r1.tail with | none => none | some (y, s) => if y < a then none else some ((a, y), s)) else some ((a, a), r1)) := by
            rw [Hid, pairR, hpl]
            rfl
          clear hpl
          go_upto_region 7 with (fail)
          go_cut [51] (fun v wx => v = .bool (spanR r1) ∧ w3 = wx)
          case first =>
            obtain ⟨A, c, c0, hpk⟩ := hR3.peek
            clear hR3 hB3 ho13 ho23 hob3
            cases r1 with
            | nil =>
              have hs : Hid (spanR [] = false) := rfl
              clear hpk
              go_wp2_with fail
              go_meet
              rw [hs.out]
              exact ⟨rfl, rfl⟩
            | cons x rr =>
              obtain ⟨ad, rfl, ca, hpk⟩ := hpk x rr rfl
              cases rr with
              | nil =>
                have hs : Hid (spanR [x] = false) := by simp [Hid, spanR]
                clear hpk
                go_wp2_with fail
                go_meet
                rw [hs.out]
                exact ⟨rfl, rfl⟩
              | cons y s =>
                have cb := hpk y s rfl
                clear hpk
                have n1 : (1 : Int) < (s.length : Int) + 1 + 1 := by omega
                by_cases e1 : x = 45
                · have q1 : (x == 45) = true := by simp [e1]
                  have hs : Hid ((y != 93) = spanR (x :: y :: s)) := by
                    have e3 : isR 93 (y :: s) = (y == 93) := by rw [isR_cons]; rw [Bool.eq_iff_iff]; simp
                    simp only [Hid, spanR, List.tail_cons, e3, isR_cons, e1]
                    simp [bne]
                  clear e1
                  go_wp2_with fail
                  go_meet
                  exact ⟨by rw [hs.out], rfl⟩
                · have q1 : (x == 45) = false := by simp [e1]
                  have hs : Hid (spanR (x :: y :: s) = false) := by simp [Hid, spanR, isR_cons, e1]
                  clear e1
                  go_wp2_with fail
                  go_meet
                  rw [hs.out]
                  exact ⟨rfl, rfl⟩
          case rest =>
            obtain ⟨rfl, rfl⟩ := hcut
            go_upto_if 51 with (fail)
            go_cut [6, 7] (fun v6 v7 wx => ∃ y s, pairR r = some ((a, y), s) ∧ v7 = .int .i32 y ∧ RdSt wx b s ∧ OnB b w3 wx)
            case first =>
              cases hsp : spanR r1 with
              | true =>
                obtain ⟨x, rr, rfl⟩ := spanR_two hsp
                have hpr2 : Hid (pairR r = match plainR rr with | none => none | some (y, s) => if y < a then none else some ((a, y), s)) := by rw [Hid, hpr.out, if_pos hsp]; rfl
                clear hsp hpr
                go_wp2_with fail
                refine (grnext_cons _ b x rr hR3).mono ?_
                rintro e w4 ⟨rfl, hR4, hb4⟩
                clear hR3
                go_wp2_with fail
                refine (grplain_any _ b rr hR4).mono ?_
                rintro e w5 ⟨hb5, hpl⟩
                have hb45 := hb4.trans hb5
                clear hR4 hb4 hb5
                rcases hpl with ⟨y, s, hpl, rfl, hR5⟩ | ⟨hpl, rfl, hR5⟩
                · by_cases hya : y < a
                  · have hend : Hid (classR (l.length + 1) [] (rest33 l) = none) := by rw [Hid, hcl2.out, hpr2.out, hpl]; simp [hya]
                    have hob5 := hob3.trans hb45
                    clear hpl hpr2 hcl2 hB3 ho13 ho23 hR5
                    go_wp2_with fail
                    go_ret2
                    exact ⟨hob5, .inr ⟨hend.out, rfl⟩⟩
                  · have hp3 : Hid (pairR r = some ((a, y), s)) := by rw [Hid, hpr2.out, hpl]; simp [hya]
                    replace hR5 := hide hR5
                    clear hpl hpr2
                    go_wp2_with fail
                    go_meet
                    exact ⟨y, s, hp3.out, rfl, hR5.out, hb45⟩
                · have hend : Hid (classR (l.length + 1) [] (rest33 l) = none) := by rw [Hid, hcl2.out, hpr2.out, hpl]
                  have hob5 := hob3.trans hb45
                  clear hpl hpr2 hcl2 hB3 ho13 ho23 hR5
                  go_wp2_with fail
                  go_ret2
                  exact ⟨hob5, .inr ⟨hend.out, rfl⟩⟩
              | false =>
                have hp3 : Hid (pairR r = some ((a, a), r1)) := by rw [Hid, hpr.out, if_neg (by rw [hsp]; exact Bool.false_ne_true)]
                replace hR3 := hide hR3
                clear hsp hpr
                go_wp2_with fail
                go_meet
                exact ⟨a, r1, hp3.out, rfl, hR3.out, OnB.refl _ _⟩
            case rest =>
              obtain ⟨y, s, hp3, rfl, hR6, hb6⟩ := hcut
              have hB6 := hb6.blk hB3 (by omega)
              have ho16 := hb6.or (Nat.le_of_lt hq) ho13
              have ho26 := hb6.or (Nat.le_of_lt hq) ho23
              have hob6 := hob3.trans hb6
              have hsz6 := hob6.size
              obtain ⟨i0, hi0, hz0, hz1, hz2⟩ := info_parts rune_info
              replace hi0 := hide hi0
              replace hz0 := hide hz0
              replace hz1 := hide hz1
              replace hz2 := hide hz2
              replace hpr := hide hp3
              clear hp3 hB3 ho13 ho23 hob3 hb6 hR3
              go_upto_region 12 with (fail)
              refine wp_region_any (by kernel_rfl) ?_
              refine wpAny_inv (CI wc.drew b q no a y (acc.map (·.1)) (acc.map (·.2)) vf vt) (by kernel_rfl) ?_ ?_ _ _ _ _ (by simp) (by decide) ?init
              case init =>
                exact CI.mk hB6.drew ho16 ho26 hdis
              · rintro listed i act w7 hls ⟨U, rfl, hC⟩ hi
                obtain ⟨hi1, hi2⟩ := List.mem_filter.1 hi
                have hi14 : i < 14 := List.mem_range.1 hi1
                have hl14 : listed.size = 14 := hls
                clear hi hi1 hls hB6
                match i, hi14, hi2 with
                | 0, _, hd =>
                  have hN := hide (hC.pure0)
                  clear hd hC
                  refine wpOp_list rfl ?_
                  go_wp2_with fail
                  exact CI.next 0 (by decide) hl14 _ rfl hN.out
                | 1, _, hd =>
                  have hdn := getD_false (listed := listed) (i := 1) (by simp only [Bool.and_eq_true] at hd; exact hd.1)
                  have hd0 : listed.getD 0 false = true := by rw [Array.getD_eq_getD_getElem?]; simp [Region.binds] at hd; exact hd.2
                  have hv := hC.s0 hd0
                  have hb := hC.blk.cell 1
                  have hnot : listed.getD 11 false = false := by
                      cases hx : listed.getD 11 false with
                      | false => rfl
                      | true => exact absurd (hC.d4 (hC.d11 hx)) (by rw [hdn]; exact Bool.false_ne_true)
                  simp only [hnot, cur, Bool.false_eq_true, if_false] at hb
                  have hb : w7.cell? ⟨q, 1, none⟩ = some vf := hb
                  have hN := hide (hC.pure1)
                  obtain ⟨AA, cc, hvf, -, -, -⟩ := ho16.form
                  rw [hvf] at hb
                  replace hvf := hide hvf
                  clear hd hC hd0 hdn hnot
                  refine wpOp_list rfl ?_
                  go_wp2_with fail
                  exact CI.next 1 (by decide) hl14 _ (by simp [upU, hv, hvf.out]) hN.out
                | 2, _, hd =>
                  have hN := hide (hC.pure2)
                  clear hd hC
                  refine wpOp_list rfl ?_
                  go_wp2_with fail
                  exact CI.next 2 (by decide) hl14 _ rfl hN.out
                | 3, _, hd =>
                  have hd2 : listed.getD 2 false = true := by rw [Array.getD_eq_getD_getElem?]; simp [Region.binds] at hd; exact hd.2
                  have hv := hC.s2 hd2
                  have hN := hide (hC.build3)
                  clear hd hC hd2
                  refine wpOp_list rfl ?_
                  go_wp2_with fail
                  exact CI.next 3 (by decide) hl14 _ (by simp [upU, hv]) hN.out
                | 4, _, hd =>
                  have hdn := getD_false (listed := listed) (i := 4) (by simp only [Bool.and_eq_true] at hd; exact hd.1)
                  have hdd : listed.getD 1 false = true ∧ listed.getD 3 false = true := by
                      simp only [Array.getD_eq_getD_getElem?]; simp [Region.binds] at hd; exact hd.2
                  obtain ⟨hda, hdb⟩ := hdd
                  have hv := hC.s1 hda
                  obtain ⟨g, hg, n1, n2, n3, n4⟩ := hC.s3 hdb
                  have hst : listed.getD 11 false = false := by
                      cases hx : listed.getD 11 false with
                      | false => rfl
                      | true => exact absurd (hC.d11 hx) (by rw [hdn]; exact Bool.false_ne_true)
                  have how := hC.own1
                  simp only [hdn, cur, Bool.false_eq_true, if_false] at how
                  have hR1 := reads_one n2
                  have hsz := hC.blk.lt
                  replace hC := hide hC
                  replace how := hide how
                  replace hR1 := hide hR1
                  clear hd n1 n2 n3 n4
                  have hle : (acc.map (·.1)).length + 1 ≤ 100000 := by rw [List.length_map]; omega
                  refine wpOp_list rfl ?_
                  refine wpList_append_any _ rfl (.tmp 67) (.tmp 69) 138 rfl (q + 1) 21 i0 _ 1 4 Tryz.underlying138 hi0.out hz0.out hz1.out hz2.out rfl (by omega) vf _ _ hv how.out (g + 1) (some ⟨g, 0, none⟩) 1 1 (rv [a]) hg hR1.out (rv_one _) (by simp only [maxLen]; omega) (by omega) (by omega) ?_
                  intro v2 w8 o2 g2 e2
                  have o3 : OR w8 q v2 (acc.map (·.1) ++ [a]) := by
                      have e : rv (acc.map (·.1)) ++ rv [a] = rv (acc.map (·.1) ++ [a]) := by simp [rv]
                      rw [e] at o2
                      unfold OR
                      rw [List.length_append, List.length_singleton]
                      exact o2
                  have hN := hide (hC.out.app4 hdn hda o3 g2 e2 hst)
                  clear hle o2 o3 g2 e2 how hR1 hC hst hdn hda hdb hsz
                  go_wp2_with fail
                  exact CI.next 4 (by decide) hl14 _ (by simp [upU, hv, hg]) hN.out
                | 5, _, hd =>
                  have hN := hide (hC.pure5)
                  clear hd hC
                  refine wpOp_list rfl ?_
                  go_wp2_with fail
                  exact CI.next 5 (by decide) hl14 _ rfl hN.out
                | 6, _, hd =>
                  have hdn := getD_false (listed := listed) (i := 6) (by simp only [Bool.and_eq_true] at hd; exact hd.1)
                  have hd5 : listed.getD 5 false = true := by rw [Array.getD_eq_getD_getElem?]; simp [Region.binds] at hd; exact hd.2
                  have hv := hC.s5 hd5
                  have hb := hC.blk.cell 2
                  have hnot : listed.getD 13 false = false := by
                      cases hx : listed.getD 13 false with
                      | false => rfl
                      | true => exact absurd (hC.d9 (hC.d13 hx)) (by rw [hdn]; exact Bool.false_ne_true)
                  simp only [hnot, cur, Bool.false_eq_true, if_false] at hb
                  have hb : w7.cell? ⟨q, 2, none⟩ = some vt := hb
                  have hN := hide (hC.pure6)
                  obtain ⟨AA, cc, hvf, -, -, -⟩ := ho26.form
                  rw [hvf] at hb
                  replace hvf := hide hvf
                  clear hd hC hd5 hdn hnot
                  refine wpOp_list rfl ?_
                  go_wp2_with fail
                  exact CI.next 6 (by decide) hl14 _ (by simp [upU, hv, hvf.out]) hN.out
                | 7, _, hd =>
                  have hN := hide (hC.pure7)
                  clear hd hC
                  refine wpOp_list rfl ?_
                  go_wp2_with fail
                  exact CI.next 7 (by decide) hl14 _ rfl hN.out
                | 8, _, hd =>
                  have hd7 : listed.getD 7 false = true := by rw [Array.getD_eq_getD_getElem?]; simp [Region.binds] at hd; exact hd.2
                  have hv := hC.s7 hd7
                  have hN := hide (hC.build8)
                  clear hd hC hd7
                  refine wpOp_list rfl ?_
                  go_wp2_with fail
                  exact CI.next 8 (by decide) hl14 _ (by simp [upU, hv]) hN.out
                | 9, _, hd =>
                  have hdn := getD_false (listed := listed) (i := 9) (by simp only [Bool.and_eq_true] at hd; exact hd.1)
                  have hdd : listed.getD 6 false = true ∧ listed.getD 8 false = true := by
                      simp only [Array.getD_eq_getD_getElem?]; simp [Region.binds] at hd; exact ⟨hd.2.1, hd.2.2.1⟩
                  obtain ⟨hda, hdb⟩ := hdd
                  have hv := hC.s6 hda
                  obtain ⟨g, hg, n1, n2, n3, n4⟩ := hC.s8 hdb
                  have hst : listed.getD 13 false = false := by
                      cases hx : listed.getD 13 false with
                      | false => rfl
                      | true => exact absurd (hC.d13 hx) (by rw [hdn]; exact Bool.false_ne_true)
                  have how := hC.own2
                  simp only [hdn, cur, Bool.false_eq_true, if_false] at how
                  have hR1 := reads_one n2
                  have hsz := hC.blk.lt
                  replace hC := hide hC
                  replace how := hide how
                  replace hR1 := hide hR1
                  clear hd n1 n2 n3 n4
                  have hle : (acc.map (·.2)).length + 1 ≤ 100000 := by rw [List.length_map]; omega
                  refine wpOp_list rfl ?_
                  refine wpList_append_any _ rfl (.tmp 72) (.tmp 74) 138 rfl (q + 1) 21 i0 _ 1 4 Tryz.underlying138 hi0.out hz0.out hz1.out hz2.out rfl (by omega) vt _ _ hv how.out (g + 1) (some ⟨g, 0, none⟩) 1 1 (rv [y]) hg hR1.out (rv_one _) (by simp only [maxLen]; omega) (by omega) (by omega) ?_
                  intro v2 w8 o2 g2 e2
                  have o3 : OR w8 q v2 (acc.map (·.2) ++ [y]) := by
                      have e : rv (acc.map (·.2)) ++ rv [y] = rv (acc.map (·.2) ++ [y]) := by simp [rv]
                      rw [e] at o2
                      unfold OR
                      rw [List.length_append, List.length_singleton]
                      exact o2
                  have hN := hide (hC.out.app9 hdn hda o3 g2 e2 hst)
                  clear hle o2 o3 g2 e2 how hR1 hC hst hdn hda hdb hsz
                  go_wp2_with fail
                  exact CI.next 9 (by decide) hl14 _ (by simp [upU, hv, hg]) hN.out
                | 10, _, hd =>
                  have hN := hide (hC.pure10)
                  clear hd hC
                  refine wpOp_list rfl ?_
                  go_wp2_with fail
                  exact CI.next 10 (by decide) hl14 _ rfl hN.out
                | 11, _, hd =>
                  have hdd : listed.getD 10 false = true ∧ listed.getD 4 false = true := by
                      simp only [Array.getD_eq_getD_getElem?]; simp [Region.binds] at hd; exact ⟨by simp [hd], by simp [hd]⟩
                  obtain ⟨hda, hdb⟩ := hdd
                  have hv := hC.s10 hda
                  have hN := hide (hC.store11 hdb)
                  have how := hC.own1
                  simp only [hdb, cur, if_true] at how
                  obtain ⟨AA, cc, hvf, -, -, -⟩ := how.form
                  rw [List.length_append, List.length_map, List.length_singleton] at hvf
                  have hb : ∃ u, w7.cell? ⟨q, 1, none⟩ = some u := ⟨_, hC.blk.cell 1⟩
                  obtain ⟨u, hb⟩ := hb
                  have hf := hC.blk.frozen 1
                  rw [hvf] at hN
                  clear hd hC how hda hdb
                  refine wpOp_list rfl ?_
                  go_wp2_with fail
                  exact CI.next 11 (by decide) hl14 U (by simp [hv, hvf]) hN.out
                | 12, _, hd =>
                  have hN := hide (hC.pure12)
                  clear hd hC
                  refine wpOp_list rfl ?_
                  go_wp2_with fail
                  exact CI.next 12 (by decide) hl14 _ rfl hN.out
                | 13, _, hd =>
                  have hdd : listed.getD 12 false = true ∧ listed.getD 9 false = true := by
                      simp only [Array.getD_eq_getD_getElem?]; simp [Region.binds] at hd; exact ⟨by simp [hd], by simp [hd]⟩
                  obtain ⟨hda, hdb⟩ := hdd
                  have hv := hC.s12 hda
                  have hN := hide (hC.store13 hdb)
                  have how := hC.own2
                  simp only [hdb, cur, if_true] at how
                  obtain ⟨AA, cc, hvf, -, -, -⟩ := how.form
                  rw [List.length_append, List.length_map, List.length_singleton] at hvf
                  have hb : ∃ u, w7.cell? ⟨q, 2, none⟩ = some u := ⟨_, hC.blk.cell 2⟩
                  obtain ⟨u, hb⟩ := hb
                  have hf := hC.blk.frozen 2
                  rw [hvf] at hN
                  clear hd hC how hda hdb
                  refine wpOp_list rfl ?_
                  go_wp2_with fail
                  exact CI.next 13 (by decide) hl14 U (by simp [hv, hvf]) hN.out
                | k + 14, h, _ => exact absurd h (by omega)
              · rintro listed act w7 hls ⟨U, rfl, hC⟩ hall
                have hL4 : listed.getD 4 false = true := getD_true hls hall 4 (by decide)
                have hL9 : listed.getD 9 false = true := getD_true hls hall 9 (by decide)
                have hL11 : listed.getD 11 false = true := getD_true hls hall 11 (by decide)
                have hL13 : listed.getD 13 false = true := getD_true hls hall 13 (by decide)
                have o1 := hC.own1
                have o2 := hC.own2
                have hd := hC.dis
                have hB7 := hC.blk
                have hlow := hC.low
                simp only [hL4, hL9, hL11, hL13, cur, if_true] at o1 o2 hd hB7
                have hR7 : RdSt w7 b s := hR6.keep ((Below.refl _ _).drew.trans (hlow.mono (by omega)))
                have hob7 : OnB b w w7 := hob6.low ((Below.refl _ _).drew.trans hlow) hq2 (by omega)
                have hlen := pairR_len hpr.out
                have hnew : Hid (ClsI w b q no l0 r.length w7) :=
                  ⟨acc ++ [(a, y)], s, U 70, U 75, hlen, by simp; omega, hR7, hB7, by simpa using o1, by simpa using o2, hd, hob7, by
                    rw [← hfu.out, hcl2.out, hpr.out]
                    exact classR_fuel _ _ _ _ hlen (by omega)⟩
                clear hC o1 o2 hd hB7 hlow hR7 hob7 hL4 hL9 hL11 hL13 hall hls hR6 ho16 ho26 hB6
                go_wp2_with fail
                go_roundg (r.length)
                case rel => exact hnew.out
                case measure => omega
        · have hend : Hid (classR (l.length + 1) [] (rest33 l) = none) := by rw [Hid, hcl2.out, pairR, hpl]
          clear hpl hR3 hB3 ho13 ho23
          go_wp2_with fail
          go_ret2
          exact ⟨hob3, .inr ⟨hend.out, rfl⟩⟩
end Go.Proofs.YtnnjcedlomfhoaaGreatDoor
namespace Go.Proofs.YtnnjcedlomfhoaaGreatDoor
open Go.RowKit
set_option linter.unusedVariables false
/-- A part as a value. -/
def PrtV (w : World) (base : Nat) (v : Value) : Prt → Prop
  | .self c => v = .iface 153 (.int .i32 c)
  | .one => v = .iface 174 (.agg #[])
  | .stars d => v = .iface 166 (.agg #[.bool d])
  | .cls no l => ClsV w base v no l
theorem PrtV.keep {w w' : World} {base : Nat} {v : Value} {p : Prt} (h : PrtV w base v p) (hk : ∀ q (u : Value) (l : List Int), base ≤ q → OR w q u l → OR w' q u l) : PrtV w' base v p := by
  cases p with
  | self c => exact h
  | one => exact h
  | stars d => exact h
  | cls no l =>
    obtain ⟨vf, vt, e, h1, h2⟩ := h
    exact ⟨vf, vt, e, hk _ _ _ (Nat.le_refl _) h1, hk _ _ _ (Nat.le_refl _) h2⟩
theorem PrtV.iface_ {w : World} {base : Nat} {v : Value} {p : Prt} (h : PrtV w base v p) : ∃ t u, v = .iface t u := by
  cases p with
  | self c => exact ⟨_, _, h⟩
  | one => exact ⟨_, _, h⟩
  | stars d => exact ⟨_, _, h⟩
  | cls no l =>
    obtain ⟨vf, vt, e, h1, h2⟩ := h
    exact ⟨_, _, e⟩
def PartRet (w : World) (b : Nat) (l : List Int) (e : Ending) (w' : World) : Prop := OnB b w w' ∧
  ((∃ p r v, partR l = some (p, r) ∧ e = .returned (.tuple #[v, .bool true]) ∧ PrtV w' w.heap.size v p ∧ RdSt w' b r) ∨ (partR l = none ∧ ∃ v, e = .returned (.tuple #[v, .bool false])))
set_option maxRecDepth 100000 in
set_option maxHeartbeats 4000000 in
theorem rpart_any (w : World) (b : Nat) (l : List Int) (h : RdSt w b l) (hl : l.length ≤ 1000) :
    Calls Tryz.prog 78 #[.pointer (some ⟨b, 0, none⟩)] w (PartRet w b l) := by
  go_enter Tryz.func78, Tryz.ntmps78
  go_wp2_with fail
  refine (gris_any _ b l 63 h).mono ?_
  rintro e w1 ⟨rfl, hR1, hb1⟩
  clear h
  cases h1 : isR 63 l with
  | true =>
    rw [h1, if_pos rfl] at hR1
    have hres : Hid (partR l = some (.one, l.tail)) := by rw [Hid, partR, if_pos h1]
    replace hR1 := hide hR1
    clear h1
    go_wp2_with fail
    go_ret2
    exact ⟨hb1, .inl ⟨_, _, _, hres.out, rfl, rfl, hR1.out⟩⟩
  | false =>
    rw [h1, if_neg Bool.false_ne_true] at hR1
    have hp1 : Hid (partR l = if isR 42 l = true then some (.stars (isR 42 l.tail), if isR 42 l.tail = true then l.tail.tail else l.tail)
      else if isR 91 l = true then (classR (l.length + 1) [] (if isR 33 l.tail = true then l.tail.tail else l.tail)).map fun x => (.cls (isR 33 l.tail) x.1, x.2)
      else (plainR l).map fun x => (.self x.1, x.2)) := by rw [Hid, partR, if_neg (by rw [h1]; exact Bool.false_ne_true)]
    clear h1
    go_wp2_with fail
    refine (gris_any _ b l 42 hR1).mono ?_
    rintro e w2 ⟨rfl, hR2, hb2⟩
    have hb12 := hb1.trans hb2
    clear hR1 hb1 hb2
    cases h2 : isR 42 l with
    | true =>
      rw [h2, if_pos rfl] at hR2
      have hp2 : Hid (partR l = some (.stars (isR 42 l.tail), if isR 42 l.tail = true then l.tail.tail else l.tail)) := by rw [Hid, hp1.out, if_pos h2]
      clear h2 hp1
      go_wp2_with fail
      refine (gris_any _ b l.tail 42 hR2).mono ?_
      rintro e w3 ⟨rfl, hR3, hb3⟩
      have hb13 := hb12.trans hb3
      replace hR3 := hide hR3
      clear hR2 hb12 hb3
      go_wp2_with fail
      go_ret2
      exact ⟨hb13, .inl ⟨_, _, _, hp2.out, rfl, rfl, hR3.out⟩⟩
    | false =>
      rw [h2, if_neg Bool.false_ne_true] at hR2
      have hp2 : Hid (partR l = if isR 91 l = true then (classR (l.length + 1) [] (if isR 33 l.tail = true then l.tail.tail else l.tail)).map fun x => (.cls (isR 33 l.tail) x.1, x.2)
        else (plainR l).map fun x => (.self x.1, x.2)) := by rw [Hid, hp1.out, if_neg (by rw [h2]; exact Bool.false_ne_true)]
      clear h2 hp1
      go_wp2_with fail
      refine (gris_any _ b l 91 hR2).mono ?_
      rintro e w3 ⟨rfl, hR3, hb3⟩
      have hb13 := hb12.trans hb3
      clear hR2 hb12 hb3
      cases h3 : isR 91 l with
      | true =>
        rw [h3, if_pos rfl] at hR3
        have hlt := isR_len h3
        have hp3 : Hid (partR l = (classR (l.tail.length + 1) [] (rest33 l.tail)).map fun x => (.cls (isR 33 l.tail) x.1, x.2)) := by
          rw [Hid, hp2.out, if_pos h3]
          have hr : (rest33 l.tail).length ≤ l.tail.length := by unfold rest33; split <;> simp
          rw [show (if isR 33 l.tail = true then l.tail.tail else l.tail) = rest33 l.tail from rfl, classR_fuel (l.length + 1) (l.tail.length + 1) [] (rest33 l.tail) (by omega) (by omega)]
        have hsz := hb13.size
        have hbw := hb13.1
        clear h3 hp2
        go_wp2_with fail
        refine (rclass_any _ b l.tail hR3 (by omega)).mono ?_
        rintro e w4 ⟨hb4, hcl⟩
        have hb14 := hb13.trans hb4
        clear hR3 hb13 hb4
        rcases hcl with ⟨ps, r, v, hcl, rfl, hv, hR4⟩ | ⟨hcl, rfl⟩
        · have hp4 : Hid (partR l = some (.cls (isR 33 l.tail) ps, r)) := by rw [Hid, hp3.out, hcl]; rfl
          have hv2 : Hid (PrtV w4 w.heap.size v (.cls (isR 33 l.tail) ps)) := by
            obtain ⟨vf, vt, e, o1, o2⟩ := hv
            exact ⟨vf, vt, e, o1.more hsz, o2.more hsz⟩
          replace hR4 := hide hR4
          clear hcl hp3 hv
          go_wp2_with fail
          go_ret2
          exact ⟨hb14, .inl ⟨_, _, _, hp4.out, rfl, hv2.out, hR4.out⟩⟩
        · have hp4 : Hid (partR l = none) := by rw [Hid, hp3.out, hcl]; rfl
          clear hcl hp3
          go_wp2_with fail
          go_ret2
          exact ⟨hb14, .inr ⟨hp4.out, _, rfl⟩⟩
      | false =>
        rw [h3, if_neg Bool.false_ne_true] at hR3
        have hp3 : Hid (partR l = (plainR l).map fun x => (.self x.1, x.2)) := by rw [Hid, hp2.out, if_neg (by rw [h3]; exact Bool.false_ne_true)]
        clear h3 hp2
        go_wp2_with fail
        refine (grplain_any _ b l hR3).mono ?_
        rintro e w4 ⟨hb4, hpl⟩
        have hb14 := hb13.trans hb4
        clear hR3 hb13 hb4
        rcases hpl with ⟨c, r, hpl, rfl, hR4⟩ | ⟨hpl, rfl, hR4⟩
        · have hp4 : Hid (partR l = some (.self c, r)) := by rw [Hid, hp3.out, hpl]; rfl
          replace hR4 := hide hR4
          clear hpl hp3
          go_wp2_with fail
          go_ret2
          exact ⟨hb14, .inl ⟨_, _, _, hp4.out, rfl, rfl, hR4.out⟩⟩
        · have hp4 : Hid (partR l = none) := by rw [Hid, hp3.out, hpl]; rfl
          clear hpl hp3 hR4
          go_wp2_with fail
          go_ret2
          exact ⟨hb14, .inr ⟨hp4.out, _, rfl⟩⟩
end Go.Proofs.YtnnjcedlomfhoaaGreatDoor
namespace Go.Proofs.YtnnjcedlomfhoaaGreatDoor
open Go.RowKit
set_option linter.unusedVariables false
/-- The library's two tables of UTF-8. -/
def Utf8T (w : World) : Prop := Lib.Utf8Tabs 1 2 w ∧ 1 < w.heap.size ∧ 2 < w.heap.size
theorem Utf8T.below {w w' : World} (h : Utf8T w) (hb : Below w.heap.size w w') : Utf8T w' := by
  obtain ⟨⟨h1, h2⟩, h3, h4⟩ := h
  refine ⟨⟨fun c hc => (hb.cell (p := ⟨1, c, none⟩) h3).trans (h1 c hc), fun i hi => ⟨(hb.cell (p := ⟨2, 2 * i, none⟩) h4).trans (h2 i hi).1, (hb.cell (p := ⟨2, 2 * i + 1, none⟩) h4).trans (h2 i hi).2⟩⟩, ?_, ?_⟩
  · exact Nat.lt_of_lt_of_le h3 hb.size
  · exact Nat.lt_of_lt_of_le h4 hb.size
/-- Values read as parts; a pattern lies at block g. -/
def PartsV (w : World) (base : Nat) (vs : List Value) (ps : List Prt) : Prop := vs.length = ps.length ∧ ∀ (k : Nat) v p, vs[k]? = some v → ps[k]? = some p → PrtV w base v p
def GlobAt (w : World) (g : Nat) (ps : List Prt) : Prop := ∃ v vs, Blk w g 136 #[v] ∧ w.ownsRow (g + 1) 142 1 v vs.length vs ∧ PartsV w g vs ps
theorem PartsV.keep {w w' : World} {base : Nat} {vs : List Value} {ps : List Prt} (h : PartsV w base vs ps) (hk : ∀ q (u : Value) (l : List Int), base ≤ q → OR w q u l → OR w' q u l) : PartsV w' base vs ps :=
  ⟨h.1, fun k v p hv hp => (h.2 k v p hv hp).keep hk⟩
theorem PrtV.more {w : World} {base b' : Nat} {v : Value} {p : Prt} (h : PrtV w base v p) (hb : b' ≤ base) : PrtV w b' v p := by
  cases p with
  | self c => exact h
  | one => exact h
  | stars d => exact h
  | cls no l =>
    obtain ⟨vf, vt, e, h1, h2⟩ := h
    exact ⟨vf, vt, e, h1.more hb, h2.more hb⟩
theorem PartsV.more {w : World} {base b' : Nat} {vs : List Value} {ps : List Prt} (h : PartsV w base vs ps) (hb : b' ≤ base) : PartsV w b' vs ps :=
  ⟨h.1, fun k v p hv hp => (h.2 k v p hv hp).more hb⟩
theorem PartsV.snoc {w : World} {base : Nat} {vs : List Value} {ps : List Prt} {v : Value} {p : Prt} (h : PartsV w base vs ps) (hv : PrtV w base v p) : PartsV w base (vs ++ [v]) (ps ++ [p]) := by
  refine ⟨by simp [h.1], fun k u q hu hq => ?_⟩
  by_cases e : k < vs.length
  · rw [List.getElem?_append_left e] at hu
    rw [List.getElem?_append_left (by rw [← h.1]; exact e)] at hq
    exact h.2 k u q hu hq
  · rw [List.getElem?_append_right (by omega)] at hu
    rw [List.getElem?_append_right (by rw [← h.1]; omega)] at hq
    have e0 : k - vs.length = 0 := by
      rcases Nat.eq_zero_or_pos (k - vs.length) with h0 | h0
      · exact h0
      · rw [List.getElem?_eq_none (by simp; omega)] at hu; cases hu
    rw [e0] at hu
    rw [← h.1, e0] at hq
    simp at hu hq
    subst hu hq
    exact hv
theorem own_kind {w : World} {q base : Nat} {v u : Value} {l : List Int} {e : TypeId} {n : Nat} {xs : List Value} (h : OR w q v l) (h2 : w.ownsRow base e 1 u n xs) (hne : e ≠ 21) : ∀ k, v.ownBlock = some k → u.ownBlock ≠ some k := by
  intro k hk
  rcases h.2 with ⟨rfl, _⟩ | ⟨g, cap, cur, rfl, _, hh, _⟩
  · simp [Value.ownBlock] at hk
  · have hg : g = k := by simpa [Value.ownBlock] using hk
    subst hg
    exact own_blk_ne (t := 21) (cs := cur) h2 hh hne
theorem part_info : (Tryz.prog.info? 142).map (fun i => (i.zero, i.size, i.bytes)) = some (some .nilIface, 1, 16) := by kernel_rfl
/-- The loop of New, at a round's head. -/
def NewI (w : World) (g b : Nat) (l0 : List Int) (gk : Nat) (wr : World) : Prop :=
  ∃ (ps : List Prt) (r : List Int) (vv : Value) (vs : List Value), r.length < gk ∧ ps.length + r.length ≤ l0.length ∧ RdSt wr b r ∧ Blk wr g 136 #[vv] ∧ wr.ownsRow (b + 1) 142 1 vv vs.length vs ∧ PartsV wr b vs ps ∧ Below g w wr ∧ globA [] l0 = globA ps r
def GlobRet (w : World) (s : List UInt8) (e : Ending) (w' : World) : Prop := Below w.heap.size w w' ∧
  ((∃ ps g, globP s = some ps ∧ e = .returned (.tuple #[.pointer (some ⟨g, 0, none⟩), .int .i64 0]) ∧ w.heap.size ≤ g ∧ GlobAt w' g ps) ∨ (globP s = none ∧ e = .returned (.tuple #[.pointer none, .int .i64 (globE s)])))
theorem ownsRow_more {w : World} {b b' : Nat} {e : TypeId} {n : Nat} {v : Value} {xs : List Value} (h : w.ownsRow b e 1 v n xs) (hb : b' ≤ b) : w.ownsRow b' e 1 v n xs := by
  obtain ⟨h1, h2⟩ := h
  refine ⟨h1, ?_⟩
  rcases h2 with h2 | ⟨g, cap, cur, hv, hg, hh, r⟩
  · exact Or.inl h2
  · exact Or.inr ⟨g, cap, cur, hv, by omega, hh, r⟩
theorem ownsRow_keep {w w' : World} {b : Nat} {e : TypeId} {n : Nat} {v : Value} {xs : List Value} (h : w.ownsRow b e 1 v n xs) (hk : ∀ k, b ≤ k → k < w.heap.size → w'.heap[k]? = w.heap[k]?) : w'.ownsRow b e 1 v n xs := by
  obtain ⟨h1, h2⟩ := h
  refine ⟨h1, ?_⟩
  rcases h2 with h2 | ⟨g, cap, cur, hv, hg, hh, r⟩
  · exact Or.inl h2
  · have hlt : g < w.heap.size := by
      rcases Nat.lt_or_ge g w.heap.size with hlt | hge
      · exact hlt
      · rw [Array.getElem?_eq_none hge] at hh; cases hh
    exact Or.inr ⟨g, cap, cur, hv, hg, by rw [hk g hg hlt]; exact hh, r⟩
theorem globP_eq (s : List UInt8) (h1 : ¬ 100 < s.length) (h2 : Lib.validD s = true) : globP s = globA [] (runesG (str s)) := by
  rw [globP, if_neg (by rw [h2]; simp; omega), globA]
  cases globR ((runesG (str s)).length + 1) (runesG (str s)) <;> simp
set_option maxRecDepth 100000 in
set_option maxHeartbeats 8000000 in
theorem gnew_any (w : World) (s : ByteArray) (hT : Utf8T w) : Calls Tryz.prog 56 #[.string s] w (GlobRet w s.data.toList) := by
  by_cases h1 : 100 < s.size
  · have hr : Hid (globP s.data.toList = none) := by rw [Hid, globP, data_len, if_pos (.inl h1)]
    have he : Hid (globE s.data.toList = 10) := by rw [Hid, globE, data_len, if_pos h1]
    clear hT
    go_enter Tryz.func56, Tryz.ntmps56
    go_wp2_with fail
    go_ret2
    exact ⟨Below.refl _ _, .inr ⟨hr.out, by rw [he.out]; rfl⟩⟩
  · have hs : s.size ≤ 100 := by omega
    clear h1
    go_enter Tryz.func56, Tryz.ntmps56
    go_wp2_with fail
    have cV : Calls Tryz.prog 77 #[.string s] w _ := Any.utf8_ValidString Tryz.laysValid s w (by omega) hT.1
    refine cV.mono ?_
    rintro e w1 ⟨rfl, hb1⟩
    have hsz1 := hb1.size
    clear cV hT
    cases hv : Lib.validD s.data.toList with
    | false =>
      have hr : Hid (globP s.data.toList = none) := by rw [Hid, globP, if_pos (.inr hv)]
      have he : Hid (globE s.data.toList = 4) := by rw [Hid, globE, data_len, if_neg (by omega), if_pos hv]
      clear hv
      go_wp2_with fail
      go_ret2
      exact ⟨hb1, .inr ⟨hr.out, by rw [he.out]; rfl⟩⟩
    | true =>
      obtain ⟨l0, hl0⟩ : ∃ l0, l0 = runesG s := ⟨_, rfl⟩
      have hP : Hid (globP s.data.toList = globA [] l0) := by rw [Hid, globP_eq _ (by rw [data_len]; omega) hv, str_eta, hl0]
      have hE : Hid (globP s.data.toList = none → globE s.data.toList = 4) := fun h => by rw [globE, data_len, if_neg (by omega), if_neg (by rw [hv]; simp), h]; rfl
      have hn : l0.length ≤ 100 := by have := runesG_len s; rw [hl0]; omega
      obtain ⟨K, C, hcv, hKC⟩ : ∃ (K : World → Nat) (C : World → Array Value), (∀ w, (convert 9 138 (.string s)).run Tryz.prog w = .ok (.slice (some ⟨w.heap.size, 0, none⟩) l0.length (K w)) (w.drew.alloc (.cells (C w) 21))) ∧
          Hid (∀ w, l0.length ≤ K w ∧ K w ≤ maxLen ∧ ∀ j u, (rv l0)[j]? = some u → (C w)[j]? = some u) := by
        have hsz : (Conv.runesFrom s s.size 0 #[]).size = l0.length := by rw [runesG_eq, hl0]; simp
        refine ⟨fun w => grownCap w l0.length 0 21, fun w => Conv.runesFrom s s.size 0 #[] ++ Array.replicate (grownCap w l0.length 0 21 - l0.length) (.int .i32 0), fun w => ?_, fun w => ⟨grownCap_ge _ _ _ _, grownCap_le_maxLen _ _ _ _ (by unfold maxLen; omega), fun j u hu => ?_⟩⟩
        · rw [run_runes_of_string w 9 138 21 s Tryz.underlying9 Tryz.underlying138 Tryz.underlying21 (by rw [hsz]; omega), hsz]
        · rw [runesG_eq, ← hl0]
          have hj := (List.getElem?_eq_some_iff.1 hu).1
          rw [rv_len] at hj
          rw [Array.getElem?_append_left (by simpa using hj)]
          simpa [rv] using hu
      clear hv hl0
      go_wp2_with fail
      go_loopg [6] (l0.length + 1) (fun gk v6 wr => NewI w1 w1.heap.size (w1.heap.size + 2) l0 gk wr)
      case atStart =>
        refine ⟨[], l0, .slice none 0 0, [], by omega, by simp, ?_, ?_, ⟨by simp, .inl ⟨rfl, rfl⟩⟩, ⟨rfl, fun k v p h => by simp at h⟩, ?_, rfl⟩
        · obtain ⟨k1, k2, k3⟩ := hKC.out (w1.alloc (.cells #[.slice none 0 0] 136))
          have hB := Blk.new ((w1.alloc (.cells #[.slice none 0 0] 136)).alloc (.cells (C (w1.alloc (.cells #[.slice none 0 0] 136))) 21)) 140 #[.slice (some ⟨w1.heap.size + 1, 0, none⟩) l0.length (K (w1.alloc (.cells #[.slice none 0 0] 136)))]
          rw [show ((w1.alloc (.cells #[.slice none 0 0] 136)).alloc (.cells (C (w1.alloc (.cells #[.slice none 0 0] 136))) 21)).heap.size = w1.heap.size + 2 from by simp] at hB
          have hC := (Blk.new (w1.alloc (.cells #[.slice none 0 0] 136)) 21 (C (w1.alloc (.cells #[.slice none 0 0] 136)))).alloc (.cells #[.slice (some ⟨w1.heap.size + 1, 0, none⟩) l0.length (K (w1.alloc (.cells #[.slice none 0 0] 136)))] 140)
          rw [show (w1.alloc (.cells #[.slice none 0 0] 136)).heap.size = w1.heap.size + 1 from by simp] at hC
          refine ⟨some ⟨w1.heap.size + 1, 0, none⟩, _, hB.drew, ⟨by simp [rv], fun _ => ⟨_, rfl, by simp, fun j u hu => ?_⟩⟩, k1, k2, fun ad e => by cases e; rfl⟩
          rw [show (⟨w1.heap.size + 1, 0, none⟩ : Addr).add j = ⟨w1.heap.size + 1, j, none⟩ from by unfold Addr.add; split <;> simp_all]
          exact (hC.drew.cell j).trans (k3 j u hu)
        · exact (((Blk.new w1 136 _).alloc _).alloc _).drew
        · exact (((((Below.refl w1.heap.size w1).alloc (Nat.le_refl _) _).alloc (by simp) _).alloc (by simp; omega) _).drew)
      case round =>
        clear hKC hcv
        generalize hg : w1.heap.size = g at *
        obtain ⟨ps, r, vv, vs, hgk, hln, hR, hG, hO, hPV, hbw, hga⟩ := hrel
        obtain ⟨A, c, c0, -⟩ := hR.peek
        have hblt := hR.lt
        cases r with
        | nil =>
          have hres : Hid (globP s.data.toList = some ps) := by rw [Hid, hP.out, hga, globA_nil]
          have hfin : Hid (GlobAt wr g ps) := ⟨vv, vs, hG, ownsRow_more hO (by omega), hPV.more (by omega)⟩
          have hbw' : Below w.heap.size w wr := hb1.trans (hbw.mono hsz1)
          clear hR hG hO hPV hga
          go_wp2_with fail
          go_ret2
          exact ⟨hbw', .inl ⟨ps, g, hres.out, rfl, hsz1, hfin.out⟩⟩
        | cons x rr =>
          have n1 : (0 : Int) < (rr.length : Int) + 1 := by omega
          have hl1000 : (x :: rr).length ≤ 1000 := by omega
          go_wp2_with fail
          refine (rpart_any wr (g + 2) (x :: rr) hR hl1000).mono ?_
          rintro e w2 ⟨hb2, hpt⟩
          have hG2 := hG.below hb2.1 (by omega)
          have hO2 := ownsRow_keep hO (fun k h1 h2 => hb2.2.block k h2 (by simp; omega))
          have hPV2 := hPV.keep (fun q u l hq ho => hb2.or hq ho)
          have hbw2 := hbw.trans (hb2.1.mono (by omega))
          have hblt2 : g + 2 < w2.heap.size := Nat.lt_of_lt_of_le hblt hb2.size
          clear hR hG hO hPV hbw hb2 c0
          rcases hpt with ⟨p, r', v, hpt, rfl, hv, hR2⟩ | ⟨hpt, v, rfl⟩
          · obtain ⟨tv, uv, rfl⟩ := hv.iface_
            have hga2 : Hid (globA [] l0 = globA (ps ++ [p]) r') := by rw [Hid, hga, globA_step ps hpt]
            have hlt := partR_len hpt
            have hv2 := hv.more (show g + 2 ≤ wr.heap.size by omega)
            obtain ⟨i0, hi0, hz0, hz1, hz2⟩ := info_parts part_info
            replace hi0 := hide hi0
            replace hz0 := hide hz0
            replace hz1 := hide hz1
            replace hz2 := hide hz2
            have hvl : Hid (vs.length = ps.length) := hPV2.1
            have hle : vs.length + 1 ≤ 100000 := by have := hvl.out; simp at hln; omega
            have c0 : w2.cell? ⟨g, 0, none⟩ = some vv := hG2.cell 0
            have f0 : w2.frozen? ⟨g, 0, none⟩ = false := hG2.frozen 0
            have hgB := hide hG2
            have hOB := hide (World.ownsRow.alloc hO2 (.cells #[.iface tv uv] 142))
            have hPB := hide hPV2
            have hRB := hide hR2
            have hvB := hide hv2
            have hnew := hide (Blk.new w2 142 #[.iface tv uv])
            have hown : Hid (∀ k, vv.ownBlock = some k → g + 3 ≤ k) := fun k hk => by
              rcases hO2.2 with ⟨rfl, _⟩ | ⟨g', cap, cur, rfl, hg', _⟩
              · simp [Value.ownBlock] at hk
              · simp [Value.ownBlock] at hk; omega
            clear hpt hga hG2 hO2 hPV2 hv hv2 hR2
            go_wp2_with (refine wpList_append_any _ rfl _ _ 134 rfl (g + 3) 142 i0 _ 1 16 Tryz.underlying134 hi0.out hz0.out hz1.out hz2.out rfl (by omega) vv _ _ rfl hOB.out (w2.heap.size + 1) (some ⟨w2.heap.size, 0, none⟩) 1 1 [.iface tv uv] rfl ?r1 ?r2 ?r3 ?r4 ?r5 ?_)
            case r1 =>
              refine ⟨rfl, fun _ => ⟨_, rfl, by simp, fun j u hj => ?_⟩⟩
              match j, hj with
              | 0, hj => simp at hj; subst hj; simp [Addr.add]
            case r2 => intro u hu; simp at hu; subst hu; rfl
            case r3 => simp only [maxLen]; omega
            case r4 => omega
            case r5 => simp; omega
            intro v3 w3 o3 g3 e3
            have hz : (w2.alloc (.cells #[.iface tv uv] 142)).heap.size = w2.heap.size + 1 := by simp
            have hgne : some g ≠ vv.ownBlock := fun e => by have := hown.out g e.symm; omega
            have hB3 : Below (g + 3) w2 w3 := ((Below.refl _ _).alloc (by omega) _).grown g3 (by omega) (fun k hk => hown.out k hk)
            have hG3 := hgB.out.below hB3 (by omega)
            have hR3 : RdSt w3 (g + 2) r' := hRB.out.keep hB3
            have hkeep : ∀ q (u : Value) (l : List Int), g + 2 ≤ q → OR w2 q u l → OR w3 q u l := fun q u l hq ho => by
              have h1 := ho.alloc (.cells #[.iface tv uv] 142)
              exact h1.grown g3 (fun k hk e => own_kind h1 hOB.out (by decide) k hk e)
            have hP3 := (hPB.out.keep hkeep).snoc (hvB.out.keep hkeep)
            have f3 : w3.frozen? ⟨g, 0, none⟩ = false := hG3.frozen 0
            have c3 : w3.cell? ⟨g, 0, none⟩ = some vv := hG3.cell 0
            have hI : Hid (NewI w1 g (g + 2) l0 (rr.length + 1) (w3.setCell ⟨g, 0, none⟩ v3)) := by
              refine ⟨ps ++ [p], r', v3, vs ++ [.iface tv uv], by simpa using hlt, by simp at hln hlt ⊢; omega, ?_, hG3.set_ 0 _, ?_, ?_, ?_, hga2.out⟩
              · exact hR3.apart (by simp) (by simp) _
              · have := ownsRow_keep (w' := w3.setCell ⟨g, 0, none⟩ v3) o3 (fun k h1 h2 => Below.heap_setCell w3 ⟨g, 0, none⟩ v3 k (by simp; omega))
                simpa using this
              · exact hP3.keep (fun q u l hq ho => ho.set_ (by omega) _)
              · exact (hbw2.trans (hB3.mono (by omega))).setCell (p := ⟨g, 0, none⟩) (Nat.le_refl _) _
            obtain ⟨A4, n4, k4, rfl⟩ : ∃ A n k, v3 = .slice A n k := by
              rcases o3.2 with ⟨rfl, _⟩ | ⟨g', cap, cur, rfl, _⟩
              · exact ⟨_, _, _, rfl⟩
              · exact ⟨_, _, _, rfl⟩
            clear hgB hOB hPB hRB hvB hnew hown o3 g3 e3 hz hgne hB3 hG3 hR3 hkeep hP3 c0 f0
            go_wp2_with fail
            go_roundg (rr.length + 1)
            case rel => exact hI.out
            case measure => simp at hgk; omega
          · have hres : Hid (globP s.data.toList = none) := by rw [Hid, hP.out, hga, globA_none ps (by simp) hpt]
            have he : Hid (globE s.data.toList = 4) := hE.out hres.out
            have hbw' : Below w.heap.size w w2 := hb1.trans (hbw2.mono hsz1)
            clear hpt hga hG2 hO2 hPV2
            go_wp2_with fail
            go_ret2
            exact ⟨hbw', .inr ⟨hres.out, by rw [he.out]; rfl⟩⟩
end Go.Proofs.YtnnjcedlomfhoaaGreatDoor
