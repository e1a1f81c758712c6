/-
  Memory of two: a part's own blocks (F), and the caller's. What the part does leaves the caller's blocks as they are.
-/
import Derived.Test.YthohbbaglceppaaGreatDoorUA
namespace Go.Proofs.YthohbbaglceppaaGreatDoor
open Go.RowKit
set_option linter.unusedVariables false
/-- A block of the caller's. -/
def Mine (F : Nat → Prop) (w : World) (k : Nat) : Prop := k < w.heap.size ∧ ¬ F k
/-- From one world to another one: only blocks of F were written; F has grown by new blocks alone. -/
structure Ev (F : Nat → Prop) (w : World) (F' : Nat → Prop) (w' : World) : Prop where
  only : Only F w w'
  grow : ∀ k, F' k → F k ∨ w.heap.size ≤ k
/-- One block more. -/
def plus (F : Nat → Prop) (g : Nat) : Nat → Prop := fun k => F k ∨ k = g
section
variable {F F' F'' X : Nat → Prop} {w w' w'' : World} {k : Nat}
theorem Ev.size (h : Ev F w F' w') : w.heap.size ≤ w'.heap.size := h.only.size
theorem Ev.refl (F : Nat → Prop) (w : World) : Ev F w F w := ⟨Only.refl F w, fun _ h => .inl h⟩
theorem Ev.trans (h : Ev F w F' w') (h2 : Ev F' w' F'' w'') : Ev F w F'' w'' :=
  ⟨h.only.trans h2.only fun i hi hF => (h.grow i hF).elim id fun hge => absurd hge (by omega),
   fun k hk => (h2.grow k hk).elim (fun h3 => h.grow k h3) fun h3 => .inr (Nat.le_trans h.size h3)⟩
theorem Ev.mono (h : Ev F w F' w') (hs : ∀ k, F'' k → F' k) : Ev F w F'' w' := ⟨h.only, fun k hk => h.grow k (hs k hk)⟩
theorem Ev.more (h : Ev F w F' w') (hs : ∀ k, F k → F'' k) (hs2 : ∀ k, F'' k → F k ∨ F' k ∨ w.heap.size ≤ k) : Ev F w F' w' := h
theorem Ev.add (h : Ev F w F' w') (X : Nat → Prop) : Ev (fun k => F k ∨ X k) w (fun k => F' k ∨ X k) w' :=
  ⟨h.only.mono fun _ _ h => .inl h, fun k hk => hk.elim (fun h1 => (h.grow k h1).imp .inl id) fun h1 => .inl (.inr h1)⟩
theorem Ev.plus (h : Ev F w F' w') (g : Nat) : Ev (plus F g) w (Go.Proofs.YthohbbaglceppaaGreatDoor.plus F' g) w' := h.add _
theorem Ev.wide (h : Ev F w F' w') (hs : ∀ k, F k → X k) : Ev X w (fun k => F' k ∨ X k) w' :=
  ⟨h.only.mono fun k _ h => hs k h, fun k hk => hk.elim (fun h1 => (h.grow k h1).imp (hs k) id) .inl⟩
theorem Ev.of_below (h : Below w.heap.size w w') : Ev F w F w' := ⟨(Only.of_below h), fun _ h => .inl h⟩
theorem Ev.drew (h : Ev F w F' w') : Ev F w F' w'.drew := ⟨h.only.drew, h.grow⟩
theorem Ev.drewN (h : Ev F w F' w') (n : Nat) : Ev F w F' (w'.drewN n) := ⟨h.only.drewN n, h.grow⟩
theorem Ev.alloc (h : Ev F w F' w') (o : Obj) : Ev F w (Go.Proofs.YthohbbaglceppaaGreatDoor.plus F' w'.heap.size) (w'.alloc o) :=
  ⟨h.only.alloc o, fun k hk => hk.elim (h.grow k) fun e => .inr (by rw [e]; exact h.size)⟩
theorem Ev.alloc_ (h : Ev F w F' w') (o : Obj) : Ev F w F' (w'.alloc o) := ⟨h.only.alloc o, h.grow⟩
theorem Ev.set_ (h : Ev F w F' w') {p : Addr} (hp : F' p.block) (u : Value) : Ev F w F' (w'.setCell p u) :=
  h.trans ⟨(Only.refl F' w').setCell (fun _ => hp) u, fun _ h => .inl h⟩
theorem Ev.below (h : Ev F w F' w') (hb : Below w'.heap.size w' w'') : Ev F w F' w'' := h.trans (Ev.of_below hb)
theorem Ev.grown (h : Ev F w F' w') {row : Option Nat} (hg : w'.grownBy w'' row) (hr : ∀ k, row = some k → F' k) : Ev F w F' w'' :=
  h.trans ⟨(Only.refl F' w').grown hg fun k hk _ => hr k hk, fun _ h => .inl h⟩
theorem Ev.block (h : Ev F w F' w') (hk : Mine F w k) : w'.heap[k]? = w.heap[k]? := h.only.block k hk.1 hk.2
theorem Ev.mine (h : Ev F w F' w') (hk : Mine F w k) : Mine F' w' k := ⟨Nat.lt_of_lt_of_le hk.1 h.size, fun hF => (h.grow k hF).elim hk.2 fun hge => absurd hge (by have := hk.1; omega)⟩
theorem Ev.blk (h : Ev F w F' w') {t : TypeId} {cs : Array Value} (hb : Blk w k t cs) (hk : ¬ F k) : Blk w' k t cs := h.only.blk hb hk
theorem Ev.cell (h : Ev F w F' w') {p : Addr} (hk : Mine F w p.block) : w'.cell? p = w.cell? p := World.cell?_of_block (h.block hk)
theorem Ev.new (h : Ev F w F' w') (hk : ¬ F k) (hl : k < w.heap.size) : ¬ F' k := (h.mine ⟨hl, hk⟩).2
end
/-- A slice that reads as a list, in a block of a kind G. -/
def Rd (G : Nat → Prop) (w : World) (size : Nat) (A : Option Addr) (n : Nat) (xs : List Value) : Prop :=
  xs.length = n * size ∧ (0 < n → ∃ ad, A = some ad ∧ G ad.block ∧ ∀ j u, xs[j]? = some u → w.cell? (ad.add j) = some u)
section
variable {G G' F F' : Nat → Prop} {w w' : World} {size n : Nat} {A : Option Addr} {xs : List Value}
theorem Rd.none_ : Rd G w size A 0 [] := ⟨by simp, fun h => absurd h (by omega)⟩
theorem Rd.keep (h : Rd G w size A n xs) (hk : ∀ k, G k → G' k ∧ w'.heap[k]? = w.heap[k]?) : Rd G' w' size A n xs :=
  ⟨h.1, fun hn => by
    obtain ⟨ad, e, hb, hc⟩ := h.2 hn
    exact ⟨ad, e, (hk _ hb).1, fun j u hu => (World.cell?_of_block (by rw [block_of_add]; exact (hk _ hb).2)).trans (hc j u hu)⟩⟩
theorem Rd.ev (h : Rd (Mine F w) w size A n xs) (he : Ev F w F' w') : Rd (Mine F' w') w' size A n xs := h.keep fun k hk => ⟨he.mine hk, he.block hk⟩
theorem Rd.reads (h : Rd G w size A n xs) {B : Nat} (hB : ∀ k, G k → k < B) : Reads w B size A n xs :=
  ⟨h.1, fun hn => by
    obtain ⟨ad, e, hb, hc⟩ := h.2 hn
    exact ⟨ad, e, hB _ hb, hc⟩⟩
theorem Rd.readsM (h : Rd (Mine F w) w size A n xs) : Reads w w.heap.size size A n xs := h.reads fun _ hk => hk.1
theorem Rd.of_own {base : Nat} {e : TypeId} {c : Nat} (h : w.ownsRow base e size (.slice A n c) n xs) (hG : ∀ k, base ≤ k → k < w.heap.size → G k) : Rd G w size A n xs := by
  refine ⟨h.1, fun hn => ?_⟩
  obtain ⟨g, cap, hv, hb, hlt⟩ := h.form hn
  have hA : A = some ⟨g, 0, none⟩ := by injection hv
  subst hA
  exact ⟨_, rfl, hG g hb hlt, h.cells (g := g) rfl⟩
theorem Rd.cut (h : Rd G w size A n xs) {k cap : Nat} (hk : k ≤ n) (hc : n ≤ cap) :
    Rd G w size (if cap = k then A else A.map (·.add (k * size))) (n - k) (xs.drop (k * size)) := by
  refine ⟨by rw [List.length_drop, h.1, Nat.sub_mul], fun hn => ?_⟩
  obtain ⟨ad, rfl, hb, hcell⟩ := h.2 (by omega)
  rw [if_neg (by omega)]
  refine ⟨ad.add (k * size), rfl, by rw [block_of_add]; exact hb, fun j u hu => ?_⟩
  rw [add_of_add]
  exact hcell _ u (by rw [← hu, List.getElem?_drop])
theorem Rd.take (h : Rd G w size A n xs) {k : Nat} (hk : k ≤ n) : Rd G w size A k (xs.take (k * size)) := by
  refine ⟨by rw [List.length_take, h.1]; exact Nat.min_eq_left (Nat.mul_le_mul_right _ hk), fun h0 => ?_⟩
  obtain ⟨ad, e, hb, hc⟩ := h.2 (by omega)
  refine ⟨ad, e, hb, fun j u hu => hc j u ?_⟩
  have hj := (List.getElem?_eq_some_iff.1 hu).1
  rw [List.length_take] at hj
  rw [← hu, List.getElem?_take, if_pos (by omega)]
end
/-- A slice of bytes of the caller's. -/
def MB (F : Nat → Prop) (w : World) (A : Option Addr) (n : Nat) (l : List UInt8) : Prop := Rd (Mine F w) w 1 A n (bv l)
section
variable {F F' : Nat → Prop} {w w' : World} {n : Nat} {A : Option Addr} {l : List UInt8}
theorem MB.nil (A : Option Addr) : MB F w A 0 [] := ⟨by simp [bv], fun h => absurd h (by omega)⟩
theorem MB.len (h : MB F w A n l) : l.length = n := by have := h.1; simpa [bv] using this
theorem MB.ev (h : MB F w A n l) (he : Ev F w F' w') : MB F' w' A n l := Rd.ev h he
theorem MB.rb (h : MB F w A n l) : RB w w.heap.size A n l := Rd.readsM h
theorem MB.drewN (h : MB F w A n l) (k : Nat) : MB F (w.drewN k) A n l := h
theorem MB.drew (h : MB F w A n l) : MB F w.drew A n l := h
theorem MB.of_own {base c : Nat} (h : OB w base (.slice A n c) n l) (hG : ∀ k, base ≤ k → ¬ F k) : MB F w A n l := Rd.of_own h fun k hb hl => ⟨hl, hG k hb⟩
/-- What a call made that only makes bytes. -/
theorem MB.made {base c : Nat} (h : OB w' base (.slice A n c) n l) (hF : ∀ k, F k → k < base) : MB F w' A n l := MB.of_own h fun k hb hk => by have := hF k hk; omega
theorem MB.take (h : MB F w A n l) {k : Nat} (hk : k ≤ n) : MB F w A k (l.take k) := by
  have := Rd.take h hk
  rw [Nat.mul_one] at this
  unfold MB bv at *
  rw [List.map_take]
  exact this
theorem MB.cut (h : MB F w A n l) {k cap : Nat} (hk : k ≤ n) (hc : n ≤ cap) : MB F w (if cap = k then A else A.map (·.add k)) (n - k) (l.drop k) := by
  have := Rd.cut h hk hc
  rw [Nat.mul_one] at this
  unfold MB bv at *
  rw [List.map_drop]
  exact this
end
end Go.Proofs.YthohbbaglceppaaGreatDoor
