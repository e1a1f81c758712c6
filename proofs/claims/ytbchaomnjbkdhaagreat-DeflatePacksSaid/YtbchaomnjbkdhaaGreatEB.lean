/-
  Words for memory that all proofs of this seat share: a slice that reads as a list; a block known whole; append onto a row of the call's own (after the kit's howto pages extra-words and extra-small, whose blocks are made for copying); below them words of this claim's own: lists of bytes and of ints as cells.
-/
import Derived.WalkKit
import Derived.Below
import Derived.Laws.OwnMore
import Derived.Deep.AppendLies
import Derived.Deep.Draws
import Derived.Deep.OwnRows
import Derived.Laws.Rows
import Derived.Laws.MakeOwn
import Derived.Maps.AppendAt
import Derived.RegionTactic
import Derived.OwnWalk
import Derived.Deep.QuietTactic
import Derived.BigQuiet
import Derived.ChangeSame
import Derived.Deep.DeepCutAuto
import Derived.Deep.CutBlock
import Derived.Deep.RegionHeld3
import Derived.Outline
import Derived.Test.YtbchaomnjbkdhaaGreatRows
import Derived.ProofKit
import Derived.OpenShut
import Derived.ShutString
import Derived.ChangeOld
import Derived.Test.YtbchaomnjbkdhaaGreatChecked
import Derived.WalkSpells
import Derived.Test.YtbchaomnjbkdhaaGreatEA
import Derived.StillTailTactics
import Derived.Laws.Bits
import Derived.IntWalk
import Derived.Deep.RegionWith
import Derived.ScopeJumps
import Derived.WalkMore
namespace Go.Proofs.YtbchaomnjbkdhaaGreat
open Go.RowKit
set_option linter.unusedVariables false
theorem hide {p : Prop} (h : p) : Hid p := h
theorem block_of_add (a : Addr) (n : Nat) : (a.add n).block = a.block := by unfold Addr.add; split <;> rfl
theorem add_of_add (a : Addr) (i j : Nat) : (a.add i).add j = a.add (i + j) := by
  unfold Addr.add
  by_cases hi : i = 0 <;> by_cases hj : j = 0 <;> simp [hi, hj, Nat.add_assoc]
def Reads (w : World) (B size : Nat) (A : Option Addr) (n : Nat) (xs : List Value) : Prop :=
  xs.length = n * size ∧ (0 < n → ∃ ad, A = some ad ∧ ad.block < B ∧ ∀ j u, xs[j]? = some u → w.cell? (ad.add j) = some u)
section
variable {w w' : World} {B B' size n : Nat} {A : Option Addr} {xs : List Value}
theorem Reads.none_ : Reads w B size A 0 [] := ⟨by simp, fun h => absurd h (by omega)⟩
theorem Reads.at_ {k : Nat} (h : Reads w B 1 A n xs) (hk : k < n) : ∃ ad u, A = some ad ∧ ad.block < B ∧ xs[k]? = some u ∧ w.cell? (ad.add k) = some u := by
  obtain ⟨ad, e, hb, hc⟩ := h.2 (by omega)
  have hl : k < xs.length := by have := h.1; omega
  exact ⟨ad, xs[k], e, hb, List.getElem?_eq_getElem hl, hc k _ (List.getElem?_eq_getElem hl)⟩
theorem Reads.keep (h : Reads w B size A n xs) (hk : ∀ p : Addr, p.block < B → w'.cell? p = w.cell? p) : Reads w' B size A n xs :=
  ⟨h.1, fun hn => by
    obtain ⟨ad, e, hb, hc⟩ := h.2 hn
    exact ⟨ad, e, hb, fun j u hu => (hk _ (by rw [block_of_add]; exact hb)).trans (hc j u hu)⟩⟩
theorem Reads.more (h : Reads w B size A n xs) (hB : B ≤ B') : Reads w B' size A n xs :=
  ⟨h.1, fun hn => by
    obtain ⟨ad, e, hb, hc⟩ := h.2 hn
    exact ⟨ad, e, by omega, hc⟩⟩
theorem Reads.below (h : Reads w B size A n xs) (hb : Below B w w') : Reads w' B size A n xs := h.keep fun _ hp => hb.cell hp
theorem Reads.drew (h : Reads w B size A n xs) : Reads w.drew B size A n xs := h
theorem Reads.drewN (h : Reads w B size A n xs) (k : Nat) : Reads (w.drewN k) B size A n xs := h
theorem Reads.alloc (h : Reads w B size A n xs) (hB : B ≤ w.heap.size) (o : Obj) : Reads (w.alloc o) B size A n xs := h.keep fun p hp => World.cell?_alloc_lt w o p (by omega)
theorem Reads.setCell (h : Reads w B size A n xs) {p : Addr} (hB : B ≤ p.block) (u : Value) : Reads (w.setCell p u) B size A n xs :=
  h.keep fun q hq => World.cell?_setCell_other w p q u (fun e => by subst e; omega)
theorem Reads.grown (h : Reads w B size A n xs) {row : Option Nat} (hg : w.grownBy w' row) (hB : B ≤ w.heap.size) (hr : ∀ g, row = some g → B ≤ g) : Reads w' B size A n xs :=
  h.keep fun p hp => World.cell?_of_block (hg.block p.block (by omega) (fun e => by have := hr _ e.symm; omega))
theorem Reads.cut (h : Reads w B size A n xs) {k cap : Nat} (hk : k ≤ n) (hc : n ≤ cap) :
    Reads w B size (if cap = k then A else A.map (·.add (k * size))) (n - k) (xs.drop (k * size)) := by
  refine ⟨by rw [List.length_drop, h.1, Nat.sub_mul], fun hn => ?_⟩
  obtain ⟨ad, rfl, hb, hcell⟩ := h.2 (by omega)
  rw [if_neg (by omega)]
  refine ⟨ad.add (k * size), rfl, by rw [block_of_add]; exact hb, fun j u hu => ?_⟩
  rw [add_of_add]
  exact hcell _ u (by rw [← hu, List.getElem?_drop])
theorem Reads.of_own {base : Nat} {e : TypeId} {c : Nat} (h : w.ownsRow base e size (.slice A n c) n xs) : Reads w w.heap.size size A n xs := by
  refine ⟨h.1, fun hn => ?_⟩
  obtain ⟨g, cap, hv, _, hlt⟩ := h.form hn
  have hA : A = some ⟨g, 0, none⟩ := by injection hv
  subst hA
  exact ⟨_, rfl, hlt, h.cells (g := g) rfl⟩
end
def Blk (w : World) (g : Nat) (t : TypeId) (cs : Array Value) : Prop := w.heap[g]? = some (.cells cs t (0, 0))
section
variable {w w' : World} {g : Nat} {t : TypeId} {cs : Array Value}
theorem Blk.lt (h : Blk w g t cs) : g < w.heap.size := by
  rcases Nat.lt_or_ge g w.heap.size with hlt | hge
  · exact hlt
  · unfold Blk at h; rw [Array.getElem?_eq_none hge] at h; cases h
theorem Blk.cell (h : Blk w g t cs) (i : Nat) : w.cell? ⟨g, i, none⟩ = cs[i]? := cell_of_row w g i cs t (0, 0) h
theorem Blk.frozen (h : Blk w g t cs) (i : Nat) : w.frozen? ⟨g, i, none⟩ = false := by
  unfold Blk at h
  simp [World.frozen?, h]
theorem Blk.new (w : World) (t : TypeId) (cs : Array Value) : Blk (w.alloc (.cells cs t)) w.heap.size t cs := heap_alloc_new w _
theorem Blk.drew (h : Blk w g t cs) : Blk w.drew g t cs := h
theorem Blk.drewN (h : Blk w g t cs) (n : Nat) : Blk (w.drewN n) g t cs := h
theorem Blk.alloc (h : Blk w g t cs) (o : Obj) : Blk (w.alloc o) g t cs := (Below.heap_alloc w o g h.lt).trans h
theorem Blk.set_ (h : Blk w g t cs) (i : Nat) (u : Value) : Blk (w.setCell ⟨g, i, none⟩ u) g t (cs.setIfInBounds i u) := by
  unfold Blk at h ⊢
  simp [World.setCell, Array.getElem?_modify, h]
theorem Blk.far (h : Blk w g t cs) {p : Addr} (hp : g ≠ p.block) (u : Value) : Blk (w.setCell p u) g t cs := (Below.heap_setCell w p u g hp).trans h
theorem Blk.below {B : Nat} (h : Blk w g t cs) (hb : Below B w w') (hg : g < B) : Blk w' g t cs := (hb.block g hg).trans h
theorem Blk.grown {row : Option Nat} (h : Blk w g t cs) (hb : w.grownBy w' row) (hg : some g ≠ row) : Blk w' g t cs := (hb.block g h.lt hg).trans h
theorem Blk.ne_ {g' : Nat} {t' : TypeId} {cs' : Array Value} (h : Blk w g t cs) (h' : Blk w g' t' cs') (hne : t ≠ t') : g ≠ g' := by
  rintro rfl
  unfold Blk at h h'
  rw [h] at h'
  injection h' with h'
  injection h' with _ ht
  exact hne ht
theorem own_blk_ne {base : Nat} {e : TypeId} {size n : Nat} {v : Value} {xs : List Value} (h : w.ownsRow base e size v n xs) (hg : Blk w g t cs) (hne : e ≠ t) : v.ownBlock ≠ some g := by
  rcases h.2 with ⟨rfl, _⟩ | ⟨g', cap, cur, rfl, _, hh, _⟩
  · simp [Value.ownBlock]
  · intro he
    have : g' = g := by simpa [Value.ownBlock] using he
    subst this
    exact Blk.ne_ (t := e) hh hg hne rfl
end
section
variable {P : Program} (w : World)
theorem run_append_of_nil (base : Nat) (t ty e : TypeId) (i : TypeInfo) (size : Nat) (ht : P.underlying t = some (.slice e)) (hi : P.info? e = some i)
    (v : Value) (n : Nat) (xs : List Value) (hown : w.ownsRow base e size v n xs) (c : Nat) : (Builtin.append_ #[t, t] ty #[v, .slice none 0 c]).run P w = .ok v w := by
  rcases hown.2 with ⟨rfl, rfl⟩ | ⟨g, cap, cur, rfl, _, _, hnc, _⟩
  · simp [Builtin.append_, run_underlying ht, sizeOf, typeInfo, hi, Builtin.lenOf, Builtin.firstCells]
  · simp [Builtin.append_, run_underlying ht, sizeOf, typeInfo, hi, Builtin.lenOf, Builtin.firstCells, hnc, storeCells]
theorem run_append_any (base : Nat) (t ty e : TypeId) (i : TypeInfo) (z : Value) (size bytes : Nat) (ht : P.underlying t = some (.slice e)) (hi : P.info? e = some i) (hz : i.zero = some z)
    (hsize : i.size = size) (hby : i.bytes = bytes) (hzs : z.cells.size = size) (hsz : 0 < size)
    (v : Value) (n : Nat) (xs : List Value) (hown : w.ownsRow base e size v n xs)
    (B : Nat) (A : Option Addr) (m c : Nat) (news : List Value) (hr : Reads w B size A m news) (h1 : ∀ u ∈ news, u.oneCell' = true)
    (h63 : n + m ≤ maxLen) (hbytes : (n + m) * bytes ≤ 140737488355328) (hbase : base ≤ w.heap.size) :
    ∃ v' w', (Builtin.append_ #[t, t] ty #[v, .slice A m c]).run P w = .ok v' w' ∧ w'.ownsRow base e size v' (n + m) (xs ++ news) ∧ w.grownBy w' v.ownBlock ∧
      (v'.ownBlock = v.ownBlock ∨ v'.ownBlock = some w.heap.size) := by
  rcases A with _ | ad
  · have hm : m = 0 := by
      rcases Nat.eq_zero_or_pos m with h0 | h0
      · exact h0
      · obtain ⟨ad, h, _⟩ := hr.2 h0
        cases h
    subst hm
    have hn : news = [] := List.eq_nil_of_length_eq_zero (by simpa using hr.1)
    subst hn
    exact ⟨v, w, run_append_of_nil w base t ty e i size ht hi v n xs hown c, by simpa using hown, World.grownBy.refl w _, .inl rfl⟩
  · have hcells : ∀ j u, news[j]? = some u → w.cell? (ad.add j) = some u := by
      intro j u hu
      rcases Nat.eq_zero_or_pos m with h0 | h0
      · subst h0
        have hn : news = [] := List.eq_nil_of_length_eq_zero (by simpa using hr.1)
        subst hn
        simp at hu
      · obtain ⟨ad', h, _, hc⟩ := hr.2 h0
        injection h with h
        subst h
        exact hc j u hu
    obtain ⟨v', w', hrun, h2, h3, _, h5⟩ := run_append_own_at (P := P) w base t ty e i z size bytes ht hi hz hsize hby hzs hsz v n xs hown ad m c news hr.1 hcells h1 h63 hbytes hbase
    exact ⟨v', w', hrun, h2, h3, h5⟩
theorem wp_append_any {o : Oper} {a : Act} {K : Act → World → Prop} {Q : Exit → Act → World → Prop} (s x : Operand) (t : TypeId)
    (ho : o.op = .call { callee := .builtin .append, args := #[s, x], argTypes := #[t, t] })
    (base : Nat) (e : TypeId) (i : TypeInfo) (z : Value) (size bytes : Nat) (ht : P.underlying t = some (.slice e)) (hi : P.info? e = some i) (hz : i.zero = some z)
    (hsize : i.size = size) (hby : i.bytes = bytes) (hzs : z.cells.size = size) (hsz : 0 < size)
    (v : Value) (n : Nat) (xs : List Value) (hs : a.eval s = v) (hown : w.ownsRow base e size v n xs)
    (B : Nat) (A : Option Addr) (m c : Nat) (news : List Value) (hx : a.eval x = .slice A m c) (hr : Reads w B size A m news) (h1 : ∀ u ∈ news, u.oneCell' = true)
    (h63 : n + m ≤ maxLen) (hbytes : (n + m) * bytes ≤ 140737488355328) (hbase : base ≤ w.heap.size)
    (h : ∀ v' w', w'.ownsRow base e size v' (n + m) (xs ++ news) → w.grownBy w' v.ownBlock → (v'.ownBlock = v.ownBlock ∨ v'.ownBlock = some w.heap.size) → K (a.put o.dst v') w') : o.wp P a w K Q := by
  obtain ⟨v', w', hrun, h2, h3, h4⟩ := run_append_any (P := P) w base t o.type e i z size bytes ht hi hz hsize hby hzs hsz v n xs hown B A m c news hr h1 h63 hbytes hbase
  unfold Oper.wp execOp
  simp only [ho, resolve, invoke, builtin, Sem.run_bind, Sem.run_pure, Result.andThen_ok, List.map_toArray, List.map_cons, List.map_nil, hs, hx, hrun]
  exact h v' w' h2 h3 h4
theorem wpList_append_any {ops : Array Oper} {rest : List Oper} {o : Oper} {a : Act} {Q : Exit → Act → World → Prop} (hgd : o.guard = none) (s x : Operand) (t : TypeId)
    (ho : o.op = .call { callee := .builtin .append, args := #[s, x], argTypes := #[t, t] })
    (base : Nat) (e : TypeId) (i : TypeInfo) (z : Value) (size bytes : Nat) (ht : P.underlying t = some (.slice e)) (hi : P.info? e = some i) (hz : i.zero = some z)
    (hsize : i.size = size) (hby : i.bytes = bytes) (hzs : z.cells.size = size) (hsz : 0 < size)
    (v : Value) (n : Nat) (xs : List Value) (hs : a.eval s = v) (hown : w.ownsRow base e size v n xs)
    (B : Nat) (A : Option Addr) (m c : Nat) (news : List Value) (hx : a.eval x = .slice A m c) (hr : Reads w B size A m news) (h1 : ∀ u ∈ news, u.oneCell' = true)
    (h63 : n + m ≤ maxLen) (hbytes : (n + m) * bytes ≤ 140737488355328) (hbase : base ≤ w.heap.size)
    (h : ∀ v' w', w'.ownsRow base e size v' (n + m) (xs ++ news) → w.grownBy w' v.ownBlock → (v'.ownBlock = v.ownBlock ∨ v'.ownBlock = some w.heap.size) → wpList P ops Q rest (a.put o.dst v') w') : wpList P ops Q (o :: rest) a w :=
  wpList_plain hgd fun _ hK => wp_append_any w s x t ho base e i z size bytes ht hi hz hsize hby hzs hsz v n xs hs hown B A m c news hx hr h1 h63 hbytes hbase fun v' w' h2 h3 h4 => hK _ _ (h v' w' h2 h3 h4)
theorem step_append_any {ops : Array Oper} {o : Oper} {a : Act} {K : Act → World → Prop} {Q : Exit → Act → World → Prop} {E : Prop} (hgd : o.guard = none) (s x : Operand) (t : TypeId)
    (ho : o.op = .call { callee := .builtin .append, args := #[s, x], argTypes := #[t, t] })
    (base : Nat) (e : TypeId) (i : TypeInfo) (z : Value) (size bytes : Nat) (ht : P.underlying t = some (.slice e)) (hi : P.info? e = some i) (hz : i.zero = some z)
    (hsize : i.size = size) (hby : i.bytes = bytes) (hzs : z.cells.size = size) (hsz : 0 < size)
    (v : Value) (n : Nat) (xs : List Value) (hs : a.eval s = v) (hown : w.ownsRow base e size v n xs)
    (B : Nat) (A : Option Addr) (m c : Nat) (news : List Value) (hx : a.eval x = .slice A m c) (hr : Reads w B size A m news) (h1 : ∀ u ∈ news, u.oneCell' = true)
    (h63 : n + m ≤ maxLen) (hbytes : (n + m) * bytes ≤ 140737488355328) (hbase : base ≤ w.heap.size)
    (h : ∀ v' w', w'.ownsRow base e size v' (n + m) (xs ++ news) → w.grownBy w' v.ownBlock → (v'.ownBlock = v.ownBlock ∨ v'.ownBlock = some w.heap.size) → K (a.put o.dst v') w') :
    if Region.wanted o (yielded ops a.tmps) = true then Oper.wp P o a w K Q else E := by
  have hw : Region.wanted o (yielded ops a.tmps) = true := by simp [Region.wanted, hgd]
  rw [if_pos hw]
  exact wp_append_any w s x t ho base e i z size bytes ht hi hz hsize hby hzs hsz v n xs hs hown B A m c news hx hr h1 h63 hbytes hbase h
end
theorem quiet_add_left {P : Program} {f : FuncId} {args : Array Value} {w : World} {a n : Nat} {v : Value}
    (h : Calls P f args (w.drewN (a + n)) fun e w' => e = .returned v ∧ w.drewN (a + n) = w') :
    Calls P f args (w.drewN (a + n)) fun e w'' => e = .returned v ∧ ∃ m, w'' = w.drewN (a + m) :=
  h.mono fun _ _ ⟨he, hm⟩ => ⟨he, n, hm.symm⟩
theorem quiet_left {P : Program} {f : FuncId} {args : Array Value} {w : World} {n : Nat} {v : Value}
    (h : Calls P f args (w.drewN n) fun e w' => e = .returned v ∧ w.drewN n = w') : Calls P f args (w.drewN n) fun e w'' => e = .returned v ∧ ∃ m, w'' = w.drewN m :=
  h.mono fun _ _ ⟨he, hm⟩ => ⟨he, n, hm.symm⟩
theorem below_drewN {B : Nat} {a w : World} (h : Below B a w) (n : Nat) : Below B a (w.drewN n) := ⟨h.os, h.tape, h.output, h.size, h.block⟩
theorem run_make_rowN {P : Program} (t e : TypeId) (i : TypeInfo) (z : Value) (ht : P.underlying t = some (.slice e)) (hi : P.info? e = some i) (hz : i.zero = some z)
    (kl kc : IntKind) (n c : Nat) (hnc : n ≤ c) (hbytes : i.bytes * c ≤ 281474976710656) (h63 : c ≤ 9223372036854775807) (w : World) :
    (Instr.makeSlice t (.int kl (n : Int)) (.int kc (c : Int))).run P w = .ok (.slice (some ⟨w.heap.size, 0, none⟩) n c) (w.alloc (.cells (madeCells z.cells (c * i.size)) e)) := by
  have hb : (i.bytes : Int) * (c : Int) ≤ 281474976710656 := by
    have h : ((i.bytes * c : Nat) : Int) ≤ 281474976710656 := by omega
    rwa [Int.natCast_mul] at h
  have hr := run_make (P := P) w t e i z ht hi hz kl kc n c (by omega) (by omega) hb (by omega)
  simp only [Int.toNat_natCast] at hr
  exact hr
section
open Go.RowKit Go.WideShapes Go.ChangeShapes
section
variable {H : Type} {enc : TypeId × Value → H} {P : Program}
end
end
/-- Only draws lie between two worlds. -/
def Qt (w w' : World) : Prop := ∃ q, w' = w.drewN q
theorem Qt.refl (w : World) : Qt w w := ⟨0, rfl⟩
theorem Qt.drewN {w w' : World} (h : Qt w w') (n : Nat) : Qt w (w'.drewN n) := by
  obtain ⟨q, rfl⟩ := h
  exact ⟨q + n, World.drewN_drewN ..⟩
theorem Qt.drew {w w' : World} (h : Qt w w') : Qt w w'.drew := h.drewN 1
theorem Qt.trans {a b c : World} (h : Qt a b) (k : Qt b c) : Qt a c := by
  obtain ⟨q, rfl⟩ := k
  exact h.drewN q
theorem Qt.below {w w' : World} (h : Qt w w') (B : Nat) : Below B w w' := by
  obtain ⟨q, rfl⟩ := h
  exact below_drewN (Below.refl _ _) q
theorem ret_bool {a b : Bool} (h : a = b) : Ending.returned (.bool a) = Ending.returned (.bool b) := by rw [h]
theorem ret_int {k : IntKind} {a b : Int} (h : a = b) : Ending.returned (.int k a) = Ending.returned (.int k b) := by rw [h]
/-- The cells of bytes; of ints. -/
def bv (l : List UInt8) : List Value := l.map fun b => Value.int .u8 (b.toNat : Int)
def iv (l : List Int) : List Value := l.map fun b => Value.int .i64 b
theorem bv_length (l : List UInt8) : (bv l).length = l.length := by simp [bv]
theorem bv_get {l : List UInt8} {k : Nat} (h : k < l.length) : (bv l)[k]? = some (.int .u8 ((l[k]).toNat : Int)) := by simp [bv, h]
theorem iv_get {l : List Int} {k : Nat} (h : k < l.length) : (iv l)[k]? = some (.int .i64 l[k]) := by simp [iv, h]
theorem bv_append (a b : List UInt8) : bv (a ++ b) = bv a ++ bv b := by simp [bv]
theorem bv_one (l : List UInt8) : ∀ u ∈ bv l, u.oneCell' = true := by
  intro u hu
  obtain ⟨_, _, rfl⟩ := List.mem_map.1 hu
  rfl
/-- A slice of bytes (of ints) reads as a list: its length, the cells; nil and empty let in. -/
def RB (w : World) (B : Nat) (A : Option Addr) (n : Nat) (l : List UInt8) : Prop := Reads w B 1 A n (bv l)
def RI (w : World) (B : Nat) (A : Option Addr) (n : Nat) (l : List Int) : Prop := Reads w B 1 A n (iv l)
section
variable {w w' : World} {B B' n : Nat} {A : Option Addr} {l : List UInt8} {z : List Int}
theorem RB.len (h : RB w B A n l) : l.length = n := by have := h.1; simpa [bv] using this
theorem RI.len (h : RI w B A n z) : z.length = n := by have := h.1; simpa [iv] using this
theorem RB.elem (h : RB w B A n l) {k : Nat} (hk : k < n) (hl : k < l.length) : ∃ ad, A = some ad ∧ ad.block < B ∧ w.cell? (ad.add k) = some (.int .u8 ((l[k]).toNat : Int)) := by
  obtain ⟨ad, u, e, hb, hx, hc⟩ := Reads.at_ h hk
  rw [bv_get hl] at hx
  injection hx with hx
  subst hx
  exact ⟨ad, e, hb, hc⟩
theorem RI.elem (h : RI w B A n z) {k : Nat} (hk : k < n) (hl : k < z.length) : ∃ ad, A = some ad ∧ ad.block < B ∧ w.cell? (ad.add k) = some (.int .i64 z[k]) := by
  obtain ⟨ad, u, e, hb, hx, hc⟩ := Reads.at_ h hk
  rw [iv_get hl] at hx
  injection hx with hx
  subst hx
  exact ⟨ad, e, hb, hc⟩
theorem RB.below (h : RB w B A n l) (hb : Below B w w') : RB w' B A n l := Reads.below h hb
theorem RB.more (h : RB w B A n l) (hB : B ≤ B') : RB w B' A n l := Reads.more h hB
theorem RB.drew (h : RB w B A n l) : RB w.drew B A n l := h
theorem RB.drewN (h : RB w B A n l) (k : Nat) : RB (w.drewN k) B A n l := h
theorem RB.alloc (h : RB w B A n l) (hB : B ≤ w.heap.size) (o : Obj) : RB (w.alloc o) B A n l := Reads.alloc h hB o
theorem RB.setCell (h : RB w B A n l) {p : Addr} (hB : B ≤ p.block) (u : Value) : RB (w.setCell p u) B A n l := Reads.setCell h hB u
theorem RB.nil (w : World) (B : Nat) : RB w B none 0 [] := ⟨by simp [bv], fun h => absurd h (by omega)⟩
theorem RI.below (h : RI w B A n z) (hb : Below B w w') : RI w' B A n z := Reads.below h hb
theorem RI.more (h : RI w B A n z) (hB : B ≤ B') : RI w B' A n z := Reads.more h hB
theorem RI.drew (h : RI w B A n z) : RI w.drew B A n z := h
theorem RI.drewN (h : RI w B A n z) (k : Nat) : RI (w.drewN k) B A n z := h
theorem RI.alloc (h : RI w B A n z) (hB : B ≤ w.heap.size) (o : Obj) : RI (w.alloc o) B A n z := Reads.alloc h hB o
theorem RI.setCell (h : RI w B A n z) {p : Addr} (hB : B ≤ p.block) (u : Value) : RI (w.setCell p u) B A n z := Reads.setCell h hB u
theorem RI.nil (w : World) (B : Nat) : RI w B none 0 [] := ⟨by simp [iv], fun h => absurd h (by omega)⟩
theorem RB.take (h : RB w B A n l) {k : Nat} (hk : k ≤ n) : RB w B A k (l.take k) := by
  have hl := h.len
  refine ⟨by simp [bv]; omega, fun h0 => ?_⟩
  obtain ⟨ad, e, hb, hc⟩ := h.2 (by omega)
  refine ⟨ad, e, hb, fun j u hu => hc j u ?_⟩
  have hj := (List.getElem?_eq_some_iff.1 hu).1
  rw [bv_length, List.length_take] at hj
  rw [← hu, bv, bv, List.map_take, List.getElem?_take, if_pos (by omega)]
end
end Go.Proofs.YtbchaomnjbkdhaaGreat
namespace Go.Proofs.YtbchaomnjbkdhaaGreat
open Go.ChangeShapes Go.WideShapes Go.ChangeAt Go.RowKit
set_option linter.unusedVariables false
theorem seat_own : ownKnob Tryz.prog.godebug = none := by kernel_rfl
theorem seat_laidOut : laidOutB Tryz.prog = true := by kernel_rfl
/-- What is told of a slice of integers that came in. -/
def IsRow (k : IntKind) (w : World) (a : Option Addr) (len cap : Nat) (zs : List Int) : Prop :=
  (a = none ∧ len = 0 ∧ cap = 0 ∧ zs = []) ∨
  ∃ x, a = some x ∧ len ≤ cap ∧ cap ≤ maxLen ∧ zs.length = cap ∧ (∀ i, i < zs.length → w.cell? (x.add i) = some (.int k (zs.getD i 0))) ∧ ∀ n ∈ zs, (Lit.int k n).wf = true
theorem cell_block_lt {w : World} {p : Addr} {v : Value} (h : w.cell? p = some v) : p.block < w.heap.size := by
  rcases Nat.lt_or_ge p.block w.heap.size with hlt | hge
  · exact hlt
  · simp [World.cell?, Array.getElem?_eq_none hge] at h
theorem IsRow.reads {k : IntKind} {w : World} {a : Option Addr} {len cap : Nat} {zs : List Int} (h : IsRow k w a len cap zs) : Reads w w.heap.size 1 a len ((zs.take len).map (Value.int k)) := by
  rcases h with ⟨rfl, rfl, rfl, rfl⟩ | ⟨x, rfl, hl, hm, hz, hc, _⟩
  · exact Reads.none_
  · refine ⟨by simp; omega, fun h0 => ⟨x, rfl, ?_, fun j u hu => ?_⟩⟩
    · have := cell_block_lt (hc 0 (by omega))
      rwa [block_of_add] at this
    · have hj : j < len ∧ j < zs.length := by
        have := (List.getElem?_eq_some_iff.1 hu).1
        simp at this; omega
      have e : zs.getD j 0 = zs[j]'hj.2 := by simp [List.getD, hj.2]
      rw [hc j hj.2, e, ← hu]
      simp [hj.1, hj.2]
/-- The bytes of numbers that fit a byte. -/
theorem bytes_of_ints {zs : List Int} (h : ∀ n ∈ zs, (Lit.int .u8 n).wf = true) : ∃ l : List UInt8, zs.map (Value.int .u8) = bv l := by
  refine ⟨zs.map fun z => UInt8.ofNat z.toNat, ?_⟩
  simp only [bv, List.map_map]
  apply List.map_congr_left
  intro z hz
  have hw := h z hz
  simp [Lit.wf, IntKind.min, IntKind.max, IntKind.signed, IntKind.bits] at hw
  simp only [Function.comp, UInt8.toNat_ofNat']
  congr 1
  omega
theorem IsRow.rb {w : World} {a : Option Addr} {len cap : Nat} {zs : List Int} (h : IsRow .u8 w a len cap zs) : ∃ l : List UInt8, RB w w.heap.size a len l := by
  obtain ⟨l, hl⟩ := bytes_of_ints (zs := zs.take len) (by
    rcases h with ⟨_, _, _, rfl⟩ | ⟨_, _, _, _, _, _, hw⟩
    · simp
    · exact fun n hn => hw n (List.mem_of_mem_take hn))
  exact ⟨l, by rw [RB, ← hl]; exact h.reads⟩
theorem IsRow.le {k : IntKind} {w : World} {a : Option Addr} {len cap : Nat} {zs : List Int} (h : IsRow k w a len cap zs) : len ≤ cap ∧ cap ≤ maxLen := by
  rcases h with ⟨_, rfl, rfl, _⟩ | ⟨_, _, h1, h2, _⟩
  · exact ⟨Nat.le_refl _, Nat.zero_le _⟩
  · exact ⟨h1, h2⟩
end Go.Proofs.YtbchaomnjbkdhaaGreat
namespace Go.Proofs.YtbchaomnjbkdhaaGreat
open Go.RowKit
set_option linter.unusedVariables false
theorem byte_info : (Tryz.prog.info? 5).map (fun i => (i.zero, i.size, i.bytes)) = some (some (.int .u8 0), 1, 1) := by kernel_rfl
/-- The call owns the row of bytes: nil, or at the head of a block from 'base' on. -/
def OB (w : World) (base : Nat) (v : Value) (n : Nat) (l : List UInt8) : Prop := w.ownsRow base 5 1 v n (bv l)
section
variable {w w' : World} {base n : Nat} {v : Value} {l : List UInt8}
theorem OB.nil (w : World) (base : Nat) : OB w base (.slice none 0 0) 0 [] := ⟨by simp [bv], .inl ⟨rfl, rfl⟩⟩
theorem OB.empty (w : World) {base : Nat} (h : base ≤ w.heap.size) : OB (w.alloc (.cells #[] 5)) base (.slice (some ⟨w.heap.size, 0, none⟩) 0 0) 0 [] :=
  ⟨by simp [bv], .inr ⟨w.heap.size, 0, #[], rfl, h, heap_alloc_new w _, Nat.le_refl _, Nat.zero_le _, rfl, rfl⟩⟩
theorem OB.len (h : OB w base v n l) : l.length = n := by have := h.1; simpa [bv] using this
theorem OB.form (h : OB w base v n l) : ∃ A c, v = .slice A n c ∧ RB w w.heap.size A n l ∧ (A = none → n = 0) ∧ n ≤ c ∧ c ≤ maxLen := by
  have h2 := h.2
  rcases h2 with ⟨rfl, rfl⟩ | ⟨g, cap, cur, rfl, _, _, h3, h4, _⟩
  · exact ⟨none, 0, rfl, Reads.of_own h, fun _ => rfl, Nat.le_refl _, Nat.zero_le _⟩
  · exact ⟨_, _, rfl, Reads.of_own h, (fun e => by cases e), h3, h4⟩
theorem OB.below {B : Nat} (h : OB w base v n l) (hb : Below B w w') (hs : w.heap.size ≤ B) : OB w' base v n l := by
  obtain ⟨h1, h2⟩ := h
  refine ⟨h1, ?_⟩
  rcases h2 with h2 | ⟨g, cap, cur, hv, hg, hh, r⟩
  · exact Or.inl h2
  · have hlt : g < w.heap.size := by
      rcases Nat.lt_or_ge g w.heap.size with hlt | hge
      · exact hlt
      · rw [Array.getElem?_eq_none hge] at hh; cases hh
    exact Or.inr ⟨g, cap, cur, hv, hg, by rw [hb.block g (by omega)]; exact hh, r⟩
theorem OB.more {b' : Nat} (h : OB w base v n l) (hb : b' ≤ base) : OB w b' v n l := by
  obtain ⟨h1, h2⟩ := h
  refine ⟨h1, ?_⟩
  rcases h2 with h2 | ⟨g, cap, cur, hv, hg, hh, r⟩
  · exact Or.inl h2
  · exact Or.inr ⟨g, cap, cur, hv, by omega, hh, r⟩
theorem OB.alloc (h : OB w base v n l) (o : Obj) : OB (w.alloc o) base v n l := World.ownsRow.alloc h o
theorem OB.drew (h : OB w base v n l) : OB w.drew base v n l := h
theorem OB.drewN (h : OB w base v n l) (k : Nat) : OB (w.drewN k) base v n l := h
theorem OB.block_lt (h : OB w base v n l) (k : Nat) (hk : v.ownBlock = some k) : base ≤ k := by
  rcases h.2 with ⟨rfl, rfl⟩ | ⟨g, cap, cur, rfl, hg, _⟩
  · simp [Value.ownBlock] at hk
  · simp [Value.ownBlock] at hk; omega
theorem OB.cut {g cap k : Nat} (h : OB w base (.slice (some ⟨g, 0, none⟩) n cap) n l) (hk : k ≤ n) : OB w base (.slice (some ⟨g, 0, none⟩) k cap) k (l.take k) := by
  obtain ⟨h1, h2⟩ := h
  rcases h2 with ⟨h0, _⟩ | ⟨g', cap', cur, hv, hg, hh, hn, hcap, hsz, htake⟩
  · cases h0
  · cases hv
    refine ⟨?_, .inr ⟨g, cap, cur, rfl, hg, hh, by omega, hcap, hsz, ?_⟩⟩
    · rw [bv_length] at h1 ⊢
      rw [List.length_take]; omega
    · have h3 : (cur.toList.take (n * 1)).take (k * 1) = (bv l).take (k * 1) := by rw [htake]
      rw [List.take_take, Nat.min_eq_left (by omega)] at h3
      rw [h3, bv, bv, List.map_take, Nat.mul_one]
theorem OB.cell {g cap k : Nat} (h : OB w base (.slice (some ⟨g, 0, none⟩) n cap) n l) (hk : k < n) (hl : k < l.length) : w.cell? ⟨g, k, none⟩ = some (.int .u8 ((l[k]).toNat : Int)) := by
  rw [World.ownsRow.cellAt h k (by omega), bv_get hl]
theorem OB.froz {g cap k : Nat} (h : OB w base (.slice (some ⟨g, 0, none⟩) n cap) n l) : w.frozen? ⟨g, k, none⟩ = false := World.ownsRow.frozenAt h k
theorem OB.stored {g cap : Nat} (h : OB w base (.slice (some ⟨g, 0, none⟩) n cap) n l) (j : Nat) (b : UInt8) :
    OB (w.setCell ⟨g, j, none⟩ (.int .u8 (b.toNat : Int))) base (.slice (some ⟨g, 0, none⟩) n cap) n (l.set j b) := by
  have := (World.ownsRow.stored h j (.int .u8 (b.toNat : Int))).1
  unfold OB
  rw [show bv (l.set j b) = (bv l).set j (.int .u8 (b.toNat : Int)) from by simp [bv, List.map_set]]
  exact this
theorem OB.base_le {g cap : Nat} (h : OB w base (.slice (some ⟨g, 0, none⟩) n cap) n l) : base ≤ g := h.block_lt g rfl
/-- nil, or the head of a block. -/
theorem OB.parts (h : OB w base v n l) : (v = .slice none 0 0 ∧ n = 0 ∧ l = []) ∨ ∃ g cap, v = .slice (some ⟨g, 0, none⟩) n cap ∧ n ≤ cap ∧ cap ≤ maxLen := by
  rcases h.2 with ⟨rfl, rfl⟩ | ⟨g, cap, cur, rfl, _, _, h3, h4, _⟩
  · exact .inl ⟨rfl, rfl, List.eq_nil_of_length_eq_zero h.len⟩
  · exact .inr ⟨g, cap, rfl, h3, h4⟩
end
theorem RB.one_new (w : World) (b : UInt8) (t : TypeId) : RB (w.alloc (.cells #[.int .u8 (b.toNat : Int)] t)) (w.heap.size + 1) (some ⟨w.heap.size, 0, none⟩) 1 [b] := by
  refine ⟨by simp [bv], fun _ => ⟨_, rfl, by simp, fun j u hj => ?_⟩⟩
  match j, hj with
  | 0, hj => simp [bv] at hj; subst hj; simp [Addr.add]
/-- The call returns a row of bytes of its own; what was there is as it was. -/
def RetB (W : World) (l : List UInt8) (e : Ending) (w' : World) : Prop := ∃ v, e = .returned v ∧ OB w' W.heap.size v l.length l ∧ Below W.heap.size W w'
theorem RetB.mk {W w' : World} {l : List UInt8} {v : Value} {n : Nat} (h : OB w' W.heap.size v n l) (hb : Below W.heap.size W w') : RetB W l (.returned v) w' :=
  ⟨v, rfl, by rw [h.len]; exact h, hb⟩
section
variable {ops : Array Oper} {rest : List Oper} {o : Oper} {a : Act} {Q : Exit → Act → World → Prop}
/-- append(v, x...) -/
theorem wpList_app_b {w : World} (hgd : o.guard = none) (s x : Operand) (ho : o.op = .call { callee := .builtin .append, args := #[s, x], argTypes := #[22, 22] })
    (base : Nat) (v : Value) (n : Nat) (l : List UInt8) (hown : OB w base v n l) (hs : a.eval s = v)
    (B : Nat) (A : Option Addr) (m c : Nat) (news : List UInt8) (hx : a.eval x = .slice A m c) (hr : RB w B A m news)
    (hlen : n + m ≤ 140737488351232) (hbase : base ≤ w.heap.size)
    (h : ∀ v' w', OB w' base v' (n + m) (l ++ news) → Below base w w' → w.grownBy w' v.ownBlock → (v'.ownBlock = v.ownBlock ∨ v'.ownBlock = some w.heap.size) → wpList Tryz.prog ops Q rest (a.put o.dst v') w') :
    wpList Tryz.prog ops Q (o :: rest) a w := by
  obtain ⟨i0, hi0, hz0, hz1, hz2⟩ := info_parts byte_info
  refine wpList_append_any w hgd s x _ ho base 5 i0 _ 1 1 Tryz.underlying22 hi0 hz0 hz1 hz2 rfl (by omega) v n (bv l) hs hown B A m c (bv news) hx hr (bv_one _)
    (by simp only [maxLen]; omega) (by omega) hbase fun v' w' h1 h2 h3 => ?_
  rw [← bv_append] at h1
  exact h v' w' h1 ((Below.refl _ _).grown h2 hbase fun k hk => hown.block_lt k hk) h2 h3
/-- append(v, x), one byte. -/
theorem wpList_app_1 {w : World} {x' : Int} {t : TypeId} (b : UInt8) (hbx : x' = (b.toNat : Int)) (hgd : o.guard = none) (s x : Operand) (ho : o.op = .call { callee := .builtin .append, args := #[s, x], argTypes := #[22, 22] })
    (base : Nat) (v : Value) (n : Nat) (l : List UInt8) (hown : OB w base v n l) (hs : a.eval s = v) (c : Nat)
    (hx : a.eval x = .slice (some ⟨w.heap.size, 0, none⟩) 1 c)
    (hlen : n + 1 ≤ 140737488351232) (hbase : base ≤ w.heap.size)
    (h : ∀ v' w', OB w' base v' (n + 1) (l ++ [b]) → Below base w w' → w.grownBy w' v.ownBlock → wpList Tryz.prog ops Q rest (a.put o.dst v') w') :
    wpList Tryz.prog ops Q (o :: rest) a (w.alloc (.cells #[.int .u8 x'] t)) := by
  subst hbx
  refine wpList_app_b hgd s x ho base v n l (hown.alloc _) hs _ _ 1 c [b] hx (RB.one_new w b t) hlen (by simp; omega) fun v' w' h1 h2 h3 h4 => ?_
  refine h v' w' h1 ?_ ⟨h3.os, h3.tape, h3.output, ?_, fun k hk hne => ?_⟩
  · exact ((Below.refl _ _).alloc hbase _).trans h2
  · have := h3.size; simp at this; omega
  · rw [h3.block k (by simp; omega) hne]
    exact Below.heap_alloc _ _ _ hk
end
end Go.Proofs.YtbchaomnjbkdhaaGreat
namespace Go.Proofs.YtbchaomnjbkdhaaGreat
open Go.RowKit
set_option linter.unusedVariables false
/-- All blocks of a type stay. -/
def KeepT (t : TypeId) (w w' : World) : Prop := ∀ g cs, Blk w g t cs → Blk w' g t cs
section
variable {t : TypeId} {w w' w'' : World}
theorem KeepT.refl (t : TypeId) (w : World) : KeepT t w w := fun _ _ h => h
theorem KeepT.trans (h : KeepT t w w') (h' : KeepT t w' w'') : KeepT t w w'' := fun g cs hb => h' g cs (h g cs hb)
theorem KeepT.alloc (h : KeepT t w w') (o : Obj) : KeepT t w (w'.alloc o) := fun g cs hb => (h g cs hb).alloc o
theorem KeepT.drew (h : KeepT t w w') : KeepT t w w'.drew := h
theorem KeepT.drewN (h : KeepT t w w') (n : Nat) : KeepT t w (w'.drewN n) := h
theorem KeepT.set_ {t' : TypeId} {p : Addr} {cs' : Array Value} (h : KeepT t w w') (hp : Blk w' p.block t' cs') (ht : t ≠ t') (u : Value) : KeepT t w (w'.setCell p u) :=
  fun g cs hb => (h g cs hb).far (Blk.ne_ (h g cs hb) hp ht) u
theorem KeepT.grown {row : Option Nat} (h : KeepT t w w') (hg : w'.grownBy w'' row) (hr : ∀ k cs, row = some k → ¬ Blk w' k t cs) : KeepT t w w'' :=
  fun g cs hb => (h g cs hb).grown hg fun e => hr g cs e.symm (h g cs hb)
theorem KeepT.grown_own {base : Nat} {e : TypeId} {size n : Nat} {v : Value} {xs : List Value} (h : KeepT t w w') (hg : w'.grownBy w'' v.ownBlock) (ho : w'.ownsRow base e size v n xs) (ht : e ≠ t) : KeepT t w w'' :=
  h.grown hg fun k cs hk hb => own_blk_ne ho hb ht hk
end
end Go.Proofs.YtbchaomnjbkdhaaGreat
namespace Go.Proofs.YtbchaomnjbkdhaaGreat
open Go.RowKit
set_option linter.unusedVariables false
/-- A writer stands in block g. -/
def WSt (w : World) (g : Nat) (v : Value) (s : List UInt8 × Nat) : Prop := Blk w g 61 #[v, .int .i64 (s.2 : Int)] ∧ OB w (g + 1) v s.1.length s.1 ∧ okS s
/-- All blocks but those of writers and of bytes stay. -/
def KeepX (w w' : World) : Prop := ∀ t, t ≠ 61 → t ≠ 5 → KeepT t w w'
section
variable {w w' w'' : World}
theorem KeepX.refl (w : World) : KeepX w w := fun t _ _ => KeepT.refl t w
theorem KeepX.trans (h : KeepX w w') (h' : KeepX w' w'') : KeepX w w'' := fun t a b => (h t a b).trans (h' t a b)
theorem KeepX.alloc (h : KeepX w w') (o : Obj) : KeepX w (w'.alloc o) := fun t a b => (h t a b).alloc o
theorem KeepX.drew (h : KeepX w w') : KeepX w w'.drew := h
theorem KeepX.drewN (h : KeepX w w') (n : Nat) : KeepX w (w'.drewN n) := h
theorem KeepX.setW {p : Addr} {cs' : Array Value} (h : KeepX w w') (hp : Blk w' p.block 61 cs') (u : Value) : KeepX w (w'.setCell p u) := fun t a b => (h t a b).set_ hp a u
theorem KeepX.setB {p : Addr} {cs' : Array Value} (h : KeepX w w') (hp : Blk w' p.block 5 cs') (u : Value) : KeepX w (w'.setCell p u) := fun t a b => (h t a b).set_ hp b u
theorem KeepX.grown {base n : Nat} {v : Value} {l : List UInt8} (h : KeepX w w') (hg : w'.grownBy w'' v.ownBlock) (ho : OB w' base v n l) : KeepX w w'' := fun t a b => (h t a b).grown_own hg ho (fun e => b e.symm)
theorem OB.blkc {base g n c : Nat} {l : List UInt8} (h : OB w base (.slice (some ⟨g, 0, none⟩) n c) n l) : ∃ cur, Blk w g 5 cur := by
  rcases h.2 with ⟨h0, _⟩ | ⟨g', cap', cur, hv, _, hh, _⟩
  · cases h0
  · cases hv; exact ⟨cur, hh⟩
end
theorem OB.setOther {w : World} {base n : Nat} {v : Value} {l : List UInt8} (h : OB w base v n l) {p : Addr} (hp : p.block < base) (u : Value) : OB (w.setCell p u) base v n l := ownsRow_setCell_below h hp u
theorem below_set {B g i : Nat} {a w : World} (h : Below B a w) (hg : B ≤ g) (u : Value) : Below B a (w.setCell ⟨g, i, none⟩ u) := h.setCell (p := ⟨g, i, none⟩) hg u
theorem or_bit (x : UInt8) (b j : Nat) (hb : b < 2) (hj : j < 8) : bits .or .u8 (x.toNat : Int) (IntKind.u8.wrap (IntKind.i64.wrap ((b : Int) * 2 ^ j))) = (((UInt8.ofNat (x.toNat ||| b * 2 ^ j)).toNat : Nat) : Int) := by
  have h2 : b * 2 ^ j < 256 := by
    have : 2 ^ j ≤ 2 ^ 7 := Nat.pow_le_pow_right (by omega) (by omega)
    have : b * 2 ^ j ≤ 1 * 2 ^ j := Nat.mul_le_mul_right _ (by omega)
    omega
  have e : (b : Int) * 2 ^ j = ((b * 2 ^ j : Nat) : Int) := by push_cast; rfl
  have hx := x.toNat_lt
  rw [e, IntWalk.i64_in _ (by omega)]
  have hw : IntKind.u8.wrap ((b * 2 ^ j : Nat) : Int) = ((b * 2 ^ j : Nat) : Int) := by
    exact IntWalk.u8_in _ (by omega)
  rw [hw, u8_or _ _ (by omega) (by omega) (by omega) (by omega)]
  have : x.toNat ||| b * 2 ^ j < 2 ^ 8 := Nat.or_lt_two_pow (by omega) (by omega)
  simp only [Int.toNat_natCast]
  rw [UInt8.toNat_ofNat']
  omega
/-- Half way: the byte for the bit is there. -/
def Half (w : World) (g : Nat) (l : List UInt8) (n : Nat) (wx : World) : Prop :=
  ∃ gb cap, Blk wx g 61 #[.slice (some ⟨gb, 0, none⟩) (oneT l n).length cap, .int .i64 (n : Int)] ∧ OB wx (g + 1) (.slice (some ⟨gb, 0, none⟩) (oneT l n).length cap) (oneT l n).length (oneT l n) ∧ Below g w wx ∧ KeepX w wx
set_option maxRecDepth 100000 in
set_option maxHeartbeats 1000000 in
theorem bone_x (w : World) (g : Nat) (v : Value) (s : List UInt8 × Nat) (b : Nat) (h : WSt w g v s) (hb : b < 2) (hl : s.2 ≤ 100000000) :
    Calls Tryz.prog 57 #[.pointer (some ⟨g, 0, none⟩), .int .i64 (b : Int)] w fun e w' => e = .returned (.tuple #[]) ∧ (∃ v', WSt w' g v' (oneS s b)) ∧ Below g w w' ∧ KeepX w w' := by
  obtain ⟨hB, hO, hk⟩ := h
  obtain ⟨l, n⟩ := s
  have hlt := hB.lt
  have c0 := hB.cell 0
  have c1 := hB.cell 1
  have f0 := hB.frozen 0
  have f1 := hB.frozen 1
  unfold okS at hk
  dsimp only at hk hl hO c1
  have hkl : l.length ≤ 100000000 := by omega
  replace hk := hide hk
  have hk' : Hid (okS (l, n)) := hk.out
  replace hB := hide hB
  replace hO := hide hO
  have hne : v.ownBlock ≠ some g := fun e => by have := hO.out.block_lt g e; omega
  obtain ⟨vA, vc, hv, -, -, -, -⟩ := hO.out.form
  subst hv
  go_enter Tryz.func57, Tryz.ntmps57
  go_upto_if 9 with (fail)
  go_cut [] (fun wx => Half w g l n wx)
  case first =>
    by_cases h8 : n % 8 = 0
    · have n1 : ((n : Int) % 8 == 0) = true := by rw [beq_iff_eq]; omega
      have ht : Hid (oneT l n = l ++ [0]) := by rw [Hid, oneT, if_pos h8]
      clear h8
      go_wp2_with (at_builtin; refine wpList_app_1 (0 : UInt8) rfl rfl (.tmp 14) (.tmp 15) rfl (g + 1) _ _ l hO.out rfl 1 rfl (by omega) (by omega) ?_; intro v2 w2 ho2 hb2 hg2; obtain ⟨A2, k2, rfl, -⟩ := ho2.form; replace ho2 := hide ho2; have hB2 := hide (hB.out.grown hg2 (fun e => hne e.symm)); have hkx := hide (KeepX.grown (KeepX.refl w) hg2 hO.out); have d0 := hB2.out.cell 0; have e0 := hB2.out.frozen 0)
      go_meet
      case rel =>
        rcases ho2.out.parts with ⟨h0, _⟩ | ⟨gb, cap, h0, _, _⟩
        · cases h0
        · cases h0
          unfold Half
          rw [ht.out]
          refine ⟨gb, k2, ?_, ?_, ?_, hkx.out.setW (p := ⟨g, 0, none⟩) hB2.out _⟩
          · have := hB2.out.set_ 0 (.slice (some ⟨gb, 0, none⟩) (l.length + 1) k2)
            rw [List.length_append]; exact this
          · rw [List.length_append]; exact ho2.out.setOther (by show g < g + 1; omega) _
          · exact below_set (hb2.mono (by omega)) (Nat.le_refl _) _
    · have n1 : ((n : Int) % 8 == 0) = false := by rw [beq_eq_false_iff_ne]; omega
      have ht : Hid (oneT l n = l) := by rw [Hid, oneT, if_neg h8]
      have hl0 : 0 < l.length := by have := hk.out; omega
      clear h8
      go_wp2_with fail
      go_meet
      case rel =>
        rcases hO.out.parts with ⟨h0, h1, _⟩ | ⟨gb, cap, h0, _, _⟩
        · omega
        · cases h0
          unfold Half
          rw [ht.out]
          exact ⟨gb, vc, hB.out, hO.out, Below.refl _ _, KeepX.refl _⟩
  case rest =>
    obtain ⟨gb, cap, hB2, hO2, hb2, hkx⟩ := hcut
    replace hkx := hide hkx
    have ht8 : n / 8 < (oneT l n).length := by
      have := hk.out
      unfold oneT
      split
      · rw [List.length_append, List.length_singleton]; omega
      · omega
    have htl : (oneT l n).length ≤ 100000001 := by
      unfold oneT
      split
      · rw [List.length_append, List.length_singleton]; omega
      · omega
    obtain ⟨t, ht⟩ : ∃ t, t = oneT l n := ⟨_, rfl⟩
    rw [← ht] at hB2 hO2 ht8 htl
    have q0 := hB2.cell 0
    have q1 := hB2.cell 1
    have e0 := hB2.frozen 0
    have e1 := hB2.frozen 1
    have r0 := hO2.cell ht8 ht8
    have re := OB.froz (k := n / 8) hO2
    clear hO hB c0 c1 f0 f1 hne hk hkl
    replace hB2 := hide hB2
    replace hO2 := hide hO2
    replace ht := hide ht
    have hwd : IntKind.i64.wrap ((n : Int) / 8) = ((n / 8 : Nat) : Int) := by rw [IntWalk.i64_in _ (by omega)]; omega
    have htm : (n : Int).tmod 8 = ((n % 8 : Nat) : Int) := by rw [Int.tmod_eq_emod_of_nonneg (by omega)]; omega
    have hd1 : ((n / 8 : Nat) : Int) < (t.length : Int) := by omega
    have hd2 : ¬ t.length ≤ n / 8 := by omega
    have hm1 : n % 8 < 8 := by omega
    have hfin : Hid (oneS (l, n) b = (t.set (n / 8) (UInt8.ofNat ((t[n / 8]'ht8).toNat ||| b * 2 ^ (n % 8))), n + 1)) := by
      rw [Hid, oneS]
      dsimp only
      rw [← ht.out, List.getD_eq_getElem?_getD, List.getElem?_eq_getElem ht8]; rfl
    have hok : Hid (okS (oneS (l, n) b)) := oneS_ok hk'.out
    generalize t[n / 8] = x at *
    generalize n / 8 = k8 at *
    generalize n % 8 = j8 at *
    go_wp2_with fail
    go_still_tail 21, (by kernel_rfl)
    change wpList _ _ _ _ _ wc.drew
    have hval : bits .or .u8 (x.toNat : Int) (IntKind.u8.wrap (IntKind.i64.wrap ((b : Int) * 2 ^ j8))) = (((UInt8.ofNat (x.toNat ||| b * 2 ^ j8)).toNat : Nat) : Int) := or_bit x b j8 hb hm1
    rw [hval]
    generalize UInt8.ofNat (x.toNat ||| b * 2 ^ j8) = y at *
    clear hval htm hwd
    have hgb : g + 1 ≤ gb := hO2.out.base_le
    have hg1 : ¬ g = gb := by omega
    have hg2 : ¬ gb = g := by omega
    have hlen : Hid ((t.set k8 y).length = t.length) := List.length_set
    have hB3 := hide (hB2.out.drew)
    have hO3 := hide (hO2.out.drew)
    go_wp2_with fail
    go_end0
    refine ⟨rfl, ⟨.slice (some ⟨gb, 0, none⟩) t.length cap, ?_, ?_, ?_⟩, ?_⟩
    · rw [hfin.out]
      exact (Blk.far hB2.out hg1 _).set_ 1 _
    · rw [hfin.out]
      dsimp only
      rw [hlen.out]
      exact OB.setOther (hO2.out.stored k8 y) (by show g < g + 1; omega) _
    · exact hok.out
    · refine ⟨(below_set (below_set (g := gb) (i := k8) hb2 (by omega) _) (Nat.le_refl _) _).drew, ?_⟩
      obtain ⟨cur, hcur⟩ := OB.blkc hO2.out
      exact KeepX.drew (KeepX.setW (p := ⟨g, 1, none⟩) (KeepX.setB (p := ⟨gb, k8, none⟩) hkx.out hcur _) (Blk.far hB2.out hg1 _) _)
theorem held_any (n : Int) (w : World) (h0 : 0 ≤ n) (h1 : n ≤ 24) : Calls Tryz.prog 56 #[.int .i64 n] w fun e w' => e = .returned (.int .i64 n) ∧ w = w' := by
  go_enter Tryz.func56, Tryz.ntmps56
  go_wp2_with fail
  go_ret
  exact ⟨ret_int (by omega), rfl⟩
theorem i64_and1 (n : Int) : bits .and .i64 n 1 = n % 2 := by
  show IntKind.i64.wrap ((BitVec.ofInt 64 n &&& BitVec.ofInt 64 1).toNat : Int) = n % 2
  rw [BitVec.toNat_and, BitVec.toNat_ofInt, BitVec.toNat_ofInt]
  have e1 : ((1 : Int) % ((2 ^ 64 : Nat) : Int)).toNat = 2 ^ 1 - 1 := by decide
  rw [e1, Nat.and_two_pow_sub_one_eq_mod]
  have h1 : 0 ≤ n % ((2 ^ 64 : Nat) : Int) := Int.emod_nonneg _ (by decide)
  rw [IntWalk.i64_in _ (by omega)]
  have e2 : ((2 ^ 64 : Nat) : Int) = 18446744073709551616 := by decide
  rw [e2] at h1 ⊢
  omega
theorem bit_of (v k : Nat) : bits .and .i64 ((v : Int) / 2 ^ k) 1 = ((v / 2 ^ k % 2 : Nat) : Int) := by
  rw [i64_and1]
  have e : (2 : Int) ^ k = ((2 ^ k : Nat) : Int) := by push_cast; rfl
  rw [e]
  generalize 2 ^ k = m
  have : (v : Int) / (m : Int) = ((v / m : Nat) : Int) := (Int.natCast_ediv v m).symm
  rw [this]
  omega
set_option maxRecDepth 100000 in
set_option maxHeartbeats 1000000 in
theorem bits_x (w : World) (g : Nat) (v : Value) (s : List UInt8 × Nat) (n : Nat) (x : Nat) (h : WSt w g v s) (hn : n ≤ 24) (hx : x < 1099511627776) (hl : s.2 ≤ 90000000) :
    Calls Tryz.prog 29 #[.pointer (some ⟨g, 0, none⟩), .int .i64 (n : Int), .int .i64 (x : Int)] w fun e w' => e = .returned (.tuple #[]) ∧ (∃ v', WSt w' g v' (bitsS s x n)) ∧ Below g w w' ∧ KeepX w w' := by
  have hlt := h.1.lt
  replace h := hide h
  go_enter Tryz.func29, Tryz.ntmps29
  go_wp2_with fail
  refine (held_any n w (by omega) (by omega)).mono ?_
  rintro e w' ⟨rfl, rfl⟩
  go_wp2_with fail
  go_loopw [11] (fun i wr => ∃ (k : Nat) (v' : Value), k ≤ n ∧ i = .int .i64 k ∧ Hid (WSt wr g v' (bitsS s x k)) ∧ Below g w wr ∧ Hid (KeepX w wr)) (fun i _ => n - (intOf i).toNat)
  case atStart => exact ⟨0, v, by omega, rfl, h, Below.refl _ _, KeepX.refl _⟩
  case round =>
    obtain ⟨k, v', hk, rfl, hS, hb, hkx⟩ := hrel
    by_cases h1 : k < n
    · have hk2 : k ≤ 24 := by omega
      have hkn : (bitsS s x k).2 ≤ 100000000 := by rw [bitsS_n]; omega
      have hbw := hb
      go_wp2_with fail
      rw [bit_of x k]
      refine (bone_x wr g v' (bitsS s x k) _ hS.out (Nat.mod_lt _ (by omega)) hkn).mono ?_
      rintro e w2 ⟨rfl, ⟨v2, hS2⟩, hb2, hk2x⟩
      have hkx2 := hide (hkx.out.trans hk2x)
      clear hk2x
      have hb3 := hbw.trans hb2
      replace hS2 := hide hS2
      clear hS hkn hb2 hb hbw
      go_wp2_with fail
      go_roundw
      case rel => exact ⟨k + 1, v2, by omega, by go_num, hS2, hb3, hkx2⟩
      case measure => simp [intOf]; omega
    · have hkn : k = n := by omega
      subst hkn
      go_wp2_with fail
      go_end0
      exact ⟨rfl, ⟨v', hS.out⟩, hb, hkx.out⟩
theorem bits_any (w : World) (g : Nat) (v : Value) (s : List UInt8 × Nat) (n : Nat) (x : Nat) (h : WSt w g v s) (hn : n ≤ 24) (hx : x < 1099511627776) (hl : s.2 ≤ 90000000) :
    Calls Tryz.prog 29 #[.pointer (some ⟨g, 0, none⟩), .int .i64 (n : Int), .int .i64 (x : Int)] w fun e w' => e = .returned (.tuple #[]) ∧ (∃ v', WSt w' g v' (bitsS s x n)) ∧ Below g w w' :=
  (bits_x w g v s n x h hn hx hl).mono fun _ _ h => ⟨h.1, h.2.1, h.2.2.1⟩
set_option maxRecDepth 100000 in
theorem align_any (w : World) (g : Nat) (v : Value) (s : List UInt8 × Nat) (h : WSt w g v s) (hl : s.1.length ≤ 100000000) :
    Calls Tryz.prog 30 #[.pointer (some ⟨g, 0, none⟩)] w fun e w' => e = .returned (.tuple #[]) ∧ WSt w' g v (s.1, 8 * s.1.length) ∧ Below g w w' := by
  obtain ⟨hB, hO, hk⟩ := h
  have c0 := hB.cell 0
  have c1 := hB.cell 1
  have f1 := hB.frozen 1
  have hlt := hB.lt
  obtain ⟨vA, vc, hv, -, -, -, -⟩ := hO.form
  subst hv
  replace hB := hide hB
  replace hO := hide hO
  replace hk := hide hk
  go_enter Tryz.func30, Tryz.ntmps30
  go_wp2_with fail
  go_end0
  refine ⟨rfl, ⟨?_, ?_, ?_⟩, below_set (Below.refl _ _) (Nat.le_refl _) _⟩
  · have := hB.out.set_ 1 (.int .i64 ((8 * s.1.length : Nat) : Int))
    simpa using this
  · exact OB.setOther hO.out (by show g < g + 1; omega) _
  · show s.1.length = (8 * s.1.length + 7) / 8
    omega
end Go.Proofs.YtbchaomnjbkdhaaGreat
namespace Go.Proofs.YtbchaomnjbkdhaaGreat
open Go.RowKit
set_option linter.unusedVariables false
structure Only (S : Nat → Prop) (w w' : World) : Prop where
  os : w'.os = w.os
  tape : w'.tape = w.tape
  output : w'.output = w.output
  size : w.heap.size ≤ w'.heap.size
  block : ∀ k, k < w.heap.size → ¬ S k → w'.heap[k]? = w.heap[k]?
section
variable {S T : Nat → Prop} {a w w' w'' : World}
theorem Only.refl (S : Nat → Prop) (w : World) : Only S w w := ⟨rfl, rfl, rfl, Nat.le_refl _, fun _ _ _ => rfl⟩
theorem Only.trans (h : Only S a w) (k : Only T w w') (hT : ∀ i, i < a.heap.size → T i → S i) : Only S a w' :=
  ⟨k.os.trans h.os, k.tape.trans h.tape, k.output.trans h.output, Nat.le_trans h.size k.size, fun i hi hs => (k.block i (Nat.lt_of_lt_of_le hi h.size) fun ht => hs (hT i hi ht)).trans (h.block i hi hs)⟩
theorem Only.mono (h : Only T a w) (hT : ∀ i, i < a.heap.size → T i → S i) : Only S a w := (Only.refl S a).trans h hT
theorem Only.drewN (h : Only S a w) (n : Nat) : Only S a (w.drewN n) := ⟨h.os, h.tape, h.output, h.size, h.block⟩
theorem Only.drew (h : Only S a w) : Only S a w.drew := ⟨h.os, h.tape, h.output, h.size, h.block⟩
theorem Only.alloc (h : Only S a w) (o : Obj) : Only S a (w.alloc o) :=
  h.trans (T := fun _ => False) ⟨rfl, rfl, rfl, by simp, fun k hk _ => Below.heap_alloc _ _ _ hk⟩ fun _ _ h => h.elim
theorem Only.setCell (h : Only S a w) {p : Addr} (hp : p.block < a.heap.size → S p.block) (u : Value) : Only S a (w.setCell p u) :=
  h.trans (T := fun k => k = p.block) ⟨rfl, rfl, rfl, by simp [World.setCell], fun k hk hn => Below.heap_setCell _ _ _ _ hn⟩ fun i hi e => by subst e; exact hp hi
theorem Only.grown {row : Option Nat} (h : Only S a w) (hg : w.grownBy w' row) (hr : ∀ k, row = some k → k < a.heap.size → S k) : Only S a w' :=
  h.trans (T := fun k => row = some k) ⟨hg.os, hg.tape, hg.output, hg.size, fun k hk hn => hg.block k hk fun e => hn e.symm⟩ fun i hi e => hr i e hi
theorem Only.of_below (h : Below w.heap.size w w') : Only S w w' := ⟨h.os, h.tape, h.output, h.size, fun k hk _ => h.block k hk⟩
theorem Only.below {B : Nat} (h : Only S w w') (hS : ∀ k, S k → B ≤ k) (hB : B ≤ w.heap.size) : Below B w w' :=
  ⟨h.os, h.tape, h.output, h.size, fun k hk => h.block k (by omega) fun hs => by have := hS k hs; omega⟩
theorem Only.blk {g : Nat} {t : TypeId} {cs : Array Value} (h : Only S w w') (hb : Blk w g t cs) (hg : ¬ S g) : Blk w' g t cs := (h.block g hb.lt hg).trans hb
theorem Only.row {base : Nat} {e : TypeId} {size n : Nat} {v : Value} {xs : List Value} (h : Only S w w') (ho : w.ownsRow base e size v n xs) (hv : ∀ k, v.ownBlock = some k → ¬ S k) : w'.ownsRow base e size v n xs := by
  obtain ⟨h1, h2⟩ := ho
  refine ⟨h1, ?_⟩
  rcases h2 with h2 | ⟨g, cap, cur, rfl, hg, hh, r⟩
  · exact Or.inl h2
  · exact Or.inr ⟨g, cap, cur, rfl, hg, h.blk hh (hv g rfl), r⟩
theorem Only.keepT {t : TypeId} (h : Only S w w') (ht : ∀ k cs, S k → ¬ Blk w k t cs) : KeepT t w w' := fun g cs hb => h.blk hb fun hs => ht g cs hs hb
end
end Go.Proofs.YtbchaomnjbkdhaaGreat
namespace Go.Proofs.YtbchaomnjbkdhaaGreat
open Go.RowKit
set_option linter.unusedVariables false
theorem i64_andN (a b : Nat) (ha : a < 2 ^ 62) (hb : b < 2 ^ 62) : bits .and .i64 (a : Int) (b : Int) = ((a &&& b : Nat) : Int) := by
  show IntKind.i64.wrap ((BitVec.ofInt 64 a &&& BitVec.ofInt 64 b).toNat : Int) = _
  have e2 : ((2 ^ 64 : Nat) : Int) = 18446744073709551616 := by decide
  have e62 : (2 : Nat) ^ 62 = 4611686018427387904 := by decide
  rw [BitVec.toNat_and, BitVec.toNat_ofInt, BitVec.toNat_ofInt, e2]
  have h1 : ((a : Int) % 18446744073709551616).toNat = a := by omega
  have h2 : ((b : Int) % 18446744073709551616).toNat = b := by omega
  have h3 : a &&& b ≤ a := Nat.and_le_left
  rw [h1, h2, IntWalk.i64_in _ (by omega)]
theorem i64_orN (a b : Nat) (ha : a < 2 ^ 62) (hb : b < 2 ^ 62) : bits .or .i64 (a : Int) (b : Int) = ((a ||| b : Nat) : Int) := by
  show IntKind.i64.wrap ((BitVec.ofInt 64 a ||| BitVec.ofInt 64 b).toNat : Int) = _
  have e2 : ((2 ^ 64 : Nat) : Int) = 18446744073709551616 := by decide
  have e62 : (2 : Nat) ^ 62 = 4611686018427387904 := by decide
  rw [BitVec.toNat_or, BitVec.toNat_ofInt, BitVec.toNat_ofInt, e2]
  have h1 : ((a : Int) % 18446744073709551616).toNat = a := by omega
  have h2 : ((b : Int) % 18446744073709551616).toNat = b := by omega
  have h3 : a ||| b < 2 ^ 62 := Nat.or_lt_two_pow ha hb
  rw [h1, h2, IntWalk.i64_in _ (by omega)]
theorem peek_val (X Y R M k : Nat) (hX : X < 2 ^ k) (hY : Y < 256) (hM : M ≤ 8) (hk : k + M ≤ 24) :
    bits .or .i64 (X : Int) (wrap64 (bits .and .i64 ((Y : Int) / 2 ^ R) (wrap64 (wrap64 (2 ^ M) - 1)) * 2 ^ k)) = ((X + 2 ^ k * (Y / 2 ^ R % 2 ^ M) : Nat) : Int) := by
  have hM2 : 2 ^ M ≤ 2 ^ 8 := Nat.pow_le_pow_right (by omega) hM
  have hM1 : 1 ≤ 2 ^ M := Nat.one_le_two_pow
  have hk2 : 2 ^ k ≤ 2 ^ 24 := Nat.pow_le_pow_right (by omega) (by omega)
  have e8 : (2 : Nat) ^ 8 = 256 := by decide
  have e24 : (2 : Nat) ^ 24 = 16777216 := by decide
  have e62 : (2 : Nat) ^ 62 = 4611686018427387904 := by decide
  have hR : Y / 2 ^ R ≤ Y := Nat.div_le_self _ _
  have c1 : (2 : Int) ^ M = ((2 ^ M : Nat) : Int) := by push_cast; rfl
  have c2 : (2 : Int) ^ k = ((2 ^ k : Nat) : Int) := by push_cast; rfl
  have c3 : (Y : Int) / 2 ^ R = ((Y / 2 ^ R : Nat) : Int) := by push_cast; rfl
  have hw : ∀ n : Nat, n < 4611686018427387904 → wrap64 (n : Int) = (n : Int) := fun n hn => by
    unfold wrap64; omega
  have c4 : ((2 ^ M : Nat) : Int) - 1 = ((2 ^ M - 1 : Nat) : Int) := by omega
  have hz : Y / 2 ^ R % 2 ^ M < 2 ^ M := Nat.mod_lt _ (by omega)
  have hzk : (Y / 2 ^ R % 2 ^ M) * 2 ^ k ≤ 256 * 16777216 := Nat.mul_le_mul (by omega) (by omega)
  rw [c1, c2, c3, hw _ (by omega), c4, hw _ (by omega), i64_andN _ _ (by omega) (by omega), Nat.and_two_pow_sub_one_eq_mod]
  generalize Y / 2 ^ R % 2 ^ M = z at *
  have c5 : (z : Int) * ((2 ^ k : Nat) : Int) = ((z * 2 ^ k : Nat) : Int) := by push_cast; rfl
  rw [c5, hw _ (by omega), i64_orN _ _ (by omega) (by omega), Nat.or_comm, Nat.mul_comm z, ← Nat.two_pow_add_eq_or_of_lt hX, Nat.add_comm]
/-- A reader of bits stands in a block, over bytes of its own; so many bits were taken. -/
def BRAt (w : World) (g : Nat) (v : Value) (l : List UInt8) (p : Nat) : Prop := Blk w g 118 #[v, .int .i64 (p : Int)] ∧ OB w 0 v l.length l
theorem BRAt.drewN {w : World} {g : Nat} {v : Value} {l : List UInt8} {p : Nat} (h : BRAt w g v l p) (q : Nat) : BRAt (w.drewN q) g v l p := h
set_option maxRecDepth 100000 in
theorem left_any (w : World) (g : Nat) (v : Value) (l : List UInt8) (p : Nat) (h : BRAt w g v l p) (hp : p ≤ 8 * l.length) (hl : l.length ≤ 10000000) :
    Calls Tryz.prog 48 #[.pointer (some ⟨g, 0, none⟩)] w fun e w' => e = .returned (.int .i64 ((8 * l.length - p : Nat) : Int)) ∧ ∃ q, w' = w.drewN q := by
  obtain ⟨hB, hO⟩ := h
  have c0 := hB.cell 0
  have c1 := hB.cell 1
  obtain ⟨A, c, hv, -, -, -, -⟩ := hO.form
  subst hv
  replace hB := hide hB
  replace hO := hide hO
  go_enter Tryz.func48, Tryz.ntmps48
  go_wp2_with fail
  go_quiet (fail)
  go_wp2_with fail
  go_ret
  exact ⟨ret_int (by omega), nq, rfl⟩
set_option maxRecDepth 100000 in
theorem has_any (w : World) (g : Nat) (v : Value) (l : List UInt8) (p n : Nat) (h : BRAt w g v l p) (hp : p ≤ 8 * l.length) (hl : l.length ≤ 10000000) (hn : n ≤ 100) :
    Calls Tryz.prog 43 #[.pointer (some ⟨g, 0, none⟩), .int .i64 (n : Int)] w fun e w' => e = .returned (.bool (decide (p + n ≤ 8 * l.length))) ∧ ∃ q, w' = w.drewN q := by
  have hL := hide (left_any w g v l p h hp hl)
  have hdec : Hid (decide (n ≤ 8 * l.length - p) = decide (p + n ≤ 8 * l.length)) := by
    rw [Hid, decide_eq_decide]; omega
  obtain ⟨D, hD⟩ : ∃ D, D = 8 * l.length - p := ⟨_, rfl⟩
  rw [← hD] at hL hdec
  have hDb : D ≤ 80000000 := by omega
  replace hD := hide hD
  replace h := hide h
  go_enter Tryz.func43, Tryz.ntmps43
  go_wp2_with fail
  refine hL.out.mono ?_
  rintro e w1 ⟨rfl, q, rfl⟩
  go_wp2_with fail
  go_ret
  exact ⟨by rw [← hdec.out]; rfl, q, rfl⟩
set_option maxRecDepth 100000 in
set_option maxHeartbeats 1000000 in
theorem peek_any (w : World) (g : Nat) (v : Value) (l : List UInt8) (p n : Nat) (h : BRAt w g v l p) (hp : p ≤ 8 * l.length) (hl : l.length ≤ 10000000) (hn : n ≤ 24) (hpn : p + n ≤ 8 * l.length) :
    Calls Tryz.prog 67 #[.pointer (some ⟨g, 0, none⟩), .int .i64 (n : Int)] w fun e w' => e = .returned (.tuple #[.int .i64 (leN (((bytesB l).drop p).take n) : Int), .bool true]) ∧ ∃ q, w' = w.drewN q := by
  have hH := hide (has_any w g v l p n h hp hl (by omega))
  have hdt : Hid (decide (p + n ≤ 8 * l.length) = true) := by rw [Hid, decide_eq_true_iff]; exact hpn
  rw [hdt.out] at hH
  obtain ⟨hB, hO⟩ := h
  have c0 := hB.cell 0
  have c1 := hB.cell 1
  obtain ⟨A, c, hv, -, -, -, -⟩ := hO.form
  subst hv
  replace hB := hide hB
  replace hO := hide hO
  have hheld := hide (held_any (n : Int) w (by omega) (by omega))
  go_enter Tryz.func67, Tryz.ntmps67
  go_wp2_with fail
  refine hheld.out.mono ?_
  rintro e w1 ⟨rfl, rfl⟩
  go_wp2_with fail
  refine hH.out.mono ?_
  rintro e w1 ⟨rfl, q, rfl⟩
  go_wp2_with fail
  go_loopw [6, 7] (fun v6 v7 wx => ∃ k q : Nat, v6 = .int .i64 (leN (((bytesB l).drop p).take k) : Int) ∧ v7 = .int .i64 (k : Int) ∧ k ≤ n ∧ Hid (wx = w.drewN q)) (fun _ v7 _ => n - (intOf v7).toNat)
  case atStart => exact ⟨0, q, rfl, rfl, Nat.zero_le _, rfl⟩
  case round =>
    obtain ⟨k, q, rfl, rfl, hk, hwx⟩ := hrel
    by_cases hlt : k < n
    · have d1 : wr.cell? ⟨g, 1, none⟩ = some (.int .i64 (p : Int)) := by rw [hwx.out]; exact c1
      have d0 : wr.cell? ⟨g, 0, none⟩ = some (.slice A l.length c) := by rw [hwx.out]; exact c0
      obtain ⟨Q, hQ⟩ : ∃ Q, Q = p + k := ⟨_, rfl⟩
      obtain ⟨M, hM⟩ : ∃ M, M = min (8 - Q % 8) (n - k) := ⟨_, rfl⟩
      have hQb : Q ≤ 80000100 := by omega
      have hM1 : 1 ≤ M := by omega
      have hM8 : Q % 8 + M ≤ 8 := by omega
      have hMn : k + M ≤ n := by omega
      have hQl : Q / 8 < l.length := by omega
      have hval : Hid (leN (((bytesB l).drop p).take (k + M)) = leN (((bytesB l).drop p).take k) + 2 ^ k * ((l.getD (Q / 8) 0).toNat / 2 ^ (Q % 8) % 2 ^ M)) := by
        rw [Hid, take_more _ p k M (by rw [bytesB_len]; omega), ← hQ, take_byte l M Q hM8 (by omega)]
      have hlow : leN (((bytesB l).drop p).take k) < 2 ^ k := by
        have h1 := leN_lt (((bytesB l).drop p).take k) fun b hb => bytesB_two l b (List.mem_of_mem_drop (List.mem_of_mem_take hb))
        have h2 : (((bytesB l).drop p).take k).length ≤ k := List.length_take_le _ _
        have h3 : 2 ^ (((bytesB l).drop p).take k).length ≤ 2 ^ k := Nat.pow_le_pow_right (by omega) h2
        omega
      obtain ⟨X, hX⟩ : ∃ X, X = leN (((bytesB l).drop p).take k) := ⟨_, rfl⟩
      rw [← hX] at hval hlow ⊢
      obtain ⟨gb, cap, he, -, -⟩ : ∃ gb cap, Value.slice A l.length c = .slice (some ⟨gb, 0, none⟩) l.length cap ∧ l.length ≤ cap ∧ cap ≤ maxLen := by
        rcases hO.out.parts with ⟨_, h0, _⟩ | h
        · omega
        · exact h
      cases he
      have cb : wr.cell? ⟨gb, Q / 8, none⟩ = some (.int .u8 ((l.getD (Q / 8) 0).toNat : Int)) := by
        rw [hwx.out]
        have := hO.out.cell hQl hQl
        rw [List.getD_eq_getElem?_getD, List.getElem?_eq_getElem hQl]
        exact this
      have hby := (l.getD (Q / 8) 0).toNat_lt
      obtain ⟨Y, hY⟩ : ∃ Y, Y = (l.getD (Q / 8) 0).toNat := ⟨_, rfl⟩
      rw [← hY] at hval cb hby
      replace hY := hide hY
      replace hX := hide hX
      go_upto_region 7 with (fail)
      go_cut [8] (fun v8 wx => v8 = .int .i64 (Q : Int) ∧ wx = wr)
      case first =>
        go_wp2_with fail
        go_meet
        case rel => exact ⟨by congr 1; omega, rfl⟩
      case rest =>
        obtain ⟨rfl, rfl⟩ := hcut
        replace hQ := hide hQ
        go_upto_region 8 with (fail)
        go_cut [9] (fun v9 wx => v9 = .int .i64 (M : Int) ∧ wx = wc)
        case first =>
          go_wp2_with fail
          all_goals
            go_meet
            case rel => exact ⟨by congr 1; omega, rfl⟩
        case rest =>
          obtain ⟨rfl, rfl⟩ := hcut
          replace hM := hide hM
          obtain ⟨D8, hD8⟩ : ∃ D8, D8 = Q / 8 := ⟨_, rfl⟩
          obtain ⟨R8, hR8⟩ : ∃ R8, R8 = Q % 8 := ⟨_, rfl⟩
          rw [← hD8] at cb hQl
          rw [← hR8] at hval hM8
          have q1 : (Q : Int) / 8 = (D8 : Int) := by omega
          have q2 : (Q : Int) % 8 = (R8 : Int) := by omega
          have q3 : (D8 : Int) < (l.length : Int) := by omega
          have q4 : (0 : Int) ≤ (D8 : Int) := by omega
          go_upto_region 9 with (fail)
          go_cut [6] (fun v6 wx => v6 = .int .i64 ((X + 2 ^ k * (Y / 2 ^ R8 % 2 ^ M) : Nat) : Int) ∧ ∃ q, wx = wc.drewN q)
          case first =>
            go_wp2_with fail
            have hwd : IntKind.i64.wrap ((Q : Int) / 8) = (D8 : Int) := by rw [IntWalk.i64_in _ (by omega)]; omega
            have htm : (Q : Int).tmod 8 = (R8 : Int) := by rw [Int.tmod_eq_emod_of_nonneg (by omega)]; omega
            replace hD8 := hide hD8
            replace hR8 := hide hR8
            clear hwd htm
            have hpv := hide (peek_val X Y R8 M k hlow hby (by omega) (by omega))
            go_quiet (fail)
            go_wp2_with fail
            go_meet
            case rel => exact ⟨congrArg (Value.int .i64) hpv.out, nq, rfl⟩
          case rest =>
            obtain ⟨rfl, q2, rfl⟩ := hcut
            rw [← hval.out]
            go_wp2_with fail
            go_roundw
            case rel => exact ⟨k + M, q + q2, rfl, by go_num, hMn, by rw [Hid, hwx.out, World.drewN_drewN]⟩
            case measure => simp [intOf]; omega
    · obtain rfl : k = n := by omega
      go_wp2_with fail
      go_ret2
      exact ⟨rfl, q, hwx.out⟩
set_option maxRecDepth 100000 in
theorem peek_none (w : World) (g : Nat) (v : Value) (l : List UInt8) (p n : Nat) (h : BRAt w g v l p) (hp : p ≤ 8 * l.length) (hl : l.length ≤ 10000000) (hn : n ≤ 24) (hpn : ¬ p + n ≤ 8 * l.length) :
    Calls Tryz.prog 67 #[.pointer (some ⟨g, 0, none⟩), .int .i64 (n : Int)] w fun e w' => e = .returned (.tuple #[.int .i64 0, .bool false]) ∧ ∃ q, w' = w.drewN q := by
  have hH := hide (has_any w g v l p n h hp hl (by omega))
  have hdt : Hid (decide (p + n ≤ 8 * l.length) = false) := by rw [Hid, decide_eq_false_iff_not]; exact hpn
  rw [hdt.out] at hH
  replace h := hide h
  have hheld := hide (held_any (n : Int) w (by omega) (by omega))
  go_enter Tryz.func67, Tryz.ntmps67
  go_wp2_with fail
  refine hheld.out.mono ?_
  rintro e w1 ⟨rfl, rfl⟩
  go_wp2_with fail
  refine hH.out.mono ?_
  rintro e w1 ⟨rfl, q, rfl⟩
  go_wp2_with fail
  go_ret2
  exact ⟨rfl, q, rfl⟩
theorem BRAt.blk {w : World} {g : Nat} {v : Value} {l : List UInt8} {p : Nat} (h : BRAt w g v l p) : ∃ cs, Blk w g 118 cs := by
  exact ⟨_, h.1⟩
theorem BRAt.lt {w : World} {g : Nat} {v : Value} {l : List UInt8} {p : Nat} (h : BRAt w g v l p) : g < w.heap.size := by
  obtain ⟨cs, h⟩ := h.blk
  exact h.lt
theorem BRAt.only {w w' : World} {g : Nat} {v : Value} {l : List UInt8} {p : Nat} {S : Nat → Prop} (h : BRAt w g v l p) (hO : Only S w w') (hg : ¬ S g) (hv : ∀ k, v.ownBlock = some k → ¬ S k) : BRAt w' g v l p :=
  ⟨hO.blk h.1 hg, hO.row h.2 hv⟩
/-- The place moves. -/
theorem BRAt.move {w : World} {g : Nat} {v : Value} {l : List UInt8} {p : Nat} (h : BRAt w g v l p) (p' : Nat) : BRAt (w.setCell ⟨g, 1, none⟩ (.int .i64 (p' : Int))) g v l p' ∧ Only (· = g) w (w.setCell ⟨g, 1, none⟩ (.int .i64 (p' : Int))) := by
  obtain ⟨h1, h2⟩ := h
  have hO : Only (· = g) w (w.setCell ⟨g, 1, none⟩ (.int .i64 (p' : Int))) := (Only.refl (· = g) w).setCell (p := ⟨g, 1, none⟩) (fun _ => rfl) _
  refine ⟨⟨h1.set_ 1 _, hO.row h2 fun k hk hs => ?_⟩, hO⟩
  subst hs
  rcases h2.2 with ⟨rfl, _⟩ | ⟨g', cap, cur, rfl, _, hh, _⟩
  · cases hk
  · cases hk
    exact Blk.ne_ hh h1 (by decide) rfl
/-- What taking bits returns. -/
def RbRet (w : World) (g : Nat) (v : Value) (l : List UInt8) (p n : Nat) (e : Ending) (w' : World) : Prop :=
  (p + n ≤ 8 * l.length ∧ e = .returned (.tuple #[.int .i64 (leN (((bytesB l).drop p).take n) : Int), .bool true]) ∧ BRAt w' g v l (p + n) ∧ Only (· = g) w w') ∨
  (¬ p + n ≤ 8 * l.length ∧ e = .returned (.tuple #[.int .i64 0, .bool false]) ∧ BRAt w' g v l p ∧ Only (· = g) w w')
set_option maxRecDepth 100000 in
theorem rbits_any (w : World) (g : Nat) (v : Value) (l : List UInt8) (p n : Nat) (h : BRAt w g v l p) (hp : p ≤ 8 * l.length) (hl : l.length ≤ 10000000) (hn : n ≤ 24) :
    Calls Tryz.prog 44 #[.pointer (some ⟨g, 0, none⟩), .int .i64 (n : Int)] w (RbRet w g v l p n) := by
  by_cases hpn : p + n ≤ 8 * l.length
  · have hk := hide (peek_any w g v l p n h hp hl hn hpn)
    have hheld : Hid (∀ wz : World, Calls Tryz.prog 56 #[.int .i64 (n : Int)] wz fun e w' => e = .returned (.int .i64 (n : Int)) ∧ wz = w') := fun wz => held_any (n : Int) wz (by omega) (by omega)
    obtain ⟨X, hX⟩ : ∃ X, X = leN (((bytesB l).drop p).take n) := ⟨_, rfl⟩
    rw [← hX] at hk
    replace hX := hide hX
    have hH := hide h
    have hwr : Hid (IntKind.i64.wrap ((p : Int) + (n : Int)) = ((p + n : Nat) : Int)) := by rw [Hid, IntWalk.i64_in _ (by omega)]; push_cast; rfl
    obtain ⟨hB, hO⟩ := h
    have c1 := hB.cell 1
    have f1 := hB.frozen 1
    replace hB := hide hB
    replace hO := hide hO
    go_enter Tryz.func44, Tryz.ntmps44
    go_wp2_with fail
    refine hk.out.mono ?_
    rintro e w1 ⟨rfl, q, rfl⟩
    have d1 : ((w.drewN q).drew).cell? ⟨g, 1, none⟩ = some (.int .i64 (p : Int)) := c1
    go_wp2_with fail
    go_region_with (go_at_call 56; refine (hheld.out _).mono ?_; rintro e w2 ⟨rfl, rfl⟩)
    all_goals
      go_wp2_with fail
      go_ret2
      rw [hwr.out]
      have hm := (hH.out.drewN (q + 1)).move (p + n)
      exact .inl ⟨hpn, by rw [← hX.out]; rfl, hm.1, ((Only.refl _ _).drewN (q + 1)).trans hm.2 fun _ _ h => h⟩
  · have hk := hide (peek_none w g v l p n h hp hl hn hpn)
    replace h := hide h
    go_enter Tryz.func44, Tryz.ntmps44
    go_wp2_with fail
    refine hk.out.mono ?_
    rintro e w1 ⟨rfl, q, rfl⟩
    go_wp2_with fail
    go_ret2
    exact .inr ⟨hpn, rfl, h.out.drewN q, (Only.refl _ _).drewN q⟩
theorem mark_any (w : World) (g : Nat) (v : Value) (l : List UInt8) (p : Nat) (h : BRAt w g v l p) :
    Calls Tryz.prog 41 #[.pointer (some ⟨g, 0, none⟩)] w fun e w' => e = .returned (.int .i64 (p : Int)) ∧ w' = w := by
  obtain ⟨hB, hO⟩ := h
  have c1 := hB.cell 1
  replace hB := hide hB
  replace hO := hide hO
  go_enter Tryz.func41, Tryz.ntmps41
  go_wp2_with fail
  go_ret
  exact ⟨rfl, rfl⟩
theorem back_any (w : World) (g : Nat) (v : Value) (l : List UInt8) (p m : Nat) (h : BRAt w g v l p) (hm : m ≤ p) :
    Calls Tryz.prog 42 #[.pointer (some ⟨g, 0, none⟩), .int .i64 (m : Int)] w fun e w' => e = .returned (.tuple #[]) ∧ BRAt w' g v l m ∧ Only (· = g) w w' := by
  have hM := hide (h.move m)
  obtain ⟨hB, hO⟩ := h
  have c1 := hB.cell 1
  have f1 := hB.frozen 1
  replace hB := hide hB
  replace hO := hide hO
  have h1 : (m : Int) ≤ (p : Int) := by omega
  have h2 : (0 : Int) ≤ (m : Int) := by omega
  go_enter Tryz.func42, Tryz.ntmps42
  go_wp2_with fail
  go_end0
  exact ⟨rfl, hM.out.1, hM.out.2⟩
theorem align_val (p : Nat) (h : p ≤ 100000000) : wrap64 ((p : Int) + bits .and .i64 (-(p : Int)) 7) = (((p + 7) / 8 * 8 : Nat) : Int) := by
  have e : bits .and .i64 (-(p : Int)) 7 = (18446744073709551616 - p : Int) % 8 := by
    show IntKind.i64.wrap ((BitVec.ofInt 64 (-(p : Int)) &&& BitVec.ofInt 64 7).toNat : Int) = _
    rw [BitVec.toNat_and, BitVec.toNat_ofInt, BitVec.toNat_ofInt]
    have e1 : ((7 : Int) % ((2 ^ 64 : Nat) : Int)).toNat = 2 ^ 3 - 1 := by decide
    rw [e1, Nat.and_two_pow_sub_one_eq_mod]
    have e2 : ((2 ^ 64 : Nat) : Int) = 18446744073709551616 := by decide
    rw [e2, IntWalk.i64_in _ (by omega)]
    omega
  rw [e]
  unfold wrap64
  omega
set_option maxRecDepth 100000 in
theorem ralign_any (w : World) (g : Nat) (v : Value) (l : List UInt8) (p : Nat) (h : BRAt w g v l p) (hp : p ≤ 100000000) :
    Calls Tryz.prog 85 #[.pointer (some ⟨g, 0, none⟩)] w fun e w' => (∃ v, e = .returned v) ∧ BRAt w' g v l ((p + 7) / 8 * 8) ∧ Only (· = g) w w' := by
  have hM := hide (h.move ((p + 7) / 8 * 8))
  have hv := hide (align_val p hp)
  obtain ⟨hB, hO⟩ := h
  have c1 := hB.cell 1
  have f1 := hB.frozen 1
  replace hB := hide hB
  replace hO := hide hO
  go_enter Tryz.func85, Tryz.ntmps85
  go_wp2_with fail
  go_ret
  rw [hv.out]
  exact ⟨⟨_, rfl⟩, hM.out.1, hM.out.2⟩
theorem BRAt.apart {w : World} {g g' : Nat} {v : Value} {n : Nat} {l : List UInt8} {cs : Array Value} (h1 : Blk w g 118 cs) (h2 : OB w 0 v n l) : v.ownBlock ≠ some g := by
  intro hk
  rcases h2.2 with ⟨rfl, _⟩ | ⟨g', cap, cur, rfl, _, hh, _⟩
  · cases hk
  · cases hk; exact Blk.ne_ hh h1 (by decide) rfl
end Go.Proofs.YtbchaomnjbkdhaaGreat
namespace Go.Proofs.YtbchaomnjbkdhaaGreat
/-- As Q; by a goto to l0: J; by a goto to l1: D. -/
def jump2 (l0 : Nat) (J : Act → World → Prop) (l1 : Nat) (D : Act → World → Prop) (Q : Exit → Act → World → Prop) : Exit → Act → World → Prop
  | .goto l, a, w => (l = l0 ∧ J a w) ∨ (l = l1 ∧ D a w)
  | e, a, w => Q e a w
section
variable {P : Program} {a : Act} {w : World} {Q : Exit → Act → World → Prop}
end
end Go.Proofs.YtbchaomnjbkdhaaGreat
namespace Go.Proofs.YtbchaomnjbkdhaaGreat
section
variable {P : Program} {a : Act} {w : World} {Q : Exit → Act → World → Prop}
theorem wp_scope_ix {c rb r1 : Code} (l0 l1 : Nat) (h0 : findLabel c l0 = some (.seq .skip rb)) (h1 : findLabel c l1 = some r1) (J0 J1 : Nat → Act → World → Prop)
    (p0 : ∀ n a w, J0 n a w → rb.wp P (jump2 l0 (fun a' w' => ∃ n', n' < n ∧ J0 n' a' w') l1 (fun a' w' => ∃ n', n' < n ∧ J1 n' a' w') Q) a w)
    (p1 : ∀ n a w, J1 n a w → r1.wp P (jump2 l0 (fun a' w' => ∃ n', n' < n ∧ J0 n' a' w') l1 (fun _ _ => False) Q) a w)
    (first : (∀ n a w, J0 n a w → rb.wp P (jump2 l0 (fun a' w' => ∃ n', J0 n' a' w') l1 (fun a' w' => ∃ n', J1 n' a' w') Q) a w) → c.wp P (jump2 l0 (fun a' w' => ∃ n', J0 n' a' w') l1 (fun a' w' => ∃ n', J1 n' a' w') Q) a w) : (Code.scope c).wp P Q a w := by
  intro b k cs
  have pass : ∀ n a w, J0 n a w → (Code.seq .skip rb).wp P (jump2 l0 (fun a' w' => ∃ n', n' < n ∧ J0 n' a' w') l1 (fun a' w' => ∃ n', n' < n ∧ J1 n' a' w') Q) a w := fun n a w hJ => wp_seq (wp_skip (p0 n a w hJ))
  generalize hr0 : Code.seq .skip rb = r0 at *
  have g0 : gotoIn l0 (.inScope c :: k) = some (.code r0 :: .inScope c :: k) := by simp [gotoIn, h0]
  have g1 : gotoIn l1 (.inScope c :: k) = some (.code r1 :: .inScope c :: k) := by simp [gotoIn, h1]
  have key : ∀ n, (∀ a w, J0 n a w → ∃ e a' w', Q e a' w' ∧ Arrives P (lone (b.at a (.code r0 :: .inScope c :: k)) cs w) b k cs e a' w') ∧
      (∀ a w, J1 n a w → ∃ e a' w', Q e a' w' ∧ Arrives P (lone (b.at a (.code r1 :: .inScope c :: k)) cs w) b k cs e a' w') := by
    intro n
    induction n using Nat.strongRecOn with
    | _ n ih =>
      constructor
      · intro a w hJ
        obtain ⟨e, a₁, w₁, hq, harr⟩ := pass n a w hJ b (.inScope c :: k) cs
        cases e with
        | normal => exact ⟨.normal, a₁, w₁, hq, Steps.trans harr (.one step_inScope)⟩
        | exit id => exact ⟨.exit id, a₁, w₁, hq, fun k' hk => harr k' (by simp [exitTo, hk])⟩
        | goto l' =>
          rcases hq with ⟨rfl, n', hlt, hJ'⟩ | ⟨rfl, n', hlt, hJ'⟩
          · obtain ⟨e₂, a₂, w₂, hq₂, harr₂⟩ := (ih n' hlt).1 a₁ w₁ hJ'
            exact ⟨e₂, a₂, w₂, hq₂, .of_steps (harr _ g0) harr₂⟩
          · obtain ⟨e₂, a₂, w₂, hq₂, harr₂⟩ := (ih n' hlt).2 a₁ w₁ hJ'
            exact ⟨e₂, a₂, w₂, hq₂, .of_steps (harr _ g1) harr₂⟩
        | ret => exact ⟨_, a₁, w₁, hq, harr⟩
        | panic ch => exact ⟨_, a₁, w₁, hq, harr⟩
        | outgrown => exact ⟨_, a₁, w₁, hq, harr⟩
      · intro a w hJ
        obtain ⟨e, a₁, w₁, hq, harr⟩ := p1 n a w hJ b (.inScope c :: k) cs
        cases e with
        | normal => exact ⟨.normal, a₁, w₁, hq, Steps.trans harr (.one step_inScope)⟩
        | exit id => exact ⟨.exit id, a₁, w₁, hq, fun k' hk => harr k' (by simp [exitTo, hk])⟩
        | goto l' =>
          rcases hq with ⟨rfl, n', hlt, hJ'⟩ | ⟨_, hf⟩
          · obtain ⟨e₂, a₂, w₂, hq₂, harr₂⟩ := (ih n' hlt).1 a₁ w₁ hJ'
            exact ⟨e₂, a₂, w₂, hq₂, .of_steps (harr _ g0) harr₂⟩
          · exact hf.elim
        | ret => exact ⟨_, a₁, w₁, hq, harr⟩
        | panic ch => exact ⟨_, a₁, w₁, hq, harr⟩
        | outgrown => exact ⟨_, a₁, w₁, hq, harr⟩
  have weak : ∀ n a w, J0 n a w → rb.wp P (jump2 l0 (fun a' w' => ∃ n', J0 n' a' w') l1 (fun a' w' => ∃ n', J1 n' a' w') Q) a w := fun n a w hJ => Code.wp_mono (fun e a' w' hq => by
    cases e with
    | goto l' =>
      rcases hq with ⟨rfl, n', _, hJ'⟩ | ⟨rfl, n', _, hJ'⟩
      · exact .inl ⟨rfl, n', hJ'⟩
      · exact .inr ⟨rfl, n', hJ'⟩
    | normal => exact hq
    | exit id => exact hq
    | ret => exact hq
    | panic ch => exact hq
    | outgrown => exact hq) (p0 n a w hJ)
  obtain ⟨e, a₁, w₁, hq, harr⟩ := first weak b (.inScope c :: k) cs
  cases e with
  | normal => exact ⟨.normal, a₁, w₁, hq, .head step_scope (Steps.trans harr (.one step_inScope))⟩
  | exit id => exact ⟨.exit id, a₁, w₁, hq, fun k' hk => .head step_scope (harr k' (by simp [exitTo, hk]))⟩
  | goto l' =>
    rcases hq with ⟨rfl, n', hJ⟩ | ⟨rfl, n', hD⟩
    · obtain ⟨e₂, a₂, w₂, hq₂, harr₂⟩ := (key n').1 a₁ w₁ hJ
      exact ⟨e₂, a₂, w₂, hq₂, .of_steps (.head step_scope (harr _ g0)) harr₂⟩
    · obtain ⟨e₂, a₂, w₂, hq₂, harr₂⟩ := (key n').2 a₁ w₁ hD
      exact ⟨e₂, a₂, w₂, hq₂, .of_steps (.head step_scope (harr _ g1)) harr₂⟩
  | ret => exact ⟨_, a₁, w₁, hq, .of_steps (.one step_scope) harr⟩
  | panic ch => exact ⟨_, a₁, w₁, hq, .of_steps (.one step_scope) harr⟩
  | outgrown => exact ⟨_, a₁, w₁, hq, .of_steps (.one step_scope) harr⟩
end
end Go.Proofs.YtbchaomnjbkdhaaGreat
namespace Go.Proofs.YtbchaomnjbkdhaaGreat
open Go.RowKit
set_option linter.unusedVariables false
theorem WSt.lt {w : World} {g : Nat} {v : Value} {s : List UInt8 × Nat} (h : WSt w g v s) : g < w.heap.size := h.1.lt
/-- The writer stands with whole bytes. -/
def WB (w : World) (g : Nat) (l : List UInt8) : Prop := ∃ v, WSt w g v (l, 8 * l.length)
theorem bits_int (w : World) (g : Nat) (v : Value) (s : List UInt8 × Nat) (N X : Int) (n x : Nat) (hN : N = (n : Int)) (hX : X = (x : Int)) (h : WSt w g v s) (hn : n ≤ 24) (hx : x < 1099511627776) (hl : s.2 ≤ 90000000) :
    Calls Tryz.prog 29 #[.pointer (some ⟨g, 0, none⟩), .int .i64 N, .int .i64 X] w fun e w' => e = .returned (.tuple #[]) ∧ (∃ v', WSt w' g v' (bitsS s x n)) ∧ Below g w w' := by
  subst hN hX
  exact bits_any w g v s n x h hn hx hl
theorem storedS_last (f : Nat) (b : List UInt8) (h : b.length ≤ 65535) : storedS (f + 1) b = headS b.length 1 ++ b := by rw [storedS, if_pos h]
theorem storedS_more (f : Nat) (b : List UInt8) (h : 65535 < b.length) : storedS (f + 1) b = headS 65535 0 ++ (b.take 65535 ++ storedS f (b.drop 65535)) := by rw [storedS, if_neg (by omega)]
theorem headS_len (k l : Nat) : (headS k l).length = 5 := rfl
set_option maxRecDepth 100000 in
set_option maxHeartbeats 2000000 in
/-- A block's head. -/
theorem stored_any (w : World) (g : Nat) (A : Option Addr) (n c : Nat) (b : List UInt8) (h : WB w g []) (hb : RB w g A n b) (hnc : n ≤ c) (hn : n ≤ 1000000) :
    Calls Tryz.prog 12 #[.pointer (some ⟨g, 0, none⟩), .slice A n c] w fun e w' => e = .returned (.tuple #[]) ∧ WB w' g (storedS (n + 1) b) ∧ Below g w w' := by
  have hlen := hide hb.len
  replace h := hide h
  replace hb := hide hb
  go_enter Tryz.func12, Tryz.ntmps12
  go_wp2_with fail
  go_loopw [1] (fun u wr => ∃ (A' : Option Addr) (n' c' f : Nat) (b' done : List UInt8), u = .slice A' n' c' ∧ n' ≤ c' ∧ n' < f ∧ n' ≤ n ∧ Hid (RB w g A' n' b') ∧ Hid (WB wr g done) ∧ Hid (storedS (n + 1) b = done ++ storedS f b') ∧ done.length + 6 * n' ≤ 6 * n ∧ Below g w wr) (fun u wr => match u with | .slice _ m _ => m + 1 | _ => 0)
  case atStart => exact ⟨A, n, c, n + 1, b, [], rfl, hnc, by omega, Nat.le_refl _, hb, h, rfl, by simp, Below.refl _ _⟩
  case round =>
    obtain ⟨A', n', c', f, b', done, rfl, hnc', hf, hn', hR, hW, hst, hdl, hbl⟩ := hrel
    obtain ⟨f, rfl⟩ : ∃ e, f = e + 1 := ⟨f - 1, by omega⟩
    by_cases h1 : n' ≤ 65535
    · have hpos : True := trivial
      obtain ⟨v0, hS0⟩ := hW.out
      have hd8 : 8 * done.length ≤ 90000000 := by omega
      have hbr := hbl
      go_wp2_with fail
      refine (bits_int wr g v0 (done, 8 * done.length) _ _ 1 1 (by omega) (by omega) hS0 (by omega) (by omega) hd8).mono ?_
      rintro e w1 ⟨rfl, ⟨v1, hS1⟩, hb1⟩
      have hb1' := hbl.trans hb1
      replace hS1 := hide hS1
      clear hS0 hW hb1
      go_wp2_with fail
      refine (bits_int w1 g v1 _ _ _ 2 0 (by omega) (by omega) hS1.out (by omega) (by omega) (by rw [bitsS_n]; omega)).mono ?_
      rintro e w2 ⟨rfl, ⟨v2, hS2⟩, hb2⟩
      have hb2' := hb1'.trans hb2
      have hhead := bits_head done 1 (by omega)
      have hl2 : (bitsS (bitsS (done, 8 * done.length) 1 1) 0 2).1.length ≤ 100000000 := by rw [hhead]; simp; omega
      replace hhead := hide hhead
      replace hS2 := hide hS2
      clear hS1 hb2 hb1'
      go_wp2_with fail
      refine (align_any w2 g v2 _ hS2.out hl2).mono ?_
      rintro e w3 ⟨rfl, hS3, hb3⟩
      have hb3' := hb2'.trans hb3
      rw [hhead.out] at hS3
      replace hS3 := hide hS3
      clear hS2 hb3 hb2' hl2 hhead
      go_wp2_with fail
      refine (bits_int w3 g v2 _ _ _ 16 n' (by omega) (by omega) hS3.out (by omega) (by omega) (by simp; omega)).mono ?_
      rintro e w4 ⟨rfl, ⟨v4, hS4⟩, hb4⟩
      have hb4' := hb3'.trans hb4
      rw [bits_16 _ _ (by omega)] at hS4
      replace hS4 := hide hS4
      clear hS3 hb4 hb3'
      go_wp2_with fail
      refine (bits_int w4 g v4 _ _ _ 16 (65535 - n') (by omega) (by omega) hS4.out (by omega) (by omega) (by simp; omega)).mono ?_
      rintro e w5 ⟨rfl, ⟨v5, hS5⟩, hb5⟩
      have hb5' := hb4'.trans hb5
      rw [bits_16 _ _ (by omega)] at hS5
      have hh : (done ++ [UInt8.ofNat 1] ++ [UInt8.ofNat (n' % 256), UInt8.ofNat (n' / 256)] ++ [UInt8.ofNat ((65535 - n') % 256), UInt8.ofNat ((65535 - n') / 256)]) = done ++ headS n' 1 := by simp [headS]
      rw [hh] at hS5
      have hW5 : Hid (WB w5 g (done ++ headS n' 1)) := ⟨v5, hS5⟩
      have hR5 := hide (hR.out.below hb5')
      have hlen' := hide hR.out.len
      clear hS4 hb5 hb4' hh
      go_wp2_with fail
      go_loopw [33] (fun i wx => ∃ j : Nat, j ≤ n' ∧ i = .int .i64 j ∧ Hid (WB wx g (done ++ headS n' 1 ++ b'.take j)) ∧ Below g w wx) (fun i _ => n' - (intOf i).toNat)
      case atStart => exact ⟨0, by omega, rfl, by simpa using hW5, hb5'⟩
      case round =>
        obtain ⟨j, hj, rfl, hWx, hbx⟩ := hrel
        by_cases h2 : j < n'
        · have hjb : j < b'.length := by have := hlen'.out; omega
          have hjn : j < n' := by omega
          obtain ⟨ad, rfl, hab, c0⟩ := (hR.out.below hbx).elem hjn hjb
          have hnx : Hid (done ++ headS n' 1 ++ b'.take (j + 1) = (done ++ headS n' 1 ++ b'.take j) ++ [b'[j]]) := by
            rw [Hid, List.take_succ_eq_append_getElem hjb]; simp
          have htl : (done ++ headS n' 1 ++ b'.take j).length ≤ 10000000 := by
            rw [List.length_append, List.length_append, headS_len, List.length_take]; omega
          obtain ⟨vx, hSx⟩ := hWx.out
          generalize done ++ headS n' 1 ++ b'.take j = L at *
          have hc := (b'[j]).toNat_lt
          generalize b'[j] = ch at *
          replace hSx := hide hSx
          clear hWx
          go_wp2_with fail
          refine (bits_int _ g vx _ _ _ 8 ch.toNat (by omega) (by omega) hSx.out (by omega) (by omega) (by show 8 * L.length ≤ _; omega)).mono ?_
          rintro e w6 ⟨rfl, ⟨v6, hS6⟩, hb6⟩
          rw [bits_8 _ _ (by omega), show UInt8.ofNat ch.toNat = ch from UInt8.ofNat_toNat] at hS6
          have hb6' := hbx.trans hb6
          replace hS6 := hide hS6
          clear hSx hb6 hbx
          go_wp2_with fail
          go_roundw
          case rel => exact ⟨j + 1, by omega, by go_num, by rw [hnx.out]; exact ⟨v6, hS6.out⟩, hb6'⟩
          case measure => simp [intOf]; omega
        · have hjk : j = n' := by omega
          subst hjk
          have htk : Hid (b'.take j = b') := by rw [Hid, List.take_of_length_le (by have := hlen'.out; omega)]
          rw [htk.out] at hWx
          have hfin : Hid (storedS (n + 1) b = done ++ headS j 1 ++ b') := by
            rw [Hid, hst.out, storedS_last _ _ (by have := hlen'.out; omega), hlen'.out, List.append_assoc]
          clear hst htk hW5 hR5
          by_cases hcap : c' = j
          all_goals
            go_wp2_with fail
            refine bodyPost_ret (results_none rfl _ _ _) rfl ?_
            exact ⟨rfl, by rw [hfin.out]; exact hWx.out, hbx⟩
    · obtain ⟨K, hK⟩ : ∃ K : Nat, K = 65535 := ⟨_, rfl⟩
      go_upto_region 0 with (fail)
      go_cut [4] (fun u4 wx => u4 = .int .i64 (K : Int) ∧ wr = wx)
      case first =>
        go_wp2_with fail
        go_meet
        case rel => exact ⟨by rw [hK]; rfl, rfl⟩
      obtain ⟨rfl, rfl⟩ := hcut
      have hKn : K < n' := by omega
      have hK5 : K ≤ 65535 := by omega
      have hK0 : 1 ≤ K := by omega
      have nK : ((K : Int) == (n' : Int)) = false := by rw [beq_eq_false_iff_ne]; omega
      replace hK := hide hK
      clear h1
      obtain ⟨v0, hS0⟩ := hW.out
      have hd8 : 8 * done.length ≤ 90000000 := by omega
      have hbr := hbl
      go_wp2_with fail
      refine (bits_int wr g v0 (done, 8 * done.length) _ _ 1 0 (by omega) (by omega) hS0 (by omega) (by omega) hd8).mono ?_
      rintro e w1 ⟨rfl, ⟨v1, hS1⟩, hb1⟩
      have hb1' := hbl.trans hb1
      replace hS1 := hide hS1
      clear hS0 hW hb1
      go_wp2_with fail
      refine (bits_int w1 g v1 _ _ _ 2 0 (by omega) (by omega) hS1.out (by omega) (by omega) (by rw [bitsS_n]; omega)).mono ?_
      rintro e w2 ⟨rfl, ⟨v2, hS2⟩, hb2⟩
      have hb2' := hb1'.trans hb2
      have hhead := bits_head done 0 (by omega)
      have hl2 : (bitsS (bitsS (done, 8 * done.length) 0 1) 0 2).1.length ≤ 100000000 := by rw [hhead]; simp; omega
      replace hhead := hide hhead
      replace hS2 := hide hS2
      clear hS1 hb2 hb1'
      go_wp2_with fail
      refine (align_any w2 g v2 _ hS2.out hl2).mono ?_
      rintro e w3 ⟨rfl, hS3, hb3⟩
      have hb3' := hb2'.trans hb3
      rw [hhead.out] at hS3
      replace hS3 := hide hS3
      clear hS2 hb3 hb2' hl2 hhead
      go_wp2_with fail
      refine (bits_int w3 g v2 _ _ _ 16 K (by omega) (by omega) hS3.out (by omega) (by omega) (by simp; omega)).mono ?_
      rintro e w4 ⟨rfl, ⟨v4, hS4⟩, hb4⟩
      have hb4' := hb3'.trans hb4
      rw [bits_16 _ _ (by omega)] at hS4
      replace hS4 := hide hS4
      clear hS3 hb4 hb3'
      go_wp2_with fail
      refine (bits_int w4 g v4 _ _ _ 16 0 (by omega) (by have := hK.out; omega) hS4.out (by omega) (by omega) (by simp; omega)).mono ?_
      rintro e w5 ⟨rfl, ⟨v5, hS5⟩, hb5⟩
      have hb5' := hb4'.trans hb5
      rw [bits_16 _ _ (by omega)] at hS5
      have hh : (done ++ [UInt8.ofNat 0] ++ [UInt8.ofNat (K % 256), UInt8.ofNat (K / 256)] ++ [UInt8.ofNat ((0) % 256), UInt8.ofNat ((0) / 256)]) = done ++ headS K 0 := by rw [hK.out]; simp [headS]
      rw [hh] at hS5
      have hW5 : Hid (WB w5 g (done ++ headS K 0)) := ⟨v5, hS5⟩
      have hR5 := hide (hR.out.below hb5')
      have hlen' := hide hR.out.len
      clear hS4 hb5 hb4' hh
      go_wp2_with fail
      go_loopw [33] (fun i wx => ∃ j : Nat, j ≤ K ∧ i = .int .i64 j ∧ Hid (WB wx g (done ++ headS K 0 ++ b'.take j)) ∧ Below g w wx) (fun i _ => K - (intOf i).toNat)
      case atStart => exact ⟨0, by omega, rfl, by simpa using hW5, hb5'⟩
      case round =>
        obtain ⟨j, hj, rfl, hWx, hbx⟩ := hrel
        by_cases h2 : j < K
        · have hjb : j < b'.length := by have := hlen'.out; omega
          have hjn : j < n' := by omega
          obtain ⟨ad, rfl, hab, c0⟩ := (hR.out.below hbx).elem hjn hjb
          have hnx : Hid (done ++ headS K 0 ++ b'.take (j + 1) = (done ++ headS K 0 ++ b'.take j) ++ [b'[j]]) := by
            rw [Hid, List.take_succ_eq_append_getElem hjb]; simp
          have htl : (done ++ headS K 0 ++ b'.take j).length ≤ 10000000 := by
            rw [List.length_append, List.length_append, headS_len, List.length_take]; omega
          obtain ⟨vx, hSx⟩ := hWx.out
          generalize done ++ headS K 0 ++ b'.take j = L at *
          have hc := (b'[j]).toNat_lt
          generalize b'[j] = ch at *
          replace hSx := hide hSx
          clear hWx
          go_wp2_with fail
          refine (bits_int _ g vx _ _ _ 8 ch.toNat (by omega) (by omega) hSx.out (by omega) (by omega) (by show 8 * L.length ≤ _; omega)).mono ?_
          rintro e w6 ⟨rfl, ⟨v6, hS6⟩, hb6⟩
          rw [bits_8 _ _ (by omega), show UInt8.ofNat ch.toNat = ch from UInt8.ofNat_toNat] at hS6
          have hb6' := hbx.trans hb6
          replace hS6 := hide hS6
          clear hSx hb6 hbx
          go_wp2_with fail
          go_roundw
          case rel => exact ⟨j + 1, by omega, by go_num, by rw [hnx.out]; exact ⟨v6, hS6.out⟩, hb6'⟩
          case measure => simp [intOf]; omega
        · have hjk : K = j := by omega
          subst hjk
          have hfin : Hid (storedS (n + 1) b = (done ++ headS K 0 ++ b'.take K) ++ storedS f (b'.drop K)) := by
            rw [Hid, hst.out, storedS_more _ _ (by have := hlen'.out; have := hK.out; omega), hK.out]; simp
          have hdl2 : (done ++ headS K 0 ++ b'.take K).length + 6 * (n' - K) ≤ 6 * n := by
            rw [List.length_append, List.length_append, headS_len, List.length_take]; omega
          have hc2 : ¬ c' = K := by omega
          have hcut := Reads.cut hR.out (k := K) (cap := c') (by omega) hnc'
          rw [if_neg hc2] at hcut
          have hcut2 : Hid (RB w g (A'.map (·.add K)) (n' - K) (b'.drop K)) := by
            have e : bv (b'.drop K) = (bv b').drop (K * 1) := by simp [bv, List.map_drop]
            rw [Hid, RB, e]; rw [Nat.mul_one] at hcut ⊢; exact hcut
          obtain ⟨ad, rfl, hab, -⟩ := hR.out.elem (k := 0) (by omega) (by have := hlen'.out; omega)
          clear hst hW5 hR5 hcut hR hlen'
          generalize done ++ headS K 0 ++ b'.take K = L at *
          generalize b'.drop K = D at *
          go_wp2_with fail
          refine ⟨⟨some (ad.add K), n' - K, c' - K, f, D, L, rfl, by omega, by omega, by omega, ?_, hWx, hfin, hdl2, hbx⟩, ?_⟩
          · exact hcut2.out
          · show n' - K + 1 < n' + 1
            omega
end Go.Proofs.YtbchaomnjbkdhaaGreat
