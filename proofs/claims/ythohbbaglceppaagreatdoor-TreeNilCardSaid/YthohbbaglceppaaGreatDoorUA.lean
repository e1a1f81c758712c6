/-
  Words for memory that all proofs of this seat share: a slice that reads as a list; a block known whole; append onto a row of the call's own (after the kit's howto pages extra-words and extra-small, whose blocks are made for copying); below them words of this claim's own: lists of bytes and of ints as cells.
-/
import Derived.WalkKit
import Derived.Below
import Derived.Laws.OwnMore
import Derived.Deep.AppendLies
import Derived.Deep.Draws
import Derived.Deep.OwnRows
import Derived.Laws.Rows
import Derived.Laws.MakeOwn
import Derived.Maps.AppendAt
import Derived.RegionTactic
import Derived.OwnWalk
import Derived.Deep.QuietTactic
import Derived.BigQuiet
import Derived.ChangeSame
import Derived.Deep.DeepCutAuto
import Derived.Deep.CutBlock
import Derived.Deep.RegionHeld3
import Derived.Outline
import Derived.Test.YthohbbaglceppaaGreatDoorRows
import Derived.ProofKit
import Derived.OpenShut
import Derived.ShutString
import Derived.ChangeOld
import Derived.Handed
import Derived.SizedLaws
import Derived.RangeFuncOwn
import Derived.LaidMore
import Derived.Lay
import Derived.SevenTiedAt
import Derived.Stop.Joined
import Derived.Test.YthohbbaglceppaaGreatDoorChecked
import Derived.WalkSpells
import Derived.Lib.OwnBridge
import Derived.IntWalk
import Derived.Lib.Strings
namespace Go.Proofs.YthohbbaglceppaaGreatDoor
open Go.RowKit
set_option linter.unusedVariables false
theorem hide {p : Prop} (h : p) : Hid p := h
theorem block_of_add (a : Addr) (n : Nat) : (a.add n).block = a.block := by unfold Addr.add; split <;> rfl
theorem add_of_add (a : Addr) (i j : Nat) : (a.add i).add j = a.add (i + j) := by
  unfold Addr.add
  by_cases hi : i = 0 <;> by_cases hj : j = 0 <;> simp [hi, hj, Nat.add_assoc]
def Reads (w : World) (B size : Nat) (A : Option Addr) (n : Nat) (xs : List Value) : Prop :=
  xs.length = n * size ∧ (0 < n → ∃ ad, A = some ad ∧ ad.block < B ∧ ∀ j u, xs[j]? = some u → w.cell? (ad.add j) = some u)
section
variable {w w' : World} {B B' size n : Nat} {A : Option Addr} {xs : List Value}
theorem Reads.none_ : Reads w B size A 0 [] := ⟨by simp, fun h => absurd h (by omega)⟩
theorem Reads.at_ {k : Nat} (h : Reads w B 1 A n xs) (hk : k < n) : ∃ ad u, A = some ad ∧ ad.block < B ∧ xs[k]? = some u ∧ w.cell? (ad.add k) = some u := by
  obtain ⟨ad, e, hb, hc⟩ := h.2 (by omega)
  have hl : k < xs.length := by have := h.1; omega
  exact ⟨ad, xs[k], e, hb, List.getElem?_eq_getElem hl, hc k _ (List.getElem?_eq_getElem hl)⟩
theorem Reads.keep (h : Reads w B size A n xs) (hk : ∀ p : Addr, p.block < B → w'.cell? p = w.cell? p) : Reads w' B size A n xs :=
  ⟨h.1, fun hn => by
    obtain ⟨ad, e, hb, hc⟩ := h.2 hn
    exact ⟨ad, e, hb, fun j u hu => (hk _ (by rw [block_of_add]; exact hb)).trans (hc j u hu)⟩⟩
theorem Reads.more (h : Reads w B size A n xs) (hB : B ≤ B') : Reads w B' size A n xs :=
  ⟨h.1, fun hn => by
    obtain ⟨ad, e, hb, hc⟩ := h.2 hn
    exact ⟨ad, e, by omega, hc⟩⟩
theorem Reads.below (h : Reads w B size A n xs) (hb : Below B w w') : Reads w' B size A n xs := h.keep fun _ hp => hb.cell hp
theorem Reads.drew (h : Reads w B size A n xs) : Reads w.drew B size A n xs := h
theorem Reads.drewN (h : Reads w B size A n xs) (k : Nat) : Reads (w.drewN k) B size A n xs := h
theorem Reads.alloc (h : Reads w B size A n xs) (hB : B ≤ w.heap.size) (o : Obj) : Reads (w.alloc o) B size A n xs := h.keep fun p hp => World.cell?_alloc_lt w o p (by omega)
theorem Reads.setCell (h : Reads w B size A n xs) {p : Addr} (hB : B ≤ p.block) (u : Value) : Reads (w.setCell p u) B size A n xs :=
  h.keep fun q hq => World.cell?_setCell_other w p q u (fun e => by subst e; omega)
theorem Reads.grown (h : Reads w B size A n xs) {row : Option Nat} (hg : w.grownBy w' row) (hB : B ≤ w.heap.size) (hr : ∀ g, row = some g → B ≤ g) : Reads w' B size A n xs :=
  h.keep fun p hp => World.cell?_of_block (hg.block p.block (by omega) (fun e => by have := hr _ e.symm; omega))
theorem Reads.cut (h : Reads w B size A n xs) {k cap : Nat} (hk : k ≤ n) (hc : n ≤ cap) :
    Reads w B size (if cap = k then A else A.map (·.add (k * size))) (n - k) (xs.drop (k * size)) := by
  refine ⟨by rw [List.length_drop, h.1, Nat.sub_mul], fun hn => ?_⟩
  obtain ⟨ad, rfl, hb, hcell⟩ := h.2 (by omega)
  rw [if_neg (by omega)]
  refine ⟨ad.add (k * size), rfl, by rw [block_of_add]; exact hb, fun j u hu => ?_⟩
  rw [add_of_add]
  exact hcell _ u (by rw [← hu, List.getElem?_drop])
theorem Reads.of_own {base : Nat} {e : TypeId} {c : Nat} (h : w.ownsRow base e size (.slice A n c) n xs) : Reads w w.heap.size size A n xs := by
  refine ⟨h.1, fun hn => ?_⟩
  obtain ⟨g, cap, hv, _, hlt⟩ := h.form hn
  have hA : A = some ⟨g, 0, none⟩ := by injection hv
  subst hA
  exact ⟨_, rfl, hlt, h.cells (g := g) rfl⟩
end
def Blk (w : World) (g : Nat) (t : TypeId) (cs : Array Value) : Prop := w.heap[g]? = some (.cells cs t (0, 0))
section
variable {w w' : World} {g : Nat} {t : TypeId} {cs : Array Value}
theorem Blk.lt (h : Blk w g t cs) : g < w.heap.size := by
  rcases Nat.lt_or_ge g w.heap.size with hlt | hge
  · exact hlt
  · unfold Blk at h; rw [Array.getElem?_eq_none hge] at h; cases h
theorem Blk.cell (h : Blk w g t cs) (i : Nat) : w.cell? ⟨g, i, none⟩ = cs[i]? := cell_of_row w g i cs t (0, 0) h
theorem Blk.frozen (h : Blk w g t cs) (i : Nat) : w.frozen? ⟨g, i, none⟩ = false := by
  unfold Blk at h
  simp [World.frozen?, h]
theorem Blk.new (w : World) (t : TypeId) (cs : Array Value) : Blk (w.alloc (.cells cs t)) w.heap.size t cs := heap_alloc_new w _
theorem Blk.drew (h : Blk w g t cs) : Blk w.drew g t cs := h
theorem Blk.drewN (h : Blk w g t cs) (n : Nat) : Blk (w.drewN n) g t cs := h
theorem Blk.alloc (h : Blk w g t cs) (o : Obj) : Blk (w.alloc o) g t cs := (Below.heap_alloc w o g h.lt).trans h
theorem Blk.set_ (h : Blk w g t cs) (i : Nat) (u : Value) : Blk (w.setCell ⟨g, i, none⟩ u) g t (cs.setIfInBounds i u) := by
  unfold Blk at h ⊢
  simp [World.setCell, Array.getElem?_modify, h]
theorem Blk.far (h : Blk w g t cs) {p : Addr} (hp : g ≠ p.block) (u : Value) : Blk (w.setCell p u) g t cs := (Below.heap_setCell w p u g hp).trans h
theorem Blk.below {B : Nat} (h : Blk w g t cs) (hb : Below B w w') (hg : g < B) : Blk w' g t cs := (hb.block g hg).trans h
theorem Blk.grown {row : Option Nat} (h : Blk w g t cs) (hb : w.grownBy w' row) (hg : some g ≠ row) : Blk w' g t cs := (hb.block g h.lt hg).trans h
theorem Blk.ne_ {g' : Nat} {t' : TypeId} {cs' : Array Value} (h : Blk w g t cs) (h' : Blk w g' t' cs') (hne : t ≠ t') : g ≠ g' := by
  rintro rfl
  unfold Blk at h h'
  rw [h] at h'
  injection h' with h'
  injection h' with _ ht
  exact hne ht
theorem own_blk_ne {base : Nat} {e : TypeId} {size n : Nat} {v : Value} {xs : List Value} (h : w.ownsRow base e size v n xs) (hg : Blk w g t cs) (hne : e ≠ t) : v.ownBlock ≠ some g := by
  rcases h.2 with ⟨rfl, _⟩ | ⟨g', cap, cur, rfl, _, hh, _⟩
  · simp [Value.ownBlock]
  · intro he
    have : g' = g := by simpa [Value.ownBlock] using he
    subst this
    exact Blk.ne_ (t := e) hh hg hne rfl
end
section
variable {P : Program} (w : World)
theorem run_append_of_nil (base : Nat) (t ty e : TypeId) (i : TypeInfo) (size : Nat) (ht : P.underlying t = some (.slice e)) (hi : P.info? e = some i)
    (v : Value) (n : Nat) (xs : List Value) (hown : w.ownsRow base e size v n xs) (c : Nat) : (Builtin.append_ #[t, t] ty #[v, .slice none 0 c]).run P w = .ok v w := by
  rcases hown.2 with ⟨rfl, rfl⟩ | ⟨g, cap, cur, rfl, _, _, hnc, _⟩
  · simp [Builtin.append_, run_underlying ht, sizeOf, typeInfo, hi, Builtin.lenOf, Builtin.firstCells]
  · simp [Builtin.append_, run_underlying ht, sizeOf, typeInfo, hi, Builtin.lenOf, Builtin.firstCells, hnc, storeCells]
theorem run_append_any (base : Nat) (t ty e : TypeId) (i : TypeInfo) (z : Value) (size bytes : Nat) (ht : P.underlying t = some (.slice e)) (hi : P.info? e = some i) (hz : i.zero = some z)
    (hsize : i.size = size) (hby : i.bytes = bytes) (hzs : z.cells.size = size) (hsz : 0 < size)
    (v : Value) (n : Nat) (xs : List Value) (hown : w.ownsRow base e size v n xs)
    (B : Nat) (A : Option Addr) (m c : Nat) (news : List Value) (hr : Reads w B size A m news) (h1 : ∀ u ∈ news, u.oneCell' = true)
    (h63 : n + m ≤ maxLen) (hbytes : (n + m) * bytes ≤ 140737488355328) (hbase : base ≤ w.heap.size) :
    ∃ v' w', (Builtin.append_ #[t, t] ty #[v, .slice A m c]).run P w = .ok v' w' ∧ w'.ownsRow base e size v' (n + m) (xs ++ news) ∧ w.grownBy w' v.ownBlock ∧
      (v'.ownBlock = v.ownBlock ∨ v'.ownBlock = some w.heap.size) := by
  rcases A with _ | ad
  · have hm : m = 0 := by
      rcases Nat.eq_zero_or_pos m with h0 | h0
      · exact h0
      · obtain ⟨ad, h, _⟩ := hr.2 h0
        cases h
    subst hm
    have hn : news = [] := List.eq_nil_of_length_eq_zero (by simpa using hr.1)
    subst hn
    exact ⟨v, w, run_append_of_nil w base t ty e i size ht hi v n xs hown c, by simpa using hown, World.grownBy.refl w _, .inl rfl⟩
  · have hcells : ∀ j u, news[j]? = some u → w.cell? (ad.add j) = some u := by
      intro j u hu
      rcases Nat.eq_zero_or_pos m with h0 | h0
      · subst h0
        have hn : news = [] := List.eq_nil_of_length_eq_zero (by simpa using hr.1)
        subst hn
        simp at hu
      · obtain ⟨ad', h, _, hc⟩ := hr.2 h0
        injection h with h
        subst h
        exact hc j u hu
    obtain ⟨v', w', hrun, h2, h3, _, h5⟩ := run_append_own_at (P := P) w base t ty e i z size bytes ht hi hz hsize hby hzs hsz v n xs hown ad m c news hr.1 hcells h1 h63 hbytes hbase
    exact ⟨v', w', hrun, h2, h3, h5⟩
theorem wp_append_any {o : Oper} {a : Act} {K : Act → World → Prop} {Q : Exit → Act → World → Prop} (s x : Operand) (t : TypeId)
    (ho : o.op = .call { callee := .builtin .append, args := #[s, x], argTypes := #[t, t] })
    (base : Nat) (e : TypeId) (i : TypeInfo) (z : Value) (size bytes : Nat) (ht : P.underlying t = some (.slice e)) (hi : P.info? e = some i) (hz : i.zero = some z)
    (hsize : i.size = size) (hby : i.bytes = bytes) (hzs : z.cells.size = size) (hsz : 0 < size)
    (v : Value) (n : Nat) (xs : List Value) (hs : a.eval s = v) (hown : w.ownsRow base e size v n xs)
    (B : Nat) (A : Option Addr) (m c : Nat) (news : List Value) (hx : a.eval x = .slice A m c) (hr : Reads w B size A m news) (h1 : ∀ u ∈ news, u.oneCell' = true)
    (h63 : n + m ≤ maxLen) (hbytes : (n + m) * bytes ≤ 140737488355328) (hbase : base ≤ w.heap.size)
    (h : ∀ v' w', w'.ownsRow base e size v' (n + m) (xs ++ news) → w.grownBy w' v.ownBlock → (v'.ownBlock = v.ownBlock ∨ v'.ownBlock = some w.heap.size) → K (a.put o.dst v') w') : o.wp P a w K Q := by
  obtain ⟨v', w', hrun, h2, h3, h4⟩ := run_append_any (P := P) w base t o.type e i z size bytes ht hi hz hsize hby hzs hsz v n xs hown B A m c news hr h1 h63 hbytes hbase
  unfold Oper.wp execOp
  simp only [ho, resolve, invoke, builtin, Sem.run_bind, Sem.run_pure, Result.andThen_ok, List.map_toArray, List.map_cons, List.map_nil, hs, hx, hrun]
  exact h v' w' h2 h3 h4
theorem wpList_append_any {ops : Array Oper} {rest : List Oper} {o : Oper} {a : Act} {Q : Exit → Act → World → Prop} (hgd : o.guard = none) (s x : Operand) (t : TypeId)
    (ho : o.op = .call { callee := .builtin .append, args := #[s, x], argTypes := #[t, t] })
    (base : Nat) (e : TypeId) (i : TypeInfo) (z : Value) (size bytes : Nat) (ht : P.underlying t = some (.slice e)) (hi : P.info? e = some i) (hz : i.zero = some z)
    (hsize : i.size = size) (hby : i.bytes = bytes) (hzs : z.cells.size = size) (hsz : 0 < size)
    (v : Value) (n : Nat) (xs : List Value) (hs : a.eval s = v) (hown : w.ownsRow base e size v n xs)
    (B : Nat) (A : Option Addr) (m c : Nat) (news : List Value) (hx : a.eval x = .slice A m c) (hr : Reads w B size A m news) (h1 : ∀ u ∈ news, u.oneCell' = true)
    (h63 : n + m ≤ maxLen) (hbytes : (n + m) * bytes ≤ 140737488355328) (hbase : base ≤ w.heap.size)
    (h : ∀ v' w', w'.ownsRow base e size v' (n + m) (xs ++ news) → w.grownBy w' v.ownBlock → (v'.ownBlock = v.ownBlock ∨ v'.ownBlock = some w.heap.size) → wpList P ops Q rest (a.put o.dst v') w') : wpList P ops Q (o :: rest) a w :=
  wpList_plain hgd fun _ hK => wp_append_any w s x t ho base e i z size bytes ht hi hz hsize hby hzs hsz v n xs hs hown B A m c news hx hr h1 h63 hbytes hbase fun v' w' h2 h3 h4 => hK _ _ (h v' w' h2 h3 h4)
end
theorem quiet_add_left {P : Program} {f : FuncId} {args : Array Value} {w : World} {a n : Nat} {v : Value}
    (h : Calls P f args (w.drewN (a + n)) fun e w' => e = .returned v ∧ w.drewN (a + n) = w') :
    Calls P f args (w.drewN (a + n)) fun e w'' => e = .returned v ∧ ∃ m, w'' = w.drewN (a + m) :=
  h.mono fun _ _ ⟨he, hm⟩ => ⟨he, n, hm.symm⟩
theorem quiet_left {P : Program} {f : FuncId} {args : Array Value} {w : World} {n : Nat} {v : Value}
    (h : Calls P f args (w.drewN n) fun e w' => e = .returned v ∧ w.drewN n = w') : Calls P f args (w.drewN n) fun e w'' => e = .returned v ∧ ∃ m, w'' = w.drewN m :=
  h.mono fun _ _ ⟨he, hm⟩ => ⟨he, n, hm.symm⟩
theorem below_drewN {B : Nat} {a w : World} (h : Below B a w) (n : Nat) : Below B a (w.drewN n) := ⟨h.os, h.tape, h.output, h.size, h.block⟩
theorem run_make_rowN {P : Program} (t e : TypeId) (i : TypeInfo) (z : Value) (ht : P.underlying t = some (.slice e)) (hi : P.info? e = some i) (hz : i.zero = some z)
    (kl kc : IntKind) (n c : Nat) (hnc : n ≤ c) (hbytes : i.bytes * c ≤ 281474976710656) (h63 : c ≤ 9223372036854775807) (w : World) :
    (Instr.makeSlice t (.int kl (n : Int)) (.int kc (c : Int))).run P w = .ok (.slice (some ⟨w.heap.size, 0, none⟩) n c) (w.alloc (.cells (madeCells z.cells (c * i.size)) e)) := by
  have hb : (i.bytes : Int) * (c : Int) ≤ 281474976710656 := by
    have h : ((i.bytes * c : Nat) : Int) ≤ 281474976710656 := by omega
    rwa [Int.natCast_mul] at h
  have hr := run_make (P := P) w t e i z ht hi hz kl kc n c (by omega) (by omega) hb (by omega)
  simp only [Int.toNat_natCast] at hr
  exact hr
section
open Go.RowKit Go.WideShapes Go.ChangeShapes
section
variable {H : Type} {enc : TypeId × Value → H} {P : Program}
end
end
/-- Only draws lie between two worlds. -/
def Qt (w w' : World) : Prop := ∃ q, w' = w.drewN q
theorem Qt.refl (w : World) : Qt w w := ⟨0, rfl⟩
theorem Qt.drewN {w w' : World} (h : Qt w w') (n : Nat) : Qt w (w'.drewN n) := by
  obtain ⟨q, rfl⟩ := h
  exact ⟨q + n, World.drewN_drewN ..⟩
theorem Qt.drew {w w' : World} (h : Qt w w') : Qt w w'.drew := h.drewN 1
theorem Qt.trans {a b c : World} (h : Qt a b) (k : Qt b c) : Qt a c := by
  obtain ⟨q, rfl⟩ := k
  exact h.drewN q
theorem Qt.below {w w' : World} (h : Qt w w') (B : Nat) : Below B w w' := by
  obtain ⟨q, rfl⟩ := h
  exact below_drewN (Below.refl _ _) q
theorem ret_int {k : IntKind} {a b : Int} (h : a = b) : Ending.returned (.int k a) = Ending.returned (.int k b) := by rw [h]
/-- The cells of bytes; of ints. -/
def bv (l : List UInt8) : List Value := l.map fun b => Value.int .u8 (b.toNat : Int)
def iv (l : List Int) : List Value := l.map fun b => Value.int .i64 b
theorem bv_length (l : List UInt8) : (bv l).length = l.length := by simp [bv]
theorem bv_get {l : List UInt8} {k : Nat} (h : k < l.length) : (bv l)[k]? = some (.int .u8 ((l[k]).toNat : Int)) := by simp [bv, h]
theorem iv_get {l : List Int} {k : Nat} (h : k < l.length) : (iv l)[k]? = some (.int .i64 l[k]) := by simp [iv, h]
theorem bv_append (a b : List UInt8) : bv (a ++ b) = bv a ++ bv b := by simp [bv]
theorem bv_one (l : List UInt8) : ∀ u ∈ bv l, u.oneCell' = true := by
  intro u hu
  obtain ⟨_, _, rfl⟩ := List.mem_map.1 hu
  rfl
/-- A slice of bytes (of ints) reads as a list: its length, the cells; nil and empty let in. -/
def RB (w : World) (B : Nat) (A : Option Addr) (n : Nat) (l : List UInt8) : Prop := Reads w B 1 A n (bv l)
def RI (w : World) (B : Nat) (A : Option Addr) (n : Nat) (l : List Int) : Prop := Reads w B 1 A n (iv l)
section
variable {w w' : World} {B B' n : Nat} {A : Option Addr} {l : List UInt8} {z : List Int}
theorem RB.len (h : RB w B A n l) : l.length = n := by have := h.1; simpa [bv] using this
theorem RI.len (h : RI w B A n z) : z.length = n := by have := h.1; simpa [iv] using this
theorem RB.elem (h : RB w B A n l) {k : Nat} (hk : k < n) (hl : k < l.length) : ∃ ad, A = some ad ∧ ad.block < B ∧ w.cell? (ad.add k) = some (.int .u8 ((l[k]).toNat : Int)) := by
  obtain ⟨ad, u, e, hb, hx, hc⟩ := Reads.at_ h hk
  rw [bv_get hl] at hx
  injection hx with hx
  subst hx
  exact ⟨ad, e, hb, hc⟩
theorem RI.elem (h : RI w B A n z) {k : Nat} (hk : k < n) (hl : k < z.length) : ∃ ad, A = some ad ∧ ad.block < B ∧ w.cell? (ad.add k) = some (.int .i64 z[k]) := by
  obtain ⟨ad, u, e, hb, hx, hc⟩ := Reads.at_ h hk
  rw [iv_get hl] at hx
  injection hx with hx
  subst hx
  exact ⟨ad, e, hb, hc⟩
theorem RB.below (h : RB w B A n l) (hb : Below B w w') : RB w' B A n l := Reads.below h hb
theorem RB.more (h : RB w B A n l) (hB : B ≤ B') : RB w B' A n l := Reads.more h hB
theorem RB.drew (h : RB w B A n l) : RB w.drew B A n l := h
theorem RB.drewN (h : RB w B A n l) (k : Nat) : RB (w.drewN k) B A n l := h
theorem RB.alloc (h : RB w B A n l) (hB : B ≤ w.heap.size) (o : Obj) : RB (w.alloc o) B A n l := Reads.alloc h hB o
theorem RB.setCell (h : RB w B A n l) {p : Addr} (hB : B ≤ p.block) (u : Value) : RB (w.setCell p u) B A n l := Reads.setCell h hB u
theorem RB.nil (w : World) (B : Nat) : RB w B none 0 [] := ⟨by simp [bv], fun h => absurd h (by omega)⟩
theorem RI.below (h : RI w B A n z) (hb : Below B w w') : RI w' B A n z := Reads.below h hb
theorem RI.more (h : RI w B A n z) (hB : B ≤ B') : RI w B' A n z := Reads.more h hB
theorem RI.drew (h : RI w B A n z) : RI w.drew B A n z := h
theorem RI.drewN (h : RI w B A n z) (k : Nat) : RI (w.drewN k) B A n z := h
theorem RI.alloc (h : RI w B A n z) (hB : B ≤ w.heap.size) (o : Obj) : RI (w.alloc o) B A n z := Reads.alloc h hB o
theorem RI.setCell (h : RI w B A n z) {p : Addr} (hB : B ≤ p.block) (u : Value) : RI (w.setCell p u) B A n z := Reads.setCell h hB u
theorem RI.nil (w : World) (B : Nat) : RI w B none 0 [] := ⟨by simp [iv], fun h => absurd h (by omega)⟩
theorem RB.take (h : RB w B A n l) {k : Nat} (hk : k ≤ n) : RB w B A k (l.take k) := by
  have hl := h.len
  refine ⟨by simp [bv]; omega, fun h0 => ?_⟩
  obtain ⟨ad, e, hb, hc⟩ := h.2 (by omega)
  refine ⟨ad, e, hb, fun j u hu => hc j u ?_⟩
  have hj := (List.getElem?_eq_some_iff.1 hu).1
  rw [bv_length, List.length_take] at hj
  rw [← hu, bv, bv, List.map_take, List.getElem?_take, if_pos (by omega)]
end
end Go.Proofs.YthohbbaglceppaaGreatDoor
namespace Go.Proofs.YthohbbaglceppaaGreatDoor
open Go.ChangeShapes Go.WideShapes Go.ChangeAt Go.RowKit
set_option linter.unusedVariables false
theorem seat_own : ownKnob Tryz.prog.godebug = none := by kernel_rfl
theorem seat_laidOut : laidOutB Tryz.prog = true := by kernel_rfl
/-- What is told of a slice of integers that came in. -/
def IsRow (k : IntKind) (w : World) (a : Option Addr) (len cap : Nat) (zs : List Int) : Prop :=
  (a = none ∧ len = 0 ∧ cap = 0 ∧ zs = []) ∨
  ∃ x, a = some x ∧ len ≤ cap ∧ cap ≤ maxLen ∧ zs.length = cap ∧ (∀ i, i < zs.length → w.cell? (x.add i) = some (.int k (zs.getD i 0))) ∧ ∀ n ∈ zs, (Lit.int k n).wf = true
theorem cell_block_lt {w : World} {p : Addr} {v : Value} (h : w.cell? p = some v) : p.block < w.heap.size := by
  rcases Nat.lt_or_ge p.block w.heap.size with hlt | hge
  · exact hlt
  · simp [World.cell?, Array.getElem?_eq_none hge] at h
theorem IsRow.reads {k : IntKind} {w : World} {a : Option Addr} {len cap : Nat} {zs : List Int} (h : IsRow k w a len cap zs) : Reads w w.heap.size 1 a len ((zs.take len).map (Value.int k)) := by
  rcases h with ⟨rfl, rfl, rfl, rfl⟩ | ⟨x, rfl, hl, hm, hz, hc, _⟩
  · exact Reads.none_
  · refine ⟨by simp; omega, fun h0 => ⟨x, rfl, ?_, fun j u hu => ?_⟩⟩
    · have := cell_block_lt (hc 0 (by omega))
      rwa [block_of_add] at this
    · have hj : j < len ∧ j < zs.length := by
        have := (List.getElem?_eq_some_iff.1 hu).1
        simp at this; omega
      have e : zs.getD j 0 = zs[j]'hj.2 := by simp [List.getD, hj.2]
      rw [hc j hj.2, e, ← hu]
      simp [hj.1, hj.2]
/-- The bytes of numbers that fit a byte. -/
theorem bytes_of_ints {zs : List Int} (h : ∀ n ∈ zs, (Lit.int .u8 n).wf = true) : ∃ l : List UInt8, zs.map (Value.int .u8) = bv l := by
  refine ⟨zs.map fun z => UInt8.ofNat z.toNat, ?_⟩
  simp only [bv, List.map_map]
  apply List.map_congr_left
  intro z hz
  have hw := h z hz
  simp [Lit.wf, IntKind.min, IntKind.max, IntKind.signed, IntKind.bits] at hw
  simp only [Function.comp, UInt8.toNat_ofNat']
  congr 1
  omega
theorem IsRow.rb {w : World} {a : Option Addr} {len cap : Nat} {zs : List Int} (h : IsRow .u8 w a len cap zs) : ∃ l : List UInt8, RB w w.heap.size a len l := by
  obtain ⟨l, hl⟩ := bytes_of_ints (zs := zs.take len) (by
    rcases h with ⟨_, _, _, rfl⟩ | ⟨_, _, _, _, _, _, hw⟩
    · simp
    · exact fun n hn => hw n (List.mem_of_mem_take hn))
  exact ⟨l, by rw [RB, ← hl]; exact h.reads⟩
end Go.Proofs.YthohbbaglceppaaGreatDoor
namespace Go.Proofs.YthohbbaglceppaaGreatDoor
open Go.ChangeShapes Go.WideShapes Go.ChangeAt Go.RowKit
set_option linter.unusedVariables false
theorem handed_and_shaped {H : Type} {enc : TypeId × Value → H} {a : Assume} {C : Checked} {os : Os} {f : FuncId} {fn : Func} {s : ChangeSpec} {conds : List PathCond} {apart fresh handsOn again : Bool} {X : World → Array Value → Prop}
    (hX : ∀ (w w' : World) (args : Array Value), w.heap = w'.heap → X w args → X w' args)
    (own : ownKnob C.prog.godebug = none) (started : os.Started) (noInit : C.prog.inits.idxOf? f = none) (hfn : C.prog.funcs[f]? = some fn)
    (witness : ∃ (w : World) (tape : Tape) (i : Input), w.os = os ∧ (w.forCall tape i).Shaped C.prog ∧ i.vars = [] ∧ Input.okWide C.prog (w.forCall tape i) .any w.heap.size f i ∧
      ((s.pre enc C.prog fn conds apart (w.forCall tape i).memory i.args ∧ X (w.forCall tape i).memory i.args) ∧ sizedMet enc C.prog fn (OpenSpec.ofChange s) apart (w.forCall tape i).memory i.args) ∧ a.holds C.prog (lone (Frame.enter C.prog f i.args .normal) [] (w.forCall tape i)))
    (contract : ∀ (W : World) (base : Nat) (args : Array Value) (ds gs : List (DataW H)) (before : List MemPlace),
      (∀ (j : Nat) t v, fn.params[j]? = some t → args[j]? = some v → Value.okWide C.prog W .any base t v) →
      DataW.Whole enc C.prog fn.params.toList s.vars apart W args.toList ds gs before →
      conds.all (PathCond.test C.prog ⟨fn.params.toList, ds, s.plain.varTypes C.prog, gs⟩) = true →
      (DataW.weightsEach C.prog (fn.params.toList ++ s.plain.varTypes C.prog) (ds ++ gs)).all (· ≤ reachBytes) = true → X W args → W.ShapedOpen C.prog →
      a.holds C.prog (lone (Frame.enter C.prog f args .normal) [] W) →
      Calls C.prog f args W fun e W' => ∃ v, e = .returned v ∧ s.post enc C.prog fn apart fresh handsOn again W args v W') :
    ReturnsInHanded a C os f .any (fun w args => (s.pre enc C.prog fn conds apart w args ∧ X w args) ∧ sizedMet enc C.prog fn (OpenSpec.ofChange s) apart w args) (s.post enc C.prog fn apart fresh handsOn again) := by
  refine returnsInHanded_of_calls own started noInit witness ?_
  intro w tape i _ hsh _ hok hpre hholds
  obtain ⟨_, _, _, fn', hfn', _, _, _, _, hval⟩ := hok
  have e : fn' = fn := Option.some.inj (hfn'.symm.trans hfn)
  subst e
  obtain ⟨⟨⟨ds, gs, before, hw, hc⟩, hx⟩, hz⟩ := hpre
  have hw' := DataW.Whole.of_heap (w' := w.forCall tape i) (by rfl) hw
  refine (contract (w.forCall tape i) w.heap.size i.args ds gs before hval hw' hc (hz.weights hw) (hX _ _ _ (by rfl) hx) hsh hholds).mono fun e W' ⟨v, he, hp⟩ => ?_
  subst he
  exact ChangeSpec.post_blind hp
end Go.Proofs.YthohbbaglceppaaGreatDoor
namespace Go.Proofs.YthohbbaglceppaaGreatDoor
open Go.RowKit
set_option linter.unusedVariables false
/-- All blocks of a type stay. -/
def KeepT (t : TypeId) (w w' : World) : Prop := ∀ g cs, Blk w g t cs → Blk w' g t cs
section
variable {t : TypeId} {w w' w'' : World}
theorem KeepT.refl (t : TypeId) (w : World) : KeepT t w w := fun _ _ h => h
theorem KeepT.trans (h : KeepT t w w') (h' : KeepT t w' w'') : KeepT t w w'' := fun g cs hb => h' g cs (h g cs hb)
theorem KeepT.alloc (h : KeepT t w w') (o : Obj) : KeepT t w (w'.alloc o) := fun g cs hb => (h g cs hb).alloc o
theorem KeepT.drew (h : KeepT t w w') : KeepT t w w'.drew := h
theorem KeepT.drewN (h : KeepT t w w') (n : Nat) : KeepT t w (w'.drewN n) := h
theorem KeepT.set_ {t' : TypeId} {p : Addr} {cs' : Array Value} (h : KeepT t w w') (hp : Blk w' p.block t' cs') (ht : t ≠ t') (u : Value) : KeepT t w (w'.setCell p u) :=
  fun g cs hb => (h g cs hb).far (Blk.ne_ (h g cs hb) hp ht) u
theorem KeepT.grown {row : Option Nat} (h : KeepT t w w') (hg : w'.grownBy w'' row) (hr : ∀ k cs, row = some k → ¬ Blk w' k t cs) : KeepT t w w'' :=
  fun g cs hb => (h g cs hb).grown hg fun e => hr g cs e.symm (h g cs hb)
end
end Go.Proofs.YthohbbaglceppaaGreatDoor
namespace Go.Proofs.YthohbbaglceppaaGreatDoor
open Go.RowKit
set_option linter.unusedVariables false
structure Only (S : Nat → Prop) (w w' : World) : Prop where
  os : w'.os = w.os
  tape : w'.tape = w.tape
  output : w'.output = w.output
  size : w.heap.size ≤ w'.heap.size
  block : ∀ k, k < w.heap.size → ¬ S k → w'.heap[k]? = w.heap[k]?
section
variable {S T : Nat → Prop} {a w w' w'' : World}
theorem Only.refl (S : Nat → Prop) (w : World) : Only S w w := ⟨rfl, rfl, rfl, Nat.le_refl _, fun _ _ _ => rfl⟩
theorem Only.trans (h : Only S a w) (k : Only T w w') (hT : ∀ i, i < a.heap.size → T i → S i) : Only S a w' :=
  ⟨k.os.trans h.os, k.tape.trans h.tape, k.output.trans h.output, Nat.le_trans h.size k.size, fun i hi hs => (k.block i (Nat.lt_of_lt_of_le hi h.size) fun ht => hs (hT i hi ht)).trans (h.block i hi hs)⟩
theorem Only.mono (h : Only T a w) (hT : ∀ i, i < a.heap.size → T i → S i) : Only S a w := (Only.refl S a).trans h hT
theorem Only.drewN (h : Only S a w) (n : Nat) : Only S a (w.drewN n) := ⟨h.os, h.tape, h.output, h.size, h.block⟩
theorem Only.drew (h : Only S a w) : Only S a w.drew := ⟨h.os, h.tape, h.output, h.size, h.block⟩
theorem Only.alloc (h : Only S a w) (o : Obj) : Only S a (w.alloc o) :=
  h.trans (T := fun _ => False) ⟨rfl, rfl, rfl, by simp, fun k hk _ => Below.heap_alloc _ _ _ hk⟩ fun _ _ h => h.elim
theorem Only.setCell (h : Only S a w) {p : Addr} (hp : p.block < a.heap.size → S p.block) (u : Value) : Only S a (w.setCell p u) :=
  h.trans (T := fun k => k = p.block) ⟨rfl, rfl, rfl, by simp [World.setCell], fun k hk hn => Below.heap_setCell _ _ _ _ hn⟩ fun i hi e => by subst e; exact hp hi
theorem Only.grown {row : Option Nat} (h : Only S a w) (hg : w.grownBy w' row) (hr : ∀ k, row = some k → k < a.heap.size → S k) : Only S a w' :=
  h.trans (T := fun k => row = some k) ⟨hg.os, hg.tape, hg.output, hg.size, fun k hk hn => hg.block k hk fun e => hn e.symm⟩ fun i hi e => hr i e hi
theorem Only.of_below (h : Below w.heap.size w w') : Only S w w' := ⟨h.os, h.tape, h.output, h.size, fun k hk _ => h.block k hk⟩
theorem Only.below {B : Nat} (h : Only S w w') (hS : ∀ k, S k → B ≤ k) (hB : B ≤ w.heap.size) : Below B w w' :=
  ⟨h.os, h.tape, h.output, h.size, fun k hk => h.block k (by omega) fun hs => by have := hS k hs; omega⟩
theorem Only.blk {g : Nat} {t : TypeId} {cs : Array Value} (h : Only S w w') (hb : Blk w g t cs) (hg : ¬ S g) : Blk w' g t cs := (h.block g hb.lt hg).trans hb
theorem Only.row {base : Nat} {e : TypeId} {size n : Nat} {v : Value} {xs : List Value} (h : Only S w w') (ho : w.ownsRow base e size v n xs) (hv : ∀ k, v.ownBlock = some k → ¬ S k) : w'.ownsRow base e size v n xs := by
  obtain ⟨h1, h2⟩ := ho
  refine ⟨h1, ?_⟩
  rcases h2 with h2 | ⟨g, cap, cur, rfl, hg, hh, r⟩
  · exact Or.inl h2
  · exact Or.inr ⟨g, cap, cur, rfl, hg, h.blk hh (hv g rfl), r⟩
theorem Only.keepT {t : TypeId} (h : Only S w w') (ht : ∀ k cs, S k → ¬ Blk w k t cs) : KeepT t w w' := fun g cs hb => h.blk hb fun hs => ht g cs hs hb
end
end Go.Proofs.YthohbbaglceppaaGreatDoor
namespace Go.Proofs.YthohbbaglceppaaGreatDoor
open Go.RowKit
set_option linter.unusedVariables false
theorem byte_info : (Tryz.prog.info? 5).map (fun i => (i.zero, i.size, i.bytes)) = some (some (.int .u8 0), 1, 1) := by kernel_rfl
/-- The call owns the row of bytes: nil, or at the head of a block from 'base' on. -/
def OB (w : World) (base : Nat) (v : Value) (n : Nat) (l : List UInt8) : Prop := w.ownsRow base 5 1 v n (bv l)
section
variable {w w' : World} {base n : Nat} {v : Value} {l : List UInt8}
theorem OB.nil (w : World) (base : Nat) : OB w base (.slice none 0 0) 0 [] := ⟨by simp [bv], .inl ⟨rfl, rfl⟩⟩
theorem OB.empty (w : World) {base : Nat} (h : base ≤ w.heap.size) : OB (w.alloc (.cells #[] 5)) base (.slice (some ⟨w.heap.size, 0, none⟩) 0 0) 0 [] :=
  ⟨by simp [bv], .inr ⟨w.heap.size, 0, #[], rfl, h, heap_alloc_new w _, Nat.le_refl _, Nat.zero_le _, rfl, rfl⟩⟩
theorem OB.len (h : OB w base v n l) : l.length = n := by have := h.1; simpa [bv] using this
theorem OB.form (h : OB w base v n l) : ∃ A c, v = .slice A n c ∧ RB w w.heap.size A n l ∧ (A = none → n = 0) ∧ n ≤ c ∧ c ≤ maxLen := by
  have h2 := h.2
  rcases h2 with ⟨rfl, rfl⟩ | ⟨g, cap, cur, rfl, _, _, h3, h4, _⟩
  · exact ⟨none, 0, rfl, Reads.of_own h, fun _ => rfl, Nat.le_refl _, Nat.zero_le _⟩
  · exact ⟨_, _, rfl, Reads.of_own h, (fun e => by cases e), h3, h4⟩
theorem OB.below {B : Nat} (h : OB w base v n l) (hb : Below B w w') (hs : w.heap.size ≤ B) : OB w' base v n l := by
  obtain ⟨h1, h2⟩ := h
  refine ⟨h1, ?_⟩
  rcases h2 with h2 | ⟨g, cap, cur, hv, hg, hh, r⟩
  · exact Or.inl h2
  · have hlt : g < w.heap.size := by
      rcases Nat.lt_or_ge g w.heap.size with hlt | hge
      · exact hlt
      · rw [Array.getElem?_eq_none hge] at hh; cases hh
    exact Or.inr ⟨g, cap, cur, hv, hg, by rw [hb.block g (by omega)]; exact hh, r⟩
theorem OB.more {b' : Nat} (h : OB w base v n l) (hb : b' ≤ base) : OB w b' v n l := by
  obtain ⟨h1, h2⟩ := h
  refine ⟨h1, ?_⟩
  rcases h2 with h2 | ⟨g, cap, cur, hv, hg, hh, r⟩
  · exact Or.inl h2
  · exact Or.inr ⟨g, cap, cur, hv, by omega, hh, r⟩
theorem OB.alloc (h : OB w base v n l) (o : Obj) : OB (w.alloc o) base v n l := World.ownsRow.alloc h o
theorem OB.drew (h : OB w base v n l) : OB w.drew base v n l := h
theorem OB.drewN (h : OB w base v n l) (k : Nat) : OB (w.drewN k) base v n l := h
theorem OB.block_lt (h : OB w base v n l) (k : Nat) (hk : v.ownBlock = some k) : base ≤ k := by
  rcases h.2 with ⟨rfl, rfl⟩ | ⟨g, cap, cur, rfl, hg, _⟩
  · simp [Value.ownBlock] at hk
  · simp [Value.ownBlock] at hk; omega
theorem OB.cut {g cap k : Nat} (h : OB w base (.slice (some ⟨g, 0, none⟩) n cap) n l) (hk : k ≤ n) : OB w base (.slice (some ⟨g, 0, none⟩) k cap) k (l.take k) := by
  obtain ⟨h1, h2⟩ := h
  rcases h2 with ⟨h0, _⟩ | ⟨g', cap', cur, hv, hg, hh, hn, hcap, hsz, htake⟩
  · cases h0
  · cases hv
    refine ⟨?_, .inr ⟨g, cap, cur, rfl, hg, hh, by omega, hcap, hsz, ?_⟩⟩
    · rw [bv_length] at h1 ⊢
      rw [List.length_take]; omega
    · have h3 : (cur.toList.take (n * 1)).take (k * 1) = (bv l).take (k * 1) := by rw [htake]
      rw [List.take_take, Nat.min_eq_left (by omega)] at h3
      rw [h3, bv, bv, List.map_take, Nat.mul_one]
theorem OB.cell {g cap k : Nat} (h : OB w base (.slice (some ⟨g, 0, none⟩) n cap) n l) (hk : k < n) (hl : k < l.length) : w.cell? ⟨g, k, none⟩ = some (.int .u8 ((l[k]).toNat : Int)) := by
  rw [World.ownsRow.cellAt h k (by omega), bv_get hl]
theorem OB.base_le {g cap : Nat} (h : OB w base (.slice (some ⟨g, 0, none⟩) n cap) n l) : base ≤ g := h.block_lt g rfl
/-- nil, or the head of a block. -/
theorem OB.parts (h : OB w base v n l) : (v = .slice none 0 0 ∧ n = 0 ∧ l = []) ∨ ∃ g cap, v = .slice (some ⟨g, 0, none⟩) n cap ∧ n ≤ cap ∧ cap ≤ maxLen := by
  rcases h.2 with ⟨rfl, rfl⟩ | ⟨g, cap, cur, rfl, _, _, h3, h4, _⟩
  · exact .inl ⟨rfl, rfl, List.eq_nil_of_length_eq_zero h.len⟩
  · exact .inr ⟨g, cap, rfl, h3, h4⟩
end
theorem RB.one_new (w : World) (b : UInt8) (t : TypeId) : RB (w.alloc (.cells #[.int .u8 (b.toNat : Int)] t)) (w.heap.size + 1) (some ⟨w.heap.size, 0, none⟩) 1 [b] := by
  refine ⟨by simp [bv], fun _ => ⟨_, rfl, by simp, fun j u hj => ?_⟩⟩
  match j, hj with
  | 0, hj => simp [bv] at hj; subst hj; simp [Addr.add]
/-- The call returns a row of bytes of its own; what was there is as it was. -/
def RetB (W : World) (l : List UInt8) (e : Ending) (w' : World) : Prop := ∃ v, e = .returned v ∧ OB w' W.heap.size v l.length l ∧ Below W.heap.size W w'
theorem RetB.mk {W w' : World} {l : List UInt8} {v : Value} {n : Nat} (h : OB w' W.heap.size v n l) (hb : Below W.heap.size W w') : RetB W l (.returned v) w' :=
  ⟨v, rfl, by rw [h.len]; exact h, hb⟩
section
variable {ops : Array Oper} {rest : List Oper} {o : Oper} {a : Act} {Q : Exit → Act → World → Prop}
/-- append(v, x...) -/
theorem wpList_app_b {w : World} (hgd : o.guard = none) (s x : Operand) (ho : o.op = .call { callee := .builtin .append, args := #[s, x], argTypes := #[37, 37] })
    (base : Nat) (v : Value) (n : Nat) (l : List UInt8) (hown : OB w base v n l) (hs : a.eval s = v)
    (B : Nat) (A : Option Addr) (m c : Nat) (news : List UInt8) (hx : a.eval x = .slice A m c) (hr : RB w B A m news)
    (hlen : n + m ≤ 140737488351232) (hbase : base ≤ w.heap.size)
    (h : ∀ v' w', OB w' base v' (n + m) (l ++ news) → Below base w w' → w.grownBy w' v.ownBlock → (v'.ownBlock = v.ownBlock ∨ v'.ownBlock = some w.heap.size) → wpList Tryz.prog ops Q rest (a.put o.dst v') w') :
    wpList Tryz.prog ops Q (o :: rest) a w := by
  obtain ⟨i0, hi0, hz0, hz1, hz2⟩ := info_parts byte_info
  refine wpList_append_any w hgd s x _ ho base 5 i0 _ 1 1 Tryz.underlying37 hi0 hz0 hz1 hz2 rfl (by omega) v n (bv l) hs hown B A m c (bv news) hx hr (bv_one _)
    (by simp only [maxLen]; omega) (by omega) hbase fun v' w' h1 h2 h3 => ?_
  rw [← bv_append] at h1
  exact h v' w' h1 ((Below.refl _ _).grown h2 hbase fun k hk => hown.block_lt k hk) h2 h3
/-- append(v, x), one byte. -/
theorem wpList_app_1 {w : World} {x' : Int} {t : TypeId} (b : UInt8) (hbx : x' = (b.toNat : Int)) (hgd : o.guard = none) (s x : Operand) (ho : o.op = .call { callee := .builtin .append, args := #[s, x], argTypes := #[37, 37] })
    (base : Nat) (v : Value) (n : Nat) (l : List UInt8) (hown : OB w base v n l) (hs : a.eval s = v) (c : Nat)
    (hx : a.eval x = .slice (some ⟨w.heap.size, 0, none⟩) 1 c)
    (hlen : n + 1 ≤ 140737488351232) (hbase : base ≤ w.heap.size)
    (h : ∀ v' w', OB w' base v' (n + 1) (l ++ [b]) → Below base w w' → w.grownBy w' v.ownBlock → wpList Tryz.prog ops Q rest (a.put o.dst v') w') :
    wpList Tryz.prog ops Q (o :: rest) a (w.alloc (.cells #[.int .u8 x'] t)) := by
  subst hbx
  refine wpList_app_b hgd s x ho base v n l (hown.alloc _) hs _ _ 1 c [b] hx (RB.one_new w b t) hlen (by simp; omega) fun v' w' h1 h2 h3 h4 => ?_
  refine h v' w' h1 ?_ ⟨h3.os, h3.tape, h3.output, ?_, fun k hk hne => ?_⟩
  · exact ((Below.refl _ _).alloc hbase _).trans h2
  · have := h3.size; simp at this; omega
  · rw [h3.block k (by simp; omega) hne]
    exact Below.heap_alloc _ _ _ hk
end
end Go.Proofs.YthohbbaglceppaaGreatDoor
namespace Go.Proofs.YthohbbaglceppaaGreatDoor
open Go.RowKit
set_option linter.unusedVariables false
def encI (n : Nat) : Value := .int .i64 (n : Int)
/-- A slice of ints reads as a list of natural numbers. -/
def RN (w : World) (B : Nat) (A : Option Addr) (n : Nat) (l : List Nat) : Prop := Reads w B 1 A n (l.map encI)
/-- The call owns the row of elements of one cell. -/
def OE {α : Type} (enc : α → Value) (e : TypeId) (w : World) (base : Nat) (v : Value) (n : Nat) (l : List α) : Prop := w.ownsRow base e 1 v n (l.map enc)
def ON (w : World) (base : Nat) (v : Value) (n : Nat) (l : List Nat) : Prop := OE encI 3 w base v n l
section
variable {w w' : World} {B B' base n : Nat} {A : Option Addr} {v : Value} {l : List Nat}
theorem RN.len (h : RN w B A n l) : l.length = n := by have := h.1; simpa using this
theorem RN.elem (h : RN w B A n l) {k : Nat} (hk : k < n) : ∃ ad, A = some ad ∧ ad.block < B ∧ w.cell? (ad.add k) = some (.int .i64 ((l.getD k 0 : Nat) : Int)) := by
  obtain ⟨ad, u, e, hb, hx, hc⟩ := Reads.at_ h hk
  have hl : k < l.length := by have := h.len; omega
  rw [List.getElem?_map, List.getElem?_eq_getElem hl] at hx
  injection hx with hx
  refine ⟨ad, e, hb, ?_⟩
  rw [hc, ← hx, List.getD_eq_getElem?_getD, List.getElem?_eq_getElem hl]
  rfl
theorem RN.below (h : RN w B A n l) (hb : Below B w w') : RN w' B A n l := Reads.below h hb
theorem RN.more (h : RN w B A n l) (hB : B ≤ B') : RN w B' A n l := Reads.more h hB
theorem RN.drewN (h : RN w B A n l) (k : Nat) : RN (w.drewN k) B A n l := h
theorem RN.alloc (h : RN w B A n l) (hB : B ≤ w.heap.size) (o : Obj) : RN (w.alloc o) B A n l := Reads.alloc h hB o
theorem RN.nil (w : World) (B : Nat) : RN w B none 0 [] := ⟨by simp, fun h => absurd h (by omega)⟩
end
section
variable {α : Type} {enc : α → Value} {e : TypeId} {w w' : World} {B base n : Nat} {v : Value} {l : List α}
theorem OE.nil (w : World) (base : Nat) : OE enc e w base (.slice none 0 0) 0 ([] : List α) := ⟨by simp, .inl ⟨rfl, rfl⟩⟩
theorem OE.len (h : OE enc e w base v n l) : l.length = n := by have := h.1; simpa using this
theorem OE.reads (h : OE enc e w base v n l) : ∃ A c, v = .slice A n c ∧ Reads w w.heap.size 1 A n (l.map enc) ∧ (A = none → n = 0) ∧ n ≤ c ∧ c ≤ maxLen := by
  have h2 := h.2
  rcases h2 with ⟨rfl, h3⟩ | ⟨g, cap, cur, rfl, _, _, h3, h4, _⟩
  · have h4 : (0 : Nat) = n ∨ n = 0 := by
      first | exact .inr (by simpa using h3) | exact .inr h3
    have hn : n = 0 := by omega
    subst hn
    exact ⟨none, 0, rfl, Reads.of_own h, fun _ => rfl, Nat.le_refl _, Nat.zero_le _⟩
  · exact ⟨_, _, rfl, Reads.of_own h, (fun e => by cases e), h3, h4⟩
theorem OE.below (h : OE enc e w base v n l) (hb : Below B w w') (hs : w.heap.size ≤ B) : OE enc e w' base v n l := by
  obtain ⟨h1, h2⟩ := h
  refine ⟨h1, ?_⟩
  rcases h2 with h2 | ⟨g, cap, cur, hv, hg, hh, r⟩
  · exact Or.inl h2
  · have hlt : g < w.heap.size := by
      rcases Nat.lt_or_ge g w.heap.size with hlt | hge
      · exact hlt
      · rw [Array.getElem?_eq_none hge] at hh; cases hh
    exact Or.inr ⟨g, cap, cur, hv, hg, by rw [hb.block g (by omega)]; exact hh, r⟩
theorem OE.more {b' : Nat} (h : OE enc e w base v n l) (hb : b' ≤ base) : OE enc e w b' v n l := by
  obtain ⟨h1, h2⟩ := h
  refine ⟨h1, ?_⟩
  rcases h2 with h2 | ⟨g, cap, cur, hv, hg, hh, r⟩
  · exact Or.inl h2
  · exact Or.inr ⟨g, cap, cur, hv, by omega, hh, r⟩
theorem OE.alloc (h : OE enc e w base v n l) (o : Obj) : OE enc e (w.alloc o) base v n l := World.ownsRow.alloc h o
theorem OE.drewN (h : OE enc e w base v n l) (k : Nat) : OE enc e (w.drewN k) base v n l := h
theorem OE.lt (h : OE enc e w base v n l) (k : Nat) (hk : v.ownBlock = some k) : base ≤ k ∧ k < w.heap.size := World.ownsRow.lt h k hk
/-- nil, or the head of a block. -/
theorem OE.parts (h : OE enc e w base v n l) : (v = .slice none 0 0 ∧ n = 0 ∧ l = []) ∨ ∃ g cap, v = .slice (some ⟨g, 0, none⟩) n cap ∧ base ≤ g ∧ n ≤ cap ∧ cap ≤ maxLen := by
  have hl := h.len
  rcases h.2 with ⟨rfl, h2⟩ | ⟨g, cap, cur, rfl, hg, _, h3, h4, _⟩
  · have hn : n = 0 := by first | exact (by simpa using h2) | exact h2
    exact .inl ⟨rfl, hn, List.eq_nil_of_length_eq_zero (by omega)⟩
  · exact .inr ⟨g, cap, rfl, hg, h3, h4⟩
theorem OE.cell {g cap k : Nat} (h : OE enc e w base (.slice (some ⟨g, 0, none⟩) n cap) n l) (hk : k < l.length) : w.cell? ⟨g, k, none⟩ = some (enc l[k]) := by
  have hl := h.len
  rw [World.ownsRow.cellAt h k (by omega), List.getElem?_map, List.getElem?_eq_getElem hk]; rfl
end
section
variable {w w' : World} {B base n : Nat} {v : Value} {l : List Nat}
theorem ON.rn (h : ON w base v n l) : ∃ A c, v = .slice A n c ∧ RN w w.heap.size A n l ∧ (A = none → n = 0) ∧ n ≤ c ∧ c ≤ maxLen := OE.reads h
end
section
variable {ops : Array Oper} {rest : List Oper} {o : Oper} {a : Act} {Q : Exit → Act → World → Prop}
end
end Go.Proofs.YthohbbaglceppaaGreatDoor
namespace Go.Proofs.YthohbbaglceppaaGreatDoor
set_option linter.unusedVariables false
/-- So many bytes of a number, the lowest first. -/
def leB : Nat → Nat → List UInt8
  | 0, _ => []
  | k + 1, n => UInt8.ofNat (n % 256) :: leB k (n / 256)
/-- The number of bytes. -/
def numL : List UInt8 → Nat
  | [] => 0
  | b :: r => b.toNat + 256 * numL r
theorem leB_len : ∀ k n, (leB k n).length = k
  | 0, _ => rfl
  | k + 1, n => by rw [leB, List.length_cons, leB_len]
theorem byte_of (n : Nat) : (UInt8.ofNat (n % 256)).toNat = n % 256 := by rw [UInt8.toNat_ofNat']; omega
theorem numL_leB : ∀ k n, numL (leB k n) = n % 256 ^ k
  | 0, n => by rw [leB, numL, Nat.pow_zero, Nat.mod_one]
  | k + 1, n => by
    rw [leB, numL, numL_leB k, byte_of, Nat.pow_succ, Nat.mul_comm (256 ^ k) 256, Nat.mod_mul]
theorem leB_snoc : ∀ k n, leB (k + 1) n = leB k n ++ [UInt8.ofNat (n / 256 ^ k % 256)]
  | 0, n => by rw [leB, leB, leB, Nat.pow_zero, Nat.div_one]; rfl
  | k + 1, n => by
    rw [leB, leB_snoc k (n / 256), leB, List.cons_append, Nat.div_div_eq_div_mul, Nat.pow_succ, Nat.mul_comm (256 ^ k) 256]
theorem numL_lt : ∀ l, numL l < 256 ^ l.length
  | [] => by simp [numL]
  | b :: r => by
    have h := numL_lt r
    have hb := b.toNat_lt
    rw [numL, List.length_cons, Nat.pow_succ]
    omega
theorem numL_drop (l : List UInt8) (k : Nat) (hk : k < l.length) : numL (l.drop k) = l[k].toNat + 256 * numL (l.drop (k + 1)) := by
  rw [List.drop_eq_getElem_cons hk, numL]
/-- Bytes of numbers. -/
def leBs (k : Nat) (ns : List Nat) : List UInt8 := ns.flatMap (leB k)
theorem leBs_snoc (k : Nat) (ns : List Nat) (i : Nat) (hi : i < ns.length) : leBs k (ns.take (i + 1)) = leBs k (ns.take i) ++ leB k (ns.getD i 0) := by
  rw [List.take_succ_eq_append_getElem hi, leBs, leBs, List.flatMap_append, List.getD_eq_getElem?_getD, List.getElem?_eq_getElem hi]
  simp
theorem leBs_len (k : Nat) : ∀ ns, (leBs k ns).length = k * ns.length
  | [] => by simp [leBs]
  | n :: r => by
    have := leBs_len k r
    unfold leBs at *
    rw [List.flatMap_cons, List.length_append, leB_len, this, List.length_cons, Nat.mul_succ]; omega
end Go.Proofs.YthohbbaglceppaaGreatDoor
namespace Go.Proofs.YthohbbaglceppaaGreatDoor
open Go.RowKit
set_option linter.unusedVariables false
set_option maxRecDepth 100000 in
theorem wide_any (w : World) (k : Nat) (hk1 : 1 ≤ k) (hk : k ≤ 7) : Calls Tryz.prog 123 #[.int .i64 (k : Int)] w fun e w' => e = .returned (.int .i64 (k : Int)) ∧ w = w' := by
  have h1 : (1 : Int) ≤ (k : Int) := by omega
  have h7 : (k : Int) ≤ 7 := by omega
  go_enter Tryz.func123, Tryz.ntmps123
  go_wp2_with fail
  all_goals
    go_ret
    exact ⟨ret_int (by simp; try omega), rfl⟩
theorem RB.cutAt {w : World} {B n c k : Nat} {A : Option Addr} {l : List UInt8} (h : RB w B A n l) (hk : k ≤ n) (hc : n ≤ c) (hne : ¬ c = k) : RB w B (A.map (fun x => x.add k)) (n - k) (l.drop k) := by
  have := Reads.cut (cap := c) h hk hc
  rw [if_neg hne, Nat.mul_one] at this
  unfold RB bv at *
  rw [List.map_drop]
  exact this
theorem RB.zero (w : World) (B : Nat) (A : Option Addr) : RB w B A 0 [] := ⟨by simp [bv], fun h => absurd h (by omega)⟩
/-- What a call returns that makes bytes. -/
def BytesRet (w : World) (l : List UInt8) (e : Ending) (w' : World) : Prop := ∃ v, e = .returned v ∧ OB w' w.heap.size v l.length l ∧ Below w.heap.size w w'
theorem byte_at_k (n k : Nat) : (n : Int) / 2 ^ (8 * k) % 256 = ((UInt8.ofNat (n / 256 ^ k % 256)).toNat : Int) := by
  rw [byte_of, show (256 : Nat) = 2 ^ 8 from rfl, ← Nat.pow_mul, Int.natCast_emod, Int.natCast_ediv, Int.natCast_pow]
  rfl
set_option maxRecDepth 100000 in
set_option maxHeartbeats 1000000 in
theorem wput_any (w : World) (A B : Option Addr) (n c m d k : Nat) (b : List UInt8) (ns : List Nat) (hb : RB w w.heap.size A n b) (hns : RN w w.heap.size B m ns) (hn : n ≤ 10000000) (hm : m ≤ 1000) (hk1 : 1 ≤ k) (hk7 : k ≤ 7) (hx : ∀ x ∈ ns, x < 9223372036854775808) :
    Calls Tryz.prog 87 #[.slice A n c, .int .i64 (k : Int), .slice B m d] w (BytesRet w (b ++ leBs k ns)) := by
  have hnl := hide hb.len
  have hml := hide hns.len
  have hx' : ∀ i, i < m → ns.getD i 0 < 9223372036854775808 := fun i hi => by
    have hl : i < ns.length := by have := hml.out; omega
    rw [List.getD_eq_getElem?_getD, List.getElem?_eq_getElem hl]; exact hx _ (List.getElem_mem hl)
  have hwd := hide (fun wz => wide_any wz k hk1 hk7)
  replace hx' := hide hx'
  clear hx
  replace hb := hide hb
  replace hns := hide hns
  go_enter Tryz.func87, Tryz.ntmps87
  go_wp2_with (at_builtin; refine wpList_app_b rfl (.const (.slice none 0 0)) (.tmp 11) rfl w.heap.size _ 0 [] (OB.nil _ _) rfl w.heap.size A n c b rfl hb.out (by omega) (Nat.le_refl _) ?_; intro v2 w2 ho2 hb2 _ _; have hO2 : Hid (OB w2 w.heap.size v2 n b) := (by rw [List.nil_append, Nat.zero_add] at ho2; exact ho2); have hB2 := hide hb2; clear ho2 hb2)
  go_loopw [7, 15] (fun v7 v15 wx => ∃ i : Nat, v15 = .int .i64 (i : Int) ∧ i ≤ m ∧ Hid (OB wx w.heap.size v7 (n + k * i) (b ++ leBs k (ns.take i))) ∧ Hid (Below w.heap.size w wx)) (fun _ v15 _ => m - (intOf v15).toNat)
  case atStart => exact ⟨0, rfl, Nat.zero_le _, by rw [List.take_zero]; simpa [leBs] using hO2, hB2⟩
  case round =>
    clear hO2 hB2
    obtain ⟨i, rfl, hi, hO, hB⟩ := hrel
    by_cases hlt : i < m
    · obtain ⟨ad, rfl, hab, cE⟩ := (hns.out.below hB.out).elem hlt
      have hxi := hx'.out i hlt
      have hsn : Hid (leBs k (ns.take (i + 1)) = leBs k (ns.take i) ++ leB k (ns.getD i 0)) := leBs_snoc k ns i (by have := hml.out; omega)
      obtain ⟨X, hX⟩ : ∃ X, X = ns.getD i 0 := ⟨_, rfl⟩
      rw [← hX] at cE hxi hsn
      replace hX := hide hX
      have hik : k * i ≤ 7 * 1000 := Nat.mul_le_mul hk7 (by omega)
      have hXI : (X : Int) ≤ 9223372036854775807 := by omega
      replace hxi := hide hxi
      go_wp2_with fail
      refine (hwd.out _).mono ?_
      rintro e w1 ⟨rfl, rfl⟩
      obtain ⟨P, hP⟩ : ∃ P, P = b ++ leBs k (ns.take i) := ⟨_, rfl⟩
      rw [← hP] at hO
      obtain ⟨NN, hNN⟩ : ∃ NN, NN = n + k * i := ⟨_, rfl⟩
      rw [← hNN] at hO
      have hNb : NN ≤ 10007000 := by omega
      replace hP := hide hP
      replace hNN := hide hNN
      go_wp2_with fail
      go_loopw [7, 21] (fun v7 v21 wx => ∃ j : Nat, v21 = .int .i64 (j : Int) ∧ j ≤ k ∧ Hid (OB wx w.heap.size v7 (NN + j) (P ++ leB j X)) ∧ Hid (Below w.heap.size w wx)) (fun _ v21 _ => k - (intOf v21).toNat)
      case atStart => exact ⟨0, rfl, Nat.zero_le _, by rw [leB, List.append_nil]; exact hO, hB⟩
      case round =>
        clear hO hB
        obtain ⟨j, rfl, hj, hO, hB⟩ := hrel
        have hsz := hB.out.size
        by_cases hlt2 : j < k
        · have hby := hide (byte_at_k X j)
          have hsj : Hid (P ++ leB (j + 1) X = (P ++ leB j X) ++ [UInt8.ofNat (X / 256 ^ j % 256)]) := by rw [Hid, leB_snoc, List.append_assoc]
          go_wp2_with (at_builtin; refine wpList_app_1 (UInt8.ofNat (X / 256 ^ j % 256)) hby.out rfl (.tmp 24) (.tmp 30) rfl w.heap.size _ _ _ hO.out rfl _ rfl (by omega) hsz ?_; intro v2 w2 ho2 hb2 hg2; have hO2 := hide ho2; have hB2 := hide (hB.out.trans hb2); clear ho2 hb2 hg2)
          go_roundw
          case rel => exact ⟨j + 1, by go_num, hlt2, by rw [hsj.out]; exact hO2, hB2⟩
          case measure => simp [intOf]; omega
        · obtain rfl : j = k := by omega
          have hO2 : Hid (OB wr w.heap.size u7 (n + j * (i + 1)) (b ++ leBs j (ns.take (i + 1)))) := by
            rw [Hid, hsn.out, ← List.append_assoc, ← hP.out, Nat.mul_succ, ← Nat.add_assoc, ← hNN.out]; exact hO.out
          clear hO
          go_wp2_with fail
          go_roundw
          case rel => exact ⟨i + 1, by go_num, hlt, hO2, hB⟩
          case measure => simp [intOf]; omega
    · obtain rfl : i = m := by omega
      have hO2 : Hid (OB wr w.heap.size u7 (b ++ leBs k ns).length (b ++ leBs k ns)) := by
        have := hO.out
        rw [List.take_of_length_le (by have := hml.out; omega)] at this
        rw [List.length_append, leBs_len, hnl.out, hml.out]; exact this
      clear hO
      go_wp2_with fail
      go_ret
      exact ⟨_, rfl, hO2.out, hB.out⟩
def CutRet (w : World) (k : Nat) (l : List UInt8) (e : Ending) (w' : World) : Prop := ∃ v, e = .returned (.tuple #[v, .int .i64 0]) ∧ OB w' w.heap.size v k l ∧ Below w.heap.size w w'
set_option maxRecDepth 100000 in
set_option maxHeartbeats 1000000 in
theorem wcut_any (w : World) (A : Option Addr) (n c at_ k : Nat) (b : List UInt8) (hb : RB w w.heap.size A n b) (hnc : n ≤ c) (hn : n ≤ 10000000) (hak : at_ + k ≤ n) :
    Calls Tryz.prog 122 #[.slice A n c, .int .i64 (at_ : Int), .int .i64 (k : Int)] w (CutRet w k ((b.drop at_).take k)) := by
  have hnl := hide hb.len
  have h1 : ¬ (n : Int) < (at_ : Int) := by omega
  have h1D : decide (n < at_) = false := by rw [decide_eq_false_iff_not]; omega
  obtain ⟨D, hD⟩ : ∃ D, D = n - at_ := ⟨_, rfl⟩
  have hDI : (n : Int) - (at_ : Int) = (D : Int) := by omega
  have h2 : ¬ (D : Int) < (k : Int) := by omega
  have h2D : decide (D < k) = false := by rw [decide_eq_false_iff_not]; omega
  obtain ⟨T, hT⟩ : ∃ T, T = at_ + k := ⟨_, rfl⟩
  have hTI : (at_ : Int) + (k : Int) = (T : Int) := by omega
  have hTc : (T : Int) ≤ (c : Int) := by omega
  have haT : (at_ : Int) ≤ (T : Int) := by omega
  have hTc2 : T ≤ c := by omega
  have haT2 : at_ ≤ T := by omega
  have hTk : T - at_ = k := by omega
  replace hb := hide hb
  replace hD := hide hD
  replace hT := hide hT
  by_cases hcn : c = at_
  · obtain rfl : k = 0 := by omega
    subst hcn
    have hz : Hid ((b.drop c).take 0 = []) := List.take_zero
    have hcc : c - c = 0 := Nat.sub_self c
    go_enter Tryz.func122, Tryz.ntmps122
    go_wp2_with (at_builtin; refine wpList_app_b rfl (.const (.slice none 0 0)) (.tmp 33) rfl w.heap.size _ 0 [] (OB.nil _ _) rfl w.heap.size A 0 0 [] rfl (RB.zero _ _ _) (by omega) (Nat.le_refl _) ?_; intro v2 w2 ho2 hb2 _ _; have hO2 := hide ho2; have hB2 := hide hb2; clear ho2 hb2)
    go_ret2
    exact ⟨v2, rfl, hO2.out, hB2.out⟩
  · have hr := hide ((hb.out.cutAt (by omega) hnc hcn).take (k := k) (by omega))
    go_enter Tryz.func122, Tryz.ntmps122
    go_wp2_with (at_builtin; refine wpList_app_b rfl (.const (.slice none 0 0)) (.tmp 33) rfl w.heap.size _ 0 [] (OB.nil _ _) rfl w.heap.size (A.map (fun x => x.add at_)) k (c - at_) _ rfl hr.out (by omega) (Nat.le_refl _) ?_; intro v2 w2 ho2 hb2 _ _; have hO2 := hide ho2; have hB2 := hide hb2; clear ho2 hb2)
    go_ret2
    have hO3 := hO2.out
    rw [List.nil_append, Nat.zero_add] at hO3
    exact ⟨v2, rfl, hO3, hB2.out⟩
theorem i64_orB (a b : Nat) (ha : a < 281474976710656) (hb : b < 256) : bits .or .i64 ((a : Int) * 256) (b : Int) = ((b + 256 * a : Nat) : Int) := by
  show IntKind.i64.wrap ((BitVec.ofInt 64 ((a : Int) * 256) ||| BitVec.ofInt 64 b).toNat : Int) = _
  have e2 : ((2 ^ 64 : Nat) : Int) = 18446744073709551616 := by decide
  rw [BitVec.toNat_or, BitVec.toNat_ofInt, BitVec.toNat_ofInt, e2]
  have h1 : ((a : Int) * 256 % 18446744073709551616).toNat = a * 2 ^ 8 := by
    have e8 : (2 : Nat) ^ 8 = 256 := by decide
    rw [e8]; omega
  have h2 : ((b : Int) % 18446744073709551616).toNat = b := by omega
  have h3 : a * 2 ^ 8 ||| b = b + 256 * a := by
    rw [← Nat.shiftLeft_eq, ← Nat.shiftLeft_add_eq_or_of_lt (by exact hb), Nat.shiftLeft_eq]
    omega
  rw [h1, h2, h3, IntWalk.i64_in _ (by omega)]
def NumRet (x : Nat) (er : Nat) (w : World) (e : Ending) (w' : World) : Prop := e = .returned (.tuple #[.int .i64 (x : Int), .int .i64 (er : Int)]) ∧ Below w.heap.size w w'
set_option maxRecDepth 100000 in
set_option maxHeartbeats 1000000 in
theorem wget_any (w : World) (A : Option Addr) (n c at_ k : Nat) (b : List UInt8) (hb : RB w w.heap.size A n b) (hnc : n ≤ c) (hn : n ≤ 10000000) (hak : at_ + k ≤ n) (hk1 : 1 ≤ k) (hk : k ≤ 4) :
    Calls Tryz.prog 70 #[.slice A n c, .int .i64 (at_ : Int), .int .i64 (k : Int)] w (NumRet (numL ((b.drop at_).take k)) 0 w) := by
  have hct := hide (wcut_any w A n c at_ k b hb hnc hn hak)
  have hwd := hide (fun wz => wide_any wz k hk1 (by omega))
  have hll : ((b.drop at_).take k).length = k := by rw [List.length_take, List.length_drop, hb.len]; omega
  obtain ⟨L, hL⟩ : ∃ L, L = (b.drop at_).take k := ⟨_, rfl⟩
  rw [← hL] at hct hll ⊢
  have hnl := numL_lt
  replace hL := hide hL
  replace hb := hide hb
  replace hll := hide hll
  replace hnl := hide hnl
  go_enter Tryz.func70, Tryz.ntmps70
  go_wp2_with fail
  refine (hwd.out _).mono ?_
  rintro e w1 ⟨rfl, rfl⟩
  go_wp2_with fail
  refine hct.out.mono ?_
  rintro e w2 ⟨v, rfl, hO, hB⟩
  obtain ⟨gv, cv, rfl, hcv, -⟩ : ∃ gv cv, v = .slice (some ⟨gv, 0, none⟩) k cv ∧ k ≤ cv ∧ cv ≤ maxLen := by
    rcases hO.parts with ⟨_, h5, _⟩ | h
    · omega
    · exact h
  replace hO := hide hO
  replace hB := hide hB
  go_wp2_with fail
  go_loopw [10, 11] (fun v10 v11 wx => ∃ (i X : Nat), v11 = .int .i64 ((i : Int) - 1) ∧ v10 = .int .i64 (X : Int) ∧ Hid (X = numL (L.drop i)) ∧ i ≤ k ∧ Hid (wx = w2)) (fun _ v11 _ => (intOf v11 + 1).toNat)
  case atStart => exact ⟨k, 0, rfl, rfl, by rw [Hid, List.drop_of_length_le (by rw [hll.out]; exact Nat.le_refl _)]; rfl, Nat.le_refl _, rfl⟩
  case round =>
    obtain ⟨i, X, rfl, rfl, hX, hi, hw⟩ := hrel
    cases i with
    | zero =>
      have e0 : (((0 : Nat) : Int) - 1) = -1 := rfl
      rw [e0]
      have hX2 : Hid (X = numL L) := hX
      go_wp2_with fail
      go_ret2
      exact ⟨by rw [← hX2.out]; rfl, by rw [hw.out]; exact hB.out⟩
    | succ i =>
      have e1 : (((i + 1 : Nat) : Int) - 1) = (i : Int) := by omega
      rw [e1]
      have hil : i < L.length := by rw [hll.out]; omega
      have hd := numL_drop L i hil
      rw [← hX.out] at hd
      have hcell : wr.cell? ⟨gv, i, none⟩ = some (.int .u8 ((L[i]).toNat : Int)) := by rw [hw.out]; exact hO.out.cell (by omega) hil
      have hXb : X < 256 ^ 3 := by
        have h1 := hnl.out (L.drop (i + 1))
        rw [← hX.out, List.length_drop, hll.out] at h1
        exact Nat.lt_of_lt_of_le h1 (Nat.pow_le_pow_right (by omega) (by omega))
      have e3 : (256 : Nat) ^ 3 = 16777216 := by decide
      obtain ⟨C, hC⟩ : ∃ C, C = (L[i]).toNat := ⟨_, rfl⟩
      have hC256 : C < 256 := by rw [hC]; exact (L[i]).toNat_lt
      rw [← hC] at hcell hd
      obtain ⟨Y, hY⟩ : ∃ Y, Y = C + 256 * X := ⟨_, rfl⟩
      rw [e3] at hXb
      have hiI : (i : Int) < (k : Int) := by omega
      have hi0 : (0 : Int) ≤ (i : Int) := by omega
      have hXn : Hid (Y = numL (L.drop i)) := by rw [Hid, hY, hd]
      replace hC := hide hC
      replace hY := hide hY
      have hor : bits .or .i64 ((X : Int) * 256) (C : Int) = (Y : Int) := by rw [i64_orB X C (by omega) hC256, hY.out]
      clear hd e1 e3
      go_wp2_with fail
      go_roundw
      case rel => exact ⟨i, Y, by go_num, rfl, hXn, by omega, hw⟩
      case measure => simp [intOf]
theorem shr_zero (n k : Nat) (h : n < 256 ^ k) : (n : Int) / 2 ^ (8 * k) = 0 := by
  have e : (2 : Int) ^ (8 * k) = ((256 ^ k : Nat) : Int) := by rw [show (256 : Nat) = 2 ^ 8 from rfl, ← Nat.pow_mul, Int.natCast_pow]; rfl
  rw [e, ← Int.natCast_ediv, Nat.div_eq_of_lt h]; rfl
set_option maxRecDepth 100000 in
set_option maxHeartbeats 1000000 in
theorem fits_any (w : World) (B : Option Addr) (m d k : Nat) (ns : List Nat) (hns : RN w w.heap.size B m ns) (hm : m ≤ 1000) (hk1 : 1 ≤ k) (hk7 : k ≤ 7) (hx : ∀ x ∈ ns, x < 256 ^ k) :
    Calls Tryz.prog 161 #[.int .i64 (k : Int), .slice B m d] w fun e w' => e = .returned (.bool true) ∧ w = w' := by
  have hml := hide hns.len
  have hwd := hide (fun wz => wide_any wz k hk1 hk7)
  have hx' : Hid (∀ i, i < m → (ns.getD i 0) < 256 ^ k) := fun i hi => by
    have hl : i < ns.length := by have := hml.out; omega
    rw [List.getD_eq_getElem?_getD, List.getElem?_eq_getElem hl]; exact hx _ (List.getElem_mem hl)
  have h7 : (256 : Nat) ^ k ≤ 256 ^ 7 := Nat.pow_le_pow_right (by omega) hk7
  have e7 : (256 : Nat) ^ 7 = 72057594037927936 := by decide
  replace hns := hide hns
  replace h7 := hide h7
  replace e7 := hide e7
  clear hx
  go_enter Tryz.func161, Tryz.ntmps161
  go_wp2_with fail
  go_loopw [9] (fun v9 wx => ∃ i : Nat, v9 = .int .i64 (i : Int) ∧ i ≤ m ∧ w = wx) (fun v9 _ => m - (intOf v9).toNat)
  case atStart => exact ⟨0, rfl, Nat.zero_le _, (by first | rfl | trivial)⟩
  case round =>
    obtain ⟨i, rfl, hi, rfl⟩ := hrel
    by_cases hlt : i < m
    · obtain ⟨ad, rfl, hab, cE⟩ := hns.out.elem hlt
      have hxi := hx'.out i hlt
      obtain ⟨X, hX⟩ : ∃ X, X = ns.getD i 0 := ⟨_, rfl⟩
      rw [← hX] at cE hxi
      have hz := shr_zero X k hxi
      have hXb : (X : Int) < 72057594037927936 := by have := h7.out; have := e7.out; omega
      have hX0 : ¬ (X : Int) < 0 := by omega
      replace hX := hide hX
      replace hxi := hide hxi
      go_wp2_with fail
      refine (hwd.out _).mono ?_
      rintro e w1 ⟨rfl, rfl⟩
      go_wp2_with fail
      go_roundw
      case rel => exact ⟨i + 1, by go_num, hlt, (by first | rfl | trivial)⟩
      case measure => simp [intOf]; omega
    · obtain rfl : i = m := by omega
      go_wp2_with fail
      go_ret
      exact ⟨rfl, rfl⟩
end Go.Proofs.YthohbbaglceppaaGreatDoor
namespace Go.Proofs.YthohbbaglceppaaGreatDoor
open Go.RowKit
set_option linter.unusedVariables false
/-- The string of a list of bytes. -/
def str (l : List UInt8) : ByteArray := ⟨l.toArray⟩
theorem str_size (l : List UInt8) : (str l).size = l.length := by simp [str, ByteArray.size]
theorem str_bytes (l : List UInt8) : (str l).toList = l := by rw [ByteArray.toList_eq]; simp [str]
theorem str_append (a b : List UInt8) : str a ++ str b = str (a ++ b) := by
  apply ByteArray.ext
  simp [str]
end Go.Proofs.YthohbbaglceppaaGreatDoor
