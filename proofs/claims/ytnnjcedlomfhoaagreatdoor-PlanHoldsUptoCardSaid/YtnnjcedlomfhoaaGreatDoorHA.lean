/-
  Words for memory that all proofs of this seat share: a slice that reads as a list; a block known whole; append onto a row of the call's own (after the kit's howto pages extra-words and extra-small, whose blocks are made for copying); below them words of this claim's own: lists of bytes and of ints as cells.
-/
import Derived.WalkKit
import Derived.Below
import Derived.Laws.OwnMore
import Derived.Deep.AppendLies
import Derived.Deep.Draws
import Derived.Deep.OwnRows
import Derived.Laws.Rows
import Derived.Laws.MakeOwn
import Derived.Maps.AppendAt
import Derived.RegionTactic
import Derived.OwnWalk
import Derived.Deep.QuietTactic
import Derived.BigQuiet
import Derived.ChangeSame
import Derived.Deep.DeepCutAuto
import Derived.Deep.CutBlock
import Derived.Deep.RegionHeld3
import Derived.Outline
import Derived.Test.YtnnjcedlomfhoaaGreatDoorRows
import Derived.ProofKit
import Derived.OpenShut
import Derived.ShutString
import Derived.ChangeOld
import Derived.Handed
import Derived.SizedLaws
import Derived.RangeFuncOwn
import Derived.LaidMore
import Derived.Lay
import Derived.SevenTiedAt
import Derived.Stop.Joined
import Derived.WalkLawsBesides
import Derived.Test.YtnnjcedlomfhoaaGreatDoorChecked
import Derived.WalkSpells
import Derived.Lib.Strings
import Derived.Lib.ValidLaws
import Derived.Laws.IdiomStrings
import Derived.Orders
import Derived.Tactics
import Derived.ScopeJumps
import Derived.WalkMore
import Derived.Lib.Bytes
namespace Go.Proofs.YtnnjcedlomfhoaaGreatDoor
open Go.RowKit
set_option linter.unusedVariables false
theorem hide {p : Prop} (h : p) : Hid p := h
theorem block_of_add (a : Addr) (n : Nat) : (a.add n).block = a.block := by unfold Addr.add; split <;> rfl
theorem add_of_add (a : Addr) (i j : Nat) : (a.add i).add j = a.add (i + j) := by
  unfold Addr.add
  by_cases hi : i = 0 <;> by_cases hj : j = 0 <;> simp [hi, hj, Nat.add_assoc]
def Reads (w : World) (B size : Nat) (A : Option Addr) (n : Nat) (xs : List Value) : Prop :=
  xs.length = n * size ∧ (0 < n → ∃ ad, A = some ad ∧ ad.block < B ∧ ∀ j u, xs[j]? = some u → w.cell? (ad.add j) = some u)
section
variable {w w' : World} {B B' size n : Nat} {A : Option Addr} {xs : List Value}
theorem Reads.none_ : Reads w B size A 0 [] := ⟨by simp, fun h => absurd h (by omega)⟩
theorem Reads.at_ {k : Nat} (h : Reads w B 1 A n xs) (hk : k < n) : ∃ ad u, A = some ad ∧ ad.block < B ∧ xs[k]? = some u ∧ w.cell? (ad.add k) = some u := by
  obtain ⟨ad, e, hb, hc⟩ := h.2 (by omega)
  have hl : k < xs.length := by have := h.1; omega
  exact ⟨ad, xs[k], e, hb, List.getElem?_eq_getElem hl, hc k _ (List.getElem?_eq_getElem hl)⟩
theorem Reads.keep (h : Reads w B size A n xs) (hk : ∀ p : Addr, p.block < B → w'.cell? p = w.cell? p) : Reads w' B size A n xs :=
  ⟨h.1, fun hn => by
    obtain ⟨ad, e, hb, hc⟩ := h.2 hn
    exact ⟨ad, e, hb, fun j u hu => (hk _ (by rw [block_of_add]; exact hb)).trans (hc j u hu)⟩⟩
theorem Reads.more (h : Reads w B size A n xs) (hB : B ≤ B') : Reads w B' size A n xs :=
  ⟨h.1, fun hn => by
    obtain ⟨ad, e, hb, hc⟩ := h.2 hn
    exact ⟨ad, e, by omega, hc⟩⟩
theorem Reads.below (h : Reads w B size A n xs) (hb : Below B w w') : Reads w' B size A n xs := h.keep fun _ hp => hb.cell hp
theorem Reads.drew (h : Reads w B size A n xs) : Reads w.drew B size A n xs := h
theorem Reads.drewN (h : Reads w B size A n xs) (k : Nat) : Reads (w.drewN k) B size A n xs := h
theorem Reads.alloc (h : Reads w B size A n xs) (hB : B ≤ w.heap.size) (o : Obj) : Reads (w.alloc o) B size A n xs := h.keep fun p hp => World.cell?_alloc_lt w o p (by omega)
theorem Reads.setCell (h : Reads w B size A n xs) {p : Addr} (hB : B ≤ p.block) (u : Value) : Reads (w.setCell p u) B size A n xs :=
  h.keep fun q hq => World.cell?_setCell_other w p q u (fun e => by subst e; omega)
theorem Reads.grown (h : Reads w B size A n xs) {row : Option Nat} (hg : w.grownBy w' row) (hB : B ≤ w.heap.size) (hr : ∀ g, row = some g → B ≤ g) : Reads w' B size A n xs :=
  h.keep fun p hp => World.cell?_of_block (hg.block p.block (by omega) (fun e => by have := hr _ e.symm; omega))
theorem Reads.cut (h : Reads w B size A n xs) {k cap : Nat} (hk : k ≤ n) (hc : n ≤ cap) :
    Reads w B size (if cap = k then A else A.map (·.add (k * size))) (n - k) (xs.drop (k * size)) := by
  refine ⟨by rw [List.length_drop, h.1, Nat.sub_mul], fun hn => ?_⟩
  obtain ⟨ad, rfl, hb, hcell⟩ := h.2 (by omega)
  rw [if_neg (by omega)]
  refine ⟨ad.add (k * size), rfl, by rw [block_of_add]; exact hb, fun j u hu => ?_⟩
  rw [add_of_add]
  exact hcell _ u (by rw [← hu, List.getElem?_drop])
theorem Reads.of_own {base : Nat} {e : TypeId} {c : Nat} (h : w.ownsRow base e size (.slice A n c) n xs) : Reads w w.heap.size size A n xs := by
  refine ⟨h.1, fun hn => ?_⟩
  obtain ⟨g, cap, hv, _, hlt⟩ := h.form hn
  have hA : A = some ⟨g, 0, none⟩ := by injection hv
  subst hA
  exact ⟨_, rfl, hlt, h.cells (g := g) rfl⟩
end
def Blk (w : World) (g : Nat) (t : TypeId) (cs : Array Value) : Prop := w.heap[g]? = some (.cells cs t (0, 0))
section
variable {w w' : World} {g : Nat} {t : TypeId} {cs : Array Value}
theorem Blk.lt (h : Blk w g t cs) : g < w.heap.size := by
  rcases Nat.lt_or_ge g w.heap.size with hlt | hge
  · exact hlt
  · unfold Blk at h; rw [Array.getElem?_eq_none hge] at h; cases h
theorem Blk.cell (h : Blk w g t cs) (i : Nat) : w.cell? ⟨g, i, none⟩ = cs[i]? := cell_of_row w g i cs t (0, 0) h
theorem Blk.frozen (h : Blk w g t cs) (i : Nat) : w.frozen? ⟨g, i, none⟩ = false := by
  unfold Blk at h
  simp [World.frozen?, h]
theorem Blk.new (w : World) (t : TypeId) (cs : Array Value) : Blk (w.alloc (.cells cs t)) w.heap.size t cs := heap_alloc_new w _
theorem Blk.drew (h : Blk w g t cs) : Blk w.drew g t cs := h
theorem Blk.drewN (h : Blk w g t cs) (n : Nat) : Blk (w.drewN n) g t cs := h
theorem Blk.alloc (h : Blk w g t cs) (o : Obj) : Blk (w.alloc o) g t cs := (Below.heap_alloc w o g h.lt).trans h
theorem Blk.set_ (h : Blk w g t cs) (i : Nat) (u : Value) : Blk (w.setCell ⟨g, i, none⟩ u) g t (cs.setIfInBounds i u) := by
  unfold Blk at h ⊢
  simp [World.setCell, Array.getElem?_modify, h]
theorem Blk.far (h : Blk w g t cs) {p : Addr} (hp : g ≠ p.block) (u : Value) : Blk (w.setCell p u) g t cs := (Below.heap_setCell w p u g hp).trans h
theorem Blk.below {B : Nat} (h : Blk w g t cs) (hb : Below B w w') (hg : g < B) : Blk w' g t cs := (hb.block g hg).trans h
theorem Blk.grown {row : Option Nat} (h : Blk w g t cs) (hb : w.grownBy w' row) (hg : some g ≠ row) : Blk w' g t cs := (hb.block g h.lt hg).trans h
theorem Blk.ne_ {g' : Nat} {t' : TypeId} {cs' : Array Value} (h : Blk w g t cs) (h' : Blk w g' t' cs') (hne : t ≠ t') : g ≠ g' := by
  rintro rfl
  unfold Blk at h h'
  rw [h] at h'
  injection h' with h'
  injection h' with _ ht
  exact hne ht
theorem own_blk_ne {base : Nat} {e : TypeId} {size n : Nat} {v : Value} {xs : List Value} (h : w.ownsRow base e size v n xs) (hg : Blk w g t cs) (hne : e ≠ t) : v.ownBlock ≠ some g := by
  rcases h.2 with ⟨rfl, _⟩ | ⟨g', cap, cur, rfl, _, hh, _⟩
  · simp [Value.ownBlock]
  · intro he
    have : g' = g := by simpa [Value.ownBlock] using he
    subst this
    exact Blk.ne_ (t := e) hh hg hne rfl
end
section
variable {P : Program} (w : World)
theorem run_append_of_nil (base : Nat) (t ty e : TypeId) (i : TypeInfo) (size : Nat) (ht : P.underlying t = some (.slice e)) (hi : P.info? e = some i)
    (v : Value) (n : Nat) (xs : List Value) (hown : w.ownsRow base e size v n xs) (c : Nat) : (Builtin.append_ #[t, t] ty #[v, .slice none 0 c]).run P w = .ok v w := by
  rcases hown.2 with ⟨rfl, rfl⟩ | ⟨g, cap, cur, rfl, _, _, hnc, _⟩
  · simp [Builtin.append_, run_underlying ht, sizeOf, typeInfo, hi, Builtin.lenOf, Builtin.firstCells]
  · simp [Builtin.append_, run_underlying ht, sizeOf, typeInfo, hi, Builtin.lenOf, Builtin.firstCells, hnc, storeCells]
theorem run_append_any (base : Nat) (t ty e : TypeId) (i : TypeInfo) (z : Value) (size bytes : Nat) (ht : P.underlying t = some (.slice e)) (hi : P.info? e = some i) (hz : i.zero = some z)
    (hsize : i.size = size) (hby : i.bytes = bytes) (hzs : z.cells.size = size) (hsz : 0 < size)
    (v : Value) (n : Nat) (xs : List Value) (hown : w.ownsRow base e size v n xs)
    (B : Nat) (A : Option Addr) (m c : Nat) (news : List Value) (hr : Reads w B size A m news) (h1 : ∀ u ∈ news, u.oneCell' = true)
    (h63 : n + m ≤ maxLen) (hbytes : (n + m) * bytes ≤ 140737488355328) (hbase : base ≤ w.heap.size) :
    ∃ v' w', (Builtin.append_ #[t, t] ty #[v, .slice A m c]).run P w = .ok v' w' ∧ w'.ownsRow base e size v' (n + m) (xs ++ news) ∧ w.grownBy w' v.ownBlock ∧
      (v'.ownBlock = v.ownBlock ∨ v'.ownBlock = some w.heap.size) := by
  rcases A with _ | ad
  · have hm : m = 0 := by
      rcases Nat.eq_zero_or_pos m with h0 | h0
      · exact h0
      · obtain ⟨ad, h, _⟩ := hr.2 h0
        cases h
    subst hm
    have hn : news = [] := List.eq_nil_of_length_eq_zero (by simpa using hr.1)
    subst hn
    exact ⟨v, w, run_append_of_nil w base t ty e i size ht hi v n xs hown c, by simpa using hown, World.grownBy.refl w _, .inl rfl⟩
  · have hcells : ∀ j u, news[j]? = some u → w.cell? (ad.add j) = some u := by
      intro j u hu
      rcases Nat.eq_zero_or_pos m with h0 | h0
      · subst h0
        have hn : news = [] := List.eq_nil_of_length_eq_zero (by simpa using hr.1)
        subst hn
        simp at hu
      · obtain ⟨ad', h, _, hc⟩ := hr.2 h0
        injection h with h
        subst h
        exact hc j u hu
    obtain ⟨v', w', hrun, h2, h3, _, h5⟩ := run_append_own_at (P := P) w base t ty e i z size bytes ht hi hz hsize hby hzs hsz v n xs hown ad m c news hr.1 hcells h1 h63 hbytes hbase
    exact ⟨v', w', hrun, h2, h3, h5⟩
theorem wp_append_any {o : Oper} {a : Act} {K : Act → World → Prop} {Q : Exit → Act → World → Prop} (s x : Operand) (t : TypeId)
    (ho : o.op = .call { callee := .builtin .append, args := #[s, x], argTypes := #[t, t] })
    (base : Nat) (e : TypeId) (i : TypeInfo) (z : Value) (size bytes : Nat) (ht : P.underlying t = some (.slice e)) (hi : P.info? e = some i) (hz : i.zero = some z)
    (hsize : i.size = size) (hby : i.bytes = bytes) (hzs : z.cells.size = size) (hsz : 0 < size)
    (v : Value) (n : Nat) (xs : List Value) (hs : a.eval s = v) (hown : w.ownsRow base e size v n xs)
    (B : Nat) (A : Option Addr) (m c : Nat) (news : List Value) (hx : a.eval x = .slice A m c) (hr : Reads w B size A m news) (h1 : ∀ u ∈ news, u.oneCell' = true)
    (h63 : n + m ≤ maxLen) (hbytes : (n + m) * bytes ≤ 140737488355328) (hbase : base ≤ w.heap.size)
    (h : ∀ v' w', w'.ownsRow base e size v' (n + m) (xs ++ news) → w.grownBy w' v.ownBlock → (v'.ownBlock = v.ownBlock ∨ v'.ownBlock = some w.heap.size) → K (a.put o.dst v') w') : o.wp P a w K Q := by
  obtain ⟨v', w', hrun, h2, h3, h4⟩ := run_append_any (P := P) w base t o.type e i z size bytes ht hi hz hsize hby hzs hsz v n xs hown B A m c news hr h1 h63 hbytes hbase
  unfold Oper.wp execOp
  simp only [ho, resolve, invoke, builtin, Sem.run_bind, Sem.run_pure, Result.andThen_ok, List.map_toArray, List.map_cons, List.map_nil, hs, hx, hrun]
  exact h v' w' h2 h3 h4
theorem wpList_append_any {ops : Array Oper} {rest : List Oper} {o : Oper} {a : Act} {Q : Exit → Act → World → Prop} (hgd : o.guard = none) (s x : Operand) (t : TypeId)
    (ho : o.op = .call { callee := .builtin .append, args := #[s, x], argTypes := #[t, t] })
    (base : Nat) (e : TypeId) (i : TypeInfo) (z : Value) (size bytes : Nat) (ht : P.underlying t = some (.slice e)) (hi : P.info? e = some i) (hz : i.zero = some z)
    (hsize : i.size = size) (hby : i.bytes = bytes) (hzs : z.cells.size = size) (hsz : 0 < size)
    (v : Value) (n : Nat) (xs : List Value) (hs : a.eval s = v) (hown : w.ownsRow base e size v n xs)
    (B : Nat) (A : Option Addr) (m c : Nat) (news : List Value) (hx : a.eval x = .slice A m c) (hr : Reads w B size A m news) (h1 : ∀ u ∈ news, u.oneCell' = true)
    (h63 : n + m ≤ maxLen) (hbytes : (n + m) * bytes ≤ 140737488355328) (hbase : base ≤ w.heap.size)
    (h : ∀ v' w', w'.ownsRow base e size v' (n + m) (xs ++ news) → w.grownBy w' v.ownBlock → (v'.ownBlock = v.ownBlock ∨ v'.ownBlock = some w.heap.size) → wpList P ops Q rest (a.put o.dst v') w') : wpList P ops Q (o :: rest) a w :=
  wpList_plain hgd fun _ hK => wp_append_any w s x t ho base e i z size bytes ht hi hz hsize hby hzs hsz v n xs hs hown B A m c news hx hr h1 h63 hbytes hbase fun v' w' h2 h3 h4 => hK _ _ (h v' w' h2 h3 h4)
theorem step_append_any {ops : Array Oper} {o : Oper} {a : Act} {K : Act → World → Prop} {Q : Exit → Act → World → Prop} {E : Prop} (hgd : o.guard = none) (s x : Operand) (t : TypeId)
    (ho : o.op = .call { callee := .builtin .append, args := #[s, x], argTypes := #[t, t] })
    (base : Nat) (e : TypeId) (i : TypeInfo) (z : Value) (size bytes : Nat) (ht : P.underlying t = some (.slice e)) (hi : P.info? e = some i) (hz : i.zero = some z)
    (hsize : i.size = size) (hby : i.bytes = bytes) (hzs : z.cells.size = size) (hsz : 0 < size)
    (v : Value) (n : Nat) (xs : List Value) (hs : a.eval s = v) (hown : w.ownsRow base e size v n xs)
    (B : Nat) (A : Option Addr) (m c : Nat) (news : List Value) (hx : a.eval x = .slice A m c) (hr : Reads w B size A m news) (h1 : ∀ u ∈ news, u.oneCell' = true)
    (h63 : n + m ≤ maxLen) (hbytes : (n + m) * bytes ≤ 140737488355328) (hbase : base ≤ w.heap.size)
    (h : ∀ v' w', w'.ownsRow base e size v' (n + m) (xs ++ news) → w.grownBy w' v.ownBlock → (v'.ownBlock = v.ownBlock ∨ v'.ownBlock = some w.heap.size) → K (a.put o.dst v') w') :
    if Region.wanted o (yielded ops a.tmps) = true then Oper.wp P o a w K Q else E := by
  have hw : Region.wanted o (yielded ops a.tmps) = true := by simp [Region.wanted, hgd]
  rw [if_pos hw]
  exact wp_append_any w s x t ho base e i z size bytes ht hi hz hsize hby hzs hsz v n xs hs hown B A m c news hx hr h1 h63 hbytes hbase h
end
theorem quiet_left {P : Program} {f : FuncId} {args : Array Value} {w : World} {n : Nat} {v : Value}
    (h : Calls P f args (w.drewN n) fun e w' => e = .returned v ∧ w.drewN n = w') : Calls P f args (w.drewN n) fun e w'' => e = .returned v ∧ ∃ m, w'' = w.drewN m :=
  h.mono fun _ _ ⟨he, hm⟩ => ⟨he, n, hm.symm⟩
theorem below_drewN {B : Nat} {a w : World} (h : Below B a w) (n : Nat) : Below B a (w.drewN n) := ⟨h.os, h.tape, h.output, h.size, h.block⟩
theorem only_drewN {a w : World} {row : Option Nat} (h : a.grownBy w row) (n : Nat) : a.grownBy (w.drewN n) row := ⟨h.os, h.tape, h.output, h.size, h.block⟩
theorem only_alloc {a w : World} {row : Option Nat} (h : a.grownBy w row) (o : Obj) : a.grownBy (w.alloc o) row :=
  ⟨h.os, h.tape, h.output, Nat.le_trans h.size (by simp), fun i hi hne => (Below.heap_alloc w o i (Nat.lt_of_lt_of_le hi h.size)).trans (h.block i hi hne)⟩
theorem only_setCell {a w : World} {g : Nat} (h : a.grownBy w (some g)) {p : Addr} (hp : p.block = g ∨ a.heap.size ≤ p.block) (u : Value) : a.grownBy (w.setCell p u) (some g) :=
  ⟨h.os, h.tape, h.output, by simpa [World.setCell] using h.size, fun i hi hne => (Below.heap_setCell w p u i (by
    rintro rfl
    rcases hp with hp | hp
    · exact hne (by rw [hp])
    · omega)).trans (h.block i hi hne)⟩
theorem only_of_below {a w : World} (h : Below a.heap.size a w) (row : Option Nat) : a.grownBy w row := ⟨h.os, h.tape, h.output, h.size, fun i hi _ => h.block i hi⟩
theorem run_make_rowN {P : Program} (t e : TypeId) (i : TypeInfo) (z : Value) (ht : P.underlying t = some (.slice e)) (hi : P.info? e = some i) (hz : i.zero = some z)
    (kl kc : IntKind) (n c : Nat) (hnc : n ≤ c) (hbytes : i.bytes * c ≤ 281474976710656) (h63 : c ≤ 9223372036854775807) (w : World) :
    (Instr.makeSlice t (.int kl (n : Int)) (.int kc (c : Int))).run P w = .ok (.slice (some ⟨w.heap.size, 0, none⟩) n c) (w.alloc (.cells (madeCells z.cells (c * i.size)) e)) := by
  have hb : (i.bytes : Int) * (c : Int) ≤ 281474976710656 := by
    have h : ((i.bytes * c : Nat) : Int) ≤ 281474976710656 := by omega
    rwa [Int.natCast_mul] at h
  have hr := run_make (P := P) w t e i z ht hi hz kl kc n c (by omega) (by omega) hb (by omega)
  simp only [Int.toNat_natCast] at hr
  exact hr
section
open Go.RowKit Go.WideShapes Go.ChangeShapes
section
variable {H : Type} {enc : TypeId × Value → H} {P : Program}
end
end
/-- Only draws lie between two worlds. -/
def Qt (w w' : World) : Prop := ∃ q, w' = w.drewN q
theorem Qt.refl (w : World) : Qt w w := ⟨0, rfl⟩
theorem Qt.drewN {w w' : World} (h : Qt w w') (n : Nat) : Qt w (w'.drewN n) := by
  obtain ⟨q, rfl⟩ := h
  exact ⟨q + n, World.drewN_drewN ..⟩
theorem Qt.drew {w w' : World} (h : Qt w w') : Qt w w'.drew := h.drewN 1
theorem Qt.trans {a b c : World} (h : Qt a b) (k : Qt b c) : Qt a c := by
  obtain ⟨q, rfl⟩ := k
  exact h.drewN q
theorem Qt.below {w w' : World} (h : Qt w w') (B : Nat) : Below B w w' := by
  obtain ⟨q, rfl⟩ := h
  exact below_drewN (Below.refl _ _) q
theorem ret_bool {a b : Bool} (h : a = b) : Ending.returned (.bool a) = Ending.returned (.bool b) := by rw [h]
theorem ret_int {k : IntKind} {a b : Int} (h : a = b) : Ending.returned (.int k a) = Ending.returned (.int k b) := by rw [h]
/-- The cells of bytes; of ints. -/
def bv (l : List UInt8) : List Value := l.map fun b => Value.int .u8 (b.toNat : Int)
def iv (l : List Int) : List Value := l.map fun b => Value.int .i64 b
theorem bv_length (l : List UInt8) : (bv l).length = l.length := by simp [bv]
theorem bv_get {l : List UInt8} {k : Nat} (h : k < l.length) : (bv l)[k]? = some (.int .u8 ((l[k]).toNat : Int)) := by simp [bv, h]
theorem iv_get {l : List Int} {k : Nat} (h : k < l.length) : (iv l)[k]? = some (.int .i64 l[k]) := by simp [iv, h]
theorem bv_append (a b : List UInt8) : bv (a ++ b) = bv a ++ bv b := by simp [bv]
theorem iv_append (a b : List Int) : iv (a ++ b) = iv a ++ iv b := by simp [iv]
theorem bv_one (l : List UInt8) : ∀ u ∈ bv l, u.oneCell' = true := by
  intro u hu
  obtain ⟨_, _, rfl⟩ := List.mem_map.1 hu
  rfl
theorem iv_one (l : List Int) : ∀ u ∈ iv l, u.oneCell' = true := by
  intro u hu
  obtain ⟨_, _, rfl⟩ := List.mem_map.1 hu
  rfl
/-- A slice of bytes (of ints) reads as a list: its length, the cells; nil and empty let in. -/
def RB (w : World) (B : Nat) (A : Option Addr) (n : Nat) (l : List UInt8) : Prop := Reads w B 1 A n (bv l)
def RI (w : World) (B : Nat) (A : Option Addr) (n : Nat) (l : List Int) : Prop := Reads w B 1 A n (iv l)
section
variable {w w' : World} {B B' n : Nat} {A : Option Addr} {l : List UInt8} {z : List Int}
theorem RB.len (h : RB w B A n l) : l.length = n := by have := h.1; simpa [bv] using this
theorem RI.len (h : RI w B A n z) : z.length = n := by have := h.1; simpa [iv] using this
theorem RB.elem (h : RB w B A n l) {k : Nat} (hk : k < n) (hl : k < l.length) : ∃ ad, A = some ad ∧ ad.block < B ∧ w.cell? (ad.add k) = some (.int .u8 ((l[k]).toNat : Int)) := by
  obtain ⟨ad, u, e, hb, hx, hc⟩ := Reads.at_ h hk
  rw [bv_get hl] at hx
  injection hx with hx
  subst hx
  exact ⟨ad, e, hb, hc⟩
theorem RI.elem (h : RI w B A n z) {k : Nat} (hk : k < n) (hl : k < z.length) : ∃ ad, A = some ad ∧ ad.block < B ∧ w.cell? (ad.add k) = some (.int .i64 z[k]) := by
  obtain ⟨ad, u, e, hb, hx, hc⟩ := Reads.at_ h hk
  rw [iv_get hl] at hx
  injection hx with hx
  subst hx
  exact ⟨ad, e, hb, hc⟩
theorem RB.below (h : RB w B A n l) (hb : Below B w w') : RB w' B A n l := Reads.below h hb
theorem RB.more (h : RB w B A n l) (hB : B ≤ B') : RB w B' A n l := Reads.more h hB
theorem RB.drew (h : RB w B A n l) : RB w.drew B A n l := h
theorem RB.drewN (h : RB w B A n l) (k : Nat) : RB (w.drewN k) B A n l := h
theorem RB.alloc (h : RB w B A n l) (hB : B ≤ w.heap.size) (o : Obj) : RB (w.alloc o) B A n l := Reads.alloc h hB o
theorem RB.setCell (h : RB w B A n l) {p : Addr} (hB : B ≤ p.block) (u : Value) : RB (w.setCell p u) B A n l := Reads.setCell h hB u
theorem RB.nil (w : World) (B : Nat) : RB w B none 0 [] := ⟨by simp [bv], fun h => absurd h (by omega)⟩
theorem RI.below (h : RI w B A n z) (hb : Below B w w') : RI w' B A n z := Reads.below h hb
theorem RI.more (h : RI w B A n z) (hB : B ≤ B') : RI w B' A n z := Reads.more h hB
theorem RI.drew (h : RI w B A n z) : RI w.drew B A n z := h
theorem RI.drewN (h : RI w B A n z) (k : Nat) : RI (w.drewN k) B A n z := h
theorem RI.alloc (h : RI w B A n z) (hB : B ≤ w.heap.size) (o : Obj) : RI (w.alloc o) B A n z := Reads.alloc h hB o
theorem RI.setCell (h : RI w B A n z) {p : Addr} (hB : B ≤ p.block) (u : Value) : RI (w.setCell p u) B A n z := Reads.setCell h hB u
theorem RI.nil (w : World) (B : Nat) : RI w B none 0 [] := ⟨by simp [iv], fun h => absurd h (by omega)⟩
theorem RB.take (h : RB w B A n l) {k : Nat} (hk : k ≤ n) : RB w B A k (l.take k) := by
  have hl := h.len
  refine ⟨by simp [bv]; omega, fun h0 => ?_⟩
  obtain ⟨ad, e, hb, hc⟩ := h.2 (by omega)
  refine ⟨ad, e, hb, fun j u hu => hc j u ?_⟩
  have hj := (List.getElem?_eq_some_iff.1 hu).1
  rw [bv_length, List.length_take] at hj
  rw [← hu, bv, bv, List.map_take, List.getElem?_take, if_pos (by omega)]
end
end Go.Proofs.YtnnjcedlomfhoaaGreatDoor
namespace Go.Proofs.YtnnjcedlomfhoaaGreatDoor
open Go.ChangeShapes Go.WideShapes Go.ChangeAt Go.RowKit
set_option linter.unusedVariables false
theorem seat_own : ownKnob Tryz.prog.godebug = none := by kernel_rfl
theorem seat_laidOut : laidOutB Tryz.prog = true := by kernel_rfl
/-- What is told of a slice of integers that came in. -/
def IsRow (k : IntKind) (w : World) (a : Option Addr) (len cap : Nat) (zs : List Int) : Prop :=
  (a = none ∧ len = 0 ∧ cap = 0 ∧ zs = []) ∨
  ∃ x, a = some x ∧ len ≤ cap ∧ cap ≤ maxLen ∧ zs.length = cap ∧ (∀ i, i < zs.length → w.cell? (x.add i) = some (.int k (zs.getD i 0))) ∧ ∀ n ∈ zs, (Lit.int k n).wf = true
theorem cell_block_lt {w : World} {p : Addr} {v : Value} (h : w.cell? p = some v) : p.block < w.heap.size := by
  rcases Nat.lt_or_ge p.block w.heap.size with hlt | hge
  · exact hlt
  · simp [World.cell?, Array.getElem?_eq_none hge] at h
theorem IsRow.reads {k : IntKind} {w : World} {a : Option Addr} {len cap : Nat} {zs : List Int} (h : IsRow k w a len cap zs) : Reads w w.heap.size 1 a len ((zs.take len).map (Value.int k)) := by
  rcases h with ⟨rfl, rfl, rfl, rfl⟩ | ⟨x, rfl, hl, hm, hz, hc, _⟩
  · exact Reads.none_
  · refine ⟨by simp; omega, fun h0 => ⟨x, rfl, ?_, fun j u hu => ?_⟩⟩
    · have := cell_block_lt (hc 0 (by omega))
      rwa [block_of_add] at this
    · have hj : j < len ∧ j < zs.length := by
        have := (List.getElem?_eq_some_iff.1 hu).1
        simp at this; omega
      have e : zs.getD j 0 = zs[j]'hj.2 := by simp [List.getD, hj.2]
      rw [hc j hj.2, e, ← hu]
      simp [hj.1, hj.2]
/-- The bytes of numbers that fit a byte. -/
theorem bytes_of_ints {zs : List Int} (h : ∀ n ∈ zs, (Lit.int .u8 n).wf = true) : ∃ l : List UInt8, zs.map (Value.int .u8) = bv l := by
  refine ⟨zs.map fun z => UInt8.ofNat z.toNat, ?_⟩
  simp only [bv, List.map_map]
  apply List.map_congr_left
  intro z hz
  have hw := h z hz
  simp [Lit.wf, IntKind.min, IntKind.max, IntKind.signed, IntKind.bits] at hw
  simp only [Function.comp, UInt8.toNat_ofNat']
  congr 1
  omega
theorem IsRow.rb {w : World} {a : Option Addr} {len cap : Nat} {zs : List Int} (h : IsRow .u8 w a len cap zs) : ∃ l : List UInt8, RB w w.heap.size a len l := by
  obtain ⟨l, hl⟩ := bytes_of_ints (zs := zs.take len) (by
    rcases h with ⟨_, _, _, rfl⟩ | ⟨_, _, _, _, _, _, hw⟩
    · simp
    · exact fun n hn => hw n (List.mem_of_mem_take hn))
  exact ⟨l, by rw [RB, ← hl]; exact h.reads⟩
end Go.Proofs.YtnnjcedlomfhoaaGreatDoor
namespace Go.Proofs.YtnnjcedlomfhoaaGreatDoor
open Go.ChangeShapes Go.WideShapes Go.ChangeAt Go.RowKit
set_option linter.unusedVariables false
end Go.Proofs.YtnnjcedlomfhoaaGreatDoor
namespace Go.Proofs.YtnnjcedlomfhoaaGreatDoor
set_option linter.unusedVariables false
/-- A word that is no NaN, and not negative. -/
def posW (x : Nat) : Prop := x ≤ Ieee.double.infRung
instance (x : Nat) : Decidable (posW x) := by unfold posW; infer_instance
def posD : Ieee.Datum → Prop
  | .number s _ _ => s = false
  | .infinity s => s = false
  | .nan _ _ => False
theorem read_pos {x : Nat} (h : posW x) : posD (Ieee.double.read x) := by
  have h1 : Ieee.double.infRung < Ieee.double.signWeight := Ieee.Format.infRung_lt _
  unfold posW at h
  have h2 : x / Ieee.double.signWeight = 0 := Nat.div_eq_of_lt (by omega)
  have h3 : x % Ieee.double.signWeight = x := Nat.mod_eq_of_lt (by omega)
  unfold Ieee.Format.read
  rw [h2, h3]
  dsimp only
  split
  · rfl
  · split
    · rfl
    · split
      · rfl
      · omega
theorem sum_pos : ∀ (a b : Ieee.Datum), posD a → posD b → ∃ d, a.sum b = some d ∧ posD d
  | .number s m i, .number t n j, ha, hb => by
    have e1 : s = false := ha
    have e2 : t = false := hb
    subst e1 e2
    refine ⟨_, rfl, ?_⟩
    unfold posD
    dsimp only
    split
    · rfl
    · have h1 : 0 ≤ Ieee.signed false m (i - min i j).toNat := Int.natCast_nonneg _
      have h2 : 0 ≤ Ieee.signed false n (j - min i j).toNat := Int.natCast_nonneg _
      rw [decide_eq_false_iff_not]
      omega
  | .number s m i, .infinity t, ha, hb => ⟨_, rfl, hb⟩
  | .infinity s, .number t n j, ha, hb => ⟨_, rfl, ha⟩
  | .infinity s, .infinity t, ha, hb => by
    have e1 : s = false := ha
    have e2 : t = false := hb
    subst e1 e2
    exact ⟨_, rfl, rfl⟩
  | .nan _ _, _, ha, _ => ha.elim
  | .number .., .nan _ _, _, hb => hb.elim
  | .infinity .., .nan _ _, _, hb => hb.elim
theorem nearest_pos (f : Ieee.Format) (m : Nat) (p : Int) : f.nearest false m p ≤ f.infRung := by
  unfold Ieee.Format.nearest
  dsimp only
  split
  · exact Nat.zero_le _
  · exact Nat.min_le_right ..
theorem write_pos : ∀ (d : Ieee.Datum), posD d → posW (Ieee.double.write d)
  | .number s m p, h => by
    have e : s = false := h
    subst e
    exact nearest_pos _ m p
  | .infinity s, h => by
    have e : s = false := h
    subst e
    exact Nat.le_refl _
  | .nan _ _, h => h.elim
theorem addW_pos {x y : Nat} (hx : posW x) (hy : posW y) : ∃ r, floatBits .add .f64 x y = some r ∧ posW r := by
  obtain ⟨d, e, hd⟩ := sum_pos _ _ (read_pos hx) (read_pos hy)
  refine ⟨Ieee.double.write d, ?_, write_pos d hd⟩
  show Ieee.double.add x y = _
  unfold Ieee.Format.add
  rw [e]; rfl
def ordW (x y : Nat) : Option Ordering := FloatKind.f64.format.order x y
/-- A cost: two words. -/
structure Cost where
  re : Nat
  im : Nat
def Cost.ok (c : Cost) : Prop := posW c.re ∧ posW c.im
def Cost.plus (a b : Cost) : Cost := ⟨(floatBits .add .f64 a.re b.re).getD 0, (floatBits .add .f64 a.im b.im).getD 0⟩
theorem Cost.plus_ok {a b : Cost} (ha : a.ok) (hb : b.ok) : (a.plus b).ok ∧ cSumBits .add .f64 a.re a.im b.re b.im = some ((a.plus b).re, (a.plus b).im) := by
  obtain ⟨r, hr, h1⟩ := addW_pos ha.1 hb.1
  obtain ⟨i, hi, h2⟩ := addW_pos ha.2 hb.2
  unfold Cost.plus cSumBits
  rw [hr, hi]
  exact ⟨⟨h1, h2⟩, rfl⟩
def Cost.cheaper (a b : Cost) : Bool := if (!(ordW a.re b.re == some .eq)) = true then ordW a.re b.re == some .lt else ordW a.im b.im == some .lt
def Cost.same (a b : Cost) : Bool := (ordW a.re b.re == some .eq) && (ordW a.im b.im == some .eq)
def c0 : Cost := ⟨0, 0⟩
def cOne : Cost := ⟨4607182418800017408, 4607182418800017408⟩
def cSum : Cost := ⟨4611686018427387904, 4607182418800017408⟩
def cSome : Cost := ⟨4620693217682128896, 4607182418800017408⟩
def cLots : Cost := ⟨4632233691727265792, 4607182418800017408⟩
def cEach : Cost := ⟨4652007308841189376, 0⟩
theorem c0_ok : c0.ok := ⟨by decide, by decide⟩
theorem cOne_ok : cOne.ok := ⟨by decide, by decide⟩
theorem cSum_ok : cSum.ok := ⟨by decide, by decide⟩
theorem cSome_ok : cSome.ok := ⟨by decide, by decide⟩
theorem cLots_ok : cLots.ok := ⟨by decide, by decide⟩
theorem cEach_ok : cEach.ok := ⟨by decide, by decide⟩
end Go.Proofs.YtnnjcedlomfhoaaGreatDoor
namespace Go.Proofs.YtnnjcedlomfhoaaGreatDoor
open Go.RowKit
set_option linter.unusedVariables false
def heldI (n : Int) : Int := if n < 0 then 0 else if 281474976710655 < n then 281474976710655 else n
theorem heldI_0 (n : Int) : 0 ≤ heldI n := by unfold heldI; split <;> (try split) <;> omega
theorem heldI_1 (n : Int) : heldI n ≤ 281474976710655 := by unfold heldI; split <;> (try split) <;> omega
theorem held_any (n : Int) (w : World) : Calls Tryz.prog 44 #[.int .i64 n] w fun e w' => e = .returned (.int .i64 (heldI n)) ∧ w = w' := by
  by_cases h0 : n < 0
  · have h := hide (show heldI n = 0 by simp [heldI, h0])
    go_enter Tryz.func44, Tryz.ntmps44
    go_wp2
    go_ret
    exact ⟨ret_int h.out.symm, rfl⟩
  · by_cases h1 : 281474976710655 < n
    · have h := hide (show heldI n = 281474976710655 by simp [heldI, h0, h1])
      go_enter Tryz.func44, Tryz.ntmps44
      go_wp2
      go_ret
      exact ⟨ret_int h.out.symm, rfl⟩
    · have H : Hid (heldI n = n) := by simp [heldI, h0, h1, Hid]
      go_enter Tryz.func44, Tryz.ntmps44
      go_wp2
      go_ret
      exact ⟨by simp [H.out], rfl⟩
/-- Bytes in order. -/
def lessB : List UInt8 → List UInt8 → Bool
  | [], [] => false
  | [], _ :: _ => true
  | _ :: _, [] => false
  | a :: l, b :: r => if a = b then lessB l r else decide (a < b)
theorem lessB_app (p l r : List UInt8) : lessB (p ++ l) (p ++ r) = lessB l r := by
  induction p with
  | nil => rfl
  | cons a p ih => simp [lessB, ih]
theorem lessB_split (k : Nat) (xs ys : List UInt8) (h : xs.take k = ys.take k) : lessB xs ys = lessB (xs.drop k) (ys.drop k) := by
  rw [← List.take_append_drop k xs, ← List.take_append_drop k ys, h, lessB_app]
  rw [← h, List.take_append_drop, h, List.take_append_drop]
end Go.Proofs.YtnnjcedlomfhoaaGreatDoor
namespace Go.Proofs.YtnnjcedlomfhoaaGreatDoor
open Go.RowKit
set_option linter.unusedVariables false
theorem drop_cons {α : Type} (l : List α) (k : Nat) (h : k < l.length) : l.drop k = l[k] :: l.drop (k + 1) := (List.drop_eq_getElem_cons h)
theorem take_next {α : Type} {xs ys : List α} {k : Nat} (h : xs.take k = ys.take k) (h1 : k < xs.length) (h2 : k < ys.length) (e : xs[k] = ys[k]) : xs.take (k + 1) = ys.take (k + 1) := by
  rw [List.take_succ_eq_append_getElem h1, List.take_succ_eq_append_getElem h2, h, e]
theorem lessB_ne {xs ys : List UInt8} {k : Nat} (h : xs.take k = ys.take k) (h1 : k < xs.length) (h2 : k < ys.length) (e : xs[k] ≠ ys[k]) : lessB xs ys = decide ((xs[k].toNat : Int) < (ys[k].toNat : Int)) := by
  rw [lessB_split k xs ys h, drop_cons xs k h1, drop_cons ys k h2]
  simp [lessB, e, UInt8.lt_iff_toNat_lt]
theorem lessB_end {xs ys : List UInt8} {k : Nat} (h : xs.take k = ys.take k) (hx : k ≤ xs.length) (hy : k ≤ ys.length) (he : k = xs.length ∨ k = ys.length) : lessB xs ys = decide (xs.length < ys.length) := by
  rw [lessB_split k xs ys h]
  rcases he with rfl | rfl
  · rw [List.drop_length]
    cases hd : ys.drop xs.length with
    | nil => have := congrArg List.length hd; simp at this; simp [lessB]; omega
    | cons a t => have := congrArg List.length hd; simp at this; simp [lessB]; omega
  · rw [List.drop_length]
    cases hd : xs.drop ys.length with
    | nil => have := congrArg List.length hd; simp at this; simp [lessB]; omega
    | cons a t => have := congrArg List.length hd; simp at this; simp [lessB]; omega
set_option maxHeartbeats 400000 in
theorem less_any (A B : Option Addr) (n m c d : Nat) (xs ys : List UInt8) (w : World) (ha : RB w w.heap.size A n xs) (hb : RB w w.heap.size B m ys)
    (hn : n ≤ 1000) (hm : m ≤ 1000) :
    Calls Tryz.prog 14 #[.slice A n c, .slice B m d] w fun e w' => e = .returned (.bool (lessB xs ys)) ∧ Qt w w' := by
  have hxl := hide ha.len
  have hyl := hide hb.len
  have HA := hide ha
  have HB := hide hb
  clear ha hb
  go_enter Tryz.func14, Tryz.ntmps14
  go_wp2
  go_loopw [5] (fun i wr => ∃ k q : Nat, k ≤ n ∧ k ≤ m ∧ i = .int .i64 k ∧ wr = w.drewN q ∧ Hid (xs.take k = ys.take k)) (fun i _ => n - (intOf i).toNat)
  case atStart => exact ⟨0, 0, by omega, by omega, rfl, rfl, by simp [Hid]⟩
  case round =>
    obtain ⟨k, q, hk, hk', rfl, rfl, HT⟩ := hrel
    by_cases h1 : k < n
    · by_cases h2 : k < m
      · have hx1 : k < xs.length := by have := hxl.out; omega
        have hy1 : k < ys.length := by have := hyl.out; omega
        obtain ⟨ad, rfl, _, ca⟩ := HA.out.elem h1 hx1
        obtain ⟨bd, rfl, _, cb⟩ := HB.out.elem h2 hy1
        have HN := hide (lessB_ne HT.out hx1 hy1)
        have HE := hide (take_next HT.out hx1 hy1)
        by_cases he : xs[k] = ys[k]
        · have HE := hide (HE.out he)
          rw [← he] at cb
          clear HA HB HN HT he
          generalize (xs[k].toNat : Int) = x at ca cb
          go_wp2
          go_quiet (fail)
          go_wp2
          go_roundw
          case rel => exact ⟨k + 1, _, by omega, by omega, by go_num, rfl, HE⟩
          case measure => simp [intOf]; omega
        · have HN := hide (HN.out he)
          have hne : ((xs[k].toNat : Int) != (ys[k].toNat : Int)) = true := by
            rw [bne_iff_ne]; intro h; apply he; apply UInt8.toNat_inj.1; omega
          clear HA HB HE HT he
          generalize (xs[k].toNat : Int) = x at ca hne HN
          generalize (ys[k].toNat : Int) = y at cb hne HN
          go_wp2
          go_quiet (fail)
          go_wp2
          go_quiet (fail)
          go_wp2
          go_ret
          exact ⟨ret_bool HN.out.symm, by repeat (first | exact Qt.refl _ | apply Qt.drewN | apply Qt.drew)⟩
      · have HN := hide (lessB_end HT.out (by have := hxl.out; omega) (by have := hyl.out; omega) (.inr (by have := hyl.out; omega)))
        rw [hxl.out, hyl.out] at HN
        go_wp2
        go_ret
        exact ⟨ret_bool HN.out.symm, by repeat (first | exact Qt.refl _ | apply Qt.drewN | apply Qt.drew)⟩
    · have HN := hide (lessB_end HT.out (by have := hxl.out; omega) (by have := hyl.out; omega) (.inl (by have := hxl.out; omega)))
      rw [hxl.out, hyl.out] at HN
      go_wp2
      go_ret
      exact ⟨ret_bool HN.out.symm, by repeat (first | exact Qt.refl _ | apply Qt.drewN | apply Qt.drew)⟩
end Go.Proofs.YtnnjcedlomfhoaaGreatDoor
namespace Go.Proofs.YtnnjcedlomfhoaaGreatDoor
open Go.RowKit
set_option linter.unusedVariables false
theorem byte_info : (Tryz.prog.info? 5).map (fun i => (i.zero, i.size, i.bytes)) = some (some (.int .u8 0), 1, 1) := by kernel_rfl
/-- The call owns the row of bytes: nil, or at the head of a block from 'base' on. -/
def OB (w : World) (base : Nat) (v : Value) (n : Nat) (l : List UInt8) : Prop := w.ownsRow base 5 1 v n (bv l)
section
variable {w w' : World} {base n : Nat} {v : Value} {l : List UInt8}
theorem OB.nil (w : World) (base : Nat) : OB w base (.slice none 0 0) 0 [] := ⟨by simp [bv], .inl ⟨rfl, rfl⟩⟩
theorem OB.empty (w : World) {base : Nat} (h : base ≤ w.heap.size) : OB (w.alloc (.cells #[] 5)) base (.slice (some ⟨w.heap.size, 0, none⟩) 0 0) 0 [] :=
  ⟨by simp [bv], .inr ⟨w.heap.size, 0, #[], rfl, h, heap_alloc_new w _, Nat.le_refl _, Nat.zero_le _, rfl, rfl⟩⟩
theorem OB.len (h : OB w base v n l) : l.length = n := by have := h.1; simpa [bv] using this
theorem OB.form (h : OB w base v n l) : ∃ A c, v = .slice A n c ∧ RB w w.heap.size A n l ∧ (A = none → n = 0) ∧ n ≤ c ∧ c ≤ maxLen := by
  have h2 := h.2
  rcases h2 with ⟨rfl, rfl⟩ | ⟨g, cap, cur, rfl, _, _, h3, h4, _⟩
  · exact ⟨none, 0, rfl, Reads.of_own h, fun _ => rfl, Nat.le_refl _, Nat.zero_le _⟩
  · exact ⟨_, _, rfl, Reads.of_own h, (fun e => by cases e), h3, h4⟩
theorem OB.below {B : Nat} (h : OB w base v n l) (hb : Below B w w') (hs : w.heap.size ≤ B) : OB w' base v n l := by
  obtain ⟨h1, h2⟩ := h
  refine ⟨h1, ?_⟩
  rcases h2 with h2 | ⟨g, cap, cur, hv, hg, hh, r⟩
  · exact Or.inl h2
  · have hlt : g < w.heap.size := by
      rcases Nat.lt_or_ge g w.heap.size with hlt | hge
      · exact hlt
      · rw [Array.getElem?_eq_none hge] at hh; cases hh
    exact Or.inr ⟨g, cap, cur, hv, hg, by rw [hb.block g (by omega)]; exact hh, r⟩
theorem OB.more {b' : Nat} (h : OB w base v n l) (hb : b' ≤ base) : OB w b' v n l := by
  obtain ⟨h1, h2⟩ := h
  refine ⟨h1, ?_⟩
  rcases h2 with h2 | ⟨g, cap, cur, hv, hg, hh, r⟩
  · exact Or.inl h2
  · exact Or.inr ⟨g, cap, cur, hv, by omega, hh, r⟩
theorem OB.alloc (h : OB w base v n l) (o : Obj) : OB (w.alloc o) base v n l := World.ownsRow.alloc h o
theorem OB.drew (h : OB w base v n l) : OB w.drew base v n l := h
theorem OB.drewN (h : OB w base v n l) (k : Nat) : OB (w.drewN k) base v n l := h
theorem OB.block_lt (h : OB w base v n l) (k : Nat) (hk : v.ownBlock = some k) : base ≤ k := by
  rcases h.2 with ⟨rfl, rfl⟩ | ⟨g, cap, cur, rfl, hg, _⟩
  · simp [Value.ownBlock] at hk
  · simp [Value.ownBlock] at hk; omega
theorem OB.cut {g cap k : Nat} (h : OB w base (.slice (some ⟨g, 0, none⟩) n cap) n l) (hk : k ≤ n) : OB w base (.slice (some ⟨g, 0, none⟩) k cap) k (l.take k) := by
  obtain ⟨h1, h2⟩ := h
  rcases h2 with ⟨h0, _⟩ | ⟨g', cap', cur, hv, hg, hh, hn, hcap, hsz, htake⟩
  · cases h0
  · cases hv
    refine ⟨?_, .inr ⟨g, cap, cur, rfl, hg, hh, by omega, hcap, hsz, ?_⟩⟩
    · rw [bv_length] at h1 ⊢
      rw [List.length_take]; omega
    · have h3 : (cur.toList.take (n * 1)).take (k * 1) = (bv l).take (k * 1) := by rw [htake]
      rw [List.take_take, Nat.min_eq_left (by omega)] at h3
      rw [h3, bv, bv, List.map_take, Nat.mul_one]
theorem OB.cell {g cap k : Nat} (h : OB w base (.slice (some ⟨g, 0, none⟩) n cap) n l) (hk : k < n) (hl : k < l.length) : w.cell? ⟨g, k, none⟩ = some (.int .u8 ((l[k]).toNat : Int)) := by
  rw [World.ownsRow.cellAt h k (by omega), bv_get hl]
theorem OB.froz {g cap k : Nat} (h : OB w base (.slice (some ⟨g, 0, none⟩) n cap) n l) : w.frozen? ⟨g, k, none⟩ = false := World.ownsRow.frozenAt h k
theorem OB.stored {g cap : Nat} (h : OB w base (.slice (some ⟨g, 0, none⟩) n cap) n l) (j : Nat) (b : UInt8) :
    OB (w.setCell ⟨g, j, none⟩ (.int .u8 (b.toNat : Int))) base (.slice (some ⟨g, 0, none⟩) n cap) n (l.set j b) := by
  have := (World.ownsRow.stored h j (.int .u8 (b.toNat : Int))).1
  unfold OB
  rw [show bv (l.set j b) = (bv l).set j (.int .u8 (b.toNat : Int)) from by simp [bv, List.map_set]]
  exact this
theorem OB.base_le {g cap : Nat} (h : OB w base (.slice (some ⟨g, 0, none⟩) n cap) n l) : base ≤ g := h.block_lt g rfl
/-- nil, or the head of a block. -/
theorem OB.parts (h : OB w base v n l) : (v = .slice none 0 0 ∧ n = 0 ∧ l = []) ∨ ∃ g cap, v = .slice (some ⟨g, 0, none⟩) n cap ∧ n ≤ cap ∧ cap ≤ maxLen := by
  rcases h.2 with ⟨rfl, rfl⟩ | ⟨g, cap, cur, rfl, _, _, h3, h4, _⟩
  · exact .inl ⟨rfl, rfl, List.eq_nil_of_length_eq_zero h.len⟩
  · exact .inr ⟨g, cap, rfl, h3, h4⟩
end
theorem RB.one_new (w : World) (b : UInt8) (t : TypeId) : RB (w.alloc (.cells #[.int .u8 (b.toNat : Int)] t)) (w.heap.size + 1) (some ⟨w.heap.size, 0, none⟩) 1 [b] := by
  refine ⟨by simp [bv], fun _ => ⟨_, rfl, by simp, fun j u hj => ?_⟩⟩
  match j, hj with
  | 0, hj => simp [bv] at hj; subst hj; simp [Addr.add]
/-- The call returns a row of bytes of its own; what was there is as it was. -/
def RetB (W : World) (l : List UInt8) (e : Ending) (w' : World) : Prop := ∃ v, e = .returned v ∧ OB w' W.heap.size v l.length l ∧ Below W.heap.size W w'
theorem RetB.mk {W w' : World} {l : List UInt8} {v : Value} {n : Nat} (h : OB w' W.heap.size v n l) (hb : Below W.heap.size W w') : RetB W l (.returned v) w' :=
  ⟨v, rfl, by rw [h.len]; exact h, hb⟩
theorem RetB.mk2 {W w' : World} {l l' : List UInt8} {v : Value} {n : Nat} (h : OB w' W.heap.size v n l') (e : l = l') (hb : Below W.heap.size W w') : RetB W l (.returned v) w' := by
  subst e
  exact RetB.mk h hb
section
variable {ops : Array Oper} {rest : List Oper} {o : Oper} {a : Act} {Q : Exit → Act → World → Prop}
/-- append(v, x...) -/
theorem wpList_app_b {w : World} (hgd : o.guard = none) (s x : Operand) (ho : o.op = .call { callee := .builtin .append, args := #[s, x], argTypes := #[32, 32] })
    (base : Nat) (v : Value) (n : Nat) (l : List UInt8) (hown : OB w base v n l) (hs : a.eval s = v)
    (B : Nat) (A : Option Addr) (m c : Nat) (news : List UInt8) (hx : a.eval x = .slice A m c) (hr : RB w B A m news)
    (hlen : n + m ≤ 140737488351232) (hbase : base ≤ w.heap.size)
    (h : ∀ v' w', OB w' base v' (n + m) (l ++ news) → Below base w w' → w.grownBy w' v.ownBlock → (v'.ownBlock = v.ownBlock ∨ v'.ownBlock = some w.heap.size) → wpList Tryz.prog ops Q rest (a.put o.dst v') w') :
    wpList Tryz.prog ops Q (o :: rest) a w := by
  obtain ⟨i0, hi0, hz0, hz1, hz2⟩ := info_parts byte_info
  refine wpList_append_any w hgd s x _ ho base 5 i0 _ 1 1 Tryz.underlying32 hi0 hz0 hz1 hz2 rfl (by omega) v n (bv l) hs hown B A m c (bv news) hx hr (bv_one _)
    (by simp only [maxLen]; omega) (by omega) hbase fun v' w' h1 h2 h3 => ?_
  rw [← bv_append] at h1
  exact h v' w' h1 ((Below.refl _ _).grown h2 hbase fun k hk => hown.block_lt k hk) h2 h3
/-- append(v, x), one byte. -/
theorem wpList_app_1 {w : World} {x' : Int} {t : TypeId} (b : UInt8) (hbx : x' = (b.toNat : Int)) (hgd : o.guard = none) (s x : Operand) (ho : o.op = .call { callee := .builtin .append, args := #[s, x], argTypes := #[32, 32] })
    (base : Nat) (v : Value) (n : Nat) (l : List UInt8) (hown : OB w base v n l) (hs : a.eval s = v) (c : Nat)
    (hx : a.eval x = .slice (some ⟨w.heap.size, 0, none⟩) 1 c)
    (hlen : n + 1 ≤ 140737488351232) (hbase : base ≤ w.heap.size)
    (h : ∀ v' w', OB w' base v' (n + 1) (l ++ [b]) → Below base w w' → w.grownBy w' v.ownBlock → wpList Tryz.prog ops Q rest (a.put o.dst v') w') :
    wpList Tryz.prog ops Q (o :: rest) a (w.alloc (.cells #[.int .u8 x'] t)) := by
  subst hbx
  refine wpList_app_b hgd s x ho base v n l (hown.alloc _) hs _ _ 1 c [b] hx (RB.one_new w b t) hlen (by simp; omega) fun v' w' h1 h2 h3 h4 => ?_
  refine h v' w' h1 ?_ ⟨h3.os, h3.tape, h3.output, ?_, fun k hk hne => ?_⟩
  · exact ((Below.refl _ _).alloc hbase _).trans h2
  · have := h3.size; simp at this; omega
  · rw [h3.block k (by simp; omega) hne]
    exact Below.heap_alloc _ _ _ hk
end
end Go.Proofs.YtnnjcedlomfhoaaGreatDoor
namespace Go.Proofs.YtnnjcedlomfhoaaGreatDoor
open Go.RowKit
set_option linter.unusedVariables false
set_option maxHeartbeats 400000 in
theorem bclone_any (A : Option Addr) (n c : Nat) (xs : List UInt8) (w : World) (ha : RB w w.heap.size A n xs) (hn : n ≤ 140737488351232) :
    Calls Tryz.prog 83 #[.slice A n c] w (RetB w xs) := by
  have hnil := fun wx => Lib.run_eql_slice_nil (P := Tryz.prog) wx 32 5 A n c 0 0 Tryz.underlying32
  rcases A with _ | ad
  · have hn0 : n = 0 := by
      rcases Nat.eq_zero_or_pos n with h0 | h0
      · exact h0
      · obtain ⟨ad, h, _⟩ := ha.2 h0; cases h
    subst hn0
    have hx : xs = [] := List.eq_nil_of_length_eq_zero ha.len
    subst hx
    clear ha
    go_enter Tryz.func83, Tryz.ntmps83
    go_wp2
    go_ret
    exact RetB.mk (OB.nil _ _) (Below.refl _ _)
  · have HA := hide ha
    clear ha
    go_enter Tryz.func83, Tryz.ntmps83
    go_wp2_with (at_builtin; refine wpList_app_b rfl (.tmp 5) (.tmp 6) rfl w.heap.size _ 0 [] (OB.empty w (Nat.le_refl _)) rfl w.heap.size (some ad) n c xs rfl (HA.out.alloc (Nat.le_refl _) _) (by omega) (by simp) ?_; intro v1 w1 hown1 hb1 hg1 hat1)
    go_ret
    exact RetB.mk hown1 (((Below.refl _ _).alloc (Nat.le_refl _) _).trans hb1)
end Go.Proofs.YtnnjcedlomfhoaaGreatDoor
namespace Go.Proofs.YtnnjcedlomfhoaaGreatDoor
open Go.RowKit
set_option linter.unusedVariables false
def byteN (z : Int) (k : Nat) : UInt8 := UInt8.ofNat (z.toNat / 256 ^ k)
def numB (z : Int) : List UInt8 := [byteN z 5, byteN z 4, byteN z 3, byteN z 2, byteN z 1, byteN z 0]
/-- the bytes of one number that have been put when the inner loop stands at k (5 .. -1): the first 5 - k. -/
def numsB (l : List Int) : List UInt8 := l.flatMap fun z => numB (heldI z)
theorem byteN_eq (z : Int) (i : Nat) (h0 : 0 ≤ z) (hi : i < 6) : z / 2 ^ (8 * (5 - i)) % 256 = ((byteN z (5 - i)).toNat : Int) := by
  obtain ⟨n, rfl⟩ := Int.eq_ofNat_of_zero_le h0
  unfold byteN
  rw [UInt8.toNat_ofNat', Int.toNat_natCast, show (256 : Nat) = 2 ^ 8 from rfl, ← Nat.pow_mul, Int.natCast_emod, Int.natCast_ediv, Int.natCast_pow]
  rfl
theorem numB_take (z : Int) (i : Nat) (hi : i < 6) : (numB z).take (i + 1) = (numB z).take i ++ [byteN z (5 - i)] := by
  match i, hi with
  | 0, _ => rfl
  | 1, _ => rfl
  | 2, _ => rfl
  | 3, _ => rfl
  | 4, _ => rfl
  | 5, _ => rfl
theorem numsB_snoc (zs : List Int) (k : Nat) (h : k < zs.length) : numsB (zs.take (k + 1)) = numsB (zs.take k) ++ numB (heldI zs[k]) := by
  unfold numsB
  rw [List.take_succ_eq_append_getElem h, List.flatMap_append]
  simp
set_option maxHeartbeats 400000 in
theorem num_any (A B : Option Addr) (n m c d : Nat) (xs : List UInt8) (zs : List Int) (w : World) (ha : RB w w.heap.size A n xs) (hb : RI w w.heap.size B m zs)
    (hn : n ≤ 100000) (hm : m ≤ 100000) :
    Calls Tryz.prog 85 #[.slice A n c, .slice B m d] w (RetB w (xs ++ numsB zs)) := by
  have hnl := hide ha.len
  have hzl := hide hb.len
  have HA := hide ha
  have HB := hide hb
  clear ha hb
  go_enter Tryz.func85, Tryz.ntmps85
  go_wp2_with fail
  refine (bclone_any _ _ _ _ _ HA.out (by omega)).mono ?_
  rintro e w1 ⟨v1, rfl, hown1, hb1⟩
  rw [hnl.out] at hown1
  replace hown1 := hide hown1
  go_wp2_with fail
  go_loopw [5, 13] (fun v i wr => ∃ k : Nat, k ≤ m ∧ i = .int .i64 k ∧ Hid (OB wr w.heap.size v (n + 6 * k) (xs ++ numsB (zs.take k))) ∧ Below w.heap.size w wr) (fun _ i _ => m - (intOf i).toNat)
  case atStart => exact ⟨0, by omega, rfl, by simpa [numsB] using hown1, hb1⟩
  case round =>
    obtain ⟨k, hk, rfl, HO, hbl⟩ := hrel
    by_cases h1 : k < m
    · have hz1 : k < zs.length := by have := hzl.out; omega
      obtain ⟨bd, rfl, hbb, cb⟩ := (HB.out.below hbl).elem h1 hz1
      go_upto_region 5 with (fail)
      go_cut [7] (fun v wx => v = .int .i64 (heldI zs[k]) ∧ wx = wr)
      case first =>
        by_cases c1 : zs[k] < 0
        · have hc : heldI zs[k] = 0 := by simp [heldI, c1]
          have hc := hide hc
          go_wp2
          go_meet
          exact ⟨by rw [hc.out], rfl⟩
        · by_cases c2 : 281474976710655 < zs[k]
          · have hc : heldI zs[k] = 281474976710655 := by simp [heldI, c1, c2]
            have hc := hide hc
            go_wp2
            go_meet
            exact ⟨by rw [hc.out], rfl⟩
          · have hc : heldI zs[k] = zs[k] := by simp [heldI, c1, c2]
            have hc := hide hc
            go_wp2
            go_meet
            exact ⟨by rw [hc.out], rfl⟩
      case rest =>
        obtain ⟨rfl, rfl⟩ := hcut
        have b0 := heldI_0 zs[k]
        have b1 := heldI_1 zs[k]
        have HS : Hid (numsB (zs.take (k + 1)) = numsB (zs.take k) ++ numB (heldI zs[k])) := by
          exact numsB_snoc zs k hz1
        generalize heldI zs[k] = z at *
        go_wp2_with fail
        go_loopw [5, 8] (fun v j wr => ∃ i : Nat, i ≤ 6 ∧ j = .int .i64 (5 - (i : Int)) ∧ Hid (OB wr w.heap.size v (n + 6 * k + i) (xs ++ numsB (zs.take k) ++ (numB z).take i)) ∧ Below w.heap.size w wr) (fun _ j _ => (intOf j + 1).toNat)
        case atStart => exact ⟨0, by omega, by go_num, by simpa using HO, hbl⟩
        case round =>
          clear hbl HO cb
          obtain ⟨i, hi, rfl, HO, hbl⟩ := hrel
          have hsz := hbl.size
          by_cases hi6 : i < 6
          · have hbyte := hide (byteN_eq z i b0 hi6)
            go_wp2_with (at_builtin; refine wpList_app_1 (byteN z (5 - i)) hbyte.out rfl (.tmp 24) (.tmp 30) rfl w.heap.size _ _ _ HO.out rfl _ rfl (by omega) hsz ?_; intro v2 w2 hown2 hb2 hg2)
            replace hown2 := hide hown2
            have hbl2 := hbl.trans hb2
            clear hbl hb2 hg2
            go_wp2
            go_roundw
            case rel => exact ⟨i + 1, by omega, by go_num, by have := hown2.out; rw [List.append_assoc, ← numB_take z i hi6] at this; exact this, hbl2⟩
            case measure => simp [intOf]; omega
          · have hi6' : i = 6 := by omega
            subst hi6'
            have HO2 : Hid (OB wr w.heap.size u5 (n + 6 * (k + 1)) (xs ++ numsB (zs.take (k + 1)))) := by
              show OB _ _ _ _ _
              rw [HS.out, ← List.append_assoc, show n + 6 * (k + 1) = n + 6 * k + 6 from by omega]
              exact HO.out
            clear HO HS
            go_wp2
            go_roundw
            case rel => exact ⟨k + 1, by omega, by go_num, HO2, hbl⟩
            case measure => simp [intOf]; omega
    · have hkm : k = m := by omega
      have HO2 : Hid (OB wr w.heap.size u5 (n + 6 * m) (xs ++ numsB zs)) := by
        subst hkm
        have := HO.out
        rw [List.take_of_length_le (by have := hzl.out; omega)] at this
        exact this
      clear HO
      have hk2 : m ≤ k := by omega
      clear hkm
      go_wp2
      go_ret
      exact RetB.mk HO2.out hbl
end Go.Proofs.YtnnjcedlomfhoaaGreatDoor
namespace Go.Proofs.YtnnjcedlomfhoaaGreatDoor
open Go.RowKit
set_option linter.unusedVariables false
/-- The least key above all that begin so, on a list read from its end. -/
def aboveR : List UInt8 → List UInt8
  | [] => []
  | b :: r => if b = 255 then aboveR r else (b + 1) :: r
def aboveB (l : List UInt8) : List UInt8 := (aboveR l.reverse).reverse
theorem aboveB_snoc (l : List UInt8) (b : UInt8) : aboveB (l ++ [b]) = if b = 255 then aboveB l else l ++ [b + 1] := by
  unfold aboveB
  rw [List.reverse_append]
  simp only [List.reverse_cons, List.reverse_nil, List.nil_append, List.cons_append, aboveR]
  split <;> simp
theorem aboveB_take (l : List UInt8) (k : Nat) (h : k < l.length) : aboveB (l.take (k + 1)) = if l[k] = 255 then aboveB (l.take k) else l.take k ++ [l[k] + 1] := by
  rw [List.take_succ_eq_append_getElem h, aboveB_snoc]
theorem aboveB_set (l : List UInt8) (k : Nat) (h : k < l.length) : (l.take (k + 1)).set k (l[k] + 1) = l.take k ++ [l[k] + 1] := by
  rw [List.take_succ_eq_append_getElem h, List.set_append_right _ _ (by simp; omega)]
  simp [Nat.min_eq_left (Nat.le_of_lt h)]
theorem u8_next (b : UInt8) (h : b ≠ 255) : ((b + 1).toNat : Int) = (b.toNat : Int) + 1 := by
  have : b.toNat ≠ 255 := fun e => h (by apply UInt8.toNat_inj.1; simpa using e)
  have := b.toNat_lt
  rw [UInt8.toNat_add]; simp; omega
set_option maxHeartbeats 400000 in
theorem above_any (A : Option Addr) (n c : Nat) (xs : List UInt8) (w : World) (ha : RB w w.heap.size A n xs) (hn : n ≤ 100000) :
    Calls Tryz.prog 82 #[.slice A n c] w (RetB w (aboveB xs)) := by
  have hnl := hide ha.len
  have HA := hide ha
  clear ha
  go_enter Tryz.func82, Tryz.ntmps82
  go_wp2_with fail
  refine (bclone_any _ _ _ _ _ HA.out (by omega)).mono ?_
  rintro e w1 ⟨v1, rfl, hown1, hb1⟩
  rw [hnl.out] at hown1
  have hxl := hnl
  rcases hown1.parts with ⟨rfl, rfl, rfl⟩ | ⟨g, cap, rfl, hcap, hcap2⟩
  · clear hown1
    go_wp2_with fail
    refine wp_loop_rounds 1 ?_
    rw [rounds_succ]
    go_wp2
    go_ret
    exact RetB.mk (OB.nil _ _) hb1
  · replace hown1 := hide hown1
    go_wp2_with fail
    go_loop [3] (fun v => ∃ k : Nat, k ≤ n ∧ v = .slice (some ⟨g, 0, none⟩) k cap ∧ Hid (aboveB xs = aboveB (xs.take k))) (fun v => match v with | .slice _ k _ => k | _ => 0)
    case atStart => exact ⟨n, Nat.le_refl _, rfl, by have := hxl.out; rw [Hid, List.take_of_length_le (by omega)]⟩
    case round =>
      obtain ⟨k, hk, rfl, HE⟩ := hrel
      by_cases h0 : k = 0
      · subst h0
        have hnil : Hid (aboveB xs = []) := by rw [Hid, HE.out]; rfl
        go_wp2
        go_ret
        exact RetB.mk2 (OB.nil _ _) hnil.out hb1
      · obtain ⟨j, rfl⟩ : ∃ j, k = j + 1 := ⟨k - 1, by omega⟩
        have hj : j < xs.length := by have := hxl.out; omega
        have hc := hown1.out.cell (k := j) (by omega) hj
        have hf := hown1.out.froz (k := j)
        have hT := hide (aboveB_take xs j hj)
        by_cases h255 : xs[j] = 255
        · have HE2 : Hid (aboveB xs = aboveB (xs.take j)) := by rw [Hid, HE.out, hT.out, if_pos h255]
          rw [h255, show (((255 : UInt8).toNat : Int)) = 255 from rfl] at hc
          clear hT HE h255
          go_wp2
          go_round
          case rel => exact ⟨j, by omega, by go_num, HE2⟩
          case measure => simp
        · have hne : ((xs[j].toNat : Int) == 255) = false := by
            rw [beq_eq_false_iff_ne]; intro e; apply h255; apply UInt8.toNat_inj.1
            have : (255 : UInt8).toNat = 255 := rfl
            omega
          have HE2 : Hid (aboveB xs = (xs.take (j + 1)).set j (xs[j] + 1)) := by rw [Hid, HE.out, hT.out, if_neg h255, aboveB_set]
          have HU := hide (u8_next xs[j] h255)
          have HB := hide ((hown1.out.cut hk).stored j (xs[j] + 1))
          have hgb := hown1.out.base_le
          rw [HU.out] at HB
          have hlt := xs[j].toNat_lt
          have hlt2 : (xs[j].toNat : Int) ≤ 254 := by
            have : (xs[j].toNat : Int) ≠ 255 := by simpa using hne
            omega
          have hge : 0 ≤ (xs[j].toNat : Int) := by omega
          clear hT HE h255 HU
          generalize (xs[j].toNat : Int) = x at *
          go_wp2
          go_ret
          exact RetB.mk2 HB.out HE2.out (hb1.setCell hgb _)
end Go.Proofs.YtnnjcedlomfhoaaGreatDoor
namespace Go.Proofs.YtnnjcedlomfhoaaGreatDoor
set_option linter.unusedVariables false
def txtF (x : UInt8) : List UInt8 := if x = 0 then [0, 255] else [x]
def textB (s : List UInt8) : List UInt8 := s.flatMap txtF ++ [0, 1]
end Go.Proofs.YtnnjcedlomfhoaaGreatDoor
namespace Go.Proofs.YtnnjcedlomfhoaaGreatDoor
open Go.RowKit
set_option linter.unusedVariables false
/-- The string of a list of bytes. -/
def str (l : List UInt8) : ByteArray := ⟨l.toArray⟩
theorem str_size (l : List UInt8) : (str l).size = l.length := by simp [str, ByteArray.size]
theorem str_toList (l : List UInt8) : (str l).data.toList = l := by simp [str]
theorem str_eta (s : ByteArray) : str s.data.toList = s := by
  cases s; simp [str]
theorem data_len (s : ByteArray) : s.data.toList.length = s.size := Array.length_toList
theorem str_bytes (l : List UInt8) : (str l).toList = l := by rw [ByteArray.toList_eq]; simp [str]
theorem str_append (a b : List UInt8) : str a ++ str b = str (a ++ b) := by
  apply ByteArray.ext
  simp [str]
theorem str_extract (s : ByteArray) (a b : Nat) : s.extract a b = str ((s.data.toList.drop a).take (b - a)) := by
  apply ByteArray.ext
  apply Array.toList_inj.1
  simp [str, List.extract_eq_take_drop]
theorem str_get (s : ByteArray) (i : Nat) (h : i < s.size) (h2 : i < s.data.toList.length) : s[i] = s.data.toList[i] := by
  simp [ByteArray.getElem_eq_getElem_data]
end Go.Proofs.YtnnjcedlomfhoaaGreatDoor
namespace Go.Proofs.YtnnjcedlomfhoaaGreatDoor
open Go.RowKit
set_option linter.unusedVariables false
inductive Prt where
  | self (c : Int)
  | one
  | stars (deep : Bool)
  | cls (no : Bool) (l : List (Int × Int))
def isR (c : Int) (l : List Int) : Bool := l.head? == some c
def plainR : List Int → Option (Int × List Int)
  | [] => none
  | c :: r => if c = 92 then (match r with | [] => none | d :: s => some (d, s)) else some (c, r)
/-- Is a class's next part one of two runes? -/
def spanR (r : List Int) : Bool := decide (1 < r.length) && isR 45 r && !isR 93 r.tail
/-- One part of a class. -/
def pairR (l : List Int) : Option ((Int × Int) × List Int) :=
  match plainR l with
  | none => none
  | some (a, r) =>
    if spanR r = true then
      match plainR r.tail with
      | none => none
      | some (b, s) => if b < a then none else some ((a, b), s)
    else some ((a, a), r)
def classR : Nat → List (Int × Int) → List Int → Option (List (Int × Int) × List Int)
  | 0, _, _ => none
  | f + 1, acc, l =>
    if (!acc.isEmpty && isR 93 l) = true then some (acc, l.tail)
    else match pairR l with
      | none => none
      | some (x, r) => classR f (acc ++ [x]) r
def partR (l : List Int) : Option (Prt × List Int) :=
  if isR 63 l = true then some (.one, l.tail)
  else if isR 42 l = true then some (.stars (isR 42 l.tail), if isR 42 l.tail = true then l.tail.tail else l.tail)
  else if isR 91 l = true then
    (classR (l.length + 1) [] (if isR 33 l.tail = true then l.tail.tail else l.tail)).map fun x => (.cls (isR 33 l.tail) x.1, x.2)
  else (plainR l).map fun x => (.self x.1, x.2)
def globR : Nat → List Int → Option (List Prt)
  | 0, _ => none
  | f + 1, l => if l.isEmpty = true then some [] else match partR l with
    | none => none
    | some (p, r) => (globR f r).map (p :: ·)
/-- The runes of a string. -/
def runesG (s : ByteArray) : List Int := (Conv.runesFrom s s.size 0 #[]).toList.map intOf
def globP (s : List UInt8) : Option (List Prt) :=
  if 100 < s.length ∨ Lib.validD s = false then none else globR ((runesG (str s)).length + 1) (runesG (str s))
def globE (s : List UInt8) : Int := if 100 < s.length then 10 else if Lib.validD s = false then 4 else if (globP s).isSome = true then 0 else 4
theorem plainR_len {l : List Int} {c : Int} {r : List Int} (h : plainR l = some (c, r)) : r.length < l.length := by
  match l, h with
  | [], h => cases h
  | a :: t, h =>
    by_cases c92 : a = 92
    · subst c92
      match t, h with
      | [], h => cases h
      | d :: s, h =>
        obtain ⟨rfl, rfl⟩ : d = c ∧ s = r := by simpa [plainR] using h
        simp; omega
    · have e : plainR (a :: t) = some (a, t) := by
        cases t <;> simp [plainR, c92]
      rw [e] at h
      obtain ⟨rfl, rfl⟩ : a = c ∧ t = r := by simpa using h
      simp
theorem pairR_len {l : List Int} {x : Int × Int} {r : List Int} (h : pairR l = some (x, r)) : r.length < l.length := by
  unfold pairR at h
  cases hp : plainR l with
  | none => rw [hp] at h; cases h
  | some y =>
    obtain ⟨a, r1⟩ := y
    have h1 := plainR_len hp
    rw [hp] at h
    simp only [] at h
    split at h
    · cases hq : plainR r1.tail with
      | none => rw [hq] at h; cases h
      | some z =>
        obtain ⟨b, s⟩ := z
        have h2 := plainR_len hq
        have h3 : r1.tail.length ≤ r1.length := by simp
        rw [hq] at h
        simp only [] at h
        split at h
        · cases h
        · cases h; omega
    · cases h; omega
theorem classR_len : ∀ (f : Nat) (acc : List (Int × Int)) (l : List Int) {x : List (Int × Int)} {r : List Int}, classR f acc l = some (x, r) → r.length ≤ l.length
  | 0, _, _, _, _, h => by cases h
  | f + 1, acc, l, x, r, h => by
    rw [classR] at h
    split at h
    · cases h; simp
    · cases hp : pairR l with
      | none => rw [hp] at h; cases h
      | some y =>
        obtain ⟨p, s⟩ := y
        rw [hp] at h
        have h1 := pairR_len hp
        have h2 := classR_len f _ s h
        omega
/-- More fuel changes nothing. -/
theorem classR_fuel : ∀ (f g : Nat) (acc : List (Int × Int)) (l : List Int), l.length < f → l.length < g → classR f acc l = classR g acc l
  | 0, _, _, _, h, _ => absurd h (by omega)
  | _ + 1, 0, _, _, _, h => absurd h (by omega)
  | f + 1, g + 1, acc, l, h1, h2 => by
    rw [classR, classR]
    split
    · rfl
    · cases hp : pairR l with
      | none => rfl
      | some y =>
        obtain ⟨p, s⟩ := y
        have := pairR_len hp
        exact classR_fuel f g _ s (by omega) (by omega)
theorem isR_len {c : Int} {l : List Int} (h : isR c l = true) : l.tail.length < l.length := by
  cases l with
  | nil => simp [isR] at h
  | cons a t => simp
theorem partR_len {l : List Int} {p : Prt} {r : List Int} (h : partR l = some (p, r)) : r.length < l.length := by
  unfold partR at h
  split at h
  · rename_i h1
    have := isR_len h1
    cases h; exact this
  · split at h
    · rename_i h1 h2
      have := isR_len h2
      have h3 : l.tail.tail.length ≤ l.tail.length := by simp
      cases h
      split
      · omega
      · omega
    · split at h
      · rename_i h1 h2 h3
        have := isR_len h3
        obtain ⟨x, hx, e⟩ := Option.map_eq_some_iff.1 h
        cases e
        have h4 := classR_len _ _ _ hx
        have h5 : l.tail.tail.length ≤ l.tail.length := by simp
        split at h4
        · omega
        · omega
      · obtain ⟨x, hx, e⟩ := Option.map_eq_some_iff.1 h
        cases e
        exact plainR_len hx
theorem globR_fuel : ∀ (f g : Nat) (l : List Int), l.length < f → l.length < g → globR f l = globR g l
  | 0, _, _, h, _ => absurd h (by omega)
  | _ + 1, 0, _, _, h => absurd h (by omega)
  | f + 1, g + 1, l, h1, h2 => by
    rw [globR, globR]
    split
    · rfl
    · cases hp : partR l with
      | none => rfl
      | some y =>
        obtain ⟨p, s⟩ := y
        have := partR_len hp
        show (globR f s).map _ = (globR g s).map _
        rw [globR_fuel f g s (by omega) (by omega)]
/-- What has been read, and what is still to come. -/
def globA (acc : List Prt) (l : List Int) : Option (List Prt) := (globR (l.length + 1) l).map (acc ++ ·)
theorem globA_nil (acc : List Prt) : globA acc [] = some acc := by simp [globA, globR]
theorem globA_none (acc : List Prt) {l : List Int} (hl : l ≠ []) (h : partR l = none) : globA acc l = none := by
  rw [globA, globR, h, if_neg (by simpa using hl)]; rfl
theorem globA_step (acc : List Prt) {l r : List Int} {p : Prt} (h : partR l = some (p, r)) : globA acc l = globA (acc ++ [p]) r := by
  have hl := partR_len h
  have hne : l ≠ [] := by rintro rfl; simp at hl
  rw [globA, globR, h, if_neg (by simpa using hne)]
  show ((globR l.length r).map _).map _ = _
  rw [globA, globR_fuel l.length (r.length + 1) r hl (by omega), Option.map_map]
  congr 1
  funext x
  simp
theorem runes_shape (s : ByteArray) : ∀ (f i : Nat) (l : List Int), ∃ r : List Int, Conv.runesFrom s f i (l.map (Value.int .i32)).toArray = ((l ++ r).map (Value.int .i32)).toArray
  | 0, i, l => ⟨[], by simp [Conv.runesFrom]⟩
  | f + 1, i, l => by
    rw [Conv.runesFrom]
    split
    · obtain ⟨r, hr⟩ := runes_shape s f (i + (Utf8.decode s i).2) (l ++ [((Utf8.decode s i).1 : Int)])
      refine ⟨((Utf8.decode s i).1 : Int) :: r, ?_⟩
      have e : (l.map (Value.int .i32)).toArray.push (.int .i32 (Int.ofNat (Utf8.decode s i).1)) = ((l ++ [((Utf8.decode s i).1 : Int)]).map (Value.int .i32)).toArray := by simp
      simp only [e, hr]
      simp
    · exact ⟨[], by simp⟩
theorem runesG_eq (s : ByteArray) : Conv.runesFrom s s.size 0 #[] = ((runesG s).map (Value.int .i32)).toArray := by
  obtain ⟨r, hr⟩ := runes_shape s s.size 0 []
  have e : (([] : List Int).map (Value.int .i32)).toArray = #[] := rfl
  rw [e] at hr
  have h2 : runesG s = r := by
    unfold runesG
    rw [hr]
    simp only [List.nil_append, List.map_map]
    exact (List.map_congr_left (fun x _ => rfl)).trans (List.map_id _)
  rw [h2, hr]; simp
theorem runesG_len (s : ByteArray) : (runesG s).length ≤ s.size := by
  have h := size_runesFrom s s.size 0 #[]
  rw [runesG_eq] at h
  simpa using h
def formB : List UInt8 := [100, 100, 100, 100, 45, 100, 100, 45, 100, 100, 32, 100, 100, 58, 100, 100, 58, 100, 100]
structure Mom where
  n : Nat → Int
  k : Nat
/-- The numbers of a date's text, so far. -/
def dstep (f c : UInt8) (m : Mom) : Option Mom :=
  if f = 100 then (if c.toNat < 48 ∨ 57 < c.toNat then none else some ⟨fun j => if j = m.k then 10 * m.n m.k + ((c.toNat : Int) - 48) else m.n j, m.k⟩)
  else if c = f then some ⟨m.n, m.k + 1⟩ else none
def dscan (l : List UInt8) : Nat → Option Mom
  | 0 => some ⟨fun _ => 0, 0⟩
  | i + 1 => (dscan l i).bind (dstep (formB.getD i 0) (l.getD i 0))
end Go.Proofs.YtnnjcedlomfhoaaGreatDoor
namespace Go.Proofs.YtnnjcedlomfhoaaGreatDoor
set_option linter.unusedVariables false
section
variable {P : Program} {ops : Array Oper} {Q : Exit → Act → World → Prop} {md : Region.Mode}
/-- Every operation waits for such alone as stand ahead of it. -/
def Ahead (ops : Array Oper) : Bool := (List.range ops.size).all fun i => ((ops[i]?).map fun o => o.after.all fun e => decide (e.on < i)).getD false
theorem ready_none {listed : Array Bool} (hw : Ahead ops = true) (hr : Region.ready md ops listed = []) : ∀ i, i < ops.size → listed.getD i true = true := by
  intro i
  induction i using Nat.strongRecOn with
  | _ i ih =>
    intro hi
    cases hl : listed.getD i true with
    | true => rfl
    | false =>
      have hmem : i ∈ Region.ready md ops listed := by
        rw [Region.ready, List.mem_filter]
        refine ⟨List.mem_range.2 hi, ?_⟩
        have h1 := List.all_eq_true.1 hw i (List.mem_range.2 hi)
        rw [Array.getElem?_eq_getElem hi] at h1 ⊢
        simp only [Option.map_some, Option.getD_some] at h1 ⊢
        rw [hl]
        simp only [Bool.not_false, Bool.true_and]
        rw [Array.all_eq_true] at h1 ⊢
        intro j hj
        have h2 := h1 j hj
        have h3 : ops[i].after[j].on < i := by simpa using h2
        have h4 := ih _ h3 (by omega)
        have h5 : listed.getD ops[i].after[j].on false = true := by
          rw [Array.getD_eq_getD_getElem?] at h4 ⊢
          cases hx : listed[ops[i].after[j].on]? with
          | none =>
            have hx' : listed[i]? = none := by
              rw [Array.getElem?_eq_none_iff] at hx ⊢; omega
            rw [Array.getD_eq_getD_getElem?, hx'] at hl
            cases hl
          | some b => rw [hx] at h4; exact h4
        rw [h5]; simp
      rw [hr] at hmem
      cases hmem
theorem wpAny_inv (I : Array Bool → Act → World → Prop) (hw : Ahead ops = true)
    (step : ∀ listed i a w, listed.size = ops.size → I listed a w → i ∈ Region.ready md ops listed → wpOp P ops Q i (fun a' w' => I (listed.setIfInBounds i true) a' w') a w)
    (done : ∀ listed a w, listed.size = ops.size → I listed a w → (∀ i, i < ops.size → listed.getD i true = true) → Q .normal a w) :
    ∀ (fuel : Nat) (listed : Array Bool) (a : Act) (w : World), listed.size = ops.size → listed.toList.count false ≤ fuel → I listed a w → wpAny P md ops Q fuel listed a w
  | 0, listed, a, w, hs, hc, hI => by
    have hall : ∀ i, listed.getD i true = true := fun i => by
      rw [Array.getD_eq_getD_getElem?]
      cases hx : listed[i]? with
      | none => rfl
      | some b =>
        cases b with
        | true => rfl
        | false =>
          have : false ∈ listed.toList := by
            rw [Array.mem_toList_iff]; exact Array.mem_of_getElem? hx
          have := List.count_pos_iff.2 this
          omega
    refine ⟨?_, done listed a w hs hI fun i _ => hall i⟩
    rw [Region.ready, List.filter_eq_nil_iff]
    intro i _
    rw [hall i]; simp
  | fuel + 1, listed, a, w, hs, hc, hI => by
    refine ⟨fun hr => done listed a w hs hI (ready_none hw hr), fun i hi => ?_⟩
    have hi2 := (List.mem_filter.1 hi)
    have hlt : i < ops.size := List.mem_range.1 hi2.1
    have hfalse : listed.getD i true = false := by
      have := hi2.2
      simp only [Bool.and_eq_true, Bool.not_eq_true'] at this
      exact this.1
    refine wpOp_mono (fun a' w' h' => ?_) (step listed i a w hs hI hi)
    refine wpAny_inv I hw step done fuel _ a' w' (by simpa using hs) ?_ h'
    have hls : i < listed.toList.length := by simpa [hs] using hlt
    have hlf : listed.toList[i] = false := by
      rw [Array.getD_eq_getD_getElem?, Array.getElem?_eq_getElem (by rw [hs]; exact hlt)] at hfalse
      simpa using hfalse
    rw [Array.toList_setIfInBounds, List.count_set hls, hlf]
    have : 0 < listed.toList.count false := List.count_pos_iff.2 (hlf ▸ List.getElem_mem hls)
    have e1 : (false == false) = true := rfl
    have e2 : (true == false) = false := rfl
    rw [if_pos e1, if_neg (by rw [e2]; exact Bool.false_ne_true)]
    omega
/-- As Q, but K where an operation is done. -/
def withK (K : Act → World → Prop) (Q : Exit → Act → World → Prop) : Exit → Act → World → Prop
  | .normal, a, w => K a w
  | e, a, w => Q e a w
/-- One operation of a region, as a list of one: so that the walk's steps serve. -/
theorem wpOp_list {K : Act → World → Prop} {i : Nat} {o : Oper} {a : Act} {w : World} (hi : ops[i]? = some o) (h : wpList P ops (withK K Q) [o] a w) : wpOp P ops Q i K a w := by
  unfold wpOp
  rw [hi]
  exact h
end
end Go.Proofs.YtnnjcedlomfhoaaGreatDoor
namespace Go.Proofs.YtnnjcedlomfhoaaGreatDoor
set_option linter.unusedVariables false
/-- A token: its kind, its text, its number, its place. -/
structure Tok where
  kind : Int
  text : List UInt8
  n : Int
  pos : Nat
def smallB (c : UInt8) : Bool := decide ((97 : Int) ≤ (c.toNat : Int)) && decide ((c.toNat : Int) ≤ 122)
def digitB (c : UInt8) : Bool := decide ((48 : Int) ≤ (c.toNat : Int)) && decide ((c.toNat : Int) ≤ 57)
def blankB (c : UInt8) : Bool := ((c.toNat : Int) == 32)
/-- How many bytes of a kind stand ahead. -/
def runL (p : UInt8 → Bool) (l : List UInt8) : Nat := (l.takeWhile p).length
def numOf (d : List UInt8) : Int := d.foldl (fun n c => 10 * n + ((c.toNat : Int) - 48)) 0
/-- The text behind a quote, and how many bytes it takes, the closing quote with it. -/
def quotedL : List UInt8 → Option (List UInt8 × Nat)
  | [] => none
  | c :: r =>
    if c = 34 then some ([], 1)
    else if c = 92 then
      match r with
      | [] => none
      | d :: r' => if d = 34 ∨ d = 92 then (quotedL r').map fun x => (d :: x.1, x.2 + 2) else none
    else (quotedL r).map fun x => (c :: x.1, x.2 + 1)
def marksL : List (List UInt8) := [[33, 61], [60, 61], [62, 61], [40], [41], [61], [60], [62], [126]]
def markL (l : List UInt8) : List UInt8 := (marksL.find? (·.isPrefixOf l)).getD []
def numBad (d : List UInt8) : Bool := decide (15 < d.length) || (decide (1 < d.length) && d.head? == some 48)
/-- The token at the head of a list that begins with no blank; how many bytes it takes. -/
def tokL (l : List UInt8) (at_ : Nat) : Option (Tok × Nat) :=
  if runL smallB l ≠ 0 then some (⟨1, l.takeWhile smallB, 0, at_⟩, runL smallB l)
  else if runL digitB l ≠ 0 then
    if numBad (l.takeWhile digitB) then none else some (⟨2, [], numOf (l.takeWhile digitB), at_⟩, runL digitB l)
  else if l.head? = some 34 then (quotedL l.tail).map fun x => (⟨3, x.1, 0, at_⟩, x.2 + 1)
  else if markL l = [] then none
  else some (⟨4, markL l, 0, at_⟩, (markL l).length)
/-- All tokens; where it ended; whether all was right. -/
def toksF : Nat → Nat → List UInt8 → List Tok × Nat × Bool
  | 0, p, _ => ([], p, true)
  | _ + 1, p, [] => ([], p, true)
  | f + 1, p, c :: r =>
    if blankB c then toksF f (p + 1) r
    else match tokL (c :: r) p with
      | none => ([], p, false)
      | some (t, k) => let x := toksF f (p + k) ((c :: r).drop k); (t :: x.1, x.2)
def toks (l : List UInt8) : List Tok × Nat × Bool := toksF l.length 0 l
theorem takeWhile_len (p : UInt8 → Bool) (l : List UInt8) : runL p l ≤ l.length := by
  unfold runL
  induction l with
  | nil => simp
  | cons a l ih => simp only [List.takeWhile_cons]; split <;> simp <;> omega
theorem takeWhile_take (p : UInt8 → Bool) (l : List UInt8) : l.takeWhile p = l.take (runL p l) := by
  unfold runL
  induction l with
  | nil => simp
  | cons a l ih =>
    simp only [List.takeWhile_cons]
    split
    · simp; exact ih
    · simp
theorem runL_cons (p : UInt8 → Bool) (a : UInt8) (l : List UInt8) : runL p (a :: l) = if p a then runL p l + 1 else 0 := by
  unfold runL
  simp only [List.takeWhile_cons]
  split <;> simp
theorem quotedL_nil : quotedL [] = none := rfl
theorem quotedL_end (r : List UInt8) : quotedL (34 :: r) = some ([], 1) := by rw [quotedL.eq_def]; simp
theorem quotedL_back : quotedL [92] = none := by rw [quotedL.eq_def]; simp
theorem quotedL_esc (d : UInt8) (r : List UInt8) : quotedL (92 :: d :: r) = if d = 34 ∨ d = 92 then (quotedL r).map fun x => (d :: x.1, x.2 + 2) else none := by
  rw [quotedL.eq_def]; simp
theorem quotedL_byte (c : UInt8) (r : List UInt8) (h1 : c ≠ 34) (h2 : c ≠ 92) : quotedL (c :: r) = (quotedL r).map fun x => (c :: x.1, x.2 + 1) := by
  rw [quotedL.eq_def]; simp [h1, h2]
theorem quotedL_len (n : Nat) (l : List UInt8) (hn : l.length ≤ n) (x : List UInt8 × Nat) (h : quotedL l = some x) : 1 ≤ x.2 ∧ x.2 ≤ l.length := by
  induction n generalizing l x with
  | zero =>
    have : l = [] := List.eq_nil_of_length_eq_zero (by omega)
    subst this
    simp [quotedL_nil] at h
  | succ n ih =>
    cases l with
    | nil => simp [quotedL_nil] at h
    | cons c r =>
      by_cases h1 : c = 34
      · subst h1
        rw [quotedL_end] at h
        simp at h; subst h; simp
      · by_cases h2 : c = 92
        · subst h2
          cases r with
          | nil => rw [quotedL_back] at h; simp at h
          | cons d r =>
            rw [quotedL_esc] at h
            split at h
            · simp at h
              obtain ⟨a, b, hq, rfl⟩ := h
              have := ih r (by simp at hn; omega) _ hq
              simp at *; omega
            · simp at h
        · rw [quotedL_byte c r h1 h2] at h
          simp at h
          obtain ⟨a, b, hq, rfl⟩ := h
          have := ih r (by simp at hn; omega) _ hq
          simp at *; omega
theorem markL_mem (l : List UInt8) : markL l = [] ∨ (markL l ∈ marksL ∧ (markL l).isPrefixOf l = true) := by
  unfold markL
  cases h : marksL.find? (·.isPrefixOf l) with
  | none => simp
  | some m => exact .inr ⟨List.mem_of_find?_eq_some h, by simpa using List.find?_some h⟩
theorem markL_len (l : List UInt8) : (markL l).length ≤ l.length ∧ (markL l ≠ [] → 1 ≤ (markL l).length) := by
  rcases markL_mem l with h | ⟨h, hp⟩
  · rw [h]; simp
  · refine ⟨?_, fun h0 => ?_⟩
    · exact (List.isPrefixOf_iff_prefix.1 hp).length_le
    · cases hm : markL l with
      | nil => exact absurd hm h0
      | cons _ _ => simp
theorem tokL_len (l : List UInt8) (p : Nat) (x : Tok × Nat) (h : tokL l p = some x) : 1 ≤ x.2 ∧ x.2 ≤ l.length ∧ x.1.pos = p := by
  unfold tokL at h
  split at h
  · have := takeWhile_len smallB l
    simp at h; subst h; simp; omega
  · split at h
    · split at h
      · cases h
      · have := takeWhile_len digitB l
        simp at h; subst h; simp; omega
    · split at h
      · simp at h
        obtain ⟨a, b, hq, rfl⟩ := h
        have := quotedL_len _ _ (Nat.le_refl _) _ hq
        have ht : l.tail.length = l.length - 1 := by simp
        have : 0 < l.length := by cases l with
          | nil => simp at *
          | cons _ _ => simp
        simp at *; omega
      · split at h
        · cases h
        · rename_i h0
          have := markL_len l
          simp at h; subst h; simp
          exact ⟨this.2 h0, this.1⟩
/-- More steps than bytes change nothing. -/
theorem toksF_more (f g p : Nat) (l : List UInt8) (hf : l.length ≤ f) (hg : l.length ≤ g) : toksF f p l = toksF g p l := by
  induction f generalizing g p l with
  | zero =>
    have : l = [] := List.eq_nil_of_length_eq_zero (by omega)
    subst this
    cases g <;> rfl
  | succ f ih =>
    cases l with
    | nil => cases g <;> rfl
    | cons c r =>
      cases g with
      | zero => simp at hg
      | succ g =>
        simp only [toksF]
        simp at hf hg
        split
        · exact ih g _ r hf hg
        · cases ht : tokL (c :: r) p with
          | none => rfl
          | some x =>
            obtain ⟨t, k⟩ := x
            have := tokL_len _ _ _ ht
            simp at this
            simp only []
            rw [ih g (p + k) ((c :: r).drop k) (by simp; omega) (by simp; omega)]
end Go.Proofs.YtnnjcedlomfhoaaGreatDoor
namespace Go.Proofs.YtnnjcedlomfhoaaGreatDoor
section
variable {P : Program} {a : Act} {w : World} {Q : Exit → Act → World → Prop}
end
end Go.Proofs.YtnnjcedlomfhoaaGreatDoor
namespace Go.Proofs.YtnnjcedlomfhoaaGreatDoor
set_option linter.unusedVariables false
/-- A part of a question. -/
structure Ask where
  kind : Int
  op : Int
  a : Int
  b : Int
  n : Int
  text : List UInt8
  isText : Bool
/-- A question as a tree: a term, a not, two with a word between (1: or, 2: and). -/
inductive Q where
  | term (k : Ask)
  | neg (q : Q)
  | two (k : Int) (x y : Q)
def Q.size : Q → Nat
  | .term _ => 1
  | .neg q => q.size + 1
  | .two _ x y => x.size + y.size + 1
theorem Q.size_pos (q : Q) : 1 ≤ q.size := by cases q <;> simp [Q.size]
/-- Its parts, each behind its own, from place p on. -/
def Q.parts : Q → Nat → List Ask
  | .term k, _ => [k]
  | .neg q, p => q.parts p ++ [⟨3, 0, (p : Int) + (q.size : Int) - 1, -1, 0, [], false⟩]
  | .two k x y, p => x.parts p ++ (y.parts (p + x.size) ++ [⟨k, 0, (p : Int) + (x.size : Int) - 1, (p : Int) + (x.size : Int) + (y.size : Int) - 1, 0, [], false⟩])
theorem Q.parts_len (q : Q) : ∀ p, (q.parts p).length = q.size := by
  induction q with
  | term k => intro p; rfl
  | neg q ih => intro p; simp [Q.parts, Q.size, ih]
  | two k x y ihx ihy => intro p; simp [Q.parts, Q.size, ihx, ihy]; omega
def Q.depth : Q → Nat
  | .term _ => 1
  | .neg q => q.depth + 1
  | .two _ x y => max x.depth y.depth + 1
def isW (t : Tok) (kind : Int) (text : List UInt8) : Bool := decide (t.kind = kind) && decide (t.text = text)
/-- Is a token of that kind and text ahead? -/
def atW (T : List Tok) (kind : Int) (text : List UInt8) : Bool :=
  match T with
  | [] => false
  | t :: _ => isW t kind text
def notW : List UInt8 := [110, 111, 116]
def andW : List UInt8 := [97, 110, 100]
def orW : List UInt8 := [111, 114]
def hasW : List UInt8 := [104, 97, 115]
def lpW : List UInt8 := [40]
def rpW : List UInt8 := [41]
def nameW : List UInt8 := [110, 97, 109, 101]
def sizeW : List UInt8 := [115, 105, 122, 101]
def dateW : List UInt8 := [100, 97, 116, 101]
def crcW : List UInt8 := [99, 114, 99]
def methodW : List UInt8 := [109, 101, 116, 104, 111, 100]
/-- The kind of a word that is compared. -/
def kindOf (t : List UInt8) : Int :=
  if t = nameW then 4 else if t = sizeW then 5 else if t = dateW then 6 else if t = crcW then 7 else if t = methodW then 8 else 0
def cmpL : List (List UInt8) := [[61], [33, 61], [60], [60, 61], [62], [62, 61], [126]]
/-- The place of a text in a list, counted from k; 0: it is not there. -/
def findK (l : List (List UInt8)) (t : List UInt8) (k : Int) : Int :=
  match l with
  | [] => 0
  | m :: r => if t = m then k else findK r t (k + 1)
def opOf (t : Tok) : Int := if t.kind = 4 then findK cmpL t.text 1 else 0
/-- A term, and what is behind it. -/
def termP (T : List Tok) : Option (Ask × List Tok) :=
  if atW T 1 hasW then
    match T with
    | _ :: v :: r => if v.kind = 3 then some (⟨9, 1, -1, -1, v.n, v.text, true⟩, r) else none
    | _ => none
  else
    match T with
    | t :: m :: v :: r => if t.kind = 1 ∧ kindOf t.text ≠ 0 ∧ opOf m ≠ 0 ∧ (v.kind = 3 ∨ v.kind = 2) then some (⟨kindOf t.text, opOf m, -1, -1, v.n, v.text, decide (v.kind = 3)⟩, r) else none
    | _ => none
/-- More of the kind, with a word between. -/
def loopP (word : List UInt8) (kind : Int) (one : List Tok → Option (Q × List Tok)) : Nat → Q → List Tok → Option (Q × List Tok)
  | 0, a, T => some (a, T)
  | g + 1, a, T =>
    if atW T 1 word then
      match one T.tail with
      | some (b, T') => loopP word kind one g (.two kind a b) T'
      | none => none
    else some (a, T)
def rowP (word : List UInt8) (kind : Int) (one : List Tok → Option (Q × List Tok)) (T : List Tok) : Option (Q × List Tok) :=
  match one T with
  | some (a, T') => loopP word kind one T'.length a T'
  | none => none
def notsP : Nat → List Tok → Option (Q × List Tok)
  | 0, _ => none
  | f + 1, T =>
    if atW T 1 notW then
      match notsP f T.tail with
      | some (q, T') => some (.neg q, T')
      | none => none
    else if atW T 4 lpW then
      match rowP orW 1 (rowP andW 2 (notsP f)) T.tail with
      | some (q, T') => if atW T' 4 rpW then some (q, T'.tail) else none
      | none => none
    else (termP T).map fun x => (.term x.1, x.2)
def andsP (f : Nat) : List Tok → Option (Q × List Tok) := rowP andW 2 (notsP f)
def orsP (f : Nat) : List Tok → Option (Q × List Tok) := rowP orW 1 (andsP f)
theorem atW_cons {T : List Tok} {k : Int} {w : List UInt8} (h : atW T k w = true) : ∃ t r, T = t :: r ∧ isW t k w = true := by
  cases T with
  | nil => cases h
  | cons t r => exact ⟨t, r, rfl, h⟩
/-- How deep the parts of a list are, one behind the other: each from those ahead of it. -/
def deepAt (ds : List Nat) (k : Int) : Nat := if 0 ≤ k ∧ k < ds.length then ds.getD k.toNat 0 else 0
def deepNext (ds : List Nat) (x : Ask) : Nat := max (deepAt ds x.a) (deepAt ds x.b) + 1
def deeps (ds : List Nat) : List Ask → List Nat
  | [] => ds
  | x :: l => deeps (ds ++ [deepNext ds x]) l
def deepL (l : List Ask) : Nat := (deeps [] l).getLastD 0
theorem deeps_append (l r : List Ask) : ∀ ds, deeps ds (l ++ r) = deeps (deeps ds l) r := by
  induction l with
  | nil => intro ds; rfl
  | cons x l ih => intro ds; exact ih _
theorem deeps_len (l : List Ask) : ∀ ds, (deeps ds l).length = ds.length + l.length := by
  induction l with
  | nil => intro ds; rfl
  | cons x l ih => intro ds; rw [deeps, ih]; simp; omega
theorem deepAt_in (ds : List Nat) (k : Nat) (h : k < ds.length) : deepAt ds (k : Int) = ds[k] := by
  unfold deepAt
  rw [if_pos ⟨by omega, by omega⟩]
  simp [List.getD, h]
theorem deepAt_neg (ds : List Nat) (k : Int) (h : k < 0) : deepAt ds k = 0 := by
  unfold deepAt
  rw [if_neg (by omega)]
def Q.plain : Q → Prop
  | .term k => k.a = -1 ∧ k.b = -1
  | .neg q => q.plain
  | .two _ x y => x.plain ∧ y.plain
/-- The parts of a tree: what was there stays, as many more are told, the last one tells how deep the tree is. -/
theorem deeps_tree : ∀ (q : Q) (ds : List Nat), q.plain → ∃ es, deeps ds (q.parts ds.length) = ds ++ es ∧ es.length = q.size ∧ es.getLast? = some q.depth
  | .term k, ds, h => by
    refine ⟨[1], ?_, rfl, rfl⟩
    simp only [Q.parts, deeps, deepNext]
    rw [deepAt_neg _ _ (by rw [h.1]; decide), deepAt_neg _ _ (by rw [h.2]; decide)]
    rfl
  | .neg q, ds, h => by
    obtain ⟨es, h1, h2, h3⟩ := deeps_tree q ds h
    refine ⟨es ++ [q.depth + 1], ?_, by simp [Q.size, h2], by simp [Q.depth]⟩
    have hp := q.size_pos
    rw [Q.parts, deeps_append, h1]
    simp only [deeps, deepNext]
    have e : deepAt (ds ++ es) ((ds.length : Int) + (q.size : Int) - 1) = q.depth := by
      have hk : (ds.length : Int) + (q.size : Int) - 1 = ((ds.length + (q.size - 1) : Nat) : Int) := by omega
      rw [hk, deepAt_in _ _ (by simp; omega)]
      rw [List.getLast?_eq_getElem?, h2] at h3
      rw [List.getElem_append_right (by omega)]
      have : ds.length + (q.size - 1) - ds.length = q.size - 1 := by omega
      simp only [this]
      rw [List.getElem?_eq_getElem (by omega)] at h3
      exact Option.some.inj h3
    rw [e, deepAt_neg _ _ (by decide)]
    simp
  | .two k x y, ds, h => by
    obtain ⟨es, h1, h2, h3⟩ := deeps_tree x ds h.1
    obtain ⟨fs, g1, g2, g3⟩ := deeps_tree y (ds ++ es) h.2
    refine ⟨es ++ fs ++ [max x.depth y.depth + 1], ?_, by simp [Q.size, h2, g2]; omega, by simp [Q.depth]⟩
    have hx := x.size_pos
    have hy := y.size_pos
    rw [List.length_append, h2] at g1
    rw [Q.parts, deeps_append, h1, deeps_append, g1]
    simp only [deeps, deepNext]
    have ex : deepAt (ds ++ es ++ fs) ((ds.length : Int) + (x.size : Int) - 1) = x.depth := by
      have hk : (ds.length : Int) + (x.size : Int) - 1 = ((ds.length + (x.size - 1) : Nat) : Int) := by omega
      rw [hk, deepAt_in _ _ (by simp; omega)]
      rw [List.getLast?_eq_getElem?, h2, List.getElem?_eq_getElem (by omega)] at h3
      rw [List.getElem_append_left (by simp; omega), List.getElem_append_right (by omega)]
      have : ds.length + (x.size - 1) - ds.length = x.size - 1 := by omega
      simp only [this]
      exact Option.some.inj h3
    have ey : deepAt (ds ++ es ++ fs) ((ds.length : Int) + (x.size : Int) + (y.size : Int) - 1) = y.depth := by
      have hk : (ds.length : Int) + (x.size : Int) + (y.size : Int) - 1 = ((ds.length + x.size + (y.size - 1) : Nat) : Int) := by omega
      rw [hk, deepAt_in _ _ (by simp; omega)]
      rw [List.getLast?_eq_getElem?, g2, List.getElem?_eq_getElem (by omega)] at g3
      rw [List.getElem_append_right (by simp; omega)]
      have : ds.length + x.size + (y.size - 1) - (ds ++ es).length = y.size - 1 := by simp; omega
      simp only [this]
      exact Option.some.inj g3
    rw [ex, ey]
    simp
theorem deepL_tree (q : Q) (h : q.plain) : deepL (q.parts 0) = q.depth := by
  obtain ⟨es, h1, _, h3⟩ := deeps_tree q [] h
  unfold deepL
  rw [show (q.parts 0) = q.parts ([] : List Nat).length from rfl, h1, List.nil_append]
  cases es with
  | nil => simp at h3
  | cons e es => rw [List.getLastD_eq_getLast?, h3]; rfl
def isPat (x : Ask) : Bool := decide (x.kind = 9) || decide (x.op = 7)
def patsL (l : List Ask) : Nat := l.countP isPat
/-- What Parse answers of tokens: a question; the error; its parts. -/
def parseQ (T : List Tok) : Option Q :=
  match orsP (T.length + 1) T with
  | some (q, []) => some q
  | _ => none
def parseE (T : List Tok) : Int :=
  match parseQ T with
  | none => 19
  | some q => if 16 < q.depth then 11 else if 8 < patsL (q.parts 0) then 17 else 0
def parseL (T : List Tok) : List Ask :=
  match parseQ T with
  | none => []
  | some q => if 16 < q.depth then [] else if 8 < patsL (q.parts 0) then [] else q.parts 0
/-- Terms have no parts. -/
def Plain (one : List Tok → Option (Q × List Tok)) : Prop := ∀ T q T', one T = some (q, T') → q.plain
theorem termP_plain (T : List Tok) (x : Ask × List Tok) (h : termP T = some x) : x.1.a = -1 ∧ x.1.b = -1 := by
  unfold termP at h
  split at h
  · split at h
    · split at h
      · simp at h; subst h; exact ⟨rfl, rfl⟩
      · cases h
    · cases h
  · split at h
    · split at h
      · simp at h; subst h; exact ⟨rfl, rfl⟩
      · cases h
    · cases h
theorem loopP_plain {word : List UInt8} {kind : Int} {one : List Tok → Option (Q × List Tok)} (ho : Plain one) : ∀ (g : Nat) (a : Q) (T : List Tok) (q : Q) (T' : List Tok),
    a.plain → loopP word kind one g a T = some (q, T') → q.plain
  | 0, a, T, q, T', ha, h => by
    simp [loopP] at h
    obtain ⟨rfl, rfl⟩ := h
    exact ha
  | g + 1, a, T, q, T', ha, h => by
    rw [loopP] at h
    split at h
    · split at h
      · rename_i b T1 hb
        exact loopP_plain ho g (.two kind a b) _ _ _ ⟨ha, ho _ _ _ hb⟩ h
      · cases h
    · simp at h
      obtain ⟨rfl, rfl⟩ := h
      exact ha
theorem rowP_plain {word : List UInt8} {kind : Int} {one : List Tok → Option (Q × List Tok)} (ho : Plain one) : Plain (rowP word kind one) := by
  intro T q T' h
  unfold rowP at h
  split at h
  · rename_i a T1 ha
    exact loopP_plain ho _ _ _ _ _ (ho _ _ _ ha) h
  · cases h
theorem notsP_plain : ∀ f, Plain (notsP f)
  | 0 => fun T q T' h => by simp [notsP] at h
  | f + 1 => fun T q T' h => by
    have ih := notsP_plain f
    rw [notsP] at h
    split at h
    · split at h
      · rename_i q1 T1 h1
        have := ih _ _ _ h1
        simp at h
        obtain ⟨rfl, rfl⟩ := h
        exact this
      · cases h
    · split at h
      · split at h
        · rename_i q1 T1 h1
          have h2 := rowP_plain (word := orW) (kind := 1) (rowP_plain (word := andW) (kind := 2) ih) _ _ _ h1
          split at h
          · simp at h
            obtain ⟨rfl, rfl⟩ := h
            exact h2
          · cases h
        · cases h
      · cases ht : termP T with
        | none => rw [ht] at h; simp at h
        | some x =>
          rw [ht] at h
          simp at h
          obtain ⟨rfl, rfl⟩ := h
          exact termP_plain _ _ ht
theorem orsP_plain (f : Nat) : Plain (orsP f) := rowP_plain (rowP_plain (notsP_plain f))
theorem parseQ_plain (T : List Tok) (q : Q) (h : parseQ T = some q) : q.plain := by
  unfold parseQ at h
  split at h
  · rename_i q1 h1
    simp at h
    subst h
    exact orsP_plain _ _ _ _ h1
  · cases h
end Go.Proofs.YtnnjcedlomfhoaaGreatDoor
namespace Go.Proofs.YtnnjcedlomfhoaaGreatDoor
set_option linter.unusedVariables false
/-- Tokens without their places. -/
def strip (t : Tok) : Tok := ⟨t.kind, t.text, t.n, 0⟩
def Nat_ (one : List Tok → Option (Q × List Tok)) : Prop := ∀ T, one (T.map strip) = (one T).map fun x => (x.1, x.2.map strip)
theorem atW_strip (T : List Tok) (k : Int) (w : List UInt8) : atW (T.map strip) k w = atW T k w := by
  cases T <;> rfl
theorem termP_strip (T : List Tok) : termP (T.map strip) = (termP T).map fun x => (x.1, x.2.map strip) := by
  unfold termP
  rw [atW_strip]
  by_cases h : atW T 1 hasW = true
  · rw [if_pos h, if_pos h]
    match T with
    | [] => rfl
    | [_] => rfl
    | _ :: v :: r =>
      simp only [List.map_cons, strip]
      split <;> simp
  · rw [if_neg h, if_neg h]
    match T with
    | [] => rfl
    | [_] => rfl
    | [_, _] => rfl
    | t :: m :: v :: r =>
      simp only [List.map_cons]
      by_cases c : t.kind = 1 ∧ kindOf t.text ≠ 0 ∧ opOf m ≠ 0 ∧ (v.kind = 3 ∨ v.kind = 2)
      · have c' : (strip t).kind = 1 ∧ kindOf (strip t).text ≠ 0 ∧ opOf (strip m) ≠ 0 ∧ ((strip v).kind = 3 ∨ (strip v).kind = 2) := c
        rw [if_pos c, if_pos c']; rfl
      · have c' : ¬((strip t).kind = 1 ∧ kindOf (strip t).text ≠ 0 ∧ opOf (strip m) ≠ 0 ∧ ((strip v).kind = 3 ∨ (strip v).kind = 2)) := c
        rw [if_neg c, if_neg c']; rfl
theorem loopP_strip {word : List UInt8} {kind : Int} {one : List Tok → Option (Q × List Tok)} (ho : Nat_ one) : ∀ (g : Nat) (a : Q) (T : List Tok),
    loopP word kind one g a (T.map strip) = (loopP word kind one g a T).map fun x => (x.1, x.2.map strip)
  | 0, a, T => rfl
  | g + 1, a, T => by
    simp only [loopP]
    rw [atW_strip]
    split
    · rw [← List.map_tail, ho]
      cases one T.tail with
      | none => rfl
      | some x => exact loopP_strip ho g _ _
    · rfl
theorem rowP_strip {word : List UInt8} {kind : Int} {one : List Tok → Option (Q × List Tok)} (ho : Nat_ one) : Nat_ (rowP word kind one) := by
  intro T
  unfold rowP
  rw [ho]
  cases one T with
  | none => rfl
  | some x =>
    simp only [Option.map_some, List.length_map]
    exact loopP_strip ho _ _ _
theorem notsP_strip : ∀ f, Nat_ (notsP f)
  | 0 => fun T => rfl
  | f + 1 => fun T => by
    have ih := notsP_strip f
    rw [notsP, notsP, atW_strip, atW_strip, ← List.map_tail]
    split
    · rw [ih]
      cases notsP f T.tail <;> rfl
    · split
      · rw [rowP_strip (rowP_strip ih) T.tail]
        cases rowP orW 1 (rowP andW 2 (notsP f)) T.tail with
        | none => rfl
        | some x =>
          simp only [Option.map_some]
          rw [atW_strip]
          split
          · simp [← List.map_tail]
          · rfl
      · rw [termP_strip]
        cases termP T <;> rfl
theorem orsP_strip (f : Nat) : Nat_ (orsP f) := rowP_strip (rowP_strip (notsP_strip f))
theorem parseQ_strip (T : List Tok) : parseQ (T.map strip) = parseQ T := by
  unfold parseQ
  rw [List.length_map, orsP_strip]
  cases orsP (T.length + 1) T with
  | none => rfl
  | some x =>
    obtain ⟨q, T'⟩ := x
    cases T' <;> rfl
end Go.Proofs.YtnnjcedlomfhoaaGreatDoor
namespace Go.Proofs.YtnnjcedlomfhoaaGreatDoor
set_option linter.unusedVariables false
def isLp (t : Tok) : Bool := isW t 4 lpW
def isRp (t : Tok) : Bool := isW t 4 rpW
/-- How deep it stands behind a token. -/
def dStep (d : Int) (t : Tok) : Int := if isLp t = true then d + 1 else if isRp t = true then d - 1 else d
/-- The scan for the last word at depth 0: depth, the place so far, the place that is next. -/
def lastF (word : List UInt8) : List Tok → Int → Int → Int → Int
  | [], _, at_, _ => at_
  | t :: T, d, at_, i =>
    if isLp t = true then lastF word T (d + 1) at_ (i + 1)
    else if isRp t = true then lastF word T (d - 1) at_ (i + 1)
    else lastF word T d (if d = 0 ∧ isW t 1 word = true then i else at_) (i + 1)
/-- The place of the last one in a list, counted from k; -1: there is none. -/
def lastW (word : List UInt8) (T : List Tok) (k : Int) : Int := lastF word T 0 (-1) k
def closedF : List Tok → Int → Bool
  | [], d => decide (d = 0)
  | t :: T, d => if dStep d t < 0 then false else closedF T (dStep d t)
def closedP (T : List Tok) : Bool := closedF T 0
/-- The reference's term: all of a list. -/
def rterm (T : List Tok) : Option Ask :=
  match T with
  | [t, v] => if isW t 1 hasW = true ∧ v.kind = 3 then some ⟨9, 1, -1, -1, 0, v.text, true⟩ else none
  | [t, m, v] =>
    if (if t.kind = 1 then kindOf t.text else 0) = 0 ∨ opOf m = 0 ∨ (v.kind ≠ 2 ∧ v.kind ≠ 3) then none
    else if v.kind = 3 then some ⟨kindOf t.text, opOf m, -1, -1, 0, v.text, true⟩ else some ⟨kindOf t.text, opOf m, -1, -1, v.n, [], false⟩
  | _ => none
/-- The question of a list of tokens. -/
def partP : Nat → List Tok → Option Q
  | 0, _ => none
  | f + 1, T =>
    if T = [] then none
    else
      let o := lastW orW T 0
      let a := lastW andW T 0
      if 0 ≤ o then
        match partP f (T.take o.toNat) with
        | none => none
        | some x => (partP f (T.drop (o.toNat + 1))).map fun y => .two 1 x y
      else if 0 ≤ a then
        match partP f (T.take a.toNat) with
        | none => none
        | some x => (partP f (T.drop (a.toNat + 1))).map fun y => .two 2 x y
      else if atW T 1 notW = true then (partP f T.tail).map Q.neg
      else if atW T 4 lpW = true ∧ (T.getLast?.map isRp) = some true then partP f T.tail.dropLast
      else (rterm T).map Q.term
end Go.Proofs.YtnnjcedlomfhoaaGreatDoor
namespace Go.Proofs.YtnnjcedlomfhoaaGreatDoor
set_option linter.unusedVariables false
inductive G : Nat → Q → List Tok → Prop where
  | or_ (x y : Q) (A B : List Tok) (t : Tok) : G 0 x A → G 1 y B → isW t 1 orW = true → G 0 (.two 1 x y) (A ++ t :: B)
  | up0 (q : Q) (T : List Tok) : G 1 q T → G 0 q T
  | and_ (x y : Q) (A B : List Tok) (t : Tok) : G 1 x A → G 2 y B → isW t 1 andW = true → G 1 (.two 2 x y) (A ++ t :: B)
  | up1 (q : Q) (T : List Tok) : G 2 q T → G 1 q T
  | not_ (q : Q) (T : List Tok) (t : Tok) : G 2 q T → isW t 1 notW = true → G 2 (.neg q) (t :: T)
  | par (q : Q) (T : List Tok) (t u : Tok) : G 0 q T → isLp t = true → isRp u = true → G 2 q (t :: (T ++ [u]))
  | term (a : Ask) (T : List Tok) : rterm T = some a → G 2 (.term a) T
theorem isW_iff (t : Tok) (k : Int) (s : List UInt8) : isW t k s = true ↔ t.kind = k ∧ t.text = s := by simp [isW]
/-- It is no bracket. -/
def NoBr (t : Tok) : Prop := isLp t = false ∧ isRp t = false
theorem noBr_kind {t : Tok} (h : t.kind ≠ 4) : NoBr t := by simp [NoBr, isLp, isRp, isW, h]
theorem noBr_op {t : Tok} (h : opOf t ≠ 0) : NoBr t := by
  unfold opOf at h
  by_cases h4 : t.kind = 4
  · rw [if_pos h4] at h
    constructor
    · rw [← Bool.not_eq_true]; intro hh
      have := ((isW_iff _ _ _).1 hh).2
      rw [this] at h
      exact h (by decide)
    · rw [← Bool.not_eq_true]; intro hh
      have := ((isW_iff _ _ _).1 hh).2
      rw [this] at h
      exact h (by decide)
  · exact noBr_kind h4
theorem rterm_noBr {T : List Tok} {a : Ask} (h : rterm T = some a) : ∀ t ∈ T, NoBr t := by
  match T, h with
  | [t, v], h =>
    simp only [rterm] at h
    split at h
    · rename_i c
      have c1 := (isW_iff _ _ _).1 c.1
      intro x hx
      simp at hx
      rcases hx with rfl | rfl
      · exact noBr_kind (by omega)
      · exact noBr_kind (by omega)
    · simp at h
  | [t, m, v], h =>
    rw [rterm] at h
    by_cases c : (if t.kind = 1 then kindOf t.text else 0) = 0 ∨ opOf m = 0 ∨ (v.kind ≠ 2 ∧ v.kind ≠ 3)
    · rw [if_pos c] at h; simp at h
    · have c1 : t.kind = 1 := by
        by_cases h1 : t.kind = 1
        · exact h1
        · exact absurd (Or.inl (by rw [if_neg h1])) c
      have c2 : opOf m ≠ 0 := fun h => c (Or.inr (Or.inl h))
      have c3 : ¬ (v.kind ≠ 2 ∧ v.kind ≠ 3) := fun h => c (Or.inr (Or.inr h))
      intro x hx
      simp at hx
      rcases hx with rfl | rfl | rfl
      · exact noBr_kind (by omega)
      · exact noBr_op c2
      · exact noBr_kind (by omega)
theorem lastF_br {word : List UInt8} {t : Tok} (h : NoBr t) (T : List Tok) (d a i : Int) : lastF word (t :: T) d a i = lastF word T d (if d = 0 ∧ isW t 1 word = true then i else a) (i + 1) := by
  rw [lastF, h.1, h.2]; simp
theorem closedF_br {t : Tok} (h : NoBr t) (T : List Tok) (d : Int) (hd : 0 ≤ d) : closedF (t :: T) d = closedF T d := by
  rw [closedF, show dStep d t = d from by unfold dStep; rw [h.1, h.2]; simp, if_neg (by omega)]
theorem closedF_run {S : List Tok} (h : ∀ t ∈ S, NoBr t) (R : List Tok) (d : Int) (hd : 0 ≤ d) : closedF (S ++ R) d = closedF R d := by
  induction S with
  | nil => rfl
  | cons t S ih =>
    rw [List.cons_append, closedF_br (h t List.mem_cons_self) _ _ hd]
    exact ih fun t ht => h t (List.mem_cons_of_mem _ ht)
/-- A question's brackets stand in pairs. -/
theorem G_closed {k : Nat} {q : Q} {T : List Tok} (h : G k q T) : ∀ (R : List Tok) (d : Int), 0 ≤ d → closedF (T ++ R) d = closedF R d := by
  induction h with
  | or_ x y A B t _ _ hw iha ihb =>
    intro R d hd
    rw [List.append_assoc, iha _ _ hd, List.cons_append, closedF_br (noBr_kind (by have := (isW_iff _ _ _).1 hw; omega)) _ _ hd, ihb _ _ hd]
  | up0 q T _ ih => exact ih
  | and_ x y A B t _ _ hw iha ihb =>
    intro R d hd
    rw [List.append_assoc, iha _ _ hd, List.cons_append, closedF_br (noBr_kind (by have := (isW_iff _ _ _).1 hw; omega)) _ _ hd, ihb _ _ hd]
  | up1 q T _ ih => exact ih
  | not_ q T t _ hw ih =>
    intro R d hd
    rw [List.cons_append, closedF_br (noBr_kind (by have := (isW_iff _ _ _).1 hw; omega)) _ _ hd, ih _ _ hd]
  | par q T t u _ h1 h2 ih =>
    intro R d hd
    have hu : isLp u = false := by
      rw [← Bool.not_eq_true]; intro h
      have a := (isW_iff _ _ _).1 h
      have b := (isW_iff _ _ _).1 h2
      rw [a.2] at b
      exact absurd b.2 (by decide)
    rw [List.cons_append, List.append_assoc, closedF, show dStep d t = d + 1 from by unfold dStep; rw [if_pos h1], if_neg (by omega), ih _ _ (by omega), List.cons_append, List.nil_append, closedF,
      show dStep (d + 1) u = d from by unfold dStep; rw [hu, h2]; simp, if_neg (by omega)]
  | term a T h =>
    intro R d hd
    exact closedF_run (rterm_noBr h) R d hd
theorem lastF_lp {word : List UInt8} {t : Tok} (h : isLp t = true) (T : List Tok) (d a i : Int) : lastF word (t :: T) d a i = lastF word T (d + 1) a (i + 1) := by
  rw [lastF, if_pos h]
theorem rp_not_lp {u : Tok} (h2 : isRp u = true) : isLp u = false := by
  rw [← Bool.not_eq_true]; intro h
  have a := (isW_iff _ _ _).1 h
  have b := (isW_iff _ _ _).1 h2
  rw [a.2] at b
  exact absurd b.2 (by decide)
theorem lastF_rp {word : List UInt8} {t : Tok} (h : isRp t = true) (T : List Tok) (d a i : Int) : lastF word (t :: T) d a i = lastF word T (d - 1) a (i + 1) := by
  rw [lastF, rp_not_lp h, h]; simp
theorem lastF_in {word : List UInt8} {t : Tok} (h : NoBr t) (T : List Tok) (d a i : Int) (hd : 1 ≤ d) : lastF word (t :: T) d a i = lastF word T d a (i + 1) := by
  rw [lastF_br h, if_neg (by intro hh; omega)]
theorem lastF_run {word : List UInt8} {S : List Tok} (h : ∀ t ∈ S, NoBr t) (R : List Tok) (d a i : Int) (hd : 1 ≤ d) : lastF word (S ++ R) d a i = lastF word R d a (i + S.length) := by
  induction S generalizing i with
  | nil => simp
  | cons t S ih =>
    rw [List.cons_append, lastF_in (h t List.mem_cons_self) _ _ _ _ hd, ih (fun t ht => h t (List.mem_cons_of_mem _ ht)), List.length_cons]
    congr 1; omega
/-- A scan passes over a question inside brackets. -/
theorem G_deep {k : Nat} {q : Q} {T : List Tok} (h : G k q T) : ∀ (word : List UInt8) (R : List Tok) (d a i : Int), 1 ≤ d → lastF word (T ++ R) d a i = lastF word R d a (i + T.length) := by
  induction h with
  | or_ x y A B t _ _ hw iha ihb =>
    intro word R d a i hd
    rw [List.append_assoc, iha _ _ _ _ _ hd, List.cons_append, lastF_in (noBr_kind (by have := (isW_iff _ _ _).1 hw; omega)) _ _ _ _ hd, ihb _ _ _ _ _ hd]
    congr 1; simp; omega
  | up0 q T _ ih => exact ih
  | and_ x y A B t _ _ hw iha ihb =>
    intro word R d a i hd
    rw [List.append_assoc, iha _ _ _ _ _ hd, List.cons_append, lastF_in (noBr_kind (by have := (isW_iff _ _ _).1 hw; omega)) _ _ _ _ hd, ihb _ _ _ _ _ hd]
    congr 1; simp; omega
  | up1 q T _ ih => exact ih
  | not_ q T t _ hw ih =>
    intro word R d a i hd
    rw [List.cons_append, lastF_in (noBr_kind (by have := (isW_iff _ _ _).1 hw; omega)) _ _ _ _ hd, ih _ _ _ _ _ hd]
    congr 1; simp; omega
  | par q T t u _ h1 h2 ih =>
    intro word R d a i hd
    rw [List.cons_append, List.append_assoc, lastF_lp h1, ih _ _ _ _ _ (by omega), List.cons_append, List.nil_append, lastF_rp h2]
    congr 1
    · omega
    · simp; omega
  | term x T h =>
    intro word R d a i hd
    exact lastF_run (rterm_noBr h) R d a i hd
theorem lastF_skip {word : List UInt8} {S : List Tok} (h : ∀ t ∈ S, NoBr t ∧ isW t 1 word = false) (R : List Tok) (a i : Int) : lastF word (S ++ R) 0 a i = lastF word R 0 a (i + S.length) := by
  induction S generalizing i with
  | nil => simp
  | cons t S ih =>
    have h1 := h t List.mem_cons_self
    rw [List.cons_append, lastF_br h1.1, if_neg (by rw [h1.2]; simp), ih (fun t ht => h t (List.mem_cons_of_mem _ ht)), List.length_cons]
    congr 1; omega
theorem not_word {t : Tok} {word w2 : List UInt8} (h : isW t 1 word = true) (hne : word ≠ w2) : isW t 1 w2 = false := by
  rw [← Bool.not_eq_true]; intro h2
  have a := (isW_iff _ _ _).1 h
  have b := (isW_iff _ _ _).1 h2
  exact hne (a.2.symm.trans b.2)
theorem kind_word {t : Tok} {word : List UInt8} (h : t.kind ≠ 1) : isW t 1 word = false := by simp [isW, h]
/-- A word between two questions. -/
def Join (word : List UInt8) : Prop := word = orW ∨ word = andW
theorem rterm_noJoin {word : List UInt8} (hw : Join word) {T : List Tok} {a : Ask} (h : rterm T = some a) : ∀ t ∈ T, isW t 1 word = false := by
  match T, h with
  | [t, v], h =>
    simp only [rterm] at h
    split at h
    · rename_i c
      intro x hx
      simp at hx
      rcases hx with rfl | rfl
      · exact not_word c.1 (by rcases hw with rfl | rfl <;> decide)
      · exact kind_word (by omega)
    · simp at h
  | [t, m, v], h =>
    rw [rterm] at h
    by_cases c : (if t.kind = 1 then kindOf t.text else 0) = 0 ∨ opOf m = 0 ∨ (v.kind ≠ 2 ∧ v.kind ≠ 3)
    · rw [if_pos c] at h; simp at h
    · have c1 : (if t.kind = 1 then kindOf t.text else 0) ≠ 0 := fun h => c (Or.inl h)
      have c2 : opOf m ≠ 0 := fun h => c (Or.inr (Or.inl h))
      have c3 : ¬ (v.kind ≠ 2 ∧ v.kind ≠ 3) := fun h => c (Or.inr (Or.inr h))
      intro x hx
      simp at hx
      rcases hx with rfl | rfl | rfl
      · rw [← Bool.not_eq_true]; intro h2
        have b := (isW_iff _ _ _).1 h2
        rw [if_pos b.1, b.2] at c1
        exact c1 (by rcases hw with rfl | rfl <;> decide)
      · refine kind_word fun h => ?_
        rw [opOf, if_neg (by omega)] at c2
        exact c2 rfl
      · exact kind_word (by omega)
/-- A question of the last level has no word between at depth 0; one of the middle level has no 'or'. -/
theorem G_skip {k : Nat} {q : Q} {T : List Tok} (h : G k q T) : ∀ (word : List UInt8), Join word → (k = 2 ∨ (k = 1 ∧ word = orW)) → ∀ (R : List Tok) (a i : Int), lastF word (T ++ R) 0 a i = lastF word R 0 a (i + T.length) := by
  induction h with
  | or_ x y A B t _ _ hw iha ihb => intro word hj hk; omega
  | up0 q T _ ih => intro word hj hk; omega
  | and_ x y A B t _ _ hw iha ihb =>
    intro word hj hk R a i
    have hk2 : word = orW := by rcases hk with h | h; · omega
                                · exact h.2
    rw [List.append_assoc, iha _ hj (.inr ⟨rfl, hk2⟩), List.cons_append, lastF_br (noBr_kind (by have := (isW_iff _ _ _).1 hw; omega)), if_neg (by rw [not_word hw (by rw [hk2]; decide)]; simp), ihb _ hj (.inl rfl)]
    congr 1; simp; omega
  | up1 q T _ ih => intro word hj hk; exact ih word hj (.inl rfl)
  | not_ q T t _ hw ih =>
    intro word hj hk R a i
    rw [List.cons_append, lastF_br (noBr_kind (by have := (isW_iff _ _ _).1 hw; omega)), if_neg (by rw [not_word hw (by rcases hj with rfl | rfl <;> decide)]; simp), ih _ hj (.inl rfl)]
    congr 1; simp; omega
  | par q T t u hg h1 h2 ih =>
    intro word hj hk R a i
    rw [List.cons_append, List.append_assoc, lastF_lp h1, G_deep hg _ _ _ _ _ (by omega), List.cons_append, List.nil_append, lastF_rp h2]
    congr 1
    simp; omega
  | term x T h =>
    intro word hj hk R a i
    exact lastF_skip (fun t ht => ⟨rterm_noBr h t ht, rterm_noJoin hj h t ht⟩) R a i
/-- A scan over a question from depth 0 stands at depth 0 again. -/
theorem G_any {k : Nat} {q : Q} {T : List Tok} (h : G k q T) : ∀ (word : List UInt8), Join word → ∀ (R : List Tok) (a i : Int), ∃ a', lastF word (T ++ R) 0 a i = lastF word R 0 a' (i + T.length) := by
  induction h with
  | or_ x y A B t _ _ hw iha ihb =>
    intro word hj R a i
    obtain ⟨a1, h1⟩ := iha word hj (t :: B ++ R) a i
    obtain ⟨a2, h2⟩ := ihb word hj R (if (0 : Int) = 0 ∧ isW t 1 word = true then i + A.length else a1) (i + A.length + 1)
    refine ⟨a2, ?_⟩
    rw [List.append_assoc, h1, List.cons_append, lastF_br (noBr_kind (by have := (isW_iff _ _ _).1 hw; omega)), h2]
    congr 1; simp; omega
  | up0 q T _ ih => exact ih
  | and_ x y A B t _ _ hw iha ihb =>
    intro word hj R a i
    obtain ⟨a1, h1⟩ := iha word hj (t :: B ++ R) a i
    obtain ⟨a2, h2⟩ := ihb word hj R (if (0 : Int) = 0 ∧ isW t 1 word = true then i + A.length else a1) (i + A.length + 1)
    refine ⟨a2, ?_⟩
    rw [List.append_assoc, h1, List.cons_append, lastF_br (noBr_kind (by have := (isW_iff _ _ _).1 hw; omega)), h2]
    congr 1; simp; omega
  | up1 q T _ ih => exact ih
  | not_ q T t hg hw ih =>
    intro word hj R a i
    exact ⟨a, G_skip (.not_ q T t hg hw) word hj (.inl rfl) R a i⟩
  | par q T t u hg h1 h2 ih =>
    intro word hj R a i
    exact ⟨a, G_skip (.par q T t u hg h1 h2) word hj (.inl rfl) R a i⟩
  | term x T h =>
    intro word hj R a i
    exact ⟨a, G_skip (.term x T h) word hj (.inl rfl) R a i⟩
/-- The last word between, at a question of its level. -/
theorem last_join {k k2 : Nat} {x y : Q} {A B : List Tok} {t : Tok} {word : List UInt8} (hj : Join word) (hx : G k x A) (hy : G k2 y B) (hk : k2 = 2 ∨ (k2 = 1 ∧ word = orW)) (hw : isW t 1 word = true) : lastW word (A ++ t :: B) 0 = A.length := by
  obtain ⟨a1, h1⟩ := G_any hx word hj (t :: B) (-1) 0
  have h2 := G_skip hy word hj hk [] (A.length : Int) ((0 : Int) + A.length + 1)
  rw [List.append_nil] at h2
  unfold lastW
  rw [h1, lastF_br (noBr_kind (by have := (isW_iff _ _ _).1 hw; omega)), if_pos ⟨rfl, hw⟩, Int.zero_add] at *
  rw [h2]; rfl
theorem last_none {k : Nat} {q : Q} {T : List Tok} {word : List UInt8} (hj : Join word) (h : G k q T) (hk : k = 2 ∨ (k = 1 ∧ word = orW)) : lastW word T 0 = -1 := by
  have h2 := G_skip h word hj hk [] (-1) 0
  rw [List.append_nil] at h2
  unfold lastW
  rw [h2]; rfl
theorem G_pos {k : Nat} {q : Q} {T : List Tok} (h : G k q T) : T ≠ [] := by
  induction h with
  | or_ => simp
  | up0 q T _ ih => exact ih
  | and_ => simp
  | up1 q T _ ih => exact ih
  | not_ => simp
  | par => simp
  | term x T h => intro e; subst e; simp [rterm] at h
theorem rterm_noNot {T : List Tok} {a : Ask} (h : rterm T = some a) : atW T 1 notW = false := by
  match T, h with
  | [t, v], h =>
    simp only [rterm] at h
    split at h
    · rename_i c
      exact not_word c.1 (by decide)
    · simp at h
  | [t, m, v], h =>
    rw [rterm] at h
    by_cases c : (if t.kind = 1 then kindOf t.text else 0) = 0 ∨ opOf m = 0 ∨ (v.kind ≠ 2 ∧ v.kind ≠ 3)
    · rw [if_pos c] at h; simp at h
    · have c1 : (if t.kind = 1 then kindOf t.text else 0) ≠ 0 := fun h => c (Or.inl h)
      show isW t 1 notW = false
      rw [← Bool.not_eq_true]; intro h2
      have b := (isW_iff _ _ _).1 h2
      rw [if_pos b.1, b.2] at c1
      exact c1 (by decide)
/-- The reference's parser finds every question of the grammar. -/
theorem G_part {k : Nat} {q : Q} {T : List Tok} (h : G k q T) : ∀ (f : Nat), T.length < f → partP f T = some q := by
  induction h with
  | up0 q T _ ih => exact ih
  | up1 q T _ ih => exact ih
  | or_ x y A B t hx hy hw ihx ihy =>
    intro f hf
    obtain ⟨g, rfl⟩ : ∃ g, f = g + 1 := ⟨f - 1, by omega⟩
    rw [List.length_append, List.length_cons] at hf
    rw [partP, if_neg (by simp)]
    dsimp only
    rw [last_join (.inl rfl) hx hy (.inr ⟨rfl, rfl⟩) hw, if_pos (by omega), Int.toNat_natCast, List.take_left, ihx g (by omega), show (A ++ t :: B).drop (A.length + 1) = B from by rw [List.drop_append]; simp, ihy g (by omega)]
    rfl
  | and_ x y A B t hx hy hw ihx ihy =>
    intro f hf
    obtain ⟨g, rfl⟩ : ∃ g, f = g + 1 := ⟨f - 1, by omega⟩
    have hn := last_none (.inl rfl) (.and_ x y A B t hx hy hw) (.inr ⟨rfl, rfl⟩) (word := orW)
    rw [List.length_append, List.length_cons] at hf
    rw [partP, if_neg (by simp)]
    dsimp only
    rw [hn, if_neg (by omega), last_join (.inr rfl) hx hy (.inl rfl) hw, if_pos (by omega), Int.toNat_natCast, List.take_left, ihx g (by omega), show (A ++ t :: B).drop (A.length + 1) = B from by rw [List.drop_append]; simp, ihy g (by omega)]
    rfl
  | not_ q T t hg hw ih =>
    intro f hf
    obtain ⟨g, rfl⟩ : ∃ g, f = g + 1 := ⟨f - 1, by omega⟩
    have h1 := last_none (.inl rfl) (.not_ q T t hg hw) (.inl rfl) (word := orW)
    have h2 := last_none (.inr rfl) (.not_ q T t hg hw) (.inl rfl) (word := andW)
    rw [List.length_cons] at hf
    rw [partP, if_neg (by simp)]
    dsimp only
    rw [h1, h2, if_neg (by omega), if_neg (by omega), if_pos (show atW (t :: T) 1 notW = true from hw), List.tail_cons, ih g (by omega)]
    rfl
  | par q T t u hg hl hr ih =>
    intro f hf
    obtain ⟨g, rfl⟩ : ∃ g, f = g + 1 := ⟨f - 1, by omega⟩
    have h1 := last_none (.inl rfl) (.par q T t u hg hl hr) (.inl rfl) (word := orW)
    have h2 := last_none (.inr rfl) (.par q T t u hg hl hr) (.inl rfl) (word := andW)
    rw [List.length_cons, List.length_append] at hf
    rw [partP, if_neg (by simp)]
    dsimp only
    rw [h1, h2, if_neg (by omega), if_neg (by omega), if_neg (show ¬ atW (t :: (T ++ [u])) 1 notW = true from by rw [show atW (t :: (T ++ [u])) 1 notW = isW t 1 notW from rfl, kind_word (by have := (isW_iff _ _ _).1 hl; omega)]; simp),
      if_pos ⟨hl, by rw [← List.cons_append, List.getLast?_concat]; simp [hr]⟩, List.tail_cons, List.dropLast_concat, ih g (by omega)]
  | term x T h =>
    intro f hf
    obtain ⟨g, rfl⟩ : ∃ g, f = g + 1 := ⟨f - 1, by omega⟩
    have h1 := last_none (.inl rfl) (.term x T h) (.inl rfl) (word := orW)
    have h2 := last_none (.inr rfl) (.term x T h) (.inl rfl) (word := andW)
    have h3 := rterm_noNot h
    have h4 : ¬ atW T 4 lpW = true := by
      match T, h with
      | t :: r, h => intro hh; exact absurd hh (by rw [show atW (t :: r) 4 lpW = isLp t from rfl, (rterm_noBr h t List.mem_cons_self).1]; simp)
    rw [partP, if_neg (G_pos (.term x T h))]
    dsimp only
    rw [h1, h2, if_neg (by omega), if_neg (by omega), if_neg (by rw [h3]; simp), if_neg (fun hh => h4 hh.1), h]
    rfl
end Go.Proofs.YtnnjcedlomfhoaaGreatDoor
namespace Go.Proofs.YtnnjcedlomfhoaaGreatDoor
set_option linter.unusedVariables false
theorem lastB (word : List UInt8) : ∀ (T : List Tok) (d a k : Int), lastF word T d a k = a ∨ (k ≤ lastF word T d a k ∧ lastF word T d a k < k + T.length)
  | [], d, a, k => .inl rfl
  | t :: T, d, a, k => by
    have ih := fun d a => lastB word T d a (k + 1)
    rw [lastF, List.length_cons]
    by_cases c1 : isLp t = true
    · rw [if_pos c1]
      rcases ih (d + 1) a with h | h
      · exact .inl h
      · exact .inr (by omega)
    · rw [if_neg c1]
      by_cases c2 : isRp t = true
      · rw [if_pos c2]
        rcases ih (d - 1) a with h | h
        · exact .inl h
        · exact .inr (by omega)
      · rw [if_neg c2]
        by_cases c3 : d = 0 ∧ isW t 1 word = true
        · rw [if_pos c3]
          rcases ih d k with h | h
          · exact .inr (by rw [h]; omega)
          · exact .inr (by omega)
        · rw [if_neg c3]
          rcases ih d a with h | h
          · exact .inl h
          · exact .inr (by omega)
/-- The depth behind a list. -/
def depF : List Tok → Int → Int
  | [], d => d
  | t :: T, d => depF T (dStep d t)
theorem depF_app (A R : List Tok) (d : Int) : depF (A ++ R) d = depF R (depF A d) := by
  induction A generalizing d with
  | nil => rfl
  | cons t A ih => exact ih _
theorem lastF_app (word : List UInt8) : ∀ (A R : List Tok) (d a i : Int), lastF word (A ++ R) d a i = lastF word R (depF A d) (lastF word A d a i) (i + A.length)
  | [], R, d, a, i => by simp [depF, lastF]
  | t :: A, R, d, a, i => by
    have ih := fun d a => lastF_app word A R d a (i + 1)
    have e : i + 1 + (A.length : Int) = i + ((A.length : Int) + 1) := by omega
    rw [List.cons_append, lastF, lastF, depF, List.length_cons, Int.natCast_succ]
    by_cases c1 : isLp t = true
    · rw [if_pos c1, if_pos c1, ih, e, show dStep d t = d + 1 from by unfold dStep; rw [if_pos c1]]
    · rw [if_neg c1, if_neg c1]
      by_cases c2 : isRp t = true
      · rw [if_pos c2, if_pos c2, ih, e, show dStep d t = d - 1 from by unfold dStep; rw [if_neg c1, if_pos c2]]
      · rw [if_neg c2, if_neg c2, ih, e, show dStep d t = d from by unfold dStep; rw [if_neg c1, if_neg c2]]
theorem dStep_br {t : Tok} (h : NoBr t) (d : Int) : dStep d t = d := by unfold dStep; rw [h.1, h.2]; simp
theorem depF_run {S : List Tok} (h : ∀ t ∈ S, NoBr t) (d : Int) : depF S d = d := by
  induction S generalizing d with
  | nil => rfl
  | cons t S ih => rw [depF, dStep_br (h t List.mem_cons_self)]; exact ih (fun t ht => h t (List.mem_cons_of_mem _ ht)) d
theorem G_dep {k : Nat} {q : Q} {T : List Tok} (h : G k q T) : ∀ d, depF T d = d := by
  induction h with
  | or_ x y A B t _ _ hw iha ihb => intro d; rw [depF_app, iha, depF, dStep_br (noBr_kind (by have := (isW_iff _ _ _).1 hw; omega)), ihb]
  | up0 q T _ ih => exact ih
  | and_ x y A B t _ _ hw iha ihb => intro d; rw [depF_app, iha, depF, dStep_br (noBr_kind (by have := (isW_iff _ _ _).1 hw; omega)), ihb]
  | up1 q T _ ih => exact ih
  | not_ q T t _ hw ih => intro d; rw [depF, dStep_br (noBr_kind (by have := (isW_iff _ _ _).1 hw; omega)), ih]
  | par q T t u _ h1 h2 ih =>
    intro d
    rw [depF, depF_app, ih, show dStep d t = d + 1 from by unfold dStep; rw [if_pos h1], depF, depF, show dStep (d + 1) u = d from by unfold dStep; rw [rp_not_lp h2, h2]; simp]
  | term x T h => exact depF_run (rterm_noBr h)
/-- The last word between stands where it is found, and none is behind it. -/
theorem last_at {word : List UInt8} {k : Nat} {x : Q} {A B : List Tok} {t : Tok} (hx : G k x A) (h : lastW word (A ++ t :: B) 0 = A.length) : isW t 1 word = true ∧ lastF word B 0 A.length (A.length + 1) = A.length := by
  unfold lastW at h
  rw [lastF_app, G_dep hx, Int.zero_add] at h
  have ha : lastF word A 0 (-1) 0 < (A.length : Int) := by
    rcases lastB word A 0 (-1) 0 with e | e <;> omega
  generalize lastF word A 0 (-1) 0 = a at *
  rw [lastF] at h
  by_cases c1 : isLp t = true
  · rw [if_pos c1] at h
    rcases lastB word B (0 + 1) a (A.length + 1) with e | e <;> omega
  · rw [if_neg c1] at h
    by_cases c2 : isRp t = true
    · rw [if_pos c2] at h
      rcases lastB word B (0 - 1) a (A.length + 1) with e | e <;> omega
    · rw [if_neg c2] at h
      by_cases c3 : isW t 1 word = true
      · rw [if_pos ⟨rfl, c3⟩] at h
        exact ⟨c3, h⟩
      · rw [if_neg (fun hh => c3 hh.2)] at h
        rcases lastB word B 0 a (A.length + 1) with e | e <;> omega
theorem last_free (word : List UInt8) : ∀ (T : List Tok) (d a k a' k' : Int), a < k → lastF word T d a k = a → lastF word T d a' k' = a'
  | [], d, a, k, a', k', hk, h => rfl
  | t :: T, d, a, k, a', k', hk, h => by
    have ih := fun d => last_free word T d a (k + 1) a' (k' + 1) (by omega)
    rw [lastF] at h ⊢
    by_cases c1 : isLp t = true
    · rw [if_pos c1] at h ⊢; exact ih _ h
    · rw [if_neg c1] at h ⊢
      by_cases c2 : isRp t = true
      · rw [if_pos c2] at h ⊢; exact ih _ h
      · rw [if_neg c2] at h ⊢
        by_cases c3 : d = 0 ∧ isW t 1 word = true
        · rw [if_pos c3] at h
          rcases lastB word T d k (k + 1) with e | e <;> omega
        · rw [if_neg c3] at h ⊢; exact ih _ h
theorem split_at_ (T : List Tok) (m : Nat) (h : m < T.length) : T = T.take m ++ T[m] :: T.drop (m + 1) := by
  rw [← List.drop_eq_getElem_cons h, List.take_append_drop]
theorem last_split {word : List UInt8} {T : List Tok} {k : Nat} {x : Q} (h0 : 0 ≤ lastW word T 0) (hx : G k x (T.take (lastW word T 0).toNat)) :
    ∃ t, T = T.take (lastW word T 0).toNat ++ t :: T.drop ((lastW word T 0).toNat + 1) ∧ isW t 1 word = true ∧ lastW word (T.drop ((lastW word T 0).toNat + 1)) 0 = -1 := by
  have hb : lastW word T 0 = -1 ∨ (0 ≤ lastW word T 0 ∧ lastW word T 0 < T.length) := by
    rcases lastB word T 0 (-1) 0 with h | h
    · exact .inl h
    · exact .inr (by unfold lastW; omega)
  obtain ⟨m, hm⟩ : ∃ m : Nat, lastW word T 0 = (m : Int) := ⟨(lastW word T 0).toNat, by omega⟩
  rw [hm, Int.toNat_natCast] at hx ⊢
  have hlt : m < T.length := by omega
  have hs := split_at_ T m hlt
  have hl : (T.take m).length = m := by rw [List.length_take]; omega
  have h1 : lastW word (T.take m ++ T[m] :: T.drop (m + 1)) 0 = (T.take m).length := by rw [← hs, hm, hl]
  obtain ⟨a, b⟩ := last_at hx h1
  rw [hl] at b
  exact ⟨T[m], hs, a, last_free word _ 0 m (m + 1) (-1) 0 (by omega) b⟩
/-- What the reference's parser finds is a question of the grammar, at the level that its words between tell. -/
theorem part_G : ∀ (f : Nat) (T : List Tok) (q : Q), partP f T = some q → G 0 q T ∧ (lastW orW T 0 = -1 → G 1 q T) ∧ (lastW orW T 0 = -1 → lastW andW T 0 = -1 → G 2 q T)
  | 0, T, q, h => by simp [partP] at h
  | f + 1, T, q, h => by
    have ih := part_G f
    rw [partP] at h
    by_cases hT : T = []
    · rw [if_pos hT] at h; simp at h
    · rw [if_neg hT] at h
      dsimp only at h
      split at h
      · rename_i c
        split at h
        · simp at h
        · rename_i x hx
          obtain ⟨y, hy, rfl⟩ := Option.map_eq_some_iff.1 h
          have gx := (ih _ _ hx).1
          obtain ⟨t, e, hw, hn⟩ := last_split c gx
          have gy := (ih _ _ hy).2.1 hn
          refine ⟨?_, fun h => by omega, fun h => by omega⟩
          have := G.or_ x y _ _ t gx gy hw
          rw [← e] at this
          exact this
      · rename_i c0
        split at h
        · rename_i c
          split at h
          · simp at h
          · rename_i x hx
            obtain ⟨y, hy, rfl⟩ := Option.map_eq_some_iff.1 h
            have gx := (ih _ _ hx).1
            obtain ⟨t, e, hw, hn⟩ := last_split c gx
            have hor : lastW orW T 0 = -1 := by
              rcases lastB orW T 0 (-1) 0 with h | h
              · exact h
              · exact absurd h.1 c0
            obtain ⟨m, hm⟩ : ∃ m, m = (lastW andW T 0).toNat := ⟨_, rfl⟩
            rw [← hm] at e hn gx hx hy
            have hor2 := hor
            rw [e] at hor2
            unfold lastW at hor2
            rw [lastF_app, G_dep gx, Int.zero_add] at hor2
            have ha : lastW orW (T.take m) 0 = -1 := by
              rcases lastB orW (t :: T.drop (m + 1)) 0 (lastF orW (T.take m) 0 (-1) 0) (T.take m).length with h | h
              · rw [hor2] at h; exact h.symm
              · rw [hor2] at h; omega
            have ha2 : lastF orW (T.take m) 0 (-1) 0 = -1 := ha
            rw [ha2, lastF_br (noBr_kind (by have := (isW_iff _ _ _).1 hw; omega)), if_neg (by rw [not_word hw (by decide)]; simp)] at hor2
            have hB : lastW orW (T.drop (m + 1)) 0 = -1 := last_free orW _ 0 (-1) _ (-1) 0 (by omega) hor2
            have g1 := G.and_ x y _ _ t ((ih _ _ hx).2.1 ha) ((ih _ _ hy).2.2 hB hn) hw
            rw [← e] at g1
            exact ⟨.up0 _ _ g1, fun _ => g1, fun _ h => by omega⟩
        · rename_i c1
          have hor : lastW orW T 0 = -1 := by
            rcases lastB orW T 0 (-1) 0 with h | h
            · exact h
            · exact absurd h.1 c0
          have hand : lastW andW T 0 = -1 := by
            rcases lastB andW T 0 (-1) 0 with h | h
            · exact h
            · exact absurd h.1 c1
          suffices g2 : G 2 q T from ⟨.up0 _ _ (.up1 _ _ g2), fun _ => .up1 _ _ g2, fun _ _ => g2⟩
          split at h
          · rename_i cn
            obtain ⟨y, hy, rfl⟩ := Option.map_eq_some_iff.1 h
            match T, hT with
            | t :: r, _ =>
              have hw : isW t 1 notW = true := cn
              have hbr : NoBr t := noBr_kind (by have := (isW_iff _ _ _).1 hw; omega)
              unfold lastW at hor hand
              rw [lastF_br hbr, if_neg (by rw [not_word hw (by decide)]; simp)] at hor hand
              exact .not_ y r t ((ih _ _ hy).2.2 (last_free orW _ 0 (-1) _ (-1) 0 (by omega) hor) (last_free andW _ 0 (-1) _ (-1) 0 (by omega) hand)) hw
          · split at h
            · rename_i c
              have gi := (ih _ _ h).1
              match T, hT with
              | t :: r, _ =>
                have hl : isLp t = true := c.1
                obtain ⟨u, hu, hr⟩ := Option.map_eq_some_iff.1 c.2
                rw [List.tail_cons] at gi
                by_cases hr0 : r = []
                · subst hr0
                  exact absurd rfl (G_pos gi)
                · rw [List.getLast?_cons, List.getLast?_eq_some_getLast hr0] at hu
                  have hu2 : r.getLast hr0 = u := by simpa using hu
                  have e : t :: r = t :: (r.dropLast ++ [u]) := by rw [← hu2, List.dropLast_concat_getLast]
                  rw [e]
                  exact .par q _ t u gi hl hr
            · obtain ⟨a, ha, rfl⟩ := Option.map_eq_some_iff.1 h
              exact .term a T ha
end Go.Proofs.YtnnjcedlomfhoaaGreatDoor
namespace Go.Proofs.YtnnjcedlomfhoaaGreatDoor
set_option linter.unusedVariables false
/-- What the lexer's tokens keep: a text has no number, a number no text. -/
def OkT (T : List Tok) : Prop := ∀ t ∈ T, (t.kind = 3 → t.n = 0) ∧ (t.kind = 2 → t.text = [])
theorem OkT.right {A B : List Tok} (h : OkT (A ++ B)) : OkT B := fun t ht => h t (List.mem_append_right _ ht)
theorem OkT.tail {t : Tok} {B : List Tok} (h : OkT (t :: B)) : OkT B := fun x hx => h x (List.mem_cons_of_mem _ hx)
theorem termP_G {T T' : List Tok} {a : Ask} (ho : OkT T) (h : termP T = some (a, T')) : ∃ S, T = S ++ T' ∧ rterm S = some a := by
  unfold termP at h
  by_cases c : atW T 1 hasW = true
  · rw [if_pos c] at h
    match T, h with
    | [], h => cases h
    | [_], h => cases h
    | t :: v :: r, h =>
      dsimp only at h
      by_cases hv : v.kind = 3
      · rw [if_pos hv] at h
        cases h
        refine ⟨[t, v], rfl, ?_⟩
        rw [rterm, if_pos ⟨c, hv⟩, (ho v (by simp)).1 hv]
      · rw [if_neg hv] at h; cases h
  · rw [if_neg c] at h
    match T, h with
    | [], h => cases h
    | [_], h => cases h
    | [_, _], h => cases h
    | t :: m :: v :: r, h =>
      dsimp only at h
      by_cases hc : t.kind = 1 ∧ kindOf t.text ≠ 0 ∧ opOf m ≠ 0 ∧ (v.kind = 3 ∨ v.kind = 2)
      · rw [if_pos hc] at h
        obtain ⟨h1, h2, h3, h4⟩ := hc
        cases h
        refine ⟨[t, m, v], rfl, ?_⟩
        have hn : ¬ ((if t.kind = 1 then kindOf t.text else 0) = 0 ∨ opOf m = 0 ∨ (v.kind ≠ 2 ∧ v.kind ≠ 3)) := by
          rw [if_pos h1]
          rintro (h | h | h)
          · exact h2 h
          · exact h3 h
          · omega
        rw [rterm, if_neg hn]
        by_cases h5 : v.kind = 3
        · rw [if_pos h5, (ho v (by simp)).1 h5]; simp [h5]
        · rw [if_neg h5, (ho v (by simp)).2 (by omega)]; simp [h5]
      · rw [if_neg hc] at h; cases h
def Sound (k : Nat) (one : List Tok → Option (Q × List Tok)) : Prop := ∀ T q T', OkT T → one T = some (q, T') → ∃ S, T = S ++ T' ∧ G k q S
theorem loop_or {one : List Tok → Option (Q × List Tok)} (hs : Sound 1 one) : ∀ (g : Nat) (a : Q) (A T : List Tok) (q : Q) (T' : List Tok), OkT T → G 0 a A → loopP orW 1 one g a T = some (q, T') → ∃ S, T = S ++ T' ∧ G 0 q (A ++ S)
  | 0, a, A, T, q, T', ho, ha, h => by
    rw [loopP] at h
    cases h
    exact ⟨[], rfl, by rw [List.append_nil]; exact ha⟩
  | g + 1, a, A, T, q, T', ho, ha, h => by
    rw [loopP] at h
    by_cases c : atW T 1 orW = true
    · rw [if_pos c] at h
      obtain ⟨t, r, rfl, hw⟩ := atW_cons c
      rw [List.tail_cons] at h
      cases hx : one r with
      | none => rw [hx] at h; cases h
      | some x =>
        obtain ⟨b, R⟩ := x
        rw [hx] at h
        obtain ⟨B, rfl, hb⟩ := hs _ _ _ ho.tail hx
        obtain ⟨S, rfl, hq⟩ := loop_or hs g (.two 1 a b) (A ++ t :: B) R q T' (OkT.right ho.tail) (.or_ a b A B t ha hb hw) h
        refine ⟨t :: (B ++ S), by simp, ?_⟩
        rw [List.append_assoc, List.cons_append] at hq
        exact hq
    · rw [if_neg c] at h
      cases h
      exact ⟨[], rfl, by rw [List.append_nil]; exact ha⟩
theorem loop_and {one : List Tok → Option (Q × List Tok)} (hs : Sound 2 one) : ∀ (g : Nat) (a : Q) (A T : List Tok) (q : Q) (T' : List Tok), OkT T → G 1 a A → loopP andW 2 one g a T = some (q, T') → ∃ S, T = S ++ T' ∧ G 1 q (A ++ S)
  | 0, a, A, T, q, T', ho, ha, h => by
    rw [loopP] at h
    cases h
    exact ⟨[], rfl, by rw [List.append_nil]; exact ha⟩
  | g + 1, a, A, T, q, T', ho, ha, h => by
    rw [loopP] at h
    by_cases c : atW T 1 andW = true
    · rw [if_pos c] at h
      obtain ⟨t, r, rfl, hw⟩ := atW_cons c
      rw [List.tail_cons] at h
      cases hx : one r with
      | none => rw [hx] at h; cases h
      | some x =>
        obtain ⟨b, R⟩ := x
        rw [hx] at h
        obtain ⟨B, rfl, hb⟩ := hs _ _ _ ho.tail hx
        obtain ⟨S, rfl, hq⟩ := loop_and hs g (.two 2 a b) (A ++ t :: B) R q T' (OkT.right ho.tail) (.and_ a b A B t ha hb hw) h
        refine ⟨t :: (B ++ S), by simp, ?_⟩
        rw [List.append_assoc, List.cons_append] at hq
        exact hq
    · rw [if_neg c] at h
      cases h
      exact ⟨[], rfl, by rw [List.append_nil]; exact ha⟩
theorem row_and {one : List Tok → Option (Q × List Tok)} (hs : Sound 2 one) : Sound 1 (rowP andW 2 one) := by
  intro T q T' ho h
  rw [rowP] at h
  cases hx : one T with
  | none => rw [hx] at h; cases h
  | some x =>
    obtain ⟨a, R⟩ := x
    rw [hx] at h
    obtain ⟨A, rfl, ha⟩ := hs _ _ _ ho hx
    obtain ⟨S, rfl, hq⟩ := loop_and hs _ a A R q T' ho.right (.up1 _ _ ha) h
    exact ⟨A ++ S, by rw [List.append_assoc], hq⟩
theorem row_or {one : List Tok → Option (Q × List Tok)} (hs : Sound 1 one) : Sound 0 (rowP orW 1 one) := by
  intro T q T' ho h
  rw [rowP] at h
  cases hx : one T with
  | none => rw [hx] at h; cases h
  | some x =>
    obtain ⟨a, R⟩ := x
    rw [hx] at h
    obtain ⟨A, rfl, ha⟩ := hs _ _ _ ho hx
    obtain ⟨S, rfl, hq⟩ := loop_or hs _ a A R q T' ho.right (.up0 _ _ ha) h
    exact ⟨A ++ S, by rw [List.append_assoc], hq⟩
theorem nots_sound : ∀ f, Sound 2 (notsP f)
  | 0 => by intro T q T' ho h; cases h
  | f + 1 => by
    have ih := nots_sound f
    intro T q T' ho h
    rw [notsP] at h
    by_cases c1 : atW T 1 notW = true
    · rw [if_pos c1] at h
      obtain ⟨t, r, rfl, hw⟩ := atW_cons c1
      rw [List.tail_cons] at h
      cases hx : notsP f r with
      | none => rw [hx] at h; cases h
      | some x =>
        obtain ⟨a, R⟩ := x
        rw [hx] at h
        cases h
        obtain ⟨A, rfl, ha⟩ := ih _ _ _ ho.tail hx
        exact ⟨t :: A, rfl, .not_ a A t ha hw⟩
    · rw [if_neg c1] at h
      by_cases c2 : atW T 4 lpW = true
      · rw [if_pos c2] at h
        obtain ⟨t, r, rfl, hw⟩ := atW_cons c2
        rw [List.tail_cons] at h
        cases hx : rowP orW 1 (rowP andW 2 (notsP f)) r with
        | none => rw [hx] at h; cases h
        | some x =>
          obtain ⟨a, R⟩ := x
          rw [hx] at h
          dsimp only at h
          obtain ⟨A, rfl, ha⟩ := row_or (row_and ih) _ _ _ ho.tail hx
          by_cases c3 : atW R 4 rpW = true
          · rw [if_pos c3] at h
            cases h
            obtain ⟨u, R2, rfl, hu⟩ := atW_cons c3
            exact ⟨t :: (A ++ [u]), by simp, .par _ A t u ha hw hu⟩
          · rw [if_neg c3] at h; cases h
      · rw [if_neg c2] at h
        obtain ⟨x, hx, e⟩ := Option.map_eq_some_iff.1 h
        cases e
        obtain ⟨S, rfl, hS⟩ := termP_G (a := x.1) (T' := x.2) ho hx
        exact ⟨S, rfl, .term x.1 S hS⟩
theorem ors_sound (f : Nat) : Sound 0 (orsP f) := row_or (row_and (nots_sound f))
/-- What stands ahead of a list is found, and the rest is told, behind words between. -/
def Chain (word : List UInt8) (kind : Int) (one : List Tok → Option (Q × List Tok)) (ok : List Tok → Prop) (q : Q) (S : List Tok) : Prop :=
  ∀ R, ok R → ∃ a R', one (S ++ R) = some (a, R') ∧ ∀ g, R'.length ≤ g → ∃ g', R.length ≤ g' ∧ loopP word kind one g a R' = loopP word kind one g' q R
theorem loopP_none {word : List UInt8} {kind : Int} {one : List Tok → Option (Q × List Tok)} (g : Nat) (q : Q) (R : List Tok) (h : atW R 1 word = false) : loopP word kind one g q R = some (q, R) := by
  cases g with
  | zero => rfl
  | succ g => rw [loopP, if_neg (by rw [h]; exact Bool.false_ne_true)]
theorem Chain.row {word : List UInt8} {kind : Int} {one : List Tok → Option (Q × List Tok)} {ok : List Tok → Prop} {q : Q} {S : List Tok} (h : Chain word kind one ok q S) {R : List Tok} (hr : ok R) (hw : atW R 1 word = false) :
    rowP word kind one (S ++ R) = some (q, R) := by
  obtain ⟨a, R', h1, h2⟩ := h R hr
  obtain ⟨g', _, h3⟩ := h2 R'.length (Nat.le_refl _)
  rw [rowP, h1]
  show loopP word kind one R'.length a R' = _
  rw [h3, loopP_none _ _ _ hw]
theorem Chain.one {word : List UInt8} {kind : Int} {one : List Tok → Option (Q × List Tok)} {ok : List Tok → Prop} {q : Q} {S : List Tok} (h : ∀ R, ok R → one (S ++ R) = some (q, R)) : Chain word kind one ok q S :=
  fun R hr => ⟨q, R, h R hr, fun g hg => ⟨g, hg, rfl⟩⟩
theorem Chain.more {word : List UInt8} {kind : Int} {one : List Tok → Option (Q × List Tok)} {ok : List Tok → Prop} {x y : Q} {A B : List Tok} {t : Tok} (h : Chain word kind one ok x A) (hy : ∀ R, ok R → one (B ++ R) = some (y, R))
    (hw : isW t 1 word = true) (hk : ∀ R, ok (t :: R)) : Chain word kind one ok (.two kind x y) (A ++ t :: B) := by
  intro R hr
  obtain ⟨a, R', h1, h2⟩ := h (t :: (B ++ R)) (hk _)
  refine ⟨a, R', by rw [List.append_assoc, List.cons_append, h1], fun g hg => ?_⟩
  obtain ⟨g', h3, h4⟩ := h2 g hg
  rw [List.length_cons, List.length_append] at h3
  obtain ⟨e, rfl⟩ : ∃ e, g' = e + 1 := ⟨g' - 1, by omega⟩
  refine ⟨e, by omega, ?_⟩
  rw [h4, loopP, if_pos (show atW (t :: (B ++ R)) 1 word = true from hw), List.tail_cons, hy R hr]
theorem rterm_termP {S : List Tok} {a : Ask} (h : rterm S = some a) (ho : OkT S) (R : List Tok) : termP (S ++ R) = some (a, R) := by
  match S, h with
  | [t, v], h =>
    rw [rterm] at h
    by_cases c : isW t 1 hasW = true ∧ v.kind = 3
    · rw [if_pos c] at h
      cases h
      show termP (t :: v :: R) = _
      rw [termP, if_pos (show atW (t :: v :: R) 1 hasW = true from c.1)]
      rw [if_pos c.2, (ho v (by simp)).1 c.2]
    · rw [if_neg c] at h; cases h
  | [t, m, v], h =>
    rw [rterm] at h
    by_cases c : (if t.kind = 1 then kindOf t.text else 0) = 0 ∨ opOf m = 0 ∨ (v.kind ≠ 2 ∧ v.kind ≠ 3)
    · rw [if_pos c] at h; cases h
    · rw [if_neg c] at h
      have c1 : t.kind = 1 := by
        by_cases h1 : t.kind = 1
        · exact h1
        · exact absurd (Or.inl (by rw [if_neg h1])) c
      rw [if_pos c1] at c
      have c0 : kindOf t.text ≠ 0 := fun h => c (Or.inl h)
      have c2 : opOf m ≠ 0 := fun h => c (Or.inr (Or.inl h))
      have c3 : v.kind = 3 ∨ v.kind = 2 := by
        by_cases h3 : v.kind = 3
        · exact .inl h3
        · by_cases h2 : v.kind = 2
          · exact .inr h2
          · exact absurd (Or.inr (Or.inr ⟨h2, h3⟩)) c
      have hh : ¬ atW (t :: m :: v :: R) 1 hasW = true := by
        intro hh
        have := ((isW_iff _ _ _).1 hh).2
        rw [this] at c0
        exact c0 (by decide)
      show termP (t :: m :: v :: R) = _
      rw [termP, if_neg hh]
      dsimp only
      rw [if_pos ⟨c1, c0, c2, c3⟩]
      by_cases h3 : v.kind = 3
      · rw [if_pos h3] at h; cases h
        rw [(ho v (by simp)).1 h3]; simp [h3]
      · rw [if_neg h3] at h; cases h
        rw [(ho v (by simp)).2 (by omega)]; simp [h3]
/-- What the program's parser finds at each level. -/
def Finds (k : Nat) (q : Q) (S : List Tok) (f : Nat) : Prop :=
  match k with
  | 0 => Chain orW 1 (rowP andW 2 (notsP f)) (fun R => atW R 1 andW = false) q S
  | 1 => Chain andW 2 (notsP f) (fun _ => True) q S
  | _ => ∀ R, notsP f (S ++ R) = some (q, R)
theorem G_finds {k : Nat} {q : Q} {S : List Tok} (h : G k q S) : ∀ (f : Nat), S.length ≤ f → OkT S → Finds k q S f := by
  induction h with
  | or_ x y A B t hx hy hw ihx ihy =>
    intro f hf ho
    rw [List.length_append, List.length_cons] at hf
    have h1 := ihx f (by omega) (fun t ht => ho t (List.mem_append_left _ ht))
    have h2 := ihy f (by omega) ho.right.tail
    refine Chain.more h1 (fun R hr => Chain.row h2 trivial hr) hw (fun R => ?_)
    show isW t 1 andW = false
    rw [← Bool.not_eq_true]; intro hh
    have e1 := ((isW_iff _ _ _).1 hw).2
    have e2 := ((isW_iff _ _ _).1 hh).2
    rw [e1] at e2; exact absurd e2 (by decide)
  | up0 q T hg ih =>
    intro f hf ho
    exact Chain.one fun R hr => Chain.row (ih f hf ho) trivial hr
  | and_ x y A B t hx hy hw ihx ihy =>
    intro f hf ho
    rw [List.length_append, List.length_cons] at hf
    have h1 := ihx f (by omega) (fun t ht => ho t (List.mem_append_left _ ht))
    have h2 := ihy f (by omega) ho.right.tail
    exact Chain.more h1 (fun R _ => h2 R) hw (fun _ => trivial)
  | up1 q T hg ih =>
    intro f hf ho
    exact Chain.one fun R _ => ih f hf ho R
  | not_ q T t hg hw ih =>
    intro f hf ho R
    rw [List.length_cons] at hf
    obtain ⟨g, rfl⟩ : ∃ g, f = g + 1 := ⟨f - 1, by omega⟩
    rw [List.cons_append, notsP, if_pos (show atW (t :: (T ++ R)) 1 notW = true from hw), List.tail_cons, ih g (by omega) ho.tail R]
  | par q T t u hg hl hr ih =>
    intro f hf ho R
    rw [List.length_cons, List.length_append, List.length_singleton] at hf
    obtain ⟨g, rfl⟩ : ∃ g, f = g + 1 := ⟨f - 1, by omega⟩
    have h1 := ih g (by omega) (fun x hx => ho x (by simp [hx]))
    have ht := (isW_iff _ _ _).1 hl
    have hu := (isW_iff _ _ _).1 hr
    have n1 : ¬ atW (t :: (T ++ (u :: R))) 1 notW = true := by intro hh; have := ((isW_iff _ _ _).1 hh).1; omega
    have e : ∀ w, atW (u :: R) 1 w = false := by
      intro w
      rw [← Bool.not_eq_true]; intro hh; have := ((isW_iff _ _ _).1 hh).1; omega
    have h2 := Chain.row h1 (R := u :: R) (e andW) (e orW)
    rw [List.cons_append, List.append_assoc, List.cons_append, List.nil_append, notsP, if_neg n1, if_pos (show atW (t :: (T ++ (u :: R))) 4 lpW = true from hl), List.tail_cons, h2]
    dsimp only
    rw [if_pos (show atW (u :: R) 4 rpW = true from hr), List.tail_cons]
  | term x T h =>
    intro f hf ho R
    have h0 := G_pos (.term x T h)
    obtain ⟨g, rfl⟩ : ∃ g, f = g + 1 := ⟨f - 1, by have := List.length_pos_iff.2 h0; omega⟩
    have h3 := rterm_noNot h
    obtain ⟨t, r, rfl⟩ : ∃ t r, T = t :: r := by
      cases T with
      | nil => exact absurd rfl h0
      | cons t r => exact ⟨t, r, rfl⟩
    have h4 : ¬ atW (t :: (r ++ R)) 4 lpW = true := by
      intro hh; exact absurd hh (by rw [show atW (t :: (r ++ R)) 4 lpW = isLp t from rfl, (rterm_noBr h t List.mem_cons_self).1]; simp)
    have h5 : ¬ atW (t :: (r ++ R)) 1 notW = true := by
      rw [show atW (t :: (r ++ R)) 1 notW = atW (t :: r) 1 notW from rfl, h3]; simp
    have h6 := rterm_termP h ho R
    rw [List.cons_append] at h6 ⊢
    rw [notsP, if_neg h5, if_neg h4, h6]
    rfl
theorem parseQ_iff {T : List Tok} (ho : OkT T) (q : Q) : parseQ T = some q ↔ G 0 q T := by
  constructor
  · intro h
    unfold parseQ at h
    split at h
    · rename_i x hx
      cases h
      obtain ⟨S, e, hg⟩ := ors_sound _ _ _ _ ho hx
      rw [List.append_nil] at e
      rw [e]; exact hg
    · cases h
  · intro h
    have h1 := G_finds h (T.length + 1) (by omega) ho
    have h2 := Chain.row h1 (R := []) rfl rfl
    rw [List.append_nil] at h2
    unfold parseQ orsP andsP
    rw [h2]
/-- The program's parser and the reference's find the same question. -/
theorem parse_eq {T : List Tok} (ho : OkT T) (f : Nat) (hf : T.length < f) : parseQ T = partP f T := by
  cases h : parseQ T with
  | some q => exact (G_part ((parseQ_iff ho q).1 h) f hf).symm
  | none =>
    cases h2 : partP f T with
    | none => rfl
    | some q =>
      have := (parseQ_iff ho q).2 (part_G f T q h2).1
      rw [this] at h; cases h
theorem parse_open {T : List Tok} (ho : OkT T) (h : closedP T = false) : parseQ T = none := by
  cases h2 : parseQ T with
  | none => rfl
  | some q =>
    have := G_closed ((parseQ_iff ho q).1 h2) [] 0 (by omega)
    rw [List.append_nil] at this
    unfold closedP at h
    rw [this] at h; cases h
end Go.Proofs.YtnnjcedlomfhoaaGreatDoor
namespace Go.Proofs.YtnnjcedlomfhoaaGreatDoor
set_option linter.unusedVariables false
def allFF (l : List UInt8) : Bool := l.all (· == 255)
theorem aboveR_snoc (r : List UInt8) (a : UInt8) : aboveR (r ++ [a]) = if allFF r then aboveR [a] else aboveR r ++ [a] := by
  induction r with
  | nil => rfl
  | cons b r ih =>
    simp only [List.cons_append, aboveR, ih, allFF, List.all_cons]
    by_cases e : b = 255
    · simp [e]
    · simp [e]
theorem allFF_rev (l : List UInt8) : allFF l.reverse = allFF l := by simp [allFF]
theorem aboveB_cons (a : UInt8) (l : List UInt8) : aboveB (a :: l) = if allFF l then (if a = 255 then [] else [a + 1]) else a :: aboveB l := by
  unfold aboveB
  rw [List.reverse_cons, aboveR_snoc, allFF_rev]
  by_cases h : allFF l = true
  · simp only [h, if_true, aboveR]
    split <;> simp
  · simp [h]
theorem aboveB_ones (l : List UInt8) (h : allFF l = true) : aboveB l = [] := by
  cases l with
  | nil => rfl
  | cons a l =>
    have : a = 255 ∧ allFF l = true := by simpa [allFF] using h
    rw [aboveB_cons, if_pos this.2, if_pos this.1]
theorem above_lt (a : UInt8) (h : a ≠ 255) : a ≠ a + 1 ∧ a < a + 1 := by
  have := u8_next a h
  have h2 : (a + 1).toNat = a.toNat + 1 := by omega
  refine ⟨fun e => ?_, ?_⟩
  · have := congrArg UInt8.toNat e; omega
  · rw [UInt8.lt_iff_toNat_lt]; omega
theorem above_more (xs more : List UInt8) (h : allFF xs = false) : lessB (xs ++ more) (aboveB xs) = true := by
  induction xs with
  | nil => simp [allFF] at h
  | cons a l ih =>
    rw [aboveB_cons]
    by_cases hl : allFF l = true
    · have ha : a ≠ 255 := fun e => by subst e; simp [allFF] at h hl; obtain ⟨x, hx, hx2⟩ := h; exact hx2 (hl x hx)
      rw [if_pos hl, if_neg ha]
      have := above_lt a ha
      simp [lessB, this.2, this.1]
    · rw [if_neg hl]
      simp only [List.cons_append, lessB, if_true]
      exact ih (by simpa using hl)
end Go.Proofs.YtnnjcedlomfhoaaGreatDoor
namespace Go.Proofs.YtnnjcedlomfhoaaGreatDoor
open Go.RowKit
set_option linter.unusedVariables false
def val : List UInt8 → Nat
  | [] => 0
  | b :: l => b.toNat * 256 ^ l.length + val l
theorem val_lt (l : List UInt8) : val l < 256 ^ l.length := by
  induction l with
  | nil => simp [val]
  | cons b l ih =>
    simp only [val, List.length_cons]
    have hb := b.toNat_lt
    have : b.toNat * 256 ^ l.length ≤ 255 * 256 ^ l.length := Nat.mul_le_mul_right _ (by omega)
    rw [Nat.pow_succ]
    omega
theorem lessB_val (p q : List UInt8) (h : p.length = q.length) : lessB p q = decide (val p < val q) := by
  induction p generalizing q with
  | nil => cases q with
    | nil => rfl
    | cons _ _ => simp at h
  | cons a p ih => cases q with
    | nil => simp at h
    | cons b q =>
      have h' : p.length = q.length := by simpa using h
      have hp := val_lt p
      have hq := val_lt q
      simp only [lessB, val, h']
      rw [h'] at hp
      by_cases e : a = b
      · subst e
        rw [if_pos rfl, ih q h']
        simp
      · rw [if_neg e]
        have hne : a.toNat ≠ b.toNat := fun h => e (UInt8.toNat_inj.1 h)
        rw [decide_eq_decide, UInt8.lt_iff_toNat_lt]
        generalize 256 ^ q.length = m at *
        constructor
        · intro hl
          have : (a.toNat + 1) * m ≤ b.toNat * m := Nat.mul_le_mul_right _ (by omega)
          rw [Nat.add_mul] at this
          omega
        · intro hl
          rcases Nat.lt_or_ge a.toNat b.toNat with h1 | h1
          · exact h1
          · have : (b.toNat + 1) * m ≤ a.toNat * m := Nat.mul_le_mul_right _ (by omega)
            rw [Nat.add_mul] at this
            omega
theorem lessB_cat (p q l r : List UInt8) (h : p.length = q.length) : lessB (p ++ l) (q ++ r) = if p = q then lessB l r else lessB p q := by
  induction p generalizing q with
  | nil => cases q with
    | nil => rfl
    | cons _ _ => simp at h
  | cons a p ih => cases q with
    | nil => simp at h
    | cons b q =>
      have h' : p.length = q.length := by simpa using h
      simp only [List.cons_append, lessB, ih q h', List.cons.injEq]
      by_cases e : a = b <;> by_cases e2 : p = q <;> simp [e, e2]
theorem val_numB (z : Int) (h0 : 0 ≤ z) (h1 : z ≤ 281474976710655) : val (numB z) = z.toNat := by
  obtain ⟨n, rfl⟩ := Int.eq_ofNat_of_zero_le h0
  simp only [val, numB, byteN, UInt8.toNat_ofNat', List.length_cons, List.length_nil, Int.toNat_natCast]
  omega
theorem lessB_numB (a b : Int) (l r : List UInt8) : lessB (numB (heldI a) ++ l) (numB (heldI b) ++ r) = if heldI a = heldI b then lessB l r else decide (heldI a < heldI b) := by
  have a0 := heldI_0 a; have a1 := heldI_1 a; have b0 := heldI_0 b; have b1 := heldI_1 b
  rw [lessB_cat (numB (heldI a)) (numB (heldI b)) l r rfl, lessB_val (numB (heldI a)) (numB (heldI b)) rfl, val_numB _ a0 a1, val_numB _ b0 b1]
  by_cases e : heldI a = heldI b
  · simp [e]
  · rw [if_neg e, if_neg, decide_eq_decide]
    · omega
    · intro h
      have := congrArg val h
      rw [val_numB _ a0 a1, val_numB _ b0 b1] at this
      omega
end Go.Proofs.YtnnjcedlomfhoaaGreatDoor
