/-
  The pager in memory; contracts of up, has, Root, SetRoot.
-/
import Derived.Test.YtiffnfgmkkoaeaaGreatDoorBnGr2
import Derived.Test.YtiffnfgmkkoaeaaGreatDoorBnGr3
namespace Go.Proofs.YtiffnfgmkkoaeaaGreatDoor
open Go.RowKit Go.Maps
set_option linter.unusedVariables false
/-- The cells of a pager: what it has now, the map of changed pages; the rest is left open (U). -/
def pgC (gm : Nat) (st : PgS) (U : Nat → Value) : Array Value :=
  #[U 0, U 1, .int .i64 (st.many : Int), .int .i64 (st.free : Int), .int .i64 (st.roots 0 : Int), .int .i64 (st.roots 1 : Int), .int .i64 (st.roots 2 : Int), .int .i64 (st.roots 3 : Int), .int .i64 (st.roots 4 : Int), .int .i64 (st.roots 5 : Int), .int .i64 (st.roots 6 : Int), .int .i64 (st.roots 7 : Int),
    U 12, U 13, U 14, U 15, U 16, U 17, U 18, U 19, U 20, U 21, .map (some gm), U 23, U 24, U 25, .bool false]
theorem OB.same {w w' : World} {base n g c : Nat} {l : List UInt8} (h : OB w base (.slice (some ⟨g, 0, none⟩) n c) n l) (hk : w'.heap[g]? = w.heap[g]?) : OB w' base (.slice (some ⟨g, 0, none⟩) n c) n l := by
  obtain ⟨h1, h2⟩ := h
  refine ⟨h1, ?_⟩
  rcases h2 with ⟨h0, _⟩ | ⟨g', cap, cur, hv, hg, hh, r⟩
  · cases h0
  · cases hv
    exact Or.inr ⟨g, _, cur, rfl, hg, hk.trans hh, r⟩
/-- The pager in memory: all pages but one (x) stand in the map of changed ones. -/
structure PgX (x : Nat) (w : World) (F : Nat → Prop) (gp : Nat) (st : PgS) : Prop where
  one : 1 ≤ st.many
  most : st.many ≤ 65536
  lt : ∀ k, F k → k < w.heap.size
  own : F gp
  mem : ∃ gm U m, Blk w gp 133 (pgC gm st U) ∧ F gm ∧ IMap w gm 65536 m ∧ ∀ no, st.has no → no ≠ x → ∃ g c, m no = some (.slice (some ⟨g, 0, none⟩) 508 c) ∧ F g ∧ OB w 0 (.slice (some ⟨g, 0, none⟩) 508 c) 508 (st.page no)
def PgAt (w : World) (F : Nat → Prop) (gp : Nat) (st : PgS) : Prop := PgX 0 w F gp st
section
variable {w w' : World} {F : Nat → Prop} {gp x : Nat} {st : PgS}
theorem PgX.keep (h : PgX x w F gp st) (hk : ∀ k, F k → w'.heap[k]? = w.heap[k]?) (hs : w.heap.size ≤ w'.heap.size) : PgX x w' F gp st := by
  obtain ⟨gm, U, m, hb, hg, hm, hp⟩ := h.mem
  refine ⟨h.one, h.most, fun k hk' => Nat.lt_of_lt_of_le (h.lt k hk') hs, h.own, gm, U, m, (hk gp h.own).trans hb, hg, hm.keep (hk gm hg), fun no hn hx => ?_⟩
  obtain ⟨g, c, h1, h2, h3⟩ := hp no hn hx
  exact ⟨g, c, h1, h2, h3.same (hk g h2)⟩
theorem PgAt.keep (h : PgAt w F gp st) (hk : ∀ k, F k → w'.heap[k]? = w.heap[k]?) (hs : w.heap.size ≤ w'.heap.size) : PgAt w' F gp st := PgX.keep h hk hs
theorem PgAt.below (h : PgAt w F gp st) (hb : Below w.heap.size w w') : PgAt w' F gp st := h.keep (fun k hk => hb.block k (h.lt k hk)) hb.size
theorem PgAt.drewN (h : PgAt w F gp st) (n : Nat) : PgAt (w.drewN n) F gp st := h.keep (fun _ _ => rfl) (Nat.le_refl _)
theorem PgAt.drew (h : PgAt w F gp st) : PgAt w.drew F gp st := h.keep (fun _ _ => rfl) (Nat.le_refl _)
theorem PgAt.alloc (h : PgAt w F gp st) (o : Obj) : PgAt (w.alloc o) F gp st := h.keep (fun k hk => Below.heap_alloc w o k (h.lt k hk)) (by simp)
theorem PgAt.set_ (h : PgAt w F gp st) {p : Addr} (hp : ¬ F p.block) (u : Value) : PgAt (w.setCell p u) F gp st := h.keep (fun k hk => Below.heap_setCell w p u k (fun e => hp (by rw [← e]; exact hk))) (by simp [World.setCell])
theorem PgAt.grown (h : PgAt w F gp st) {row : Option Nat} (hg : w.grownBy w' row) (hr : ∀ k, row = some k → ¬ F k) : PgAt w' F gp st := h.keep (fun k hk => hg.block k (h.lt k hk) (fun e => hr k e.symm hk)) hg.size
theorem PgAt.len (h : PgAt w F gp st) {no : Nat} (hn : st.has no) : (st.page no).length = 508 := by
  obtain ⟨gm, U, m, hb, hg, hm, hp⟩ := h.mem
  obtain ⟨g, c, h1, h2, h3⟩ := hp no hn (fun e => by have := hn.1; omega)
  exact h3.len
end
set_option maxRecDepth 100000 in
theorem up_any (x : Nat) (w : World) (F : Nat → Prop) (gp : Nat) (st : PgS) (h : PgX x w F gp st) : Calls Tryz.prog 79 #[.pointer (some ⟨gp, 0, none⟩)] w fun e w' => e = .returned (.int .i64 0) ∧ w = w' := by
  obtain ⟨gm, U, m, hb, _⟩ := h.mem
  have c26 : w.cell? ⟨gp, 26, none⟩ = some (.bool false) := hb.cell 26
  clear hb
  replace h := hide h
  go_enter Tryz.func79, Tryz.ntmps79
  go_wp2_with fail
  go_ret
  exact ⟨rfl, rfl⟩
set_option maxRecDepth 100000 in
theorem has_any (x : Nat) (w : World) (F : Nat → Prop) (gp : Nat) (st : PgS) (h : PgX x w F gp st) (no least : Int) (h0 : least ≤ no) (h1 : no < (st.many : Int)) :
    Calls Tryz.prog 116 #[.pointer (some ⟨gp, 0, none⟩), .int .i64 no, .int .i64 least] w fun e w' => e = .returned (.int .i64 0) ∧ w = w' := by
  obtain ⟨gm, U, m, hb, _⟩ := h.mem
  have c2 : w.cell? ⟨gp, 2, none⟩ = some (.int .i64 (st.many : Int)) := hb.cell 2
  have hu := hide (up_any x w F gp st h)
  clear hb
  replace h := hide h
  go_enter Tryz.func116, Tryz.ntmps116
  go_wp2_with fail
  refine hu.out.mono ?_
  rintro e w1 ⟨rfl, rfl⟩
  go_wp2_with fail
  go_ret
  exact ⟨rfl, rfl⟩
theorem pgC_root (gm : Nat) (st : PgS) (U : Nat → Value) (k : Nat) (hk : k < 8) : (pgC gm st U)[4 + k]? = some (.int .i64 (st.roots k : Int)) := by
  match k, hk with
  | 0, _ | 1, _ | 2, _ | 3, _ | 4, _ | 5, _ | 6, _ | 7, _ => rfl
set_option maxRecDepth 100000 in
theorem root_any (w : World) (F : Nat → Prop) (gp : Nat) (st : PgS) (h : PgAt w F gp st) (k : Nat) (hk : k < 8) :
    Calls Tryz.prog 51 #[.pointer (some ⟨gp, 0, none⟩), .int .i64 (k : Int)] w fun e w' => e = .returned (.int .i64 (st.roots k : Int)) ∧ w = w' := by
  obtain ⟨gm, U, m, hb, _⟩ := h.mem
  have ck : w.cell? ⟨gp, 4 + k, none⟩ = some (.int .i64 (st.roots k : Int)) := (hb.cell (4 + k)).trans (pgC_root gm st U k hk)
  have hu := hide (up_any 0 w F gp st h)
  have hkI : (k : Int) < 8 := by omega
  clear hb
  replace h := hide h
  go_enter Tryz.func51, Tryz.ntmps51
  go_wp2_with fail
  refine hu.out.mono ?_
  rintro e w1 ⟨rfl, rfl⟩
  go_wp2_with fail
  go_ret
  exact ⟨rfl, rfl⟩
theorem pgC_set (gm : Nat) (st : PgS) (U : Nat → Value) (k no : Nat) (hk : k < 8) : (pgC gm st U).setIfInBounds (4 + k) (.int .i64 (no : Int)) = pgC gm (setRootS st k no) U := by
  match k, hk with
  | 0, _ | 1, _ | 2, _ | 3, _ | 4, _ | 5, _ | 6, _ | 7, _ => rfl
/-- What a call of the pager's leaves. -/
def PgEnd (F : Nat → Prop) (w : World) (gp : Nat) (st' : PgS) (r : Value) (e : Ending) (w' : World) : Prop := e = .returned r ∧ ∃ F', PgAt w' F' gp st' ∧ Ev F w F' w'
theorem PgAt.setroot {w : World} {F : Nat → Prop} {gp : Nat} {st : PgS} (h : PgAt w F gp st) (k no : Nat) (hk : k < 8) : PgAt (w.setCell ⟨gp, 4 + k, none⟩ (.int .i64 (no : Int))) F gp (setRootS st k no) := by
  obtain ⟨gm, U, m, hb, hg, hm, hp⟩ := h.mem
  have hne := hm.ne hb
  refine ⟨h.one, h.most, fun j hj => by have := h.lt j hj; simpa [World.setCell] using this, h.own, gm, U, m, ?_, hg, hm.keep (Below.heap_setCell w _ _ _ hne), fun j hj hx => ?_⟩
  · have := hb.set_ (4 + k) (.int .i64 (no : Int))
    rw [pgC_set gm st U k no hk] at this
    exact this
  · obtain ⟨g, c, h1, h2, h3⟩ := hp j hj hx
    exact ⟨g, c, h1, h2, h3.same (Below.heap_setCell w _ _ _ (fun e => own_blk_ne h3 hb (by decide) (by rw [e]; rfl)))⟩
set_option maxRecDepth 100000 in
theorem setRoot_any (w : World) (F : Nat → Prop) (gp : Nat) (st : PgS) (h : PgAt w F gp st) (k no : Nat) (hk : k < 8) (hn : no < st.many) :
    Calls Tryz.prog 69 #[.pointer (some ⟨gp, 0, none⟩), .int .i64 (k : Int), .int .i64 (no : Int)] w (PgEnd F w gp (setRootS st k no) (.int .i64 0)) := by
  have hh := hide (has_any 0 w F gp st h no 0 (by omega) (by omega))
  have hfin : Hid (PgAt (w.setCell ⟨gp, 4 + k, none⟩ (.int .i64 (no : Int))) F gp (setRootS st k no) ∧ Ev F w F (w.setCell ⟨gp, 4 + k, none⟩ (.int .i64 (no : Int)))) :=
    ⟨h.setroot k no hk, (Ev.refl F w).set_ (p := ⟨gp, 4 + k, none⟩) h.own _⟩
  obtain ⟨gm, U, m, hb, _⟩ := h.mem
  have ck : w.cell? ⟨gp, 4 + k, none⟩ = some (.int .i64 (st.roots k : Int)) := (hb.cell (4 + k)).trans (pgC_root gm st U k hk)
  have fk := hb.frozen (4 + k)
  have hkI : (k : Int) < 8 := by omega
  clear hb
  replace h := hide h
  go_enter Tryz.func69, Tryz.ntmps69
  go_wp2_with fail
  refine hh.out.mono ?_
  rintro e w1 ⟨rfl, rfl⟩
  go_wp2_with fail
  go_ret
  exact ⟨rfl, F, hfin.out⟩
end Go.Proofs.YtiffnfgmkkoaeaaGreatDoor
namespace Go.Proofs.YtiffnfgmkkoaeaaGreatDoor
set_option linter.unusedVariables false
def lo_ (L : List CellP) (key : KeyB) : List CellP := L.filter fun c => ltK c.key key
def up_ (L : List CellP) (key : KeyB) : List CellP := L.filter fun c => ltK key c.key
def delF (key : KeyB) (L : List CellP) : List CellP := lo_ L key ++ up_ L key
section
variable {key : KeyB} {A B l L : List CellP}
theorem lo_all (h : ∀ x ∈ A, ltK x.key key = true) : lo_ A key = A := List.filter_eq_self.2 h
theorem lo_none (h : ∀ x ∈ A, ltK x.key key = false) : lo_ A key = [] := List.filter_eq_nil_iff.2 fun x hx => by rw [h x hx]; decide
theorem up_all (h : ∀ x ∈ A, ltK key x.key = true) : up_ A key = A := List.filter_eq_self.2 h
theorem up_none (h : ∀ x ∈ A, ltK key x.key = false) : up_ A key = [] := List.filter_eq_nil_iff.2 fun x hx => by rw [h x hx]; decide
theorem lo_app (A B : List CellP) (key : KeyB) : lo_ (A ++ B) key = lo_ A key ++ lo_ B key := List.filter_append ..
theorem up_app (A B : List CellP) (key : KeyB) : up_ (A ++ B) key = up_ A key ++ up_ B key := List.filter_append ..
/-- A rising list, parted at a key. -/
theorem rise_parts (hr : RiseC L) (key : KeyB) : lo_ L key = L.take (findI L key) ∧ (keyAt L (findI L key) key = false → up_ L key = L.drop (findI L key)) ∧ (∀ c0, L[findI L key]? = some c0 → c0.key = key → up_ L key = L.drop (findI L key + 1)) := by
  have h1 : ∀ x ∈ L.take (findI L key), ltK x.key key = true := fun x hx => by
    obtain ⟨j, hj⟩ := List.mem_iff_getElem?.1 hx
    rw [List.getElem?_take] at hj
    split at hj
    · exact findI_below L key j (by assumption) x hj
    · cases hj
  have h2 := findI_at L key
  have hr2 := hr
  rw [← List.take_append_drop (findI L key) L] at hr2
  have hd := hr2.right
  have hle := findI_le L key
  have hge : ∀ x ∈ L.drop (findI L key), ltK x.key key = false := fun x hx => by
    rcases Nat.lt_or_ge (findI L key) L.length with hlt | hge
    · have e := List.drop_eq_getElem_cons hlt
      have h3 := h2 _ (List.getElem?_eq_getElem hlt)
      rw [e] at hx hd
      rcases List.mem_cons.1 hx with rfl | hx
      · exact h3
      · exact le_ltK _ _ _ h3 (ltK_asymm _ _ (hd.1 x hx))
    · rw [List.drop_of_length_le hge] at hx; cases hx
  have hlo : lo_ L key = L.take (findI L key) := by
    conv => lhs; rw [← List.take_append_drop (findI L key) L]
    rw [lo_app, lo_all h1, lo_none hge, List.append_nil]
  have hup : up_ L key = up_ (L.drop (findI L key)) key := by
    conv => lhs; rw [← List.take_append_drop (findI L key) L]
    rw [up_app, up_none (fun x hx => ltK_asymm _ _ (h1 x hx)), List.nil_append]
  refine ⟨hlo, fun hk => ?_, fun c0 hc hk => ?_⟩
  · rw [hup]
    refine up_all fun x hx => ?_
    cases hlt : ltK key x.key with
    | true => rfl
    | false =>
      exfalso
      have he := ltK_total _ _ hlt (hge x hx)
      rcases Nat.lt_or_ge (findI L key) L.length with hlt2 | hge2
      · have e := List.drop_eq_getElem_cons hlt2
        unfold keyAt at hk
        rw [List.getElem?_eq_getElem hlt2] at hk
        rw [e] at hx hd
        have hne : L[findI L key].key ≠ key := by simpa using hk
        rcases List.mem_cons.1 hx with rfl | hx
        · exact hne he.symm
        · have h4 := hd.1 x hx
          rw [← he] at h4
          rw [h2 _ (List.getElem?_eq_getElem hlt2)] at h4
          cases h4
      · rw [List.drop_of_length_le hge2] at hx; cases hx
  · rw [hup]
    obtain ⟨hlt2, e0⟩ := List.getElem?_eq_some_iff.1 hc
    rw [List.drop_eq_getElem_cons hlt2, e0] at hd ⊢
    have : up_ (c0 :: L.drop (findI L key + 1)) key = up_ (L.drop (findI L key + 1)) key := by
      unfold up_
      rw [List.filter_cons_of_neg (by rw [hk, ltK_irrefl]; decide)]
    rw [this]
    refine up_all fun x hx => ?_
    rw [← hk]; exact hd.1 x hx
theorem RiseC.filter {L : List CellP} (h : RiseC L) (p : CellP → Bool) : RiseC (L.filter p) := by
  induction L with
  | nil => trivial
  | cons a r ih =>
    rw [List.filter_cons]
    split
    · exact ⟨fun d hd => h.1 d (List.mem_filter.1 hd).1, ih h.2⟩
    · exact ih h.2
theorem RiseC.del {key : KeyB} (h : RiseC L) : RiseC (delF key L) :=
  (h.filter _).append (h.filter _) fun x hx y hy => ltK_trans _ _ _ (List.mem_filter.1 hx).2 (List.mem_filter.1 hy).2
end
/-- The key of a leaf. -/
theorem findP_leaf (n : NodeP) (key : KeyB) (hf : n.leaf = true) : findP n key = (findI n.cells key, keyAt n.cells (findI n.cells key) key) := by
  unfold findP
  cases h : keyAt n.cells (findI n.cells key) key with
  | true => rw [if_pos rfl, if_pos hf]
  | false => rw [if_neg (by decide)]
end Go.Proofs.YtiffnfgmkkoaeaaGreatDoor
namespace Go.Proofs.YtiffnfgmkkoaeaaGreatDoor
set_option linter.unusedVariables false
abbrev KV := KeyB × List UInt8
/-- Cells, and what is told of them: keys, values; the pages of values. -/
inductive ValsR (st : PgS) : List CellP → List KV → List Nat → Prop
  | nil : ValsR st [] [] []
  | cons (c : CellP) (L : List CellP) (b : List UInt8) (kv : List KV) (ps O : List Nat) (h : OvR st c b ps) (hr : ValsR st L kv O) : ValsR st (c :: L) ((c.key, b) :: kv) (ps ++ O)
section
variable {st st' : PgS} {L A B : List CellP} {kv : List KV} {O : List Nat}
theorem ValsR.frame (h : ValsR st L kv O) (hm : st.many ≤ st'.many) (hp : ∀ x ∈ O, st'.page x = st.page x) : ValsR st' L kv O := by
  induction h with
  | nil => exact .nil
  | cons c L b kv ps O h hr ih => exact .cons c L b kv ps O (h.frame hm fun x hx => hp x (List.mem_append_left _ hx)) (ih fun x hx => hp x (List.mem_append_right _ hx))
theorem ValsR.keys (h : ValsR st L kv O) : kv.map (·.1) = L.map (·.key) := by
  induction h with
  | nil => rfl
  | cons c L b kv ps O h hr ih => rw [List.map_cons, List.map_cons, ih]
theorem ValsR.len (h : ValsR st L kv O) : kv.length = L.length := by have := congrArg List.length h.keys; simpa using this
theorem ValsR.app {kv2 : List KV} {O2 : List Nat} (h : ValsR st A kv O) (h2 : ValsR st B kv2 O2) : ValsR st (A ++ B) (kv ++ kv2) (O ++ O2) := by
  induction h with
  | nil => exact h2
  | cons c L b kv ps O h hr ih => rw [List.cons_append, List.cons_append, List.append_assoc]; exact .cons c _ b _ ps _ h ih
theorem ValsR.split : ∀ {A B : List CellP} {kv : List KV} {O : List Nat}, ValsR st (A ++ B) kv O → ∃ kvA kvB OA OB, kv = kvA ++ kvB ∧ O = OA ++ OB ∧ ValsR st A kvA OA ∧ ValsR st B kvB OB
  | [], B, kv, O, h => ⟨[], kv, [], O, rfl, rfl, .nil, h⟩
  | a :: A, B, _, _, h => by
    rw [List.cons_append] at h
    cases h with
    | cons _ _ b kv ps O h hr =>
      obtain ⟨kvA, kvB, OA, OB, rfl, rfl, h1, h2⟩ := ValsR.split hr
      exact ⟨(a.key, b) :: kvA, kvB, ps ++ OA, OB, rfl, (List.append_assoc ..).symm, .cons a A b kvA ps OA h h1, h2⟩
end
theorem mem_lo {L : List CellP} {key : KeyB} {x : CellP} (h : x ∈ lo_ L key) : ltK x.key key = true := (List.mem_filter.1 h).2
/-- A tree under a root, with its pairs and its pages. -/
def TreeKV (st : PgS) (k : Nat) (kv : List KV) (pages : List Nat) : Prop := ∃ L P O, TreeOf st k L P ∧ ValsR st L kv O ∧ pages = P ++ O
theorem TreeOf.frame {st st' : PgS} {k : Nat} {L : List CellP} {P : List Nat} (h : TreeOf st k L P) (hm : st.many ≤ st'.many) (hr : st'.roots k = st.roots k) (hp : ∀ x ∈ P, st'.page x = st.page x) : TreeOf st' k L P := by
  rcases h with ⟨h1, h2, h3⟩ | ⟨h, ht⟩
  · exact .inl ⟨hr.trans h1, h2, h3⟩
  · exact .inr ⟨h, by rw [hr]; exact ht.frame hm hp⟩
theorem TreeKV.frame {st st' : PgS} {k : Nat} {kv : List KV} {pages : List Nat} (h : TreeKV st k kv pages) (hm : st.many ≤ st'.many) (hr : st'.roots k = st.roots k) (hp : ∀ x ∈ pages, st'.page x = st.page x) : TreeKV st' k kv pages := by
  obtain ⟨L, P, O, h1, h2, rfl⟩ := h
  exact ⟨L, P, O, h1.frame hm hr fun x hx => hp x (List.mem_append_left _ hx), h2.frame hm fun x hx => hp x (List.mem_append_right _ hx), rfl⟩
theorem TreeOf.rise {st : PgS} {k : Nat} {L : List CellP} {P : List Nat} (h : TreeOf st k L P) : RiseC L := by
  rcases h with ⟨_, rfl, _⟩ | ⟨h, ht⟩
  · trivial
  · exact ht.rise
theorem kids_many {T : KeyB → Option KeyB → Nat → List CellP → List Nat → Prop} {cs : List CellP} {ks : List Nat} {lo : KeyB} {hi : Option KeyB} {L : List CellP} {P : List Nat} (h : Kids T cs ks lo hi L P) (z : Nat) (hT : ∀ lo hi k l p, T lo hi k l p → z ≤ l.length) : z * (cs.length + 1) ≤ L.length := by
  induction h with
  | one k lo hi L P h => simpa using hT _ _ _ _ _ h
  | more c cs k ks lo hi l p L P hb h hr ih =>
    have := hT _ _ _ _ _ h
    rw [List.length_append, List.length_cons, Nat.mul_succ]
    omega
/-- A tree is no higher than twos allow. -/
theorem TreeR.height {st : PgS} : ∀ {h m : Nat} {lo : KeyB} {hi : Option KeyB} {no : Nat} {L : List CellP} {P : List Nat}, TreeR st h m lo hi no L P → 7 ≤ m → 2 ^ h ≤ L.length
  | 0, m, _, _, _, _, _, ⟨n, hl, hz, ⟨hf, rfl, _⟩, _⟩, hm => by
    rcases Nat.eq_zero_or_pos n.cells.length with h0 | h0
    · have e := List.eq_nil_of_length_eq_zero h0
      have : sizeP n = 3 := by unfold sizeP; rw [hf, e]; rfl
      omega
    · exact h0
  | h + 1, m, _, _, _, _, _, ⟨n, Q, hl, hz, ⟨hf, hK⟩, _⟩, hm => by
    have h1 := kids_many hK (2 ^ h) fun _ _ _ _ _ ht => TreeR.height ht (by omega)
    have h2 : 1 ≤ n.cells.length := by
      rcases Nat.eq_zero_or_pos n.cells.length with h0 | h0
      · have e := List.eq_nil_of_length_eq_zero h0
        have : sizeP n = 6 := by unfold sizeP; rw [hf, e]; rfl
        omega
      · exact h0
    have h3 : 2 ^ h * 2 ≤ 2 ^ h * (n.cells.length + 1) := Nat.mul_le_mul_left _ (by omega)
    rw [Nat.pow_succ]
    omega
end Go.Proofs.YtiffnfgmkkoaeaaGreatDoor
