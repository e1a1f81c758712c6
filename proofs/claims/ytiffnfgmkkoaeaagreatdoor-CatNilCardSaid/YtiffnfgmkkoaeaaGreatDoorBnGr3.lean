/-
  The pages of a pager: which are free, which are in use. No program in sight.
-/
import Derived.Test.YtiffnfgmkkoaeaaGreatDoorBnGr2
namespace Go.Proofs.YtiffnfgmkkoaeaaGreatDoor
set_option linter.unusedVariables false
/-- The chain of free pages. -/
inductive FreeR (st : PgS) : Nat → List Nat → Prop
  | nil : FreeR st 0 []
  | cons (no : Nat) (l : List Nat) (h0 : st.has no) (hr : FreeR st (numL ((st.page no).take 4)) l) : FreeR st no (no :: l)
/-- All pages are free, or in use, each once. -/
structure Inv (st : PgS) (fl U : List Nat) : Prop where
  ok : st.ok
  fr : FreeR st st.free fl
  nd : (fl ++ U).Nodup
  all : ∀ no, st.has no ↔ no ∈ fl ++ U
/-- What stays: the pages of U, the roots; there are no fewer pages. -/
structure Same (U : List Nat) (st st' : PgS) : Prop where
  page : ∀ x ∈ U, st'.page x = st.page x
  many : st.many ≤ st'.many
  roots : st'.roots = st.roots
theorem Same.refl (U : List Nat) (st : PgS) : Same U st st := ⟨fun _ _ => rfl, Nat.le_refl _, rfl⟩
theorem Same.trans {U U' : List Nat} {a b c : PgS} (h : Same U a b) (k : Same U' b c) (hs : ∀ x ∈ U, x ∈ U') : Same U a c :=
  ⟨fun x hx => (k.page x (hs x hx)).trans (h.page x hx), Nat.le_trans h.many k.many, k.roots.trans h.roots⟩
theorem Same.mono {U U' : List Nat} {a b : PgS} (h : Same U a b) (hs : ∀ x ∈ U', x ∈ U) : Same U' a b := ⟨fun x hx => h.page x (hs x hx), h.many, h.roots⟩
section
variable {st : PgS} {fl U U' : List Nat} {no : Nat}
theorem Inv.has_ (h : Inv st fl U) (hn : no ∈ U) : st.has no := (h.all no).2 (List.mem_append_right _ hn)
theorem Inv.ndU (h : Inv st fl U) : U.Nodup := (List.nodup_append.1 h.nd).2.1
theorem Inv.apart (h : Inv st fl U) {x : Nat} (hx : x ∈ fl) : x ∉ U := fun hu => (List.nodup_append.1 h.nd).2.2 x hx x hu rfl
theorem FreeR.frame {st' : PgS} {l : List Nat} (h : FreeR st no l) (hm : st.many ≤ st'.many) (hp : ∀ x ∈ l, st'.page x = st.page x) : FreeR st' no l := by
  induction h with
  | nil => exact .nil
  | cons no l h0 hr ih =>
    refine .cons no l ⟨h0.1, Nat.lt_of_lt_of_le h0.2 hm⟩ ?_
    rw [hp no (.head _)]
    exact ih fun x hx => hp x (.tail _ hx)
theorem FreeR.lt {l : List Nat} (h : FreeR st no l) (h1 : 1 ≤ st.many) : no < st.many := by
  cases h with
  | nil => omega
  | cons _ _ h0 _ => exact h0.2
theorem upd_page (no x : Nat) (b : List UInt8) (h : x ≠ no) : (st.upd no b).page x = st.page x := by
  show (if x = no then b else st.page x) = _
  rw [if_neg h]
/-- A page is freed. -/
theorem Inv.free (h : Inv st fl (no :: U)) : Inv (freeS st no) (no :: fl) U ∧ Same U st (freeS st no) ∧ (freeS st no).many = st.many := by
  have hno : ∀ x ∈ fl, x ≠ no := fun x hx e => h.apart hx (by rw [e]; exact .head _)
  have hno2 : ∀ x ∈ U, x ≠ no := fun x hx e => (List.nodup_cons.1 h.ndU).1 (by rw [← e]; exact hx)
  have hh := h.has_ (.head _)
  have hp : (freeS st no).page no = leB 4 st.free ++ zB 504 := by show (if no = no then _ else _) = _; rw [if_pos rfl]
  refine ⟨⟨h.ok.freed no hh, ?_, ?_, fun x => (h.all x).trans ?_⟩, ⟨fun x hx => upd_page no x _ (hno2 x hx), Nat.le_refl _, rfl⟩, rfl⟩
  · refine .cons no fl hh ?_
    rw [hp, List.take_left' (leB_len _ _), numL_leB, Nat.mod_eq_of_lt (by have := h.ok.free; have := h.ok.most; omega)]
    exact h.fr.frame (Nat.le_refl _) fun x hx => upd_page no x _ (hno x hx)
  · exact (List.Perm.nodup_iff (List.perm_middle (a := no) (l₁ := fl) (l₂ := U)).symm).2 h.nd |> fun h => by simpa using h
  · exact (List.Perm.mem_iff (List.perm_middle (a := no) (l₁ := fl) (l₂ := U)))
/-- A page more. -/
theorem Inv.alloc (h : Inv st fl U) (hm : st.many < 65536) : CanAlloc st ∧ ∃ fl', Inv (allocS st) fl' (allocN st :: U) ∧ Same U st (allocS st) ∧ (allocS st).many ≤ st.many + 1 ∧ allocN st ∉ U := by
  by_cases h0 : st.free = 0
  · have hc : CanAlloc st := .inl ⟨h0, hm⟩
    have hfl : fl = [] := by
      have := h.fr
      rw [h0] at this
      cases this with
      | nil => rfl
      | cons _ _ h1 _ => exact absurd h1.1 (by omega)
    subst hfl
    have hok := (h.ok.alloc hc).1
    have hn : allocN st = st.many := by unfold allocN; rw [if_pos h0]
    have hs : allocS st = { st.upd st.many (zB 508) with many := st.many + 1 } := by unfold allocS; rw [if_pos h0]
    have hnu : st.many ∉ U := fun hu => by have := (h.has_ hu).2; omega
    refine ⟨hc, [], ?_, ⟨fun x hx => ?_, ?_, ?_⟩, ?_, ?_⟩
    · refine ⟨hok, ?_, ?_, fun x => ?_⟩
      · rw [hs]
        show FreeR _ st.free []
        rw [h0]; exact .nil
      · rw [hn, List.nil_append]
        exact List.nodup_cons.2 ⟨hnu, h.ndU⟩
      · rw [hs, hn]
        have h1 := h.all x
        have h2 := h.ok.one
        simp only [List.nil_append, List.mem_cons] at h1 ⊢
        rw [← h1]
        show (1 ≤ x ∧ x < st.many + 1) ↔ x = st.many ∨ (1 ≤ x ∧ x < st.many)
        omega
    · rw [hs]; exact upd_page st.many x _ (fun e => hnu (by rw [← e]; exact hx))
    · rw [hs]; exact Nat.le_succ _
    · rw [hs]; rfl
    · rw [hs]; exact Nat.le_refl _
    · rw [hn]; exact hnu
  · cases hfr : fl with
    | nil =>
      have := h.fr
      rw [hfr] at this
      generalize e : st.free = f at this
      cases this
      exact absurd e h0
    | cons f l =>
      have h1 := h.fr
      rw [hfr] at h1
      generalize e : st.free = f' at h1
      cases h1 with
      | cons _ _ hf hr =>
        have hc : CanAlloc st := .inr ⟨by rw [e]; have := hf.1; omega, by rw [e]; exact hr.lt h.ok.one⟩
        have hok := (h.ok.alloc hc).1
        have hf0 : ¬ f = 0 := by have := hf.1; omega
        have hn : allocN st = f := by unfold allocN; rw [e, if_neg hf0]
        have hs : allocS st = { st.upd f (zB 508) with free := numL ((st.page f).take 4) } := by unfold allocS; rw [e, if_neg hf0]
        have hnd := h.nd
        rw [hfr, List.cons_append] at hnd
        have hn1 := (List.nodup_cons.1 hnd).1
        have hnu : f ∉ U := fun hu => hn1 (List.mem_append_right _ hu)
        have hnl : f ∉ l := fun hu => hn1 (List.mem_append_left _ hu)
        refine ⟨hc, l, ⟨hok, ?_, ?_, fun x => ?_⟩, ⟨fun x hx => ?_, ?_, ?_⟩, ?_, ?_⟩
        · rw [hs]
          exact hr.frame (st' := { st.upd f (zB 508) with free := numL ((st.page f).take 4) }) (Nat.le_refl _) fun x hx => upd_page f x _ (fun e => hnl (by rw [← e]; exact hx))
        · rw [hn]
          exact (List.Perm.nodup_iff List.perm_middle).2 hnd
        · rw [hs, hn]
          have h2 := h.all x
          rw [hfr, List.cons_append] at h2
          exact h2.trans (List.Perm.mem_iff List.perm_middle).symm
        · rw [hs]; exact upd_page f x _ (fun e => hnu (by rw [← e]; exact hx))
        · rw [hs]; exact Nat.le_refl _
        · rw [hs]; rfl
        · rw [hs]; exact Nat.le_succ _
        · rw [hn]; exact hnu
end
theorem LoadR.size {st : PgS} {no : Nat} {n : NodeP} (h : LoadR st no n) (ho : st.ok) : sizeP n ≤ 508 := by
  obtain ⟨h0, h1, z, hz⟩ := h
  have h2 := ho.len no h0
  rw [hz, List.length_append, packP_len] at h2
  omega
end Go.Proofs.YtiffnfgmkkoaeaaGreatDoor
namespace Go.Proofs.YtiffnfgmkkoaeaaGreatDoor
set_option linter.unusedVariables false
/-- A place at which a node may be parted. -/
def mayCut (n : NodeP) (m : Nat) : Prop := 1 ≤ m ∧ m + skipN n < n.cells.length
end Go.Proofs.YtiffnfgmkkoaeaaGreatDoor
namespace Go.Proofs.YtiffnfgmkkoaeaaGreatDoor
set_option linter.unusedVariables false
theorem LoadR.frame {st st' : PgS} {no : Nat} {n : NodeP} (h : LoadR st no n) (hm : st.many ≤ st'.many) (hp : st'.page no = st.page no) : LoadR st' no n :=
  ⟨⟨h.1.1, Nat.lt_of_lt_of_le h.1.2 hm⟩, by rw [hp]; exact h.2⟩
theorem keyOfC_of {cs : List CellP} {i : Nat} {c : CellP} (h : cs[i]? = some c) : keyOfC cs i = c.key := by unfold keyOfC; rw [h]
theorem inB.left {lo : KeyB} {hi : Option KeyB} {s x : KeyB} (h : inB lo (some s) x) (hs : sepB lo hi s) : inB lo hi x := ⟨h.1, fun t ht => ltK_trans _ _ _ (h.2 _ rfl) (hs.2 t ht)⟩
theorem inB.right {lo : KeyB} {hi : Option KeyB} {s x : KeyB} (h : inB s hi x) (hs : sepB lo hi s) : inB lo hi x := ⟨le_ltK _ _ _ (ltK_asymm _ _ hs.1) h.1, h.2⟩
theorem NodeT.split {st : PgS} {h : Nat} {n : NodeP} {lo : KeyB} {hi : Option KeyB} {L : List CellP} {Q : List Nat} (ht : NodeT st h n lo hi L Q) (hr : RightP n) (m : Nat) (hm : mayCut n m) :
    ∃ L1 L2 Q1 Q2, L = L1 ++ L2 ∧ Q = Q1 ++ Q2 ∧ sepB lo hi (keyOfC n.cells m) ∧ NodeT st h (partP n 0 m) lo (some (keyOfC n.cells m)) L1 Q1 ∧ NodeT st h (partP n (m + skipN n) n.cells.length) (keyOfC n.cells m) hi L2 Q2 := by
  have hml : m < n.cells.length := by have := hm.2; omega
  have hc : n.cells[m]? = some n.cells[m] := List.getElem?_eq_getElem hml
  have hk := keyOfC_of hc
  cases h with
  | zero =>
    obtain ⟨h1, rfl, h3, rfl⟩ := ht
    have hskip : skipN n = 0 := by unfold skipN; rw [if_pos h1]
    have hrise := hr.rise
    rw [← List.take_append_drop m n.cells] at hrise
    have hmem : n.cells[m] ∈ n.cells.drop m := by rw [List.drop_eq_getElem_cons hml]; exact .head _
    have hlt : ∀ x ∈ n.cells.take m, ltK x.key (keyOfC n.cells m) = true := fun x hx => by rw [hk]; exact hrise.between x hx _ hmem
    have hge : ∀ x ∈ n.cells.drop m, ltK x.key (keyOfC n.cells m) = false := fun x hx => by
      rw [hk]
      have h4 := hrise.right
      rw [List.drop_eq_getElem_cons hml] at hx h4
      rcases List.mem_cons.1 hx with rfl | hx
      · exact ltK_irrefl _
      · exact ltK_asymm _ _ (h4.1 x hx)
    have h0 : n.cells[0] ∈ n.cells.take m := by
      refine List.mem_of_getElem? (i := 0) ?_
      rw [List.getElem?_take, if_pos (by have := hm.1; omega), List.getElem?_eq_getElem (by omega)]
    refine ⟨n.cells.take m, n.cells.drop m, [], [], (List.take_append_drop ..).symm, rfl, ⟨le_ltK_trans _ _ _ (h3 _ (List.getElem_mem (by omega))).1 (hlt _ h0), fun t ht => ?_⟩, ⟨h1, by simp [partP], fun c hc' => ?_, rfl⟩, ⟨h1, ?_, fun c hc' => ?_, rfl⟩⟩
    · rw [hk]; exact (h3 _ (List.getElem_mem hml)).2 t ht
    · have hc2 : c ∈ n.cells.take m := by simpa [partP] using hc'
      exact ⟨(h3 c (List.mem_of_mem_take hc2)).1, fun t ht => by injection ht with ht; rw [← ht]; exact hlt c hc2⟩
    · rw [hskip, Nat.add_zero]
      show _ = (n.cells.drop m).take (n.cells.length - m)
      rw [List.take_of_length_le (by simp)]
    · rw [hskip, Nat.add_zero] at hc'
      have hc2 : c ∈ n.cells.drop m := List.mem_of_mem_take hc'
      exact ⟨hge c hc2, (h3 c (List.mem_of_mem_drop hc2)).2⟩
  | succ h =>
    obtain ⟨h1, h2⟩ := ht
    have hskip : skipN n = 1 := by unfold skipN; rw [if_neg (by rw [h1]; decide)]
    have hkl := h2.len
    obtain ⟨L1, L2, P1, P2, rfl, rfl, h3, h4, h5⟩ := h2.cut m _ hc
    refine ⟨L1, L2, P1, P2, rfl, rfl, by rw [hk]; exact h5, ⟨h1, ?_⟩, ⟨h1, ?_⟩⟩
    · rw [hk]
      have e1 : (partP n 0 m).cells = n.cells.take m := by simp [partP]
      have e2 : (partP n 0 m).kids = n.kids.take (m + 1) := by simp [partP, h1]
      rw [e1, e2]; exact h3
    · rw [hk, hskip]
      have e1 : (partP n (m + 1) n.cells.length).cells = n.cells.drop (m + 1) := by
        show (n.cells.drop (m + 1)).take (n.cells.length - (m + 1)) = _
        rw [List.take_of_length_le (by simp)]
      have e2 : (partP n (m + 1) n.cells.length).kids = n.kids.drop (m + 1) := by
        show (if n.leaf = true then [] else _) = _
        rw [if_neg (by rw [h1]; decide), List.take_of_length_le (by simp; omega)]
      rw [e1, e2]; exact h4
end Go.Proofs.YtiffnfgmkkoaeaaGreatDoor
namespace Go.Proofs.YtiffnfgmkkoaeaaGreatDoor
set_option linter.unusedVariables false
end Go.Proofs.YtiffnfgmkkoaeaaGreatDoor
namespace Go.Proofs.YtiffnfgmkkoaeaaGreatDoor
set_option linter.unusedVariables false
theorem findI_le (cs : List CellP) (key : KeyB) : findI cs key ≤ cs.length := (List.takeWhile_prefix _).length_le
theorem findI_below (cs : List CellP) (key : KeyB) : ∀ j, j < findI cs key → ∀ c, cs[j]? = some c → ltK c.key key = true := by
  unfold findI
  induction cs with
  | nil => intro j hj; simp at hj
  | cons a r ih =>
    intro j hj c hc
    rw [List.takeWhile_cons] at hj
    by_cases h : ltK a.key key = true
    · rw [if_pos h] at hj
      cases j with
      | zero => simp at hc; subst hc; exact h
      | succ j => exact ih j (by simpa using hj) c (by simpa using hc)
    · rw [if_neg h] at hj; simp at hj
theorem findI_at (cs : List CellP) (key : KeyB) : ∀ c, cs[findI cs key]? = some c → ltK c.key key = false := by
  unfold findI
  induction cs with
  | nil => intro c hc; simp at hc
  | cons a r ih =>
    intro c hc
    rw [List.takeWhile_cons] at hc
    by_cases h : ltK a.key key = true
    · rw [if_pos h] at hc
      exact ih c (by simpa using hc)
    · rw [if_neg h] at hc
      simp at hc
      subst hc
      simpa using h
theorem RiseC.at_ {cs : List CellP} (h : RiseC cs) {i j : Nat} (hij : i < j) {a b : CellP} (ha : cs[i]? = some a) (hb : cs[j]? = some b) : ltK a.key b.key = true := by
  rw [← List.take_append_drop j cs] at h
  refine h.between a ?_ b ?_
  · exact List.mem_of_getElem? (i := i) (by rw [List.getElem?_take, if_pos hij, ha])
  · exact List.mem_of_getElem? (i := 0) (by rw [List.getElem?_drop, Nat.add_zero, hb])
/-- The kid in which a key belongs. -/
theorem findP_inner (n : NodeP) (key : KeyB) (hr : RiseC n.cells) (hf : n.leaf = false) :
    (findP n key).1 ≤ n.cells.length ∧ (∀ c, 0 < (findP n key).1 → n.cells[(findP n key).1 - 1]? = some c → ltK key c.key = false) ∧ (∀ c, n.cells[(findP n key).1]? = some c → ltK key c.key = true) := by
  have h1 := findI_le n.cells key
  have h2 := findI_below n.cells key
  have h3 := findI_at n.cells key
  unfold findP
  cases hk : keyAt n.cells (findI n.cells key) key with
  | true =>
    rw [if_pos rfl, if_neg (by rw [hf]; decide)]
    unfold keyAt at hk
    split at hk
    · rename_i d hd
      have hdk : d.key = key := by simpa using hk
      have hlt := (List.getElem?_eq_some_iff.1 hd).1
      refine ⟨hlt, fun c _ hc => ?_, fun c hc => ?_⟩
      · have : some d = some c := by rw [← hd, ← hc]; rfl
        injection this with this
        rw [← this, hdk]; exact ltK_irrefl _
      · have := hr.at_ (Nat.lt_succ_self _) hd hc
        rw [hdk] at this; exact this
    · cases hk
  | false =>
    rw [if_neg (by decide)]
    refine ⟨h1, fun c h0 hc => ltK_asymm _ _ (h2 _ (by show findI n.cells key - 1 < _; have : 0 < findI n.cells key := h0; omega) c hc), fun c hc => ?_⟩
    have h4 := h3 c hc
    cases h5 : ltK key c.key with
    | true => rfl
    | false =>
      have h6 := ltK_total _ _ h5 h4
      have hc' : n.cells[findI n.cells key]? = some c := hc
      unfold keyAt at hk
      rw [hc'] at hk
      simp [← h6] at hk
end Go.Proofs.YtiffnfgmkkoaeaaGreatDoor
namespace Go.Proofs.YtiffnfgmkkoaeaaGreatDoor
set_option linter.unusedVariables false
/-- The tree under a root. -/
def TreeOf (st : PgS) (k : Nat) (L : List CellP) (P : List Nat) : Prop := (st.roots k = 0 ∧ L = [] ∧ P = []) ∨ ∃ h, TreeR st h 7 [] none (st.roots k) L P
/-- What stays, but for one root. -/
structure SameK (k : Nat) (U : List Nat) (st st' : PgS) : Prop where
  page : ∀ x ∈ U, st'.page x = st.page x
  many : st.many ≤ st'.many
  roots : ∀ j, j ≠ k → st'.roots j = st.roots j
theorem SameK.refl (k : Nat) (U : List Nat) (st : PgS) : SameK k U st st := ⟨fun _ _ => rfl, Nat.le_refl _, fun _ _ => rfl⟩
theorem SameK.trans {k : Nat} {U U' : List Nat} {a b c : PgS} (h : SameK k U a b) (g : SameK k U' b c) (hs : ∀ x ∈ U, x ∈ U') : SameK k U a c :=
  ⟨fun x hx => (g.page x (hs x hx)).trans (h.page x hx), Nat.le_trans h.many g.many, fun j hj => (g.roots j hj).trans (h.roots j hj)⟩
theorem SameK.mono {k : Nat} {U U' : List Nat} {a b : PgS} (h : SameK k U a b) (hs : ∀ x ∈ U', x ∈ U) : SameK k U' a b := ⟨fun x hx => h.page x (hs x hx), h.many, h.roots⟩
end Go.Proofs.YtiffnfgmkkoaeaaGreatDoor
namespace Go.Proofs.YtiffnfgmkkoaeaaGreatDoor
set_option linter.unusedVariables false
theorem ChainR.frame {st st' : PgS} {no long : Nat} {l : List (Nat × List UInt8)} (h : ChainR st no long l) (hm : st.many ≤ st'.many) (hp : ∀ x ∈ l.map (·.1), st'.page x = st.page x) : ChainR st' no long l := by
  induction h with
  | nil no => exact .nil no
  | cons no long l h0 hn hr ih =>
    have e := hp no (by simp)
    have h1 := ih fun x hx => hp x (by simp at hx ⊢; exact .inr hx)
    rw [← e] at h1 ⊢
    exact .cons no long l h0 ⟨hn.1, Nat.lt_of_lt_of_le hn.2 hm⟩ h1
theorem ChainR.lt {st : PgS} {no long : Nat} {l : List (Nat × List UInt8)} (h : ChainR st no long l) (h0 : 0 < long) : st.has no := by
  cases h with
  | nil => omega
  | cons _ _ _ _ hn _ => exact hn
/-- A cell's value, and its pages. -/
def OvR (st : PgS) (c : CellP) (b : List UInt8) (ps : List Nat) : Prop := (c.over = 0 ∧ b = c.val ∧ ps = []) ∨ (c.over ≠ 0 ∧ ∃ l, ChainR st c.over c.long l ∧ b = l.flatMap (·.2) ∧ ps = l.map (·.1))
theorem OvR.frame {st st' : PgS} {c : CellP} {b : List UInt8} {ps : List Nat} (h : OvR st c b ps) (hm : st.many ≤ st'.many) (hp : ∀ x ∈ ps, st'.page x = st.page x) : OvR st' c b ps := by
  rcases h with h | ⟨h0, l, h1, h2, rfl⟩
  · exact .inl h
  · exact .inr ⟨h0, l, h1.frame hm hp, h2, rfl⟩
theorem OvR.value {st : PgS} {c : CellP} {b : List UInt8} {ps : List Nat} (h : OvR st c b ps) : ValueR st c b := by
  rcases h with ⟨h0, h1, _⟩ | ⟨h0, l, h1, h2, _⟩
  · exact .inl ⟨h0, h1⟩
  · exact .inr ⟨h0, l, h1, h2⟩
end Go.Proofs.YtiffnfgmkkoaeaaGreatDoor
