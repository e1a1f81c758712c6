/-
  A map by numbers, in memory: a function of its keys.
-/
import Derived.Test.YthohbbaglceppaaGreatDoorUMine
import Derived.Maps.OwnSet
import Derived.Maps.Views
import Derived.Maps.Range
namespace Go.Proofs.YthohbbaglceppaaGreatDoor
open Go.RowKit Go.Maps
set_option linter.unusedVariables false
/-- An element of a map as it is. -/
def heldE (v : Value) : Option (DataW Value × List MemPlace) := some (.held v, [])
def nilS : Value := .slice none 0 0
def updO (m : Nat → Option Value) (k : Nat) (v : Option Value) : Nat → Option Value := fun j => if j = k then v else m j
/-- What the map reads as, by numbers below N. -/
structure Keys (D : DataW Value) (N : Nat) (m : Nat → Option Value) : Prop where
  tidy : Tidy D
  only : ∀ kl, Maps.has D kl = true → ∃ k : Nat, k < N ∧ kl = .int .i64 (k : Int)
  some_ : ∀ k v, k < N → m k = some v → Maps.has D (.int .i64 (k : Int)) = true ∧ ∀ z, D.atKey (.int .i64 (k : Int)) z = .held v
  none_ : ∀ k, k < N → m k = none → Maps.has D (.int .i64 (k : Int)) = false
def IMap (w : World) (b N : Nat) (m : Nat → Option Value) : Prop := ∃ nn D, w.ownsMap Tryz.prog 3 heldE b nn D ∧ Keys D N m
theorem nodup_below : ∀ (N : Nat) (l : List Nat), l.Nodup → (∀ x ∈ l, x < N) → l.length ≤ N
  | 0, [], _, _ => Nat.le_refl _
  | 0, a :: r, _, h => absurd (h a (.head _)) (by omega)
  | N + 1, l, hd, h => by
    have h1 := nodup_below N (l.filter (fun x => x != N)) (hd.filter _) (fun x hx => by
      have h2 := List.mem_filter.1 hx
      have h3 := h x h2.1
      have h4 : x ≠ N := by simpa using h2.2
      omega)
    have h5 : l.length ≤ (l.filter (fun x => x != N)).length + 1 := by
      clear h1 h
      induction l with
      | nil => simp
      | cons a r ih =>
        have hd2 := List.nodup_cons.1 hd
        by_cases e : a = N
        · subst e
          have : r.filter (fun x => x != a) = r := List.filter_eq_self.2 fun x hx => by
            simp only [bne_iff_ne, ne_eq]; rintro rfl; exact hd2.1 hx
          rw [List.filter_cons_of_neg (by simp), this, List.length_cons]
          omega
        · rw [List.filter_cons_of_pos (by simpa using e), List.length_cons, List.length_cons]
          have := ih hd2.2
          omega
    omega
def keyN (p : Lit × DataW Value) : Nat := match p.1 with | .int _ a => a.toNat | _ => 0
theorem keys_size {D : DataW Value} {N : Nat} {m : Nat → Option Value} (h : Keys D N m) (he : ∃ es, D = .map es ∧ es.Pairwise (fun p q => p.1 ≠ q.1) ∧ ∀ p ∈ es, WideAt.IsKeyLit p.1) : Maps.size D ≤ N := by
  obtain ⟨es, rfl, hp, hlit⟩ := he
  rw [Maps.size_eq]
  have hk : ∀ p ∈ es, ∃ k : Nat, k < N ∧ p.1 = .int .i64 (k : Int) := fun p hp => h.only p.1 (by
    rw [Maps.has_eq]
    refine List.any_eq_true.2 ⟨p, hp, ?_⟩
    cases hs : p.1.sameKey p.1 with
    | true => rfl
    | false => exfalso; have hl := hlit p hp; cases e : p.1 <;> rw [e] at hs hl <;> simp [Lit.sameKey, WideAt.IsKeyLit] at hs hl)
  have hn : (es.map keyN).Nodup := by
    rw [List.Nodup, List.pairwise_map]
    refine List.Pairwise.imp_of_mem (fun {a b} ha hb hne => ?_) hp
    obtain ⟨i, _, ei⟩ := hk a ha
    obtain ⟨j, _, ej⟩ := hk b hb
    intro e
    apply hne
    unfold keyN at e
    rw [ei, ej] at e
    simp at e
    rw [ei, ej, e]
  have h := nodup_below N (es.map keyN) hn (fun x hx => by
    obtain ⟨p, hp, rfl⟩ := List.mem_map.1 hx
    obtain ⟨i, hi, ei⟩ := hk p hp
    unfold keyN
    rw [ei]
    simpa using hi)
  rw [List.length_map] at h
  exact h
theorem own_tight {w : World} {b nn : Nat} {D : DataW Value} (h : w.ownsMap Tryz.prog 3 heldE b nn D) : w.ownsMap Tryz.prog 3 heldE b (Maps.size D) D := by
  obtain ⟨es, clock, hb, F, hs, rfl⟩ := h
  refine ⟨es, clock, hb, F, ?_, rfl⟩
  simp [Maps.size, length_sorted]
section
variable {w w' : World} {b N : Nat} {m : Nat → Option Value}
theorem ikey (k : Nat) (hk : k < 9000000000000000000) : keyOf Tryz.prog 3 (.int .i64 (k : Int)) = some (.int .i64 (k : Int)) := keyOf_int_mk Tryz.underlying3 (WalkArith.wf_i64 (by omega))
theorem zero_bs (w : World) : (zeroValue 37).run Tryz.prog w = .ok nilS w := by kernel_rfl
theorem IMap.new (w : World) (N : Nat) : IMap (w.alloc (.map #[] 0)) w.heap.size N (fun _ => none) :=
  ⟨0, _, World.ownsMap_made w Tryz.prog 3 heldE, tidy_empty, fun kl h => (by cases h), fun k v _ h => (by cases h), fun _ _ _ => rfl⟩
theorem IMap.keep (h : IMap w b N m) (hb : w'.heap[b]? = w.heap[b]?) : IMap w' b N m := by
  obtain ⟨nn, D, ⟨es, clock, h1, r⟩, hk⟩ := h
  exact ⟨nn, D, ⟨es, clock, hb.trans h1, r⟩, hk⟩
theorem IMap.lt (h : IMap w b N m) : b < w.heap.size := by
  obtain ⟨nn, D, ho, _⟩ := h
  exact ho.lt
theorem IMap.ne (h : IMap w b N m) {g : Nat} {t : TypeId} {cs : Array Value} (hb : Blk w g t cs) : b ≠ g := by
  obtain ⟨nn, D, ⟨es, clock, h1, r⟩, hk⟩ := h
  rintro rfl
  unfold Blk at hb
  rw [h1] at hb
  cases hb
theorem IMap.look (h : IMap w b N m) (k : Nat) (hk : k < N) (hN : N ≤ 9000000000000000000) :
    (Instr.lookup 80 (.map (some b)) (.int .i64 (k : Int)) true).run Tryz.prog w = .ok (.tuple #[(m k).getD nilS, .bool (m k).isSome]) w := by
  obtain ⟨nn, D, ho, hK⟩ := h
  obtain ⟨v, ps, hr, hv⟩ := ho.look_ok (int_keyed Tryz.underlying3) Tryz.underlying80 (zero_bs w) (zd := .held nilS) (zp := []) rfl (ikey k (by omega))
  rw [hr]
  cases hm : m k with
  | none =>
    have h1 := hK.none_ k hk hm
    rw [atKey_of_not_has h1] at hv
    simp only [heldE, Option.some.injEq, Prod.mk.injEq, DataW.held.injEq] at hv
    rw [h1, hv.1]; rfl
  | some x =>
    obtain ⟨h1, h2⟩ := hK.some_ k x hk hm
    rw [h2] at hv
    simp only [heldE, Option.some.injEq, Prod.mk.injEq, DataW.held.injEq] at hv
    rw [h1, hv.1]; rfl
theorem isKey_i (k : Nat) : WideAt.IsKeyLit (.int .i64 (k : Int)) := trivial
theorem lit_ne {j k : Nat} (h : j ≠ k) : (Lit.int .i64 (j : Int)) ≠ .int .i64 (k : Int) := fun e => by injection e with _ e; omega
theorem Keys.put {D : DataW Value} (h : Keys D N m) (k : Nat) (hk : k < N) (v : Value) : Keys (D.put (.int .i64 (k : Int)) (.held v)) N (updO m k (some v)) := by
  refine ⟨h.tidy.put (isKey_i k) _, fun kl hkl => ?_, fun j u hj hu => ?_, fun j hj hu => ?_⟩
  · by_cases e : kl = .int .i64 (k : Int)
    · exact ⟨k, hk, e⟩
    · rw [has_put_other e] at hkl; exact h.only kl hkl
  · unfold updO at hu
    by_cases e : j = k
    · subst e
      rw [if_pos rfl] at hu
      injection hu with hu
      subst hu
      exact ⟨has_put_same h.tidy.isMap (isKey_i j) _, fun z => atKey_put_same h.tidy.isMap (isKey_i j) _ z⟩
    · rw [if_neg e] at hu
      obtain ⟨h1, h2⟩ := h.some_ j u hj hu
      exact ⟨by rw [has_put_other (lit_ne e)]; exact h1, fun z => by rw [atKey_put_other (lit_ne e)]; exact h2 z⟩
  · unfold updO at hu
    by_cases e : j = k
    · rw [if_pos e] at hu; cases hu
    · rw [if_neg e] at hu
      rw [has_put_other (lit_ne e)]; exact h.none_ j hj hu
theorem Keys.del {D : DataW Value} (h : Keys D N m) (k : Nat) : Keys (D.del (.int .i64 (k : Int))) N (updO m k none) := by
  refine ⟨h.tidy.del _, fun kl hkl => ?_, fun j u hj hu => ?_, fun j hj hu => ?_⟩
  · by_cases e : kl = .int .i64 (k : Int)
    · rw [e, has_del_same] at hkl; cases hkl
    · rw [has_del_other e] at hkl; exact h.only kl hkl
  · unfold updO at hu
    by_cases e : j = k
    · rw [if_pos e] at hu; cases hu
    · rw [if_neg e] at hu
      obtain ⟨h1, h2⟩ := h.some_ j u hj hu
      exact ⟨by rw [has_del_other (lit_ne e)]; exact h1, fun z => by rw [atKey_del_other (lit_ne e)]; exact h2 z⟩
  · unfold updO at hu
    by_cases e : j = k
    · subst e; exact has_del_same
    · rw [if_neg e] at hu
      rw [has_del_other (lit_ne e)]; exact h.none_ j hj hu
theorem IMap.update (h : IMap w b N m) (k : Nat) (hk : k < N) (hN : N ≤ 1000000000) (v : Value) :
    ∃ w', (Instr.mapUpdate 80 (.map (some b)) (.int .i64 (k : Int)) v).run Tryz.prog w = .ok () w' ∧ IMap w' b N (updO m k (some v)) ∧ w.grownBy w' (some b) := by
  obtain ⟨nn, D, ho, hK⟩ := h
  have hs := keys_size hK (ho.entries (int_keyed Tryz.underlying3))
  obtain ⟨w', hr, ho', hg⟩ := (own_tight ho).update (int_keyed Tryz.underlying3) Tryz.underlying80 (by unfold maxLen; omega) (ikey k (by omega)) (val := v) (d := .held v) (ps := []) rfl
  exact ⟨w', hr, ⟨_, _, ho', hK.put k hk v⟩, hg⟩
theorem IMap.drop (h : IMap w b N m) (k : Nat) (hk : k < 9000000000000000000) (ty : TypeId) :
    ∃ w', (Builtin.delete_ #[80, 3] ty #[.map (some b), .int .i64 (k : Int)]).run Tryz.prog w = .ok (.tuple #[]) w' ∧ IMap w' b N (updO m k none) ∧ w.grownBy w' (some b) := by
  obtain ⟨nn, D, ho, hK⟩ := h
  obtain ⟨w', hr, ho', hg⟩ := ho.drop (int_keyed Tryz.underlying3) Tryz.underlying80 (ikey k hk) ty
  exact ⟨w', hr, ⟨_, _, ho', hK.del k⟩, hg.grown⟩
end
end Go.Proofs.YthohbbaglceppaaGreatDoor
