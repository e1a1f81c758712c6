/-
  The parser's state in memory; contracts of its small methods: is, next, put.
-/
import Derived.Test.YtnhcamkccnaeeaaGreatDoorParseSpec
import Derived.Test.YtnhcamkccnaeeaaGreatDoorLexG
import Derived.Deep.RegionLaw
import Derived.Maps.OwnOps
import Derived.Maps.Keyed
namespace Go.Proofs.YtnhcamkccnaeeaaGreatDoor
open Go.RowKit
set_option linter.unusedVariables false

/-- A part's seven cells; the cells of parts. -/
def av (x : Ask) : List Value := [.int .i64 x.kind, .int .i64 x.op, .int .i64 x.a, .int .i64 x.b, .int .i64 x.n, .string (str x.text), .bool x.isText]
def avs (l : List Ask) : List Value := l.flatMap av
theorem avs_length (l : List Ask) : (avs l).length = l.length * 7 := by
  induction l with
  | nil => rfl
  | cons a l ih => simp only [avs, List.flatMap_cons, List.length_append, List.length_cons] at *; rw [ih]; simp [av]; omega
theorem avs_append (a b : List Ask) : avs (a ++ b) = avs a ++ avs b := by simp [avs]
theorem avs_get (l : List Ask) (k j : Nat) (hk : k < l.length) (hj : j < 7) : (avs l)[k * 7 + j]? = (av l[k])[j]? := by
  induction l generalizing k with
  | nil => simp at hk
  | cons a l ih =>
    have e : avs (a :: l) = av a ++ avs l := by simp [avs]
    rw [e]
    cases k with
    | zero => rw [List.getElem?_append_left (by simp [av]; omega)]; simp
    | succ k =>
      rw [List.getElem?_append_right (by simp [av]; omega)]
      have : (k + 1) * 7 + j - (av a).length = k * 7 + j := by simp [av]; omega
      rw [this, ih k (by simpa using hk)]
      simp
theorem av_one (t : Ask) : ∀ u ∈ av t, u.oneCell' = true := by
  intro u hu
  simp [av] at hu
  rcases hu with rfl | rfl | rfl | rfl | rfl | rfl | rfl <;> rfl
def OA (w : World) (base : Nat) (v : Value) (n : Nat) (l : List Ask) : Prop := w.ownsRow base 54 7 v n (avs l)
def RA (w : World) (B : Nat) (A : Option Addr) (n : Nat) (l : List Ask) : Prop := Reads w B 7 A n (avs l)
section
variable {w w' : World} {base B n : Nat} {v : Value} {l : List Ask} {A : Option Addr}
theorem OA.nil (w : World) (base : Nat) : OA w base (.slice none 0 0) 0 [] := ⟨by simp [avs], .inl ⟨rfl, rfl⟩⟩
theorem OA.len (h : OA w base v n l) : l.length = n := by have := h.1; rw [avs_length] at this; omega
theorem OA.form (h : OA w base v n l) : ∃ A c, v = .slice A n c ∧ RA w w.heap.size A n l ∧ (A = none → n = 0) ∧ n ≤ c ∧ c ≤ maxLen := by
  have h2 := h.2
  rcases h2 with ⟨rfl, rfl⟩ | ⟨g, cap, cur, rfl, _, _, h3, h4, _⟩
  · exact ⟨none, 0, rfl, Reads.of_own h, fun _ => rfl, Nat.le_refl _, Nat.zero_le _⟩
  · exact ⟨_, _, rfl, Reads.of_own h, (fun e => by cases e), h3, h4⟩
theorem OA.parts (h : OA w base v n l) : (v = .slice none 0 0 ∧ n = 0 ∧ l = []) ∨ ∃ g cap, v = .slice (some ⟨g, 0, none⟩) n cap ∧ n ≤ cap ∧ cap ≤ maxLen ∧ base ≤ g ∧ g < w.heap.size := by
  have hl := h.1
  rcases h.2 with ⟨rfl, rfl⟩ | ⟨g, cap, cur, rfl, hb, hh, h3, h4, _⟩
  · exact .inl ⟨rfl, rfl, by rw [avs_length] at hl; exact List.eq_nil_of_length_eq_zero (by omega)⟩
  · refine .inr ⟨g, cap, rfl, h3, h4, hb, ?_⟩
    rcases Nat.lt_or_ge g w.heap.size with hlt | hge
    · exact hlt
    · rw [Array.getElem?_eq_none hge] at hh; cases hh
theorem OA.cell {g cap k j : Nat} (h : OA w base (.slice (some ⟨g, 0, none⟩) n cap) n l) (hk : k < n) (hl : k < l.length) (hj : j < 7) : w.cell? ⟨g, k * 7 + j, none⟩ = (av l[k])[j]? := by
  rw [World.ownsRow.cellAt h (k * 7 + j) (by omega), avs_get l k j hl hj]
theorem OA.below {B : Nat} (h : OA w base v n l) (hb : Below B w w') (hs : w.heap.size ≤ B) : OA w' base v n l := by
  obtain ⟨h1, h2⟩ := h
  refine ⟨h1, ?_⟩
  rcases h2 with h2 | ⟨g, cap, cur, hv, hg, hh, r⟩
  · exact Or.inl h2
  · have hlt : g < w.heap.size := by
      rcases Nat.lt_or_ge g w.heap.size with hlt | hge
      · exact hlt
      · rw [Array.getElem?_eq_none hge] at hh; cases hh
    exact Or.inr ⟨g, cap, cur, hv, hg, by rw [hb.block g (by omega)]; exact hh, r⟩
theorem OA.alloc (h : OA w base v n l) (o : Obj) : OA (w.alloc o) base v n l := World.ownsRow.alloc h o
theorem OA.drewN (h : OA w base v n l) (k : Nat) : OA (w.drewN k) base v n l := h
theorem OA.block_lt (h : OA w base v n l) (k : Nat) (hk : v.ownBlock = some k) : base ≤ k := by
  rcases h.2 with ⟨rfl, rfl⟩ | ⟨g, cap, cur, rfl, hg, _⟩
  · simp [Value.ownBlock] at hk
  · simp [Value.ownBlock] at hk; omega
theorem OA.setOther (h : OA w base v n l) {p : Addr} (hp : p.block < base) (u : Value) : OA (w.setCell p u) base v n l := ownsRow_setCell_below h hp u
theorem OA.far (h : OA w base v n l) {g i : Nat} (hg : v.ownBlock ≠ some g) (u : Value) : OA (w.setCell ⟨g, i, none⟩ u) base v n l := by
  obtain ⟨h1, h2⟩ := h
  refine ⟨h1, ?_⟩
  rcases h2 with h2 | ⟨g', cap, cur, hv, hg', hh, r⟩
  · exact Or.inl h2
  · subst hv
    refine Or.inr ⟨g', cap, cur, rfl, hg', ?_, r⟩
    rw [Below.heap_setCell w ⟨g, i, none⟩ u g' (fun e => hg (by simp [Value.ownBlock, e]))]
    exact hh
theorem OA.own_lt (h : OA w base v n l) (k : Nat) (hk : v.ownBlock = some k) : k < w.heap.size := by
  rcases h.2 with ⟨rfl, rfl⟩ | ⟨g, cap, cur, rfl, _, hh, _⟩
  · simp [Value.ownBlock] at hk
  · simp [Value.ownBlock] at hk
    subst hk
    rcases Nat.lt_or_ge g w.heap.size with hlt | hge
    · exact hlt
    · rw [Array.getElem?_eq_none hge] at hh; cases hh
theorem OA.more {b' : Nat} (h : OA w base v n l) (hb : b' ≤ base) : OA w b' v n l := by
  obtain ⟨h1, h2⟩ := h
  refine ⟨h1, ?_⟩
  rcases h2 with h2 | ⟨g, cap, cur, hv, hg, hh, r⟩
  · exact Or.inl h2
  · exact Or.inr ⟨g, cap, cur, hv, by omega, hh, r⟩
theorem RA.len (h : RA w B A n l) : l.length = n := by have := h.1; rw [avs_length] at this; omega
theorem RA.below (h : RA w B A n l) (hb : Below B w w') : RA w' B A n l := Reads.below h hb
theorem RA.more {B' : Nat} (h : RA w B A n l) (hB : B ≤ B') : RA w B' A n l := Reads.more h hB
end
theorem ask_info : (Tryz.prog.info? 54).map (fun i => (i.zero, i.size, i.bytes)) = some (some (.agg #[.int .i64 0, .int .i64 0, .int .i64 0, .int .i64 0, .int .i64 0, .string ⟨#[]⟩, .bool false]), 7, 64) := by kernel_rfl

def kindsD : DataW Unit := (((((DataW.map []).put (.string nameW) (.lit (.int .i64 4))).put (.string sizeW) (.lit (.int .i64 5))).put (.string dateW) (.lit (.int .i64 6))).put (.string crcW) (.lit (.int .i64 7))).put (.string methodW) (.lit (.int .i64 8))
/-- Block km is the map of the words' kinds. -/
def KM (w : World) (km : Nat) : Prop := w.ownsMap Tryz.prog 9 (plainElem (H := Unit) Tryz.prog 3) km 5 kindsD
theorem KM.keep {w w' : World} {km : Nat} (h : KM w km) (e : w'.heap[km]? = w.heap[km]?) : KM w' km := by
  obtain ⟨es, clock, h1, h2⟩ := h
  exact ⟨es, clock, e.trans h1, h2⟩
theorem kindsD_at (t : List UInt8) : kindsD.atKey (.string t) (.lit (.int .i64 0)) = .lit (.int .i64 (kindOf t)) := by
  have e : kindsD = .map [(.string crcW, .lit (.int .i64 7)), (.string dateW, .lit (.int .i64 6)), (.string methodW, .lit (.int .i64 8)), (.string nameW, .lit (.int .i64 4)), (.string sizeW, .lit (.int .i64 5))] := by kernel_rfl
  rw [e]
  unfold DataW.atKey kindOf
  simp only [List.find?, Lit.sameKey]
  by_cases h1 : t = nameW
  · subst h1; rfl
  by_cases h2 : t = sizeW
  · subst h2; rfl
  by_cases h3 : t = dateW
  · subst h3; rfl
  by_cases h4 : t = crcW
  · subst h4; rfl
  by_cases h5 : t = methodW
  · subst h5; rfl
  rw [beq_eq_false_iff_ne.2 (Ne.symm h1), beq_eq_false_iff_ne.2 (Ne.symm h2), beq_eq_false_iff_ne.2 (Ne.symm h3), beq_eq_false_iff_ne.2 (Ne.symm h4), beq_eq_false_iff_ne.2 (Ne.symm h5)]
  simp [h1, h2, h3, h4, h5]
theorem KM.look {w : World} {km : Nat} (h : KM w km) (t : ByteArray) (ht : t.size ≤ maxLen) : (Instr.lookup 98 (.map (some km)) (.string t) false).run Tryz.prog w = .ok (.int .i64 (kindOf t.data.toList)) w := by
  obtain ⟨c, hrun, hat, _⟩ := World.ownsMap.lookup_int h (Go.Maps.string_keyed Tryz.underlying9) Tryz.underlying98 Tryz.underlying3 (by kernel_rfl) (Go.WideMaps.keyOf_string_mk Tryz.underlying9 ht)
  rw [kindsD_at] at hat
  rw [hrun, (Lit.int.inj (DataW.lit.inj hat)).2]

/-- The parser stands behind a pointer to block b: tokens that are to come, parts so far, whether all was right. -/
def PSt (w : World) (b : Nat) (v : Value) (T : List Tok) (out : List Ask) (well : Bool) : Prop :=
  ∃ A c km, Blk w b 101 #[.slice A T.length c, v, .map (some km), .bool well] ∧ RT w b A T.length T ∧ T.length ≤ c ∧ c ≤ maxLen ∧ OA w (b + 1) v out.length out ∧ km < b ∧ KM w km ∧ ∀ t ∈ T, t.text.length ≤ 1000000

theorem isW_kind {t : Tok} {k : Int} {s : List UInt8} (h : t.kind ≠ k) : isW t k s = false := by simp [isW, h]
theorem isW_text {t : Tok} {k : Int} {s : List UInt8} (h : t.text ≠ s) : isW t k s = false := by simp [isW, h]
theorem isW_both {t : Tok} {k : Int} {s : List UInt8} (h : t.kind = k) (h2 : t.text = s) : isW t k s = true := by simp [isW, h, h2]
theorem str_neq (a : List UInt8) (s : ByteArray) (h : a ≠ s.data.toList) : ((str a).toList == s.toList) = false := by
  rw [str_bytes, ByteArray.toList_eq, beq_eq_false_iff_ne]; exact h
theorem str_eqq (a : List UInt8) (s : ByteArray) (h : a = s.data.toList) : ((str a).toList == s.toList) = true := by
  rw [str_bytes, ByteArray.toList_eq, h]; simp

theorem RT.head {w : World} {B : Nat} {A : Option Addr} {t : Tok} {r : List Tok} (h : RT w B A (t :: r).length (t :: r)) : ∃ ad, A = some ad ∧ ad.block < B ∧
    w.cell? ad = some (.int .i64 t.kind) ∧ w.cell? ⟨ad.block, ad.off + 1, none⟩ = some (.string (str t.text)) ∧ w.cell? ⟨ad.block, ad.off + 2, none⟩ = some (.int .i64 t.n) ∧ w.cell? ⟨ad.block, ad.off + 3, none⟩ = some (.int .i64 (t.pos : Int)) := by
  obtain ⟨ad, e, hb, h0, h1, h2, h3⟩ := h.elem (k := 0) (by simp) (by simp)
  simp [Addr.add] at h0 h1 h2 h3
  exact ⟨ad, e, hb, h0, h1, h2, h3⟩
theorem RT.none_ (w : World) (B : Nat) (A : Option Addr) : RT w B A 0 [] := ⟨by simp [tvs], fun h => absurd h (by omega)⟩
theorem RT.tail {w : World} {B : Nat} {ad : Addr} {t : Tok} {r : List Tok} (h : RT w B (some ad) (t :: r).length (t :: r)) : RT w B (some ⟨ad.block, ad.off + 4, none⟩) r.length r := by
  refine ⟨by rw [tvs_length], fun hn => ?_⟩
  obtain ⟨ad', e, hb, hc⟩ := h.2 (by simp)
  obtain rfl := Option.some.inj e
  refine ⟨_, rfl, hb, fun j u hu => ?_⟩
  have := hc (4 + j) u (by rw [show tvs (t :: r) = tv t ++ tvs r from by simp [tvs], List.getElem?_append_right (by simp [tv])]; simpa [tv] using hu)
  rw [← this]
  congr 1
  unfold Addr.add
  rw [if_neg (by omega : ¬ 4 + j = 0)]
  split
  · rename_i hj; subst hj; rfl
  · rw [Nat.add_assoc]
theorem PSt.pop {w : World} {b c c' km : Nat} {A A' : Option Addr} {T' : List Tok} {out : List Ask} {well : Bool} {v : Value} {n : Nat} (hB : Blk w b 101 #[.slice A n c, v, .map (some km), .bool well])
    (hO : OA w (b + 1) v out.length out) (hkm : km < b) (hK : KM w km) (hT : RT w b A' T'.length T') (h1 : T'.length ≤ c') (h2 : c' ≤ maxLen) (hx : ∀ t ∈ T', t.text.length ≤ 1000000) :
    PSt (w.setCell ⟨b, 0, none⟩ (.slice A' T'.length c')) b v T' out well := by
  refine ⟨A', c', km, hB.set_ 0 _, Reads.setCell hT (Nat.le_refl _) _, h1, h2, hO.setOther (Nat.lt_succ_self _) _, hkm, hK.keep ?_, hx⟩
  exact Below.heap_setCell w ⟨b, 0, none⟩ _ km (by simp; omega)
theorem gb_set (w : World) (b i : Nat) (u : Value) : w.grownBy (w.setCell ⟨b, i, none⟩ u) (some b) :=
  ⟨rfl, rfl, rfl, by simp, fun k hk hne => Below.heap_setCell w ⟨b, i, none⟩ u k (by intro e; exact hne (by rw [e]))⟩
theorem gb_alloc {w w' : World} {row : Option Nat} (h : w.grownBy w' row) (o : Obj) : w.grownBy (w'.alloc o) row :=
  ⟨h.os, h.tape, h.output, by have := h.size; simp; omega, fun k hk hne => (Below.heap_alloc w' o k (by have := h.size; omega)).trans (h.block k hk hne)⟩
theorem gb_below {w w' : World} {row : Option Nat} (h : Below w.heap.size w w') : w.grownBy w' row :=
  ⟨h.os, h.tape, h.output, h.size, fun k hk _ => h.block k hk⟩
theorem gb_trans {w w' w2 : World} {row : Option Nat} (h : w.grownBy w' row) (h2 : w'.grownBy w2 row) : w.grownBy w2 row :=
  ⟨h2.os.trans h.os, h2.tape.trans h.tape, h2.output.trans h.output, Nat.le_trans h.size h2.size, fun k hk hne => (h2.block k (Nat.lt_of_lt_of_le hk h.size) hne).trans (h.block k hk hne)⟩
/-- What 'is' leaves. -/
def IsRet (w : World) (b : Nat) (v : Value) (T : List Tok) (out : List Ask) (well : Bool) (r : Bool) (e : Ending) (w' : World) : Prop :=
  e = .returned (.bool r) ∧ PSt w' b v (if r then T.tail else T) out well ∧ Below b w w' ∧ w.grownBy w' (some b)

set_option maxRecDepth 100000 in
set_option maxHeartbeats 1000000 in
theorem is_any (w : World) (b : Nat) (v : Value) (T : List Tok) (out : List Ask) (well : Bool) (k : Int) (s : ByteArray) (h : PSt w b v T out well) :
    Calls Tryz.prog 114 #[.pointer (some ⟨b, 0, none⟩), .int .i64 k, .string s] w (IsRet w b v T out well (atW T k s.data.toList)) := by
  have H := hide h
  obtain ⟨A, c, km, hB, hT, hc1, hc2, hO, hkm, hK, hx⟩ := h
  replace hx := hide hx
  have c0 := hB.cell 0
  have f0 := hB.frozen 0
  cases T with
  | nil =>
    have hr : Hid (atW [] k s.data.toList = false) := rfl
    rw [hr.out]
    clear hB hT hO hK
    go_enter Tryz.func114, Tryz.ntmps114
    go_wp2_with fail
    go_ret
    exact ⟨rfl, H.out, Below.refl _ _, World.grownBy.refl _ _⟩
  | cons t r =>
    obtain ⟨ad, rfl, -, t0, t1, -, -⟩ := hT.head
    have hne : (((r.length : Int) + 1) == 0) = false := by rw [beq_eq_false_iff_ne]; omega
    by_cases e1 : t.kind = k
    · have n1 : (t.kind != k) = false := by simp [e1]
      by_cases e2 : t.text = s.data.toList
      · have hr : Hid (atW (t :: r) k s.data.toList = true) := isW_both e1 e2
        rw [hr.out]
        have n2 := str_eqq _ _ e2
        clear e1 e2
        by_cases hc : c = 1
        · have hr0 : r = [] := by cases r with
            | nil => rfl
            | cons _ _ => simp at hc1; omega
          subst hc hr0
          replace hB := hide hB
          replace hT := hide hT
          replace hO := hide hO
          replace hK := hide hK
          go_enter Tryz.func114, Tryz.ntmps114
          go_wp2_with fail
          go_ret
          exact ⟨rfl, PSt.pop hB.out hO.out hkm hK.out (RT.none_ _ _ _) (by simp) (by unfold maxLen; omega) (fun _ h => by cases h), below_set (Below.refl _ _) (Nat.le_refl _) _, gb_set _ _ _ _⟩
        · replace hB := hide hB
          replace hT := hide hT
          replace hO := hide hO
          replace hK := hide hK
          have hcc : (c == 1) = false := by simp [hc]
          go_enter Tryz.func114, Tryz.ntmps114
          go_wp2_with fail
          go_ret
          exact ⟨rfl, PSt.pop hB.out hO.out hkm hK.out hT.out.tail (by simp at hc1; omega) (by omega) (fun x h => hx.out x (List.mem_cons_of_mem _ h)), below_set (Below.refl _ _) (Nat.le_refl _) _, gb_set _ _ _ _⟩
      · have hr : Hid (atW (t :: r) k s.data.toList = false) := isW_text e2
        rw [hr.out]
        have n2 := str_neq _ _ e2
        clear e1 e2 hB hT hO hK
        go_enter Tryz.func114, Tryz.ntmps114
        go_wp2_with fail
        go_ret
        exact ⟨rfl, H.out, Below.refl _ _, World.grownBy.refl _ _⟩
    · have n1 : (t.kind != k) = true := by simp [e1]
      have hr : Hid (atW (t :: r) k s.data.toList = false) := isW_kind e1
      rw [hr.out]
      clear e1 hB hT hO hK
      go_enter Tryz.func114, Tryz.ntmps114
      go_wp2_with fail
      go_ret
      exact ⟨rfl, H.out, Below.refl _ _, World.grownBy.refl _ _⟩
end Go.Proofs.YtnhcamkccnaeeaaGreatDoor
