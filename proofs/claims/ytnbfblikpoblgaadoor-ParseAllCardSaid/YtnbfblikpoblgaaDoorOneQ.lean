/-
  Contract of parse.word: the word of a kind, out of a map in whichever order.
  A question's text, in plain Lean; it is the same question again. No program in sight.
-/
import Derived.Test.YtnbfblikpoblgaaDoorParG
import Derived.Laws.IdiomRangeMap
import Derived.Maps.Range
import Derived.Test.YtnbfblikpoblgaaDoorTextQ
import Derived.Test.YtnbfblikpoblgaaDoorRpProg
import Derived.Test.YtnbfblikpoblgaaDoorQuoteLaw
import Derived.Lib.ItoaNum
import Derived.Lib.ItoaMem
namespace Go.Proofs.YtnbfblikpoblgaaDoor
open Go.RowKit
set_option linter.unusedVariables false

/-- The word of a kind. -/
def kindW (k : Int) : List UInt8 := if k = 4 then nameW else if k = 5 then sizeW else if k = 6 then dateW else if k = 7 then crcW else if k = 8 then methodW else hasW
theorem kindW_of (s : List UInt8) (k : Int) (h : (s, k) ∈ kindsL) : s = kindW k := by
  simp only [kindsL, List.mem_cons, Prod.mk.injEq, List.not_mem_nil, or_false] at h
  rcases h with ⟨rfl, rfl⟩ | ⟨rfl, rfl⟩ | ⟨rfl, rfl⟩ | ⟨rfl, rfl⟩ | ⟨rfl, rfl⟩ <;> rfl
theorem kindW_none (k : Int) (h : ∀ s, (s, k) ∉ kindsL) : kindW k = hasW := by
  unfold kindW
  have h4 : ¬ k = 4 := fun e => h nameW (by rw [e]; decide)
  have h5 : ¬ k = 5 := fun e => h sizeW (by rw [e]; decide)
  have h6 : ¬ k = 6 := fun e => h dateW (by rw [e]; decide)
  have h7 : ¬ k = 7 := fun e => h crcW (by rw [e]; decide)
  have h8 : ¬ k = 8 := fun e => h methodW (by rw [e]; decide)
  rw [if_neg h4, if_neg h5, if_neg h6, if_neg h7, if_neg h8]
theorem kindsL_one (s : List UInt8) (a b : Int) (h : (s, a) ∈ kindsL) (h2 : (s, b) ∈ kindsL) : a = b := by
  simp only [kindsL, List.mem_cons, Prod.mk.injEq, List.not_mem_nil, or_false] at h h2
  rcases h with ⟨rfl, rfl⟩ | ⟨rfl, rfl⟩ | ⟨rfl, rfl⟩ | ⟨rfl, rfl⟩ | ⟨rfl, rfl⟩ <;>
    rcases h2 with ⟨h, rfl⟩ | ⟨h, rfl⟩ | ⟨h, rfl⟩ | ⟨h, rfl⟩ | ⟨h, rfl⟩ <;> first | rfl | exact absurd h (by decide)
theorem below_grown {w w' : World} {B : Nat} {row : Option Nat} (h : w.grownBy w' row) (hr : ∀ i, row = some i → B ≤ i) (hB : B ≤ w.heap.size) : Below B w w' :=
  ⟨h.os, h.tape, h.output, h.size, fun i hi => h.block i (by omega) (fun e => by have := hr i e.symm; omega)⟩
theorem kindsD_in (t : List UInt8) (n : Int) (h : ∀ zd, kindsD.atKey (.string t) zd = .lit (.int .i64 n)) : (t, n) ∈ kindsL := by
  have e : kindsD = .map [(.string crcW, .lit (.int .i64 7)), (.string dateW, .lit (.int .i64 6)), (.string methodW, .lit (.int .i64 8)), (.string nameW, .lit (.int .i64 4)), (.string sizeW, .lit (.int .i64 5))] := by kernel_rfl
  rw [e] at h
  have h' := h (.lit (.bool true))
  unfold DataW.atKey at h'
  simp only [List.find?, Lit.sameKey] at h'
  have hl : kindsL = [(nameW, 4), (sizeW, 5), (dateW, 6), (crcW, 7), (methodW, 8)] := rfl
  rw [hl]
  by_cases h1 : t = nameW
  · subst h1; cases h'; decide
  by_cases h2 : t = sizeW
  · subst h2; cases h'; decide
  by_cases h3 : t = dateW
  · subst h3; cases h'; decide
  by_cases h4 : t = crcW
  · subst h4; cases h'; decide
  by_cases h5 : t = methodW
  · subst h5; cases h'; decide
  rw [beq_eq_false_iff_ne.2 (Ne.symm h1), beq_eq_false_iff_ne.2 (Ne.symm h2), beq_eq_false_iff_ne.2 (Ne.symm h3), beq_eq_false_iff_ne.2 (Ne.symm h4), beq_eq_false_iff_ne.2 (Ne.symm h5)] at h'
  simp at h'
theorem kindsD_has (s : List UInt8) (n : Int) (h : (s, n) ∈ kindsL) : Maps.has kindsD (.string s) = true := by
  have e : kindsD = .map [(.string crcW, .lit (.int .i64 7)), (.string dateW, .lit (.int .i64 6)), (.string methodW, .lit (.int .i64 8)), (.string nameW, .lit (.int .i64 4)), (.string sizeW, .lit (.int .i64 5))] := by kernel_rfl
  rw [e]
  simp only [kindsL, List.mem_cons, Prod.mk.injEq, List.not_mem_nil, or_false] at h
  rcases h with ⟨rfl, rfl⟩ | ⟨rfl, rfl⟩ | ⟨rfl, rfl⟩ | ⟨rfl, rfl⟩ | ⟨rfl, rfl⟩ <;> decide

/-- No entry that was met has the kind. -/
def NotMet (k : Int) (left : Lit → Bool) : Prop := ∀ s n, (s, n) ∈ kindsL → left (.string s) = false → n ≠ k
set_option maxRecDepth 100000 in
set_option maxHeartbeats 1000000 in
theorem word_any (k : Int) (w : World) : Calls Tryd.prog 59 #[.int .i64 k] w fun e w' => e = .returned (.string (str (kindW k))) ∧ Below w.heap.size w w' := by
  go_enter Tryd.func59, Tryd.ntmps59
  go_wp2_with fail
  refine (kinds_any w).mono ?_
  rintro e w1 ⟨rfl, hK, hb1⟩
  have hlt : w.heap.size < w1.heap.size := World.ownsMap.lt hK
  obtain ⟨w2, hrg, hR, hg2, hs2⟩ := World.ownsMap.range hK (Go.Maps.string_keyed Tryd.underlying9) Tryd.underlying78
  have hbw2 : Below w.heap.size w w2 := hb1.trans (below_grown hg2 (fun i hi => by cases hi) (Nat.le_of_lt hlt))
  generalize hr : w1.heap.size = r at *
  clear hK hg2 hs2 hb1
  replace hr := hide hr
  replace hR := hide hR
  go_wp2_with fail
  go_loopw [] (fun wr => ∃ left cnt, Hid (wr.ranges Tryd.prog 9 (plainElem (H := Unit) Tryd.prog 3) w.heap.size r 5 kindsD left cnt) ∧ NotMet k left ∧ Below w.heap.size w wr) (fun wr => wr.rangeLeft w.heap.size r)
  case atStart => exact ⟨_, _, hR, (fun s n hs h => by rw [kindsD_has s n hs] at h; cases h), hbw2⟩
  case round =>
    obtain ⟨left, cnt, hg, hno, hbl⟩ := hrel
    have hle := hg.out.left_eq
    replace hle := hide hle
    rcases hg.out.next (Go.Maps.string_keyed Tryd.underlying9) 0 with ⟨h0, hl0, hrun⟩ | ⟨key, v, kl, y, w3, cnt3, hkey, hlk, hv, hat, hrun, hrg3, hlt3, hg3, hs3, hen⟩
    · have hnx : ∀ ty, (Instr.next (.pointer (some ⟨r, 0, none⟩)) false ty).run Tryd.prog wr = _ := fun _ => hrun
      have hf : Hid (kindW k = hasW) := kindW_none k fun s hs => hno s k hs (hl0 _) rfl
      clear hl0 hno
      go_wp2_with fail
      go_ret
      exact ⟨by rw [hf.out]; rfl, hbl⟩
    · obtain ⟨s, rfl, rfl, _⟩ := Go.WideMaps.string_of_keyOf Tryd.underlying9 hkey
      obtain ⟨n, rfl, rfl, _⟩ := plainElem_int_inv Tryd.underlying3 hv
      have hm := kindsD_in _ _ hat
      have hnx : ∀ ty, (Instr.next (.pointer (some ⟨r, 0, none⟩)) false ty).run Tryd.prog wr = _ := fun _ => hrun
      have hbl3 : Below w.heap.size w w3 := hbl.trans (below_grown hg3 (fun i hi => by cases hi; have := hr.out; omega) hbl.size)
      clear hkey hv hat hlk
      replace hm := hide hm
      replace hrg3 := hide hrg3
      replace hno := hide hno
      by_cases hn : n = k
      · have hf : Hid (s = str (kindW k)) := by rw [Hid, ← kindW_of _ k (hn ▸ hm.out)]; rfl
        have n1 : (n == k) = true := by simp [hn]
        clear hn
        go_wp2_with fail
        go_ret
        exact ⟨by rw [hf.out]; rfl, hbl3⟩
      · have n1 : (n == k) = false := by simp [hn]
        have hno3 : NotMet k (fun x => left x && !x.sameKey (.string s.data.toList)) := by
          intro s2 n2 h2 hl2
          simp only [Bool.and_eq_false_iff, Bool.not_eq_false'] at hl2
          rcases hl2 with h | h
          · exact hno.out s2 n2 h2 h
          · have e : s2 = s.data.toList := Lit.string.inj (WideAt.sameKey_eq h)
            have e1 := kindsL_one _ _ _ (e ▸ h2) hm.out
            rw [e1]; exact hn
        replace hn := hide hn
        replace hno3 := hide hno3
        go_wp2_with fail
        go_roundw
        case rel => exact ⟨_, _, hrg3, hno3.out, hbl3⟩
        case measure => rw [hrg3.out.left_eq, hle.out]; exact hlt3
end Go.Proofs.YtnbfblikpoblgaaDoor
namespace Go.Proofs.YtnbfblikpoblgaaDoor
set_option linter.unusedVariables false

def quoteL (s : List UInt8) : List UInt8 := 34 :: (escL s ++ [34])
def opW (o : Int) : List UInt8 := (cmpL[(o - 1).toNat]?).getD []
/-- A term's text. -/
def termT (a : Ask) : List UInt8 :=
  kindW a.kind ++ ((if a.kind ≠ 9 ∧ 1 ≤ a.op ∧ a.op ≤ 7 then 32 :: opW a.op else []) ++ 32 :: (if a.isText = true then quoteL a.text else Lib.itoa a.n))
/-- A question's text. -/
def qTxt : Q → List UInt8
  | .term a => termT a
  | .neg q => [40, 32, 110, 111, 116, 32] ++ qTxt q ++ [32, 41]
  | .two k x y => [40, 32] ++ qTxt x ++ (if k = 1 then [32, 111, 114, 32] else [32, 97, 110, 100, 32]) ++ qTxt y ++ [32, 41]

/-- What the terms of a question of the lexer's tokens are. -/
def okA (a : Ask) : Prop :=
  ((a.kind = 9 ∧ a.op = 1 ∧ a.isText = true) ∨ (4 ≤ a.kind ∧ a.kind ≤ 8 ∧ 1 ≤ a.op ∧ a.op ≤ 7)) ∧ a.a = -1 ∧ a.b = -1 ∧ (a.isText = true → a.n = 0) ∧ (a.isText = false → a.text = []) ∧ 0 ≤ a.n ∧ a.n < 1000000000000000 ∧ a.text.length ≤ 400
def okQ : Q → Prop
  | .term a => okA a
  | .neg q => okQ q
  | .two k x y => (k = 1 ∨ k = 2) ∧ okQ x ∧ okQ y
def TokOk (T : List Tok) : Prop := ∀ t ∈ T, (t.kind = 3 → t.n = 0) ∧ (t.kind = 2 → t.text = []) ∧ 0 ≤ t.n ∧ t.n < 1000000000000000 ∧ t.text.length ≤ 400

theorem kindOf_range (t : List UInt8) (h : kindOf t ≠ 0) : 4 ≤ kindOf t ∧ kindOf t ≤ 8 := by
  unfold kindOf at h ⊢
  split
  · decide
  split
  · decide
  split
  · decide
  split
  · decide
  split
  · decide
  · simp_all
theorem findK_range (t : List UInt8) : ∀ (l : List (List UInt8)) (k : Int), findK l t k ≠ 0 → k ≤ findK l t k ∧ findK l t k < k + l.length
  | [], k, h => absurd rfl h
  | m :: r, k, h => by
    rw [findK] at h ⊢
    split
    · simp; omega
    · rename_i h1
      rw [if_neg h1] at h
      have := findK_range t r (k + 1) h
      simp; omega
theorem opOf_range (t : Tok) (h : opOf t ≠ 0) : 1 ≤ opOf t ∧ opOf t ≤ 7 := by
  unfold opOf at h ⊢
  split
  · rename_i h1
    rw [if_pos h1] at h
    have := findK_range t.text cmpL 1 h
    have hl : cmpL.length = 7 := rfl
    omega
  · rename_i h1
    rw [if_neg h1] at h; exact absurd rfl h
theorem rterm_ok {T : List Tok} {a : Ask} (h : rterm T = some a) (ho : TokOk T) : okA a := by
  match T, h with
  | [t, v], h =>
    rw [rterm] at h
    by_cases c : isW t 1 hasW = true ∧ v.kind = 3
    · rw [if_pos c] at h
      cases h
      have hv := ho v (by simp)
      exact ⟨.inl ⟨rfl, rfl, rfl⟩, rfl, rfl, fun _ => rfl, (fun h => by cases h), by show (0 : Int) ≤ 0; omega, by show (0 : Int) < _; omega, hv.2.2.2.2⟩
    · rw [if_neg c] at h; cases h
  | [t, m, v], h =>
    rw [rterm] at h
    by_cases c : (if t.kind = 1 then kindOf t.text else 0) = 0 ∨ opOf m = 0 ∨ (v.kind ≠ 2 ∧ v.kind ≠ 3)
    · rw [if_pos c] at h; cases h
    · rw [if_neg c] at h
      have hv := ho v (by simp)
      have c0 : kindOf t.text ≠ 0 := by
        intro h
        refine c (Or.inl ?_)
        split
        · exact h
        · rfl
      have c2 : opOf m ≠ 0 := fun h => c (Or.inr (Or.inl h))
      have r1 := kindOf_range _ c0
      have r2 := opOf_range _ c2
      split at h
      · cases h
        exact ⟨.inr ⟨r1.1, r1.2, r2.1, r2.2⟩, rfl, rfl, fun _ => rfl, (fun h => by cases h), by show (0 : Int) ≤ 0; omega, by show (0 : Int) < _; omega, hv.2.2.2.2⟩
      · cases h
        exact ⟨.inr ⟨r1.1, r1.2, r2.1, r2.2⟩, rfl, rfl, (fun h => by cases h), fun _ => rfl, hv.2.2.1, hv.2.2.2.1, by show (0 : Nat) ≤ 400; omega⟩
theorem G_ok {k : Nat} {q : Q} {T : List Tok} (h : G k q T) : TokOk T → okQ q := by
  induction h with
  | or_ x y A B t _ _ _ ihx ihy => exact fun ho => ⟨.inl rfl, ihx fun t h => ho t (by simp [h]), ihy fun t h => ho t (by simp [h])⟩
  | up0 q T _ ih => exact ih
  | and_ x y A B t _ _ _ ihx ihy => exact fun ho => ⟨.inr rfl, ihx fun t h => ho t (by simp [h]), ihy fun t h => ho t (by simp [h])⟩
  | up1 q T _ ih => exact ih
  | not_ q T t _ _ ih => exact fun ho => ih fun t h => ho t (by simp [h])
  | par q T t u _ _ _ ih => exact fun ho => ih fun t h => ho t (by simp [h])
  | term a T h => exact fun ho => rterm_ok h ho

/-! ### The tokens of a question's text -/
def valT (a : Ask) : Tok := if a.isText = true then ⟨3, a.text, 0, 0⟩ else ⟨2, [], a.n, 0⟩
def termK (a : Ask) : List Tok := if a.kind = 9 then [⟨1, hasW, 0, 0⟩, valT a] else [⟨1, kindW a.kind, 0, 0⟩, ⟨4, opW a.op, 0, 0⟩, valT a]
def oneK : Q → List Tok
  | .term a => termK a
  | .neg q => lpT :: ((⟨1, notW, 0, 0⟩ :: oneK q) ++ [rpT])
  | .two k x y => lpT :: ((oneK x ++ (if k = 1 then ⟨1, orW, 0, 0⟩ else ⟨1, andW, 0, 0⟩) :: oneK y) ++ [rpT])
theorem termK_okT {a : Ask} (h : okA a) : OkT (termK a) := by
  have hv : (valT a).kind = 3 ∧ (valT a).n = 0 ∨ (valT a).kind = 2 ∧ (valT a).text = [] := by
    unfold valT; split <;> simp
  intro t ht
  unfold termK at ht
  split at ht
  · simp at ht
    rcases ht with rfl | rfl
    · simp
    · rcases hv with hv | hv <;> simp [hv]
  · simp at ht
    rcases ht with rfl | rfl | rfl
    · simp
    · simp
    · rcases hv with hv | hv <;> simp [hv]
theorem oneK_okT : ∀ {q : Q}, okQ q → OkT (oneK q)
  | .term a, h => termK_okT h
  | .neg q, h => by
    have ih := oneK_okT (q := q) h
    intro t ht
    simp only [oneK, List.mem_cons, List.mem_append, List.not_mem_nil, or_false] at ht
    rcases ht with rfl | (rfl | ht) | rfl
    · simp [lpT]
    · simp
    · exact ih t ht
    · simp [rpT]
  | .two k x y, h => by
    have ihx := oneK_okT (q := x) h.2.1
    have ihy := oneK_okT (q := y) h.2.2
    intro t ht
    simp only [oneK, List.mem_cons, List.mem_append, List.not_mem_nil, or_false] at ht
    rcases ht with rfl | (ht | rfl | ht) | rfl
    · simp [lpT]
    · exact ihx t ht
    · split <;> simp
    · exact ihy t ht
    · simp [rpT]
theorem opOf_opW (o : Int) (h1 : 1 ≤ o) (h7 : o ≤ 7) : opOf ⟨4, opW o, 0, 0⟩ = o := by
  have : o = 1 ∨ o = 2 ∨ o = 3 ∨ o = 4 ∨ o = 5 ∨ o = 6 ∨ o = 7 := by omega
  rcases this with rfl | rfl | rfl | rfl | rfl | rfl | rfl <;> decide
theorem kindOf_kindW (k : Int) (h1 : 4 ≤ k) (h7 : k ≤ 8) : kindOf (kindW k) = k := by
  have : k = 4 ∨ k = 5 ∨ k = 6 ∨ k = 7 ∨ k = 8 := by omega
  rcases this with rfl | rfl | rfl | rfl | rfl <;> decide
theorem rterm_termK {a : Ask} (h : okA a) : rterm (termK a) = some a := by
  obtain ⟨kind, op, aa, ab, n, text, isText⟩ := a
  obtain ⟨h1, h2, h3, h4, h5, h6, h7, h8⟩ := h
  simp only at h1 h2 h3 h4 h5
  subst h2 h3
  rcases h1 with ⟨rfl, rfl, rfl⟩ | ⟨h1, h1', ho, ho'⟩
  · rw [termK, if_pos rfl, rterm, if_pos ⟨by decide, rfl⟩]
    rw [h4 rfl]; rfl
  · have hk : ¬ kind = 9 := by omega
    have e1 := kindOf_kindW kind h1 h1'
    have e2 := opOf_opW op ho ho'
    rw [termK]
    simp only [if_neg hk]
    cases isText with
    | true =>
      have : valT ⟨kind, op, -1, -1, n, text, true⟩ = ⟨3, text, 0, 0⟩ := rfl
      rw [this, rterm, e1, e2, if_neg (by simp; omega)]
      simp [h4 rfl]
    | false =>
      have : valT ⟨kind, op, -1, -1, n, text, false⟩ = ⟨2, [], n, 0⟩ := rfl
      rw [this, rterm, e1, e2, if_neg (by simp; omega)]
      simp [h5 rfl]
theorem oneK_G : ∀ {q : Q}, okQ q → G 2 q (oneK q)
  | .term a, h => .term a _ (rterm_termK h)
  | .neg q, h => .par _ _ _ _ (.up0 _ _ (.up1 _ _ (.not_ q _ _ (oneK_G h) (by decide)))) (by decide) (by decide)
  | .two k x y, h => by
    obtain ⟨hk, hx, hy⟩ := h
    have gx := oneK_G hx
    have gy := oneK_G hy
    rcases hk with rfl | rfl
    · exact .par _ _ _ _ (.or_ x y _ _ _ (.up0 _ _ (.up1 _ _ gx)) (.up1 _ _ gy) (by decide)) (by decide) (by decide)
    · exact .par _ _ _ _ (.up0 _ _ (.and_ x y _ _ _ (.up1 _ _ gx) gy (by decide))) (by decide) (by decide)

/-! ### Its text has these tokens -/
theorem digits_all (u : Nat) : ∀ c ∈ Lib.decDigits u, digitB c = true := by
  induction u using Nat.strongRecOn with
  | _ u ih =>
    intro c hc
    have hd : ∀ k, k < 10 → digitB (UInt8.ofNat (48 + k)) = true := by decide
    rw [Lib.decDigits] at hc
    split at hc
    · rename_i h
      rw [List.mem_singleton] at hc; subst hc
      exact hd u h
    · rename_i h
      rcases List.mem_append.1 hc with hc | hc
      · exact ih (u / 10) (by omega) c hc
      · rw [List.mem_singleton] at hc; subst hc
        exact hd (u % 10) (by omega)
theorem digits_num (u : Nat) : numOf (Lib.decDigits u) = (u : Int) := by
  induction u using Nat.strongRecOn with
  | _ u ih =>
    have hd : ∀ k, k < 10 → (UInt8.ofNat (48 + k)).toNat = 48 + k := by decide
    rw [Lib.decDigits]
    split
    · rename_i h
      show numOf ([] ++ [UInt8.ofNat (48 + u)]) = _
      rw [numOf_snoc, hd u h, show numOf [] = 0 from rfl]
      omega
    · rename_i h
      rw [numOf_snoc, ih (u / 10) (by omega), hd (u % 10) (by omega)]
      omega
theorem digits_head (u : Nat) (h0 : u ≠ 0) : (Lib.decDigits u).head? ≠ some 48 := by
  induction u using Nat.strongRecOn with
  | _ u ih =>
    have hd : ∀ k, k < 10 → k ≠ 0 → UInt8.ofNat (48 + k) ≠ 48 := by decide
    rw [Lib.decDigits]
    split
    · rename_i h
      simp only [List.head?_cons, ne_eq, Option.some.injEq]
      exact hd u h h0
    · rename_i h
      have := ih (u / 10) (by omega) (by omega)
      intro hh
      apply this
      cases hl : Lib.decDigits (u / 10) with
      | nil =>
        have h2 := congrArg List.length hl
        rw [Lib.decDigits_length] at h2
        have := Lib.nDigits_pos (u / 10)
        simp at h2; omega
      | cons a r => rw [hl] at hh; simpa using hh
theorem digits_len (k : Nat) : ∀ u : Nat, u < 10 ^ (k + 1) → Lib.nDigits u ≤ k + 1 := by
  induction k with
  | zero => intro u h; rw [Lib.nDigits_small (by simpa using h)]; omega
  | succ k ih =>
    intro u h
    by_cases h1 : u < 10
    · rw [Lib.nDigits_small h1]; omega
    · rw [Lib.nDigits_big h1]
      rw [Nat.pow_succ] at h
      have := ih (u / 10) (by omega)
      omega
theorem takeWhile_every (p : UInt8 → Bool) : ∀ l : List UInt8, (∀ c ∈ l, p c = true) → l.takeWhile p = l
  | [], _ => rfl
  | c :: l, h => by rw [List.takeWhile_cons, if_pos (h c List.mem_cons_self), takeWhile_every p l fun x hx => h x (List.mem_cons_of_mem _ hx)]
theorem sL_one (l : List UInt8) (c : UInt8) (r : List UInt8) (t : Tok) (e : l = c :: r) (hb : blankB c = false) (h : tokL l 0 = some (t, l.length)) : sL l = ([strip t], true) := by
  subst e
  have h1 : sL (c :: r) = sF (r.length + 1) 0 (c :: r) := rfl
  rw [h1, sF_tok _ _ _ _ _ _ hb h, List.drop_length]
  have h2 : sF r.length (0 + (c :: r).length) [] = ([], true) := by cases r <;> rfl
  rw [h2]
theorem sL_num (u : Nat) (h : u < 1000000000000000) : sL (Lib.decDigits u) = ([⟨2, [], (u : Int), 0⟩], true) := by
  have hall := digits_all u
  have hlen := Lib.decDigits_length u
  have h15 := digits_len 14 u (by simpa using h)
  have hpos := Lib.nDigits_pos u
  have hnum := digits_num u
  have hhead : u ≠ 0 → (Lib.decDigits u).head? ≠ some 48 := digits_head u
  have hz : u = 0 → Lib.nDigits u = 1 := fun e => Lib.nDigits_small (by omega)
  obtain ⟨c, r, e⟩ : ∃ c r, Lib.decDigits u = c :: r := by
    cases hl : Lib.decDigits u with
    | nil => rw [hl] at hlen; simp at hlen; omega
    | cons c r => exact ⟨c, r, rfl⟩
  have hc : digitB c = true := hall c (by rw [e]; exact List.mem_cons_self)
  have hcd : ∀ c : UInt8, digitB c = true → smallB c = false ∧ blankB c = false := by
    intro c h
    have := (by simpa [digitB] using h : (48 : Int) ≤ (c.toNat : Int) ∧ (c.toNat : Int) ≤ 57)
    constructor
    · simp [smallB]; omega
    · simp [blankB]; omega
  have hbad : numBad (Lib.decDigits u) = false := by
    unfold numBad
    rw [hlen]
    by_cases h0 : u = 0
    · rw [hz h0]; rfl
    · have hn := hhead h0
      have e1 : ((Lib.decDigits u).head? == some 48) = false := by rw [beq_eq_false_iff_ne]; exact hn
      rw [e1]
      simp; omega
  rw [sL_one (Lib.decDigits u) c r ⟨2, [], (u : Int), 0⟩ e (hcd c hc).2 ?_]
  · rfl
  · have r1 : runL smallB (Lib.decDigits u) = 0 := by rw [e, runL_cons, (hcd c hc).1]; rfl
    have tw := takeWhile_every digitB _ hall
    have r2 : runL digitB (Lib.decDigits u) = (Lib.decDigits u).length := by rw [runL, tw]
    rw [tokL, if_neg (by rw [r1]; simp), if_pos (by rw [r2, hlen]; omega), tw, hbad, hnum, r2]
    rfl
theorem sL_quote (s : List UInt8) : sL (quoteL s) = ([⟨3, s, 0, 0⟩], true) := by
  have := toks_quote s
  show ((toks (quoteL s)).1.map strip, (toks (quoteL s)).2.2) = _
  unfold quoteL
  rw [this]; rfl
theorem sL_val {a : Ask} (h : okA a) : sL (if a.isText = true then quoteL a.text else Lib.itoa a.n) = ([valT a], true) := by
  unfold valT
  split
  · exact sL_quote _
  · obtain ⟨u, hu⟩ : ∃ u : Nat, a.n = (u : Int) := ⟨a.n.toNat, by have := h.2.2.2.2.2.1; omega⟩
    have hlt := h.2.2.2.2.2.2.1
    rw [hu] at hlt ⊢
    rw [Lib.itoa_nonneg]
    exact sL_num u (by omega)
theorem sL_kind (k : Int) : sL (kindW k) = ([⟨1, kindW k, 0, 0⟩], true) := by
  unfold kindW
  split
  · kernel_rfl
  split
  · kernel_rfl
  split
  · kernel_rfl
  split
  · kernel_rfl
  split
  · kernel_rfl
  · kernel_rfl
theorem sL_op (o : Int) (h1 : 1 ≤ o) (h7 : o ≤ 7) : sL (opW o) = ([⟨4, opW o, 0, 0⟩], true) := by
  have e1 : sL (opW 1) = ([⟨4, opW 1, 0, 0⟩], true) := by kernel_rfl
  have e2 : sL (opW 2) = ([⟨4, opW 2, 0, 0⟩], true) := by kernel_rfl
  have e3 : sL (opW 3) = ([⟨4, opW 3, 0, 0⟩], true) := by kernel_rfl
  have e4 : sL (opW 4) = ([⟨4, opW 4, 0, 0⟩], true) := by kernel_rfl
  have e5 : sL (opW 5) = ([⟨4, opW 5, 0, 0⟩], true) := by kernel_rfl
  have e6 : sL (opW 6) = ([⟨4, opW 6, 0, 0⟩], true) := by kernel_rfl
  have e7 : sL (opW 7) = ([⟨4, opW 7, 0, 0⟩], true) := by kernel_rfl
  have : o = 1 ∨ o = 2 ∨ o = 3 ∨ o = 4 ∨ o = 5 ∨ o = 6 ∨ o = 7 := by omega
  rcases this with rfl | rfl | rfl | rfl | rfl | rfl | rfl
  · exact e1
  · exact e2
  · exact e3
  · exact e4
  · exact e5
  · exact e6
  · exact e7
theorem sL_term {a : Ask} (h : okA a) : sL (termT a) = (termK a, true) := by
  have hv := sL_val h
  unfold termT termK
  by_cases h9 : a.kind = 9
  · rw [if_neg (by omega), if_pos h9, List.nil_append, sL_join _ _ (by rw [sL_kind]), sL_kind, hv, h9]; rfl
  · have ho : 1 ≤ a.op ∧ a.op ≤ 7 := by
      rcases h.1 with h | h
      · exact absurd h.1 h9
      · omega
    rw [if_pos ⟨h9, ho.1, ho.2⟩, if_neg h9, List.cons_append, sL_join _ _ (by rw [sL_kind]), sL_kind, sL_join _ _ (by rw [sL_op _ ho.1 ho.2]), sL_op _ ho.1 ho.2, hv]
    rfl
theorem sL_rp1 : sL [41] = ([rpT], true) := by kernel_rfl
theorem sL_qTxt : ∀ {q : Q}, okQ q → sL (qTxt q) = (oneK q, true)
  | .term a, h => sL_term h
  | .neg q, h => by
    have ih := sL_qTxt (q := q) h
    have e : qTxt (.neg q) = 40 :: 32 :: (notW ++ 32 :: (qTxt q ++ 32 :: [41])) := by simp [qTxt, notW]
    rw [e, sL_lp, sL_blank, sL_join _ _ (by kernel_rfl), sL_join _ _ (by rw [ih]), ih, sL_rp1, show (sL notW).1 = [⟨1, notW, 0, 0⟩] from by kernel_rfl]
    simp [oneK]
  | .two k x y, h => by
    have ihx := sL_qTxt (q := x) h.2.1
    have ihy := sL_qTxt (q := y) h.2.2
    rcases h.1 with rfl | rfl
    · have e : qTxt (.two 1 x y) = 40 :: 32 :: (qTxt x ++ 32 :: (orW ++ 32 :: (qTxt y ++ 32 :: [41]))) := by simp [qTxt, orW]
      rw [e, sL_lp, sL_blank, sL_join _ _ (by rw [ihx]), sL_join _ _ (by kernel_rfl), sL_join _ _ (by rw [ihy]), ihx, ihy, sL_rp1, show (sL orW).1 = [⟨1, orW, 0, 0⟩] from by kernel_rfl]
      simp [oneK]
    · have e : qTxt (.two 2 x y) = 40 :: 32 :: (qTxt x ++ 32 :: (andW ++ 32 :: (qTxt y ++ 32 :: [41]))) := by simp [qTxt, andW]
      rw [e, sL_lp, sL_blank, sL_join _ _ (by rw [ihx]), sL_join _ _ (by kernel_rfl), sL_join _ _ (by rw [ihy]), ihx, ihy, sL_rp1, show (sL andW).1 = [⟨1, andW, 0, 0⟩] from by kernel_rfl]
      simp [oneK]
/-- The text of a question is that question. -/
theorem textQ_qTxt {q : Q} (h : okQ q) (hl : (qTxt q).length ≤ 400) : textQ (qTxt q) = some q := by
  have e := sL_qTxt h
  refine textQ_mk hl (by rw [e]) ?_
  rw [e]
  exact (parseQ_iff (oneK_okT h) q).2 (.up0 _ _ (.up1 _ _ (oneK_G h)))
end Go.Proofs.YtnbfblikpoblgaaDoor
