/-
  UTF-8 by the document (inquestref09): contracts of utf, next, Read.
  UTF-8 by the document (inquestref09): next at any bytes; contract of Read.
  The document's UTF-8 against the model's decoder: the same runes, the same errors. No program in sight.
-/
import Derived.Test.YtnnjcedlomfhoaaGreatDoorHA
import Derived.Test.YtnnjcedlomfhoaaGreatDoorHB
import Derived.Lib.TrimUEq
namespace Go.Proofs.YtnnjcedlomfhoaaGreatDoor
open Go.RowKit
set_option linter.unusedVariables false
def utfN (r : Int) : Nat := if r < 128 then 1 else if r < 2048 then 2 else if r < 65536 then 3 else 4
def sizeR (n : Nat) : Nat := if 194 ≤ n ∧ n ≤ 223 then 2 else if 224 ≤ n ∧ n ≤ 239 then 3 else if 240 ≤ n ∧ n ≤ 244 then 4 else 0
def baseR (n : Nat) : Int := if 194 ≤ n ∧ n ≤ 223 then (n : Int) - 192 else if 224 ≤ n ∧ n ≤ 239 then (n : Int) - 224 else if 240 ≤ n ∧ n ≤ 244 then (n : Int) - 240 else 0
def contR (l : List UInt8) (r : Int) : Nat → Option Int
  | 0 => some r
  | k + 1 => match contR l r k with
    | none => none
    | some u => if (l.getD (k + 1) 0).toNat < 128 ∨ 191 < (l.getD (k + 1) 0).toNat then none else some (64 * u + ((l.getD (k + 1) 0).toNat : Int) - 128)
def endR (size : Nat) (r : Int) : Int := if utfN r ≠ size ∨ (55296 ≤ r ∧ r ≤ 57343) ∨ 1114111 < r then -1 else r
/-- The rune that bytes begin with; -1: none. -/
def nextR (l : List UInt8) : Int :=
  if (l.getD 0 0).toNat < 128 then ((l.getD 0 0).toNat : Int)
  else if sizeR (l.getD 0 0).toNat = 0 ∨ l.length < sizeR (l.getD 0 0).toNat then -1
  else match contR l (baseR (l.getD 0 0).toNat) (sizeR (l.getD 0 0).toNat - 1) with
    | none => -1
    | some r => endR (sizeR (l.getD 0 0).toNat) r
theorem contR_none (l : List UInt8) (r : Int) (n : Nat) (h : contR l r n = none) : ∀ m, n ≤ m → contR l r m = none := by
  intro m hm
  induction m with
  | zero => obtain rfl : n = 0 := by omega
            exact h
  | succ m ih =>
    by_cases e : n = m + 1
    · subst e; exact h
    · rw [contR, ih (by omega)]
theorem contR_bd (l : List UInt8) (r : Int) (hr : 0 ≤ r) : ∀ (k : Nat) (u : Int), contR l r k = some u → 0 ≤ u ∧ u < (r + 1) * 64 ^ k
  | 0, u, h => by cases h; simp; omega
  | k + 1, u, h => by
    rw [contR] at h
    cases hv : contR l r k with
    | none => rw [hv] at h; cases h
    | some v =>
      rw [hv] at h
      simp only [] at h
      have := contR_bd l r hr k v hv
      split at h
      · cases h
      · cases h
        rw [Int.pow_succ, ← Int.mul_assoc]; omega
set_option maxRecDepth 100000 in
set_option maxHeartbeats 1000000 in
theorem utf_any (w : World) (r : Int) (h0 : 0 ≤ r) (h1 : r ≤ 100000000) :
    Calls Tryz.prog 64 #[.int .i64 r] w fun e w' => e = .returned (.slice (some ⟨w.heap.size, 0, none⟩) (utfN r) (utfN r)) ∧ Below w.heap.size w w' := by
  obtain ⟨k, hk⟩ : ∃ k, k = utfN r := ⟨_, rfl⟩
  rw [← hk]
  unfold utfN at hk
  by_cases k1 : r < 128
  · rw [if_pos k1] at hk
    subst hk
    go_enter Tryz.func64, Tryz.ntmps64
    go_wp2_with fail
    go_ret
    exact ⟨rfl, (Below.refl _ _).alloc (Nat.le_refl _) _⟩
  rw [if_neg k1] at hk
  by_cases k2 : r < 2048
  · rw [if_pos k2] at hk
    subst hk
    go_enter Tryz.func64, Tryz.ntmps64
    go_wp2_with fail
    go_ret
    exact ⟨rfl, (Below.refl _ _).alloc (Nat.le_refl _) _⟩
  rw [if_neg k2] at hk
  by_cases k3 : r < 65536
  · rw [if_pos k3] at hk
    subst hk
    go_enter Tryz.func64, Tryz.ntmps64
    go_wp2_with fail
    go_ret
    exact ⟨rfl, (Below.refl _ _).alloc (Nat.le_refl _) _⟩
  · rw [if_neg k3] at hk
    subst hk
    go_enter Tryz.func64, Tryz.ntmps64
    go_wp2_with fail
    go_ret
    exact ⟨rfl, (Below.refl _ _).alloc (Nat.le_refl _) _⟩
def NextRet (w : World) (r : Int) (e : Ending) (w' : World) : Prop := e = .returned (.int .i64 r) ∧ Below w.heap.size w w'
theorem add_pos8 (p : Addr) (j : Nat) (h : j ≠ 0) : p.add j = ⟨p.block, p.off + j, none⟩ := by
  unfold Addr.add; rw [if_neg h]
set_option maxRecDepth 100000 in
set_option maxHeartbeats 2000000 in
theorem next_size2 (w : World) (B : Nat) (A : Option Addr) (n c : Nat) (l : List UInt8) (h : RB w B A n l) (h0 : 0 < n) (hn : n ≤ 1000000) (hlo : 194 ≤ (l.getD 0 0).toNat) (hhi : (l.getD 0 0).toNat ≤ 223) :
    Calls Tryz.prog 63 #[.slice A n c] w (NextRet w (nextR l)) := by
  have hlen := hide h.len
  obtain ⟨ad, rfl, hab, c0⟩ := h.elem (k := 0) h0 (by have := hlen.out; omega)
  have hg0 : l[0]'(by have := hlen.out; omega) = l.getD 0 0 := by
    rw [List.getD_eq_getElem?_getD, List.getElem?_eq_getElem (by have := hlen.out; omega)]; rfl
  rw [hg0] at c0
  have c0 : w.cell? ad = some (.int .u8 ((l.getD 0 0).toNat : Int)) := by simpa [Addr.add] using c0
  have hs : sizeR (l.getD 0 0).toNat = 2 := by unfold sizeR; rw [if_pos ⟨hlo, hhi⟩]
  have hb : baseR (l.getD 0 0).toNat = ((l.getD 0 0).toNat : Int) - 192 := by unfold baseR; rw [if_pos ⟨hlo, hhi⟩]
  obtain ⟨r, hr⟩ : ∃ r, r = nextR l := ⟨_, rfl⟩
  rw [← hr]
  rw [nextR, if_neg (by omega), hs, hb] at hr
  clear hs hb
  generalize (l.getD 0 0).toNat = N at *
  obtain ⟨bs, hbs⟩ : ∃ bs : Int, bs = (N : Int) - 192 := ⟨_, rfl⟩
  have hwb : IntKind.i64.wrap ((N : Int) - 192) = bs := by rw [hbs]; exact IntWalk.i64_in _ (by omega)
  rw [← hbs] at hr
  have hbs0 : 0 ≤ bs ∧ bs ≤ 31 := by omega
  obtain ⟨hbs0, hbs1⟩ := hbs0
  have m1 : (194 : Int) ≤ (N : Int) := by omega
  have m2 : (N : Int) ≤ 223 := by omega
  replace hbs := hide hbs
  by_cases hsh : n < 2
  · have hres : Hid (-1 = r) := by rw [Hid, hr, if_pos (.inr (by have := hlen.out; omega))]
    have hsh' : (n : Int) < 2 := by omega
    clear hr hlo hhi hsh
    go_enter Tryz.func63, Tryz.ntmps63
    go_wp2_with fail
    go_ret
    exact ⟨ret_int hres.out, Below.refl _ _⟩
  · have hsh' : ¬ (n : Int) < 2 := by omega
    rw [if_neg (by have := hlen.out; omega)] at hr
    replace hr := hide hr
    replace h := hide h
    clear hlo hhi hg0
    go_enter Tryz.func63, Tryz.ntmps63
    go_wp2_with fail
    go_loop [5, 6] (fun v5 v6 => ∃ (j : Nat) (u : Int), j + 1 ≤ 2 ∧ v6 = .int .i64 ((j : Int) + 1) ∧ v5 = .int .i64 u ∧ contR l bs j = some u) (fun _ v6 => 2 - (intOf v6).toNat)
    case atStart => exact ⟨0, bs, by omega, by simp, by first | rfl | (rw [hbs.out]), rfl⟩
    case round =>
      obtain ⟨j, u, hj, rfl, rfl, hu⟩ := hrel
      have hub := contR_bd l bs hbs0 j u hu
      have hu2 : 0 ≤ u ∧ u ≤ 100000000 := by
        have h64 : (64 : Nat) ^ j ≤ 64 ^ 3 := Nat.pow_le_pow_right (by omega) (by omega)
        have h65 : (64 : Int) ^ j ≤ 64 ^ 3 := by exact_mod_cast h64
        have h66 : (64 : Int) ^ 3 = 262144 := by decide
        have h67 : (bs + 1) * 64 ^ j ≤ 32 * 262144 := by
          have := Int.mul_le_mul (show bs + 1 ≤ 32 by omega) (show (64 : Int) ^ j ≤ 262144 by omega) (by exact_mod_cast Nat.zero_le _) (by omega)
          exact this
        omega
      obtain ⟨hu0, hu1⟩ := hu2
      clear hub
      by_cases h1 : j + 1 < 2
      · have hjn : j + 1 < n := by omega
        have hjl : j + 1 < l.length := by have := hlen.out; omega
        obtain ⟨ad', e, -, cj⟩ := h.out.elem (k := j + 1) hjn hjl
        obtain rfl := Option.some.inj e
        have hgj : l[j + 1] = l.getD (j + 1) 0 := by
          rw [List.getD_eq_getElem?_getD, List.getElem?_eq_getElem hjl]; rfl
        rw [hgj] at cj
        rw [add_pos8 _ _ (by omega)] at cj
        have hnx : Hid (contR l bs (j + 1) = if (l.getD (j + 1) 0).toNat < 128 ∨ 191 < (l.getD (j + 1) 0).toNat then none else some (64 * u + ((l.getD (j + 1) 0).toNat : Int) - 128)) := by rw [Hid, contR, hu]
        have hcb : ((l.getD (j + 1) 0).toNat : Int) < 256 := by have := (l.getD (j + 1) 0).toNat_lt; omega
        generalize (l.getD (j + 1) 0).toNat = C at *
        have h1' : (j : Int) + 1 < 2 := by omega
        have hjn' : (j : Int) + 1 < (n : Int) := by omega
        clear hgj hu
        by_cases e1 : (C : Int) < 128
        · have hres : Hid (-1 = r) := by rw [Hid, hr.out, contR_none l bs (j + 1) (by rw [hnx.out, if_pos (.inl (by omega))]) (2 - 1) (by omega)]
          go_wp2_with fail
          go_ret
          exact ⟨ret_int hres.out, Below.refl _ _⟩
        · by_cases e2 : 191 < (C : Int)
          · have hres : Hid (-1 = r) := by rw [Hid, hr.out, contR_none l bs (j + 1) (by rw [hnx.out, if_pos (.inr (by omega))]) (2 - 1) (by omega)]
            go_wp2_with fail
            go_ret
            exact ⟨ret_int hres.out, Below.refl _ _⟩
          · have hun : Hid (contR l bs (j + 1) = some (64 * u + (C : Int) - 128)) := by rw [Hid, hnx.out, if_neg (by omega)]
            clear hnx
            go_wp2_with fail
            go_round
            case rel => exact ⟨j + 1, _, by omega, by go_num, rfl, hun.out⟩
            case measure => simp [intOf]; omega
      · obtain rfl : j = 2 - 1 := by omega
        have hrr : Hid (r = endR 2 u) := by
          rw [Hid, hr.out, hu]
        have h1' : ¬ (((2 - 1 : Nat) : Int) + 1 < 2) := by omega
        have hU := utf_any w u hu0 hu1
        clear hu
        go_wp2_with fail
        refine hU.mono ?_
        rintro e w2 ⟨rfl, hb2⟩
        generalize hun : utfN u = un at *
        by_cases f1 : un = 2
        · have q1 : ((un : Int) != 2) = false := by simp [f1]
          by_cases f2 : 55296 ≤ u
          · by_cases f3 : u ≤ 57343
            · have hres : Hid (-1 = r) := by rw [Hid, hrr.out, endR, if_pos (.inr (.inl ⟨f2, f3⟩))]
              clear f1 hun
              go_wp2_with fail
              go_ret
              exact ⟨ret_int hres.out, hb2⟩
            · by_cases f4 : 1114111 < u
              · have hres : Hid (-1 = r) := by rw [Hid, hrr.out, endR, if_pos (.inr (.inr f4))]
                clear f1 hun
                go_wp2_with fail
                go_ret
                exact ⟨ret_int hres.out, hb2⟩
              · have hres : Hid (u = r) := by rw [Hid, hrr.out, endR, if_neg (by omega)]
                clear f1 hun
                go_wp2_with fail
                go_ret
                exact ⟨ret_int hres.out, hb2⟩
          · have f4 : ¬ 1114111 < u := by omega
            have hres : Hid (u = r) := by rw [Hid, hrr.out, endR, if_neg (by omega)]
            clear f1 hun
            go_wp2_with fail
            go_ret
            exact ⟨ret_int hres.out, hb2⟩
        · have q1 : ((un : Int) != 2) = true := by simp; omega
          have hres : Hid (-1 = r) := by rw [Hid, hrr.out, endR, if_pos (.inl (by omega))]
          clear f1 hun
          go_wp2_with fail
          go_ret
          exact ⟨ret_int hres.out, hb2⟩
set_option maxRecDepth 100000 in
set_option maxHeartbeats 2000000 in
theorem next_size3 (w : World) (B : Nat) (A : Option Addr) (n c : Nat) (l : List UInt8) (h : RB w B A n l) (h0 : 0 < n) (hn : n ≤ 1000000) (hlo : 224 ≤ (l.getD 0 0).toNat) (hhi : (l.getD 0 0).toNat ≤ 239) :
    Calls Tryz.prog 63 #[.slice A n c] w (NextRet w (nextR l)) := by
  have hlen := hide h.len
  obtain ⟨ad, rfl, hab, c0⟩ := h.elem (k := 0) h0 (by have := hlen.out; omega)
  have hg0 : l[0]'(by have := hlen.out; omega) = l.getD 0 0 := by
    rw [List.getD_eq_getElem?_getD, List.getElem?_eq_getElem (by have := hlen.out; omega)]; rfl
  rw [hg0] at c0
  have c0 : w.cell? ad = some (.int .u8 ((l.getD 0 0).toNat : Int)) := by simpa [Addr.add] using c0
  have hs : sizeR (l.getD 0 0).toNat = 3 := by unfold sizeR; rw [if_neg (by omega), if_pos ⟨hlo, hhi⟩]
  have hb : baseR (l.getD 0 0).toNat = ((l.getD 0 0).toNat : Int) - 224 := by unfold baseR; rw [if_neg (by omega), if_pos ⟨hlo, hhi⟩]
  obtain ⟨r, hr⟩ : ∃ r, r = nextR l := ⟨_, rfl⟩
  rw [← hr]
  rw [nextR, if_neg (by omega), hs, hb] at hr
  clear hs hb
  generalize (l.getD 0 0).toNat = N at *
  obtain ⟨bs, hbs⟩ : ∃ bs : Int, bs = (N : Int) - 224 := ⟨_, rfl⟩
  have hwb : IntKind.i64.wrap ((N : Int) - 224) = bs := by rw [hbs]; exact IntWalk.i64_in _ (by omega)
  rw [← hbs] at hr
  have hbs0 : 0 ≤ bs ∧ bs ≤ 31 := by omega
  obtain ⟨hbs0, hbs1⟩ := hbs0
  have m1 : (224 : Int) ≤ (N : Int) := by omega
  have m2 : (N : Int) ≤ 239 := by omega
  have m3 : ¬ (N : Int) ≤ 223 := by omega
  replace hbs := hide hbs
  by_cases hsh : n < 3
  · have hres : Hid (-1 = r) := by rw [Hid, hr, if_pos (.inr (by have := hlen.out; omega))]
    have hsh' : (n : Int) < 3 := by omega
    clear hr hlo hhi hsh
    go_enter Tryz.func63, Tryz.ntmps63
    go_wp2_with fail
    go_ret
    exact ⟨ret_int hres.out, Below.refl _ _⟩
  · have hsh' : ¬ (n : Int) < 3 := by omega
    rw [if_neg (by have := hlen.out; omega)] at hr
    replace hr := hide hr
    replace h := hide h
    clear hlo hhi hg0
    go_enter Tryz.func63, Tryz.ntmps63
    go_wp2_with fail
    go_loop [5, 6] (fun v5 v6 => ∃ (j : Nat) (u : Int), j + 1 ≤ 3 ∧ v6 = .int .i64 ((j : Int) + 1) ∧ v5 = .int .i64 u ∧ contR l bs j = some u) (fun _ v6 => 3 - (intOf v6).toNat)
    case atStart => exact ⟨0, bs, by omega, by simp, by first | rfl | (rw [hbs.out]), rfl⟩
    case round =>
      obtain ⟨j, u, hj, rfl, rfl, hu⟩ := hrel
      have hub := contR_bd l bs hbs0 j u hu
      have hu2 : 0 ≤ u ∧ u ≤ 100000000 := by
        have h64 : (64 : Nat) ^ j ≤ 64 ^ 3 := Nat.pow_le_pow_right (by omega) (by omega)
        have h65 : (64 : Int) ^ j ≤ 64 ^ 3 := by exact_mod_cast h64
        have h66 : (64 : Int) ^ 3 = 262144 := by decide
        have h67 : (bs + 1) * 64 ^ j ≤ 32 * 262144 := by
          have := Int.mul_le_mul (show bs + 1 ≤ 32 by omega) (show (64 : Int) ^ j ≤ 262144 by omega) (by exact_mod_cast Nat.zero_le _) (by omega)
          exact this
        omega
      obtain ⟨hu0, hu1⟩ := hu2
      clear hub
      by_cases h1 : j + 1 < 3
      · have hjn : j + 1 < n := by omega
        have hjl : j + 1 < l.length := by have := hlen.out; omega
        obtain ⟨ad', e, -, cj⟩ := h.out.elem (k := j + 1) hjn hjl
        obtain rfl := Option.some.inj e
        have hgj : l[j + 1] = l.getD (j + 1) 0 := by
          rw [List.getD_eq_getElem?_getD, List.getElem?_eq_getElem hjl]; rfl
        rw [hgj] at cj
        rw [add_pos8 _ _ (by omega)] at cj
        have hnx : Hid (contR l bs (j + 1) = if (l.getD (j + 1) 0).toNat < 128 ∨ 191 < (l.getD (j + 1) 0).toNat then none else some (64 * u + ((l.getD (j + 1) 0).toNat : Int) - 128)) := by rw [Hid, contR, hu]
        have hcb : ((l.getD (j + 1) 0).toNat : Int) < 256 := by have := (l.getD (j + 1) 0).toNat_lt; omega
        generalize (l.getD (j + 1) 0).toNat = C at *
        have h1' : (j : Int) + 1 < 3 := by omega
        have hjn' : (j : Int) + 1 < (n : Int) := by omega
        clear hgj hu
        by_cases e1 : (C : Int) < 128
        · have hres : Hid (-1 = r) := by rw [Hid, hr.out, contR_none l bs (j + 1) (by rw [hnx.out, if_pos (.inl (by omega))]) (3 - 1) (by omega)]
          go_wp2_with fail
          go_ret
          exact ⟨ret_int hres.out, Below.refl _ _⟩
        · by_cases e2 : 191 < (C : Int)
          · have hres : Hid (-1 = r) := by rw [Hid, hr.out, contR_none l bs (j + 1) (by rw [hnx.out, if_pos (.inr (by omega))]) (3 - 1) (by omega)]
            go_wp2_with fail
            go_ret
            exact ⟨ret_int hres.out, Below.refl _ _⟩
          · have hun : Hid (contR l bs (j + 1) = some (64 * u + (C : Int) - 128)) := by rw [Hid, hnx.out, if_neg (by omega)]
            clear hnx
            go_wp2_with fail
            go_round
            case rel => exact ⟨j + 1, _, by omega, by go_num, rfl, hun.out⟩
            case measure => simp [intOf]; omega
      · obtain rfl : j = 3 - 1 := by omega
        have hrr : Hid (r = endR 3 u) := by
          rw [Hid, hr.out, hu]
        have h1' : ¬ (((3 - 1 : Nat) : Int) + 1 < 3) := by omega
        have hU := utf_any w u hu0 hu1
        clear hu
        go_wp2_with fail
        refine hU.mono ?_
        rintro e w2 ⟨rfl, hb2⟩
        generalize hun : utfN u = un at *
        by_cases f1 : un = 3
        · have q1 : ((un : Int) != 3) = false := by simp [f1]
          by_cases f2 : 55296 ≤ u
          · by_cases f3 : u ≤ 57343
            · have hres : Hid (-1 = r) := by rw [Hid, hrr.out, endR, if_pos (.inr (.inl ⟨f2, f3⟩))]
              clear f1 hun
              go_wp2_with fail
              go_ret
              exact ⟨ret_int hres.out, hb2⟩
            · by_cases f4 : 1114111 < u
              · have hres : Hid (-1 = r) := by rw [Hid, hrr.out, endR, if_pos (.inr (.inr f4))]
                clear f1 hun
                go_wp2_with fail
                go_ret
                exact ⟨ret_int hres.out, hb2⟩
              · have hres : Hid (u = r) := by rw [Hid, hrr.out, endR, if_neg (by omega)]
                clear f1 hun
                go_wp2_with fail
                go_ret
                exact ⟨ret_int hres.out, hb2⟩
          · have f4 : ¬ 1114111 < u := by omega
            have hres : Hid (u = r) := by rw [Hid, hrr.out, endR, if_neg (by omega)]
            clear f1 hun
            go_wp2_with fail
            go_ret
            exact ⟨ret_int hres.out, hb2⟩
        · have q1 : ((un : Int) != 3) = true := by simp; omega
          have hres : Hid (-1 = r) := by rw [Hid, hrr.out, endR, if_pos (.inl (by omega))]
          clear f1 hun
          go_wp2_with fail
          go_ret
          exact ⟨ret_int hres.out, hb2⟩
set_option maxRecDepth 100000 in
set_option maxHeartbeats 2000000 in
theorem next_size4 (w : World) (B : Nat) (A : Option Addr) (n c : Nat) (l : List UInt8) (h : RB w B A n l) (h0 : 0 < n) (hn : n ≤ 1000000) (hlo : 240 ≤ (l.getD 0 0).toNat) (hhi : (l.getD 0 0).toNat ≤ 244) :
    Calls Tryz.prog 63 #[.slice A n c] w (NextRet w (nextR l)) := by
  have hlen := hide h.len
  obtain ⟨ad, rfl, hab, c0⟩ := h.elem (k := 0) h0 (by have := hlen.out; omega)
  have hg0 : l[0]'(by have := hlen.out; omega) = l.getD 0 0 := by
    rw [List.getD_eq_getElem?_getD, List.getElem?_eq_getElem (by have := hlen.out; omega)]; rfl
  rw [hg0] at c0
  have c0 : w.cell? ad = some (.int .u8 ((l.getD 0 0).toNat : Int)) := by simpa [Addr.add] using c0
  have hs : sizeR (l.getD 0 0).toNat = 4 := by unfold sizeR; rw [if_neg (by omega), if_neg (by omega), if_pos ⟨hlo, hhi⟩]
  have hb : baseR (l.getD 0 0).toNat = ((l.getD 0 0).toNat : Int) - 240 := by unfold baseR; rw [if_neg (by omega), if_neg (by omega), if_pos ⟨hlo, hhi⟩]
  obtain ⟨r, hr⟩ : ∃ r, r = nextR l := ⟨_, rfl⟩
  rw [← hr]
  rw [nextR, if_neg (by omega), hs, hb] at hr
  clear hs hb
  generalize (l.getD 0 0).toNat = N at *
  obtain ⟨bs, hbs⟩ : ∃ bs : Int, bs = (N : Int) - 240 := ⟨_, rfl⟩
  have hwb : IntKind.i64.wrap ((N : Int) - 240) = bs := by rw [hbs]; exact IntWalk.i64_in _ (by omega)
  rw [← hbs] at hr
  have hbs0 : 0 ≤ bs ∧ bs ≤ 31 := by omega
  obtain ⟨hbs0, hbs1⟩ := hbs0
  have m1 : (240 : Int) ≤ (N : Int) := by omega
  have m2 : (N : Int) ≤ 244 := by omega
  have m3 : ¬ (N : Int) ≤ 223 := by omega
  have m4 : ¬ (N : Int) ≤ 239 := by omega
  replace hbs := hide hbs
  by_cases hsh : n < 4
  · have hres : Hid (-1 = r) := by rw [Hid, hr, if_pos (.inr (by have := hlen.out; omega))]
    have hsh' : (n : Int) < 4 := by omega
    clear hr hlo hhi hsh
    go_enter Tryz.func63, Tryz.ntmps63
    go_wp2_with fail
    go_ret
    exact ⟨ret_int hres.out, Below.refl _ _⟩
  · have hsh' : ¬ (n : Int) < 4 := by omega
    rw [if_neg (by have := hlen.out; omega)] at hr
    replace hr := hide hr
    replace h := hide h
    clear hlo hhi hg0
    go_enter Tryz.func63, Tryz.ntmps63
    go_wp2_with fail
    go_loop [5, 6] (fun v5 v6 => ∃ (j : Nat) (u : Int), j + 1 ≤ 4 ∧ v6 = .int .i64 ((j : Int) + 1) ∧ v5 = .int .i64 u ∧ contR l bs j = some u) (fun _ v6 => 4 - (intOf v6).toNat)
    case atStart => exact ⟨0, bs, by omega, by simp, by first | rfl | (rw [hbs.out]), rfl⟩
    case round =>
      obtain ⟨j, u, hj, rfl, rfl, hu⟩ := hrel
      have hub := contR_bd l bs hbs0 j u hu
      have hu2 : 0 ≤ u ∧ u ≤ 100000000 := by
        have h64 : (64 : Nat) ^ j ≤ 64 ^ 3 := Nat.pow_le_pow_right (by omega) (by omega)
        have h65 : (64 : Int) ^ j ≤ 64 ^ 3 := by exact_mod_cast h64
        have h66 : (64 : Int) ^ 3 = 262144 := by decide
        have h67 : (bs + 1) * 64 ^ j ≤ 32 * 262144 := by
          have := Int.mul_le_mul (show bs + 1 ≤ 32 by omega) (show (64 : Int) ^ j ≤ 262144 by omega) (by exact_mod_cast Nat.zero_le _) (by omega)
          exact this
        omega
      obtain ⟨hu0, hu1⟩ := hu2
      clear hub
      by_cases h1 : j + 1 < 4
      · have hjn : j + 1 < n := by omega
        have hjl : j + 1 < l.length := by have := hlen.out; omega
        obtain ⟨ad', e, -, cj⟩ := h.out.elem (k := j + 1) hjn hjl
        obtain rfl := Option.some.inj e
        have hgj : l[j + 1] = l.getD (j + 1) 0 := by
          rw [List.getD_eq_getElem?_getD, List.getElem?_eq_getElem hjl]; rfl
        rw [hgj] at cj
        rw [add_pos8 _ _ (by omega)] at cj
        have hnx : Hid (contR l bs (j + 1) = if (l.getD (j + 1) 0).toNat < 128 ∨ 191 < (l.getD (j + 1) 0).toNat then none else some (64 * u + ((l.getD (j + 1) 0).toNat : Int) - 128)) := by rw [Hid, contR, hu]
        have hcb : ((l.getD (j + 1) 0).toNat : Int) < 256 := by have := (l.getD (j + 1) 0).toNat_lt; omega
        generalize (l.getD (j + 1) 0).toNat = C at *
        have h1' : (j : Int) + 1 < 4 := by omega
        have hjn' : (j : Int) + 1 < (n : Int) := by omega
        clear hgj hu
        by_cases e1 : (C : Int) < 128
        · have hres : Hid (-1 = r) := by rw [Hid, hr.out, contR_none l bs (j + 1) (by rw [hnx.out, if_pos (.inl (by omega))]) (4 - 1) (by omega)]
          go_wp2_with fail
          go_ret
          exact ⟨ret_int hres.out, Below.refl _ _⟩
        · by_cases e2 : 191 < (C : Int)
          · have hres : Hid (-1 = r) := by rw [Hid, hr.out, contR_none l bs (j + 1) (by rw [hnx.out, if_pos (.inr (by omega))]) (4 - 1) (by omega)]
            go_wp2_with fail
            go_ret
            exact ⟨ret_int hres.out, Below.refl _ _⟩
          · have hun : Hid (contR l bs (j + 1) = some (64 * u + (C : Int) - 128)) := by rw [Hid, hnx.out, if_neg (by omega)]
            clear hnx
            go_wp2_with fail
            go_round
            case rel => exact ⟨j + 1, _, by omega, by go_num, rfl, hun.out⟩
            case measure => simp [intOf]; omega
      · obtain rfl : j = 4 - 1 := by omega
        have hrr : Hid (r = endR 4 u) := by
          rw [Hid, hr.out, hu]
        have h1' : ¬ (((4 - 1 : Nat) : Int) + 1 < 4) := by omega
        have hU := utf_any w u hu0 hu1
        clear hu
        go_wp2_with fail
        refine hU.mono ?_
        rintro e w2 ⟨rfl, hb2⟩
        generalize hun : utfN u = un at *
        by_cases f1 : un = 4
        · have q1 : ((un : Int) != 4) = false := by simp [f1]
          by_cases f2 : 55296 ≤ u
          · by_cases f3 : u ≤ 57343
            · have hres : Hid (-1 = r) := by rw [Hid, hrr.out, endR, if_pos (.inr (.inl ⟨f2, f3⟩))]
              clear f1 hun
              go_wp2_with fail
              go_ret
              exact ⟨ret_int hres.out, hb2⟩
            · by_cases f4 : 1114111 < u
              · have hres : Hid (-1 = r) := by rw [Hid, hrr.out, endR, if_pos (.inr (.inr f4))]
                clear f1 hun
                go_wp2_with fail
                go_ret
                exact ⟨ret_int hres.out, hb2⟩
              · have hres : Hid (u = r) := by rw [Hid, hrr.out, endR, if_neg (by omega)]
                clear f1 hun
                go_wp2_with fail
                go_ret
                exact ⟨ret_int hres.out, hb2⟩
          · have f4 : ¬ 1114111 < u := by omega
            have hres : Hid (u = r) := by rw [Hid, hrr.out, endR, if_neg (by omega)]
            clear f1 hun
            go_wp2_with fail
            go_ret
            exact ⟨ret_int hres.out, hb2⟩
        · have q1 : ((un : Int) != 4) = true := by simp; omega
          have hres : Hid (-1 = r) := by rw [Hid, hrr.out, endR, if_pos (.inl (by omega))]
          clear f1 hun
          go_wp2_with fail
          go_ret
          exact ⟨ret_int hres.out, hb2⟩
end Go.Proofs.YtnnjcedlomfhoaaGreatDoor
namespace Go.Proofs.YtnnjcedlomfhoaaGreatDoor
open Go.RowKit
set_option linter.unusedVariables false
set_option maxRecDepth 100000 in
set_option maxHeartbeats 2000000 in
theorem rnext_any (w : World) (B : Nat) (A : Option Addr) (n c : Nat) (l : List UInt8) (h : RB w B A n l) (h0 : 0 < n) (hn : n ≤ 1000000) :
    Calls Tryz.prog 63 #[.slice A n c] w (NextRet w (nextR l)) := by
  by_cases h2 : 194 ≤ (l.getD 0 0).toNat ∧ (l.getD 0 0).toNat ≤ 223
  · exact next_size2 w B A n c l h h0 hn h2.1 h2.2
  by_cases h3 : 224 ≤ (l.getD 0 0).toNat ∧ (l.getD 0 0).toNat ≤ 239
  · exact next_size3 w B A n c l h h0 hn h3.1 h3.2
  by_cases h4 : 240 ≤ (l.getD 0 0).toNat ∧ (l.getD 0 0).toNat ≤ 244
  · exact next_size4 w B A n c l h h0 hn h4.1 h4.2
  have hlen := hide h.len
  obtain ⟨ad, rfl, hab, c0⟩ := h.elem (k := 0) h0 (by have := hlen.out; omega)
  have hg0 : l[0]'(by have := hlen.out; omega) = l.getD 0 0 := by
    rw [List.getD_eq_getElem?_getD, List.getElem?_eq_getElem (by have := hlen.out; omega)]; rfl
  rw [hg0] at c0
  have c0 : w.cell? ad = some (.int .u8 ((l.getD 0 0).toNat : Int)) := by simpa [Addr.add] using c0
  have hs : sizeR (l.getD 0 0).toNat = 0 := by unfold sizeR; rw [if_neg h2, if_neg h3, if_neg h4]
  have hcb : (l.getD 0 0).toNat < 256 := (l.getD 0 0).toNat_lt
  obtain ⟨r, hr⟩ : ∃ r, r = nextR l := ⟨_, rfl⟩
  rw [← hr]
  by_cases h1 : (l.getD 0 0).toNat < 128
  · have hres : Hid ((((l.getD 0 0).toNat : Nat) : Int) = r) := by rw [Hid, hr, nextR, if_pos h1]
    have h1' : (((l.getD 0 0).toNat : Nat) : Int) < 128 := by omega
    generalize (l.getD 0 0).toNat = N at *
    clear h h2 h3 h4 hr hs hg0 h1
    go_enter Tryz.func63, Tryz.ntmps63
    go_wp2_with fail
    go_ret
    exact ⟨ret_int hres.out, Below.refl _ _⟩
  · have hres : Hid (-1 = r) := by rw [Hid, hr, nextR, if_neg h1, if_pos (.inl hs)]
    have h1' : ¬ (((l.getD 0 0).toNat : Nat) : Int) < 128 := by omega
    generalize (l.getD 0 0).toNat = N at *
    by_cases k1 : N < 194
    · have k1' : ¬ (194 : Int) ≤ (N : Int) := by omega
      have k2' : ¬ (224 : Int) ≤ (N : Int) := by omega
      have k3' : ¬ (240 : Int) ≤ (N : Int) := by omega
      clear h h2 h3 h4 hr hs hg0 h1
      go_enter Tryz.func63, Tryz.ntmps63
      go_wp2_with fail
      go_ret
      exact ⟨ret_int hres.out, Below.refl _ _⟩
    · have k1' : ¬ (N : Int) ≤ 223 := by omega
      have k2' : ¬ (N : Int) ≤ 239 := by omega
      have k3' : ¬ (N : Int) ≤ 244 := by omega
      have k4' : (194 : Int) ≤ (N : Int) := by omega
      have k5' : (224 : Int) ≤ (N : Int) := by omega
      have k6' : (240 : Int) ≤ (N : Int) := by omega
      clear h h2 h3 h4 hr hs hg0 h1
      go_enter Tryz.func63, Tryz.ntmps63
      go_wp2_with fail
      go_ret
      exact ⟨ret_int hres.out, Below.refl _ _⟩
def readF : Nat → List UInt8 → Option (List Int)
  | 0, _ => none
  | f + 1, l => if l.isEmpty = true then some [] else if nextR l < 0 then none else (readF f (l.drop (utfN (nextR l)))).map (nextR l :: ·)
def readA (acc : List Int) (l : List UInt8) : Option (List Int) := (readF (l.length + 1) l).map (acc ++ ·)
theorem utfN_bd (r : Int) : 1 ≤ utfN r ∧ utfN r ≤ 4 := by
  unfold utfN
  repeat' split
  all_goals omega
theorem nextR_len (l : List UInt8) (h : l ≠ []) (h0 : 0 ≤ nextR l) : utfN (nextR l) ≤ l.length ∧ nextR l ≤ 1114111 := by
  have hl : 1 ≤ l.length := by cases l with
    | nil => exact absurd rfl h
    | cons a t => simp
  unfold nextR at h0 ⊢
  by_cases h1 : (l.getD 0 0).toNat < 128
  · rw [if_pos h1] at h0 ⊢
    refine ⟨?_, by omega⟩
    unfold utfN
    rw [if_pos (by omega)]; exact hl
  · rw [if_neg h1] at h0 ⊢
    by_cases h2 : sizeR (l.getD 0 0).toNat = 0 ∨ l.length < sizeR (l.getD 0 0).toNat
    · rw [if_pos h2] at h0; omega
    · rw [if_neg h2] at h0 ⊢
      cases hc : contR l (baseR (l.getD 0 0).toNat) (sizeR (l.getD 0 0).toNat - 1) with
      | none => rw [hc] at h0; simp at h0
      | some u =>
        rw [hc] at h0
        simp only [] at h0 ⊢
        unfold endR at h0 ⊢
        split at h0
        · omega
        · rename_i h3
          rw [if_neg h3]
          omega
theorem readF_fuel : ∀ (f g : Nat) (l : List UInt8), l.length < f → l.length < g → readF f l = readF g l
  | 0, _, _, h, _ => absurd h (by omega)
  | _ + 1, 0, _, _, h => absurd h (by omega)
  | f + 1, g + 1, l, h1, h2 => by
    rw [readF, readF]
    split
    · rfl
    · rename_i he
      split
      · rfl
      · rename_i hn
        have hne : l ≠ [] := by simpa using he
        have := utfN_bd (nextR l)
        have hl : 1 ≤ l.length := by cases l with
          | nil => exact absurd rfl hne
          | cons a t => simp
        rw [readF_fuel f g _ (by rw [List.length_drop]; omega) (by rw [List.length_drop]; omega)]
theorem readA_nil (acc : List Int) : readA acc [] = some acc := by simp [readA, readF]
theorem readA_bad (acc : List Int) {l : List UInt8} (hl : l ≠ []) (h : nextR l < 0) : readA acc l = none := by
  rw [readA, readF, if_neg (by simpa using hl), if_pos h]; rfl
theorem readA_step (acc : List Int) {l : List UInt8} (hl : l ≠ []) (h : ¬ nextR l < 0) : readA acc l = readA (acc ++ [nextR l]) (l.drop (utfN (nextR l))) := by
  have hp := utfN_bd (nextR l)
  have h1 : 1 ≤ l.length := by cases l with
    | nil => exact absurd rfl hl
    | cons a t => simp
  rw [readA, readF, if_neg (by simpa using hl), if_neg h, readA, readF_fuel l.length ((l.drop (utfN (nextR l))).length + 1) _ (by rw [List.length_drop]; omega) (by omega), Option.map_map]
  congr 1
  funext x
  simp
def OI (w : World) (base : Nat) (v : Value) (n : Nat) (l : List Int) : Prop := w.ownsRow base 3 1 v n (iv l)
theorem ownI_keep {w w' : World} {b n : Nat} {v : Value} {l : List Int} (h : OI w b v n l) (hk : ∀ k, b ≤ k → k < w.heap.size → w'.heap[k]? = w.heap[k]?) : OI w' b v n l := by
  obtain ⟨h1, h2⟩ := h
  refine ⟨h1, ?_⟩
  rcases h2 with h2 | ⟨g, cap, cur, hv, hg, hh, r⟩
  · exact Or.inl h2
  · have hlt : g < w.heap.size := by
      rcases Nat.lt_or_ge g w.heap.size with hlt | hge
      · exact hlt
      · rw [Array.getElem?_eq_none hge] at hh; cases hh
    exact Or.inr ⟨g, cap, cur, hv, hg, by rw [hk g hg hlt]; exact hh, r⟩
theorem ownI_more {w : World} {b b' n : Nat} {v : Value} {l : List Int} (h : OI w b v n l) (hb : b' ≤ b) : OI w b' v n l := by
  obtain ⟨h1, h2⟩ := h
  refine ⟨h1, ?_⟩
  rcases h2 with h2 | ⟨g, cap, cur, hv, hg, hh, r⟩
  · exact Or.inl h2
  · exact Or.inr ⟨g, cap, cur, hv, by omega, hh, r⟩
/-- What Read answers: the runes, if they are right. -/
def ReadRet (w : World) (l : List UInt8) (e : Ending) (w' : World) : Prop := Below w.heap.size w w' ∧
  ((∃ rs v, readA [] l = some rs ∧ e = .returned (.agg #[v, .bool true]) ∧ OI w' w.heap.size v rs.length rs) ∨ (readA [] l = none ∧ e = .returned (.agg #[.slice none 0 0, .bool false])))
def ReadI (w : World) (l : List UInt8) (p : Nat) (wr : World) : Prop :=
  ∃ (acc : List Int) (v : Value), acc.length ≤ p ∧ Blk wr w.heap.size 85 #[.slice none 0 0, .bool false] ∧ Blk wr (w.heap.size + 1) 85 #[v, .bool true] ∧ OI wr (w.heap.size + 2) v acc.length acc ∧ Below w.heap.size w wr ∧ readA [] l = readA acc (l.drop p)
set_option maxRecDepth 100000 in
set_option maxHeartbeats 4000000 in
theorem read_any (w : World) (A : Option Addr) (n c : Nat) (l : List UInt8) (h : RB w w.heap.size A n l) (hn : n ≤ 100000) (hc : n ≤ c) :
    Calls Tryz.prog 40 #[.slice A n c] w (ReadRet w l) := by
  have hlen := hide h.len
  replace h := hide h
  go_enter Tryz.func40, Tryz.ntmps40
  go_wp2_with fail
  go_loopw [4] (fun v4 wr => ∃ p : Nat, p ≤ n ∧ v4 = .int .i64 p ∧ ReadI w l p wr) (fun v4 _ => n - (intOf v4).toNat)
  case atStart =>
    refine ⟨0, by omega, rfl, [], .slice none 0 0, by simp, (Blk.new w 85 _).alloc _, ?_, ⟨by simp [iv], .inl ⟨rfl, rfl⟩⟩, ((Below.refl _ _).alloc (Nat.le_refl _) _).alloc (by simp) _, by simp⟩
    have := Blk.new (w.alloc (.cells #[.slice none 0 0, .bool false] 85)) 85 #[.slice none 0 0, .bool true]
    rw [show (w.alloc (.cells #[.slice none 0 0, .bool false] 85)).heap.size = w.heap.size + 1 from by simp] at this
    exact this
  case round =>
    obtain ⟨p, hp, rfl, acc, v, hac, hB0, hB1, hO, hbl, hrd⟩ := hrel
    by_cases h1 : p < n
    · have hpl : p < l.length := by have := hlen.out; omega
      have hRB := hide (h.out.below hbl)
      obtain ⟨ad, e, hab, -⟩ := h.out.elem (k := p) h1 hpl
      subst e
      have hne : l.drop p ≠ [] := by
        intro e
        have := congrArg List.length e
        simp at this; omega
      have hdl : Hid ((l.drop p).length = n - p) := by rw [Hid, List.length_drop, hlen.out]
      have hcp : ¬ c = p := by omega
      have hcpb : (c == p) = false := by simp [hcp]
      have hsz := hbl.size
      have hlt1 := hB1.lt
      replace hB0 := hide hB0
      replace hB1 := hide hB1
      replace hO := hide hO
      replace hrd := hide hrd
      go_wp2_with fail
      refine (rnext_any wr wr.heap.size _ (n - p) _ (l.drop p) ?rb (by omega) (by omega)).mono ?_
      case rb =>
        have h2 := (Reads.cut hRB.out (k := p) (cap := c) hp hc).more hsz
        rw [if_neg hcp, Nat.mul_one] at h2
        have e : (bv l).drop p = bv (l.drop p) := by simp [bv]
        rw [e] at h2
        exact h2
      rintro e w2 ⟨rfl, hb2⟩
      have hB02 := hB0.out.below hb2 (by omega)
      have hB12 := hB1.out.below hb2 hlt1
      have hO2 : OI w2 (w.heap.size + 2) v acc.length acc := ownI_keep hO.out (fun k _ hk => hb2.block k hk)
      have hbw2 := hbl.trans (hb2.mono hsz)
      have hsz2 := hbw2.size
      have hlt2 := hB12.lt
      clear hB0 hB1 hO hb2
      by_cases hr : nextR (l.drop p) < 0
      · have hres : Hid (readA [] l = none) := by rw [Hid, hrd.out, readA_bad acc hne hr]
        have q0 : w2.cell? ⟨w.heap.size, 0, none⟩ = some (.slice none 0 0) := hB02.cell 0
        have q1 : w2.cell? ⟨w.heap.size, 1, none⟩ = some (.bool false) := hB02.cell 1
        have f0 := hB02.frozen 0
        have f1 := hB02.frozen 1
        clear hne hB02 hB12 hO2
        go_wp2_with fail
        refine bodyPost_ret (v := .agg #[.slice none 0 0, .bool false]) (by simp [results, Tryz.results40, go_sem, q0, q1]) rfl ⟨?_, .inr ⟨hres.out, rfl⟩⟩
        repeat refine below_set ?_ (by omega) _
        exact hbw2
      · have hnx := hide (readA_step acc hne hr)
        obtain ⟨hul, hr2⟩ := nextR_len (l.drop p) hne (by omega)
        have hub := utfN_bd (nextR (l.drop p))
        have hdr : Hid (∀ k, (l.drop p).drop k = l.drop (p + k)) := fun k => by rw [List.drop_drop]
        generalize nextR (l.drop p) = r at *
        have hr0 : 0 ≤ r := by omega
        rw [hdl.out] at hul
        rw [hdr.out] at hnx
        obtain ⟨k, hk⟩ : ∃ k, k = utfN r := ⟨_, rfl⟩
        rw [← hk] at hul hub hnx
        obtain ⟨i0, hi0, hz0, hz1, hz2⟩ := info_parts int_info
        replace hi0 := hide hi0
        replace hz0 := hide hz0
        replace hz1 := hide hz1
        replace hz2 := hide hz2
        have c0 : w2.cell? ⟨w.heap.size + 1, 0, none⟩ = some v := hB12.cell 0
        have f0 := hB12.frozen 0
        have hB0b := hide hB02
        have hB1b := hide hB12
        have hOB := hide (World.ownsRow.alloc hO2 (.cells #[.int .i64 r] 3))
        have hown : Hid (∀ j, v.ownBlock = some j → w.heap.size + 2 ≤ j) := fun j hj => by
          rcases hO2.2 with ⟨rfl, _⟩ | ⟨g', cap, cur, rfl, hg', _⟩
          · simp [Value.ownBlock] at hj
          · simp [Value.ownBlock] at hj; omega
        have hnew := hide (Blk.new w2 3 #[.int .i64 r])
        have hle : acc.length + 1 ≤ 200000 := by omega
        replace hk := hide hk
        clear hne hB02 hB12 hO2 hr
        go_wp2_with (refine wpList_append_any _ rfl _ _ 83 rfl (w.heap.size + 2) 3 i0 _ 1 8 Tryz.underlying83 hi0.out hz0.out hz1.out hz2.out rfl (by omega) v _ _ rfl hOB.out (w2.heap.size + 1) (some ⟨w2.heap.size, 0, none⟩) 1 1 (iv [r]) rfl ?r1 (iv_one _) ?r3 ?r4 ?r5 ?_)
        case r1 =>
          refine ⟨rfl, fun _ => ⟨_, rfl, by simp, fun j u hj => ?_⟩⟩
          match j, hj with
          | 0, hj => simp [iv] at hj; subst hj; simp [Addr.add]
        case r3 => simp only [maxLen]; omega
        case r4 => omega
        case r5 => simp; omega
        intro v3 w3 o3 g3 e3
        have hB3 : Below (w.heap.size + 2) w2 w3 := ((Below.refl _ _).alloc (by omega) _).grown g3 (by simp; omega) (fun k hk => hown.out k hk)
        have hB03 := hB0b.out.below hB3 (by omega)
        have hB13 := hB1b.out.below hB3 (by omega)
        have c3 : w3.cell? ⟨w.heap.size + 1, 0, none⟩ = some v := hB13.cell 0
        have f3 := hB13.frozen 0
        have o4 : OI w3 (w.heap.size + 2) v3 (acc ++ [r]).length (acc ++ [r]) := by
          rw [List.length_append, List.length_singleton]
          unfold OI
          rw [iv_append]; exact o3
        obtain ⟨A4, k4, hv3⟩ : ∃ A k, v3 = .slice A (acc.length + 1) k := by
          rcases o3.2 with ⟨rfl, h0⟩ | ⟨g', cap, cur, rfl, _⟩
          · omega
          · exact ⟨_, _, rfl⟩
        have hB04 := hide (hB03.far (p := ⟨w.heap.size + 1, 0, none⟩) (by simp) v3)
        have hB14 := hide (hB13.set_ 0 v3)
        have o5 : OI (w3.setCell ⟨w.heap.size + 1, 0, none⟩ v3) (w.heap.size + 2) v3 (acc ++ [r]).length (acc ++ [r]) := ownI_keep o4 (fun j hj _ => Below.heap_setCell w3 ⟨w.heap.size + 1, 0, none⟩ v3 j (by simp; omega))
        have hbw4 : Below w.heap.size w (w3.setCell ⟨w.heap.size + 1, 0, none⟩ v3) := below_set (hbw2.trans (hB3.mono (by omega))) (by omega) _
        have hz4 : w.heap.size + 1 < (w3.setCell ⟨w.heap.size + 1, 0, none⟩ v3).heap.size := hB14.out.lt
        replace o5 := hide o5
        replace hbw4 := hide hbw4
        clear hB0b hB1b hOB hown hnew o3 g3 e3 hB3 hB03 hB13 o4 c0 f0
        subst hv3
        go_wp2_with fail
        obtain ⟨w4, hw4⟩ : ∃ x, x = w3.setCell ⟨w.heap.size + 1, 0, none⟩ (.slice A4 (acc.length + 1) k4) := ⟨_, rfl⟩
        rw [← hw4] at hB04 hB14 o5 hbw4 hz4 ⊢
        clear hw4 c3 f3
        refine (utf_any w4 r hr0 (by omega)).mono ?_
        rintro e w5 ⟨rfl, hb5⟩
        rw [← hk.out]
        have hI : Hid (ReadI w l (p + k) w5) :=
          ⟨acc ++ [r], _, by simp; omega, hB04.out.below hb5 (by omega), hB14.out.below hb5 hz4, ownI_keep o5.out (fun j _ hj => hb5.block j hj), hbw4.out.trans (hb5.mono (by omega)), by rw [hrd.out, hnx.out]⟩
        clear hB04 hB14 o5 hbw4 hb5
        go_wp2_with fail
        go_roundw
        case rel => exact ⟨p + k, by omega, by go_num, hI.out⟩
        case measure => simp [intOf]; omega
    · obtain rfl : p = n := by omega
      have hde : l.drop p = [] := List.drop_eq_nil_of_le (by have := hlen.out; omega)
      have hres : Hid (readA [] l = some acc) := by rw [Hid, hrd, hde, readA_nil]
      obtain ⟨A1, c1, hv⟩ : ∃ A k, v = .slice A acc.length k := by
        rcases hO.2 with ⟨rfl, h0⟩ | ⟨g', cap, cur, rfl, _⟩
        · exact ⟨none, 0, by rw [h0]⟩
        · exact ⟨_, _, rfl⟩
      subst hv
      have q0 : wr.cell? ⟨w.heap.size, 0, none⟩ = some (.slice none 0 0) := hB0.cell 0
      have q1 : wr.cell? ⟨w.heap.size, 1, none⟩ = some (.bool false) := hB0.cell 1
      have f0 := hB0.frozen 0
      have f1 := hB0.frozen 1
      have r0 : wr.cell? ⟨w.heap.size + 1, 0, none⟩ = some (.slice A1 acc.length c1) := hB1.cell 0
      have r1 : wr.cell? ⟨w.heap.size + 1, 1, none⟩ = some (.bool true) := hB1.cell 1
      have hO3 : OI ((wr.setCell ⟨w.heap.size, 0, none⟩ (.slice A1 acc.length c1)).setCell ⟨w.heap.size, 1, none⟩ (.bool true)) w.heap.size (.slice A1 acc.length c1) acc.length acc :=
        ownI_more (ownI_keep (ownI_keep hO (fun j hj _ => Below.heap_setCell wr ⟨w.heap.size, 0, none⟩ _ j (by simp; omega))) (fun j hj _ => Below.heap_setCell _ ⟨w.heap.size, 1, none⟩ _ j (by simp; omega))) (by omega)
      replace hO3 := hide hO3
      clear hB0 hB1 hO hrd hde
      go_wp2_with fail
      refine bodyPost_ret (v := .agg #[.slice A1 acc.length c1, .bool true]) (by simp [results, Tryz.results40, go_sem, q0, q1]) rfl ⟨?_, .inl ⟨acc, _, hres.out, rfl, hO3.out⟩⟩
      repeat refine below_set ?_ (by omega) _
      exact hbl
end Go.Proofs.YtnnjcedlomfhoaaGreatDoor
namespace Go.Proofs.YtnnjcedlomfhoaaGreatDoor
set_option linter.unusedVariables false
def badB (b : Nat) : Bool := decide (b < 128) || decide (191 < b)
def nextN (n b0 b1 b2 b3 : Nat) : Int :=
  if b0 < 128 then (b0 : Int)
  else if b0 < 194 then -1
  else if b0 ≤ 223 then (if n < 2 ∨ badB b1 = true then -1 else endR 2 (64 * ((b0 : Int) - 192) + (b1 : Int) - 128))
  else if b0 ≤ 239 then (if n < 3 ∨ badB b1 = true ∨ badB b2 = true then -1 else endR 3 (64 * (64 * ((b0 : Int) - 224) + (b1 : Int) - 128) + (b2 : Int) - 128))
  else if b0 ≤ 244 then (if n < 4 ∨ badB b1 = true ∨ badB b2 = true ∨ badB b3 = true then -1 else endR 4 (64 * (64 * (64 * ((b0 : Int) - 240) + (b1 : Int) - 128) + (b2 : Int) - 128) + (b3 : Int) - 128))
  else -1
theorem badB_iff (b : Nat) : badB b = true ↔ (b < 128 ∨ 191 < b) := by simp [badB]
theorem nextR_N (l : List UInt8) : nextR l = nextN l.length (l.getD 0 0).toNat (l.getD 1 0).toNat (l.getD 2 0).toNat (l.getD 3 0).toNat := by
  have hb0 : (l.getD 0 0).toNat < 256 := (l.getD 0 0).toNat_lt
  have k1 : ∀ r, contR l r 1 = if badB (l.getD 1 0).toNat = true then none else some (64 * r + ((l.getD 1 0).toNat : Int) - 128) := by
    intro r; simp only [contR, badB_iff]
  have k2 : ∀ r, contR l r 2 = if badB (l.getD 1 0).toNat = true ∨ badB (l.getD 2 0).toNat = true then none else some (64 * (64 * r + ((l.getD 1 0).toNat : Int) - 128) + ((l.getD 2 0).toNat : Int) - 128) := by
    intro r
    rw [contR, k1]
    by_cases h : badB (l.getD 1 0).toNat = true
    · rw [if_pos h, if_pos (.inl h)]
    · rw [if_neg h]
      simp only [← badB_iff]
      by_cases h2 : badB (l.getD 2 0).toNat = true
      · rw [if_pos h2, if_pos (.inr h2)]
      · rw [if_neg h2, if_neg (by rintro (h3 | h3); exact h h3; exact h2 h3)]
  have k3 : ∀ r, contR l r 3 = if badB (l.getD 1 0).toNat = true ∨ badB (l.getD 2 0).toNat = true ∨ badB (l.getD 3 0).toNat = true then none else some (64 * (64 * (64 * r + ((l.getD 1 0).toNat : Int) - 128) + ((l.getD 2 0).toNat : Int) - 128) + ((l.getD 3 0).toNat : Int) - 128) := by
    intro r
    rw [contR, k2]
    by_cases h : badB (l.getD 1 0).toNat = true ∨ badB (l.getD 2 0).toNat = true
    · rw [if_pos h, if_pos (by rcases h with h | h; exact .inl h; exact .inr (.inl h))]
    · rw [if_neg h]
      simp only [← badB_iff]
      by_cases h2 : badB (l.getD 3 0).toNat = true
      · rw [if_pos h2, if_pos (.inr (.inr h2))]
      · rw [if_neg h2, if_neg (by rintro (h3 | h3 | h3); exact h (.inl h3); exact h (.inr h3); exact h2 h3)]
  unfold nextR nextN
  generalize (l.getD 0 0).toNat = b0 at *
  generalize (l.getD 1 0).toNat = b1 at *
  generalize (l.getD 2 0).toNat = b2 at *
  generalize (l.getD 3 0).toNat = b3 at *
  by_cases c0 : b0 < 128
  · rw [if_pos c0, if_pos c0]
  rw [if_neg c0, if_neg c0]
  by_cases c1 : b0 < 194
  · rw [if_pos c1]
    have hs : sizeR b0 = 0 := by unfold sizeR; rw [if_neg (by omega), if_neg (by omega), if_neg (by omega)]
    rw [hs, if_pos (.inl rfl)]
  rw [if_neg c1]
  by_cases c2 : b0 ≤ 223
  · rw [if_pos c2]
    have hs : sizeR b0 = 2 := by unfold sizeR; rw [if_pos (by omega)]
    have hb : baseR b0 = (b0 : Int) - 192 := by unfold baseR; rw [if_pos (by omega)]
    rw [hs, hb]
    by_cases c3 : l.length < 2
    · rw [if_pos (.inr c3), if_pos (.inl c3)]
    · rw [if_neg (by omega), k1]
      by_cases c4 : badB b1 = true
      · rw [if_pos c4, if_pos (.inr c4)]
      · rw [if_neg c4, if_neg (by rintro (h | h); exact c3 h; exact c4 h)]
  rw [if_neg c2]
  by_cases c2b : b0 ≤ 239
  · rw [if_pos c2b]
    have hs : sizeR b0 = 3 := by unfold sizeR; rw [if_neg (by omega), if_pos (by omega)]
    have hb : baseR b0 = (b0 : Int) - 224 := by unfold baseR; rw [if_neg (by omega), if_pos (by omega)]
    rw [hs, hb]
    by_cases c3 : l.length < 3
    · rw [if_pos (.inr c3), if_pos (.inl c3)]
    · rw [if_neg (by omega), k2]
      by_cases c4 : badB b1 = true ∨ badB b2 = true
      · rw [if_pos c4, if_pos (.inr c4)]
      · rw [if_neg c4, if_neg (by rintro (h | h); exact c3 h; exact c4 h)]
  rw [if_neg c2b]
  by_cases c2c : b0 ≤ 244
  · rw [if_pos c2c]
    have hs : sizeR b0 = 4 := by unfold sizeR; rw [if_neg (by omega), if_neg (by omega), if_pos (by omega)]
    have hb : baseR b0 = (b0 : Int) - 240 := by unfold baseR; rw [if_neg (by omega), if_neg (by omega), if_pos (by omega)]
    rw [hs, hb]
    by_cases c3 : l.length < 4
    · rw [if_pos (.inr c3), if_pos (.inl c3)]
    · rw [if_neg (by omega), k3]
      by_cases c4 : badB b1 = true ∨ badB b2 = true ∨ badB b3 = true
      · rw [if_pos c4, if_pos (.inr c4)]
      · rw [if_neg c4, if_neg (by rintro (h | h); exact c3 h; exact c4 h)]
  · rw [if_neg c2c]
    have hs : sizeR b0 = 0 := by unfold sizeR; rw [if_neg (by omega), if_neg (by omega), if_neg (by omega)]
    rw [hs, if_pos (.inl rfl)]
def Agree (x : Int) (d : Nat × Nat) : Prop := (d = (65533, 1) ∧ x = -1) ∨ (d ≠ (65533, 1) ∧ x = (d.1 : Int) ∧ utfN x = d.2)
theorem agree_bad : Agree (-1) (65533, 1) := .inl ⟨rfl, rfl⟩
theorem agree_end {size : Nat} {r : Int} {c : Nat} (hs : 2 ≤ size) (hc : r = (c : Int)) (P : Prop) [Decidable P] (hP : P ↔ (utfN r = size ∧ ¬ (55296 ≤ r ∧ r ≤ 57343) ∧ r ≤ 1114111)) : Agree (endR size r) (if P then (c, size) else (65533, 1)) := by
  unfold endR
  by_cases h : P
  · rw [if_pos h]
    obtain ⟨h1, h2, h3⟩ := hP.1 h
    rw [if_neg (by omega)]
    refine .inr ⟨fun e => ?_, hc, h1⟩
    have := congrArg Prod.snd e
    simp at this; omega
  · rw [if_neg h, if_pos (by
      rcases Decidable.em (utfN r = size) with a | a
      · rcases Decidable.em (55296 ≤ r ∧ r ≤ 57343) with b | b
        · exact .inr (.inl b)
        · exact .inr (.inr (by have : ¬ r ≤ 1114111 := fun e => h (hP.2 ⟨a, b, e⟩); omega))
      · exact .inl a)]
    exact agree_bad
theorem utfN_2 (r : Int) : utfN r = 2 ↔ (128 ≤ r ∧ r < 2048) := by
  unfold utfN
  repeat' split
  all_goals (constructor <;> intro h <;> omega)
theorem utfN_3 (r : Int) : utfN r = 3 ↔ (2048 ≤ r ∧ r < 65536) := by
  unfold utfN
  repeat' split
  all_goals (constructor <;> intro h <;> omega)
theorem utfN_4 (r : Int) : utfN r = 4 ↔ 65536 ≤ r := by
  unfold utfN
  repeat' split
  all_goals (constructor <;> intro h <;> omega)
theorem good_iff (b : Nat) (h : b < 256) : badB b = true ↔ ¬ b / 64 = 2 := by
  rw [badB_iff]; omega
theorem next_decN (n b0 b1 b2 b3 : Nat) (hn : 1 ≤ n) (h0 : b0 < 256) (h1 : b1 < 256) (h2 : b2 < 256) (h3 : b3 < 256) : Agree (nextN n b0 b1 b2 b3) (Lib.decodeN n b0 b1 b2 b3) := by
  unfold nextN Lib.decodeN
  by_cases c0 : b0 < 128
  · rw [if_pos c0, if_pos c0]
    refine .inr ⟨fun e => ?_, rfl, ?_⟩
    · have := congrArg Prod.fst e
      simp at this; omega
    · unfold utfN; rw [if_pos (by omega)]
  rw [if_neg c0, if_neg c0]
  by_cases c1 : b0 < 194
  · rw [if_pos c1]
    split
    · rw [if_neg (by omega)]; exact agree_bad
    · rw [if_neg (by omega), if_neg (by omega)]; exact agree_bad
  rw [if_neg c1]
  by_cases c2 : b0 ≤ 223
  · rw [if_pos c2]
    by_cases c3 : n < 2 ∨ badB b1 = true
    · rw [if_pos c3, if_neg (by rw [good_iff b1 h1] at c3; omega), if_neg (by omega), if_neg (by omega)]; exact agree_bad
    · rw [if_neg c3]
      rw [good_iff b1 h1] at c3
      rw [if_pos (by omega)]
      refine agree_end (by omega) (by omega) _ ?_
      rw [utfN_2]
      constructor <;> intro h <;> omega
  rw [if_neg c2]
  by_cases c2b : b0 ≤ 239
  · rw [if_pos c2b]
    by_cases c3 : n < 3 ∨ badB b1 = true ∨ badB b2 = true
    · rw [if_pos c3]
      rw [good_iff b1 h1, good_iff b2 h2] at c3
      rw [if_neg (by omega), if_neg (by omega), if_neg (by omega)]; exact agree_bad
    · rw [if_neg c3]
      rw [good_iff b1 h1, good_iff b2 h2] at c3
      rw [if_neg (by omega), if_pos (by omega)]
      refine agree_end (by omega) (by omega) _ ?_
      rw [utfN_3]
      constructor <;> intro h <;> omega
  rw [if_neg c2b]
  by_cases c2c : b0 ≤ 244
  · rw [if_pos c2c]
    by_cases c3 : n < 4 ∨ badB b1 = true ∨ badB b2 = true ∨ badB b3 = true
    · rw [if_pos c3]
      rw [good_iff b1 h1, good_iff b2 h2, good_iff b3 h3] at c3
      rw [if_neg (by omega), if_neg (by omega), if_neg (by omega)]; exact agree_bad
    · rw [if_neg c3]
      rw [good_iff b1 h1, good_iff b2 h2, good_iff b3 h3] at c3
      rw [if_neg (by omega), if_neg (by omega), if_pos (by omega)]
      refine agree_end (by omega) (by omega) _ ?_
      rw [utfN_4]
      constructor <;> intro h <;> omega
  · rw [if_neg c2c, if_neg (by omega), if_neg (by omega)]
    split
    · rw [if_neg (by omega)]; exact agree_bad
    · exact agree_bad
theorem next_dec (l : List UInt8) (hne : l ≠ []) : Agree (nextR l) (Lib.decodeL l) := by
  rw [nextR_N, Lib.decodeL_N]
  refine next_decN _ _ _ _ _ ?_ (UInt8.toNat_lt _) (UInt8.toNat_lt _) (UInt8.toNat_lt _) (UInt8.toNat_lt _)
  cases l with
  | nil => exact absurd rfl hne
  | cons a t => simp
def runesD : Nat → List UInt8 → List Int
  | 0, _ => []
  | f + 1, l => if l = [] then [] else ((Lib.decodeL l).1 : Int) :: runesD f (l.drop (Lib.decodeL l).2)
theorem runesFrom_D (s : ByteArray) : ∀ (f i : Nat) (acc : List Int), Conv.runesFrom s f i (acc.map (Value.int .i32)).toArray = ((acc ++ runesD f (s.data.toList.drop i)).map (Value.int .i32)).toArray
  | 0, i, acc => by simp [Conv.runesFrom, runesD]
  | f + 1, i, acc => by
    rw [Conv.runesFrom, runesD]
    by_cases h : i < s.size
    · have hne : s.data.toList.drop i ≠ [] := by
        intro e
        have := congrArg List.length e
        simp at this
        have := data_len s
        omega
      rw [if_pos h, if_neg hne, Lib.decodeL_drop]
      have e : (acc.map (Value.int .i32)).toArray.push (.int .i32 (Int.ofNat (Utf8.decode s i).1)) = ((acc ++ [((Utf8.decode s i).1 : Int)]).map (Value.int .i32)).toArray := by simp
      simp only [e]
      rw [runesFrom_D s f, List.drop_drop]
      simp
    · have he : s.data.toList.drop i = [] := List.drop_eq_nil_of_le (by rw [data_len]; omega)
      rw [if_neg h, if_pos he]; simp
theorem runesG_D (s : ByteArray) : runesG s = runesD s.size s.data.toList := by
  have h := runesFrom_D s s.size 0 []
  have e : (([] : List Int).map (Value.int .i32)).toArray = #[] := rfl
  rw [e, List.nil_append, List.drop_zero] at h
  unfold runesG
  rw [h]
  simp only [List.map_map]
  exact (List.map_congr_left (fun x _ => rfl)).trans (List.map_id _)
theorem decodeL_pos (l : List UInt8) : 1 ≤ (Lib.decodeL l).2 := Lib.decodeL_width l
theorem readF_law : ∀ (f g h : Nat) (l : List UInt8), l.length < f → l.length ≤ g → l.length ≤ h → readF f l = if Lib.validGoD g l = true then some (runesD h l) else none
  | 0, _, _, _, h, _, _ => absurd h (by omega)
  | f + 1, g, h, l, h1, h2, h3 => by
    by_cases he : l = []
    · subst he
      have e1 : Lib.validGoD g [] = true := by cases g <;> simp [Lib.validGoD]
      have e2 : runesD h [] = [] := by cases h <;> simp [runesD]
      rw [readF, if_pos (by rfl), e1, e2, if_pos rfl]
    · have hl : 1 ≤ l.length := by cases l with
        | nil => exact absurd rfl he
        | cons a t => simp
      obtain ⟨g, rfl⟩ : ∃ g', g = g' + 1 := ⟨g - 1, by omega⟩
      obtain ⟨h, rfl⟩ : ∃ h', h = h' + 1 := ⟨h - 1, by omega⟩
      rw [readF, if_neg (by simpa using he), Lib.validGoD, if_neg he, runesD, if_neg he]
      have hw := decodeL_pos l
      rcases next_dec l he with ⟨e1, e2⟩ | ⟨e1, e2, e3⟩
      · have ev : (if (Lib.decodeL l).1 = 65533 ∧ (Lib.decodeL l).2 = 1 then false else Lib.validGoD g (l.drop (Lib.decodeL l).2)) = false := if_pos (by rw [e1]; exact ⟨rfl, rfl⟩)
        rw [if_pos (by rw [e2]; omega), ev, if_neg Bool.false_ne_true]
      · have hneg : ¬ nextR l < 0 := by rw [e2]; omega
        have ev : (if (Lib.decodeL l).1 = 65533 ∧ (Lib.decodeL l).2 = 1 then false else Lib.validGoD g (l.drop (Lib.decodeL l).2)) = Lib.validGoD g (l.drop (Lib.decodeL l).2) := if_neg (fun c => e1 (Prod.ext c.1 c.2))
        rw [if_neg hneg, ev, e3, e2, readF_law f g h _ (by rw [List.length_drop]; omega) (by rw [List.length_drop]; omega) (by rw [List.length_drop]; omega)]
        split <;> rfl
theorem readA_law (l : List UInt8) : readA [] l = if Lib.validD l = true then some (runesG (str l)) else none := by
  rw [readA, readF_law (l.length + 1) l.length l.length l (by omega) (by omega) (by omega), runesG_D, str_toList, str_size]
  unfold Lib.validD
  split <;> simp
end Go.Proofs.YtnnjcedlomfhoaaGreatDoor
