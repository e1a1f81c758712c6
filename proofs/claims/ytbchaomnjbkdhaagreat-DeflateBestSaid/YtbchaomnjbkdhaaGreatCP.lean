/-
  What Pack makes, in each of its ways, is what the unpacker takes.
-/
import Derived.Test.YtbchaomnjbkdhaaGreatCZ
import Derived.Test.YtbchaomnjbkdhaaGreatCPackD
import Derived.Test.YtbchaomnjbkdhaaGreatCA
import Derived.Test.YtbchaomnjbkdhaaGreatCPack
import Derived.Lib.SlBytesConst
namespace Go.Proofs.YtbchaomnjbkdhaaGreat
open Go.RowKit Go.Sort Go.Proofs
set_option linter.unusedVariables false
/-- Bytes in each way. -/
def packL (b : List UInt8) (k : Nat) : List UInt8 := if k = 0 then headS b.length 1 ++ b else if k = 1 then (stB (fixB b)).1 else (stB (dynB b)).1
/-- How many bits these are. -/
def packM (b : List UInt8) (k : Nat) : Nat := if k = 0 then 40 + 8 * b.length else if k = 1 then (fixB b).length else (dynB b).length
theorem fixed_288 : fixedLits.length = 288 := by simp only [fixedLits, List.length_append, List.length_replicate]
theorem fixed_32 : fixedD32.length = 32 := by simp only [fixedD32, List.length_replicate]
theorem packC (b : List UInt8) (hb : b.length ≤ 20000) (k : Nat) (hk : k ≤ 2) : ∃ (n : Nat) (its : List Item) (ls ds : List Nat) (mh : Nat), StepC (packL b k) b k n its ls ds (packM b k) mh := by
  have hil := items_len b
  have hio : ∀ x ∈ itemsL b, okI x := items_ok b _ _
  match k, hk with
  | 0, _ =>
    have hs := stored_bits b (by omega)
    have hp : packL b 0 = headS b.length 1 ++ b := rfl
    have hm : packM b 0 = 40 + 8 * b.length := rfl
    rw [hp, hm]
    refine ⟨b.length, [], [], [], 40, .inl ⟨rfl, by omega, ?_, rfl⟩, ?_, fun _ => ⟨rfl, rfl, ?_⟩, fun h => absurd rfl h, (fun h => by cases h), (fun h => by cases h), ?_, by omega, by omega⟩
    · exact Agr.of_split (P := loB 8 1) (R := bytesB b) (by rw [hs, List.append_assoc]) rfl
    · exact Agr.of_split (P := []) (R := loB 5 0 ++ (loB 16 b.length ++ (loB 16 (65535 - b.length) ++ bytesB b))) (by rw [hs]; rfl) rfl
    · exact Agr.of_split (P := loB 8 1 ++ (loB 16 b.length ++ loB 16 (65535 - b.length))) (R := []) (by rw [hs, List.append_nil, List.append_assoc, List.append_assoc]) (by rw [List.length_append, List.length_append, loB_len, loB_len, loB_len])
    · rw [List.length_append]; show 5 + _ ≤ _; omega
  | 1, _ =>
    have hp : packL b 1 = (stB (fixB b)).1 := rfl
    have hm : packM b 1 = (fixB b).length := rfl
    have hs := bytes_stB (fixB b) (fixB_two b)
    have hle := fixB_le b
    have hsl := stB_len (fixB b)
    rw [hp, hm]
    have hE : encL fixedLits fixedDist (itemsL b) = (itemsL b).flatMap (encIt fixedLits fixedD32) ++ encS fixedLits 256 := by
      unfold encL
      congr 1
      rw [List.flatMap_def, List.flatMap_def]
      congr 1
      apply List.map_congr_left
      intro x hx
      by_cases hf : x.far = 0
      · rw [enc_lit hf, enc_lit hf]
      · rw [enc_copy hf, enc_copy hf, d32_same _ (by have := (copy_ok x (hio x hx) hf).f29; omega)]
    have hfix : fixB b = (loB 1 1 ++ loB 2 1) ++ ((itemsL b).flatMap (encIt fixedLits fixedD32) ++ encS fixedLits 256) := by rw [fixB, hE]
    have hl3 : (loB 1 1 ++ loB 2 1).length = 3 := rfl
    obtain ⟨Z, hZ⟩ : ∃ Z, Z = List.replicate (padN (fixB b).length) 0 := ⟨_, rfl⟩
    rw [← hZ] at hs
    have hs2 : bytesB (stB (fixB b)).1 = (loB 1 1 ++ loB 2 1) ++ (((itemsL b).flatMap (encIt fixedLits fixedD32) ++ encS fixedLits 256) ++ Z) := by
      rw [hs, ← List.append_assoc, ← hfix]
    refine ⟨0, itemsL b, fixedLits, fixedD32, 3, .inr (.inl ⟨rfl, rfl⟩), ?_, (fun h => by cases h), fun _ => ⟨⟨put_all b, far_all b, fun x hx => ⟨hio x hx, ⟨fixed_used _ (by have := lit_286 x (hio x hx); omega), fun hf => ?_⟩, ?_, fun hf => ?_⟩, ?_, ?_⟩, lits_code, d32_code, (by rw [fixed_288]; omega), fixed_used 256 (by omega)⟩, fun _ => ⟨rfl, rfl⟩, (fun h => by cases h), by omega, by omega, ?_⟩
    · exact Agr.of_split (P := []) (hs2.trans (List.nil_append _).symm) List.length_nil
    · have := (copy_ok x (hio x hx) hf).f29
      have e : fixedD32.getD (farP x).symbol 0 = 5 := by
        rw [fixedD32, List.getD_eq_getElem?_getD, List.getElem?_replicate, if_pos (by omega)]; rfl
      omega
    · rw [fixed_288]; have := lit_286 x (hio x hx); omega
    · rw [fixed_32]; have := (copy_ok x (hio x hx) hf).f29; omega
    · exact Agr.of_split hs2 hl3
    · have h9 := congrArg List.length hfix
      rw [List.length_append, hl3] at h9; exact h9.symm
    · have h9 := congrArg List.length hfix
      rw [List.length_append, hl3] at h9; omega
  | 2, _ =>
    have hp : packL b 2 = (stB (dynB b)).1 := rfl
    have hm : packM b 2 = (dynB b).length := rfl
    have hs := bytes_stB (dynB b) (dynB_two b)
    have hle := dynB_le b (by omega)
    have hsl := stB_len (dynB b)
    have hH := head_ok (itemsL b) (by omega) hio
    rw [hp, hm]
    have hdyn : dynB b = (loB 1 1 ++ loB 2 2) ++ (headB (itemsL b) ++ ((itemsL b).flatMap (encIt (litsL (itemsL b)) (distL (itemsL b))) ++ encS (litsL (itemsL b)) 256)) := by
      rw [dynB, List.append_assoc, encL]
    have hl3 : (loB 1 1 ++ loB 2 2).length = 3 := rfl
    generalize hZ : List.replicate (padN (dynB b).length) 0 = Z at hs
    generalize hCe : (itemsL b).flatMap (encIt (litsL (itemsL b)) (distL (itemsL b))) ++ encS (litsL (itemsL b)) 256 = C at *
    have hs2 : bytesB (stB (dynB b)).1 = (loB 1 1 ++ loB 2 2) ++ (headB (itemsL b) ++ (C ++ Z)) := by
      rw [hs, hdyn]
      simp only [List.append_assoc]
    refine ⟨0, itemsL b, litsL (itemsL b), distL (itemsL b), 3 + (headB (itemsL b)).length, .inr (.inr ⟨rfl, hH, ?_, rfl⟩), ?_, (fun h => by cases h), fun _ => ⟨⟨put_all b, far_all b, fun x hx => ⟨hio x hx, hH.used x hx, ?_, fun hf => ?_⟩, ?_, ?_⟩, hH.okl, hH.okd, by have := hH.ll1; omega, hH.end_⟩, (fun h => by cases h), fun _ => ⟨rfl, rfl⟩, by omega, by omega, ?_⟩
    · exact Agr.of_split hs2 hl3
    · exact Agr.of_split (P := []) (hs2.trans (List.nil_append _).symm) List.length_nil
    · have := (hH.used x hx).lit; exact pos_lt (by omega)
    · have := (hH.used x hx).far hf; exact pos_lt (by omega)
    · rw [hCe]; exact Agr.of_split (P := (loB 1 1 ++ loB 2 2) ++ headB (itemsL b)) (R := Z) (hs2.trans (List.append_assoc _ _ _).symm) (by rw [List.length_append, hl3])
    · have h9 := congrArg List.length hdyn
      rw [List.length_append, hl3, List.length_append] at h9
      rw [hCe]; omega
    · have h9 := congrArg List.length hdyn
      rw [List.length_append, hl3, List.length_append] at h9; omega
theorem packM_le (b : List UInt8) (k : Nat) : packM b k ≤ 8 * (packL b k).length ∧ 8 * (packL b k).length < packM b k + 8 := by
  unfold packM packL
  by_cases h0 : k = 0
  · rw [if_pos h0, if_pos h0, List.length_append, headS_len]; omega
  · rw [if_neg h0, if_neg h0]
    by_cases h1 : k = 1
    · rw [if_pos h1, if_pos h1, stB_len]; omega
    · rw [if_neg h1, if_neg h1, stB_len]; omega
end Go.Proofs.YtbchaomnjbkdhaaGreat
namespace Go.Proofs.YtbchaomnjbkdhaaGreat
open Go.RowKit Go.Sort Go.Proofs
set_option linter.unusedVariables false
/-- The first of the fewest. -/
def bestF (f : Nat → Nat) : Nat → Nat
  | 0 => 0
  | k + 1 => if k = 0 then 0 else if f k < f (bestF f k) then k else bestF f k
theorem bestF_le (f : Nat → Nat) : ∀ k, bestF f k ≤ k
  | 0 => Nat.le_refl _
  | k + 1 => by
    have := bestF_le f k
    rw [bestF]; split
    · omega
    · split <;> omega
theorem bestF_min (f : Nat → Nat) : ∀ k, ∀ j, j < k → f (bestF f k) ≤ f j ∧ (j < bestF f k → f (bestF f k) < f j)
  | 0, j, h => by omega
  | k + 1, j, h => by
    rw [bestF]
    by_cases h0 : k = 0
    · rw [if_pos h0]
      have : j = 0 := by omega
      subst this
      exact ⟨Nat.le_refl _, fun h => by omega⟩
    · rw [if_neg h0]
      by_cases hj : j < k
      · have ih := bestF_min f k j hj
        split
        · rename_i hlt
          exact ⟨by omega, fun _ => by omega⟩
        · exact ih
      · have : j = k := by omega
        subst this
        split
        · exact ⟨Nat.le_refl _, fun h => by omega⟩
        · rename_i hlt
          have := bestF_le f j
          exact ⟨by omega, fun h => by omega⟩
/-- Bytes and bytes. -/
def RBB (w : World) (B : Nat) (A : Option Addr) (n : Nat) (L : List (List UInt8)) : Prop :=
  L.length = n ∧ ∀ i, i < n → ∃ ad Ai ci, A = some ad ∧ ad.block < B ∧ w.cell? (ad.add i) = some (.slice Ai (L.getD i []).length ci) ∧ RB w B Ai (L.getD i []).length (L.getD i []) ∧ (L.getD i []).length ≤ ci ∧ ci ≤ maxLen
theorem RBB.below {w w' : World} {B n : Nat} {A : Option Addr} {L : List (List UInt8)} (h : RBB w B A n L) (hb : Below B w w') : RBB w' B A n L :=
  ⟨h.1, fun i hi => by
    obtain ⟨ad, Ai, ci, e, h1, h2, h3, h4⟩ := h.2 i hi
    exact ⟨ad, Ai, ci, e, h1, (hb.cell (by rw [block_of_add]; exact h1)).trans h2, h3.below hb, h4⟩⟩
theorem RBB.more {w : World} {B B' n : Nat} {A : Option Addr} {L : List (List UInt8)} (h : RBB w B A n L) (hb : B ≤ B') : RBB w B' A n L :=
  ⟨h.1, fun i hi => by
    obtain ⟨ad, Ai, ci, e, h1, h2, h3, h4⟩ := h.2 i hi
    exact ⟨ad, Ai, ci, e, by omega, h2, h3.more hb, h4⟩⟩
theorem flat_take (L : List (List UInt8)) (i : Nat) (h : i < L.length) : (L.take (i + 1)).flatten = (L.take i).flatten ++ L.getD i [] := by
  rw [List.take_succ_eq_append_getElem h, List.flatten_append, List.getD_eq_getElem?_getD, List.getElem?_eq_getElem h]; simp
theorem flat_le (L : List (List UInt8)) (i : Nat) : (L.take i).flatten.length ≤ L.flatten.length := by
  conv => rhs; rw [← List.take_append_drop i L, List.flatten_append, List.length_append]
  omega
/-- Pack, in any way. -/
theorem packs_k (k : Nat) (hk : k ≤ 2) (w : World) (A : Option Addr) (n c : Nat) (b : List UInt8) (hb : RB w w.heap.size A n b) (hnc : n ≤ c) (hn : n ≤ 20000) :
    Calls Tryz.prog 6 #[.slice A n c, .int .i64 (k : Int)] w (PackRet w (packL b k)) := by
  have hl := hb.len
  match k, hk with
  | 0, _ =>
    have := pack_any w A n c b hb hnc (by omega)
    rw [storedS_last _ _ (by omega)] at this
    exact this
  | 1, _ => exact packF_any w A n c b hb hnc (by omega)
  | 2, _ => exact packD_any w A n c b hb hnc (by omega)
def BestRet (w : World) (b : List UInt8) (e : Ending) (w' : World) : Prop :=
  ∃ v, e = .returned (.tuple #[v, .int .i64 ((bestF (fun k => (packL b k).length) 3 : Nat) : Int)]) ∧ OB w' w.heap.size v (packL b (bestF (fun k => (packL b k).length) 3)).length (packL b (bestF (fun k => (packL b k).length) 3)) ∧ Below w.heap.size w w'
theorem packL_le (b : List UInt8) (k : Nat) (hb : b.length ≤ 20000) : (packL b k).length ≤ 10000000 := by
  have h1 := fixB_le b
  have h2 := dynB_le b (by omega)
  have h3 := packM_le b k
  unfold packM at h3
  split at h3
  · omega
  · split at h3 <;> omega
set_option maxRecDepth 100000 in
set_option maxHeartbeats 4000000 in
theorem best_any (w : World) (A : Option Addr) (n c : Nat) (L : List (List UInt8)) (hL : RBB w w.heap.size A n L) (hn : n ≤ 1000) (hb : L.flatten.length ≤ 20000) :
    Calls Tryz.prog 10 #[.slice A n c] w (BestRet w L.flatten) := by
  have hln := hide hL.1
  replace hL := hide hL
  obtain ⟨b, hbe⟩ : ∃ b, b = L.flatten := ⟨_, rfl⟩
  rw [← hbe] at hb ⊢
  replace hbe := hide hbe
  go_enter Tryz.func10, Tryz.ntmps10
  go_wp2_with fail
  go_loopw [4, 14] (fun v4 v14 wx => ∃ i : Nat, v14 = .int .i64 (i : Int) ∧ i ≤ n ∧ Hid (OB wx w.heap.size v4 (L.take i).flatten.length (L.take i).flatten) ∧ Hid (Below w.heap.size w wx)) (fun _ v14 _ => n - (intOf v14).toNat)
  case atStart => exact ⟨0, rfl, Nat.zero_le _, OB.nil _ _, Below.refl _ _⟩
  case round =>
    obtain ⟨i, rfl, hi, hO, hB⟩ := hrel
    have hbs := hB.out.size
    by_cases hlt : i < n
    · obtain ⟨ad, Ai, ci, rfl, h1, cE, hRi, h4, h5⟩ := (hL.out.below hB.out).2 i hlt
      have hft := flat_take L i (by have := hln.out; omega)
      have hfl := flat_le L (i + 1)
      rw [← hbe.out] at hfl
      have hRi' := hide hRi
      obtain ⟨Li, hLi⟩ : ∃ Li, Li = L.getD i [] := ⟨_, rfl⟩
      rw [← hLi] at cE hRi' hft
      have hsl : (L.take i).flatten.length + Li.length ≤ 20000 := by
        rw [hft, List.length_append] at hfl; omega
      obtain ⟨P, hP⟩ : ∃ P, P = (L.take i).flatten := ⟨_, rfl⟩
      rw [← hP] at hO hft hsl
      have hiI : (i : Int) < (n : Int) := by omega
      have hi0 : (0 : Int) ≤ (i : Int) := by omega
      obtain ⟨A4, c4, hv4, -⟩ := hO.out.form
      subst hv4
      replace hLi := hide hLi
      replace hP := hide hP
      replace hft := hide hft
      clear hRi h4 h5 hfl
      go_wp2_with (at_builtin; refine wpList_app_b rfl (.tmp 18) (.tmp 19) rfl w.heap.size _ P.length P hO.out rfl w.heap.size Ai Li.length ci Li rfl hRi'.out (by omega) hbs ?_; intro v2 w2 ho2 hb2 _ _; have hO2 := hide ho2; have hB2 := hide (hB.out.trans hb2); clear ho2 hb2)
      have hO3 : Hid (OB w2 w.heap.size v2 (L.take (i + 1)).flatten.length (L.take (i + 1)).flatten) := by
        rw [hft.out, List.length_append]; exact hO2.out
      go_roundw
      case rel => exact ⟨i + 1, by go_num, hlt, hO3, hB2⟩
      case measure => simp [intOf]; omega
    · obtain rfl : i = n := by omega
      generalize wr = w5 at *
      have hall : (L.take i).flatten = b := by rw [hbe.out, List.take_of_length_le (by have := hln.out; omega)]
      rw [hall] at hO
      obtain ⟨A4, c4, hv4, hRb, -, hc4, -⟩ := hO.out.form
      subst hv4
      have hB0 := hide hB.out
      have hpk : Hid (∀ (k : Nat) (wz : World), k ≤ 2 → Below w5.heap.size w5 wz → Calls Tryz.prog 6 #[.slice A4 b.length c4, .int .i64 (k : Int)] wz (PackRet wz (packL b k))) := fun k wz hk hz => packs_k k hk wz A4 b.length c4 b ((hRb.below hz).more hz.size) hc4 hb
      obtain ⟨f, hf⟩ : ∃ f, f = fun k => (packL b k).length := ⟨_, rfl⟩
      have hBR : Hid (∀ e w', (∃ v, e = .returned (.tuple #[v, .int .i64 ((bestF f 3 : Nat) : Int)]) ∧ OB w' w.heap.size v (packL b (bestF f 3)).length (packL b (bestF f 3)) ∧ Below w.heap.size w w') → BestRet w b e w') := fun e w' h => by
        unfold BestRet; rw [← hf]; exact h
      have hfk : Hid (∀ k, f k = (packL b k).length) := fun k => by rw [hf]
      replace hf := hide hf
      clear hRb hO hB
      go_wp2_with fail
      go_loopw [7, 8, 9] (fun v7 v8 v9 wx => ∃ k : Nat, v9 = .int .i64 (k : Int) ∧ v8 = .int .i64 ((bestF f k : Nat) : Int) ∧ k ≤ 3 ∧ Hid (Below w5.heap.size w5 wx) ∧ ((k = 0 ∧ v7 = .slice none 0 0) ∨ (1 ≤ k ∧ Hid (OB wx w5.heap.size v7 (packL b (bestF f k)).length (packL b (bestF f k)))))) (fun _ _ v9 _ => 3 - (intOf v9).toNat)
      case atStart => exact ⟨0, rfl, rfl, Nat.zero_le _, Below.refl _ _, .inl ⟨rfl, rfl⟩⟩
      case round =>
        obtain ⟨k, rfl, rfl, hk, hBk, hcase⟩ := hrel
        by_cases hlt3 : k < 3
        · have hp := hide (hpk.out k wr (by omega) hBk.out)
          have hkI : (k : Int) ≤ 2 := by omega
          have hk0 : (0 : Int) ≤ (k : Int) := by omega
          have hpl := packL_le b k (by omega)
          have hbl := packL_le b (bestF f k) (by omega)
          have hs5 := hBk.out.size
          have hstep : Hid (bestF f (k + 1) = if k = 0 then 0 else if f k < f (bestF f k) then k else bestF f k) := rfl
          rcases hcase with ⟨hk00, rfl⟩ | ⟨hk1, hO⟩
          · subst hk00
            clear hbl
            go_wp2_with fail
            refine hp.out.mono ?_
            rintro e w6 ⟨v6, rfl, hO6, hB6⟩
            have hB7 := hide (hBk.out.trans (hB6.mono hs5))
            have hO7 := hide (hO6.more hs5)
            clear hO6 hB6 hp
            go_wp2_with fail
            go_roundw
            case rel => exact ⟨1, rfl, rfl, by omega, hB7, .inr ⟨Nat.le_refl _, hO7⟩⟩
            case measure => simp [intOf]
          · have hkb : ((k : Int) == 0) = false := by rw [beq_eq_false_iff_ne]; omega
            have hfa := hfk.out k
            have hfb := hfk.out (bestF f k)
            obtain ⟨A7, c7, rfl, -, -, -, -⟩ := hO.out.form
            obtain ⟨H, hH⟩ : ∃ H, H = bestF f k := ⟨_, rfl⟩
            rw [← hH] at hO hfb hstep ⊢
            obtain ⟨X, hX⟩ : ∃ X, X = packL b H := ⟨_, rfl⟩
            rw [← hX] at hO hfb ⊢
            obtain ⟨Y, hY⟩ : ∃ Y, Y = packL b k := ⟨_, rfl⟩
            rw [← hY] at hp hfa
            replace hH := hide hH
            replace hX := hide hX
            replace hY := hide hY
            replace hfa := hide hfa
            replace hfb := hide hfb
            clear hbl hpl
            go_wp2_with fail
            refine hp.out.mono ?_
            rintro e w6 ⟨v6, rfl, hO6, hB6⟩
            obtain ⟨A6, c6, rfl, -, -, -, -⟩ := hO6.form
            have hB7 := hide (hBk.out.trans (hB6.mono hs5))
            have hO7 := hide (hO6.more hs5)
            have hO8 := hide (hO.out.below hB6 (Nat.le_refl _))
            clear hO6 hB6 hp hO
            by_cases hlt : Y.length < X.length
            · have hd : decide (Y.length < X.length) = true := decide_eq_true hlt
              have hst2 : Hid (bestF f (k + 1) = k) := by
                rw [Hid, hstep.out, if_neg (by omega), if_pos (by rw [hfa.out, hfb.out]; exact hlt)]
              replace hlt := hide hlt
              go_wp2_with fail
              go_roundw
              case rel => exact ⟨k + 1, by go_num, by rw [hst2.out], by omega, hB7, .inr ⟨by omega, by rw [hst2.out, ← hY.out]; exact hO7⟩⟩
              case measure => simp [intOf]; omega
            · have hd : decide (Y.length < X.length) = false := decide_eq_false hlt
              have hst2 : Hid (bestF f (k + 1) = H) := by
                rw [Hid, hstep.out, if_neg (by omega), if_neg (by rw [hfa.out, hfb.out]; exact hlt)]
              replace hlt := hide hlt
              go_wp2_with fail
              go_roundw
              case rel => exact ⟨k + 1, by go_num, by rw [hst2.out], by omega, hB7, .inr ⟨by omega, by rw [hst2.out, ← hX.out]; exact hO8⟩⟩
              case measure => simp [intOf]; omega
        · obtain rfl : k = 3 := by omega
          rcases hcase with ⟨hk00, _⟩ | ⟨hk1, hO⟩
          · omega
          · have hfin := hBR.out
            have hB9 := hide (hB0.out.trans (hBk.out.mono hB0.out.size))
            have hO9 := hide (hO.out.more hB0.out.size)
            obtain ⟨T, hT⟩ : ∃ T, T = bestF f 3 := ⟨_, rfl⟩
            rw [← hT] at hfin hO9 ⊢
            replace hT := hide hT
            replace hfin := hide hfin
            clear hO hpk hBR
            go_wp2_with fail
            go_ret2
            exact hfin.out _ _ ⟨_, rfl, hO9.out, hB9.out⟩
end Go.Proofs.YtbchaomnjbkdhaaGreat
namespace Go.Proofs.YtbchaomnjbkdhaaGreat
open Go.RowKit
set_option linter.unusedVariables false
end Go.Proofs.YtbchaomnjbkdhaaGreat
namespace Go.Proofs.YtbchaomnjbkdhaaGreat
open Go.RowKit
set_option linter.unusedVariables false
set_option maxRecDepth 100000 in
set_option maxHeartbeats 1000000 in
theorem sameB_any (w : World) (A B : Option Addr) (n c d : Nat) (l : List UInt8) (ha : RB w w.heap.size A n l) (hb : RB w w.heap.size B n l) (hn : n ≤ 100000000) :
    Calls Tryz.prog 9 #[.slice A n c, .slice B n d] w fun e w' => e = .returned (.bool true) ∧ Below w.heap.size w w' := by
  have hlen := hide ha.len
  replace ha := hide ha
  replace hb := hide hb
  go_enter Tryz.func9, Tryz.ntmps9
  go_wp2_with fail
  go_loopw [5] (fun i wr => ∃ k : Nat, k ≤ n ∧ i = .int .i64 k ∧ Below w.heap.size w wr) (fun i _ => n - (intOf i).toNat)
  case atStart => exact ⟨0, by omega, rfl, Below.refl _ _⟩
  case round =>
    obtain ⟨k, hk, rfl, hbl⟩ := hrel
    by_cases h1 : k < n
    · have hkl : k < l.length := by have := hlen.out; omega
      obtain ⟨ad, rfl, hab, c0⟩ := (ha.out.below hbl).elem h1 hkl
      obtain ⟨bd, rfl, hbb, d0⟩ := (hb.out.below hbl).elem h1 hkl
      generalize l[k] = x at *
      go_wp2_with fail
      go_quiet (fail)
      go_wp2_with fail
      go_roundw
      case rel => exact ⟨k + 1, by omega, by go_num, below_drewN hbl _⟩
      case measure => simp [intOf]; omega
    · go_wp2_with fail
      go_ret
      exact ⟨rfl, hbl⟩
theorem RB.six (w : World) (t : TypeId) : RB (w.alloc (.cells #[.int .u8 1, .int .u8 1, .int .u8 0, .int .u8 254, .int .u8 255, .int .u8 97] t)) (w.heap.size + 1) (some ⟨w.heap.size, 0, none⟩) 6 [1, 1, 0, 254, 255, 97] := by
  refine ⟨rfl, fun _ => ⟨_, rfl, Nat.lt_succ_self _, fun j u hj => ?_⟩⟩
  have hc := cell_of_row _ _ j _ t (0, 0) (heap_alloc_new w (.cells #[.int .u8 1, .int .u8 1, .int .u8 0, .int .u8 254, .int .u8 255, .int .u8 97] t))
  have e : (Addr.mk w.heap.size 0 none).add j = ⟨w.heap.size, j, none⟩ := by
    unfold Addr.add
    by_cases h0 : j = 0
    · subst h0; rfl
    · rw [if_neg h0]; simp
  rw [e, hc]
  have hv : bv [1, 1, 0, 254, 255, 97] = [.int .u8 1, .int .u8 1, .int .u8 0, .int .u8 254, .int .u8 255, .int .u8 97] := rfl
  rw [hv] at hj
  simpa using hj
set_option maxRecDepth 100000 in
set_option maxHeartbeats 1000000 in
theorem wakes07_any (w : World) : Calls Tryz.prog 5 #[] w fun e w' => e = .returned (.bool true) ∧ Below w.heap.size w w' := by
  have hst : Hid (storedS 2 [97] = [1, 1, 0, 254, 255, 97]) := by rw [Hid]; decide +kernel
  have hR : Hid (RB (w.alloc (.cells #[.int .u8 97] 5 (1, 2))) (w.alloc (.cells #[.int .u8 97] 5 (1, 2))).heap.size (some ⟨w.heap.size, 0, none⟩) 1 [97]) := by
    refine ⟨rfl, fun _ => ⟨_, rfl, by simp, fun j u hj => ?_⟩⟩
    match j, hj with
    | 0, hj =>
      have hc := cell_of_row _ _ 0 _ 5 (1, 2) (heap_alloc_new w (.cells #[.int .u8 97] 5 (1, 2)))
      rw [show (Addr.mk w.heap.size 0 none).add 0 = ⟨w.heap.size, 0, none⟩ from rfl, hc]
      simpa [bv] using hj
  have hb0 : Below w.heap.size w (w.alloc (.cells #[.int .u8 97] 5 (1, 2))) := (Below.refl _ _).alloc (Nat.le_refl _) _
  have kc := fun (wx : World) (C : Array Value) (n c : Nat) => Lib.run_convert_bytes_const (P := Tryz.prog) wx 22 5 C n c Tryz.underlying22 Tryz.underlying5
  go_enter Tryz.func5, Tryz.ntmps5
  go_wp2_with fail
  refine (pack_any _ _ 1 1 [97] hR.out (by omega) (by omega)).mono ?_
  rintro e w1 ⟨v1, rfl, ho1, hb1⟩
  rw [hst.out] at ho1
  obtain ⟨A1, c1, rfl, hR1, -, -, -⟩ := ho1.form
  have hb1' := hb0.trans (hb1.mono hb0.size)
  have hs1 := hb1'.size
  replace hR1 := hide hR1
  clear hb1 ho1 hR
  have h6 : Hid (RB (w1.alloc (.cells #[.int .u8 1, .int .u8 1, .int .u8 0, .int .u8 254, .int .u8 255, .int .u8 97] 5)) (w1.heap.size + 1) (some ⟨w1.heap.size, 0, none⟩) 6 [1, 1, 0, 254, 255, 97]) := RB.six w1 5
  go_wp2_with fail
  have hz : (w1.alloc (.cells #[.int .u8 1, .int .u8 1, .int .u8 0, .int .u8 254, .int .u8 255, .int .u8 97] 5)).heap.size = w1.heap.size + 1 := by simp
  refine (sameB_any _ A1 _ 6 c1 6 [1, 1, 0, 254, 255, 97] (by rw [hz]; exact (hR1.out.alloc (Nat.le_refl _) _).more (Nat.le_succ _)) (by rw [hz]; exact h6.out) (by omega)).mono ?_
  rintro e w2 ⟨rfl, hb2⟩
  have hb2' := (hb1'.alloc hs1 _).trans (hb2.mono (by rw [hz]; omega))
  go_wp2_with fail
  go_ret
  exact ⟨rfl, hb2'⟩
end Go.Proofs.YtbchaomnjbkdhaaGreat
namespace Go.Proofs.YtbchaomnjbkdhaaGreat
open Go.RowKit Go.Sort Go.Proofs
set_option linter.unusedVariables false
set_option maxRecDepth 100000 in
set_option maxHeartbeats 4000000 in
theorem deflateBest_walk (w : World) (A : Option Addr) (n c : Nat) (L : List (List UInt8)) (hL : RBB w w.heap.size A n L) (hnm : n ≤ maxLen) :
    Calls Tryz.prog 4 #[.slice A n c] w fun e w' => e = .returned (.bool true) ∧ Below w.heap.size w w' := by
  have hln := hide hL.1
  replace hL := hide hL
  unfold maxLen at hnm
  go_enter Tryz.func4, Tryz.ntmps4
  go_wp2_with fail
  refine (wakes07_any w).mono ?_
  rintro e w1 ⟨rfl, hb1⟩
  have hs1 := hb1.size
  replace hb1 := hide hb1
  by_cases h20 : n ≤ 20
  · go_wp2_with fail
    go_loopw [3, 20] (fun v3 v20 wx => ∃ i : Nat, v20 = .int .i64 (i : Int) ∧ i ≤ n ∧ (L.take i).flatten.length ≤ 200 * i ∧ Hid (OB wx w.heap.size v3 (L.take i).flatten.length (L.take i).flatten) ∧ Hid (Below w.heap.size w wx)) (fun _ v20 _ => n - (intOf v20).toNat)
    case atStart => exact ⟨0, rfl, Nat.zero_le _, by simp, OB.nil _ _, hb1⟩
    case round =>
      obtain ⟨i, rfl, hi, hle, hO, hB⟩ := hrel
      have hbs := hB.out.size
      by_cases hlt : i < n
      · obtain ⟨ad, Ai, ci, rfl, h1, cE, hRi, h4, h5⟩ := (hL.out.below hB.out).2 i hlt
        have hft := flat_take L i (by have := hln.out; omega)
        have hRi' := hide hRi
        obtain ⟨Li, hLi⟩ : ∃ Li, Li = L.getD i [] := ⟨_, rfl⟩
        rw [← hLi] at cE hRi' hft h4
        obtain ⟨P, hP⟩ : ∃ P, P = (L.take i).flatten := ⟨_, rfl⟩
        rw [← hP] at hO hft hle
        have hiI : (i : Int) < (n : Int) := by omega
        have hi0 : (0 : Int) ≤ (i : Int) := by omega
        unfold maxLen at h5
        obtain ⟨A4, c4, hv4, -⟩ := hO.out.form
        subst hv4
        replace hLi := hide hLi
        replace hP := hide hP
        replace hft := hide hft
        clear hRi
        by_cases h200 : Li.length ≤ 200
        · go_wp2_with (at_builtin; refine wpList_app_b rfl (.tmp 29) (.tmp 33) rfl w.heap.size _ P.length P hO.out rfl w.heap.size Ai Li.length ci Li rfl hRi'.out (by omega) hbs ?_; intro v2 w2 ho2 hb2 _ _; have hO2 := hide ho2; have hB2 := hide (hB.out.trans hb2); clear ho2 hb2)
          have hO3 : Hid (OB w2 w.heap.size v2 (L.take (i + 1)).flatten.length (L.take (i + 1)).flatten) := by
            rw [hft.out, List.length_append]; exact hO2.out
          have hle3 : (L.take (i + 1)).flatten.length ≤ 200 * (i + 1) := by
            rw [hft.out, List.length_append]; omega
          go_roundw
          case rel => exact ⟨i + 1, by go_num, hlt, hle3, hO3, hB2⟩
          case measure => simp [intOf]; omega
        · go_wp2_with fail
          go_ret
          exact ⟨rfl, hB.out⟩
      · obtain rfl : i = n := by omega
        have hall : (L.take i).flatten = L.flatten := by rw [List.take_of_length_le (by have := hln.out; omega)]
        rw [hall] at hO hle
        have hLr := (hL.out.below hB.out).more hbs
        have hbst := hide (best_any wr A i c L hLr (by omega) (by omega))
        obtain ⟨A3, c3, hv3, hR3, -, hc3, -⟩ := hO.out.form
        subst hv3
        obtain ⟨b, hbe⟩ : ∃ b, b = L.flatten := ⟨_, rfl⟩
        rw [← hbe] at hO hle hbst hR3 hc3 ⊢
        have hb4 : b.length ≤ 4000 := by omega
        replace hR3 := hide hR3
        replace hbe := hide hbe
        obtain ⟨f, hf⟩ : ∃ f, f = fun k => (packL b k).length := ⟨_, rfl⟩
        have hmn : Hid (∀ k, k < 3 → f (bestF f 3) ≤ f k ∧ (k < bestF f 3 → f (bestF f 3) < f k)) := fun k hk => bestF_min f 3 k hk
        have hh3 : bestF f 3 ≤ 3 := bestF_le f 3
        have hh2 : Hid (bestF f 3 < 3) := by
          have : bestF f 3 = if f 2 < f (bestF f 2) then 2 else bestF f 2 := rfl
          have := bestF_le f 2
          show _ < 3
          split at * <;> omega
        have hfk : Hid (∀ k, f k = (packL b k).length) := fun k => by rw [hf]
        unfold BestRet at hbst
        rw [← hf] at hbst
        generalize bestF f 3 = H at *
        replace hf := hide hf
        generalize wr = w5 at *
        clear hLr hall hO hle
        go_wp2_with fail
        refine hbst.out.mono ?_
        rintro e w6 ⟨vp, rfl, hOp, hB6⟩
        obtain ⟨Ap, cp, rfl, hRp, -, hcp, -⟩ := hOp.form
        have hBp := hide (hB.out.trans (hB6.mono hbs))
        have hRp' := hide hRp
        have hR6 := hide ((hR3.out.below hB6).more hB6.size)
        obtain ⟨X, hX⟩ : ∃ X, X = packL b H := ⟨_, rfl⟩
        rw [← hX] at hRp' hcp ⊢
        have hXl : X.length ≤ 10000000 := by rw [hX]; exact packL_le b H (by omega)
        have hfX := hfk.out H
        rw [← hX] at hfX
        replace hX := hide hX
        replace hfX := hide hfX
        clear hOp hRp hB6 hbst
        go_wp2_with fail
        go_loopw [41] (fun v41 wx => ∃ k : Nat, v41 = .int .i64 (k : Int) ∧ k ≤ 3 ∧ Hid (Below w6.heap.size w6 wx)) (fun v41 _ => 3 - (intOf v41).toNat)
        case atStart => exact ⟨0, rfl, Nat.zero_le _, Below.refl _ _⟩
        case round =>
          obtain ⟨k, rfl, hk, hBk⟩ := hrel
          have hsk := hBk.out.size
          by_cases hlt3 : k < 3
          · have hp := hide (packs_k k (by omega) wr A3 b.length c3 b ((hR6.out.below hBk.out).more hsk) hc3 (by omega))
            obtain ⟨m1, m2⟩ := hmn.out k hlt3
            have hfY := hfk.out k
            obtain ⟨Y, hY⟩ : ∃ Y, Y = packL b k := ⟨_, rfl⟩
            rw [← hY] at hp hfY
            have hYl : Y.length ≤ 10000000 := by rw [hY]; exact packL_le b k (by omega)
            have hd1 : decide (Y.length < X.length) = false := by
              rw [decide_eq_false_iff_not, ← hfY, ← hfX.out]; omega
            have hkI : (k : Int) < 3 := by omega
            replace hY := hide hY
            replace m1 := hide m1
            replace m2 := hide m2
            replace hfY := hide hfY
            go_wp2_with fail
            refine hp.out.mono ?_
            rintro e w7 ⟨vq, rfl, hOq, hB7⟩
            obtain ⟨Aq, cq, rfl, hRq, -, hcq, -⟩ := hOq.form
            have hB8 := hide (hBk.out.trans (hB7.mono hsk))
            have hR8 := hide ((hRp'.out.below hB8.out).more hB8.out.size)
            replace hRq := hide hRq
            clear hOq hB7 hp
            rcases Nat.lt_trichotomy k H with hkH | hkH | hkH
            · have m3 := m2.out hkH
              have hlne : ((Y.length : Int) == (X.length : Int)) = false := by
                rw [beq_eq_false_iff_ne]
                have h8 := hfY.out
                have h9 := hfX.out
                omega
              have hkH1 : (k : Int) < (H : Int) := by omega
              have hkH2 : ((k : Int) == (H : Int)) = false := by rw [beq_eq_false_iff_ne]; omega
              replace m3 := hide m3
              replace hkH := hide hkH
              go_wp2_with fail
              go_roundw
              case rel => exact ⟨k + 1, by go_num, hlt3, hB8⟩
              case measure => simp [intOf]; omega
            · have hXY : Y = X := by rw [hY.out, hX.out, hkH]
              subst hXY
              have hsm := hide (sameB_any w7 Ap Aq Y.length cp cq Y hR8.out hRq.out (by omega))
              have hkH1 : ¬ (k : Int) < (H : Int) := by omega
              have hkH2 : ((k : Int) == (H : Int)) = true := by rw [beq_iff_eq]; omega
              replace hkH := hide hkH
              go_wp2_with fail
              refine hsm.out.mono ?_
              rintro e w8 ⟨rfl, hb8⟩
              have hB9 := hide (hB8.out.trans (hb8.mono hB8.out.size))
              clear hsm hb8
              go_wp2_with fail
              go_roundw
              case rel => exact ⟨k + 1, by go_num, hlt3, hB9⟩
              case measure => simp [intOf]; omega
            · have hkH1 : ¬ (k : Int) < (H : Int) := by omega
              have hkH2 : ((k : Int) == (H : Int)) = false := by rw [beq_eq_false_iff_ne]; omega
              replace hkH := hide hkH
              go_wp2_with fail
              go_roundw
              case rel => exact ⟨k + 1, by go_num, hlt3, hB8⟩
              case measure => simp [intOf]; omega
          · have hBw := hide (hBp.out.trans (hBk.out.mono hBp.out.size))
            have hRx := (hRp'.out.below hBk.out).more hsk
            obtain ⟨nn, its, ls, ds, mh, hC⟩ := packC b (by omega) H (by have := hh2.out; omega)
            rw [← hX.out] at hC
            have hal := all_any wr Ap X.length cp X b H nn its ls ds (packM b H) mh hRx hC (by omega)
            have hml := packM_le b H
            rw [← hX.out] at hml
            have hRb := hide ((hR6.out.below hBk.out).more hsk)
            replace hal := hide hal
            clear hRx hC hlt
            obtain rfl : k = 3 := by omega
            go_wp2_with fail
            refine hal.out.mono ?_
            rintro e w9 ⟨hb9, ⟨hmm, v9, rfl, hO9⟩ | ⟨hmm, _⟩⟩
            · obtain ⟨A9, c9, rfl, hR9, -, hc9, -⟩ := hO9.form
              have hsm := hide (sameB_any w9 A9 A3 b.length c9 c3 b hR9 ((hRb.out.below hb9).more hb9.size) (by omega))
              have hBz := hide (hBw.out.trans (hb9.mono hBw.out.size))
              obtain ⟨D, hD⟩ : ∃ D, D = X.length - (8 * X.length - packM b H) / 8 := ⟨_, rfl⟩
              rw [← hD]
              replace hD := hide hD
              clear hO9 hR9 hb9 hal hml hmm
              go_wp2_with fail
              refine hsm.out.mono ?_
              rintro e wa ⟨rfl, hba⟩
              have hBy := hBz.out.trans (hba.mono hBz.out.size)
              clear hba hsm
              go_wp2_with fail
              go_ret
              exact ⟨rfl, hBy⟩
            · exact absurd hml.1 hmm
  · go_wp2_with fail
    go_ret
    exact ⟨rfl, hb1.out⟩
end Go.Proofs.YtbchaomnjbkdhaaGreat
