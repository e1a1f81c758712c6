/-
  What Pack makes, in each of its ways, is what the unpacker takes.
-/
import Derived.Test.YtbchaomnjbkdhaaGreatEZ
import Derived.Test.YtbchaomnjbkdhaaGreatEPackD
import Derived.Test.YtbchaomnjbkdhaaGreatEA
import Derived.Test.YtbchaomnjbkdhaaGreatEPack
import Derived.Lib.SlBytesConst
namespace Go.Proofs.YtbchaomnjbkdhaaGreat
open Go.RowKit Go.Sort Go.Proofs
set_option linter.unusedVariables false
/-- Bytes in each way. -/
def packL (b : List UInt8) (k : Nat) : List UInt8 := if k = 0 then headS b.length 1 ++ b else if k = 1 then (stB (fixB b)).1 else (stB (dynB b)).1
/-- How many bits these are. -/
def packM (b : List UInt8) (k : Nat) : Nat := if k = 0 then 40 + 8 * b.length else if k = 1 then (fixB b).length else (dynB b).length
theorem HeadK.prefix {l r : List UInt8} {K n : Nat} {its : List Item} {m : Nat} (h : HeadK (l ++ r) K n its m) : HeadK l K n its m := by
  rcases h with ⟨a, b, c, d⟩ | h | ⟨a, b, c, d⟩
  · exact .inl ⟨a, b, c.prefix, d⟩
  · exact .inr (.inl h)
  · exact .inr (.inr ⟨a, b, c.prefix, d⟩)
/-- What is cut off its end is taken as far as it goes. -/
theorem StepC.prefix {l r b : List UInt8} {K n : Nat} {its : List Item} {ls ds : List Nat} {m mh : Nat} (h : StepC (l ++ r) b K n its ls ds m mh) : StepC l b K n its ls ds m mh :=
  ⟨h.head.prefix, h.agr0.prefix, fun k => ⟨(h.st k).1, (h.st k).2.1, (h.st k).2.2.prefix⟩, fun k => ⟨⟨(h.co k).1.rest, (h.co k).1.far, (h.co k).1.ok, (h.co k).1.agr.prefix, (h.co k).1.len⟩, (h.co k).2⟩, h.c1, h.c2, by have := h.hl; rw [List.length_append] at this; omega, h.hb, h.mm⟩
theorem fixed_288 : fixedLits.length = 288 := by simp only [fixedLits, List.length_append, List.length_replicate]
theorem fixed_32 : fixedD32.length = 32 := by simp only [fixedD32, List.length_replicate]
theorem packC (b : List UInt8) (hb : b.length ≤ 20000) (k : Nat) (hk : k ≤ 2) : ∃ (n : Nat) (its : List Item) (ls ds : List Nat) (mh : Nat), StepC (packL b k) b k n its ls ds (packM b k) mh := by
  have hil := items_len b
  have hio : ∀ x ∈ itemsL b, okI x := items_ok b _ _
  match k, hk with
  | 0, _ =>
    have hs := stored_bits b (by omega)
    have hp : packL b 0 = headS b.length 1 ++ b := rfl
    have hm : packM b 0 = 40 + 8 * b.length := rfl
    rw [hp, hm]
    refine ⟨b.length, [], [], [], 40, .inl ⟨rfl, by omega, ?_, rfl⟩, ?_, fun _ => ⟨rfl, rfl, ?_⟩, fun h => absurd rfl h, (fun h => by cases h), (fun h => by cases h), ?_, by omega, by omega⟩
    · exact Agr.of_split (P := loB 8 1) (R := bytesB b) (by rw [hs, List.append_assoc]) rfl
    · exact Agr.of_split (P := []) (R := loB 5 0 ++ (loB 16 b.length ++ (loB 16 (65535 - b.length) ++ bytesB b))) (by rw [hs]; rfl) rfl
    · exact Agr.of_split (P := loB 8 1 ++ (loB 16 b.length ++ loB 16 (65535 - b.length))) (R := []) (by rw [hs, List.append_nil, List.append_assoc, List.append_assoc]) (by rw [List.length_append, List.length_append, loB_len, loB_len, loB_len])
    · rw [List.length_append]; show 5 + _ ≤ _; omega
  | 1, _ =>
    have hp : packL b 1 = (stB (fixB b)).1 := rfl
    have hm : packM b 1 = (fixB b).length := rfl
    have hs := bytes_stB (fixB b) (fixB_two b)
    have hle := fixB_le b
    have hsl := stB_len (fixB b)
    rw [hp, hm]
    have hE : encL fixedLits fixedDist (itemsL b) = (itemsL b).flatMap (encIt fixedLits fixedD32) ++ encS fixedLits 256 := by
      unfold encL
      congr 1
      rw [List.flatMap_def, List.flatMap_def]
      congr 1
      apply List.map_congr_left
      intro x hx
      by_cases hf : x.far = 0
      · rw [enc_lit hf, enc_lit hf]
      · rw [enc_copy hf, enc_copy hf, d32_same _ (by have := (copy_ok x (hio x hx) hf).f29; omega)]
    have hfix : fixB b = (loB 1 1 ++ loB 2 1) ++ ((itemsL b).flatMap (encIt fixedLits fixedD32) ++ encS fixedLits 256) := by rw [fixB, hE]
    have hl3 : (loB 1 1 ++ loB 2 1).length = 3 := rfl
    obtain ⟨Z, hZ⟩ : ∃ Z, Z = List.replicate (padN (fixB b).length) 0 := ⟨_, rfl⟩
    rw [← hZ] at hs
    have hs2 : bytesB (stB (fixB b)).1 = (loB 1 1 ++ loB 2 1) ++ (((itemsL b).flatMap (encIt fixedLits fixedD32) ++ encS fixedLits 256) ++ Z) := by
      rw [hs, ← List.append_assoc, ← hfix]
    refine ⟨0, itemsL b, fixedLits, fixedD32, 3, .inr (.inl ⟨rfl, rfl⟩), ?_, (fun h => by cases h), fun _ => ⟨⟨put_all b, far_all b, fun x hx => ⟨hio x hx, ⟨fixed_used _ (by have := lit_286 x (hio x hx); omega), fun hf => ?_⟩, ?_, fun hf => ?_⟩, ?_, ?_⟩, lits_code, d32_code, (by rw [fixed_288]; omega), fixed_used 256 (by omega)⟩, fun _ => ⟨rfl, rfl⟩, (fun h => by cases h), by omega, by omega, ?_⟩
    · exact Agr.of_split (P := []) (hs2.trans (List.nil_append _).symm) List.length_nil
    · have := (copy_ok x (hio x hx) hf).f29
      have e : fixedD32.getD (farP x).symbol 0 = 5 := by
        rw [fixedD32, List.getD_eq_getElem?_getD, List.getElem?_replicate, if_pos (by omega)]; rfl
      omega
    · rw [fixed_288]; have := lit_286 x (hio x hx); omega
    · rw [fixed_32]; have := (copy_ok x (hio x hx) hf).f29; omega
    · exact Agr.of_split hs2 hl3
    · have h9 := congrArg List.length hfix
      rw [List.length_append, hl3] at h9; exact h9.symm
    · have h9 := congrArg List.length hfix
      rw [List.length_append, hl3] at h9; omega
  | 2, _ =>
    have hp : packL b 2 = (stB (dynB b)).1 := rfl
    have hm : packM b 2 = (dynB b).length := rfl
    have hs := bytes_stB (dynB b) (dynB_two b)
    have hle := dynB_le b (by omega)
    have hsl := stB_len (dynB b)
    have hH := head_ok (itemsL b) (by omega) hio
    rw [hp, hm]
    have hdyn : dynB b = (loB 1 1 ++ loB 2 2) ++ (headB (itemsL b) ++ ((itemsL b).flatMap (encIt (litsL (itemsL b)) (distL (itemsL b))) ++ encS (litsL (itemsL b)) 256)) := by
      rw [dynB, List.append_assoc, encL]
    have hl3 : (loB 1 1 ++ loB 2 2).length = 3 := rfl
    generalize hZ : List.replicate (padN (dynB b).length) 0 = Z at hs
    generalize hCe : (itemsL b).flatMap (encIt (litsL (itemsL b)) (distL (itemsL b))) ++ encS (litsL (itemsL b)) 256 = C at *
    have hs2 : bytesB (stB (dynB b)).1 = (loB 1 1 ++ loB 2 2) ++ (headB (itemsL b) ++ (C ++ Z)) := by
      rw [hs, hdyn]
      simp only [List.append_assoc]
    refine ⟨0, itemsL b, litsL (itemsL b), distL (itemsL b), 3 + (headB (itemsL b)).length, .inr (.inr ⟨rfl, hH, ?_, rfl⟩), ?_, (fun h => by cases h), fun _ => ⟨⟨put_all b, far_all b, fun x hx => ⟨hio x hx, hH.used x hx, ?_, fun hf => ?_⟩, ?_, ?_⟩, hH.okl, hH.okd, by have := hH.ll1; omega, hH.end_⟩, (fun h => by cases h), fun _ => ⟨rfl, rfl⟩, by omega, by omega, ?_⟩
    · exact Agr.of_split hs2 hl3
    · exact Agr.of_split (P := []) (hs2.trans (List.nil_append _).symm) List.length_nil
    · have := (hH.used x hx).lit; exact pos_lt (by omega)
    · have := (hH.used x hx).far hf; exact pos_lt (by omega)
    · rw [hCe]; exact Agr.of_split (P := (loB 1 1 ++ loB 2 2) ++ headB (itemsL b)) (R := Z) (hs2.trans (List.append_assoc _ _ _).symm) (by rw [List.length_append, hl3])
    · have h9 := congrArg List.length hdyn
      rw [List.length_append, hl3, List.length_append] at h9
      rw [hCe]; omega
    · have h9 := congrArg List.length hdyn
      rw [List.length_append, hl3, List.length_append] at h9; omega
theorem packM_le (b : List UInt8) (k : Nat) : packM b k ≤ 8 * (packL b k).length ∧ 8 * (packL b k).length < packM b k + 8 := by
  unfold packM packL
  by_cases h0 : k = 0
  · rw [if_pos h0, if_pos h0, List.length_append, headS_len]; omega
  · rw [if_neg h0, if_neg h0]
    by_cases h1 : k = 1
    · rw [if_pos h1, if_pos h1, stB_len]; omega
    · rw [if_neg h1, if_neg h1, stB_len]; omega
end Go.Proofs.YtbchaomnjbkdhaaGreat
namespace Go.Proofs.YtbchaomnjbkdhaaGreat
open Go.RowKit Go.Sort Go.Proofs
set_option linter.unusedVariables false
/-- Bytes and bytes. -/
def RBB (w : World) (B : Nat) (A : Option Addr) (n : Nat) (L : List (List UInt8)) : Prop :=
  L.length = n ∧ ∀ i, i < n → ∃ ad Ai ci, A = some ad ∧ ad.block < B ∧ w.cell? (ad.add i) = some (.slice Ai (L.getD i []).length ci) ∧ RB w B Ai (L.getD i []).length (L.getD i []) ∧ (L.getD i []).length ≤ ci ∧ ci ≤ maxLen
theorem RBB.below {w w' : World} {B n : Nat} {A : Option Addr} {L : List (List UInt8)} (h : RBB w B A n L) (hb : Below B w w') : RBB w' B A n L :=
  ⟨h.1, fun i hi => by
    obtain ⟨ad, Ai, ci, e, h1, h2, h3, h4⟩ := h.2 i hi
    exact ⟨ad, Ai, ci, e, h1, (hb.cell (by rw [block_of_add]; exact h1)).trans h2, h3.below hb, h4⟩⟩
theorem RBB.more {w : World} {B B' n : Nat} {A : Option Addr} {L : List (List UInt8)} (h : RBB w B A n L) (hb : B ≤ B') : RBB w B' A n L :=
  ⟨h.1, fun i hi => by
    obtain ⟨ad, Ai, ci, e, h1, h2, h3, h4⟩ := h.2 i hi
    exact ⟨ad, Ai, ci, e, by omega, h2, h3.more hb, h4⟩⟩
/-- Pack, in any way. -/
theorem packs_k (k : Nat) (hk : k ≤ 2) (w : World) (A : Option Addr) (n c : Nat) (b : List UInt8) (hb : RB w w.heap.size A n b) (hnc : n ≤ c) (hn : n ≤ 20000) :
    Calls Tryz.prog 6 #[.slice A n c, .int .i64 (k : Int)] w (PackRet w (packL b k)) := by
  have hl := hb.len
  match k, hk with
  | 0, _ =>
    have := pack_any w A n c b hb hnc (by omega)
    rw [storedS_last _ _ (by omega)] at this
    exact this
  | 1, _ => exact packF_any w A n c b hb hnc (by omega)
  | 2, _ => exact packD_any w A n c b hb hnc (by omega)
end Go.Proofs.YtbchaomnjbkdhaaGreat
namespace Go.Proofs.YtbchaomnjbkdhaaGreat
open Go.RowKit
set_option linter.unusedVariables false
end Go.Proofs.YtbchaomnjbkdhaaGreat
namespace Go.Proofs.YtbchaomnjbkdhaaGreat
open Go.RowKit
set_option linter.unusedVariables false
set_option maxRecDepth 100000 in
set_option maxHeartbeats 1000000 in
theorem sameB_any (w : World) (A B : Option Addr) (n c d : Nat) (l : List UInt8) (ha : RB w w.heap.size A n l) (hb : RB w w.heap.size B n l) (hn : n ≤ 100000000) :
    Calls Tryz.prog 9 #[.slice A n c, .slice B n d] w fun e w' => e = .returned (.bool true) ∧ Below w.heap.size w w' := by
  have hlen := hide ha.len
  replace ha := hide ha
  replace hb := hide hb
  go_enter Tryz.func9, Tryz.ntmps9
  go_wp2_with fail
  go_loopw [5] (fun i wr => ∃ k : Nat, k ≤ n ∧ i = .int .i64 k ∧ Below w.heap.size w wr) (fun i _ => n - (intOf i).toNat)
  case atStart => exact ⟨0, by omega, rfl, Below.refl _ _⟩
  case round =>
    obtain ⟨k, hk, rfl, hbl⟩ := hrel
    by_cases h1 : k < n
    · have hkl : k < l.length := by have := hlen.out; omega
      obtain ⟨ad, rfl, hab, c0⟩ := (ha.out.below hbl).elem h1 hkl
      obtain ⟨bd, rfl, hbb, d0⟩ := (hb.out.below hbl).elem h1 hkl
      generalize l[k] = x at *
      go_wp2_with fail
      go_quiet (fail)
      go_wp2_with fail
      go_roundw
      case rel => exact ⟨k + 1, by omega, by go_num, below_drewN hbl _⟩
      case measure => simp [intOf]; omega
    · go_wp2_with fail
      go_ret
      exact ⟨rfl, hbl⟩
theorem RB.six (w : World) (t : TypeId) : RB (w.alloc (.cells #[.int .u8 1, .int .u8 1, .int .u8 0, .int .u8 254, .int .u8 255, .int .u8 97] t)) (w.heap.size + 1) (some ⟨w.heap.size, 0, none⟩) 6 [1, 1, 0, 254, 255, 97] := by
  refine ⟨rfl, fun _ => ⟨_, rfl, Nat.lt_succ_self _, fun j u hj => ?_⟩⟩
  have hc := cell_of_row _ _ j _ t (0, 0) (heap_alloc_new w (.cells #[.int .u8 1, .int .u8 1, .int .u8 0, .int .u8 254, .int .u8 255, .int .u8 97] t))
  have e : (Addr.mk w.heap.size 0 none).add j = ⟨w.heap.size, j, none⟩ := by
    unfold Addr.add
    by_cases h0 : j = 0
    · subst h0; rfl
    · rw [if_neg h0]; simp
  rw [e, hc]
  have hv : bv [1, 1, 0, 254, 255, 97] = [.int .u8 1, .int .u8 1, .int .u8 0, .int .u8 254, .int .u8 255, .int .u8 97] := rfl
  rw [hv] at hj
  simpa using hj
set_option maxRecDepth 100000 in
set_option maxHeartbeats 1000000 in
theorem wakes07_any (w : World) : Calls Tryz.prog 5 #[] w fun e w' => e = .returned (.bool true) ∧ Below w.heap.size w w' := by
  have hst : Hid (storedS 2 [97] = [1, 1, 0, 254, 255, 97]) := by rw [Hid]; decide +kernel
  have hR : Hid (RB (w.alloc (.cells #[.int .u8 97] 5 (1, 2))) (w.alloc (.cells #[.int .u8 97] 5 (1, 2))).heap.size (some ⟨w.heap.size, 0, none⟩) 1 [97]) := by
    refine ⟨rfl, fun _ => ⟨_, rfl, by simp, fun j u hj => ?_⟩⟩
    match j, hj with
    | 0, hj =>
      have hc := cell_of_row _ _ 0 _ 5 (1, 2) (heap_alloc_new w (.cells #[.int .u8 97] 5 (1, 2)))
      rw [show (Addr.mk w.heap.size 0 none).add 0 = ⟨w.heap.size, 0, none⟩ from rfl, hc]
      simpa [bv] using hj
  have hb0 : Below w.heap.size w (w.alloc (.cells #[.int .u8 97] 5 (1, 2))) := (Below.refl _ _).alloc (Nat.le_refl _) _
  have kc := fun (wx : World) (C : Array Value) (n c : Nat) => Lib.run_convert_bytes_const (P := Tryz.prog) wx 22 5 C n c Tryz.underlying22 Tryz.underlying5
  go_enter Tryz.func5, Tryz.ntmps5
  go_wp2_with fail
  refine (pack_any _ _ 1 1 [97] hR.out (by omega) (by omega)).mono ?_
  rintro e w1 ⟨v1, rfl, ho1, hb1⟩
  rw [hst.out] at ho1
  obtain ⟨A1, c1, rfl, hR1, -, -, -⟩ := ho1.form
  have hb1' := hb0.trans (hb1.mono hb0.size)
  have hs1 := hb1'.size
  replace hR1 := hide hR1
  clear hb1 ho1 hR
  have h6 : Hid (RB (w1.alloc (.cells #[.int .u8 1, .int .u8 1, .int .u8 0, .int .u8 254, .int .u8 255, .int .u8 97] 5)) (w1.heap.size + 1) (some ⟨w1.heap.size, 0, none⟩) 6 [1, 1, 0, 254, 255, 97]) := RB.six w1 5
  go_wp2_with fail
  have hz : (w1.alloc (.cells #[.int .u8 1, .int .u8 1, .int .u8 0, .int .u8 254, .int .u8 255, .int .u8 97] 5)).heap.size = w1.heap.size + 1 := by simp
  refine (sameB_any _ A1 _ 6 c1 6 [1, 1, 0, 254, 255, 97] (by rw [hz]; exact (hR1.out.alloc (Nat.le_refl _) _).more (Nat.le_succ _)) (by rw [hz]; exact h6.out) (by omega)).mono ?_
  rintro e w2 ⟨rfl, hb2⟩
  have hb2' := (hb1'.alloc hs1 _).trans (hb2.mono (by rw [hz]; omega))
  go_wp2_with fail
  go_ret
  exact ⟨rfl, hb2'⟩
end Go.Proofs.YtbchaomnjbkdhaaGreat
