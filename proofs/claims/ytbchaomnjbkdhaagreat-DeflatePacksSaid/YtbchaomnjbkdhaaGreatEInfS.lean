/-
  The unpacker's steps.
-/
import Derived.Test.YtbchaomnjbkdhaaGreatEInfC
import Derived.Test.YtbchaomnjbkdhaaGreatEInfJ
import Derived.Test.YtbchaomnjbkdhaaGreatEA
import Derived.Test.YtbchaomnjbkdhaaGreatEB
namespace Go.Proofs.YtbchaomnjbkdhaaGreat
open Go.RowKit Go.Sort Go.Proofs
set_option linter.unusedVariables false
/-- What is packed in these bytes, and how. -/
structure StepC (l b : List UInt8) (K n : Nat) (its : List Item) (ls ds : List Nat) (m mh : Nat) : Prop where
  head : HeadK l K n its mh
  agr0 : Agr l 0 (loB 1 1 ++ loB 2 K)
  st : K = 0 → n = b.length ∧ m = 40 + 8 * n ∧ Agr l 40 (bytesB b)
  co : K ≠ 0 → Coded l b ls ds m its [] mh ∧ codeOk ls ∧ codeOk ds ∧ 256 < ls.length ∧ 1 ≤ ls.getD 256 0
  c1 : K = 1 → ls = fixedLits ∧ ds = fixedD32
  c2 : K = 2 → ls = litsL its ∧ ds = distL its
  hl : l.length ≤ 10000000
  hb : b.length ≤ 1000000
  mm : mh ≤ m
/-- How far it is. -/
def StepQ (wx : World) (B : Nat) (l b : List UInt8) (K n : Nat) (its : List Item) (ls ds : List Nat) (m : Nat) (p : Nat) (out : List UInt8) (st : Nat) (last : Bool) (left back : Nat) (pl pd : Value) (mu : Nat) : Prop :=
  (st = 0 ∧ last = false ∧ p = 0 ∧ out = [] ∧ mu = muC its + n + 4) ∨
  (K = 0 ∧ st = 1 ∧ last = true ∧ ∃ j, j ≤ n ∧ out = b.take j ∧ left = n - j ∧ p = 40 + 8 * j ∧ mu = 3 + (n - j)) ∨
  (K ≠ 0 ∧ st = 2 ∧ last = true ∧ ∃ xs gl gd, Coded l b ls ds m xs out p ∧ pl = .pointer (some ⟨gl, 0, none⟩) ∧ pd = .pointer (some ⟨gd, 0, none⟩) ∧ CodeAt wx B gl ls ∧ CodeAt wx B gd ds ∧ mu = muC xs) ∨
  (K ≠ 0 ∧ st = 3 ∧ last = true ∧ 1 ≤ back ∧ back ≤ out.length ∧ ∃ xs gl gd, Coded l b ls ds m xs (copyN back left out) p ∧ pl = .pointer (some ⟨gl, 0, none⟩) ∧ pd = .pointer (some ⟨gd, 0, none⟩) ∧ CodeAt wx B gl ls ∧ CodeAt wx B gd ds ∧ mu = muC xs + left + 1) ∨
  (st = 0 ∧ last = true ∧ out = b ∧ p = m ∧ mu = 2) ∨
  (st = 4 ∧ last = true ∧ out = b ∧ p = m ∧ mu = 1)
/-- A byte came out. -/
def EmS (w : World) (B gr gb : Nat) (vb vo : Value) (l : List UInt8) (p : Nat) (out : List UInt8) (st : Nat) (last : Bool) (left back : Nat) (pl pd : Value) (w' : World) : Prop :=
  ∃ vo', Mach w' B gr gb vb vo' l p out 0 st last left back pl pd ∧ Only (SM gr gb vo) w w' ∧ (∀ k, vo'.ownBlock = some k → vo.ownBlock = some k ∨ w.heap.size ≤ k)
theorem emit_m (w : World) (B gr gb : Nat) (vb vo : Value) (l : List UInt8) (p : Nat) (out : List UInt8) (st : Nat) (last : Bool) (left back : Nat) (pl pd : Value) (c : UInt8) (h : Mach w B gr gb vb vo l p out 0 st last left back pl pd) (hB : B ≤ w.heap.size) (ho : out.length ≤ 10000000) :
    Calls Tryz.prog 69 #[.pointer (some ⟨gr, 0, none⟩), .int .u8 (c.toNat : Int)] w fun e w' => e = .returned (.tuple #[]) ∧ EmS w B gr gb vb vo l p (out ++ [c]) st last left back pl pd w' := by
  refine (emit_any w gr out.length vo _ out c h.rd rfl (h.ou.more (Nat.zero_le _)) ho).mono ?_
  rintro e w3 ⟨rfl, vo', hr', ho', hO4, hk'⟩
  exact ⟨rfl, vo', h.emit hB hr' ho' hO4 hk', hO4.mono fun _ _ h => h.elim .inl fun h => .inr (.inr h), hk'⟩
/-- The symbol that comes next, and what it leaves. -/
theorem coded_sym (B : Nat) (l b : List UInt8) (K n : Nat) (its : List Item) (ls ds : List Nat) (m p : Nat) (out : List UInt8) (left back : Nat) (xs : List Item) (hK : K ≠ 0) (hCo : Coded l b ls ds m xs out p) (h256 : 256 < ls.length) (h1 : 1 ≤ ls.getD 256 0) :
    ∃ s F out' st' left' back', SymK ds out 2 left back s F out' st' left' back' ∧ s < ls.length ∧ 1 ≤ ls.getD s 0 ∧ Agr l p (encS ls s ++ F) ∧ p + (ls.getD s 0 + F.length) ≤ m ∧ out'.length ≤ b.length ∧
      ∀ (wy : World) (gl gd : Nat), CodeAt wy B gl ls → CodeAt wy B gd ds → ∃ mu', mu' < muC xs ∧ StepQ wy B l b K n its ls ds m (p + (ls.getD s 0 + F.length)) out' st' true left' back' (.pointer (some ⟨gl, 0, none⟩)) (.pointer (some ⟨gd, 0, none⟩)) mu' := by
  cases xs with
  | nil =>
    have hl := hCo.len
    have ha := hCo.agr
    rw [List.flatMap_nil, List.nil_append] at hl ha
    rw [encS_len] at hl
    have hr : out = b := hCo.rest
    refine ⟨256, [], out, 0, left, back, .inr (.inl ⟨rfl, rfl, rfl, rfl, rfl, rfl⟩), h256, h1, by rw [List.append_nil]; exact ha, by rw [List.length_nil]; omega, hCo.le, fun wy gl gd _ _ => ⟨2, by unfold muC; simp, ?_⟩⟩
    exact .inr (.inr (.inr (.inr (.inl ⟨rfl, rfl, hr, by rw [List.length_nil]; omega, rfl⟩))))
  | cons x xs =>
    obtain ⟨o1, o2, o3, o4⟩ := hCo.ok x (.head _)
    have hnx := hCo.next
    have hfa := hCo.first
    have hge := hCo.m_ge
    have hmc := muC_cons x xs
    by_cases hf : x.far = 0
    · have el : litP x = ⟨x.c.toNat, 0, 0⟩ := by rw [litP, if_pos hf]
      rw [enc_lit hf] at hfa hge hnx
      rw [encS_len] at hge hnx
      rw [put_lit hf] at hnx
      have hu : UInt8.ofNat x.c.toNat = x.c := by simp
      have h3 : x.c.toNat < ls.length := by rw [el] at o3; exact o3
      have h4 : 1 ≤ ls.getD x.c.toNat 0 := by have := o2.lit; rw [el] at this; exact this
      refine ⟨x.c.toNat, [], out ++ [x.c], 2, left, back, .inl ⟨x.c.toNat_lt, rfl, by rw [hu], rfl, rfl, rfl⟩, h3, h4, by rw [List.append_nil]; exact hfa, by rw [List.length_nil]; omega, hnx.le, fun wy gl gd k1 k2 => ⟨muC xs, by omega, ?_⟩⟩
      exact .inr (.inr (.inl ⟨hK, rfl, rfl, xs, gl, gd, by rw [List.length_nil, Nat.add_zero]; exact hnx, rfl, rfl, k1, k2, rfl⟩))
    · have hfar : x.far ≤ out.length := hCo.far.1
      have hlen : (encIt ls ds x).length = ls.getD (litP x).symbol 0 + (loB (litP x).wide (litP x).more ++ (encS ds (farP x).symbol ++ loB (farP x).wide (farP x).more)).length := by rw [enc_copy hf, List.length_append, encS_len]
      rw [hlen] at hge hnx
      rw [enc_copy hf] at hfa
      rw [put_copy hf] at hnx
      refine ⟨(litP x).symbol, _, out, 3, x.long, x.far, .inr (.inr ⟨x, o1, hf, rfl, rfl, hfar, o4 hf, o2.far hf, rfl, rfl, rfl, rfl⟩), o3, o2.lit, hfa, by omega, hCo.le, fun wy gl gd k1 k2 => ⟨muC xs + x.long + 1, ?_, ?_⟩⟩
      · unfold sizeI at hmc; rw [if_neg hf] at hmc; omega
      · exact .inr (.inr (.inr (.inl ⟨hK, rfl, rfl, by omega, hfar, xs, gl, gd, hnx, rfl, rfl, k1, k2, rfl⟩)))
def StepM (w wx : World) (B gr gb : Nat) (vb vo0 : Value) (l b : List UInt8) (p : Nat) (out : List UInt8) (st : Nat) (last : Bool) (left back : Nat) (pl pd : Value) : Prop :=
  ∃ vo, Mach wx B gr gb vb vo l p out 0 st last left back pl pd ∧ Only (SM gr gb vo0) w wx ∧ (∀ k, vo.ownBlock = some k → vo0.ownBlock = some k ∨ w.heap.size ≤ k) ∧ p ≤ 8 * l.length ∧ out.length ≤ b.length
def StepP (w wx : World) (B gr gb : Nat) (vb vo0 : Value) (l b : List UInt8) (K n : Nat) (its : List Item) (ls ds : List Nat) (m : Nat) (mu : Nat) : Prop :=
  ∃ p out st last left back pl pd, StepM w wx B gr gb vb vo0 l b p out st last left back pl pd ∧ StepQ wx B l b K n its ls ds m p out st last left back pl pd mu
set_option maxRecDepth 100000 in
theorem tab_146 (f : Nat → Value) : (List.range 146).map f = [f 0, f 1, f 2, f 3, f 4, f 5, f 6, f 7, f 8, f 9, f 10, f 11, f 12, f 13, f 14, f 15, f 16, f 17, f 18, f 19, f 20, f 21, f 22, f 23, f 24, f 25, f 26, f 27, f 28, f 29, f 30, f 31, f 32, f 33, f 34, f 35, f 36, f 37, f 38, f 39, f 40, f 41, f 42, f 43, f 44, f 45, f 46, f 47, f 48, f 49, f 50, f 51, f 52, f 53, f 54, f 55, f 56, f 57, f 58, f 59, f 60, f 61, f 62, f 63, f 64, f 65, f 66, f 67, f 68, f 69, f 70, f 71, f 72, f 73, f 74, f 75, f 76, f 77, f 78, f 79, f 80, f 81, f 82, f 83, f 84, f 85, f 86, f 87, f 88, f 89, f 90, f 91, f 92, f 93, f 94, f 95, f 96, f 97, f 98, f 99, f 100, f 101, f 102, f 103, f 104, f 105, f 106, f 107, f 108, f 109, f 110, f 111, f 112, f 113, f 114, f 115, f 116, f 117, f 118, f 119, f 120, f 121, f 122, f 123, f 124, f 125, f 126, f 127, f 128, f 129, f 130, f 131, f 132, f 133, f 134, f 135, f 136, f 137, f 138, f 139, f 140, f 141, f 142, f 143, f 144, f 145] := by kernel_rfl
theorem list_tab (l : List Value) (n : Nat) (h : l.length = n) : l = (List.range n).map (fun i => l.getD i undef) := by
  subst h
  apply List.ext_getElem
  · simp
  · intro i h1 h2
    simp [h1]
theorem frame_form (a : Act) (h : a.tmps.size = 146) (hd : a.defers = []) : ∃ U : Nat → Value, (∀ i, U i = a.tmps.getD i undef) ∧ a = { tmps := #[U 0, U 1, U 2, U 3, U 4, U 5, U 6, U 7, U 8, U 9, U 10, U 11, U 12, U 13, U 14, U 15, U 16, U 17, U 18, U 19, U 20, U 21, U 22, U 23, U 24, U 25, U 26, U 27, U 28, U 29, U 30, U 31, U 32, U 33, U 34, U 35, U 36, U 37, U 38, U 39, U 40, U 41, U 42, U 43, U 44, U 45, U 46, U 47, U 48, U 49, U 50, U 51, U 52, U 53, U 54, U 55, U 56, U 57, U 58, U 59, U 60, U 61, U 62, U 63, U 64, U 65, U 66, U 67, U 68, U 69, U 70, U 71, U 72, U 73, U 74, U 75, U 76, U 77, U 78, U 79, U 80, U 81, U 82, U 83, U 84, U 85, U 86, U 87, U 88, U 89, U 90, U 91, U 92, U 93, U 94, U 95, U 96, U 97, U 98, U 99, U 100, U 101, U 102, U 103, U 104, U 105, U 106, U 107, U 108, U 109, U 110, U 111, U 112, U 113, U 114, U 115, U 116, U 117, U 118, U 119, U 120, U 121, U 122, U 123, U 124, U 125, U 126, U 127, U 128, U 129, U 130, U 131, U 132, U 133, U 134, U 135, U 136, U 137, U 138, U 139, U 140, U 141, U 142, U 143, U 144, U 145], defers := [] } := by
  obtain ⟨⟨l⟩, d⟩ := a
  dsimp only at h hd
  subst hd
  have e := list_tab l 146 (by simpa using h)
  rw [tab_146] at e
  refine ⟨fun i => l.getD i undef, fun i => by simp, ?_⟩
  exact congrArg (fun z : List Value => ({ tmps := z.toArray, defers := [] } : Act)) e
/-- The frame at the first label. -/
def StepJ (w : World) (B gr gb : Nat) (vb vo0 : Value) (l b : List UInt8) (K n : Nat) (its : List Item) (ls ds : List Nat) (m most : Nat) (N : Nat) (a : Act) (wx : World) : Prop :=
  ∃ mu, N = 2 * mu ∧ StepP w wx B gr gb vb vo0 l b K n its ls ds m mu ∧ a.tmps.size = 146 ∧ a.defers = [] ∧ a.tmps.getD 0 undef = .pointer (some ⟨gr, 0, none⟩) ∧ a.tmps.getD 1 undef = .int .i64 (most : Int)
set_option maxRecDepth 100000 in
theorem frame_J {a : Act} {gr most : Nat} (h : a.tmps.size = 146) (hd : a.defers = []) (h0 : a.tmps.getD 0 undef = .pointer (some ⟨gr, 0, none⟩)) (h1 : a.tmps.getD 1 undef = .int .i64 (most : Int)) :
    ∃ U : Nat → Value, a = { tmps := #[.pointer (some ⟨gr, 0, none⟩), .int .i64 (most : Int), U 2, U 3, U 4, U 5, U 6, U 7, U 8, U 9, U 10, U 11, U 12, U 13, U 14, U 15, U 16, U 17, U 18, U 19, U 20, U 21, U 22, U 23, U 24, U 25, U 26, U 27, U 28, U 29, U 30, U 31, U 32, U 33, U 34, U 35, U 36, U 37, U 38, U 39, U 40, U 41, U 42, U 43, U 44, U 45, U 46, U 47, U 48, U 49, U 50, U 51, U 52, U 53, U 54, U 55, U 56, U 57, U 58, U 59, U 60, U 61, U 62, U 63, U 64, U 65, U 66, U 67, U 68, U 69, U 70, U 71, U 72, U 73, U 74, U 75, U 76, U 77, U 78, U 79, U 80, U 81, U 82, U 83, U 84, U 85, U 86, U 87, U 88, U 89, U 90, U 91, U 92, U 93, U 94, U 95, U 96, U 97, U 98, U 99, U 100, U 101, U 102, U 103, U 104, U 105, U 106, U 107, U 108, U 109, U 110, U 111, U 112, U 113, U 114, U 115, U 116, U 117, U 118, U 119, U 120, U 121, U 122, U 123, U 124, U 125, U 126, U 127, U 128, U 129, U 130, U 131, U 132, U 133, U 134, U 135, U 136, U 137, U 138, U 139, U 140, U 141, U 142, U 143, U 144, U 145], defers := [] } := by
  obtain ⟨U, hU, he⟩ := frame_form a h hd
  rw [← hU] at h0 h1
  exact ⟨U, by rw [he, h0, h1]⟩
/-- The frame at the second label: with an error, or not. -/
def StepD (w : World) (B gr gb : Nat) (vb vo0 : Value) (l b : List UInt8) (K n : Nat) (its : List Item) (ls ds : List Nat) (m most : Nat) (N : Nat) (a : Act) (wx : World) : Prop :=
  ∃ (mk s0 e : Nat), a.tmps.size = 146 ∧ a.defers = [] ∧ a.tmps.getD 0 undef = .pointer (some ⟨gr, 0, none⟩) ∧ a.tmps.getD 1 undef = .int .i64 (most : Int) ∧ a.tmps.getD 5 undef = .int .i64 (mk : Int) ∧ a.tmps.getD 6 undef = .int .i64 (s0 : Int) ∧ a.tmps.getD 7 undef = .int .i64 (e : Int) ∧
    ((e = 0 ∧ ∃ mu, N = 2 * mu + 1 ∧ StepP w wx B gr gb vb vo0 l b K n its ls ds m mu) ∨
     (e = 3 ∧ N = 0 ∧ ¬ m ≤ 8 * l.length ∧ ∃ p out st last left back pl pd, mk ≤ p ∧ StepM w wx B gr gb vb vo0 l b p out st last left back pl pd))
set_option maxRecDepth 100000 in
theorem frame_D {a : Act} {gr most mk s0 e : Nat} (h : a.tmps.size = 146) (hd : a.defers = []) (h0 : a.tmps.getD 0 undef = .pointer (some ⟨gr, 0, none⟩)) (h1 : a.tmps.getD 1 undef = .int .i64 (most : Int))
    (h5 : a.tmps.getD 5 undef = .int .i64 (mk : Int)) (h6 : a.tmps.getD 6 undef = .int .i64 (s0 : Int)) (h7 : a.tmps.getD 7 undef = .int .i64 (e : Int)) :
    ∃ U : Nat → Value, a = { tmps := #[.pointer (some ⟨gr, 0, none⟩), .int .i64 (most : Int), U 2, U 3, U 4, .int .i64 (mk : Int), .int .i64 (s0 : Int), .int .i64 (e : Int), U 8, U 9, U 10, U 11, U 12, U 13, U 14, U 15, U 16, U 17, U 18, U 19, U 20, U 21, U 22, U 23, U 24, U 25, U 26, U 27, U 28, U 29, U 30, U 31, U 32, U 33, U 34, U 35, U 36, U 37, U 38, U 39, U 40, U 41, U 42, U 43, U 44, U 45, U 46, U 47, U 48, U 49, U 50, U 51, U 52, U 53, U 54, U 55, U 56, U 57, U 58, U 59, U 60, U 61, U 62, U 63, U 64, U 65, U 66, U 67, U 68, U 69, U 70, U 71, U 72, U 73, U 74, U 75, U 76, U 77, U 78, U 79, U 80, U 81, U 82, U 83, U 84, U 85, U 86, U 87, U 88, U 89, U 90, U 91, U 92, U 93, U 94, U 95, U 96, U 97, U 98, U 99, U 100, U 101, U 102, U 103, U 104, U 105, U 106, U 107, U 108, U 109, U 110, U 111, U 112, U 113, U 114, U 115, U 116, U 117, U 118, U 119, U 120, U 121, U 122, U 123, U 124, U 125, U 126, U 127, U 128, U 129, U 130, U 131, U 132, U 133, U 134, U 135, U 136, U 137, U 138, U 139, U 140, U 141, U 142, U 143, U 144, U 145], defers := [] } := by
  obtain ⟨U, hU, he⟩ := frame_form a h hd
  rw [← hU] at h0 h1 h5 h6 h7
  exact ⟨U, by rw [he, h0, h1, h5, h6, h7]⟩
def StepRet (w : World) (B gr gb : Nat) (vb vo0 : Value) (l b : List UInt8) (m : Nat) (e : Ending) (w' : World) : Prop :=
  ∃ (e1 p : Nat) (out : List UInt8) (st : Nat) (last : Bool) (left back : Nat) (pl pd : Value), e = .returned (.int .i64 (e1 : Int)) ∧ StepM w w' B gr gb vb vo0 l b p out st last left back pl pd ∧
    ((e1 = 0 ∧ m ≤ 8 * l.length ∧ st = 4 ∧ last = true ∧ out = b ∧ p = m) ∨ (e1 = 3 ∧ ¬ m ≤ 8 * l.length))
set_option maxRecDepth 100000 in
set_option maxHeartbeats 8000000 in
theorem step_any (w : World) (B gr gb : Nat) (vb vo0 : Value) (l b : List UInt8) (K n : Nat) (its : List Item) (ls ds : List Nat) (m mh most : Nat)
    (hB : B ≤ w.heap.size) (hC : StepC l b K n its ls ds m mh) (hmost : b.length < most) (hmo : most ≤ 100000000) (mu : Nat) (hP : StepP w w B gr gb vb vo0 l b K n its ls ds m mu) :
    Calls Tryz.prog 46 #[.pointer (some ⟨gr, 0, none⟩), .int .i64 (most : Int)] w (StepRet w B gr gb vb vo0 l b m) := by
  have hl := hC.hl
  have hb := hC.hb
  replace hC := hide hC
  replace hP := hide hP
  go_enter Tryz.func46, Tryz.ntmps46
  go_wp2_with fail
  refine wp_scope_ix 0 1 rfl rfl (StepJ w B gr gb vb vo0 l b K n its ls ds m most) (StepD w B gr gb vb vo0 l b K n its ls ds m most) ?_ ?_ ?_
  · rintro N a' wx ⟨mu', rfl, hS, z1, z2, z3, z4⟩
    obtain ⟨U, rfl⟩ := frame_J z1 z2 z3 z4
    clear z1 z2 z3 z4
    clear hP
    obtain ⟨p, out, st, last, left, back, pl, pd, ⟨vo, hM, hO, hown, hp, hob⟩, hQ⟩ := hS
    have c0 : wx.cell? ⟨gr, 0, none⟩ = some (.pointer (some ⟨gb, 0, none⟩)) := hM.rd.cell 0
    obtain ⟨vA, vc, hvo, -, -, -, -⟩ := hM.ou.form
    have c1 : wx.cell? ⟨gr, 1, none⟩ = some (.slice vA out.length vc) := by rw [← hvo]; exact hM.rd.cell 1
    have c2 : wx.cell? ⟨gr, 2, none⟩ = some (.int .i64 0) := hM.rd.cell 2
    have c3 : wx.cell? ⟨gr, 3, none⟩ = some (.int .i64 (st : Int)) := hM.rd.cell 3
    have c4 : wx.cell? ⟨gr, 4, none⟩ = some (.bool last) := hM.rd.cell 4
    have c5 : wx.cell? ⟨gr, 5, none⟩ = some (.int .i64 (left : Int)) := hM.rd.cell 5
    have hmk : Hid (∀ q, Calls Tryz.prog 41 #[.pointer (some ⟨gb, 0, none⟩)] (wx.drewN q) fun e w' => e = .returned (.int .i64 (p : Int)) ∧ wx.drewN q = w') := fun q => (mark_any (wx.drewN q) gb vb l p (hM.br.drewN q)).mono fun e w' h => ⟨h.1, h.2.symm⟩
    have hwl : IntKind.i64.wrap (out.length : Int) = (out.length : Int) := IntWalk.i64_in _ (by omega)
    have hmI : ¬ (most : Int) ≤ (out.length : Int) := by omega
    have hmd : decide (most ≤ out.length) = false := by rw [decide_eq_false_iff_not]; omega
    have hBx : B ≤ wx.heap.size := Nat.le_trans hB hO.size
    replace hO := hide hO
    replace hown := hide hown
    replace hvo := hide hvo
    rcases hQ with ⟨rfl, rfl, rfl, hout, hmu⟩ | ⟨hK, rfl, rfl, j, hj, hout, hleft, hpj, hmu⟩ | ⟨hK, rfl, rfl, xs, gl, gd, hCo, rfl, rfl, hcl, hcd, hmu⟩ | ⟨hK, rfl, rfl, hb1, hb2, xs, gl, gd, hCo, rfl, rfl, hcl, hcd, hmu⟩ | ⟨rfl, rfl, hout, hpm, hmu⟩ | ⟨rfl, rfl, hout, hpm, hmu⟩
    · have hhd := hide (fun q => head_any (wx.drewN q) B gr gb vb vo l out 0 0 false left back pl pd K n its mh (hM.drewN q) hl hC.out.agr0 hC.out.head)
      replace hM := hide hM
      replace hout := hide hout
      replace hmu := hide hmu
      go_wp2_with fail
      go_quiet (fail)
      go_wp2_with fail
      go_quiet (first | (go_at_call 41; exact quiet_left (hmk.out _)) | (go_at_call 41; exact quiet_add_left (hmk.out _)))
      go_wp2_with fail
      refine (hhd.out _).mono ?_
      rintro e w2 ⟨e1, p1, st1, left1, last1, pl1, pd1, rfl, hp1, hM1, hO1, hcase⟩
      have hO2 := SM.trans (hO.out.drewN _) hO1 hown.out
      have hmuv := hmu.out
      go_wp2_with fail
      refine wp_goto ?_
      rcases hcase with ⟨rfl, hnm⟩ | ⟨rfl, hmm, rfl, rfl, hG⟩
      · exact Or.inr ⟨rfl, 0, by omega, 0, 0, 3, rfl, rfl, rfl, rfl, rfl, rfl, rfl, .inr ⟨rfl, rfl, by have := hC.out.mm; omega, p1, out, st1, last1, left1, back, pl1, pd1, Nat.zero_le _, vo, hM1, hO2, hown.out, hp1, hob⟩⟩
      · have hout0 : out = [] := hout.out
        rcases hG with ⟨k0, k1, k2⟩ | ⟨k0, k1, gl, gd, rfl, rfl, k2, k3⟩ | ⟨k0, k1, gl, gd, rfl, rfl, k2, k3⟩
        · have hst := hC.out.st k0
          have hhd := hC.out.head
          have hmh : p1 = 40 := by
            unfold HeadK at hhd
            omega
          exact Or.inr ⟨rfl, 2 * (3 + n) + 1, by omega, 0, 0, 0, rfl, rfl, rfl, rfl, rfl, rfl, rfl, .inl ⟨rfl, 3 + n, rfl, p1, out, st1, true, left1, back, pl1, pd1, ⟨vo, hM1, hO2, hown.out, hp1, hob⟩,
            .inr (.inl ⟨k0, k1, rfl, 0, Nat.zero_le _, by rw [hout0]; rfl, by omega, by omega, by omega⟩)⟩⟩
        · obtain ⟨rfl, rfl⟩ := hC.out.c1 k0
          have hco := hC.out.co (by omega)
          exact Or.inr ⟨rfl, 2 * muC its + 1, by omega, 0, 0, 0, rfl, rfl, rfl, rfl, rfl, rfl, rfl, .inl ⟨rfl, muC its, rfl, p1, out, st1, true, left1, back, _, _, ⟨vo, hM1, hO2, hown.out, hp1, hob⟩,
            .inr (.inr (.inl ⟨by omega, k1, rfl, its, gl, gd, by rw [hout0]; exact hco.1, rfl, rfl, k2.more hBx, k3.more hBx, rfl⟩))⟩⟩
        · obtain ⟨rfl, rfl⟩ := hC.out.c2 k0
          have hco := hC.out.co (by omega)
          exact Or.inr ⟨rfl, 2 * muC its + 1, by omega, 0, 0, 0, rfl, rfl, rfl, rfl, rfl, rfl, rfl, .inl ⟨rfl, muC its, rfl, p1, out, st1, true, left1, back, _, _, ⟨vo, hM1, hO2, hown.out, hp1, hob⟩,
            .inr (.inr (.inl ⟨by omega, k1, rfl, its, gl, gd, by rw [hout0]; exact hco.1, rfl, rfl, k2.more hBx, k3.more hBx, rfl⟩))⟩⟩
    · by_cases hjn : j < n
      · have hst := hC.out.st hK
        have hmq : m = 40 + 8 * n := hst.2.1
        have hbd : Hid (p + 8 ≤ 8 * l.length → leN (((bytesB l).drop p).take 8) = (b.getD j 0).toNat) := fun h => by
          have ha := hst.2.2
          have hjb : j < b.length := by omega
          have h3 : b = b.take j ++ (b[j] :: b.drop (j + 1)) := by rw [List.getElem_cons_drop, List.take_append_drop]
          rw [h3, bytesB_app, show bytesB (b[j] :: b.drop (j + 1)) = loB 8 (b[j]).toNat ++ bytesB (b.drop (j + 1)) by rfl] at ha
          have h4 := ha.right.left
          rw [bytesB_len, List.length_take, Nat.min_eq_left (by omega)] at h4
          rw [show 40 + 8 * j = p by omega] at h4
          have e8 : (2 : Nat) ^ 8 = 256 := by decide
          rw [h4.low (by have := (b[j]).toNat_lt; omega) h, List.getD_eq_getElem?_getD, List.getElem?_eq_getElem hjb]; rfl
        have hrb := hide (fun q => rbits_any (wx.drewN q) gb vb l p 8 (hM.br.drewN q) hp hl (by omega))
        have hlp : ((left : Int) == 0) = false := by rw [beq_eq_false_iff_ne]; omega
        have hMh := hide hM
        replace hout := hide hout
        replace hmu := hide hmu
        replace hst := hide hst
        clear hM
        go_wp2_with fail
        go_quiet (fail)
        go_wp2_with fail
        go_quiet (first | (go_at_call 41; exact quiet_left (hmk.out _)) | (go_at_call 41; exact quiet_add_left (hmk.out _)))
        replace hmq := hide hmq
        replace hpj := hide hpj
        replace hleft := hide hleft
        go_wp2_with fail
        refine (hrb.out _).mono ?_
        rintro e w2 (⟨hpn, rfl, hb2, hO2⟩ | ⟨hpn, rfl, hb2, hO2⟩)
        · rw [hbd.out hpn]
          have hM2 := (hMh.out.drewN _).read hb2 hO2
          have hO3 := hide (SM.trans (hO.out.drewN _) (hO2.mono (T := fun k => k = gb) (S := SM gr gb vo) fun _ _ h => .inr (.inl h)) hown.out)
          have hBy : Hid (B ≤ w2.heap.size) := Nat.le_trans hBx hO2.size
          have hsz : Hid (wx.heap.size ≤ w2.heap.size) := hO2.size
          obtain ⟨cb, hcb⟩ : ∃ cb, cb = b.getD j 0 := ⟨_, rfl⟩
          rw [← hcb]
          have hem := hide (emit_any w2 gr out.length vo _ out cb hM2.rd rfl (hM2.ou.more (Nat.zero_le _)) (by omega))
          have hcl := cb.toNat_lt
          have hu : IntKind.u8.wrap (cb.toNat : Int) = (cb.toNat : Int) := IntWalk.u8_in _ (by omega)
          replace hcb := hide hcb
          replace hM2 := hide hM2
          clear hrb hbd hO2 hb2
          go_wp2_with fail
          refine hem.out.mono ?_
          rintro e w3 ⟨rfl, vo', hr', ho', hO4, hk'⟩
          have hM4 := hM2.out.emit hBy.out hr' ho' hO4 hk'
          have hown2 : Hid (∀ k, vo'.ownBlock = some k → vo0.ownBlock = some k ∨ w.heap.size ≤ k) := fun k hk => by
            rcases hk' k hk with h5 | h5
            · exact hown.out k h5
            · exact .inr (Nat.le_trans (Nat.le_trans hO.out.size hsz.out) h5)
          have hO5 := SM.trans hO3.out (hO4.mono (T := fun k => k = gr ∨ vo.ownBlock = some k) (S := SM gr gb vo) fun _ _ h => h.elim .inl fun h => .inr (.inr h)) hown.out
          have u5 : w3.cell? ⟨gr, 5, none⟩ = some (.int .i64 (left : Int)) := hM4.rd.cell 5
          have r5 := hM4.rd.frozen 5
          have hle : (left : Int) - 1 = ((left - 1 : Nat) : Int) := by have := hleft.out; omega
          have hlb : left ≤ 1000000 := by have := hleft.out; have := hst.out.1; omega
          have hM5 := hide (hM4.set_ 5 (.int .i64 ((left - 1 : Nat) : Int)) (at2 := 0) (st2 := 1) (last2 := true) (left2 := left - 1) (back2 := back) (pl2 := pl) (pd2 := pd) rfl)
          have hO6 := hide (SM.trans hO5 (hM4.setO 5 (.int .i64 ((left - 1 : Nat) : Int))) hown2.out)
          obtain ⟨lf, hlf⟩ : ∃ lf, lf = left - 1 := ⟨_, rfl⟩
          rw [← hlf] at hle hM5 hO6
          replace hlf := hide hlf
          clear hO4 hk' hem hr' ho' hM4 hO5 hu
          go_wp2_with fail
          refine wp_goto ?_
          have hmuv := hmu.out
          have hq1 := hpj.out
          have hq2 := hleft.out
          have hq3 := hlf.out
          refine Or.inl ⟨rfl, 2 * (3 + (n - (j + 1))), by omega, 3 + (n - (j + 1)), rfl, ⟨p + 8, out ++ [cb], 1, true, lf, back, pl, pd, ⟨vo', hM5.out, hO6.out, hown2.out, hpn, ?_⟩, .inr (.inl ⟨hK, rfl, rfl, j + 1, by omega, ?_, by omega, by omega, rfl⟩)⟩, rfl, rfl, rfl, rfl⟩
          · have h6 := congrArg List.length hout.out
            rw [List.length_take] at h6
            have := hst.out.1
            rw [List.length_append, List.length_singleton]; omega
          · have hjb : j < b.length := by have := hst.out.1; omega
            rw [hout.out, hcb.out, List.take_succ_eq_append_getElem hjb, List.getD_eq_getElem?_getD, List.getElem?_eq_getElem hjb]; rfl
        · have hM2 := hide ((hMh.out.drewN _).read hb2 hO2)
          have hO3 := hide (SM.trans (hO.out.drewN _) (hO2.mono (T := fun k => k = gb) (S := SM gr gb vo) fun _ _ h => .inr (.inl h)) hown.out)
          clear hrb hbd hO2 hb2
          go_wp2_with fail
          simp only [jump2]
          go_ret
          exact ⟨3, p, out, 1, true, left, back, pl, pd, rfl, ⟨vo, hM2.out, hO3.out, hown.out, hp, hob⟩, .inr ⟨rfl, by have := hmq.out; have := hpj.out; omega⟩⟩
      · have hjn2 : j = n := by omega
        have hleft0 : left = 0 := by omega
        subst hleft0
        have f3 := hM.rd.frozen 3
        have hM1 := hide (hM.set_ 3 (.int .i64 0) (at2 := 0) (st2 := 0) (last2 := true) (left2 := 0) (back2 := back) (pl2 := pl) (pd2 := pd) rfl)
        have hO1 := hide (SM.trans hO.out (hM.setO 3 (.int .i64 0)) hown.out)
        have hst := hC.out.st hK
        have hmq : p = m := by omega
        have hob2 : out = b := by rw [hout, hjn2, hst.1, List.take_length]
        replace hM := hide hM
        replace hout := hide hout
        replace hob2 := hide hob2
        replace hmu := hide hmu
        replace hst := hide hst
        replace hmq := hide hmq
        replace hpj := hide hpj
        replace hjn2 := hide hjn2
        replace hleft := hide hleft
        go_wp2_with fail
        go_quiet (fail)
        go_wp2_with fail
        go_quiet (first | (go_at_call 41; exact quiet_left (hmk.out _)) | (go_at_call 41; exact quiet_add_left (hmk.out _)))
        go_wp2_with fail
        refine wp_goto ?_
        have hmuv := hmu.out
        exact Or.inl ⟨rfl, 2 * 2, by omega, 2, rfl, ⟨p, out, 0, true, 0, back, pl, pd, ⟨vo, hM1.out.drewN _, hO1.out.drewN _, hown.out, hp, hob⟩, .inr (.inr (.inr (.inr (.inl ⟨rfl, rfl, hob2.out, hmq.out, rfl⟩))))⟩, rfl, rfl, rfl, rfl⟩
    · have hco := hC.out.co hK
      obtain ⟨s, F, out', st', left', back', a1, a2, a3, a4, a5, a6, a7⟩ := coded_sym B l b K n its ls ds m p out left back xs hK hCo hco.2.2.2.1 hco.2.2.2.2
      have hsy := hide (fun q => symbol_any (wx.drewN q) B gr gb gl gd vb vo l p out 0 2 true left back ls ds s F out' st' left' back' (hM.drewN q) hBx (hcl.drewN q) hco.2.1 (hcd.drewN q) hco.2.2.1 a2 a3 hp hl (by omega) a4 a1)
      obtain ⟨T, hT⟩ : ∃ T, T = ls.getD s 0 + F.length := ⟨_, rfl⟩
      rw [← hT] at hsy a5 a7
      have hMh := hide hM
      replace hco := hide hco
      replace hcl := hide hcl
      replace hcd := hide hcd
      replace hmu := hide hmu
      replace hCo := hide hCo
      replace a7 := hide a7
      replace hT := hide hT
      replace a1 := hide a1
      replace a4 := hide a4
      clear hM
      go_wp2_with fail
      go_quiet (fail)
      go_wp2_with fail
      go_quiet (first | (go_at_call 41; exact quiet_left (hmk.out _)) | (go_at_call 41; exact quiet_add_left (hmk.out _)))
      go_wp2_with fail
      refine (hsy.out _).mono ?_
      rintro e w2 ⟨vo', hk', hO2, hcase⟩
      have hmuv := hmu.out
      have hO3 := SM.trans (hO.out.drewN _) hO2 hown.out
      have hown2 : ∀ k, vo'.ownBlock = some k → vo0.ownBlock = some k ∨ w.heap.size ≤ k := fun k hk => by
        rcases hk' k hk with h5 | h5
        · exact hown.out k h5
        · exact .inr (Nat.le_trans hO.out.size h5)
      rcases hcase with ⟨hpn, rfl, hM2⟩ | ⟨hpn, rfl, p', hp1, hp2, hM2⟩
      · obtain ⟨mu2, hm2, hQ2⟩ := a7.out w2 gl gd ((hMh.out.drewN _).code hO2 (hcl.out.drewN _)) ((hMh.out.drewN _).code hO2 (hcd.out.drewN _))
        replace hM2 := hide hM2
        replace hO2 := hide hO2
        replace hO3 := hide hO3
        replace hown2 := hide hown2
        replace hQ2 := hide hQ2
        replace hk' := hide hk'
        go_wp2_with fail
        refine wp_goto ?_
        exact Or.inr ⟨rfl, 2 * mu2 + 1, by omega, p, 2, 0, rfl, rfl, rfl, rfl, rfl, rfl, rfl, .inl ⟨rfl, mu2, rfl, p + T, out', st', true, left', back', _, _, ⟨vo', hM2.out, hO3.out, hown2.out, hpn, a6⟩, hQ2.out⟩⟩
      · replace hM2 := hide hM2
        replace hO2 := hide hO2
        replace hO3 := hide hO3
        replace hown2 := hide hown2
        replace hk' := hide hk'
        go_wp2_with fail
        refine wp_goto ?_
        have hm1 : 1 ≤ mu' := by have : 3 ≤ muC xs := by unfold muC; omega
                                 omega
        exact Or.inr ⟨rfl, 0, by omega, p, 2, 3, rfl, rfl, rfl, rfl, rfl, rfl, rfl, .inr ⟨rfl, rfl, by omega, p', out, 2, true, left, back, _, _, hp1, vo', hM2.out, hO3.out, hown2.out, hp2, hob⟩⟩
    · by_cases hl0 : left = 0
      · subst hl0
        have f3 := hM.rd.frozen 3
        have hM1 := hide (hM.set_ 3 (.int .i64 2) (at2 := 0) (st2 := 2) (last2 := true) (left2 := 0) (back2 := back) (pl2 := .pointer (some ⟨gl, 0, none⟩)) (pd2 := .pointer (some ⟨gd, 0, none⟩)) rfl)
        have hO1 := hide (SM.trans hO.out (hM.setO 3 (.int .i64 2)) hown.out)
        have hcl1 := hide (CodeAt.setR (i := 3) hcl hM.rd (.int .i64 2))
        have hcd1 := hide (CodeAt.setR (i := 3) hcd hM.rd (.int .i64 2))
        have hCo1 : Hid (Coded l b ls ds m xs out p) := hCo
        replace hM := hide hM
        replace hmu := hide hmu
        clear hCo hcl hcd
        go_wp2_with fail
        go_quiet (fail)
        go_wp2_with fail
        go_quiet (first | (go_at_call 41; exact quiet_left (hmk.out _)) | (go_at_call 41; exact quiet_add_left (hmk.out _)))
        go_wp2_with fail
        refine wp_goto ?_
        have hmuv := hmu.out
        exact Or.inl ⟨rfl, 2 * muC xs, by omega, muC xs, rfl, ⟨p, out, 2, true, 0, back, _, _, ⟨vo, hM1.out.drewN _, hO1.out.drewN _, hown.out, hp, hob⟩, .inr (.inr (.inl ⟨hK, rfl, rfl, xs, gl, gd, hCo1.out, rfl, rfl, hcl1.out.drewN _, hcd1.out.drewN _, rfl⟩))⟩, rfl, rfl, rfl, rfl⟩
      · obtain ⟨lf, rfl⟩ : ∃ lf, left = lf + 1 := ⟨left - 1, by omega⟩
        have hnl : (((lf + 1 : Nat) : Int) == 0) = false := by rw [beq_eq_false_iff_ne]; omega
        obtain ⟨L, hL⟩ : ∃ L, L = lf + 1 := ⟨_, rfl⟩
        rw [← hL] at c5 hnl
        have hlo : 0 < out.length := by omega
        obtain ⟨go, cap, he, -, -⟩ : ∃ go cap, vo = .slice (some ⟨go, 0, none⟩) out.length cap ∧ out.length ≤ cap ∧ cap ≤ maxLen := by
          rcases hM.ou.parts with ⟨_, h0, _⟩ | h
          · omega
          · exact h
        rw [hvo.out] at he
        cases he
        have hkl : out.length - back < out.length := by omega
        have hbI : (out.length : Int) - (back : Int) = ((out.length - back : Nat) : Int) := by omega
        have hcopy : Hid (copyN back (lf + 1) out = copyN back lf (out ++ [out.getD (out.length - back) 0])) := rfl
        have hlim : lf ≤ 1000000 := by
          have h5 := hCo.le
          rw [copyN_len] at h5; omega
        have hMh := hide hM
        have hcl' := hide hcl
        have hcd' := hide hcd
        have hCo' := hide hCo
        replace hmu := hide hmu
        replace hL := hide hL
        clear hM hcl hcd hCo
        go_wp2_with fail
        go_quiet (fail)
        go_wp2_with fail
        go_quiet (first | (go_at_call 41; exact quiet_left (hmk.out _)) | (go_at_call 41; exact quiet_add_left (hmk.out _)))
        go_upto_region 24 with (fail)
        generalize hwq : wx.drewN _ = wq
        have hMq : Mach wq B gr gb vb vo l p out 0 3 true (lf + 1) back (.pointer (some ⟨gl, 0, none⟩)) (.pointer (some ⟨gd, 0, none⟩)) := by rw [← hwq]; exact hMh.out.drewN _
        have hOq : Only (SM gr gb vo0) w wq := by rw [← hwq]; exact hO.out.drewN _
        have hclq : CodeAt wq B gl ls := by rw [← hwq]; exact hcl'.out.drewN _
        have hcdq : CodeAt wq B gd ds := by rw [← hwq]; exact hcd'.out.drewN _
        clear hwq hMh hcl' hcd' c0 c1 c2 c3 c4 c5 hmk
        have c1 : wq.cell? ⟨gr, 1, none⟩ = some vo := hMq.rd.cell 1
        have c6 : wq.cell? ⟨gr, 6, none⟩ = some (.int .i64 (back : Int)) := hMq.rd.cell 6
        rw [hvo.out] at c1
        have cE : wq.cell? ⟨go, out.length - back, none⟩ = some (.int .u8 ((out.getD (out.length - back) 0).toNat : Int)) := by
          have hou := hMq.ou
          rw [hvo.out] at hou
          have := hou.cell hkl hkl
          rw [List.getD_eq_getElem?_getD, List.getElem?_eq_getElem hkl]
          exact this
        obtain ⟨ch, hch⟩ : ∃ ch, ch = out.getD (out.length - back) 0 := ⟨_, rfl⟩
        rw [← hch] at cE hcopy
        obtain ⟨kx, hkx⟩ : ∃ kx, kx = out.length - back := ⟨_, rfl⟩
        rw [← hkx] at cE hbI hkl
        have hem : Hid (∀ wz, Mach wz B gr gb vb vo l p out 0 3 true (lf + 1) back (.pointer (some ⟨gl, 0, none⟩)) (.pointer (some ⟨gd, 0, none⟩)) → B ≤ wz.heap.size → Calls Tryz.prog 69 #[.pointer (some ⟨gr, 0, none⟩), .int .u8 (ch.toNat : Int)] wz fun e w' => e = .returned (.tuple #[]) ∧ EmS wz B gr gb vb vo l p (out ++ [ch]) 3 true (lf + 1) back (.pointer (some ⟨gl, 0, none⟩)) (.pointer (some ⟨gd, 0, none⟩)) w') := fun wz k1 k2 => emit_m wz B gr gb vb vo l p out 3 true (lf + 1) back _ _ ch k1 k2 (by omega)
        have hBq : Hid (B ≤ wq.heap.size) := Nat.le_trans hB hOq.size
        have hMq' := hide hMq
        have hOq' := hide hOq
        have hclq' := hide hclq
        have hcdq' := hide hcdq
        replace hch := hide hch
        replace hkx := hide hkx
        have hkI : (kx : Int) < (out.length : Int) := by omega
        have hk0 : (0 : Int) ≤ (kx : Int) := by omega
        have hwk : IntKind.i64.wrap (kx : Int) = (kx : Int) := IntWalk.i64_in _ (by omega)
        have hkd : kx < out.length := hkl
        clear hMq hOq hclq hcdq
        go_cut [] (fun wy => EmS (wq.drewN 1) B gr gb vb vo l p (out ++ [ch]) 3 true (lf + 1) back (.pointer (some ⟨gl, 0, none⟩)) (.pointer (some ⟨gd, 0, none⟩)) wy)
        case first =>
          go_region_with (go_at_call 69; refine (hem.out _ (hMq'.out.drewN 1) hBq.out).mono ?_; rintro e w3 ⟨rfl, hEm⟩; replace hEm := hide hEm)
          all_goals go_wp2_with fail
          all_goals go_meet
          all_goals exact hEm.out
        case rest =>
          obtain ⟨vo', hM2, hO2, hk2⟩ := hcut
          have hown2 : Hid (∀ k, vo'.ownBlock = some k → vo0.ownBlock = some k ∨ w.heap.size ≤ k) := fun k hk => by
            rcases hk2 k hk with h5 | h5
            · exact hown.out k h5
            · exact .inr (Nat.le_trans hOq'.out.size h5)
          have hO3 := SM.trans (hOq'.out.drewN 1) hO2 hown.out
          have u5 : wc.cell? ⟨gr, 5, none⟩ = some (.int .i64 ((lf + 1 : Nat) : Int)) := hM2.rd.cell 5
          have r5 := hM2.rd.frozen 5
          have hl1 : ((lf + 1 : Nat) : Int) - 1 = (lf : Int) := by omega
          have hwl2 : IntKind.i64.wrap (lf : Int) = (lf : Int) := IntWalk.i64_in _ (by omega)
          have hMf := hide (hM2.set_ 5 (.int .i64 (lf : Int)) (at2 := 0) (st2 := 3) (last2 := true) (left2 := lf) (back2 := back) (pl2 := .pointer (some ⟨gl, 0, none⟩)) (pd2 := .pointer (some ⟨gd, 0, none⟩)) rfl)
          have hOf := hide (SM.trans hO3 (hM2.setO 5 (.int .i64 (lf : Int))) hown2.out)
          have hclf := hide (CodeAt.setR (i := 5) ((hMq'.out.drewN 1).code hO2 (hclq'.out.drewN 1)) hM2.rd (.int .i64 (lf : Int)))
          have hcdf := hide (CodeAt.setR (i := 5) ((hMq'.out.drewN 1).code hO2 (hcdq'.out.drewN 1)) hM2.rd (.int .i64 (lf : Int)))
          clear hM2 hO2 hO3 hk2
          go_wp2_with fail
          refine wp_goto ?_
          have hmuv := hmu.out
          have hCo2 : Coded l b ls ds m xs (copyN back lf (out ++ [ch])) p := by rw [← hcopy.out]; exact hCo'.out
          have hle2 := hCo2.le
          rw [copyN_len] at hle2
          exact Or.inl ⟨rfl, 2 * (muC xs + lf + 1), by omega, muC xs + lf + 1, rfl, ⟨p, out ++ [ch], 3, true, lf, back, _, _, ⟨vo', hMf.out, hOf.out, hown2.out, hp, by omega⟩,
            .inr (.inr (.inr (.inl ⟨hK, rfl, rfl, hb1, by rw [List.length_append]; omega, xs, gl, gd, hCo2, rfl, rfl, hclf.out, hcdf.out, rfl⟩)))⟩, rfl, rfl, rfl, rfl⟩
    · have f3 := hM.rd.frozen 3
      have hM1 := hM.set_ 3 (.int .i64 4) (at2 := 0) (st2 := 4) (last2 := true) (left2 := left) (back2 := back) (pl2 := pl) (pd2 := pd) rfl
      have hO1 := hide (SM.trans hO.out (hM.setO 3 (.int .i64 4)) hown.out)
      replace hM1 := hide hM1
      replace hM := hide hM
      replace hout := hide hout
      replace hmu := hide hmu
      go_wp2_with fail
      go_quiet (fail)
      go_wp2_with fail
      go_quiet (first | (go_at_call 41; exact quiet_left (hmk.out _)) | (go_at_call 41; exact quiet_add_left (hmk.out _)))
      go_wp2_with fail
      refine wp_goto ?_
      have hmuv := hmu.out
      exact Or.inl ⟨rfl, 2 * 1, by omega, 1, rfl, ⟨p, out, 4, true, left, back, pl, pd, ⟨vo, hM1.out.drewN _, hO1.out.drewN _, hown.out, hp, hob⟩, .inr (.inr (.inr (.inr (.inr ⟨rfl, rfl, hout.out, hpm, rfl⟩))))⟩, rfl, rfl, rfl, rfl⟩
    · have hpf : 4 = 4 := rfl
      replace hM := hide hM
      replace hout := hide hout
      replace hmu := hide hmu
      go_wp2_with fail
      go_quiet (fail)
      go_wp2_with fail
      simp only [jump2]
      go_ret
      exact ⟨0, p, out, 4, true, left, back, pl, pd, rfl, ⟨vo, hM.out.drewN _, hO.out.drewN _, hown.out, hp, hob⟩, .inl ⟨rfl, by omega, rfl, rfl, hout.out, hpm⟩⟩
  · rintro N a' wx ⟨mk, s0, e, z1, z2, z3, z4, z5, z6, z7, hcase⟩
    obtain ⟨U, rfl⟩ := frame_D z1 z2 z3 z4 z5 z6 z7
    clear z1 z2 z3 z4 z5 z6 z7 hP
    rcases hcase with ⟨rfl, mu', rfl, hS⟩ | ⟨rfl, rfl, hnm, p, out, st, last, left, back, pl, pd, hmp, vo, hM, hO, hown, hp, hob⟩
    · replace hS := hide hS
      go_wp2_with fail
      refine wp_goto ?_
      exact Or.inl ⟨rfl, 2 * mu', by omega, mu', rfl, hS.out, rfl, rfl, rfl, rfl⟩
    · have hbk := hide (back_any wx gb vb l p mk hM.br hmp)
      have c0 : wx.cell? ⟨gr, 0, none⟩ = some (.pointer (some ⟨gb, 0, none⟩)) := hM.rd.cell 0
      replace hown := hide hown
      replace hO := hide hO
      have hMh := hide hM
      clear hM
      go_wp2_with fail
      refine hbk.out.mono ?_
      rintro e w2 ⟨rfl, hb2, hO2⟩
      have hM2 := hMh.out.read hb2 hO2
      have hO3 := SM.trans hO.out (hO2.mono (T := fun k => k = gb) (S := SM gr gb vo) fun _ _ h => .inr (.inl h)) hown.out
      have r3 := hM2.rd.frozen 3
      have u3 := hM2.rd.cell 3
      have hM3 := hM2.set_ 3 (.int .i64 (s0 : Int)) (at2 := 0) (st2 := s0) (last2 := last) (left2 := left) (back2 := back) (pl2 := pl) (pd2 := pd) rfl
      have hO4 := hide (SM.trans hO3 (hM2.setO 3 (.int .i64 (s0 : Int))) hown.out)
      have r4 := hM3.rd.frozen 4
      have u4 := hM3.rd.cell 4
      have hM4 := hide (hM3.set_ 4 (.bool false) (at2 := 0) (st2 := s0) (last2 := false) (left2 := left) (back2 := back) (pl2 := pl) (pd2 := pd) rfl)
      have hO5 := hide (SM.trans hO4.out (hM3.setO 4 (.bool false)) hown.out)
      replace hM2 := hide hM2
      replace hM3 := hide hM3
      clear hbk hO2 hb2 hO3
      by_cases hs0 : s0 = 0
      · have hsb : ((s0 : Int) == 0) = true := by rw [beq_iff_eq]; omega
        replace hs0 := hide hs0
        go_wp2_with fail
        simp only [jump2]
        go_ret
        exact ⟨3, mk, out, s0, false, left, back, pl, pd, rfl, ⟨vo, hM4.out, hO5.out, hown.out, by omega, hob⟩, .inr ⟨rfl, hnm⟩⟩
      · have hsb : ((s0 : Int) == 0) = false := by rw [beq_eq_false_iff_ne]; omega
        replace hs0 := hide hs0
        go_wp2_with fail
        simp only [jump2]
        go_ret
        exact ⟨3, mk, out, s0, last, left, back, pl, pd, rfl, ⟨vo, hM3.out, hO4.out, hown.out, by omega, hob⟩, .inr ⟨rfl, hnm⟩⟩
  · intro hJ
    replace hJ := hide hJ
    go_wp2_with fail
    refine wp_label ?_
    rename_i hK
    exact hK _ _ (hJ.out (2 * mu) _ _ ⟨mu, rfl, hP.out, rfl, rfl, rfl, rfl⟩)
end Go.Proofs.YtbchaomnjbkdhaaGreat
