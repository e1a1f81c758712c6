/-
  Contracts of the reference's long, far.
-/
import Derived.Test.YtbchaomnjbkdhaaGreatERfD
import Derived.Great.BuildSlice
import Derived.Test.YtbchaomnjbkdhaaGreatERfC
import Derived.Test.YtbchaomnjbkdhaaGreatEInfF
namespace Go.Proofs.YtbchaomnjbkdhaaGreat
open Go.RowKit Go.Sort Go.Proofs
set_option linter.unusedVariables false
section
variable {ops : Array Oper} {rest : List Oper} {o : Oper} {a : Act} {Q : Exit → Act → World → Prop}
/-- A slice of ints that are written out. -/
theorem wpList_tabI {w : World} (hg : o.guard = none) (len : Nat) (parts : Array (Nat × Operand)) (ho : o.op = .buildSlice 49 len parts) (T : List Int)
    (hT : parts.toList = (T.zipIdx 0).map fun x => (x.2, Operand.const (Value.int .i64 x.1))) (hl : len = T.length) (hp : 0 < len) (hs : len ≤ 1000) (d : Option Tmp) (hd : o.dst = d) (C : Array Value) (hC : C = (T.map (Value.int .i64)).toArray)
    (h : wpList Tryz.prog ops Q rest (a.put d (.slice (some ⟨w.heap.size, 0, none⟩) len len)) (w.alloc (.cells C 3))) : wpList Tryz.prog ops Q (o :: rest) a w := by
  subst hd hC
  exact wpList_buildFlat hg 49 3 len parts ho .i64 T Tryz.underlying49 (by kernel_rfl) (by kernel_rfl) hl hp (Nat.le_trans hs (by decide)) hT h
end
def longB : List Int := [3, 4, 5, 6, 7, 8, 9, 10, 11, 13, 15, 17, 19, 23, 27, 31, 35, 43, 51, 59, 67, 83, 99, 115, 131, 163, 195, 227, 258]
def longM : List Int := [0, 0, 0, 0, 0, 0, 0, 0, 1, 1, 1, 1, 2, 2, 2, 2, 3, 3, 3, 3, 4, 4, 4, 4, 5, 5, 5, 5, 0]
def farB : List Int := [1, 2, 3, 4, 5, 7, 9, 13, 17, 25, 33, 49, 65, 97, 129, 193, 257, 385, 513, 769, 1025, 1537, 2049, 3073, 4097, 6145, 8193, 12289, 16385, 24577]
theorem long_span : ∀ k, k < 28 → longB.getD k 0 = (((spanP k 4 3).1 : Nat) : Int) ∧ longM.getD k 0 = (((spanP k 4 3).2 : Nat) : Int) := by decide +kernel
theorem far_span : ∀ k, k < 30 → farB.getD k 0 = (((spanP k 2 1).1 : Nat) : Int) ∧ (spanP k 2 1).2 = if k < 4 then 0 else k / 2 - 1 := by decide +kernel
theorem tab_at (T : List Int) (k : Nat) (hk : k < T.length) : ((T.map (Value.int .i64)).toArray)[k]? = some (.int .i64 (T.getD k 0)) := by
  rw [List.getElem?_toArray, List.getElem?_map, List.getD_eq_getElem?_getD, List.getElem?_eq_getElem hk]; rfl
/-- What long, far leave. -/
def SpanR (w : World) (B gs : Nat) (vb vo : Value) (L : List Nat) (p b m : Nat) (out : List UInt8) (e : Ending) (w' : World) : Prop :=
  e = .returned (.int .i64 ((b + leN ((L.drop p).take m) : Nat) : Int)) ∧ StAt w' B gs vb vo L (p + m) out ∧ EffR B w w'
set_option maxRecDepth 100000 in
set_option maxHeartbeats 2000000 in
theorem long_any (w : World) (B gs : Nat) (vb vo : Value) (L : List Nat) (p k b m : Nat) (out : List UInt8) (h : StAt w B gs vb vo L p out) (hp : p + m ≤ L.length) (hpl : p < L.length) (hk : k < 29) (hb : longB.getD k 0 = (b : Int)) (hm : longM.getD k 0 = (m : Int)) (hbs : b ≤ 300) (hms : m ≤ 5) (h2 : ∀ b ∈ L, b < 2) (hl : L.length ≤ 100000000) :
    Calls Tryz.prog 52 #[.pointer (some ⟨gs, 0, none⟩), .int .i64 (k : Int)] w (SpanR w B gs vb vo L p b m out) := by
  obtain ⟨CB, hCB⟩ : ∃ C, C = (longB.map (Value.int .i64)).toArray := ⟨_, rfl⟩
  obtain ⟨CM, hCM⟩ : ∃ C, C = (longM.map (Value.int .i64)).toArray := ⟨_, rfl⟩
  have hkb : Hid (CB[k]? = some (.int .i64 (b : Int))) := by rw [Hid, hCB, tab_at longB k hk, hb]
  have hkm : Hid (CM[k]? = some (.int .i64 (m : Int))) := by rw [Hid, hCM, tab_at longM k hk, hm]
  have hgB := hide h.gB
  have hsz := hide h.size
  replace hCB := hide hCB
  replace hCM := hide hCM
  replace hb := hide hb
  replace hm := hide hm
  replace h := hide h
  have htk := hide (fun (wz : World) (hz : StAt wz B gs vb vo L p out) => take_any wz B gs vb vo L p m out (m : Int) rfl hz hp hpl (by omega) h2 hl)
  have hv := leN_lt ((L.drop p).take m) (fun b hb => h2 b (List.mem_of_mem_drop (List.mem_of_mem_take hb)))
  have hv2 : 2 ^ ((L.drop p).take m).length ≤ 2 ^ 5 := Nat.pow_le_pow_right (by omega) (Nat.le_trans (List.length_take_le _ _) hms)
  have e5 : (2 : Nat) ^ 5 = 32 := by decide
  have hX32 : leN ((L.drop p).take m) < 32 := by omega
  clear hv hv2 e5
  replace h2 := hide h2
  go_enter Tryz.func52, Tryz.ntmps52
  go_wp2_with (first
    | refine wpList_tabI rfl 29 _ rfl longB rfl rfl (by omega) (by omega) (some 7) rfl CB hCB.out ?_
    | refine wpList_tabI rfl 29 _ rfl longM rfl rfl (by omega) (by omega) (some 8) rfl CM hCM.out ?_
    | fail)
  have hb5 := (Blk.new w 3 CB).alloc (.cells CM 3)
  have hb6 := Blk.new (w.alloc (.cells CB 3)) 3 CM
  rw [World.size_alloc] at hb6
  have hS2 := (h.out.alloc (.cells CB 3)).alloc (.cells CM 3)
  have hE2 := ((EffR.refl B w).alloc hsz.out (.cells CB 3)).alloc hsz.out (.cells CM 3)
  generalize (w.alloc (.cells CB 3)).alloc (.cells CM 3) = w2 at *
  obtain ⟨g6, hg6⟩ : ∃ g6, g6 = w.heap.size + 1 := ⟨_, rfl⟩
  rw [← hg6] at hb6 ⊢
  obtain ⟨g5, hg5⟩ : ∃ g5, g5 = w.heap.size := ⟨_, rfl⟩
  rw [← hg5] at hb5 ⊢
  have c5 : w2.cell? ⟨g5, k, none⟩ = some (.int .i64 (b : Int)) := by rw [hb5.cell]; exact hkb.out
  have c6 : w2.cell? ⟨g6, k, none⟩ = some (.int .i64 (m : Int)) := by rw [hb6.cell]; exact hkm.out
  have htk2 : Hid (Calls Tryz.prog 22 #[.pointer (some ⟨gs, 0, none⟩), .int .i64 (m : Int)] w2.drew (TakeR w2.drew B gs vb vo L p m out)) := htk.out _ (hS2.drewN 1)
  have hE3 : Hid (EffR B w w2.drew) := hE2.drewN 1
  have hb53 : Hid (Blk w2.drew g5 3 CB) := hb5
  have hb63 : Hid (Blk w2.drew g6 3 CM) := hb6
  have hd : Hid (∀ w3, EffR B w2.drew w3 → (w3.cell? ⟨g5, k, none⟩ = some (.int .i64 (b : Int)) ∧ w3.cell? ⟨g6, k, none⟩ = some (.int .i64 (m : Int)))) := fun w3 h4 =>
    ⟨by rw [(h4.blk hb53.out (by decide) (by decide)).cell]; exact hkb.out, by rw [(h4.blk hb63.out (by decide) (by decide)).cell]; exact hkm.out⟩
  unfold TakeR at htk2
  obtain ⟨X, hX⟩ : ∃ X, X = leN ((L.drop p).take m) := ⟨_, rfl⟩
  rw [← hX] at htk2 hX32
  have hkI : (k : Int) < 29 := by omega
  have hk0 : (0 : Int) ≤ (k : Int) := by omega
  obtain ⟨Y, hY⟩ : ∃ Y, Y = b + X := ⟨_, rfl⟩
  have hwY : IntKind.i64.wrap ((b : Int) + (X : Int)) = (Y : Int) := by rw [IntWalk.i64_in _ (by omega)]; omega
  replace hX := hide hX
  replace hY := hide hY
  clear hg5 hg6 hb5 hb6 hS2 hE2 htk
  go_region_held3 (fun w' => w'.cell? ⟨g5, k, none⟩ = some (.int .i64 (b : Int)) ∧ w'.cell? ⟨g6, k, none⟩ = some (.int .i64 (m : Int))) (first | exact ⟨c5, c6⟩ | exact ⟨by assumption, by assumption⟩) ((go_at_call 22; refine htk2.out.mono ?_; rintro e w3 ⟨rfl, hS4, hE4⟩; obtain ⟨d5, d6⟩ := hd.out w3 hE4; replace hS4 := hide hS4; replace hE4 := hide hE4))
  all_goals
    go_wp2_with fail
    go_ret
    exact ⟨by rw [← hX.out, ← hY.out]; rfl, hS4.out, hE3.out.trans hE4.out⟩
set_option maxRecDepth 100000 in
set_option maxHeartbeats 2000000 in
theorem far_any (w : World) (B gs : Nat) (vb vo : Value) (L : List Nat) (p k b m : Nat) (out : List UInt8) (h : StAt w B gs vb vo L p out) (hp : p + m ≤ L.length) (hpl : p < L.length) (hk : k < 30) (hb : farB.getD k 0 = (b : Int)) (hm : m = if k < 4 then 0 else k / 2 - 1) (hbs : b ≤ 40000) (h2 : ∀ b ∈ L, b < 2) (hl : L.length ≤ 100000000) :
    Calls Tryz.prog 53 #[.pointer (some ⟨gs, 0, none⟩), .int .i64 (k : Int)] w (SpanR w B gs vb vo L p b m out) := by
  obtain ⟨CB, hCB⟩ : ∃ C, C = (farB.map (Value.int .i64)).toArray := ⟨_, rfl⟩
  have hkb : Hid (CB[k]? = some (.int .i64 (b : Int))) := by rw [Hid, hCB, tab_at farB k hk, hb]
  have hsz := hide h.size
  have hm13 : m ≤ 13 := by rw [hm]; split <;> omega
  replace hCB := hide hCB
  replace hb := hide hb
  have hv := leN_lt ((L.drop p).take m) (fun b hb => h2 b (List.mem_of_mem_drop (List.mem_of_mem_take hb)))
  have hv2 : 2 ^ ((L.drop p).take m).length ≤ 2 ^ 13 := Nat.pow_le_pow_right (by omega) (Nat.le_trans (List.length_take_le _ _) hm13)
  have e5 : (2 : Nat) ^ 13 = 8192 := by decide
  have hX32 : leN ((L.drop p).take m) < 8192 := by omega
  have htk2 : Hid (Calls Tryz.prog 22 #[.pointer (some ⟨gs, 0, none⟩), .int .i64 (m : Int)] (w.alloc (.cells CB 3)).drew (TakeR (w.alloc (.cells CB 3)).drew B gs vb vo L p m out)) :=
    take_any _ B gs vb vo L p m out (m : Int) rfl ((h.alloc (.cells CB 3)).drewN 1) hp hpl (by omega) h2 hl
  have hb5 := (Blk.new w 3 CB)
  have hE2 := ((EffR.refl B w).alloc hsz.out (.cells CB 3))
  clear hv hv2 e5
  replace h2 := hide h2
  replace h := hide h
  obtain ⟨g5, hg5⟩ : ∃ g5, g5 = w.heap.size := ⟨_, rfl⟩
  obtain ⟨w2, hw2⟩ : ∃ w2, w2 = w.alloc (.cells CB 3) := ⟨_, rfl⟩
  rw [← hw2] at htk2 hE2 hb5
  rw [← hg5] at hb5
  have c5 : w2.cell? ⟨g5, k, none⟩ = some (.int .i64 (b : Int)) := by rw [hb5.cell]; exact hkb.out
  have hE3 : Hid (EffR B w w2.drew) := hE2.drewN 1
  have hb53 : Hid (Blk w2.drew g5 3 CB) := hb5
  have hd : Hid (∀ w3, EffR B w2.drew w3 → w3.cell? ⟨g5, k, none⟩ = some (.int .i64 (b : Int))) := fun w3 h4 => by rw [(h4.blk hb53.out (by decide) (by decide)).cell]; exact hkb.out
  unfold TakeR at htk2
  obtain ⟨X, hX⟩ : ∃ X, X = leN ((L.drop p).take m) := ⟨_, rfl⟩
  rw [← hX] at htk2 hX32
  have hkI : (k : Int) < 30 := by omega
  have hk0 : (0 : Int) ≤ (k : Int) := by omega
  obtain ⟨Y, hY⟩ : ∃ Y, Y = b + X := ⟨_, rfl⟩
  have hwY : IntKind.i64.wrap ((b : Int) + (X : Int)) = (Y : Int) := by rw [IntWalk.i64_in _ (by omega)]; omega
  replace hX := hide hX
  replace hY := hide hY
  replace hw2 := hide hw2
  replace hg5 := hide hg5
  clear hb5 hE2
  by_cases h4 : k < 4
  · rw [if_pos h4] at hm
    subst hm
    have h4I : ¬ (4 : Int) ≤ (k : Int) := by omega
    go_enter Tryz.func53, Tryz.ntmps53
    go_upto_region 2 with (refine wpList_tabI rfl 30 _ rfl farB rfl rfl (by omega) (by omega) (some 7) rfl CB hCB.out ?_)
    rw [← hw2.out, ← hg5.out]
    go_upto_region 5 with (fail)
    go_region_held3 (fun w' => w'.cell? ⟨g5, k, none⟩ = some (.int .i64 (b : Int))) (first | exact c5 | exact hd.out _ (by assumption) | assumption) ((go_at_call 22; refine htk2.out.mono ?_; rintro e w3 ⟨rfl, hS4, hE4⟩; have d5 := hd.out w3 hE4; replace hS4 := hide hS4; replace hE4 := hide hE4))
    all_goals
      go_wp2_with fail
      go_ret
      exact ⟨by rw [← hX.out, ← hY.out]; rfl, hS4.out, hE3.out.trans hE4.out⟩
  · rw [if_neg h4] at hm
    have h4I : (4 : Int) ≤ (k : Int) := by omega
    obtain ⟨D, hD⟩ : ∃ D, D = k / 2 := ⟨_, rfl⟩
    have hdv : (k : Int).tdiv 2 = (D : Int) := by rw [Int.tdiv_eq_ediv_of_nonneg (by omega)]; omega
    have hdv2 : (k : Int) / 2 = (D : Int) := by omega
    have hDI : (D : Int) - 1 = (m : Int) := by omega
    have hDb : D ≤ 15 := by omega
    replace hD := hide hD
    replace hm := hide hm
    go_enter Tryz.func53, Tryz.ntmps53
    go_upto_region 2 with (refine wpList_tabI rfl 30 _ rfl farB rfl rfl (by omega) (by omega) (some 7) rfl CB hCB.out ?_)
    rw [← hw2.out, ← hg5.out]
    go_upto_region 5 with (fail)
    go_region_held3 (fun w' => w'.cell? ⟨g5, k, none⟩ = some (.int .i64 (b : Int))) (first | exact c5 | exact hd.out _ (by assumption) | assumption) ((go_at_call 22; refine htk2.out.mono ?_; rintro e w3 ⟨rfl, hS4, hE4⟩; have d5 := hd.out w3 hE4; replace hS4 := hide hS4; replace hE4 := hide hE4))
    all_goals
      go_wp2_with fail
      go_ret
      exact ⟨by rw [← hX.out, ← hY.out]; rfl, hS4.out, hE3.out.trans hE4.out⟩
end Go.Proofs.YtbchaomnjbkdhaaGreat
namespace Go.Proofs.YtbchaomnjbkdhaaGreat
open Go.RowKit Go.Sort Go.Proofs
set_option linter.unusedVariables false
theorem run_fill (A : Option Addr) (n c : Nat) (b : Int) (w : World) : (Instr.field 93 (.agg #[.slice A n c, .int .i64 b]) 1).run Tryz.prog w = .ok (.int .i64 b) w := by kernel_rfl
set_option maxRecDepth 100000 in
set_option maxHeartbeats 1000000 in
theorem may_any (w : World) (A : Option Addr) (n c : Nat) (ls : List Nat) (b : Bool) (h : RN w w.heap.size A n ls) (hok : codeOk ls) (h0 : 0 < n) (hn : n ≤ 320) (hm : endC ls 15 = 32768 ∨ ls.sum = 1 ∨ (b = true ∧ ls.sum = 0)) :
    Calls Tryz.prog 54 #[.slice A n c, .bool b] w fun e w' => e = .returned (.bool true) ∧ Below w.heap.size w w' := by
  have hnew := hide (new5_any w A n c ls h hok h0 hn)
  have hs := hide (fun (wz : World) (hb : Below w.heap.size w wz) => sum_any wz A n c ls ((h.below hb).more hb.size) hok.1 (by omega))
  replace h := hide h
  replace hok := hide hok
  obtain ⟨S, hS⟩ : ∃ S, S = ls.sum := ⟨_, rfl⟩
  rw [← hS] at hs hm
  replace hS := hide hS
  go_enter Tryz.func54, Tryz.ntmps54
  go_wp2_with fail
  refine hnew.out.mono ?_
  rintro e w1 ⟨g, f, rfl, hC, hf, hb⟩
  have hs1 := hide (hs.out w1 hb)
  replace hC := hide hC
  replace hb := hide hb
  clear hs hnew
  by_cases he : endC ls 15 = 32768
  · rw [if_pos he] at hf
    subst hf
    clear he hm
    have hfl := run_fill (some ⟨g, 0, none⟩) n n 0 w1
    go_wp2_with fail
    go_ret
    exact ⟨rfl, hb.out⟩
  · rw [if_neg he] at hf
    subst hf
    have hm2 : S = 1 ∨ (b = true ∧ S = 0) := by
      rcases hm with h | h
      · exact absurd h he
      · exact h
    clear he hm
    have hfl := run_fill (some ⟨g, 0, none⟩) n n 1 w1
    rcases hm2 with rfl | ⟨rfl, rfl⟩
    · go_wp2_with fail
      refine hs1.out.mono ?_
      rintro e w2 ⟨rfl, rfl⟩
      go_wp2_with fail
      go_ret
      exact ⟨rfl, hb.out⟩
    · go_wp2_with fail
      refine hs1.out.mono ?_
      rintro e w2 ⟨rfl, rfl⟩
      go_wp2_with fail
      refine hs1.out.mono ?_
      rintro e w2 ⟨rfl, rfl⟩
      go_wp2_with fail
      go_ret
      exact ⟨rfl, hb.out⟩
theorem take_snocN (l : List Nat) (i : Nat) (h : i < l.length) (x : Nat) (hx : l.getD i 0 = x) : l.take (i + 1) = l.take i ++ [x] := by
  rw [List.take_succ_eq_append_getElem h, ← hx, List.getD_eq_getElem?_getD, List.getElem?_eq_getElem h]; rfl
set_option maxRecDepth 100000 in
set_option maxHeartbeats 1000000 in
theorem fixedLits_any (w : World) : Calls Tryz.prog 25 #[] w (IntsRet w fixedLits) := by
  have hll : Hid (fixedLits.length = 288) := by rw [Hid, fixedLits, List.length_append, List.length_append, List.length_append, List.length_replicate, List.length_replicate, List.length_replicate, List.length_replicate]
  go_enter Tryz.func25, Tryz.ntmps25
  go_wp2_with fail
  go_loopw [1, 2] (fun v1 v2 wr => ∃ i : Nat, v2 = .int .i64 (i : Int) ∧ i ≤ 288 ∧ Hid (ON wr w.heap.size v1 i (fixedLits.take i)) ∧ Hid (Below w.heap.size w wr)) (fun _ v2 _ => 288 - (intOf v2).toNat)
  case atStart => exact ⟨0, rfl, Nat.zero_le _, OE.nil _ _, Below.refl _ _⟩
  case round =>
    obtain ⟨i, rfl, hi, hO, hB⟩ := hrel
    by_cases hlt : i < 288
    · have hx := lit_at i hlt
      have hbs := hide hB.out.size
      have hiI : (i : Int) < 288 := by omega
      have hi0 : (0 : Int) ≤ (i : Int) := by omega
      have hts : Hid (∀ x, fixedLits.getD i 0 = x → fixedLits.take (i + 1) = fixedLits.take i ++ [x]) := fun x hx => take_snocN _ i (by rw [hll.out]; exact hlt) x hx
      obtain ⟨A1, c1, hv1, -⟩ := hO.out.rn
      subst hv1
      by_cases h1 : i < 144
      · rw [if_pos h1] at hx
        have ht := hts.out _ hx
        have h1I : (i : Int) < 144 := by omega
        have h1D : ¬ (144 : Int) ≤ (i : Int) := by omega
        have h2D : ¬ (256 : Int) ≤ (i : Int) := by omega
        replace ht := hide ht
        clear hx hts
        go_wp2_with (at_builtin; refine wpList_app_i 8 rfl rfl (.tmp 20) (.tmp 22) rfl w.heap.size _ _ _ hO.out rfl 1 rfl (by omega) hbs.out ?_; intro v2 w2 ho2 hb2 _ _; have hO2 := hide ho2; have hB2 := hide (hB.out.trans hb2); clear ho2 hb2)
        go_roundw
        case rel => exact ⟨i + 1, by go_num, hlt, by rw [ht.out]; exact hO2, hB2⟩
        case measure => simp [intOf]; omega
      · rw [if_neg h1] at hx
        have h1D : (144 : Int) ≤ (i : Int) := by omega
        by_cases h2 : i < 256
        · rw [if_pos h2] at hx
          have ht := hts.out _ hx
          have h2I : (i : Int) < 256 := by omega
          have h2D : ¬ (256 : Int) ≤ (i : Int) := by omega
          replace ht := hide ht
          clear hx hts
          go_wp2_with (at_builtin; refine wpList_app_i 9 rfl rfl (.tmp 20) (.tmp 22) rfl w.heap.size _ _ _ hO.out rfl 1 rfl (by omega) hbs.out ?_; intro v2 w2 ho2 hb2 _ _; have hO2 := hide ho2; have hB2 := hide (hB.out.trans hb2); clear ho2 hb2)
          go_roundw
          case rel => exact ⟨i + 1, by go_num, hlt, by rw [ht.out]; exact hO2, hB2⟩
          case measure => simp [intOf]; omega
        · rw [if_neg h2] at hx
          have h2I : ¬ (i : Int) < 256 := by omega
          have h2D : (256 : Int) ≤ (i : Int) := by omega
          by_cases h3 : i < 280
          · rw [if_pos h3] at hx
            have ht := hts.out _ hx
            have h3I : (i : Int) < 280 := by omega
            replace ht := hide ht
            clear hx hts
            go_wp2_with (at_builtin; refine wpList_app_i 7 rfl rfl (.tmp 20) (.tmp 22) rfl w.heap.size _ _ _ hO.out rfl 1 rfl (by omega) hbs.out ?_; intro v2 w2 ho2 hb2 _ _; have hO2 := hide ho2; have hB2 := hide (hB.out.trans hb2); clear ho2 hb2)
            go_roundw
            case rel => exact ⟨i + 1, by go_num, hlt, by rw [ht.out]; exact hO2, hB2⟩
            case measure => simp [intOf]; omega
          · rw [if_neg h3] at hx
            have ht := hts.out _ hx
            have h3I : ¬ (i : Int) < 280 := by omega
            replace ht := hide ht
            clear hx hts
            go_wp2_with (at_builtin; refine wpList_app_i 8 rfl rfl (.tmp 20) (.tmp 22) rfl w.heap.size _ _ _ hO.out rfl 1 rfl (by omega) hbs.out ?_; intro v2 w2 ho2 hb2 _ _; have hO2 := hide ho2; have hB2 := hide (hB.out.trans hb2); clear ho2 hb2)
            go_roundw
            case rel => exact ⟨i + 1, by go_num, hlt, by rw [ht.out]; exact hO2, hB2⟩
            case measure => simp [intOf]; omega
    · obtain rfl : i = 288 := by omega
      have hO2 : Hid (ON wr w.heap.size u1 288 fixedLits) := by
        have := hO.out; rwa [List.take_of_length_le (by rw [hll.out]; exact Nat.le_refl _)] at this
      go_wp2_with fail
      go_ret
      exact IntsRet.mk hO2.out rfl hB.out
set_option maxRecDepth 100000 in
set_option maxHeartbeats 1000000 in
theorem fixedDist_any (w : World) : Calls Tryz.prog 26 #[] w (IntsRet w fixedD32) := by
  go_enter Tryz.func26, Tryz.ntmps26
  go_wp2_with fail
  go_loopw [1, 2] (fun v1 v2 wr => ∃ i : Nat, v2 = .int .i64 (i : Int) ∧ i ≤ 32 ∧ Hid (ON wr w.heap.size v1 i (List.replicate i 5)) ∧ Hid (Below w.heap.size w wr)) (fun _ v2 _ => 32 - (intOf v2).toNat)
  case atStart => exact ⟨0, rfl, Nat.zero_le _, OE.nil _ _, Below.refl _ _⟩
  case round =>
    obtain ⟨i, rfl, hi, hO, hB⟩ := hrel
    by_cases hlt : i < 32
    · have hbs := hide hB.out.size
      have hiI : (i : Int) < 32 := by omega
      have ht : Hid (List.replicate (i + 1) 5 = List.replicate i 5 ++ [5]) := List.replicate_succ'
      obtain ⟨A1, c1, hv1, -⟩ := hO.out.rn
      subst hv1
      go_wp2_with (at_builtin; refine wpList_app_i 5 rfl rfl (.tmp 7) (.tmp 8) rfl w.heap.size _ _ _ hO.out rfl 1 rfl (by omega) hbs.out ?_; intro v2 w2 ho2 hb2 _ _; have hO2 := hide ho2; have hB2 := hide (hB.out.trans hb2); clear ho2 hb2)
      go_roundw
      case rel => exact ⟨i + 1, by go_num, hlt, by rw [ht.out]; exact hO2, hB2⟩
      case measure => simp [intOf]; omega
    · obtain rfl : i = 32 := by omega
      have hO2 : Hid (ON wr w.heap.size u1 32 fixedD32) := hO.out
      go_wp2_with fail
      go_ret
      exact IntsRet.mk hO2.out rfl hB.out
end Go.Proofs.YtbchaomnjbkdhaaGreat
