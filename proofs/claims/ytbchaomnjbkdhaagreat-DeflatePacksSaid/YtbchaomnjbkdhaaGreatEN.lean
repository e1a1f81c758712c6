/-
  What the unpacker's readings leave of it.
-/
import Derived.Test.YtbchaomnjbkdhaaGreatEInfB
namespace Go.Proofs.YtbchaomnjbkdhaaGreat
open Go.RowKit Go.Sort Go.Proofs
set_option linter.unusedVariables false
/-- The blocks that an unpacker may write, and an error's. -/
def SE (gr gb : Nat) (vo : Value) (ge k : Nat) : Prop := SM gr gb vo k ∨ k = ge
section
variable {a w w' : World} {B gr gb ge : Nat} {vb vo vo' : Value} {l : List UInt8} {p : Nat} {out : List UInt8} {at_ st : Nat} {last : Bool} {left back : Nat} {pl pd : Value}
theorem SE.new (h : Only (SM gr gb vo) a w) (hg : a.heap.size ≤ ge) (h' : Only (SE gr gb vo ge) w w') : Only (SM gr gb vo) a w' :=
  h.trans h' fun i hi hs => by
    rcases hs with hs | hs
    · exact hs
    · omega
theorem SE.of_gb (h : Only (· = gb) w w') : Only (SE gr gb vo ge) w w' := h.mono fun _ _ h => .inl (.inr (.inl h))
theorem SE.trans (h : Only (SE gr gb vo ge) a w) (h' : Only (SE gr gb vo ge) w w') : Only (SE gr gb vo ge) a w' := h.trans h' fun _ _ h => h
/-- What need leaves. -/
def NeedM (w : World) (B gr gb ge : Nat) (vb vo : Value) (l : List UInt8) (p n e0 : Nat) (out : List UInt8) (at_ st : Nat) (last : Bool) (left back : Nat) (pl pd : Value) (e : Ending) (w' : World) : Prop :=
  ∃ v p' e1 : Nat, e = .returned (.int .i64 (v : Int)) ∧ Mach w' B gr gb vb vo l p' out at_ st last left back pl pd ∧ Blk w' ge 24 #[.int .i64 (e1 : Int)] ∧ Only (SE gr gb vo ge) w w' ∧
    ((p + n ≤ 8 * l.length ∧ v = leN (((bytesB l).drop p).take n) ∧ p' = p + n ∧ e1 = e0) ∨ (¬ p + n ≤ 8 * l.length ∧ v = 0 ∧ p' = p ∧ e1 = 3))
theorem need_m (w : World) (ge : Nat) (n e0 : Nat) (h : Mach w B gr gb vb vo l p out at_ st last left back pl pd) (hE : Blk w ge 24 #[.int .i64 (e0 : Int)]) (hp : p ≤ 8 * l.length) (hl : l.length ≤ 10000000) (hn : n ≤ 24) (he0 : e0 = 0 ∨ e0 = 3) :
    Calls Tryz.prog 84 #[.pointer (some ⟨gr, 0, none⟩), .int .i64 (n : Int), .pointer (some ⟨ge, 0, none⟩)] w (NeedM w B gr gb ge vb vo l p n e0 out at_ st last left back pl pd) := by
  have hne : gb ≠ ge := Blk.ne_ h.br.1 hE (by decide)
  refine (need_any w gr gb ge vb _ l p n e0 h.rd rfl h.br hE hp hl hn he0 hne).mono ?_
  rintro e w' (⟨h1, rfl, h2, h3, h4⟩ | ⟨h1, rfl, h2, h3, h4⟩)
  · exact ⟨_, p + n, e0, rfl, h.read h2 h4, h3, SE.of_gb h4, .inl ⟨h1, rfl, rfl, rfl⟩⟩
  · have h5 : (if e0 = 0 then 3 else e0) = 3 := by rcases he0 with rfl | rfl <;> rfl
    rw [h5] at h3
    refine ⟨0, p, 3, rfl, ⟨h4.blk h.rd ?_, h2, h4.row h.ou ?_, h.vbB, h.ap, h.grB, h.gbB⟩, h3, h4.mono fun k _ hk => ?_, .inr ⟨h1, rfl, rfl, rfl⟩⟩
    · rintro (hk | hk)
      · exact h.ne hk
      · exact Blk.ne_ h.rd hE (by decide) hk
    · rintro k hk (hs | hs)
      · exact h.vob (by rw [hk, hs])
      · exact own_blk_ne h.ou hE (by decide) (by rw [hk, hs])
    · rcases hk with hk | hk
      · exact .inl (.inr (.inl hk))
      · exact .inr hk
/-- Codes stay, where bits are read and errors told. -/
theorem Mach.keepE (h : Mach w B gr gb vb vo l p out at_ st last left back pl pd) {cs : Array Value} (hE : Blk w ge 24 cs) (hO : Only (SE gr gb vo ge) w w') (t : TypeId) (h1 : t ≠ 85) (h2 : t ≠ 118) (h3 : t ≠ 5) (h4 : t ≠ 24) : KeepT t w w' :=
  hO.keepT fun k cs hs hb => by
    rcases hs with (rfl | rfl | hs) | rfl
    · exact Blk.ne_ hb h.rd h1 rfl
    · exact Blk.ne_ hb h.br.1 h2 rfl
    · exact own_blk_ne h.ou hb (fun e => h3 e.symm) hs
    · exact Blk.ne_ hb hE h4 rfl
theorem Mach.codeE (h : Mach w B gr gb vb vo l p out at_ st last left back pl pd) {cs : Array Value} (hE : Blk w ge 24 cs) (hO : Only (SE gr gb vo ge) w w') {base g : Nat} {ls : List Nat} (hc : CodeAt w base g ls) : CodeAt w' base g ls :=
  hc.keepT (h.keepE hE hO _ (by decide) (by decide) (by decide) (by decide)) (h.keepE hE hO _ (by decide) (by decide) (by decide) (by decide))
end
def NextX (w : World) (gb : Nat) (v : Value) (l : List UInt8) (p N s : Nat) (a b : Nat) (w' : World) : Prop :=
  (p + N ≤ 8 * l.length ∧ a = s ∧ b = 0 ∧ BRAt w' gb v l (p + N) ∧ Only (· = gb) w w') ∨ (¬ p + N ≤ 8 * l.length ∧ a = 0 ∧ b = 3 ∧ BRAt w' gb v l p ∧ Only (· = gb) w w')
theorem next_x (w : World) (base g gb s p : Nat) (v : Value) (l : List UInt8) (ls : List Nat) (h : CodeAt w base g ls) (hok : codeOk ls) (hs : s < ls.length) (h1 : 1 ≤ ls.getD s 0) (hb : BRAt w gb v l p) (hp : p ≤ 8 * l.length) (hl : l.length ≤ 10000000) (hA : Agr l p (encS ls s)) :
    Calls Tryz.prog 88 #[.pointer (some ⟨g, 0, none⟩), .pointer (some ⟨gb, 0, none⟩)] w fun e w' => ∃ a b : Nat, e = .returned (.tuple #[.int .i64 (a : Int), .int .i64 (b : Int)]) ∧ NextX w gb v l p (ls.getD s 0) s a b w' := by
  refine (next_any w base g gb s p v l ls h hok hs h1 hb hp hl hA).mono ?_
  rintro e w' (⟨h1, rfl, h2, h3⟩ | ⟨h1, rfl, h2, h3⟩)
  · exact ⟨s, 0, rfl, .inl ⟨h1, rfl, rfl, h2, h3⟩⟩
  · exact ⟨0, 3, rfl, .inr ⟨h1, rfl, rfl, h2, h3⟩⟩
theorem NextX.new {w w' : World} {gb : Nat} {v : Value} {l : List UInt8} {p N s a b : Nat} {t : TypeId} {cs : Array Value} (h : NextX (w.alloc (.cells cs t)) gb v l p N s a b w') (hg : gb < w.heap.size) : Blk w' w.heap.size t cs := by
  rcases h with ⟨_, _, _, _, h⟩ | ⟨_, _, _, _, h⟩
  · exact h.blk (Blk.new w t cs) (by omega)
  · exact h.blk (Blk.new w t cs) (by omega)
theorem NextX.blk {w w' : World} {gb g : Nat} {v : Value} {l : List UInt8} {p N s a b : Nat} {t : TypeId} {cs : Array Value} (h : NextX w gb v l p N s a b w') (hb : Blk w g t cs) (hg : g ≠ gb) : Blk w' g t cs := by
  rcases h with ⟨_, _, _, _, h⟩ | ⟨_, _, _, _, h⟩
  · exact h.blk hb hg
  · exact h.blk hb hg
theorem CodeAt.alloc {w : World} {base g : Nat} {ls : List Nat} (h : CodeAt w base g ls) (o : Obj) : CodeAt (w.alloc o) base g ls := h.keepT ((KeepT.refl _ w).alloc o) ((KeepT.refl _ w).alloc o)
theorem BRAt.alloc {w : World} {g : Nat} {v : Value} {l : List UInt8} {p : Nat} (h : BRAt w g v l p) (o : Obj) : BRAt (w.alloc o) g v l p := ⟨h.1.alloc o, h.2.alloc o⟩
end Go.Proofs.YtbchaomnjbkdhaaGreat
namespace Go.Proofs.YtbchaomnjbkdhaaGreat
open Go.RowKit Go.Sort Go.Proofs
set_option linter.unusedVariables false
theorem sum_take (l : List Nat) (i : Nat) (h : i < l.length) : (l.take (i + 1)).sum = (l.take i).sum + l.getD i 0 := by
  rw [List.take_succ_eq_append_getElem h, List.sum_append, List.getD_eq_getElem?_getD, List.getElem?_eq_getElem h]; simp
theorem sum_take_le (l : List Nat) (h15 : ∀ x ∈ l, x ≤ 15) : ∀ i, i ≤ l.length → (l.take i).sum ≤ 15 * i := by
  intro i
  induction i with
  | zero => intro _; simp
  | succ i ih =>
    intro h
    rw [sum_take l i (by omega)]
    have := ih (by omega)
    have := getD_le l 15 h15 i
    omega
set_option maxRecDepth 100000 in
theorem fill_any (w : World) (base g : Nat) (ls : List Nat) (h : CodeAt w base g ls) : Calls Tryz.prog 114 #[.pointer (some ⟨g, 0, none⟩)] w fun e w' => e = .returned (.int .i64 (fillF ls : Int)) ∧ w' = w := by
  obtain ⟨-, V, vl, k1, k2, k3⟩ := h
  have c := k1.fillc
  obtain ⟨F, hF⟩ : ∃ F, F = fillF ls := ⟨_, rfl⟩
  rw [← hF] at c ⊢
  replace k1 := hide k1
  replace k2 := hide k2
  replace k3 := hide k3
  replace hF := hide hF
  go_enter Tryz.func114, Tryz.ntmps114
  go_wp2_with fail
  go_ret
  exact ⟨rfl, rfl⟩
set_option maxRecDepth 100000 in
theorem single_any (w : World) (A : Option Addr) (n c : Nat) (ls : List Nat) (hr : RN w w.heap.size A n ls) (hn : n ≤ 1000) (h15 : ∀ x ∈ ls, x ≤ 15) : Calls Tryz.prog 115 #[.slice A n c] w fun e w' => e = .returned (.bool (decide (ls.sum = 1))) ∧ w' = w := by
  have hlen := hide hr.len
  have hsl := hide (sum_take_le ls h15)
  replace hr := hide hr
  go_enter Tryz.func115, Tryz.ntmps115
  go_wp2_with fail
  go_loopw [3, 8] (fun v3 v8 wx => ∃ i : Nat, v3 = .int .i64 ((ls.take i).sum : Int) ∧ v8 = .int .i64 (i : Int) ∧ i ≤ n ∧ w = wx) (fun _ v8 _ => n - (intOf v8).toNat)
  case atStart => exact ⟨0, rfl, rfl, Nat.zero_le _, rfl⟩
  case round =>
    obtain ⟨i, rfl, rfl, hi, rfl⟩ := hrel
    have hle := hsl.out i (by have := hlen.out; omega)
    by_cases hlt : i < n
    · obtain ⟨ad, e', _, cs⟩ := hr.out.elem hlt
      subst e'
      have hst := sum_take ls i (by have := hlen.out; omega)
      obtain ⟨x, hx⟩ : ∃ x, x = ls.getD i 0 := ⟨_, rfl⟩
      rw [← hx] at cs hst
      have hxb : x ≤ 15 := by rw [hx]; exact getD_le ls 15 h15 i
      obtain ⟨s, hs⟩ : ∃ s, s = (ls.take i).sum := ⟨_, rfl⟩
      rw [← hs] at hst hle ⊢
      have hiI : (i : Int) < (n : Int) := by omega
      have hi0 : (0 : Int) ≤ (i : Int) := by omega
      replace hx := hide hx
      replace hs := hide hs
      replace hst := hide hst
      go_wp2_with fail
      go_roundw
      case rel => exact ⟨i + 1, by rw [hst.out]; push_cast; rfl, by go_num, hlt, (by first | rfl | trivial)⟩
      case measure => simp [intOf]; omega
    · obtain rfl : i = n := by omega
      have he : Hid ((ls.take i).sum = ls.sum) := by rw [Hid, List.take_of_length_le (by have := hlen.out; omega)]
      rw [he.out]
      obtain ⟨S, hS⟩ : ∃ S, S = ls.sum := ⟨_, rfl⟩
      rw [← hS]
      replace hS := hide hS
      go_wp2_with fail
      go_ret
      refine ⟨ret_bool ?_, rfl⟩
      rw [← hS.out]
      by_cases h1 : S = 1
      · rw [decide_eq_true h1]; show ((S : Int) == 1) = true; rw [beq_iff_eq]; omega
      · rw [decide_eq_false h1]; show ((S : Int) == 1) = false; rw [beq_eq_false_iff_ne]; omega
/-- What code returns. -/
def CodeKRet (w : World) (ls : List Nat) (e : Ending) (w' : World) : Prop := ∃ g, e = .returned (.tuple #[.pointer (some ⟨g, 0, none⟩), .int .i64 0]) ∧ CodeAt w' w.heap.size g ls ∧ Below w.heap.size w w'
set_option maxRecDepth 100000 in
set_option maxHeartbeats 1000000 in
theorem code_any (w : World) (ab ao n c : Nat) (ls : List Nat) (none_ : Bool) (hr : RN w w.heap.size (some ⟨ab, ao, none⟩) n ls) (h0 : 0 < n) (hn : n ≤ 320) (hok : codeOk ls) (hmay : fillF ls = 0 ∨ ls.sum = 1 ∨ (none_ = true ∧ ls.sum = 0)) :
    Calls Tryz.prog 97 #[.slice (some ⟨ab, ao, none⟩) n c, .bool none_] w (CodeKRet w ls) := by
  have hlen := hide hr.len
  have hsl := hide (sum_take_le ls hok.1)
  have hnew := hide (new_any w ab ao n c ls hr h0 hn hok)
  have hsg : Hid (∀ wz : World, Below w.heap.size w wz → Calls Tryz.prog 115 #[.slice (some ⟨ab, ao, none⟩) n c] wz fun e w' => e = .returned (.bool (decide (ls.sum = 1))) ∧ w' = wz) := fun wz hb => single_any wz _ n c ls ((hr.below hb).more hb.size) (by omega) hok.1
  have hF01 : fillF ls = 0 ∨ fillF ls = 1 := by unfold fillF; split <;> simp
  replace hr := hide hr
  replace hok := hide hok
  go_enter Tryz.func97, Tryz.ntmps97
  go_wp2_with fail
  refine hnew.out.mono ?_
  rintro e w1 ⟨g, rfl, hC, hB⟩
  have hfl := hide (fill_any w1 _ g ls hC)
  have hr1 := hide ((hr.out.below hB).more hB.size)
  have hsg1 := hide (hsg.out w1 hB)
  replace hC := hide hC
  replace hB := hide hB
  obtain ⟨F, hF⟩ : ∃ F, F = fillF ls := ⟨_, rfl⟩
  rw [← hF] at hmay hF01 hfl
  replace hF := hide hF
  clear hnew hsg hr
  go_wp2_with fail
  go_loopw [8, 20] (fun v8 v20 wx => ∃ i : Nat, v8 = .int .i64 ((ls.take i).sum : Int) ∧ v20 = .int .i64 (i : Int) ∧ i ≤ n ∧ w1 = wx) (fun _ v20 _ => n - (intOf v20).toNat)
  case atStart => exact ⟨0, rfl, rfl, Nat.zero_le _, rfl⟩
  case round =>
    obtain ⟨i, rfl, rfl, hi, rfl⟩ := hrel
    have hle := hsl.out i (by have := hlen.out; omega)
    by_cases hlt : i < n
    · obtain ⟨ad, e', _, cs⟩ := hr1.out.elem hlt
      cases e'
      rw [Addr.add_lit] at cs
      have hst := sum_take ls i (by have := hlen.out; omega)
      obtain ⟨x, hx⟩ : ∃ x, x = ls.getD i 0 := ⟨_, rfl⟩
      rw [← hx] at cs hst
      have hxb : x ≤ 15 := by rw [hx]; exact getD_le ls 15 hok.out.1 i
      obtain ⟨s, hs⟩ : ∃ s, s = (ls.take i).sum := ⟨_, rfl⟩
      rw [← hs] at hst hle ⊢
      have hiI : (i : Int) < (n : Int) := by omega
      have hi0 : (0 : Int) ≤ (i : Int) := by omega
      replace hx := hide hx
      replace hs := hide hs
      replace hst := hide hst
      clear hmay hF01
      go_wp2_with fail
      go_roundw
      case rel => exact ⟨i + 1, by rw [hst.out]; push_cast; rfl, by go_num, hlt, (by first | rfl | trivial)⟩
      case measure => simp [intOf]; omega
    · obtain rfl : i = n := by omega
      have he : Hid ((ls.take i).sum = ls.sum) := by rw [Hid, List.take_of_length_le (by have := hlen.out; omega)]
      rw [he.out]
      obtain ⟨S, hS⟩ : ∃ S, S = ls.sum := ⟨_, rfl⟩
      rw [← hS] at hmay hsg1 ⊢
      replace hS := hide hS
      clear he hle
      rcases hF01 with rfl | rfl
      · clear hmay
        go_wp2_with fail
        refine hfl.out.mono ?_
        rintro e w2 ⟨rfl, rfl⟩
        go_wp2_with fail
        go_ret2
        exact ⟨g, rfl, hC.out, hB.out⟩
      · have hm2 : S = 1 ∨ (none_ = true ∧ S = 0) := by
          rcases hmay with h | h | h
          · omega
          · exact .inl h
          · exact .inr h
        clear hmay
        rcases hm2 with rfl | ⟨rfl, rfl⟩
        · have hd : decide ((1 : Nat) = 1) = true := rfl
          rw [hd] at hsg1
          go_wp2_with fail
          refine hfl.out.mono ?_
          rintro e w2 ⟨rfl, rfl⟩
          go_wp2_with fail
          refine hsg1.out.mono ?_
          rintro e w2 ⟨rfl, rfl⟩
          go_wp2_with fail
          go_ret2
          exact ⟨g, rfl, hC.out, hB.out⟩
        · have hd : decide ((0 : Nat) = 1) = false := rfl
          rw [hd] at hsg1
          go_wp2_with fail
          refine hfl.out.mono ?_
          rintro e w2 ⟨rfl, rfl⟩
          go_wp2_with fail
          refine hsg1.out.mono ?_
          rintro e w2 ⟨rfl, rfl⟩
          go_wp2_with fail
          go_ret2
          exact ⟨g, rfl, hC.out, hB.out⟩
end Go.Proofs.YtbchaomnjbkdhaaGreat
