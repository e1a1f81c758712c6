/-
  Contract of the reference's Stored.
-/
import Derived.Test.YtenmckkppcanmaaPack
namespace Go.Proofs.Ytenmckkppcanmaa
open Go.RowKit
set_option linter.unusedVariables false

/-- What is still to come from a place on. -/
def restS (n f p : Nat) (b : List UInt8) : List UInt8 := if p = 0 ∨ p < n then storedS f (b.drop p) else []
theorem RB.five (w : World) (t : TypeId) (x0 x1 x2 x3 x4 : Int) (l : List UInt8) (h : l.map (fun b : UInt8 => (b.toNat : Int)) = [x0, x1, x2, x3, x4]) :
    RB (w.alloc (.cells #[.int .u8 x0, .int .u8 x1, .int .u8 x2, .int .u8 x3, .int .u8 x4] t)) (w.heap.size + 1) (some ⟨w.heap.size, 0, none⟩) 5 l := by
  have hl : l.length = 5 := by have := congrArg List.length h; simpa using this
  have hv : bv l = [.int .u8 x0, .int .u8 x1, .int .u8 x2, .int .u8 x3, .int .u8 x4] := by
    have e : bv l = (l.map (fun b : UInt8 => (b.toNat : Int))).map (fun z => Value.int .u8 z) := by simp [bv]
    rw [e, h]; rfl
  refine ⟨by rw [hv]; rfl, fun _ => ⟨_, rfl, Nat.lt_succ_self _, fun j u hj => ?_⟩⟩
  rw [hv] at hj
  have hc := cell_of_row _ _ j _ t (0, 0) (heap_alloc_new w (.cells #[.int .u8 x0, .int .u8 x1, .int .u8 x2, .int .u8 x3, .int .u8 x4] t))
  have e : (Addr.mk w.heap.size 0 none).add j = ⟨w.heap.size, j, none⟩ := by
    unfold Addr.add
    by_cases h0 : j = 0
    · subst h0; rfl
    · rw [if_neg h0]; simp
  rw [e, hc]
  simpa using hj
theorem headS_vals (k last : Nat) (P : Int) (hP : P = (k : Int)) (hk : k ≤ 65535) (hl : last ≤ 1) :
    (headS k last).map (fun b : UInt8 => (b.toNat : Int)) = [(last : Int), P % 256, P / 256, (65535 - P) % 256, (65535 - P) / 256] := by
  subst hP
  simp only [headS, List.map_cons, List.map_nil, UInt8.toNat_ofNat']
  refine List.cons_eq_cons.2 ⟨by omega, List.cons_eq_cons.2 ⟨by omega, List.cons_eq_cons.2 ⟨by omega, List.cons_eq_cons.2 ⟨by omega, List.cons_eq_cons.2 ⟨by omega, rfl⟩⟩⟩⟩⟩
theorem own_len {w : World} {base n m : Nat} {A : Option Addr} {c : Nat} {l : List UInt8} (h : OB w base (.slice A n c) n l) (e : l.length = m) : OB w base (.slice A m c) l.length l := by
  have := h.len
  subst e
  rw [this]; exact h
/-- A block: from p to E. -/
def BlockS (n p E k last : Nat) : Prop := E = p + k ∧ E ≤ n ∧ k ≤ 65535 ∧ ((last = 1 ∧ E = n) ∨ (last = 0 ∧ k = 65535 ∧ E < n))
theorem rest_step {n f p k last : Nat} {b : List UInt8} (hb : b.length = n) (hc : p = 0 ∨ p < n) (hk : k ≤ 65535) (hp : p ≤ n) (hl : (last = 1 ∧ p + k = n) ∨ (last = 0 ∧ k = 65535 ∧ p + k < n)) :
    restS n (f + 1) p b = headS k last ++ (b.drop p).take k ++ restS n f (p + 65535) b := by
  rw [restS, if_pos hc]
  rcases hl with ⟨rfl, h⟩ | ⟨rfl, rfl, h⟩
  · have hd : (b.drop p).length = k := by rw [List.length_drop]; omega
    rw [storedS_last _ _ (by omega), hd, List.take_of_length_le (by omega), restS, if_neg (by omega), List.append_nil]
  · have hd : 65535 < (b.drop p).length := by rw [List.length_drop]; omega
    rw [storedS_more _ _ hd, restS, if_pos (.inr (by omega)), List.drop_drop, List.append_assoc]
set_option maxRecDepth 100000 in
set_option maxHeartbeats 4000000 in
theorem rstored_any (w : World) (A : Option Addr) (n c : Nat) (b : List UInt8) (hb : RB w w.heap.size A n b) (hnc : n ≤ c) (hn : n ≤ 1000000) :
    Calls Try.prog 7 #[.slice A n c] w (RetB w (storedS (n + 1) b)) := by
  have hlen := hb.len
  replace hb := hide hb
  replace hlen := hide hlen
  go_enter Try.func7, Try.ntmps7
  go_wp2_with fail
  go_loopw [3, 4] (fun v q wr => ∃ (p f : Nat) (done : List UInt8), q = .int .i64 p ∧ OB wr w.heap.size v done.length done ∧ Hid (storedS (n + 1) b = done ++ restS n f p b) ∧ n < f + p ∧ p ≤ n + 65535 ∧ done.length ≤ 6 * p + 5 ∧ Below w.heap.size w wr)
    (fun _ q _ => n + 65536 - (intOf q).toNat)
  case atStart => exact ⟨0, n + 1, [], rfl, OB.nil _ _, by rw [restS, if_pos (.inl rfl)]; rfl, by omega, by omega, by simp, Below.refl _ _⟩
  case round =>
    obtain ⟨p, f, done, rfl, hO, hst, hf, hp, hdl, hbl⟩ := hrel
    obtain ⟨vA, vc, rfl, -, -, -, -⟩ := hO.form
    replace hO := hide hO
    by_cases hc : p = 0 ∨ p < n
    · have hcc : ((p : Int) == 0 || decide ((p : Int) < (n : Int))) = true := by
        rcases hc with h | h
        · subst h; rfl
        · have : decide ((p : Int) < (n : Int)) = true := by simp; omega
          rw [this, Bool.or_true]
      have hpn : p ≤ n := by omega
      have htst : (((p : Int) == 0) = true) ∨ (((p : Int) == 0) = false ∧ (p : Int) < (n : Int)) := by
        by_cases hp0 : p = 0
        · left; rw [beq_iff_eq]; omega
        · right; exact ⟨by rw [beq_eq_false_iff_ne]; omega, by omega⟩
      clear hcc
      replace hc := hide hc
      rcases htst with n1 | ⟨n1, n2⟩
      all_goals
        go_upto_if 23 with (fail)
        go_cut [5, 6] (fun e6 l6 wx => (∃ E k last : Nat, e6 = .int .i64 (E : Int) ∧ l6 = .int .u8 (last : Int) ∧ BlockS n p E k last) ∧ wr = wx)
        case first =>
          by_cases hE : n ≤ p + 65535
          · go_wp2_with fail
            go_meet
            case rel => exact ⟨⟨n, n - p, 1, rfl, rfl, by omega, by omega, by omega, .inl ⟨rfl, rfl⟩⟩, rfl⟩
          · go_wp2_with fail
            go_meet
            case rel => exact ⟨⟨p + 65535, 65535, 0, by go_num, rfl, by omega, by omega, by omega, .inr ⟨rfl, rfl, by omega⟩⟩, rfl⟩
      all_goals
        obtain ⟨⟨E, k, last, rfl, rfl, hB⟩, rfl⟩ := hcut
        obtain ⟨rfl, hEn, hk5, hlast⟩ := hB
        have hl01 : last ≤ 1 := by omega
        replace hlast := hide hlast
        have hhd := hide (headS_vals k last ((p : Int) + (k : Int) - (p : Int)) (by omega) hk5 hl01)
        have hsz := hbl.size
        have hdl2 : done.length ≤ 10000000 := by omega
        have hkc : p + k ≤ c := by omega
        have hsub : Hid (∀ wx, Below w.heap.size w wx → RB wx w.heap.size (if c = p then A else A.map (·.add p)) k ((b.drop p).take k)) := by
          intro wx hx
          have h := Reads.cut (hb.out.below hx) (k := p) (cap := c) hpn hnc
          rw [Nat.mul_one] at h
          have e : (bv b).drop p = bv (b.drop p) := by simp [bv, List.map_drop]
          rw [e] at h
          exact RB.take h (by omega)
        have k1 : (0 : Int) ≤ (p : Int) := by omega
        have k2 : (p : Int) ≤ (p : Int) + (k : Int) := by omega
        have k3 : (p : Int) + (k : Int) ≤ (c : Int) := by omega
        obtain ⟨f, rfl⟩ : ∃ e, f = e + 1 := ⟨f - 1, by omega⟩
        have hstep := hide (rest_step (f := f) hlen.out hc.out hk5 hpn hlast.out)
        have hst2 : Hid (storedS (n + 1) b = (done ++ headS k last ++ (b.drop p).take k) ++ restS n f (p + 65535) b) := by
          rw [Hid, hst.out, hstep.out]; simp
        have hAn : Hid (A = none → n = 0) := by
          intro hA
          rcases Nat.eq_zero_or_pos n with h | h
          · exact h
          · obtain ⟨ad, e, _⟩ := hb.out.2 h
            rw [hA] at e; cases e
        have hD : Hid (((b.drop p).take k).length = k) := by rw [Hid, List.length_take, List.length_drop, hlen.out]; omega
        clear hst hstep
        by_cases hcp : c = p
        all_goals try (exfalso; omega)
        all_goals rcases A with _ | ad
        all_goals
          try
            have h0 := hAn.out rfl
            have hk0 : Hid (k = 0) := by rw [Hid]; omega
            clear h0
          have hsub2 := hsub.out
          first | simp only [if_pos hcp] at hsub2 | simp only [if_neg hcp, Option.map_some, Option.map_none] at hsub2
          generalize (b.drop p).take _ = D at *
          replace hsub2 : Hid (∀ wx m, Below w.heap.size w wx → m = k → RB wx w.heap.size _ m D) := fun wx m hx hm => hm ▸ hsub2 wx hx
          clear hsub hAn
          try
            have hcp' := hcp.symm
            clear hcp
            subst hcp'
          go_wp2_with (first | (at_builtin; refine wpList_app_b rfl (.tmp 29) (.tmp 45) rfl w.heap.size _ _ done (hO.out.alloc _) rfl (wr.heap.size + 1) _ 5 5 (headS k last) rfl (RB.five wr 5 _ _ _ _ _ _ hhd.out) (by omega) (by simp; omega) ?_; intro v2 w2 ho2 hb2 hg2 _; obtain ⟨A2, k22, rfl, -⟩ := ho2.form; replace ho2 := hide ho2; have hb2' := (hbl.alloc hsz _).trans hb2; clear hb2 hg2 hhd hO) | (at_builtin; refine wpList_app_b rfl (.tmp 47) (.tmp 51) rfl w.heap.size _ _ _ ho2.out rfl w.heap.size _ _ _ D rfl (hsub2.out _ _ hb2' (by first | rfl | omega)) (by omega) hb2'.size ?_; intro v3 w3 ho3 hb3 hg3 _; obtain ⟨A3, k33, rfl, -⟩ := ho3.form; replace ho3 := hide ho3; have hb3' := hb2'.trans hb3; clear hb3 hg3 ho2 hsub2 hb2') | (at_builtin; refine wpList_app_b rfl (.tmp 47) (.tmp 51) rfl w.heap.size _ _ _ ho2.out rfl w.heap.size none 0 0 [] rfl (RB.nil _ _) (by omega) hb2'.size ?_; intro v3 w3 ho3 hb3 hg3 _; obtain ⟨A3, k33, rfl, -⟩ := ho3.form; have hD0 : D = [] := List.eq_nil_of_length_eq_zero (by rw [hD.out, hk0.out]); rw [← hD0] at ho3; replace ho3 := hide ho3; have hb3' := hb2'.trans hb3; clear hb3 hg3 ho2 hsub2 hb2' hD0))
          go_roundw
          case rel =>
            refine ⟨p + 65535, f, done ++ headS k last ++ D, by go_num, ?_, hst2, by omega, by omega, ?_, hb3'⟩
            · have e := ho3.out.len
              have h := ho3.out
              exact own_len h (e.trans (by omega))
            · have := hD.out
              rw [List.length_append, List.length_append, headS_len]; omega
          case measure => simp [intOf]; omega
    · have hp0 : ¬ p = 0 := fun h => hc (.inl h)
      have hpn : n ≤ p := by omega
      have hfin : Hid (storedS (n + 1) b = done) := by rw [Hid, hst.out, restS, if_neg hc, List.append_nil]
      have n1 : ((p : Int) == 0) = false := by rw [beq_eq_false_iff_ne]; omega
      clear hc hst
      go_wp2_with fail
      go_ret
      exact RetB.mk2 hO.out hfin.out hbl
end Go.Proofs.Ytenmckkppcanmaa
