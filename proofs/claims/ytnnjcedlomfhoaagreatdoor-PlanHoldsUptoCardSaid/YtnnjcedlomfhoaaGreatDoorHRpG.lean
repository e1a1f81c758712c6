/-
  The reference's parser: contract of Deep.
-/
import Derived.Test.YtnnjcedlomfhoaaGreatDoorHRpA
import Derived.Test.YtnnjcedlomfhoaaGreatDoorHB
namespace Go.Proofs.YtnnjcedlomfhoaaGreatDoor
open Go.RowKit
set_option linter.unusedVariables false
theorem at_mid (pre : List Ask) (e : Ask) (post : List Ask) (k : Nat) (hk : k = pre.length) (h : k < (pre ++ e :: post).length) : (pre ++ e :: post)[k] = e := by
  subst hk
  rw [List.getElem_append_right (Nat.le_refl _)]
  simp
theorem depth_size : ∀ q : Q, q.depth ≤ q.size
  | .term _ => Nat.le_refl _
  | .neg q => by have := depth_size q; simp only [Q.depth, Q.size]; omega
  | .two _ x y => by have := depth_size x; have := depth_size y; simp only [Q.depth, Q.size]; omega
set_option maxRecDepth 100000 in
set_option maxHeartbeats 2000000 in
theorem rdeep_any (w : World) (B : Nat) (A : Option Addr) (n c : Nat) (l : List Ask) (h : RA w B A n l) (hn : n ≤ 100000) :
    ∀ (q : Q) (pre post : List Ask) (J : Int), q.plain → l = pre ++ (q.parts pre.length ++ post) → J = (pre.length : Int) + (q.size : Int) - 1 →
    Calls Tryz.prog 30 #[.slice A n c, .int .i64 J] w fun e w' => e = .returned (.int .i64 (q.depth : Int)) ∧ w' = w := by
  have hlen := hide h.len
  intro q
  induction q with
  | term x =>
    intro pre post J hp hl hJ
    have hl2 : l = pre ++ x :: post := by rw [hl]; rfl
    obtain ⟨k, hk⟩ : ∃ k, k = pre.length := ⟨_, rfl⟩
    have hJ2 : J = (k : Int) := by rw [hJ, hk]; simp [Q.size]
    have hkl : k < l.length := by rw [hl2, hk]; simp
    have hkn : k < n := by have := hlen.out; omega
    have hx : l[k] = x := by
      have := at_mid pre x post k hk (by rw [← hl2]; exact hkl)
      simp only [hl2]; exact this
    obtain ⟨ad, rfl, hab, c0, c1, c2, c3, c4, c5, c6⟩ := h.elem hkn hkl
    rw [hx] at c0 c1 c2 c3 c4 c5 c6
    rw [hp.1] at c2
    rw [hp.2] at c3
    subst hJ2
    clear h hl hl2 hx hJ hk
    go_enter Tryz.func30, Tryz.ntmps30
    go_wp2_with fail
    go_ret
    exact ⟨rfl, rfl⟩
  | neg x ih =>
    intro pre post J hp hl hJ
    have hxp := x.size_pos
    have hpl := x.parts_len pre.length
    have hl1 : l = pre ++ (x.parts pre.length ++ (⟨3, 0, (pre.length : Int) + (x.size : Int) - 1, -1, 0, [], false⟩ :: post)) := by rw [hl, Q.parts, List.append_assoc]; rfl
    have hl2 : l = (pre ++ x.parts pre.length) ++ (⟨3, 0, (pre.length : Int) + (x.size : Int) - 1, -1, 0, [], false⟩ :: post) := by rw [hl1, List.append_assoc]
    have IH := hide (ih pre _ _ hp hl1 rfl)
    obtain ⟨k, hk⟩ : ∃ k, k = (pre ++ x.parts pre.length).length := ⟨_, rfl⟩
    have hk2 : k = pre.length + x.size := by rw [hk, List.length_append, hpl]
    have hJ2 : J = (k : Int) := by rw [hJ, hk2]; simp [Q.size]; omega
    have hkl : k < l.length := by rw [hl2, hk]; simp
    have hkn : k < n := by have := hlen.out; omega
    have hx : l[k] = ⟨3, 0, (pre.length : Int) + (x.size : Int) - 1, -1, 0, [], false⟩ := by
      have := at_mid _ _ post k hk (by rw [← hl2]; exact hkl)
      simp only [hl2]; exact this
    obtain ⟨ad, rfl, hab, c0, c1, c2, c3, c4, c5, c6⟩ := h.elem hkn hkl
    rw [hx] at c0 c1 c2 c3 c4 c5 c6
    subst hJ2
    obtain ⟨P, hP⟩ : ∃ P : Int, P = (pre.length : Int) + (x.size : Int) - 1 := ⟨_, rfl⟩
    rw [← hP] at IH c2
    have hP0 : 0 ≤ P := by omega
    have hdl := hide (show ((x.depth + 1 : Nat) : Int) = (x.depth : Int) + 1 from by omega)
    have hdb := depth_size x
    have hdb2 : x.depth ≤ 100000 := by omega
    clear h hl hl1 hl2 hx hJ hk hP hk2 ih hpl hdb
    go_enter Tryz.func30, Tryz.ntmps30
    go_wp2_with fail
    refine IH.out.mono ?_
    rintro e w2 ⟨rfl, rfl⟩
    go_wp2_with fail
    go_ret
    exact ⟨ret_int (by show _ = ((x.depth + 1 : Nat) : Int); rw [hdl.out]), rfl⟩
  | two kk x y ihx ihy =>
    intro pre post J hp hl hJ
    have hxp := x.size_pos
    have hyp := y.size_pos
    have hpl := x.parts_len pre.length
    have hpl2 : (pre ++ x.parts pre.length).length = pre.length + x.size := by rw [List.length_append, hpl]
    have hpl3 := y.parts_len (pre.length + x.size)
    have hl1 : l = pre ++ (x.parts pre.length ++ (y.parts (pre.length + x.size) ++ (⟨kk, 0, (pre.length : Int) + (x.size : Int) - 1, (pre.length : Int) + (x.size : Int) + (y.size : Int) - 1, 0, [], false⟩ :: post))) := by
      rw [hl, Q.parts]; simp only [List.append_assoc, List.cons_append, List.nil_append]
    have hl2 : l = (pre ++ x.parts pre.length) ++ (y.parts (pre ++ x.parts pre.length).length ++ (⟨kk, 0, (pre.length : Int) + (x.size : Int) - 1, (pre.length : Int) + (x.size : Int) + (y.size : Int) - 1, 0, [], false⟩ :: post)) := by
      rw [hl1, hpl2, List.append_assoc]
    have hl3 : l = (pre ++ x.parts pre.length ++ y.parts (pre.length + x.size)) ++ (⟨kk, 0, (pre.length : Int) + (x.size : Int) - 1, (pre.length : Int) + (x.size : Int) + (y.size : Int) - 1, 0, [], false⟩ :: post) := by
      rw [hl1]; simp only [List.append_assoc]
    have IX := hide (ihx pre _ _ hp.1 hl1 rfl)
    have IY := hide (ihy _ _ _ hp.2 hl2 rfl)
    rw [hpl2] at IY
    obtain ⟨k, hk⟩ : ∃ k, k = (pre ++ x.parts pre.length ++ y.parts (pre.length + x.size)).length := ⟨_, rfl⟩
    have hk2 : k = pre.length + x.size + y.size := by rw [hk, List.length_append, hpl2, hpl3]
    have hJ2 : J = (k : Int) := by rw [hJ, hk2]; simp [Q.size]; omega
    have hkl : k < l.length := by rw [hl3, hk]; simp
    have hkn : k < n := by have := hlen.out; omega
    have hx : l[k] = ⟨kk, 0, (pre.length : Int) + (x.size : Int) - 1, (pre.length : Int) + (x.size : Int) + (y.size : Int) - 1, 0, [], false⟩ := by
      have := at_mid _ _ post k hk (by rw [← hl3]; exact hkl)
      simp only [hl3]; exact this
    obtain ⟨ad, rfl, hab, c0, c1, c2, c3, c4, c5, c6⟩ := h.elem hkn hkl
    rw [hx] at c0 c1 c2 c3 c4 c5 c6
    subst hJ2
    rw [show (((pre.length + x.size : Nat) : Int)) = (pre.length : Int) + (x.size : Int) from by omega] at IY
    obtain ⟨P, hP⟩ : ∃ P : Int, P = (pre.length : Int) + (x.size : Int) - 1 := ⟨_, rfl⟩
    obtain ⟨R, hR⟩ : ∃ P : Int, P = (pre.length : Int) + (x.size : Int) + (y.size : Int) - 1 := ⟨_, rfl⟩
    rw [← hP] at IX c2
    rw [← hR] at IY c3
    have hP0 : 0 ≤ P := by omega
    have hR0 : 0 ≤ R := by omega
    have hdx := depth_size x
    have hdy := depth_size y
    have hb1 : x.depth ≤ 100000 := by omega
    have hb2 : y.depth ≤ 100000 := by omega
    have hdd := hide (show ((max x.depth y.depth + 1 : Nat) : Int) = if (y.depth : Int) > (x.depth : Int) then (y.depth : Int) + 1 else (x.depth : Int) + 1 from by split <;> omega)
    clear h hl hl1 hl2 hl3 hx hJ hk hP hR hk2 ihx ihy hpl hpl2 hpl3 hdx hdy
    go_enter Tryz.func30, Tryz.ntmps30
    go_wp2_with fail
    refine IX.out.mono ?_
    rintro e w2 ⟨rfl, rfl⟩
    go_wp2_with fail
    refine IY.out.mono ?_
    rintro e w3 ⟨rfl, rfl⟩
    by_cases cd : (x.depth : Int) < (y.depth : Int)
    · have hd2 := hdd.out
      rw [if_pos cd] at hd2
      replace hd2 := hide hd2
      clear hdd
      go_wp2_with fail
      go_ret
      exact ⟨ret_int (by show _ = ((max x.depth y.depth + 1 : Nat) : Int); rw [hd2.out]), rfl⟩
    · have hd2 := hdd.out
      rw [if_neg cd] at hd2
      replace hd2 := hide hd2
      clear hdd
      go_wp2_with fail
      go_ret
      exact ⟨ret_int (by show _ = ((max x.depth y.depth + 1 : Nat) : Int); rw [hd2.out]), rfl⟩
end Go.Proofs.YtnnjcedlomfhoaaGreatDoor
