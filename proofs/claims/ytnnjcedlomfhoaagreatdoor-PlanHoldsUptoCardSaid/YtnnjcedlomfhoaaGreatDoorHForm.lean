/-
  What normal form a text's question has, in plain Lean; the contract of inquestlaw26.form.
-/
import Derived.Test.YtnnjcedlomfhoaaGreatDoorHNormH
import Derived.Test.YtnnjcedlomfhoaaGreatDoorHRpH
import Derived.Test.YtnnjcedlomfhoaaGreatDoorHRErr
import Derived.Test.YtnnjcedlomfhoaaGreatDoorHHoldP
namespace Go.Proofs.YtnnjcedlomfhoaaGreatDoor
open Go.RowKit
set_option linter.unusedVariables false
theorem okQ_ops' : ∀ (q : Q) (p : Nat), okQ q → ∀ x ∈ q.parts p, 9 ≤ x.kind ∨ 1 ≤ x.op ∨ x.kind < 4
  | .term a, p, h, x, hx => by
    have e : x = a := by simpa [Q.parts] using hx
    subst e
    obtain ⟨h1, -⟩ := h
    rcases h1 with ⟨h4, -⟩ | ⟨h4, h5, h6, -⟩
    · omega
    · omega
  | .neg q, p, h, x, hx => by
    rw [Q.parts] at hx
    rcases List.mem_append.1 hx with hx | hx
    · exact okQ_ops' q p h x hx
    · simp at hx; subst hx; right; right; show (3 : Int) < 4; omega
  | .two k y z, p, h, x, hx => by
    have hk := h.1
    rw [Q.parts, List.mem_append, List.mem_append] at hx
    rcases hx with hx | hx | hx
    · exact okQ_ops' y p h.2.1 x hx
    · exact okQ_ops' z _ h.2.2 x hx
    · simp at hx; subst hx; right; right; show k < 4; omega
theorem lay_size (q : Q) (t : Bool) : (layQ told1 q t).size ≤ q.size := by
  rw [layQ_map]
  have := turnQ_size (mapQ told1 q) t
  rw [mapQ_size] at this
  exact this
theorem told1_abs' (a : Ask) : (told1 a).kind = a.kind := by
  unfold told1 toldR
  split
  · rfl
  · split
    · rfl
    · split <;> rfl
theorem flat_lay' : ∀ (q : Q) (t : Bool), okQ q → flatQ (layQ told1 q t)
  | .term a, t, h => by
    obtain ⟨h1, -⟩ := h
    have e3 := told1_abs' a
    have hk : 4 ≤ a.kind := by rcases h1 with ⟨e, -⟩ | ⟨e, -⟩ <;> omega
    have hj : ∀ x : Ask, x.kind = a.kind → jointB x = false := by intro x hx; simp [jointB, hx]; omega
    cases t
    · exact hj _ e3
    · exact hj _ e3
  | .neg q, t, h => flat_lay' q (!t) h
  | .two k x y, t, h => ⟨by rcases h.1 with e | e <;> cases t <;> simp [e], flat_lay' x t h.2.1, flat_lay' y t h.2.2⟩
theorem told1_text (a : Ask) (h : a.text.length ≤ 400) : (told1 a).text.length ≤ 400 := by
  unfold told1 toldR
  split
  · exact h
  · split
    · exact Nat.zero_le _
    · split <;> exact h
theorem lay_text : ∀ (q : Q) (t : Bool) (p : Nat), okQ q → ∀ x ∈ (layQ told1 q t).parts p, x.text.length ≤ 400
  | .term a, t, p, h, x, hx => by
    have e3 := told1_text a h.2.2.2.2.2.2.2
    cases t <;> (simp [layQ, Q.parts] at hx; subst hx; exact e3)
  | .neg q, t, p, h, x, hx => lay_text q (!t) p h x hx
  | .two k y z, t, p, h, x, hx => by
    rw [layQ, Q.parts, List.mem_append, List.mem_append] at hx
    rcases hx with hx | hx | hx
    · exact lay_text y t p h.2.1 x hx
    · exact lay_text z t _ h.2.2 x hx
    · simp at hx; subst hx; exact Nat.zero_le _
/-- The normal form of a text's question, if it has one. -/
def formQ (l : List UInt8) : Option Q :=
  match textQ l with
  | some q => if parsedE l = 0 ∧ errsL globG dosP (q.parts 0) = 0 then some (layQ told1 q false) else none
  | none => none
theorem formQ_some {l : List UInt8} {x : Q} (h : formQ l = some x) : ∃ q, textQ l = some q ∧ parsedE l = 0 ∧ errsL globG dosP (q.parts 0) = 0 ∧ x = layQ told1 q false := by
  unfold formQ at h
  cases hq : textQ l with
  | none => rw [hq] at h; cases h
  | some q =>
    rw [hq] at h
    dsimp only at h
    split at h
    · rename_i hc
      exact ⟨q, rfl, hc.1, hc.2, (Option.some.inj h).symm⟩
    · cases h
theorem formQ_fine {l : List UInt8} {x : Q} (h : formQ l = some x) : flatQ x ∧ x.size ≤ 400 ∧ ∀ a ∈ x.parts 0, a.text.length ≤ 1000 := by
  obtain ⟨q, hq, -, -, rfl⟩ := formQ_some h
  have hok := textQ_ok hq
  have h1 := textQ_size hq
  have h2 := lay_size q false
  exact ⟨flat_lay' q false hok, by omega, fun a ha => by have := lay_text q false 0 hok a ha; omega⟩
/-- A slice that holds a normal form, or nil. -/
def FormAt (w : World) (x : Option Q) (A : Option Addr) (n : Nat) : Prop := (x = none ∧ A = none) ∨ ∃ q ad, x = some q ∧ A = some ad ∧ n = q.size ∧ RA w w.heap.size (some ad) n (q.parts 0)
theorem FormAt.below {w w' : World} {x : Option Q} {A : Option Addr} {n : Nat} (h : FormAt w x A n) (hb : Below w.heap.size w w') : FormAt w' x A n := by
  rcases h with h | ⟨q, ad, h1, h2, h3, h4⟩
  · exact .inl h
  · exact .inr ⟨q, ad, h1, h2, h3, (h4.below hb).more hb.size⟩
def FormRet (w : World) (x : Option Q) (e : Ending) (w' : World) : Prop := ∃ A n c, e = .returned (.slice A n c) ∧ FormAt w' x A n ∧ Below w.heap.size w w'
theorem FormRet.nil {w w' : World} {x : Option Q} (h : x = none) (hb : Below w.heap.size w w') : FormRet w x (.returned (.slice none 0 0)) w' := ⟨none, 0, 0, rfl, .inl ⟨h, rfl⟩, hb⟩
theorem FormRet.mk {w w' : World} {x : Option Q} {q : Q} {A : Option Addr} {n c : Nat} (h : x = some q) (hn : n = q.size) (hr : RA w' w'.heap.size A n (q.parts 0)) (hb : Below w.heap.size w w') : FormRet w x (.returned (.slice A n c)) w' := by
  have hs := q.size_pos
  cases A with
  | none =>
    obtain ⟨ad, e, -⟩ := hr.elem (k := 0) (by omega) (by rw [q.parts_len]; omega)
    cases e
  | some ad => exact ⟨_, _, _, rfl, .inr ⟨q, ad, h, rfl, hn, hr⟩, hb⟩
theorem form_box (w : World) (v : Value) (e : Int) : Blk (w.alloc (.cells #[v, .int .i64 e] 46)) w.heap.size 46 #[v, .int .i64 e] := Blk.new w 46 _
set_option maxRecDepth 100000 in
set_option maxHeartbeats 4000000 in
theorem form_any (w : World) (hU : Utf8T w) (hTT : TurnT w) (s : ByteArray) (hs : s.size ≤ 1000000) : Calls Tryz.prog 7 #[.string s] w (FormRet w (formQ s.data.toList)) := by
  have hA1 := hide hU
  have hA2 := hide hTT
  clear hU hTT
  obtain ⟨fq, hfq0⟩ : ∃ x, x = formQ s.data.toList := ⟨_, rfl⟩
  rw [← hfq0]
  replace hfq0 := hide hfq0
  go_enter Tryz.func7, Tryz.ntmps7
  go_wp2_with fail
  refine (rparse_any s w hs).mono ?_
  rintro e w2 ⟨v2, rfl, ho2, hb2⟩
  obtain ⟨l, hl⟩ : ∃ l, l = s.data.toList := ⟨_, rfl⟩
  have hfl : Hid (fq = formQ l) := by rw [Hid, hl]; exact hfq0.out
  rw [← hl] at ho2 ⊢
  clear hl hfq0
  obtain ⟨A2, c2, rfl, hR2, -, -, -⟩ := ho2.form
  obtain ⟨n2, hn2⟩ : ∃ n, n = (parsedL l).length := ⟨_, rfl⟩
  rw [← hn2] at hR2 ⊢
  replace hn2 := hide hn2
  obtain ⟨e2, he2⟩ : ∃ e, e = parsedE l := ⟨_, rfl⟩
  rw [← he2]
  have hX := hide (form_box w2 (.slice A2 n2 c2) e2)
  have hb3 := (Below.refl w2.heap.size w2).alloc (Nat.le_refl _) (.cells #[.slice A2 n2 c2, .int .i64 e2] 46)
  have hbw3 := hb2.trans (hb3.mono hb2.size)
  have hR3 := hide ((hR2.below hb3).more hb3.size)
  have hA3 := hide (hA1.out.below hbw3)
  have hT3 := hide (hA2.out.below hbw3 hA2.out.2)
  clear ho2 hR2 hb3 hA1 hA2 hb2
  by_cases hE : parsedE l = 0
  · obtain ⟨q, hq, hpl, hdep, hpat, hplain⟩ := of_parsed hE
    have hok := textQ_ok hq
    have hqs := textQ_size hq
    have he20 : e2 = 0 := by rw [he2, hE]
    subst he20
    rw [hpl] at hR3 hn2
    have k2 : n2 = q.size := by rw [hn2.out, Q.parts_len]
    have hn400 : n2 ≤ 400 := by omega
    have hER : errsR (q.parts 0) = errsL globG dosP (q.parts 0) := errsR_told _ (okQ_ops' q 0 hok)
    have hfq : Hid (fq = if errsL globG dosP (q.parts 0) = 0 then some (layQ told1 q false) else none) := by
      rw [Hid, hfl.out, formQ, hq]
      dsimp only
      simp only [hE, true_and]
    have hls := lay_size q false
    clear hE hq hpl hpat hn2 k2 he2 hfl
    go_upto_region 2 with (fail)
    obtain ⟨w3, hw3⟩ : ∃ x, x = w2.alloc (.cells #[.slice A2 n2 c2, .int .i64 0] 46) := ⟨_, rfl⟩
    rw [← hw3] at hX hA3 hT3 hR3 hbw3 ⊢
    clear hw3
    have x0 : w3.cell? ⟨w2.heap.size, 0, none⟩ = some (.slice A2 n2 c2) := hX.out.cell 0
    have x1 : w3.cell? ⟨w2.heap.size, 1, none⟩ = some (.int .i64 0) := hX.out.cell 1
    have hxlt := hX.out.lt
    have hsz3 := hbw3.size
    go_wp2_with fail
    refine (rerrs_any w3 A2 n2 c2 (q.parts 0) hR3.out (by omega)).mono ?_
    rintro e w4 ⟨rfl, hb4⟩
    have hX4 := hX.out.below hb4 hxlt
    have hA4 := hA3.out.below hb4
    have hT4 := hT3.out.below hb4 hT3.out.2
    have hR4 := (hR3.out.below hb4).more hb4.size
    have hbw4 := hbw3.trans (hb4.mono hsz3)
    have hsz4 := hbw4.size
    have hlt4 := hX4.lt
    clear hX hA3 hT3 hR3 hbw3 x0 x1 hb4 hsz3 hxlt
    by_cases hEE : errsR (q.parts 0) = 0
    · have n0 : (errsR (q.parts 0) != 0) = false := by simp [hEE]
      have hne : normErr globG dosP q = 0 := by
        unfold normErr
        rw [if_neg (by omega), ← hER, hEE]
      have hnr : normRes globG dosP q = (layQ told1 q false).parts 0 := by unfold normRes; rw [if_pos hne]; rfl
      have hf2 := hide (hfq.out.trans (if_pos (by rw [← hER, hEE])))
      have x0 : w4.cell? ⟨w2.heap.size, 0, none⟩ = some (.slice A2 n2 c2) := hX4.cell 0
      clear hEE hER hfq
      go_wp2_with fail
      refine (norm_any w4 A2 n2 c2 q hR4 hok hplain (by omega) hA4 hT4).mono ?_
      rintro e w5 ⟨v5, rfl, ho5, hb5⟩
      rw [hne]
      rw [hnr] at ho5
      have hbw5 := hide (hbw4.trans (hb5.mono hsz4))
      obtain ⟨A5, c5, rfl, hRN, -, -, -⟩ := ho5.form
      obtain ⟨n5, hn5⟩ : ∃ n, n = ((layQ told1 q false).parts 0).length := ⟨_, rfl⟩
      rw [← hn5] at hRN ⊢
      have hn5' := hide (hn5.trans (Q.parts_len _ 0))
      replace hRN := hide hRN
      clear hX4 hA4 hT4 hR4 hbw4 hb5 ho5 hne hnr hok hplain hdep hqs hn5 x0 hls
      go_wp2_with fail
      go_ret
      exact FormRet.mk hf2.out hn5'.out hRN.out hbw5.out
    · have n0 : (errsR (q.parts 0) != 0) = true := by simp [hEE]
      have hf2 := hide (hfq.out.trans (if_neg (by rw [← hER]; exact hEE)))
      clear hEE hER hfq hX4 hA4 hT4 hR4
      go_wp2_with fail
      go_ret
      exact FormRet.nil hf2.out hbw4
  · have hf2 : Hid (fq = none) := by
      rw [Hid, hfl.out, formQ]
      cases hq : textQ l with
      | none => rfl
      | some q => dsimp only; rw [if_neg (fun h => hE h.1)]
    have e1 : (e2 != 0) = true := by rw [he2]; simp [hE]
    clear hE he2 hn2 hfl
    replace hbw3 := hide hbw3
    go_upto_region 2 with (fail)
    obtain ⟨w3, hw3⟩ : ∃ x, x = w2.alloc (.cells #[.slice A2 n2 c2, .int .i64 e2] 46) := ⟨_, rfl⟩
    rw [← hw3] at hX hbw3 ⊢
    have x1 : w3.cell? ⟨w2.heap.size, 1, none⟩ = some (.int .i64 e2) := hX.out.cell 1
    clear hw3 hX hA3 hT3 hR3
    go_wp2_with fail
    go_ret
    exact FormRet.nil hf2.out hbw3.out
end Go.Proofs.YtnnjcedlomfhoaaGreatDoor
