/-
  Contract of key.Text.
-/
import Derived.Test.YtiffnfgmkkoaeaaGreatDoorShelf
import Derived.Lib.AppendStr
import Derived.Test.YtiffnfgmkkoaeaaGreatDoorBnGr2
import Derived.Test.YtiffnfgmkkoaeaaGreatDoorBnGr1
import Derived.Test.YtiffnfgmkkoaeaaGreatDoorBnGr23
namespace Go.Proofs.YtiffnfgmkkoaeaaGreatDoor
open Go.RowKit
set_option linter.unusedVariables false
def RS (w : World) (B : Nat) (A : Option Addr) (n : Nat) (l : List ByteArray) : Prop := Reads w B 1 A n (l.map Value.string)
section
variable {w w' : World} {B B' n : Nat} {A : Option Addr} {l : List ByteArray}
theorem RS.len (h : RS w B A n l) : l.length = n := by have := h.1; simpa using this
theorem RS.elem (h : RS w B A n l) {k : Nat} (hk : k < n) (hl : k < l.length) : ∃ ad, A = some ad ∧ ad.block < B ∧ w.cell? (ad.add k) = some (.string l[k]) := by
  obtain ⟨ad, u, e, hb, hx, hc⟩ := Reads.at_ h hk
  rw [List.getElem?_map, List.getElem?_eq_getElem hl] at hx
  injection hx with hx
  subst hx
  exact ⟨ad, e, hb, hc⟩
theorem RS.more {B' : Nat} (h : RS w B A n l) (hB : B ≤ B') : RS w B' A n l := Reads.more h hB
theorem RS.below (h : RS w B A n l) (hb : Below B w w') : RS w' B A n l := Reads.below h hb
end
def textsB (ts : List ByteArray) : List UInt8 := ts.flatMap fun t => textB t.data.toList
theorem textsB_snoc (ts : List ByteArray) (k : Nat) (h : k < ts.length) : textsB (ts.take (k + 1)) = textsB (ts.take k) ++ textB ts[k].data.toList := by
  unfold textsB
  rw [List.take_succ_eq_append_getElem h, List.flatMap_append]
  simp
theorem txt_rep (s : List UInt8) : s.flatMap (repF 0 [0, 255]) = s.flatMap txtF := rfl
theorem text_len (s : List UInt8) : (textB s).length ≤ 2 * s.length + 2 := by
  have := rep_len 0 [0, 255] (by decide) s
  rw [txt_rep] at this
  rw [textB, List.length_append]; simp only [List.length_cons, List.length_nil]; omega
section
variable {ops : Array Oper} {rest : List Oper} {o : Oper} {a : Act} {Q : Exit → Act → World → Prop}
/-- append(v, s...), a string. -/
theorem wpList_app_s {w : World} (hgd : o.guard = none) (s x : Operand) (ho : o.op = .call { callee := .builtin .append, args := #[s, x], argTypes := #[62, 9] })
    (base : Nat) (v : Value) (n : Nat) (l : List UInt8) (hown : OB w base v n l) (hs : a.eval s = v) (z : ByteArray) (hx : a.eval x = .string z)
    (hlen : n + z.size ≤ 140737488351232) (hbase : base ≤ w.heap.size)
    (h : ∀ v' w', OB w' base v' (n + z.size) (l ++ z.data.toList) → Below base w w' → wpList Tryz.prog ops Q rest (a.put o.dst v') w') :
    wpList Tryz.prog ops Q (o :: rest) a w := by
  obtain ⟨i0, hi0, hz0, hz1, hz2⟩ := info_parts byte_info
  refine Lib.wpList_append_own_string w hgd s x _ _ ho base 5 i0 Tryz.underlying62 Tryz.underlying9 hi0 hz0 hz1 hz2 v n (bv l) hs hown z hx
    (by simp only [maxLen]; omega) (by omega) hbase fun v' w' h1 h2 h3 => ?_
  rw [show Lib.strCells z = bv z.data.toList from rfl, ← bv_append] at h1
  exact h v' w' h1 ((Below.refl _ _).grown h2 hbase fun k hk => hown.block_lt k hk)
end
set_option maxHeartbeats 1000000 in
theorem text_any2 (A B : Option Addr) (n r c d : Nat) (xs : List UInt8) (ts : List ByteArray) (m : Int) (w : World) (ha : RB w w.heap.size A n xs) (hb : RS w w.heap.size B r ts)
    (hn : n ≤ 100000) (hr : r ≤ 1000) (hs : ∀ t ∈ ts, t.size ≤ 1000) (hg : 0 < w.heap.size) (hm : w.cell? ⟨0, 0, none⟩ = some (.int .i64 m)) :
    Calls Tryz.prog 23 #[.slice A n c, .slice B r d] w (RetB w (xs ++ textsB ts)) := by
  have hnl := hide ha.len
  have hzl := hide hb.len
  have HA := hide ha
  have HB := hide hb
  clear ha hb
  go_enter Tryz.func23, Tryz.ntmps23
  go_wp2_with fail
  refine (bclone_any _ _ _ _ _ HA.out (by omega)).mono ?_
  rintro e w1 ⟨v1, rfl, hown1, hb1⟩
  rw [hnl.out] at hown1
  replace hown1 := hide hown1
  go_wp2_with fail
  go_loopw [5, 12] (fun v i wr => ∃ k : Nat, k ≤ r ∧ i = .int .i64 (k : Int) ∧ Hid (OB wr w.heap.size v (xs ++ textsB (ts.take k)).length (xs ++ textsB (ts.take k)) ∧ (xs ++ textsB (ts.take k)).length ≤ n + 2002 * k) ∧ Below w.heap.size w wr) (fun _ i _ => r - (intOf i).toNat)
  case atStart =>
    refine ⟨0, by omega, rfl, ?_, hb1⟩
    have : xs ++ textsB (ts.take 0) = xs := by simp [textsB]
    rw [this, hnl.out]
    exact ⟨hown1.out, by omega⟩
  case round =>
    obtain ⟨k, hk, rfl, HO, hbl⟩ := hrel
    by_cases h1 : k < r
    · have hz1 : k < ts.length := by have := hzl.out; omega
      obtain ⟨bd, rfl, hbb, cb⟩ := (HB.out.below hbl).elem h1 hz1
      have hsk := hs ts[k] (List.getElem_mem _)
      have HS := hide (textsB_snoc ts k hz1)
      have hml : wr.cell? ⟨0, 0, none⟩ = some (.int .i64 m) := (hbl.cell (p := ⟨0, 0, none⟩) hg).trans hm
      have hsz := hbl.size
      generalize ts[k] = tk at *
      obtain ⟨HO1, HO2⟩ := HO.out
      replace HO1 := hide HO1
      clear HO
      have hc1 : Lib.countB tk ⟨#[0]⟩ ≤ tk.size + 1 := by rw [← data_len]; exact Lib.count_le _ _
      have hrp := hide ((replaceAll_one 0 [0, 255] tk.data.toList rfl).trans (txt_rep tk.data.toList))
      go_wp2_with fail
      refine (Tryz.strings_ReplaceAll tk ⟨#[0]⟩ ⟨#[0, 255]⟩ m wr (by omega) hml (by decide) (by show tk.size + _ * 2 ≤ _; omega)).mono ?_
      rintro e w2 ⟨rfl, hb2⟩
      rw [show (ByteArray.mk (Lib.replaceAll tk.data.toList (ByteArray.mk #[0]).data.toList (ByteArray.mk #[0, 255]).data.toList).toArray) = str (tk.data.toList.flatMap txtF) from congrArg str hrp.out]
      have hzr : (str (tk.data.toList.flatMap txtF)).size ≤ 2000 := by
        rw [str_size]
        have := rep_len 0 [0, 255] (by decide) tk.data.toList
        rw [txt_rep] at this
        have := data_len tk
        omega
      have HO3 := HO1.out.below hb2 (Nat.le_refl _)
      have hbl2 := hbl.trans (hb2.mono hsz)
      have hsz2 := hbl2.size
      have hstr := hide (str_toList (tk.data.toList.flatMap txtF))
      have hcat : Hid (tk.data.toList.flatMap txtF ++ [0, 1] = textB tk.data.toList) := rfl
      clear HO1 hrp hc1 hb2 hbl hml
      have hpl : (xs ++ textsB (ts.take k)).length ≤ 2102000 := by omega
      generalize hP : xs ++ textsB (ts.take k) = P at *
      replace hP := hide hP
      generalize str (tk.data.toList.flatMap txtF) = z at *
      replace HO3 := hide HO3
      go_wp2_with (at_builtin; refine wpList_app_s ?_ (.tmp 16) (.tmp 18) ?_ w.heap.size u5 P.length P HO3.out ?_ z ?_ ?_ ?_ ?_)
      rfl
      rfl
      rfl
      rfl
      omega
      exact hsz2
      intro v4 w4 ho4 hb4
      have hbl4 := hbl2.trans hb4
      have hsz4 := hbl4.size
      replace ho4 := hide ho4
      clear HO3 hbl2 hb4
      go_wp2_with (at_builtin; refine wpList_app_s ?_ (.tmp 20) (.const (.string ⟨#[0, 1]⟩)) ?_ w.heap.size v4 (P.length + z.size) (P ++ z.data.toList) ho4.out ?_ ⟨#[0, 1]⟩ ?_ ?_ ?_ ?_)
      rfl
      rfl
      rfl
      rfl
      show P.length + z.size + 2 ≤ _; omega
      exact hsz4
      intro v5 w5 ho5 hb5
      have hbl5 := hbl4.trans hb5
      rw [hstr.out] at ho5
      try simp only [List.append_assoc] at ho5
      rw [hcat.out, ← hP.out, List.append_assoc, ← HS.out] at ho5
      replace ho5 := hide ho5
      clear ho4 hbl4 hb5
      go_wp2_with fail
      go_roundw
      case rel =>
        have hlen5 := ho5.out.len
        refine ⟨k + 1, by omega, by go_num, ⟨by rw [hlen5]; exact ho5.out, ?_⟩, hbl5⟩
        have h5 := congrArg List.length HS.out
        have h6 := congrArg List.length hP.out
        have h7 := text_len tk.data.toList
        have h8 := data_len tk
        simp only [List.length_append] at h5 h6 ⊢
        omega
      case measure => simp [intOf]; omega
    · have hkr : k = r := by omega
      subst hkr
      have hall : ts.take k = ts := by rw [List.take_of_length_le (by have := hzl.out; omega)]
      rw [hall] at HO
      clear hall
      go_wp2_with fail
      go_ret
      exact RetB.mk HO.out.1 hbl
end Go.Proofs.YtiffnfgmkkoaeaaGreatDoor
