/-
  Contract of vfs.right at names that are right.
-/
import Derived.Test.YthohbbaglceppaaGreatDoorUVfs
import Derived.Test.YthohbbaglceppaaGreatDoorShelf
import Derived.Shelf.Strings.SlTrimAscii
namespace Go.Proofs.YthohbbaglceppaaGreatDoor
open Go.RowKit
set_option linter.unusedVariables false
def nameSet : List UInt8 := [97, 98, 99, 100, 101, 102, 103, 104, 105, 106, 107, 108, 109, 110, 111, 112, 113, 114, 115, 116, 117, 118, 119, 120, 121, 122, 48, 49, 50, 51, 52, 53, 54, 55, 56, 57, 46, 45, 47]
theorem dropWhile_all {p : UInt8 → Bool} : ∀ l : List UInt8, (∀ x ∈ l, p x = true) → l.dropWhile p = []
  | [], _ => rfl
  | a :: r, h => by rw [List.dropWhile_cons, if_pos (h a (.head _)), dropWhile_all r fun x hx => h x (.tail _ hx)]
theorem trim_all (l cs : List UInt8) (h : ∀ x ∈ l, cs.contains x = true) : Lib.trimS l cs = [] := by
  unfold Lib.trimS Lib.trimRightS Lib.trimLeftS
  rw [dropWhile_all l.reverse fun x hx => h x (List.mem_reverse.1 hx)]
  rfl
set_option maxRecDepth 100000 in
set_option maxHeartbeats 1000000 in
theorem fright_any (w : World) (nm : List UInt8) (h0 : nm ≠ []) (hl : nm.length ≤ 24) (hs : ∀ x ∈ nm, nameSet.contains x = true) :
    Calls Tryz.prog 128 #[.string (str nm)] w fun e w' => e = .returned (.bool true) ∧ Below w.heap.size w w' := by
  have hcon := Any.strings_Trim_laid Tryz.lays160 (by kernel_rfl) (str nm) ⟨#[97, 98, 99, 100, 101, 102, 103, 104, 105, 106, 107, 108, 109, 110, 111, 112, 113, 114, 115, 116, 117, 118, 119, 120, 121, 122, 48, 49, 50, 51, 52, 53, 54, 55, 56, 57, 46, 45, 47]⟩ w (by simp [str, ByteArray.size]; omega) (by decide) (ascii_of_all (by decide))
  have ht : Lib.trimS (str nm).data.toList (ByteArray.mk #[97, 98, 99, 100, 101, 102, 103, 104, 105, 106, 107, 108, 109, 110, 111, 112, 113, 114, 115, 116, 117, 118, 119, 120, 121, 122, 48, 49, 50, 51, 52, 53, 54, 55, 56, 57, 46, 45, 47]).data.toList = [] := by
    have := trim_all nm nameSet hs
    simpa [str, nameSet] using this
  rw [ht] at hcon
  have hcon2 : Hid (Calls Tryz.prog 174 #[.string (str nm), .string ⟨#[97, 98, 99, 100, 101, 102, 103, 104, 105, 106, 107, 108, 109, 110, 111, 112, 113, 114, 115, 116, 117, 118, 119, 120, 121, 122, 48, 49, 50, 51, 52, 53, 54, 55, 56, 57, 46, 45, 47]⟩] w (fun e w' => e = .returned (.string ⟨#[]⟩) ∧ Below w.heap.size w w')) := hcon
  have hne : (str nm).toList.isEmpty = false := by
    rw [str_bytes]
    cases nm with
    | nil => exact absurd rfl h0
    | cons a r => rfl
  have hne2 : ¬ (str nm).toList = [] := by intro e; rw [e] at hne; cases hne
  have hsz : ((str nm).size : Int) ≤ 24 := by simp [str, ByteArray.size]; omega
  clear hcon ht
  go_enter Tryz.func128, Tryz.ntmps128
  go_wp2_with fail
  refine hcon2.out.mono ?_
  rintro e w1 ⟨rfl, hb⟩
  replace hb := hide hb
  go_wp2_with fail
  go_ret
  exact ⟨rfl, hb.out⟩
/-- A name that may be. -/
structure NameOk (nm : List UInt8) : Prop where
  ne : nm ≠ []
  len : nm.length ≤ 24
  set : ∀ x ∈ nm, nameSet.contains x = true
/-- The stores with one file more. -/
def fdW (nm da : List UInt8) (fd : Option Nat) (g : Nat) : Option Nat := if nm = da then some g else fd
def flW (nm da : List UInt8) (fl : Option Nat) (g : Nat) : Option Nat := if nm = da then fl else some g
/-- What Create leaves. -/
def CrRet (w : World) (B gf bm most stamp : Nat) (da la nm : List UInt8) (fd fl : Option Nat) (e : Ending) (w' : World) : Prop :=
  ∃ g, e = .returned (.int .i64 0) ∧ FSAt w' B gf bm most (stamp + 1) da la (fdW nm da fd g) (flW nm da fl g) ∧ FileX w' B g 0 0 (.slice none 0 0) ∧ Only (fun j => j = gf ∨ j = bm) w w' ∧ w.heap.size ≤ g
set_option maxRecDepth 100000 in
set_option maxHeartbeats 1000000 in
theorem create_d (w : World) (B gf bm most stamp : Nat) (da la : List UInt8) (h : FSAt w B gf bm most stamp da la none none) (hn : NameOk da) (hs : stamp ≤ 1000000) (hB : B ≤ w.heap.size) :
    Calls Tryz.prog 78 #[.pointer (some ⟨gf, 0, none⟩), .string (str da)] w (CrRet w B gf bm most stamp da la da none none) := by
  have ha := hide (fat_none w B gf bm most stamp da la da none none h (.inl ⟨rfl, rfl⟩) (by have := hn.len; omega))
  have hr := hide (fright_any w da hn.ne hn.len hn.set)
  replace h := hide h
  replace hn := hide hn
  go_enter Tryz.func78, Tryz.ntmps78
  go_wp2_with fail
  refine ha.out.mono ?_
  rintro e w1 ⟨rfl, rfl⟩
  go_wp2_with fail
  refine hr.out.mono ?_
  rintro e w2 ⟨rfl, hb2⟩
  have hO2 : Only (fun _ => False) w w2 := Only.of_below hb2
  have h2 := hide (h.out.only hO2 (fun h => h) (fun h => h))
  have hbu := hide (burn_any w2 B gf bm most stamp da la none none h2.out)
  go_wp2_with fail
  refine hbu.out.mono ?_
  rintro e w3 ⟨rfl, rfl⟩
  have c4 := h2.out.st.cell 4
  obtain ⟨nn, hm, hnn'⟩ := h2.out.mp
  have hnn : nn ≤ 0 := hnn'
  clear hnn'
  have hm2 := hide (hm.alloc (.cells #[.slice none 0 0, .int .i64 0, .int .i64 0] 175))
  have hF2 := hide (Blk.new w2 175 #[.slice none 0 0, .int .i64 0, .int .i64 0])
  have hS2 := hide (h2.out.st.alloc (.cells #[.slice none 0 0, .int .i64 0, .int .i64 0] 175))
  have hbg := h2.out.bmNe h2.out.st
  have hO3 := hide (hO2.alloc (.cells #[.slice none 0 0, .int .i64 0, .int .i64 0] 175))
  have hgw : w.heap.size ≤ w2.heap.size := hb2.size
  obtain ⟨g, hg⟩ : ∃ g, g = w2.heap.size := ⟨_, rfl⟩
  have hmk := hide (fs_key da (by have := hn.out.len; omega))
  rw [← hg] at hF2 hgw
  replace hgw := hide hgw
  replace hm := hide hm
  clear hr ha hbu hb2 hO2
  obtain ⟨w4, hrun, hm4, hg4⟩ := hm2.out.update (Go.Maps.string_keyed Tryz.underlying9) Tryz.underlying89 (by unfold maxLen; omega) hmk.out (val := .pointer (some ⟨w2.heap.size, 0, none⟩)) (d := .held (ptrV g)) (ps := []) (by rw [hg]; rfl)
  have hS4 := hS2.out.grown hg4 (fun e => hbg (by injection e with e; exact e.symm))
  have hF4 := hF2.out.grown hg4 (fun e => by injection e with e; have := hm.out.lt; omega)
  have hO4 := (hO3.out.mono (S := fun j => j = gf ∨ j = bm) (fun _ _ h => h.elim)).grown hg4 (fun k hk _ => .inr (by injection hk with hk; exact hk.symm))
  have hFS4 : FSAt w4 B gf bm most stamp da la (some g) none := ⟨hS4, ⟨nn + 1, hm4, by show nn + 1 ≤ 1 + 0; omega⟩, h2.out.ne, h2.out.gB, h2.out.bB⟩
  have hFX4 : FileX w4 B g 0 0 (.slice none 0 0) := ⟨⟨0, hF4⟩, ⟨[], ⟨by simp, .inl ⟨rfl, rfl⟩⟩, fun j u hj => by cases hj⟩, by have := hgw.out; omega⟩
  have hlk : (Instr.lookup 89 (.map (some bm)) (.string (str da)) false).run Tryz.prog w4 = .ok (.pointer (some ⟨g, 0, none⟩)) w4 := hFS4.look_d (by have := hn.out.len; omega)
  have hch := hide (changed_any w4 B gf bm most stamp g 0 0 da la (some g) none _ hFS4 hFX4 hs)
  have d4 := hS4.cell 4
  replace hm4 := hide hm4
  replace hg4 := hide hg4
  replace hS4 := hide hS4
  replace hF4 := hide hF4
  replace hFS4 := hide hFS4
  replace hFX4 := hide hFX4
  replace hO4 := hide hO4
  replace hg := hide hg
  go_wp2_with fail
  refine hch.out.mono ?_
  rintro e w5 ⟨rfl, h5, h6, h7⟩
  have h5' := hide h5
  have h6' := hide h6
  have h7' := hide h7
  clear h5 h6 h7 hch
  go_wp2_with fail
  go_ret
  refine ⟨g, rfl, ?_, h6'.out, ?_, hgw.out⟩
  · have e1 : fdW da da none g = some g := by rw [fdW, if_pos rfl]
    have e2 : flW da da none g = none := by rw [flW, if_pos rfl]
    rw [e1, e2]; exact h5'.out
  · exact (hO4.out.trans h7'.out fun i hi hs => hs.elim .inl fun e => by have := hgw.out; omega)
set_option maxRecDepth 100000 in
set_option maxHeartbeats 1000000 in
theorem create_l (w : World) (B gf bm most stamp : Nat) (da la : List UInt8) (gd : Nat) (h : FSAt w B gf bm most stamp da la (some gd) none) (hn : NameOk la) (hs : stamp ≤ 1000000) (hB : B ≤ w.heap.size) :
    Calls Tryz.prog 78 #[.pointer (some ⟨gf, 0, none⟩), .string (str la)] w (CrRet w B gf bm most stamp da la la (some gd) none) := by
  have ha := hide (fat_none w B gf bm most stamp da la la (some gd) none h (.inr ⟨rfl, rfl⟩) (by have := hn.len; omega))
  have hr := hide (fright_any w la hn.ne hn.len hn.set)
  replace h := hide h
  replace hn := hide hn
  go_enter Tryz.func78, Tryz.ntmps78
  go_wp2_with fail
  refine ha.out.mono ?_
  rintro e w1 ⟨rfl, rfl⟩
  go_wp2_with fail
  refine hr.out.mono ?_
  rintro e w2 ⟨rfl, hb2⟩
  have hO2 : Only (fun _ => False) w w2 := Only.of_below hb2
  have h2 := hide (h.out.only hO2 (fun h => h) (fun h => h))
  have hbu := hide (burn_any w2 B gf bm most stamp da la (some gd) none h2.out)
  go_wp2_with fail
  refine hbu.out.mono ?_
  rintro e w3 ⟨rfl, rfl⟩
  have c4 := h2.out.st.cell 4
  obtain ⟨nn, hm, hnn'⟩ := h2.out.mp
  have hnn : nn ≤ 1 := hnn'
  clear hnn'
  have hm2 := hide (hm.alloc (.cells #[.slice none 0 0, .int .i64 0, .int .i64 0] 175))
  have hF2 := hide (Blk.new w2 175 #[.slice none 0 0, .int .i64 0, .int .i64 0])
  have hS2 := hide (h2.out.st.alloc (.cells #[.slice none 0 0, .int .i64 0, .int .i64 0] 175))
  have hbg := h2.out.bmNe h2.out.st
  have hO3 := hide (hO2.alloc (.cells #[.slice none 0 0, .int .i64 0, .int .i64 0] 175))
  have hgw : w.heap.size ≤ w2.heap.size := hb2.size
  obtain ⟨g, hg⟩ : ∃ g, g = w2.heap.size := ⟨_, rfl⟩
  have hmk := hide (fs_key la (by have := hn.out.len; omega))
  rw [← hg] at hF2 hgw
  replace hgw := hide hgw
  replace hm := hide hm
  clear hr ha hbu hb2 hO2
  obtain ⟨w4, hrun, hm4, hg4⟩ := hm2.out.update (Go.Maps.string_keyed Tryz.underlying9) Tryz.underlying89 (by unfold maxLen; omega) hmk.out (val := .pointer (some ⟨w2.heap.size, 0, none⟩)) (d := .held (ptrV g)) (ps := []) (by rw [hg]; rfl)
  have hS4 := hS2.out.grown hg4 (fun e => hbg (by injection e with e; exact e.symm))
  have hF4 := hF2.out.grown hg4 (fun e => by injection e with e; have := hm.out.lt; omega)
  have hO4 := (hO3.out.mono (S := fun j => j = gf ∨ j = bm) (fun _ _ h => h.elim)).grown hg4 (fun k hk _ => .inr (by injection hk with hk; exact hk.symm))
  have hFS4 : FSAt w4 B gf bm most stamp da la (some gd) (some g) := ⟨hS4, ⟨nn + 1, hm4, by show nn + 1 ≤ 1 + 1; omega⟩, h2.out.ne, h2.out.gB, h2.out.bB⟩
  have hFX4 : FileX w4 B g 0 0 (.slice none 0 0) := ⟨⟨0, hF4⟩, ⟨[], ⟨by simp, .inl ⟨rfl, rfl⟩⟩, fun j u hj => by cases hj⟩, by have := hgw.out; omega⟩
  have hlk : (Instr.lookup 89 (.map (some bm)) (.string (str la)) false).run Tryz.prog w4 = .ok (.pointer (some ⟨g, 0, none⟩)) w4 := hFS4.look_l (by have := hn.out.len; omega)
  have hch := hide (changed_any w4 B gf bm most stamp g 0 0 da la (some gd) (some g) _ hFS4 hFX4 hs)
  have d4 := hS4.cell 4
  replace hm4 := hide hm4
  replace hg4 := hide hg4
  replace hS4 := hide hS4
  replace hF4 := hide hF4
  replace hFS4 := hide hFS4
  replace hFX4 := hide hFX4
  replace hO4 := hide hO4
  replace hg := hide hg
  go_wp2_with fail
  refine hch.out.mono ?_
  rintro e w5 ⟨rfl, h5, h6, h7⟩
  have h5' := hide h5
  have h6' := hide h6
  have h7' := hide h7
  clear h5 h6 h7 hch
  go_wp2_with fail
  go_ret
  refine ⟨g, rfl, ?_, h6'.out, ?_, hgw.out⟩
  · have e1 : fdW la da (some gd) g = some gd := by rw [fdW, if_neg (fun e => h2.out.ne e.symm)]
    have e2 : flW la da none g = some g := by rw [flW, if_neg (fun e => h2.out.ne e.symm)]
    rw [e1, e2]; exact h5'.out
  · exact (hO4.out.trans h7'.out fun i hi hs => hs.elim .inl fun e => by have := hgw.out; omega)
end Go.Proofs.YthohbbaglceppaaGreatDoor
