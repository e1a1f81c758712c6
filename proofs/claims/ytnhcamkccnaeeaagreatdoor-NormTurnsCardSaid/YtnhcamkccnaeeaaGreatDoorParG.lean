/-
  Contract of parse.kinds: the words' kinds in a new map.
-/
import Derived.Test.YtnhcamkccnaeeaaGreatDoorParA
import Derived.Maps.Own
namespace Go.Proofs.YtnhcamkccnaeeaaGreatDoor
open Go.RowKit
set_option linter.unusedVariables false

def kindsL : List (List UInt8 × Int) := [(nameW, 4), (sizeW, 5), (dateW, 6), (crcW, 7), (methodW, 8)]
def kindsK (k : Nat) : DataW Unit := (kindsL.take k).foldl (fun D x => D.put (.string x.1) (.lit (.int .i64 x.2))) (.map [])
def KMk (w : World) (km k : Nat) : Prop := w.ownsMap Tryz.prog 9 (plainElem (H := Unit) Tryz.prog 3) km k (kindsK k)
theorem KMk.step {w : World} {km : Nat} (k : Nat) (hk : k < 5) (s : ByteArray) (n : Int) (h1 : kindsL[k]'hk = (s.data.toList, n)) (hs : s.size ≤ maxLen) (hn : (Lit.int .i64 n).wf = true) (hown : KMk w km k) :
    ∃ w', (Instr.mapUpdate 98 (.map (some km)) (.string s) (.int .i64 n)).run Tryz.prog w = .ok () w' ∧ KMk w' km (k + 1) ∧ w.grownBy w' (some km) := by
  obtain ⟨w', hrun, r1, r2⟩ := World.ownsMap.update hown (Go.Maps.string_keyed Tryz.underlying9) Tryz.underlying98 (by unfold maxLen; omega) (Go.WideMaps.keyOf_string_mk Tryz.underlying9 hs) (plainElem_int Tryz.underlying3 hn)
  have e : (kindsK k).put (.string s.data.toList) (.lit (.int .i64 n)) = kindsK (k + 1) := by
    unfold kindsK
    rw [List.take_succ_eq_append_getElem hk, List.foldl_append, h1]; rfl
  rw [e] at r1
  exact ⟨w', hrun, r1, r2⟩
set_option maxRecDepth 100000 in
theorem kinds_any (w : World) : Calls Tryz.prog 54 #[] w fun e w' => e = .returned (.map (some w.heap.size)) ∧ KM w' w.heap.size ∧ Below w.heap.size w w' := by
  have hmm := @run_makeMap Tryz.prog
  have h0 : KMk (w.alloc (.map #[] 0)) w.heap.size 0 := World.ownsMap_made w Tryz.prog 9 (plainElem (H := Unit) Tryz.prog 3)
  obtain ⟨w1, r1, h1, g1⟩ := h0.step 0 (by decide) ⟨#[110, 97, 109, 101]⟩ 4 rfl (by decide) (by decide)
  obtain ⟨w2, r2, h2, g2⟩ := h1.step 1 (by decide) ⟨#[115, 105, 122, 101]⟩ 5 rfl (by decide) (by decide)
  obtain ⟨w3, r3, h3, g3⟩ := h2.step 2 (by decide) ⟨#[100, 97, 116, 101]⟩ 6 rfl (by decide) (by decide)
  obtain ⟨w4, r4, h4, g4⟩ := h3.step 3 (by decide) ⟨#[99, 114, 99]⟩ 7 rfl (by decide) (by decide)
  obtain ⟨w5, r5, h5, g5⟩ := h4.step 4 (by decide) ⟨#[109, 101, 116, 104, 111, 100]⟩ 8 rfl (by decide) (by decide)
  have hg := gb_trans (gb_trans (gb_trans (gb_trans g1 g2) g3) g4) g5
  have hb : Below w.heap.size w w5 := ⟨hg.os, hg.tape, hg.output, by have := hg.size; simp at this; omega, fun k hk => (hg.block k (by simp; omega) (by simp; omega)).trans (Below.heap_alloc w _ k hk)⟩
  have hKM : Hid (KM w5 w.heap.size) := h5
  clear h0 h1 h2 h3 h4 h5 g1 g2 g3 g4 g5 hg
  go_enter Tryz.func54, Tryz.ntmps54
  go_wp2_with fail
  go_ret
  exact ⟨rfl, hKM.out, hb⟩
end Go.Proofs.YtnhcamkccnaeeaaGreatDoor
