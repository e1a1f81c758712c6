/-
  The map of three bytes to where they came last; contract of the closure that notes a place.
-/
import Derived.Test.YtbchaomnjbkdhaaGreatEB
import Derived.Test.YtbchaomnjbkdhaaGreatEA
import Derived.Maps.OwnSet
import Derived.Maps.Views
import Derived.DeepKeys4
import Derived.StillTailTactics
import Derived.Deep.RegionWith
import Derived.IntWalk
import Derived.Laws.Cover3
namespace Go.Proofs.YtbchaomnjbkdhaaGreat
open Go.RowKit
set_option linter.unusedVariables false
theorem laid3 : laidOutB Tryz.prog = true := by kernel_rfl
theorem row3 : (111 : TypeId) < Tryz.prog.types.size := of_decide_eq_true (by kernel_rfl)
theorem wide3 : (match Tryz.prog.underlying 111 with | some (.array _ _) | some (.struct _) => true | _ => false) = true := by rw [Tryz.underlying111]
set_option maxRecDepth 100000 in
theorem keyed3 : Maps.Keyed Tryz.prog 111 := Maps.Keyed.of_law (deep_law_laid laid3 (m := 2) (by omega) row3 (by kernel_rfl) wide3)
def tripV (a b c : Nat) : Value := .agg #[.int .u8 (a : Int), .int .u8 (b : Int), .int .u8 (c : Int)]
def tripK (a b c : Nat) : Lit := .string (keyBytes [.int .u8 (a : Int), .int .u8 (b : Int), .int .u8 (c : Int)])
theorem cells3 : Tryz.prog.cellsOf 111 = 3 := by kernel_rfl
theorem cells1 : Tryz.prog.cellsOf 5 = 1 := by kernel_rfl
theorem keyType3 : Tryz.prog.keyType 111 = true := by kernel_rfl
theorem wf_u8 (a : Nat) (h : a < 256) : (Lit.int .u8 (a : Int)).wf = true := by
  simp [Lit.wf, IntKind.min, IntKind.max, IntKind.bits, IntKind.signed]
  omega
theorem sizes3 : ∃ d, Tryz.prog.types.size = d + 1 := ⟨Tryz.prog.types.size - 1, by kernel_rfl⟩
theorem trip_key (a b c : Nat) (ha : a < 256) (hb : b < 256) (hc : c < 256) : keyOf Tryz.prog 111 (tripV a b c) = some (tripK a b c) := by
  obtain ⟨d, hd⟩ := sizes3
  have hf : (tripV a b c).formed Tryz.prog 111 = true := by simp [tripV, Value.formed, Tryz.underlying111, cells3]
  unfold keyOf
  rw [Tryz.underlying111]
  dsimp only
  rw [keyType3, hf, hd]
  have h1 : ∀ n : Nat, n < 256 → Tryz.prog.keyLits (d + 1) 5 [.int .u8 (n : Int)] = some [.int .u8 (n : Int)] := by
    intro n hn
    unfold Program.keyLits
    rw [Tryz.underlying5]
    simp [wf_u8 n hn]
  simp only [Bool.and_self, if_true]
  unfold Program.keyLits
  rw [Tryz.underlying111]
  simp [tripV, Value.cells, cells3, cells1, List.range, List.range.loop, h1 a ha, h1 b hb, h1 c hc, tripK]
theorem trip_inj {a b c a' b' c' : Nat} (ha : a < 256) (hb : b < 256) (hc : c < 256) (ha' : a' < 256) (hb' : b' < 256) (hc' : c' < 256) (h : tripK a b c = tripK a' b' c') : a = a' ∧ b = b' ∧ c = c' := by
  have h1 := trip_key a b c ha hb hc
  have h2 := trip_key a' b' c' ha' hb' hc'
  rw [← h] at h2
  have h3 := keyed3.inj h1 h2
  simp only [tripV, Value.agg.injEq, Array.mk.injEq, List.cons.injEq, Value.int.injEq, true_and, and_true] at h3
  omega
/-- Where they came, as the map's own data. -/
def mapK (t : List UInt8) : Lit := tripK (t.getD 0 0).toNat (t.getD 1 0).toNat (t.getD 2 0).toNat
def mapD (b : List UInt8) : Nat → DataW Unit
  | 0 => .map []
  | i + 1 => if i + 3 ≤ b.length then (mapD b i).put (mapK (tripAt b i)) (.lit (.int .i64 (i : Int))) else mapD b i
theorem mapK_inj {t t' : List UInt8} (h : t.length = 3) (h' : t'.length = 3) (e : mapK t = mapK t') : t = t' := by
  obtain ⟨x, y, z, rfl⟩ : ∃ x y z, t = [x, y, z] := by
    match t, h with
    | [x, y, z], _ => exact ⟨x, y, z, rfl⟩
  obtain ⟨x', y', z', rfl⟩ : ∃ x y z, t' = [x, y, z] := by
    match t', h' with
    | [x, y, z], _ => exact ⟨x, y, z, rfl⟩
  obtain ⟨h1, h2, h3⟩ := trip_inj x.toNat_lt y.toNat_lt z.toNat_lt x'.toNat_lt y'.toNat_lt z'.toNat_lt e
  rw [UInt8.toNat_inj.1 h1, UInt8.toNat_inj.1 h2, UInt8.toNat_inj.1 h3]
theorem mapK_key (t : List UInt8) : keyOf Tryz.prog 111 (tripV (t.getD 0 0).toNat (t.getD 1 0).toNat (t.getD 2 0).toNat) = some (mapK t) := trip_key _ _ _ (UInt8.toNat_lt _) (UInt8.toNat_lt _) (UInt8.toNat_lt _)
theorem tripAt_len (b : List UInt8) (i : Nat) : (tripAt b i).length = 3 := rfl
theorem mapD_is (b : List UInt8) : ∀ i, Maps.IsMap (mapD b i)
  | 0 => ⟨[], rfl⟩
  | i + 1 => by
    rw [mapD]
    split
    · exact Maps.IsMap.put (mapD_is b i) _ _
    · exact mapD_is b i
theorem mapD_came (b : List UInt8) (t : List UInt8) (ht : t.length = 3) : ∀ i, Maps.has (mapD b i) (mapK t) = (came b i t).isSome ∧ ∀ z, (mapD b i).atKey (mapK t) z = match came b i t with | some k => .lit (.int .i64 (k : Int)) | none => z
  | 0 => ⟨rfl, fun z => rfl⟩
  | i + 1 => by
    obtain ⟨h1, h2⟩ := mapD_came b t ht i
    rw [mapD, came]
    by_cases h3 : i + 3 ≤ b.length
    · rw [if_pos h3]
      by_cases h4 : tripAt b i = t
      · rw [if_pos ⟨h3, h4⟩, h4]
        exact ⟨Maps.has_put_same (mapD_is b i) (keyed3.key (mapK_key t)) _, fun z => Maps.atKey_put_same (mapD_is b i) (keyed3.key (mapK_key t)) _ z⟩
      · rw [if_neg (fun h => h4 h.2)]
        have hne : mapK t ≠ mapK (tripAt b i) := fun e => h4 (mapK_inj (tripAt_len b i) ht e.symm)
        exact ⟨by rw [Maps.has_put_other hne, h1], fun z => by rw [Maps.atKey_put_other hne, h2]⟩
    · rw [if_neg h3, if_neg (fun h => h3 h.1)]
      exact ⟨h1, h2⟩
/-- The map of places stands at a block. -/
def MapAt (w : World) (km N : Nat) (b : List UInt8) (i : Nat) : Prop := w.ownsMap Tryz.prog 111 (plainElem (H := Unit) Tryz.prog 3) km N (mapD b i)
theorem MapAt.step {w : World} {km N : Nat} {b : List UInt8} {i : Nat} (h : MapAt w km N b i) (hi : i + 3 ≤ b.length) (hN : N < 10000000) (hb : b.length ≤ 10000000) :
    ∃ w', (Instr.mapUpdate 110 (.map (some km)) (tripV (b.getD i 0).toNat (b.getD (i + 1) 0).toNat (b.getD (i + 2) 0).toNat) (.int .i64 (i : Int))).run Tryz.prog w = .ok () w' ∧ MapAt w' km (N + 1) b (i + 1) ∧ w.grownBy w' (some km) := by
  have hw : (Lit.int .i64 (i : Int)).wf = true := by
    simp [Lit.wf, IntKind.min, IntKind.max, IntKind.bits, IntKind.signed]
    omega
  obtain ⟨w', hrun, r1, r2⟩ := World.ownsMap.update h keyed3 Tryz.underlying110 (by unfold maxLen; omega) (mapK_key (tripAt b i)) (plainElem_int Tryz.underlying3 hw)
  refine ⟨w', hrun, ?_, r2⟩
  unfold MapAt
  rw [mapD, if_pos hi]
  exact r1
theorem MapAt.skip {w : World} {km N : Nat} {b : List UInt8} {i : Nat} (h : MapAt w km N b i) (hi : ¬ i + 3 ≤ b.length) : MapAt w km (N + 1) b (i + 1) := by
  unfold MapAt
  rw [mapD, if_neg hi]
  exact World.ownsMap.mono h (by omega)
theorem RB.at3 {w : World} {B ab ao n : Nat} {b : List UInt8} (h : RB w B (some ⟨ab, ao, none⟩) n b) {j : Nat} (hj : j < n) : w.cell? ⟨ab, ao + j, none⟩ = some (.int .u8 ((b.getD j 0).toNat : Int)) := by
  have hl := h.len
  obtain ⟨ad, e, _, hc⟩ := h.elem hj (by omega)
  cases e
  rw [Addr.add_lit] at hc
  rw [hc, List.getD_eq_getElem?_getD, List.getElem?_eq_getElem (by omega)]; rfl
set_option maxRecDepth 100000 in
set_option maxHeartbeats 2000000 in
theorem note_any (w : World) (p1 p2 km N B ab ao n c i : Nat) (b : List UInt8) (I : Int) (hI : I = (i : Int)) (h1 : w.cell? ⟨p1, 0, none⟩ = some (.slice (some ⟨ab, ao, none⟩) n c)) (h2 : w.cell? ⟨p2, 0, none⟩ = some (.map (some km))) (hb : RB w B (some ⟨ab, ao, none⟩) n b) (hm : MapAt w km N b i) (hi : i < n) (hn : n ≤ 10000000) (hN : N < 10000000) (hnc : n ≤ c) :
    Calls Tryz.prog 61 #[.int .i64 I, .pointer (some ⟨p1, 0, none⟩), .pointer (some ⟨p2, 0, none⟩)] w fun e w' => e = .returned (.tuple #[]) ∧ MapAt w' km (N + 1) b (i + 1) ∧ w.grownBy w' (some km) := by
  subst hI
  have hl := hb.len
  by_cases h3 : i + 3 ≤ n
  · have c0 := hb.at3 (j := i) (by omega)
    have c1 : w.cell? ⟨ab, ao + i + 1, none⟩ = some (.int .u8 ((b.getD (i + 1) 0).toNat : Int)) := hb.at3 (j := i + 1) (by omega)
    have c2 : w.cell? ⟨ab, ao + i + 2, none⟩ = some (.int .u8 ((b.getD (i + 2) 0).toNat : Int)) := hb.at3 (j := i + 2) (by omega)
    obtain ⟨w', hrun, r1, r2⟩ := MapAt.step (w := w.drew) hm (by omega) hN (by omega)
    unfold tripV at hrun
    have hi3 : (i : Int) + 3 ≤ (n : Int) := by omega
    have hdi : decide ((i : Int) + 3 ≤ (n : Int)) = true := by simp; omega
    have hi0 : (0 : Int) ≤ (i : Int) := by omega
    have hin : (i : Int) ≤ (n : Int) := by omega
    have hnci : (n : Int) ≤ (c : Int) := by omega
    have hci : ¬ c = i := by omega
    have hci2 : ((c : Int) == (i : Int)) = false := by rw [beq_eq_false_iff_ne]; omega
    have hl3 : (3 : Int) ≤ (n : Int) - (i : Int) := by omega
    have hl3n : 3 ≤ n - i := by omega
    generalize (b.getD i 0).toNat = x0 at *
    generalize (b.getD (i + 1) 0).toNat = x1 at *
    generalize (b.getD (i + 2) 0).toNat = x2 at *
    have harr := fun wz => run_arrayAt (P := Tryz.prog) wz 111 5 3 (some ⟨ab, ao + i, none⟩) (n - i) (c - i) Tryz.underlying111 hl3n
    replace hb := hide hb
    replace hm := hide hm
    replace r1 := hide r1
    replace r2 := hide r2
    replace hl := hide hl
    go_enter Tryz.func61, Tryz.ntmps61
    go_wp2_with fail
    go_still_tail 7, (by kernel_rfl)
    change wpList _ _ _ _ _ w.drew
    clear c0 c1 c2 h1 h2
    have hg : Hid (w.grownBy w' (some km)) := ⟨r2.out.os, r2.out.tape, r2.out.output, r2.out.size, r2.out.block⟩
    generalize w.drew = wd at *
    go_wp2_with fail
    go_end0
    exact ⟨rfl, r1.out, hg.out⟩
  · have hm2 := hide (MapAt.skip hm (by omega))
    have hdi : decide ((i : Int) + 3 ≤ (n : Int)) = false := by simp; omega
    have hdi2 : ¬ (i : Int) + 3 ≤ (n : Int) := by omega
    have hdi3 : (n : Int) < (i : Int) + 3 := by omega
    replace hb := hide hb
    replace hm := hide hm
    replace hl := hide hl
    go_enter Tryz.func61, Tryz.ntmps61
    go_wp2_with fail
    go_end0
    exact ⟨rfl, hm2.out, World.grownBy.refl _ _⟩
end Go.Proofs.YtbchaomnjbkdhaaGreat
