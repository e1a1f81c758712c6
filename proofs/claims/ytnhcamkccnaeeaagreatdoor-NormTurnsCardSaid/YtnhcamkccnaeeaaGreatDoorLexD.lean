/-
  Contract of lex.mark: the longest mark at a place.
-/
import Derived.Test.YtnhcamkccnaeeaaGreatDoorLexSpec
import Derived.Test.YtnhcamkccnaeeaaGreatDoorShelf
namespace Go.Proofs.YtnhcamkccnaeeaaGreatDoor
open Go.RowKit
set_option linter.unusedVariables false

def markFrom (k : Nat) (l : List UInt8) : List UInt8 := ((marksL.drop k).find? (·.isPrefixOf l)).getD []
def markN (k : Nat) : List UInt8 := marksL.getD k []
theorem markFrom_hit {k : Nat} {l : List UInt8} (hk : k < 9) (h : (markN k).isPrefixOf l = true) : markFrom k l = markN k := by
  have hd : marksL.drop k = markN k :: marksL.drop (k + 1) := by
    rw [List.drop_eq_getElem_cons (show k < marksL.length from hk)]
    simp [markN, List.getD, show k < marksL.length from hk]
  unfold markFrom
  rw [hd, List.find?_cons, h]
  rfl
theorem markFrom_miss {k : Nat} {l : List UInt8} (hk : k < 9) (h : (markN k).isPrefixOf l = false) : markFrom k l = markFrom (k + 1) l := by
  have hd : marksL.drop k = markN k :: marksL.drop (k + 1) := by
    rw [List.drop_eq_getElem_cons (show k < marksL.length from hk)]
    simp [markN, List.getD, show k < marksL.length from hk]
  unfold markFrom
  rw [hd, List.find?_cons, h]
set_option maxRecDepth 100000 in
theorem mark_ix (k : Nat) (hk : k < 9) : ∀ w, (Instr.index 184 (.agg #[.string ⟨#[33, 61]⟩, .string ⟨#[60, 61]⟩, .string ⟨#[62, 61]⟩, .string ⟨#[40]⟩, .string ⟨#[41]⟩, .string ⟨#[61]⟩, .string ⟨#[60]⟩, .string ⟨#[62]⟩, .string ⟨#[126]⟩]) (.int .i64 (k : Int))).run Tryz.prog w = .ok (.string (str (markN k))) w := by
  match k, hk with
  | 0, _ => exact fun w => by kernel_rfl
  | 1, _ => exact fun w => by kernel_rfl
  | 2, _ => exact fun w => by kernel_rfl
  | 3, _ => exact fun w => by kernel_rfl
  | 4, _ => exact fun w => by kernel_rfl
  | 5, _ => exact fun w => by kernel_rfl
  | 6, _ => exact fun w => by kernel_rfl
  | 7, _ => exact fun w => by kernel_rfl
  | 8, _ => exact fun w => by kernel_rfl

set_option maxHeartbeats 1000000 in
theorem mark_any (s : ByteArray) (p0 : Nat) (w : World) (hs : s.size ≤ 1000000) (hp : p0 ≤ s.size) :
    Calls Tryz.prog 88 #[.string s, .int .i64 (p0 : Int)] w fun e w' => e = .returned (.string (str (markL (s.data.toList.drop p0)))) ∧ w = w' := by
  have hlen := hide (data_len s)
  have hsl : Hid ((s.extract p0 s.size).data.toList = s.data.toList.drop p0) := by
    rw [Hid, str_extract, str_toList, List.take_of_length_le]; simp
  go_enter Tryz.func88, Tryz.ntmps88
  go_wp2_with fail
  go_loop [8] (fun i => ∃ k : Nat, k ≤ 9 ∧ i = .int .i64 (k : Int) ∧ Hid (markL (s.data.toList.drop p0) = markFrom k (s.data.toList.drop p0))) (fun i => 9 - (intOf i).toNat)
  case atStart => exact ⟨0, by omega, rfl, rfl⟩
  case round =>
    obtain ⟨k, hk, rfl, HE⟩ := hrel
    by_cases h1 : k < 9
    · have hix := mark_ix k h1
      by_cases h2 : (markN k).isPrefixOf (s.data.toList.drop p0) = true
      · have HE2 : Hid (markL (s.data.toList.drop p0) = markN k) := by rw [Hid, HE.out, markFrom_hit h1 h2]
        have hp2 : Hid (Lib.hasPrefix (s.extract p0 s.size).data.toList (str (markN k)).data.toList = true) := by
          rw [Hid, hsl.out, str_toList]; exact h2
        clear HE h2
        go_wp2_with fail
        refine (Tryz.strings_HasPrefix _ _ _).mono ?_
        rintro e w' ⟨rfl, rfl⟩
        rw [hp2.out]
        clear hp2
        go_wp2_with fail
        go_ret
        exact ⟨ret_str HE2.out.symm, rfl⟩
      · have h3 : (markN k).isPrefixOf (s.data.toList.drop p0) = false := eq_false_of_ne_true h2
        have HE2 : Hid (markL (s.data.toList.drop p0) = markFrom (k + 1) (s.data.toList.drop p0)) := by rw [Hid, HE.out, markFrom_miss h1 h3]
        have hp2 : Hid (Lib.hasPrefix (s.extract p0 s.size).data.toList (str (markN k)).data.toList = false) := by
          rw [Hid, hsl.out, str_toList]; exact h3
        clear HE h2 h3
        go_wp2_with fail
        refine (Tryz.strings_HasPrefix _ _ _).mono ?_
        rintro e w' ⟨rfl, hw'⟩
        subst hw'
        rw [hp2.out]
        clear hp2
        go_wp2_with fail
        go_round
        case rel => exact ⟨k + 1, by omega, by go_num, HE2⟩
        case measure => simp [intOf]; omega
    · have hk9 : k = 9 := by omega
      subst hk9
      have HE2 : Hid (markL (s.data.toList.drop p0) = []) := by rw [Hid, HE.out]; rfl
      clear HE
      go_wp2_with fail
      go_ret
      exact ⟨ret_str (a := []) HE2.out.symm, rfl⟩
end Go.Proofs.YtnhcamkccnaeeaaGreatDoor
