/-
  A new store's pager: contracts of db, log, sectors, there, and of what Open does first.
-/
import Derived.Test.YthohbbaglceppaaGreatDoorUVS
import Derived.Test.YthohbbaglceppaaGreatDoorUPgB
namespace Go.Proofs.YthohbbaglceppaaGreatDoor
open Go.RowKit Go.Maps
set_option linter.unusedVariables false
/-- The cells of a pager. -/
def pgF (gf : Nat) (nm : List UInt8) (a b : PgS) (gm gc : Nat) (row : Value) (rd : Nat) : Array Value :=
  #[ptrV gf, .string (str nm), .int .i64 (a.many : Int), .int .i64 (a.free : Int), .int .i64 (a.roots 0 : Int), .int .i64 (a.roots 1 : Int), .int .i64 (a.roots 2 : Int), .int .i64 (a.roots 3 : Int), .int .i64 (a.roots 4 : Int), .int .i64 (a.roots 5 : Int), .int .i64 (a.roots 6 : Int), .int .i64 (a.roots 7 : Int),
    .int .i64 (b.many : Int), .int .i64 (b.free : Int), .int .i64 (b.roots 0 : Int), .int .i64 (b.roots 1 : Int), .int .i64 (b.roots 2 : Int), .int .i64 (b.roots 3 : Int), .int .i64 (b.roots 4 : Int), .int .i64 (b.roots 5 : Int), .int .i64 (b.roots 6 : Int), .int .i64 (b.roots 7 : Int),
    .map (some gm), .map (some gc), row, .int .i64 (rd : Int), .bool false]
def dbN (nm : List UInt8) : List UInt8 := nm ++ [46, 100, 98]
def logN (nm : List UInt8) : List UInt8 := nm ++ [46, 108, 111, 103]
theorem str_db (nm : List UInt8) : str nm ++ (⟨#[46, 100, 98]⟩ : ByteArray) = str (dbN nm) := str_append nm [46, 100, 98]
theorem str_log (nm : List UInt8) : str nm ++ (⟨#[46, 108, 111, 103]⟩ : ByteArray) = str (logN nm) := str_append nm [46, 108, 111, 103]
set_option maxRecDepth 100000 in
theorem db_any (w : World) (gp : Nat) (nm : List UInt8) (h1 : w.cell? ⟨gp, 1, none⟩ = some (.string (str nm))) (hl : nm.length ≤ 20) : Calls Tryz.prog 43 #[.pointer (some ⟨gp, 0, none⟩)] w fun e w' => e = .returned (.string (str (dbN nm))) ∧ w = w' := by
  have hs : ¬ 9223372036854775807 < (str nm).size + 3 := by rw [str_size]; omega
  have hc := str_db nm
  go_enter Tryz.func43, Tryz.ntmps43
  go_wp2_with fail
  go_ret
  exact ⟨rfl, rfl⟩
set_option maxRecDepth 100000 in
theorem log_any (w : World) (gp : Nat) (nm : List UInt8) (h1 : w.cell? ⟨gp, 1, none⟩ = some (.string (str nm))) (hl : nm.length ≤ 20) : Calls Tryz.prog 45 #[.pointer (some ⟨gp, 0, none⟩)] w fun e w' => e = .returned (.string (str (logN nm))) ∧ w = w' := by
  have hs : ¬ 9223372036854775807 < (str nm).size + 4 := by rw [str_size]; omega
  have hc := str_log nm
  go_enter Tryz.func45, Tryz.ntmps45
  go_wp2_with fail
  go_ret
  exact ⟨rfl, rfl⟩
set_option maxRecDepth 100000 in
theorem sectors_any (w : World) (n : Nat) (hn : n ≤ 1000000000) : Calls Tryz.prog 108 #[.int .i64 (n : Int)] w fun e w' => e = .returned (.int .i64 (((n + 63) / 64 : Nat) : Int)) ∧ w = w' := by
  obtain ⟨D, hD⟩ : ∃ D, D = (n + 63) / 64 := ⟨_, rfl⟩
  rw [← hD]
  have h3 : ((n : Int) + 64 - 1) / 64 = (D : Int) := by omega
  replace h3 := hide h3
  replace hD := hide hD
  go_enter Tryz.func108, Tryz.ntmps108
  go_wp2_with fail
  go_ret
  exact ⟨ret_int h3.out, rfl⟩
set_option maxRecDepth 100000 in
/-- there, where there is none. -/
theorem there_new (w : World) (gp gf : Nat) (nm : List UInt8) (h0 : w.cell? ⟨gp, 0, none⟩ = some (.pointer (some ⟨gf, 0, none⟩))) (R : Ending → World → Prop)
    (hlen : Calls Tryz.prog 77 #[.pointer (some ⟨gf, 0, none⟩), .string (str nm)] w fun e w' => e = .returned (.tuple #[.int .i64 0, .bool false]) ∧ w = w')
    (hcr : Calls Tryz.prog 78 #[.pointer (some ⟨gf, 0, none⟩), .string (str nm)] w R) (hR : ∀ e w', R e w' → e = .returned (.int .i64 0)) :
    Calls Tryz.prog 42 #[.pointer (some ⟨gp, 0, none⟩), .string (str nm)] w R := by
  replace hlen := hide hlen
  replace hcr := hide hcr
  replace hR := hide hR
  go_enter Tryz.func42, Tryz.ntmps42
  go_wp2_with fail
  refine hlen.out.mono ?_
  rintro e w1 ⟨rfl, rfl⟩
  go_wp2_with fail
  refine hcr.out.mono ?_
  intro e w2 h2
  have he := hR.out e w2 h2
  subst he
  replace h2 := hide h2
  go_wp2_with fail
  first | exact h2.out | (go_ret; exact h2.out)
set_option maxRecDepth 100000 in
theorem open1_any (w : World) (cp gp : Nat) (nm : List UInt8) (hc : w.cell? ⟨cp, 0, none⟩ = some (.pointer (some ⟨gp, 0, none⟩))) (h1 : w.cell? ⟨gp, 1, none⟩ = some (.string (str nm))) (hl : nm.length ≤ 20) (R : Ending → World → Prop)
    (hth : ∀ q, Calls Tryz.prog 42 #[.pointer (some ⟨gp, 0, none⟩), .string (str (dbN nm))] (w.drewN q) R) (hR : ∀ e w', R e w' → e = .returned (.int .i64 0)) :
    Calls Tryz.prog 41 #[.pointer (some ⟨cp, 0, none⟩)] w R := by
  have hdb := hide (fun q => db_any (w.drewN q) gp nm h1 hl)
  replace hth := hide hth
  replace hR := hide hR
  go_enter Tryz.func41, Tryz.ntmps41
  go_wp2_with fail
  go_region_with (first
    | (go_at_call 43; refine (hdb.out 1).mono ?_; rintro e w3 ⟨rfl, rfl⟩)
    | (go_at_call 42; refine (hth.out 1).mono ?_; intro e w3 h3; have he := hR.out e w3 h3; subst he; replace h3 := hide h3))
  all_goals
    go_wp2_with fail
    first | exact h3.out | (go_ret; exact h3.out)
set_option maxRecDepth 100000 in
theorem open2_any (w : World) (cp gp : Nat) (nm : List UInt8) (hc : w.cell? ⟨cp, 0, none⟩ = some (.pointer (some ⟨gp, 0, none⟩))) (h1 : w.cell? ⟨gp, 1, none⟩ = some (.string (str nm))) (hl : nm.length ≤ 20) (R : Ending → World → Prop)
    (hth : ∀ q, Calls Tryz.prog 42 #[.pointer (some ⟨gp, 0, none⟩), .string (str (logN nm))] (w.drewN q) R) (hR : ∀ e w', R e w' → e = .returned (.int .i64 0)) :
    Calls Tryz.prog 44 #[.pointer (some ⟨cp, 0, none⟩)] w R := by
  have hdb := hide (fun q => log_any (w.drewN q) gp nm h1 hl)
  replace hth := hide hth
  replace hR := hide hR
  go_enter Tryz.func44, Tryz.ntmps44
  go_wp2_with fail
  go_region_with (first
    | (go_at_call 45; refine (hdb.out 1).mono ?_; rintro e w3 ⟨rfl, rfl⟩)
    | (go_at_call 42; refine (hth.out 1).mono ?_; intro e w3 h3; have he := hR.out e w3 h3; subst he; replace h3 := hide h3))
  all_goals
    go_wp2_with fail
    first | exact h3.out | (go_ret; exact h3.out)
end Go.Proofs.YthohbbaglceppaaGreatDoor
