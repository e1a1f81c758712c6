/-
  A cursor in memory; contract of tree.Seek.
-/
import Derived.Test.YthohbbaglceppaaGreatDoorUTE
namespace Go.Proofs.YthohbbaglceppaaGreatDoor
open Go.RowKit
set_option linter.unusedVariables false
def StepV (G : Nat → Prop) (w : World) (vs : List Value) (s : NodeP × Nat) : Prop :=
  ∃ A c B d, vs = [.bool s.1.leaf, .slice A s.1.cells.length c, .slice B s.1.kids.length d, .int .i64 (s.2 : Int)] ∧ NodeM G w (.agg #[.bool s.1.leaf, .slice A s.1.cells.length c, .slice B s.1.kids.length d]) s.1
def FC (F C : Nat → Prop) (k : Nat) : Prop := F k ∨ C k
/-- A cursor; C: its own blocks. -/
structure CurAt (F C : Nat → Prop) (w : World) (gc gt : Nat) (way : List (NodeP × Nat)) (from_ : List UInt8) (tgt : Int) (er : Int) : Prop where
  mem : ∃ wv fA fc, Blk w gc 128 #[.pointer (some ⟨gt, 0, none⟩), wv, .slice fA from_.length fc, .int .i64 tgt, .int .i64 er] ∧ MB (FC F C) w fA from_.length from_ ∧
    (∀ k, wv.ownBlock = some k → C k) ∧ ∃ rows : List (List Value), rows.length = way.length ∧ w.ownsRow 0 169 4 wv way.length rows.flatten ∧ ∀ (k : Nat) (vs : List Value) (s : NodeP × Nat), rows[k]? = some vs → way[k]? = some s → StepV (Mine (FC F C) w) w vs s
  own : C gc
  apart : ∀ k, C k → ¬ F k
  lt : ∀ k, C k → k < w.heap.size
section
variable {F F' C : Nat → Prop} {w w' : World} {gc gt : Nat} {way : List (NodeP × Nat)} {from_ : List UInt8} {tgt er : Int}
theorem StepV.ev {vs : List Value} {s : NodeP × Nat} (h : StepV (Mine F w) w vs s) (he : Ev F w F' w') : StepV (Mine F' w') w' vs s := by
  obtain ⟨A, c, B, d, e, hn⟩ := h
  exact ⟨A, c, B, d, e, hn.ev he⟩
theorem CurAt.ev (h : CurAt F C w gc gt way from_ tgt er) (he : Ev F w F' w') : CurAt F' C w' gc gt way from_ tgt er := by
  obtain ⟨wv, fA, fc, hb, hm, ho, rows, h1, h2, h3⟩ := h.mem
  have he2 : Ev (FC F C) w (FC F' C) w' := he.add C
  refine ⟨⟨wv, fA, fc, he.blk hb (h.apart _ h.own), hm.ev he2, ho, rows, h1, he.only.row h2 (fun k hk => h.apart k (ho k hk)), fun k vs s e1 e2 => (h3 k vs s e1 e2).ev he2⟩, h.own, fun k hk => he.new (h.apart k hk) (h.lt k hk), fun k hk => Nat.lt_of_lt_of_le (h.lt k hk) he.size⟩
end
set_option maxRecDepth 100000 in
set_option maxHeartbeats 2000000 in
theorem seek_any (w : World) (F : Nat → Prop) (gt gp k : Nat) (st : PgS) (h : PgAt w F gp st) (ht : TreeAt w F gt gp k) (hk8 : k < 8) (key : List UInt8) (kA : Option Addr) (kc : Nat) (hk : MB F w kA key.length key) (hlen : key.length ≤ 1000000) :
    Calls Tryz.prog 32 #[.pointer (some ⟨gt, 0, none⟩), .slice kA key.length kc] w fun e w' => ∃ gc, e = .returned (.pointer (some ⟨gc, 0, none⟩)) ∧ Below w.heap.size w w' ∧ w.heap.size ≤ gc ∧ CurAt F (fun j => j = gc) w' gc gt [] key (st.roots k : Int) 0 := by
  obtain ⟨L, hL⟩ : ∃ L, L = key.length := ⟨_, rfl⟩
  rw [← hL] at hk hlen ⊢
  have hFlt := h.lt
  have hgt := Blk.lt ht.blk
  have t1 : w.cell? ⟨gt, 0, none⟩ = some (.pointer (some ⟨gp, 0, none⟩)) := ht.blk.cell 0
  have t2 : w.cell? ⟨gt, 1, none⟩ = some (.int .i64 (k : Int)) := ht.blk.cell 1
  have hcl := hide (tclone_any kA L kc key w.drew hk.rb (by omega))
  obtain ⟨R, hR⟩ : ∃ R, R = st.roots k := ⟨_, rfl⟩
  have hrt : Hid (∀ W, Below w.heap.size w W → Calls Tryz.prog 28 #[.pointer (some ⟨gp, 0, none⟩), .int .i64 (k : Int)] W fun e w' => e = .returned (.int .i64 (R : Int)) ∧ W = w') := hide fun W hB => by
    rw [hR]; exact root_any W F gp st (h.below hB) k hk8
  have hfin : Hid (∀ W A c, OB W w.heap.size (.slice A L c) L key → Below w.heap.size w W → ∃ gc, Ending.returned (.pointer (some ⟨W.heap.size, 0, none⟩)) = .returned (.pointer (some ⟨gc, 0, none⟩)) ∧ Below w.heap.size w (W.alloc (.cells #[.pointer (some ⟨gt, 0, none⟩), .slice none 0 0, .slice A L c, .int .i64 (R : Int), .int .i64 0] 128)) ∧ w.heap.size ≤ gc ∧ CurAt F (fun j => j = gc) (W.alloc (.cells #[.pointer (some ⟨gt, 0, none⟩), .slice none 0 0, .slice A L c, .int .i64 (R : Int), .int .i64 0] 128)) gc gt [] key (st.roots k : Int) 0) := hide (by
    intro W A c hO hB
    have hE : Ev (FC F (fun j => j = W.heap.size)) W (FC F (fun j => j = W.heap.size)) (W.alloc (.cells #[.pointer (some ⟨gt, 0, none⟩), .slice none 0 0, .slice A L c, .int .i64 (R : Int), .int .i64 0] 128)) := (Ev.refl _ W).alloc_ _
    have hm : MB (FC F (fun j => j = W.heap.size)) W A L key := by
      refine ⟨hO.1, fun hn => ?_⟩
      obtain ⟨g, cap, hv, hb, hlt⟩ := World.ownsRow.form hO hn
      have hA : A = some ⟨g, 0, none⟩ := by injection hv
      subst hA
      refine ⟨_, rfl, ⟨hlt, ?_⟩, World.ownsRow.cells hO (g := g) rfl⟩
      rintro (hf | hf)
      · have h9 : g < w.heap.size := hFlt _ hf
        omega
      · have h9 : g = W.heap.size := hf
        omega
    refine ⟨_, rfl, hB.alloc hB.size _, hB.size, ⟨.slice none 0 0, A, c, ?_, ?_, fun k hk => by simp [Value.ownBlock] at hk, [], rfl, ⟨rfl, .inl ⟨rfl, rfl⟩⟩, fun q vs s e1 => by simp at e1⟩, rfl, fun k hk hf => by have h9 := hFlt _ hf; have := hB.size; subst hk; omega, fun k hk => by subst hk; simp⟩
    · rw [← hL, ← hR]; exact Blk.new W 128 _
    · rw [← hL]; exact hm.ev hE)
  replace h := hide h
  replace ht := hide ht
  replace hk := hide hk
  replace hL := hide hL
  replace hR := hide hR
  replace hFlt := hide hFlt
  go_enter Tryz.func32, Tryz.ntmps32
  go_wp2_with fail
  go_region_law (first
    | (go_simp; go_at_call 76; refine hcl.out.mono ?_; rintro e w2 ⟨v2, rfl, hO2, hB2⟩; rw [← hL.out] at hO2; (obtain ⟨A2, c2, rfl, _, _, _, _⟩ := hO2.form); have hB2' : Below w.heap.size w w2 := (Below.refl _ w).drew.trans hB2; have s1 : w2.cell? ⟨gt, 0, none⟩ = some (.pointer (some ⟨gp, 0, none⟩)) := (hB2'.cell (p := ⟨gt, 0, none⟩) hgt).trans t1; have s2 : w2.cell? ⟨gt, 1, none⟩ = some (.int .i64 (k : Int)) := (hB2'.cell (p := ⟨gt, 1, none⟩) hgt).trans t2; have hdone := hide (hfin.out w2 A2 c2 hO2 hB2'); have hbb := hide hB2'; replace hO2 := hide hO2; replace hB2 := hide hB2; replace hB2' := hide hB2')
    | (go_simp; go_at_call 28; refine (hrt.out _ (Below.refl _ w).drew).mono ?_; rintro e w3 ⟨rfl, rfl⟩)
    | (go_simp; go_at_call 28; refine (hrt.out _ hbb.out).mono ?_; rintro e w3 ⟨rfl, rfl⟩))
  all_goals
    go_wp2_with fail
    first | exact hdone.out | (go_ret; exact hdone.out)
end Go.Proofs.YthohbbaglceppaaGreatDoor
