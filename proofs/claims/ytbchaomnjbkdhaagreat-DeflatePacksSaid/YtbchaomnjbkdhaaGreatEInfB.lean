/-
  The unpacker in memory.
-/
import Derived.Test.YtbchaomnjbkdhaaGreatEInfA
import Derived.Test.YtbchaomnjbkdhaaGreatENextW
import Derived.Test.YtbchaomnjbkdhaaGreatEA
namespace Go.Proofs.YtbchaomnjbkdhaaGreat
open Go.RowKit Go.Sort Go.Proofs
set_option linter.unusedVariables false
theorem OB.rebase {w : World} {b B n : Nat} {v : Value} {l : List UInt8} (h : OB w b v n l) (hB : ∀ k, v.ownBlock = some k → B ≤ k) : OB w B v n l := by
  obtain ⟨h1, h2⟩ := h
  refine ⟨h1, ?_⟩
  rcases h2 with h2 | ⟨g, cap, cur, rfl, hg, r⟩
  · exact Or.inl h2
  · exact Or.inr ⟨g, cap, cur, rfl, hB g rfl, r⟩
/-- An unpacker's own cells. -/
def rdCells (gb : Nat) (vo : Value) (at_ st : Nat) (last : Bool) (left back : Nat) (pl pd : Value) : Array Value :=
  #[.pointer (some ⟨gb, 0, none⟩), vo, .int .i64 (at_ : Int), .int .i64 (st : Int), .bool last, .int .i64 (left : Int), .int .i64 (back : Int), pl, pd]
/-- An unpacker stands at a block: its reader of bits, what came out. -/
structure Mach (w : World) (B gr gb : Nat) (vb vo : Value) (l : List UInt8) (p : Nat) (out : List UInt8) (at_ st : Nat) (last : Bool) (left back : Nat) (pl pd : Value) : Prop where
  rd : Blk w gr 85 (rdCells gb vo at_ st last left back pl pd)
  br : BRAt w gb vb l p
  ou : OB w B vo out.length out
  vbB : ∀ k, vb.ownBlock = some k → B ≤ k
  ap : ∀ k, vo.ownBlock = some k → vb.ownBlock ≠ some k
  grB : B ≤ gr
  gbB : B ≤ gb
/-- The blocks that an unpacker may write. -/
def SM (gr gb : Nat) (vo : Value) (k : Nat) : Prop := k = gr ∨ k = gb ∨ vo.ownBlock = some k
section
variable {w w' : World} {B gr gb : Nat} {vb vo : Value} {l : List UInt8} {p : Nat} {out : List UInt8} {at_ st : Nat} {last : Bool} {left back : Nat} {pl pd : Value}
theorem Mach.ne (h : Mach w B gr gb vb vo l p out at_ st last left back pl pd) : gr ≠ gb := Blk.ne_ h.rd h.br.1 (by decide)
theorem Mach.vbr (h : Mach w B gr gb vb vo l p out at_ st last left back pl pd) : vb.ownBlock ≠ some gr := own_blk_ne h.br.2 h.rd (by decide)
theorem Mach.vor (h : Mach w B gr gb vb vo l p out at_ st last left back pl pd) : vo.ownBlock ≠ some gr := own_blk_ne h.ou h.rd (by decide)
theorem Mach.vob (h : Mach w B gr gb vb vo l p out at_ st last left back pl pd) : vo.ownBlock ≠ some gb := own_blk_ne h.ou h.br.1 (by decide)
/-- What does not touch it lets it be. -/
theorem Mach.only (h : Mach w B gr gb vb vo l p out at_ st last left back pl pd) {S : Nat → Prop} (hO : Only S w w') (h1 : ¬ S gr) (h2 : ¬ S gb) (h3 : ∀ k, vb.ownBlock = some k → ¬ S k) (h4 : ∀ k, vo.ownBlock = some k → ¬ S k) : Mach w' B gr gb vb vo l p out at_ st last left back pl pd :=
  ⟨hO.blk h.rd h1, h.br.only hO h2 h3, hO.row h.ou h4, h.vbB, h.ap, h.grB, h.gbB⟩
/-- A block of another type is no part of it. -/
theorem Mach.other (h : Mach w B gr gb vb vo l p out at_ st last left back pl pd) {S : Nat → Prop} (hO : Only S w w') {ge : Nat} {cs : Array Value} (hE : Blk w ge 24 cs) (hS : ∀ k, k < w.heap.size → S k → k = ge) : Mach w' B gr gb vb vo l p out at_ st last left back pl pd := by
  refine h.only hO (fun hs => ?_) (fun hs => ?_) (fun k hk hs => ?_) (fun k hk hs => ?_)
  · have := hS _ h.rd.lt hs; exact Blk.ne_ h.rd hE (by decide) this
  · have := hS _ h.br.lt hs; exact Blk.ne_ h.br.1 hE (by decide) this
  · have h5 := hS _ (World.ownsRow.lt h.br.2 k hk).2 hs
    subst h5; exact own_blk_ne h.br.2 hE (by decide) hk
  · have h5 := hS _ (World.ownsRow.lt h.ou k hk).2 hs
    subst h5; exact own_blk_ne h.ou hE (by decide) hk
theorem Mach.drewN (h : Mach w B gr gb vb vo l p out at_ st last left back pl pd) (n : Nat) : Mach (w.drewN n) B gr gb vb vo l p out at_ st last left back pl pd := ⟨h.rd, h.br, h.ou, h.vbB, h.ap, h.grB, h.gbB⟩
theorem Mach.drew (h : Mach w B gr gb vb vo l p out at_ st last left back pl pd) : Mach w.drew B gr gb vb vo l p out at_ st last left back pl pd := ⟨h.rd, h.br, h.ou, h.vbB, h.ap, h.grB, h.gbB⟩
theorem Mach.alloc (h : Mach w B gr gb vb vo l p out at_ st last left back pl pd) (o : Obj) : Mach (w.alloc o) B gr gb vb vo l p out at_ st last left back pl pd :=
  h.only ((Only.refl (fun _ => False) w).alloc o) (fun h => h) (fun h => h) (fun _ _ h => h) (fun _ _ h => h)
/-- Bits were read. -/
theorem Mach.read (h : Mach w B gr gb vb vo l p out at_ st last left back pl pd) {p' : Nat} (hb : BRAt w' gb vb l p') (hO : Only (· = gb) w w') : Mach w' B gr gb vb vo l p' out at_ st last left back pl pd :=
  ⟨hO.blk h.rd h.ne, hb, hO.row h.ou fun k hk e => h.vob (by rw [hk, e]), h.vbB, h.ap, h.grB, h.gbB⟩
/-- A cell of its own is set. -/
theorem Mach.set_ (h : Mach w B gr gb vb vo l p out at_ st last left back pl pd) (i : Nat) (u : Value) {at2 st2 : Nat} {last2 : Bool} {left2 back2 : Nat} {pl2 pd2 : Value}
    (he : (rdCells gb vo at_ st last left back pl pd).setIfInBounds i u = rdCells gb vo at2 st2 last2 left2 back2 pl2 pd2) :
    Mach (w.setCell ⟨gr, i, none⟩ u) B gr gb vb vo l p out at2 st2 last2 left2 back2 pl2 pd2 := by
  have hO : Only (· = gr) w (w.setCell ⟨gr, i, none⟩ u) := (Only.refl (· = gr) w).setCell (p := ⟨gr, i, none⟩) (fun _ => rfl) u
  exact ⟨by rw [← he]; exact h.rd.set_ i u, h.br.only hO (fun e => h.ne e.symm) (fun k hk e => h.vbr (by rw [hk, e])), hO.row h.ou fun k hk e => h.vor (by rw [hk, e]), h.vbB, h.ap, h.grB, h.gbB⟩
theorem Mach.setO (h : Mach w B gr gb vb vo l p out at_ st last left back pl pd) (i : Nat) (u : Value) : Only (SM gr gb vo) w (w.setCell ⟨gr, i, none⟩ u) := (Only.refl _ w).setCell (p := ⟨gr, i, none⟩) (fun _ => .inl rfl) u
/-- A byte came out. -/
theorem Mach.emit (h : Mach w B gr gb vb vo l p out at_ st last left back pl pd) (hB : B ≤ w.heap.size) {vo' : Value} {c : UInt8} (h1 : Blk w' gr 85 ((rdCells gb vo at_ st last left back pl pd).setIfInBounds 1 vo')) (h2 : OB w' 0 vo' (out.length + 1) (out ++ [c])) (hO : Only (fun k => k = gr ∨ vo.ownBlock = some k) w w') (hk : ∀ k, vo'.ownBlock = some k → vo.ownBlock = some k ∨ w.heap.size ≤ k) :
    Mach w' B gr gb vb vo' l p (out ++ [c]) at_ st last left back pl pd := by
  refine ⟨h1, h.br.only hO (fun e => ?_) (fun k hk e => ?_), ?_, h.vbB, fun k hv e => ?_, h.grB, h.gbB⟩
  · rcases e with e | e
    · exact h.ne e.symm
    · exact h.vob e
  · rcases e with e | e
    · exact h.vbr (by rw [hk, e])
    · exact h.ap k e hk
  · have e : (out ++ [c]).length = out.length + 1 := by simp
    rw [e]
    exact h2.rebase fun k hv => by
      rcases hk k hv with h5 | h5
      · exact (World.ownsRow.lt h.ou k h5).1
      · omega
  · rcases hk k hv with h5 | h5
    · exact h.ap k h5 e
    · have := (World.ownsRow.lt h.br.2 k e).2; omega
theorem SM.of_gb {k : Nat} (h : k = gb) : SM gr gb vo k := .inr (.inl h)
/-- Codes stay. -/
theorem Mach.keepT (h : Mach w B gr gb vb vo l p out at_ st last left back pl pd) (hO : Only (SM gr gb vo) w w') (t : TypeId) (h1 : t ≠ 85) (h2 : t ≠ 118) (h3 : t ≠ 5) : KeepT t w w' :=
  hO.keepT fun k cs hs hb => by
    rcases hs with rfl | rfl | hs
    · exact Blk.ne_ hb h.rd h1 rfl
    · exact Blk.ne_ hb h.br.1 h2 rfl
    · exact own_blk_ne h.ou hb (fun e => h3 e.symm) hs
theorem Mach.code (h : Mach w B gr gb vb vo l p out at_ st last left back pl pd) (hO : Only (SM gr gb vo) w w') {base g : Nat} {ls : List Nat} (hc : CodeAt w base g ls) : CodeAt w' base g ls :=
  hc.keepT (h.keepT hO _ (by decide) (by decide) (by decide)) (h.keepT hO _ (by decide) (by decide) (by decide))
theorem Mach.below (h : Mach w B gr gb vb vo l p out at_ st last left back pl pd) (hO : Only (SM gr gb vo) w w') (hB : B ≤ w.heap.size) : Below B w w' :=
  hO.below (fun k hs => by
    rcases hs with rfl | rfl | hs
    · exact h.grB
    · exact h.gbB
    · exact (World.ownsRow.lt h.ou k hs).1) hB
theorem SM.trans {a : World} {vo' : Value} (h : Only (SM gr gb vo) a w) (h' : Only (SM gr gb vo') w w') (hk : ∀ k, vo'.ownBlock = some k → vo.ownBlock = some k ∨ a.heap.size ≤ k) : Only (SM gr gb vo) a w' :=
  h.trans h' fun i hi hs => by
    rcases hs with hs | hs | hs
    · exact .inl hs
    · exact .inr (.inl hs)
    · rcases hk i hs with h5 | h5
      · exact .inr (.inr h5)
      · omega
end
end Go.Proofs.YtbchaomnjbkdhaaGreat
