/-
  Contract of inquestlaw19.wakes.
-/
import Derived.Test.YtiffnfgmkkoaeaaGreatDoorBnGr42
import Derived.Test.YtiffnfgmkkoaeaaGreatDoorBnGr27
import Derived.Test.YtiffnfgmkkoaeaaGreatDoorBnGr26
import Derived.Lib.SlBytesConst
namespace Go.Proofs.YtiffnfgmkkoaeaaGreatDoor
open Go.RowKit Go.Maps
set_option linter.unusedVariables false
/-- A tree of a new store. -/
structure NTree (w : World) (gt gp : Nat) (F : Nat → Prop) (st : PgS) (w' : World) : Prop where
  pg : PgAt w' F gp st
  tr : TreeAt w' F gt gp 0
  bl : Below w.heap.size w w'
  up : ∀ k, F k → w.heap.size ≤ k
theorem NTree.alloc {w w' : World} {gt gp : Nat} {F : Nat → Prop} {st : PgS} (h : NTree w gt gp F st w') (o : Obj) : NTree w gt gp F st (w'.alloc o) :=
  ⟨h.pg.alloc o, h.tr.ev ((Ev.refl F w').alloc_ o), h.bl.alloc h.bl.size o, h.up⟩
theorem NTree.ev {w w' w'' : World} {gt gp : Nat} {F F' : Nat → Prop} {st st' : PgS} (h : NTree w gt gp F st w') (he : Ev F w' F' w'') (hp : PgAt w'' F' gp st') : NTree w gt gp F' st' w'' :=
  ⟨hp, h.tr.ev he, h.bl.trans (Only.below he.only h.up h.bl.size), fun k hk => by
    rcases he.grow k hk with h1 | h1
    · exact h.up k h1
    · have := h.bl.size; omega⟩
end Go.Proofs.YtiffnfgmkkoaeaaGreatDoor
