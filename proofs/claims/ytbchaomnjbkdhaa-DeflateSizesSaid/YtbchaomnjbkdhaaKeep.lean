/-
  All blocks of a type stay.
-/
import Derived.Test.YtbchaomnjbkdhaaBase
namespace Go.Proofs.Ytbchaomnjbkdhaa
open Go.RowKit
set_option linter.unusedVariables false

/-- All blocks of a type stay. -/
def KeepT (t : TypeId) (w w' : World) : Prop := ∀ g cs, Blk w g t cs → Blk w' g t cs
section
variable {t : TypeId} {w w' w'' : World}
theorem KeepT.refl (t : TypeId) (w : World) : KeepT t w w := fun _ _ h => h
theorem KeepT.trans (h : KeepT t w w') (h' : KeepT t w' w'') : KeepT t w w'' := fun g cs hb => h' g cs (h g cs hb)
theorem KeepT.alloc (h : KeepT t w w') (o : Obj) : KeepT t w (w'.alloc o) := fun g cs hb => (h g cs hb).alloc o
theorem KeepT.drew (h : KeepT t w w') : KeepT t w w'.drew := h
theorem KeepT.drewN (h : KeepT t w w') (n : Nat) : KeepT t w (w'.drewN n) := h
theorem KeepT.set_ {t' : TypeId} {p : Addr} {cs' : Array Value} (h : KeepT t w w') (hp : Blk w' p.block t' cs') (ht : t ≠ t') (u : Value) : KeepT t w (w'.setCell p u) :=
  fun g cs hb => (h g cs hb).far (Blk.ne_ (h g cs hb) hp ht) u
theorem KeepT.grown {row : Option Nat} (h : KeepT t w w') (hg : w'.grownBy w'' row) (hr : ∀ k cs, row = some k → ¬ Blk w' k t cs) : KeepT t w w'' :=
  fun g cs hb => (h g cs hb).grown hg fun e => hr g cs e.symm (h g cs hb)
theorem KeepT.grown_own {base : Nat} {e : TypeId} {size n : Nat} {v : Value} {xs : List Value} (h : KeepT t w w') (hg : w'.grownBy w'' v.ownBlock) (ho : w'.ownsRow base e size v n xs) (ht : e ≠ t) : KeepT t w w'' :=
  h.grown hg fun k cs hk hb => own_blk_ne ho hb ht hk
end
end Go.Proofs.Ytbchaomnjbkdhaa
