/-
  The run of append on rows of bytes of the call's own, as an equation.
-/
import Derived.Test.YtajdeapdgbnahaaGreatDoorCyGr12
import Derived.Lib.AppendZeros
namespace Go.Proofs.YtajdeapdgbnahaaGreatDoor
set_option linter.unusedVariables false
set_option maxRecDepth 100000
open Go.RowKit
theorem gP(w:World)(base:Nat)(v:Value)(n:Nat)(l:List UInt8)(e:OB w base v n l)(B:Nat)(A:Option Addr)(m c:Nat)(a:List UInt8)(q:RB w B A m a)(ty:TypeId)(r:n+m<=140737488351232) (b:base<=w.heap.size):∃d w',(Builtin.append_ #[23,23] ty #[v,.slice A m c]).run Tryz.prog w=.ok d w'/\OB w' base d (n+m) (l++a)/\Below base w w'/\w.grownBy w' v.ownBlock/\(d.ownBlock=v.ownBlock\/d.ownBlock=some w.heap.size):=by obtain⟨i0,f,g,i,j⟩:=info_parts eB;obtain⟨d,w',s,o,p,t⟩:=bN (P:=Tryz.prog) w base 23 ty 5 i0 _ 1 1 Tryz.underlying23 f g i j rfl (by omega) v n (bv l) e B A m c (bv a) q (kU _) (by simp only[maxLen];omega) (by omega) b;rw[<-fM]at o;exact⟨d,w',s,o,(Below.refl _ _).grown p b (λk u=>e.iR k u),p,t⟩
theorem RN.lJ{w:World}{g:Nat}{x:Nat}{t:TypeId}(h:ah w g t #[.int .i64 (x:Int)]):RN w w.heap.size (some ⟨g,0,none⟩) 1 [x]:=by
 refine⟨by simp,λ_=>⟨_,rfl,h.lt,λj u a=>?_⟩⟩
 match j,a with
 |0,a=>simp[encI]at a;subst a;exact h.cell 0
theorem RB.lJ{w:World}{g:Nat}{x:UInt8}{t:TypeId}(h:ah w g t #[.int .u8 (x.toNat:Int)]):RB w w.heap.size (some ⟨g,0,none⟩) 1 [x]:=by
 refine⟨by simp[bv],λ_=>⟨_,rfl,h.lt,λj u a=>?_⟩⟩
 match j,a with
 |0,a=>simp[bv]at a;subst a;exact h.cell 0
end Go.Proofs.YtajdeapdgbnahaaGreatDoor
