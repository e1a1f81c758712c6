/-
  Contracts of slices.Sorted(maps.Keys(m)) at the pager's map.
-/
import Derived.Test.YtajdeapdgbnahaaGreatDoorCyGr33
import Derived.Test.YtajdeapdgbnahaaGreatDoorCyIter
namespace Go.Proofs.YtajdeapdgbnahaaGreatDoor
set_option linter.unusedVariables false
set_option maxRecDepth 100000
open Go.RowKit Go.Maps Go.Sort Go.Shelf
theorem Iz(a:Option Nat)(W:World):Calls Tryz.prog 192 #[.map a] W λe w'=>e=.returned (.func (.func 222) #[] #[.pointer (some ⟨W.heap.size,0,none⟩)])/\w'=W.alloc (.cells #[.map a] 109):=(callsIn_wide (n:=5)).1 (AnyZI.keys_in Tryz.KM Fence.wide 5 trivial rfl a W)
theorem LF(m:Nat):AnyZI.SortsIn Tryz.prog Tryz.qY Fence.wide m:=
 ⟨λblk off cap c W d a b=>callsIn_wide.2 (AnyM.slices_Sort_int Tryz.KN blk off cap c W d a b),
  λp cap W=>callsIn_wide.2 (AnyM.slices_Sort_int_none Tryz.KN p cap W)⟩
theorem Ce{H:Type}(b l:Nat)(a:DataW H)(z:Value->Option (DataW H×List MemPlace))(w:World)(d:w.ownsMap Tryz.prog 3 z b l a)(g:Maps.size a<=maxLen)(f:Maps.size a*8<=140737488355328):Calls Tryz.prog 191 #[.func (.func 222) #[] #[.pointer (some ⟨w.heap.size,0,none⟩)]] (w.alloc (.cells #[.map (some b)] 109)) λe w'=>∃(v:Value) (c:List Int),e=.returned v/\c.Perm (intKeys a)/\
  w'.ownsRow (w.alloc (.cells #[.map (some b)] 109)).heap.size 3 1 v c.length ((c.mergeSort (λx y=>decide (x<=y))).map encZ)/\Below (w.alloc (.cells #[.map (some b)] 109)).heap.size (w.alloc (.cells #[.map (some b)] 109)) w':=by
 have m:=d.lt;have i:SeqGives Fence.wide 2 Tryz.prog 222 #[.pointer (some ⟨w.heap.size,0,none⟩)] encZ (λc=>c.Perm (intKeys a)) (Maps.size a) (w.alloc (.cells #[.map (some b)] 109)):=AnyZI.keys_gives (ρ:=Tryz.vK) { Tryz.KM with } Fence.wide _ trivial rfl (by omega) w.heap.size b l a _ (by simp) (by simp) (by obtain⟨o,clock,j,p,q,r⟩:=d;exact⟨o,clock,(Below.heap_alloc _ _ b m).trans j,p,q,r⟩)
 have s:=AnyZI.sorted_in Tryz.Kc Fence.wide 5 trivial trivial trivial trivial rfl (by omega) (LF _) (enters_of Tryz.func221 (by kernel_rfl) rfl) 222 #[.pointer (some ⟨w.heap.size,0,none⟩)] trivial (enters_of Tryz.func222 (by kernel_rfl) rfl) _ _ g f _ i;refine((callsIn_wide (n:=5)).1 s).mono ?_;rintro e w' ⟨v,c,rfl,t,k,u,j⟩;exact⟨v,c,rfl,t,k,j⟩
theorem IA{D:DataW Value}{N k:Nat}{v:Value}(h:Keys D N (mq (λ_=>none) k (some v)))(m:k<N)(n:∃b,D=.map b/\b.Pairwise (λp q=>p.1≠q.1)/\∀p∈b,WideAt.IsKeyLit p.1):intKeys D=[(k:Int)]:=by
 obtain⟨b,rfl,d,g⟩:=n;have a:∀p∈b,p.1=.int .i64 (k:Int):=λp d=>by
  have i:Maps.has (.map b) p.1=true:=by
   rw[Maps.has_eq];refine List.any_eq_true.2 ⟨p,d,?_⟩;cases hs:p.1.sameKey p.1 with
   |true=>rfl
   |false=>exfalso;have l:=g p d;cases e:p.1<;>rw[e]at hs l<;>simp[Lit.sameKey,WideAt.IsKeyLit]at hs l
  obtain⟨j,o,e⟩:=h.only p.1 i;by_cases f:j=k
  ·rw[e,f]
  ·have:=h.none_ j o (by unfold mq;rw[if_neg f]);rw[<-e,i]at this;cases this
 have c:=(h.some_ k v m (by unfold mq;rw[if_pos rfl])).1
 match b,d,a,c with
 |[],_,_,c=>simp[Maps.has]at c
 |[p],_,a,_=>
  show[Go.intOf p.1]=_
  rw[a p (.head _)];rfl
 |p::q::s,d,a,_=>
  have r:=(List.pairwise_cons.1 d).1 q (.head _)
  exact absurd ((a p (.head _)).trans (a q (.tail _ (.head _))).symm) r
end Go.Proofs.YtajdeapdgbnahaaGreatDoor
