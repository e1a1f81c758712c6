/-
  Contracts of slices.Sorted(maps.Keys(m)) at the pager's map.
-/
import Derived.Test.YtiiljlmeililbaaGreatDoorBeGr37
import Derived.Test.YtiiljlmeililbaaGreatDoorBeIter
import Derived.CallsIn
namespace Go.Proofs.YtiiljlmeililbaaGreatDoor
set_option linter.unusedVariables false
set_option maxRecDepth 100000
open Go.RowKit Go.Maps Go.Sort Go.Shelf
theorem keys_any (mb : Option Nat) (W : World) : Calls Tryz.prog 146 #[.map mb] W fun e w' => e=.returned (.func (.func 169) #[] #[.pointer (some ⟨W.heap.size,0,none⟩)])/\w'=W.alloc (.cells #[.map mb] 68) :=
 (callsIn_wide (n:=5)).1 (AnyZI.keys_in Tryz.keysI Fence.wide 5 trivial rfl mb W)
theorem sortsI (m : Nat) : AnyZI.SortsIn Tryz.prog Tryz.sortedI_ren Fence.wide m :=
 ⟨fun blk off cap ss W hH hblk hsz => callsIn_wide.2 (AnyM.slices_Sort_int Tryz.sortI blk off cap ss W hH hblk hsz),
  fun p cap W => callsIn_wide.2 (AnyM.slices_Sort_int_none Tryz.sortI p cap W)⟩
theorem sorted_any {H : Type} (b nn : Nat) (D0 : DataW H) (R : Value->Option (DataW H × List MemPlace)) (w : World) (hown : w.ownsMap Tryz.prog 3 R b nn D0) (hmax : Maps.size D0<=maxLen) (hbytes : Maps.size D0 * 8<=140737488355328) :
   Calls Tryz.prog 145 #[.func (.func 169) #[] #[.pointer (some ⟨w.heap.size,0,none⟩)]] (w.alloc (.cells #[.map (some b)] 68)) fun e w' => ∃ (v : Value) (ss : List Int),e=.returned v/\ss.Perm (intKeys D0) /\
     w'.ownsRow (w.alloc (.cells #[.map (some b)] 68)).heap.size 3 1 v ss.length ((ss.mergeSort (fun x y => decide (x<=y))).map encZ)/\Below (w.alloc (.cells #[.map (some b)] 68)).heap.size (w.alloc (.cells #[.map (some b)] 68)) w':=by
 have hbl:=hown.lt
 have hseq : SeqGives Fence.wide 2 Tryz.prog 169 #[.pointer (some ⟨w.heap.size,0,none⟩)] encZ (fun ss => ss.Perm (intKeys D0)) (Maps.size D0) (w.alloc (.cells #[.map (some b)] 68)) :=
   AnyZI.keys_gives (ρ:=Tryz.keysI_ren) { Tryz.keysI with } Fence.wide _ trivial rfl (by omega) w.heap.size b nn D0 _ (by simp) (by simp) (by
     obtain ⟨es,clock,hb,Ft,hs,hD⟩:=hown
     exact ⟨es,clock,(Below.heap_alloc _ _ b hbl).trans hb,Ft,hs,hD⟩)
 have cS:=AnyZI.sorted_in Tryz.sortedI Fence.wide 5 trivial trivial trivial trivial rfl (by omega) (sortsI _) (enters_of Tryz.func168 (by kernel_rfl) rfl) 169 #[.pointer (some ⟨w.heap.size,0,none⟩)] trivial (enters_of Tryz.func169 (by kernel_rfl) rfl) _ _ hmax hbytes _ hseq
 refine ((callsIn_wide (n:=5)).1 cS).mono ?_
 rintro e w' ⟨v,ss,rfl,hS,hrow,hnil,hb⟩
 exact ⟨v,ss,rfl,hS,hrow,hb⟩
theorem keys_one {D : DataW Value} {N k : Nat} {v : Value} (h : Keys D N (updO (fun _ => none) k (some v))) (hk : k < N) (he : ∃ es,D=.map es/\es.Pairwise (fun p q => p.1 ≠ q.1)/\∀ p ∈ es,WideAt.IsKeyLit p.1) : intKeys D=[(k : Int)]:=by
 obtain ⟨es,rfl,hp,hlit⟩:=he
 have hall : ∀ p ∈ es,p.1=.int .i64 (k : Int):=fun p hp => by
   have hh : Maps.has (.map es) p.1=true:=by
     rw [Maps.has_eq]
     refine List.any_eq_true.2 ⟨p,hp,?_⟩
     cases hs : p.1.sameKey p.1 with
     | true => rfl
     | false => exfalso; have hl:=hlit p hp; cases e : p.1 <;> rw [e] at hs hl <;> simp [Lit.sameKey,WideAt.IsKeyLit] at hs hl
   obtain ⟨j,hj,e⟩:=h.only p.1 hh
   by_cases hjk : j=k
   · rw [e,hjk]
   · have := h.none_ j hj (by unfold updO; rw [if_neg hjk])
     rw [<- e,hh] at this; cases this
 have hhas:=(h.some_ k v hk (by unfold updO; rw [if_pos rfl])).1
 match es,hp,hall,hhas with
 | [],_,_,hhas => simp [Maps.has] at hhas
 | [p], _, hall, _ =>
   show [Go.intOf p.1]=_
   rw [hall p (.head _)]; rfl
 | p :: q :: r, hp, hall, _ =>
   have h1:=(List.pairwise_cons.1 hp).1 q (.head _)
   exact absurd ((hall p (.head _)).trans (hall q (.tail _ (.head _))).symm) h1
end Go.Proofs.YtiiljlmeililbaaGreatDoor
