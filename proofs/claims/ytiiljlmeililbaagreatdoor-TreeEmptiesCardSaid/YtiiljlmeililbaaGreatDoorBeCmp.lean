/-
  Contracts of bytes.Compare, bytes.Equal.
-/
import Derived.Test.YtiiljlmeililbaaGreatDoorBeGr3
import Derived.Test.YtiiljlmeililbaaGreatDoorBeShelf
import Derived.Lib.Bytealg
import Derived.Laws.IdiomStrings
import Derived.Laws.BytesArg
import Derived.Laws.Externs
namespace Go.Proofs.YtiiljlmeililbaaGreatDoor
set_option linter.unusedVariables false
set_option maxRecDepth 100000
open Go.RowKit
theorem run_loadB {w : World} : ∀ (l : List UInt8) (a : Addr) (acc : ByteArray),(∀ j x,l[j]?=some x->w.cell? (a.add j)=some (.int .u8 x.toNat)) ->
   (Extern.Bytes.loadBytes a l.length acc).run Tryz.prog w=.ok ⟨acc.data ++ l.toArray⟩ w
 | [],a,acc,_ => by simp [Extern.Bytes.loadBytes]
 | x :: l, a, acc, h => by
   have h0 : w.cell? a=some (.int .u8 x.toNat):=by
     have:=h 0 x rfl
     simpa [Addr.add] using this
   have ih:=run_loadB l (a.add 1) (acc.push x) (fun j y hy => by
     have:=h (j + 1) y (by simpa using hy)
     have e : (a.add 1).add j=a.add (j + 1):=by
       unfold Addr.add
       by_cases hj : j=0
       · subst hj; simp
       · simp [hj]; omega
     rw [e]; exact this)
   have hx : ((x.toNat : Int).toNat).toUInt8=x:=by simp
   simp only [List.length_cons,Extern.Bytes.loadBytes,Sem.run_bind,run_load,h0,Result.andThen,hx]
   rw [ih]
   congr 1
   apply ByteArray.ext
   simp [ByteArray.push]
theorem run_bytesOf {w : World} {B n c : Nat} {A : Option Addr} {l : List UInt8} (h : RB w B A n l) : (Extern.Bytes.bytesOf (.slice A n c)).run Tryz.prog w=.ok ⟨l.toArray⟩ w:=by
 have hl:=h.len
 rcases A with _ | ad
 · have h0 : n=0:=by
     rcases Nat.eq_zero_or_pos n with h0 | h0
     · exact h0
     · obtain ⟨ad,h,_⟩:=h.2 h0; cases h
   subst h0
   have : l=[]:=List.eq_nil_of_length_eq_zero hl
   subst this
   rfl
 · have hc : ∀ j x,l[j]?=some x->w.cell? (ad.add j)=some (.int .u8 x.toNat):=by
     intro j x hj
     have hlt:=(List.getElem?_eq_some_iff.1 hj).1
     obtain ⟨ad',e,_,hcell⟩:=h.2 (by omega)
     cases e
     have hx : x=l[j]:=(List.getElem?_eq_some_iff.1 hj).2.symm
     subst hx
     exact hcell j _ (bv_get hlt)
   have hr:=run_loadB (w:=w) l ad .empty hc
   rw [hl] at hr
   unfold Extern.Bytes.bytesOf
   rw [hr]
   have he : (⟨ByteArray.empty.data ++ l.toArray⟩ : ByteArray)=⟨l.toArray⟩:=by
     apply ByteArray.ext
     show (#[] : Array UInt8) ++ l.toArray=l.toArray
     simp
   rw [he]
theorem cmp_ltK : ∀ a b,Lib.compareBytes a b=if ltK a b=true then -1 else if a=b then 0 else 1
 | [],[] => rfl
 | [],_ :: _ => rfl
 | _ :: _,[] => by simp [Lib.compareBytes,ltK]
 | a :: r, b :: s => by
   rw [Lib.compareBytes,ltK,cmp_ltK r s]
   have e1 : (a < b)=(a.toNat < b.toNat):=by simp [UInt8.lt_iff_toNat_lt]
   have e2 : (b < a)=(b.toNat < a.toNat):=by simp [UInt8.lt_iff_toNat_lt]
   simp only [e1,e2]
   by_cases h1 : a.toNat < b.toNat
   · simp [h1]
   · by_cases h2 : b.toNat < a.toNat
     · have : a ≠ b := fun e => by subst e; omega
       simp [h1,h2,this]
     · have e : a = b := UInt8.toNat_inj.1 (by omega)
       subst e
       simp
theorem cmp_ge (a b : List UInt8) : decide (0<=Lib.compareBytes a b)=!ltK a b:=by
 rw [cmp_ltK]
 cases h : ltK a b with
 | true => simp
 | false =>
   by_cases e : a=b
   · simp [e]
   · simp [e]
theorem cmp_lt (a b : List UInt8) : decide (Lib.compareBytes a b < 0)=ltK a b:=by
 rw [cmp_ltK]
 cases h : ltK a b with
 | true => simp
 | false =>
   by_cases e : a=b
   · simp [e]
   · simp [e]
theorem cmp_any (w : World) (B B' : Nat) (A C : Option Addr) (n c m d : Nat) (a b : List UInt8) (ha : RB w B A n a) (hb : RB w B' C m b) :
   Calls Tryz.prog 51 #[.slice A n c,.slice C m d] w fun e w' => e=.returned (.int .i64 (Lib.compareBytes a b))/\w=w':=by
 have he : (callFunc 89 #[.slice A n c,.slice C m d]).run Tryz.prog w=.ok (.value (.int .i64 (Lib.compareBytes a b))) w:=by
   rw [run_callFunc_extern (P:=Tryz.prog) (f:=89) Tryz.func89 (by kernel_rfl) (by kernel_rfl) (by kernel_rfl) (e:=Extern.BytealgCompare.compare) (by kernel_rfl)]
   change ((do pure (goInt (Extern.BytealgCompare.cmp (<- Extern.Bytes.bytesOf (.slice A n c)) (<- Extern.Bytes.bytesOf (.slice C m d)))) : Sem Value).run Tryz.prog w).andThen _=_
   simp only [Sem.run_bind,run_bytesOf ha,run_bytesOf hb,Result.andThen_ok,Sem.run_pure,Lib.cmp_eq,goInt]
 clear ha hb
 go_enter Tryz.func51,Tryz.ntmps51
 go_wp2_with fail
 go_ret
 exact ⟨rfl,rfl⟩
theorem run_str_of {w : World} {B n c : Nat} {A : Option Addr} {l : List UInt8} (h : RB w B A n l) : (convert 37 9 (.slice A n c)).run Tryz.prog w=.ok (.string ⟨l.toArray⟩) w:=by
 have hl:=h.len
 rcases A with _ | ad
 · have h0 : n=0:=by
     rcases Nat.eq_zero_or_pos n with h0 | h0
     · exact h0
     · obtain ⟨ad,h,_⟩:=h.2 h0; cases h
   subst h0
   have : l=[]:=List.eq_nil_of_length_eq_zero hl
   subst this
   exact run_convert_bytes_nil (P:=Tryz.prog) w 37 5 Tryz.underlying37 Tryz.underlying5 0 c 9 Tryz.underlying9
 · subst hl
   refine run_convert_bytes_back (P:=Tryz.prog) w 37 9 5 ad c l Tryz.underlying37 Tryz.underlying5 Tryz.underlying9 fun j hj => ?_
   obtain ⟨ad',e,_,hcell⟩:=h.elem hj hj
   cases e
   exact hcell
theorem equal_any (w : World) (B B' : Nat) (A C : Option Addr) (n c m d : Nat) (a b : List UInt8) (ha : RB w B A n a) (hb : RB w B' C m b) :
   Calls Tryz.prog 85 #[.slice A n c,.slice C m d] w fun e w' => e=.returned (.bool (a == b))/\w=w':=by
 refine (Tryz.bytes_Equal_strs _ _ ⟨a.toArray⟩ ⟨b.toArray⟩ w (run_str_of ha) (run_str_of hb)).mono ?_
 rintro e w' ⟨rfl,rfl⟩
 refine ⟨?_,rfl⟩
 have e1 : ∀ l : List UInt8,(⟨l.toArray⟩ : ByteArray).toList=l:=fun l => by rw [ByteArray.toList_eq]
 rw [e1,e1]
end Go.Proofs.YtiiljlmeililbaaGreatDoor
