/-
  Contracts of small functions of layers 18 and 20: Held, Less.
-/
import Derived.Test.YtiiljlmeililbaaGreatDoorChecked
import Derived.Test.YtiiljlmeililbaaGreatDoorBsGr1
namespace Go.Proofs.YtiiljlmeililbaaGreatDoor
set_option linter.unusedVariables false
set_option maxRecDepth 100000
open Go.RowKit
def lessB : List UInt8->List UInt8->Bool
 | [],[] => false
 | [],_ :: _ => true
 | _ :: _,[] => false
 | a :: l,b :: r => if a=b then lessB l r else decide (a < b)
theorem lessB_app (p l r : List UInt8) : lessB (p ++ l) (p ++ r)=lessB l r:=by
 induction p with
 | nil => rfl
 | cons a p ih => simp [lessB,ih]
theorem lessB_split (k : Nat) (xs ys : List UInt8) (h : xs.take k=ys.take k) : lessB xs ys=lessB (xs.drop k) (ys.drop k):=by
 rw [<- List.take_append_drop k xs,<- List.take_append_drop k ys,h,lessB_app]
 rw [<- h,List.take_append_drop,h,List.take_append_drop]
theorem drop_cons {α : Type} (l : List α) (k : Nat) (h : k < l.length) : l.drop k=l[k] :: l.drop (k + 1):=(List.drop_eq_getElem_cons h)
theorem take_next {α : Type} {xs ys : List α} {k : Nat} (h : xs.take k=ys.take k) (h1 : k < xs.length) (h2 : k < ys.length) (e : xs[k]=ys[k]) : xs.take (k + 1)=ys.take (k + 1):=by
 rw [List.take_succ_eq_append_getElem h1,List.take_succ_eq_append_getElem h2,h,e]
theorem lessB_ne {xs ys : List UInt8} {k : Nat} (h : xs.take k=ys.take k) (h1 : k < xs.length) (h2 : k < ys.length) (e : xs[k] ≠ ys[k]) : lessB xs ys=decide ((xs[k].toNat : Int) < (ys[k].toNat : Int)):=by
 rw [lessB_split k xs ys h,drop_cons xs k h1,drop_cons ys k h2]
 simp [lessB,e,UInt8.lt_iff_toNat_lt]
theorem lessB_end {xs ys : List UInt8} {k : Nat} (h : xs.take k=ys.take k) (hx : k<=xs.length) (hy : k<=ys.length) (he : k=xs.length \/ k=ys.length) : lessB xs ys=decide (xs.length < ys.length):=by
 rw [lessB_split k xs ys h]
 rcases he with rfl | rfl
 · rw [List.drop_length]
   cases hd : ys.drop xs.length with
   | nil => have:=congrArg List.length hd; simp at this; simp [lessB]; omega
   | cons a t => have:=congrArg List.length hd; simp at this; simp [lessB]; omega
 · rw [List.drop_length]
   cases hd : xs.drop ys.length with
   | nil => have:=congrArg List.length hd; simp at this; simp [lessB]; omega
   | cons a t => have:=congrArg List.length hd; simp at this; simp [lessB]; omega
set_option maxHeartbeats 400000 in
theorem less_any (A B : Option Addr) (n m c d : Nat) (xs ys : List UInt8) (w : World) (ha : RB w w.heap.size A n xs) (hb : RB w w.heap.size B m ys)
   (hn : n<=1000) (hm : m<=1000) :
   Calls Tryz.prog 44 #[.slice A n c,.slice B m d] w fun e w' => e=.returned (.bool (lessB xs ys))/\Qt w w':=by
 have hxl:=hide ha.len
 have hyl:=hide hb.len
 have HA:=hide ha
 have HB:=hide hb
 clear ha hb
 go_enter Tryz.func44,Tryz.ntmps44
 go_wp2
 go_loopw [5] (fun i wr => ∃ k q : Nat,k<=n/\k<=m/\i=.int .i64 k/\wr=w.drewN q/\Hid (xs.take k=ys.take k)) (fun i _ => n - (intOf i).toNat)
 case atStart => exact ⟨0,0,by omega,by omega,rfl,rfl,by simp [Hid]⟩
 case round =>
   obtain ⟨k,q,hk,hk',rfl,rfl,HT⟩:=hrel
   by_cases h1 : k < n
   · by_cases h2 : k < m
     · have hx1 : k < xs.length := by have := hxl.out; omega
       have hy1 : k < ys.length:=by have:=hyl.out; omega
       obtain ⟨ad,rfl,_,ca⟩:=HA.out.elem h1 hx1
       obtain ⟨bd,rfl,_,cb⟩:=HB.out.elem h2 hy1
       have HN:=hide (lessB_ne HT.out hx1 hy1)
       have HE:=hide (take_next HT.out hx1 hy1)
       by_cases he : xs[k]=ys[k]
       · have HE := hide (HE.out he)
         rw [<- he] at cb
         clear HA HB HN HT he
         generalize (xs[k].toNat : Int)=x at ca cb
         go_wp2
         go_quiet (fail)
         go_wp2
         go_roundw
         case rel => exact ⟨k + 1,_,by omega,by omega,by go_num,rfl,HE⟩
         case measure => simp [intOf]; omega
       · have HN := hide (HN.out he)
         have hne : ((xs[k].toNat : Int) != (ys[k].toNat : Int))=true:=by
           rw [bne_iff_ne]; intro h; apply he; apply UInt8.toNat_inj.1; omega
         clear HA HB HE HT he
         generalize (xs[k].toNat : Int)=x at ca hne HN
         generalize (ys[k].toNat : Int)=y at cb hne HN
         go_wp2
         go_quiet (fail)
         go_wp2
         go_quiet (fail)
         go_wp2
         go_ret
         exact ⟨ret_bool HN.out.symm,by repeat (first | exact Qt.refl _ | apply Qt.drewN | apply Qt.drew)⟩
     · have HN := hide (lessB_end HT.out (by have := hxl.out; omega) (by have := hyl.out; omega) (.inr (by have := hyl.out; omega)))
       rw [hxl.out,hyl.out] at HN
       go_wp2
       go_ret
       exact ⟨ret_bool HN.out.symm,by repeat (first | exact Qt.refl _ | apply Qt.drewN | apply Qt.drew)⟩
   · have HN := hide (lessB_end HT.out (by have := hxl.out; omega) (by have := hyl.out; omega) (.inl (by have := hxl.out; omega)))
     rw [hxl.out,hyl.out] at HN
     go_wp2
     go_ret
     exact ⟨ret_bool HN.out.symm,by repeat (first | exact Qt.refl _ | apply Qt.drewN | apply Qt.drew)⟩
end Go.Proofs.YtiiljlmeililbaaGreatDoor
