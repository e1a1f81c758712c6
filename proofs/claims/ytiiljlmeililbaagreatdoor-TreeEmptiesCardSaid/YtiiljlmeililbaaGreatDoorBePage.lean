/-
  Contracts of page.sum, page.Seal.
-/
import Derived.Test.YtiiljlmeililbaaGreatDoorBeGr15
import Derived.Test.YtiiljlmeililbaaGreatDoorBeGr10
import Derived.Test.YtiiljlmeililbaaGreatDoorBeGr7
namespace Go.Proofs.YtiiljlmeililbaaGreatDoor
set_option linter.unusedVariables false
set_option maxRecDepth 100000
open Go.RowKit
theorem one_pn (w : World) (x : Nat) (t : TypeId) : RN (w.alloc (.cells #[.int .i64 (x : Int)] t)) (w.alloc (.cells #[.int .i64 (x : Int)] t)).heap.size (some ⟨w.heap.size,0,none⟩) 1 [x]:=by
 refine ⟨by simp,fun _ => ⟨_,rfl,by simp,fun j u hj => ?_⟩⟩
 match j,hj with
 | 0,hj => simp [encI] at hj; subst hj; simp [Addr.add]
set_option maxHeartbeats 1000000 in
theorem psum_any (w : World) (no : Nat) (A : Option Addr) (n c : Nat) (b : List UInt8) (hno : no < 9223372036854775808) (hb : RB w w.heap.size A n b) (hn : n<=1000000) :
   Calls Tryz.prog 138 #[.int .i64 (no : Int),.slice A n c] w (BytesRet w (leB 4 (crcOf (leB 4 no ++ b)))):=by
 have hput:=hide (wput_any (w.alloc (.cells #[.int .i64 (no : Int)] 3)) none (some ⟨w.heap.size,0,none⟩) 0 0 1 1 4 [] [no] (RB.nil _ _) (one_pn w no 3) (by omega) (by omega) (by omega) (by omega) (by simpa using hno))
 have hblen:=hb.len
 replace hb:=hide hb
 go_enter Tryz.func138,Tryz.ntmps138
 go_wp2_with fail
 refine hput.out.mono ?_
 rintro e w1 ⟨v,rfl,hO,hB1⟩
 have e4 : ([] ++ leBs 4 [no] : List UInt8)=leB 4 no:=by simp [leBs]
 rw [e4,leB_len] at hO
 have hB : Below w.heap.size w w1:=((Below.refl w.heap.size w).alloc (Nat.le_refl _) (.cells #[.int .i64 (no : Int)] 3)).trans (hB1.mono (by simp))
 obtain ⟨A1,c1,rfl,hr1,_⟩:=hO.form
 have hof:=of_any (w1.alloc (.cells #[.slice A1 4 c1,.slice A n c] 37)) ⟨w1.heap.size,0,none⟩ 2 2 [leB 4 no,b] rfl (by omega) (by omega) (by simp) (by
   intro k b' hk
   match k,hk with
   | 0, hk =>
     simp at hk; subst hk
     exact ⟨A1,c1,by rw [leB_len]; simp [Addr.add],by rw [leB_len]; exact (hr1.alloc (Nat.le_refl _) _).more (by simp),by rw [leB_len]; omega⟩
   | 1, hk =>
     simp at hk; subst hk
     exact ⟨A,c,by rw [hblen]; simp [Addr.add],by rw [hblen]; exact ((hb.out.below hB).alloc hB.size _).more (by simp; exact Nat.le_succ_of_le hB.size),by omega⟩)
 have ef : ([leB 4 no,b] : List (List UInt8)).flatten=leB 4 no ++ b:=by simp
 rw [ef] at hof
 obtain ⟨X,hX⟩ : ∃ X,X=crcOf (leB 4 no ++ b):=⟨_,rfl⟩
 have hXl : X < 4294967296:=by rw [hX]; exact crcOf_lt _
 rw [<- hX] at hof
 replace hof:=hide hof
 replace hX:=hide hX
 replace hO:=hide hO
 replace hB:=hide hB
 replace hB1:=hide hB1
 replace hr1:=hide hr1
 go_wp2_with fail
 refine hof.out.mono ?_
 rintro e w2 ⟨rfl,hB2⟩
 have hB2' : Below w.heap.size w w2:=(hB.out.alloc hB.out.size (.cells #[.slice A1 4 c1,.slice A n c] 37)).trans (hB2.mono (by have:=hB.out.size; simp; omega))
 have hput2:=hide (wput_any (w2.alloc (.cells #[.int .i64 (X : Int)] 3)) none (some ⟨w2.heap.size,0,none⟩) 0 0 1 1 4 [] [X] (RB.nil _ _) (one_pn w2 X 3) (by omega) (by omega) (by omega) (by omega) (by simp; omega))
 replace hB2:=hide hB2
 replace hB2':=hide hB2'
 go_wp2_with fail
 refine hput2.out.mono ?_
 rintro e w3 ⟨v3,rfl,hO3,hB3⟩
 have e5 : ([] ++ leBs 4 [X] : List UInt8)=leB 4 X:=by simp [leBs]
 rw [e5] at hO3
 have hfin : Hid (BytesRet w (leB 4 (crcOf (leB 4 no ++ b))) (.returned v3) w3):=by
   rw [<- hX.out]
   exact hide ⟨v3,rfl,hO3.more (by simp; exact Nat.le_succ_of_le hB2'.out.size),(hB2'.out.alloc hB2'.out.size _).trans (hB3.mono (by simp; exact Nat.le_succ_of_le hB2'.out.size))⟩
 replace hO3:=hide hO3
 replace hB3:=hide hB3
 go_wp2_with fail
 go_ret
 exact hfin.out
end Go.Proofs.YtiiljlmeililbaaGreatDoor
