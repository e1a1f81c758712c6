/-
  Rows of ints that hold natural numbers: what came in, what a call owns; append, store, make (XInts without the sorting's words).
-/
import Derived.Test.YtiiljlmeililbaaGreatDoorBeGr1
import Derived.Test.YtiiljlmeililbaaGreatDoorBeGr3
import Derived.Lib.OwnBridge
import Derived.IntWalk
namespace Go.Proofs.YtiiljlmeililbaaGreatDoor
set_option linter.unusedVariables false
set_option maxRecDepth 100000
open Go.RowKit
def encI (n : Nat) : Value:=.int .i64 (n : Int)
def RN (w : World) (B : Nat) (A : Option Addr) (n : Nat) (l : List Nat) : Prop:=Reads w B 1 A n (l.map encI)
section
variable {w w' : World} {B B' base n : Nat} {A : Option Addr} {v : Value} {l : List Nat}
theorem RN.len (h : RN w B A n l) : l.length=n:=by have:=h.1; simpa using this
theorem RN.elem (h : RN w B A n l) {k : Nat} (hk : k < n) : ∃ ad,A=some ad/\ad.block < B/\w.cell? (ad.add k)=some (.int .i64 ((l.getD k 0 : Nat) : Int)):=by
 obtain ⟨ad,u,e,hb,hx,hc⟩:=Reads.at_ h hk
 have hl : k < l.length:=by have:=h.len; omega
 rw [List.getElem?_map,List.getElem?_eq_getElem hl] at hx
 injection hx with hx
 refine ⟨ad,e,hb,?_⟩
 rw [hc,<- hx,List.getD_eq_getElem?_getD,List.getElem?_eq_getElem hl]
 rfl
theorem RN.below (h : RN w B A n l) (hb : Below B w w') : RN w' B A n l:=Reads.below h hb
theorem RN.drewN (h : RN w B A n l) (k : Nat) : RN (w.drewN k) B A n l:=h
end
section
variable {α : Type} {enc : α->Value} {e : TypeId} {w w' : World} {B base n : Nat} {v : Value} {l : List α}
end
section
variable {w w' : World} {B base n : Nat} {v : Value} {l : List Nat}
end
theorem int_info : (Tryz.prog.info? 3).map (fun i => (i.zero,i.size,i.bytes))=some (some (.int .i64 0),1,8):=by kernel_rfl
section
variable {ops : Array Oper} {rest : List Oper} {o : Oper} {a : Act} {Q : Exit->Act->World->Prop}
end
theorem wide_any (w : World) (k : Nat) (hk1 : 1<=k) (hk : k<=7) : Calls Tryz.prog 93 #[.int .i64 (k : Int)] w fun e w' => e=.returned (.int .i64 (k : Int))/\w=w':=by
 have h1 : (1 : Int)<=(k : Int):=by omega
 have h7 : (k : Int)<=7:=by omega
 go_enter Tryz.func93,Tryz.ntmps93
 go_wp2_with fail
 all_goals
   go_ret
   exact ⟨ret_int (by simp; try omega),rfl⟩
theorem RB.cutAt {w : World} {B n c k : Nat} {A : Option Addr} {l : List UInt8} (h : RB w B A n l) (hk : k<=n) (hc : n<=c) (hne : ¬ c=k) : RB w B (A.map (fun x => x.add k)) (n - k) (l.drop k):=by
 have:=Reads.cut (cap:=c) h hk hc
 rw [if_neg hne,Nat.mul_one] at this
 unfold RB bv at *
 rw [List.map_drop]
 exact this
theorem RB.zero (w : World) (B : Nat) (A : Option Addr) : RB w B A 0 []:=⟨by simp [bv],fun h => absurd h (by omega)⟩
def BytesRet (w : World) (l : List UInt8) (e : Ending) (w' : World) : Prop:=∃ v,e=.returned v/\OB w' w.heap.size v l.length l/\Below w.heap.size w w'
theorem byte_at_k (n k : Nat) : (n : Int) / 2 ^ (8 * k) % 256=((UInt8.ofNat (n / 256 ^ k % 256)).toNat : Int):=by
 rw [byte_of,show (256 : Nat)=2 ^ 8 from rfl,<- Nat.pow_mul,Int.natCast_emod,Int.natCast_ediv,Int.natCast_pow]
 rfl
set_option maxHeartbeats 1000000 in
theorem wput_any (w : World) (A B : Option Addr) (n c m d k : Nat) (b : List UInt8) (ns : List Nat) (hb : RB w w.heap.size A n b) (hns : RN w w.heap.size B m ns) (hn : n<=10000000) (hm : m<=1000) (hk1 : 1<=k) (hk7 : k<=7) (hx : ∀ x ∈ ns,x < 9223372036854775808) :
   Calls Tryz.prog 70 #[.slice A n c,.int .i64 (k : Int),.slice B m d] w (BytesRet w (b ++ leBs k ns)):=by
 have hnl:=hide hb.len
 have hml:=hide hns.len
 have hx' : ∀ i,i < m->ns.getD i 0 < 9223372036854775808:=fun i hi => by
   have hl : i < ns.length:=by have:=hml.out; omega
   rw [List.getD_eq_getElem?_getD,List.getElem?_eq_getElem hl]; exact hx _ (List.getElem_mem hl)
 have hwd:=hide (fun wz => wide_any wz k hk1 hk7)
 replace hx':=hide hx'
 clear hx
 replace hb:=hide hb
 replace hns:=hide hns
 go_enter Tryz.func70,Tryz.ntmps70
 go_wp2_with (at_builtin; refine wpList_app_b rfl (.const (.slice none 0 0)) (.tmp 11) rfl w.heap.size _ 0 [] (OB.nil _ _) rfl w.heap.size A n c b rfl hb.out (by omega) (Nat.le_refl _) ?_; intro v2 w2 ho2 hb2 _ _; have hO2 : Hid (OB w2 w.heap.size v2 n b):=(by rw [List.nil_append,Nat.zero_add] at ho2; exact ho2); have hB2:=hide hb2; clear ho2 hb2)
 go_loopw [7,15] (fun v7 v15 wx => ∃ i : Nat,v15=.int .i64 (i : Int)/\i<=m/\Hid (OB wx w.heap.size v7 (n + k * i) (b ++ leBs k (ns.take i)))/\Hid (Below w.heap.size w wx)) (fun _ v15 _ => m - (intOf v15).toNat)
 case atStart => exact ⟨0,rfl,Nat.zero_le _,by rw [List.take_zero]; simpa [leBs] using hO2,hB2⟩
 case round =>
   clear hO2 hB2
   obtain ⟨i,rfl,hi,hO,hB⟩:=hrel
   by_cases hlt : i < m
   · obtain ⟨ad, rfl, hab, cE⟩ := (hns.out.below hB.out).elem hlt
     have hxi:=hx'.out i hlt
     have hsn : Hid (leBs k (ns.take (i + 1))=leBs k (ns.take i) ++ leB k (ns.getD i 0)):=leBs_snoc k ns i (by have:=hml.out; omega)
     obtain ⟨X,hX⟩ : ∃ X,X=ns.getD i 0:=⟨_,rfl⟩
     rw [<- hX] at cE hxi hsn
     replace hX:=hide hX
     have hik : k * i<=7 * 1000:=Nat.mul_le_mul hk7 (by omega)
     have hXI : (X : Int)<=9223372036854775807:=by omega
     replace hxi:=hide hxi
     go_wp2_with fail
     refine (hwd.out _).mono ?_
     rintro e w1 ⟨rfl,rfl⟩
     obtain ⟨P,hP⟩ : ∃ P,P=b ++ leBs k (ns.take i):=⟨_,rfl⟩
     rw [<- hP] at hO
     obtain ⟨NN,hNN⟩ : ∃ NN,NN=n + k * i:=⟨_,rfl⟩
     rw [<- hNN] at hO
     have hNb : NN<=10007000:=by omega
     replace hP:=hide hP
     replace hNN:=hide hNN
     go_wp2_with fail
     go_loopw [7,21] (fun v7 v21 wx => ∃ j : Nat,v21=.int .i64 (j : Int)/\j<=k/\Hid (OB wx w.heap.size v7 (NN + j) (P ++ leB j X))/\Hid (Below w.heap.size w wx)) (fun _ v21 _ => k - (intOf v21).toNat)
     case atStart => exact ⟨0,rfl,Nat.zero_le _,by rw [leB,List.append_nil]; exact hO,hB⟩
     case round =>
       clear hO hB
       obtain ⟨j,rfl,hj,hO,hB⟩:=hrel
       have hsz:=hB.out.size
       by_cases hlt2 : j < k
       · have hby := hide (byte_at_k X j)
         have hsj : Hid (P ++ leB (j + 1) X=(P ++ leB j X) ++ [UInt8.ofNat (X / 256 ^ j % 256)]):=by rw [Hid,leB_snoc,List.append_assoc]
         go_wp2_with (at_builtin; refine wpList_app_1 (UInt8.ofNat (X / 256 ^ j % 256)) hby.out rfl (.tmp 24) (.tmp 30) rfl w.heap.size _ _ _ hO.out rfl _ rfl (by omega) hsz ?_; intro v2 w2 ho2 hb2 hg2; have hO2:=hide ho2; have hB2:=hide (hB.out.trans hb2); clear ho2 hb2 hg2)
         go_roundw
         case rel => exact ⟨j + 1,by go_num,hlt2,by rw [hsj.out]; exact hO2,hB2⟩
         case measure => simp [intOf]; omega
       · obtain rfl : j = k := by omega
         have hO2 : Hid (OB wr w.heap.size u7 (n + j * (i + 1)) (b ++ leBs j (ns.take (i + 1)))):=by
           rw [Hid,hsn.out,<- List.append_assoc,<- hP.out,Nat.mul_succ,<- Nat.add_assoc,<- hNN.out]; exact hO.out
         clear hO
         go_wp2_with fail
         go_roundw
         case rel => exact ⟨i + 1,by go_num,hlt,hO2,hB⟩
         case measure => simp [intOf]; omega
   · obtain rfl : i = m := by omega
     have hO2 : Hid (OB wr w.heap.size u7 (b ++ leBs k ns).length (b ++ leBs k ns)):=by
       have:=hO.out
       rw [List.take_of_length_le (by have:=hml.out; omega)] at this
       rw [List.length_append,leBs_len,hnl.out,hml.out]; exact this
     clear hO
     go_wp2_with fail
     go_ret
     exact ⟨_,rfl,hO2.out,hB.out⟩
def CutRet (w : World) (k : Nat) (l : List UInt8) (e : Ending) (w' : World) : Prop:=∃ v,e=.returned (.tuple #[v,.int .i64 0])/\OB w' w.heap.size v k l/\Below w.heap.size w w'
set_option maxHeartbeats 1000000 in
theorem wcut_any (w : World) (A : Option Addr) (n c at_ k : Nat) (b : List UInt8) (hb : RB w w.heap.size A n b) (hnc : n<=c) (hn : n<=10000000) (hak : at_ + k<=n) :
   Calls Tryz.prog 92 #[.slice A n c,.int .i64 (at_ : Int),.int .i64 (k : Int)] w (CutRet w k ((b.drop at_).take k)):=by
 have hnl:=hide hb.len
 have h1 : ¬ (n : Int) < (at_ : Int):=by omega
 have h1D : decide (n < at_)=false:=by rw [decide_eq_false_iff_not]; omega
 obtain ⟨D,hD⟩ : ∃ D,D=n - at_:=⟨_,rfl⟩
 have hDI : (n : Int) - (at_ : Int)=(D : Int):=by omega
 have h2 : ¬ (D : Int) < (k : Int):=by omega
 have h2D : decide (D < k)=false:=by rw [decide_eq_false_iff_not]; omega
 obtain ⟨T,hT⟩ : ∃ T,T=at_ + k:=⟨_,rfl⟩
 have hTI : (at_ : Int) + (k : Int)=(T : Int):=by omega
 have hTc : (T : Int)<=(c : Int):=by omega
 have haT : (at_ : Int)<=(T : Int):=by omega
 have hTc2 : T<=c:=by omega
 have haT2 : at_<=T:=by omega
 have hTk : T - at_=k:=by omega
 replace hb:=hide hb
 replace hD:=hide hD
 replace hT:=hide hT
 by_cases hcn : c=at_
 · obtain rfl : k = 0 := by omega
   subst hcn
   have hz : Hid ((b.drop c).take 0=[]):=List.take_zero
   have hcc : c - c=0:=Nat.sub_self c
   go_enter Tryz.func92,Tryz.ntmps92
   go_wp2_with (at_builtin; refine wpList_app_b rfl (.const (.slice none 0 0)) (.tmp 33) rfl w.heap.size _ 0 [] (OB.nil _ _) rfl w.heap.size A 0 0 [] rfl (RB.zero _ _ _) (by omega) (Nat.le_refl _) ?_; intro v2 w2 ho2 hb2 _ _; have hO2:=hide ho2; have hB2:=hide hb2; clear ho2 hb2)
   go_ret2
   exact ⟨v2,rfl,hO2.out,hB2.out⟩
 · have hr := hide ((hb.out.cutAt (by omega) hnc hcn).take (k := k) (by omega))
   go_enter Tryz.func92,Tryz.ntmps92
   go_wp2_with (at_builtin; refine wpList_app_b rfl (.const (.slice none 0 0)) (.tmp 33) rfl w.heap.size _ 0 [] (OB.nil _ _) rfl w.heap.size (A.map (fun x => x.add at_)) k (c - at_) _ rfl hr.out (by omega) (Nat.le_refl _) ?_; intro v2 w2 ho2 hb2 _ _; have hO2:=hide ho2; have hB2:=hide hb2; clear ho2 hb2)
   go_ret2
   have hO3:=hO2.out
   rw [List.nil_append,Nat.zero_add] at hO3
   exact ⟨v2,rfl,hO3,hB2.out⟩
theorem i64_orB (a b : Nat) (ha : a < 281474976710656) (hb : b < 256) : bits .or .i64 ((a : Int) * 256) (b : Int)=((b + 256 * a : Nat) : Int):=by
 show IntKind.i64.wrap ((BitVec.ofInt 64 ((a : Int) * 256) ||| BitVec.ofInt 64 b).toNat : Int)=_
 have e2 : ((2 ^ 64 : Nat) : Int)=18446744073709551616:=by decide
 rw [BitVec.toNat_or,BitVec.toNat_ofInt,BitVec.toNat_ofInt,e2]
 have h1 : ((a : Int) * 256 % 18446744073709551616).toNat=a * 2 ^ 8:=by
   have e8 : (2 : Nat) ^ 8=256:=by decide
   rw [e8]; omega
 have h2 : ((b : Int) % 18446744073709551616).toNat=b:=by omega
 have h3 : a * 2 ^ 8 ||| b=b + 256 * a:=by
   rw [<- Nat.shiftLeft_eq,<- Nat.shiftLeft_add_eq_or_of_lt (by exact hb),Nat.shiftLeft_eq]
   omega
 rw [h1,h2,h3,IntWalk.i64_in _ (by omega)]
def NumRet (x : Nat) (er : Nat) (w : World) (e : Ending) (w' : World) : Prop:=e=.returned (.tuple #[.int .i64 (x : Int),.int .i64 (er : Int)])/\Below w.heap.size w w'
set_option maxHeartbeats 1000000 in
theorem wget_any (w : World) (A : Option Addr) (n c at_ k : Nat) (b : List UInt8) (hb : RB w w.heap.size A n b) (hnc : n<=c) (hn : n<=10000000) (hak : at_ + k<=n) (hk1 : 1<=k) (hk : k<=4) :
   Calls Tryz.prog 56 #[.slice A n c,.int .i64 (at_ : Int),.int .i64 (k : Int)] w (NumRet (numL ((b.drop at_).take k)) 0 w):=by
 have hct:=hide (wcut_any w A n c at_ k b hb hnc hn hak)
 have hwd:=hide (fun wz => wide_any wz k hk1 (by omega))
 have hll : ((b.drop at_).take k).length=k:=by rw [List.length_take,List.length_drop,hb.len]; omega
 obtain ⟨L,hL⟩ : ∃ L,L=(b.drop at_).take k:=⟨_,rfl⟩
 rw [<- hL] at hct hll ⊢
 have hnl:=numL_lt
 replace hL:=hide hL
 replace hb:=hide hb
 replace hll:=hide hll
 replace hnl:=hide hnl
 go_enter Tryz.func56,Tryz.ntmps56
 go_wp2_with fail
 refine (hwd.out _).mono ?_
 rintro e w1 ⟨rfl,rfl⟩
 go_wp2_with fail
 refine hct.out.mono ?_
 rintro e w2 ⟨v,rfl,hO,hB⟩
 obtain ⟨gv,cv,rfl,hcv,-⟩ : ∃ gv cv,v=.slice (some ⟨gv,0,none⟩) k cv/\k<=cv/\cv<=maxLen:=by
   rcases hO.parts with ⟨_,h5,_⟩ | h
   · omega
   · exact h
 replace hO:=hide hO
 replace hB:=hide hB
 go_wp2_with fail
 go_loopw [10,11] (fun v10 v11 wx => ∃ (i X : Nat),v11=.int .i64 ((i : Int) - 1)/\v10=.int .i64 (X : Int)/\Hid (X=numL (L.drop i))/\i<=k/\Hid (wx=w2)) (fun _ v11 _ => (intOf v11 + 1).toNat)
 case atStart => exact ⟨k,0,rfl,rfl,by rw [Hid,List.drop_of_length_le (by rw [hll.out]; exact Nat.le_refl _)]; rfl,Nat.le_refl _,rfl⟩
 case round =>
   obtain ⟨i,X,rfl,rfl,hX,hi,hw⟩:=hrel
   cases i with
   | zero =>
     have e0 : (((0 : Nat) : Int) - 1)=-1:=rfl
     rw [e0]
     have hX2 : Hid (X=numL L):=hX
     go_wp2_with fail
     go_ret2
     exact ⟨by rw [<- hX2.out]; rfl,by rw [hw.out]; exact hB.out⟩
   | succ i =>
     have e1 : (((i + 1 : Nat) : Int) - 1)=(i : Int):=by omega
     rw [e1]
     have hil : i < L.length:=by rw [hll.out]; omega
     have hd:=numL_drop L i hil
     rw [<- hX.out] at hd
     have hcell : wr.cell? ⟨gv,i,none⟩=some (.int .u8 ((L[i]).toNat : Int)):=by rw [hw.out]; exact hO.out.cell (by omega) hil
     have hXb : X < 256 ^ 3:=by
       have h1:=hnl.out (L.drop (i + 1))
       rw [<- hX.out,List.length_drop,hll.out] at h1
       exact Nat.lt_of_lt_of_le h1 (Nat.pow_le_pow_right (by omega) (by omega))
     have e3 : (256 : Nat) ^ 3=16777216:=by decide
     obtain ⟨C,hC⟩ : ∃ C,C=(L[i]).toNat:=⟨_,rfl⟩
     have hC256 : C < 256:=by rw [hC]; exact (L[i]).toNat_lt
     rw [<- hC] at hcell hd
     obtain ⟨Y,hY⟩ : ∃ Y,Y=C + 256 * X:=⟨_,rfl⟩
     rw [e3] at hXb
     have hiI : (i : Int) < (k : Int):=by omega
     have hi0 : (0 : Int)<=(i : Int):=by omega
     have hXn : Hid (Y=numL (L.drop i)):=by rw [Hid,hY,hd]
     replace hC:=hide hC
     replace hY:=hide hY
     have hor : bits .or .i64 ((X : Int) * 256) (C : Int)=(Y : Int):=by rw [i64_orB X C (by omega) hC256,hY.out]
     clear hd e1 e3
     go_wp2_with fail
     go_roundw
     case rel => exact ⟨i,Y,by go_num,rfl,hXn,by omega,hw⟩
     case measure => simp [intOf]
theorem shr_zero (n k : Nat) (h : n < 256 ^ k) : (n : Int) / 2 ^ (8 * k)=0:=by
 have e : (2 : Int) ^ (8 * k)=((256 ^ k : Nat) : Int):=by rw [show (256 : Nat)=2 ^ 8 from rfl,<- Nat.pow_mul,Int.natCast_pow]; rfl
 rw [e,<- Int.natCast_ediv,Nat.div_eq_of_lt h]; rfl
set_option maxHeartbeats 1000000 in
theorem fits_any (w : World) (B : Option Addr) (m d k : Nat) (ns : List Nat) (hns : RN w w.heap.size B m ns) (hm : m<=1000) (hk1 : 1<=k) (hk7 : k<=7) (hx : ∀ x ∈ ns,x < 256 ^ k) :
   Calls Tryz.prog 137 #[.int .i64 (k : Int),.slice B m d] w fun e w' => e=.returned (.bool true)/\w=w':=by
 have hml:=hide hns.len
 have hwd:=hide (fun wz => wide_any wz k hk1 hk7)
 have hx' : Hid (∀ i,i < m->(ns.getD i 0) < 256 ^ k):=fun i hi => by
   have hl : i < ns.length:=by have:=hml.out; omega
   rw [List.getD_eq_getElem?_getD,List.getElem?_eq_getElem hl]; exact hx _ (List.getElem_mem hl)
 have h7 : (256 : Nat) ^ k<=256 ^ 7:=Nat.pow_le_pow_right (by omega) hk7
 have e7 : (256 : Nat) ^ 7=72057594037927936:=by decide
 replace hns:=hide hns
 replace h7:=hide h7
 replace e7:=hide e7
 clear hx
 go_enter Tryz.func137,Tryz.ntmps137
 go_wp2_with fail
 go_loopw [9] (fun v9 wx => ∃ i : Nat,v9=.int .i64 (i : Int)/\i<=m/\w=wx) (fun v9 _ => m - (intOf v9).toNat)
 case atStart => exact ⟨0,rfl,Nat.zero_le _,(by first | rfl | trivial)⟩
 case round =>
   obtain ⟨i,rfl,hi,rfl⟩:=hrel
   by_cases hlt : i < m
   · obtain ⟨ad, rfl, hab, cE⟩ := hns.out.elem hlt
     have hxi:=hx'.out i hlt
     obtain ⟨X,hX⟩ : ∃ X,X=ns.getD i 0:=⟨_,rfl⟩
     rw [<- hX] at cE hxi
     have hz:=shr_zero X k hxi
     have hXb : (X : Int) < 72057594037927936:=by have:=h7.out; have:=e7.out; omega
     have hX0 : ¬ (X : Int) < 0:=by omega
     replace hX:=hide hX
     replace hxi:=hide hxi
     go_wp2_with fail
     refine (hwd.out _).mono ?_
     rintro e w1 ⟨rfl,rfl⟩
     go_wp2_with fail
     go_roundw
     case rel => exact ⟨i + 1,by go_num,hlt,(by first | rfl | trivial)⟩
     case measure => simp [intOf]; omega
   · obtain rfl : i = m := by omega
     go_wp2_with fail
     go_ret
     exact ⟨rfl,rfl⟩
end Go.Proofs.YtiiljlmeililbaaGreatDoor
