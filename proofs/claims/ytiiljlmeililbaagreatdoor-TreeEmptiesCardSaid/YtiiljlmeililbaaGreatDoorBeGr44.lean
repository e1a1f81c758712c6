/-
  Contract of pager.Open on a new store.
-/
import Derived.Test.YtiiljlmeililbaaGreatDoorBeGr43
import Derived.Test.YtiiljlmeililbaaGreatDoorBeGr3
namespace Go.Proofs.YtiiljlmeililbaaGreatDoor
set_option linter.unusedVariables false
set_option maxRecDepth 100000
open Go.RowKit Go.Maps
structure OpN where
 H0 : Nat
 gf : Nat
 bm : Nat
 most : Nat
 stamp : Nat
 gp : Nat
 gm : Nat
 gc : Nat
 cp : Nat
 nm : List UInt8
def rowN : Value:=.slice none 0 0
structure OpB (N : OpN) (w0 w : World) : Prop where
 pg : Blk w N.gp 73 (pgF N.gf N.nm hd0 hd0 N.gm N.gc rowN 0)
 mp : IMap w N.gm 65536 (fun _ => none)
 cp : Blk w N.cp 24 #[ptrV N.gp]
 fr : Fr N.H0 N.gf N.bm w0 w
 sz : N.H0<=w.heap.size
 ngf : N.gf < N.H0
 nbm : N.bm < N.H0
 ngp : N.H0<=N.gp
 ngm : N.H0<=N.gm
 ncp : N.H0<=N.cp
 nl : N.nm.length<=20
 hd : NameOk (dbN N.nm)
 hl : NameOk (logN N.nm)
def OpStg (N : OpN) (w0 : World) : Nat->World->Prop
 | 0,w => OpB N w0 w/\FSAt w 0 N.gf N.bm N.most N.stamp (dbN N.nm) (logN N.nm) none none
 | 1,w => OpB N w0 w/\∃ gd,N.H0<=gd/\FSAt w 0 N.gf N.bm N.most (N.stamp + 1) (dbN N.nm) (logN N.nm) (some gd) none/\FileX w 0 gd 0 0 (.slice none 0 0)
 | 2,w => OpB N w0 w/\∃ gd gl,FSt w N.H0 N.gf N.bm N.most (N.stamp + 2) (dbN N.nm) (logN N.nm) gd 0 0 gl 0 0 (.slice none 0 0) (.slice none 0 0)
 | 3,w => OpB N w0 w/\∃ gd gl,FSt w N.H0 N.gf N.bm N.most (N.stamp + 2) (dbN N.nm) (logN N.nm) gd 0 0 gl 0 0 (.slice none 0 0) (.slice none 0 0)
 | _,w => Blk w N.cp 24 #[ptrV N.gp]/\Blk w N.gp 73 (pgF N.gf N.nm hd1 hd1 N.gm N.gc rowN 0)/\IMap w N.gm 65536 (fun _ => none)/\Fr N.H0 N.gf N.bm w0 w
def OpSRet (N : OpN) (w0 : World) (i : Nat) (e : Ending) (w' : World) : Prop:=e=.returned (.int .i64 0)/\Hid (OpStg N w0 i w')
section
variable {N : OpN} {w0 w w' : World}
theorem OpB.below (h : OpB N w0 w) (hB : Below w.heap.size w w') : OpB N w0 w' :=
 ⟨h.pg.below hB h.pg.lt,h.mp.keep (hB.block _ h.mp.lt),h.cp.below hB h.cp.lt,h.fr.trans (Only.of_below hB),Nat.le_trans h.sz hB.size,h.ngf,h.nbm,h.ngp,h.ngm,h.ncp,h.nl,h.hd,h.hl⟩
theorem OpB.only (h : OpB N w0 w) (hO : Only (fun j => j=N.gf \/ j=N.bm) w w') : OpB N w0 w':=by
 have n1:=h.ngf
 have n2:=h.nbm
 have n3:=h.ngp
 have n4:=h.ngm
 have n5:=h.ncp
 have n6:=h.sz
 have n7:=hO.size
 exact ⟨hO.blk h.pg (by omega),h.mp.keep (hO.block _ h.mp.lt (by omega)),hO.blk h.cp (by omega),h.fr.trans (hO.mono fun j _ e => by
   rcases e with e | e
   · exact .inl e
   · exact .inr (.inl e)),by omega,n1,n2,n3,n4,n5,h.nl,h.hd,h.hl⟩
theorem db_ne (nm : List UInt8) : dbN nm ≠ logN nm:=fun e => by
 have:=congrArg List.length e
 simp [dbN,logN] at this
theorem os1 (h : OpStg N w0 0 w) (hs : N.stamp<=1000) : Calls Tryz.prog 28 #[.pointer (some ⟨N.cp,0,none⟩)] w (OpSRet N w0 1):=by
 obtain ⟨hb,hf⟩:=h
 refine open1_any w N.cp N.gp N.nm (hb.cp.cell 0) (hb.pg.cell 1) hb.nl _ (fun q => ?_) (fun e w' hr => hr.1)
 have hB : Below w.heap.size w (w.drewN q):=drew_only w q
 have hb2:=hb.below hB
 have hf2 : FSAt (w.drewN q) 0 N.gf N.bm N.most N.stamp (dbN N.nm) (logN N.nm) none none:=hf.only (S:=fun _ => False) (Only.of_below hB) (fun h => h) (fun h => h)
 refine there_new (w.drewN q) N.gp N.gf (dbN N.nm) (hb2.pg.cell 0) _ (flen_none (w.drewN q) 0 N.gf N.bm N.most N.stamp (dbN N.nm) (logN N.nm) (dbN N.nm) none none hf2 (.inl ⟨rfl,rfl⟩) (by have:=hb.hd.len; omega)) ((create_d (w.drewN q) 0 N.gf N.bm N.most N.stamp _ _ hf2 hb.hd (by omega) (Nat.zero_le _)).mono ?_) (fun e w' hr => hr.1)
 rintro e w' ⟨g,rfl,k1,k2,k3,k4⟩
 simp only [fdW,flW,if_true] at k1
 exact ⟨rfl,hide ⟨hb2.only k3,g,Nat.le_trans hb2.sz k4,k1,k2⟩⟩
theorem os2 (h : OpStg N w0 1 w) (hs : N.stamp<=1000) : Calls Tryz.prog 31 #[.pointer (some ⟨N.cp,0,none⟩)] w (OpSRet N w0 2):=by
 obtain ⟨hb,gd,hgd,hf,hx⟩:=h
 refine open2_any w N.cp N.gp N.nm (hb.cp.cell 0) (hb.pg.cell 1) hb.nl _ (fun q => ?_) (fun e w' hr => hr.1)
 have hB : Below w.heap.size w (w.drewN q):=drew_only w q
 have hb2:=hb.below hB
 have hf2 : FSAt (w.drewN q) 0 N.gf N.bm N.most (N.stamp + 1) (dbN N.nm) (logN N.nm) (some gd) none:=hf.only (S:=fun _ => False) (Only.of_below hB) (fun h => h) (fun h => h)
 have hx2 : FileX (w.drewN q) 0 gd 0 0 (.slice none 0 0):=hx.only (S:=fun _ => False) (Only.of_below hB) (fun h => h) (fun _ _ h => h)
 refine there_new (w.drewN q) N.gp N.gf (logN N.nm) (hb2.pg.cell 0) _ (flen_none (w.drewN q) 0 N.gf N.bm N.most (N.stamp + 1) (dbN N.nm) (logN N.nm) (logN N.nm) (some gd) none hf2 (.inr ⟨rfl,rfl⟩) (by have:=hb.hl.len; omega)) ((create_l (w.drewN q) 0 N.gf N.bm N.most (N.stamp + 1) _ _ gd hf2 hb.hl (by omega) (Nat.zero_le _)).mono ?_) (fun e w' hr => hr.1)
 rintro e w' ⟨g,rfl,k1,k2,k3,k4⟩
 simp only [fdW,flW,if_neg (db_ne N.nm).symm] at k1
 have n1:=hb2.ngf
 have n2:=hb2.nbm
 obtain ⟨st,hst⟩:=hx2.st
 have hlt:=hst.lt
 have hx3 : FileX w' 0 gd 0 0 (.slice none 0 0):=hx2.only k3 (by omega) (fun j hj => by cases hj)
 exact ⟨rfl,hide ⟨hb2.only k3,gd,g,⟨k1,hx3,k2,⟨hgd,fun j hj => by cases hj⟩,⟨Nat.le_trans hb2.sz k4,fun j hj => by cases hj⟩,by omega,fun j hj => (by cases hj),Nat.le_trans hb2.sz k3.size⟩⟩⟩
theorem os3 (h : OpStg N w0 2 w) : Calls Tryz.prog 33 #[.pointer (some ⟨N.gp,0,none⟩)] w (OpSRet N w0 3):=by
 obtain ⟨hb,gd,gl,hf⟩:=h
 refine (again_new w N.H0 N.gf N.bm N.most (N.stamp + 2) gd gl N.gp N.gm N.gc 0 N.nm hd0 hd0 rowN _ _ hb.pg hf hb.nl).mono ?_
 rintro e w' ⟨rfl,hB⟩
 exact ⟨rfl,hide ⟨hb.below hB,gd,gl,hf.below hB⟩⟩
theorem os4 (h : OpStg N w0 3 w) (hs : N.stamp<=900) (hm : N.most<=65536) (hm2 : 17<=N.most) : Calls Tryz.prog 34 #[.pointer (some ⟨N.gp,0,none⟩)] w (OpSRet N w0 4):=by
 obtain ⟨hb,gd,gl,hf⟩:=h
 have n2:=hb.nbm
 have n3:=hb.ngp
 have n4:=hb.ngm
 refine (first_new w N.H0 N.gf N.bm N.most (N.stamp + 2) gd gl N.gp N.gm N.gc 0 N.cp N.nm rowN _ _ hb.pg hb.mp hf hb.ngp hb.ngm (by omega) (by omega) hm hm2 (by omega) hb.nl hb.cp).mono ?_
 rintro e w' ⟨rfl,q0,q1,q2,q3⟩
 exact ⟨rfl,hide ⟨q0,q1,q2,hb.fr.trans q3⟩⟩
end
def OpRet (w : World) (gf bm : Nat) (nm : List UInt8) (e : Ending) (w' : World) : Prop :=
 ∃ gp gm gc,e=.returned (.tuple #[.pointer (some ⟨gp,0,none⟩),.int .i64 0])/\w.heap.size<=gp/\w.heap.size<=gm/\Blk w' gp 73 (pgF gf nm hd1 hd1 gm gc rowN 0)/\IMap w' gm 65536 (fun _ => none)/\Fr w.heap.size gf bm w w'
set_option maxHeartbeats 1000000 in
theorem open_new (w : World) (gf bm most stamp : Nat) (nm : List UInt8) (h : FSAt w 0 gf bm most stamp (dbN nm) (logN nm) none none) (hd : NameOk (dbN nm)) (hl : NameOk (logN nm)) (h1 : 1<=nm.length) (hnm : nm.length<=20) (hmost : most<=65536) (hm17 : 17<=most) (hst : stamp<=100) :
   Calls Tryz.prog 7 #[.pointer (some ⟨gf,0,none⟩),.string (str nm)] w (OpRet w gf bm nm):=by
 have hdn:=hide (down_any w 0 gf bm most stamp _ _ none none h)
 have hsz1 : ¬ ((str nm).size : Int) < 1:=by simp [str,ByteArray.size]; omega
 have hsz2 : ¬ 20 < ((str nm).size : Int):=by simp [str,ByteArray.size]; omega
 have hmm:=@run_makeMap Tryz.prog
 obtain ⟨W7,hW7⟩ : ∃ W7,W7=((((w.alloc (.map #[] 0)).alloc (.map #[] 0)).alloc (.cells #[Value.pointer (some ⟨gf,0,none⟩),Value.string (str nm),Value.int .i64 0,Value.int .i64 0,Value.int .i64 0,Value.int .i64 0,Value.int .i64 0,Value.int .i64 0,Value.int .i64 0,Value.int .i64 0,Value.int .i64 0,Value.int .i64 0,Value.int .i64 0,Value.int .i64 0,Value.int .i64 0,Value.int .i64 0,Value.int .i64 0,Value.int .i64 0,Value.int .i64 0,Value.int .i64 0,Value.int .i64 0,Value.int .i64 0,Value.map (some w.heap.size),Value.map (some (w.heap.size + 1)),Value.slice none 0 0,Value.int .i64 0,Value.bool false] 73)).alloc (.cells #[.pointer (some ⟨w.heap.size + 1 + 1,0,none⟩)] 24)):=⟨_,rfl⟩
 obtain ⟨N,hN⟩ : ∃ N : OpN,N=⟨w.heap.size,gf,bm,most,stamp,w.heap.size + 1 + 1,w.heap.size,w.heap.size + 1,w.heap.size + 1 + 1 + 1,nm⟩:=⟨_,rfl⟩
 have hbl : bm < w.heap.size:=by obtain ⟨nn,ho,_⟩:=h.mp; exact ho.lt
 have hgl : gf < w.heap.size:=h.st.lt
 have hB7 : Below w.heap.size w W7:=by
   rw [hW7]
   exact ((((Below.refl w.heap.size w).alloc (Nat.le_refl _) _).alloc (by simp) _).alloc (by simp <;> omega) _).alloc (by simp <;> omega) _
 have hSt0 : Hid (OpStg N w 0 W7):=by
   have e1 : ((w.alloc (.map #[] 0)).alloc (.map #[] 0)).heap.size=w.heap.size + 1 + 1:=by simp
   have e2 : (((w.alloc (.map #[] 0)).alloc (.map #[] 0)).alloc (.cells #[Value.pointer (some ⟨gf,0,none⟩),Value.string (str nm),Value.int .i64 0,Value.int .i64 0,Value.int .i64 0,Value.int .i64 0,Value.int .i64 0,Value.int .i64 0,Value.int .i64 0,Value.int .i64 0,Value.int .i64 0,Value.int .i64 0,Value.int .i64 0,Value.int .i64 0,Value.int .i64 0,Value.int .i64 0,Value.int .i64 0,Value.int .i64 0,Value.int .i64 0,Value.int .i64 0,Value.int .i64 0,Value.int .i64 0,Value.map (some w.heap.size),Value.map (some (w.heap.size + 1)),Value.slice none 0 0,Value.int .i64 0,Value.bool false] 73)).heap.size=w.heap.size + 1 + 1 + 1:=by simp
   have k1 : Blk W7 (w.heap.size + 1 + 1) 73 (pgF gf nm hd0 hd0 w.heap.size (w.heap.size + 1) rowN 0):=by
     rw [hW7]
     have q:=Blk.new ((w.alloc (.map #[] 0)).alloc (.map #[] 0)) 73 #[Value.pointer (some ⟨gf,0,none⟩),Value.string (str nm),Value.int .i64 0,Value.int .i64 0,Value.int .i64 0,Value.int .i64 0,Value.int .i64 0,Value.int .i64 0,Value.int .i64 0,Value.int .i64 0,Value.int .i64 0,Value.int .i64 0,Value.int .i64 0,Value.int .i64 0,Value.int .i64 0,Value.int .i64 0,Value.int .i64 0,Value.int .i64 0,Value.int .i64 0,Value.int .i64 0,Value.int .i64 0,Value.int .i64 0,Value.map (some w.heap.size),Value.map (some (w.heap.size + 1)),Value.slice none 0 0,Value.int .i64 0,Value.bool false]
     rw [e1] at q
     exact q.below ((Below.refl _ _).alloc (Nat.le_refl _) _) q.lt
   have k2 : IMap W7 w.heap.size 65536 (fun _ => none):=by
     rw [hW7]
     have q:=IMap.new w 65536
     have hz : (w.alloc (.map #[] 0)).heap.size=w.heap.size + 1:=by simp
     refine q.keep ((((Below.refl (w.heap.size + 1) (w.alloc (.map #[] 0))).alloc (by simp) _).alloc (by simp <;> omega) _ |>.alloc (by simp <;> omega) _).block _ (by omega))
   have k3 : Blk W7 (w.heap.size + 1 + 1 + 1) 24 #[ptrV (w.heap.size + 1 + 1)]:=by
     rw [hW7]
     have q:=Blk.new (((w.alloc (.map #[] 0)).alloc (.map #[] 0)).alloc (.cells #[Value.pointer (some ⟨gf,0,none⟩),Value.string (str nm),Value.int .i64 0,Value.int .i64 0,Value.int .i64 0,Value.int .i64 0,Value.int .i64 0,Value.int .i64 0,Value.int .i64 0,Value.int .i64 0,Value.int .i64 0,Value.int .i64 0,Value.int .i64 0,Value.int .i64 0,Value.int .i64 0,Value.int .i64 0,Value.int .i64 0,Value.int .i64 0,Value.int .i64 0,Value.int .i64 0,Value.int .i64 0,Value.int .i64 0,Value.map (some w.heap.size),Value.map (some (w.heap.size + 1)),Value.slice none 0 0,Value.int .i64 0,Value.bool false] 73)) 24 #[.pointer (some ⟨w.heap.size + 1 + 1,0,none⟩)]
     rw [e2] at q
     exact q
   refine hide ?_
   rw [hN]
   exact ⟨⟨k1,k2,k3,Only.of_below hB7,hB7.size,hgl,hbl,by show w.heap.size<=w.heap.size + 1 + 1; omega,Nat.le_refl _,by show w.heap.size<=w.heap.size + 1 + 1 + 1; omega,hnm,hd,hl⟩,h.only (S:=fun _ => False) (Only.of_below hB7) (fun h => h) (fun h => h)⟩
 replace hN:=hide hN
 have T1 : Hid (∀ wx,OpStg N w 0 wx->Calls Tryz.prog 28 #[.pointer (some ⟨w.heap.size + 1 + 1 + 1,0,none⟩)] wx (OpSRet N w 1)):=hide fun wx hx => by
   have:=os1 hx (by rw [hN.out]; show stamp<=1000; omega)
   rw [show N.cp=w.heap.size + 1 + 1 + 1 by rw [hN.out]] at this
   exact this
 have T2 : Hid (∀ wx,OpStg N w 1 wx->Calls Tryz.prog 31 #[.pointer (some ⟨w.heap.size + 1 + 1 + 1,0,none⟩)] wx (OpSRet N w 2)):=hide fun wx hx => by
   have:=os2 hx (by rw [hN.out]; show stamp<=1000; omega)
   rw [show N.cp=w.heap.size + 1 + 1 + 1 by rw [hN.out]] at this
   exact this
 have T3 : Hid (∀ wx,OpStg N w 2 wx->Calls Tryz.prog 33 #[.pointer (some ⟨w.heap.size + 1 + 1,0,none⟩)] wx (OpSRet N w 3)):=hide fun wx hx => by
   have:=os3 hx
   rw [show N.gp=w.heap.size + 1 + 1 by rw [hN.out]] at this
   exact this
 have T4 : Hid (∀ wx,OpStg N w 3 wx->Calls Tryz.prog 34 #[.pointer (some ⟨w.heap.size + 1 + 1,0,none⟩)] wx (OpSRet N w 4)):=hide fun wx hx => by
   have:=os4 hx (by rw [hN.out]; show stamp<=900; omega) (by rw [hN.out]; exact hmost) (by rw [hN.out]; exact hm17)
   rw [show N.gp=w.heap.size + 1 + 1 by rw [hN.out]] at this
   exact this
 replace h:=hide h
 replace hd:=hide hd
 replace hl:=hide hl
 replace hB7:=hide hB7
 go_enter Tryz.func7,Tryz.ntmps7
 go_wp2_with fail
 refine hdn.out.mono ?_
 rintro e w1 ⟨rfl,rfl⟩
 go_wp2_with fail
 rw [<- hW7]
 replace hW7:=hide hW7
 clear hmm hdn
 go_loopw [38] (fun v38 wx => ∃ i : Nat,v38=.int .i64 (i : Int)/\i<=4/\Hid (OpStg N w i wx)) (fun v38 _ => 4 - (intOf v38).toNat)
 case atStart => exact ⟨0,rfl,by omega,hSt0⟩
 case round =>
   obtain ⟨i,rfl,hi,hsg⟩:=hrel
   have h7 : i=0 \/ i=1 \/ i=2 \/ i=3 \/ i=4:=by omega
   rcases h7 with rfl | rfl | rfl | rfl | rfl
   · have hT := hide (T1.out _ hsg.out)
     have hix : ∀ wx,(Instr.index 76 (.agg #[.func (Fn.func 28) #[] #[.pointer (some ⟨w.heap.size + 1 + 1 + 1,0,none⟩)],.func (Fn.func 31) #[] #[.pointer (some ⟨w.heap.size + 1 + 1 + 1,0,none⟩)],.func (Fn.func 33) #[.pointer (some ⟨w.heap.size + 1 + 1,0,none⟩)] #[],.func (Fn.func 34) #[.pointer (some ⟨w.heap.size + 1 + 1,0,none⟩)] #[]]) (.int .i64 0)).run Tryz.prog wx=.ok (.func (Fn.func 28) #[] #[.pointer (some ⟨w.heap.size + 1 + 1 + 1,0,none⟩)]) wx:=fun _ => by kernel_rfl
     clear T1 T2 T3 T4 hsg hSt0 hN hi
     go_wp2_with fail
     refine hT.out.mono ?_
     rintro e w9 ⟨rfl,h9⟩
     clear hT hix
     go_wp2_with fail
     go_roundw
     case rel => exact ⟨1,rfl,by omega,h9⟩
     case measure => simp [intOf]
   · have hT := hide (T2.out _ hsg.out)
     have hix : ∀ wx,(Instr.index 76 (.agg #[.func (Fn.func 28) #[] #[.pointer (some ⟨w.heap.size + 1 + 1 + 1,0,none⟩)],.func (Fn.func 31) #[] #[.pointer (some ⟨w.heap.size + 1 + 1 + 1,0,none⟩)],.func (Fn.func 33) #[.pointer (some ⟨w.heap.size + 1 + 1,0,none⟩)] #[],.func (Fn.func 34) #[.pointer (some ⟨w.heap.size + 1 + 1,0,none⟩)] #[]]) (.int .i64 1)).run Tryz.prog wx=.ok (.func (Fn.func 31) #[] #[.pointer (some ⟨w.heap.size + 1 + 1 + 1,0,none⟩)]) wx:=fun _ => by kernel_rfl
     clear T1 T2 T3 T4 hsg hSt0 hN hi
     go_wp2_with fail
     refine hT.out.mono ?_
     rintro e w9 ⟨rfl,h9⟩
     clear hT hix
     go_wp2_with fail
     go_roundw
     case rel => exact ⟨2,rfl,by omega,h9⟩
     case measure => simp [intOf]
   · have hT := hide (T3.out _ hsg.out)
     have hix : ∀ wx,(Instr.index 76 (.agg #[.func (Fn.func 28) #[] #[.pointer (some ⟨w.heap.size + 1 + 1 + 1,0,none⟩)],.func (Fn.func 31) #[] #[.pointer (some ⟨w.heap.size + 1 + 1 + 1,0,none⟩)],.func (Fn.func 33) #[.pointer (some ⟨w.heap.size + 1 + 1,0,none⟩)] #[],.func (Fn.func 34) #[.pointer (some ⟨w.heap.size + 1 + 1,0,none⟩)] #[]]) (.int .i64 2)).run Tryz.prog wx=.ok (.func (Fn.func 33) #[.pointer (some ⟨w.heap.size + 1 + 1,0,none⟩)] #[]) wx:=fun _ => by kernel_rfl
     clear T1 T2 T3 T4 hsg hSt0 hN hi
     go_wp2_with fail
     refine hT.out.mono ?_
     rintro e w9 ⟨rfl,h9⟩
     clear hT hix
     go_wp2_with fail
     go_roundw
     case rel => exact ⟨3,rfl,by omega,h9⟩
     case measure => simp [intOf]
   · have hT := hide (T4.out _ hsg.out)
     have hix : ∀ wx,(Instr.index 76 (.agg #[.func (Fn.func 28) #[] #[.pointer (some ⟨w.heap.size + 1 + 1 + 1,0,none⟩)],.func (Fn.func 31) #[] #[.pointer (some ⟨w.heap.size + 1 + 1 + 1,0,none⟩)],.func (Fn.func 33) #[.pointer (some ⟨w.heap.size + 1 + 1,0,none⟩)] #[],.func (Fn.func 34) #[.pointer (some ⟨w.heap.size + 1 + 1,0,none⟩)] #[]]) (.int .i64 3)).run Tryz.prog wx=.ok (.func (Fn.func 34) #[.pointer (some ⟨w.heap.size + 1 + 1,0,none⟩)] #[]) wx:=fun _ => by kernel_rfl
     clear T1 T2 T3 T4 hsg hSt0 hN hi
     go_wp2_with fail
     refine hT.out.mono ?_
     rintro e w9 ⟨rfl,h9⟩
     clear hT hix
     go_wp2_with fail
     go_roundw
     case rel => exact ⟨4,rfl,by omega,h9⟩
     case measure => simp [intOf]
   · obtain ⟨q0, q1, q2, q3⟩ := hsg.out
     have e:=hN.out
     have r0 : wr.cell? ⟨w.heap.size + 1 + 1 + 1,0,none⟩=some (.pointer (some ⟨w.heap.size + 1 + 1,0,none⟩)):=by have:=q0.cell 0; rw [e] at this; exact this
     have r1 : Hid (OpRet w gf bm nm (.returned (.tuple #[.pointer (some ⟨w.heap.size + 1 + 1,0,none⟩),.int .i64 0])) wr):=by
       rw [e] at q1 q2 q3
       exact hide ⟨_,_,_,rfl,by omega,Nat.le_refl _,q1,q2,q3⟩
     clear T1 T2 T3 T4 hsg hSt0 hN hi e q0 q1 q2 q3
     go_wp2_with fail
     go_ret2
     exact r1.out
theorem pg_at {w : World} {gp gm gc gf : Nat} {nm : List UInt8} (hb : Blk w gp 73 (pgF gf nm hd1 hd1 gm gc rowN 0)) (hm : IMap w gm 65536 (fun _ => none)) : PgAt w (fun k => k=gp \/ k=gm) gp hd1:=by
 refine ⟨Nat.le_refl 1,by decide,fun k hk => ?_,.inl rfl,gm,fun i => (pgF gf nm hd1 hd1 gm gc rowN 0).getD i undef,fun _ => none,hb,.inr rfl,hm,fun no hn _ => ?_⟩
 · rcases hk with rfl | rfl
   · exact hb.lt
   · exact hm.lt
 · have h1 := hn.1
   have h2 : no < 1:=hn.2
   omega
def celA : CellP:=⟨[97],[49],0,0⟩
def celB : CellP:=⟨[98],[50],0,0⟩
def nd1 : NodeP:=⟨true,[celB],[]⟩
def nd2 : NodeP:=⟨true,[celA,celB],[]⟩
theorem al1 : CanAlloc hd1:=.inl ⟨rfl,by decide⟩
theorem right1 : RightP nd1 where
 kidsLeaf:=fun _ => rfl
 kidsIn:=fun h => by cases h
 many:=by decide
 keys:=fun c hc => by
   have : c=celB:=by simpa [nd1] using hc
   subst this; decide
 rise:=⟨fun d hd => (by cases hd),trivial⟩
 vals:=fun c hc => by
   have : c=celB:=by simpa [nd1] using hc
   subst this; exact .inl ⟨rfl,rfl,by decide⟩
 kidsOk:=fun k hk => by cases hk
theorem right2 : RightP nd2 where
 kidsLeaf:=fun _ => rfl
 kidsIn:=fun h => by cases h
 many:=by decide
 keys:=fun c hc => by
   have : c=celA \/ c=celB:=by simpa [nd2] using hc
   rcases this with rfl | rfl <;> decide
 rise:=⟨fun d hd => by
   have : d=celB:=by simpa using hd
   (subst this; decide),⟨fun d hd => (by cases hd),trivial⟩⟩
 vals:=fun c hc => by
   have : c=celA \/ c=celB:=by simpa [nd2] using hc
   rcases this with rfl | rfl <;> exact .inl ⟨rfl,rfl,by decide⟩
 kidsOk:=fun k hk => by cases hk
def stA : PgS:=setRootS (saveS (allocS hd1) (allocN hd1) nd1) 0 (allocN hd1)
theorem save1 : CanSave (allocS hd1) (allocN hd1) nd1:=⟨⟨by decide,by decide⟩,right1,by decide⟩
theorem load1 : LoadR stA 1 nd1:=load_saved save1
theorem save2 : CanSave stA 1 nd2:=⟨⟨by decide,by decide⟩,right2,by decide⟩
def stB : PgS:=saveS stA 1 nd2
theorem load2 : LoadR stB 1 nd2:=load_saved save2
theorem root1 : stA.roots 0=1:=rfl
theorem find1 : findP nd1 [97]=(0,false):=by decide
theorem find2 : (findP nd2 []).1=0:=by decide
theorem ins1 : nd2=⟨nd1.leaf,insAt nd1.cells (findP nd1 [97]).1 ⟨[97],[49],0,0⟩,nd1.kids⟩:=rfl
theorem name_d : NameOk (dbN [120]):=⟨by decide,by decide,by decide⟩
theorem name_l : NameOk (logN [120]):=⟨by decide,by decide,by decide⟩
end Go.Proofs.YtiiljlmeililbaaGreatDoor
