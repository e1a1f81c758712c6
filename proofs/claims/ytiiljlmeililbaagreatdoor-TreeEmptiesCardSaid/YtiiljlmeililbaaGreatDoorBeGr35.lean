/-
  Contract of vfs.right at names that are right.
-/
import Derived.Test.YtiiljlmeililbaaGreatDoorBeVfs
import Derived.Test.YtiiljlmeililbaaGreatDoorBeShelf
import Derived.Shelf.Strings.SlTrimAscii
import Derived.Maps.Range
import Derived.BigQuiet
namespace Go.Proofs.YtiiljlmeililbaaGreatDoor
set_option linter.unusedVariables false
set_option maxRecDepth 100000
open Go.RowKit
def nameSet : List UInt8:=[97,98,99,100,101,102,103,104,105,106,107,108,109,110,111,112,113,114,115,116,117,118,119,120,121,122,48,49,50,51,52,53,54,55,56,57,46,45,47]
theorem dropWhile_all {p : UInt8->Bool} : ∀ l : List UInt8,(∀ x ∈ l,p x=true)->l.dropWhile p=[]
 | [],_ => rfl
 | a :: r,h => by rw [List.dropWhile_cons,if_pos (h a (.head _)),dropWhile_all r fun x hx => h x (.tail _ hx)]
theorem trim_all (l cs : List UInt8) (h : ∀ x ∈ l,cs.contains x=true) : Lib.trimS l cs=[]:=by
 unfold Lib.trimS Lib.trimRightS Lib.trimLeftS
 rw [dropWhile_all l.reverse fun x hx => h x (List.mem_reverse.1 hx)]
 rfl
set_option maxHeartbeats 1000000 in
theorem fright_any (w : World) (nm : List UInt8) (h0 : nm ≠ []) (hl : nm.length<=24) (hs : ∀ x ∈ nm,nameSet.contains x=true) :
   Calls Tryz.prog 96 #[.string (str nm)] w fun e w' => e=.returned (.bool true)/\Below w.heap.size w w':=by
 have hcon:=Any.strings_Trim_laid Tryz.lays160 (by kernel_rfl) (str nm) ⟨#[97,98,99,100,101,102,103,104,105,106,107,108,109,110,111,112,113,114,115,116,117,118,119,120,121,122,48,49,50,51,52,53,54,55,56,57,46,45,47]⟩ w (by simp [str,ByteArray.size]; omega) (by decide) (ascii_of_all (by decide))
 have ht : Lib.trimS (str nm).data.toList (ByteArray.mk #[97,98,99,100,101,102,103,104,105,106,107,108,109,110,111,112,113,114,115,116,117,118,119,120,121,122,48,49,50,51,52,53,54,55,56,57,46,45,47]).data.toList=[]:=by
   have:=trim_all nm nameSet hs
   simpa [str,nameSet] using this
 rw [ht] at hcon
 have hcon2 : Hid (Calls Tryz.prog 139 #[.string (str nm),.string ⟨#[97,98,99,100,101,102,103,104,105,106,107,108,109,110,111,112,113,114,115,116,117,118,119,120,121,122,48,49,50,51,52,53,54,55,56,57,46,45,47]⟩] w (fun e w' => e=.returned (.string ⟨#[]⟩)/\Below w.heap.size w w')):=hcon
 have hne : (str nm).toList.isEmpty=false:=by
   rw [str_bytes]
   cases nm with
   | nil => exact absurd rfl h0
   | cons a r => rfl
 have hne2 : ¬ (str nm).toList=[]:=by intro e; rw [e] at hne; cases hne
 have hsz : ((str nm).size : Int)<=24:=by simp [str,ByteArray.size]; omega
 clear hcon ht
 go_enter Tryz.func96,Tryz.ntmps96
 go_wp2_with fail
 refine hcon2.out.mono ?_
 rintro e w1 ⟨rfl,hb⟩
 replace hb:=hide hb
 go_wp2_with fail
 go_ret
 exact ⟨rfl,hb.out⟩
structure NameOk (nm : List UInt8) : Prop where
 ne : nm ≠ []
 len : nm.length<=24
 set : ∀ x ∈ nm,nameSet.contains x=true
def fdW (nm da : List UInt8) (fd : Option Nat) (g : Nat) : Option Nat:=if nm=da then some g else fd
def flW (nm da : List UInt8) (fl : Option Nat) (g : Nat) : Option Nat:=if nm=da then fl else some g
def CrRet (w : World) (B gf bm most stamp : Nat) (da la nm : List UInt8) (fd fl : Option Nat) (e : Ending) (w' : World) : Prop :=
 ∃ g,e=.returned (.int .i64 0)/\FSAt w' B gf bm most (stamp + 1) da la (fdW nm da fd g) (flW nm da fl g)/\FileX w' B g 0 0 (.slice none 0 0)/\Only (fun j => j=gf \/ j=bm) w w'/\w.heap.size<=g
set_option maxHeartbeats 1000000 in
theorem create_d (w : World) (B gf bm most stamp : Nat) (da la : List UInt8) (h : FSAt w B gf bm most stamp da la none none) (hn : NameOk da) (hs : stamp<=1000000) (hB : B<=w.heap.size) :
   Calls Tryz.prog 60 #[.pointer (some ⟨gf,0,none⟩),.string (str da)] w (CrRet w B gf bm most stamp da la da none none):=by
 have ha:=hide (fat_none w B gf bm most stamp da la da none none h (.inl ⟨rfl,rfl⟩) (by have:=hn.len; omega))
 have hr:=hide (fright_any w da hn.ne hn.len hn.set)
 replace h:=hide h
 replace hn:=hide hn
 go_enter Tryz.func60,Tryz.ntmps60
 go_wp2_with fail
 refine ha.out.mono ?_
 rintro e w1 ⟨rfl,rfl⟩
 go_wp2_with fail
 refine hr.out.mono ?_
 rintro e w2 ⟨rfl,hb2⟩
 have hO2 : Only (fun _ => False) w w2:=Only.of_below hb2
 have h2:=hide (h.out.only hO2 (fun h => h) (fun h => h))
 have hbu:=hide (burn_any w2 B gf bm most stamp da la none none h2.out)
 go_wp2_with fail
 refine hbu.out.mono ?_
 rintro e w3 ⟨rfl,rfl⟩
 have c4:=h2.out.st.cell 4
 obtain ⟨nn,hm,hnn'⟩:=h2.out.mp
 have hnn : nn<=0:=hnn'
 clear hnn'
 have hm2:=hide (hm.alloc (.cells #[.slice none 0 0,.int .i64 0,.int .i64 0] 157))
 have hF2:=hide (Blk.new w2 157 #[.slice none 0 0,.int .i64 0,.int .i64 0])
 have hS2:=hide (h2.out.st.alloc (.cells #[.slice none 0 0,.int .i64 0,.int .i64 0] 157))
 have hbg:=h2.out.bmNe h2.out.st
 have hO3:=hide (hO2.alloc (.cells #[.slice none 0 0,.int .i64 0,.int .i64 0] 157))
 have hgw : w.heap.size<=w2.heap.size:=hb2.size
 obtain ⟨g,hg⟩ : ∃ g,g=w2.heap.size:=⟨_,rfl⟩
 have hmk:=hide (fs_key da (by have:=hn.out.len; omega))
 rw [<- hg] at hF2 hgw
 replace hgw:=hide hgw
 replace hm:=hide hm
 clear hr ha hbu hb2 hO2
 obtain ⟨w4,hrun,hm4,hg4⟩:=hm2.out.update (Go.Maps.string_keyed Tryz.underlying9) Tryz.underlying77 (by unfold maxLen; omega) hmk.out (val:=.pointer (some ⟨w2.heap.size,0,none⟩)) (d:=.held (ptrV g)) (ps:=[]) (by rw [hg]; rfl)
 have hS4:=hS2.out.grown hg4 (fun e => hbg (by injection e with e; exact e.symm))
 have hF4:=hF2.out.grown hg4 (fun e => by injection e with e; have:=hm.out.lt; omega)
 have hO4:=(hO3.out.mono (S:=fun j => j=gf \/ j=bm) (fun _ _ h => h.elim)).grown hg4 (fun k hk _ => .inr (by injection hk with hk; exact hk.symm))
 have hFS4 : FSAt w4 B gf bm most stamp da la (some g) none:=⟨hS4,⟨nn + 1,hm4,by show nn + 1<=1 + 0; omega⟩,h2.out.ne,h2.out.gB,h2.out.bB⟩
 have hFX4 : FileX w4 B g 0 0 (.slice none 0 0):=⟨⟨0,hF4⟩,⟨[],⟨by simp,.inl ⟨rfl,rfl⟩⟩,fun j u hj => by cases hj⟩,by have:=hgw.out; omega⟩
 have hlk : (Instr.lookup 77 (.map (some bm)) (.string (str da)) false).run Tryz.prog w4=.ok (.pointer (some ⟨g,0,none⟩)) w4:=hFS4.look_d (by have:=hn.out.len; omega)
 have hch:=hide (changed_any w4 B gf bm most stamp g 0 0 da la (some g) none _ hFS4 hFX4 hs)
 have d4:=hS4.cell 4
 replace hm4:=hide hm4
 replace hg4:=hide hg4
 replace hS4:=hide hS4
 replace hF4:=hide hF4
 replace hFS4:=hide hFS4
 replace hFX4:=hide hFX4
 replace hO4:=hide hO4
 replace hg:=hide hg
 go_wp2_with fail
 refine hch.out.mono ?_
 rintro e w5 ⟨rfl,h5,h6,h7⟩
 have h5':=hide h5
 have h6':=hide h6
 have h7':=hide h7
 clear h5 h6 h7 hch
 go_wp2_with fail
 go_ret
 refine ⟨g,rfl,?_,h6'.out,?_,hgw.out⟩
 · have e1 : fdW da da none g = some g := by rw [fdW, if_pos rfl]
   have e2 : flW da da none g=none:=by rw [flW,if_pos rfl]
   rw [e1,e2]; exact h5'.out
 · exact (hO4.out.trans h7'.out fun i hi hs => hs.elim .inl fun e => by have:=hgw.out; omega)
set_option maxHeartbeats 1000000 in
theorem create_l (w : World) (B gf bm most stamp : Nat) (da la : List UInt8) (gd : Nat) (h : FSAt w B gf bm most stamp da la (some gd) none) (hn : NameOk la) (hs : stamp<=1000000) (hB : B<=w.heap.size) :
   Calls Tryz.prog 60 #[.pointer (some ⟨gf,0,none⟩),.string (str la)] w (CrRet w B gf bm most stamp da la la (some gd) none):=by
 have ha:=hide (fat_none w B gf bm most stamp da la la (some gd) none h (.inr ⟨rfl,rfl⟩) (by have:=hn.len; omega))
 have hr:=hide (fright_any w la hn.ne hn.len hn.set)
 replace h:=hide h
 replace hn:=hide hn
 go_enter Tryz.func60,Tryz.ntmps60
 go_wp2_with fail
 refine ha.out.mono ?_
 rintro e w1 ⟨rfl,rfl⟩
 go_wp2_with fail
 refine hr.out.mono ?_
 rintro e w2 ⟨rfl,hb2⟩
 have hO2 : Only (fun _ => False) w w2:=Only.of_below hb2
 have h2:=hide (h.out.only hO2 (fun h => h) (fun h => h))
 have hbu:=hide (burn_any w2 B gf bm most stamp da la (some gd) none h2.out)
 go_wp2_with fail
 refine hbu.out.mono ?_
 rintro e w3 ⟨rfl,rfl⟩
 have c4:=h2.out.st.cell 4
 obtain ⟨nn,hm,hnn'⟩:=h2.out.mp
 have hnn : nn<=1:=hnn'
 clear hnn'
 have hm2:=hide (hm.alloc (.cells #[.slice none 0 0,.int .i64 0,.int .i64 0] 157))
 have hF2:=hide (Blk.new w2 157 #[.slice none 0 0,.int .i64 0,.int .i64 0])
 have hS2:=hide (h2.out.st.alloc (.cells #[.slice none 0 0,.int .i64 0,.int .i64 0] 157))
 have hbg:=h2.out.bmNe h2.out.st
 have hO3:=hide (hO2.alloc (.cells #[.slice none 0 0,.int .i64 0,.int .i64 0] 157))
 have hgw : w.heap.size<=w2.heap.size:=hb2.size
 obtain ⟨g,hg⟩ : ∃ g,g=w2.heap.size:=⟨_,rfl⟩
 have hmk:=hide (fs_key la (by have:=hn.out.len; omega))
 rw [<- hg] at hF2 hgw
 replace hgw:=hide hgw
 replace hm:=hide hm
 clear hr ha hbu hb2 hO2
 obtain ⟨w4,hrun,hm4,hg4⟩:=hm2.out.update (Go.Maps.string_keyed Tryz.underlying9) Tryz.underlying77 (by unfold maxLen; omega) hmk.out (val:=.pointer (some ⟨w2.heap.size,0,none⟩)) (d:=.held (ptrV g)) (ps:=[]) (by rw [hg]; rfl)
 have hS4:=hS2.out.grown hg4 (fun e => hbg (by injection e with e; exact e.symm))
 have hF4:=hF2.out.grown hg4 (fun e => by injection e with e; have:=hm.out.lt; omega)
 have hO4:=(hO3.out.mono (S:=fun j => j=gf \/ j=bm) (fun _ _ h => h.elim)).grown hg4 (fun k hk _ => .inr (by injection hk with hk; exact hk.symm))
 have hFS4 : FSAt w4 B gf bm most stamp da la (some gd) (some g):=⟨hS4,⟨nn + 1,hm4,by show nn + 1<=1 + 1; omega⟩,h2.out.ne,h2.out.gB,h2.out.bB⟩
 have hFX4 : FileX w4 B g 0 0 (.slice none 0 0):=⟨⟨0,hF4⟩,⟨[],⟨by simp,.inl ⟨rfl,rfl⟩⟩,fun j u hj => by cases hj⟩,by have:=hgw.out; omega⟩
 have hlk : (Instr.lookup 77 (.map (some bm)) (.string (str la)) false).run Tryz.prog w4=.ok (.pointer (some ⟨g,0,none⟩)) w4:=hFS4.look_l (by have:=hn.out.len; omega)
 have hch:=hide (changed_any w4 B gf bm most stamp g 0 0 da la (some gd) (some g) _ hFS4 hFX4 hs)
 have d4:=hS4.cell 4
 replace hm4:=hide hm4
 replace hg4:=hide hg4
 replace hS4:=hide hS4
 replace hF4:=hide hF4
 replace hFS4:=hide hFS4
 replace hFX4:=hide hFX4
 replace hO4:=hide hO4
 replace hg:=hide hg
 go_wp2_with fail
 refine hch.out.mono ?_
 rintro e w5 ⟨rfl,h5,h6,h7⟩
 have h5':=hide h5
 have h6':=hide h6
 have h7':=hide h7
 clear h5 h6 h7 hch
 go_wp2_with fail
 go_ret
 refine ⟨g,rfl,?_,h6'.out,?_,hgw.out⟩
 · have e1 : fdW la da (some gd) g = some gd := by rw [fdW, if_neg (fun e => h2.out.ne e.symm)]
   have e2 : flW la da none g=some g:=by rw [flW,if_neg (fun e => h2.out.ne e.symm)]
   rw [e1,e2]; exact h5'.out
 · exact (hO4.out.trans h7'.out fun i hi hs => hs.elim .inl fun e => by have:=hgw.out; omega)
end Go.Proofs.YtiiljlmeililbaaGreatDoor
namespace Go.Proofs.YtiiljlmeililbaaGreatDoor
set_option linter.unusedVariables false
set_option maxRecDepth 100000
open Go.RowKit Go.Maps
theorem twoD_entries {da la : List UInt8} (hne : da ≠ la) (gd gl : Nat) :
   twoD da la (some gd) (some gl)=.map [(.string la,.held (ptrV gl)),(.string da,.held (ptrV gd))] \/ twoD da la (some gd) (some gl)=.map [(.string da,.held (ptrV gd)),(.string la,.held (ptrV gl))]:=by
 have h1 : (Lit.string da).sameKey (.string la)=false:=by simp [Lit.sameKey,hne]
 have e : twoD da la (some gd) (some gl)=.map (DataW.insert (Lit.string la,.held (ptrV gl)) [(Lit.string da,.held (ptrV gd))]):=by
   simp [twoD,DataW.put,DataW.insert,h1]
 rw [e]
 unfold DataW.insert
 split
 · exact .inl rfl
 · exact .inr rfl
theorem twoD_has {da la : List UInt8} (hne : da ≠ la) (gd gl : Nat) (kl : Lit) :
   Maps.has (twoD da la (some gd) (some gl)) kl=true->kl=.string da \/ kl=.string la:=by
 intro h
 have g : ∀ l,(Lit.string l).sameKey kl=true->kl=.string l:=fun l hh => (WideAt.sameKey_eq hh).symm
 rcases twoD_entries hne gd gl with e | e <;> rw [e] at h <;> simp [Maps.has] at h <;> rcases h with h | h
 · exact .inr (g _ h)
 · exact .inl (g _ h)
 · exact .inl (g _ h)
 · exact .inr (g _ h)
theorem twoD_hasd {da la : List UInt8} (hne : da ≠ la) (gd gl : Nat) : Maps.has (twoD da la (some gd) (some gl)) (.string da)=true:=by
 rcases twoD_entries hne gd gl with e | e <;> rw [e] <;> simp [Maps.has,Lit.sameKey]
theorem twoD_hasl {da la : List UInt8} (hne : da ≠ la) (gd gl : Nat) : Maps.has (twoD da la (some gd) (some gl)) (.string la)=true:=by
 rcases twoD_entries hne gd gl with e | e <;> rw [e] <;> simp [Maps.has,Lit.sameKey]
theorem ownsRow_slice {w : World} {B n : Nat} {e : TypeId} {sz : Nat} {v : Value} {xs : List Value} (h : w.ownsRow B e sz v n xs) : ∃ o cap,v=.slice o n cap:=by
 rcases h.2 with ⟨rfl,rfl⟩ | ⟨g,cap,cur,rfl,_⟩
 · exact ⟨none,0,rfl⟩
 · exact ⟨_,cap,rfl⟩
def RoomRel (w : World) (B bm nn most kd kl gd gl : Nat) (da la : List UInt8) (v3 : Value) (wx : World) : Prop :=
 ∃ (left : Lit -> Bool) (cnt x : Nat), v3 = .int .i64 (x : Int) /\ wx.ranges Tryz.prog 9 rawE bm w.heap.size nn (twoD da la (some gd) (some gl)) left cnt /\ Below w.heap.size w wx /\
   x + (if left (.string da) then 0 else kd) + (if left (.string la) then 0 else kl)=most/\(∀ k,left k=true->k=.string da \/ k=.string la)
set_option maxHeartbeats 2000000 in
theorem room_any (w : World) (B gf bm most stamp gd gl kd nd kl nl : Nat) (da la : List UInt8) (vd vl : Value) (h : FSAt w B gf bm most stamp da la (some gd) (some gl)) (hd : FileX w B gd kd nd vd) (hl : FileX w B gl kl nl vl) (hmost : most<=65536) (hk : kd + kl<=most) :
   Calls Tryz.prog 107 #[.pointer (some ⟨gf,0,none⟩)] w fun e w' => e=.returned (.int .i64 ((most - kd - kl : Nat) : Int))/\Below w.heap.size w w':=by
 have c0:=h.st.cell 0
 have c3:=h.st.cell 3
 have c4:=h.st.cell 4
 obtain ⟨nn,hm,hnn⟩:=h.mp
 obtain ⟨w1,hrg,hR,hg1,hz1⟩:=hm.range (Go.Maps.string_keyed Tryz.underlying9) Tryz.underlying77
 have hB1 : Below w.heap.size w w1:=(Below.refl _ w).grown hg1 (Nat.le_refl _) (by simp)
 obtain ⟨std,hbd⟩:=hd.st
 obtain ⟨stl,hbl⟩:=hl.st
 obtain ⟨xd,hxd,_⟩:=hd.row
 obtain ⟨xl,hxl,_⟩:=hl.row
 obtain ⟨od,capd,rfl⟩:=ownsRow_slice hxd
 obtain ⟨ol,capl,rfl⟩:=ownsRow_slice hxl
 have hne:=hide h.ne
 replace hm:=hide hm
 replace hR:=hide hR
 replace hB1:=hide hB1
 replace hg1:=hide hg1
 replace hz1:=hide hz1
 replace hbd:=hide hbd
 replace hbl:=hide hbl
 clear hd hl hxd hxl
 replace h:=hide h
 go_enter Tryz.func107,Tryz.ntmps107
 go_wp2_with fail
 go_loopw [3] (fun v3 wx => Hid (RoomRel w B bm nn most kd kl gd gl da la v3 wx)) (fun _ wx => wx.rangeLeft bm w.heap.size)
 case atStart =>
   refine hide ⟨_,_,most,rfl,hR.out,hB1.out,?_,fun k hk => twoD_has hne.out gd gl k hk⟩
   rw [twoD_hasd hne.out,twoD_hasl hne.out]; simp
 case round =>
   obtain ⟨left,cnt,x,rfl,hRx,hBx,hsum,hin⟩:=hrel.out
   clear hrel
   rcases hRx.next (Go.Maps.string_keyed Tryz.underlying9) 0 with ⟨h0,hall,hrun⟩ | ⟨key,v,k,y,w2,cnt',hkey,hleft,hRv,hat,hrun,hR2,hlt,hg2,hsz2,hent⟩
   · have hnx : ∀ ty, (Instr.next (.pointer (some ⟨w.heap.size, 0, none⟩)) false ty).run Tryz.prog _ = _ := fun _ => hrun
     rw [hall,hall] at hsum
     have hx : x=most - kd - kl:=by simp at hsum; omega
     replace hBx:=hide hBx
     replace hRx:=hide hRx
     clear hrun hall hsum
     go_wp2_with fail
     go_ret
     exact ⟨by rw [<- hx]; rfl,hBx.out⟩
   · have hnx : ∀ ty, (Instr.next (.pointer (some ⟨w.heap.size, 0, none⟩)) false ty).run Tryz.prog _ = _ := fun _ => hrun
     have hB2 : Below w.heap.size w w2:=hBx.trans ⟨hg2.os,hg2.tape,hg2.output,hg2.size,fun i hi => hg2.block i (Nat.lt_of_lt_of_le hi hBx.size) (fun e => by injection e with e; omega)⟩
     have hy : y=(.held v,[]):=by simp [rawE] at hRv; exact hRv.symm
     subst hy
     have hat2:=hat (.held (.pointer none))
     have hl1:=hRx.left_eq
     have hl2:=hR2.left_eq
     have hlt2 : Hid (w2.rangeLeft bm w.heap.size < wr.rangeLeft bm w.heap.size):=by rw [hl1,hl2]; exact hide hlt
     have hns : (Lit.string da).sameKey (.string la)=false:=by simp [Lit.sameKey,hne.out]
     have hns2 : (Lit.string la).sameKey (.string da)=false:=by simp [Lit.sameKey]; exact fun e => hne.out e.symm
     have hss : ∀ l : List UInt8,(Lit.string l).sameKey (.string l)=true:=fun l => by simp [Lit.sameKey]
     rcases hin k hleft with rfl | rfl
     · rw [twoD_d hne.out] at hat2
       have hv : v=.pointer (some ⟨gd,0,none⟩):=by simp only [DataW.held.injEq] at hat2; exact hat2.symm
       subst hv
       have hbz:=Blk.below hbd.out hB2 (Blk.lt hbd.out)
       have e0:=hbz.cell 0
       have hx1 : kd<=x:=by rw [hleft] at hsum; simp at hsum; split at hsum <;> omega
       have hI : (x : Int) - (kd : Int)=((x - kd : Nat) : Int):=by omega
       have hW : wrap64 ((x - kd : Nat) : Int)=((x - kd : Nat) : Int):=by
         have hs2:=hsum
         rw [hleft] at hs2
         simp at hs2
         have : x<=65536:=by omega
         simp only [wrap64]
         omega
       have hrel : Hid (RoomRel w B bm nn most kd kl gd gl da la (.int .i64 ((x - kd : Nat) : Int)) w2):=by
         refine hide ⟨_,_,x - kd,rfl,hR2,hB2,?_,fun k' hk' => hin k' (by simp at hk'; exact hk'.1)⟩
         simp only [hss,hns2,Bool.not_true,Bool.and_false,Bool.not_false,Bool.and_true]
         rw [hleft] at hsum
         simp at hsum ⊢
         omega
       replace hbz:=hide hbz
       replace hB2:=hide hB2
       replace hR2:=hide hR2
       replace hRx:=hide hRx
       replace hBx:=hide hBx
       replace hx1:=hide hx1
       replace hsum:=hide hsum
       replace hg2:=hide hg2
       clear hat hat2 hkey hRv hl1 hl2 hlt hsz2
       go_wp2_with fail
       go_roundw
       case rel => rw [hW]; exact hrel
       case measure => exact hlt2.out
     · rw [twoD_l hne.out] at hat2
       have hv : v=.pointer (some ⟨gl,0,none⟩):=by simp only [DataW.held.injEq] at hat2; exact hat2.symm
       subst hv
       have hbz:=Blk.below hbl.out hB2 (Blk.lt hbl.out)
       have e0:=hbz.cell 0
       have hx1 : kl<=x:=by rw [hleft] at hsum; simp at hsum; split at hsum <;> omega
       have hI : (x : Int) - (kl : Int)=((x - kl : Nat) : Int):=by omega
       have hW : wrap64 ((x - kl : Nat) : Int)=((x - kl : Nat) : Int):=by
         have hs2:=hsum
         rw [hleft] at hs2
         simp at hs2
         have : x<=65536:=by omega
         simp only [wrap64]
         omega
       have hrel : Hid (RoomRel w B bm nn most kd kl gd gl da la (.int .i64 ((x - kl : Nat) : Int)) w2):=by
         refine hide ⟨_,_,x - kl,rfl,hR2,hB2,?_,fun k' hk' => hin k' (by simp at hk'; exact hk'.1)⟩
         simp only [hss,hns,Bool.not_true,Bool.and_false,Bool.not_false,Bool.and_true]
         rw [hleft] at hsum
         simp at hsum ⊢
         omega
       replace hbz:=hide hbz
       replace hB2:=hide hB2
       replace hR2:=hide hR2
       replace hRx:=hide hRx
       replace hBx:=hide hBx
       replace hx1:=hide hx1
       replace hsum:=hide hsum
       replace hg2:=hide hg2
       clear hat hat2 hkey hRv hl1 hl2 hlt hsz2
       go_wp2_with fail
       go_roundw
       case rel => rw [hW]; exact hrel
       case measure => exact hlt2.out
def slotC : Array Value:=(List.replicate 128 (Value.int .u8 0) ++ [Value.bool false]).toArray
theorem built_slot : Tryz.prog.built 163 []=some slotC:=by kernel_rfl
theorem bslice_slot (w : World) : (Instr.buildSlice 155 1 #[(0,.agg slotC)]).run Tryz.prog w=.ok (.slice (some ⟨w.heap.size,0,none⟩) 1 1) (w.alloc (.cells slotC 163)):=by kernel_rfl
theorem build_slot (w : World) : (Instr.build 163 #[]).run Tryz.prog w=.ok (.agg slotC) w:=run_build w 163 #[] slotC built_slot
theorem slot_info : (Tryz.prog.info? 163).map (fun i => (i.zero,i.size,i.bytes))=some (some (.agg slotC),129,129):=by kernel_rfl
theorem slotC_size : slotC.size=129:=by simp [slotC]
theorem slotC_one : ∀ u ∈ slotC.toList,u.oneCell'=true:=by
 intro u hu
 simp only [slotC,List.mem_append,List.mem_replicate,List.mem_singleton] at hu
 rcases hu with ⟨_,rfl⟩ | rfl <;> rfl
theorem OneL.app {a b : List Value} (ha : OneL a) (hb : OneL b) : OneL (a ++ b):=fun j u hj => by
 rcases Nat.lt_or_ge j a.length with h | h
 · rw [List.getElem?_append_left h] at hj; exact ha j u hj
 · rw [List.getElem?_append_right h] at hj; exact hb _ u hj
theorem slotC_oneL : OneL slotC.toList:=fun j u hj => slotC_one u (List.mem_of_getElem? hj)
theorem reads_row (w : World) (cs : Array Value) (t : TypeId) (hn : 0 < cs.size) : Reads (w.alloc (.cells cs t)) (w.heap.size + 1) cs.size (some ⟨w.heap.size,0,none⟩) 1 cs.toList:=by
 refine ⟨by simp,fun _ => ⟨_,rfl,by simp,fun j x hj => ?_⟩⟩
 have hb:=Blk.new w t cs
 have e : (Addr.mk w.heap.size 0 none).add j=⟨w.heap.size,j,none⟩:=by
   unfold Addr.add
   by_cases h0 : j=0
   · subst h0; rfl
   · rw [if_neg h0]; simp
 rw [e,hb.cell]
 simpa using hj
section
variable {ops : Array Oper} {rest : List Oper} {o : Oper} {a : Act} {Q : Exit->Act->World->Prop}
theorem wpList_app_slot {w : World} (hgd : o.guard=none) (s y : Operand) (ho : o.op=.call { callee:=.builtin .append,args:=#[s,y],argTypes:=#[155,155] })
   (base k : Nat) (v : Value) (hown : ∃ xs,w.ownsRow base 163 129 v k xs/\OneL xs) (hs : a.eval s=v) (c : Nat) (hy : a.eval y=.slice (some ⟨w.heap.size,0,none⟩) 1 c) (hlen : k + 1<=1000000) (hbase : base<=w.heap.size) (cs : Array Value) (hcs : cs=slotC)
   (h : ∀ v' w',(∃ xs,w'.ownsRow base 163 129 v' (k + 1) xs/\OneL xs)->w.grownBy w' v.ownBlock->(v'.ownBlock=v.ownBlock \/ ∃ j,v'.ownBlock=some j/\w.heap.size<=j)->wpList Tryz.prog ops Q rest (a.put o.dst v') w') :
   wpList Tryz.prog ops Q (o :: rest) a (w.alloc (.cells cs 163)):=by
 subst hcs
 obtain ⟨xs,hown,hone⟩:=hown
 obtain ⟨i0,hi0,hz0,hz1,hz2⟩:=info_parts slot_info
 have hrd:=reads_row w slotC 163 (by rw [slotC_size]; omega)
 rw [slotC_size] at hrd
 refine wpList_append_any _ hgd s y _ ho base 163 i0 _ 129 129 Tryz.underlying155 hi0 hz0 hz1 hz2 slotC_size (by omega) v k xs hs (World.ownsRow.alloc hown _) _ _ 1 c slotC.toList hy hrd slotC_one
   (by simp only [maxLen]; omega) (by omega) (by simp; omega) fun v' w' h1 h2 h3 => ?_
 refine h v' w' ⟨_,h1,hone.app slotC_oneL⟩ ⟨h2.os,h2.tape,h2.output,?_,fun k hk hne => ?_⟩ ?_
 · have:=h2.size; simp at this; omega
 · rw [h2.block k (by simp; omega) hne]
   exact Below.heap_alloc _ _ _ hk
 · rcases h3 with h3 | h3
   · exact .inl h3
   · exact .inr ⟨_,h3,by simp⟩
end
def lenAt (w : World) (g : Nat) : Nat:=match w.cell? ⟨g,0,none⟩ with | some (.slice _ n _) => n | _ => 0
def GrowRel (w : World) (B g k N D : Nat) (v : Value) (wx : World) : Prop :=
 ∃ k' v',FileX wx B g k' N v'/\Only (fun j => j=g \/ v.ownBlock=some j) w wx/\(v'.ownBlock=v.ownBlock \/ ∃ j,v'.ownBlock=some j/\w.heap.size<=j)/\k<=k'/\k'<=max k D
def GrowRet (w : World) (B g k N D : Nat) (v : Value) (e : Ending) (w' : World) : Prop :=
 e=.returned (.tuple #[])/\∃ v',FileX w' B g (max k D) N v'/\Only (fun j => j=g \/ v.ownBlock=some j) w w'/\(v'.ownBlock=v.ownBlock \/ ∃ j,v'.ownBlock=some j/\w.heap.size<=j)
set_option maxHeartbeats 2000000 in
theorem grow_any (w : World) (B g k n m : Nat) (v : Value) (hf : FileX w B g k n v) (hk : k<=100000) (hn : n<=4000000) (hm : m<=4000000) (hB : B<=w.heap.size) :
   Calls Tryz.prog 143 #[.pointer (some ⟨g,0,none⟩),.int .i64 (m : Int)] w (GrowRet w B g k (max n m) ((max n m + 63) / 64) v):=by
 obtain ⟨N,hN⟩ : ∃ N,N=max n m:=⟨_,rfl⟩
 obtain ⟨D,hD⟩ : ∃ D,D=(N + 63) / 64:=⟨_,rfl⟩
 rw [<- hN,<- hD]
 have hmx : max (n : Int) (m : Int)=(N : Int):=by omega
 obtain ⟨st,hb⟩:=hf.st
 obtain ⟨xs,hr,ho1⟩:=hf.row
 obtain ⟨o0,cap0,hv⟩:=ownsRow_slice hr
 have hgv:=hf.gvs
 have hgB:=hf.gB
 have c1:=hb.cell 1
 have q1:=hb.frozen 1
 have hB1:=hb.set_ 1 (.int .i64 (N : Int))
 have hO1 : Only (fun j => j=g \/ v.ownBlock=some j) w (w.setCell ⟨g,1,none⟩ (.int .i64 (N : Int))):=(Only.refl _ w).setCell (p:=⟨g,1,none⟩) (fun _ => .inl rfl) _
 have hOg : Only (fun j => j=g) w (w.setCell ⟨g,1,none⟩ (.int .i64 (N : Int))):=(Only.refl (fun j => j=g) w).setCell (p:=⟨g,1,none⟩) (fun _ => rfl) _
 have hR1:=hOg.row hr (fun j hj e => hgv (by rw [hj,e]))
 have hF1 : FileX (w.setCell ⟨g,1,none⟩ (.int .i64 (N : Int))) B g k N v:=⟨⟨st,hB1⟩,⟨xs,hR1,ho1⟩,hgB⟩
 have hrel0 : Hid (GrowRel w B g k N D v (w.setCell ⟨g,1,none⟩ (.int .i64 (N : Int)))):=hide ⟨k,v,hF1,hO1,.inl rfl,Nat.le_refl _,by omega⟩
 have hNb : N<=4000000:=by omega
 have hDb : D<=62501:=by omega
 replace hb:=hide hb
 replace hr:=hide hr
 replace ho1:=hide ho1
 replace hf:=hide hf
 replace hN:=hide hN
 replace hD:=hide hD
 replace hv:=hide hv
 clear hF1 hR1 hOg hO1 hB1
 have hnd : Hid (∀ w,Calls Tryz.prog 103 #[.int .i64 (N : Int)] w fun e w' => e=.returned (.int .i64 (D : Int))/\w=w'):=hide fun w => by rw [hD.out]; exact need_any w N (by omega)
 have hbu:=build_slot
 have hbs:=bslice_slot
 go_enter Tryz.func143,Tryz.ntmps143
 go_wp2_with fail
 go_loopw [] (fun wx => Hid (GrowRel w B g k N D v wx)) (fun wx => D - lenAt wx g)
 case atStart => exact hrel0
 case round =>
   obtain ⟨k',v',hFx,hOx,hvx,hk1,hk2⟩:=hrel.out
   clear hrel
   obtain ⟨stx,hbx⟩:=hFx.st
   obtain ⟨xx,hrx,hox⟩:=hFx.row
   replace hox:=hide hox
   have hgx:=hFx.gvs
   obtain ⟨ox,capx,rfl⟩:=ownsRow_slice hrx
   have d0:=hbx.cell 0
   have d1:=hbx.cell 1
   have hla : lenAt wr g=k':=by unfold lenAt; rw [d0]; rfl
   replace hbx:=hide hbx
   replace hrx:=hide hrx
   replace hFx:=hide hFx
   replace hOx:=hide hOx
   replace hvx:=hide hvx
   replace hgx:=hide hgx
   replace hla:=hide hla
   rcases Nat.lt_or_ge k' D with hlt | hge
   · have hcI : (k' : Int) < (D : Int) := by omega
     go_wp2_with fail
     go_quiet (first | (go_at_call 103; exact quiet_left (hnd.out _)))
     go_wp2_with (refine wpList_app_slot rfl _ _ rfl B k' _ ?r1 rfl 1 rfl ?r2 ?r3 _ ?r4 ?_)
     case r1 => exact ⟨_,hrx.out,hox.out⟩
     case r2 => omega
     case r3 => have:=hOx.out.size; show B<=wr.heap.size; omega
     case r4 => kernel_rfl
     intro v' w' xs' hr' ho' h2 h3
     replace ho':=hide ho'
     obtain ⟨o2,c2,rfl⟩:=ownsRow_slice hr'
     have hbq : Blk (wr.drewN nq) g 157 #[.slice ox k' capx,.int .i64 (N : Int),.int .i64 (stx : Int)]:=hbx.out
     have hbg:=hbq.grown h2 (fun e => hgx.out e.symm)
     have hglt : g < wr.heap.size:=Blk.lt hbx.out
     have e0:=hbg.cell 0
     have f0:=hbg.frozen 0
     have hB2:=hbg.set_ 0 (.slice o2 (k' + 1) c2)
     have hO2:=(hOx.out.drewN nq).grown h2 (fun j hj hlt => by
       rcases hvx.out with e | ⟨j',e,hj'⟩
       · exact .inr (by rw [<- e]; exact hj)
       · rw [hj] at e; injection e with e; omega)
     have hO3:=hO2.setCell (p:=⟨g,0,none⟩) (fun _ => .inl rfl) (.slice o2 (k' + 1) c2)
     have hgz : (Value.slice o2 (k' + 1) c2).ownBlock ≠ some g:=by
       rcases h3 with e | ⟨j',e,hj'⟩
       · rw [e]; exact hgx.out
       · rw [e]; intro e2; injection e2 with e2; have : wr.heap.size<=j':=hj'; omega
     have hOg : Only (fun j => j=g) w' (w'.setCell ⟨g,0,none⟩ (.slice o2 (k' + 1) c2)):=(Only.refl (fun j => j=g) w').setCell (p:=⟨g,0,none⟩) (fun _ => rfl) _
     have hR2:=hOg.row hr' (fun j hj e => hgz (by rw [hj,e]))
     have hV2 : (Value.slice o2 (k' + 1) c2).ownBlock=v.ownBlock \/ ∃ j,(Value.slice o2 (k' + 1) c2).ownBlock=some j/\w.heap.size<=j:=by
       rcases h3 with e | ⟨j',e,hj'⟩
       · rw [e]; exact hvx.out
       · exact .inr ⟨j',e,Nat.le_trans hOx.out.size hj'⟩
     have hrelN : Hid (GrowRel w B g k N D v (w'.setCell ⟨g,0,none⟩ (.slice o2 (k' + 1) c2))) :=
       hide ⟨k' + 1,_,⟨⟨stx,hB2⟩,⟨_,hR2,ho'.out⟩,hgB⟩,hO3,hV2,by omega,by omega⟩
     have hmeas : Hid (D - lenAt (w'.setCell ⟨g,0,none⟩ (.slice o2 (k' + 1) c2)) g < D - lenAt wr g):=by
       have : lenAt (w'.setCell ⟨g,0,none⟩ (.slice o2 (k' + 1) c2)) g=k' + 1:=by unfold lenAt; rw [hB2.cell 0]; rfl
       rw [this,hla.out]; exact hide (by omega)
     replace h2:=hide h2
     replace h3:=hide h3
     clear hB2 hO2 hO3 hOg hR2 hV2 hr' hbq hbg hgz
     go_wp2_with fail
     go_roundw
     case rel => exact hrelN
     case measure => exact hmeas.out
   · have hcI : (D : Int) <= (k' : Int) := by omega
     go_wp2_with fail
     go_quiet (first | (go_at_call 103; exact quiet_left (hnd.out _)))
     go_wp2_with fail
     go_end0
     have : k'=max k D:=by omega
     subst this
     exact ⟨rfl,_,⟨hFx.out.st,hFx.out.row,hFx.out.gB⟩,hOx.out.drewN _,hvx.out⟩
end Go.Proofs.YtiiljlmeililbaaGreatDoor
