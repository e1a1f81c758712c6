/-
  The store in memory: two files at most, their contents left open; contracts of New, Down, at, Len, need, burn, changed.
-/
import Derived.Test.YtiiljlmeililbaaGreatDoorBeGr10
import Derived.Test.YtiiljlmeililbaaGreatDoorBeStr
import Derived.Maps.OwnSet
import Derived.Maps.Views
namespace Go.Proofs.YtiiljlmeililbaaGreatDoor
set_option linter.unusedVariables false
set_option maxRecDepth 100000
open Go.RowKit Go.Maps
def rawE (v : Value) : Option (DataW Value × List MemPlace):=some (.held v,[])
def cnt1 : Option Nat->Nat
 | some _ => 1
 | none => 0
def ptrV (g : Nat) : Value:=.pointer (some ⟨g,0,none⟩)
def twoD (da la : List UInt8) (fd fl : Option Nat) : DataW Value :=
 let D1 : DataW Value:=match fd with | some g => DataW.put (.map []) (.string da) (.held (ptrV g)) | none => .map []
 match fl with | some g => D1.put (.string la) (.held (ptrV g)) | none => D1
def OneL (xs : List Value) : Prop:=∀ (j : Nat) (u : Value),xs[j]?=some u->u.oneCell'=true
structure FileX (w : World) (B g k n : Nat) (v : Value) : Prop where
 st : ∃ st : Nat,Blk w g 157 #[v,.int .i64 (n : Int),.int .i64 (st : Int)]
 row : ∃ xs,w.ownsRow B 163 129 v k xs/\OneL xs
 gB : B<=g
structure FSAt (w : World) (B gf bm most stamp : Nat) (da la : List UInt8) (fd fl : Option Nat) : Prop where
 st : Blk w gf 79 #[.int .i64 (most : Int),.int .i64 (stamp : Int),.int .i64 (-1),.bool false,.map (some bm)]
 mp : ∃ nn,w.ownsMap Tryz.prog 9 rawE bm nn (twoD da la fd fl)/\nn<=cnt1 fd + cnt1 fl
 ne : da ≠ la
 gB : B<=gf
 bB : B<=bm
theorem need_any (w : World) (n : Nat) (hn : n<=1000000000) : Calls Tryz.prog 103 #[.int .i64 (n : Int)] w fun e w' => e=.returned (.int .i64 (((n + 63) / 64 : Nat) : Int))/\w=w':=by
 obtain ⟨D,hD⟩ : ∃ D,D=(n + 63) / 64:=⟨_,rfl⟩
 rw [<- hD]
 have h1 : ((n : Int) + 63).tdiv 64=(D : Int):=by rw [Int.tdiv_eq_ediv_of_nonneg (by omega)]; omega
 have h2 : ((n : Int) + 63) / 64=(D : Int):=by omega
 have h3 : ((n : Int) + 64 - 1) / 64=(D : Int):=by omega
 replace h3:=hide h3
 replace hD:=hide hD
 clear h1 h2
 go_enter Tryz.func103,Tryz.ntmps103
 go_wp2_with fail
 go_ret
 exact ⟨ret_int h3.out,rfl⟩
theorem down_any (w : World) (B gf bm most stamp : Nat) (da la : List UInt8) (fd fl : Option Nat) (h : FSAt w B gf bm most stamp da la fd fl) : Calls Tryz.prog 27 #[.pointer (some ⟨gf,0,none⟩)] w fun e w' => e=.returned (.bool false)/\w=w':=by
 have c3:=h.st.cell 3
 replace h:=hide h
 go_enter Tryz.func27,Tryz.ntmps27
 go_wp2_with fail
 go_ret
 exact ⟨rfl,rfl⟩
theorem burn_any (w : World) (B gf bm most stamp : Nat) (da la : List UInt8) (fd fl : Option Nat) (h : FSAt w B gf bm most stamp da la fd fl) : Calls Tryz.prog 97 #[.pointer (some ⟨gf,0,none⟩)] w fun e w' => e=.returned (.bool true)/\w=w':=by
 have c2:=h.st.cell 2
 replace h:=hide h
 go_enter Tryz.func97,Tryz.ntmps97
 go_wp2_with fail
 go_ret
 exact ⟨rfl,rfl⟩
def FNewRet (w : World) (n : Nat) (e : Ending) (w' : World) : Prop:=∃ gf bm,e=.returned (.pointer (some ⟨gf,0,none⟩))/\(∀ da la,da ≠ la->FSAt w' w.heap.size gf bm n 0 da la none none)/\Below w.heap.size w w'
set_option maxHeartbeats 1000000 in
theorem fnew_any (w : World) (n : Nat) (h1 : 1<=n) (hn : n<=65536) : Calls Tryz.prog 8 #[.int .i64 (n : Int)] w (FNewRet w n):=by
 have hI1 : (1 : Int)<=(n : Int):=by omega
 have hI2 : (n : Int)<=65536:=by omega
 have hm : min (max (n : Int) 1) 65536=(n : Int):=by omega
 have hmm:=@run_makeMap Tryz.prog
 go_enter Tryz.func8,Tryz.ntmps8
 go_wp2_with fail
 go_ret
 have hz1 : (w.alloc (.map #[] 0)).heap.size=w.heap.size + 1:=World.size_alloc _ _
 have hB:=((Below.refl w.heap.size w).alloc (Nat.le_refl _) (.map #[] 0)).alloc (by rw [hz1]; omega) (.cells #[.int .i64 (n : Int),.int .i64 0,.int .i64 (-1),.bool false,.map (some w.heap.size)] 79)
 have hS:=Blk.new (w.alloc (.map #[] 0)) 79 #[.int .i64 (n : Int),.int .i64 0,.int .i64 (-1),.bool false,.map (some w.heap.size)]
 rw [hz1] at hS
 have hM:=(World.ownsMap_made w Tryz.prog 9 rawE).alloc (.cells #[.int .i64 (n : Int),.int .i64 0,.int .i64 (-1),.bool false,.map (some w.heap.size)] 79)
 exact ⟨w.heap.size + 1,w.heap.size,rfl,fun da la hne => ⟨hS,⟨0,hM,Nat.zero_le _⟩,hne,by omega,Nat.le_refl _⟩,hB⟩
theorem fs_key (l : List UInt8) (hl : l.length<=1000) : keyOf Tryz.prog 9 (.string (str l))=some (.string l):=by
 have:=Go.WideMaps.keyOf_string_mk (P:=Tryz.prog) (k:=9) Tryz.underlying9 (s:=str l) (by simp [str,maxLen,ByteArray.size]; omega)
 rw [this]
 simp [str]
theorem isKey_str (l : List UInt8) : WideAt.IsKeyLit (.string l):=trivial
def ptrO : Option Nat->Value
 | some g => ptrV g
 | none => .pointer none
section
variable {da la : List UInt8} {fd fl : Option Nat}
theorem twoD_d (hne : da ≠ la) : (twoD da la fd fl).atKey (.string da) (.held (.pointer none))=.held (ptrO fd):=by
 have h1 : (Lit.string da) ≠ .string la:=fun e => hne (by injection e)
 cases fd <;> cases fl
 · rfl
 · show ((DataW.map []).put (.string la) _).atKey (.string da) _ = _
   rw [atKey_put_other h1]; rfl
 · show ((DataW.map []).put (.string da) _).atKey (.string da) _ = _
   rw [atKey_put_same isMap_empty (isKey_str _)]; rfl
 · show (((DataW.map []).put (.string da) _).put (.string la) _).atKey (.string da) _ = _
   rw [atKey_put_other h1,atKey_put_same isMap_empty (isKey_str _)]; rfl
theorem twoD_l (hne : da ≠ la) : (twoD da la fd fl).atKey (.string la) (.held (.pointer none))=.held (ptrO fl):=by
 have h1 : (Lit.string la) ≠ .string da:=fun e => hne (by injection e with e; exact e.symm)
 cases fd <;> cases fl
 · rfl
 · show ((DataW.map []).put (.string la) _).atKey (.string la) _ = _
   rw [atKey_put_same isMap_empty (isKey_str _)]; rfl
 · show ((DataW.map []).put (.string da) _).atKey (.string la) _ = _
   rw [atKey_put_other h1]; rfl
 · show (((DataW.map []).put (.string da) _).put (.string la) _).atKey (.string la) _ = _
   rw [atKey_put_same (isMap_empty.put _ _) (isKey_str _)]; rfl
end
section
variable {w : World} {B gf bm most stamp : Nat} {da la : List UInt8} {fd fl : Option Nat}
theorem zero_pf (w : World) : (zeroValue 152).run Tryz.prog w=.ok (.pointer none) w:=by kernel_rfl
theorem FSAt.look_d (h : FSAt w B gf bm most stamp da la fd fl) (hl : da.length<=1000) : (Instr.lookup 77 (.map (some bm)) (.string (str da)) false).run Tryz.prog w=.ok (ptrO fd) w:=by
 obtain ⟨nn,hm,_⟩:=h.mp
 obtain ⟨v,ps,hr,hv⟩:=hm.lookup (Go.Maps.string_keyed Tryz.underlying9) Tryz.underlying77 (zero_pf w) (zd:=.held (.pointer none)) (zp:=[]) rfl (fs_key da hl)
 rw [twoD_d h.ne] at hv
 simp only [rawE,Option.some.injEq,Prod.mk.injEq,DataW.held.injEq] at hv
 rw [hr,hv.1]
theorem FSAt.look_l (h : FSAt w B gf bm most stamp da la fd fl) (hl : la.length<=1000) : (Instr.lookup 77 (.map (some bm)) (.string (str la)) false).run Tryz.prog w=.ok (ptrO fl) w:=by
 obtain ⟨nn,hm,_⟩:=h.mp
 obtain ⟨v,ps,hr,hv⟩:=hm.lookup (Go.Maps.string_keyed Tryz.underlying9) Tryz.underlying77 (zero_pf w) (zd:=.held (.pointer none)) (zp:=[]) rfl (fs_key la hl)
 rw [twoD_l h.ne] at hv
 simp only [rawE,Option.some.injEq,Prod.mk.injEq,DataW.held.injEq] at hv
 rw [hr,hv.1]
end
def Names (nm da la : List UInt8) (fd fl x : Option Nat) : Prop:=(nm=da/\x=fd) \/ (nm=la/\x=fl)
theorem FSAt.look {w : World} {B gf bm most stamp : Nat} {da la nm : List UInt8} {fd fl x : Option Nat} (h : FSAt w B gf bm most stamp da la fd fl) (hn : Names nm da la fd fl x) (hl : nm.length<=1000) : (Instr.lookup 77 (.map (some bm)) (.string (str nm)) false).run Tryz.prog w=.ok (ptrO x) w:=by
 rcases hn with ⟨rfl,rfl⟩ | ⟨rfl,rfl⟩
 · exact h.look_d hl
 · exact h.look_l hl
theorem fat_any (w : World) (B gf bm most stamp : Nat) (da la nm : List UInt8) (fd fl x : Option Nat) (h : FSAt w B gf bm most stamp da la fd fl) (hn : Names nm da la fd fl x) (hl : nm.length<=1000) :
   Calls Tryz.prog 95 #[.pointer (some ⟨gf,0,none⟩),.string (str nm)] w fun e w' => e=.returned (.tuple #[ptrO x,.int .i64 ((if x=none then 6 else 0 : Nat) : Int)])/\w=w':=by
 have hr:=h.look hn hl
 have c3:=h.st.cell 3
 have c4:=h.st.cell 4
 replace h:=hide h
 cases x with
 | none =>
   have hr2 : (Instr.lookup 77 (.map (some bm)) (.string (str nm)) false).run Tryz.prog w=.ok (.pointer none) w:=hr
   clear hr
   go_enter Tryz.func95,Tryz.ntmps95
   go_wp2_with fail
   go_ret2
   exact ⟨rfl,rfl⟩
 | some g =>
   have hr2 : (Instr.lookup 77 (.map (some bm)) (.string (str nm)) false).run Tryz.prog w=.ok (.pointer (some ⟨g,0,none⟩)) w:=hr
   clear hr
   go_enter Tryz.func95,Tryz.ntmps95
   go_wp2_with fail
   go_ret2
   exact ⟨rfl,rfl⟩
theorem fat_some (w : World) (B gf bm most stamp g : Nat) (da la nm : List UInt8) (fd fl : Option Nat) (h : FSAt w B gf bm most stamp da la fd fl) (hn : Names nm da la fd fl (some g)) (hl : nm.length<=1000) :
   Calls Tryz.prog 95 #[.pointer (some ⟨gf,0,none⟩),.string (str nm)] w fun e w' => e=.returned (.tuple #[.pointer (some ⟨g,0,none⟩),.int .i64 0])/\w=w' :=
 (fat_any w B gf bm most stamp da la nm fd fl (some g) h hn hl).mono fun e w' hh => ⟨by rw [hh.1]; rfl,hh.2⟩
theorem fat_none (w : World) (B gf bm most stamp : Nat) (da la nm : List UInt8) (fd fl : Option Nat) (h : FSAt w B gf bm most stamp da la fd fl) (hn : Names nm da la fd fl none) (hl : nm.length<=1000) :
   Calls Tryz.prog 95 #[.pointer (some ⟨gf,0,none⟩),.string (str nm)] w fun e w' => e=.returned (.tuple #[.pointer none,.int .i64 6])/\w=w' :=
 (fat_any w B gf bm most stamp da la nm fd fl none h hn hl).mono fun e w' hh => ⟨by rw [hh.1]; rfl,hh.2⟩
theorem flen_none (w : World) (B gf bm most stamp : Nat) (da la nm : List UInt8) (fd fl : Option Nat) (h : FSAt w B gf bm most stamp da la fd fl) (hn : Names nm da la fd fl none) (hl : nm.length<=1000) :
   Calls Tryz.prog 59 #[.pointer (some ⟨gf,0,none⟩),.string (str nm)] w fun e w' => e=.returned (.tuple #[.int .i64 0,.bool false])/\w=w':=by
 have ha:=hide (fat_none w B gf bm most stamp da la nm fd fl h hn hl)
 replace h:=hide h
 go_enter Tryz.func59,Tryz.ntmps59
 go_wp2_with fail
 refine ha.out.mono ?_
 rintro e w1 ⟨rfl,rfl⟩
 go_wp2_with fail
 go_ret2
 exact ⟨rfl,rfl⟩
theorem flen_some (w : World) (B gf bm most stamp g k n : Nat) (da la nm : List UInt8) (fd fl : Option Nat) (h : FSAt w B gf bm most stamp da la fd fl) (hn : Names nm da la fd fl (some g)) (hl : nm.length<=1000) (v : Value) (hf : FileX w B g k n v) :
   Calls Tryz.prog 59 #[.pointer (some ⟨gf,0,none⟩),.string (str nm)] w fun e w' => e=.returned (.tuple #[.int .i64 (n : Int),.bool true])/\w=w':=by
 have ha:=hide (fat_some w B gf bm most stamp g da la nm fd fl h hn hl)
 obtain ⟨st,hb⟩:=hf.st
 have c1:=hb.cell 1
 replace h:=hide h
 replace hf:=hide hf
 replace hb:=hide hb
 go_enter Tryz.func59,Tryz.ntmps59
 go_wp2_with fail
 refine ha.out.mono ?_
 rintro e w1 ⟨rfl,rfl⟩
 go_wp2_with fail
 go_ret2
 exact ⟨rfl,rfl⟩
section
variable {w w' : World} {B gf bm most stamp g k n : Nat} {da la : List UInt8} {fd fl : Option Nat} {v : Value}
theorem FSAt.only (h : FSAt w B gf bm most stamp da la fd fl) {S : Nat->Prop} (hO : Only S w w') (h1 : ¬ S gf) (h2 : ¬ S bm) : FSAt w' B gf bm most stamp da la fd fl:=by
 obtain ⟨nn,⟨es,clock,hb,r⟩,hn⟩:=h.mp
 exact ⟨hO.blk h.st h1,⟨nn,⟨es,clock,(hO.block bm (Array.getElem?_eq_some_iff.1 hb).1 h2).trans hb,r⟩,hn⟩,h.ne,h.gB,h.bB⟩
theorem FSAt.bmNe (h : FSAt w B gf bm most stamp da la fd fl) {t : TypeId} {cs : Array Value} (hb : Blk w g t cs) : bm ≠ g:=by
 obtain ⟨nn,⟨es,clock,hm,_⟩,_⟩:=h.mp
 rintro rfl
 unfold Blk at hb
 rw [hm] at hb
 cases hb
theorem FileX.only (h : FileX w B g k n v) {S : Nat->Prop} (hO : Only S w w') (h1 : ¬ S g) (h2 : ∀ j,v.ownBlock=some j->¬ S j) : FileX w' B g k n v:=by
 obtain ⟨st,hb⟩:=h.st
 obtain ⟨xs,hr,ho⟩:=h.row
 exact ⟨⟨st,hO.blk hb h1⟩,⟨xs,hO.row hr h2,ho⟩,h.gB⟩
theorem FileX.gvs (h : FileX w B g k n v) : v.ownBlock ≠ some g:=by
 obtain ⟨st,hb⟩:=h.st
 obtain ⟨xs,hr,_⟩:=h.row
 exact own_blk_ne hr hb (by decide)
theorem FileX.ngf (h : FileX w B g k n v) (hS : FSAt w B gf bm most stamp da la fd fl) : gf ≠ g/\v.ownBlock ≠ some gf:=by
 obtain ⟨st,hb⟩:=h.st
 obtain ⟨xs,hr,_⟩:=h.row
 exact ⟨Blk.ne_ hS.st hb (by decide),own_blk_ne hr hS.st (by decide)⟩
end
def ChRet (w : World) (B gf bm most stamp : Nat) (da la : List UInt8) (fd fl : Option Nat) (g k n : Nat) (v : Value) (e : Ending) (w' : World) : Prop :=
 e=.returned (.int .i64 0)/\FSAt w' B gf bm most (stamp + 1) da la fd fl/\FileX w' B g k n v/\Only (fun j => j=gf \/ j=g) w w'
theorem changed_any (w : World) (B gf bm most stamp g k n : Nat) (da la : List UInt8) (fd fl : Option Nat) (v : Value) (h : FSAt w B gf bm most stamp da la fd fl) (hf : FileX w B g k n v) (hs : stamp<=1000000) :
   Calls Tryz.prog 98 #[.pointer (some ⟨gf,0,none⟩),.pointer (some ⟨g,0,none⟩)] w (ChRet w B gf bm most stamp da la fd fl g k n v):=by
 obtain ⟨st,hb⟩:=hf.st
 obtain ⟨xs,hr,ho1⟩:=hf.row
 replace ho1:=hide ho1
 have hne:=(hf.ngf h).1
 have hbn:=h.bmNe hb
 have hbf:=h.bmNe h.st
 have c1:=h.st.cell 1
 have q1:=h.st.frozen 1
 have d2:=hb.cell 2
 have r2:=hb.frozen 2
 obtain ⟨S1,hS1⟩ : ∃ S1,S1=stamp + 1:=⟨_,rfl⟩
 have hI : (stamp : Int) + 1=(S1 : Int):=by omega
 have hbz:=hb.far (p:=⟨gf,1,none⟩) (fun e => hne e.symm) (.int .i64 (S1 : Int))
 have e2:=hbz.cell 2
 have t2:=hbz.frozen 2
 have hO1 : Only (fun j => j=gf \/ j=g) w (w.setCell ⟨gf,1,none⟩ (.int .i64 (S1 : Int))):=(Only.refl _ w).setCell (p:=⟨gf,1,none⟩) (fun _ => .inl rfl) _
 have hO2:=hO1.setCell (p:=⟨g,2,none⟩) (fun _ => .inr rfl) (.int .i64 (S1 : Int))
 have hSt:=(h.st.set_ 1 (.int .i64 (S1 : Int))).far (p:=⟨g,2,none⟩) hne (.int .i64 (S1 : Int))
 have hBz:=hbz.set_ 2 (.int .i64 (S1 : Int))
 have hRow:=hO2.row hr (fun j hj e => e.elim (fun e => (hf.ngf h).2 (by rw [hj,e])) (fun e => hf.gvs (by rw [hj,e])))
 have hMap : ∃ nn,(((w.setCell ⟨gf,1,none⟩ (.int .i64 (S1 : Int))).setCell ⟨g,2,none⟩ (.int .i64 (S1 : Int)))).ownsMap Tryz.prog 9 rawE bm nn (twoD da la fd fl)/\nn<=cnt1 fd + cnt1 fl:=by
   obtain ⟨nn,hm,hn⟩:=h.mp
   exact ⟨nn,(hm.setCell (a:=⟨gf,1,none⟩) hbf _).setCell (a:=⟨g,2,none⟩) hbn _,hn⟩
 have c1':=(h.st.set_ 1 (.int .i64 (S1 : Int))).cell 1
 have hfin : Hid (FSAt ((w.setCell ⟨gf,1,none⟩ (.int .i64 (S1 : Int))).setCell ⟨g,2,none⟩ (.int .i64 (S1 : Int))) B gf bm most S1 da la fd fl/\FileX ((w.setCell ⟨gf,1,none⟩ (.int .i64 (S1 : Int))).setCell ⟨g,2,none⟩ (.int .i64 (S1 : Int))) B g k n v/\Only (fun j => j=gf \/ j=g) w ((w.setCell ⟨gf,1,none⟩ (.int .i64 (S1 : Int))).setCell ⟨g,2,none⟩ (.int .i64 (S1 : Int)))) :=
   ⟨⟨hSt,hMap,h.ne,h.gB,h.bB⟩,⟨⟨S1,hBz⟩,⟨xs,hRow,ho1.out⟩,hf.gB⟩,hO2⟩
 replace h:=hide h
 replace hf:=hide hf
 replace hb:=hide hb
 replace hS1:=hide hS1
 replace hr:=hide hr
 replace hbz:=hide hbz
 clear hO1 hO2 hSt hBz hRow hMap
 go_enter Tryz.func98,Tryz.ntmps98
 go_wp2_with fail
 go_ret
 exact ⟨rfl,by rw [<- hS1.out]; exact hfin.out.1,hfin.out.2.1,hfin.out.2.2⟩
end Go.Proofs.YtiiljlmeililbaaGreatDoor
