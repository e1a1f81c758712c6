/-
  Contract of inquestlaw19.wakes.
-/
import Derived.Test.YtiiljlmeililbaaGreatDoorBsGr43
import Derived.Test.YtiiljlmeililbaaGreatDoorBsGr28
import Derived.Test.YtiiljlmeililbaaGreatDoorBsGr27
import Derived.Lib.SlBytesConst
import Derived.Test.YtiiljlmeililbaaGreatDoorBsGr31
import Derived.Test.YtiiljlmeililbaaGreatDoorBsGr30
import Derived.Test.YtiiljlmeililbaaGreatDoorBsGr33
import Derived.Test.YtiiljlmeililbaaGreatDoorBsGr3
namespace Go.Proofs.YtiiljlmeililbaaGreatDoor
set_option linter.unusedVariables false
set_option maxRecDepth 100000
open Go.RowKit Go.Maps
structure NTree (w : World) (gt gp : Nat) (F : Nat->Prop) (st : PgS) (w' : World) : Prop where
 pg : PgAt w' F gp st
 tr : TreeAt w' F gt gp 0
 bl : Below w.heap.size w w'
 up : ∀ k,F k->w.heap.size<=k
theorem NTree.alloc {w w' : World} {gt gp : Nat} {F : Nat->Prop} {st : PgS} (h : NTree w gt gp F st w') (o : Obj) : NTree w gt gp F st (w'.alloc o) :=
 ⟨h.pg.alloc o,h.tr.ev ((Ev.refl F w').alloc_ o),h.bl.alloc h.bl.size o,h.up⟩
theorem NTree.ev {w w' w'' : World} {gt gp : Nat} {F F' : Nat->Prop} {st st' : PgS} (h : NTree w gt gp F st w') (he : Ev F w' F' w'') (hp : PgAt w'' F' gp st') : NTree w gt gp F' st' w'' :=
 ⟨hp,h.tr.ev he,h.bl.trans (Only.below he.only h.up h.bl.size),fun k hk => by
   rcases he.grow k hk with h1 | h1
   · exact h.up k h1
   · have:=h.bl.size; omega⟩
theorem mb_new (w : World) (F : Nat->Prop) (hF : ∀ k,F k->k < w.heap.size) (l : List UInt8) (fr : Nat × Nat) (w' : World) (hB : Below (w.heap.size + 1) (w.alloc (.cells (bv l).toArray 5 fr)) w') : MB F w' (some ⟨w.heap.size,0,none⟩) l.length l:=by
 have hz : (w.alloc (.cells (bv l).toArray 5 fr)).heap.size=w.heap.size + 1:=World.size_alloc _ _
 have hs:=hB.size
 refine ⟨by simp [bv],fun _ => ⟨_,rfl,⟨by show w.heap.size < _; omega,fun hf => by have h9 : w.heap.size < w.heap.size:=hF _ hf; omega⟩,fun j u hj => ?_⟩⟩
 rw [show (⟨w.heap.size,0,none⟩ : Addr).add j=⟨w.heap.size,0 + j,none⟩ from Addr.add_mid _ _ _,Nat.zero_add]
 rw [hB.cell (p:=⟨w.heap.size,j,none⟩) (by show w.heap.size < _; omega)]
 rw [cell_of_row _ w.heap.size j (bv l).toArray 5 fr (heap_alloc_new w _)]
 simpa using hj
set_option maxHeartbeats 1000000 in
theorem wakes_any (w : World) : Calls Tryz.prog 6 #[] w fun e w' => e=.returned (.bool true)/\Below w.heap.size w w':=by
 have hnew : Hid (Calls Tryz.prog 8 #[.int .i64 1000] w (FNewRet w 1000)):=hide (fnew_any w 1000 (by omega) (by omega))
 have kc:=fun (wx : World) (C : Array Value) (n c : Nat) => Lib.run_convert_bytes_const (P:=Tryz.prog) wx 37 5 C n c Tryz.underlying37 Tryz.underlying5
 go_enter Tryz.func6,Tryz.ntmps6
 go_wp2_with fail
 refine hnew.out.mono ?_
 rintro e w1 ⟨gf,bm,rfl,hfs,hB1⟩
 have hf0:=hfs (dbN [120]) (logN [120]) (db_ne [120])
 have hf : FSAt w1 0 gf bm 1000 0 (dbN [120]) (logN [120]) none none:=⟨hf0.st,hf0.mp,hf0.ne,Nat.zero_le _,Nat.zero_le _⟩
 have hg1:=hf0.gB
 have hg2:=hf0.bB
 have hop : Hid (Calls Tryz.prog 7 #[.pointer (some ⟨gf,0,none⟩),.string ⟨#[120]⟩] w1 (OpRet w1 gf bm [120])):=hide (open_new w1 gf bm 1000 0 [120] hf name_d name_l (by decide) (by decide) (by omega) (by omega) (by omega))
 replace hfs:=hide hfs
 replace hf0:=hide hf0
 replace hf:=hide hf
 replace hB1:=hide hB1
 clear hnew
 go_wp2_with fail
 refine hop.out.mono ?_
 rintro e w2 ⟨gp,gm,gc0,rfl,g1,g2,hbp,him,hFr⟩
 have hP2:=pg_at hbp him
 obtain ⟨F,hF⟩ : ∃ F : Nat->Prop,F=(fun k => k=gp \/ k=gm):=⟨_,rfl⟩
 rw [<- hF] at hP2
 have hFB : ∀ k,F k->w.heap.size<=k:=fun k hk => by
   have:=hB1.out.size
   rw [hF] at hk
   rcases hk with rfl | rfl <;> omega
 have hB2 : Below w.heap.size w w2:=hB1.out.trans (Only.below hFr (fun k hk => by
   have:=hB1.out.size
   rcases hk with rfl | rfl | hk <;> omega) hB1.out.size)
 have hO3 : Below w2.heap.size w2 (w2.alloc (.cells #[.pointer (some ⟨gp,0,none⟩),.int .i64 0] 81)):=(Below.refl _ _).alloc (Nat.le_refl _) _
 have htn : Hid (Calls Tryz.prog 9 #[.pointer (some ⟨gp,0,none⟩),.int .i64 0] w2 fun e w' => e=.returned (.tuple #[.pointer (some ⟨w2.heap.size,0,none⟩),.int .i64 0])/\w'=w2.alloc (.cells #[.pointer (some ⟨gp,0,none⟩),.int .i64 0] 81)):=hide (tnew_any w2 gp 0 (by omega))
 have kc2 : ∀ (wx : World) (o : Obj) (C : Array Value) (n c : Nat),(convert 37 37 (.slice (some ⟨wx.heap.size + 1,0,none⟩) n c)).run Tryz.prog ((wx.alloc o).alloc (.cells C 5))=.ok (.slice (some ⟨wx.heap.size + 1,0,none⟩) n c) ((wx.alloc o).alloc (.cells C 5 (C.size,C.size + 1))):=fun wx o C n c => by
   have:=kc (wx.alloc o) C n c
   rw [World.size_alloc] at this
   exact this
 have hT3 : ∀ W,W=w2.alloc (.cells #[.pointer (some ⟨gp,0,none⟩),.int .i64 0] 81)->NTree w w2.heap.size gp F hd1 W:=fun W hW => by
   rw [hW]
   exact ⟨hP2.alloc _,⟨Blk.new w2 81 _,fun hf => by have:=hP2.lt _ hf; omega⟩,hB2.trans (hO3.mono hB2.size),hFB⟩
 obtain ⟨gt,hgt⟩ : ∃ gt,gt=w2.heap.size:=⟨_,rfl⟩
 rw [<- hgt] at htn hT3
 replace hT3:=hide hT3
 replace hB2:=hide hB2
 replace hO3:=hide hO3
 replace hP2:=hide hP2
 replace hbp:=hide hbp
 replace him:=hide him
 replace hFr:=hide hFr
 replace hF:=hide hF
 replace hFB:=hide hFB
 replace hgt:=hide hgt
 clear hop
 go_wp2_with fail
 refine htn.out.mono ?_
 rintro e w3 ⟨rfl,hw3⟩
 have hT:=hide (hT3.out w3 hw3)
 clear htn hw3 hT3
 obtain ⟨o1,ho1⟩ : ∃ o1,o1=Obj.cells (bv [98]).toArray 5 (1,2):=⟨_,rfl⟩
 obtain ⟨o2,ho2⟩ : ∃ o2,o2=Obj.cells (bv [50]).toArray 5 (1,2):=⟨_,rfl⟩
 have hT5:=(hT.out.alloc o1).alloc o2
 have hz1 : (w3.alloc o1).heap.size=w3.heap.size + 1:=World.size_alloc _ _
 have hk1 : MB F ((w3.alloc o1).alloc o2) (some ⟨w3.heap.size,0,none⟩) 1 [98]:=by
   rw [ho1]
   exact mb_new w3 F hT.out.pg.lt [98] (1,2) _ ((Below.refl _ _).alloc (by rw [<- ho1,hz1]; exact Nat.le_refl _) _)
 have hv1 : MB F ((w3.alloc o1).alloc o2) (some ⟨w3.heap.size + 1,0,none⟩) 1 [50]:=by
   have:=mb_new (w3.alloc o1) F (hT.out.alloc o1).pg.lt [50] (1,2) ((w3.alloc o1).alloc o2) (by rw [ho2]; exact Below.refl _ _)
   rw [hz1] at this
   exact this
 have hp1 : Hid (∀ W,W=(w3.alloc o1).alloc o2->Calls Tryz.prog 11 #[.pointer (some ⟨gt,0,none⟩),.slice (some ⟨w3.heap.size,0,none⟩) 1 1,.slice (some ⟨w3.heap.size + 1,0,none⟩) 1 1] W (PgEnd F W gp stA (.int .i64 0))):=hide fun W hW => by
   rw [hW]
   exact put_first ((w3.alloc o1).alloc o2) F gt gp 0 hd1 hT5.pg hT5.tr (by omega) [98] [50] _ _ 1 1 hk1 hv1 (by decide) (by decide) (by decide) rfl al1 (by decide) save1 (by decide)
 replace hT5:=hide hT5
 replace hk1:=hide hk1
 replace hv1:=hide hv1
 clear hz1
 go_upto_region 5 with (fail)
 go_wp2_with fail
 refine (hp1.out _ (by rw [ho1,ho2]; rfl)).mono ?_
 rintro e w4 ⟨rfl,F2,hP4,hE4⟩
 have hT6:=hide (hT5.out.ev (by rw [ho1,ho2]; exact hE4) hP4)
 replace hE4:=hide hE4
 replace hP4:=hide hP4
 replace ho1:=hide ho1
 replace ho2:=hide ho2
 clear hp1 hT5 hk1 hv1
 obtain ⟨o3,ho3⟩ : ∃ o3,o3=Obj.cells (bv [97]).toArray 5 (1,2):=⟨_,rfl⟩
 obtain ⟨o4,ho4⟩ : ∃ o4,o4=Obj.cells (bv [49]).toArray 5 (1,2):=⟨_,rfl⟩
 have hT7:=(hT6.out.alloc o3).alloc o4
 have hz1 : (w4.alloc o3).heap.size=w4.heap.size + 1:=World.size_alloc _ _
 have hk1 : MB F2 ((w4.alloc o3).alloc o4) (some ⟨w4.heap.size,0,none⟩) 1 [97]:=by
   rw [ho3]
   exact mb_new w4 F2 hT6.out.pg.lt [97] (1,2) _ ((Below.refl _ _).alloc (by rw [<- ho3,hz1]; exact Nat.le_refl _) _)
 have hv1 : MB F2 ((w4.alloc o3).alloc o4) (some ⟨w4.heap.size + 1,0,none⟩) 1 [49]:=by
   have:=mb_new (w4.alloc o3) F2 (hT6.out.alloc o3).pg.lt [49] (1,2) ((w4.alloc o3).alloc o4) (by rw [ho4]; exact Below.refl _ _)
   rw [hz1] at this
   exact this
 have hp1 : Hid (∀ W,W=(w4.alloc o3).alloc o4->Calls Tryz.prog 11 #[.pointer (some ⟨gt,0,none⟩),.slice (some ⟨w4.heap.size,0,none⟩) 1 1,.slice (some ⟨w4.heap.size + 1,0,none⟩) 1 1] W (PgEnd F2 W gp stB (.int .i64 0))):=hide fun W hW => by
   rw [hW]
   exact put_more ((w4.alloc o3).alloc o4) F2 gt gp 0 stA hT7.pg hT7.tr (by omega) [97] [49] _ _ 1 1 hk1 hv1 (by decide) (by decide) (by decide) 1 root1 (by decide) nd1 nd2 load1 rfl (by rw [find1]) ins1 save2
 replace hT7:=hide hT7
 replace hk1:=hide hk1
 replace hv1:=hide hv1
 clear hz1
 go_wp2_with fail
 refine (hp1.out _ (by rw [ho3,ho4]; rfl)).mono ?_
 rintro e w5 ⟨rfl,F3,hP5,hE5⟩
 have hT8:=hide (hT7.out.ev (by rw [ho3,ho4]; exact hE5) hP5)
 replace hE5:=hide hE5
 replace hP5:=hide hP5
 replace ho3:=hide ho3
 replace ho4:=hide ho4
 clear hp1 hT7 hk1 hv1 kc kc2
 have hsk : Hid (Calls Tryz.prog 25 #[.pointer (some ⟨gt,0,none⟩),.slice none 0 0] w5 fun e w' => ∃ gc,e=.returned (.pointer (some ⟨gc,0,none⟩))/\Below w5.heap.size w5 w'/\w5.heap.size<=gc/\CurAt F3 (fun j => j=gc) w' gc gt [] [] (stB.roots 0 : Int) 0) :=
   hide (seek_any w5 F3 gt gp 0 stB hT8.out.pg hT8.out.tr (by omega) [] none 0 Rd.none_ (by decide))
 go_upto_region 7 with (fail)
 go_wp2_with fail
 refine hsk.out.mono ?_
 rintro e w6 ⟨gc,rfl,hB6,hgc,hcu⟩
 have hT9 : NTree w gt gp F3 stB w6:=hT8.out.ev (Ev.of_below hB6) (hT8.out.pg.below hB6)
 have hgt5:=hT8.out.tr.blk.lt
 have hnx : Hid (Calls Tryz.prog 26 #[.pointer (some ⟨gc,0,none⟩)] w6 (NxEnd F3 (fun j => j=gc) w6 gp stB gc gt [(nd2,1)] [] celA)) :=
   hide (cnext_first w6 F3 (fun j => j=gc) gc gt gp 0 stB hT9.pg ⟨hT9.tr.blk,by
     rintro (hf | hf)
     · exact hT9.tr.out hf
     · have h9 : gt = gc := hf
       omega⟩ [] 1 hcu (by omega) nd2 load2 rfl 0 find2.symm celA rfl rfl (by decide) (by decide))
 have hB9:=hT9.bl
 have hUp:=hide hT9.up
 replace hT9:=hide hT9
 replace hcu:=hide hcu
 replace hB6:=hide hB6
 replace hB9:=hide hB9
 clear hsk
 go_wp2_with fail
 refine hnx.out.mono ?_
 rintro e w7 ⟨F4,C4,kA,kk,vA,vv,rfl,rk,rv,_,_,hP7,_,hE7⟩
 have hs1 : (convert 37 9 (.slice kA 1 kk)).run Tryz.prog w7=.ok (.string ⟨#[97]⟩) w7:=run_str_of rk
 have hs2 : (convert 37 9 (.slice vA 1 vv)).run Tryz.prog w7=.ok (.string ⟨#[49]⟩) w7:=run_str_of rv
 have hend : Hid (Below w.heap.size w w7):=hide (hB9.out.trans (Only.below hE7.only (fun k hk => by
   rcases hk with hk | hk
   · exact hUp.out k hk
   · have h9 : k = gc := hk
     have:=hT8.out.bl.size
     omega) hB9.out.size))
 replace rk:=hide rk
 replace rv:=hide rv
 replace hP7:=hide hP7
 replace hE7:=hide hE7
 clear hnx
 rw [show celA.key.length=1 from rfl,show celA.val.length=1 from rfl]
 go_wp2_with fail
 go_ret
 exact ⟨rfl,hend.out⟩
end Go.Proofs.YtiiljlmeililbaaGreatDoor
namespace Go.Proofs.YtiiljlmeililbaaGreatDoor
set_option linter.unusedVariables false
set_option maxRecDepth 100000
open Go.RowKit
structure RowsB (w : World) (A : Option Addr) (n c : Nat) (ks : List (List UInt8)) : Prop where
 len : ks.length=n
 cap : n<=c
 mem : ∃ rows : List Value,rows.length=n/\Rd (fun k => k < w.heap.size) w 1 A n rows/\∀ (i : Nat) (v : Value) (k : List UInt8),rows[i]?=some v->ks[i]?=some k->∃ (kA : Option Addr) (kc : Nat),v=Value.slice kA k.length kc/\k.length<=kc/\kc<=maxLen/\Rd (fun k => k < w.heap.size) w 1 kA k.length (bv k)
theorem Rd.belowO {w w' : World} {size n : Nat} {A : Option Addr} {xs : List Value} (h : Rd (fun k => k < w.heap.size) w size A n xs) (hB : Below w.heap.size w w') : Rd (fun k => k < w.heap.size) w' size A n xs:=h.keep fun k hk => ⟨hk,hB.block k hk⟩
theorem RowsB.at_ {w w' : World} {A : Option Addr} {n c : Nat} {ks : List (List UInt8)} (h : RowsB w A n c ks) (hB : Below w.heap.size w w') (i : Nat) (hi : i < ks.length) :
   ∃ ad kA kc,A=some ad/\w'.cell? (ad.add i)=some (.slice kA ks[i].length kc)/\ks[i].length<=kc/\kc<=maxLen/\Rd (fun k => k < w.heap.size) w' 1 kA ks[i].length (bv ks[i]):=by
 obtain ⟨rows,h1,h2,h3⟩:=h.mem
 have hir : i < rows.length:=by have:=h.len; omega
 obtain ⟨kA,kc,e,g1,g2,g3⟩:=h3 i rows[i] ks[i] (List.getElem?_eq_getElem hir) (List.getElem?_eq_getElem hi)
 obtain ⟨ad,rfl,_,hc⟩:=(h2.belowO hB).2 (by have:=h.len; omega)
 exact ⟨ad,kA,kc,rfl,by rw [<- e]; exact hc i _ (List.getElem?_eq_getElem hir),g1,g2,g3.belowO hB⟩
def LsAt (w0 : World) (G : Nat->Prop) (w : World) (A : Option Addr) (ls : List (List UInt8)) : Prop :=
 ∃ rows : List Value,rows.length=ls.length/\Rd G w 1 A ls.length rows/\∀ (i : Nat) (v : Value) (k : List UInt8),rows[i]?=some v->ls[i]?=some k->∃ (kA : Option Addr) (kc : Nat),v=Value.slice kA k.length kc/\k.length<=kc/\kc<=maxLen/\Rd (fun k => k < w0.heap.size) w0 1 kA k.length (bv k)
theorem LsAt.ev {w0 w w' : World} {F F' : Nat->Prop} {A : Option Addr} {ls : List (List UInt8)} (h : LsAt w0 (Mine F w) w A ls) (he : Ev F w F' w') : LsAt w0 (Mine F' w') w' A ls:=by
 obtain ⟨rows,h1,h2,h3⟩:=h
 exact ⟨rows,h1,h2.ev he,h3⟩
theorem LsAt.at_ {w0 w : World} {G : Nat->Prop} {A : Option Addr} {ls : List (List UInt8)} (h : LsAt w0 G w A ls) (hB : Below w0.heap.size w0 w) (i : Nat) (hi : i < ls.length) :
   ∃ ad kA kc,A=some ad/\w.cell? (ad.add i)=some (.slice kA ls[i].length kc)/\ls[i].length<=kc/\kc<=maxLen/\Rd (fun k => k < w0.heap.size) w 1 kA ls[i].length (bv ls[i]):=by
 obtain ⟨rows,h1,h2,h3⟩:=h
 have hir : i < rows.length:=by omega
 obtain ⟨kA,kc,e,g1,g2,g3⟩:=h3 i rows[i] ls[i] (List.getElem?_eq_getElem hir) (List.getElem?_eq_getElem hi)
 obtain ⟨ad,rfl,_,hc⟩:=h2.2 (by omega)
 exact ⟨ad,kA,kc,rfl,by rw [<- e]; exact hc i _ (List.getElem?_eq_getElem hir),g1,g2,g3.belowO hB⟩
theorem bsl_info : (Tryz.prog.info? 37).map (fun i => (i.zero,i.size,i.bytes))=some (some (.slice none 0 0),1,24):=by kernel_rfl
theorem rows_one {ls : List (List UInt8)} {rows : List Value} {w0 : World} (h1 : rows.length=ls.length) (h3 : ∀ (i : Nat) (v : Value) (k : List UInt8),rows[i]?=some v->ls[i]?=some k->∃ (kA : Option Addr) (kc : Nat),v=Value.slice kA k.length kc/\k.length<=kc/\kc<=maxLen/\Rd (fun k => k < w0.heap.size) w0 1 kA k.length (bv k)) : ∀ u ∈ rows,u.oneCell'=true:=by
 intro u hu
 obtain ⟨i,hi,rfl⟩:=List.getElem_of_mem hu
 obtain ⟨kA,kc,e,_⟩:=h3 i rows[i] ls[i] (List.getElem?_eq_getElem hi) (List.getElem?_eq_getElem (by omega))
 rw [e]; rfl
theorem rows_join (w0 wr : World) (hbl : Below w0.heap.size w0 wr) (A B : Option Addr) (n c m d : Nat) (ks fs : List (List UInt8)) (hA : RowsB w0 A n c ks) (hB : RowsB w0 B m d fs) (hn : n<=1000) (hm : m<=1000) :
   ∃ v1 wa A2 c2 wb, (Builtin.append_ #[22, 22] 22 #[.slice (some ⟨wr.heap.size, 0, none⟩) 0 0, .slice B m d]).run Tryz.prog (wr.alloc (.cells #[] 37)) = .ok v1 wa /\ (Builtin.append_ #[22, 22] 22 #[v1, .slice A n c]).run Tryz.prog wa = .ok (.slice A2 (m + n) c2) wb /\
     (∃ A1 c1,v1=.slice A1 m c1)/\Below wr.heap.size wr wb/\m + n<=c2/\LsAt w0 (fun k => wr.heap.size<=k/\k < wb.heap.size) wb A2 (fs ++ ks):=by
 obtain ⟨i0,hi0,hz0,hz1,hz2⟩:=info_parts bsl_info
 obtain ⟨rF,f1,f2,f3⟩:=hB.mem
 obtain ⟨rK,k1,k2,k3⟩:=hA.mem
 obtain ⟨W,hW⟩ : ∃ W,W=wr.alloc (.cells #[] 37):=⟨_,rfl⟩
 have hbW : Below wr.heap.size wr W:=by rw [hW]; exact (Below.refl _ _).alloc (Nat.le_refl _) _
 have hsW : W.heap.size=wr.heap.size + 1:=by rw [hW]; simp
 have hown0 : W.ownsRow wr.heap.size 37 1 (.slice (some ⟨wr.heap.size,0,none⟩) 0 0) 0 []:=⟨rfl,.inr ⟨wr.heap.size,0,#[],rfl,Nat.le_refl _,by rw [hW]; exact heap_alloc_new wr _,Nat.le_refl _,Nat.zero_le _,rfl,rfl⟩⟩
 rw [<- hW]
 have hF' : Rd (fun k => k < w0.heap.size) W 1 B m rF:=f2.belowO (hbl.trans (hbW.mono hbl.size))
 obtain ⟨v1,wa,hr1,ho1,hg1,_⟩:=run_append_any (P:=Tryz.prog) W wr.heap.size 22 22 37 i0 _ 1 24 Tryz.underlying22 hi0 hz0 hz1 hz2 rfl (by omega) _ 0 [] hown0 w0.heap.size B m d rF (Rd.reads hF' fun k hk => hk) (rows_one (by rw [f1,hB.len]) f3) (by simp only [maxLen]; omega) (by omega) (by omega)
 have hb1 : Below wr.heap.size W wa:=(Below.refl _ W).grown hg1 (by omega) fun k hk => (own_lt hown0 hk).1
 have hba : Below wr.heap.size wr wa:=hbW.trans hb1
 rw [List.nil_append,Nat.zero_add] at ho1
 have hK' : Rd (fun k => k < w0.heap.size) wa 1 A n rK:=k2.belowO (hbl.trans (hba.mono hbl.size))
 obtain ⟨v2,wb,hr2,ho2,hg2,_⟩:=run_append_any (P:=Tryz.prog) wa wr.heap.size 22 22 37 i0 _ 1 24 Tryz.underlying22 hi0 hz0 hz1 hz2 rfl (by omega) v1 m rF ho1 w0.heap.size A n c rK (Rd.reads hK' fun k hk => hk) (rows_one (by rw [k1,hA.len]) k3) (by simp only [maxLen]; omega) (by omega) hba.size
 have hbb : Below wr.heap.size wr wb:=hba.trans ((Below.refl _ wa).grown hg2 hba.size fun k hk => (own_lt ho1 hk).1)
 obtain ⟨A1,c1,rfl⟩:=own_form ho1
 obtain ⟨A2,c2,e2,hc2⟩:=own_sl ho2
 subst e2
 have hlen : (fs ++ ks).length=m + n:=by rw [List.length_append,hB.len,hA.len]
 refine ⟨_,wa,A2,c2,wb,hr1,hr2,⟨A1,c1,rfl⟩,hbb,hc2,rF ++ rK,by rw [List.length_append,f1,k1,hlen],?_,fun i v k e1 e2 => ?_⟩
 · rw [hlen]
   exact Rd.of_own ho2 fun k h1 h2 => ⟨h1,h2⟩
 · rcases Nat.lt_or_ge i rF.length with h9 | h9
   · rw [List.getElem?_append_left h9] at e1
     rw [List.getElem?_append_left (by rw [hB.len,<- f1]; exact h9)] at e2
     exact f3 i v k e1 e2
   · rw [List.getElem?_append_right h9] at e1
     rw [List.getElem?_append_right (by rw [hB.len,<- f1]; exact h9),hB.len,<- f1] at e2
     exact k3 _ v k e1 e2
theorem put_bad (w : World) (gt : Nat) (kA : Option Addr) (n kc : Nat) (v : Value) (hn : n < 1 \/ 120 < n) (hm : n<=maxLen) :
   Calls Tryz.prog 11 #[.pointer (some ⟨gt,0,none⟩),.slice kA n kc,v] w fun e w' => e=.returned (.int .i64 1)/\Below w.heap.size w w':=by
 have hB0:=(Below.refl w.heap.size w).alloc (Nat.le_refl _) (.cells #[.pointer (some ⟨gt,0,none⟩)] 30)
 have c0 : (w.alloc (.cells #[.pointer (some ⟨gt,0,none⟩)] 30)).cell? ⟨w.heap.size,0,none⟩=some (.pointer (some ⟨gt,0,none⟩)):=(Blk.new w 30 #[.pointer (some ⟨gt,0,none⟩)]).cell 0
 replace hB0:=hide hB0
 rcases hn with hn | hn
 · obtain rfl : n = 0 := by omega
   go_enter Tryz.func11,Tryz.ntmps11
   go_wp2_with fail
   go_ret
   exact ⟨rfl,hB0.out⟩
 · have l1 : decide ((n : Int) < 1) = false := decide_eq_false (by omega)
   have l2 : decide (120 < (n : Int))=true:=decide_eq_true (by omega)
   have l2n : decide (120 < n)=true:=decide_eq_true (by omega)
   have hn0 : ¬ n=0:=by omega
   go_enter Tryz.func11,Tryz.ntmps11
   go_wp2_with fail
   go_ret
   exact ⟨rfl,hB0.out⟩
theorem rput_bad (w : World) (gx : Nat) (kA : Option Addr) (n kc : Nat) (v : Value) (hn : n < 1 \/ 120 < n) :
   Calls Tryz.prog 12 #[.pointer (some ⟨gx,0,none⟩),.slice kA n kc,v] w fun e w' => e=.returned (.int .i64 1)/\w=w':=by
 rcases hn with hn | hn
 · obtain rfl : n = 0 := by omega
   go_enter Tryz.func12,Tryz.ntmps12
   go_wp2_with fail
   go_ret
   exact ⟨rfl,rfl⟩
 · have l1 : decide ((n : Int) < 1) = false := decide_eq_false (by omega)
   have l2 : decide (120 < (n : Int))=true:=decide_eq_true (by omega)
   have l2n : decide (120 < n)=true:=decide_eq_true (by omega)
   have hn0 : ¬ n=0:=by omega
   go_enter Tryz.func12,Tryz.ntmps12
   go_wp2_with fail
   go_ret
   exact ⟨rfl,rfl⟩
theorem tget_none (w : World) (F : Nat->Prop) (gt gp k : Nat) (st : PgS) (h : PgAt w F gp st) (ht : TreeAt w F gt gp k) (hk8 : k < 8) (h0 : st.roots k=0) (kA : Option Addr) (n kc : Nat) :
   Calls Tryz.prog 14 #[.pointer (some ⟨gt,0,none⟩),.slice kA n kc] w fun e w' => e=.returned (.tuple #[.slice none 0 0,.bool false,.int .i64 0])/\Below w.heap.size w w':=by
 have t1 : w.cell? ⟨gt,0,none⟩=some (.pointer (some ⟨gp,0,none⟩)):=ht.blk.cell 0
 have t2 : w.cell? ⟨gt,1,none⟩=some (.int .i64 (k : Int)):=ht.blk.cell 1
 have hrt : Hid (Calls Tryz.prog 23 #[.pointer (some ⟨gp,0,none⟩),.int .i64 (k : Int)] w.drew fun e w' => e=.returned (.int .i64 0)/\w.drew=w'):=hide (by
   have h9:=root_any w.drew F gp st h.drew k hk8
   rw [h0] at h9; exact h9)
 have hB : Hid (Below w.heap.size w w.drew):=hide (Below.refl _ w).drew
 replace h:=hide h
 replace ht:=hide ht
 go_enter Tryz.func14,Tryz.ntmps14
 go_wp2_with fail
 go_region_held3 (fun w' => w'.cell? ⟨gt,0,none⟩=some (.pointer (some ⟨gp,0,none⟩))/\w'.cell? ⟨gt,1,none⟩=some (.int .i64 (k : Int))) (first | exact ⟨t1,t2⟩) (first | (go_at_call 23; refine hrt.out.mono ?_; rintro e w3 ⟨rfl,rfl⟩))
 go_wp2_with fail
 go_loopw [7] (fun v7 wx => v7=.int .i64 0/\wx=w.drew) (fun _ _ => 0)
 case atStart => exact ⟨rfl,rfl⟩
 case round =>
   obtain ⟨rfl,rfl⟩:=hrel
   go_wp2_with fail
   go_ret3
   exact ⟨rfl,hB.out⟩
structure TrF (w0 : World) (gt gp k : Nat) (kv : List KV) (N : Nat) (F : Nat->Prop) (wx : World) : Prop where
 st : ∃ st fl pages,PgAt wx F gp st/\TreeKV st k kv pages/\Inv st fl (pages ++ [])/\st.many<=1 + 300 * N
 tr : TreeAt wx F gt gp k
 bl : Below w0.heap.size w0 wx
 up : ∀ j,F j->w0.heap.size<=j
 le : kv.length<=N
 sz : ∀ p ∈ kv,p.1.length<=120/\p.2.length<=20000
structure SkF (w0 : World) (gt gp gx k : Nat) (kv : List KV) (N : Nat) (F : Nat->Prop) (wx : World) : Prop where
 t : TrF w0 gt gp k kv N F wx
 r : RefT F wx gx kv
 gx : w0.heap.size<=gx
theorem TrF.lt {w0 wx : World} {gt gp k N : Nat} {kv : List KV} {F : Nat->Prop} (h : TrF w0 gt gp k kv N F wx) : ∀ j,F j->j < wx.heap.size:=by
 obtain ⟨st,fl,pages,hP,_⟩:=h.st
 exact hP.lt
theorem TrF.rise {w0 wx : World} {gt gp k N : Nat} {kv : List KV} {F : Nat->Prop} (h : TrF w0 gt gp k kv N F wx) : RiseK kv:=by
 obtain ⟨st,fl,pages,_,hT,_⟩:=h.st
 exact hT.rise
theorem TrF.below {w0 w w' : World} {gt gp k N : Nat} {kv : List KV} {F : Nat->Prop} (h : TrF w0 gt gp k kv N F w) (hB : Below w.heap.size w w') : TrF w0 gt gp k kv N F w':=by
 obtain ⟨st,fl,pages,hP,hT,hI,hm⟩:=h.st
 exact ⟨⟨st,fl,pages,hP.below hB,hT,hI,hm⟩,h.tr.ev (Ev.of_below hB),h.bl.trans (hB.mono h.bl.size),h.up,h.le,h.sz⟩
theorem SkF.below {w0 w w' : World} {gt gp gx k N : Nat} {kv : List KV} {F : Nat->Prop} (h : SkF w0 gt gp gx k kv N F w) (hB : Below w.heap.size w w') : SkF w0 gt gp gx k kv N F w':=⟨h.t.below hB,h.r.ev (Ev.of_below hB),h.gx⟩
theorem insKV_mem {key : KeyB} {b : List UInt8} {kv : List KV} {p : KV} (h : p ∈ insKV key b kv) : p=(key,b) \/ p ∈ kv:=by
 unfold insKV at h
 rcases List.mem_append.1 h with h | h
 · exact .inr (List.mem_filter.1 h).1
 · rcases List.mem_cons.1 h with h | h
   · exact .inl h
   · exact .inr (List.mem_filter.1 h).1
theorem lo_up_len (key : KeyB) : ∀ kv : List KV,(loKV kv key).length + (upKV kv key).length<=kv.length
 | [] => by simp [loKV,upKV]
 | p :: r => by
   have ih:=lo_up_len key r
   unfold loKV upKV at ih ⊢
   rw [List.filter_cons,List.filter_cons]
   cases h1 : ltK p.1 key with
   | true =>
     rw [ltK_asymm _ _ h1]
     simp only [if_true,List.length_cons]
     simp only [Bool.false_eq_true,if_false]
     omega
   | false =>
     cases h2 : ltK key p.1 with
     | true => simp only [Bool.false_eq_true,if_false,if_true,List.length_cons]; omega
     | false => simp only [Bool.false_eq_true,if_false,List.length_cons]; omega
theorem insKV_len (key : KeyB) (b : List UInt8) (kv : List KV) : (insKV key b kv).length<=kv.length + 1:=by
 have:=lo_up_len key kv
 unfold insKV
 simp only [List.length_append,List.length_cons]
 omega
theorem tr_put {w0 w : World} {gt gp k N : Nat} {kv : List KV} {F : Nat->Prop} (h : TrF w0 gt gp k kv N F w) (hN : N<=200) (hk8 : k < 8) (kA vA : Option Addr) (kc vc : Nat) (key b : List UInt8) (hk : MB F w kA key.length key) (hv : MB F w vA b.length b)
   (h1 : 1<=key.length) (h2 : key.length<=120) (h3 : b.length<=20000) (hvc : b.length<=vc) :
   Calls Tryz.prog 11 #[.pointer (some ⟨gt,0,none⟩),.slice kA key.length kc,.slice vA b.length vc] w fun e w' => e=.returned (.int .i64 0)/\∃ F',TrF w0 gt gp k (insKV key b kv) (N + 1) F' w'/\Ev F w F' w':=by
 obtain ⟨st,fl,pages,hP,hT,hI,hm⟩:=h.st
 have hle:=h.le
 obtain ⟨st',fl',pages',hr,hT',hI',_,hm'⟩:=put_tree hI hT key b h1 h2 h3 (by omega)
 refine (tput_any w F gt gp k st st' hP h.tr hk8 key b kA vA kc vc hk hv h1 h2 h3 hvc hI.ok hr).mono ?_
 rintro e w' ⟨rfl,F',hP',hE'⟩
 refine ⟨rfl,F',⟨⟨st',fl',pages',hP',hT',hI',by omega⟩,h.tr.ev hE',h.bl.trans (Only.below hE'.only h.up h.bl.size),fun j hj => ?_,?_,fun p hp => ?_⟩,hE'⟩
 · rcases hE'.grow j hj with h9 | h9
   · exact h.up j h9
   · exact Nat.le_trans h.bl.size h9
 · have:=insKV_len key b kv; omega
 · rcases insKV_mem hp with rfl | hp
   · exact ⟨h2,h3⟩
   · exact h.sz p hp
theorem sk_rput {w0 w : World} {gt gp gx k N : Nat} {kv : List KV} {F : Nat->Prop} (key b : List UInt8) (h : TrF w0 gt gp k (insKV key b kv) N F w) (hr : RefT F w gx kv) (hgx : w0.heap.size<=gx) (hrise : RiseK kv) (hsz : ∀ p ∈ kv,p.1.length<=120) (hN : N<=300) (hle : kv.length<=N) (kA vA : Option Addr) (kc vc : Nat)
   (hk : Rd (fun j => j < w.heap.size/\j ≠ gx) w 1 kA key.length (bv key)) (hv : Rd (fun j => j < w.heap.size/\j ≠ gx) w 1 vA b.length (bv b)) (h1 : 1<=key.length) (h2 : key.length<=120) (h3 : b.length<=20000) :
   Calls Tryz.prog 12 #[.pointer (some ⟨gx,0,none⟩),.slice kA key.length kc,.slice vA b.length vc] w fun e w' => e=.returned (.int .i64 0)/\SkF w0 gt gp gx k (insKV key b kv) N F w':=by
 have hrb : ∃ v,Blk w gx 36 #[v]:=by obtain ⟨B,v,hb,_⟩:=hr.mem; exact ⟨v,hb⟩
 obtain ⟨v0,hb0⟩:=hrb
 refine (rput_any F w h.lt gx kv hr (fun p hp => by have:=hsz p hp; omega) (by omega) kA vA key.length kc b.length vc key b hk hv h1 h2 h3).mono ?_
 rintro e w' ⟨rfl,hr',hO⟩
 rw [ref_put key b hrise] at hr'
 obtain ⟨st,fl,pages,hP,hT,hI,hm⟩:=h.st
 refine ⟨rfl,⟨⟨st,fl,pages,hP.only hO fun j hj e => hr.out (by rw [<- e]; exact hj),hT,hI,hm⟩,⟨hO.blk h.tr.blk fun e => Blk.ne_ h.tr.blk hb0 (by decide) e,h.tr.out⟩,?_,h.up,h.le,h.sz⟩,hr',hgx⟩
 exact h.bl.trans (hO.below (fun j e => by rw [e]; exact hgx) h.bl.size)
theorem curL_few {st : PgS} {k : Nat} {L : List CellP} {P : List Nat} (key : KeyB) (h : TreeOf st k L P) (hL : L.length<=1000000) : CurL st key [] (st.roots k : Int) (L.filter (geKey key)):=by
 rcases h with ⟨h0,rfl,_⟩ | ⟨h,ht⟩
 · exact .inr (.inl ⟨by rw [h0]; rfl,rfl,rfl⟩)
 · refine .inr (.inr ⟨_, h, L, P, rfl, rfl, ?_, ht, rfl⟩)
   have h1:=ht.height (Nat.le_refl _)
   rcases Nat.lt_or_ge h 20 with h2 | h2
   · omega
   · have h3 := Nat.pow_le_pow_right (n := 2) (by decide) h2
     have h4 : (2 : Nat) ^ 20=1048576:=by decide
     omega
theorem tr_all {w0 w : World} {gt gp k N : Nat} {kv : List KV} {F : Nat->Prop} (h : TrF w0 gt gp k kv N F w) (hN : N<=200) (hk8 : k < 8) (kA : Option Addr) (kc : Nat) (key : List UInt8) (hk : MB F w kA key.length key) (hkl : key.length<=100000) :
   Calls Tryz.prog 13 #[.pointer (some ⟨gt,0,none⟩),.slice kA key.length kc] w fun e w' => ∃ F' A n c,e=.returned (.tuple #[.slice A n c,.int .i64 0])/\n=(fromK key kv).length/\n<=c/\TrF w0 gt gp k kv N F' w'/\Ev F w F' w'/\PairsAt F' w' A (fromK key kv):=by
 have hrise:=h.rise
 obtain ⟨st,fl,pages,hP,hT,hI,hm⟩:=h.st
 have hT0:=hT
 obtain ⟨L,P,O,hTo,hV,rfl⟩:=hT
 have hlen:=hV.len
 have hle:=h.le
 have hcl : CurL st key [] (st.roots k : Int) (L.filter (geKey key)):=curL_few key hTo (by omega)
 obtain ⟨O',hVf⟩:=hV.filter (key:=key)
 rw [<- fromK_eq key hrise] at hVf
 have hVG : ValsG st (L.filter (geKey key)) (fromK key kv):=hVf.valsG hI.ok.free (fun c hc => hTo.cells c (List.mem_filter.1 hc).1) (fun p hp => by
   have h9 : p ∈ kv:=by unfold fromK at hp; exact List.mem_of_mem_drop hp
   have:=(h.sz p h9).2; omega)
 have hfl : (fromK key kv).length<=kv.length:=by unfold fromK; rw [List.length_drop]; omega
 refine (lall_any w F gt gp k st hP h.tr hk8 key kA kc hk hkl _ _ hcl hVG (by omega)).mono ?_
 rintro e w' ⟨F',A,n,c,rfl,hn,hnc,hP',hE',hp⟩
 refine ⟨F',A,n,c,rfl,hn,hnc,⟨⟨st,fl,_,hP',hT0,hI,hm⟩,h.tr.ev hE',h.bl.trans (Only.below hE'.only h.up h.bl.size),fun j hj => ?_,h.le,h.sz⟩,hE',hp⟩
 rcases hE'.grow j hj with h9 | h9
 · exact h.up j h9
 · exact Nat.le_trans h.bl.size h9
theorem tr_get {w0 w : World} {gt gp k N : Nat} {kv : List KV} {F : Nat->Prop} (h : TrF w0 gt gp k kv N F w) (hk8 : k < 8) (kA : Option Addr) (kc : Nat) (key : List UInt8) (hk : MB F w kA key.length key) :
   Calls Tryz.prog 14 #[.pointer (some ⟨gt,0,none⟩),.slice kA key.length kc] w fun e w' => ∃ F',TrF w0 gt gp k kv N F' w'/\Ev F w F' w'/\((key ∉ kv.map (·.1)/\e=.returned (.tuple #[.slice none 0 0,.bool false,.int .i64 0])) \/
     (∃ b vA vc,(key,b) ∈ kv/\e=.returned (.tuple #[.slice vA b.length vc,.bool true,.int .i64 0])/\MB F' w' vA b.length b/\b.length<=vc)):=by
 obtain ⟨st,fl,pages,hP,hT,hI,hm⟩:=h.st
 have hfin : ∀ F' w',PgAt w' F' gp st->Ev F w F' w'->TrF w0 gt gp k kv N F' w':=fun F' w' hP' hE' => by
   refine ⟨⟨st,fl,pages,hP',hT,hI,hm⟩,h.tr.ev hE',h.bl.trans (Only.below hE'.only h.up h.bl.size),fun j hj => ?_,h.le,h.sz⟩
   rcases hE'.grow j hj with h9 | h9
   · exact h.up j h9
   · exact Nat.le_trans h.bl.size h9
 by_cases h0 : st.roots k=0
 · have hkv : kv=[]:=by
     obtain ⟨L,P,O,hTo,hV,_⟩:=hT
     rcases hTo with ⟨_,rfl,_⟩ | ⟨hh,ht⟩
     · cases hV; rfl
     · have:=ht.has.1; omega
   refine (tget_none w F gt gp k st hP h.tr hk8 h0 kA key.length kc).mono ?_
   rintro e w' ⟨rfl,hB⟩
   exact ⟨F,hfin F w' (hP.below hB) (Ev.of_below hB),Ev.of_below hB,.inl ⟨by rw [hkv]; simp,rfl⟩⟩
 · obtain ⟨m, r, d1, d2, d3, d4, d5, d6⟩ := get_law hI hT h0 key
   refine (tgetv_any w F gt gp k st hP h.tr hk8 key kA kc hk _ m r rfl d1 d2 d4 d3).mono ?_
   rintro e w' ⟨F',hP',hE',hcase⟩
   refine ⟨F',hfin F' w' hP' hE',hE',?_⟩
   rcases hcase with ⟨hf,rfl⟩ | ⟨ht,c,b,vA,vc,hc,hvg,rfl,hmb,hle⟩
   · refine .inl ⟨fun hin => ?_, rfl⟩
     rw [d5.2 hin] at hf; cases hf
   · exact .inr ⟨b,vA,vc,d6 c b ht hc hvg,rfl,hmb,hle⟩
theorem TrF.more {w0 wx : World} {gt gp k N : Nat} {kv : List KV} {F : Nat->Prop} (h : TrF w0 gt gp k kv N F wx) : TrF w0 gt gp k kv (N + 1) F wx:=by
 obtain ⟨st,fl,pages,hP,hT,hI,hm⟩:=h.st
 exact ⟨⟨st,fl,pages,hP,hT,hI,by omega⟩,h.tr,h.bl,h.up,Nat.le_succ_of_le h.le,h.sz⟩
theorem findI_no {kv : List KV} {key : KeyB} (h : key ∉ kv.map (·.1)) : findI_ kv key=-1:=by
 unfold findI_
 rw [if_neg fun h2 => h (find_has.1 h2)]
theorem findI_yes {kv : List KV} {key : KeyB} {b : List UInt8} (hr : RiseK kv) (h : (key,b) ∈ kv) : ∃ (i : Nat) (hi : i < kv.length),findI_ kv key=(i : Int)/\kv[i].2=b:=by
 have h1 : findK kv key < kv.length:=find_has.2 (List.mem_map.2 ⟨_,h,rfl⟩)
 have h2 : kv[findK kv key].1=key:=by
   have h9 : ((kv[kv.findIdx fun p => p.1 == key]'h1).1 == key)=true:=List.findIdx_getElem (w:=h1)
   exact eq_of_beq h9
 refine ⟨findK kv key,h1,by unfold findI_; rw [if_pos h1],?_⟩
 refine riseK_uniq hr (key:=key) ?_ h
 have h3:=List.getElem_mem h1
 have e : kv[findK kv key]=(key,kv[findK kv key].2):=Prod.ext h2 rfl
 rw [<- e]; exact h3
theorem treeKV_new (k : Nat) : TreeKV hd1 k [] []:=⟨[],[],[],.inl ⟨rfl,rfl,rfl⟩,.nil,rfl⟩
theorem hd1_okP : hd1.ok:=⟨by decide,by decide,by decide,fun k => (by decide : 0 < 1),fun no hn => by
 have h1 : no < 1:=hn.2
 have h2:=hn.1
 omega⟩
theorem inv_new : Inv hd1 [] ([] ++ []):=by
 refine ⟨hd1_okP,.nil,List.nodup_nil,fun no => ?_⟩
 constructor
 · rintro ⟨h1, h2⟩
   have : no < 1:=h2
   omega
 · intro h; cases h
def OpNew (w0 : World) (e : Ending) (w' : World) : Prop:=∃ gp F,e=.returned (.tuple #[.pointer (some ⟨gp,0,none⟩),.int .i64 0])/\PgAt w' F gp hd1/\Below w0.heap.size w0 w'/\∀ j,F j->w0.heap.size<=j
theorem open_tr (w0 wa wb : World) (gf bm : Nat) (h0 : Below w0.heap.size w0 wa) (hfs : ∀ da la,da ≠ la->FSAt wb wa.heap.size gf bm 60000 0 da la none none) (hB : Below wa.heap.size wa wb) :
   Calls Tryz.prog 7 #[.pointer (some ⟨gf,0,none⟩),.string ⟨#[120]⟩] wb (OpNew w0):=by
 have hf0:=hfs (dbN [120]) (logN [120]) (db_ne [120])
 have hf : FSAt wb 0 gf bm 60000 0 (dbN [120]) (logN [120]) none none:=⟨hf0.st,hf0.mp,hf0.ne,Nat.zero_le _,Nat.zero_le _⟩
 have hg1:=hf0.gB
 have hg2:=hf0.bB
 have hs0:=h0.size
 have hsB:=hB.size
 refine (open_new wb gf bm 60000 0 [120] hf name_d name_l (by decide) (by decide) (by omega) (by omega) (by omega)).mono ?_
 rintro e w2 ⟨gp,gm,gc0,rfl,g1,g2,hbp,him,hFr⟩
 have hb1 : Below w0.heap.size w0 wb:=h0.trans (hB.mono hs0)
 refine ⟨gp,_,rfl,pg_at hbp him,hb1.trans (Only.below hFr (fun k hk => ?_) hb1.size),fun j hj => ?_⟩
 · rcases hk with rfl | rfl | hk <;> omega
 · rcases hj with rfl | rfl <;> omega
theorem tnew_tr (w0 w2 : World) (gp k : Nat) (F : Nat->Prop) (hP : PgAt w2 F gp hd1) (hb : Below w0.heap.size w0 w2) (hF : ∀ j,F j->w0.heap.size<=j) (hk8 : k < 8) :
   Calls Tryz.prog 9 #[.pointer (some ⟨gp,0,none⟩),.int .i64 (k : Int)] w2 fun e w' => ∃ gt,e=.returned (.tuple #[.pointer (some ⟨gt,0,none⟩),.int .i64 0])/\w0.heap.size<=gt/\TrF w0 gt gp k [] 0 F w':=by
 refine (tnew_any w2 gp k hk8).mono ?_
 rintro e w' ⟨rfl,rfl⟩
 refine ⟨w2.heap.size,rfl,hb.size,⟨hd1,[],[],hP.alloc _,treeKV_new k,inv_new,by decide⟩,⟨Blk.new w2 81 _,fun hf => by have:=hP.lt _ hf; omega⟩,hb.alloc hb.size _,hF,Nat.le_refl _,fun p hp => by cases hp⟩
end Go.Proofs.YtiiljlmeililbaaGreatDoor
namespace Go.Proofs.YtiiljlmeililbaaGreatDoor
set_option linter.unusedVariables false
set_option maxRecDepth 100000
open Go.RowKit Go.Maps
set_option maxHeartbeats 4000000 in
theorem treeSeeks_walk (w : World) (A B : Option Addr) (n c m d : Nat) (ks fs : List (List UInt8)) (hA : RowsB w A n c ks) (hB : RowsB w B m d fs) (hc : c<=maxLen) (hd : d<=maxLen) :
   Calls Tryz.prog 3 #[.slice A n c,.slice B m d] w fun e w' => e=.returned (.bool true)/\Below w.heap.size w w':=by
 have hn:=hA.cap
 have hm:=hB.cap
 unfold maxLen at hc hd
 replace hA:=hide hA
 replace hB:=hide hB
 go_enter Tryz.func3,Tryz.ntmps3
 go_wp2_with fail
 refine (wakes_any w).mono ?_
 rintro e w1 ⟨rfl,hB1⟩
 replace hB1:=hide hB1
 by_cases hn1 : 100 < n
 · have l1 : decide (100 < (n : Int)) = true := decide_eq_true (by omega)
   go_wp2_with fail
   go_ret
   exact ⟨rfl,hB1.out⟩
 by_cases hm1 : 20 < m
 · have l1 : decide (100 < (n : Int)) = false := decide_eq_false (by omega)
   have l2 : decide (20 < (m : Int))=true:=decide_eq_true (by omega)
   go_wp2_with fail
   go_ret
   exact ⟨rfl,hB1.out⟩
 have l1 : decide (100 < (n : Int))=false:=decide_eq_false (by omega)
 have l1n : decide (100 < n)=false:=decide_eq_false (by omega)
 have l2 : decide (20 < (m : Int))=false:=decide_eq_false (by omega)
 have l2n : decide (20 < m)=false:=decide_eq_false (by omega)
 have hnew : Hid (Calls Tryz.prog 8 #[.int .i64 60000] w1 (FNewRet w1 60000)):=hide (fnew_any w1 60000 (by omega) (by omega))
 go_wp2_with fail
 refine hnew.out.mono ?_
 rintro e w2 ⟨gf,bm,rfl,hfs,hB2⟩
 have hop:=hide (open_tr w w1 w2 gf bm hB1.out hfs hB2)
 replace hfs : Hid _:=hide hfs
 replace hB2:=hide hB2
 clear hnew
 go_wp2_with fail
 go_at_call 7
 refine hop.out.mono ?_
 rintro e w3 ⟨gp,F3,rfl,hP3,hB3,hU3⟩
 have htn:=hide (tnew_tr w w3 gp 7 F3 hP3 hB3 hU3 (by omega))
 replace hP3:=hide hP3
 replace hB3:=hide hB3
 replace hU3:=hide hU3
 clear hop
 go_wp2_with fail
 go_at_call 9
 refine htn.out.mono ?_
 rintro e w4 ⟨gt,rfl,hgt,hT4⟩
 obtain ⟨w5,hw5⟩ : ∃ w5,w5=w4.alloc (.cells #[.slice none 0 0] 36):=⟨_,rfl⟩
 obtain ⟨gx,hgx⟩ : ∃ gx,gx=w4.heap.size:=⟨_,rfl⟩
 have hS5 : SkF w gt gp gx 7 [] 0 F3 w5:=by
   have hT5:=hT4.below ((Below.refl _ w4).alloc (Nat.le_refl _) (.cells #[.slice none 0 0] 36))
   rw [<- hw5] at hT5
   refine ⟨hT5,⟨⟨0,.slice none 0 0,by rw [hw5,hgx]; exact Blk.new w4 36 _,RefV.nil F3 w5 0⟩,fun hf => by have:=hT4.lt _ hf; omega⟩,by rw [hgx]; exact hT4.bl.size⟩
 have hst : Hid (∃ F kv,SkF w gt gp gx 7 kv 0 F w5):=hide ⟨F3,[],hS5⟩
 replace hT4:=hide hT4
 replace hS5:=hide hS5
 replace hw5:=hide hw5
 replace hgx:=hide hgx
 clear htn
 go_wp2_with fail
 rw [<- hw5.out,<- hgx.out]
 have hnI : (n : Int)<=100:=by omega
 have hgtx : gt ≠ gx:=by
   obtain ⟨F,kv,h⟩:=hst.out
   obtain ⟨B,v,hb,_⟩:=h.r.mem
   exact Blk.ne_ h.t.tr.blk hb (by decide)
 have hgx0 : w.heap.size<=gx:=by obtain ⟨F,kv,h⟩:=hst.out; exact h.gx
 clear hgx
 replace hgtx:=hide hgtx
 go_loopw [47] (fun v47 wx => ∃ i : Nat,v47=.int .i64 (i : Int)/\i<=n/\Hid (∃ F kv,SkF w gt gp gx 7 kv i F wx)) (fun v47 _ => n - (intOf v47).toNat)
 case atStart => exact ⟨0,rfl,by omega,hst⟩
 case round =>
   obtain ⟨i,rfl,hi,hS⟩:=hrel
   obtain ⟨F,kv,hSk⟩:=hS.out
   have hbl:=hSk.t.bl
   clear hst hS
   by_cases hlt : i < n
   · have hlk : i < ks.length := by rw [hA.out.len]; exact hlt
     obtain ⟨ad,kA,kc,rfl,hcell,hkc,hkcm,hkr⟩:=hA.out.at_ hbl i hlk
     obtain ⟨K,hK⟩ : ∃ K,K=ks[i]:=⟨_,rfl⟩
     rw [<- hK] at hcell hkc hkr
     obtain ⟨KL,hKL⟩ : ∃ KL,KL=K.length:=⟨_,rfl⟩
     rw [<- hKL] at hcell hkc hkr
     unfold maxLen at hkcm
     have hiI : (i : Int) < (n : Int):=by omega
     have hnc : (n : Int)<=(c : Int):=by omega
     by_cases h200 : 200 < KL
     · have z1 : decide (200 < (KL : Int)) = true := decide_eq_true (by omega)
       have hdone:=hide hbl
       replace hSk:=hide hSk
       replace hbl:=hide hbl
       replace hkr:=hide hkr
       replace hK:=hide hK
       replace hKL:=hide hKL
       go_wp2_with fail
       go_ret
       exact ⟨rfl,hdone.out⟩
     · have z1 : decide (200 < (KL : Int)) = false := decide_eq_false (by omega)
       have z1n : decide (200 < KL)=false:=decide_eq_false h200
       obtain ⟨V,hV⟩ : ∃ V : Nat,V=i * i % 700:=⟨_,rfl⟩
       have hsq : i * i<=100 * 100:=Nat.mul_le_mul (by omega) (by omega)
       have hsqI : IntKind.i64.wrap ((i : Int) * (i : Int))=(i : Int) * (i : Int):=IntWalk.i64_in _ (by
         have : (i : Int) * (i : Int)=((i * i : Nat) : Int):=by simp
         rw [this]; omega)
       have hVI : ((i : Int) * (i : Int)).tmod 700=(V : Int):=by
         have : (i : Int) * (i : Int)=((i * i : Nat) : Int):=by simp
         rw [this,Int.tmod_eq_emod_of_nonneg (by omega),hV]; omega
       have hlb:=hide (lbytes_any wr V (UInt8.ofNat i) (by omega))
       have hxi : (UInt8.ofNat i).toNat=i:=by rw [UInt8.toNat_ofNat']; omega
       rw [hxi] at hlb
       obtain ⟨VB,hVB⟩ : ∃ VB,VB=bytesL V (UInt8.ofNat i):=⟨_,rfl⟩
       have hVBl : VB.length=V:=by rw [hVB,bytesL_len]
       rw [<- hVB] at hlb
       replace hVB:=hide hVB
       clear hxi
       have hVl : V<=700:=by omega
       replace hSk:=hide hSk
       replace hbl:=hide hbl
       replace hkr:=hide hkr
       replace hK:=hide hK
       replace hKL:=hide hKL
       replace hV:=hide hV
       replace hsq:=hide hsq
       go_wp2_with fail
       go_at_call 10
       try rw [hVI]
       refine hlb.out.mono ?_
       rintro e w6 ⟨g,rfl,hO6,hB6⟩
       have hT6:=hSk.out.t.below hB6
       have hR6:=hSk.out.r.ev (Ev.of_below (F:=F) hB6)
       have hgxr : gx < wr.heap.size:=by obtain ⟨B9,v9,h9,_⟩:=hSk.out.r.mem; exact h9.lt
       have hFl:=hSk.out.t.lt
       have hFu:=hSk.out.t.up
       have hkO : Rd (fun j => j < w.heap.size) w6 1 kA KL (bv K):=hkr.out.keep fun j hj => ⟨hj,hB6.block j (Nat.lt_of_lt_of_le hj hbl.out.size)⟩
       have hk6 : MB F w6 kA KL K:=hkO.keep fun j hj => ⟨⟨Nat.lt_of_lt_of_le hj (Nat.le_trans hbl.out.size hB6.size),fun hf => by have:=hFu j hf; omega⟩,rfl⟩
       have hvO : Rd (fun j => wr.heap.size<=j/\j < w6.heap.size) w6 1 (some ⟨g,0,none⟩) V (bv VB):=Rd.of_own hO6 fun j h1 h2 => ⟨h1,h2⟩
       have hv6 : MB F w6 (some ⟨g,0,none⟩) V VB:=hvO.keep fun j hj => ⟨⟨hj.2,fun hf => by have:=hFl j hf; omega⟩,rfl⟩
       by_cases hgood : 1<=KL/\KL<=120
       · obtain ⟨k1, k2⟩ := hgood
         have hpt:=hide (tr_put hT6 (by omega) (by omega) kA (some ⟨g,0,none⟩) kc V K VB (by rw [<- hKL.out]; exact hk6) (by rw [hVBl]; exact hv6) (by rw [<- hKL.out]; exact k1) (by rw [<- hKL.out]; exact k2) (by rw [hVBl]; omega) (by rw [hVBl]; exact Nat.le_refl _))
         rw [<- hKL.out,hVBl] at hpt
         have hrs:=hT6.rise
         have hsz:=hT6.sz
         have hle:=hT6.le
         replace hT6:=hide hT6
         replace hR6:=hide hR6
         replace hFl:=hide hFl
         replace hFu:=hide hFu
         replace hkO:=hide hkO
         replace hk6:=hide hk6
         replace hvO:=hide hvO
         replace hv6:=hide hv6
         replace hO6:=hide hO6
         replace hB6:=hide hB6
         replace hrs:=hide hrs
         replace hsz:=hide hsz
         replace hle:=hide hle
         clear hlb hVI hsqI
         go_wp2_with fail
         go_at_call 11
         refine hpt.out.mono ?_
         rintro e w7 ⟨rfl,F7,hT7,hE7⟩
         have hrp:=hide (sk_rput K VB hT7 (hR6.out.ev hE7) hgx0 hrs.out (fun p hp => (hsz.out p hp).1) (by omega) (Nat.le_succ_of_le hle.out) kA (some ⟨g,0,none⟩) kc V
           (by rw [<- hKL.out]; exact hkO.out.keep fun j hj => by
                 have h8:=hbl.out.size
                 have h9:=hB6.out.size
                 have hm : Mine F w6 j:=⟨by omega,fun hf => by have:=hFu.out j hf; omega⟩
                 exact ⟨⟨(hE7.mine hm).1,by omega⟩,hE7.block hm⟩)
           (by rw [hVBl]; exact hvO.out.keep fun j hj => by
                 have hm : Mine F w6 j:=⟨hj.2,fun hf => by have:=hFl.out j hf; omega⟩
                 exact ⟨⟨(hE7.mine hm).1,by omega⟩,hE7.block hm⟩)
           (by rw [<- hKL.out]; exact k1) (by rw [<- hKL.out]; exact k2) (by rw [hVBl]; omega))
         rw [<- hKL.out,hVBl] at hrp
         replace hT7:=hide hT7
         replace hE7:=hide hE7
         clear hpt
         go_wp2_with fail
         go_at_call 12
         refine hrp.out.mono ?_
         rintro e w8 ⟨rfl,hS8⟩
         have hrel : Hid (∃ F kv,SkF w gt gp gx 7 kv (i + 1) F w8):=hide ⟨F7,_,hS8⟩
         replace hS8:=hide hS8
         clear hrp
         go_wp2_with fail
         go_roundw
         case rel => exact ⟨i + 1,by go_num,by omega,hrel⟩
         case measure => simp only [intOf]; omega
       · have hbad : KL < 1 \/ 120 < KL := by omega
         have hpb:=hide (put_bad w6 gt kA KL kc (.slice (some ⟨g,0,none⟩) V V) hbad (by unfold maxLen; omega))
         replace hT6:=hide hT6
         replace hR6:=hide hR6
         replace hFl:=hide hFl
         replace hFu:=hide hFu
         replace hkO:=hide hkO
         replace hk6:=hide hk6
         replace hvO:=hide hvO
         replace hv6:=hide hv6
         replace hO6:=hide hO6
         replace hB6:=hide hB6
         clear hlb hVI hsqI
         have hrpb : Hid (∀ wz,Calls Tryz.prog 12 #[.pointer (some ⟨gx,0,none⟩),.slice kA KL kc,.slice (some ⟨g,0,none⟩) V V] wz fun e w' => e=.returned (.int .i64 1)/\wz=w'):=hide fun wz => rput_bad wz gx kA KL kc _ hbad
         clear hgood hbad
         go_wp2_with fail
         go_at_call 11
         refine hpb.out.mono ?_
         rintro e w7 ⟨rfl,hB7⟩
         have hrel : Hid (∃ F kv,SkF w gt gp gx 7 kv (i + 1) F w7):=hide ⟨F,kv,⟨(hT6.out.below hB7).more,hR6.out.ev (Ev.of_below hB7),hgx0⟩⟩
         replace hB7:=hide hB7
         clear hpb
         go_wp2_with fail
         go_at_call 12
         refine (hrpb.out _).mono ?_
         rintro e w8 ⟨rfl,rfl⟩
         clear hrpb
         go_wp2_with fail
         go_roundw
         case rel => exact ⟨i + 1,by go_num,by omega,hrel⟩
         case measure => simp only [intOf]; omega
   · obtain rfl : i = n := by omega
     obtain ⟨v1,wa,A2,c2,wb,hr1,hr2,⟨A1,c1,rfl⟩,hbb,hc2,hLs⟩:=rows_join w wr hbl A B i c m d ks fs hA.out hB.out (by omega) (by omega)
     obtain ⟨ls,hls⟩ : ∃ ls,ls=fs ++ ks:=⟨_,rfl⟩
     obtain ⟨N2,hN2⟩ : ∃ N2,N2=m + i:=⟨_,rfl⟩
     have hlsl : ls.length=N2:=by rw [hls,List.length_append,hA.out.len,hB.out.len,hN2]
     rw [<- hls] at hLs
     rw [<- hN2] at hr2 hc2
     have hst : Hid (∃ F kv,SkF w gt gp gx 7 kv i F wb/\LsAt w (Mine F wb) wb A2 ls):=hide ⟨F,kv,hSk.below hbb,by
       obtain ⟨rows,q1,q2,q3⟩:=hLs
       have hFl:=hSk.t.lt
       exact ⟨rows,q1,q2.keep fun j hj => ⟨⟨hj.2,fun hf => by have:=hFl j hf; omega⟩,rfl⟩,q3⟩⟩
     have hN2I : (N2 : Int)<=200:=by omega
     replace hSk:=hide hSk
     replace hbl:=hide hbl
     replace hbb:=hide hbb
     replace hLs:=hide hLs
     replace hls:=hide hls
     replace hN2:=hide hN2
     go_wp2_with (first | (at_builtin; refine Lib.wpList_append_run _ rfl (.tmp 72) (.tmp 73) 22 22 rfl _ _ rfl rfl _ _ hr1 ?_) | (at_builtin; refine Lib.wpList_append_run _ rfl (.tmp 74) (.tmp 75) 22 22 rfl _ _ rfl rfl _ _ hr2 ?_))
     clear hr1 hr2
     go_loopw [78] (fun v78 wx => ∃ j : Nat,v78=.int .i64 (j : Int)/\j<=N2/\Hid (∃ F kv,SkF w gt gp gx 7 kv i F wx/\LsAt w (Mine F wx) wx A2 ls)) (fun v78 _ => N2 - (intOf v78).toNat)
     case atStart => exact ⟨0,rfl,by omega,hst⟩
     case round =>
       clear hSk hbl hbb hst
       obtain ⟨j,rfl,hj,hS⟩:=hrel
       obtain ⟨F2,kv2,hSk,hLa⟩:=hS.out
       clear hS
       have hbl:=hSk.t.bl
       by_cases hlj : j < N2
       · have hlk : j < ls.length := by rw [hlsl]; exact hlj
         obtain ⟨ad2,kA,kc,rfl,hcell,hkc,hkcm,hkr⟩:=hLa.at_ hbl j hlk
         obtain ⟨K,hK⟩ : ∃ K,K=ls[j]:=⟨_,rfl⟩
         rw [<- hK] at hcell hkc hkr
         obtain ⟨KL,hKL⟩ : ∃ KL,KL=K.length:=⟨_,rfl⟩
         rw [<- hKL] at hcell hkc hkr
         have hjI : (j : Int) < (N2 : Int):=by omega
         have hnc : (N2 : Int)<=(c2 : Int):=by omega
         by_cases h200 : 200 < KL
         · have z1 : decide (200 < (KL : Int)) = true := decide_eq_true (by omega)
           have hdone:=hide hbl
           replace hSk:=hide hSk
           replace hLa:=hide hLa
           replace hbl:=hide hbl
           replace hkr:=hide hkr
           replace hK:=hide hK
           replace hKL:=hide hKL
           go_wp2_with fail
           go_ret
           exact ⟨rfl,hdone.out⟩
         · have z1 : decide (200 < (KL : Int)) = false := decide_eq_false (by omega)
           have z1n : decide (200 < KL)=false:=decide_eq_false h200
           have hFu:=hSk.t.up
           have hk0 : ∀ W F,Below w.heap.size w W->(∀ j,F j->w.heap.size<=j)->MB F W kA KL K:=fun W F hW hF => by
             have h8 : Rd (fun k => k < w.heap.size) w 1 kA KL (bv K):=hkr.keep fun j hj => ⟨hj,(hbl.block j hj).symm⟩
             exact (h8.belowO hW).keep fun j hj => ⟨⟨Nat.lt_of_lt_of_le hj hW.size,fun hf => by have:=hF j hf; omega⟩,rfl⟩
           have hal:=hide (tr_all hSk.t (by omega) (by omega) kA kc K (by rw [<- hKL]; exact hk0 _ _ hbl hFu) (by omega))
           rw [<- hKL] at hal
           obtain ⟨FK,hFK⟩ : ∃ FK,FK=fromK K kv2:=⟨_,rfl⟩
           rw [<- hFK] at hal
           have hR:=hSk.r
           have hrise:=hSk.t.rise
           have hsz:=hSk.t.sz
           have hle2:=hSk.t.le
           have hFKl : FK.length<=200/\∀ p ∈ FK,p ∈ kv2:=by
             rw [hFK]
             unfold fromK
             exact ⟨by rw [List.length_drop]; omega,fun p hp => List.mem_of_mem_drop hp⟩
           replace hSk:=hide hSk
           replace hLa:=hide hLa
           replace hbl:=hide hbl
           replace hkr:=hide hkr
           replace hK:=hide hK
           replace hKL:=hide hKL
           replace hk0 : Hid _:=hide hk0
           replace hFu:=hide hFu
           replace hFK:=hide hFK
           replace hR:=hide hR
           replace hrise:=hide hrise
           replace hsz:=hide hsz
           replace hle2:=hide hle2
           replace hFKl:=hide hFKl
           go_wp2_with fail
           go_at_call 13
           refine hal.out.mono ?_
           rintro e w5 ⟨F5,A5,n5,c5,rfl,hn5,hnc5,hT5,hE5,hP5⟩
           have htg:=hide (tr_get hT5 (by omega) kA kc K (by rw [<- hKL.out]; exact hk0.out _ _ hT5.bl hT5.up))
           rw [<- hKL.out] at htg
           have hR5:=hR.out.ev hE5
           have hLa5:=hLa.out.ev hE5
           replace hn5:=hide hn5
           replace hT5:=hide hT5
           replace hE5:=hide hE5
           replace hP5:=hide hP5
           replace hR5:=hide hR5
           replace hLa5:=hide hLa5
           clear hal
           go_wp2_with fail
           go_at_call 14
           refine htg.out.mono ?_
           rintro e w6 ⟨F6,hT6,hE6,hcase⟩
           have hR6:=hR5.out.ev hE6
           have hLa6:=hLa5.out.ev hE6
           have hP6:=hP5.out.ev hE6
           have hk6:=hk0.out _ _ hT6.bl hT6.up
           have hrf:=hide (rfind_any F6 w6 gx kv2 hR6 (fun p hp => by have:=(hsz.out p hp).1; omega) (by have:=hle2.out; omega) kA KL kc K hk6.rb (by omega))
           clear htg
           rcases hcase with ⟨hno,rfl⟩ | ⟨b,vA,vc,hin,rfl,hmb,hbvc⟩
           · rw [findI_no hno] at hrf
             replace hT6:=hide hT6
             replace hE6:=hide hE6
             replace hR6:=hide hR6
             replace hLa6:=hide hLa6
             replace hP6:=hide hP6
             replace hk6:=hide hk6
             go_wp2_with fail
             go_at_call 15
             refine hrf.out.mono ?_
             rintro e w7 ⟨rfl,hB7⟩
             have hR7:=hR6.out.ev (Ev.of_below (F:=F6) hB7)
             have hfm:=hide (rfrom_any F6 w7 gx kv2 hR7 (fun p hp => by have:=(hsz.out p hp).1; omega) (by have:=hle2.out; omega) kA KL kc K ((hk6.out.ev (Ev.of_below hB7)).rb) (by omega))
             rw [<- hFK.out] at hfm
             replace hR7:=hide hR7
             replace hB7:=hide hB7
             clear hrf
             go_wp2_with fail
             go_at_call 17
             refine hfm.out.mono ?_
             rintro e w8 ⟨A8,n8,c8,rfl,hn8,hnc8,hP8,hB8⟩
             obtain rfl : n8=n5:=hn8.trans hn5.out.symm
             have hB68 : Below w6.heap.size w6 w8:=hB7.out.trans (hB8.mono hB7.out.size)
             have hls2:=hide (lsame_any F6 w8 A5 A8 n8 c5 c8 FK (hP6.out.ev (Ev.of_below hB68)) hP8 hn5.out hnc5 hnc8 (fun p hp => by have:=hsz.out p (hFKl.out.2 p hp); omega) (by have:=hFKl.out.1; omega))
             replace hP8:=hide hP8
             replace hB8:=hide hB8
             replace hB68:=hide hB68
             replace hn8:=hide hn8
             clear hfm
             go_wp2_with fail
             go_at_call 16
             refine hls2.out.mono ?_
             rintro e w9 ⟨rfl,hQ9⟩
             have hB69 : Below w6.heap.size w6 w9:=hB68.out.trans ((hQ9.below w8.heap.size).mono hB68.out.size)
             have hrel : Hid (∃ F kv,SkF w gt gp gx 7 kv i F w9/\LsAt w (Mine F w9) w9 (some ad2) ls):=hide ⟨F6,kv2,⟨hT6.out.below hB69,hR6.out.ev (Ev.of_below hB69),hgx0⟩,hLa6.out.ev (Ev.of_below hB69)⟩
             replace hB69:=hide hB69
             clear hls2 hQ9
             go_wp2_with fail
             go_roundw
             case rel => exact ⟨j + 1,by go_num,by omega,hrel⟩
             case measure => simp only [intOf]; omega
           · obtain ⟨ix, hix, hfi, hval⟩ := findI_yes hrise.out hin
             rw [hfi] at hrf
             obtain ⟨BL,hBL⟩ : ∃ BL,BL=b.length:=⟨_,rfl⟩
             rw [<- hBL] at hmb hbvc ⊢
             have hbl2 : BL<=20000:=by rw [hBL]; exact (hsz.out _ hin).2
             replace hmb:=hide hmb
             replace hin:=hide hin
             replace hval:=hide hval
             replace hBL:=hide hBL
             replace hT6:=hide hT6
             replace hE6:=hide hE6
             replace hR6:=hide hR6
             replace hLa6:=hide hLa6
             replace hP6:=hide hP6
             replace hk6:=hide hk6
             go_wp2_with fail
             go_at_call 15
             refine hrf.out.mono ?_
             rintro e w7 ⟨rfl,hB7⟩
             have hR7:=hR6.out.ev (Ev.of_below (F:=F6) hB7)
             have hfm:=hide (rfrom_any F6 w7 gx kv2 hR7 (fun p hp => by have:=(hsz.out p hp).1; omega) (by have:=hle2.out; omega) kA KL kc K ((hk6.out.ev (Ev.of_below hB7)).rb) (by omega))
             rw [<- hFK.out] at hfm
             replace hR7:=hide hR7
             replace hB7:=hide hB7
             clear hrf
             go_wp2_with fail
             go_at_call 17
             refine hfm.out.mono ?_
             rintro e w8 ⟨A8,n8,c8,rfl,hn8,hnc8,hP8,hB8⟩
             obtain rfl : n8=n5:=hn8.trans hn5.out.symm
             have hB68 : Below w6.heap.size w6 w8:=hB7.out.trans (hB8.mono hB7.out.size)
             have hls2:=hide (lsame_any F6 w8 A5 A8 n8 c5 c8 FK (hP6.out.ev (Ev.of_below hB68)) hP8 hn5.out hnc5 hnc8 (fun p hp => by have:=hsz.out p (hFKl.out.2 p hp); omega) (by have:=hFKl.out.1; omega))
             replace hP8:=hide hP8
             replace hB8:=hide hB8
             replace hB68:=hide hB68
             replace hn8:=hide hn8
             clear hfm
             go_wp2_with fail
             go_at_call 16
             refine hls2.out.mono ?_
             rintro e w9 ⟨rfl,hQ9⟩
             have hB69 : Below w6.heap.size w6 w9:=hB68.out.trans ((hQ9.below w8.heap.size).mono hB68.out.size)
             have hR9:=hR6.out.ev (Ev.of_below (F:=F6) hB69)
             obtain ⟨Bx,vx,hbx,hvx⟩:=hR9.mem
             obtain ⟨xA,xc,rfl,hxc⟩:=hvx.form
             have x0:=hbx.cell 0
             obtain ⟨gr,eA,ec,uA,uc,rfl,p0,p1,hec,huc,hre,hru⟩:=hvx.at_ ix hix
             rw [hval.out,<- hBL.out] at p1 hru
             have hs1:=hide (same_any vA uA BL BL vc uc b b w9 ((hmb.out.ev (Ev.of_below hB69)).rb) hru.rbB (by omega) (by omega))
             rw [decide_eq_true rfl] at hs1
             obtain ⟨NX,hNX⟩ : ∃ NX,NX=kv2.length:=⟨_,rfl⟩
             rw [<- hNX] at x0 hxc hix
             have hixI : (ix : Int) < (NX : Int):=by omega
             have hix0 : decide (0<=(ix : Int))=true:=decide_eq_true (by omega)
             have hxcI : (NX : Int)<=(xc : Int):=by omega
             have hfin : Hid (∀ w10,Qt w9 w10->∃ F kv,SkF w gt gp gx 7 kv i F w10/\LsAt w (Mine F w10) w10 (some ad2) ls):=hide (fun w10 hQ => by
               have hB : Below w6.heap.size w6 w10:=hB69.trans ((hQ.below w9.heap.size).mono hB69.size)
               exact ⟨F6,kv2,⟨hT6.out.below hB,hR6.out.ev (Ev.of_below hB),hgx0⟩,hLa6.out.ev (Ev.of_below hB)⟩)
             replace hB69:=hide hB69
             replace hR9:=hide hR9
             replace hbx:=hide hbx
             replace hvx:=hide hvx
             replace hre:=hide hre
             replace hru:=hide hru
             replace hNX:=hide hNX
             clear hls2 hQ9 hec huc p0
             go_wp2_with fail
             go_at_call 18
             refine hs1.out.mono ?_
             rintro e w10 ⟨rfl,hQ10⟩
             have hrel:=hide (hfin.out w10 hQ10)
             clear hs1 hQ10
             go_wp2_with fail
             go_roundw
             case rel => exact ⟨j + 1,by go_num,by omega,hrel⟩
             case measure => simp only [intOf]; omega
       · obtain rfl : j = N2 := by omega
         have hdone:=hide hbl
         replace hSk:=hide hSk
         replace hLa:=hide hLa
         replace hbl:=hide hbl
         go_wp2_with fail
         go_ret
         exact ⟨rfl,hdone.out⟩
theorem treeSeeks_true (w : World) (A : Option Addr) (n c : Nat) (ks : List (List UInt8)) (hA : RowsB w A n c ks) (hc : c<=maxLen) (B : Option Addr) (m d : Nat) (fs : List (List UInt8)) (hB : RowsB w B m d fs) (hd : d<=maxLen) :
   Calls Tryz.prog 3 #[.slice A n c,.slice B m d] w fun e w' => e=.returned (.bool true)/\Below w.heap.size w w':=treeSeeks_walk w A B n c m d ks fs hA hB hc hd
end Go.Proofs.YtiiljlmeililbaaGreatDoor
